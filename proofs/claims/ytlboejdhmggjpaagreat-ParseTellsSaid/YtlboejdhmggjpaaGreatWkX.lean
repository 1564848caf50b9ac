import Derived.Test.YtlboejdhmggjpaaGreatWkU
set_option linter.all false
namespace Go.Proofs.YtlboejdhmggjpaaGreat.Pp
set_option maxRecDepth 100000
set_option maxHeartbeats 16000000
open Go.RowKit Go.BigFrame Go.Proofs.YtlboejdhmggjpaaGreat
variable {xs : List Value}{e n : Nat}{v : Value}
theorem pV {w:World}{base size : Nat}(h:w.ownsRow base e size v n xs)(hn:0<n):∃g c,v= .slice (some ⟨g,0,none⟩) n c∧base≤g∧g<w.heap.size∧n≤c:=by
 rcases h.2 with⟨rfl,rfl⟩|⟨g,cap,cur,rfl,hb,hg,hnc,_⟩
 ·omega
 ·exact⟨g,cap,rfl,hb,(ψ.1 hg).1,hnc⟩
variable {c m : Nat}{a : Option Addr}
theorem Tv {w:World}{base size : Nat}(h:w.ownsRow base e size (.slice a n c) n xs)(hm:m≤n):w.ownsRow base e size (.slice a m c) m (xs.take (m*size)):=by
 obtain⟨h0,h⟩:=h
 refine⟨by rw[acn,h0];exact agt (age _ hm),?_⟩
 rcases h with⟨h1,rfl⟩|⟨g,cap,cur,h1,hb,hg,h2,h3,h4,h5⟩
 ·cases h1
  exact .inl ⟨by rw[show m=0 by omega],by omega⟩
 ·cases h1
  refine .inr ⟨g,_,cur,rfl,hb,hg,by omega,h3,h4,?_⟩;rw[←h5,List.take_take,agt (age _ hm)]
theorem Om:∀l:List (Bs×Bool),(yn l).length=l.length*3
 |[]=>rfl
 |p::r=>by simp only[yn,Δ,Om r,aaJ,List.length_nil];omega
theorem Tw(l:List (Bs×Bool))(p:Bs×Bool):yn (l++[p]).reverse=yn l.reverse++[.string (au p.1), .int .i64 (mE (jY l p.1)), .int .i64 (mE (some p.2))]:=by
 rw[agm,List.reverse_singleton,afR];rfl
theorem Oo:∀(d a:List (Bs×Bool)),∃t,yn (a++d).reverse=yn a.reverse++t
 |[],a=>⟨[],by rw[List.append_nil,List.append_nil]⟩
 |p::d,a=>by
  obtain⟨t,ht⟩:=Oo d (a++[p]);refine⟨[.string (au p.1), .int .i64 (mE (jY a p.1)), .int .i64 (mE (some p.2))]++t,?_⟩;rw[show a++p::d=(a++[p])++d by simp,ht,Tw,Ψ]
theorem adR(l:List (Bs×Bool))(k:Nat)(hk:k≤l.length):(yn l.reverse).take (k*3)=yn (l.take k).reverse:=by
 obtain⟨t,ht⟩:=Oo (l.drop k) (l.take k)
 rw[acB]at ht
 rw[ht,List.take_left' (by rw[Om,List.length_reverse,acn,agt hk])]
theorem Tx(l:List (Bs×Bool))(i:Nat)(hi:i<l.length):∀j (v:Value),[Value.string (au l[i].1), .int .i64 (mE (jY (l.take i) l[i].1)), .int .i64 (mE (some l[i].2))][j]? =some v→(yn l.reverse)[i*3+j]? =some v:=by
 intro j v hv
 obtain⟨t,ht⟩:=Oo (l.drop (i+1)) (l.take i++[l[i]])
 rw[show(l.take i++[l[i]])++l.drop (i+1)=l by rw[Ψ,afR,←abv hi,acB],Tw]at ht
 have hlen:(yn (l.take i).reverse).length=i*3:=by rw[Om,List.length_reverse,acn,agt η]
 rw[ht,Ψ,acF η,hlen,show i*3+j - i*3=j by omega,afS (by
  refine Nat.lt_of_not_le fun h=>?_
  rw[acO h]at hv
  cases hv)]
 exact hv
structure GZ (E:En) (w:World) (s:Ps) (vd vc vb:Value) (mb:Nat) (Xe:List (Bs×Bool)) (bL:List Nat):Prop where
 lu:Below E.X E.w0 w
 box:w.heap[E.pb]? =some (.cells #[.slice E.la E.L.length E.lc, .int .i64 s.af,vd,E.sp, .map (some mb),vc,vb] 75 (0,0))
 dn:w.ownsRow E.X 38 4 vd s.done.length (s.done.flatMap jX)
 ch:w.ownsRow E.X 132 3 vc s.nm.ch.length (yn s.nm.ch.reverse)
 bl:w.ownsRow E.X 3 1 vb bL.length (bL.flatMap AY)
 mp:Nm w mb Xe
 mx:E.X≤mb
 le:s.af≤E.L.length
 tx:∀p∈s.nm.ch,p.1.length≤maxLen
 cb:s.nm.ch.length≤2*E.L.length+1
 bb:bL.length≤2*E.L.length+2
variable {E : En}{Xe : List (Bs×Bool)}{bL : List Nat}{mb : Nat}{s : Ps}{vb vc vd : Value}{w' : World}
theorem GZ.ext {w : World}(h:GZ E w s vd vc vb mb Xe bL)(hE:E.ok)(hm:Below w.heap.size w w'):GZ E w' s vd vc vb mb Xe bL where
 lu:=h.lu.trans (hm.mono (by have:=h.lu.size;rw[hE.X];exact this))
 box:=aF hm h.box (ψ.1 h.box).1
 dn:=gI h.dn hm
 ch:=gI h.ch hm
 bl:=gI h.bl hm
 mp:=h.mp.ext hm
 mx:=h.mx
 le:=h.le
 tx:=h.tx
 cb:=h.cb
 bb:=h.bb
theorem GZ.ajL {w:World}(h:PX E w s vd vc (.slice a n c) mb)(hE:E.ok)(hn:s.nm.bl.length=n):
 GZ E (w.setCell ⟨E.pb,6,none⟩ (.slice a (n - 1) c)) s vd vc (.slice a (n - 1) c) mb s.nm.ch s.nm.bl.dropLast∧KP w (w.setCell ⟨E.pb,6,none⟩ (.slice a (n - 1) c)):=by
 refine⟨{lu:=h.lu.setCell hE.pb _,box:=?_,dn:=iJ h.box ζ h.dn,ch:=iJ h.box ζ h.ch,bl:=?_,mp:=h.mp.set h.box,mx:=h.mx,le:=h.le,tx:=h.tx,cb:=h.cb,bb:=by have:=h.bb;rw[List.length_dropLast];omega},KP.set h.box rfl⟩
 ·have:=gJ (i:=6) (v:= .slice a (n - 1) c) h.box;simpa using this
 ·have hb:=h.bl
  rw[hn]at hb;have:=Tv hb (Nat.sub_le n 1)
  have e:(s.nm.bl.flatMap AY).take ((n - 1)*1)=s.nm.bl.dropLast.flatMap AY:=by
   rw[List.dropLast_eq_take,hn,afF];generalize s.nm.bl=l;generalize n - 1=q
   induction l generalizing q with
   |nil=>simp
   |cons x l ih=>cases q with
    |zero=>simp
    |succ q=>simp[AY]at ih⊢;exact ih q
  rw[e]at this
  have hl:s.nm.bl.dropLast.length=n - 1:=by rw[List.length_dropLast,hn]
  rw[hl];exact iJ h.box ζ this
variable {ajM : List (Bs×Bool)}
theorem GZ.abA {w : World}(h:GZ E w s vd vc vb mb Xe bL)(hE:E.ok)(hg:w.grownBy w' (some mb))(hm:Nm w' mb ajM):GZ E w' s vd vc vb mb ajM bL∧KP w w':=by
 have hst:∀(k:Nat) (cs:Array Value) (t:TypeId) (fz:Nat×Nat),w.heap[k]? =some (.cells cs t fz)→w'.heap[k]? =some (.cells cs t fz):=fun k cs t fz hk=>by
  obtain⟨n,D,⟨es,c,hmm,_⟩,_⟩:=h.mp
  rw[hg.block k (ψ.1 hk).1 (fun q=>by
   cases q;rw[hmm]at hk
   cases hk)]
  exact hk
 have hXm:=h.mx
 have hX:E.X≤w.heap.size:=by have:=h.lu.size;rw[hE.X];exact this
 exact⟨{lu:=h.lu.trans ⟨hg.os,hg.tape,hg.output,hg.size,fun k hk=>hg.block k η (fun q=>by cases q;omega)⟩,box:=hst _ _ _ _ h.box,dn:=fq h.dn fun g cur hq=>hst _ _ _ _ hq,ch:=fq h.ch fun g cur hq=>hst _ _ _ _ hq,bl:=fq h.bl fun g cur hq=>hst _ _ _ _ hq,mp:=hm,mx:=hXm,le:=h.le,tx:=h.tx,cb:=h.cb,bb:=h.bb},⟨hg.size,fun k cs t fz _ hk=>hst _ _ _ _ hk,fun k x hk=>by
  obtain⟨n,D,⟨es,c,hmm,_⟩,_⟩:=h.mp
  rw[hg.block k (ψ.1 hk).1 (fun q=>by
   cases q;rw[hmm]at hk
   cases hk)]
  exact hk⟩⟩
theorem GZ.done {w:World}{k : Nat}(h:GZ E w s vd (.slice a n c) vb mb (s.nm.ch.take k) bL)(hE:E.ok)(hn:s.nm.ch.length=n)(hk:k≤n):
 PX E (w.setCell ⟨E.pb,5,none⟩ (.slice a k c)) {s with nm:=⟨s.nm.ch.take k,bL⟩} vd (.slice a k c) vb mb∧KP w (w.setCell ⟨E.pb,5,none⟩ (.slice a k c)):=by
 refine⟨{lu:=h.lu.setCell hE.pb _,box:=?_,dn:=iJ h.box ζ h.dn,ch:=?_,bl:=iJ h.box ζ h.bl,mp:=h.mp.set h.box,mx:=h.mx,le:=h.le,tx:=fun p hp=>h.tx p (List.mem_of_mem_take hp),cb:=by have:=h.cb;show(s.nm.ch.take k).length≤_;rw[acn];omega,bb:=h.bb},KP.set h.box rfl⟩
 ·have:=gJ (i:=5) (v:= .slice a k c) h.box;simpa using this
 ·have hb:=h.ch
  rw[hn]at hb;have:=Tv hb hk;rw[adR _ _ η]at this
  have hl:(s.nm.ch.take k).length=k:=by rw[acn];omega
  show(w.setCell ⟨E.pb,5,none⟩ (.slice a k c)).ownsRow E.X 132 3 (.slice a k c) (s.nm.ch.take k).length (yn (s.nm.ch.take k).reverse);rw[hl];exact iJ h.box ζ this
theorem Le (hE:E.ok)(s:Ps)(w:World)(hp:PW E w s)(hne:eO s≠ .out):Calls Tryz.prog 88 #[.pointer (some ⟨E.pb,3,none⟩)] w (fO E Px w (eO s)):=by
 obtain⟨k,hk1,hk2⟩:∃k,s.nm.bl.getLast? =some k∧k≤s.nm.ch.length:=by
  unfold eO at hne
  cases h:s.nm.bl.getLast? with
  |none=>rw[h]at hne;exact absurd rfl hne
  |some k=>
   rw[h]at hne;by_cases hc:k≤s.nm.ch.length
   ·exact⟨k,rfl,hc⟩
   ·exact absurd (χ hc) hne
 have hr:eO s= .ok () {s with nm:=⟨s.nm.ch.take k,s.nm.bl.dropLast⟩}:=by
  unfold eO;rw[hk1];simp only[hk2,if_true];unfold Ns.oN;rw[hk1];rfl
 rw[hr]
 clear hne hr
 obtain⟨vd,vc,vb,mb,hx⟩:=hp
 have hcl:s.nm.ch.length≤1000000:=by have:=hx.cb;have:=hE.len;omega
 have hbl:s.nm.bl.length≤1000000:=by have:=hx.bb;have:=hE.len;omega
 have hm0:0<s.nm.bl.length:=by
  cases h:s.nm.bl with
  |nil=>rw[h]at hk1;cases hk1
  |cons a l=>simp
 obtain⟨gb,cb,rfl,hgX,axC,hcb⟩:=pV hx.bl hm0
 obtain⟨ca,cc,rfl⟩:=fF hx.ch
 obtain⟨m,hm⟩:∃m,s.nm.bl.length=m:=⟨_,rfl⟩
 obtain⟨n,hn⟩:∃n,s.nm.ch.length=n:=⟨_,rfl⟩
 have hbx:=hx.box
 have adS:=hx.bl
 rw[hm]at hbx hm0 adS hbl hcb
 rw[hn]at hbx hk2 hcl
 have hkc:w.cell? ⟨gb,m - 1,none⟩=some (.int .i64 k):=by
  rw[adS.cellAt _ η];have hl:=List.getLast?_eq_some_iff.1 hk1;obtain⟨ys,hys⟩:=hl
  have hyl:ys.length=m - 1:=by rw[←hm,hys];simp
  rw[hys];rw[show(ys++[k]).flatMap AY=ys.flatMap AY++[.int .i64 k] by simp[AY]]
  have hfl:∀l:List Nat,(l.flatMap AY).length=l.length:=fun l=>by induction l with|nil=>rfl|cons a l ih=>simp[AY,ih]
  rw[acF (by rw[hfl];omega),hfl,hyl,Nat.sub_self];rfl
 have c6:w.cell? ⟨E.pb,6,none⟩=some (.slice (some ⟨gb,0,none⟩) m cb):=by simp[World.cell?,hbx]
 have n1:((m:Int) - 1).toNat=m - 1:=by omega
 have n2:(0:Int)≤(m:Int) - 1:=by omega
 have n3:((m:Int) - 1)<(m:Int):=by omega
 have n4:((m:Int) - 1)≤(cb:Int):=by omega
 have HX:=Hh hx
 have HBX:=Hh hbx
 have HM:=Hh hm
 have J9:=Hh hn
 have eQ:=Hh hk2
 have mF:=Hh hk1
 clear hx hbx adS hm hn hk1 hk2
 go_enter Tryz.func88,Tryz.ntmps88
 go_wp2_with fail
 go_quiet (fail)
 go_wp2_with fail
 obtain⟨W1,hW1⟩:∃W1,W1=w.drewN nq:=⟨_,rfl⟩
 have hb1:Below w.heap.size w W1:=by rw[hW1];exact gz _ _ _
 rw[←hW1]
 clear hW1
 have e6:W1.cell? ⟨E.pb,6,none⟩=some (.slice (some ⟨gb,0,none⟩) m cb):=by have q:=aF hb1 HBX.out (ψ.1 HBX.out).1;simp[World.cell?,q]
 have f6:W1.frozen? ⟨E.pb,6,none⟩=false:=ab7 (aF hb1 HBX.out (ψ.1 HBX.out).1) 6
 refine jq (C:=fun w'=>∃n,w'=W1.drewN n) 14 (by kernel_rfl) (by kernel_rfl) ⟨1,rfl⟩ ?_
 simp only[List.take_succ_cons,List.take_zero,List.drop_succ_cons,List.drop_zero]
 repeat(go_big_quiet_step (fail))
 refine abO ?_
 rintro w' ⟨nr,rfl⟩
 obtain⟨W2,hW2⟩:∃W2,W2=W1.drewN nr:=⟨_,rfl⟩
 have hb2:Below w.heap.size w W2:=by rw[hW2];exact hb1.trans ((gz _ _ _))
 rw[←hW2]
 clear hW2
 have hx2:=HX.out.ext hE hb2
 rw[HM.out,J9.out]at hx2
 have e62:W2.cell? ⟨E.pb,6,none⟩=some (.slice (some ⟨gb,0,none⟩) m cb):=hx2.cell.2.2.2.2.2.2
 have f62:W2.frozen? ⟨E.pb,6,none⟩=false:=ab7 hx2.box 6
 have e52:W2.cell? ⟨E.pb,5,none⟩=some (.slice ca n cc):=hx2.cell.2.2.2.2.2.1
 obtain⟨acX,ajN⟩:=GZ.ajL hx2 hE HM.out
 have HCL:=Hh acX
 have HKP:=Hh ((KP.aT hb2).trans ajN)
 clear acX ajN hx2 hb1 hb2 e6 f6
 go_wp2_with fail
 go_loopg [3] n (fun g s3 wr=>∃j:Nat,k≤j∧j≤n∧j≤k+g∧s3= .int .i64 ((j:Int) - 1)∧GZ E wr s vd (.slice ca n cc) (.slice (some ⟨gb,0,none⟩) (m - 1) cb) mb (s.nm.ch.take j) s.nm.bl.dropLast∧KP w wr)
 case atStart=>exact⟨n,eQ.out,υ _,by omega,by go_num,by rw[ab1 (by rw[J9.out];exact υ _)];exact HCL.out,HKP.out⟩
 case round=>
  obtain⟨j,hj1,hj2,hj3,rfl,IB,hkp3⟩:=hrel;have HC3:=Hh IB;have ji:=Hh hkp3;have IC:=IB.box
  have c5:wr.cell? ⟨E.pb,5,none⟩=some (.slice ca n cc):=by simp[World.cell?,IC]
  have c4:wr.cell? ⟨E.pb,4,none⟩=some (.map (some mb)):=by simp[World.cell?,IC]
  by_cases hlt:k<j
  ·obtain⟨i,rfl⟩:∃i,j=i+1:=⟨j - 1,by omega⟩
   have hki:k≤i:=by omega
   have hjn:i<s.nm.ch.length:=by rw[J9.out];omega
   obtain⟨q,hq⟩:∃q,s.nm.ch[i]'hjn=q:=⟨_,rfl⟩;have hrow:=IB.ch;rw[J9.out]at hrow;obtain⟨gc,cc',hsl,hgc,hgl,hnc⟩:=pV hrow η;cases hsl;have hat:=Tx s.nm.ch i hjn;rw[hq]at hat
   have hin:i<n:=by omega
   have a0:wr.cell? ⟨gc,i*3,none⟩=some (.string (au q.1)):=by rw[hrow.cellAt _ η];exact hat 0 _ rfl
   have a1:wr.cell? ⟨gc,i*3+1,none⟩=some (.int .i64 (mE (jY (s.nm.ch.take i) q.1))):=by rw[hrow.cellAt _ η];exact hat 1 _ rfl
   have a2:wr.cell? ⟨gc,i*3+2,none⟩=some (.int .i64 (mE (some q.2))):=by rw[hrow.cellAt _ η];exact hat 2 _ rfl
   have hqm:q∈s.nm.ch:=by rw[←hq];exact ab2 hjn
   have Xf:=IB.tx q hqm
   have htk:s.nm.ch.take (i+1)=s.nm.ch.take i++[q]:=by rw[List.take_add_one,abE hjn,hq];rfl
   obtain⟨b2,hb2⟩:∃b2,mE (some q.2)=b2:=⟨_,rfl⟩;obtain⟨st,hst⟩:∃st:ByteArray,au q.1=st:=⟨_,rfl⟩;rw[hb2]at a2;rw[hst]at a0
   have i1:(k:Int)≤i:=by omega
   have i2:(i:Int)<n:=by omega
   have i3:(i:Int)<1000000∨True:= .inr trivial;have i4:n≤1000000:=hcl;have HST:=Hh hst;have HQX:=Hh Xf;have Ka:=Hh htk;have HX0:=HC3.out.mx
   have Ty:∀y,jY (s.nm.ch.take (i+1)) y=if q.1=y then some q.2 else jY (s.nm.ch.take i) y:=fun y=>by rw[htk,Py]
   have HMN:=Hh Ty;have h7:i+1 - 1=i:=rfl
   cases hN:jY (s.nm.ch.take i) q.1 with
   |none=>
    rw[hN]at a1;simp only[mE]at a1
    have hcc:∀y,jY (s.nm.ch.take i) y=if q.1=y then none else jY (s.nm.ch.take (i+1)) y:=fun y=>by
     rw[Ty y];by_cases e:q.1=y
     ·rw[ω e,←e,hN]
     ·rw[χ e,χ e]
    have HCC:=Hh hcc;clear IB hkp3 IC hrow hat hq hqm Xf htk hst Ty hcc hN hb2 hlt hj1 i3 hgc
    go_wp2_with fail
    obtain⟨W4,jB⟩:∃W4,W4=wr.alloc (.cells #[.string st, .int .i64 0, .int .i64 b2] 132):=⟨_,rfl⟩
    have hb4:Below wr.heap.size wr W4:=by rw[jB];exact ag _ _
    have hr4:W4.heap[wr.heap.size]? =some (.cells #[.string st, .int .i64 0, .int .i64 b2] 132 (0,0)):=by rw[jB];exact dz _ _ _
    rw[←jB];clear jB;have HC4:=Hh (HC3.out.ext hE hb4);have qo:=Hh (ji.out.trans (KP.aT hb4));obtain⟨mm,hmm⟩:∃mm,wr.heap.size=mm:=⟨_,rfl⟩;rw[hmm]at hr4⊢
    have g4:W4.cell? ⟨E.pb,4,none⟩=some (.map (some mb)):=by have q:=HC4.out.box;simp[World.cell?,q]
    have gm:W4.cell? ⟨mm,0,none⟩=some (.string st):=by simp[World.cell?,hr4]
    have gm1:W4.cell? ⟨mm,1,none⟩=some (.int .i64 0):=by simp[World.cell?,hr4]
    clear hb4 hr4 hmm c4 c5 a0 a1 a2;refine jq (C:=fun w'=>∃n,w'=W4.drewN n) 6 (by kernel_rfl) (by kernel_rfl) ⟨1,rfl⟩ ?_;simp only[List.take_succ_cons,List.take_zero,List.drop_succ_cons,List.drop_zero]
    repeat(go_big_quiet_step (fail))
    refine abO ?_;rintro w' ⟨nt,rfl⟩;have Tz:=HC4.out.ext hE (gz _ _ nt);obtain⟨w6,hrun,hm6,hg6⟩:=Tz.mp.drop (ch':=s.nm.ch.take i) q.1 HQX.out 0 HCC.out;rw[HST.out]at hrun;have Gg:=Hh hrun;obtain⟨TA,uA⟩:=Tz.abA hE hg6 hm6;have HC6:=Hh TA;have Ba:=Hh ((qo.out.trans (KP.aT (gz _ _ nt))).trans uA);clear Tz hm6 hg6 TA uA Gg
    go_wp2_with fail
    go_roundg (gk - 1)
    case measure=>omega
    case rel=>exact⟨i,hki,by omega,by omega,by go_num,HC6.out,Ba.out⟩
   |some c=>
    rw[hN]at a1;obtain⟨Z,hZ⟩:∃Z,mE (some c)=Z:=⟨_,rfl⟩
    have hZ0:(Z==0)=false:=by rw[←hZ];cases c<;>rfl
    have HZ:=Hh hZ;rw[hZ]at a1
    have hcc:∀y,jY (s.nm.ch.take i) y=if q.1=y then some c else jY (s.nm.ch.take (i+1)) y:=fun y=>by
     rw[Ty y];by_cases e:q.1=y
     ·rw[ω e,←e,hN]
     ·rw[χ e,χ e]
    have HCC:=Hh hcc;clear IB hkp3 IC hrow hat hq hqm Xf htk hst Ty hcc hN hb2 hlt hj1 i3 hgc hZ
    go_wp2_with fail
    obtain⟨W4,jB⟩:∃W4,W4=wr.alloc (.cells #[.string st, .int .i64 Z, .int .i64 b2] 132):=⟨_,rfl⟩
    have hb4:Below wr.heap.size wr W4:=by rw[jB];exact ag _ _
    have hr4:W4.heap[wr.heap.size]? =some (.cells #[.string st, .int .i64 Z, .int .i64 b2] 132 (0,0)):=by rw[jB];exact dz _ _ _
    rw[←jB];clear jB;have HC4:=Hh (HC3.out.ext hE hb4);have qo:=Hh (ji.out.trans (KP.aT hb4));obtain⟨mm,hmm⟩:∃mm,wr.heap.size=mm:=⟨_,rfl⟩;rw[hmm]at hr4⊢
    have g4:W4.cell? ⟨E.pb,4,none⟩=some (.map (some mb)):=by have q:=HC4.out.box;simp[World.cell?,q]
    have gm:W4.cell? ⟨mm,0,none⟩=some (.string st):=by simp[World.cell?,hr4]
    have gm1:W4.cell? ⟨mm,1,none⟩=some (.int .i64 Z):=by simp[World.cell?,hr4]
    clear hb4 hr4 hmm c4 c5 a0 a1 a2;refine jq (C:=fun w'=>∃n,w'=W4.drewN n) 8 (by kernel_rfl) (by kernel_rfl) ⟨1,rfl⟩ ?_;simp only[List.take_succ_cons,List.take_zero,List.drop_succ_cons,List.drop_zero]
    repeat(go_big_quiet_step (fail))
    refine abO ?_;rintro w' ⟨nt,rfl⟩;have Tz:=HC4.out.ext hE (gz _ _ nt);obtain⟨w6,hrun,hm6,hg6⟩:=Tz.mp.store (ch':=s.nm.ch.take i) q.1 c HQX.out (by rw[acn];omega) HCC.out;rw[HZ.out]at hrun;rw[HST.out]at hrun;have Gg:=Hh hrun;obtain⟨TA,uA⟩:=Tz.abA hE hg6 hm6;have HC6:=Hh TA;have Ba:=Hh ((qo.out.trans (KP.aT (gz _ _ nt))).trans uA);clear Tz hm6 hg6 TA uA Gg
    go_wp2_with fail
    go_roundg (gk - 1)
    case measure=>omega
    case rel=>exact⟨i,hki,by omega,by omega,by go_num,HC6.out,Ba.out⟩
  ·have hjk:j=k:=by omega
   subst hjk
   have h1:¬(j:Int)≤(j:Int) - 1:=by omega
   have f5:wr.frozen? ⟨E.pb,5,none⟩=false:=ab7 IC 5;have hrow:=IB.ch;rw[J9.out]at hrow
   have hcap:n≤cc:=by
    rcases hrow.2 with⟨e,e0⟩|⟨g,cap,cur,e,_,_,q,_⟩
    ·omega
    ·cases e;exact q
   have i1:(j:Int)≤cc:=by omega
   have i2:(0:Int)≤j:=by omega
   clear IB hkp3 IC hrow hj1 hj3 hlt
   go_wp2_with fail
   obtain⟨q1,q2⟩:=HC3.out.done hE J9.out hj2;exact⟨rfl, .tuple #[],by simp[results,Tryz.results88,go_sem],rfl,⟨_,_,_,_,q1⟩,ji.out.trans q2⟩
end Go.Proofs.YtlboejdhmggjpaaGreat.Pp
