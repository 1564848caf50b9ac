import Derived.Test.YtlboejdhmggjpaaGreatXbC
set_option linter.all false
namespace Go.Proofs.YtlboejdhmggjpaaGreat.Pp.Dr
set_option maxRecDepth 100000
set_option maxHeartbeats 800000
open Go.RowKit Go.BigFrame Go.Proofs.YtlboejdhmggjpaaGreat
variable {g : List Value}{T : Nat→Prop}{y : Sy}
theorem tX.aj {w:World}(h:tX T w y g):∃(K:Int) (t:ByteArray) (a:Option Addr) (n c:Nat),g=[.int .i64 K, .string t, .slice a n c]:=by
 cases y with
 |tx t=>exact⟨_,_,_,_,_,h⟩
 |nm t=>exact⟨_,_,_,_,_,h⟩
 |dO a=>obtain⟨v,gs,rfl,h2, -⟩:=h;obtain⟨a,k,c,rfl⟩:=h2.aj;exact⟨_,_,_,_,_,rfl⟩
 |bV a=>obtain⟨v,gs,rfl,h2, -⟩:=h;obtain⟨a,k,c,rfl⟩:=h2.aj;exact⟨_,_,_,_,_,rfl⟩
 |jy a=>obtain⟨v,gs,rfl,h2, -⟩:=h;obtain⟨a,k,c,rfl⟩:=h2.aj;exact⟨_,_,_,_,_,rfl⟩
theorem zx.at{T:Nat→Prop}{w:World}{a:Option Addr}{k c i:Nat}{l:List Sy}(h:zx T w (.slice a k c) l)(hi:i<l.length):∃b off K t a' k' c',a=some ⟨b,off,none⟩∧(∀u:df w,u.w.cell? ⟨b,off+i*3,none⟩=some (.int .i64 K)∧u.w.cell? ⟨b,off+i*3+1,none⟩=some (.string t)∧u.w.cell? ⟨b,off+i*3+2,none⟩=some (.slice a' k' c'))∧tX T w l[i] [.int .i64 K, .string t, .slice a' k' c']:=by
 obtain⟨gs,h1,h2⟩:=h
 obtain⟨g,g1,hg⟩:=h2.get i hi
 obtain⟨-,b,off,rfl,hS,hl,hc⟩:=h1.get g1
 obtain⟨K,t,ai,ki,ci,rfl⟩:=hg.aj
 exact⟨b,off,K,t,ai,ki,ci,rfl,fun u=>⟨u.cell (hc 0 _ rfl),u.cell (hc 1 _ rfl),u.cell (hc 2 _ rfl)⟩,hg⟩
theorem dS.at{T:Nat→Prop}{w:World}{a:Option Addr}{k c i:Nat}{xs:List Sx}(h:dS T w (.slice a k c) xs)(hi:i<xs.length):∃b off aE nE cE aK nK cK aC nC cC,a=some ⟨b,off,none⟩∧(∀u:df w,u.w.cell? ⟨b,off+i*5,none⟩=some (.int .i64 xs[i].af)∧u.w.cell? ⟨b,off+i*5+1,none⟩=some (.slice aE nE cE)∧u.w.cell? ⟨b,off+i*5+2,none⟩=some (.slice aK nK cK)∧u.w.cell? ⟨b,off+i*5+3,none⟩=some (.bool xs[i].ty)∧u.w.cell? ⟨b,off+i*5+4,none⟩=some (.slice aC nC cC))∧fJ T w xs[i] [.int .i64 xs[i].af, .slice aE nE cE, .slice aK nK cK, .bool xs[i].ty, .slice aC nC cC]:=by
 obtain⟨gs,h1,h2⟩:=h
 obtain⟨g,g1,hg⟩:=h2.get i hi
 obtain⟨-,b,off,rfl,hS,hl,hc⟩:=h1.get g1
 obtain⟨aE,nE,cE,aK,nK,cK,aC,nC,cC,rfl, -⟩:=hg.aj
 exact⟨b,off,_,_,_,_,_,_,_,_,_,rfl,fun u=>⟨u.cell (hc 0 _ rfl),u.cell (hc 1 _ rfl),u.cell (hc 2 _ rfl),u.cell (hc 3 _ rfl),u.cell (hc 4 _ rfl)⟩,hg⟩
def wo(T:Nat→Prop)(v:Value)(b:Nat):Prop:=T b∨v.ownBlock=some b
theorem xP{T:Nat→Prop}{w:World}{v:Value}:To T w (wo T v) w:= .mono fun _ h _=> .inl h
variable {xs : List Sx}{S : Nat→Prop}{v : Value}
theorem dW.lF {w0 w:World}(o:dW T w0.heap.size w v xs)(p:Pw S w0 T w):Pw S w0 (wo T v) w∧dS (wo T v) w v xs:=by
 obtain⟨gs,h1,h2⟩:=o
 refine⟨⟨fun b hb=>hb.elim (p.lt b) fun h=>(World.ownsRow.lt h1.row b h).2,fun b hb=>hb.elim (p.up b) fun h=> .inr (World.ownsRow.lt h1.row b h).1,p.be,fun b h hl=> .inl (p.sub b h hl)⟩,gs,h1.rw fun b hb=> .inr hb,pX.to xP h2⟩
variable {L : List Ct}{n : Nat}
theorem fE {q:Rq}(h:aS L n q=some xs):BJ L q∧okO L q xs:=by
 obtain⟨m, -,h1, -,h2⟩:=fB h
 exact⟨h1,h2⟩
variable {ss : List Sx}{f : Nat}
theorem aeG {r:List Sy}(h:aS L n (.seq (y::r) f ss)=some xs):∃m z,m<n∧bu (fun s=>aS L m (.ay y s f)) ss=some z∧z.length≤1000∧aS L m (.seq r f z)=some xs:=by
 obtain⟨m,rfl, -,h1, -⟩:=fB h
 obtain⟨z,h2,h3⟩:=Γ.1 h1
 obtain⟨z',h4,h5⟩:=Γ.1 h2
 obtain⟨rfl,hl⟩:=eU h5
 exact⟨m,z',aar _,h4,hl,h3⟩
theorem dS.ay{T:Nat→Prop}{m:Nat}{w:World}{x:Sx}{g:List Value}(t:TypeId)(hm:w.heap.size=m)(h:fJ T w x g):dS (gr T w (w.alloc (.cells g.toArray t))) (w.alloc (.cells g.toArray t)) (.slice (some ⟨m,0,none⟩) 1 1) [x]:=⟨[g],Rw.kJ t hm ⟨by subst hm;simp, .inr η⟩ h.ay,g,[],rfl,h.to (aH (ag _ _)),rfl⟩
variable {s : Sx}{vr : Value}
theorem Cx.box {gb:Nat}{w:World}(hx:Cx gb L vr S w s g):∃T,Pw S w T (w.alloc (.cells g.toArray 51))∧Bx T (w.alloc (.cells g.toArray 51)) w.heap.size g∧fJ T (w.alloc (.cells g.toArray 51)) s g:=
 ⟨_,(Pw.start hx.lt).call (ag w _),Bx.new rfl g 51,hx.st.to (aH (ag _ _))⟩
theorem Pw.fw{S T:Nat→Prop}{w0 w:World}(p:Pw S w0 T w):To T w (gr S w0 w) w:= .mono fun b hb hl=>⟨hl,p.up b hb⟩
variable {XS : List Sx}{vl : Value}
theorem alz {gb:Nat}(ih:∀m,m<n→Wd gb L vr m){w:World}{yl:List Sy}(hx:Cx gb L vr S w s g)(hy:zx S w vl yl)(h:aS L n (.seq yl s.af [s])=some XS):Calls Tryz.prog 64 #[gP gb,vl, .agg g.toArray] w (Ps S w XS):=by
 obtain⟨a,k,c,rfl⟩:=hy.choose_spec.1.aj
 obtain⟨hk,hk2⟩:=hy.len
 obtain⟨aE,nE,cE,aK,nK,cK,aC,nC,cC,rfl, -⟩:=hx.st.aj
 obtain⟨T0,hp0,hbx0,hs0⟩:=hx.box
 have hrow:=dS.ay 51 rfl hs0
 have hb1:=ag (w.alloc (.cells #[.int .i64 s.af, .slice aE nE cE, .slice aK nK cK, .bool s.ty, .slice aC nC cC] 51)) (.cells #[.int .i64 s.af, .slice aE nE cE, .slice aK nK cK, .bool s.ty, .slice aC nC cC] 51)
 have hp1:=hp0.call hb1
 have wE:=hbx0.to (aH hb1)
 obtain⟨m0,hm⟩:∃m,w.heap.size=m:=⟨_,rfl⟩
 have HM:=π hm
 have HK:=π hk
 have H1:=π h
 rw[hm]at wE
 clear h hk hb1 hp0 hbx0
 unfold Ps
 go_enter Tryz.func64,Tryz.ntmps64
 go_wp2_with fail
 go_loopw [7,8,9,10,11] (fun s7 s8 s9 s10 s11 wr=>∃(i:Nat) (T:Nat→Prop) (xs:List Sx) (m:Nat),s8= .int .i64 i∧i≤k∧Pw S w T wr∧dS T wr s7 xs∧Bx T wr m0 [.int .i64 s.af, .slice aE nE cE, .slice aK nK cK, .bool s.ty, .slice aC nC cC]∧m≤n∧aS L m (.seq (yl.drop i) s.af xs)=some XS) (fun _ s8 _ _ _ _=>k - (intOf s8).toNat)
 case atStart=>exact⟨0,_,[s],n,rfl,Ω _,hp1,by simpa[hm]using hrow,wE,υ _,H1.out⟩
 case round=>
  obtain⟨i,T,xs,m,rfl,hik,hp,hst,hbx,hmn,hd⟩:=hrel;obtain⟨a7,k7,c7,rfl⟩:=hst.aj;by_cases hlt:i<k
  case pos=>
   have hi:i<yl.length:=by rw[←HK.out];exact hlt
   rw[abv hi]at hd;obtain⟨m',Z,hm',hz,XD,hd2⟩:=aeG hd;obtain⟨hk7,axO⟩:=hst.len;have h1:decide (i<k)=true:=aa4 hlt;obtain⟨wo,hwo⟩:∃W,W=wr:=⟨_,rfl⟩;rw[←hwo]at hp hst hbx⊢;have HWO:=π hwo;have HZ:=π hz;have HD2:=π hd2;have Mx:=π hk7;clear hd hz hd2 hk7 hwo
   go_wp2_with fail
   go_loopw [9,10,11] (fun s9 s10 s11 wr=>∃(j:Nat) (T:Nat→Prop) (ys zr:List Sx),s10= .int .i64 j∧j≤k7∧Pw S w T wr∧dW T w.heap.size wr s9 ys∧dS T wr (.slice a7 k7 c7) xs∧Bx T wr m0 [.int .i64 s.af, .slice aE nE cE, .slice aK nK cK, .bool s.ty, .slice aC nC cC]∧bu (fun x=>aS L m' (.ay yl[i] x s.af)) (xs.drop j)=some zr∧ys++zr=Z) (fun _ s10 _ _=>k7 - (intOf s10).toNat)
   case atStart=>exact⟨0,T,[],Z,rfl,Ω _,hp,dW.nil,hst,hbx,HZ.out,rfl⟩
   case round=>
    obtain⟨j,T2,ys,zr,rfl,hjk,hp,hac,hst,hbx,hz,hys⟩:=hrel;obtain⟨a9,c9,rfl⟩:=hac.aj;by_cases hlt2:j<k7
    case pos=>
     have hj:j<xs.length:=by rw[←Mx.out];exact hlt2
     rw[abv hj]at hz;obtain⟨x,y,hx1,hx2,rfl⟩:=mM hz;obtain⟨bb,off,K,t,ai,ki,ci,rfl,d0,yz⟩:=(hy.to hp.mG).at hi;obtain⟨b2,sZ,bE,oE,dE,bK,oK,dK,bC,oC,dC,rfl,d1,hxj⟩:=hst.at hj;have c0:=hbx.u;have h1:decide (j<k7)=true:=aa4 hlt2;have yu:=π hx1;have wD:=π hx2;have D6:=π hys;clear hx1 hx2 hys hz
     go_wp2_with fail
     refine zy 12 11 ?_;intro K' W hbw eQ;clear d0 d1 c0
     go_wp2_with fail
     refine((ih m' η).ay (hx.af (hp.on hbw) (hxj.to (.below hbw))) (yz.to (.below hbw)) yu.out).mono ?_;rintro e w2 h;obtain⟨v,rfl,hb,hr⟩:=h.rq hbw;have hp2:=hp.call hb;have uU:=hbx.to (aH hb);have Ee:=hst.to (aH hb);have oJ:=hac.call hb;obtain⟨av,kv,cv,rfl⟩:=hr.aj;clear h
     go_wp2_with fail
     refine eQ.out _ _ ⟨⟨w2,hb⟩,rfl⟩ ?_
     go_wp2_with (first
      |(at_builtin;refine kX hp2 (.tmp 38) (.tmp 39) oJ hr (by have:=XD;rw[←D6.out]at this;simp at this;omega) rfl rfl rfl rfl ?_
        intro v3 w3 iU hle3)
      |fail)
     go_roundw
     case rel=>exact⟨j+1,_,_,_,by go_num,by omega,hle3.pw,iU,Ee.to hle3.tk,uU.to hle3.tk,wD.out,by rw[Ψ];exact D6.out⟩
     case measure=>simp[intOf];omega
    case neg=>
     have h1:decide (j<k7)=false:=aa5 hlt2
     have hz2:ys=Z:=by
      rw[abY (by rw[←Mx.out];omega)]at hz;rw[rM hz,List.append_nil]at hys;exact hys
     have HZ2:=π hz2;clear hz hys hz2
     go_wp2_with fail
     go_roundw
     case rel=>exact⟨i+1,_,ys,m',by go_num,by omega,(hac.lF hp).1,(hac.lF hp).2,hbx.to xP,by omega,by rw[HZ2.out];exact HD2.out⟩
     case measure=>simp[intOf];omega
  case neg=>
   have h1:decide (i<k)=false:=aa5 hlt;rw[abY (by rw[←HK.out];omega)]at hd;obtain⟨m', -, -,hd2, -⟩:=fB hd;obtain rfl:xs=XS:=aau hd2;clear hd hd2
   go_wp2_with fail
   go_ret;exact⟨_,rfl,hp.be,hst.to hp.fw⟩
variable {gy : List Value}
theorem Cx.ZJ {gb:Nat}{w:World}(hx:Cx gb L vr S w s g)(hy:tX S w y gy)(t:TypeId):∃T,Pw S w T ((w.alloc (.cells gy.toArray t)).alloc (.cells g.toArray 51))∧Bx T ((w.alloc (.cells gy.toArray t)).alloc (.cells g.toArray 51)) w.heap.size gy∧Bx T ((w.alloc (.cells gy.toArray t)).alloc (.cells g.toArray 51)) (w.heap.size+1) g∧fJ T ((w.alloc (.cells gy.toArray t)).alloc (.cells g.toArray 51)) s g∧tX T ((w.alloc (.cells gy.toArray t)).alloc (.cells g.toArray 51)) y gy:=by
 have b1:=ag w (.cells gy.toArray t)
 have b2:=ag (w.alloc (.cells gy.toArray t)) (.cells g.toArray 51)
 exact⟨_,((Pw.start hx.lt).call b1).call b2,(Bx.new rfl gy t).to (aH b2),Bx.new ν g 51,(hx.st.to (aH b1)).to (aH b2),(tX.to (aH b1) hy).to (aH b2)⟩
variable {v0 v1 v2 : Value}
theorem Bx.u3 {w:World}{b:Nat}(h:Bx T w b [v0,v1,v2])(u:df w):u.w.cell? ⟨b,0,none⟩=some v0∧u.w.cell? ⟨b,1,none⟩=some v1∧u.w.cell? ⟨b,2,none⟩=some v2:=
 ⟨u.cell (h.2.2 0 _ rfl),u.cell (h.2.2 1 _ rfl),u.cell (h.2.2 2 _ rfl)⟩
def df.oH(w:World):df w:=⟨w,Below.refl _ _⟩
variable {a c d e : Value}
theorem fJ.alC {w:World}{b : Value}(h:fJ T w s [a,b,c,d,e]):fJ T w {s with af:=s.af+1} [.int .i64 ((s.af:Int)+1),b,c,d,e]:=by
 obtain⟨vE,vK,vC,h1,h2,h3,h4⟩:=h
 simp only[afM,and_true]at h1
 obtain⟨-,rfl,rfl,rfl,rfl⟩:=h1
 exact⟨_,_,_,rfl,h2,h3,h4⟩
theorem QS {w w' w'' W:World}(h:w.heap.size≤w'.heap.size):To (gr (gr S w w') w' w'') W (gr S w w'') W:= .mono fun _ k _=>⟨k.1,k.2.elim (fun k=>k.2) fun k=> .inr (aaT h k)⟩
variable {t : Bs}
theorem acd {gb:Nat}{w:World}(hx:Cx gb L vr S w s g)(hy:tX S w (.tx t) gy)(h:aS L n (.ay (.tx t) s f)=some XS):Calls Tryz.prog 103 #[gP gb, .agg gy.toArray, .agg g.toArray, .int .i64 (f:Nat)] w (Ps S w XS):=by
 obtain⟨m', -,⟨hs,ht,ht2⟩,h1, -⟩:=fB h
 obtain rfl:jC s (dJ L s.af t)=XS:=aau h1
 clear h h1
 have hG:=hx.gx.gb
 have hL:=hs.af
 have hL2:L.length≤100000:=hG.choose_spec.choose_spec.2.2
 obtain rfl:=hy
 obtain⟨aE,nE,cE,aK,nK,cK,aC,nC,cC,rfl, -⟩:=hx.st.aj
 obtain⟨m0,hm⟩:∃m,w.heap.size=m:=⟨_,rfl⟩
 obtain⟨W1,hW1⟩:∃W,W=(w.alloc (.cells #[.int .i64 0, .string (au t), .slice none 0 0] 169)).alloc (.cells #[.int .i64 s.af, .slice aE nE cE, .slice aK nK cK, .bool s.ty, .slice aC nC cC] 51):=⟨_,rfl⟩
 have hb1:Below w.heap.size w W1:=by rw[hW1];exact(ag w _).alloc (ag w _).size _
 have b1:W1.heap[m0+1]? =some (.cells #[.int .i64 s.af, .slice aE nE cE, .slice aK nK cK, .bool s.ty, .slice aC nC cC] 51 (0,0)):=by rw[hW1];exact rR (l7 hm _) _ _
 have HW1:=π hW1
 have HM:=π hm
 obtain⟨z,hz⟩:∃z,dJ L s.af t=z:=⟨_,rfl⟩
 have HZ:=π hz
 rw[hz]
 have B1:=π b1
 clear hW1 hz b1
 unfold Ps
 go_enter Tryz.func103,Tryz.ntmps103
 go_wp2_with fail
 rw[←HW1.out]
 refine(rY (hG.ext hb1) s.af η t ht ht2).mono ?_
 rintro e w2 ⟨rfl,hb⟩
 rw[HZ.out]
 have hb2:=hb1.trans (hb.mono hb1.size)
 have b2:=aF hb B1.out (ψ.1 B1.out).1
 cases z with
 |false=>
  go_wp2_with fail
  go_ret;exact⟨_,rfl,hb2,dS.nil⟩
 |true=>
  obtain⟨c0,c1,c2,c3,c4⟩:=fQ b2;have z0:=gQ b2 0;clear b2
  go_wp2_with fail
  go_ret;have hb3:=hb2.setCell (p:=⟨m0+1,0,none⟩) (by show w.heap.size≤m0+1;omega) (.int .i64 ((s.af:Int)+1));have hb4:=hb3.alloc hb3.size (.cells #[.int .i64 ((s.af:Int)+1), .slice aE nE cE, .slice aK nK cK, .bool s.ty, .slice aC nC cC] 51);refine⟨_,rfl,hb4,?_⟩;exact(dS.ay (m:=w2.heap.size) 51 (by simp[World.setCell]) (hx.st.to (aH hb3)).alC).to (QS hb3.size)
def alD(gb:Nat)(L:List Ct)(vr:Value):Prop:=∀{S w t s g f},Cx gb L vr S w s g→pQ L s→f≤L.length→t≠[]→(t=[64,101,110,117,109,101,114,97,116,101]→f<L.length)→Ai L (j3 L t s f)→Calls Tryz.prog 135 #[gP gb, .string (au t), .agg g.toArray, .int .i64 (f:Nat)] w (Ps S w (j3 L t s f))
theorem Ps.up{S T:Nat→Prop}{w0 w w2:World}{xs:List Sx}{e:Ending}(p:Pw S w0 T w)(h:Ps T w xs e w2):∃v,e= .returned v∧Below w0.heap.size w0 w2∧dS (gr S w0 w2) w2 v xs:=by
 obtain⟨v,rfl,h1,h2⟩:=h
 exact⟨v,rfl,p.be.trans (h1.mono p.be.size),h2.to (p.call h1).fw⟩
theorem alE (ht:t≠[]):∃h:0<(au t).size,(((au t)[0]'h).toNat:Int)=(t.headD 0).toNat:=by
 obtain⟨a,r,rfl⟩:=afO ht
 exact⟨by rw[ko];simp,rfl⟩
theorem ace {gb:Nat}(AC:alD gb L vr)(ih:∀m,m<n→Wd gb L vr m){w:World}(hx:Cx gb L vr S w s g)(hy:tX S w (.nm t) gy)(h:aS L n (.ay (.nm t) s f)=some XS):Calls Tryz.prog 103 #[gP gb, .agg gy.toArray, .agg g.toArray, .int .i64 (f:Nat)] w (Ps S w XS):=by
 obtain⟨m',rfl,⟨hs,hf,ht,hf2⟩,h1,hO⟩:=fB h
 have h2:(if t.headD 0=64 then some (j3 L t s f)else aS L m' (.call t s))=some XS:=h1
 clear h h1
 obtain⟨T,hp,hb3,hb5,hst, -⟩:=hx.ZJ hy 169
 obtain rfl:=hy
 obtain⟨aE,nE,cE,aK,nK,cK,aC,nC,cC,rfl, -⟩:=hx.st.aj
 obtain⟨h0,e0⟩:=alE ht
 by_cases hc:t.headD 0=64
 case pos=>
  rw[ω hc]at h2;obtain rfl:=aau h2;rw[hc]at e0;clear h2;unfold Ps
  go_enter Tryz.func103,Tryz.ntmps103
  go_wp2_with fail
  refine(AC (hx.af hp hst) hs hf ht hf2 hO.1).mono ?_;rintro e w2 h;obtain⟨v,rfl,hb,hr⟩:=Ps.up hp h;clear h
  go_wp2_with fail
  go_ret;exact⟨_,rfl,hb,hr⟩
 case neg=>
  rw[χ hc]at h2
  have hc2:(((t.headD 0).toNat:Int)==64)=false:=by
   rw[aat];intro h;exact hc (agL.1 (by show(t.headD 0).toNat=64;omega))
  rw[←e0]at hc2;have H2:=π h2;clear h2 e0;unfold Ps
  go_enter Tryz.func103,Tryz.ntmps103
  go_wp2_with fail
  refine((ih m' η).call (hx.af hp hst) H2.out).mono ?_;rintro e w2 h;obtain⟨v,rfl,hb,hr⟩:=Ps.up hp h;clear h
  go_wp2_with fail
  go_ret;exact⟨_,rfl,hb,hr⟩
end Go.Proofs.YtlboejdhmggjpaaGreat.Pp.Dr
