import Derived.Test.YtlboejdhmggjpaaGreatXaR
set_option linter.all false
namespace Go.Proofs.YtlboejdhmggjpaaGreat.Pp.Dr
set_option maxRecDepth 100000
set_option maxHeartbeats 800000
open Go.RowKit Go.BigFrame Go.Proofs.YtlboejdhmggjpaaGreat
mutual
def TB:Tr→Prop
 | .mk _ lo hi ks _=>lo≤100000∧hi≤100000∧Uz ks
def Uz:List Tr→Prop
 |[]=>True
 |t::r=>TB t∧Uz r
end
theorem IX{S:Nat→Prop}{gb:Nat}{L:List Ct}{vr:Value}:∀(t:Tr) (w:World) (g:List Value),GB w gb L vr→kF S w t g→TB t→Calls Tryz.prog 164 #[gP gb, .agg g.toArray] w fun e w'=>e= .returned (.string (au (jE L t)))∧Below w.heap.size w w'
 | .mk k lo hi [] ds,w,g,hG,ht,hb=>Uy hG ht (.inl rfl) hb.1 hb.2.1
 | .mk k lo hi (x::r) ds,w,g,hG,ht,hb=>by
   by_cases AZ:x.k=14
   case neg=>
    have e:jE L (.mk k lo hi (x::r) ds)=Q7 L lo hi:=by unfold jE;rw[χ AZ]
    rw[e];exact Uy hG ht (.inr ⟨x,r,rfl,AZ⟩) hb.1 hb.2.1
   have e:jE L (.mk k lo hi (x::r) ds)=jE L x:=by rw[jE,ω AZ]
   rw[e];have IH:=IX (S:=S) (gb:=gb) (L:=L) (vr:=vr) x;obtain⟨vk,vd,gs,rfl,h1,h2,h3⟩:=ht;obtain⟨gx,gr,rfl,hx, -⟩:=h2;obtain⟨a,kk,c,rfl⟩:=h1.aj;obtain⟨hkk,b,off,rfl,hS,hl,hc⟩:=h1.get (i:=0) rfl;have hTx:=hb.2.2.1;have hx0:=hx;obtain⟨xk,xl,xh,xs,xd⟩:=x;obtain⟨vk,vx,gg,rfl,x1,x2,x3⟩:=hx;obtain⟨ak,nk,ck,rfl⟩:=x1.aj;obtain⟨ax,nx,cx,rfl⟩:=x3.aj;obtain⟨ad,kd',cd,rfl⟩:=h3.aj;have AZ:xk=14:=AZ;subst AZ;obtain⟨W1,hW1⟩:∃W,W=w.alloc (.cells #[.int .i64 k, .int .i64 lo, .int .i64 hi, .slice (some ⟨b,off,none⟩) kk c, .slice ad kd' cd] 35):=⟨_,rfl⟩
   have hb1:Below w.heap.size w W1:=by rw[hW1];exact ag _ _
   have hc2:=dX.below hc hb1 hl;rw[Nat.zero_mul,Nat.add_zero]at hc2;have d0:W1.cell? ⟨b,off,none⟩=some (.int .i64 (14:Nat)):=hc2 0 _ rfl;have d1:W1.cell? ⟨b,off+1,none⟩=some (.int .i64 xl):=hc2 1 _ rfl;have d2:W1.cell? ⟨b,off+2,none⟩=some (.int .i64 xh):=hc2 2 _ rfl;have d3:W1.cell? ⟨b,off+3,none⟩=some (.slice ak nk ck):=hc2 3 _ rfl;have d4:W1.cell? ⟨b,off+4,none⟩=some (.slice ax nx cx):=hc2 4 _ rfl
   have e8:decide ((0:Int)<kk)=true:=by rw[abC,hkk];simp
   have h0:0<kk:=by rw[hkk];exact Nat.succ_pos _
   have ih:=IH W1 _ (hG.ext hb1) (hx0.to (.below hb1)) hTx;rw[show((14:Nat):Int)=14 from rfl]at ih d0;have MQ:=π ih;have HB1:=π hb1;clear hkk ih IH hb1 hc hc2 hx0 x1 x2 x3 h1 h3 hG;subst hW1
   go_enter Tryz.func164,Tryz.ntmps164
   go_wp2_with fail
   refine MQ.out.mono ?_;rintro e w2 ⟨rfl,hb2⟩;have HB2:=π (HB1.out.trans (hb2.mono HB1.out.size));clear hb2
   go_wp2_with fail
   go_ret;exact⟨rfl,HB2.out⟩
def yx(S:Nat→Prop)(w:World)(t:So)(g:List Value):Prop:=∃g0,g=g0++[.int .i64 t.b, .int .i64 t.w]∧fJ S w t.s g0
def pY(S:Nat→Prop)(w:World):List So→List (List Value)→Prop
 |[],gs=>gs=[]
 |x::r,gs=>∃g gr,gs=g::gr∧yx S w x g∧pY S w r gr
def kN(S:Nat→Prop)(w:World)(v:Value)(xs:List So):Prop:=∃gs,Rw S 7 w v gs∧pY S w xs gs
theorem XB:(Tryz.prog.info? 159).map (fun i=>(i.zero,i.size,i.bytes))=some (some (.agg #[.int .i64 0, .slice none 0 0, .slice none 0 0, .bool false, .slice none 0 0, .int .i64 0, .int .i64 0]),7,104):=by kernel_rfl
theorem pX.get{S:Nat→Prop}{w:World}:∀{xs:List Sx} {gs:List (List Value)},pX S w xs gs→∀i (h:i<xs.length),∃g,gs[i]? =some g∧fJ S w xs[i] g
 |[],_,_,i,h=>by simp at h
 |d::r,_,⟨v,gr,h1,h2,h3⟩,i,h=>by
  subst h1
  cases i with
  |zero=>exact⟨v,rfl,h2⟩
  |succ i=>exact pX.get h3 i (by simpa using h)
theorem pY.snoc{S:Nat→Prop}{w:World}:∀{xs:List So} {gs:List (List Value)} {t:So} {g:List Value},pY S w xs gs→yx S w t g→pY S w (xs++[t]) (gs++[g])
 |[],_,t,g,h,k=>by rw[show _=[]from h];exact⟨g,[],rfl,k,rfl⟩
 |x::r,_,t,g,⟨g0,gr,h1,h2,h3⟩,k=>by rw[h1];exact⟨g0,gr++[g],rfl,h2,pY.snoc h3 k⟩
theorem pY.to{S T:Nat→Prop}{w w':World}(k:To S w T w'):∀{xs:List So} {gs:List (List Value)},pY S w xs gs→pY T w' xs gs
 |[],_,h=>h
 |x::r,_,⟨g,gr,h1,⟨g0,h4,h5⟩,h3⟩=>⟨g,gr,h1,⟨g0,h4,h5.to k⟩,pY.to k h3⟩
theorem Gu{S:Nat→Prop}{w:World}{v:Value}{xs:List Sx}(hv:dS S w v xs)(b q:Nat)(hl:xs.length≤1000):Calls Tryz.prog 133 #[v, .int .i64 b, .int .i64 q] w fun e w'=>∃v',e= .returned v'∧Below w.heap.size w w'∧kN (nw S w.heap.size) w' v' (xs.map fun x=>⟨x,b,q⟩):=by
 obtain⟨gs,h1,h2⟩:=hv
 obtain⟨a,k,c,rfl⟩:=h1.aj
 have hk:k=xs.length:=by obtain⟨a',c',e, -⟩:=h1;cases e;exact h2.len
 have HK:=π hk
 have H1:=π h1
 have H2:=π h2
 have hk2:k≤1000:=by omega
 obtain⟨m0,hm⟩:∃m,w.heap.size=m:=⟨_,rfl⟩
 have HM:=π hm
 rw[hm]
 clear hk h1 h2 hl hm
 go_enter Tryz.func133,Tryz.ntmps133
 go_wp2_with fail
 go_loopw [7,8] (fun s7 s8 wr=>∃(i:Nat) (g2:List (List Value)),s8= .int .i64 i∧i≤k∧Below m0 w wr∧g2.length=i∧wr.ownsRow m0 159 7 s7 g2.length g2.flatten∧pY S w ((xs.take i).map fun x=>⟨x,b,q⟩) g2∧∀g∈g2,g.length=7∧∀u∈g,u.oneCell'=true) (fun _ s8 _=>k - (intOf s8).toNat)
 case atStart=>exact⟨0,[],rfl,Ω _,Below.refl _ _,rfl,World.ownsRow_nil _ _ _ _,rfl,fun g hg=>(by cases hg)⟩
 case round=>
  obtain⟨i,g2,rfl,hik,hb,hg2,hown,hso,hone⟩:=hrel;obtain⟨a7,c7,rfl⟩:=fF hown;have HB:=π hb;have HO:=π hown;have HSO:=π hso;have HON:=π hone;by_cases hlt:i<k
  ·have hi:i<xs.length:=by rw[←HK.out];exact hlt
   obtain⟨gx,g1,hx⟩:=H2.out.get i hi;obtain⟨-,bb,off,rfl,hS,hl,hc⟩:=H1.out.get g1;have HX:=π hx;obtain⟨aE,nE,cE,aK,nK,cK,aC,nC,cC,rfl, -⟩:=hx.aj;have hc2:=dX.below hc (hb.mono (acf HM.out)) hl;have d0:=hc2 0 _ rfl;have d1:=hc2 1 _ rfl;have d2:=hc2 2 _ rfl;have d3:=hc2 3 _ rfl;have d4:=hc2 4 _ rfl;rw[Nat.add_zero]at d0;obtain⟨xi,hxi⟩:∃z,xs[i]=z:=⟨_,rfl⟩;rw[hxi]at d0 d3;clear hb hown hso hone hc hc2 hx g1;have hxk:=HX.out;rw[hxi]at hxk;have HXK:=π hxk;have o7:([.int .i64 xi.af, .slice aE nE cE, .slice aK nK cK, .bool xi.ty, .slice aC nC cC, .int .i64 b, .int .i64 q]:List Value).length=7∧∀u∈([.int .i64 xi.af, .slice aE nE cE, .slice aK nK cK, .bool xi.ty, .slice aC nC cC, .int .i64 b, .int .i64 q]:List Value),u.oneCell'=true:=⟨rfl,fun u hu=>by simp at hu;rcases hu with rfl|rfl|rfl|rfl|rfl|rfl|rfl<;>rfl⟩;have HO7:=π o7;have HXI:=π hxi
   have hgi:g2.length≤1000:=by omega
   have HG2:=π hg2;clear hxk o7 hxi hg2
   go_wp2_with (first
    |(at_builtin;refine uG XB Tryz.underlying160 rfl ζ ζ rfl (.tmp 15) (.tmp 23) rfl (base:=m0) (gs:=g2) rfl (HO.out.alloc _) rfl (Rw.kJ (S:=fun _=>True) 159 rfl trivial (g:=[.int .i64 xi.af, .slice aE nE cE, .slice aK nK cK, .bool xi.ty, .slice aC nC cC, .int .i64 b, .int .i64 q]) HO7.out) (by simp;omega) (by have:=HB.out.size;have:=HM.out;simp;omega) ?_
      intro v2 w2 hown2 hg4;have hbC:=HB.out.trans ((((Below.refl m0 wr).alloc (by have:=HB.out.size;have:=HM.out;omega) (.cells #[.int .i64 xi.af, .slice aE nE cE, .slice aK nK cK, .bool xi.ty, .slice aC nC cC, .int .i64 b, .int .i64 q] 159))).grown hg4 (by have:=HB.out.size;have:=HM.out;simp;omega) (og HO.out));have CY:=π hown2;have HB2:=π hbC
      clear hown2 hg4 hbC)
    |fail)
   go_roundw
   case rel=>exact⟨i+1,g2++[[.int .i64 xi.af, .slice aE nE cE, .slice aK nK cK, .bool xi.ty, .slice aC nC cC, .int .i64 b, .int .i64 q]],by go_num,by omega,HB2.out,by rw[Δ,HG2.out];rfl,CY.out,by
    rw[abL hi,acb,HXI.out]
    exact pY.snoc HSO.out ⟨_,rfl,HXK.out⟩,fun g hg=>by
    rcases abr.1 hg with hg|hg
    ·exact HON.out g hg
    ·rw[Φ.1 hg];exact HO7.out⟩
   case measure=>simp[intOf];omega
  ·have h1:decide (i<k)=false:=aa5 hlt
   have HG2:=π hg2;have hie:xs.take i=xs:=ab1 (by rw[←HK.out];omega);have HIE:=π hie;clear hb hown hso hone hie
   go_wp2_with fail
   go_ret;refine⟨_,rfl,HB.out,g2,Rw.xG HO.out rfl (fun b hb=> .inr (og HO.out b hb)) HON.out,?_⟩;have:=HSO.out;rw[HIE.out]at this;exact pY.to (ig (HB.out.mono (acf HM.out))) this
end Go.Proofs.YtlboejdhmggjpaaGreat.Pp.Dr
