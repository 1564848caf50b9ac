import Derived.Test.YtlboejdhmggjpaaGreatXdM
import Derived.Test.YtlboejdhmggjpaaGreatWkX
set_option linter.all false
namespace Go.Proofs.YtlboejdhmggjpaaGreat.Pp.Dr
set_option maxRecDepth 100000
set_option maxHeartbeats 800000
open Go.RowKit Go.BigFrame Go.Proofs.YtlboejdhmggjpaaGreat
theorem aew{w:World}{base e size n g cap j:Nat}{xs:List Value}(v:Value)(h:w.ownsRow base e size (.slice (some ⟨g,0,none⟩) n cap) n xs)(hj:j<n*size):(w.setCell ⟨g,j,none⟩ v).ownsRow base e size (.slice (some ⟨g,0,none⟩) n cap) n (xs.set j v):=by
 refine⟨by rw[af3];exact h.1,?_⟩
 rcases h.2 with⟨hh,_⟩|⟨g',cap',cur,he,hb,hg,h1,h2,h3,h4⟩
 ·cases hh
 ·cases he
  refine .inr ⟨g,cap,_,rfl,hb,gJ hg,h1,h2,by rw[Array.size_setIfInBounds];exact h3,?_⟩;rw[←h4,Array.toList_setIfInBounds,List.take_set]
theorem alo{w:World}{base e size n g cap:Nat}{xs:List Value}(h:w.ownsRow base e size (.slice (some ⟨g,0,none⟩) n cap) n xs)(i:Nat):w.frozen? ⟨g,i,none⟩=false:=by
 obtain⟨-,cur,hg⟩:=jl h (k:=g) rfl
 exact ab7 hg i
theorem nI.snoc{S:Nat→Prop}{w:World}:∀{A:List (List Sd)} {D:List Sd} {gs:List (List Value)},nI S w (A++[D]) gs→∃ga vi,gs=ga++[[vi]]∧nI S w A ga∧vg S w vi D
 |[],D,gs,⟨v,gr,h1,h2,h3⟩=>⟨[],v,by rw[h1,show gr=[]from h3];rfl,rfl,h2⟩
 |d::r,D,gs,⟨v,gr,h1,h2,h3⟩=>by
  obtain⟨ga,vi,rfl,k2,k3⟩:=nI.snoc h3;exact⟨[v]::ga,vi,h1,⟨v,ga,rfl,h2,k2⟩,k3⟩
theorem Uq:∀{ga:List (List Value)},(∀g∈ga,g.length=1)→ga.flatten.length=ga.length
 |[],_=>rfl
 |g::r,h=>by rw[afI,Δ,h g (ab6 ..),Uq fun g hg=>h g (abM _ hg),aaJ];omega
theorem Cb{S:Nat→Prop}{w:World}{v:Value}{env:List (List Sd)}(hS:∀b,S b→b<w.heap.size)(hv:nZ S w v env)(h0:env≠[])(hl:env.length≤100000)(hd:∀d∈env,d.length≤100000)(x:Bs)(q:Bool):Calls Tryz.prog 18 #[v, .string (au x), .bool q] w fun e w'=>∃v',e= .returned v'∧Below w.heap.size w w'∧nZ (nw S w.heap.size) w' v' (fV env x q):=by
 have hv0:=hv
 obtain⟨gs,h1,h2⟩:=hv
 obtain⟨a,k,c,rfl⟩:=h1.aj
 by_cases hx:x=[]
 ·have e0:(au x).toList.isEmpty=true:=by rw[ByteArray.toList_eq,nG,hx];rfl
  have e1:fV env x q=env:=by unfold fV;rw[ω hx]
  rw[e1];clear hx;have HV:=π hv0;clear h1 h2 hv0 hd
  go_enter Tryz.func18,Tryz.ntmps18
  go_wp2_with fail
  go_ret;exact⟨_,rfl,Below.refl _ _,HV.out.to (ig (Below.refl _ _))⟩
 ·have e0:(au x).toList.isEmpty=false:=by rw[ByteArray.toList_eq,nG];cases x with|nil=>exact absurd rfl hx|cons a r=>rfl
  obtain⟨A,D,rfl⟩:∃A D,env=A++[D]:=⟨env.dropLast,env.getLast h0,(acI h0).symm⟩
  have e1:fV (A++[D]) x q=A++[D++[(x,q)]]:=by unfold fV;rw[χ hx];simp
  rw[e1];obtain⟨ga,vi,rfl,k2,g2⟩:=h2.snoc;obtain⟨n,hn⟩:∃n,ga.length=n:=⟨_,rfl⟩
  have hgl:(ga++[[vi]]).length=n+1:=by rw[Δ,hn];rfl
  have hk:k=n+1:=by obtain⟨a',c',e, -⟩:=h1;cases e;exact hgl
  subst hk
  have g1:(ga++[[vi]])[n]? =some [vi]:=by rw[←hn];simp
  have hn2:n≤100000:=by have:=h2.len;rw[hgl]at this;omega
  have hDl:D.length≤100000:=hd _ ν
  have hga:∀g∈ga,g.length=1:=fun g hg=>(h1.gs g (by simp[hg])).1
  obtain⟨m0,hm⟩:∃m,w.heap.size=m:=⟨_,rfl⟩;have HM:=π hm;have H1:=π h1;have G2:=π g2;have K2:=π k2;have HGA:=π hga;clear hx h2 hv0 hd hl h0 k2 hga e1
  go_enter Tryz.func18,Tryz.ntmps18
  go_wp2_with (first
   |(at_builtin;refine uG Un Tryz.underlying41 rfl ζ ζ rfl (.tmp 13) (.tmp 14) rfl (base:=m0) (gs:=[]) rfl (World.ownsRow_nil _ _ _ _) rfl H1.out (by rw[hgl];simp;omega) (by rw[HM.out];exact υ _) ?_
     intro v1 w1 hown1 hg1
     have rT:=(Below.refl m0 w).grown hg1 (by rw[HM.out];exact υ _) fun k h=>(by cases h)
     rw[List.nil_append,hgl]at hown1;obtain⟨g,c1,rfl,hg0,hg3, -⟩:=pV hown1 (Nat.succ_pos n);obtain⟨-,b,off,e, -, -,hc⟩:=(Rw.xG (S:=fun _=>True) hown1 hgl (fun _ _=>trivial) H1.out.gs).get g1;cases e;obtain⟨ai,ki,ci,rfl⟩:=g2.aj
     have d0:w1.cell? ⟨g,n,none⟩=some (.slice ai ki ci):=by have:=hc 0 _ rfl;rw[afF,acK,Nat.add_zero]at this;exact this
     have Kn:=π hown1;have HB1:=π rT;have HG3:=π hg3;have Be:=π (show m0≤w1.heap.size by have:=rT.size;omega);have HC:=π hc
     clear hown1 hg1 rT hc)
   |(at_builtin;refine uG ab4 Tryz.underlying33 rfl ζ ζ rfl (.tmp 19) (.tmp 23) rfl (base:=w1.heap.size) (gs:=[]) rfl (World.ownsRow_nil _ _ _ _) rfl (Rw.to G2.out (ig (n:=0) (HB1.out.mono (acf HM.out)))) (by simp;omega) (υ _) ?_
     intro v2 w2 hown2 hg4
     have rT:=(Below.refl w1.heap.size w1).grown hg4 (υ _) fun k h=>(by cases h)
     rw[List.nil_append]at hown2;have CY:=π hown2;have HB2:=π rT
     have d0:w2.cell? ⟨g,n,none⟩=some (.slice ai ki ci):=by have:=(dX.below HC.out rT HG3.out) 0 _ rfl;rw[afF,acK,Nat.add_zero]at this;exact this
     clear hown2 hg4 rT)
   |(at_builtin;refine uG ab4 Tryz.underlying33 rfl ζ ζ rfl (.tmp 27) (.tmp 31) rfl (base:=w1.heap.size) (gs:=D.map MX) rfl (CY.out.alloc _) rfl (Rw.kJ (S:=fun _=>True) 44 rfl trivial (g:=MX (x,q)) ⟨rfl,fun u hu=>by simp[MX]at hu;rcases hu with rfl|rfl<;>rfl⟩) (by simp;omega) (by have:=HB2.out.size;simp;omega) ?_
     intro v3 w3 hown3 hg5;have rT:=HB2.out.trans (((Below.refl w1.heap.size w2).alloc HB2.out.size (.cells #[.string (au x), .bool q] 44)).grown hg5 (by have:=HB2.out.size;simp;omega) (og CY.out));obtain⟨a3,c3,rfl⟩:=fF hown3;have HO3:=π hown3;have HB3:=π rT;have ho:=gI Kn.out rT;have HO4:=π ho;have zf:=alo ho n
     have d0:w3.cell? ⟨g,n,none⟩=some (.slice ai ki ci):=by have:=(dX.below HC.out rT HG3.out) 0 _ rfl;rw[afF,acK,Nat.add_zero]at this;exact this
     clear hown3 hg5 rT ho)
   |fail)
  go_ret;have hb4:=((HB1.out.trans (HB3.out.mono Be.out)).setCell (p:=⟨g,n,none⟩) hg0 (.slice a3 (D.length+1) c3)).mono (acf HM.out);have ho:=aew (j:=n) (.slice a3 (D.length+1) c3) HO4.out η
  have hset:(ga++[[Value.slice ai ki ci]]).flatten.set n (.slice a3 (D.length+1) c3)=(ga++[[Value.slice a3 (D.length+1) c3]]).flatten:=by
   have hf:=Uq HGA.out;rw[afZ,afZ,List.set_append_right _ _ η,hf,hn,Nat.sub_self];rfl
  rw[hset]at ho;have ho3:=ownsRow_setCell_below HO3.out (a:=⟨g,n,none⟩) HG3.out (.slice a3 (D.length+1) c3);refine⟨_,rfl,hb4,ga++[[.slice a3 (D.length+1) c3]],Rw.xG ho (by rw[Δ,hn];rfl) (fun b hb=> .inr (by have:=og ho b hb;rw[HM.out];exact this)) (fun y hy=>?_),nI.fK (nI.to (ig hb4) K2.out) ⟨_,[],rfl,?_,rfl⟩⟩
  ·rcases abr.1 hy with hy|hy
   ·exact H1.out.gs y (aby _ hy)
   ·rw[Φ.1 hy];exact⟨rfl,fun u hu=>by rw[Φ.1 hu];rfl⟩
  ·have q9:=Rw.xG (S:=nw S w.heap.size) ho3 rfl (fun b hb=> .inr (by have:=og ho3 b hb;have:=Be.out;rw[HM.out];omega)) (fun y hy=>by
    rcases abr.1 hy with hy|hy
    ·obtain⟨d, -,rfl⟩:=abt.1 hy
     exact⟨rfl,fun u hu=>by simp[MX]at hu;rcases hu with rfl|rfl<;>rfl⟩
    ·rw[Φ.1 hy];exact⟨rfl,fun u hu=>by simp[MX]at hu;rcases hu with rfl|rfl<;>rfl⟩)
   unfold vg;rw[acb];obtain⟨aa,cc,w1',w2'⟩:=q9;refine⟨aa,cc,?_,w2'⟩;simp only[Δ,abz,aaJ,List.length_nil]at w1'⊢;exact w1'
end Go.Proofs.YtlboejdhmggjpaaGreat.Pp.Dr
