import Derived.Test.YtlboejdhmggjpaaGreatPbC
import Derived.Test.YtlboejdhmggjpaaGreatWsL
import Derived.Test.YtlboejdhmggjpaaGreatXuA
set_option linter.all false
namespace Go.Proofs.YtlboejdhmggjpaaGreat.Pp
theorem pq(l:List Ct)(base:Bs→Bool):∀n,Ih l base n
 |0=>fun tg sh s _ _ _ hp=>absurd hp.2.2.2.2.2.2 (Nat.not_lt_zero _)
 |n+1=>fun tg sh s h1 h2 hT hp=>by
  cases tg<;>first
   |exact anP (pq l base n) _ rfl sh s h1 h2 hT hp
   |exact anQ (pq l base n) _ rfl sh s h1 h2 hT hp
   |exact anR (pq l base n) _ rfl sh s h1 h2 hT hp
   |exact anS (pq l base n) _ rfl sh s h1 h2 hT hp
   |exact anT (pq l base n) _ rfl sh s h1 h2 hT hp
   |exact anU (pq l base n) _ rfl sh s h1 h2 hT hp
   |exact anV (pq l base n) _ rfl sh s h1 h2 hT hp
   |exact Vg (pq l base n) sh s h1 h2 hT hp
   |exact aan (pq l base n) _ sh s h1 h2 hT hp
   |exact aao (pq l base n) sh s h1 h2 hT hp
   |exact XO (pq l base n) sh s h1 h2 hT hp
   |exact LF (pq l base n) _ sh s h1 h2 hT hp
   |exact Vh (pq l base n) _ sh s h1 h2 hT hp
   |exact Qq (pq l base n) _ _ sh s h1 h2 hT hp
   |exact XP (pq l base n) sh s h1 h2 hT hp
   |exact XQ (pq l base n) sh s h1 h2 hT hp
   |exact Qr (pq l base n) sh s h1 h2 hT hp
   |exact aap (pq l base n) _ sh s h1 h2 hT hp
   |exact Vi (pq l base n) sh s h1 h2 hT hp
   |exact Nn (pq l base n) sh s h1 h2 hT hp
   |exact Vj (pq l base n) _ _ _ _ sh s h1 h2 hT hp
   |exact Qt (pq l base n) sh s h1 h2 hT hp
   |exact aaq (pq l base n) sh s h1 h2 hT hp
end Go.Proofs.YtlboejdhmggjpaaGreat.Pp
namespace Go.Proofs.YtlboejdhmggjpaaGreat.Pp.Dr
set_option maxRecDepth 10000
section
variable {l:List Ct} {base:Bs→Bool} {B:List Sd} {D D2:List Nd}
variable {m : Nat}
theorem Vp (hL:l.length≤90)(ih:∀k,k<m→Ii l base B k):qH l base B kSa (.call X9) .vH [] (fun x=>VU x) m:=by
 intro x s D hx hk
 cases m with
 |zero=>rw[run];trivial
 |succ n=>
  have hf:=hx.fr;have hu0:un (kd l x.env x.af)≠0:=dQ (t:=uW) ζ hk;have hu:=hf.up (x:=fr x) hu0;rw[run,fD,sS hx hu0];refine dY 0 (w:=X9) hL (c:=fun _=>true) ζ rfl θ rfl ?_;rw[bH (dL (r:=fr x) _ ζ hk)]
  refine eD (.me (p:=x.af+1) hu.le) hu (abK _) rfl ζ ζ ζ rfl fun h1 h2=>?_
  refine dV hL h1 ((ih n (aar n)).ch _ _ _ h2) (aI x 4) (by show x.af+1≤x.af+1+1+1;omega) ζ rfl θ fun v s1 r1 gB _ a1 a2 a3 _=>?_
  have a2:x.af+1+1+1≤r1.af:=a2
  refine eD a1 a3 η rfl ζ ζ ζ θ fun h3 h4=>?_
  refine Wv hL h3 h4 (aI x 4) (by show x.af+1≤r1.af+1+1;omega) rfl θ fun s2 r2 jM b1 b2 b3=>?_
  have b2:r1.af+1+1≤r2.af:=b2
  refine eD b1 b3 η rfl ζ ζ ζ θ fun h5 h6=>?_
  refine eD h5 h6 (by show x.af+1≤r2.af+1+1;omega) rfl ζ ζ ζ rfl fun h7 h8=>?_
  exact dR hL h7 (by show x.af+1≤r2.af+1+1;omega) rfl ζ hx h8 fun h=>⟨_,h⟩
theorem LY (hL:l.length≤90)(ih:∀k,k<m→Ii l base B k):dZ l base B (.call Bp) .ma (vX++[94]) (fun x=>VU x) m:=by
 intro x s D hx
 cases m with
 |zero=>rw[run];trivial
 |succ n=>
  have hf:=hx.fr;rw[run,fD];refine dY 0 (w:=Bp) hL (c:=fun _=>true) ζ rfl θ rfl ?_
  refine dV hL (.me (p:=x.af) hf.le) (JB hf) (aI x 10) (υ _) ζ rfl θ fun v s1 r1 gB _ a1 a2 a3 a4=>?_
  obtain⟨rfl,rfl,rfl⟩:=a4
  have fw:∀{C1 s2 r2 jM},Fr l (x.af+1) C1 jM r2→C1.all (aJ (vX++[94]))=true→zH C1 (.nm X5)=true→Rl l B s.done s2 r2→Sm l (x.af+1) (vX++[94]) B D (VU x) (wr (fun r=>bn x r 10) (dl l (.seq [.nm X5] x.af jM))) ((node l 10 (s.af,s.done.length)>>=fun _=>bS l (bM l (fr x).af) false>>=fun _=>pure Va.un) s2):=fun{C1 s2 r2 jM} b1 hC hs b2=>by
   obtain⟨EO,e,b3⟩:=EL hL [] b1 (z:={r2 with env:=fV r2.env (bM l x.af) false}) (iW ζ r2 x.af) rfl hs;rw[e]
   rcases xD (l:=l) (k:=10) (h:=(s.af,s.done.length)) (s:=s2) (f:=fun _=>bS l (bM l (fr x).af) false>>=fun _=>pure Va.un)with e|⟨-,e⟩
   ·rw[e];trivial
   rw[e]
   rcases yj (l:=l) (bM l (fr x).af) false (fun _=>pure Va.un) {s2 with done:=s2.done++[⟨10,s.af,s2.af,s2.done.length - s.done.length+1⟩]}with e|e
   ·rw[e];trivial
   rw[e]
   refine mr hL b3 (υ _) (by
    rw[Θ];intro c hc
    exact(Θ.1 hC) c (afx.1 hc).1) (aI x 10) ?_ ⟨.mk 10 x.af r2.af r2.ah [],rfl,rfl,rfl⟩
   exact(xX (k:=10) hx (by rw[b2.dn]) b2).fV (bM l x.af) false
  have hq:=iQ a3 (t:=[61]) rfl ζ
  cases c:aO (kd l (up (fr x)).env (up (fr x)).af) [61]with
  |true=>
   rw[dM (hq.trans c)]
   refine uw (F:=[94]) (C1:=vX) hL a1 (by rw[kz c (c:=94) ζ ζ ζ];decide) (aI x 10) (.inl (υ _)) ?_ rfl θ fun v s1 r1 gB _ b1 b2 b3=>fw b1 θ θ b3
   have hu:=a3.up (dQ ζ c);rw[bH (dL _ ζ c)];have:=lW (f:=(up (fr x)).af) hL (w:=sO) ζ ((ih n (aar n)).ch _ _ _ hu);exact this.le (abK _) θ
  |false=>
   rw[dM (hq.trans c)];obtain⟨xs',e,h1⟩:=ow (ys:=[.nm X5]) (f:=x.af) (a:=[[.tx [61], .nm sO]]) hL a1 (c:=fun k=>!aO k [61]) θ (by rw[c];rfl) rfl;rw[e];exact fw h1 rfl rfl a3
theorem Qu (hL:l.length≤90)(ih:∀k,k<m→Ii l base B k):dZ l base B (.call qF) .kg RO (fun x=>VU x) m:=by
 intro x s D hx
 cases m with
 |zero=>rw[run];trivial
 |succ n=>
  have hf:=hx.fr;have i:=ih n (aar n);rw[run,fD];refine dY 0 (w:=qF) hL (c:=fun _=>true) ζ rfl θ rfl ?_
  refine dV hL (.me (p:=x.af) hf.le) ((Eo (fr x)).symm▸i.Pf false (fr x) s s.done hf) (aI x 18) (υ _) ζ rfl θ fun v s1 r1 gB _ a1 a2 a3 a4=>?_
  have a2:x.af+1≤r1.af:=a2;show Sm l _ _ B D _ _ ((eu l 0 [42]>>=fun a=>eu l 0 [40]>>=fun b=>eu l 0 [91]>>=_) s1);rw[jL,jL,jL,iQ a3 (t:=[42]) rfl ζ,iQ a3 (t:=[40]) rfl ζ,iQ a3 (t:=[91]) rfl ζ]
  cases c:(aO (kd l r1.env r1.af) [42]||aO (kd l r1.env r1.af) [40]||aO (kd l r1.env r1.af) [91])with
  |true=>
   refine uw (F:=[74,60,62]) (C1:=wh) hL a1 ?_ (aI x 18) (.inl (υ _)) (lW hL ζ (i.abs _ _ _ a3)) θ θ fun v s2 r2 jM _ b1 b2 b3=>dR hL b1 (υ _) θ ζ hx b3 fun h=>⟨_,h⟩
   rcases ack _ _▸c with c|c
   ·rcases ack _ _▸c with c|c
    ·rw[kz c (c:=74) ζ ζ ζ];decide
    ·rw[kz c (c:=60) ζ ζ ζ];decide
   ·rw[kz c (c:=62) ζ ζ ζ];decide
  |false=>
   obtain⟨xs',e,h1⟩:=ow (ys:=[]) (f:=x.af) (a:=[[.nm AB]]) hL a1 (c:=fun k=>!(aO k [42]||aO k [40]||aO k [91])) θ (by rw[c];rfl) θ;rw[e]
   exact dR hL h1 (υ _) θ ζ hx a3 fun h=>⟨_,h⟩
theorem Yt (hL:l.length≤90)(ih:∀k,k<m→Ii l base B k):dZ l base B (.call KG) .field cFi (fun x=>VU x) m:=by
 intro x s D hx
 cases m with
 |zero=>rw[run];trivial
 |succ n=>
  have hf:=hx.fr;have i:=ih n (aar n);rw[run,fD,jL,iQ hx (t:=[58]) rfl ζ]
  cases c:aO (kd l x.env x.af) [58]with
  |true=>
   show Sm l _ _ B D _ _ ((fU l [58]>>=_) s);rw[dM ((iQ hx (t:=[58]) rfl ζ).trans c)];refine dY 1 (w:=KG) hL (c:=fun k=>aO k [58]) ζ rfl θ c ?_;have hu:=hf.up (x:=fr x) (dQ ζ c);rw[bH (dL (r:=fr x) _ ζ c)]
   exact dV hL (.me (p:=x.af+1) hu.le) (i.ch _ _ _ hu) (aI x 8) (abK _) ζ rfl θ fun v s1 r1 gB _ a1 a2 a3 _=>dR hL a1 (abK _) θ ζ hx a3 fun h=>⟨_,h⟩
  |false=>
   refine dY 0 (w:=KG) hL (c:=fun k=>!aO k [58]) ζ rfl θ (by rw[c];rfl) ?_
   refine dV hL (.me (p:=x.af) hf.le) (i.mf _ _ _ hf) (aI x 8) (υ _) ζ rfl θ fun v s1 r1 gB _ a1 a2 a3 _=>?_
   have hq:=iQ a3 (t:=[58]) rfl ζ;show Sm l _ _ B D _ _ ((fU l [58]>>=_) s1)
   cases c2:aO (kd l r1.env r1.af) [58]with
   |true=>
    rw[dM (hq.trans c2)]
    refine uw (F:=[68]) (C1:=vX) hL a1 (by rw[kz c2 (c:=68) ζ ζ ζ];decide) (aI x 8) (.inl (υ _)) ?_ θ θ fun v s1 r1 gB _ b1 b2 b3=>dR hL b1 (υ _) θ ζ hx b3 fun h=>⟨_,h⟩
    have hu:=a3.up (dQ ζ c2);rw[bH (dL _ ζ c2)];have:=lW (f:=r1.af) hL (w:=sO) ζ (i.ch _ _ _ hu);exact this.le (abK _) θ
   |false=>
    rw[dM (hq.trans c2)];obtain⟨xs',e,h1⟩:=ow (ys:=[]) (f:=x.af) (a:=[[.tx [58], .nm sO]]) hL a1 (c:=fun k=>!aO k [58]) θ (by rw[c2];rfl) θ;rw[e]
    exact dR hL h1 (υ _) θ ζ hx a3 fun h=>⟨_,h⟩
theorem Yu{it R:Tg}(h0:run l base 0 R=FJ)(h1:∀n s,run l base (n+1) R s=(fU l [44]>>=fun b=>if b=true then run l base n it>>=fun _=>run l base n R else pure Va.un) s):∀n,run l base n R=vZ l (fun n=>run l base n it) (fun _=>false) n
 |0=>by rw[h0];rfl
 |n+1=>by
  funext s
  rw[h1,DI]
  cases c:aX l s 0 [44]with
  |false=>rw[dM c];rfl
  |true=>rw[dM c,Yu h0 h1 n];rfl
theorem Vr (hL:l.length≤90)(ih:∀k,k<m→Ii l base B k):dZ l base B (.call zW) .nP [] (fun x=>VU x) m:=by
 intro x s D hx
 cases m with
 |zero=>rw[run];trivial
 |succ n=>
  have hf:=hx.fr;have i:=ih n (aar n);rw[run,LJ,CF hx (t:=uW) rfl ζ]
  cases c:aO (kd l x.env x.af) uW with
  |true=>exact dY 1 (w:=zW) hL (c:=fun k=>aO k uW) ζ rfl θ c (nX hL hx ζ (i.asr _ _ _ hf c) yh)
  |false=>
   show Sm l _ _ B D _ _ ((fH>>=_) s);rw[fD];refine dY 0 (w:=zW) hL (c:=fun k=>!aO k uW) ζ rfl θ (by rw[c];rfl) ?_
   refine dV hL (.me (p:=x.af) hf.le) ((Eo (fr x)).symm▸i.Pf false (fr x) s s.done hf) (aI x 7) (υ _) ζ rfl θ fun v s1 r1 gB _ a1 a2 a3 a4=>?_
   have a2:x.af+1≤r1.af:=a2
   have fw:∀{C1 s2 r2 jM},Fr l (x.af+1) C1 jM r2→(C1.all fun c=>dd c (.tx [59]))=true→Rl l B s.done s2 r2→x.af+1≤r2.af→Sm l (x.af+1) [] B D (VU x) (wr (fun r=>bn x r 7) (dl l (.seq [.tx [59]] x.af jM))) ((bY l [59]>>=fun _=>node l 7 (s.af,s.done.length)>>=fun _=>pure Va.un) s2):=fun b1 hd b2 b3=>eD b1 b2 η rfl ζ ζ ζ hd fun b4 b5=>dR hL b4 η rfl ζ hx b5 fun h=>⟨_,h⟩
   rw[jL,iQ a3 (t:=[59]) rfl ζ]
   cases c2:aO (kd l r1.env r1.af) [59]with
   |true=>
    obtain⟨xs',e,h1⟩:=ow (ys:=[.tx [59]]) (f:=x.af) (a:=[[.nm KG, .bV [[.tx [44], .nm KG]]]]) hL a1 (c:=fun k=>aO k [59]) θ c2 θ;rw[e];exact fw h1 θ a3 a2
   |false=>
    show Sm l _ _ B D _ _ (((run l base n .field>>=fun _=>run l base n .wM)>>=_) s1)
    refine uw (F:=Bv 66) (C1:=cFi++[67,110,111]) hL a1 (AP c2 ζ ζ ζ) (aI x 7) (.inl (υ _)) ?_ θ θ fun v s2 r2 jM _ b1 b2 b3=>fw b1 θ b3 η
    refine dV hL (.me (p:=r1.af) a3.le) (i.fie _ _ _ a3) jW (υ _) ζ rfl θ fun v s2 r2 jM _ b1 b2 b3 _=>?_
    rw[←wR (run l base n .wM),Yu (it:= .field) (R:= .wM) (by funext s;rw[run];rfl) (fun n s=>by rw[run])]
    exact kU (q:=r2.af) (p':=r1.af+1) (C1:=cFi++[67,110,111]) (V:=tt) hL b1 (Ic hL ζ θ θ (fun s r D hr h=>⟨(fun h=>(by cases h)),fun _=>lU (C:=[67,110,111]) θ (tJ hr h)⟩) (fun k hk x s D hx=>(ih k η).fie x s D hx) b3) (υ _) jW b2 (.inr (υ _)) (.inl (υ _)) θ θ fun v s3 r3 EO _ d1 d2 d3 _=>mr hL d1 (υ _) θ jW d3 trivial
end
def cQ:List Nat:=[14,30,42,46]
def EU:List Nat:=[74,14,30,42,46]
def qK(k:Nat):Bool:=aJ cQ k
section
variable {l:List Ct} {base:Bs→Bool} {B:List Sd} {D D2:List Nd}
def Sk(l:List Ct)(lo hi:Nat):Prop:=∀i,lo≤i→i<hi→dJ l i [42]=true∨bz l i=1
def Vq(l:List Ct)(x r:Sx):Prop:=r.ah=x.ah∧r.ty=x.ty∧r.cl=x.cl∧Sk l x.af r.af
theorem Sk.refl(p:Nat):Sk l p p:=fun i h1 h2=>by omega
theorem Vq.refl(x:Sx):Vq l x x:=⟨rfl,rfl,rfl,Sk.refl _⟩
theorem Sk.trans{a b c:Nat}(h:Sk l a b)(h2:Sk l b c):Sk l a c:=fun i h3 h4=>by
 rcases agi i b with h5|h5
 ·exact h i h3 h5
 ·exact h2 i h5 h4
theorem Vq.trans{x y z:Sx}(h:Vq l x y)(h2:Vq l y z):Vq l x z:=⟨h2.1.trans h.1,h2.2.1.trans h.2.1,h2.2.2.1.trans h.2.2.1,h.2.2.2.trans h2.2.2.2⟩
def qT(l:List Ct)(s:Ps):Prop:=(az l s 0).c=1∧(spec (az l s 0).t=3∨spec (az l s 0).t=4∧aX l s 1 [40]=false)
instance (l:List Ct) (s:Ps):Decidable (qT l s):=inferInstanceAs (Decidable ((az l s 0).c=1∧(spec (az l s 0).t=3∨spec (az l s 0).t=4∧aX l s 1 [40]=false)))
theorem afB:∀u<110,(uY u=3↔aJ [14,30,42] u=true)∧(uY u=4↔u=46):=by decide+kernel
theorem ajc:∀k<KN,qK k=true↔(aJ [14,30,42] (un k)=true∨k=46):=by decide+kernel
theorem R6{s:Ps}{x:Sx}(h:Rl l B D s x):qT l s↔qK (kd l x.env x.af)=true:=by
 have hc:(az l s 0).c=bz l x.af:=by rw[h.af];exact ku s 0
 have ht:(az l s 0).t=bM l x.af:=by rw[h.af];rfl
 have hu:=jI (l:=l) x.env x.af
 rw[ajc _ (jP ..),eY]
 unfold qT
 rw[hc,ht,x8 h rfl ζ]
 by_cases c:bz l x.af=1
 ·rw[Aa x.env c,(afB _ hu).1,(afB _ hu).2]
  refine⟨fun⟨_,h⟩=>h.elim .inl fun⟨a,b⟩=> .inr ?_,fun h=>⟨c,h.elim .inl fun a=> .inr ?_⟩⟩
  ·have:=(xC _ (jI (l:=l) x.env (x.af+1))).2.2.2
   rw[mU a];rw[show bg [40]=60 by decide]at b;rw[b]at this
   have e:iK 46 (k1 l x.env (x.af+1))≠116:=fun e=>by rw[e]at this;cases this
   unfold iK at e⊢;simp at e⊢;exact e
  ·have a1:k1 l x.env x.af=46:=by rw[←eY,a];rfl
   refine⟨a1,?_⟩;have:=(xC _ (jI (l:=l) x.env (x.af+1))).2.2.2;rw[mU a1]at a;rw[a]at this;exact this
 ·refine⟨fun h=>absurd h.1 c,fun h=>?_⟩
  have n0:k1 l x.env x.af<10∨53≤k1 l x.env x.af:=by
   unfold k1
   split
   ·left;decide
   ·unfold k0 uS
    rw[χ c]
    repeat' split
    all_goals omega
  have:∀u<110,(u<10∨53≤u)→aJ [14,30,42] u=false∧u≠46:=by decide+kernel
  have:=this _ hu n0
  rcases h with h|h
  ·rw[this.1]at h;cases h
  ·exact absurd (by rw[←eY,h];rfl) this.2
theorem DK(x:Sx):dl l (.call kL x)=some (jC x (qK (kd l x.env x.af))):=by
 have hs:∀u,bg u≠0→bg u≠1→bg u≠2→aO (kd l x.env x.af) u=true→ed l x ([.tx u],0)=some [up x]:=fun u h0 h1 h2 hh=>by
  show wr _ (dl l (.seq [.tx u] x.af [fr x]))=_;rw[bH (dL (r:=fr x) _ h0 hh h1 h2),dH];show some [bn x (up (fr x)) 0]=_;unfold bn up fr;simp
 cases c:qK (kd l x.env x.af)with
 |false=>exact vU (c:=fun k=>!qK k) ζ θ (by rw[c];rfl)
 |true=>
  have h4:=mP (c:=qK) (d:=fun k=>aO k Rb||aO k Q8||aO k Q9||k==46) θ (jP ..) c
  rcases ack _ _▸h4 with h4|h4
  ·rcases ack _ _▸h4 with h4|h4
   ·rcases ack _ _▸h4 with h4|h4
    ·rw[lV 0 (c:=fun k=>aO k Rb) ζ rfl θ h4,hs Rb ζ ζ ζ h4];rfl
    ·rw[lV 1 (c:=fun k=>aO k Q8) ζ rfl θ h4,hs Q8 ζ ζ ζ h4];rfl
   ·rw[lV 2 (c:=fun k=>aO k Q9) ζ rfl θ h4,hs Q9 ζ ζ ζ h4];rfl
  ·rw[lV 3 (c:=fun k=>k==46) ζ rfl θ h4]
   have hk:kd l x.env x.af=46:=aaZ.1 h4
   have e:ed l x ([.tx Eh, .nm Nv],0)=some [up x]:=by
    show wr _ (dl l (.seq _ x.af [fr x]))=_
    have hn:dJ l (up (fr x)).af [40]=false:=by
     have a1:k1 l x.env x.af=46:=by rw[←eY,hk];rfl
     have:=(xC _ (jI (l:=l) x.env (x.af+1))).2.2.2;rw[mU a1]at hk;rw[hk]at this;rw[iZ x.env _ ζ];show(un (kd l x.env (x.af+1))==_)=false;rw[eY];exact this
    rw[bH (dL (r:=fr x) _ ζ (by show aO (kd l x.env x.af) _=true;rw[hk];decide)),bH (z:=up (fr x)) (by rw[iW ζ];show some (if dJ l (up (fr x)).af [40]=false then[up (fr x)]else[])=_;rw[ω hn]),dH];show some [bn x (up (fr x)) 0]=_;unfold bn up fr;simp
   rw[e];rfl
def qL(l:List Ct):Nat→Pm Unit
 |0=>FJ
 |m+1=>fun s=>if qT l s then qL l m (bU s)else .ok () s
theorem adt:∀(m:Nat) (s:Ps),qL l m s= .out∨qL l m s= .ok () {s with af:=kZ l m s}
 |0,s=> .inl rfl
 |m+1,s=>by
  unfold qL kZ;by_cases c:qT l s
  ·have c':=c
   unfold qT at c';rw[ω c,ω c'];exact adt m _
  ·have c':=c
   unfold qT at c';rw[χ c,χ c'];exact .inr rfl
theorem Yw:∀(m:Nat) (s:Ps),0<m→l.length<s.af+m→qL l m s≠ .out
 |0,s,h0,h=>absurd h0 (agn 0)
 |m+1,s,h0,h=>by
  unfold qL;by_cases c:qT l s
  ·rw[ω c]
   have hl:s.af+0<l.length:=Ce (by rw[←ku,c.1];decide);exact Yw m _ η (by show l.length<s.af+1+m;omega)
  ·rw[χ c];intro e;cases e
def mvK{β:Type}(p:Nat)(k:Bool→Pm β):Pm β:=fun s1=>k (decide (p<s1.af)) s1
theorem WB{β:Type}(k:Bool→Pm β)(s:Ps):(kS l>>=k) s=(qL l (l.length - s.af+1)>>=fun _=>mvK s.af k) s:=by
 show Pm.bind _ _ s=Pm.bind _ _ s
 unfold Pm.bind kS
 rcases adt (l:=l) (l.length - s.af+1) s with e|e
 ·exact absurd e (Yw _ _ η η)
 ·rw[e];rfl
theorem KR{m f:Nat}{s:Ps}{r:Sx}(hL:l.length≤90)(hr:Rl l B D s r):Sm l r.af cQ B D (fun _ _ r1=>Vq l r r1) (dl l (.ay (.bV [[.nm kL]]) r f)) (qL l m s):=by
 refine xW (C:=[]) (I:=fun(_:Unit) _ r1=>Vq l r r1) (loop:=fun m _=>qL l m) (i:=()) hL rfl rfl (fun m _ s r1 hm hr hi=>?_) hr (Vq.refl r)
 cases m with
 |zero=>exact .inr (.inl rfl)
 |succ m=>
  have es:qL l (m+1) s=if qT l s then qL l m (bU s)else .ok () s:=rfl
  cases c:qK (kd l r1.env r1.af)with
  |true=>
   have hk:=mP (c:=qK) (d:=fun k=>un k !=0) θ (jP ..) c;have hu:=hr.up (acm.1 hk)
   have hkc:aJ cQ (kc l r1.af)=true:=by
    have h:=yV (l:=l) r1.env r1.af;have:=(Θ.1 (mP (c:=qK) (d:=fun k=>(List.range KN).all fun c=>!aJ (Bu c) k||aJ cQ c) θ (jP ..) c)) (kc l r1.af) (acD.2 (DF r1.af));rw[aU.2 h]at this;exact this
   refine .inr (.inr ⟨hkc,m,fun s=> .ok Va.un (bU s),fun _=>(),aar m,by show qL l (m+1) s=_;rw[es,ω ((R6 hr).2 c)];rfl,?_⟩);rw[ou,bH (z:=up r1) (by rw[fe ζ,DK,c];rfl),dH];refine .ay rfl (υ _) hu (hi.trans ⟨rfl,rfl,rfl,fun i h1 h2=> .inr ?_⟩);have h2:i<r1.af+1:=h2
   obtain rfl:i=r1.af:=by omega
   have:=((R6 hr).2 c).1;rw[ku,←hr.af]at this;exact this
  |false=>
   refine .inl ⟨?_,(),by show qL l (m+1) s=_;rw[es,χ fun h=>by have:=(R6 hr).1 h;rw[c]at this;cases this],hi⟩
   exact rG fun y hy=>by rw[Φ.1 hy];exact il (by rw[fe ζ,DK,c];rfl)
theorem R7{β:Type}{P p p':Nat}{C C2:List Nat}{V2:β→Ps→Sx→Prop}{xs:List Sx}{r:Sx}{ys:List Sy}{f:Nat}{k:Bool→Pm β}{s:Ps}{g:Sx→Sx}(hL:l.length≤90)(hF:Fr l p C xs r)(hr:Rl l B D s r)(hg:Kp g)(hp:p'≤p)(hP:P≤p'∨qm [] (lv C (.bV [[.nm kL]])++cQ) ys=true)(hs:zH C (.bV [[.nm kL]])=true)(ht:qm C2 (lv C (.bV [[.nm kL]])++cQ) ys=true)
  (hk:∀s1 r1 gB,Fr l p' (lv C (.bV [[.nm kL]])++cQ) gB r1→r.af≤r1.af→Rl l B D s1 r1→Vq l r r1→Sm l P C2 B D2 V2 (wr g (dl l (.seq ys f gB))) (k (decide (r.af<r1.af)) s1)):Sm l P C2 B D2 V2 (wr g (dl l (.seq (.bV [[.nm kL]]::ys) f xs))) ((kS l>>=k) s):=by
 rw[WB]
 refine kU (q:=r.af) (p':=p') (C1:=cQ) hL hF (KR hL hr) (υ _) hg (aaT hp hF.lo.1) (.inr hp) hP hs ht fun v s1 r1 gB _ h1 h2 h3 h4=>?_
 have:=hk s1 r1 gB h1 h2 h3 h4
 unfold mvK
 rw[h3.af,hr.af]at this
 exact this
theorem aaX{m f:Nat}{s:Ps}{r:Sx}(hL:l.length≤90)(hr:Rl l B D s r):Sm l r.af EU B D (fun v _ r1=>Vq l r r1∧v=Va.bo (decide (r.af<r1.af))∧(r.af<r1.af→dJ l r.af [42]=true)∧aO (kd l r1.env r1.af) [42]=false) (dl l (.ay (.bV [[.nm Br]]) r f)) (run l base m (.lg false) s):=by
 refine xW (C:=cQ) (I:=fun(b:Bool) _ r1=>Vq l r r1∧b=decide (r.af<r1.af)∧r.af≤r1.af∧(r.af<r1.af→dJ l r.af [42]=true)) (loop:=fun m b=>run l base m (.lg b)) (i:=false) hL θ ζ (fun m b s r1 hm hr1 hi=>?_) hr ⟨Vq.refl r,by simp,υ _,fun h=>absurd h (agn _)⟩
 obtain⟨h1,h2,h3,h4⟩:=hi
 cases m with
 |zero=>exact .inr (.inl (by show run l base 0 _ s=_;rw[run]))
 |succ m=>
  have hq:=iQ hr1 (t:=[42]) rfl ζ
  have er:run l base (m+1) (.lg b) s=(fU l [42]>>=fun c=>if c=true then kS l>>=fun _=>run l base m (.lg true)else pure (Va.bo b)) s:=by rw[run]
  cases c:aO (kd l r1.env r1.af) [42]with
  |false=>
   refine .inl ⟨mq (c:=fun k=>!aO k [42]) θ (by rw[c];rfl),Va.bo b,?_,h1,by rw[h2],h4,c⟩;show run l base (m+1) (.lg b) s=_;rw[er,dM (hq.trans c)];rfl
  |true=>
   have hu:=hr1.up (dQ ζ c);refine .inr (.inr ⟨by rw[kz c (c:=74) ζ ζ ζ];decide,m,fun s=>(kS l>>=fun _=>pure Va.un) (bU s),fun _=>true,aar m,?_,?_⟩)
   ·show run l base (m+1) (.lg b) s=_
    rw[er,dM (hq.trans c)];show(kS l>>=fun _=>run l base m (.lg true)) (bU s)=((kS l>>=fun _=>pure Va.un)>>=fun _=>run l base m (.lg true)) (bU s);rw[bG];rfl
   ·rw[ou]
    have hst:Sm l (r1.af+1) cQ B D (fun(_:Va) _ r2=>Vq l r1 r2) (dl l (.call Br r1)) ((kS l>>=fun _=>pure Va.un) (bU s)):=by
     refine dY 0 (w:=Br) hL (c:=fun _=>true) ζ rfl θ rfl ?_;have hf:=hr1.fr;have hu2:=hf.up (x:=fr r1) (dQ ζ c);rw[bH (dL (r:=fr r1) _ ζ c)]
     refine R7 (p':=r1.af+1) hL (.me (p:=r1.af+1) hu2.le) hu2 (aI r1 0) (υ _) (.inl (υ _)) rfl θ fun s2 r2 jM a1 a2 a3 a4=>?_
     refine mr hL a1 (υ _) θ (aI r1 0) (hr1.EM a3) ⟨?_,rfl,rfl,?_⟩
     ·show r1.ah++r2.ah=_
      rw[a4.1];exact List.append_nil _
     ·intro i i1 i2
      by_cases e:i=r1.af
      ·left
       rw[e,iZ r1.env _ ζ];exact c
      ·exact a4.2.2.2 i (by show r1.af+1≤i;omega) i2
    have e9:dl l (.seq [.nm Br] r1.af [r1])=(dl l (.call Br r1)).bind aG:=by
     rw[bJ,bX,fe ζ]
     cases(dl l (.call Br r1)).bind aG with
     |none=>rfl
     |some z=>exact dH _ z
    rw[e9]
    refine((hst.aG hL).aG hL).mono (υ _) (by rw[Θ];exact fun x hx=>aU.2 hx) fun v s2 r2 b1 _ b3=>?_
    refine⟨h1.trans b3,(aa4 η).symm,by omega,fun _=>?_⟩;by_cases e:r.af<r1.af
    ·exact h4 e
    ·have:r.af=r1.af:=by omega
     rw[this,iZ r1.env _ ζ];exact c
end
def VT{α:Type}(kk:Nat)(x:Sx)(_:α)(_:Ps)(r:Sx):Prop:=∃t,VK x r t∧t.k=kk
def WC(k:Nat):Bool:=aO k [91]
def DL:List (List Sy):=[[.jy [[.nm jk],[.tx [42]]]]]
section
variable {l:List Ct} {base:Bs→Bool} {B:List Sd} {D D2:List Nd}
theorem CK{C:List Nat}{a:List (List Sy)}{f:Nat}(h:(C.all fun c=>(Bu c).all fun k=>FZ a k)=true):∀{xs:List Sx},(∀x∈xs,aJ C (kc l x.af)=true)→bu (fun s=>dl l (.ay (.dO a) s f)) xs=some xs
 |[],_=>rfl
 |t::r,hx=>by
  have h1:=(Θ.1 ((Θ.1 h) _ (aU.1 (hx t (ab6 ..))))) _ (yV t.env t.af);rw[di,vO (Ib h1),CK h fun x hx'=>hx x (abM _ hx')];rfl
variable {C : List Nat}{xs : List Sx}{f : Nat}
theorem WE (h:(C.all fun c=>dd c (.tx [93]))=true)(hx:∀x∈xs,aJ C (kc l x.af)=true):bu (fun s=>dl l (.ay (.tx [93]) s f)) xs=some []:=ja fun x hx'=>wQ ((Θ.1 h) _ (aU.1 (hx x hx'))) rfl f
theorem aaY{p f:Nat}{xs W:List Sx}{r:Sx}{ys:List Sy}(hL:l.length≤90)(hF:Fr l p cQ xs r)(h:dl l (.ay (.dO DL) r f)=some (r::W))(hW:W.length≤800)(hm:aO (kd l r.env r.af) [93]=false):dl l (.seq (.dO DL:: .tx [93]::ys) f xs)=dl l (.seq (.tx [93]::ys) f W):=by
 have hlen:=hF.1.len
 obtain⟨-,A,Z,rfl,jK⟩:=hF
 have hA:∀x∈A,aJ cQ (kc l x.af)=true:=fun x hx=>(jK x (aby _ hx)).1
 have hZ:∀x∈Z,aJ cQ (kc l x.af)=true:=fun x hx=>(jK x (abD _ hx)).1
 rw[bJ,mi,di,CK θ hA,CK θ hZ,h]
 show((aG (A++((r::W)++Z))).bind _)=_
 rw[nY (by simp at hlen⊢;omega),Ξ,bJ,bJ,mi,List.cons_append,di,mi,WE θ hA,WE θ hZ,kM f ζ hm]
 cases bu (fun s=>dl l (.ay (.tx [93]) s f)) W<;>simp
def R8(l:List Ct)(A:Pm Va):Pm Va:=eu l 0 [93]>>=fun b=>if b=true then pure Va.un else eu l 0 [42]>>=fun c=>eu l 1 [93]>>=fun d=>if(c&&d)=true then step l 1>>=fun _=>pure Va.un else A
variable {n p : Nat}
theorem adu (hL:l.length≤90)(iha:dZ l base B (.call jk) .assign lI (fun x=>VU x) n){x r:Sx}{s s1:Ps}(hx:Rl l B D s x)(hF:Fr l p cQ xs r)(hr:Rl l B s.done s1 r)(hp:x.af+1≤r.af):Sm l (x.af+1) [] B D (VT 15 x) (wr (fun r=>bn x r 15) (dl l (.seq [.dO DL, .tx [93]] f xs))) ((R8 l (run l base n .assign)>>=fun _=>bY l [93]>>=fun _=>node l 15 (s.af,s.done.length)>>=fun _=>pure Va.un) s1):=by
 unfold R8
 have h1:=iQ hr (t:=[93]) rfl ζ
 rw[bG,jL,h1]
 have fw:∀{r2 s2},Rl l B s.done s2 r2→x.af+1≤r2.af→aO (kd l r2.env r2.af) [93]=true→Sm l (x.af+1) [] B D (VT 15 x) (wr (fun r=>bn x r 15) (dl l (.seq [.tx [93]] f [r2]))) ((bY l [93]>>=fun _=>node l 15 (s.af,s.done.length)>>=fun _=>pure Va.un) s2):=fun a1 a2 _=>eD (.me (p:=x.af) a1.le η) a1 η rfl ζ ζ ζ rfl fun a4 a5=>dR hL a4 η rfl ζ hx a5 fun h=>⟨_,h,rfl⟩
 cases c:aO (kd l r.env r.af) [93]with
 |true=>
  obtain⟨xs',e,h2⟩:=ow (ys:=[.tx [93]]) (f:=f) (a:=DL) hL hF (c:=fun k=>aO k [93]) θ c θ;rw[e]
  exact eD h2 hr η rfl ζ ζ ζ θ fun a4 a5=>dR hL a4 η rfl ζ hx a5 fun h=>⟨_,h,rfl⟩
 |false=>
  show Sm l _ _ B D _ _ (((eu l 0 [42]>>=fun c=>eu l 1 [93]>>=fun d=>if(c&&d)=true then step l 1>>=fun _=>pure Va.un else run l base n .assign)>>=_) s1);have h2:=iQ hr (t:=[42]) rfl ζ;rw[bG,jL,bG,jL,h2,x8 hr (t:=[93]) rfl ζ]
  have hk:(aO (kd l r.env r.af) [42]&&(k1 l r.env (r.af+1)==bg [93]))=(kd l r.env r.af==112):=by
   unfold aO;rw[eY];by_cases c:k1 l r.env r.af=74
   ·rw[mU c,c,←(xC _ (jI ..)).2.2.1];rfl
   ·rw[show bg [42]=74 by decide,abF c]
    exact(abF fun e=>c (by rw[←eY,e];rfl)).symm
  rw[hk]
  have hin:∀o,gT l [[.nm jk],[.tx [42]]] r=o→dl l (.ay (.dO DL) r f)=(o.bind aG).bind fun z=>(aG z).bind fun z=>aG (r::z):=fun o h=>by
   rw[wO];show(gT l [[.jy [[.nm jk],[.tx [42]]]]] r).bind _=_;rw[ou,bJ,bX,wP,h]
   cases o.bind aG with
   |none=>rfl
   |some z=>rw[Ξ,dH];rfl
  by_cases c3:kd l r.env r.af=112
  ·rw[c3]
   have ha:gT l [[.nm jk],[.tx [42]]] r=some [up r]:=by
    refine Eq.trans (vV 1 rfl (c:=fun k=>k==112) θ (aaZ.2 c3)) ?_;rw[bH (dL _ ζ (by rw[c3];decide)),dH];rfl
   rw[aaY hL hF (W:=[up r]) (by rw[hin _ ha];rfl) (by show 1≤800;decide) c];have hu:=hr.up (dQ (t:=[42]) ζ (by rw[c3];decide));show Sm l _ _ B D _ _ (((step l 1>>=fun _=>pure Va.un)>>=_) s1);rw[bG,sS hr (dQ (t:=[42]) ζ (by rw[c3];decide))];refine fw hu (by show x.af+1≤r.af+1;omega) ?_
   have a1:k1 l r.env r.af=74:=by rw[←eY,c3];rfl
   have:=(xC _ (jI (l:=l) r.env (r.af+1))).2.2.1;rw[mU a1]at c3;rw[c3]at this;show(un (kd l r.env (r.af+1))==_)=true;rw[eY];exact this
  ·rw[abF c3]
   show Sm l _ _ B D _ _ ((run l base n .assign>>=_) s1);have hi:=iha r s1 s.done hr
   obtain⟨sw,hsw,hsl,hsm⟩:∃sw,dl l (.seq [.tx [42]] r.af [r])=some sw∧sw.length≤1∧bu (fun s=>dl l (.ay (.tx [93]) s f)) sw=some []:=by
    cases c4:aO (kd l r.env r.af) [42]with
    |false=>exact⟨[],il (kM _ ζ c4),Ω _,rfl⟩
    |true=>
     refine⟨[up r],by rw[bH (dL _ ζ c4),dH],υ _,?_⟩;rw[bX];refine kM f ζ ?_
     have a1:k1 l r.env r.af=74:=by rw[←eY];exact aaZ.1 c4
     have:=(xC _ (jI (l:=l) r.env (r.af+1))).2.2.1;rw[mU a1]at c3;show(un (kd l r.env (r.af+1))==_)=false;rw[eY,show bg [93]=63 by decide,this];exact abF c3
   have eqA:∀aw,dl l (.call jk r)=some aw→eP l (r.af+1) aw→dl l (.seq [.dO DL, .tx [93]] f xs)=dl l (.seq [.tx [93]] f aw):=fun aw h hd=>by
    have hl:=hd.len
    have ha:gT l [[.nm jk],[.tx [42]]] r=some (aw++sw):=by
     unfold gT;rw[di,bX,hsw,bJ,bX,fe ζ,h,Ξ,hd.aG hL,Ξ,dH];exact nY (by rw[Δ];omega)
    have l1:(aw++sw).length≤800:=by rw[Δ];omega
    rw[aaY hL hF (W:=aw++sw) (by rw[hin _ ha,Ξ,nY η,Ξ,nY η,Ξ,nY (by rw[aaJ];omega)]) l1 c,bJ,bJ,mi,hsm]
    cases bu (fun s=>dl l (.ay (.tx [93]) s f)) aw<;>simp
   rw[jR];unfold Pm.bind
   cases e:run l base n .assign s1 with
   |out=>trivial
   |no=>
    rw[e]at hi;obtain⟨aw,b1,b2⟩:=hi;rw[eqA aw b1 b2.1];obtain⟨u,d1,d2⟩:=zY (C2:=[]) hL f (ys:=[.tx [93]]) θ b2
    have:u=[]:=acs.2 fun x hx=>by have:=d2.2 x hx;cases this
    rw[d1,this];exact .nil rfl
   |ok v s2=>
    rw[e]at hi;obtain⟨aw,r2,b1,b2,b3, -⟩:=hi;rw[eqA aw b1 b2.1];have:=b2.lo.1
    exact eD b2 b3 η rfl ζ ζ ζ θ fun a4 a5=>dR hL a4 η rfl ζ hx a5 fun h=>⟨_,h,rfl⟩
theorem ajd{p f:Nat}{C:List Nat}{xs:List Sx}{r:Sx}{ys:List Sy}(hL:l.length≤90)(hF:Fr l p C xs r){c:Nat}(hc:kc l r.af=c)(ht:qm [] (c::C) ys=true):dl l (.seq ys f xs)=some []:=by
 have ha:Al l p (c::C) xs:=⟨hF.1,fun x hx=>by
  rcases hF.mem.2 x hx with rfl|h
  ·rw[hc];exact aU.2 (ab6 ..)
  ·exact aU.2 (abM _ (aU.1 h.1))⟩
 obtain⟨u,h1,h2⟩:=zY hL f ht ha
 have:u=[]:=acs.2 fun x hx=>by have:=h2.2 x hx;cases this
 rw[h1,this]
theorem aa0 {ys:List Sy}(hL:l.length≤90)(ha:Al l p C xs)(ht:qm [] C ys=true):dl l (.seq ys f xs)=some []:=by
 obtain⟨u,h1,h2⟩:=zY hL f ht ha
 have:u=[]:=acs.2 fun x hx=>by have:=h2.2 x hx;cases this
 rw[h1,this]
def R9(l:List Ct)(s:Ps):Pm Va:=bY l [93]>>=fun _=>node l 15 (s.af,s.done.length)>>=fun _=>pure Va.un
theorem aa1(n:Nat)(s:Ps)(h:aX l s 0 [91]=true):run l base (n+1) .array s=(if iX l (bU s) pM=true then(kS l>>=fun _=>run l base n .assign>>=fun _=>R9 l s) (bU (bU s))else(kS l>>=fun q=>(if q=true then fC l pM else pure false)>>=fun st=>(if st=true then run l base n .assign else R8 l (run l base n .assign))>>=fun _=>R9 l s) (bU s)):=by
 rw[run,fD,sQ h]
 show(fC l pM>>=_) (bU s)=_
 cases c:iX l (bU s) pM with
 |true=>
  rw[lH c,ω rfl];show((kS l>>=fun _=>run l base n .assign)>>=fun _=>R9 l s) (bU (bU s))=_;rw[bG,ω rfl]
 |false=>
  rw[lH c,χ ζ];show((kS l>>=fun q=>if q=true then fC l pM>>=fun st=>if st=true then run l base n .assign else R8 l (run l base n .assign)else pure false>>=fun st=>if st=true then run l base n .assign else R8 l (run l base n .assign))>>=fun _=>R9 l s) (bU s)=_;rw[bG,χ ζ];refine congrFun (afz (fun f=>kS l>>=f) (funext fun q=>?_)) (bU s);cases q
  ·rfl
  ·simp only[if_true,bG]
variable {m : Nat}
theorem Yx (hL:l.length≤90)(iha:∀k,k<m→dZ l base B (.call jk) .assign lI (fun x=>VU x) k):qH l base B WC (.call qJ) .array [] (fun x=>VT 15 x) m:=by
 intro x s D hx hk
 cases m with
 |zero=>rw[run];trivial
 |succ n=>
  have ia:=iha n (aar n);have hf:=hx.fr;have hu0:un (kd l x.env x.af)≠0:=dQ (t:=[91]) ζ hk;have hu:=hf.up (x:=fr x) hu0
  have e0:dl l (.call qJ x)=(((wr (fun r=>bn x r 15) (dl l (.seq [.bV [[.nm kL]], .dO DL, .tx [93]] x.af [up (fr x)]))).bind fun a=>(wr (fun r=>bn x r 15) (dl l (.seq [.tx pM, .bV [[.nm kL]], .nm jk, .tx [93]] x.af [up (fr x)]))).bind fun b=>(wr (fun r=>bn x r 15) (dl l (.seq [.nm kL, .bV [[.nm kL]], .tx pM, .nm jk, .tx [93]] x.af [up (fr x)]))).bind fun c=>some (a++(b++c))).bind aG):=by
   rw[vP (R:=⟨qJ,[[.tx [91], .bV [[.nm kL]], .dO DL, .tx [93]],[.tx [91], .tx pM, .bV [[.nm kL]], .nm jk, .tx [93]],[.tx [91], .nm kL, .bV [[.nm kL]], .tx pM, .nm jk, .tx [93]],[.tx [40], .nm NA, .dO [[.nm FT, .bV [[.tx [44], .nm FT]], .dO [[.tx [44], .tx uR]]]], .tx [41], .nm Ei]],[15,15,15,16]⟩) ζ rfl]
   have h1:∀(ys:List Sy),ed l x (.tx [91]::ys,15)=wr (fun r=>bn x r 15) (dl l (.seq ys x.af [up (fr x)])):=fun ys=>by
    show wr _ (dl l (.seq (.tx [91]::ys) x.af [fr x]))=_;rw[bH (dL (r:=fr x) _ ζ hk)]
   have h2:∀ys,ed l x (.tx [40]::ys,16)=some []:=fun ys=>by
    show wr _ (dl l (.seq (.tx [40]::ys) x.af [fr x]))=_;rw[il (kM (r:=fr x) _ ζ (mP (c:=WC) (d:=fun k=>!aO k [40]) θ (jP x.env x.af) hk|>(af9 _).mp))];rfl
   show(bu (ed l x) [_,_,_,_]).bind aG=_;rw[di,di,di,bX,h1,h1,h1,h2]
   congr 1
   cases wr (fun r=>bn x r 15) (dl l (.seq [.bV [[.nm kL]], .dO DL, .tx [93]] x.af [up (fr x)]))<;>cases wr (fun r=>bn x r 15) (dl l (.seq [.tx pM, .bV [[.nm kL]], .nm jk, .tx [93]] x.af [up (fr x)]))<;>cases wr (fun r=>bn x r 15) (dl l (.seq [.nm kL, .bV [[.nm kL]], .tx pM, .nm jk, .tx [93]] x.af [up (fr x)]))<;>simp
  have Ij:∀{a b c o:Option (List Sx)} {R:Rs Va},Sm l (x.af+1) [] B D (VT 15 x) o R→(a=o∧b=some []∧c=some []∨a=some []∧b=o∧c=some []∨a=some []∧b=some []∧c=o)→Sm l (x.af+1) [] B D (VT 15 x) ((a.bind fun a=>b.bind fun b=>c.bind fun c=>some (a++(b++c))).bind aG) R:=fun{a b c o R} h hc=>by
   have:(a.bind fun a=>b.bind fun b=>c.bind fun c=>some (a++(b++c)))=o:=by
    rcases hc with⟨rfl,rfl,rfl⟩|⟨rfl,rfl,rfl⟩|⟨rfl,rfl,rfl⟩
    ·cases a<;>simp
    ·cases b<;>simp
    ·cases c<;>simp
   rw[this];exact h.aG hL
  have w0:∀{o:Option (List Sx)},o=some []→wr (fun r=>bn x r 15) o=some []:=fun{o} h=>by rw[h];rfl
  rw[e0,aa1 n s ((iQ hx rfl ζ).trans hk)];have hs:=CF hu (t:=pM) rfl ζ
  have fw:∀{p C r2 s2 xs},Fr l p C xs r2→(C.all fun c=>dd c (.nm jk))=true→Rl l B s.done s2 r2→x.af+1≤r2.af→Sm l (x.af+1) [] B D (VT 15 x) (wr (fun r=>bn x r 15) (dl l (.seq [.nm jk, .tx [93]] x.af xs))) ((run l base n .assign>>=fun _=>R9 l s) s2):=fun{p C r2 s2 xs} a0 ad a1 a2=>dV hL a0 (ia _ _ _ a1) (aI x 15) η ζ ad θ fun v s3 r3 EO _ b1 b2 b3 _=>eD b1 b3 η rfl ζ ζ ζ θ fun a4 a5=>dR hL a4 η rfl ζ hx a5 fun h=>⟨_,h,rfl⟩
  cases c:aO (kd l (up (fr x)).env (up (fr x)).af) pM with
  |true=>
   rw[ω (hs.trans c)];have d0:dl l (.seq [.bV [[.nm kL]], .dO DL, .tx [93]] x.af [up (fr x)])=some []:=dN snd 8 _ _ _ _ (mP (c:=fun k=>aO k pM) (d:=fun k=>jb uX 8 k [.bV [[.nm kL]], .dO DL, .tx [93]]) θ (jP ..) c) rfl;have d2:dl l (.seq [.nm kL, .bV [[.nm kL]], .tx pM, .nm jk, .tx [93]] x.af [up (fr x)])=some []:=dN snd 8 _ _ _ _ (mP (c:=fun k=>aO k pM) (d:=fun k=>jb uX 8 k [.nm kL, .bV [[.nm kL]], .tx pM, .nm jk, .tx [93]]) θ (jP ..) c) rfl;refine Ij ?_ (.inr (.inl ⟨w0 d0,rfl,w0 d2⟩));have hu2:=hu.up (dQ (t:=pM) ζ c);rw[bH (dL _ ζ c)]
   exact R7 (p':=x.af+1) hL (.me (p:=x.af+1) hu2.le (abK _)) hu2 (aI x 15) (υ _) (.inl (υ _)) rfl θ fun s2 r2 jM a1 a2 a3 a4=>fw a1 θ a3 (by have:x.af+1+1≤r2.af:=a2;omega)
  |false=>
   rw[χ (by rw[hs,c];decide)];have d1:dl l (.seq [.tx pM, .bV [[.nm kL]], .nm jk, .tx [93]] x.af [up (fr x)])=some []:=il (kM _ ζ c);rw[WB];have q0:=KR (m:=l.length - (bU s).af+1) (f:=x.af) hL hu
   have ed1:dl l (.seq [.bV [[.nm kL]], .dO DL, .tx [93]] x.af [up (fr x)])=((dl l (.ay (.bV [[.nm kL]]) (up (fr x)) x.af)).bind aG).bind fun z=>dl l (.seq [.dO DL, .tx [93]] x.af z):=by rw[bJ,bX]
   rcases adt (l:=l) (l.length - (bU s).af+1) (bU s)with e|e
   ·exact absurd e (Yw _ _ η η)
   rw[jo e];rw[e]at q0;obtain⟨zs,r1,b1,b2,b3,b4⟩:=q0;rw[b1,Ξ,b2.1.aG hL,Ξ]at ed1;have hr1:x.af+1≤r1.af:=b2.lo.1;have hs1:=CF b3 (t:=pM) rfl ζ
   have hmv:decide ((bU s).af<kZ l (l.length - (bU s).af+1) (bU s))=decide (x.af+1<r1.af):=by
    have h1:r1.af=kZ l (l.length - (bU s).af+1) (bU s):=b3.af;have h2:(bU s).af=x.af+1:=hu.af.symm;rw[h2]at h1⊢;rw[←h1]
   show Sm l _ _ B D _ _ (((if decide ((bU s).af<kZ l (l.length - (bU s).af+1) (bU s))=true then fC l pM else pure false)>>=_) _);rw[hmv]
   have iA:(qK (kd l (up (fr x)).env (up (fr x)).af)=false∧r1.af=x.af+1)∨∃WG r2,(∀ys,dl l (.seq (.nm kL:: .bV [[.nm kL]]::ys) x.af [up (fr x)])=dl l (.seq ys x.af WG))∧Fr l (x.af+1) cQ WG r2∧Rl l B s.done {bU s with af:=kZ l (l.length - (bU s).af+1) (bU s)} r2∧x.af+1<r1.af:=by
    have es:qL l (l.length - (bU s).af+1) (bU s)=if qT l (bU s)then qL l (l.length - (bU s).af) (bU (bU s))else .ok () (bU s):=rfl
    cases cq:qK (kd l (up (fr x)).env (up (fr x)).af)with
    |false=>
     rw[es,χ fun h=>by have:=(R6 hu).1 h;rw[cq]at this;cases this]at e
     injection e with _ e
     refine .inl ⟨rfl,?_⟩;rw[b3.af,←e,←hu.af];rfl
    |true=>
     rw[es,ω ((R6 hu).2 cq)]at e;have hu2:=hu.up (acm.1 (mP (c:=qK) (d:=fun k=>un k !=0) θ (jP ..) cq));have q1:=KR (m:=l.length - (bU s).af) (f:=x.af) hL hu2;rw[e]at q1;obtain⟨WG,r2,d1,d2,d3,d4⟩:=q1;have h7:x.af+1+1≤r2.af:=d2.lo.1;refine .inr ⟨WG,r2,fun ys=>?_,d2.le (by show x.af+1≤x.af+1+1;omega) ζ,d3,by rw[b3.af,←d3.af];omega⟩;rw[bH (z:=up (up (fr x))) (by rw[fe ζ,DK,cq];rfl),bJ,bX,d1,Ξ,d2.1.aG hL];rfl
   have d2:¬(x.af+1<r1.af∧aO (kd l r1.env r1.af) pM=true)→dl l (.seq [.nm kL, .bV [[.nm kL]], .tx pM, .nm jk, .tx [93]] x.af [up (fr x)])=some []:=fun hn=>by
    rcases iA with⟨cq, -⟩|⟨WG,r2,h1,h2,h3,h4⟩
    ·exact il (by rw[fe ζ,DK,cq];rfl)
    ·rw[h1,bJ,ja fun z hz=>?_]
     ·exact lN _ _
     ·rcases h2.mem.2 z hz with rfl|h
      ·exact kM _ ζ ((acL _).mp fun q=>hn ⟨h4,hs1.symm.trans ((CF h3 (t:=pM) rfl ζ).trans q)⟩)
      ·exact wQ ((Θ.1 (by decide+kernel:(cQ.all fun c=>dd c (.tx pM))=true)) _ (aU.1 h.1)) rfl _
   by_cases c2:x.af+1<r1.af∧aO (kd l r1.env r1.af) pM=true
   ·rw[aa4 c2.1,ω rfl]
    have hst:=hs1.trans c2.2;rw[lH hst,ω rfl];have hkc:kc l r1.af=35:=kz c2.2 ζ ζ ζ;have d0:=ajd (f:=x.af) (ys:=[.dO DL, .tx [93]]) hL b2 hkc θ;rw[d0]at ed1;refine Ij ?_ (.inr (.inr ⟨w0 ed1,w0 d1,rfl⟩))
    rcases iA with⟨-,h1⟩|⟨WG,r2,h1,h2,h3,h4⟩
    ·omega
    ·have hq2:=(CF h3 (t:=pM) rfl ζ).symm.trans hst
     have h8:=h2.lo.1;rw[h1,Jy h2 (dL _ ζ hq2) θ θ];have hu2:=h3.up (dQ (t:=pM) ζ hq2);exact fw (.me (p:=x.af) hu2.le (by show x.af≤r2.af+1;omega)) rfl hu2 (by show x.af+1≤r2.af+1;omega)
   ·refine Ij ?_ (.inl ⟨by rw[ed1],w0 d1,w0 (d2 c2)⟩)
    have hst:((if decide (x.af+1<r1.af)=true then fC l pM else pure false)>>=fun st=>(if st=true then run l base n .assign else R8 l (run l base n .assign))>>=fun _=>R9 l s) {bU s with af:=kZ l (l.length - (bU s).af+1) (bU s)}=(R8 l (run l base n .assign)>>=fun _=>R9 l s) {bU s with af:=kZ l (l.length - (bU s).af+1) (bU s)}:=by
     by_cases c3:x.af+1<r1.af
     ·have c4:aO (kd l r1.env r1.af) pM=false:=(acL _).mp fun h=>c2 ⟨c3,h⟩
      rw[aa4 c3,ω rfl,lH (hs1.trans c4)];rfl
     ·rw[aa5 c3,χ ζ];rfl
    exact hst▸adu hL ia hx b2 b3 hr1
end
def Si:List Nat:=(List.range KN).filter fun c=>!aJ [67,110,111,61] c
def WH(k:Nat):Bool:=aO k [40]
def VP(x:Sx)(v:Va)(_:Ps)(r:Sx):Prop:=∃t,VK x r t∧t.k=16∧t.mf=v.jm
section
variable {l:List Ct} {base:Bs→Bool} {B:List Sd} {D D2:List Nd}
theorem WI:∀n,run l base n .su=(vZ l (fun n=>run l base n .qA) (fun s=>aX l s 1 uR) n>>=fun _=>fU l [44]>>=fun b=>if b=true then fU l uR>>=fun _=>pure Va.un else pure Va.un)
 |0=>by funext s;rw[run];rfl
 |n+1=>by
  funext s
  rw[run]
  cases c:aX l s 0 [44]with
  |false=>rw[dM c,jo (show vZ l _ _ (n+1) s= .ok Va.un s by rw[DI,χ fun h=>by rw[c]at h;cases h.1]),dM c];rfl
  |true=>
   rw[dM c];show(fU l uR>>=_) (bU s)=_;have e1:aX l (bU s) 0 uR=aX l s 1 uR:=rfl
   cases c2:aX l s 1 uR with
   |true=>
    rw[dM (e1.trans c2),jo (show vZ l _ _ (n+1) s= .ok Va.un s by rw[DI,χ fun h=>by rw[c2]at h;cases h.2]),dM c];show _=(fU l uR>>=_) (bU s);rw[dM (e1.trans c2)];rfl
   |false=>
    rw[dM (e1.trans c2),ER (show vZ l _ _ (n+1) s=(run l base n .qA>>=fun _=>vZ l _ _ n) (bU s) by rw[DI,ω ⟨c,c2⟩]),WI n,bG];rfl
theorem WJ{it:Nat→Pm Va}{stop:Ps→Bool}:∀{n:Nat} {s s1:Ps} {v:Va},vZ l it stop n s= .ok v s1→aX l s1 0 [44]=true→stop s1=true
 |0,s,s1,v,h,_=>(by cases h)
 |n+1,s,s1,v,h,h2=>by
  rw[DI]at h;by_cases c:aX l s 0 [44]=true∧stop s=false
  ·rw[ω c]at h
   obtain⟨_,s2, -,h3⟩:=uk h;exact WJ h3 h2
  ·rw[χ c]at h
   cases h
   cases e:stop s with
   |true=>rfl
   |false=>exact absurd ⟨h2,e⟩ c
theorem aje:∀m<110,(iK 67 m==111)=(m==105):=by decide+kernel
theorem afD(env:List (List Sd))(p:Nat):kd l env p=111↔kc l p=111:=by
 have h:=yV (l:=l) env p
 constructor
 ·intro e
  rw[e]at h
  have:∀c<KN,aJ (Bu c) 111=true→c=111:=by decide+kernel
  exact this _ (DF p) (aU.2 h)
 ·intro e
  rw[e]at h;exact Φ.1 h
theorem Yy{s:Ps}{r:Sx}(hr:Rl l B D s r)(h:aX l s 0 [44]=true):(kd l r.env r.af==111)=aX l s 1 uR:=by
 have e:=iQ hr (t:=[44]) rfl ζ
 have hk:k1 l r.env r.af=67:=by rw[←eY];exact aaZ.1 (e.symm.trans h)
 rw[x8 hr (t:=uR) rfl ζ,mU hk,aje _ (jI ..)];rfl
theorem Vt{m:Nat}(hL:l.length≤90)(EP:∀k,k<m→dZ l base B (.call FT) .qA Si (fun x=>VU x) k):qH l base B WH (.call qJ) .params [] VP m:=by
 intro x s D hx hk
 cases m with
 |zero=>rw[run];trivial
 |succ n=>
  have hf:=hx.fr;have hu:=hf.up (x:=fr x) (dQ (t:=[40]) ζ hk);rw[run,fD,sQ ((iQ hx rfl ζ).trans hk)];refine dY 3 (w:=qJ) hL (c:=WH) ζ rfl θ hk ?_;rw[bH (dL (r:=fr x) _ ζ hk)];show Sm l _ _ B D _ _ ((jU l>>=_) (bU s));have ho:=hu.qY;rw[bH (z:={up (fr x)with env:=qY (up (fr x)).env}) (iW ζ _ _)];generalize hy:({up (fr x)with env:=qY (up (fr x)).env}:Sx)=y at ho⊢
  have hyl:y.af=x.af+1:=by rw[←hy];rfl
  refine(ES _ (bU s)).elim (fun e=>by rw[e];trivial) fun e=>?_
  rw[e];generalize hs:({bU s with nm:=(bU s).nm.kH}:Ps)=s1 at ho⊢
  have fw:∀{p C1 s2 r2 jM},Fr l p C1 jM r2→(C1.all fun c=>dd c (.tx [41]))=true→Rl l B s.done s2 r2→x.af+1≤r2.af→Sm l (x.af+1) [] B D (VP x) (wr (fun r=>bn x r 16) (dl l (.seq [.tx [41], .nm Ei] x.af jM))) ((bY l [41]>>=fun _=>sj>>=fun s3=>eO>>=fun _=>node l 16 (s.af,s.done.length)>>=fun _=>pure (Va.pa s3.nm.bZ)) s2):=fun{p C1 s2 r2 jM} b1 hd b2 b3=>by
   refine eD b1 b2 η rfl ζ ζ ζ hd fun b4 b5=>?_
   rw[F3]
   rcases ET b5 (fun _=>node l 16 (s.af,s.done.length)>>=fun _=>pure (Va.pa (bU s2).nm.bZ))with e|⟨e,d1,d2⟩
   ·rw[e];trivial
   rw[e,bH (z:={up r2 with cl:=(up r2).env.getLastD [],env:=(up r2).env.dropLast}) (iW ζ _ _)]
   exact dR hL (.me (p:=r2.af+1) d1.le) η rfl ζ hx d1 fun h=>⟨_,h,rfl,d2⟩
  have hq:=iQ ho (t:=[41]) rfl ζ
  cases c:aO (kd l y.env y.af) [41]with
  |true=>
   rw[dM (hq.trans c)];obtain⟨xs',e,h1⟩:=ow (ys:=[.tx [41], .nm Ei]) (f:=x.af) (a:=[[.nm FT, .bV [[.tx [44], .nm FT]], .dO [[.tx [44], .tx uR]]]]) hL (.me (p:=y.af) ho.le) (c:=fun k=>aO k [41]) θ c rfl;rw[e];have:=fw h1 rfl ho η;rw[sQ (hq.trans c)]at this;exact this
  |false=>
   rw[dM (hq.trans c)]
   have hb:(run l base n .qA>>=fun _=>run l base n .su>>=fun _=>bY l [41]>>=fun _=>pure Va.un:Pm Va)=((run l base n .qA>>=fun _=>run l base n .su)>>=fun _=>bY l [41]>>=fun _=>pure Va.un):=by rw[bG]
   show Sm l _ _ B D _ _ (((run l base n .qA>>=fun _=>run l base n .su>>=fun _=>bY l [41]>>=fun _=>pure Va.un:Pm Va)>>=fun _=>sj>>=fun s3=>eO>>=fun _=>node l 16 (s.af,s.done.length)>>=fun _=>pure (Va.pa s3.nm.bZ)) s1);rw[hb,bG]
   refine uw (C:=[]) (F:=Bv 61) (C1:=Si++[67,110,111]) (D1:=s.done) hL (.me (p:=y.af) ho.le) (AP c ζ ζ ζ) (aI x 16) (.inr θ) ?_ rfl θ fun v s2 r2 jM _ b1 b2 b3=>?_
   ·refine dV hL (.me (p:=y.af) ho.le) (EP n (aar n) _ _ _ ho) jW (υ _) ζ rfl θ fun v s2 r2 jM _ b1 b2 b3 _=>?_
    rw[WI]
    refine kU (q:=r2.af) (p':=y.af+1) (C1:=Si++[67,110]) (V:=tt) hL b1 (Ic hL ζ θ θ (fun s r D hr h=>⟨fun h2=>?_,fun h2=>?_⟩) (fun k hk x s D hx=>EP k η x s D hx) b3) (υ _) jW b2 (.inr (υ _)) (.inl (υ _)) θ θ fun v s3 r3 EO ee d1 d2 d3 _=>?_
    ·exact mq (c:=fun k=>k==111) θ ((Yy hr h).trans h2)
    ·have h3:=aU.1 (tJ hr h)
     have h4:kc l r.af≠111:=fun e3=>by
      have:=Yy hr h;rw[(afD r.env r.af).2 e3,h2]at this;cases this
     simp only[abf,abZ,acz]at h3
     rcases h3 with h3|h3|h3
     ·rw[h3];decide+kernel
     ·rw[h3];decide+kernel
     ·exact absurd h3 h4
    ·have hq3:=iQ d3 (t:=[44]) rfl ζ
     cases c3:aO (kd l r3.env r3.af) [44]with
     |false=>
      rw[dM (hq3.trans c3)];obtain⟨xs',e,h1⟩:=ow (ys:=[]) (f:=y.af) (a:=[[.tx [44], .tx uR]]) hL d1 (c:=fun k=>!aO k [44]) θ (by rw[c3];rfl) θ;rw[e];exact mr hL h1 (υ _) θ jW d3 trivial
     |true=>
      have hu3:=d3.up (dQ ζ c3);have hce:=Yy d3 (hq3.trans c3);rw[dM (hq3.trans c3)];have hq4:=iQ hu3 (t:=uR) rfl ζ;have e4:aX l (bU s3) 0 uR=aX l s3 1 uR:=rfl;show Sm l _ _ B s.done _ _ ((fU l uR>>=fun _=>pure Va.un) (bU s3))
      cases c4:aO (kd l (up r3).env (up r3).af) uR with
      |false=>
       have:=WJ ee (hq3.trans c3);rw[←e4,hq4.trans c4]at this;cases this
      |true=>
       rw[dM (hq4.trans c4)];have hu4:=hu3.up (dQ ζ c4);have hk:kd l r3.env r3.af=111:=aaZ.1 (hce.trans (e4.symm.trans (hq4.trans c4)))
       refine uw (F:=[111]) (C1:=[]) (m:=fun s=> .ok Va.un (bU (bU s))) (D1:=s.done) (k:=fun _=>pure Va.un) (s:=s3) hL d1 (by rw[(afD r3.env r3.af).1 hk];decide) jW (.inl (υ _)) ?_ θ θ fun v s4 r4 RN e5 f1 f2 f3=>mr hL f1 (υ _) θ jW f3 trivial
       rw[bH (dL _ ζ c3),bH (dL _ ζ c4)];exact mr hL (.me (p:=r3.af+1) hu4.le (abK _)) (υ _) rfl jW hu4 trivial
   ·have h2:y.af≤r2.af:=b2
    have:=fw b1 θ b3 η;show Sm l _ _ B D _ _ (((bY l [41]>>=fun _=>pure Va.un)>>=fun _=>sj>>=fun s3=>eO>>=fun _=>node l 16 (s.af,s.done.length)>>=fun _=>pure (Va.pa s3.nm.bZ)) s2);rw[bG];exact this
end
def oz(f:Fm):List Tr→Fm
 |[]=>f
 |t::_=>if f.ek≠0 then f else if t.k=15 then{f with ek:=2}else{f with ek:=3,params:=t.mf}
def rH:List (List Sy):=[[.nm qJ]]
def CL:List (List Sy):=[[.tx [40], .nm Cu, .nm AB, .tx [41]]]
def aP(k:Nat):List (List Sy):=if k=0 then[[.nm nT],[.tx [40], .nm Cs, .tx [41]]]else[[.nm nT],[.tx [40], .nm Cu, .nm Ef, .tx [41]]]
theorem CO(f:Fm)(t:Tr)(r:List Tr):oz f (t::r)=if f.ek≠0 then f else if t.k=15 then{f with ek:=2}else{f with ek:=3,params:=t.mf}:=rfl
theorem Sj(f:Fm)(t:Tr)(r:List Tr):(oz f (t::r)).ek≠0:=by
 rw[CO]
 split
 ·assumption
 ·split
  ·show(2:Nat)≠0;decide
  ·show(3:Nat)≠0;decide
theorem DN(f:Fm):∀ks:List Tr,(oz f ks).named=f.named∧(oz f ks).name=f.name
 |[]=>⟨rfl,rfl⟩
 |t::r=>by
  rw[CO]
  split
  ·exact⟨rfl,rfl⟩
  ·split<;>exact⟨rfl,rfl⟩
theorem Sl(f:Fm):∀(ks:List Tr) (t:Tr),(t.k=15→(oz f ks).BG=oz f (ks++[t]))∧(t.k=16→(oz f ks).yL t.mf=oz f (ks++[t]))
 |[],t=>by
  show(t.k=15→f.BG=oz f [t])∧(t.k=16→f.yL t.mf=oz f [t]);rw[CO];unfold Fm.BG Fm.yL;constructor
  ·intro h
   by_cases c:f.ek=0
   ·rw[ω c,χ fun h=>h c,ω h]
   ·rw[χ c,ω c]
  ·intro h
   by_cases c:f.ek=0
   ·rw[ω c,χ fun h=>h c,χ η]
   ·rw[χ c,ω c]
 |u::r,t=>by
  have h:=Sj f u r;have e:oz f (u::r++[t])=oz f (u::r):=rfl;rw[e];unfold Fm.BG Fm.yL;rw[χ h,χ h];exact⟨fun _=>rfl,fun _=>rfl⟩
section
variable {l:List Ct} {base:Bs→Bool} {B:List Sd} {D D2:List Nd}
def Vs(f0:Fm)(r:Sx)(v:Va)(r1:Sx):Prop:=∃ks,r1.ah=r.ah++ks∧v=Va.fo (oz f0 ks)∧(∀t∈ks,t.k=15∨t.k=16)∧(ks=[]↔r1.af=r.af)
theorem ahr{n f:Nat}{f0:Fm}{s:Ps}{r:Sx}(hL:l.length≤90)(iha:∀k,k<n→qH l base B WC (.call qJ) .array [] (fun x=>VT 15 x) k)(EP:∀k,k<n→qH l base B WH (.call qJ) .params [] VP k)(hr:Rl l B D s r):Sm l r.af AR B D (fun v _ r1=>Vs f0 r v r1) (dl l (.ay (.bV rH) r f)) (run l base n (.eT f0 false) s):=by
 refine xW (C:=[]) (I:=fun(i:Fm×Bool) _ r1=>∃ks,r1.ah=r.ah++ks∧i.1=oz f0 ks∧(∀t∈ks,t.k=15∨t.k=16)∧(ks=[]↔r1.af=r.af)∧r.af≤r1.af) (loop:=fun m (i:Fm×Bool)=>run l base m (.eT i.1 i.2)) (i:=(f0,false)) hL rfl rfl (fun m i s r1 hm hr1 hi=>?_) hr ⟨[],by simp,rfl,(fun t ht=>(by cases ht)),⟨fun _=>rfl,fun _=>rfl⟩,υ _⟩
 obtain⟨f,a⟩:=i
 obtain⟨ks,h1,rfl,h3,h4,h5⟩:=hi
 cases m with
 |zero=>exact .inr (.inl (by show run l base 0 _ s=_;rw[run]))
 |succ m=>
  have er:run l base (m+1) (.eT (oz f0 ks) a) s=(eu l 0 [91]>>=fun b=>if b=true then run l base m .array>>=fun _=>run l base m (.eT (oz f0 ks).BG true)else eu l 0 [40]>>=fun c=>if c=true then run l base m .params>>=fun p=>run l base m (.eT ((oz f0 ks).yL p.jm) true)else pure (Va.fo (oz f0 ks))) s:=by rw[run]
  rw[jL,iQ hr1 (t:=[91]) rfl ζ]at er
  have e9:∀{C V R},Sm l (r1.af+1) C B D V (dl l (.call qJ r1)) (R:Rs Va)→Sm l (r1.af+1) C B D V (gT l rH r1) R:=fun{C V R} h=>by
   show Sm _ _ _ _ _ _ (gT l [[.nm qJ]] r1) _
   have e:dl l (.seq [.nm qJ] r1.af [r1])=(dl l (.call qJ r1)).bind aG:=by
    rw[bJ,bX,fe ζ]
    cases(dl l (.call qJ r1)).bind aG with
    |none=>rfl
    |some z=>exact dH _ z
   rw[ou,e];exact(h.aG hL).aG hL
  cases c:aO (kd l r1.env r1.af) [91]with
  |true=>
   rw[c,ω rfl]at er;refine .inr (.inr ⟨by rw[kz c (c:=62) ζ ζ ζ];decide,m,run l base m .array,fun _=>((oz f0 ks).BG,true),aar m,er,e9 ((iha m η r1 s D hr1 c).mono (υ _) rfl fun v s2 r2 b1 _ b3=>?_)⟩);obtain⟨t,⟨b4, -, -⟩,b5⟩:=b3;exact⟨ks++[t],by rw[b4,h1,Ψ],(Sl f0 ks t).1 b5,fun u hu=>(abr.1 hu).elim (h3 u) fun e=> .inl (by rw[Φ.1 e];exact b5),⟨fun h=>absurd h ν,fun h=>by omega⟩,by omega⟩
  |false=>
   rw[c,χ ζ,jL,iQ hr1 (t:=[40]) rfl ζ]at er
   cases c2:aO (kd l r1.env r1.af) [40]with
   |true=>
    rw[c2,ω rfl]at er;refine .inr (.inr ⟨by rw[kz c2 (c:=60) ζ ζ ζ];decide,m,run l base m .params,fun v=>((oz f0 ks).yL v.jm,true),aar m,er,e9 ((EP m η r1 s D hr1 c2).mono (υ _) rfl fun v s2 r2 b1 _ b3=>?_)⟩);obtain⟨t,⟨b4, -, -⟩,b5,b6⟩:=b3;exact⟨ks++[t],by rw[b4,h1,Ψ],(afz (oz f0 ks).yL b6).symm.trans ((Sl f0 ks t).2 b5),fun u hu=>(abr.1 hu).elim (h3 u) fun e=> .inr (by rw[Φ.1 e];exact b5),⟨fun h=>absurd h ν,fun h=>by omega⟩,by omega⟩
   |false=>
    rw[c2,χ ζ]at er;exact .inl ⟨mq (c:=fun k=>!(aO k [91]||aO k [40])) θ (by rw[c,c2];rfl),_,er,ks,h1,rfl,h3,h4⟩
theorem WK{hi q:Nat}(hq:dJ l q [42]=false)(hq1:bz l q≠1):∀{n i:Nat},i≤q→q<hi→q - i≤n→Sk l i q→Dx l n i hi=q
 |0,i,h1,h2,h3,h4=>by
  have:i=q:=by omega
  rw[Dx,this]
 |n+1,i,h1,h2,h3,h4=>by
  rw[Dx];by_cases e:i=q
  ·rw[e,χ fun h=>h.2.elim (fun h=>by rw[hq]at h;cases h) hq1]
  ·rw[ω ⟨by omega,h4 i (υ _) η⟩]
   exact WK hq hq1 η h2 η fun j h5 h6=>h4 j η h6
theorem WL{q:Nat}(h:bz l q=2):dJ l q [42]=false:=by
 rw[CB _ ζ,((uu q).1).1 h];decide
theorem EW(b:Bool)(f:Fm):(f.yJ b).name=f.name∧(f.yJ b).named=f.named∧(f.yJ b).params=f.params∧((f.yJ b).ek=if b=true∧f.ek=0 then 1 else f.ek):=by
 unfold Fm.yJ
 cases b with
 |false=>exact⟨rfl,rfl,rfl,(χ fun h=>by cases h.1).symm⟩
 |true=>
  by_cases c:f.ek=0
  ·have:(true&&f.ek==0)=true:=by rw[c];rfl
   rw[ω this];exact⟨rfl,rfl,rfl,(ω ⟨rfl,c⟩).symm⟩
  ·have:(true&&f.ek==0)=false:=by rw[abF c];rfl
   rw[this,χ ζ];exact⟨rfl,rfl,rfl,(χ fun h=>c h.2).symm⟩
def nk(ks:List Tr)(d:Option (Option Tr)):Option (Option Tr):=match ks with
 |y::_=>some (some y)
 |[]=>d
theorem KS{t:Tr}{f:Fm}{ks:List Tr}{st:Bool}(hks:∀t∈ks,t.k=15∨t.k=16)(h0:f.ek=0)(hn:dG l t=nk ks (if st=true then some none else none)):NR l t ((oz f ks).yJ st):=by
 obtain⟨-, -,e3,e4⟩:=EW st (oz f ks)
 unfold NR
 rw[e3,e4,hn]
 cases ks with
 |nil=>
  have:(oz f []).ek=0:=h0;rw[this]
  cases st with
  |true=>rw[ω ⟨rfl,rfl⟩,ω rfl];exact⟨(fun h=>absurd (show(1:Nat)=0 from h) ζ),(fun _=>rfl),(fun h=>absurd (show(1:Nat)=2 from h) ζ),(fun h=>absurd (show(1:Nat)=3 from h) ζ),by decide⟩
  |false=>rw[χ (fun h=>by cases h.1),χ ζ];exact⟨(fun _=>rfl),(fun h=>absurd (show(0:Nat)=1 from h) ζ),(fun h=>absurd (show(0:Nat)=2 from h) ζ),(fun h=>absurd (show(0:Nat)=3 from h) ζ),by decide⟩
 |cons u r=>
  rw[χ fun h=>Sj f u r h.2,CO,χ fun h=>h h0]
  rcases hks u (ab6 ..)with h|h
  ·rw[ω h];exact⟨(fun h=>absurd (show(2:Nat)=0 from h) ζ),(fun h=>absurd (show(2:Nat)=1 from h) ζ),(fun _=>⟨u,rfl,h⟩),(fun h=>absurd (show(2:Nat)=3 from h) ζ),by show 2≤3;decide⟩
  ·rw[χ η];exact⟨(fun h=>absurd (show(3:Nat)=0 from h) ζ),(fun h=>absurd (show(3:Nat)=1 from h) ζ),(fun h=>absurd (show(3:Nat)=2 from h) ζ),(fun _=>⟨u,rfl,h,rfl⟩),by show 3≤3;decide⟩
theorem ahs{lo q hi:Nat}{ks:List Tr}(h1:lo≤q)(h2:q<hi)(hsk:Sk l lo q)(hst:lo<q→dJ l lo [42]=true)(hq:bz l q=2)(hks:∀t∈ks,t.k=15∨t.k=16):jE l (.mk 14 lo hi ks [])=bM l q∧NR l (.mk 14 lo hi ks []) ((oz ⟨true,bM l q,0,[]⟩ ks).yJ (decide (lo<q))):=by
 have hn:Q7 l lo hi=bM l q:=by
  unfold Q7;rw[WK (WL hq) η h1 h2 η hsk];exact ω ⟨h2,hq⟩
 have hs:dJ l lo [42]=decide (lo<q):=by
  by_cases c:lo<q
  ·rw[aa4 c];exact hst c
  ·have:lo=q:=by omega
   rw[aa5 c,this];exact WL hq
 cases ks with
 |nil=>
  rw[jE];refine⟨hn,KS hks rfl ?_⟩;rw[dG.eq_def];show(if dJ l lo [42]=true then some none else none)=_;rw[hs];rfl
 |cons u r=>
  have hu:u.k≠14:=by have:=hks u (ab6 ..);omega
  rw[jE,χ hu];refine⟨hn,KS hks rfl ?_⟩;rw[dG.eq_def];exact χ hu
theorem adv{lo hi:Nat}{ti:Tr}{ks:List Tr}{f:Fm}{st:Bool}(hk:ti.k=14)(hn:jE l ti=f.name)(hr:NR l ti f)(hst:dJ l lo [42]=st)(hks:∀t∈ks,t.k=15∨t.k=16):jE l (.mk 14 lo hi (ti::ks) [])=f.name∧NR l (.mk 14 lo hi (ti::ks) []) ((oz f ks).yJ st):=by
 rw[jE,ω hk]
 refine⟨hn,?_⟩
 have e:dG l (.mk 14 lo hi (ti::ks) [])=(match dG l ti with
  |some y=>some y
  |none=>nk ks (if dJ l lo [42]=true then some none else none)):=by
  rw[dG.eq_def];refine(ω hk).trans ?_
  cases ks<;>rfl
 by_cases c:f.ek=0
 ·refine KS hks c ?_
  rw[e,hr.1 c,hst]
 ·have h1:oz f ks=f:=by
   cases ks with
   |nil=>rfl
   |cons u r=>rw[CO,ω c]
  rw[h1];obtain⟨-, -,e3,e4⟩:=EW st f;rw[χ fun h=>c h.2]at e4;obtain⟨r0,r1,r2,r3,r4⟩:=hr;unfold NR;rw[e3,e4,e]
  have:∃y,dG l ti=some y:=by
   have:f.ek=1∨f.ek=2∨f.ek=3:=by
    clear r0 r1 r2 r3 e3 e4 e;omega
   rcases this with h|h|h
   ·exact⟨_,r1 h⟩
   ·obtain⟨y,h, -⟩:=r2 h;exact⟨_,h⟩
   ·obtain⟨y,h, -⟩:=r3 h;exact⟨_,h⟩
  obtain⟨y,hy⟩:=this;rw[hy]at r0 r1 r2 r3⊢;exact⟨r0,r1,r2,r3,r4⟩
theorem Sn:∀(n:Nat) (b:Bool) (s:Ps),run l base n (.lg b) s≠ .no
 |0,b,s,e=>by rw[run]at e;cases e
 |n+1,b,s,e=>by
  rw[run]at e
  cases c:aX l s 0 [42]with
  |false=>rw[dM c]at e;cases e
  |true=>
   rw[dM c]at e;exact Sn n true _ e
end
noncomputable def dP (l:List Ct) (k:Nat) (x:Sx):Option (List Sx):=if k=0 then dl l (.call Cs x)else if k=1 then dl l (.call Ef x)else some []
noncomputable def dA (l:List Ct) (k:Nat) (x:Sx):Option (List Sx):=if k=0 then some []else dl l (.call AB x)
def Sep(aw pw:List Sx):Prop:=∀a∈aw,∀b∈pw,a.af<b.af
def JD(l:List Ct)(B:List Sd)(D:List Nd)(k:Nat)(x:Sx):Rs Va→Prop
 | .out=>True
 | .no=>∃pw aw,dP l k x=some pw∧dA l k x=some aw∧Al l (x.af+1) AR pw∧Al l (x.af+1) wh aw∧Sep aw pw
 | .ok v s1=>(v.fA.named=true∧∃pw aw r,dP l k x=some pw∧dA l k x=some aw∧Fr l (x.af+1) AR pw r∧Al l (x.af+1) wh aw∧Sep aw pw∧Rl l B D s1 r∧VD l x v s1 r)∨(v.fA.named=false∧k≠0∧∃aw r f,dP l k x=some []∧dA l k x=some aw∧Fr l (x.af+1) wh aw r∧Rl l B D s1 r∧VU x v s1 r∧v=Va.fo f)
section
variable {l:List Ct} {base:Bs→Bool} {B:List Sd} {D D2:List Nd}
noncomputable def Ad (x:Sx) (o:Option (List Sx)):Option (List Sx):=(wr (fun r=>bn x r 14) o).bind aG
theorem NW{x:Sx}{p:Nat}{zs:List Sx}(hL:l.length≤90)(hd:eP l p zs):Ad x (some zs)=some (zs.map fun r=>bn x r 14):=by
 unfold Ad wr
 rw[Ξ,hd.aG hL,Ξ,Ξ,(hd.map (aI x 14)).aG hL]
theorem an8{k:Nat}{x:Sx}(hk:k≤1):dP l k x=Ad x (dl l (.seq [.bV [[.nm Br]], .jy (aP k), .bV rH] x.af [fr x])):=by
 unfold dP
 have:k=0∨k=1:=by omega
 rcases this with rfl|rfl
 ·rw[ω rfl];exact lV (w:=Cs) 0 (c:=fun _=>true) ζ rfl θ rfl
 ·rw[χ ζ,ω rfl];exact lV (w:=Ef) 0 (c:=fun _=>true) ζ rfl θ rfl
theorem an9{k:Nat}{x:Sx}(hk:k≠0):dA l k x=Ad x (dl l (.seq [.bV [[.nm Br]], .dO CL, .bV rH, .nm Hw] x.af [fr x])):=by
 unfold dA
 rw[χ hk];exact lV (w:=AB) 0 (c:=fun _=>true) ζ rfl θ rfl
theorem WM{f:Nat}:∀{xs:List Sx},bu (fun s=>dl l (.ay (.nm Hw) s f)) xs=some (xs.filter fun z=>f<z.af)
 |[]=>rfl
 |a::r=>by
  rw[di,iW ζ,WM];show((some (if f<a.af then[a]else[])).bind _)=_;by_cases c:f<a.af
  ·rw[ω c,List.filter_cons_of_pos (by simpa using c)];rfl
  ·rw[χ c,List.filter_cons_of_neg (by simpa using c)];rfl
theorem Ph{f p:Nat}{zs W E:List Sx}{r:Sx}(hL:l.length≤90)(hF:Fr l p EU zs r)(hW:dl l (.ay (.dO CL) r f)=some (r::W))(hWl:W.length≤1)(hE:bu (fun s=>dl l (.ay (.bV rH) s f)) (r::W)=some E)(hEl:E.length≤200):∃A Z,zs=A++r::Z∧dl l (.seq [.dO CL, .bV rH, .nm Hw] f zs)=some ((A++(E++Z)).filter fun z=>f<z.af):=by
 have hlen:=hF.1.len
 obtain⟨-,A,Z,rfl,jK⟩:=hF
 refine⟨A,Z,rfl,?_⟩
 have hA:∀x∈A,aJ EU (kc l x.af)=true:=fun x hx=>(jK x (aby _ hx)).1
 have hZ:∀x∈Z,aJ EU (kc l x.af)=true:=fun x hx=>(jK x (abD _ hx)).1
 have rs:∀{xs:List Sx},(∀x∈xs,aJ EU (kc l x.af)=true)→bu (fun s=>dl l (.ay (.bV rH) s f)) xs=some xs:=fun{xs} hx=>by
  induction xs with
  |nil=>rfl
  |cons t u ih=>
   have h1:=(Θ.1 ((Θ.1 (by decide+kernel:(EU.all fun c=>(Bu c).all fun k=>FZ rH k)=true)) _ (aU.1 (hx t (ab6 ..))))) _ (yV t.env t.af);rw[di,xU (Ib h1),ih fun x hx'=>hx x (abM _ hx')];rfl
 rw[Δ,aaJ]at hlen
 rw[bJ,mi,di,CK θ hA,CK θ hZ,hW]
 show((aG (A++((r::W)++Z))).bind _)=_
 rw[nY (by simp;omega),Ξ,bJ,mi,mi,rs hA,rs hZ,hE]
 show((aG (A++(E++Z))).bind _)=_
 rw[nY (by simp;omega),Ξ,bJ,WM,Ξ,nY (aaT (List.length_filter_le _ _) (by simp;omega)),Ξ,dH]
theorem Sq{f:Nat}{A Z E:List Sx}{r:Sx}(hz:eP l f (A++r::Z))(jK:∀x∈A++Z,aJ EU (kc l x.af)=true∧x.af<r.af)(hE:eP l r.af E):eP l (f+1) ((A++(E++Z)).filter fun z=>f<z.af)∧(∀x∈(A++(E++Z)).filter fun z=>f<z.af,x∈E∨(aJ wh (kc l x.af)=true∧x.af<r.af))∧(∀x∈E,f<x.af→x∈(A++(E++Z)).filter fun z=>f<z.af):=by
 have h1:eP l f (A++Z):=hz.sub (agE _ ((List.Sublist.refl A).append (agu r Z)))
 have h2:eP l f (A++(E++Z)):=by
  refine eP.Rx ?_ (h1.fK hE (hz.lo r ν) fun x hx=>(jK x hx).2);rw[Ψ];exact agy.append_left A
 refine⟨⟨(h2.nd.sublist (agE _ List.filter_sublist)),fun x hx=>?_,fun x hx=>h2.hi x (afx.1 hx).1⟩,fun x hx=>?_,fun x hx hlt=>afx.2 ⟨by simp[hx],by simpa using hlt⟩⟩
 ·have:=(afx.1 hx).2
  have:f<x.af:=by simpa using this
  omega
 ·have h3:=(afx.1 hx).1
  rcases Jv h3 with h|h
  ·exact .inl h
  ·exact .inr ⟨lU ζ (jK x h).1,(jK x h).2⟩
def jp(l:List Ct)(base:Bs→Bool)(n:Nat)(s:Ps)(st:Bool)(c:Bool×Va):Pm Va:=sj>>=fun d=>run l base n (.eT c.2.fA false)>>=fun f=>sj>>=fun e=>if c.1=false∧st=false∧d.af=e.af then iD else node l 14 (s.af,s.done.length)>>=fun _=>pure (Va.fo (f.fA.yJ st))
theorem Yz(n:Nat)(s s2:Ps)(st:Bool)(c:Bool×Va):jp l base n s st c s2=(run l base n (.eT c.2.fA false)>>=fun f=>sj>>=fun e=>if c.1=false∧st=false∧s2.af=e.af then iD else node l 14 (s.af,s.done.length)>>=fun _=>pure (Va.fo (f.fA.yJ st))) s2:=by
 unfold jp;rw[F3]
theorem JG{n f:Nat}{s s2:Ps}{x r2:Sx}{st:Bool}{f0:Fm}(hL:l.length≤90)(iha:∀k,k<n→qH l base B WC (.call qJ) .array [] (fun x=>VT 15 x) k)(EP:∀k,k<n→qH l base B WH (.call qJ) .params [] VP k)(hx:Rl l B D s x)(hr:Rl l B s.done s2 r2)(b:Bool):jp l base n s st (b,Va.fo f0) s2= .out∨
  (jp l base n s st (b,Va.fo f0) s2= .no∧∃ys,dl l (.ay (.bV rH) r2 f)=some ys∧Al l r2.af AR ys)∨
  ∃ys r3 s3 ks,dl l (.ay (.bV rH) r2 f)=some ys∧Fr l r2.af AR ys r3∧Rl l B s.done s3 r3∧r3.ah=r2.ah++ks∧(∀t∈ks,t.k=15∨t.k=16)∧(ks=[]↔r3.af=r2.af)∧
   ((b=false∧st=false∧ks=[]∧jp l base n s st (b,Va.fo f0) s2= .no)∨(¬(b=false∧st=false∧ks=[])∧∃s4,jp l base n s st (b,Va.fo f0) s2= .ok (Va.fo ((oz f0 ks).yJ st)) s4∧Rl l B D s4 (bn x r3 14)∧VK x (bn x r3 14) (.mk 14 x.af r3.af r3.ah []))):=by
 have hs:=ahr (n:=n) (f:=f) (f0:=f0) hL iha EP hr
 cases e:run l base n (.eT f0 false) s2 with
 |out=>
  have e:run l base n (.eT (b,Va.fo f0).2.fA false) s2=_:=e;exact .inl (by rw[Yz,jR];unfold Pm.bind;rw[e])
 |no=>
  rw[e]at hs;obtain⟨ys,h1,h2⟩:=hs;have e:run l base n (.eT (b,Va.fo f0).2.fA false) s2=_:=e;exact .inr (.inl ⟨by rw[Yz,jR];unfold Pm.bind;rw[e],ys,h1,h2.le (υ _) ζ⟩)
 |ok v s3=>
  rw[e]at hs;have e:run l base n (.eT (b,Va.fo f0).2.fA false) s2=_:=e;obtain⟨ys,r3,h1,h2,h3,ks,h4,rfl,h5,h6⟩:=hs
  have hat:(s2.af=s3.af)↔ks=[]:=by rw[h6,←hr.af,←h3.af];exact⟨fun h=>h.symm,fun h=>h.symm⟩
  have ej:jp l base n s st (b,Va.fo f0) s2=(if b=false∧st=false∧s2.af=s3.af then iD else node l 14 (s.af,s.done.length)>>=fun _=>pure (Va.fo ((oz f0 ks).yJ st)):Pm Va) s3:=by rw[Yz,jo e,F3];rfl
  rw[ej];by_cases c:b=false∧st=false∧s2.af=s3.af
  ·rw[ω c]
   exact .inr (.inr ⟨ys,r3,s3,ks,h1,h2,h3,h4,h5,h6, .inl ⟨c.1,c.2.1,hat.1 c.2.2,rfl⟩⟩)
  ·rw[χ c]
   rcases xD (l:=l) (k:=14) (h:=(s.af,s.done.length)) (s:=s3) (f:=fun _=>pure (Va.fo ((oz f0 ks).yJ st)))with e|⟨-,e⟩
   ·exact .inl e
   ·exact .inr (.inr ⟨ys,r3,s3,ks,h1,h2,h3,h4,h5,h6, .inr ⟨fun h=>c ⟨h.1,h.2.1,hat.2 h.2.2⟩,_,e,xX hx (by rw[h3.dn]) h3,rfl,rfl,rfl⟩⟩)
end
section
variable {l:List Ct} {base:Bs→Bool} {B:List Sd} {D D2:List Nd}
def QK(l:List Ct)(base:Bs→Bool)(n k:Nat)(s:Ps)(st:Bool):Pm Va:=fun s1=>
 if k≠2∧(az l s1 0).c=2 then(l9 l>>=fun x=>jp l base n s st (true,Va.fo ⟨true,x,0,[]⟩)) s1
 else if(aX l s1 0 [40]&&(k==0||!(aX l s1 1 [41]||jD l base s1 1)))=true then(step l 1>>=fun _=>run l base n (.bP k)>>=fun f=>bY l [41]>>=fun _=>jp l base n s st (true,f)) s1
 else if k=0 then .no else jp l base n s st (false,Va.fo ⟨false,[],0,[]⟩) s1
theorem adw(n k:Nat)(s:Ps):run l base (n+1) (.bP k) s=(run l base n (.lg false)>>=fun st=>QK l base n k s st.bool) s:=by
 rw[run,fD]
 refine congrFun (afz (fun f=>run l base n (.lg false)>>=f) (funext fun st=>funext fun s1=>?_)) s
 show(rD l 0>>=_) s1=_
 rw[y8]
 unfold QK
 by_cases c:k≠2∧(az l s1 0).c=2
 ·rw[ω c]
  show((if k≠2∧(az l s1 0).c=2 then((l9 l>>=fun x=>pure (true,Va.fo ⟨true,x,0,[]⟩))>>=fun c=>jp l base n s st.bool c)else _:Pm Va) s1)=_;rw[ω c,bG];rfl
 ·rw[χ c]
  show((if k≠2∧(az l s1 0).c=2 then _ else if(aX l s1 0 [40]&&(k==0||!(aX l s1 1 [41]||jD l base s1 1)))=true then((step l 1>>=fun _=>run l base n (.bP k)>>=fun f=>bY l [41]>>=fun _=>pure (true,f))>>=fun c=>jp l base n s st.bool c)else if k=0 then((iD:Pm (Bool×Va))>>=fun c=>jp l base n s st.bool c)else(pure (false,Va.fo ⟨false,[],0,[]⟩)>>=fun c=>jp l base n s st.bool c):Pm Va) s1)=_;rw[χ c];by_cases c2:(aX l s1 0 [40]&&(k==0||!(aX l s1 1 [41]||jD l base s1 1)))=true
  ·rw[ω c2,ω c2]
   simp only[bG];rfl
  ·rw[χ c2,χ c2]
   by_cases c3:k=0
   ·rw[ω c3,ω c3];rfl
   ·rw[χ c3,χ c3];rfl
theorem aa2{k:Nat}{x r:Sx}{A Z E:List Sx}(hL:l.length≤90)(hA:k≠0→dA l k x=Ad x (some ((A++(E++Z)).filter fun z=>x.af<z.af)))(hz:eP l x.af (A++r::Z))(jK:∀x∈A++Z,aJ EU (kc l x.af)=true∧x.af<r.af)(hE:eP l r.af E)(hc:∀e∈E,x.af<e.af→aJ wh (kc l e.af)=true):∃aw,dA l k x=some aw∧Al l (x.af+1) wh aw∧∀a∈aw,a.af<r.af∨∃e∈E,a.af=e.af:=by
 by_cases k0:k=0
 ·exact⟨[],by unfold dA;rw[ω k0],⟨.nil,fun x hx=>(by cases hx)⟩,fun a ha=>(by cases ha)⟩
 obtain⟨h1,h2,h3⟩:=Sq hz jK hE
 refine⟨_,(hA k0).trans (NW hL h1),Al.map (aI x 14) ⟨h1,fun z hz=>?_⟩,fun a ha=>?_⟩
 ·rcases h2 z hz with h|h
  ·exact hc z h (h1.lo z hz)
  ·exact h.1
 ·obtain⟨z,hz,rfl⟩:=abt.1 ha
  rw[aI x 14 z]
  rcases h2 z hz with h|h
  ·exact .inr ⟨z,h,rfl⟩
  ·exact .inl h.2
theorem aa3{k:Nat}{x r r3:Sx}{A Z E:List Sx}(hL:l.length≤90)(k0:k≠0)(hA:dA l k x=Ad x (some ((A++(E++Z)).filter fun z=>x.af<z.af)))(hz:eP l x.af (A++r::Z))(jK:∀x∈A++Z,aJ EU (kc l x.af)=true∧x.af<r.af)(hE:Fr l r.af wh E r3)(hlt:x.af<r3.af):∃aw,dA l k x=some aw∧Fr l (x.af+1) wh aw (bn x r3 14):=by
 obtain⟨h1,h2,h3⟩:=Sq hz jK hE.1
 have hlo:=hE.lo.1
 refine⟨_,hA.trans (NW hL h1),(Fr.xB h1 (h3 r3 hE.mem.1 hlt) fun z hz=>?_).map (aI x 14)⟩
 rcases h2 z hz with h|h
 ·exact hE.mem.2 z h
 ·exact .inr ⟨h.1,by omega⟩
theorem aht{p:Nat}(h:bz l p=2):kc l p=2:=by
 have e:=(uu (l:=l) p).1.1 h
 rw[uZ]at e
 split at e
 ·cases e
 ·exact e
theorem ahu{k m:Nat}(hL:l.length≤90)(hB:Bb base B)(hk:k≤2)(iha:∀k,k<m→qH l base B WC (.call qJ) .array [] (fun x=>VT 15 x) k)(EP:∀k,k<m→qH l base B WH (.call qJ) .params [] VP k)
  (ih:∀j,j<m→∀(x:Sx) (s:Ps) (D:List Nd),Rl l B D s x→JD l B D k x (run l base j (.bP k) s)) {x:Sx} {s:Ps} (hx:Rl l B D s x):JD l B D k x (run l base m (.bP k) s):=by
 cases m with
 |zero=>rw[run];trivial
 |succ n=>
 have hf:=hx.fr
 rw[adw]
 have hst:=aaX (base:=base) (m:=n) (f:=x.af) hL hf
 rw[jR];unfold Pm.bind
 cases e:run l base n (.lg false) s with
 |out=>trivial
 |no=>exact absurd e (Sn n false s)
 |ok v s1=>
 rw[e]at hst
 obtain⟨zs,r,h1,hF,hr,hv,rfl,sN,Ee⟩:=hst
 have sN:x.af<r.af→dJ l x.af [42]=true:=sN
 have hF:Fr l x.af EU zs r:=hF
 have afE:r.ah=[]:=hv.1
 have hsk:Sk l x.af r.af:=hv.2.2.2
 have hxr:x.af≤r.af:=hF.lo.1
 have sq:∀ys,dl l (.seq (.bV [[.nm Br]]::ys) x.af [fr x])=dl l (.seq ys x.af zs):=fun ys=>by rw[bJ,bX,h1,Ξ,hF.1.aG hL];rfl
 have hP1:k≤1→dP l k x=Ad x (dl l (.seq [.jy (aP k), .bV rH] x.af zs)):=fun h=>by rw[an8 h,sq]
 have hA1:k≠0→dA l k x=Ad x (dl l (.seq [.dO CL, .bV rH, .nm Hw] x.af zs)):=fun h=>by rw[an9 h,sq]
 have jy:k≤1→∀{U:List Sx},gT l (aP k) r=some U→U.length≤1→dP l k x=Ad x (dl l (.seq [.bV rH] x.af U)):=fun h {U} hU hl=>by
  rw[hP1 h]
  congr 1
  obtain⟨-,A,Z,rfl,jK⟩:=hF
  have hd:∀t∈A++Z,dl l (.ay (.jy (aP k)) t x.af)=some []:=fun t ht=>by
   have:k=0∨k=1:=by omega
   have h2:=aU.1 (jK t ht).1
   rcases this with rfl|rfl
   ·exact wQ ((Θ.1 (by decide+kernel:(EU.all fun c=>dd c (.jy (aP 0)))=true)) _ h2) rfl _
   ·exact wQ ((Θ.1 (by decide+kernel:(EU.all fun c=>dd c (.jy (aP 1)))=true)) _ h2) rfl _
  rw[bJ,CE r hd,wP,hU,Ξ,nY η];rfl
 have YA:∀{u:Sx} {ys:List Sx} {p},dl l (.ay (.bV rH) u x.af)=some ys→eP l p ys→Ad x (dl l (.seq [.bV rH] x.af [u]))=some (ys.map fun r=>bn x r 14):=fun{u ys p} h hd=>by
  rw[bJ,bX,h,Ξ,hd.aG hL,Ξ,dH,NW hL hd]
 have hnil:Ad x (dl l (.seq [.bV rH] x.af []))=some []:=by rw[lN];rfl
 have ajf:dl l (.ay (.dO CL) r x.af)=some [r]→∀{E},dl l (.ay (.bV rH) r x.af)=some E→eP l r.af E→∃A Z,zs=A++r::Z∧(k≠0→dA l k x=Ad x (some ((A++(E++Z)).filter fun z=>x.af<z.af))):=fun hW {E} hE hd=>by
  have:=hd.len;obtain⟨A,Z,e,h⟩:=Ph (W:=[]) (E:=E) hL hF hW (Ω _) (by rw[bX];exact hE) η;exact⟨A,Z,e,fun h0=>by rw[hA1 h0,h]⟩
 have QL:∀{A Z},zs=A++r::Z→∀t∈A++Z,aJ EU (kc l t.af)=true∧t.af<r.af:=fun{A Z} e t ht=>by
  have hd:=hF.1;have hm:=hF.mem.2 t (by rw[e];simp only[abr,abf]at ht⊢;exact ht.elim .inl fun h=> .inr (.inr h))
  rcases hm with rfl|h
  ·exfalso
   rw[e]at hd;have hn:=hd.nd;rw[acb,acj,List.nodup_append]at hn
   rcases abr.1 ht with h|h
   ·exact hn.2.2 t.af (abt.2 ⟨t,h,rfl⟩) t.af (ab6 ..) rfl
   ·exact(agJ.1 hn.2.1).1 (abt.2 ⟨t,h,rfl⟩)
  ·exact h
 have adx:dl l (.ay (.dO CL) r x.af)=some [r]→∀{E},dl l (.ay (.bV rH) r x.af)=some E→eP l r.af E→(∀e∈E,x.af<e.af→aJ wh (kc l e.af)=true)→∃aw,dA l k x=some aw∧Al l (x.af+1) wh aw∧∀a∈aw,a.af<r.af∨∃e∈E,a.af=e.af:=fun hW {E} hE hd hc=>by
  obtain⟨A,Z,e,h⟩:=ajf hW hE hd;exact aa2 hL h (e▸hF.1) (QL e) hd hc
 have ajg:aJ wh (kc l r.af)=true→dl l (.ay (.dO CL) r x.af)=some [r]→dl l (.ay (.bV rH) r x.af)=some [r]→∃aw,dA l k x=some aw∧Al l (x.af+1) wh aw∧∀a∈aw,a.af≤r.af:=fun hc hW hE=>by
  obtain⟨aw,a1,a2,a3⟩:=adx hW hE (.ay (υ _) hr.le) fun e he _=>by rw[Φ.1 he];exact hc
  exact⟨aw,a1,a2,fun a ha=>(a3 a ha).elim af2 fun⟨e,h,h2⟩=>by rw[h2,Φ.1 h];exact υ _⟩
 show JD l B D k x (QK l base n k s (decide (x.af<r.af)) s1)
 unfold QK
 by_cases cN:k≠2∧(az l s1 0).c=2
 ·rw[ω cN]
  have hc2:bz l r.af=2:=(zg hr).1 cN.2;have hun:=(mo (l:=l) r.env r.af).1.1 hc2
  have hu0:un (kd l r.env r.af)≠0:=by rw[eY];rcases hun with h|h<;>rw[h]<;>decide
  have hu:=hr.up hu0
  have hnm:l9 l s1= .ok (bM l r.af) (bU s1):=by
   have ht:(az l s1 0).t=bM l r.af:=by rw[hr.af];rfl
   unfold l9;rw[ω cN.2,ht];rfl
  rw[jo hnm]
  have kn:(fun k=>un k==1||un k==2) (kd l r.env r.af)=true:=by
   show(un (kd l r.env r.af)==1||un (kd l r.env r.af)==2)=true
   rw[eY];rcases hun with h|h<;>rw[h]<;>decide
  have hU:gT l (aP k) r=some [up r]:=by
   have e1:(dl l (.seq [.nm nT] r.af [r])).bind aG=some [up r]:=by
    rw[bH (z:=up r) (by rw[fe ζ,vQ,hc2];rfl),dH];rfl
   have:k=0∨k=1:=by omega
   rcases this with rfl|rfl
   ·exact Eq.trans (vV 0 rfl (c:=fun k=>un k==1||un k==2) θ kn) e1
   ·exact Eq.trans (vV 0 rfl (c:=fun k=>un k==1||un k==2) θ kn) e1
  have hPu:=jy η hU (υ _);obtain⟨aw,a1,a2,a3⟩:=ajg (by rw[aht hc2];decide) (vO (mq (c:=fun k=>un k==1||un k==2) θ kn) _) (xU (mq (c:=fun k=>un k==1||un k==2) θ kn) _)
  rcases JG (n:=n) (f:=x.af) (st:=decide (x.af<r.af)) (f0:=⟨true,bM l r.af,0,[]⟩) hL (fun k hk=>iha k η) (fun k hk=>EP k η) hx hu true with e|⟨e,ys,b1,b2⟩|⟨ys,r3,s3,ks,b1,b2,b3,b4,b5,b6,b7⟩
  ·rw[e];trivial
  ·rw[e]
   refine⟨_,aw,by rw[hPu,YA b1 b2.1],a1,(b2.map (aI x 14)).le (by show x.af+1≤r.af+1;omega) ζ,a2,fun a ha b hb=>?_⟩;obtain⟨z,hz,rfl⟩:=abt.1 hb;rw[aI x 14 z];have h5:=b2.1.lo z hz;have h6:=a3 a ha;have h5:r.af+1≤z.af:=h5;omega
  ·rcases b7 with⟨h, -⟩|⟨-,s4,e,d1,d2⟩
   ·cases h
   ·rw[e]
    have h3:r.af+1≤r3.af:=b2.lo.1
    have hk3:r3.ah=ks:=by rw[b4];show r.ah++ks=ks;rw[afE];rfl
    rw[hk3]at d2;obtain⟨v1,v2⟩:=ahs (hi:=r3.af) (ks:=ks) hxr η hsk sN hc2 b5;have KU:=DN ⟨true,bM l r.af,0,[]⟩ ks;obtain⟨p1,p2, -, -⟩:=EW (decide (x.af<r.af)) (oz ⟨true,bM l r.af,0,[]⟩ ks);refine .inl ⟨p2.trans KU.1,_,aw,_,by rw[hPu,YA b1 b2.1],a1,(b2.map (aI x 14)).le (by show x.af+1≤r.af+1;omega) ζ,a2,fun a ha b hb=>?_,d1,_,_,d2,rfl,rfl,v1.trans (p1.trans KU.2).symm,p2.trans KU.1,v2⟩;obtain⟨z,hz,rfl⟩:=abt.1 hb;rw[aI x 14 z];have h5:=b2.1.lo z hz;have h6:=a3 a ha;have h5:r.af+1≤z.af:=h5;omega
 rw[χ cN,ai3 hB hr]
 have ajh:un (kd l r.env r.af)=60→kc l r.af=60:=fun h=>kz (t:=[40]) (env:=r.env) (by unfold aO;rw[h];decide) ζ ζ ζ
 by_cases cP:(if k=0 then un (kd l r.env r.af)==60 else kd l r.env r.af==60)=true
 ·rw[ω cP]
  have hun:un (kd l r.env r.af)=60:=by
   by_cases k0:k=0
   ·rw[ω k0]at cP;exact aaZ.1 cP
   ·rw[χ k0]at cP;rw[aaZ.1 cP];rfl
  have hkd:k≠0→kd l r.env r.af=60:=fun k0=>by rw[χ k0]at cP;exact aaZ.1 cP
  have hu0:un (kd l r.env r.af)≠0:=by rw[hun];decide
  have hu:=hr.up hu0
  have hh:aO (kd l r.env r.af) [40]=true:=by unfold aO;rw[hun];decide
  rw[sS hr hu0];have hin:=ih n (aar n) (up r) (bU s1) s.done hu
  have nsp:k≠0→j3 l Cu (up r) r.af=[up r]:=fun k0=>by
   have hm:=(xC _ (jI (l:=l) r.env (r.af+1))).2.1
   have hk1:k1 l r.env r.af=60:=by rw[←eY,hun]
   have hkd:=hkd k0;rw[mU hk1]at hkd;rw[hkd]at hm;have hm:(k1 l r.env (r.af+1)==61||(nL (k1 l r.env (r.af+1))||oP (k1 l r.env (r.af+1))))=false:=hm;rw[agF]at hm;show(if iY l r.env (r.af+1) true=false∧dJ l (r.af+1) [41]=false then[up r]else[])=_;refine ω ⟨by rw[vS,af5];exact hm.2,?_⟩;rw[iZ r.env _ ζ];unfold aO;rw[eY];exact hm.1
  have inP:k≤1→∀{pw},dP l k (up r)=some pw→eP l 0 pw→∀{U},dl l (.seq [.tx [41]] r.af pw)=some U→U.length≤1→gT l (aP k) r=some U:=fun h {pw} h2 hd {U} h3 h4=>by
   have:k=0∨k=1:=by omega
   have ay:∀w:Bs,w.headD 0≠64→dl l (.call w (up r))=some pw→dl l (.seq [.nm w, .tx [41]] r.af [up r])=some U:=fun w hw h=>by
    rw[bJ,bX,fe hw,h,Ξ,hd.aG hL];exact h3
   rcases this with rfl|rfl
   ·refine Eq.trans (vV 1 rfl (c:=fun k=>un k==60) θ (aaZ.2 hun)) ?_
    rw[bH (dL _ ζ hh),ay Cs ζ h2];exact nY η
   ·refine Eq.trans (vV 1 rfl (c:=fun k=>k==60) θ (aaZ.2 (hkd ζ))) ?_
    rw[bH (dL _ ζ hh),bH (z:=up r) (by rw[iW ζ,nsp ζ]),ay Ef ζ h2];exact nY η
  have inA:k≠0→∀{aw},dA l k (up r)=some aw→eP l 0 aw→∀{U},dl l (.seq [.tx [41]] r.af aw)=some U→U.length≤1→dl l (.ay (.dO CL) r x.af)=some (r::U):=fun k0 {aw} h2 hd {U} h3 h4=>by
   have h2:dl l (.call AB (up r))=some aw:=by unfold dA at h2;rw[χ k0]at h2;exact h2
   rw[wO];show(gT l [[.tx [40], .nm Cu, .nm AB, .tx [41]]] r).bind _=_;rw[ou,bH (dL _ ζ hh),bH (z:=up r) (by rw[iW ζ,nsp k0]),bJ,bX,fe ζ,h2,Ξ,hd.aG hL,Ξ,h3,Ξ,nY η,Ξ,nY (by rw[aaJ];omega)]
  have afH:k≠0→dl l (.ay (.bV rH) r x.af)=some [r]:=fun k0=>xU (mq (c:=fun k=>k==60) θ (aaZ.2 (hkd k0))) _
  have WN:∀{pw p},Al l p AR pw→dl l (.seq [.tx [41]] r.af pw)=some []:=fun h=>aa0 hL h θ
  have alA:∀{aw p},Al l p wh aw→dl l (.seq [.tx [41]] r.af aw)=some []:=fun h=>aa0 hL h θ
  have ajj:(k≠0→dl l (.ay (.dO CL) r x.af)=some [r])→∃aw,dA l k x=some aw∧Al l (x.af+1) wh aw∧∀a∈aw,a.af≤r.af:=fun hW=>by
   by_cases k0:k=0
   ·exact⟨[],by unfold dA;rw[ω k0],⟨.nil,fun x hx=>(by cases hx)⟩,fun a ha=>(by cases ha)⟩
   ·exact ajg (by rw[ajh hun];decide) (hW k0) (afH k0)
  have Ik:(k≤1→gT l (aP k) r=some [])→dP l k x=some []:=fun h=>by
   by_cases k1:k≤1
   ·rw[jy k1 (h k1) (Ω _),hnil]
   ·unfold dP;rw[χ η,χ η]
  have none':(k≤1→gT l (aP k) r=some [])→(k≠0→dl l (.ay (.dO CL) r x.af)=some [r])→JD l B D k x .no:=fun h1 h2=>by
   obtain⟨aw,a1,a2, -⟩:=ajj h2;exact⟨[],aw,Ik h1,a1,⟨.nil,fun x hx=>(by cases hx)⟩,a2,fun a _ b hb=>(by cases hb)⟩
  rw[jR];unfold Pm.bind
  cases e:run l base n (.bP k) (bU s1)with
  |out=>trivial
  |no=>
   rw[e]at hin;obtain⟨pw,aw,b1,b2,b3,b4, -⟩:=hin;exact none' (fun h=>inP h b1 (b3.1.uj (Ω _)) (WN b3) (Ω _)) (fun h=>inA h b2 (b4.1.uj (Ω _)) (alA b4) (Ω _))
  |ok v s2=>
   rw[e]at hin;show JD l B D k x ((bY l [41]>>=fun _=>jp l base n s (decide (x.af<r.af)) (true,v)) s2)
   rcases hin with⟨n1,pw,aw,r1,b1,b2,b3,b4, -,b6,b7⟩|⟨n1,k0,aw,r1,f1,b1,b2,b3,b4,b5,rfl⟩
   ·
    have hq:=iQ b6 (t:=[41]) rfl ζ
    have J7:=ajj fun h=>inA h b2 (b4.1.uj (Ω _)) (alA b4) (Ω _)
    cases c:aO (kd l r1.env r1.af) [41]with
    |false=>
     rw[zZ (hq.trans c)]
     have h9:dl l (.seq [.tx [41]] r.af pw)=some []:=by
      rw[bJ,ja fun z hz=>?_]
      ·exact lN _ _
      ·rcases b3.mem.2 z hz with rfl|h
       ·exact kM _ ζ c
       ·exact wQ ((Θ.1 (by decide+kernel:(AR.all fun c=>dd c (.tx [41]))=true)) _ (aU.1 h.1)) rfl _
     exact none' (fun h=>inP h b1 (b3.1.uj (Ω _)) h9 (Ω _)) (fun h=>inA h b2 (b4.1.uj (Ω _)) (alA b4) (Ω _))
    |true=>
     rw[sQ (hq.trans c)];have hu2:=b6.up (dQ (t:=[41]) ζ c);have hr1:r.af+1+1≤r1.af:=b3.lo.1
     have h9:dl l (.seq [.tx [41]] r.af pw)=some [up r1]:=by
      rw[Jy b3 (dL _ ζ c) θ θ,dH]
     by_cases k2:k≤1
     case neg=>
      unfold dP at b1;rw[χ η,χ η]at b1;have:pw=[]:=(aau b1).symm;rw[this]at b3;exact absurd b3.mem.1 ν
     have hPu:=jy k2 (inP k2 b1 (b3.1.uj (Ω _)) h9 (υ _)) (υ _);obtain⟨GU,a1,a2,a3⟩:=J7;obtain⟨ti,f1,⟨v1, -, -⟩,rfl,v3,v4,v5,v6⟩:=b7
     rcases JG (n:=n) (f:=x.af) (st:=decide (x.af<r.af)) (f0:=f1) hL (fun k hk=>iha k η) (fun k hk=>EP k η) hx hu2 true with e|⟨e,ys,c1,c2⟩|⟨ys,r3,s3,ks,c1,c2,c3,c4,c5,c6,c7⟩
     ·rw[show jp l base n s (decide (x.af<r.af)) (true,Va.fo f1) {s2 with af:=s2.af+1}=_ from e];trivial
     ·rw[show jp l base n s (decide (x.af<r.af)) (true,Va.fo f1) {s2 with af:=s2.af+1}=_ from e]
      refine⟨_,GU,by rw[hPu,YA c1 c2.1],a1,(c2.map (aI x 14)).le (by show x.af+1≤r1.af+1;omega) ζ,a2,fun a ha b hb=>?_⟩;obtain⟨z,hz,rfl⟩:=abt.1 hb;rw[aI x 14 z];have h5:r1.af+1≤z.af:=c2.1.lo z hz;have h6:=a3 a ha;omega
     ·rcases c7 with⟨h, -⟩|⟨-,s4,e,d1,d2⟩
      ·cases h
      ·rw[show jp l base n s (decide (x.af<r.af)) (true,Va.fo f1) {s2 with af:=s2.af+1}=_ from e]
       have hk3:r3.ah=ti::ks:=by
        have v1:r1.ah=r.ah++[ti]:=v1;rw[c4];show r1.ah++ks=_;rw[v1,afE];rfl
       rw[hk3]at d2
       have arQ:dJ l x.af [42]=decide (x.af<r.af):=by
        by_cases c:x.af<r.af
        ·rw[aa4 c];exact sN c
        ·have:x.af=r.af:=by omega
         rw[aa5 c,this,iZ r.env _ ζ];exact Ee
       obtain⟨w1,w2⟩:=adv (lo:=x.af) (hi:=r3.af) (ks:=ks) v3 v4 v6 arQ c5;have KU:=DN f1 ks;obtain⟨p1,p2, -, -⟩:=EW (decide (x.af<r.af)) (oz f1 ks);refine .inl ⟨p2.trans (KU.1.trans v5),_,GU,_,by rw[hPu,YA c1 c2.1],a1,(c2.map (aI x 14)).le (by show x.af+1≤r1.af+1;omega) ζ,a2,fun a ha b hb=>?_,d1,_,_,d2,rfl,rfl,w1.trans (KU.2.symm.trans p1.symm),p2.trans (KU.1.trans v5),w2⟩;obtain⟨z,hz,rfl⟩:=abt.1 hb;rw[aI x 14 z];have h5:r1.af+1≤z.af:=c2.1.lo z hz;have h6:=a3 a ha;omega
   ·
    have hq:=iQ b4 (t:=[41]) rfl ζ
    have LZ:k≤1→gT l (aP k) r=some []:=fun h=>inP h b1 .nil (lN _ _) (Ω _)
    cases c:aO (kd l r1.env r1.af) [41]with
    |false=>
     rw[zZ (hq.trans c)]
     refine none' LZ fun h=>inA h b2 (b3.1.uj (Ω _)) ?_ (Ω _)
     rw[bJ,ja fun z hz=>?_]
     ·exact lN _ _
     ·rcases b3.mem.2 z hz with rfl|h
      ·exact kM _ ζ c
      ·exact wQ ((Θ.1 (by decide+kernel:(wh.all fun c=>dd c (.tx [41]))=true)) _ (aU.1 h.1)) rfl _
    |true=>
     rw[sQ (hq.trans c)];have hu2:=b4.up (dQ (t:=[41]) ζ c);have hr1:r.af+1+1≤r1.af:=b3.lo.1;have hW:=inA k0 b2 (b3.1.uj (Ω _)) (U:=[up r1]) (by rw[Jy b3 (dL _ ζ c) θ θ,dH]) (υ _);have hkr:kc l r.af=60:=ajh hun
     have ajk:∀{ys},dl l (.ay (.bV rH) (up r1) x.af)=some ys→eP l (r1.af+1) ys→∃A Z,zs=A++r::Z∧dA l k x=Ad x (some ((A++((r::ys)++Z)).filter fun z=>x.af<z.af)):=fun{ys} h hd=>by
      have:=hd.len;obtain⟨A,Z,e,h⟩:=Ph (W:=[up r1]) (E:=r::ys) hL hF hW (υ _) (by rw[di,bX,afH k0,h];rfl) (by rw[aaJ];omega);exact⟨A,Z,e,by rw[hA1 k0,h]⟩
     have hDE:∀{ys},eP l (r1.af+1) ys→eP l r.af (r::ys):=fun h=>(eP.ay (υ _) hr.le).fK h η fun x hx=>by rw[Φ.1 hx];omega
     rcases JG (n:=n) (f:=x.af) (st:=decide (x.af<r.af)) (f0:=f1) hL (fun k hk=>iha k η) (fun k hk=>EP k η) hx hu2 true with e|⟨e,ys,c1,c2⟩|⟨ys,r3,s3,ks,c1,c2,c3,c4,c5,c6,c7⟩
     ·rw[show jp l base n s (decide (x.af<r.af)) (true,Va.fo f1) {s2 with af:=s2.af+1}=_ from e];trivial
     ·rw[show jp l base n s (decide (x.af<r.af)) (true,Va.fo f1) {s2 with af:=s2.af+1}=_ from e]
      obtain⟨A,Z,ez,h⟩:=ajk c1 c2.1
      obtain⟨GU,a1,a2, -⟩:=aa2 hL (fun _=>h) (ez▸hF.1) (QL ez) (hDE c2.1) fun e he _=>by
       rcases abf.1 he with rfl|he
       ·rw[hkr];decide
       ·exact lU ζ (c2.2 e he)
      exact⟨[],GU,Ik LZ,a1,⟨.nil,fun x hx=>(by cases hx)⟩,a2,fun a _ b hb=>(by cases hb)⟩
     ·rcases c7 with⟨h, -⟩|⟨-,s4,e,d1,d2⟩
      ·cases h
      ·rw[show jp l base n s (decide (x.af<r.af)) (true,Va.fo f1) {s2 with af:=s2.af+1}=_ from e]
       obtain⟨A,Z,ez,h⟩:=ajk c1 c2.1;have h3:r1.af+1≤r3.af:=c2.lo.1
       obtain⟨GU,a1,a2⟩:=aa3 (r3:=r3) hL k0 h (ez▸hF.1) (QL ez) (.xB (hDE c2.1) (abM _ c2.mem.1) fun z hz=>by
        rcases abf.1 hz with rfl|hz
        ·exact .inr ⟨by rw[hkr];decide,by omega⟩
        ·exact(c2.mem.2 z hz).imp id fun h=>⟨lU ζ h.1,h.2⟩) η
       obtain⟨p1,p2, -, -⟩:=EW (decide (x.af<r.af)) (oz f1 ks);exact .inr ⟨p2.trans ((DN f1 ks).1.trans n1),k0,GU,_,_,Ik LZ,a1,a2,d1,⟨_,d2⟩,rfl⟩
 ·rw[χ cP]
  have hkn:k≠2→bz l r.af≠2:=fun h h2=>cN ⟨h,(zg hr).2 h2⟩
  have NY:k≠2→(un (kd l r.env r.af)==1||un (kd l r.env r.af)==2)=false:=fun h=>by
   rw[agF];have:=hkn h;rw[ne_eq,(mo r.env r.af).1,←eY]at this;exact⟨abF fun e=>this (.inl e),abF fun e=>this (.inr e)⟩
  have Ik:dP l k x=some []:=by
   by_cases k1:k≤1
   ·have hU:gT l (aP k) r=some []:=by
     have:k=0∨k=1:=by omega
     rcases this with rfl|rfl
     ·refine mq (c:=fun k=>!(un k==1||un k==2)&&!(un k==60)) θ ?_
      have h1:=NY ζ;have h2:(un (kd l r.env r.af)==60)=false:=(acL _).mp cP;show(!(un (kd l r.env r.af)==1||un (kd l r.env r.af)==2)&&!(un (kd l r.env r.af)==60))=true;rw[h1,h2];rfl
     ·refine mq (c:=fun k=>!(un k==1||un k==2)&&!(k==60)) θ ?_
      have h1:=NY ζ;have h2:(kd l r.env r.af==60)=false:=(acL _).mp cP;show(!(un (kd l r.env r.af)==1||un (kd l r.env r.af)==2)&&!(kd l r.env r.af==60))=true;rw[h1,h2];rfl
    rw[jy k1 hU (Ω _),hnil]
   ·unfold dP;rw[χ η,χ η]
  by_cases k0:k=0
  ·rw[ω k0]
   exact⟨[],[],Ik,by unfold dA;rw[ω k0],⟨.nil,fun x hx=>(by cases hx)⟩,⟨.nil,fun x hx=>(by cases hx)⟩,fun a _ b hb=>(by cases hb)⟩
  rw[χ k0];rw[χ k0]at cP;have hW:dl l (.ay (.dO CL) r x.af)=some [r]:=vO (mq (c:=fun k=>!(k==60)) θ (by rw[(acL _).mp cP];rfl)) _
  rcases JG (n:=n) (f:=x.af) (st:=decide (x.af<r.af)) (f0:=⟨false,[],0,[]⟩) hL (fun k hk=>iha k η) (fun k hk=>EP k η) hx hr false with e|⟨e,ys,c1,c2⟩|⟨ys,r3,s3,ks,c1,c2,c3,c4,c5,c6,c7⟩
  ·rw[e];trivial
  ·rw[e]
   obtain⟨GU,a1,a2, -⟩:=adx hW c1 c2.1 fun e he _=>lU ζ (c2.2 e he)
   exact⟨[],GU,Ik,a1,⟨.nil,fun x hx=>(by cases hx)⟩,a2,fun a _ b hb=>(by cases hb)⟩
  ·have hlo:=c2.lo.1
   rcases c7 with⟨-,h1,h2,e⟩|⟨hn,s4,e,d1,d2⟩
   ·rw[e]
    have h3:=c6.1 h2;have h4:¬x.af<r.af:=of_decide_eq_false h1
    obtain⟨GU,a1,a2, -⟩:=adx hW c1 c2.1 fun e he hlt=>by
     rcases c2.mem.2 e he with rfl|h
     ·omega
     ·exact lU ζ h.1
    exact⟨[],GU,Ik,a1,⟨.nil,fun x hx=>(by cases hx)⟩,a2,fun a _ b hb=>(by cases hb)⟩
   ·rw[e]
    have hlt:x.af<r3.af:=by
     by_cases c:x.af<r.af
     ·omega
     ·have:ks≠[]:=fun h=>hn ⟨rfl,aa5 c,h⟩
      have:r3.af≠r.af:=fun h=>this (c6.2 h)
      omega
    obtain⟨A,Z,ez,h⟩:=ajf hW c1 c2.1;obtain⟨GU,a1,a2⟩:=aa3 (r3:=r3) hL k0 (h k0) (ez▸hF.1) (QL ez) (c2.le (υ _) ζ) hlt;obtain⟨p1,p2, -, -⟩:=EW (decide (x.af<r.af)) (oz ⟨false,[],0,[]⟩ ks);exact .inr ⟨p2.trans (DN ⟨false,[],0,[]⟩ ks).1,k0,GU,_,_,Ik,a1,a2,d1,⟨_,d2⟩,rfl⟩
end
def GV:List Nat:=AR++94::lI
structure Sr (l:List Ct) (base:Bs→Bool) (B:List Sd) (k:Nat):Prop where
 g:Ii l base B k
 jd:∀j,j≤2→∀(x:Sx) (s:Ps) (D:List Nd),Rl l B D s x→JD l B D j x (run l base k (.bP j) s)
 BG:qH l base B WC (.call qJ) .array [] (fun x=>VT 15 x) k
 par:qH l base B WH (.call qJ) .params [] VP k
 prm:dZ l base B (.call FT) .qA Si (fun x=>VU x) k
 ind:∀(x:Sx) (s:Ps) (D:List Nd),Rl l B D s x→Sm l (x.af+1) GV B D (VU x) (dl l (.call tH x)) (run l base k (.uQ x.ty) s)
 dcn:dZ l base B (.call AA) .iw [] (fun x=>VU x) k
section
variable {l:List Ct} {base:Bs→Bool} {B:List Sd} {D D2:List Nd}
theorem ajn{k:Nat}(h:∀(x:Sx) (s:Ps) (D:List Nd),Rl l B D s x→JD l B D 0 x (run l base k (.bP 0) s)):dZ l base B (.call Cs) (.bP 0) AR (VD l) k:=fun x s D hx=>by
 have:=h x s D hx
 cases e:run l base k (.bP 0) s with
 |out=>trivial
 |no=>rw[e]at this;obtain⟨pw,aw,h1, -,h2, -⟩:=this;exact⟨pw,h1,h2⟩
 |ok v s1=>
  rw[e]at this
  rcases this with⟨-,pw,aw,r,h1, -,h2, -, -,h3,h4⟩|⟨-,h0, -⟩
  ·exact⟨pw,r,h1,h2,h3,h4⟩
  ·exact absurd rfl h0
theorem ajo{k:Nat}(h:∀(x:Sx) (s:Ps) (D:List Nd),Rl l B D s x→JD l B D 2 x (run l base k (.bP 2) s)):dZ l base B (.call AB) (.bP 2) wh (fun x=>VU x) k:=fun x s D hx=>by
 have:=h x s D hx
 cases e:run l base k (.bP 2) s with
 |out=>trivial
 |no=>rw[e]at this;obtain⟨pw,aw, -,h1, -,h2, -⟩:=this;exact⟨aw,h1,h2⟩
 |ok v s1=>
  rw[e]at this
  rcases this with⟨-,pw,aw,r,h1, -,h2, -⟩|⟨-, -,aw,r,f, -,h1,h2,h3,h4, -⟩
  ·have:pw=[]:=(aau (show some ([]:List Sx)=some pw from h1)).symm
   rw[this]at h2;exact absurd h2.mem.1 ν
  ·exact⟨aw,r,h1,h2,h3,h4⟩
theorem DR{r:Sx}{ks:List Tr}{t:Tr}(h:r.ah=ks++[t]):jA r=t:=by unfold jA;rw[h];simp
theorem F9{p:Nat}{C:List Nat}{xs:List Sx}{x r:Sx}{v:Va}{s:Ps}(hL:l.length≤90)(ys:List Sy){f:Nat}(hF:Fr l p C xs r)(hs:zH C (.nm Bq)=true)(hv:VS l x v s r):∃td xs',v=Va.bo td∧dl l (.seq (.nm Bq::ys) f xs)=dl l (.seq ys f xs')∧Fr l p (lv C (.nm Bq)) xs' {r with ty:=td}:=by
 obtain⟨t,td,h1, -,h2,h3⟩:=hv
 obtain⟨xs',e,h⟩:=EL hL ys hF (z:={r with ty:=td}) (f:=f) (by
  rw[iW ζ];show some [{r with ty:=jV l (jA r).hi ((jA r).hi+1) (jA r).lo (jA r).ah}]=_
  rw[DR h1.1,h3]) rfl hs
 exact⟨td,xs',h2,e,h⟩
theorem Rl.tyd{s:Ps}{r:Sx}(h:Rl l B D s r)(b:Bool):Rl l B D s {r with ty:=b}:=⟨h.af,h.le,h.env,h.dn,h.bk⟩
def wT(l:List Ct)(r:Sx):Sx:={r with env:=fV r.env (jE l (jA r)) r.ty}
theorem WO(r:Sx)(f:Nat):dl l (.ay (.nm Hr) r f)=some [wT l r]:=iW ζ r f
theorem WQ(f:Nat):∀xs:List Sx,bu (fun s=>dl l (.ay (.nm Hr) s f)) xs=some (xs.map (wT l))
 |[]=>rfl
 |a::r=>by rw[di,WO,WQ f r];rfl
theorem eP.ajp{p:Nat}{xs ys:List Sx}(hx:eP l p xs)(hy:eP l p ys)(h:∀x∈xs,∀y∈ys,x.af<y.af):eP l p (ys++xs):=by
 refine⟨?_,fun z hz=>(abr.1 hz).elim (hy.lo z) (hx.lo z),fun z hz=>(abr.1 hz).elim (hy.hi z) (hx.hi z)⟩
 rw[acb,List.nodup_append]
 refine⟨hy.nd,hx.nd,fun a ha b hb=>?_⟩
 obtain⟨y,hy',rfl⟩:=abt.1 ha
 obtain⟨x,hx',rfl⟩:=abt.1 hb
 have:=h x hx' y hy'
 omega
def WR:List (List Sy):=[[.nm Ef, .nm Hr],[.nm AB]]
theorem ady{n:Nat}(hL:l.length≤90){z:Sx}{s:Ps}{td:Bool}(ht:z.ty=td)(hz:Rl l B D s z)(h:JD l B D 1 z (run l base n (.bP 1) s)):Sm l (z.af+1) (AR++wh) B D tt (wr (fun z=>z) (dl l (.seq [.jy WR] z.af [z]))) ((run l base n (.bP 1)>>=fun f=>(if f.fA.named=true then bS l f.fA.name td else pure ())>>=fun _=>pure Va.un) s):=by
 have eq:∀{pw aw:List Sx} {p},dP l 1 z=some pw→dA l 1 z=some aw→eP l p (pw.map (wT l)++aw)→eP l p pw→eP l p aw→wr (fun z=>z) (dl l (.seq [.jy WR] z.af [z]))=some (pw.map (wT l)++aw):=fun{pw aw p} h1 h2 hd hp ha=>by
  have e1:dl l (.seq [.nm Ef, .nm Hr] z.af [z])=some (pw.map (wT l)):=by
   rw[bJ,bX,fe ζ,show dl l (.call Ef z)=some pw from h1,Ξ,hp.aG hL,Ξ,bJ,WQ,Ξ,(hp.map (g:=wT l) fun _=>rfl).aG hL,Ξ,dH]
  have e2:dl l (.seq [.nm AB] z.af [z])=some aw:=by
   rw[bJ,bX,fe ζ,show dl l (.call AB z)=some aw from h2,Ξ,ha.aG hL,Ξ,dH]
  have e3:gT l WR z=some (pw.map (wT l)++aw):=by
   show(bu _ [_,_]).bind aG=_;rw[di,bX,e1,e2];exact hd.aG hL
  unfold wr;rw[bJ,bX,wP,e3,Ξ,hd.aG hL,Ξ,dH,Ξ,hd.aG hL];show some ((pw.map (wT l)++aw).map _)=_;rw[List.map_id']
 have hmA:∀{c},aJ wh c=true→aJ (AR++wh) c=true:=fun h=>aU.2 (abD _ (aU.1 h))
 have hmD:∀{c},aJ AR c=true→aJ (AR++wh) c=true:=fun h=>aU.2 (aby _ (aU.1 h))
 rw[jR];unfold Pm.bind
 cases e:run l base n (.bP 1) s with
 |out=>trivial
 |no=>
  rw[e]at h;obtain⟨pw,aw,h1,h2,h3,h4,h5⟩:=h
  have hd:=h4.1.ajp (h3.1.map (g:=wT l) fun _=>rfl) fun a ha b hb=>by
   obtain⟨c,hc,rfl⟩:=abt.1 hb;exact h5 a ha c hc
  refine⟨_,eq h1 h2 hd h3.1 h4.1,hd,fun c hc=>?_⟩
  rcases abr.1 hc with hc|hc
  ·obtain⟨b,hb,rfl⟩:=abt.1 hc
   exact hmD (h3.2 b hb)
  ·exact hmA (h4.2 c hc)
 |ok v s1=>
  rw[e]at h
  rcases h with⟨hn,pw,aw,r,h1,h2,h3,h4,h5,h6,t,f,h7,rfl,h8,h9,h10, -⟩|⟨hn, -,aw,r,f,h1,h2,h3,h4,h5,rfl⟩
  ·have hd:=h4.1.ajp (h3.1.map (g:=wT l) fun _=>rfl) fun a ha b hb=>by
    obtain⟨c,hc,rfl⟩:=abt.1 hb;exact h5 a ha c hc
   have hm:=(h3.map (g:=wT l) fun _=>rfl).mem;show Sm l _ _ B D tt _ (((if f.named=true then bS l f.name td else pure ())>>=fun _=>pure Va.un) s1);rw[ω h10]
   rcases yj (l:=l) f.name td (fun _=>pure Va.un) s1 with e|e
   ·rw[e];trivial
   rw[e];refine⟨_,wT l r,eq h1 h2 hd h3.1 h4.1, .xB hd (aby _ hm.1) fun c hc=>?_,?_,trivial⟩
   ·rcases abr.1 hc with hc|hc
    ·exact(hm.2 c hc).imp id fun h=>⟨hmD h.1,h.2⟩
    ·exact .inr ⟨hmA (h4.2 c hc),h5 c hc r h3.mem.1⟩
   ·have:wT l r={r with env:=fV r.env f.name td}:=by
     unfold wT;rw[DR h7.1,h9,h7.2.1,ht]
    rw[this];exact h6.fV f.name td
  ·have hn:f.named=false:=hn
   show Sm l _ _ B D tt _ (((if f.named=true then bS l f.name td else pure ())>>=fun _=>pure Va.un) s1);rw[χ (by rw[hn];decide)];refine⟨aw,r,eq h1 h2 h3.1 .nil h3.1,h3.le (υ _) ζ,h4,trivial⟩
theorem YB{m:Nat}(hL:l.length≤90)(ih:∀k,k<m→Sr l base B k):dZ l base B (.call FT) .qA Si (fun x=>VU x) m:=by
 intro x s D hx
 cases m with
 |zero=>rw[run];trivial
 |succ n=>
  have hf:=hx.fr;have i:=ih n (aar n);rw[run,fD];refine dY 0 (w:=FT) hL (c:=fun _=>true) ζ rfl θ rfl ?_
  refine dV hL (.me (p:=x.af) hf.le) ((uN (fr x)).symm▸i.g.Pf true (fr x) s s.done hf) (aI x 17) (υ _) ζ rfl θ fun v s1 r1 gB _ a1 a2 a3 a4=>?_
  have a2:x.af+1≤r1.af:=a2;obtain⟨td,jM,rfl,e,b1⟩:=F9 (f:=x.af) hL [.dO [[.jy WR]]] a1 θ a4;have b3:=a3.tyd td;show Sm l _ _ B D _ (wr _ (dl l (.seq [.nm Bq, .dO [[.jy WR]]] x.af gB))) _;rw[e];show Sm l _ _ B D _ _ ((eu l 0 [44]>>=fun a=>eu l 0 [41]>>=_) s1);rw[jL,jL,iQ a3 (t:=[44]) rfl ζ,iQ a3 (t:=[41]) rfl ζ]
  cases c:(aO (kd l r1.env r1.af) [44]||aO (kd l r1.env r1.af) [41])with
  |true=>
   obtain⟨xs',e,h1⟩:=ow (ys:=[]) (f:=x.af) (a:=[[.jy WR]]) hL b1 (c:=fun k=>aO k [44]||aO k [41]) θ c θ;rw[e]
   exact dR hL h1 (υ _) θ ζ hx b3 fun h=>⟨_,h⟩
  |false=>
   have hkc:aJ Si (kc l r1.af)=true:=by
    rw[agF]at c;refine aU.2 (afx.2 ⟨acD.2 (DF _),?_⟩);have h1:=iZ (l:=l) r1.env r1.af (t:=[44]) ζ;have h2:=iZ (l:=l) r1.env r1.af (t:=[41]) ζ;rw[c.1,CB _ ζ,uZ,show bg [44]=67 by decide]at h1;rw[c.2,mZ (c:=61) ζ ζ ζ]at h2
    have:∀c<KN,((if c=110∨c=111 then 67 else c)==67)=false→(c==61)=false→(!aJ [67,110,111,61] c)=true:=by decide+kernel
    exact this _ (DF _) h1 h2
   refine uw (F:=Si) (C1:=AR++wh) (D1:=s.done) (m:=(run l base n (.bP 1)>>=fun f=>(if f.fA.named=true then bS l f.fA.name td else pure ())>>=fun _=>pure Va.un)) (k:=fun _=>node l 17 (s.af,s.done.length)>>=fun _=>pure Va.un) hL b1 hkc (aI x 17) (.inl (υ _)) (ady hL rfl b3 (i.jd 1 ζ _ _ _ b3)) θ θ fun v s2 r2 jM _ d1 d2 d3=>dR hL d1 (υ _) θ ζ hx d3 fun h=>⟨_,h⟩
theorem Pj{n p:Nat}{C:List Nat}(hL:l.length≤90)(ih:Ii l base B n){x r:Sx}{s s1:Ps}{xs:List Sx}(hx:Rl l B D s x)(hF:Fr l p C xs r)(hr:Rl l B s.done s1 r)(hp:x.af+1≤p)(hC:C.all (aJ AR)=true):Sm l (x.af+1) GV B D (VU x) (wr (fun r=>bn x r 13) (dl l (.seq [.dO [[.tx [61], .nm Cr]]] x.af xs))) (run l base (n+1) (.iG (s.af,s.done.length)) s1):=by
 have hF:=hF.le hp hC
 rw[run]
 have hq:=iQ hr (t:=[61]) rfl ζ
 cases c:aO (kd l r.env r.af) [61]with
 |true=>
  rw[dM (hq.trans c)];have hu:=hr.up (dQ ζ c)
  refine uw (F:=[94]) (C1:=lI) hL hF (by rw[kz c (c:=94) ζ ζ ζ];decide) (aI x 13) (.inl (υ _)) ?_ θ θ fun v s1 r1 gB _ b1 b2 b3=>dR hL b1 (υ _) θ ζ hx b3 fun h=>⟨_,h⟩
  rw[bH (dL _ ζ c)];exact(lW (f:=r.af) hL (w:=Cr) ζ (ih.ini _ _ _ hu)).le (abK _) θ
 |false=>
  rw[dM (hq.trans c)];obtain⟨xs',e,h1⟩:=ow (ys:=[]) (f:=x.af) (a:=[[.tx [61], .nm Cr]]) hL hF (c:=fun k=>!aO k [61]) θ (by rw[c];rfl) θ;rw[e]
  exact dR hL h1 (υ _) θ ζ hx hr fun h=>⟨_,h⟩
theorem WS{p f:Nat}{C:List Nat}{x r:Sx}{v:Va}{s1 s:Ps}{xs:List Sx}(hL:l.length≤90)(ys:List Sy)(hF:Fr l p C xs r)(hs:zH C (.nm Hr)=true)(hr:Rl l B D s1 r)(hv:VD l x v s r):∃fm xs',v=Va.fo fm∧dl l (.seq (.nm Hr::ys) f xs)=dl l (.seq ys f xs')∧Fr l p (lv C (.nm Hr)) xs' (wT l r)∧Rl l B D {s1 with nm:=s1.nm.bS fm.name x.ty} (wT l r):=by
 obtain⟨t,fm,h7,rfl,h8,h9,h10, -⟩:=hv
 obtain⟨xs',e,h⟩:=EL hL ys hF (z:=wT l r) (f:=f) (WO r f) rfl hs
 refine⟨fm,xs',rfl,e,h,?_⟩
 have:wT l r={r with env:=fV r.env fm.name x.ty}:=by
  unfold wT;rw[DR h7.1,h9,h7.2.1]
 rw[this]
 exact hr.fV fm.name x.ty
theorem aa6{m:Nat}(hL:l.length≤90)(ih:∀k,k<m→Sr l base B k)(x:Sx)(s:Ps)(D:List Nd)(hx:Rl l B D s x):Sm l (x.af+1) GV B D (VU x) (dl l (.call tH x)) (run l base m (.uQ x.ty) s):=by
 cases m with
 |zero=>rw[run];trivial
 |succ n=>
  have hf:=hx.fr;have i:=ih n (aar n);rw[run,fD];refine dY 0 (w:=tH) hL (c:=fun _=>true) ζ rfl θ rfl ?_
  refine dV hL (.me (p:=x.af) hf.le) (i.g.mf _ _ _ hf) (aI x 13) (υ _) ζ rfl θ fun v s1 r1 gB _ a1 a2 a3 a4=>?_
  obtain⟨fm,jM,rfl,e,b1,b2⟩:=WS (f:=x.af) hL [.dO [[.tx [61], .nm Cr]]] a1 θ a3 a4;rw[e]
  rcases yj (l:=l) fm.name x.ty (fun _=>run l base n (.iG (s.af,s.done.length))) s1 with e|e
  ·rw[show(bS l (Va.fo fm).fA.name x.ty>>=fun _=>run l base n (.iG (s.af,s.done.length))) s1=_ from e];trivial
  rw[show(bS l (Va.fo fm).fA.name x.ty>>=fun _=>run l base n (.iG (s.af,s.done.length))) s1=_ from e]
  cases n with
  |zero=>rw[run];trivial
  |succ n=>exact Pj hL (ih n η).g hx b1 b2 (υ _) θ
end
section
variable {l:List Ct} {base:Bs→Bool} {B:List Sd} {D D2:List Nd}
theorem KV{C2:List Nat}:∀ys:List Sy,qm C2 [] ys=true
 |[]=>rfl
 |y::r=>by unfold qm;rw[aaS];exact⟨rfl,KV r⟩
theorem ym{C C2:List Nat}{y:Sy}{ys:List Sy}(h:(C.all fun c=>dd c y)=true):qm C2 C (y::ys)=true:=by
 have hlv:lv C y=[]:=afN.2 fun c hc=>by rw[(Θ.1 h) c hc];decide
 unfold qm
 rw[hlv,aaS]
 exact⟨Θ.2 fun c hc=>by rw[(Θ.1 h) c hc];rfl,KV ys⟩
theorem KW(td:Bool):∀n,run l base n (.jS td)=vZ l (fun n=>run l base n (.uQ td)) (fun _=>false) n:=Yu (it:= .uQ td) (R:= .jS td) (by funext s;rw[run];rfl) fun n s=>by rw[run]
theorem arR{n p:Nat}{C:List Nat}{x r:Sx}{s s1:Ps}{xs:List Sx}{ys:List Sy}{f P:Nat}{C2:List Nat}{g:Sx→Sx}{V2:Va→Ps→Sx→Prop}{K:Pm Va}(hL:l.length≤90)(ih:∀k,k<n→Sr l base B k)(hF:Fr l p C xs r)(hr:Rl l B D s1 r)(hC:C.all (aJ GV)=true)(hg:Kp g)(hP:P≤r.af+1)
  (hK:∀s2 r2,Rl l B D s2 r2→r.af+1≤r2.af→Fr l r2.af [] [r2] r2→Sm l P C2 B D2 V2 (wr g (dl l (.seq ys f [r2]))) (K s2)):Sm l P C2 B D2 V2 (wr g (dl l (.seq (.bV [[.tx [44], .nm tH]]:: .tx [59]::ys) f xs))) ((run l base n (.jS r.ty)>>=fun _=>bY l [59]>>=fun _=>K) s1):=by
 have hF:=hF.le (υ _) hC
 rw[KW]
 refine kU (q:=r.af) (p':=p) (C1:=GV++[67,110,111]) (V:=tt) hL hF ((JA (w:=tH) (it:=fun n=>run l base n (.uQ r.ty)) (I:=fun z=>z.ty=r.ty) (V:=fun x=>VU x) (E:=GV++[67,110,111]) hL ζ θ θ (fun z h=>h) (fun z v s y h ⟨t,h2,h3,_⟩=>h3.trans h) (fun s r D hr h=>⟨(fun(h:false=true)=>(by cases h)),fun _=>lU (C:=[67,110,111]) θ (tJ hr h)⟩) (fun k hk z s D hz e=>e▸(ih k hk).ind z s D hz) hr rfl).mono (υ _) (by rw[Θ];exact fun x hx=>aU.2 hx) fun _ _ _ _ _ _=>trivial) (υ _) hg hF.lo.1 (.inr (υ _)) (.inr (ym θ)) θ (ym θ) fun v s3 r3 EO _ d1 d2 d3 _=>?_
 exact eD d1 d3 η rfl ζ ζ ζ θ fun h4 h5=>hK _ _ h5 (by show r.af+1≤r3.af+1;omega) (.me h5.le)
theorem KX{m:Nat}(hL:l.length≤90)(ih:∀k,k<m→Sr l base B k):dZ l base B (.call AA) .iw [] (fun x=>VU x) m:=by
 intro x s D hx
 cases m with
 |zero=>rw[run];trivial
 |succ n=>
  have hf:=hx.fr;have i:=ih n (aar n);rw[run,LJ,CF hx (t:=uW) rfl ζ]
  cases c:aO (kd l x.env x.af) uW with
  |true=>exact dY 1 (w:=AA) hL (c:=fun k=>aO k uW) ζ rfl θ c (nX hL hx ζ (i.g.asr _ _ _ hf c) yh)
  |false=>
   show Sm l _ _ B D _ _ ((fH>>=_) s);rw[fD];refine dY 0 (w:=AA) hL (c:=fun k=>!aO k uW) ζ rfl θ (by rw[c];rfl) ?_
   refine dV hL (.me (p:=x.af) hf.le) ((uN (fr x)).symm▸i.g.Pf true (fr x) s s.done hf) (aI x 3) (υ _) ζ rfl θ fun v s1 r1 gB _ a1 a2 a3 a4=>?_
   have a2:x.af+1≤r1.af:=a2;obtain⟨td,jM,rfl,e,b1⟩:=F9 (f:=x.af) hL [.dO [[.nm tH, .bV [[.tx [44], .nm tH]]]], .tx [59]] a1 θ a4;have b3:=a3.tyd td;show Sm l _ _ B D _ (wr _ (dl l (.seq [.nm Bq, .dO [[.nm tH, .bV [[.tx [44], .nm tH]]]], .tx [59]] x.af gB))) _;rw[e];show Sm l _ _ B D _ _ ((eu l 0 [59]>>=_) s1);rw[jL,iQ a3 (t:=[59]) rfl ζ]
   have fw:∀s2 r2,Rl l B s.done s2 r2→x.af+1≤r2.af→Sm l (x.af+1) [] B D (VU x) (wr (fun r=>bn x r 3) (dl l (.seq [] x.af [r2]))) ((node l 3 (s.af,s.done.length)>>=fun _=>pure Va.un) s2):=fun s2 r2 d1 d2=>dR hL (.me (p:=r2.af) d1.le) d2 rfl ζ hx d1 fun h=>⟨_,h⟩
   cases c2:aO (kd l r1.env r1.af) [59]with
   |true=>
    obtain⟨xs',e,h1⟩:=ow (ys:=[.tx [59]]) (f:=x.af) (a:=[[.nm tH, .bV [[.tx [44], .nm tH]]]]) hL b1 (c:=fun k=>aO k [59]) θ c2 θ;rw[e]
    refine eD h1 b3 (by show x.af+1≤r1.af+1;omega) rfl ζ ζ ζ θ fun h4 h5=>fw _ _ h5 (by show x.af+1≤r1.af+1;omega)
   |false=>
    show Sm l _ _ B D _ _ (((run l base n (.uQ td)>>=fun _=>run l base n (.jS td))>>=fun _=>bY l [59]>>=fun _=>node l 3 (s.af,s.done.length)>>=fun _=>pure Va.un) s1)
    refine uw (F:=Bv 66) (C1:=GV++[67,110,111]) hL b1 (AP (env:=r1.env) c2 ζ ζ ζ) (aI x 3) (.inl (υ _)) ?_ θ θ fun v s2 r2 jM _ d1 d2 d3=>eD d1 d3 (by have d2:r1.af≤r2.af:=d2;omega) rfl ζ ζ ζ θ fun h4 h5=>fw _ _ h5 (by show x.af+1≤r2.af+1;have d2:r1.af≤r2.af:=d2;omega)
    refine dV hL (.me (p:=r1.af) b3.le) (i.ind _ _ _ b3) jW (υ _) ζ rfl θ fun v s2 r2 jM _ d1 d2 d3 d4=>?_
    have d2:r1.af+1≤r2.af:=d2;rw[KW,←wR (vZ l _ _ n)];obtain⟨t, -,hty, -⟩:=d4;have hty:r2.ty=td:=hty
    refine kU (q:=r2.af) (p':=r1.af+1) (C1:=GV++[67,110,111]) (V:=tt) hL d1 ((JA (w:=tH) (it:=fun n=>run l base n (.uQ td)) (I:=fun z=>z.ty=td) (V:=fun x=>VU x) (E:=GV++[67,110,111]) hL ζ θ θ (fun z h=>h) (fun z v s y h ⟨t,h2,h3,_⟩=>h3.trans h) (fun s r D hr h=>⟨(fun(h:false=true)=>(by cases h)),fun _=>lU (C:=[67,110,111]) θ (tJ hr h)⟩) (fun k hk z s D hz e=>e▸(ih k η).ind z s D hz) d3 hty).mono (υ _) (by rw[Θ];exact fun x hx=>aU.2 hx) fun _ _ _ _ _ _=>trivial) (υ _) jW d2 (.inr (υ _)) (.inl (υ _)) θ θ fun v s3 r3 EO _ f1 f2 f3 _=>mr hL f1 (υ _) θ jW f3 trivial
def Sg(o:Option (List Sx))(p:Nat):Prop:=∃z,o=some [z]∧z.af=p
theorem NZ{w w2:Bs}{x:Sx}{p k:Nat}(hw:w2.headD 0≠64)(h:dl l (.call w x)=(ed l x ([.nm w2],k)).bind aG)(h2:Sg (dl l (.call w2 (fr x))) p):Sg (dl l (.call w x)) p:=by
 obtain⟨z,e,hz⟩:=h2
 refine⟨bn x z k,?_,(aI x k z).trans hz⟩
 rw[h]
 show(wr _ (dl l (.seq [.nm w2] x.af [fr x]))).bind aG=_
 rw[bJ,bX,fe hw,e]
 show(wr _ (dl l (.seq [] _ [z]))).bind aG=_
 rw[dH];rfl
theorem Su{x:Sx}{q:Nat}(hq:kc l q=68):∀j k,k+j=11→0<k→(∀y:Sx,y.af=x.af→y.env=x.env→Sg (dl l (.call nU y)) q)→∀y:Sx,y.af=x.af→y.env=x.env→Sg (dl l (.dB k y)) q
 |0,k,h,h0,hc,y,h1,h2=>by
  obtain rfl:k=11:=by omega
  rw[FY];exact hc y h1 h2
 |j+1,k,h,h0,hc,y,h1,h2=>by
  obtain⟨z,e,hz⟩:=Su hq j (k+1) η η hc (fresh y) h1 h2;refine⟨dF y z,?_,hz⟩;rw[xV η,χ η,e,Ξ,fM];show(bu (jh l (dl l) k y) [z]).bind _=_
  have:jh l (dl l) k y z=some []:=by
   unfold jh
   have:wZ l k z.af=false:=by
    rw[RF k _ (by
     have:∀k<11,0<k→k∈[1,2,3,4,5,6,7,8,9,10]:=by decide
     exact this k η h0),hz,uZ,hq]
    have:∀k<11,0<k→aJ (J5 k) (if 68=110∨68=111 then 67 else 68)=false:=by decide
    exact this k η h0
   rw[this];rfl
  rw[bX,this];show(dl l (.iB k y [])).bind _=_;rw[pF];rfl
theorem aa7{env:List (List Sd)}{p:Nat}(h:kd l env p=4):k1 l env p=2∧kc l (p+1)=68:=by
 have h1:k1 l env p=2:=by rw[←eY,h];rfl
 refine⟨h1,?_⟩
 have hm:k1 l env (p+1)=68:=by
  rw[mU h1]at h;exact(by decide+kernel:∀m<110,iK 2 m=4→m=68) _ (jI ..) h
 have h2:=(FX (l:=l) (env:=env) (p:=p+1) (k:=68) ζ).1 hm
 rw[uZ]at h2
 split at h2
 ·cases h2
 ·exact h2
theorem ahv{x:Sx}(hk:kd l x.env x.af=4):Sg (dl l (.call lq x)) (x.af+1):=by
 obtain⟨h1,hq⟩:=aa7 hk
 have hc2:bz l x.af=2:=(mo x.env x.af).1.2 (.inr h1)
 have hT:iN x.env (bM l x.af)=false:=by
  cases e:iN x.env (bM l x.af)with
  |false=>rfl
  |true=>have:=(mo x.env x.af).2.1 ⟨hc2,e⟩;omega
 have kn:∀y:Sx,y.af=x.af→y.env=x.env→(fun k=>k==4) (kd l y.env y.af)=true:=fun y a b=>by rw[a,b];exact aaZ.2 hk
 have pri:∀y:Sx,y.af=x.af→y.env=x.env→Sg (dl l (.call vL y)) (x.af+1):=fun y a b=>by
  refine NZ (w2:=FR) ζ (lV 0 (c:=fun k=>k==4) ζ rfl θ (kn y a b)) ⟨up (fr y),?_,by show y.af+1=_;rw[a]⟩;rw[FW];show some (jC (fr y) (bz l y.af==2&&!iN y.env (bM l y.af)))=_;rw[a,b,hc2,hT];rfl
 have pfx:∀y:Sx,y.af=x.af→y.env=x.env→Sg (dl l (.call yT y)) (x.af+1):=fun y a b=>by
  obtain⟨z,e,hz⟩:=pri (fresh y) a b;refine⟨dF y z,?_,hz⟩
  have e0:dl l (.jT y)=(dl l (.call vL (fresh y))).bind fun a=>(dl l (.call yU (fresh y))).bind fun b=>(aG (a++b)).bind fun z=>dl l (.iO y z):=by rw[fM];rfl
  rw[vR,e0,e,vU (w:=yU) (x:=fresh y) (c:=fun k=>k==4) ζ θ (kn (fresh y) a b)];show dl l (.iO y [z])=_;rw[fM];show(bu (jF l (dl l) y) [z]).bind _=_
  have:jF l (dl l) y z=some []:=by
   have hz:kc l z.af=68:=by rw[hz];exact hq
   unfold jF ru;rw[mZ (t:=[91]) (c:=62) ζ ζ ζ,mZ (t:=[40]) (c:=60) ζ ζ ζ,mZ (t:=[46]) (c:=69) ζ ζ ζ,mZ (t:=Hy) (c:=70) ζ ζ ζ,mZ (t:=El) (c:=71) ζ ζ ζ,mZ (t:=Em) (c:=72) ζ ζ ζ,hz];rfl
  rw[bX,this];show(dl l (.iO y [])).bind _=_;rw[AL];rfl
 have una:∀y:Sx,y.af=x.af→y.env=x.env→Sg (dl l (.call ry y)) (x.af+1):=fun y a b=>NZ (w2:=yT) ζ (lV 0 (c:=fun k=>k==4) ζ rfl θ (kn y a b)) (pfx (fr y) a b)
 have cas:∀y:Sx,y.af=x.af→y.env=x.env→Sg (dl l (.call nU y)) (x.af+1):=fun y a b=>NZ (w2:=ry) ζ (lV 0 (c:=fun k=>k==4) ζ rfl θ (kn y a b)) (una (fr y) a b)
 have cho:∀y:Sx,y.af=x.af→y.env=x.env→Sg (dl l (.dx y)) (x.af+1):=fun y a b=>by
  obtain⟨z,e,hz⟩:=Su (x:=x) hq 10 1 rfl ζ cas (fresh y) a b
  have e0:dl l (.dx y)=(dl l (.dB 1 (fresh y))).bind fun z=>(bu (nS l (dl l) y) z).bind aG:=by rw[fM];rfl
  refine⟨dF y z,?_,hz⟩;rw[e0,e,Ξ,bX]
  have:nS l (dl l) y z=some [dF y z]:=by
   unfold nS;rw[mZ (c:=93) ζ ζ ζ,hz,hq];rfl
  rw[this];rfl
 have ass:∀y:Sx,y.af=x.af→y.env=x.env→Sg (dl l (.call jk y)) (x.af+1):=fun y a b=>by
  obtain⟨z,e,hz⟩:=cho (fresh y) a b
  have e0:dl l (.assign y)=(dl l (.dx (fresh y))).bind fun z=>(bu (mX l (dl l) y) z).bind aG:=by rw[fM];rfl
  refine⟨dF y z,?_,hz⟩;rw[Av,e0,e,Ξ,bX]
  have:mX l (dl l) y z=some [dF y z]:=by
   unfold mX
   rw[χ fun c=>by
    have:=Yg (l:=l) z.af|>.1 c.2
    rw[hz,uZ,hq]at this
    revert this;decide];rfl
  rw[this];rfl
 obtain⟨z,e,hz⟩:=ass (fresh x) rfl rfl
 refine⟨dF x z,?_,hz⟩
 rw[H7,xV ζ,ω rfl,e,Ξ,fM]
 show(bu (jh l (dl l) 0 x) [z]).bind _=_
 have:jh l (dl l) 0 x z=some []:=by
  unfold jh;rw[Yj,CB _ ζ,hz,uZ,hq];rfl
 rw[bX,this]
 show(dl l (.iB 0 x [])).bind _=_
 rw[pF];rfl
theorem aa8{t:So}(h:k1 l t.s.env t.s.af=1)(h0:t.b+t.w=0):ic l (dl l) true t=some [⟨up t.s,t.b,t.w+1⟩]:=by
 have c2:=((mo (l:=l) t.s.env t.s.af).2.2 h).1
 have hs:iY l t.s.env t.s.af true=true:=by rw[vS,h];decide
 unfold ic
 rw[χ (by rw[hs];decide),χ fun h=>by rw[c2]at h;exact absurd h.1 ζ,χ fun h=>by rw[c2]at h;exact absurd h.1 ζ,χ fun h=>by rw[c2]at h;exact absurd h.1 ζ,χ η,ω (by rw[c2];decide)];rfl
theorem ahw{x:Sx}(hk:kd l x.env x.af=5):dl l (.call AA x)=some []:=by
 have h1:k1 l x.env x.af=1:=by rw[←eY,hk];rfl
 have hm:k1 l x.env (x.af+1)=68:=by
  have h:=hk;rw[mU h1]at h;exact(by decide+kernel:∀m<110,iK 1 m=5→m=68) _ (jI ..) h
 obtain⟨hc2,hT⟩:=(mo (l:=l) x.env x.af).2.2 h1
 rw[lV 0 (c:=fun k=>k==5) ζ rfl θ (aaZ.2 hk)]
 show(wr _ (dl l (.seq [.nm Cy, .nm Bq, .dO [[.nm tH, .bV [[.tx [44], .nm tH]]]], .tx [59]] x.af [fr x]))).bind aG=_
 have m1:ic l (dl l) true ⟨fresh (fr x),0,0⟩=some [⟨up (fresh (fr x)),0,1⟩]:=aa8 (t:=⟨fresh (fr x),0,0⟩) h1 rfl
 have m2:ic l (dl l) true ⟨up (fresh (fr x)),0,1⟩=some []:=by
  unfold ic;refine ω ?_;show iY l x.env (x.af+1) true=false;rw[vS,hm];decide
 have e1:dl l (.call Cy (fr x))=some [y9 (fr x) ⟨up (fresh (fr x)),0,1⟩]:=by
  rw[uN,F6 ν,bX,m1];show(dl l (.dh true (fr x) [_])).bind _=_;rw[F6 ν,bX,m2];show((dl l (.dh true (fr x) [])).bind _).bind _=_;rw[AQ];rfl
 generalize hz:y9 (fr x) ⟨up (fresh (fr x)),0,1⟩=z at e1
 have hzk:∀b,kd l ({z with ty:=b}:Sx).env ({z with ty:=b}:Sx).af=iK 68 (k1 l x.env (x.af+1+1)):=fun b=>by
  rw[←hz];exact mU hm
 have hk2:∀m<110,iK 68 m=68:=by decide+kernel
 rw[bJ,bX,fe ζ,e1]
 show(wr _ (dl l (.seq [.nm Bq, .dO [[.nm tH, .bV [[.tx [44], .nm tH]]]], .tx [59]] x.af [z]))).bind aG=_
 rw[bH (iW ζ z x.af)]
 rw[dN snd 8 68 _ x.af _ θ ((hzk _).trans (hk2 _ (jI ..)))];rfl
end
structure wm (l:List Ct) (base:Bs→Bool) (B:List Sd) (k:Nat):Prop where
 d:Sr l base B k
 Pk:dZ l base B (.call mY) .iy [] (fun x=>VU x) k
 itm:dZ l base B (.call KF) .wK [] (fun x=>VU x) k
 prt:dZ l base B (.call Ej) .part [] (fun x=>VU x) k
def VB(x:Sx)(v:Va)(s:Ps)(r:Sx):Prop:=VU x v s r∧v.bool=true
section
variable {l:List Ct} {base:Bs→Bool} {B:List Sd} {D D2:List Nd}
theorem rX{xs:List Sx}(h:∀x∈xs,aJ [] (kc l x.af)=true):xs=[]:=acs.2 fun x hx=>by have:=h x hx;cases this
theorem AU{k p P:Nat}{x r:Sx}{s s2:Ps}{f:Nat}{v:Va}(hL:l.length≤90)(hk:0<k)(hx:Rl l B D s x)(hr:Rl l B s.done s2 r)(hP:P≤r.af)(hv:v.bool=true):Sm l P [] B D (VB x) (wr (fun r=>bn x r k) (dl l (.seq [.nm Ei] f [r]))) ((node l k (s.af,s.done.length)>>=fun _=>eO>>=fun _=>pure v) s2):=by
 rw[bH (z:={r with cl:=r.env.getLastD [],env:=r.env.dropLast}) (iW ζ _ _)]
 rcases xD (l:=l) (k:=k) (h:=(s.af,s.done.length)) (s:=s2) (f:=fun _=>eO>>=fun _=>pure v)with e|⟨-,e⟩
 ·rw[e];trivial
 rw[e]
 have hn:=xX (k:=k) hx (by rw[hr.dn]) hr
 rcases ET hn (fun _=>pure v)with e|⟨e,d1,d2⟩
 ·rw[e];trivial
 rw[e]
 refine mr hL (.me (p:=P) hr.le hP) (υ _) rfl (aI x k) ⟨(aI x k _).trans hr.af,aaT (acf (aI x k _)) hr.le,?_,?_,d1.bk⟩ ⟨⟨.mk k x.af r.af r.ah (if k=16 then r.env.getLastD []else[]),?_⟩,hv⟩
 ·show(bn x _ k).env=_
  unfold bn;rw[ω hk];exact d1.env
 ·show _=D++fG (bn x _ k).ah
  unfold bn;rw[ω hk];have:=hn.dn;show _=D++fG (x.ah++[_]);rw[this];show D++fG (x.ah++[_])=_;rw[nV,nV,nW,nW,post,post]
 ·unfold bn;rw[ω hk];exact⟨rfl,rfl,rfl⟩
variable {C C2 : List Nat}{xs : List Sx}{ys : List Sy}{P f n p : Nat}{s : Ps}{r : Sx}{g : Sx→Sx}{V2 : Va→Ps→Sx→Prop}
theorem N7 {k:Va→Pm Va}(hL:l.length≤90)(ih:∀k,k<n→wm l base B k)(hF:Fr l p C xs r)(hr:Rl l B D s r)(hg:Kp g)(hd:(C.all fun c=>dd c (.tx [40]))=true)(hP:P≤r.af)(hk:∀v s1 r1,Fr l r1.af [] [r1] r1→r.af≤r1.af→Rl l B D s1 r1→Sm l P C2 B D2 V2 (wr g (dl l (.seq ys f [r1]))) (k v s1)):Sm l P C2 B D2 V2 (wr g (dl l (.seq (.tx [40]:: .nm lq:: .tx [41]::ys) f xs))) ((run l base n .iP>>=k) s):=by
 cases n with
 |zero=>rw[jR];unfold Pm.bind;rw[run];trivial
 |succ n=>
  rw[run];simp only[bG]
  refine eD hF hr η rfl ζ ζ ζ hd fun h1 h2=>?_
  refine dV hL h1 ((ih n η).d.g.ex.e _ _ _ h2) hg (by show P≤r.af+1+1;omega) ζ rfl (ym θ) fun v s3 r3 EO _ h3 h4 h5 _=>?_
  have h4:r.af+1+1≤r3.af:=h4
  refine eD h3 h5 η rfl ζ ζ ζ θ fun h6 h7=>?_
  exact hk _ _ _ (.me h7.le) (by show r.af≤r3.af+1;omega) h7
theorem JH {k:Va→Pm Va}(hL:l.length≤90)(ih:∀k,k<n+1→wm l base B k)(hF:Fr l p C xs r)(hr:Rl l B D s r)(hg:Kp g)(hd:(C.all fun c=>dd c (.nm Ej))=true)(hP:P≤r.af)(hk:∀v s1 r1,Fr l r1.af [] [r1] r1→r.af≤r1.af→Rl l B D s1 r1→Sm l P C2 B D2 V2 (wr g (dl l (.seq ys f [r1]))) (k v s1)):Sm l P C2 B D2 V2 (wr g (dl l (.seq (.nm Ej::ys) f xs))) ((run l base n .part>>=k) s):=
 dV hL hF ((ih n (aar n)).prt _ _ _ hr) hg η ζ hd (KV ys) fun v s1 r1 gB _ h1 h2 h3 _=>by
  obtain⟨-,A,Z,rfl,h⟩:=h1
  have hA:A=[]:=rX (l:=l) fun x hx=>(h x (aby _ hx)).1
  have hZ:Z=[]:=rX (l:=l) fun x hx=>(h x (abD _ hx)).1
  subst hA hZ;exact hk v s1 r1 (.me h3.le) η h3
theorem CP{n p P:Nat}{C2:List Nat}{r:Sx}{ys:List Sy}{f:Nat}{k:Va→Pm Va}{s:Ps}{g:Sx→Sx}{V2:Va→Ps→Sx→Prop}{t:Bs}{c:Nat}(hL:l.length≤90)(ih:∀k,k<n→wm l base B k)(hF:Fr l p [] [r] r)(hr:Rl l B D s r)(hg:Kp g)(ho:rP t=true)(hc:bg t=c)(h0:c≠0)(h1:c≠1)(h2:c≠2)(h3:c≠67)(ht:tb (fun k=>un k==c) (FZ [[.nm lq]])=true)(hd:((Bv c++zJ).all fun c=>dd c (.tx t))=true)(hP:P≤r.af+1)
  (hk:∀v s1 r1,Fr l r1.af [] [r1] r1→r.af+1≤r1.af→Rl l B D s1 r1→Sm l P C2 B D2 V2 (wr g (dl l (.seq ys f [r1]))) (k v s1)):Sm l P C2 B D2 V2 (wr g (dl l (.seq (.dO [[.nm lq]]:: .tx t::ys) f [r]))) ((run l base n (.ik t)>>=k) s):=by
 cases n with
 |zero=>rw[jR];unfold Pm.bind;rw[run];trivial
 |succ n=>
  have hq:=iQ hr ho η η η
  have er:run l base (n+1) (.ik t) s=(eu l 0 t>>=fun b=>(if b=true then pure Va.un else run l base n .o9)>>=fun _=>bY l t>>=fun _=>pure Va.un) s:=by
   rw[run,jL,jL]
   cases aX l s 0 t<;>rfl
  rw[ER er];rw[bG,jL,hq]
  cases c2:aO (kd l r.env r.af) t with
  |true=>
   obtain⟨xs',e,h9⟩:=ow (ys:= .tx t::ys) (f:=f) (a:=[[.nm lq]]) hL hF (c:=fun k=>un k==c) ht (by unfold aO at c2;rw[hc]at c2;exact c2) rfl;rw[e];show Sm l _ _ B D2 _ _ (((bY l t>>=fun _=>pure Va.un)>>=k) s);rw[bG]
   exact eD h9 hr hP ho η η η rfl fun h6 h7=>hk _ _ _ (.me h7.le) (υ _) h7
  |false=>
   show Sm l _ _ B D2 _ _ (((run l base n .o9>>=fun _=>bY l t>>=fun _=>pure Va.un)>>=k) s);rw[bG]
   refine uw (C:=[]) (F:=Bv c) (C1:=zJ) hL hF (AP c2 hc h0 h3 h1 h2) hg (.inr (ym hd)) (lW hL ζ ((ih n η).d.g.ex.e _ _ _ hr)) rfl (ym hd) fun v s3 r3 EO _ a1 a2 a3=>?_
   rw[bG]
   exact eD a1 a3 η ho η η η hd fun h6 h7=>hk _ _ _ (.me h7.le) (by show r.af+1≤r3.af+1;omega) h7
variable {m : Nat}
theorem aa9 (hL:l.length≤90)(ih:∀k,k<m→wm l base B k):dZ l base B (.call Ej) .part [] (fun x=>VU x) m:=by
 intro x s D hx
 cases m with
 |zero=>rw[run];trivial
 |succ n=>
  rw[run];refine dY 0 (w:=Ej) hL (c:=fun _=>true) ζ rfl θ rfl ?_;have ho:=hx.fr.qY;rw[bH (z:={fr x with env:=qY (fr x).env}) (iW ζ _ _)]
  refine(ES _ s).elim (fun e=>by rw[e];trivial) fun e=>?_
  rw[e]
  refine dV hL (.me (p:=x.af) ho.le) ((ih n (aar n)).Pk _ _ _ ho) (aI x 0) (υ _) ζ rfl ζ fun v s1 r1 gB _ h1 h2 h3 h4=>?_
  obtain⟨-,A,Z,rfl,h⟩:=h1
  have hA:A=[]:=rX (l:=l) fun x hx=>(h x (aby _ hx)).1
  have hZ:Z=[]:=rX (l:=l) fun x hx=>(h x (abD _ hx)).1
  subst hA hZ;rw[List.nil_append,bH (z:={r1 with cl:=r1.env.getLastD [],env:=r1.env.dropLast}) (iW ζ _ _)]
  rcases ET h3 (fun _=>pure Va.un)with e|⟨e,d1,d2⟩
  ·rw[e];trivial
  rw[e];obtain⟨t,h4, -, -⟩:=h4;exact mr hL (.me (p:=x.af+1) d1.le h2) (υ _) rfl (aI x 0) (hx.EM d1) ⟨t,by show x.ah++r1.ah=_;rw[h4];rfl,rfl,rfl⟩
end
section
variable {l:List Ct} {base:Bs→Bool} {B:List Sd} {D D2:List Nd}
variable {s : Ps}{x : Sx}
theorem afJ (h:Rl l B D s x):((az l s 0).c==2&&aX l s 1 [58])=(kd l x.env x.af==4||kd l x.env x.af==5):=by
 rw[x8 h (t:=[58]) rfl ζ,show bg [58]=68 by decide]
 by_cases c:(az l s 0).c=2
 ·rw[c,afA,af5]
  have hk:=(mo (l:=l) x.env x.af).1.1 ((zg h).1 c)
  rcases hk with hk|hk
  ·have:∀m<110,(m==68)=(iK 1 m==4||iK 1 m==5):=by decide+kernel
   rw[mU hk,this _ (jI ..)]
  ·have:∀m<110,(m==68)=(iK 2 m==4||iK 2 m==5):=by decide+kernel
   rw[mU hk,this _ (jI ..)]
 ·rw[abF c,agw]
  have h1:un (kd l x.env x.af)≠1:=fun e=>c ((Ws h).1.2 (.inl e))
  have h2:un (kd l x.env x.af)≠2:=fun e=>c ((Ws h).1.2 (.inr e))
  have:∀k<KN,un k≠1→un k≠2→(k==4||k==5)=false:=by decide+kernel
  rw[this _ (jP ..) h1 h2]
def DT(k:Nat):Bool:=k==4||k==5
def L6(k:Nat):Bool:=aO k uW||(nL (un k)||oP (un k))
theorem afK (hB:Bb base B)(h:Rl l B D s x):(iX l s uW||jD l base s 0)=L6 (kd l x.env x.af):=by
 rw[CF h (t:=uW) rfl ζ,NK hB h 0]
 unfold L6
 rw[eY];rfl
def L8(l:List Ct)(base:Bs→Bool)(n:Nat):Pm Va:=fun s=>if(!((az l s 0).c==2&&aX l s 1 [58])&&(iX l s uW||jD l base s 0))=true then run l base n .iw s else run l base n .iy s
theorem aba:∀n,run l base n .xz=(ze l [125] (L8 l base) n>>=fun _=>bY l [125]>>=fun _=>pure Va.un)
 |0=>by funext s;rw[run];rfl
 |n+1=>by
  funext s
  have e:ze l [125] (L8 l base) (n+1) s=if aX l s 0 [125]=true then .ok Va.un s else(L8 l base n>>=fun _=>ze l [125] (L8 l base) n) s:=rfl
  rw[run]
  cases c:aX l s 0 [125]with
  |true=>rw[dM c,jo (show ze l _ _ (n+1) s= .ok Va.un s by rw[e,c];rfl),sQ c];rfl
  |false=>
   rw[dM c,ER (show ze l _ _ (n+1) s=(L8 l base n>>=fun _=>ze l _ _ n) s by rw[e,c];rfl),bG,←aba n];show(if(!((az l s 0).c==2&&aX l s 1 [58])&&(iX l s uW||jD l base s 0))=true then(run l base n .iw>>=fun _=>run l base n .xz)else(run l base n .iy>>=fun _=>run l base n .xz):Pm Va) s=(L8 l base n>>=fun _=>run l base n .xz) s;rw[jR];unfold Pm.bind L8
   split<;>rfl
def itA:List (List Sy):=[[.nm AA],[.nm mY]]
variable {r : Sx}
theorem ahx {a:List (List Sy)}{q:Nat}{C:List Nat}{V:Va→Ps→Sx→Prop}{R:Rs Va}(hL:l.length≤90)(h:Sm l q C B D V (gT l a r) R):Sm l q C B D V (gT l [[.jy a]] r) R:=by
 rw[ou,bJ,bX,wP]
 have:=(h.aG hL).aG hL
 cases c:(gT l a r).bind aG with
 |none=>rw[c]at this;exact this
 |some z=>rw[c]at this;show Sm l q C B D V ((dl l (.seq [] _ z)).bind aG) R;rw[dH];exact this
theorem ahy {k:Nat}(hL:l.length≤90)(hB:Bb base B)(ih:wm l base B k)(hr:Rl l B D s r):Sm l (r.af+1) [] B D tt (gT l [[.jy itA]] r) (L8 l base k s):=by
 refine ahx hL ?_
 unfold L8
 rw[afJ hr,afK hB hr]
 show Sm l _ _ B D _ _ (if(!DT _&&_)=true then _ else _)
 have ay:∀{w:Bs} {R:Rs Va},w.headD 0≠64→Sm l (r.af+1) [] B D (VU r) (dl l (.call w r)) R→Sm l (r.af+1) [] B D tt ((dl l (.seq [.nm w] r.af [r])).bind aG) R:=fun hw h=>BX (lW hL hw h)
 cases c1:DT (kd l r.env r.af)with
 |true=>
  rw[χ (by rw[Bool.not_true,agw];decide)];by_cases c2:kd l r.env r.af=5
  ·have:gT l itA r=(dl l (.seq [.nm mY] r.af [r])).bind aG:=by
    have e1:dl l (.seq [.nm AA] r.af [r])=some []:=il ((fe ζ r r.af).trans (ahw c2));unfold gT itA;rw[di,e1,bX]
    cases dl l (.seq [.nm mY] r.af [r])<;>rfl
   rw[this];exact ay ζ (ih.Pk _ _ _ hr)
  ·rw[vV 1 (c:=fun k=>k==4) rfl θ (by unfold DT at c1;rw[abF c2,afp]at c1;exact c1)]
   exact ay ζ (ih.Pk _ _ _ hr)
 |false=>
  cases c2:L6 (kd l r.env r.af)with
  |true=>
   rw[ω ζ,vV 0 (c:=fun k=>!DT k&&L6 k) rfl θ (by rw[c1,c2];rfl)];exact ay ζ (ih.d.dcn _ _ _ hr)
  |false=>
   rw[χ ζ,vV 1 (c:=fun k=>!DT k&&!L6 k) rfl θ (by rw[c1,c2];rfl)];exact ay ζ (ih.Pk _ _ _ hr)
theorem YC{m:Nat}(hL:l.length≤90)(hB:Bb base B)(ih:∀k,k<m→wm l base B k):dZ l base B (.call KF) .wK [] (fun x=>VU x) m:=by
 intro x s D hx
 cases m with
 |zero=>rw[run];trivial
 |succ n=>
  have hf:=hx.fr;rw[run,fD];refine dY 0 (w:=KF) hL (c:=fun _=>true) ζ rfl θ rfl ?_
  refine eD (.me (p:=x.af) hf.le) hf (υ _) rfl ζ ζ ζ rfl fun h1 h2=>?_
  rw[aba,bG]
  refine kU (q:=x.af+1) (p':=x.af+1) (C1:=Bv 65) (V:=tt) hL h1 (aaU hL rfl ζ ζ ζ ζ ζ θ (fun k hk s r D hr _=>ahy hL hB (ih k η) hr) h2) (υ _) (aI x 22) (υ _) (.inl rfl) (.inl (υ _)) rfl θ fun v s3 r3 EO _ d1 d2 d3 _=>?_
  rw[bG]
  refine eD d1 d3 (by have d2:x.af+1≤r3.af:=d2;omega) rfl ζ ζ ζ θ fun d4 d5=>?_
  exact dR hL d4 (by have d2:x.af+1≤r3.af:=d2;omega) rfl ζ hx d5 fun h=>⟨_,h⟩
theorem adz {n:Nat}(hL:l.length≤90)(ih:∀k,k<n+1→wm l base B k)(hx:Rl l B D s x):Sm l (x.af+1) [] B D (VU x) (dl l (.call Ya x)) ((jU l>>=fun _=>run l base n .wK>>=fun _=>eO>>=fun _=>pure Va.un) s):=by
 refine dY 0 (w:=Ya) hL (c:=fun _=>true) ζ rfl θ rfl ?_
 have ho:=hx.fr.qY
 rw[bH (z:={fr x with env:=qY (fr x).env}) (iW ζ _ _)]
 refine(ES _ s).elim (fun e=>by rw[e];trivial) fun e=>?_
 rw[e]
 refine dV hL (.me (p:=x.af) ho.le) ((ih n (aar n)).itm _ _ _ ho) (aI x 0) (υ _) ζ rfl ζ fun v s1 r1 gB _ h1 h2 h3 h4=>?_
 obtain⟨-,A,Z,rfl,h⟩:=h1
 have hA:A=[]:=rX (l:=l) fun x hx=>(h x (aby _ hx)).1
 have hZ:Z=[]:=rX (l:=l) fun x hx=>(h x (abD _ hx)).1
 subst hA hZ
 rw[List.nil_append,bH (z:={r1 with cl:=r1.env.getLastD [],env:=r1.env.dropLast}) (iW ζ _ _)]
 rcases ET h3 (fun _=>pure Va.un)with e|⟨e,d1,d2⟩
 ·rw[e];trivial
 rw[e]
 obtain⟨t,h4, -, -⟩:=h4
 exact mr hL (.me (p:=x.af+1) d1.le h2) (υ _) rfl (aI x 0) (hx.EM d1) ⟨t,by show x.ah++r1.ah=_;rw[h4];rfl,rfl,rfl⟩
end
end Go.Proofs.YtlboejdhmggjpaaGreat.Pp.Dr
namespace Go.Proofs.YtlboejdhmggjpaaGreat.Pp
set_option maxRecDepth 100000
set_option maxHeartbeats 16000000
open Go.RowKit Go.BigFrame Go.Proofs.YtlboejdhmggjpaaGreat
theorem adT{E:En}(hE:E.ok){n:Nat}(ih:∀m,m≤n→Wk E m)(k:Nat)(s:Ps)(w:World)(hp:PW E w s)(hne:run E.L E.base (n+1) (.fI k) s≠ .out):Calls Tryz.prog 116 #[.pointer (some ⟨E.pb,0,none⟩), .int .i64 k] w (eZ E GY w (run E.L E.base (n+1) (.fI k) s)):=by
 obtain⟨r,hr⟩:∃r,run E.L E.base (n+1) (.fI k) s=r:=⟨_,rfl⟩
 rw[hr]at hne⊢
 rw[run]at hr
 have HN:=Hh hne
 have Bc:=Hh hr
 have G5:=Hh hp
 have je:=Hh (KP.refl w)
 have IH:=Hh ih
 clear hne hr hp ih
 go_enter Tryz.func116,Tryz.ntmps116
 go_wp2_with fail
 go_step3
 go_wp2_with fail
 refine mR (Ci hE _ _ G5.out) Bc HN je (fun _ _ h=>⟨rfl,h⟩) ?_
 rintro v1 s1 w1 HR1 qI - mF
 have PI:=Hh (lC.new w1 v1)
 have PM:=Hh (qI.out.ext hE (ag w1 (.cells #[.int .i64 v1.1, .int .i64 v1.2] 77)))
 have PN:=Hh (mF.out.trans (KP.aT (ag w1 (.cells #[.int .i64 v1.1, .int .i64 v1.2] 77))))
 have ajQ:=Hh qI.out
 have ajR:=Hh mF.out
 clear qI mF
 have qI:=Hh PM.out
 have mF:=Hh PN.out
 clear PM PN
 simp only[tL]
 obtain⟨bh,zk⟩:∃b,w1.heap.size=b:=⟨_,rfl⟩
 have TC:=Hh (zk▸PI.out)
 clear PI
 go_wp2_with fail
 try rw[zk]
 refine mQ ((IH.out n (υ _)).Mq _ _ qI.out (fP HR1.out HN.out)) HR1 HN mF (fun _ _ h=>⟨rfl,h⟩) ?_
 rintro v2 s2 y2 w2 HR2 rfl nJ hkk eQ
 have TD:=Hh (TC.out.kp hkk)
 clear hkk
 go_wp2_with fail
 go_step3
 go_wp2_with fail
 go_loopg [6,7] n (fun gf q6 q7 wr=>∃(s':Ps) (ub:Bool),q6= .bool ub∧gf≤n∧run E.L E.base gf (.fT k v1 ub) s'=r∧PW E wr s'∧KP w wr∧lC wr bh v1)
 case atStart=>exact⟨_,_,rfl,υ _,HR2.out,nJ.out,eQ.out,TD.out⟩
 case round=>
  obtain⟨s3,ub,rfl,axD,hr3,hp3,hk3,ajS⟩:=hrel
  cases gk with
  |zero=>rw[iH]at hr3;exact absurd hr3.symm HN.out
  |succ g3=>
   rw[run]at hr3;have HR3:=Hh hr3;have sW:=Hh hp3;have ji:=Hh hk3;have zl:=Hh ajS;clear hr3 hp3 hk3 ajS
   go_wp2_with fail
   refine(K7 hE _ _ sW.out).mono ?_;intro e w4 he
   rcases CQ (x:=dB E.L) HR3.out HN.out ji.out he with⟨v4,s4,hr4,ajT,rfl,Mw,hkk,hk4⟩|⟨hr4,⟨z,rfl⟩,hb4,hk4⟩
   case' inr=>exact⟨rfl,xm hr4 hb4 hk4⟩
   have HR4:=Hh hr4;have pR:=Hh Mw;have qo:=Hh hk4;have Lf:=Hh (zl.out.kp hkk);clear he hr4 Mw hkk hk4;have hv4:v4≤45:=KM ajT;clear ajT;simp only[inV];by_cases hl4:v4<k
   ·have hd4:decide (v4<k)=true:=aa4 hl4
    replace HR4:=Hh (QQ HR4.out (by simp[hl4]))
    go_wp2_with fail
    exact⟨rfl, .bool ub,by simp[results,Tryz.results116,go_sem],Iq (zh HR4.out) rfl pR.out qo.out⟩
   ·have hd4:decide (v4<k)=false:=aa5 hl4
    replace HR4:=Hh (Mm HR4.out (by simp[hl4]));obtain⟨adU,yo⟩:=A9 HR4.out HN.out;obtain⟨c1,f1, -⟩:=pR.out.at;have hpb:=pR.out.lt;obtain⟨q51,q52⟩:=pR.out.on hE adU;have hLn:=hE.len;obtain⟨a5,adV⟩:∃a,Ps.af s4=a:=⟨_,rfl⟩;rw[adV]at c1 adU yo q51 q52
    have hi:a5<100000:=by omega
    obtain⟨s5,hs5⟩:∃t:Ps,(⟨a5+1,s4.done,s4.nm⟩:Ps)=t:=⟨_,rfl⟩;rw[hs5]at yo q51;clear hs5;have zm:=Hh yo;have E9:=Hh q51;have IA:=Hh (qo.out.trans q52);have YV:=Hh (Lf.out.kp q52);have axE:=Hh adV;clear q51 q52 yo adU hLn adV
    go_wp2_with fail
    try clear c1 f1 hpb hi
    rw[show((v4:Int)+1)=((v4+1:Nat):Int)from by omega];refine mQ ((IH.out g3 η).Gi (v4+1) _ _ E9.out (fP zm.out HN.out)) zm HN IA (fun _ _ h=>⟨rfl,h⟩) ?_;rintro v6 s6 y6 w6 zo rfl Fa hkk Ba;have YW:=Hh (YV.out.kp hkk);clear hkk;obtain⟨d0,d1⟩:=YW.out.cells
    go_wp2_with fail
    refine mR (Af hE v4 v1 _ _ Fa.out (fP zo.out HN.out)) zo HN Ba (fun _ _ h=>⟨rfl,h⟩) ?_;rintro v7 s7 w7 tQ Xg hkk Mx;have TE:=Hh (YW.out.kp hkk);clear hkk
    try clear d0 d1
    go_wp2_with fail
    go_roundg g3
    case measure=>omega
    case rel=>exact⟨_,_,rfl,by omega,tQ.out,Xg.out,Mx.out,TE.out⟩
theorem ahX{E:En}(hE:E.ok){n:Nat}(ih:∀m,m≤n→Wk E m)(a:Bool)(s:Ps)(w:World)(hp:PW E w s)(hne:run E.L E.base (n+1) (.dh a) s≠ .out):Calls Tryz.prog 46 #[.pointer (some ⟨E.pb,0,none⟩), .bool a] w (eZ E GY w (run E.L E.base (n+1) (.dh a) s)):=by
 obtain⟨r,hr⟩:∃r,run E.L E.base (n+1) (.dh a) s=r:=⟨_,rfl⟩
 rw[hr]at hne⊢
 rw[run]at hr
 have HN:=Hh hne
 have Bc:=Hh hr
 have G5:=Hh hp
 have je:=Hh (KP.refl w)
 have IH:=Hh ih
 clear hne hr hp ih
 go_enter Tryz.func46,Tryz.ntmps46
 go_wp2_with fail
 go_step3
 go_wp2_with fail
 refine mR (Ci hE _ _ G5.out) Bc HN je (fun _ _ h=>⟨rfl,h⟩) ?_
 rintro v1 s1 w1 HR1 qI - mF
 have PI:=Hh (lC.new w1 v1)
 have PM:=Hh (qI.out.ext hE (ag w1 (.cells #[.int .i64 v1.1, .int .i64 v1.2] 77)))
 have PN:=Hh (mF.out.trans (KP.aT (ag w1 (.cells #[.int .i64 v1.1, .int .i64 v1.2] 77))))
 have ajQ:=Hh qI.out
 have ajR:=Hh mF.out
 clear qI mF
 have qI:=Hh PM.out
 have mF:=Hh PN.out
 clear PM PN
 simp only[tL]
 obtain⟨bh,zk⟩:∃b,w1.heap.size=b:=⟨_,rfl⟩
 have TC:=Hh (zk▸PI.out)
 clear PI
 go_wp2_with fail
 try rw[zk]
 go_step3
 go_wp2_with fail
 go_loopg [4,6,7,8,9] n (fun gf q4 q6 q7 q8 q9 wr=>∃(s':Ps) (wd:Nat) (oo:Nat) (td:Bool),q4= .bool td∧q6= .int .i64 (wd:Nat)∧q7= .int .i64 (oo:Nat)∧gf≤n∧(run E.L E.base gf (.jJ a wd oo td)>>=fun r=>(do node E.L 5 v1;pure r)) s'=r∧PW E wr s'∧KP w wr∧lC wr bh v1)
 case atStart=>exact⟨_,0,0,false,rfl,rfl,rfl,υ _,HR1.out,qI.out,mF.out,TC.out⟩
 case round=>
  obtain⟨s2,wd,oo,td,rfl,rfl,rfl,hgn2,hr2,hp2,hk2,ajU⟩:=hrel
  cases gk with
  |zero=>exact absurd (q_0 hr2) HN.out
  |succ g2=>
   rw[run]at hr2;have HR2:=Hh hr2;have nJ:=Hh hp2;have eQ:=Hh hk2;have TD:=Hh ajU;clear hr2 hp2 hk2 ajU
   have hwo:¬E.L.length<wd+oo:=fun hlt=>HN.out (by have hq:=HR2.out;rw[ω hlt]at hq;exact hq.symm)
   replace HR2:=Hh (cO HR2.out (hwo))
   with_reducible replace HR2:=Hh (gL HR2.out)
   have hLn:=hE.len
   have hbw:wd<200000:=by omega
   have hbo:oo<200000:=by omega
   clear hLn hwo
   go_wp2_with fail
   obtain⟨T,hT⟩:∃T,az E.L s2 0=T:=⟨_,rfl⟩
   have hxl:T.t.length≤maxLen:=by rw[←hT];exact Gh hE _ 0
   have pk:=qg hE 0 _ _ η nJ.out;rw[hT]at pk;have hq:=uT (x:=rD E.L 0) HR2.out rfl;rw[hT]at hq;clear hT;obtain⟨c3,t3⟩:=T;unfold AX at pk;dsimp only at pk hq hxl;obtain⟨x3,hxs⟩:∃x:ByteArray,au t3=x:=⟨_,rfl⟩;obtain⟨z3,hzs⟩:∃z:Int,(c3:Int)=z:=⟨_,rfl⟩;rw[hxs,hzs]at pk;have IE:=Hh hxs;have HZ3:=Hh hzs;have HL3:=Hh hxl;have HR3:=Hh hq;have PK:=Hh pk;clear hxs hzs hxl hq pk;refine PK.out.mono ?_;rintro e w3 ⟨rfl,hbl⟩;have TF:=Hh hbl;clear hbl PK;have Ag:=Hh (nJ.out.ext hE TF.out);have TH:=Hh (eQ.out.trans (KP.aT TF.out));have sW:=Hh (Ag.out.ext hE (ag w3 (.cells #[.int .i64 z3, .string x3] 54)));have ji:=Hh (TH.out.trans (KP.aT (ag w3 (.cells #[.int .i64 z3, .string x3] 54))));have MB:=Hh (TD.out.kp (KP.aT TF.out));have zl:=Hh (MB.out.kp (KP.aT (ag w3 (.cells #[.int .i64 z3, .string x3] 54))));obtain⟨bt,hbt⟩:∃b,w3.heap.size=b:=⟨_,rfl⟩;have Gr:=Hh (hbt▸uB.new w3 z3 x3)
   with_reducible replace HR3:=Hh (gL HR3.out)
   have hq:=HR3.out;replace hq:=uT (x:=sj) hq rfl;clear HR3;have HR3:=Hh hq;clear hq;by_cases hc32:c3=2
   ·have ajV:(z3==2)=true:=by rw[←HZ3.out,hc32];rfl
    have ajW:(z3 !=2)=false:=by rw[←HZ3.out,hc32];rfl
    have ajX:(z3==1)=false:=by rw[←HZ3.out,aat];omega
    have ajY:(z3 !=1)=true:=by rw[←HZ3.out,acm];omega
    by_cases hwo:0<wd+oo
    ·have axF:decide (0<wd+oo)=true:=aa4 hwo
     have axG:decide ((0:Int)<(wd:Int)+(oo:Int))=true:=aa4 η
     go_wp2_with fail
     try rw[hbt]
     obtain⟨W4,jB⟩:∃W,W=w3.alloc (.cells #[.int .i64 z3, .string x3] 54):=⟨_,rfl⟩;have Fb:PW E W4 s2:=jB▸sW.out;have hkW:KP w W4:=jB▸ji.out;have IG:lC W4 bh v1:=jB▸zl.out;have zq:uB W4 bt z3 x3:=jB▸Gr.out;rw[←jB];clear jB
     have g1:∀u:df W4,u.w.cell? ⟨bt,1,none⟩=some (.string x3):=fun u=>u.cell zq.cells.2
     have g0:∀u:df W4,u.w.cell? ⟨bt,0,none⟩=some (.int .i64 z3):=fun u=>u.cell zq.cells.1
     have Kb:=Hh Fb;clear Fb;refine wp_region_quiet (C:=fun w'=>∃u:df W4,w'=u.w) (by kernel_rfl) (by kernel_rfl) (df.drew W4) ?_;dsimp only[]
     repeat(go_big_quiet_step (fail))
     refine abO ?_;rintro w' ⟨u,rfl⟩;obtain⟨w4,hw⟩:∃w',w'=u.w:=⟨_,rfl⟩;have hbe:=u.below;rw[←hw]at hbe⊢;have pR:=Hh (Kb.out.ext hE hbe);have qo:=Hh (hkW.trans (KP.aT hbe));have Lf:=Hh (IG.kp (KP.aT hbe));have ajZ:=Hh (zq.kp (KP.aT hbe));clear hw hbe hkW Kb g0 g1 IG zq;clear u;have HR4:=Hh HR3.out;obtain⟨e0,e1⟩:=ajZ.out.cells;replace HR4:=Hh (kI HR4.out (by simp[hc32,hwo]));replace HR4:=Hh (kI HR4.out (by simp[hc32,hwo]));by_cases hw0:wd=0
     focus
      subst hw0;by_cases ho0:oo=0
      ·subst ho0
       exfalso;omega
      focus
       by_cases ho1:oo=1
       focus
        subst ho1;refine ?S4a
       rotate_left 1
       ·have f1:((oo:Int)==0)=false:=by rw[aat];omega
        have f2:1<oo:=by omega
        replace HR4:=Hh (kI HR4.out η)
        go_wp2_with fail
        refine(qh (α:=Va) hE (fun _=> .tuple #[]) _ _ pR.out).mono ?_;rintro e wf ⟨⟨z,rfl⟩,hbf,lJ⟩;exact⟨rfl,xm (show r= .no from HR4.out.symm) hbf (qo.out.trans lJ)⟩
     rotate_left 1
     focus
      have f1:((wd:Int)+(oo:Int)==0)=false:=by rw[aat];omega
      have f3:0<wd:=by omega
      by_cases ho0:oo=0
      focus
       subst ho0
       have f4:((wd:Int)==0)=false:=by rw[aat];omega
       refine ?S4b
      rotate_left 1
      ·have f5:0<oo:=by omega
       by_cases ho1:1<oo
       ·replace HR4:=Hh (kI HR4.out η)
        go_wp2_with fail
        refine(qh (α:=Va) hE (fun _=> .tuple #[]) _ _ pR.out).mono ?_;rintro e wf ⟨⟨z,rfl⟩,hbf,lJ⟩;exact⟨rfl,xm (show r= .no from HR4.out.symm) hbf (qo.out.trans lJ)⟩
       ·have f6:decide (1<oo)=false:=aa5 ho1
        replace HR4:=Hh (kI HR4.out η)
        go_wp2_with fail
        refine(qh (α:=Va) hE (fun _=> .tuple #[]) _ _ pR.out).mono ?_;rintro e wf ⟨⟨z,rfl⟩,hbf,lJ⟩;exact⟨rfl,xm (show r= .no from HR4.out.symm) hbf (qo.out.trans lJ)⟩
     case S4a|S4b=>
      replace HR4:=Hh (cO HR4.out η)
      with_reducible replace HR4:=Hh (Tj HR4.out)
      obtain⟨d0,d1⟩:=Lf.out.cells
      go_wp2_with fail
      refine mR (Af hE 5 v1 _ _ pR.out (fP HR4.out HN.out)) HR4 HN qo (fun _ _ h=>⟨rfl,h⟩) ?_;rintro v5 s5 w5 zm E9 hkk IA;have YV:=Hh (Lf.out.kp hkk);have axH:=Hh (ajZ.out.kp hkk);clear hkk
      try clear d0 d1
      skip
      go_wp2_with fail
      exact⟨rfl, .bool td,by simp[results,Tryz.results46,go_sem],Iq (zh zm.out) rfl E9.out IA.out⟩
    ·obtain⟨rfl,rfl⟩:wd=0∧oo=0:=by omega
     have hq:=HR3.out;obtain⟨B3,hB⟩:∃B,Ns.l8 E.base s2.nm t3=B:=⟨_,rfl⟩;rw[hB]at hq;clear HR3;have HR3:=Hh hq;have IS:=Hh (fun(W:World) (hW:PW E W s2)=>(by have h:=Io hE t3 s2 W HL3.out hW;rw[hB,IE.out]at h;exact h:Calls Tryz.prog 74 #[.pointer (some ⟨E.pb,3,none⟩), .string x3] W fun e w'=>e= .returned (.bool B3)∧Below W.heap.size W w'));clear hB hq;cases B3
     ·go_wp2_with fail
      try rw[hbt]
      obtain⟨W7,Xh⟩:∃W,W=w3.alloc (.cells #[.int .i64 z3, .string x3] 54):=⟨_,rfl⟩;have Fb:PW E W7 s2:=Xh▸sW.out;have hkW:KP w W7:=Xh▸ji.out;have IG:lC W7 bh v1:=Xh▸zl.out;have zq:uB W7 bt z3 x3:=Xh▸Gr.out;rw[←Xh];clear Xh
      have g1:∀u:df W7,u.w.cell? ⟨bt,1,none⟩=some (.string x3):=fun u=>u.cell zq.cells.2
      have g0:∀u:df W7,u.w.cell? ⟨bt,0,none⟩=some (.int .i64 z3):=fun u=>u.cell zq.cells.1
      have Kb:=Hh Fb;clear Fb;refine wp_region_quiet (C:=fun w'=>∃u:df W7,w'=u.w) (by kernel_rfl) (by kernel_rfl) (df.drew W7) ?_;dsimp only[]
      repeat(go_big_quiet_step ((go_at_call 74;rename_i u;refine(IS.out _ (Kb.out.ext hE u.below)).mono ?_;rintro e w2 ⟨rfl,b2⟩;exact⟨rfl,u.on b2⟩)))
      refine abO ?_;rintro w' ⟨u,rfl⟩;obtain⟨w7,hw⟩:∃w',w'=u.w:=⟨_,rfl⟩;have hbe:=u.below;rw[←hw]at hbe⊢;have Xg:=Hh (Kb.out.ext hE hbe);have Mx:=Hh (hkW.trans (KP.aT hbe));have TE:=Hh (IG.kp (KP.aT hbe));have arW:=Hh (zq.kp (KP.aT hbe));clear hw hbe hkW Kb IS g0 g1 IG zq;clear u;have tQ:=Hh HR3.out;obtain⟨e0,e1⟩:=arW.out.cells;replace tQ:=Hh (kI tQ.out (by simp[hc32]));replace tQ:=Hh (kI tQ.out (by simp[hc32]));replace tQ:=Hh (kI tQ.out (by simp[hc32]))
      go_wp2_with fail
      refine(qh (α:=Va) hE (fun _=> .tuple #[]) _ _ Xg.out).mono ?_;rintro e wf ⟨⟨z,rfl⟩,hbf,lJ⟩;exact⟨rfl,xm (show r= .no from tQ.out.symm) hbf (Mx.out.trans lJ)⟩
     ·go_wp2_with fail
      try rw[hbt]
      obtain⟨W8,Kc⟩:∃W,W=w3.alloc (.cells #[.int .i64 z3, .string x3] 54):=⟨_,rfl⟩;have Fb:PW E W8 s2:=Kc▸sW.out;have hkW:KP w W8:=Kc▸ji.out;have IG:lC W8 bh v1:=Kc▸zl.out;have zq:uB W8 bt z3 x3:=Kc▸Gr.out;rw[←Kc];clear Kc
      have g1:∀u:df W8,u.w.cell? ⟨bt,1,none⟩=some (.string x3):=fun u=>u.cell zq.cells.2
      have g0:∀u:df W8,u.w.cell? ⟨bt,0,none⟩=some (.int .i64 z3):=fun u=>u.cell zq.cells.1
      have Kb:=Hh Fb;clear Fb;refine wp_region_quiet (C:=fun w'=>∃u:df W8,w'=u.w) (by kernel_rfl) (by kernel_rfl) (df.drew W8) ?_;dsimp only[]
      repeat(go_big_quiet_step ((go_at_call 74;rename_i u;refine(IS.out _ (Kb.out.ext hE u.below)).mono ?_;rintro e w2 ⟨rfl,b2⟩;exact⟨rfl,u.on b2⟩)))
      refine abO ?_;rintro w' ⟨u,rfl⟩;obtain⟨w8,hw⟩:∃w',w'=u.w:=⟨_,rfl⟩;have hbe:=u.below;rw[←hw]at hbe⊢;have ME:=Hh (Kb.out.ext hE hbe);have Xi:=Hh (hkW.trans (KP.aT hbe));have Oq:=Hh (IG.kp (KP.aT hbe));have aj0:=Hh (zq.kp (KP.aT hbe));clear hw hbe hkW Kb IS g0 g1 IG zq;clear u;have ve:=Hh HR3.out;obtain⟨e0,e1⟩:=aj0.out.cells;replace ve:=Hh (kI ve.out (by simp[hc32]));replace ve:=Hh (cO ve.out (by simp[hc32]))
      with_reducible replace ve:=Hh (gL ve.out)
      obtain⟨adW,BM⟩:=A9 ve.out HN.out;obtain⟨c1,f1, -⟩:=ME.out.at;have hpb:=ME.out.lt;obtain⟨q91,q92⟩:=ME.out.on hE adW;have hLn:=hE.len;obtain⟨a9,adX⟩:∃a,Ps.af s2=a:=⟨_,rfl⟩;rw[adX]at c1 adW BM q91 q92
      have hi:a9<100000:=by omega
      obtain⟨s9,Fe⟩:∃t:Ps,(⟨a9+1,s2.done,s2.nm⟩:Ps)=t:=⟨_,rfl⟩;rw[Fe]at BM q91;clear Fe;have wy:=Hh BM;have HP9:=Hh q91;have Xj:=Hh (Xi.out.trans q92);have YX:=Hh (Oq.out.kp q92);have axI:=Hh (aj0.out.kp q92);have axJ:=Hh adX;clear q91 q92 BM adW hLn adX
      go_wp2_with fail
      try clear c1 f1 hpb hi
      go_roundg g2
      case measure=>omega
      case rel=>exact⟨_,_,1,_,rfl,rfl,rfl,by omega,wy.out,HP9.out,Xj.out,YX.out⟩
   ·by_cases hc31:c3=1
    focus
     have ajV:(z3==2)=false:=by rw[←HZ3.out,aat];omega
     have ajW:(z3 !=2)=true:=by rw[←HZ3.out,acm];omega
     have ajX:(z3==1)=true:=by rw[←HZ3.out,hc31];rfl
     have ajY:(z3 !=1)=false:=by rw[←HZ3.out,hc31];rfl
     rcases Mt t3 with hk|hk|hk|hk|hk|hk|hk|hk
     focus
      have SP:=Hh (fun W:World=>(by have h:=oF t3 W;rw[IE.out,hk]at h;exact h:Calls Tryz.prog 75 #[.string x3] W fun e w'=>e= .returned (.int .i64 (0:Nat))∧w'=W))
      go_wp2_with fail
      try rw[hbt]
      refine(SP.out _).mono ?_;rintro e MF ⟨rfl,rfl⟩;clear SP;replace HR3:=Hh (cO HR3.out (by simp[hc32,hc31,hk]));replace HR3:=Hh (cO HR3.out (by simp[hc32,hc31,hk]));replace HR3:=Hh (cO HR3.out (by simp[hc32,hc31,hk]));replace HR3:=Hh (cO HR3.out (by simp[hc32,hc31,hk]));replace HR3:=Hh (cO HR3.out (by simp[hc32,hc31,hk]));replace HR3:=Hh (cO HR3.out (by simp[hc32,hc31,hk]));replace HR3:=Hh (cO HR3.out (by simp[hc32,hc31,hk]));replace HR3:=Hh (cO HR3.out (by simp[hc32,hc31,hk]));replace HR3:=Hh (cO HR3.out (by simp[hc32,hc31,hk]));refine ?S1a
     rotate_left 1
     focus
      have SP:=Hh (fun W:World=>(by have h:=oF t3 W;rw[IE.out,hk]at h;exact h:Calls Tryz.prog 75 #[.string x3] W fun e w'=>e= .returned (.int .i64 (1:Nat))∧w'=W))
      go_wp2_with fail
      try rw[hbt]
      refine(SP.out _).mono ?_;rintro e MF ⟨rfl,rfl⟩;clear SP;cases a
      focus
       replace HR3:=Hh (cO HR3.out (by simp[hc32,hc31,hk]));replace HR3:=Hh (cO HR3.out (by simp[hc32,hc31,hk]));replace HR3:=Hh (cO HR3.out (by simp[hc32,hc31,hk]));replace HR3:=Hh (cO HR3.out (by simp[hc32,hc31,hk]));replace HR3:=Hh (cO HR3.out (by simp[hc32,hc31,hk]));replace HR3:=Hh (cO HR3.out (by simp[hc32,hc31,hk]));replace HR3:=Hh (cO HR3.out (by simp[hc32,hc31,hk]));replace HR3:=Hh (cO HR3.out (by simp[hc32,hc31,hk]));replace HR3:=Hh (cO HR3.out (by simp[hc32,hc31,hk]));refine ?S1b
      rotate_left 1
      ·replace HR3:=Hh (cO HR3.out (by simp[hc32,hc31,hk]))
       replace HR3:=Hh (cO HR3.out (by simp[hc32,hc31,hk]));replace HR3:=Hh (kI HR3.out (by simp[hc32,hc31,hk]))
       with_reducible replace HR3:=Hh (gL HR3.out)
       cases td
       focus
        by_cases MG:t3=[116,121,112,101,100,101,102]
        focus
         have aj1:(x3.toList==[116,121,112,101,100,101,102])=true:=IE.out▸gp MG;have hq:=HR3.out;rw[show(false||(t3==[116,121,112,101,100,101,102]:Bool))=true from by rw[MG];rfl]at hq;refine ?S2a
        rotate_left 1
        ·have aj1:(x3.toList==[116,121,112,101,100,101,102])=false:=IE.out▸lX MG
         have hq:=HR3.out;rw[show(false||(t3==[116,121,112,101,100,101,102]:Bool))=false from by rw[afu,aat];exact MG]at hq;clear HR3;have HR3:=Hh hq;clear hq;obtain⟨YY,YZ⟩:=A9 HR3.out HN.out;obtain⟨c1,f1, -⟩:=Ag.out.at;have hpb:=Ag.out.lt;rw[hbt]at hpb;obtain⟨Y0,Y1⟩:=Ag.out.on hE YY;have hLn:=hE.len;obtain⟨a15,Y2⟩:∃a,Ps.af s2=a:=⟨_,rfl⟩;rw[Y2]at c1 YY YZ Y0 Y1
         have hi:a15<100000:=by omega
         obtain⟨s15,aj2⟩:∃t:Ps,(⟨a15+1,s2.done,s2.nm⟩:Ps)=t:=⟨_,rfl⟩;rw[aj2]at YZ Y0;clear aj2;have arX:=Hh YZ;have arY:=Hh (Y0.ext hE (ag _ (.cells #[.int .i64 z3, .string x3] 54)));have hkx:=KP.aT (ag (World.setCell w3 ⟨E.pb,1,none⟩ (.int .i64 ((a15+1:Nat):Int))) (.cells #[.int .i64 z3, .string x3] 54));have arZ:=Hh (TH.out.trans (Y1.trans hkx));have aol:=Hh ((MB.out.kp Y1).kp hkx);have axb:=Hh (hbt▸uB.YU w3 ⟨E.pb,1,none⟩ (.int .i64 ((a15+1:Nat):Int)) z3 x3);have axc:=Hh Y2;clear Y0 Y1 YZ YY hLn Y2 hkx
         go_wp2_with fail
         try rw[hbt]
         try clear c1 f1 hpb hi
         go_roundg g2
         case measure=>omega
         case rel=>exact⟨_,_,_,false,rfl,rfl,rfl,by omega,arX.out,arY.out,arZ.out,aol.out⟩
       rotate_left 1
       focus
        have hq:=HR3.out;simp only[Bool.true_or]at hq;refine ?S2b
       case S2a|S2b=>
        clear HR3;have HR3:=Hh hq;clear hq;obtain⟨Y3,Y4⟩:=A9 HR3.out HN.out;obtain⟨c1,f1, -⟩:=Ag.out.at;have hpb:=Ag.out.lt;rw[hbt]at hpb;obtain⟨Y5,Y6⟩:=Ag.out.on hE Y3;have hLn:=hE.len;obtain⟨a14,Y7⟩:∃a,Ps.af s2=a:=⟨_,rfl⟩;rw[Y7]at c1 Y3 Y4 Y5 Y6
        have hi:a14<100000:=by omega
        obtain⟨MH,aj3⟩:∃t:Ps,(⟨a14+1,s2.done,s2.nm⟩:Ps)=t:=⟨_,rfl⟩;rw[aj3]at Y4 Y5;clear aj3;have ar0:=Hh Y4;have ar1:=Hh (Y5.ext hE (ag _ (.cells #[.int .i64 z3, .string x3] 54)));have hkx:=KP.aT (ag (World.setCell w3 ⟨E.pb,1,none⟩ (.int .i64 ((a14+1:Nat):Int))) (.cells #[.int .i64 z3, .string x3] 54));have ar2:=Hh (TH.out.trans (Y6.trans hkx));have aom:=Hh ((MB.out.kp Y6).kp hkx);have axd:=Hh (hbt▸uB.YU w3 ⟨E.pb,1,none⟩ (.int .i64 ((a14+1:Nat):Int)) z3 x3);have axe:=Hh Y7;clear Y5 Y6 Y4 Y3 hLn Y7 hkx
        go_wp2_with fail
        try rw[hbt]
        try clear c1 f1 hpb hi
        go_roundg g2
        case measure=>omega
        case rel=>exact⟨_,_,_,true,rfl,rfl,rfl,by omega,ar0.out,ar1.out,ar2.out,aom.out⟩
     rotate_left 1
     focus
      have SP:=Hh (fun W:World=>(by have h:=oF t3 W;rw[IE.out,hk]at h;exact h:Calls Tryz.prog 75 #[.string x3] W fun e w'=>e= .returned (.int .i64 (2:Nat))∧w'=W))
      go_wp2_with fail
      try rw[hbt]
      refine(SP.out _).mono ?_;rintro e MF ⟨rfl,rfl⟩;clear SP;cases a
      focus
       replace HR3:=Hh (cO HR3.out (by simp[hc32,hc31,hk]));replace HR3:=Hh (cO HR3.out (by simp[hc32,hc31,hk]));replace HR3:=Hh (cO HR3.out (by simp[hc32,hc31,hk]));replace HR3:=Hh (cO HR3.out (by simp[hc32,hc31,hk]));replace HR3:=Hh (cO HR3.out (by simp[hc32,hc31,hk]));replace HR3:=Hh (cO HR3.out (by simp[hc32,hc31,hk]));replace HR3:=Hh (cO HR3.out (by simp[hc32,hc31,hk]));replace HR3:=Hh (cO HR3.out (by simp[hc32,hc31,hk]));replace HR3:=Hh (cO HR3.out (by simp[hc32,hc31,hk]));refine ?S1c
      rotate_left 1
      ·replace HR3:=Hh (cO HR3.out (by simp[hc32,hc31,hk]))
       replace HR3:=Hh (cO HR3.out (by simp[hc32,hc31,hk]));replace HR3:=Hh (cO HR3.out (by simp[hc32,hc31,hk]));replace HR3:=Hh (kI HR3.out (by simp[hc32,hc31,hk]))
       with_reducible replace HR3:=Hh (gL HR3.out)
       go_wp2_with fail
       try rw[hbt]
       refine mQ ((IH.out g2 η).JO _ _ sW.out (fP HR3.out HN.out)) HR3 HN ji (fun _ _ h=>⟨rfl,h⟩) ?_;rintro v19 s19 y19 w19 ar3 rfl ar4 hkk ar5;have aon:=Hh (zl.out.kp hkk);have axf:=Hh (Gr.out.kp hkk);clear hkk
       go_wp2_with fail
       go_roundg g2
       case measure=>omega
       case rel=>exact⟨_,_,_,_,rfl,rfl,rfl,by omega,ar3.out,ar4.out,ar5.out,aon.out⟩
     rotate_left 1
     ·have SP:=Hh (fun W:World=>(by have h:=oF t3 W;rw[IE.out,hk]at h;exact h:Calls Tryz.prog 75 #[.string x3] W fun e w'=>e= .returned (.int .i64 (3:Nat))∧w'=W))
      go_wp2_with fail
      try rw[hbt]
      refine(SP.out _).mono ?_;rintro e MF ⟨rfl,rfl⟩;clear SP;replace HR3:=Hh (cO HR3.out (by simp[hc32,hc31,hk]));replace HR3:=Hh (cO HR3.out (by simp[hc32,hc31,hk]));replace HR3:=Hh (cO HR3.out (by simp[hc32,hc31,hk]));replace HR3:=Hh (cO HR3.out (by simp[hc32,hc31,hk]));replace HR3:=Hh (kI HR3.out (by simp[hc32,hc31,hk]))
      with_reducible replace HR3:=Hh (gL HR3.out)
      obtain⟨Y8,Y9⟩:=A9 HR3.out HN.out;obtain⟨c1,f1, -⟩:=Ag.out.at;have hpb:=Ag.out.lt;rw[hbt]at hpb;obtain⟨Za,Zb⟩:=Ag.out.on hE Y8;have hLn:=hE.len;obtain⟨a20,Zc⟩:∃a,Ps.af s2=a:=⟨_,rfl⟩;rw[Zc]at c1 Y8 Y9 Za Zb
      have hi:a20<100000:=by omega
      obtain⟨s20,aj4⟩:∃t:Ps,(⟨a20+1,s2.done,s2.nm⟩:Ps)=t:=⟨_,rfl⟩;rw[aj4]at Y9 Za;clear aj4;have ar6:=Hh Y9;have ar7:=Hh (Za.ext hE (ag _ (.cells #[.int .i64 z3, .string x3] 54)));have hkx:=KP.aT (ag (World.setCell w3 ⟨E.pb,1,none⟩ (.int .i64 ((a20+1:Nat):Int))) (.cells #[.int .i64 z3, .string x3] 54));have ar8:=Hh (TH.out.trans (Zb.trans hkx));have aoo:=Hh ((MB.out.kp Zb).kp hkx);have axg:=Hh (hbt▸uB.YU w3 ⟨E.pb,1,none⟩ (.int .i64 ((a20+1:Nat):Int)) z3 x3);have axh:=Hh Zc;clear Za Zb Y9 Y8 hLn Zc hkx
      go_wp2_with fail
      try rw[hbt]
      try clear c1 f1 hpb hi
      go_roundg g2
      case measure=>omega
      case rel=>exact⟨_,_,_,_,rfl,rfl,rfl,by omega,ar6.out,ar7.out,ar8.out,aoo.out⟩
     ·have SP:=Hh (fun W:World=>(by have h:=oF t3 W;rw[IE.out,hk]at h;exact h:Calls Tryz.prog 75 #[.string x3] W fun e w'=>e= .returned (.int .i64 (4:Nat))∧w'=W))
      go_wp2_with fail
      try rw[hbt]
      refine(SP.out _).mono ?_;rintro e MF ⟨rfl,rfl⟩;clear SP;obtain⟨B21,hB⟩:∃B,aX E.L s2 1 [40]=B:=⟨_,rfl⟩;have hq:=HR3.out;rw[hB]at hq;have lS:=Hh hq;clear hq;have SG:=Hh (by have h:=uO hE 1 [40] s2 _ η sW.out;rw[show eu E.L 1 [40] s2= .ok (aX E.L s2 1 [40]) s2 from rfl,hB]at h;exact h:Calls Tryz.prog 47 #[.pointer (some ⟨E.pb,0,none⟩), .int .i64 1, .string (au [40])] _ (fO E .bool _ (.ok B21 s2)));clear hB;cases B21
      ·go_wp2_with fail
       try rw[hbt]
       refine SG.out.mono ?_;rintro e w21 ⟨rfl,TI,hkk⟩;clear SG;have TJ:=Hh TI;have adY:=Hh (ji.out.trans hkk);have Zd:=Hh (zl.out.kp hkk);have Ze:=Hh (Gr.out.kp hkk);clear TI hkk;replace lS:=Hh (cO lS.out (by simp[hc32,hc31,hk]));replace lS:=Hh (cO lS.out (by simp[hc32,hc31,hk]));replace lS:=Hh (cO lS.out (by simp[hc32,hc31,hk]));replace lS:=Hh (cO lS.out (by simp[hc32,hc31,hk]));replace lS:=Hh (kI lS.out (by simp[hc32,hc31,hk]))
       with_reducible replace lS:=Hh (gL lS.out)
       obtain⟨hle22,Zf⟩:=A9 lS.out HN.out;obtain⟨c1,f1, -⟩:=TJ.out.at;have hpb:=TJ.out.lt;obtain⟨Zg,TK⟩:=TJ.out.on hE hle22;have hLn:=hE.len;obtain⟨a22,Zh⟩:∃a,Ps.af s2=a:=⟨_,rfl⟩;rw[Zh]at c1 hle22 Zf Zg TK
       have hi:a22<100000:=by omega
       obtain⟨s22,aj6⟩:∃t:Ps,(⟨a22+1,s2.done,s2.nm⟩:Ps)=t:=⟨_,rfl⟩;rw[aj6]at Zf Zg;clear aj6;have ar9:=Hh Zf;have asa:=Hh Zg;have asb:=Hh (adY.out.trans TK);have aop:=Hh (Zd.out.kp TK);have axi:=Hh (Ze.out.kp TK);have axj:=Hh Zh;clear Zg TK Zf hle22 hLn Zh
       go_wp2_with fail
       try clear c1 f1 hpb hi
       go_roundg g2
       case measure=>omega
       case rel=>exact⟨_,_,_,_,rfl,rfl,rfl,by omega,ar9.out,asa.out,asb.out,aop.out⟩
      ·go_wp2_with fail
       try rw[hbt]
       refine SG.out.mono ?_;rintro e w21 ⟨rfl,TI,hkk⟩;clear SG;have TJ:=Hh TI;have adY:=Hh (ji.out.trans hkk);have Zd:=Hh (zl.out.kp hkk);have Ze:=Hh (Gr.out.kp hkk);clear TI hkk;replace lS:=Hh (cO lS.out (by simp[hc32,hc31,hk]));replace lS:=Hh (cO lS.out (by simp[hc32,hc31,hk]));replace lS:=Hh (cO lS.out (by simp[hc32,hc31,hk]));replace lS:=Hh (cO lS.out (by simp[hc32,hc31,hk]));replace lS:=Hh (cO lS.out (by simp[hc32,hc31,hk]));replace lS:=Hh (cO lS.out (by simp[hc32,hc31,hk]));replace lS:=Hh (kI lS.out (by simp[hc32,hc31,hk]))
       with_reducible replace lS:=Hh (gL lS.out)
       go_wp2_with fail
       refine mQ ((IH.out g2 η).Gm _ _ TJ.out (fP lS.out HN.out)) lS HN adY (fun _ _ h=>⟨rfl,h⟩) ?_;rintro v23 s23 y23 w23 asc rfl ase hkk asf;have aoq:=Hh (Zd.out.kp hkk);have axk:=Hh (Ze.out.kp hkk);clear hkk
       go_wp2_with fail
       go_roundg g2
       case measure=>omega
       case rel=>exact⟨_,_,(oo+1),_,rfl,rfl,by go_num,by omega,asc.out,ase.out,asf.out,aoq.out⟩
     ·have SP:=Hh (fun W:World=>(by have h:=oF t3 W;rw[IE.out,hk]at h;exact h:Calls Tryz.prog 75 #[.string x3] W fun e w'=>e= .returned (.int .i64 (5:Nat))∧w'=W))
      go_wp2_with fail
      try rw[hbt]
      refine(SP.out _).mono ?_;rintro e MF ⟨rfl,rfl⟩;clear SP;replace HR3:=Hh (cO HR3.out (by simp[hc32,hc31,hk]));replace HR3:=Hh (cO HR3.out (by simp[hc32,hc31,hk]));replace HR3:=Hh (cO HR3.out (by simp[hc32,hc31,hk]));replace HR3:=Hh (cO HR3.out (by simp[hc32,hc31,hk]));replace HR3:=Hh (cO HR3.out (by simp[hc32,hc31,hk]));replace HR3:=Hh (kI HR3.out (by simp[hc32,hc31,hk]))
      with_reducible replace HR3:=Hh (gL HR3.out)
      obtain⟨Zi,Zj⟩:=A9 HR3.out HN.out;obtain⟨c1,f1, -⟩:=Ag.out.at;have hpb:=Ag.out.lt;rw[hbt]at hpb;obtain⟨Zk,Zl⟩:=Ag.out.on hE Zi;have hLn:=hE.len;obtain⟨a24,Zm⟩:∃a,Ps.af s2=a:=⟨_,rfl⟩;rw[Zm]at c1 Zi Zj Zk Zl
      have hi:a24<100000:=by omega
      obtain⟨s24,aj7⟩:∃t:Ps,(⟨a24+1,s2.done,s2.nm⟩:Ps)=t:=⟨_,rfl⟩;rw[aj7]at Zj Zk;clear aj7;have ash:=Hh Zj;have asi:=Hh (Zk.ext hE (ag _ (.cells #[.int .i64 z3, .string x3] 54)));have hkx:=KP.aT (ag (World.setCell w3 ⟨E.pb,1,none⟩ (.int .i64 ((a24+1:Nat):Int))) (.cells #[.int .i64 z3, .string x3] 54));have asj:=Hh (TH.out.trans (Zl.trans hkx));have aor:=Hh ((MB.out.kp Zl).kp hkx);have axl:=Hh (hbt▸uB.YU w3 ⟨E.pb,1,none⟩ (.int .i64 ((a24+1:Nat):Int)) z3 x3);have axm:=Hh Zm;clear Zk Zl Zj Zi hLn Zm hkx
      go_wp2_with fail
      try rw[hbt]
      try clear c1 f1 hpb hi
      go_roundg g2
      case measure=>omega
      case rel=>exact⟨_,(wd+1),_,_,rfl,by go_num,rfl,by omega,ash.out,asi.out,asj.out,aor.out⟩
     ·have SP:=Hh (fun W:World=>(by have h:=oF t3 W;rw[IE.out,hk]at h;exact h:Calls Tryz.prog 75 #[.string x3] W fun e w'=>e= .returned (.int .i64 (6:Nat))∧w'=W))
      go_wp2_with fail
      try rw[hbt]
      refine(SP.out _).mono ?_;rintro e MF ⟨rfl,rfl⟩;clear SP;replace HR3:=Hh (cO HR3.out (by simp[hc32,hc31,hk]));replace HR3:=Hh (cO HR3.out (by simp[hc32,hc31,hk]));replace HR3:=Hh (cO HR3.out (by simp[hc32,hc31,hk]));replace HR3:=Hh (cO HR3.out (by simp[hc32,hc31,hk]));replace HR3:=Hh (cO HR3.out (by simp[hc32,hc31,hk]));replace HR3:=Hh (cO HR3.out (by simp[hc32,hc31,hk]));replace HR3:=Hh (cO HR3.out (by simp[hc32,hc31,hk]));replace HR3:=Hh (kI HR3.out (by simp[hc32,hc31,hk]))
      with_reducible replace HR3:=Hh (gL HR3.out)
      go_wp2_with fail
      try rw[hbt]
      refine mQ ((IH.out g2 η).Gn _ _ sW.out (fP HR3.out HN.out)) HR3 HN ji (fun _ _ h=>⟨rfl,h⟩) ?_;rintro v25 s25 y25 w25 asl rfl asn hkk asq;have aos:=Hh (zl.out.kp hkk);have axn:=Hh (Gr.out.kp hkk);clear hkk
      go_wp2_with fail
      go_roundg g2
      case measure=>omega
      case rel=>exact⟨_,_,(oo+1),_,rfl,rfl,by go_num,by omega,asl.out,asn.out,asq.out,aos.out⟩
     ·have SP:=Hh (fun W:World=>(by have h:=oF t3 W;rw[IE.out,hk]at h;exact h:Calls Tryz.prog 75 #[.string x3] W fun e w'=>e= .returned (.int .i64 (7:Nat))∧w'=W))
      go_wp2_with fail
      try rw[hbt]
      refine(SP.out _).mono ?_;rintro e MF ⟨rfl,rfl⟩;clear SP;replace HR3:=Hh (cO HR3.out (by simp[hc32,hc31,hk]));replace HR3:=Hh (cO HR3.out (by simp[hc32,hc31,hk]));replace HR3:=Hh (cO HR3.out (by simp[hc32,hc31,hk]));replace HR3:=Hh (cO HR3.out (by simp[hc32,hc31,hk]));replace HR3:=Hh (cO HR3.out (by simp[hc32,hc31,hk]));replace HR3:=Hh (cO HR3.out (by simp[hc32,hc31,hk]));replace HR3:=Hh (cO HR3.out (by simp[hc32,hc31,hk]));replace HR3:=Hh (cO HR3.out (by simp[hc32,hc31,hk]));replace HR3:=Hh (kI HR3.out (by simp[hc32,hc31,hk]))
      with_reducible replace HR3:=Hh (gL HR3.out)
      go_wp2_with fail
      try rw[hbt]
      refine mQ ((IH.out g2 η).Mr _ _ sW.out (fP HR3.out HN.out)) HR3 HN ji (fun _ _ h=>⟨rfl,h⟩) ?_;rintro v26 s26 y26 w26 ast rfl asu hkk asv;have aot:=Hh (zl.out.kp hkk);have axo:=Hh (Gr.out.kp hkk);clear hkk
      go_wp2_with fail
      go_roundg g2
      case measure=>omega
      case rel=>exact⟨_,_,(oo+1),_,rfl,rfl,by go_num,by omega,ast.out,asu.out,asv.out,aot.out⟩
    rotate_left 3
    focus
     have ajV:(z3==2)=false:=by rw[←HZ3.out,aat];omega
     have ajW:(z3 !=2)=true:=by rw[←HZ3.out,acm];omega
     have ajX:(z3==1)=false:=by rw[←HZ3.out,aat];omega
     have ajY:(z3 !=1)=true:=by rw[←HZ3.out,acm];omega
     replace HR3:=Hh (cO HR3.out (by simp[hc32,hc31]));replace HR3:=Hh (kI HR3.out (by simp[hc32,hc31]));refine ?S1d
    case S1a|S1b|S1c|S1d=>
     by_cases hw0:wd=0
     focus
      subst hw0;by_cases ho0:oo=0
      ·subst ho0
       replace HR3:=Hh (kI HR3.out η)
       go_wp2_with fail
       try rw[hbt]
       refine(qh (α:=Va) hE (fun _=> .tuple #[]) _ _ sW.out).mono ?_;rintro e wf ⟨⟨z,rfl⟩,hbf,lJ⟩;exact⟨rfl,xm (show r= .no from HR3.out.symm) hbf (ji.out.trans lJ)⟩
      focus
       by_cases ho1:oo=1
       focus
        subst ho1;refine ?S3a
       rotate_left 1
       ·have f1:((oo:Int)==0)=false:=by rw[aat];omega
        have f2:1<oo:=by omega
        replace HR3:=Hh (kI HR3.out η)
        go_wp2_with fail
        try rw[hbt]
        refine(qh (α:=Va) hE (fun _=> .tuple #[]) _ _ sW.out).mono ?_;rintro e wf ⟨⟨z,rfl⟩,hbf,lJ⟩;exact⟨rfl,xm (show r= .no from HR3.out.symm) hbf (ji.out.trans lJ)⟩
     rotate_left 1
     focus
      have f1:((wd:Int)+(oo:Int)==0)=false:=by rw[aat];omega
      have f3:0<wd:=by omega
      by_cases ho0:oo=0
      focus
       subst ho0
       have f4:((wd:Int)==0)=false:=by rw[aat];omega
       refine ?S3b
      rotate_left 1
      ·have f5:0<oo:=by omega
       by_cases ho1:1<oo
       ·replace HR3:=Hh (kI HR3.out η)
        go_wp2_with fail
        try rw[hbt]
        refine(qh (α:=Va) hE (fun _=> .tuple #[]) _ _ sW.out).mono ?_;rintro e wf ⟨⟨z,rfl⟩,hbf,lJ⟩;exact⟨rfl,xm (show r= .no from HR3.out.symm) hbf (ji.out.trans lJ)⟩
       ·have f6:decide (1<oo)=false:=aa5 ho1
        replace HR3:=Hh (kI HR3.out η)
        go_wp2_with fail
        try rw[hbt]
        refine(qh (α:=Va) hE (fun _=> .tuple #[]) _ _ sW.out).mono ?_;rintro e wf ⟨⟨z,rfl⟩,hbf,lJ⟩;exact⟨rfl,xm (show r= .no from HR3.out.symm) hbf (ji.out.trans lJ)⟩
     case S3a|S3b=>
      replace HR3:=Hh (cO HR3.out η)
      with_reducible replace HR3:=Hh (Tj HR3.out)
      obtain⟨d0,d1⟩:=zl.out.cells
      go_wp2_with fail
      try rw[hbt]
      refine mR (Af hE 5 v1 _ _ sW.out (fP HR3.out HN.out)) HR3 HN ji (fun _ _ h=>⟨rfl,h⟩) ?_;rintro v10 s10 w10 Gs adZ hkk ad1;have af7:=Hh (zl.out.kp hkk);have axp:=Hh (Gr.out.kp hkk);clear hkk
      try clear d0 d1
      skip
      go_wp2_with fail
      exact⟨rfl, .bool td,by simp[results,Tryz.results46,go_sem],Iq (zh Gs.out) rfl adZ.out ad1.out⟩
end Go.Proofs.YtlboejdhmggjpaaGreat.Pp
