import Derived.Test.YtlboejdhmggjpaaGreatWlI
import Derived.RangeFuncNested
import Derived.RangeFuncBound
import Derived.RangeFuncBox
import Derived.Shelf.Abstract
import Derived.OwnWalkIn
import Derived.TacticsInMore
import Derived.LoopNIn
import Derived.LoopIn
set_option linter.all false
namespace Go.Proofs.YtlboejdhmggjpaaGreat.Pp.Dr
set_option maxRecDepth 10000
section
variable {l:List Ct} {base:Bs→Bool} {B:List Sd} {D D2:List Nd}
def Sw:List Bs:=[Yb,FO,Yc,ac8,ada,X7,[105,102],X8,Hu,[100,111],Rf]
def L9(k:Nat):Bool:=Sw.any fun t=>aO k t
variable {s : Ps}{r x : Sx}
theorem EX {k:Nat}(t:Tr)(h:VK x (bn x r k) t):VB x (Va.bo true) s (bn x r k):=⟨⟨t,h⟩,rfl⟩
theorem Ma{x:Sx}{s:Ps}{t:Bs}{i k:Nat}{ys:List Sy}{m:Pm Va}(hL:l.length≤90)(hx:Rl l B D s x)(c:aO (kd l x.env x.af) t=true)(hi:(lQ mY)[i]? =some (.tx t::ys,k))(ht:tb (fun k=>aO k t) (yX (lQ mY) i)=true)(h0:bg t≠0)(h1:bg t≠1)(h2:bg t≠2)
  (h:Fr l (x.af+1) [] [up (fr x)] (up (fr x))→Rl l B s.done (bU s) (up (fr x))→Sm l (x.af+1) [] B D (VB x) (wr (fun r=>bn x r k) (dl l (.seq ys x.af [up (fr x)]))) (m (bU s))):Sm l (x.af+1) [] B D (VB x) (dl l (.call mY x)) ((step l 1>>=fun _=>m) s):=by
 refine dY i hL (c:=fun k=>aO k t) ζ hi ht c ?_
 have hu0:=dQ h0 c
 have hu:=hx.fr.up (x:=fr x) hu0
 rw[bH (dL (r:=fr x) _ h0 c h1 h2),sS hx hu0]
 exact h (.me hu.le) hu
theorem QM{x:Sx}{s:Ps}{t:Bs}{i k:Nat}{ys:List Sy}{m:Pm Va}(hL:l.length≤90)(hx:Rl l B D s x)(c:aO (kd l x.env x.af) t=true)(hi:(lQ mY)[i]? =some (.nm NA:: .tx t::ys,k))(ht:tb (fun k=>aO k t) (yX (lQ mY) i)=true)(ho:rP t=false)(h0:bg t≠0)(h1:bg t≠1)(h2:bg t≠2)
  (h:∀s1 r,r.af=x.af+1→Fr l (x.af+1) [] [r] r→Rl l B s.done s1 r→Sm l (x.af+1) [] B D (VB x) (wr (fun r=>bn x r k) (dl l (.seq ys x.af [r]))) ((m>>=fun _=>eO>>=fun _=>pure (Va.bo true)) s1)):Sm l (x.af+1) [] B D (VB x) (dl l (.call mY x)) ((step l 1>>=fun _=>jU l>>=fun _=>m>>=fun _=>eO>>=fun _=>pure (Va.bo true)) s):=by
 refine dY i hL (c:=fun k=>aO k t) ζ hi ht c ?_
 have hu0:=dQ h0 c
 have hp:=hx.fr.qY
 rw[bH (z:={fr x with env:=qY (fr x).env}) (iW ζ _ _),sS hx hu0]
 have c2:aO (kd l (qY x.env) x.af) t=true:=by
  exact(CF hp (t:=t) ho h0 h1 h2).symm.trans ((CF hx ho h0 h1 h2).trans c)
 have hu:=hp.up (dQ h0 c2)
 rw[bH (dL _ h0 c2 h1 h2)]
 refine(ES _ (bU s)).elim (fun e=>by rw[e];trivial) fun e=>?_
 rw[e]
 exact h _ _ rfl (.me hu.le) hu
variable {n : Nat}
theorem ahz (hL:l.length≤90)(ih:∀k,k<n+1→wm l base B k)(hx:Rl l B D s x)(c:aO (kd l x.env x.af) Yb=true):Sm l (x.af+1) [] B D (VB x) (dl l (.call mY x)) ((step l 1>>=fun _=>run l base n .dx>>=fun _=>bY l [58]>>=fun _=>run l base n .iy>>=fun _=>node l 24 (s.af,s.done.length)>>=fun _=>pure (Va.bo true)) s):=by
 have i:=ih n (aar n)
 refine Ma (i:=1) hL hx c rfl θ ζ ζ ζ fun hF hu=>?_
 refine dV hL hF (i.d.g.ch _ _ _ hu) (aI x 24) (abK _) ζ rfl (ym θ) fun v s1 r1 gB _ a1 a2 a3 _=>?_
 have a2:x.af+1+1≤r1.af:=a2
 refine eD a1 a3 η rfl ζ ζ ζ θ fun h4 h5=>?_
 refine dV hL h4 (i.Pk _ _ _ h5) (aI x 24) (by show x.af+1≤r1.af+1+1;omega) ζ rfl rfl fun v s2 r2 jM _ b1 b2 b3 _=>?_
 exact dR hL b1 (by show x.af+1≤r1.af+1+1;omega) rfl ζ hx b3 fun h=>EX _ h
theorem YD (hL:l.length≤90)(ih:∀k,k<n+1→wm l base B k)(hx:Rl l B D s x)(c:aO (kd l x.env x.af) FO=true):Sm l (x.af+1) [] B D (VB x) (dl l (.call mY x)) ((step l 1>>=fun _=>bY l [58]>>=fun _=>run l base n .iy>>=fun _=>node l 25 (s.af,s.done.length)>>=fun _=>pure (Va.bo true)) s):=by
 have i:=ih n (aar n)
 refine Ma (i:=2) hL hx c rfl θ ζ ζ ζ fun hF hu=>?_
 refine eD hF hu (by show x.af+1≤x.af+1+1;omega) rfl ζ ζ ζ rfl fun h4 h5=>?_
 refine dV hL h4 (i.Pk _ _ _ h5) (aI x 25) (by show x.af+1≤x.af+1+1+1;omega) ζ rfl rfl fun v s2 r2 jM _ b1 b2 b3 _=>?_
 exact dR hL b1 (by show x.af+1≤x.af+1+1+1;omega) rfl ζ hx b3 fun h=>EX _ h
theorem ahA (hL:l.length≤90)(hx:Rl l B D s x)(c:aO (kd l x.env x.af) Yc=true):Sm l (x.af+1) [] B D (VB x) (dl l (.call mY x)) ((step l 1>>=fun _=>l9 l>>=fun _=>bY l [59]>>=fun _=>node l 32 (s.af,s.done.length)>>=fun _=>pure (Va.bo true)) s):=by
 refine Ma (i:=10) hL hx c rfl θ ζ ζ ζ fun hF hu=>?_
 refine dV hL hF (JB hu) (aI x 32) (abK _) ζ rfl rfl fun v s1 r1 gB _ a1 a2 a3 _=>?_
 have a2:x.af+1+1≤r1.af:=a2
 refine eD a1 a3 η rfl ζ ζ ζ rfl fun h4 h5=>?_
 exact dR hL h4 (by show x.af+1≤r1.af+1;omega) rfl ζ hx h5 fun h=>EX _ h
theorem WT{x:Sx}{s:Ps}{t:Bs}{i:Nat}(hL:l.length≤90)(hx:Rl l B D s x)(c:aO (kd l x.env x.af) t=true)(hi:(lQ mY)[i]? =some ([.tx t, .tx [59]],32))(ht:tb (fun k=>aO k t) (yX (lQ mY) i)=true)(h0:bg t≠0)(h1:bg t≠1)(h2:bg t≠2):Sm l (x.af+1) [] B D (VB x) (dl l (.call mY x)) ((step l 1>>=fun _=>bY l [59]>>=fun _=>node l 32 (s.af,s.done.length)>>=fun _=>pure (Va.bo true)) s):=by
 refine Ma (i:=i) hL hx c hi ht h0 h1 h2 fun hF hu=>?_
 refine eD hF hu (by show x.af+1≤x.af+1+1;omega) rfl ζ ζ ζ rfl fun h4 h5=>?_
 exact dR hL h4 (by show x.af+1≤x.af+1+1;omega) rfl ζ hx h5 fun h=>EX _ h
theorem abb (hL:l.length≤90)(ih:∀k,k<n+1→wm l base B k)(hx:Rl l B D s x)(c:aO (kd l x.env x.af) X7=true):Sm l (x.af+1) [] B D (VB x) (dl l (.call mY x)) ((step l 1>>=fun _=>run l base n (.ik [59])>>=fun _=>node l 32 (s.af,s.done.length)>>=fun _=>pure (Va.bo true)) s):=by
 refine Ma (i:=13) hL hx c rfl θ ζ ζ ζ fun hF hu=>?_
 refine CP hL (fun k hk=>ih k η) hF hu (aI x 32) rfl (c:=66) ζ ζ ζ ζ ζ θ θ (abK _) fun v s1 r1 a1 a2 a3=>?_
 have a2:x.af+1+1≤r1.af:=a2
 exact dR hL a1 η rfl ζ hx a3 fun h=>EX _ h
theorem Pn{n i k:Nat}{t:Bs}{x:Sx}{s:Ps}(hL:l.length≤90)(ih:∀k,k<n+1→wm l base B k)(hx:Rl l B D s x)(c:aO (kd l x.env x.af) t=true)(hi:(lQ mY)[i]? =some ([.nm NA, .tx t, .tx [40], .nm lq, .tx [41], .nm Ej, .nm Ei],k))(ht:tb (fun k=>aO k t) (yX (lQ mY) i)=true)(ho:rP t=false)(h0:bg t≠0)(h1:bg t≠1)(h2:bg t≠2)(hk:0<k):Sm l (x.af+1) [] B D (VB x) (dl l (.call mY x)) ((step l 1>>=fun _=>jU l>>=fun _=>(run l base n .iP>>=fun _=>run l base n .part>>=fun _=>node l k (s.af,s.done.length)>>=fun _=>pure Va.un)>>=fun _=>eO>>=fun _=>pure (Va.bo true)) s):=by
 refine QM (i:=i) hL hx c hi ht ho h0 h1 h2 fun s1 r hr hF hu=>?_
 simp only[bG]
 refine N7 hL (fun k hk=>ih k η) hF hu (aI x k) rfl η fun v s2 r2 a1 a2 a3=>?_
 refine JH hL ih a1 a3 (aI x k) rfl η fun v s3 r3 b1 b2 b3=>?_
 exact AU (p:=0) hL hk hx b3 η rfl
theorem aoa (hL:l.length≤90)(ih:∀k,k<n+1→wm l base B k)(hx:Rl l B D s x)(c:aO (kd l x.env x.af) [100,111]=true):Sm l (x.af+1) [] B D (VB x) (dl l (.call mY x)) ((step l 1>>=fun _=>jU l>>=fun _=>(run l base n .part>>=fun _=>fC l Hu>>=fun b=>if b=true then(run l base n .iP>>=fun _=>bY l [59]>>=fun _=>node l 30 (s.af,s.done.length)>>=fun _=>pure Va.un)else iD)>>=fun _=>eO>>=fun _=>pure (Va.bo true)) s):=by
 refine QM (i:=8) hL hx c rfl θ rfl ζ ζ ζ fun s1 r hr hF hu=>?_
 simp only[bG]
 refine JH hL ih hF hu (aI x 30) rfl η fun v s2 r2 a1 a2 a3=>?_
 have hq:=CF a3 (t:=Hu) rfl ζ
 cases c2:aO (kd l r2.env r2.af) Hu with
 |true=>
  have h4:=a3.up (dQ ζ c2);rw[lH (hq.trans c2),bH (dL _ ζ c2)];show Sm l _ _ B D _ _ (((run l base n .iP>>=fun _=>bY l [59]>>=fun _=>node l 30 (s.af,s.done.length)>>=fun _=>pure Va.un)>>=fun _=>eO>>=fun _=>pure (Va.bo true)) (bU s2));simp only[bG]
  refine N7 hL (fun k hk=>ih k η) (.me (p:=x.af+1) h4.le (by show x.af+1≤r2.af+1;omega)) h4 (aI x 30) rfl (by show x.af+1≤r2.af+1;omega) fun v s3 r3 b1 b2 b3=>?_
  have b2:r2.af+1≤r3.af:=b2
  refine eD b1 b3 η rfl ζ ζ ζ rfl fun d1 d2=>?_
  exact AU (p:=0) hL ζ hx d2 (by show x.af+1≤r3.af+1;omega) rfl
 |false=>
  rw[lH (hq.trans c2),il (kM _ ζ c2)];exact .nil rfl
end
section
variable {l:List Ct} {base:Bs→Bool} {B:List Sd} {D D2:List Nd}
variable {n : Nat}{s : Ps}{x : Sx}
theorem aob (hL:l.length≤90)(ih:∀k,k<n+1→wm l base B k)(hx:Rl l B D s x)(c:aO (kd l x.env x.af) [105,102]=true):Sm l (x.af+1) [] B D (VB x) (dl l (.call mY x)) ((step l 1>>=fun _=>jU l>>=fun _=>(run l base n .iP>>=fun _=>run l base n .part>>=fun _=>fC l Cz>>=fun b=>if b=true then(run l base n .part>>=fun _=>node l 27 (s.af,s.done.length)>>=fun _=>pure Va.un)else(node l 27 (s.af,s.done.length)>>=fun _=>pure Va.un))>>=fun _=>eO>>=fun _=>pure (Va.bo true)) s):=by
 refine QM (i:=5) hL hx c rfl θ rfl ζ ζ ζ fun s1 r hr hF hu=>?_
 simp only[bG]
 refine N7 hL (fun k hk=>ih k η) hF hu (aI x 27) rfl η fun v s2 r2 a1 a2 a3=>?_
 refine JH hL ih a1 a3 (aI x 27) rfl η fun v s3 r3 b1 b2 b3=>?_
 have hq:=CF b3 (t:=Cz) rfl ζ
 cases c2:aO (kd l r3.env r3.af) Cz with
 |true=>
  have h4:=b3.up (dQ ζ c2);rw[lH (hq.trans c2)];show Sm l _ _ B D _ _ (((run l base n .part>>=fun _=>node l 27 (s.af,s.done.length)>>=fun _=>pure Va.un)>>=fun _=>eO>>=fun _=>pure (Va.bo true)) (bU s3));simp only[bG];show Sm l _ _ B D _ _ (((fun s=>run l base n .part (bU s):Pm Va)>>=fun _=>node l 27 (s.af,s.done.length)>>=fun _=>pure Va.un>>=fun _=>eO>>=fun _=>pure (Va.bo true)) s3)
  refine EN (C1:=[]) 0 hL b1 (y:=[.tx Cz, .nm Ej]) rfl (c:=fun k=>aO k Cz) θ c2 rfl (aI x 27) η (by
   rw[bH (dL _ ζ c2)]
   exact(lW hL ζ ((ih n (aar n)).prt _ _ _ h4)).le (abK _) rfl) rfl fun v s4 r4 RN _ d1 d2 d3=>?_
  obtain⟨-,A,Z,rfl,h⟩:=d1
  have hA:A=[]:=rX (l:=l) fun x hx=>(h x (aby _ hx)).1
  have hZ:Z=[]:=rX (l:=l) fun x hx=>(h x (abD _ hx)).1
  subst hA hZ;exact AU (p:=0) hL ζ hx d3 η rfl
 |false=>
  rw[lH (hq.trans c2),bH (z:=r3) (by
   rw[wP,vV 1 (y:=[.nm Nw]) rfl (c:=fun k=>!aO k Cz) θ (by rw[c2];rfl),bH (z:=r3) (by
    rw[iW ζ];show some (if dJ l r3.af Cz=false then[r3]else[])=_
    rw[ω (by rw[iZ r3.env r3.af ζ];exact c2)]),dH];rfl)]
  show Sm l _ _ B D _ _ (((node l 27 (s.af,s.done.length)>>=fun _=>pure Va.un)>>=fun _=>eO>>=fun _=>pure (Va.bo true)) s3);simp only[bG];exact AU (p:=0) hL ζ hx b3 η rfl
theorem YE {β:Type}(hB:Bb base B)(h:Rl l B D s x)(k:Bool→Pm β):(j5 l base>>=k) s=k (L6 (kd l x.env x.af)) s:=by
 show k (iX l s uW||jD l base s 0) s=_
 rw[afK hB h]
theorem ajv (hL:l.length≤90)(hB:Bb base B)(ih:∀k,k<n+1→wm l base B k)(hx:Rl l B D s x)(c:aO (kd l x.env x.af) Rf=true){F:Va→Pm Va}(hF:F=fun _=>run l base n (.ik [59])>>=fun _=>run l base n (.ik [41])>>=fun _=>run l base n .part>>=fun _=>node l 31 (s.af,s.done.length)>>=fun _=>pure Va.un):Sm l (x.af+1) [] B D (VB x) (dl l (.call mY x)) ((step l 1>>=fun _=>jU l>>=fun _=>(bY l [40]>>=fun _=>j5 l base>>=fun b=>if b=true then run l base n .iw>>=F else run l base n (.ik [59])>>=F)>>=fun _=>eO>>=fun _=>pure (Va.bo true)) s):=by
 subst hF
 have ih':∀k,k<n→wm l base B k:=fun k hk=>ih k η
 refine QM (i:=9) hL hx c rfl θ rfl ζ ζ ζ fun s1 r hr hF hu=>?_
 simp only[bG]
 refine eD hF hu η rfl ζ ζ ζ rfl fun h1 h2=>?_
 have fw:∀(v:Va) (s2:Ps) (r2:Sx) (jM:List Sx),Fr l (r.af+1+1) [] jM r2→r.af+1+1≤r2.af→Rl l B s.done s2 r2→Sm l (x.af+1) [] B D (VB x) (wr (fun r=>bn x r 31) (dl l (.seq [.dO [[.nm lq]], .tx [59], .dO [[.nm lq]], .tx [41], .nm Ej, .nm Ei] x.af jM))) ((run l base n (.ik [59])>>=fun _=>run l base n (.ik [41])>>=fun _=>run l base n .part>>=fun _=>node l 31 (s.af,s.done.length)>>=fun _=>pure Va.un>>=fun _=>eO>>=fun _=>pure (Va.bo true)) s2):=fun v s2 r2 jM d1 d2 d3=>by
  obtain⟨-,A,Z,rfl,h⟩:=d1
  have hA:A=[]:=rX (l:=l) fun x hx=>(h x (aby _ hx)).1
  have hZ:Z=[]:=rX (l:=l) fun x hx=>(h x (abD _ hx)).1
  subst hA hZ
  refine CP hL ih' (.me (p:=x.af+1) d3.le η) d3 (aI x 31) rfl (c:=66) ζ ζ ζ ζ ζ θ θ η fun v s3 r3 e1 e2 e3=>?_
  refine CP hL ih' (.me (p:=x.af+1) e3.le η) e3 (aI x 31) rfl (c:=61) ζ ζ ζ ζ ζ θ θ η fun v s4 r4 f1 f2 f3=>?_
  refine JH hL ih f1 f3 (aI x 31) rfl η fun v s5 r5 g1 g2 g3=>?_
  exact AU (p:=0) hL ζ hx g3 η rfl
 rw[YE hB h2]
 cases c2:L6 (kd l (up r).env (up r).af)with
 |true=>
  show Sm l _ _ B D _ _ (((run l base n .iw>>=fun _=>run l base n (.ik [59])>>=fun _=>run l base n (.ik [41])>>=fun _=>run l base n .part>>=fun _=>node l 31 (s.af,s.done.length)>>=fun _=>pure Va.un)>>=fun _=>eO>>=fun _=>pure (Va.bo true)) (bU s1));simp only[bG]
  exact EN (C1:=[]) 1 hL h1 (y:=[.nm AA]) rfl (c:=L6) θ c2 rfl (aI x 31) (by show x.af+1≤r.af+1+1;omega) (lW hL ζ ((ih n (aar n)).d.dcn _ _ _ h2)) rfl fun v s4 r4 RN _ d1 d2 d3=>fw v s4 r4 RN d1 d2 d3
 |false=>
  show Sm l _ _ B D _ _ (((run l base n (.ik [59])>>=fun _=>run l base n (.ik [59])>>=fun _=>run l base n (.ik [41])>>=fun _=>run l base n .part>>=fun _=>node l 31 (s.af,s.done.length)>>=fun _=>pure Va.un)>>=fun _=>eO>>=fun _=>pure (Va.bo true)) (bU s1));simp only[bG]
  refine EN (C1:=[]) (D1:=s.done) 0 hL h1 (y:=[.dO [[.nm lq]], .tx [59]]) rfl (c:=fun k=>!L6 k) θ (by rw[c2];rfl) rfl (aI x 31) (by show x.af+1≤r.af+1+1;omega) ?_ rfl fun v s4 r4 RN _ d1 d2 d3=>fw v s4 r4 RN d1 d2 d3
  rw[←wR (run l base n (.ik [59]))]
  refine CP hL ih' (.me (p:=0) h2.le (Ω _)) h2 jW rfl (c:=66) ζ ζ ζ ζ ζ θ θ (υ _) fun v s3 r3 e1 e2 e3=>?_
  exact mr hL e1 e2 rfl jW e3 trivial
end
section
variable {l:List Ct} {base:Bs→Bool} {B:List Sd} {D D2:List Nd}
theorem EY{P:Nat}{C:List Nat}{V:Va→Ps→Sx→Prop}{o:Option (List Sx)}{s:Ps}{x:Sx}{T:Tg}(hx:Rl l B D s x)(hu:un (kd l x.env x.af)≠0):Sm l P C B D V o ((step l 1>>=fun _=>jU l>>=fun _=>run l base 0 T>>=fun _=>eO>>=fun _=>pure (Va.bo true)) s):=by
 rw[sS hx hu]
 refine(ES _ (bU s)).elim (fun e=>by rw[e];trivial) fun e=>?_
 rw[e,jR];unfold Pm.bind;rw[run];trivial
theorem ahB{n:Nat}{x:Sx}{s:Ps}(hL:l.length≤90)(hB:Bb base B)(ih:∀k,k<n→wm l base B k)(hx:Rl l B D s x)(h1:(az l s 0).c=1):(L9 (kd l x.env x.af)=true∧Sm l (x.af+1) [] B D (VB x) (dl l (.call mY x)) (run l base n (.jg (az l s 0).t (s.af,s.done.length)) s))∨(L9 (kd l x.env x.af)=false∧(run l base n (.jg (az l s 0).t (s.af,s.done.length)) s= .out∨run l base n (.jg (az l s 0).t (s.af,s.done.length)) s= .ok (Va.bo false) s)):=by
 cases n with
 |zero=>
  rw[run]
  cases L9 (kd l x.env x.af)with
  |true=>exact .inl ⟨rfl,trivial⟩
  |false=>exact .inr ⟨rfl, .inl rfl⟩
 |succ n=>
  have K:∀{t:Bs},rP t=false→bg t≠0→bg t≠1→bg t≠2→((az l s 0).t=t↔aO (kd l x.env x.af) t=true):=fun ho h0 a1 a2=>⟨fun h=>(QI hx ho h0 a1 a2).1 ⟨h1,h⟩,fun h=>((QI hx ho h0 a1 a2).2 h).2⟩
  have yes:∀{t:Bs},t∈Sw→aO (kd l x.env x.af) t=true→L9 (kd l x.env x.af)=true:=fun ht h=>List.any_eq_true.2 ⟨_,ht,h⟩
  by_cases c1:aO (kd l x.env x.af) Yb=true
  ·refine .inl ⟨yes ζ c1,?_⟩
   rw[(K rfl ζ ζ ζ).2 c1,run];exact ahz hL ih hx c1
  by_cases c2:aO (kd l x.env x.af) FO=true
  ·refine .inl ⟨yes ζ c2,?_⟩
   rw[(K rfl ζ ζ ζ).2 c2,run];exact YD hL ih hx c2
  by_cases c3:aO (kd l x.env x.af) Yc=true
  ·refine .inl ⟨yes ζ c3,?_⟩
   rw[(K rfl ζ ζ ζ).2 c3,run];exact ahA hL hx c3
  by_cases c4:aO (kd l x.env x.af) ac8=true
  ·refine .inl ⟨yes ζ c4,?_⟩
   rw[(K rfl ζ ζ ζ).2 c4,run];exact WT (i:=11) hL hx c4 rfl θ ζ ζ ζ
  by_cases c5:aO (kd l x.env x.af) ada=true
  ·refine .inl ⟨yes ζ c5,?_⟩
   rw[(K rfl ζ ζ ζ).2 c5,run];exact WT (i:=12) hL hx c5 rfl θ ζ ζ ζ
  by_cases c6:aO (kd l x.env x.af) X7=true
  ·refine .inl ⟨yes ζ c6,?_⟩
   rw[(K rfl ζ ζ ζ).2 c6,run];exact abb hL ih hx c6
  by_cases c7:aO (kd l x.env x.af) [105,102]=true
  ·refine .inl ⟨yes ζ c7,?_⟩
   rw[(K rfl ζ ζ ζ).2 c7,run]
   cases n with
   |zero=>exact EY hx (dQ ζ c7)
   |succ m=>
    have e:run l base (m+1) (.jH [105,102] (s.af,s.done.length))=(run l base m .iP>>=fun _=>run l base m .part>>=fun _=>fC l Cz>>=fun b=>if b=true then(run l base m .part>>=fun _=>node l 27 (s.af,s.done.length)>>=fun _=>pure Va.un)else(node l 27 (s.af,s.done.length)>>=fun _=>pure Va.un)):=by rw[run];rfl
    rw[e];exact aob hL (fun k hk=>ih k η) hx c7
  by_cases c8:aO (kd l x.env x.af) X8=true
  ·refine .inl ⟨yes ζ c8,?_⟩
   rw[(K rfl ζ ζ ζ).2 c8,run]
   cases n with
   |zero=>exact EY hx (dQ ζ c8)
   |succ m=>
    have e:run l base (m+1) (.jH X8 (s.af,s.done.length))=(run l base m .iP>>=fun _=>run l base m .part>>=fun _=>node l 28 (s.af,s.done.length)>>=fun _=>pure Va.un):=by rw[run];rfl
    rw[e];exact Pn (i:=6) hL (fun k hk=>ih k η) hx c8 rfl θ rfl ζ ζ ζ ζ
  by_cases c9:aO (kd l x.env x.af) Hu=true
  ·refine .inl ⟨yes ζ c9,?_⟩
   rw[(K rfl ζ ζ ζ).2 c9,run]
   cases n with
   |zero=>exact EY hx (dQ ζ c9)
   |succ m=>
    have e:run l base (m+1) (.jH Hu (s.af,s.done.length))=(run l base m .iP>>=fun _=>run l base m .part>>=fun _=>node l 29 (s.af,s.done.length)>>=fun _=>pure Va.un):=by rw[run];rfl
    rw[e];exact Pn (i:=7) hL (fun k hk=>ih k η) hx c9 rfl θ rfl ζ ζ ζ ζ
  by_cases d1:aO (kd l x.env x.af) [100,111]=true
  ·refine .inl ⟨yes ζ d1,?_⟩
   rw[(K rfl ζ ζ ζ).2 d1,run]
   cases n with
   |zero=>exact EY hx (dQ ζ d1)
   |succ m=>
    have e:run l base (m+1) (.jH [100,111] (s.af,s.done.length))=(run l base m .part>>=fun _=>fC l Hu>>=fun b=>if b=true then(run l base m .iP>>=fun _=>bY l [59]>>=fun _=>node l 30 (s.af,s.done.length)>>=fun _=>pure Va.un)else iD):=by rw[run];rfl
    rw[e];exact aoa hL (fun k hk=>ih k η) hx d1
  by_cases d2:aO (kd l x.env x.af) Rf=true
  ·refine .inl ⟨yes ζ d2,?_⟩
   rw[(K rfl ζ ζ ζ).2 d2,run]
   cases n with
   |zero=>exact EY hx (dQ ζ d2)
   |succ m=>
    have e:run l base (m+1) (.jH Rf (s.af,s.done.length))=(bY l [40]>>=fun _=>j5 l base>>=fun b=>if b=true then run l base m .iw>>=(fun _=>run l base m (.ik [59])>>=fun _=>run l base m (.ik [41])>>=fun _=>run l base m .part>>=fun _=>node l 31 (s.af,s.done.length)>>=fun _=>pure Va.un)else run l base m (.ik [59])>>=(fun _=>run l base m (.ik [59])>>=fun _=>run l base m (.ik [41])>>=fun _=>run l base m .part>>=fun _=>node l 31 (s.af,s.done.length)>>=fun _=>pure Va.un)):=by rw[run];rfl
    rw[e];exact ajv hL hB (fun k hk=>ih k η) hx d2 rfl
  refine .inr ⟨?_, .inr ?_⟩
  ·unfold L9 Sw
   simp only[List.any_cons,List.any_nil];rw[acC c1,acC c2,acC c3,acC c4,acC c5,acC c6,acC c7,acC c8,acC c9,acC d1,acC d2];rfl
  ·have no:∀{t:Bs},¬aO (kd l x.env x.af) t=true→rP t=false→bg t≠0→bg t≠1→bg t≠2→(az l s 0).t≠t:=fun h a b c d e=>h ((K a b c d).1 e)
   have n4:=no c4 rfl ζ ζ ζ;have n5:=no c5 rfl ζ ζ ζ;have n7:=no c7 rfl ζ ζ ζ;have n8:=no c8 rfl ζ ζ ζ;have n9:=no c9 rfl ζ ζ ζ;have m1:=no d1 rfl ζ ζ ζ;have m2:=no d2 rfl ζ ζ ζ;rw[run,χ (no c1 rfl ζ ζ ζ),χ (no c2 rfl ζ ζ ζ),χ (no c3 rfl ζ ζ ζ),χ (fun h=>h.elim n4 n5),χ (no c6 rfl ζ ζ ζ),χ (by simp only[abf,abZ,acz];rintro(h|h|h|h|h)<;>contradiction)];rfl
end
section
variable {l:List Ct} {base:Bs→Bool} {B:List Sd} {D D2:List Nd}
variable {x : Sx}
theorem adA {w:Bs}(i:Nat){q:List Sy×Nat}(hw:sP w=true)(hi:(lQ w)[i]? =some q)(h:∀p∈Ia (lQ w) i,jb uX 8 (kd l x.env x.af) p.1=true∨ed l x p=some []):dl l (.call w x)=(ed l x q).bind aG:=by
 unfold sP at hw
 simp only[aaS,aaZ]at hw
 obtain⟨R,hR⟩:=af1.1 hw.2
 have e:lQ w=R.mh.zip R.iL:=by unfold lQ;rw[hR];simp
 rw[vP hw.1.1 hR,←e,EK _ _ _ hi fun q hq=>?_]
 refine(h q hq).elim (fun h=>?_) id
 unfold ed
 rw[dN (x:={af:=x.af,env:=x.env,ty:=x.ty}) snd 8 _ q.1 _ h rfl];rfl
theorem aoc{env:List (List Sd)}{p:Nat}(h:DT (kd l env p)=true):bz l p=2∧k1 l env (p+1)=68:=by
 have hu:∀k<KN,DT k=true→un k=1∨un k=2:=by decide+kernel
 have h1:=hu _ (jP ..) h
 rw[eY]at h1
 refine⟨(mo env p).1.2 h1,?_⟩
 rcases h1 with h1|h1
 ·rw[mU h1]at h
  exact(by decide+kernel:∀m<110,DT (iK 1 m)=true→m=68) _ (jI ..) h
 ·rw[mU h1]at h
  exact(by decide+kernel:∀m<110,DT (iK 2 m)=true→m=68) _ (jI ..) h
theorem ahC (hk:kd l x.env x.af=4):ed l x ([.dO [[.nm lq]], .tx [59]],26)=some []:=by
 obtain⟨z,e,hz⟩:=ahv (x:=fr x) hk
 have e1:gT l [[.nm lq]] (fr x)=some [z]:=by
  rw[ou,bH ((fe ζ _ _).trans e),dH];rfl
 show wr _ (dl l (.seq _ x.af [fr x]))=_
 rw[bJ,bX,wO,e1]
 show wr _ (dl l (.seq [.tx [59]] x.af [fr x,z]))=_
 rw[bJ,ja]
 ·show wr _ (dl l (.seq [] x.af []))=_
  rw[dH];rfl
 ·intro y hy
  rcases abf.1 hy with rfl|hy
  ·exact kM (r:=fr x) _ ζ (by show aO (kd l x.env x.af) _=_;rw[hk];decide)
  ·obtain rfl:=Φ.1 hy
   have:=(aa7 hk).2;exact wQ (c:=68) θ (by rw[hz];exact this) _
variable {s : Ps}
theorem abd {n:Nat}(hL:l.length≤90)(ih:wm l base B n)(hx:Rl l B D s x)(c:DT (kd l x.env x.af)=true):Sm l (x.af+1) [] B D (VU x) (dl l (.call mY x)) ((step l 2>>=fun _=>run l base n .iy>>=fun _=>node l 23 (s.af,s.done.length)>>=fun _=>pure Va.un) s):=by
 have e:dl l (.call mY x)=(ed l x ([.nm nT, .tx [58], .nm mY],23)).bind aG:=by
  by_cases c2:kd l x.env x.af=4
  ·refine adA 0 ζ rfl fun p hp=>?_
   rw[c2];rw[←acB 3 (Ia (lQ mY) 0)]at hp
   rcases abr.1 hp with hp|hp
   ·exact .inl ((Θ.1 (by decide+kernel:(((Ia (lQ mY) 0).take 3).all fun q=>jb uX 8 4 q.1)=true)) p hp)
   ·rcases abf.1 (show p∈([.dO [[.nm lq]], .tx [59]],26)::(Ia (lQ mY) 0).drop 4 from hp)with rfl|hp
    ·exact .inr (ahC c2)
    ·exact .inl ((Θ.1 (by decide+kernel:(((Ia (lQ mY) 0).drop 4).all fun q=>jb uX 8 4 q.1)=true)) p hp)
  ·refine lV 0 (c:=fun k=>k==5) ζ rfl θ ?_
   unfold DT at c;rw[abF c2,afu]at c;exact c
 rw[e]
 obtain⟨h2,h3⟩:=aoc c
 have hf:=hx.fr
 have u1:=hf.up (x:=fr x) (by show un (kd l x.env x.af)≠0;rw[eY];rcases(mo x.env x.af).1.1 h2 with h|h<;>rw[h]<;>decide)
 have c3:aO (kd l (up (fr x)).env (up (fr x)).af) [58]=true:=by
  rw[NM (c:=68) ζ,eY];exact aaZ.2 h3
 have u2:=u1.up (dQ ζ c3)
 refine Sm.aG hL ?_
 show Sm l _ _ B D _ (wr _ (dl l (.seq _ x.af [fr x]))) _
 rw[bH (z:=up (fr x)) ((fe ζ _ _).trans (by rw[vQ];show some (jC (fr x) (bz l x.af==2))=_;rw[h2];rfl)),bH (dL _ ζ c3),vT (by have:=u2.le;have:=u2.af;show s.af+2≤_;have h9:x.af=s.af:=hx.af;have:x.af+1+1≤l.length:=u2.le;omega)]
 refine dV hL (.me (p:=x.af+1) u2.le (by show x.af+1≤x.af+1+1;omega)) (ih.Pk _ _ _ u2) (aI x 23) (by show x.af+1≤x.af+1+1+1;omega) ζ rfl rfl fun v s2 r2 jM _ b1 b2 b3 _=>?_
 exact dR hL b1 (by show x.af+1≤x.af+1+1+1;omega) rfl ζ hx b3 fun h=>⟨_,h⟩
theorem YF {β:Type}(h:Rl l B D s x)(k:Bool→Pm β):(lM l>>=k) s=k (DT (kd l x.env x.af)) s:=by
 show k ((az l s 0).c==2&&aX l s 1 [58]) s=_
 rw[afJ h];rfl
theorem aod (hx:Rl l B D s x)(h:(az l s 0).c≠1):L9 (kd l x.env x.af)=false:=by
 have no:∀t∈Sw,aO (kd l x.env x.af) t=false:=fun t ht=>by
  have hk:=(Θ.1 (by decide:(Sw.all fun t=>!rP t&&bg t !=0&&bg t !=1&&bg t !=2)=true)) t ht;simp only[aaS,acm,af9]at hk
  exact acC fun e=>h ((QI hx hk.1.1.1 hk.1.1.2 hk.1.2 hk.2).2 e).1
 unfold L9
 rw[List.any_eq_false]
 exact fun t ht=>by rw[no t ht];decide
theorem N8{m:Nat}(hL:l.length≤90)(hB:Bb base B)(ih:∀k,k<m→wm l base B k):dZ l base B (.call mY) .iy [] (fun x=>VU x) m:=by
 intro x s D hx
 cases m with
 |zero=>rw[run];trivial
 |succ n=>
  have hf:=hx.fr;have i:=ih n (aar n);rw[run,fD,y8,YF hx]
  cases c1:DT (kd l x.env x.af)with
  |true=>exact abd hL i hx c1
  |false=>
   show Sm l _ _ B D _ _ ((eu l 0 [123]>>=fun b=>if b=true then(jU l>>=fun _=>run l base n .wK>>=fun _=>eO>>=fun _=>pure Va.un)else(if(az l s 0).c=1 then run l base n (.jg (az l s 0).t (s.af,s.done.length))>>=fun k=>if k.bool=true then pure Va.un else run l base n (.ik [59])>>=fun _=>node l 26 (s.af,s.done.length)>>=fun _=>pure Va.un else pure (Va.bo false)>>=fun k=>if k.bool=true then pure Va.un else run l base n (.ik [59])>>=fun _=>node l 26 (s.af,s.done.length)>>=fun _=>pure Va.un)) s);rw[jL,iQ hx (t:=[123]) rfl ζ]
   cases c2:aO (kd l x.env x.af) [123]with
   |true=>
    refine dY 3 (w:=mY) hL (c:=fun k=>aO k [123]) ζ rfl θ c2 ?_;exact nX hL hx ζ (adz hL ih hf) yh
   |false=>
    have ex:L9 (kd l x.env x.af)=false→Sm l (x.af+1) [] B D (VU x) (dl l (.call mY x)) ((run l base n (.ik [59])>>=fun _=>node l 26 (s.af,s.done.length)>>=fun _=>pure Va.un) s):=fun c3=>by
     refine dY 4 (w:=mY) hL (c:=fun k=>!DT k&&!aO k [123]&&!L9 k) ζ rfl θ (by rw[c1,c2,c3];rfl) ?_
     refine CP hL (fun k hk=>ih k η) (.me (p:=0) hf.le (Ω _)) hf (aI x 26) rfl (c:=66) ζ ζ ζ ζ ζ θ θ (υ _) fun v s1 r1 a1 a2 a3=>?_
     exact dR hL a1 a2 rfl ζ hx a3 fun h=>⟨_,h⟩
    show Sm l _ _ B D _ _ ((if(az l s 0).c=1 then _ else _:Pm Va) s);by_cases c4:(az l s 0).c=1
    ·rw[ω c4]
     rcases ahB (n:=n) hL hB (fun k hk=>ih k η) hx c4 with⟨-,h⟩|⟨h1,h|h⟩
     ·rw[jR];unfold Pm.bind
      cases e:run l base n (.jg (az l s 0).t (s.af,s.done.length)) s with
      |out=>trivial
      |no=>rw[e]at h;exact h
      |ok v s1=>
       rw[e]at h;obtain⟨xs,r,a1,a2,a3,a4,a5⟩:=h;show Sm l _ _ B D _ _ ((if v.bool=true then pure Va.un else _:Pm Va) s1);rw[ω a5];exact⟨xs,r,a1,a2,a3,a4⟩
     ·rw[jR];unfold Pm.bind;rw[h];trivial
     ·rw[jo h];exact ex h1
    ·rw[χ c4]
     exact ex (aod hx c4)
end
section
variable {l:List Ct} {base:Bs→Bool} {B:List Sd} {D D2:List Nd}
def cIx:List Nat:=64::GV
def Sz(l:List Ct)(base:Bs→Bool)(n:Nat)(td:Bool):Pm Va:=fH>>=fun h1=>run l base n (.bP 0)>>=fun f=>bS l f.fA.name td>>=fun _=>eu l 0 [123]>>=fun b=>if(b&&f.fA.ek==3)=true then iD else run l base n (.iG h1)
variable {n : Nat}{s : Ps}{x : Sx}
theorem ahD (hL:l.length≤90)(ih:∀k,k<n+1→Sr l base B k)(hx:Rl l B D s x):Sm l (x.af+1) cIx B D (VU x) (dl l (.call tH x)) (Sz l base n x.ty s):=by
 have hf:=hx.fr
 have i:=ih n (aar n)
 unfold Sz
 rw[fD]
 refine dY 0 (w:=tH) hL (c:=fun _=>true) ζ rfl θ rfl ?_
 refine dV hL (.me (p:=x.af) hf.le) (i.g.mf _ _ _ hf) (aI x 13) (υ _) ζ rfl θ fun v s1 r1 gB _ a1 a2 a3 a4=>?_
 obtain⟨fm,jM,rfl,e,b1,b2⟩:=WS (f:=x.af) hL [.dO [[.tx [61], .nm Cr]]] a1 θ a3 a4
 rw[e]
 have b2:Rl l B s.done {s1 with nm:=s1.nm.bS fm.name x.ty} (wT l r1):=b2
 have d:=yj (l:=l) fm.name x.ty (fun _=>eu l 0 [123]>>=fun b=>if(b&&fm.ek==3)=true then iD else run l base n (.iG (s.af,s.done.length))) s1
 show Sm l _ _ B D _ _ ((bS l fm.name x.ty>>=fun _=>eu l 0 [123]>>=fun b=>if(b&&fm.ek==3)=true then iD else run l base n (.iG (s.af,s.done.length))) s1)
 rcases d with e|e
 ·rw[e];trivial
 rw[e,jL,iQ b2 (t:=[123]) rfl ζ]
 cases c:aO (kd l (wT l r1).env (wT l r1).af) [123]&&fm.ek==3 with
 |true=>
  rw[ω rfl];rw[aaS]at c;obtain⟨xs',e,h1⟩:=ow (ys:=[]) (f:=x.af) (a:=[[.tx [61], .nm Cr]]) hL b1 (c:=fun k=>aO k [123]) θ c.1 θ;rw[e]
  have hz:Al l (x.af+1) cIx xs':=⟨h1.1,fun z hz=>by
   rcases h1.mem.2 z hz with rfl|h
   ·rw[kz c.1 (c:=64) ζ ζ ζ];decide
   ·exact lU θ h.1⟩
  refine⟨xs'.map _,?_,hz.map (aI x 13)⟩;unfold wr;rw[dH,Ξ,hz.1.aG hL];rfl
 |false=>
  rw[χ ζ]
  cases n with
  |zero=>rw[run];trivial
  |succ n=>exact(Pj hL (ih n η).g hx b1 b2 (υ _) θ).le (υ _) θ
def SA(l:List Ct)(base:Bs→Bool)(n:Nat):Pm Va:=fH>>=fun h=>run l base n (.dh true)>>=fun td=>(eu l 0 [59]>>=fun b=>if b=true then pure Va.un else Sz l base n td.bool>>=fun _=>run l base n (.jS td.bool))>>=fun _=>bY l [59]>>=fun _=>node l 3 h>>=fun _=>pure Va.un
theorem ahE (hL:l.length≤90)(ih:∀k,k<n+1→Sr l base B k)(hx:Rl l B D s x)(c:aO (kd l x.env x.af) uW=false):Sm l (x.af+1) [] B D (VU x) (dl l (.call AA x)) (SA l base n s):=by
 have hf:=hx.fr
 have i:=ih n (aar n)
 unfold SA
 rw[fD]
 refine dY 0 (w:=AA) hL (c:=fun k=>!aO k uW) ζ rfl θ (by rw[c];rfl) ?_
 refine dV hL (.me (p:=x.af) hf.le) ((uN (fr x)).symm▸i.g.Pf true (fr x) s s.done hf) (aI x 3) (υ _) ζ rfl θ fun v s1 r1 gB _ a1 a2 a3 a4=>?_
 have a2:x.af+1≤r1.af:=a2
 obtain⟨td,jM,rfl,e,b1⟩:=F9 (f:=x.af) hL [.dO [[.nm tH, .bV [[.tx [44], .nm tH]]]], .tx [59]] a1 θ a4
 have b3:=a3.tyd td
 show Sm l _ _ B D _ (wr _ (dl l (.seq [.nm Bq, .dO [[.nm tH, .bV [[.tx [44], .nm tH]]]], .tx [59]] x.af gB))) _
 rw[e,bG,jL,iQ a3 (t:=[59]) rfl ζ]
 have fw:∀s2 r2,Rl l B s.done s2 r2→x.af+1≤r2.af→Sm l (x.af+1) [] B D (VU x) (wr (fun r=>bn x r 3) (dl l (.seq [] x.af [r2]))) ((node l 3 (s.af,s.done.length)>>=fun _=>pure Va.un) s2):=fun s2 r2 d1 d2=>dR hL (.me (p:=r2.af) d1.le) d2 rfl ζ hx d1 fun h=>⟨_,h⟩
 cases c2:aO (kd l r1.env r1.af) [59]with
 |true=>
  obtain⟨xs',e,h1⟩:=ow (ys:=[.tx [59]]) (f:=x.af) (a:=[[.nm tH, .bV [[.tx [44], .nm tH]]]]) hL b1 (c:=fun k=>aO k [59]) θ c2 θ;rw[e]
  refine eD h1 b3 (by show x.af+1≤r1.af+1;omega) rfl ζ ζ ζ θ fun h4 h5=>fw _ _ h5 (by show x.af+1≤r1.af+1;omega)
 |false=>
  show Sm l _ _ B D _ _ (((Sz l base n td>>=fun _=>run l base n (.jS td))>>=fun _=>bY l [59]>>=fun _=>node l 3 (s.af,s.done.length)>>=fun _=>pure Va.un) s1)
  refine uw (F:=Bv 66) (C1:=cIx++[67,110,111]) hL b1 (AP (env:=r1.env) c2 ζ ζ ζ) (aI x 3) (.inl (υ _)) ?_ θ θ fun v s2 r2 jM _ d1 d2 d3=>eD d1 d3 (by have d2:r1.af≤r2.af:=d2;omega) rfl ζ ζ ζ θ fun h4 h5=>fw _ _ h5 (by show x.af+1≤r2.af+1;have d2:r1.af≤r2.af:=d2;omega)
  refine dV hL (.me (p:=r1.af) b3.le) (ahD hL ih b3) jW (υ _) ζ rfl θ fun v s2 r2 jM _ d1 d2 d3 d4=>?_
  have d2:r1.af+1≤r2.af:=d2;rw[KW,←wR (vZ l _ _ n)];obtain⟨t, -,hty, -⟩:=d4;have hty:r2.ty=td:=hty
  refine kU (q:=r2.af) (p':=r1.af+1) (C1:=GV++[67,110,111]) (V:=tt) hL d1 ((JA (w:=tH) (it:=fun n=>run l base n (.uQ td)) (I:=fun z=>z.ty=td) (V:=fun x=>VU x) (E:=GV++[67,110,111]) hL ζ θ θ (fun z h=>h) (fun z v s y h ⟨t,h2,h3,_⟩=>h3.trans h) (fun s r D hr h=>⟨(fun(h:false=true)=>(by cases h)),fun _=>lU (C:=[67,110,111]) θ (tJ hr h)⟩) (fun k hk z s D hz e=>e▸(ih k η).ind z s D hz) d3 hty).mono (υ _) (by rw[Θ];exact fun x hx=>aU.2 hx) fun _ _ _ _ _ _=>trivial) (υ _) jW d2 (.inr (υ _)) (.inl (υ _)) θ θ fun v s3 r3 EO _ f1 f2 f3 _=>mr hL f1 (υ _) θ jW f3 trivial
end
section
variable {l:List Ct} {base:Bs→Bool} {B:List Sd} {D D2:List Nd}
theorem SB{β:Type}(k:Unit→Pm β):∀(ps:List Sd) (s:Ps) (r:Sx),Rl l B D s r→(iE l ps>>=k) s= .out∨∃s2,(iE l ps>>=k) s=k () s2∧Rl l B D s2 {r with env:=ps.foldl (fun e d=>fV e d.1 d.2) r.env}
 |[],s,r,h=> .inr ⟨s,rfl,h⟩
 |p::t,s,r,h=>by
  rw[show(iE l (p::t)>>=k) s=(bS l p.1 p.2>>=fun _=>iE l t>>=k) s from congrFun (bG (bS l p.1 p.2) (fun _=>iE l t) k) s]
  rcases yj (l:=l) p.1 p.2 (fun _=>iE l t>>=k) s with e|e
  ·exact .inl e
  ·rcases SB k t _ _ (h.fV p.1 p.2)with e2|⟨s2,e2,h2⟩
   ·exact .inl (e.trans e2)
   ·exact .inr ⟨s2,e.trans e2,h2⟩
def WU:List Sy:=[.nm Cy, .nm Bq, .nm Cs, .nm Nt, .nm KF, .nm Ei]
def YG(l:List Ct)(base:Bs→Bool)(n:Nat):Pm Va:=fH>>=fun h=>run l base n (.dh true)>>=fun td=>eu l 0 [59]>>=fun b=>if b=true then iD else run l base n (.bP 0)>>=fun f=>bS l f.fA.name td.bool>>=fun _=>eu l 0 [123]>>=fun c=>if(c&&f.fA.ek==3)=true then run l base n (.body f.fA.params)>>=fun _=>node l 2 h>>=fun _=>pure Va.un else iD
theorem WV{r:Sx}{f:Nat}:dl l (.ay (.nm Nt) r f)=some (match dG l (jA r)with
  |some (some x)=>if x.k=16 then[{r with env:=x.mf.foldl (fun e d=>fV e d.1 d.2) (qY (fV r.env (jE l (jA r)) r.ty))}]else[]
  |_=>[]):=iW ζ r f
theorem ahF{n:Nat}(hL:l.length≤90)(ih:∀k,k<n+1→wm l base B k){x:Sx}{s:Ps}(hx:Rl l B D s x):Sm l (x.af+1) [] B D (VU x) (ed l x (WU,2)) (YG l base n s):=by
 have hf:=hx.fr
 have i:=ih n (aar n)
 unfold YG
 rw[fD]
 show Sm l _ _ B D _ (wr (fun r=>bn x r 2) (dl l (.seq WU x.af [fr x]))) _
 refine dV hL (.me (p:=x.af) hf.le) ((uN (fr x)).symm▸i.d.g.Pf true (fr x) s s.done hf) (aI x 2) (υ _) ζ rfl θ fun v s1 r1 gB _ a1 a2 a3 a4=>?_
 have a2:x.af+1≤r1.af:=a2
 obtain⟨td,jM,rfl,e,b1⟩:=F9 (f:=x.af) hL [.nm Cs, .nm Nt, .nm KF, .nm Ei] a1 θ a4
 have b3:=a3.tyd td
 rw[e,jL,iQ a3 (t:=[59]) rfl ζ]
 cases c2:aO (kd l r1.env r1.af) [59]with
 |true=>
  show Sm l _ _ B D _ _ (((iD:Pm Va)>>=fun _=>(iD:Pm Va)) s1)
  exact dV (D1:=s.done) (C1:=[]) (V:=tt) hL b1 (.nil (vU (w:=Cs) (c:=fun k=>aO k [59]) ζ θ c2)) (aI x 2) (by show x.af+1≤r1.af+1;omega) ζ θ rfl fun v s2 r2 jM h=>(by cases h)
 |false=>
  show Sm l _ _ B D _ _ ((run l base n (.bP 0)>>=fun f=>bS l f.fA.name td>>=fun _=>eu l 0 [123]>>=fun c=>if(c&&f.fA.ek==3)=true then run l base n (.body f.fA.params)>>=fun _=>node l 2 (s.af,s.done.length)>>=fun _=>pure Va.un else iD) s1)
  refine dV hL b1 (i.d.g.mf _ _ _ b3) (aI x 2) (by show x.af+1≤r1.af+1;omega) ζ θ θ fun v s2 r2 EO _ d1 d2 d3 d4=>?_
  have d2:r1.af+1≤r2.af:=d2;obtain⟨t,fm,hv,rfl,ht,hn, -,hr⟩:=d4;have hl:=DR hv.1;have hty:r2.ty=td:=hv.2.1;show Sm l _ _ B D _ _ ((bS l fm.name td>>=fun _=>eu l 0 [123]>>=fun c=>if(c&&fm.ek==3)=true then run l base n (.body fm.params)>>=fun _=>node l 2 (s.af,s.done.length)>>=fun _=>pure Va.un else iD) s2)
  rcases yj (l:=l) fm.name td (fun _=>eu l 0 [123]>>=fun c=>if(c&&fm.ek==3)=true then run l base n (.body fm.params)>>=fun _=>node l 2 (s.af,s.done.length)>>=fun _=>pure Va.un else iD) s2 with e|e
  ·rw[e];trivial
  have g1:=d3.fV fm.name td;rw[e,jL,show aX l {s2 with nm:=s2.nm.bS fm.name td} 0 [123]=aO (kd l r2.env r2.af) [123]from iQ d3 (t:=[123]) rfl ζ];by_cases h3:fm.ek=3
  ·obtain⟨y,h4,h5,h6⟩:=hr.2.2.2.1 h3
   have ho:dl l (.ay (.nm Nt) r2 x.af)=some [{r2 with env:=fm.params.foldl (fun e d=>fV e d.1 d.2) (qY (fV r2.env fm.name td))}]:=by
    rw[WV,hl,h4];show some (if y.k=16 then _ else _)=_;rw[ω h5,h6,hn,hty]
   rw[h3]
   cases c3:aO (kd l r2.env r2.af) [123]with
   |false=>
    show Sm l _ _ B D _ _ (((iD:Pm Va)>>=fun _=>(iD:Pm Va)) {s2 with nm:=s2.nm.bS fm.name td})
    refine kU (q:=r2.af) (p':=r1.af+1) (C1:=Bv 64) (D1:=s.done) (V:=tt) hL d1 ⟨_,ho,⟨by simp,fun z hz=>?_,fun z hz=>?_⟩,fun z hz=>?_⟩ (υ _) (aI x 2) d2 (.inr (υ _)) (.inl η) θ θ fun v s2 r2 jM h=>(by cases h)
    ·rw[Φ.1 hz];exact υ _
    ·rw[Φ.1 hz];exact d3.le
    ·rw[Φ.1 hz];exact AP (env:=r2.env) c3 ζ ζ ζ
   |true=>
    rw[ω ζ];obtain⟨xs',e,w1⟩:=EL hL [.nm KF, .nm Ei] (f:=x.af) d1 ho rfl θ;rw[e]
    cases n with
    |zero=>rw[jR];unfold Pm.bind;rw[run];trivial
    |succ n=>
     rw[run];simp only[bG]
     refine(ES _ {s2 with nm:=s2.nm.bS fm.name td}).elim (fun e=>by rw[e];trivial) fun e=>?_
     rw[e]
     rcases SB (fun _=>run l base n .wK>>=fun _=>eO>>=fun _=>pure Va.un>>=fun _=>node l 2 (s.af,s.done.length)>>=fun _=>pure Va.un) fm.params _ _ g1.qY with e|⟨s3,e,g3⟩
     ·rw[e];trivial
     rw[e];have g3:Rl l B s.done s3 {r2 with env:=fm.params.foldl (fun e d=>fV e d.1 d.2) (qY (fV r2.env fm.name td))}:=g3
     refine dV hL w1 ((ih n η).itm _ _ _ g3) (aI x 2) (by show x.af+1≤r2.af+1;omega) ζ θ rfl fun v s4 r4 RN _ k1 k2 k3 k4=>?_
     have k2:r2.af+1≤r4.af:=k2;obtain⟨-,A,Z,rfl,h⟩:=k1
     have hA:A=[]:=rX (l:=l) fun x hx=>(h x (aby _ hx)).1
     have hZ:Z=[]:=rX (l:=l) fun x hx=>(h x (abD _ hx)).1
     subst hA hZ;rw[List.nil_append,bH (z:={r4 with cl:=r4.env.getLastD [],env:=r4.env.dropLast}) (iW ζ _ _)]
     rcases ET k3 (fun _=>pure Va.un>>=fun _=>node l 2 (s.af,s.done.length)>>=fun _=>pure Va.un)with e|⟨e,q1,q2⟩
     ·rw[e];trivial
     rw[e]
     exact dR hL (.me (p:=r4.af) q1.le) η rfl ζ hx q1 fun h=>⟨_,h⟩
  ·rw[abF h3,agQ]
   have ho:dl l (.ay (.nm Nt) r2 x.af)=some []:=by
    rw[WV,hl];have h4:=hr.2.2.2.2
    have h5:fm.ek=0∨fm.ek=1∨fm.ek=2:=by omega
    rcases h5 with h5|h5|h5
    ·rw[hr.1 h5]
    ·rw[hr.2.1 h5]
    ·obtain⟨y,h6,h7⟩:=hr.2.2.1 h5
     rw[h6];show some (if y.k=16 then _ else _)=_;rw[χ η]
   show Sm l _ _ B D _ _ (((iD:Pm Va)>>=fun _=>(iD:Pm Va)) {s2 with nm:=s2.nm.bS fm.name td})
   exact kU (q:=r2.af) (p':=r1.af+1) (C1:=[]) (D1:=s.done) (V:=tt) hL d1 (.nil ho) (υ _) (aI x 2) d2 (.inr (υ _)) (.inl η) θ θ fun v s2 r2 jM h=>(by cases h)
def Wo(a b c:Rs Va):Prop:=a= .out∨(a=b∧c= .no)∨(a=c∧b= .no)
theorem Mc{α:Type}{X:Pm α}{F G H:α→Pm Va}{s:Ps}(h:∀a s1,Wo (F a s1) (G a s1) (H a s1)):Wo ((X>>=F) s) ((X>>=G) s) ((X>>=H) s):=by
 rw[jR,jR,jR]
 unfold Pm.bind
 cases X s with
 |out=>exact .inl rfl
 |no=>exact .inr (.inl ⟨rfl,rfl⟩)
 |ok a s1=>exact h a s1
theorem ajx(n:Nat)(s:Ps)(c:iX l s uW=false):Wo (run l base (n+1) .j6 s) (YG l base n s) (SA l base n s):=by
 rw[run,LJ,c]
 unfold YG SA
 show Wo ((run l base n (.dh true)>>=_) s) ((run l base n (.dh true)>>=_) s) ((run l base n (.dh true)>>=_) s)
 refine Mc fun td s1=>?_
 rw[bG]
 refine Mc fun b s2=>?_
 cases b with
 |true=>exact .inr (.inr ⟨rfl,rfl⟩)
 |false=>
  unfold Sz;rw[χ ζ,χ ζ,χ ζ];simp only[bG];show Wo ((run l base n (.bP 0)>>=_) s2) ((run l base n (.bP 0)>>=_) s2) ((run l base n (.bP 0)>>=_) s2)
  refine Mc fun f s3=>Mc fun u s4=>Mc fun c s5=>?_
  cases c4:c&&f.fA.ek==3 with
  |true=>exact .inr (.inl ⟨by rw[ω rfl,ω rfl],by rw[ω rfl];rfl⟩)
  |false=>exact .inr (.inr ⟨by rw[χ ζ,χ ζ],by rw[χ ζ];rfl⟩)
def ExQ(l:List Ct)(base:Bs→Bool)(B:List Sd)(m:Nat):Prop:=dZ l base B (.call Ra) .j6 [] (fun x=>VU x) m
theorem Qv{m:Nat}(hL:l.length≤90)(ih:∀k,k<m→wm l base B k):ExQ l base B m:=by
 intro x s D hx
 cases m with
 |zero=>rw[run];trivial
 |succ n=>
  have hf:=hx.fr;have hff:=hf.fr;have i:=ih n (aar n);have hq:=CF hx (t:=uW) rfl ζ
  cases c:aO (kd l x.env x.af) uW with
  |true=>
   rw[run,LJ,hq,c];refine dY 1 (w:=Ra) hL (c:=fun k=>aO k uW) ζ rfl θ c (nX hL hx ζ ?_ yh);exact dY 1 (w:=AA) hL (c:=fun k=>aO k uW) ζ rfl θ c (nX hL hf ζ (i.d.g.asr _ _ _ hff c) yh)
  |false=>
   have e:dl l (.call Ra x)=((ed l x (WU,2)).bind fun a=>(ed l x ([.nm AA],0)).bind fun b=>some (a++b)).bind aG:=CG 0 (c:=fun _=>true) ζ rfl rfl θ rfl;have h1:=ahF hL ih hx;have h2:Sm l (x.af+1) [] B D (VU x) (ed l x ([.nm AA],0)) (SA l base n s):=nX hL hx ζ (ahE hL (fun k hk=>(ih k hk).d) hf c) yh
   have no:∀{o:Option (List Sx)},Sm (α:=Va) l (x.af+1) [] B D (VU x) o .no→o=some []:=fun h=>by
    obtain⟨xs,h3,h4⟩:=h;rw[h3,rX (l:=l) h4.2]
   rw[e]
   rcases ajx (l:=l) (base:=base) n s (hq.trans c)with h|⟨h,h3⟩|⟨h,h3⟩
   ·rw[h];trivial
   ·rw[h3]at h2
    rw[h,no h2];refine Sm.aG hL ?_
    have:((ed l x (WU,2)).bind fun a=>(some ([]:List Sx)).bind fun b=>some (a++b))=ed l x (WU,2):=by cases ed l x (WU,2)<;>simp
    rw[this];exact h1
   ·rw[h3]at h1
    rw[h,no h1];refine Sm.aG hL ?_
    have:((some ([]:List Sx)).bind fun a=>(ed l x ([.nm AA],0)).bind fun b=>some (a++b))=ed l x ([.nm AA],0):=by cases ed l x ([.nm AA],0)<;>simp
    rw[this];exact h2
end
section
variable {l:List Ct} {base:Bs→Bool} {B:List Sd}
variable {C : List Nat}{T : Tg}
theorem SC {V:Sx→Va→Ps→Sx→Prop}{k:Nat}:dZ l base B (.call sO) T C V k↔dZ l base B .dx T C V k:=by
 unfold dZ
 exact forall_congr' fun x=>by rw[J3]
theorem SE {V:Sx→Va→Ps→Sx→Prop}{k:Nat}:dZ l base B (.call jk) T C V k↔dZ l base B .assign T C V k:=by
 unfold dZ
 exact forall_congr' fun x=>by rw[Av]
theorem aoe{m:Nat}(hL:l.length≤90)(hB:Bb base B)(ih:∀k,k<m→wm l base B k):wm l base B m:=by
 have g:=fun k hk=>(ih k hk).d.g
 have ex:=fun k hk=>(g k hk).ex
 have jd:∀j,j≤2→∀(x:Sx) (s:Ps) (D:List Nd),Rl l B D s x→JD l B D j x (run l base m (.bP j) s):=fun j hj x s D hx=>ahu hL hB hj (fun k hk=>(ih k hk).d.BG) (fun k hk=>(ih k hk).d.par) (fun k hk=>(ih k hk).d.jd j hj) hx
 exact{
  d:={
   g:={
    ex:={
     e:=aaI hL fun k hk=>(ex k hk).a
     a:=SE.2 (Vm hL (fun k hk=>SC.1 (g k hk).ch) fun k hk=>SE.1 (ex k hk).a)
     u:=Ym hL hB ex
     c:=aaO hL hB ex
     p:=aaN hL hB (fun k hk=>(ex k hk).t) (fun k hk=>(ex k hk).b) (fun k hk=>(ex k hk).e) (fun k hk=>(ex k hk).a) fun k hk=>(g k hk).pri
     t:=Qu hL g
     b:=aaP hL fun k hk=>(g k hk).nz}
    ch:=SC.2 (Vl hL (fun k hk=>(ex k hk).c) (fun k hk=>(ex k hk).e) fun k hk=>(g k hk).ch)
    ini:=aaQ hL (fun k hk=>(ex k hk).a) fun k hk=>(ex k hk).b
    nz:=aaR hL (fun k hk=>(g k hk).ch) fun k hk=>(g k hk).ini
    pri:=RQ hL hB (fun k hk=>(ex k hk).e) (fun k hk=>(ex k hk).a) fun k hk=>(g k hk).aso
    aso:=Yl hL (fun k hk=>(ex k hk).t) fun k hk=>(ex k hk).a
    asr:=Vp hL g
    Pf:=fun all=>Yq hL hB (fun k hk=>(g k hk).ali) (fun k hk=>(g k hk).ato) (fun k hk=>(g k hk).rcd) fun k hk=>(g k hk).enu
    ali:=Yr hL hB g
    ato:=Vn hL g
    rcd:=Vo hL g
    enu:=aaW hL g
    enr:=LY hL g
    mem:=Vr hL g
    fie:=Yt hL g
    mf:=ajn (jd 0 ζ)
    abs:=ajo (jd 2 ζ)}
   jd:=jd
   BG:=Yx hL fun k hk=>(ex k hk).a
   par:=Vt hL fun k hk=>(ih k hk).d.prm
   prm:=YB hL fun k hk=>(ih k hk).d
   ind:=aa6 hL fun k hk=>(ih k hk).d
   dcn:=KX hL fun k hk=>(ih k hk).d}
  Pk:=N8 hL hB ih
  itm:=YC hL hB ih
  prt:=aa9 hL ih}
theorem aof(hL:l.length≤90)(hB:Bb base B)(m:Nat):wm l base B m:=by
 induction m using Nat.strongRecOn with
 |ind m ih=>exact aoe hL hB ih
theorem ahG(hL:l.length≤90)(hB:Bb base B)(m:Nat):ExQ l base B m:=Qv hL fun k _=>aof hL hB k
end
section
variable {l:List Ct} {base:Bs→Bool} {B:List Sd}
theorem BZ:∀(a b:List Tr),iI (a++b)=iI a++iI b
 |[],b=>rfl
 |t::r,b=>by rw[List.cons_append,iI,iI,BZ r b,Ψ]
mutual
theorem abe:∀t:Tr,(lY t).length=(post t).length
 | .mk k lo hi ks d=>by
   rw[lY,post,Δ,aaJ,Gb ks];rfl
theorem Gb:∀ts:List Tr,(iI ts).length=(fG ts).length
 |[]=>rfl
 |t::r=>by rw[iI,fG,Δ,Δ,abe t,Gb r]
end
theorem ahH:∀ts:List Tr,ts=[]∨∃a t,ts=a++[t]
 |[]=> .inl rfl
 |t::r=> .inr ⟨(t::r).dropLast,(t::r).getLast ν,(acI ν).symm⟩
theorem adB{a b:Nat}{L P:List Nd}(h:Bt a b L P):∀ts:List Tr,L=fG ts→P=iI ts:=by
 induction h with
 |nil h=>
  intro ts e
  cases ts with
  |nil=>rfl
  |cons t r=>
   cases t with
   |mk k lo hi ks d=>rw[fG,post]at e;simp at e
 |@snoc a m lo hi b k F F' K K' h1 h2 h3 h4 h5 i1 i3=>
  intro ts e
  rcases ahH ts with rfl|⟨u,t,rfl⟩
  ·simp[fG]at e
  ·cases t with
   |mk k' lo' hi' ks d=>
    rw[nV,nW,post,←Ψ,←Ψ]at e;obtain⟨e1,e2⟩:=afy e rfl;simp only[afM,and_true,Nd.mk.injEq]at e2;obtain⟨rfl,rfl,rfl,e3⟩:=e2;obtain⟨e4,e5⟩:=afy e1 η;have q1:=i1 u e4;have q2:=i3 ks e5;rw[BZ,q1,q2,e5];show _=iI u++(lY (.mk k lo hi ks d)++[]);rw[List.append_nil,lY,Gb]
end
section
variable {l:List Ct} {base:Bs→Bool} {B:List Sd}
end
end Go.Proofs.YtlboejdhmggjpaaGreat.Pp.Dr
namespace Go.Proofs.YtlboejdhmggjpaaGreat.Pp
set_option maxRecDepth 100000
set_option maxHeartbeats 16000000
open Go.RowKit Go.BigFrame Go.Proofs.YtlboejdhmggjpaaGreat
theorem jN.new(w:World):jN (w.alloc (.cells #[.bool false, .string ⟨#[]⟩, .int .i64 0, .slice none 0 0] 106)) w.heap.size ⟨false,[],0,[]⟩ (.slice none 0 0):=⟨dz _ _ _,⟨none,0,rfl,⟨Ω _,by simp⟩, .inl rfl⟩,Ω _⟩
variable {E : En}{s : Ps}
theorem PW.CU {w:World}(h:PW E w s)(hE:E.ok):E.X≤w.heap.size:=by obtain⟨vd,vc,vb,mb,h⟩:=h;exact h.CU hE
variable {cs : Array Value}{fb : Nat}{h : Nat×Nat}
theorem lC.qB {w:World}{b : Nat}(hb:lC w b h)(hne:¬b=fb)(hf:w.heap[fb]? =some (.cells cs 106 (0,0)))(i:Nat)(v:Value):lC (w.setCell ⟨fb,i,none⟩ v) b h:=by
 unfold lC
 rw[heap_setCell_other _ _ _ _ hne]
 exact hb
variable {f : Fm}{y : Value}
theorem jN.qB {w:World}{b : Nat}(hb:jN w b f y)(hne:¬b=fb)(hf:w.heap[fb]? =some (.cells cs 106 (0,0)))(i:Nat)(v:Value):jN (w.setCell ⟨fb,i,none⟩ v) b f y:=
 ⟨by rw[heap_setCell_other _ _ _ _ hne];exact hb.1,hb.2.1.set hf,hb.2.2⟩
variable {w' : World}
theorem lC.kpb {w : World}{b : Nat}(hb:lC w b h)(hne:¬b=fb)(hk:tT fb w w'):lC w' b h:=hk.2 _ _ _ _ hne rfl hb
theorem jN.kpb {w : World}{b : Nat}(hb:jN w b ⟨false,[],0,[]⟩ (.slice none 0 0))(hne:¬b=fb)(hk:tT fb w w'):jN w' b ⟨false,[],0,[]⟩ (.slice none 0 0):=⟨hk.2 _ _ _ _ hne rfl hb.1,⟨none,0,rfl,⟨Ω _,by simp⟩, .inl rfl⟩,Ω _⟩
theorem jN.nmd {w:World}{b:Nat}(h:jN w b f y)(t:Bool):jN (w.setCell ⟨b,0,none⟩ (.bool t)) b {f with named:=t} y:=⟨by have:=gJ (i:=0) (v:= .bool t) h.1;simpa using this,h.2.1.set h.1,h.2.2⟩
theorem jN.nme {w:World}{b:Nat}(h:jN w b f y)(x:Bs)(hx:x.length≤maxLen):jN (w.setCell ⟨b,1,none⟩ (.string (au x))) b {f with name:=x} y:=⟨by have:=gJ (i:=1) (v:= .string (au x)) h.1;simpa using this,h.2.1.set h.1,hx⟩
theorem jN.whole{w:World}{b:Nat}{f g:Fm}{y y':Value}(h:jN w b f y)(hd:uz w y' g.params)(hn:g.name.length≤maxLen):jN ((((w.setCell ⟨b,0,none⟩ (.bool g.named)).setCell ⟨b,1,none⟩ (.string (au g.name))).setCell ⟨b,2,none⟩ (.int .i64 g.ek)).setCell ⟨b,3,none⟩ y') b g y':=by
 have h1:=gJ (i:=0) (v:= .bool g.named) h.1
 have h2:=gJ (i:=1) (v:= .string (au g.name)) h1
 have h3:=gJ (i:=2) (v:= .int .i64 g.ek) h2
 have h4:=gJ (i:=3) (v:=y') h3
 exact⟨by simpa using h4,(((hd.set h.1).set h1).set h2).set h3,hn⟩
theorem PW.IJ {w:World}{b:Nat}(h:PW E w s)(hE:E.ok)(hf:jN w b f y)(hX:E.X≤b)(v0 v1 v2 v3:Value):PW E ((((w.setCell ⟨b,0,none⟩ v0).setCell ⟨b,1,none⟩ v1).setCell ⟨b,2,none⟩ v2).setCell ⟨b,3,none⟩ v3) s:=by
 have h1:=gJ (i:=0) (v:=v0) hf.1
 have h2:=gJ (i:=1) (v:=v1) h1
 have h3:=gJ (i:=2) (v:=v2) h2
 exact(((h.store hE hf.1 hX 0 v0).store hE h1 hX 1 v1).store hE h2 hX 2 v2).store hE h3 hX 3 v3
variable {a : World}
theorem KP.IJ {w : World}(h:KP a w){b:Nat}(hb:a.heap.size≤b)(v0 v1 v2 v3:Value):KP a ((((w.setCell ⟨b,0,none⟩ v0).setCell ⟨b,1,none⟩ v1).setCell ⟨b,2,none⟩ v2).setCell ⟨b,3,none⟩ v3):=
 (((h.store hb 0 v0).store hb 1 v1).store hb 2 v2).store hb 3 v3
theorem lC.TL {w:World}{b : Nat}(hb:lC w b h)(hne:¬b=fb)(hf:jN w fb f y)(v0 v1 v2 v3:Value):lC ((((w.setCell ⟨fb,0,none⟩ v0).setCell ⟨fb,1,none⟩ v1).setCell ⟨fb,2,none⟩ v2).setCell ⟨fb,3,none⟩ v3) b h:=by
 have h1:=gJ (i:=0) (v:=v0) hf.1
 have h2:=gJ (i:=1) (v:=v1) h1
 have h3:=gJ (i:=2) (v:=v2) h2
 exact(((hb.qB hne hf.1 0 v0).qB hne h1 1 v1).qB hne h2 2 v2).qB hne h3 3 v3
variable {f0 : Fm}{y0 : Value}
theorem jN.TL {w:World}{b : Nat}(hb:jN w b f0 y0)(hne:¬b=fb)(hf:jN w fb f y)(v0 v1 v2 v3:Value):jN ((((w.setCell ⟨fb,0,none⟩ v0).setCell ⟨fb,1,none⟩ v1).setCell ⟨fb,2,none⟩ v2).setCell ⟨fb,3,none⟩ v3) b f0 y0:=by
 have h1:=gJ (i:=0) (v:=v0) hf.1
 have h2:=gJ (i:=1) (v:=v1) h1
 have h3:=gJ (i:=2) (v:=v2) h2
 exact(((hb.qB hne hf.1 0 v0).qB hne h1 1 v1).qB hne h2 2 v2).qB hne h3 3 v3
variable {x : Pm Va}{β : Type}{w1 w2 : World}{r : Rs β}
theorem aka {k:Va→Pm β}{e:Ending}(hr:(x>>=k) s=r)(hn:r≠ .out)(he:ad4 E fb w1 s (x s) e w2):
 (∃v s2 y,k v s2=r∧e= .returned (.bool (decide (s.af<s2.af)))∧s.af≤s2.af∧jN w2 fb v.fA y∧PW E w2 s2∧tT fb w1 w2)∨(r= .no∧(∃n,e= .panicked (mV n))∧Below E.X E.w0 w2∧tT fb w1 w2):=by
 change Pm.bind x k s=r at hr
 unfold Pm.bind at hr
 cases hx:x s with
 |out=>rw[hx]at hr;exact absurd hr.symm hn
 |no=>rw[hx]at hr he;exact .inr ⟨hr.symm,he.1,he.2.1,he.2.2⟩
 |ok v s2=>
  rw[hx]at hr he;obtain⟨h1,h2,⟨y,h3⟩,h4,h5⟩:=he;exact .inl ⟨v,s2,y,hr,h1,h2,h3,h4,h5⟩
variable {args : Array Value}
theorem akb {f:Nat}{k:Va→Pm β}{w : World}{Q:Ending→World→Prop}(h:Calls Tryz.prog f args w1 (eZ E vaF w1 (x s)))(hr:(x>>=k) s=r)(hn:r≠ .out)(hk:KP w w1)(h1:∀(v:Va) (s2:Ps) (ya:Option Addr) (yc:Nat) (w2:World),k v s2=r→PW E w2 s2→KP w1 w2→KP w w2→uz w2 (.slice ya v.fA.params.length yc) v.fA.params→v.fA.name.length≤maxLen→Q (.returned (.agg #[.bool v.fA.named, .string (au v.fA.name), .int .i64 v.fA.ek, .slice ya v.fA.params.length yc])) w2)(h2:∀(z:Int) (w2:World),r= .no→Below E.X E.w0 w2→KP w w2→Q (.panicked (mV z)) w2):Calls Tryz.prog f args w1 Q:=h.mono fun e w2 he=>by
 rcases JL hr hn hk he with⟨v,s2,y,a1, -,rfl,⟨y2,rfl,b1,b2⟩,a3,a4,a5⟩|⟨a1,⟨z,rfl⟩,a2,a3⟩
 ·obtain⟨ya,yc,rfl, -⟩:=id b1
  exact h1 v s2 ya yc w2 a1 a3 a4 a5 b1 b2
 ·exact h2 z w2 a1 a2 a3
structure DB (E:En) (a w:World) (br bf bh:Nat) (h:Nat×Nat) (f:Fm) (y:Value):Prop where
 r:jN w br ⟨false,[],0,[]⟩ (.slice none 0 0)
 f:jN w bf f y
 h:lC w bh h
 nr:¬br=bf
 nh:¬bh=bf
 xr:E.X≤br
 xf:E.X≤bf
 wr:a.heap.size≤br
 wf:a.heap.size≤bf
section
variable {E:En} {a w w' W:World} {br bf bh:Nat} {h:Nat×Nat} {f g:Fm} {y y':Value} {s:Ps}
theorem DB.kp(d:DB E a w br bf bh h f y)(k:KP w w'):DB E a w' br bf bh h f y:=⟨d.r.kp k,d.f.kp k,d.h.kp k,d.nr,d.nh,d.xr,d.xf,d.wr,d.wf⟩
theorem DB.sf(d:DB E a w br bf bh h f y)(hf:jN w' bf g y')(k:tT bf w w'):DB E a w' br bf bh h g y':=⟨d.r.kpb d.nr k,hf,d.h.kpb d.nh k,d.nr,d.nh,d.xr,d.xf,d.wr,d.wf⟩
theorem DB.st{i:Nat}{v:Value}(d:DB E a w br bf bh h f y)(hE:E.ok)(hp:Hid (PW E w s))(hk:Hid (KP a w))(hW:w.setCell ⟨bf,i,none⟩ v=W)(hn:jN (w.setCell ⟨bf,i,none⟩ v) bf g y'):Hid (DB E a W br bf bh h g y')∧Hid (PW E W s)∧Hid (KP a W):=by
 subst hW
 exact⟨Hh ⟨d.r.qB d.nr d.f.1 i v,hn,d.h.qB d.nh d.f.1 i v,d.nr,d.nh,d.xr,d.xf,d.wr,d.wf⟩,Hh (hp.out.store hE d.f.1 d.xf i v),Hh (hk.out.store d.wf i v)⟩
theorem DB.st4(d:DB E a w br bf bh h f y)(hE:E.ok)(hp:Hid (PW E w s))(hk:Hid (KP a w))(hd:uz w y' g.params)(hn:g.name.length≤maxLen)(hW:(((w.setCell ⟨bf,0,none⟩ (.bool g.named)).setCell ⟨bf,1,none⟩ (.string (au g.name))).setCell ⟨bf,2,none⟩ (.int .i64 g.ek)).setCell ⟨bf,3,none⟩ y'=W):Hid (DB E a W br bf bh h g y')∧Hid (PW E W s)∧Hid (KP a W):=by
 subst hW
 exact⟨Hh ⟨d.r.TL d.nr d.f _ _ _ _,d.f.whole hd hn,d.h.TL d.nh d.f _ _ _ _,d.nr,d.nh,d.xr,d.xf,d.wr,d.wf⟩,Hh (hp.out.IJ hE d.f d.xf _ _ _ _),Hh (hk.out.IJ d.wf _ _ _ _)⟩
theorem DB.fw{r:Rs Va}(d:DB E a w br bf bh h f y)(hE:E.ok)(hp:PW E w s)(hk:KP a w)(hr:r= .ok (.fo f) s):eZ E vaF a r (.returned (.agg #[.bool f.named, .string (au f.name), .int .i64 f.ek,y])) ((((w.setCell ⟨br,0,none⟩ (.bool f.named)).setCell ⟨br,1,none⟩ (.string (au f.name))).setCell ⟨br,2,none⟩ (.int .i64 f.ek)).setCell ⟨br,3,none⟩ y):=
 have hw:=d.r.whole (g:=f) d.f.2.1 d.f.2.2
 Iq hr ⟨_,rfl,hw.2.1,hw.2.2⟩ (hp.IJ hE d.r d.xr _ _ _ _) (hk.IJ d.wr _ _ _ _)
end
variable {β : Type}
theorem saE (f:Ps→Bool)(k:Bool→Pm β)(s:Ps):((fun s=> .ok (f s) s:Pm Bool)>>=k) s=k (f s) s:=rfl
variable {s : Ps}{α : Type}{x : Pm α}{r : Rs β}
theorem lpD {k:α→Pm β}(h:Hid ((x>>=k) s=r)):∃q,k=q∧(x>>=q) s=r:=⟨_,rfl,h.out⟩
variable {γ δ : Type}
theorem lpC {z:Pm Bool}{P:α→Prop}{dP:∀a,Decidable (P a)}{c:Prop}{dc:Decidable c}{X Y Z V:Pm γ}{k:γ→Pm δ}{r:Rs δ}(h:Hid ((x>>=fun t=>z>>=fun a=>@ite _ (P t) (dP t) (X>>=k) (if a=true then Y>>=k else if c then Z>>=k else V>>=k)) s=r)):∃q,k=q∧(x>>=fun t=>z>>=fun a=>@ite _ (P t) (dP t) (X>>=q) (if a=true then Y>>=q else if c then Z>>=q else V>>=q)) s=r:=⟨_,rfl,h.out⟩
variable {t : Ps}
theorem asw {l:List Ct}{b:Bs→Bool}{dc:Decidable (Ip l b t=true)}{A B:Pm β}(h:(if Ip l b t=true then A else B) s=r):(Ip l b t=true∧A s=r)∨(Ip l b t=false∧B s=r):=akc h
theorem iTr {dc:Decidable True}(A B:Pm β):(if True then A else B)=A:=ω trivial
theorem asx(l:List Ct)(b:Bs→Bool)(s:Ps):(aX l s 1 [41]||jD l b s 1)=Ip l b s:=rfl
variable {E : En}
theorem su1 {w w1:World}{B:Bool}(hE:E.ok)(hs:Hid (Ip E.L E.base s=B))(hp:Hid (PW E w1 s))(hK:Hid (KP w w1)):Calls Tryz.prog 84 #[.pointer (some ⟨E.pb,0,none⟩)] w1 fun e w2=>e= .returned (.bool B)∧Hid (PW E w2 s)∧Hid (KP w w2)∧KP w1 w2:=by
 refine(ahV hE s w1 hp.out).mono ?_
 rintro e w2 ⟨rfl,h1,h2⟩
 exact⟨by rw[hs.out],Hh h1,Hh (hK.out.trans h2),h2⟩
theorem aeq {b:Bool}(h:s.af≤t.af)(hb:decide (s.af<t.af)=b):(s.af=t.af)=(b=false):=by
 subst hb
 rw[ach,Nat.not_lt]
 exact propext ⟨fun e=>by omega,fun e=>by omega⟩
theorem akd(f:Fm):(((f.ek:Int)==0)=true∧Fm.yJ true f={f with ek:=1})∨(((f.ek:Int)==0)=false∧Fm.yJ true f=f):=by
 unfold Fm.yJ
 cases h:f.ek==0
 ·exact .inr ⟨by rw[aat]at h⊢;omega,rfl⟩
 ·exact .inl ⟨by rw[aaZ]at h⊢;omega,rfl⟩
attribute [local go_sem] ML Tryz.results48
theorem D{p:Prop}(h:p:=by
 repeat' first
  |rw[saE,asx]at HR
  |simp only[om,qd]at HR
  |rw[asE]at HR
  |rw[iT]at HR
  |rw[iF]at HR
  |rw[iTr]at HR
  |rw[Zp]at HR
  |rw[ad5]at HR
  |rw[bA]at HR
  |rw[bO]at HR
  |rw[bN]at HR
  |rw[akf]at HR
  |rw[akg]at HR
  |rw[flE]at HR
  |rw[Zq]at HR
  |(with_reducible replace HR:=Hh (Xl HR.out ξ))
  |(with_reducible replace HR:=Hh (TM HR.out ξ))
  |(with_reducible replace HR:=Hh (Mm HR.out ξ))
  |(with_reducible have hz:=q_z HR.out
    rcases hz with⟨h1,h2,h3⟩|⟨h1,h2,h3⟩
    all_goals
     replace HR:=Hh h3
     clear h3)
  |(with_reducible replace HR:=Hh (QQ HR.out ζ))
  |(with_reducible replace HR:=Hh (Mm HR.out ζ))
  |(with_reducible have hz:=akh HR.out
    rcases hz with⟨h1,h3⟩|⟨h1,h3⟩
    all_goals
     have HSG:=Hh h1;replace HR:=Hh h3
     clear h1 h3)
  |(with_reducible have hz:=asw HR.out
    rcases hz with⟨h1,h3⟩|⟨h1,h3⟩
    all_goals
     have HSU:=Hh h1;replace HR:=Hh h3
     clear h1 h3)
  |(clear GO
    obtain⟨c1,x1,hi,hpb⟩:=at3 hE HP;obtain⟨f0,f1,f2,f3⟩:=kT.out.f.cells;have z0:=kT.out.f.wz 0;have z1:=kT.out.f.wz 1;have z2:=kT.out.f.wz 2;have z3:=kT.out.f.wz 3;obtain⟨d0,d1⟩:=kT.out.h.cells;have n0:=And.intro kT.out.nr kT.out.nh
    (try rw[HZN.out]at f2)
    go_wp2_with fail
    clear c1 x1 hi hpb f0 f1 f2 f3 z0 z1 z2 z3 d0 d1 n0)
  |(generalize hW:World.setCell (World.setCell (World.setCell (World.setCell _ ⟨bf,0,none⟩ _) ⟨bf,1,none⟩ _) ⟨bf,2,none⟩ _) ⟨bf,3,none⟩ _=W
    fail_if_success (clear hW W)
    obtain⟨hd,hp,hk⟩:=kT.out.st4 hE HP HK MM.out zK.out hW;replace kT:=hd;replace HP:=hp;replace HK:=hk;clear hd hp hk hW MM zK
    have GO:=trivial)
  |(generalize hW:World.setCell _ ⟨bf,0,none⟩ (.bool true)=W
    fail_if_success (clear hW W)
    obtain⟨hd,hp,hk⟩:=kT.out.st hE HP HK hW (kT.out.f.nmd true);replace kT:=hd;replace HP:=hp;replace HK:=hk
    clear hd hp hk hW)
  |(generalize hW:World.setCell _ ⟨bf,1,none⟩ _=W
    fail_if_success (clear hW W)
    obtain⟨hd,hp,hk⟩:=kT.out.st hE HP HK hW (kT.out.f.nme _ HLn.out);replace kT:=hd;replace HP:=hp;replace HK:=hk
    clear hd hp hk hW)
  |(generalize hW:World.setCell _ ⟨bf,2,none⟩ _=W
    fail_if_success (clear hW W)
    obtain⟨hd,hp,hk⟩:=kT.out.st hE HP HK hW (kT.out.f.ek 1);replace kT:=hd;replace HP:=hp;replace HK:=hk
    clear hd hp hk hW)
  |(generalize hW:World.setCell _ ⟨E.pb,1,none⟩ _=W
    fail_if_success (clear hW W)
    rw[stE]at HR;obtain⟨s,W2,hw,hr,hp,hk,hkk, -⟩:=Ou hE HR HN HP HK 1 η;rw[hW]at hw;subst hw;replace HR:=hr;replace HP:=hp;replace HK:=hk;replace kT:=Hh (kT.out.kp hkk)
    clear hr hp hk hkk hW)
  |(first
    |(go_at_call 53
      refine mR (E5 hE _ _ _ HP.out) HR HN HK (fun _ _ h=>by rw[←HB0.out];exact⟨rfl,h⟩) ?_;clear HR HP HK
      rintro v s wq HR HP hkk HK)
    |(go_at_call 82
      refine mR (Tq hE _ _ HP.out) HR HN HK (fun _ _ h=>by rw[←HB0.out];exact⟨rfl,h⟩) ?_;clear HR HP HK
      rintro v s wq HR HP hkk HK)
    |(go_at_call 47
      refine(sg1 hE HSG ζ HP HK).mono ?_;rintro e wq ⟨rfl,hp,hk,hkk⟩;have HP:=hp;have HK:=hk
      clear hp hk HSG)
    |(go_at_call 84
      refine(su1 hE HSU HP HK).mono ?_;rintro e wq ⟨rfl,hp,hk,hkk⟩;have HP:=hp;have HK:=hk
      clear hp hk HSU)
    |(go_at_call 83
      refine mRk (Xa hE _ _ HP.out) HR HN HK (fun _ _ h=>by rw[←HB0.out];exact⟨rfl,h⟩) ?_;clear HR HP HK;rintro v s wq hxe HR HP hkk HK;have HLn:=Hh (Ti hE hxe);clear hxe
      simp only[stV])
    |(go_at_call 71
      refine mPk hE HR ζ HP HK ?_;clear HR HP HK;rintro z t x wq - hxs - hq HP hkk HK;simp only[ne_eq,tb x hxs,tbb x hxs,zb z]at hq;have HR:=Hh hq
      clear hq)
    |(go_at_call 48
      refine akb ((IH.out _ η).zi _ _ _ HP.out (fP HR.out HN.out)) HR.out HN.out HK.out ?_ (fun _ _ h1 h2 h3=>by rw[←HB0.out];exact⟨rfl,xm h1 h2 h3⟩);clear HR HP HK;intro v s ya yc wq hr hp hkk hk MN hnl;have HR:=Hh hr;have HP:=Hh hp;have HK:=Hh hk;have MM:=Hh MN;have zK:=Hh hnl
      clear hr hp hk MN hnl)
    replace kT:=Hh (kT.out.kp hkk);clear hkk
    have GO:=trivial)
  |(go_at_call 85
    subst hq1
    (try simp only[om,qd]at HR)
    rw[Zq]at HR;refine(Zo hE (fun m hm=>IH.out m hm) _ false bf _ _ _ kT.out.xf kT.out.f HP.out (fP HR.out HN.out)).mono ?_;intro e wq he
    rcases aka HR.out HN.out he with⟨v,s2,y,hr,rfl,hle,hf,hp,hkb⟩|⟨hr,⟨z,rfl⟩,hb,hkb⟩
    case' inr=>rw[←HB0.out];exact⟨rfl,xm hr hb (tT.kp HK.out kT.out.wf hkb)⟩
    obtain⟨ya,yc,rfl, -⟩:=id hf.2.1;replace HK:=Hh (tT.kp HK.out kT.out.wf hkb);replace kT:=Hh (kT.out.sf hf hkb);replace HP:=Hh hp;obtain⟨an,han⟩:∃b,decide (s.af<s2.af)=b:=⟨_,rfl⟩;rw[han];rw[Zq]at hr
    (try simp only[aeq hle han]at hr)
    clear han hle hf hkb he;replace HR:=Hh hr;clear hr;obtain⟨zn,hzn⟩:∃z:Int,(v.fA.ek:Int)=z:=⟨_,rfl⟩;have hz:=akd v.fA;rw[hzn]at hz;have HZN:=Hh hzn;clear hzn;cases st
    case' true=>
     rcases hz with⟨h0,h5⟩|⟨h0,h5⟩
     all_goals
      rw[h5]at HR;clear h5
    all_goals
     cases an
     all_goals have GO:=trivial)
  |(go_at_call 34
    refine mR (Af hE _ _ _ _ HP.out (fP HR.out HN.out)) HR HN HK (fun _ _ h=>by rw[←HB0.out];exact⟨rfl,h⟩) ?_;clear HR HP HK;rintro v s wq HR HP hkk HK;replace kT:=Hh (kT.out.kp hkk);clear hkk;obtain⟨f0,f1,f2,f3⟩:=kT.out.f.cells;obtain⟨r0,r1,r2,r3⟩:=kT.out.r.cells;have z0:=kT.out.r.wz 0;have z1:=kT.out.r.wz 1;have z2:=kT.out.r.wz 2;have z3:=kT.out.r.wz 3;have HF:=Hh (kT.out.fw hE HP.out HK.out (zh HR.out))
    go_wp2_with fail
    rw[←HB0.out];refine abw ?_ rfl HF.out
    simp[results,Tryz.results48,go_sem,r0,r1,r2,r3])
  |(go_at_call 80
    refine(qh (α:=Va) hE (fun _=> .tuple #[]) _ _ HP.out).mono ?_;rintro e wf ⟨⟨z,rfl⟩,hbf,lJ⟩;rw[←HB0.out]
    exact⟨rfl,xm (abx HR.out) hbf (HK.out.trans lJ)⟩)
  |(go_roundg g
    (case measure=>omega)
    (case rel=>exact⟨_,_,rfl,by omega,HR.out,HP.out,HK.out,kT.out⟩))
  |fail):p:=h
variable {n : Nat}
theorem TN (hE:E.ok)(ih:∀m,m≤n→Wk E m)(k:Nat):Wf E n 48 #[.pointer (some ⟨E.pb,0,none⟩), .int .i64 k] vaF (.bP k):=Wf.mk fun s w r HR HN HP HK=>by
 have IH:=Hh ih
 clear ih
 go_enter Tryz.func48,Tryz.ntmps48
 rw[run]at HR
 obtain⟨K0,pW⟩:∃K0,bodyPost Tryz.prog Tryz.f48 (eZ E vaF w r)=K0:=⟨_,rfl⟩
 rw[pW]
 have HB0:=Hh pW
 clear pW
 go_wp2_with fail
 obtain⟨br,hbr⟩:∃b,w.heap.size=b:=⟨_,rfl⟩
 try rw[hbr]
 have HBr:=Hh (hbr▸jN.new w)
 have HXr:=Hh (show E.X≤br from hbr▸HP.out.CU hE)
 have hb:=ag w (.cells #[.bool false, .string ⟨#[]⟩, .int .i64 0, .slice none 0 0] 106)
 replace HP:=Hh (HP.out.ext hE hb)
 replace HK:=Hh (HK.out.trans (KP.aT hb))
 clear hb
 refine mR (Ci hE _ _ HP.out) HR HN HK (fun _ _ h=>by rw[←HB0.out];exact⟨rfl,h⟩) ?_
 clear HP HK HR
 rintro h s w1 HR HP hkk HK
 replace HBr:=Hh (HBr.out.kp hkk)
 clear hkk
 have HB1:=Hh (lC.new w1 h)
 have hb1:=ag w1 (.cells #[.int .i64 h.1, .int .i64 h.2] 77)
 have hb2:=ag (w1.alloc (.cells #[.int .i64 h.1, .int .i64 h.2] 77)) (.cells #[.bool false, .string ⟨#[]⟩, .int .i64 0, .slice none 0 0] 106)
 have hf:=jN.new (w1.alloc (.cells #[.int .i64 h.1, .int .i64 h.2] 77))
 simp only[tL]
 obtain⟨bh,zk⟩:∃b,w1.heap.size=b:=⟨_,rfl⟩
 rw[zk]at HB1
 obtain⟨bf,hbf⟩:∃b,bh+1=b:=⟨_,rfl⟩
 rw[show(w1.alloc (.cells #[.int .i64 h.1, .int .i64 h.2] 77)).heap.size=bf from by rw[←hbf,←zk];simp]at hf
 have hle:=HK.out.1
 have hxw:=HP.out.CU hE
 have hlt:=(ψ.1 HBr.out.1).1
 have kT:=Hh (⟨(HBr.out.kp (KP.aT hb1)).kp (KP.aT hb2),hf,HB1.out.kp (KP.aT hb2),by omega,by omega,HXr.out,by omega,acf hbr,by omega⟩:DB E w _ br bf bh h _ _)
 replace HP:=Hh ((HP.out.ext hE hb1).ext hE hb2)
 replace HK:=Hh ((HK.out.trans (KP.aT hb1)).trans (KP.aT hb2))
 have Kg:=Hh zk
 have Kh:=Hh hbf
 clear hb1 hb2 hf hle hxw hlt HBr HB1 HXr zk hbf hbr
 go_wp2_with fail
 try rw[Kg.out]
 try rw[Kh.out]
 clear Kg Kh
 obtain⟨W,hW⟩:∃W,W=(w1.alloc (.cells #[.int .i64 h.1, .int .i64 h.2] 77)).alloc (.cells #[.bool false, .string ⟨#[]⟩, .int .i64 0, .slice none 0 0] 106):=⟨_,rfl⟩
 rw[←hW]at HP HK kT⊢
 clear hW
 obtain⟨q0,hq0,hX⟩:=lpD HR
 have HX:=Hh hX
 clear hX HR
 go_loopg [7] n (fun gf q7 wr=>∃(s':Ps) (st:Bool),q7= .bool st∧gf≤n∧(run E.L E.base gf (.lg st)>>=q0) s'=r∧PW E wr s'∧KP w wr∧DB E w wr br bf bh h ⟨false,[],0,[]⟩ (.slice none 0 0))
 case atStart=>exact⟨_,_,rfl,υ _,HX.out,HP.out,HK.out,kT.out⟩
 obtain⟨s,st,rfl,hgn,hr,hp,hk,hb⟩:=hrel
 rcases gk with _|g
 ·exact absurd (q_0 hr) HN.out
 rw[run]at hr
 have HR:=Hh hr
 have HP:=Hh hp
 have HK:=Hh hk
 have kT:=Hh hb
 clear hr hp hk hb HX
 rw[asE]at HR
 go_wp2_with fail
 refine mR (Ch hE _ _ _ HP.out) HR HN HK (fun _ _ h=>by rw[←HB0.out];exact⟨rfl,h⟩) ?_
 clear HP HK HR
 rintro v s wq HR HP hkk HK
 replace kT:=Hh (kT.out.kp hkk)
 clear hkk
 rw[ad5]at HR
 cases v
 case' true=>replace HR:=Hh (Xl HR.out rfl)
 case' false=>
  replace HR:=Hh (TM HR.out rfl);rw[Zp]at HR;subst hq0;dsimp only at HR;obtain⟨q1,hq1,hX⟩:=lpC HR;replace HR:=Hh hX;clear hX;by_cases hk0:k=0
  case' pos=>
   subst hk0
  case' neg=>
   by_cases hk2:k=2
   case' pos=>
    subst hk2;replace HR:=Hh (uT (x:=rD E.L 0) HR.out rfl)
   case' neg=>
    have kn2:((k:Int)!=2)=true:=by rw[acm];omega
    have ke0:((k:Int)==0)=false:=by rw[aat];omega
    have kb0:(k==0)=false:=by rw[aat];omega
 all_goals have GO:=trivial
 all_goals exact D
theorem akm {f:α→Pm β}(h:(x>>=f) s=r):∃K,(x>>=K) s=r∧∀(a:α) (s':Ps),K a s'=f a s':=⟨f,h,fun _ _=>rfl⟩
theorem Zr:∀(p:List (Bs×Bool)) (i:Nat) (hi:i<p.length) (j:Nat),j<2→(p.flatMap DW)[i*2+j]? =(DW p[i])[j]?
 |[],i,hi,_,_=>absurd hi (Nat.not_lt_zero i)
 |q::r,0,_,j,hj=>by
  rw[acy,Nat.zero_mul,acK];exact afS (show j<2 from hj)
 |q::r,i+1,hi,j,hj=>by
  rw[acy,acF (show(DW q).length≤(i+1)*2+j from(by show 2≤_;omega))];rw[show(i+1)*2+j - (DW q).length=i*2+j from(by show(i+1)*2+j - 2=_;omega)];exact Zr r i (by simpa using hi) j hj
theorem uz.at{w:World}{ya:Option Addr}{yc:Nat}{p:List (Bs×Bool)}(h:uz w (.slice ya p.length yc) p){i:Nat}(hi:i<p.length):∃b,ya=some ⟨b,0,none⟩∧w.cell? ⟨b,i*2,none⟩=some (.string (au p[i].1))∧w.cell? ⟨b,i*2+1,none⟩=some (.bool p[i].2)∧b<w.heap.size:=by
 obtain⟨a,c,h1,h0,h2⟩:=h
 cases h1
 rcases h2 with h2|⟨b,cur,h3,h4,h5⟩
 ·rw[h2]at hi;cases hi
 ·refine⟨b,h3,?_,?_,(ψ.1 h4).1⟩
  ·have e:=Zr p i hi 0 η
   rw[←h5,List.getElem?_take_of_lt η]at e;simp only[World.cell?,h4,Nat.add_zero]at e⊢;simpa[DW]using e
  ·have e:=Zr p i hi 1 η
   rw[←h5,List.getElem?_take_of_lt η]at e;simp only[World.cell?,h4]at e⊢;simpa[DW]using e
theorem akn (hE:E.ok)(ih:∀m,m≤n→Wk E m)(p:List (Bs×Bool))(y:Value)(s:Ps)(w:World)(hd:uz w y p)(hp:PW E w s)(hne:run E.L E.base (n+1) (.body p) s≠ .out):Calls Tryz.prog 50 #[.pointer (some ⟨E.pb,0,none⟩),y] w (eZ E gq w (run E.L E.base (n+1) (.body p) s)):=by
 obtain⟨r,hr⟩:∃r,run E.L E.base (n+1) (.body p) s=r:=⟨_,rfl⟩
 rw[hr]at hne⊢
 rw[run]at hr
 obtain⟨ya,yc,rfl,hb, -⟩:=id hd
 have hpl:=hb.1
 have HD0:=Hh hd
 have HN:=Hh hne
 have Bc:=Hh hr
 have G5:=Hh hp
 have IH:=Hh ih
 clear hne hr hp ih hd hb
 obtain⟨m,hm⟩:∃m,p.length=m:=⟨_,rfl⟩
 rw[hm]at hpl⊢
 go_enter Tryz.func50,Tryz.ntmps50
 go_wp2_with fail
 refine(Ol hE _ _ G5.out (fP Bc.out HN.out)).mono ?_
 intro e w1 he
 rcases CQ (x:=jU E.L) Bc.out HN.out (KP.refl w) he with⟨v1,s1,hr1, -,rfl,hp1,hkk,hk1⟩|⟨hr1,⟨z,rfl⟩,hb1,hk1⟩
 case' inr=>exact⟨rfl,xm hr1 hb1 hk1⟩
 obtain⟨K,hqK,hKe⟩:=akm hr1
 have HR1:=Hh hqK
 have HKe:=Hh hKe
 have qI:=Hh hp1
 have mF:=Hh hk1
 have HD1:=Hh (HD0.out.kp hkk)
 clear he hr1 hp1 hkk hk1 hqK hKe
 go_wp2_with fail
 go_loopg [5,12] m (fun gf q5 q12 wr=>∃(s':Ps) (i:Nat),q12= .int .i64 i∧i+gf=m∧(iE E.L (p.drop i)>>=K) s'=r∧PW E wr s'∧KP w wr∧uz wr (.slice ya p.length yc) p)
 case atStart=>exact⟨s1,0,rfl,by omega,HR1.out,qI.out,mF.out,HD1.out⟩
 case round=>
  obtain⟨s2,i,rfl,hig,hr2,hp2,hk2,hd2⟩:=hrel
  cases gk with
  |zero=>
   have hi:decide (i<m)=false:=aa5 η
   have hq:K () s2=r:=by
    rw[abY η]at hr2;exact hr2
   rw[HKe.out]at hq;have HR2:=Hh hq;have nJ:=Hh hp2;have eQ:=Hh hk2;clear hr2 hp2 hk2 hd2 hq HKe HR1 Bc
   go_wp2_with fail
   refine mQ ((IH.out n (υ _)).JN _ _ nJ.out (fP HR2.out HN.out)) HR2 HN eQ (fun _ _ h=>⟨rfl,h⟩) ?_;rintro v3 s3 y3 w3 HR3 rfl sW - ji
   go_wp2_with fail
   refine mR (Le hE _ _ sW.out (fP HR3.out HN.out)) HR3 HN ji (fun _ _ h=>⟨rfl,h⟩) ?_;rintro v4 s4 w4 HR4 pR - qo
   go_wp2_with fail
   exact⟨rfl, .tuple #[],by simp[results,Tryz.results50,go_sem],Iq (zh HR4.out) rfl pR.out qo.out⟩
  |succ g=>
   have hi0:i<p.length:=by omega
   have hi:i<m:=by omega
   obtain⟨b,rfl,d0,d1,hbl⟩:=hd2.at hi0;obtain⟨q,hq⟩:∃q,p[i]=q:=⟨_,rfl⟩;rw[hq]at d0 d1
   have Xf:q.1.length≤maxLen:=by obtain⟨_,_,_,h0,_⟩:=hd2;rw[←hq];exact h0.2 _ (ab2 hi0)
   rw[abv hi0,hq]at hr2;have hr2:((bS E.L q.1 q.2>>=fun _=>iE E.L (p.drop (i+1)))>>=K) s2=r:=hr2;have hr2:=gL hr2;obtain⟨st,hst⟩:∃st:ByteArray,au q.1=st:=⟨_,rfl⟩;rw[hst]at d0;have HST:=Hh hst;have HQX:=Hh Xf;have HR2:=Hh hr2;have nJ:=Hh hp2;have eQ:=Hh hk2;have HD2:=Hh hd2;clear hr2 hp2 hk2 hd2 hst Xf hq HKe HR1 Bc hi0
   go_wp2_with fail
   obtain⟨bq,hbq⟩:∃b,wr.heap.size=b:=⟨_,rfl⟩;obtain⟨W4,jB⟩:∃W4,W4=wr.alloc (.cells #[.string st, .bool q.2] 95):=⟨_,rfl⟩
   have hb4:Below wr.heap.size wr W4:=by rw[jB];exact ag _ _
   have hr4:W4.heap[wr.heap.size]? =some (.cells #[.string st, .bool q.2] 95 (0,0)):=by rw[jB];exact dz _ _ _
   rw[←jB];clear jB;rw[hbq]at hr4
   try rw[hbq]
   have pR:=Hh (nJ.out.ext hE hb4);have qo:=Hh (eQ.out.trans (KP.aT hb4));have HD4:=Hh (HD2.out.kp (KP.aT hb4))
   have g0:∀u:df W4,u.w.cell? ⟨bq,0,none⟩=some (.string st):=fun u=>u.cell (by simp[World.cell?,hr4])
   have g1:∀u:df W4,u.w.cell? ⟨bq,1,none⟩=some (.bool q.2):=fun u=>u.cell (by simp[World.cell?,hr4])
   clear hb4 hr4 d0 d1 hbl;refine jq (C:=fun w'=>∃u:df W4,w'=u.w) 4 (by kernel_rfl) (by kernel_rfl) (df.drew W4) ?_;simp only[List.take_succ_cons,List.take_zero,List.drop_succ_cons,List.drop_zero]
   repeat(go_big_quiet_step (fail))
   refine abO ?_;rintro w' ⟨u,rfl⟩;obtain⟨w5,hw⟩:∃w',w'=u.w:=⟨_,rfl⟩;have hbe:=u.below;rw[←hw]at hbe⊢;have E9:=Hh (pR.out.ext hE hbe);have IA:=Hh (qo.out.trans (KP.aT hbe));have HD5:=Hh (HD4.out.kp (KP.aT hbe));clear hw hbe g0 g1;clear u
   go_wp2_with fail
   rw[←HST.out];refine mR (Gq hE q.1 q.2 _ _ HQX.out E9.out (fP HR2.out HN.out)) HR2 HN IA (fun _ _ h=>⟨rfl,h⟩) ?_;rintro v6 s6 w6 zo Fa hkk Ba;have HD6:=Hh (HD5.out.kp hkk);clear hkk
   go_wp2_with fail
   go_roundg g
   case measure=>omega
   case rel=>exact⟨s6,i+1,by go_num,by omega,zo.out,Fa.out,Ba.out,HD6.out⟩
end Go.Proofs.YtlboejdhmggjpaaGreat.Pp
namespace Go.Proofs.YtlboejdhmggjpaaGreat.Pp
set_option maxRecDepth 100000
set_option maxHeartbeats 16000000
open Go.RowKit Go.BigFrame Go.Shelf Go.Proofs.YtlboejdhmggjpaaGreat
attribute [local go_sem] Oper.semAt_some
def qO(w w':World):Prop:=w.heap.size≤w'.heap.size∧∀(k:Nat) (cs:Array Value) (fz:Nat×Nat),w.heap[k]? =some (.cells cs 132 fz)→w'.heap[k]? =some (.cells cs 132 fz)
theorem qO.refl(w:World):qO w w:=⟨υ _,fun _ _ _ h=>h⟩
theorem qO.trans{a b c:World}(h:qO a b)(k:qO b c):qO a c:=⟨aaT h.1 k.1,fun i cs fz hi=>k.2 i cs fz (h.2 i cs fz hi)⟩
theorem qO.aT{w w':World}(h:Below w.heap.size w w'):qO w w':=⟨h.size,fun k cs fz hk=>aF h hk (ψ.1 hk).1⟩
theorem qO.putObj{w:World}{l:Nat}{o o':Obj}(ho:w.heap[l]? =some o)(hc:o.isCells=false):qO w (w.putObj l o'):=⟨by simp,fun k cs fz hk=>by
 rw[ab5 (fun e=>by
  subst e;rw[ho]at hk;cases hk
  cases hc)]
 exact hk⟩
theorem TP(E:En)(w:World):Calls Tryz.prog 40 #[.pointer (some ⟨E.pb,3,none⟩)] w fun e w'=>e= .returned (.func (.func 66) #[] #[.pointer (some ⟨w.heap.size,0,none⟩)])∧w'=w.alloc (.cells #[.pointer (some ⟨E.pb,3,none⟩)] 129):=by
 go_enter Tryz.func40,Tryz.ntmps40
 go_wp2
 go_ret
 exact⟨rfl,rfl⟩
theorem TR(b:Bool):(mE (some b)==1)=b:=by cases b<;>rfl
theorem Dc.seq(n B:Nat){E:En}(hE:E.ok)(s:Ps)(w:World)(hp:PW E w s)(h0:w.heap[B]? =some (.cells #[.pointer (some ⟨E.pb,3,none⟩)] 129 (0,0)))(hk:s.nm.bl.getLast?.getD 0≤s.nm.ch.length):
 adC Fence.wide n Tryz.prog 66 #[.pointer (some ⟨B,0,none⟩)] (fun p:Bs×Bool=>#[.agg #[.string (au p.1), .bool p.2]]) qO (fun pre x=>∃r,s.nm.bZ=pre++x::r) (fun _=>False)
  (fun zs=>zs=s.nm.bZ) (fun _=>True) w:=fun l J Jx W hW hJ hJx hY hj0=>by
 have Fb:=hp.ext hE hW
 obtain⟨vd,vc,vb,mb,h⟩:=Fb
 have g0:=aF hW h0 (ψ.1 h0).1
 have cB:W.cell? ⟨B,0,none⟩=some (.pointer (some ⟨E.pb,3,none⟩)):=by simp[World.cell?,g0]
 obtain⟨-, -, -, -, -,c5,c6⟩:=h.cell
 have hrc:=h.ch
 have hrb:=h.bl
 have hcb:=h.cb
 have hbb:=h.bb
 have hLn:=hE.len
 obtain⟨ca,cc,rfl⟩:=fF hrc
 obtain⟨ba,bc,rfl⟩:=fF hrb
 have hdl:s.nm.bZ=s.nm.ch.drop (s.nm.bl.getLast?.getD 0):=rfl
 obtain⟨N,hN⟩:∃N,s.nm.ch.length=N:=⟨_,rfl⟩
 obtain⟨M,hM⟩:∃M,s.nm.bl.length=M:=⟨_,rfl⟩
 obtain⟨K,hK⟩:∃K,s.nm.bl.getLast?.getD 0=K:=⟨_,rfl⟩
 rw[hK]at hk hdl
 rw[hN]at hk hrc c5 hcb
 rw[hM]at c6 hrb hbb
 have hNK:s.nm.bZ.length=N - K:=by rw[hdl,agj,hN]
 obtain⟨a',hif⟩:∃a',(if cc=K then ca else ca.map (fun q=>q.add (K*3)))=a':=⟨_,rfl⟩
 have hcap:N≤cc:=by
  rcases afC N with e|e
  ·omega
  ·obtain⟨_,_,he,_,_,hx⟩:=pV hrc e
   cases he;exact hx
 have akp:∀i,i<N - K→∃gc,ca=some ⟨gc,0,none⟩∧a'=some ⟨gc,K*3,none⟩:=fun i hi=>by
  obtain⟨gc,c',he,_,_,hx⟩:=pV hrc η;cases he;refine⟨gc,rfl,?_⟩;rw[←hif,χ η]
  simp[Addr.add]<;>omega
 have hN0:N≤1000000:=by omega
 have hM0:M≤1000000:=by omega
 have HJ:=Hh hJ
 have HY:=Hh hY
 have PO:=Hh hj0
 have Xm:=Hh hrc
 have akq:=Hh akp
 have HDL:=Hh hdl
 have MO:=Hh hNK
 have HN:=Hh hN
 have HGW:=Hh (υ W.heap.size)
 clear h0 hJ hJx g0 hY hj0 hp h hcb hbb hLn akp hdl hNK hrc
 rcases afC M with hM1|hM1
 ·subst hM1
  have pW:K=0:=by rw[←hK,List.length_eq_zero_iff.1 hM];rfl
  subst pW;clear hK hM hrb hN;refine callsIn_of_wp Tryz.func66 rfl trivial ?_ rfl;simp only[Tryz.ntmps66,afX,aaJ,List.length_nil,Nat.reduceAdd,Nat.reduceSub,afV,afW,agc,af0,List.nil_append,List.cons_append]
  gi_wp2_with (fail)
  gi_loopw [5,31] (fun s5 TT wr=>∃i:Nat,i≤N - 0∧TT= .int .i64 i∧qO W wr∧J (s.nm.bZ.take i) wr) (fun s5 TT _=>(N - 0) - (intOf TT).toNat)
  case atStart=>exact⟨0,Ω _,rfl,qO.refl W,by rw[List.take_zero];exact PO.out⟩
  case round=>
   obtain⟨i,hi,rfl,hkr,hjr⟩:=hrel;by_cases hlt:i<N - 0
   ·have hlt2:decide (i<N - 0)=true:=aa4 hlt
    obtain⟨gc,G6,ha⟩:=akq.out i hlt
    have hjn:0+i<s.nm.ch.length:=by rw[HN.out];omega
    obtain⟨q,hq⟩:∃q,s.nm.ch[0+i]'hjn=q:=⟨_,rfl⟩;have hrow:wr.ownsRow E.X 132 3 (.slice ca N cc) N (yn s.nm.ch.reverse):=fq Xm.out (fun g cur hg=>hkr.2 g cur (0,0) hg);rw[G6]at hrow;have hat:=Tx s.nm.ch (0+i) hjn;rw[hq]at hat
    have a0:wr.cell? ⟨gc,i*3,none⟩=some (.string (au q.1)):=by rw[show i*3=(0+i)*3 from by omega,hrow.cellAt _ η];exact hat 0 _ rfl
    have a1:wr.cell? ⟨gc,i*3+1,none⟩=some (.int .i64 (mE (jY (s.nm.ch.take (0+i)) q.1))):=by rw[show i*3=(0+i)*3 from by omega,hrow.cellAt _ η];exact hat 1 _ rfl
    have a2:wr.cell? ⟨gc,i*3+2,none⟩=some (.int .i64 (mE (some q.2))):=by rw[show i*3=(0+i)*3 from by omega,hrow.cellAt _ η];exact hat 2 _ rfl
    obtain⟨z1,hz1⟩:∃z1,mE (jY (s.nm.ch.take (0+i)) q.1)=z1:=⟨_,rfl⟩;obtain⟨z2,hz2⟩:∃z2,mE (some q.2)=z2:=⟨_,rfl⟩;obtain⟨st,hst⟩:∃st:ByteArray,au q.1=st:=⟨_,rfl⟩;obtain⟨bq,hbq⟩:∃b,q.2=b:=⟨_,rfl⟩
    have hzq:(z2==1)=bq:=by rw[←hz2,←hbq];exact TR _
    rw[hz1]at a1;rw[hz2]at a2;rw[hst]at a0
    have hpre:s.nm.bZ=s.nm.bZ.take i++q::s.nm.bZ.drop (i+1):=by
     have hdi:i<s.nm.bZ.length:=by rw[MO.out];exact hlt
     have TU:s.nm.bZ[i]=q:=by simp only[HDL.out];rw[List.getElem_drop];exact hq
     rw[←TU,←abv hdi,acB]
    have htk:s.nm.bZ.take (i+1)=s.nm.bZ.take i++[q]:=by
     have hdi:i<s.nm.bZ.length:=by rw[MO.out];exact hlt
     have TU:s.nm.bZ[i]=q:=by simp only[HDL.out];rw[List.getElem_drop];exact hq
     rw[List.take_add_one,abE hdi,TU];rfl
    have hjw:=HJ.out (s.nm.bZ.take i) wr (wr.alloc (.cells #[.string st, .int .i64 z1, .int .i64 z2] 132)) hjr (iV.aT (ag wr _));obtain⟨fn1,tm1,as1,bo1,Ev,zu⟩:=HY.out (s.nm.bZ.take i) q _ hjw ⟨_,hpre⟩;simp only[hst,hbq]at Ev zu;have Ka:=Hh htk;have zL:=Hh hkr;clear hkr hjr hrow hat hq hpre htk hjw hz1 hz2 hst hbq hjn ha;subst G6
    gi_wp2_with (fail)
    refine⟨(fun hh=>by cases hh),zu.mono ?_⟩;rintro e W1 (⟨rfl,PQ,hk1⟩|⟨rfl,hx1⟩)
    ·have TV:=Hh PQ
     have mF:=Hh ((zL.out.trans (qO.aT (ag wr _))).trans hk1);clear PQ hk1 Ev zu
     gi_wp2_with (fail)
     go_roundw
     case rel=>exact⟨i+1,by omega,by go_num,mF.out,by rw[Ka.out];exact TV.out⟩
     case measure=>simp[intOf];omega
    ·have yu:=Hh hx1
     clear hx1 Ev zu
     gi_wp2_with (fail)
     refine abw (results_none rfl _ _ _) rfl ?_;exact⟨⟨_,rfl⟩, .inr ⟨_,trivial,yu.out⟩⟩
   ·have hlt2:decide (i<N - 0)=false:=aa5 hlt
    have TW:J s.nm.bZ wr:=by rw[ab1 (by rw[MO.out];omega)]at hjr;exact hjr
    have HJR:=Hh TW;clear hjr TW hkr
    gi_wp2_with (fail)
    go_end0
    exact⟨⟨_,rfl⟩, .inl ⟨_,rfl,HJR.out⟩⟩
 ·obtain⟨m,rfl⟩:∃m,M=m+1:=⟨M - 1,by omega⟩
  obtain⟨gb,_,hbe,_,_,hx⟩:=pV hrb η;cases hbe
  have hbv:W.cell? ⟨gb,m,none⟩=some (.int .i64 K):=by
   have e:=hrb.cellAt m η
   try rw[afF]at e
   rw[e]
   have hne:s.nm.bl≠[]:=by intro q;rw[q]at hM;cases hM
   have e2:s.nm.bl.flatMap AY=(s.nm.bl.dropLast).flatMap AY++[.int .i64 K]:=by
    conv=>lhs;rw[←acI hne]
    rw[List.flatMap_append];rw[afY hne,Option.getD_some]at hK;rw[hK];rfl
   rw[e2,acF (by rw[vG 1 AY (fun _=>rfl)];simp[hM]),vG 1 AY (fun _=>rfl)];simp[hM]
  have hx2:m+1≤bc:=hx;clear hK hM hrb hN hx hM1
  have d1:((m:Int)+1 - 1)=m:=by omega
  have BV:=Hh hbv;refine callsIn_of_wp Tryz.func66 rfl trivial ?_ rfl;simp only[Tryz.ntmps66,afX,aaJ,List.length_nil,Nat.reduceAdd,Nat.reduceSub,afV,afW,agc,af0,List.nil_append,List.cons_append]
  gi_wp2_with (fail)
  have u1:∀u:df W,u.w.cell? ⟨B,0,none⟩=some (.pointer (some ⟨E.pb,3,none⟩)):=fun u=>u.cell cB
  have u6:∀u:df W,u.w.cell? ⟨E.pb,6,none⟩=some (.slice (some ⟨gb,0,none⟩) (m+1) bc):=fun u=>u.cell c6
  have ub:∀u:df W,u.w.cell? ⟨gb,m,none⟩=some (.int .i64 K):=fun u=>u.cell hbv
  refine wpIn_wide.2 ?_;refine wp_region_quiet (C:=fun w'=>∃u:df W,w'=u.w) (by kernel_rfl) (by kernel_rfl) (df.drew W) ?_;dsimp only[]
  repeat(go_big_quiet_step (fail))
  refine abO ?_;rintro w' ⟨u,rfl⟩;have v1:=u.cell cB;have v5:=u.cell c5;have hj1:=HJ.out [] W u.w PO.out (iV.aT u.below);have hkb:=qO.aT u.below;have TV:=Hh hj1;have HKB:=Hh hkb;clear hj1 hkb u1 u6 ub cB c5 c6 hbv d1
  gi_wp2_with (fail)
  gi_loopw [5,31] (fun s5 TT wr=>∃i:Nat,i≤N - K∧TT= .int .i64 i∧qO W wr∧J (s.nm.bZ.take i) wr) (fun s5 TT _=>(N - K) - (intOf TT).toNat)
  case atStart=>exact⟨0,Ω _,rfl,HKB.out,by rw[List.take_zero];exact TV.out⟩
  case round=>
   obtain⟨i,hi,rfl,hkr,hjr⟩:=hrel;by_cases hlt:i<N - K
   ·have hlt2:decide (i<N - K)=true:=aa4 hlt
    obtain⟨gc,G6,ha⟩:=akq.out i hlt
    have hjn:K+i<s.nm.ch.length:=by rw[HN.out];omega
    obtain⟨q,hq⟩:∃q,s.nm.ch[K+i]'hjn=q:=⟨_,rfl⟩;have hrow:wr.ownsRow E.X 132 3 (.slice ca N cc) N (yn s.nm.ch.reverse):=fq Xm.out (fun g cur hg=>hkr.2 g cur (0,0) hg);rw[G6]at hrow;have hat:=Tx s.nm.ch (K+i) hjn;rw[hq]at hat
    have a0:wr.cell? ⟨gc,K*3+i*3,none⟩=some (.string (au q.1)):=by rw[show K*3+i*3=(K+i)*3 from by omega,hrow.cellAt _ η];exact hat 0 _ rfl
    have a1:wr.cell? ⟨gc,K*3+i*3+1,none⟩=some (.int .i64 (mE (jY (s.nm.ch.take (K+i)) q.1))):=by rw[show K*3+i*3=(K+i)*3 from by omega,hrow.cellAt _ η];exact hat 1 _ rfl
    have a2:wr.cell? ⟨gc,K*3+i*3+2,none⟩=some (.int .i64 (mE (some q.2))):=by rw[show K*3+i*3=(K+i)*3 from by omega,hrow.cellAt _ η];exact hat 2 _ rfl
    obtain⟨z1,hz1⟩:∃z1,mE (jY (s.nm.ch.take (K+i)) q.1)=z1:=⟨_,rfl⟩;obtain⟨z2,hz2⟩:∃z2,mE (some q.2)=z2:=⟨_,rfl⟩;obtain⟨st,hst⟩:∃st:ByteArray,au q.1=st:=⟨_,rfl⟩;obtain⟨bq,hbq⟩:∃b,q.2=b:=⟨_,rfl⟩
    have hzq:(z2==1)=bq:=by rw[←hz2,←hbq];exact TR _
    rw[hz1]at a1;rw[hz2]at a2;rw[hst]at a0
    have hpre:s.nm.bZ=s.nm.bZ.take i++q::s.nm.bZ.drop (i+1):=by
     have hdi:i<s.nm.bZ.length:=by rw[MO.out];exact hlt
     have TU:s.nm.bZ[i]=q:=by simp only[HDL.out];rw[List.getElem_drop];exact hq
     rw[←TU,←abv hdi,acB]
    have htk:s.nm.bZ.take (i+1)=s.nm.bZ.take i++[q]:=by
     have hdi:i<s.nm.bZ.length:=by rw[MO.out];exact hlt
     have TU:s.nm.bZ[i]=q:=by simp only[HDL.out];rw[List.getElem_drop];exact hq
     rw[List.take_add_one,abE hdi,TU];rfl
    have hjw:=HJ.out (s.nm.bZ.take i) wr (wr.alloc (.cells #[.string st, .int .i64 z1, .int .i64 z2] 132)) hjr (iV.aT (ag wr _));obtain⟨fn1,tm1,as1,bo1,Ev,zu⟩:=HY.out (s.nm.bZ.take i) q _ hjw ⟨_,hpre⟩;simp only[hst,hbq]at Ev zu;have Ka:=Hh htk;have zL:=Hh hkr;clear hkr hjr hrow hat hq hpre htk hjw hz1 hz2 hst hbq hjn G6;subst ha
    gi_wp2_with (fail)
    refine⟨(fun hh=>by cases hh),zu.mono ?_⟩;rintro e W1 (⟨rfl,PQ,hk1⟩|⟨rfl,hx1⟩)
    ·have TV:=Hh PQ
     have mF:=Hh ((zL.out.trans (qO.aT (ag wr _))).trans hk1);clear PQ hk1 Ev zu
     gi_wp2_with (fail)
     go_roundw
     case rel=>exact⟨i+1,by omega,by go_num,mF.out,by rw[Ka.out];exact TV.out⟩
     case measure=>simp[intOf];omega
    ·have yu:=Hh hx1
     clear hx1 Ev zu
     gi_wp2_with (fail)
     refine abw (results_none rfl _ _ _) rfl ?_;exact⟨⟨_,rfl⟩, .inr ⟨_,trivial,yu.out⟩⟩
   ·have hlt2:decide (i<N - K)=false:=aa5 hlt
    have TW:J s.nm.bZ wr:=by rw[ab1 (by rw[MO.out];omega)]at hjr;exact hjr
    have HJR:=Hh TW;clear hjr TW hkr
    gi_wp2_with (fail)
    go_end0
    exact⟨⟨_,rfl⟩, .inl ⟨_,rfl,HJR.out⟩⟩
def KT(T:TypeId→Bool)(w w':World):Prop:=w.heap.size≤w'.heap.size∧∀(k:Nat) (cs:Array Value) (t:TypeId) (fz:Nat×Nat),T t=true→w.heap[k]? =some (.cells cs t fz)→w'.heap[k]? =some (.cells cs t fz)
theorem uP{w w':World}{base e size:Nat}{v:Value}{n:Nat}{xs:List Value}{S:Nat→Prop}(h:w.ownsRow base e size v n xs)(hm:iV S w w')(hs:∀k,v.ownBlock=some k→¬S k):w'.ownsRow base e size v n xs:=by
 refine⟨h.1,?_⟩
 rcases h.2 with hn|⟨g,cap,cur,rfl,hb,hg,rest⟩
 ·exact .inl hn
 ·exact .inr ⟨g,cap,cur,rfl,hb,hm.lL hg (hs g rfl),rest⟩
theorem akC{w:World}{k:Nat}{c:Array Value}{t:TypeId}{fz:Nat×Nat}(h:w.heap[k]? =some (.cells c t fz)):¬nc w k:=by
 rintro⟨o,ho,hc⟩
 rw[h]at ho
 simp only[aga]at ho
 subst ho
 cases hc
theorem akD{w w':World}{X e size n:Nat}{v:Value}{xs:List Value}{S:Nat→Prop}(h:w.ownsRow X e size v n xs)(hm:iV (fun k=>S k∧nc w k) w w'):w'.ownsRow X e size v n xs:=
 uP h hm (fun k hk hs=>by obtain⟨_,cur,hc⟩:=jl h hk;exact akC hc hs.2)
theorem aec{w:World}{X Y e size n:Nat}{v:Value}{xs:List Value}(h:w.ownsRow X e size v n xs)(hY:Y≤X):w.ownsRow Y e size v n xs:=by
 refine⟨h.1,?_⟩
 rcases h.2 with hn|⟨g,cap,cur,q1,q2,rest⟩
 ·exact .inl hn
 ·exact .inr ⟨g,cap,cur,q1,by omega,rest⟩
section
variable {W W1:World} {p X T e sz n m:Nat} {v v':Value} {xs ys:List Value} {o:Obj}
theorem abQ(hown:W.ownsRow X e sz v n xs)(hgrow:(W.alloc o).grownBy W1 v.ownBlock):iV (fun k=>v.ownBlock=some k) W W1:=
 (iV.aT (ag W o)).trans ((show iV (fun k=>v.ownBlock=some k) (W.alloc o) W1 from⟨hgrow.os,hgrow.tape,hgrow.output,hgrow.size,fun k hk hn=>hgrow.block k hk (fun e=>hn e.symm)⟩))
theorem aov(h1:W.heap[p]? =some (.cells #[v] T (0,0)))(hTe:T≠e)(hown:W.ownsRow X e sz v n xs):¬v.ownBlock=some p:=fun hk=>by
 obtain⟨_,cur,q⟩:=jl hown hk
 rw[h1]at q
 cases q
 exact hTe rfl
theorem Xo(h1:W.heap[p]? =some (.cells #[v] T (0,0)))(hTe:T≠e)(hown:W.ownsRow X e sz v n xs)(hgrow:(W.alloc o).grownBy W1 v.ownBlock):W1.heap[p]? =some (.cells #[v] T (0,0)):=
 (abQ hown hgrow).lL h1 (aov h1 hTe hown)
structure abR (W W2:World) (p X T e sz k:Nat) (v v':Value) (ys:List Value):Prop where
 box:W2.heap[p]? =some (.cells #[v'] T (0,0))
 row:W2.ownsRow X e sz v' k ys
 VY:iV (fun k=>k=p∨v.ownBlock=some k) W W2
 kf:∀B,KeepsFrom B W W2
 kt:∀Tk:TypeId→Bool,Tk T=false→Tk e=false→KT Tk W W2
 lu:∀B,B≤p→B≤X→Below B W W2
theorem ahY(h1:W.heap[p]? =some (.cells #[v] T (0,0)))(hTe:T≠e)(hown:W.ownsRow X e sz v n xs)(hgrow:(W.alloc o).grownBy W1 v.ownBlock)(hown':W1.ownsRow X e sz v' m ys):abR W (W1.setCell ⟨p,0,none⟩ v') p X T e sz m v v' ys:=by
 have hm:=abQ hown hgrow
 have hp1:=Xo h1 hTe hown hgrow
 have hset:=heap_setCell_same W1 p 0 _ _ v' hp1
 have hms:iV (fun k=>k=p) W1 (W1.setCell ⟨p,0,none⟩ v'):=iV.setCell (iV.refl (fun k=>k=p) W1) _ (.inr rfl) _
 have hmm:iV (fun k=>k=p∨v.ownBlock=some k) W (W1.setCell ⟨p,0,none⟩ v'):=(hm.mono (fun k _ hk=> .inr hk)).trans (hms.mono (fun k _ hk=> .inl hk))
 have hcl:∀k,(k=p∨v.ownBlock=some k)→∃c t,W.heap[k]? =some (.cells c t (0,0))∧(t=T∨t=e):=fun k hk=>by
  rcases hk with rfl|hk
  ·exact⟨_,_,h1, .inl rfl⟩
  ·obtain⟨_,cur,q⟩:=jl hown hk
   exact⟨_,_,q, .inr rfl⟩
 refine⟨by simpa using hset,?_,hmm,fun B=>⟨hmm.size,fun k o hk ho hc=>hmm.lL ho (fun hk'=>?_)⟩,fun Tk hT he=>⟨hmm.size,fun k cs t fz ht hk=>hmm.lL hk (fun hk'=>?_)⟩,fun B hB hX=>hmm.below (aaT hB (af2 (ψ.1 h1).1)) (fun k hk=>?_)⟩
 ·refine uP hown' hms (fun k hk e'=>?_)
  subst e';obtain⟨_,cur,q⟩:=jl hown' hk;rw[hp1]at q;cases q;exact hTe rfl
 ·obtain⟨c,t,q,_⟩:=hcl k hk'
  rw[ho]at q;cases q;cases hc
 ·obtain⟨c,t',q,q2⟩:=hcl k hk'
  rw[hk]at q;cases q
  rcases q2 with rfl|rfl
  ·rw[hT]at ht;cases ht
  ·rw[he]at ht;cases ht
 ·rcases hk with rfl|hk
  ·exact hB
  ·have:=(jl hown hk).1;omega
end
theorem abP(w:World)(p q:Value)(ty:TypeId):∀j u,[p,q][j]? =some u→(w.alloc (.cells #[p,q] ty)).cell? ((⟨w.heap.size,0,none⟩:Addr).add j)=some u:=by
 intro j u hj
 match j,hj with
 |0,hj=>simp at hj;subst hj;simp[Addr.add]
 |1,hj=>simp at hj;subst hj;simp[Addr.add]
def Kk(p:Nat)(V W:World):Prop:=iV (fun k=>k=p∨V.heap.size≤k) V W
theorem Kk.heap{p:Nat}{V W:World}(h:Kk p V W){k:Nat}{o:Obj}(ho:V.heap[k]? =some o)(hk:¬k=p):W.heap[k]? =some o:=h.lL ho (fun e=>by
 have:=(ψ.1 ho).1
 rcases e with e|e
 ·exact hk e
 ·omega)
theorem Kk.step{p:Nat}{V W W2:World}{S:Nat→Prop}(h:Kk p V W)(k:iV S W W2)(hS:∀k,S k→k=p∨V.heap.size≤k):Kk p V W2:=iV.trans h (k.mono fun k _ hk=>hS k hk)
theorem PW.Kj{E:En}{V W:World}{s:Ps}{p:Nat}{v:Value}(h:PW E V s)(hE:E.ok)(hp:V.heap[p]? =some (.cells #[v] 104 (0,0)))(hX:E.X≤p)(hb:Kk p V W):PW E W s:=by
 obtain⟨vd,vc,vb,mb,h⟩:=h
 have hc:∀(g:Nat) (cur:Array Value) (e:TypeId),¬e=104→V.heap[g]? =some (.cells cur e (0,0))→W.heap[g]? =some (.cells cur e (0,0)):=fun g cur e he hg=>hb.heap hg (fun q=>by
  subst q;rw[hp]at hg;cases hg
  exact he rfl)
 have hXV:E.X≤V.heap.size:=h.CU hE
 refine⟨vd,vc,vb,mb,{lu:=h.lu.trans (hb.below hXV (fun k hk=>by rcases hk with rfl|hk<;>omega)),box:=hc _ _ _ ζ h.box,dn:=fq h.dn fun g cur hg=>hc g cur 38 ζ hg,ch:=fq h.ch fun g cur hg=>hc g cur 132 ζ hg,bl:=fq h.bl fun g cur hg=>hc g cur 3 ζ hg,mp:=?_,mx:=h.mx,le:=h.le,tx:=h.tx,cb:=h.cb,bb:=h.bb}⟩
 obtain⟨n,D,h1,h2⟩:=h.mp
 exact⟨n,D,pI h1 fun es c hg=>hb.heap hg (fun q=>by subst q;rw[hp]at hg;cases hg),h2⟩
theorem KP.Kj{a V W:World}{p:Nat}(h:KP a V)(ha:a.heap.size≤p)(hb:Kk p V W):KP a W:=⟨aaT h.1 hb.size,fun k cs t fz ht hk=>hb.heap (h.2 k cs t fz ht hk) (by have:=(ψ.1 hk).1;omega),fun k x hk=>hb.heap (h.3 k x hk) (by have:=(ψ.1 hk).1;omega)⟩
theorem lC.Kj{V W:World}{p b:Nat}{h:Nat×Nat}(hh:lC V b h)(hn:¬b=p)(hb:Kk p V W):lC W b h:=hb.heap hh hn
theorem PW.put{E:En}{W:World}{s:Ps}{D:Nat}{x:Option (List Deferred)}(o':Obj)(h:PW E W s)(hE:E.ok)(hD:W.heap[D]? =some (.deferred x))(hX:E.X≤D):PW E (W.putObj D o') s:=by
 obtain⟨vd,vc,vb,mb,h⟩:=h
 have hc:∀(g:Nat) (o:Obj),(∀y,¬o= .deferred y)→W.heap[g]? =some o→(W.putObj D o').heap[g]? =some o:=fun g o ho hg=>by
  rw[ab5 (fun e=>by
   subst e;rw[hD]at hg;cases hg
   exact ho _ rfl)]
  exact hg
 have hcc:∀(g:Nat) (cur:Array Value) (e:TypeId),W.heap[g]? =some (.cells cur e (0,0))→(W.putObj D o').heap[g]? =some (.cells cur e (0,0)):=fun g cur e hg=>hc g _ (fun y q=>by cases q) hg
 refine⟨vd,vc,vb,mb,{lu:=h.lu.trans ?_,box:=hcc _ _ _ h.box,dn:=fq h.dn fun g cur hg=>hcc g cur 38 hg,ch:=fq h.ch fun g cur hg=>hcc g cur 132 hg,bl:=fq h.bl fun g cur hg=>hcc g cur 3 hg,mp:=?_,mx:=h.mx,le:=h.le,tx:=h.tx,cb:=h.cb,bb:=h.bb}⟩
 ·exact⟨rfl,rfl,rfl,by simp,fun k hk=>ab5 η⟩
 ·obtain⟨n,Dt,h1,h2⟩:=h.mp
  exact⟨n,Dt,pI h1 fun es c hg=>hc _ _ (fun y q=>by cases q) hg,h2⟩
theorem KP.put{a W:World}{D:Nat}(o':Obj)(h:KP a W)(hD:a.heap.size≤D):KP a (W.putObj D o'):=⟨by simpa using h.1,fun k cs t fz ht hk=>by
 have hl:=(ψ.1 hk).1
 rw[ab5 η]
 exact h.2 k cs t fz ht hk,fun k x hk=>by
 have hl:=(ψ.1 hk).1
 rw[ab5 η]
 exact h.3 k x hk⟩
theorem uz.put{W:World}{y:Value}{p:List (Bs×Bool)}{D:Nat}{x:Option (List Deferred)}(o':Obj)(h:uz W y p)(hD:W.heap[D]? =some (.deferred x)):uz (W.putObj D o') y p:=by
 obtain⟨a,c,h1,h0,h2⟩:=h
 refine⟨a,c,h1,h0,?_⟩
 rcases h2 with h2|⟨b,cur,h3,h4,h5⟩
 ·exact .inl h2
 ·exact .inr ⟨b,cur,h3,by rw[ab5 (fun q=>by subst q;rw[hD]at h4;cases h4)];exact h4,h5⟩
theorem uz.row{W:World}{v:Value}{X:Nat}{p:List (Bs×Bool)}(h:W.ownsRow X 95 2 v p.length (p.flatMap DW))(hn:p.length≤1000000)(hl:∀q∈p,q.1.length≤maxLen):uz W v p:=by
 rcases h.2 with⟨rfl,hz⟩|⟨g,cap,cur,rfl,hb,hg,rest⟩
 ·exact⟨none,0,by rw[hz],⟨hn,hl⟩, .inl (List.length_eq_zero_iff.1 hz)⟩
 ·refine⟨_,cap,rfl,⟨hn,hl⟩, .inr ⟨g,cur,rfl,hg,?_⟩⟩
  exact rest.2.2.2
theorem PW.fV{E:En}{w:World}{s:Ps}(h:PW E w s)(hE:E.ok):s.nm.bZ.length≤1000000∧∀q∈s.nm.bZ,q.1.length≤maxLen:=by
 obtain⟨vd,vc,vb,mb,h⟩:=h
 have h1:=h.cb
 have h2:=hE.len
 refine⟨?_,fun q hq=>h.tx q (List.mem_of_mem_drop hq)⟩
 unfold Ns.bZ
 rw[agj]
 omega
def PR(V:World)(bL:Nat)(pre:List (Bs×Bool))(W:World):Prop:=∃v,W.heap[bL]? =some (.cells #[v] 104 (0,0))∧W.ownsRow V.heap.size 95 2 v pre.length (pre.flatMap DW)∧Kk bL V W
theorem PR.VY{V A B:World}{bL:Nat}{pre:List (Bs×Bool)}(h:PR V bL pre A)(hb:bL<V.heap.size)(hm:iV (fun k=>False∨(V.heap.size≤k∧nc A k)) A B):PR V bL pre B:=by
 obtain⟨v,h1,h2,h3⟩:=h
 have hm':iV (fun k=>V.heap.size≤k∧nc A k) A B:=hm.mono (fun k _ hk=>hk.elim (fun h=>h.elim) id)
 exact⟨v,hm'.lL h1 (fun hk=>by have:=hk.1;omega),akD h2 hm',h3.step hm' (fun k hk=> .inr hk.1)⟩
theorem PR.push{V W W2:World}{bL:Nat}{pre:List (Bs×Bool)}{x:Bs×Bool}{v v':Value}(h2:W.ownsRow V.heap.size 95 2 v pre.length (pre.flatMap DW))(h3:Kk bL V W)(hp:abR W W2 bL V.heap.size 104 95 2 (pre.length+1) v v' (pre.flatMap DW++DW x)):PR V bL (pre++[x]) W2:=by
 refine⟨v',hp.box,?_,h3.step hp.VY (fun k hk=>?_)⟩
 ·have:=hp.row
  simpa using this
 ·rcases hk with hk|hk
  ·exact .inl hk
  ·exact .inr (jl h2 hk).1
theorem qO.kt{w w':World}(h:KT (fun t=>t==132) w w'):qO w w':=⟨h.1,fun k cs fz hk=>h.2 k cs 132 fz rfl hk⟩
theorem ad8{s:Ps}(h:eO s≠ .out):∃s',eO s= .ok () s':=by
 unfold eO at h⊢
 split
 ·split
  ·exact⟨_,rfl⟩
  ·rename_i h1 h2;exact absurd (by rw[h1];exact χ h2) h
 ·rename_i h1;exact absurd (by rw[h1]) h
theorem ahZ{l:List Ct}{k:Nat}{hh:Nat×Nat}{s:Ps}(h:node l k hh s≠ .out):∃s',node l k hh s= .ok () s':=by
 unfold node at h⊢
 split
 ·exact⟨_,rfl⟩
 ·rename_i h1;exact absurd (χ h1) h
theorem aks:(Tryz.prog.info? 95).map (fun i=>(i.zero,i.size,i.bytes))=some (some (.agg #[.string ⟨#[]⟩, .bool false]),2,24):=by kernel_rfl
theorem Vz{c:Code}{Q:Exit→Act→World→Prop}{T:Array Value}{w:World}(h:∀T',T=T'→c.wp Tryz.prog Q {tmps:=T',defers:=[]} w):c.wp Tryz.prog Q {tmps:=T,defers:=[]} w:=h T rfl
end Go.Proofs.YtlboejdhmggjpaaGreat.Pp
namespace Go.Proofs.YtlboejdhmggjpaaGreat.Pp
set_option maxRecDepth 100000
set_option maxHeartbeats 16000000
open Go.RowKit Go.BigFrame Go.Proofs.YtlboejdhmggjpaaGreat
attribute [local go_sem] Oper.semAt_some
theorem ad6{s:Ps}(h:eO s≠ .out):s.nm.bl.getLast?.getD 0≤s.nm.ch.length:=by
 unfold eO at h
 cases e:s.nm.bl.getLast? with
 |none=>exact Ω _
 |some k=>
  rw[e]at h;by_cases hk:k≤s.nm.ch.length
  ·exact hk
  ·exact absurd (χ hk) h
theorem PT{p:Prop}(h:p:=by
 have hq:=ve.out
 try(with_reducible replace hq:=Tj hq)
 try dsimp only at hq
 try(with_reducible replace hq:=gL hq)
 clear ve
 have ve:=Hh hq
 clear hq
 have hq:=ve.out
 replace hq:=uT hq rfl
 try dsimp only at hq
 try(with_reducible replace hq:=gL hq)
 clear ve
 have ve:=Hh hq
 clear hq
 have hk0:=ad6 (fP ve.out HN.out)
 refine(TP E _).mono ?_
 rintro e we ⟨rfl,rfl⟩
 obtain⟨V,hV⟩:∃V,V=(w8.alloc (.cells #[.slice none 0 0] 104)).alloc (.cells #[.pointer (some ⟨E.pb,3,none⟩)] 129):=⟨_,rfl⟩
 obtain⟨bL,hbL⟩:∃b,w8.heap.size=b:=⟨_,rfl⟩
 have wu:Below w8.heap.size w8 V:=by rw[hV];exact(ag _ _).trans ((ag _ _).mono ν)
 have e0:V.heap[bL]? =some (.cells #[.slice none 0 0] 104 (0,0)):=by rw[hV,←hbL,Lib.alloc_old _ _ _ ν];exact dz _ _ _
 have e1:V.heap[bL+1]? =some (.cells #[.pointer (some ⟨E.pb,3,none⟩)] 129 (0,0)):=by rw[hV,←hbL];have:=dz (w8.alloc (.cells #[.slice none 0 0] 104)) #[.pointer (some ⟨E.pb,3,none⟩)] 129;simpa using this
 have Xn:V.heap.size=bL+2:=by rw[hV,←hbL];simp
 have hpV:=ME.out.ext hE wu
 have hkV:=Xi.out.trans (KP.aT wu)
 have hhV:=Oq.out.kp (KP.aT wu)
 have hseq:=Dc.seq 4 (bL+1) hE s8 V hpV e1 hk0
 try rw[hbL]
 try rw[←hV]
 simp only[World.size_alloc,hbL]
 have MM:=Hh (ME.out.fV hE)
 have ad7:=Hh hseq
 have HPV:=Hh hpV
 have Ki:=Hh hkV
 have HHV:=Hh hhV
 have E0:=Hh e0
 have HSV:=Hh Xn
 have hi0:PR V bL [] V:=⟨_,e0,⟨rfl, .inl ⟨rfl,rfl⟩⟩,iV.refl _ _⟩
 have HI0:=Hh hi0
 have HXL:=Hh (show E.X≤bL from hbL▸ME.out.CU hE)
 have HWL:=Hh (show w.heap.size≤bL from hbL▸Xi.out.1)
 have zK:=Hh (show¬bh=bL from by have q:=Oq.out.lt;omega)
 obtain⟨i0,hi,hz0,hz1,hz2⟩:=info_parts aks
 have HI:=Hh hi
 have HZ0:=Hh hz0
 have HZ1:=Hh hz1
 have HZ2:=Hh hz2
 clear hseq hpV hkV hhV e0 e1 Xn hi0 wu hV hi hz0 hz1 hz2 hk0
 go_wp2_with fail
 refine Vz ?_
 intro T hT
 have HT:=Hh hT
 clear hT
 refine(wpIn_wide (n:=5)).1 ?_
 refine AV rfl η (gf:=66) (lb:=#[.pointer (some ⟨bL+1,0,none⟩)]) (by have h:=HT.out;subst h;rfl) trivial (enters_of Tryz.func66 (by kernel_rfl) rfl) ad7.out (fun k hk=>hk.elim) (fun h k=>h.trans k) (fun W l o o' hl hW ho _=>qO.putObj hW ho) (Below.refl _ _) (fun _=>rfl) (PR V bL) (fun _ _ _=>False) (fun t A B h hm=>h.VY (by have q:=HSV.out;omega) hm) (fun c t A B h _=>h) HI0.out (fun(p:Bs×Bool) a' W=>∃b,W.heap[b]? =some (.cells #[.string (au p.1), .bool p.2] 95 (0,0))∧a'={tmps:=(T.setIfInBounds 34 (.agg #[.string (au p.1), .bool p.2])).setIfInBounds 5 (.pointer (some ⟨b,0,none⟩)),defers:=[]}) (fun h=>qO.aT h) (fun p a' W l o o' hl ho ⟨b,hb,ha⟩=>⟨b,by rw[ab5 (fun e=>by subst e;rw[hl]at hb;cases hb;cases ho)];exact hb,ha⟩) ?assign ?body ?done ?stop
 case stop=>rintro Dd c pre W hD _ h _;exact h.elim
 case assign=>
  intro l z W K hK;have hT:=HT.out;subst hT;obtain⟨za,zb⟩:=z;obtain⟨zt,hzt⟩:∃t:ByteArray,au za=t:=⟨_,rfl⟩;simp only[hzt]
  gi_wp2_with (fail)
  refine hK _ _ (ag W _) ⟨W.heap.size,?_,?_⟩
  ·simp only[hzt];exact heap_alloc_new _ _
  ·simp only[hzt,abu,abH,abG]
 case body=>
  rintro l pre x a' W ⟨v,h1,h2,h3⟩ ⟨rr,hr⟩ ⟨b,hb,rfl⟩
  have hpl:pre.length<1000000:=by have q:=MM.out.1;rw[hr]at q;simp at q;omega
  obtain⟨a0,cap0,rfl⟩:=fF h2;obtain⟨xa,xb⟩:=x;obtain⟨xt,hxt⟩:∃t:ByteArray,au xa=t:=⟨_,rfl⟩
  have MN:DW (xa,xb)=[.string xt, .bool xb]:=by unfold DW;rw[hxt]
  simp only[hxt]at hb⊢
  have u0:W.cell? ⟨b,0,none⟩=some (.string xt):=by simp[World.cell?,hb]
  have u1:W.cell? ⟨b,1,none⟩=some (.bool xb):=by simp[World.cell?,hb]
  have c1:W.cell? ⟨bL,0,none⟩=some (.slice a0 pre.length cap0):=by simp[World.cell?,h1]
  have H1:=Hh h1;have H2:=Hh h2;have H3:=Hh h3;have asy:=Hh MN;clear h1 h2 h3 hr hb hxt MN;have hT:=HT.out;subst hT;simp only[abu,abH,abG]
  gi_wp2_with (gi_at_builtin;refine wpListIn_append_own _ rfl _ _ 104 rfl V.heap.size 95 i0 (.agg #[.string ⟨#[]⟩, .bool false]) 2 24 Tryz.underlying104 HI.out HZ0.out HZ1.out HZ2.out rfl ζ _ _ _ rfl (H2.out.alloc _) ⟨W.heap.size,0,none⟩ 1 1 [.string xt, .bool xb] rfl rfl (abP _ _ _ 95) (fun u hu=>by simp at hu;rcases hu with rfl|rfl<;>rfl) (by unfold maxLen;omega) η (by have:=H3.out.size;simp;omega) ?_;intro v' W1 hown' hgrow _;have hd1:=Xo H1.out ζ H2.out hgrow;have HPU:=Hh (ahY H1.out ζ H2.out hgrow hown');obtain⟨a',cap',hv'⟩:=fF hown';subst hv';have d1:W1.cell? ⟨bL,0,none⟩=some (.slice a0 pre.length cap0):=(by simp[World.cell?,hd1]);have g1:W1.frozen? ⟨bL,0,none⟩=false:=ab7 hd1 0;clear hown' hgrow hd1)
  exact⟨HPU.out.kf _,qO.kt (HPU.out.kt _ rfl rfl),PR.push H2.out H3.out (asy.out▸HPU.out)⟩
 case done=>
  rintro Dd zs W hD rfl ⟨v,h1,h2,h3⟩ hK;have Fb:=HPV.out.Kj hE E0.out HXL.out h3;have hkW:=Ki.out.Kj HWL.out h3;have hhW:=HHV.out.Kj zK.out h3;obtain⟨a0,c0,rfl⟩:=fF h2;have hdv:=uz.row h2 MM.out.1 MM.out.2;obtain⟨dn,hdn⟩:∃n,s8.nm.bZ.length=n:=⟨_,rfl⟩;rw[hdn]at h1 hdv;obtain⟨s9,hx9⟩:=ad8 (fP ve.out HN.out);have BM:=uT ve.out hx9
  try dsimp only at BM
  have h9:=Le hE s8 W Fb (fP ve.out HN.out);rw[hx9]at h9;obtain⟨s10,ad9⟩:=ahZ (fP BM HN.out);have aea:=uT BM ad9
  try dsimp only at aea
  have H9:=Hh h9;have Xj:=Hh hK;have HL:=Hh h1;have rA:=Hh hkW;have HHW:=Hh hhW;have HDV:=Hh hdv;have asz:=Hh ad9;have Gs:=Hh aea;have wy:=Hh BM;have HXD:=Hh hD;clear h1 h2 h3 hK Fb hkW hhW hdv hx9 BM h9 ad9 aea hD hdn;have hT:=HT.out;subst hT
  go_wp2_with fail
  refine H9.out.mono ?_;rintro e w9 ⟨rfl,hp9,hk9⟩;have h10:=Af hE 16 v1 s9 w9 hp9 (fP wy.out HN.out);rw[asz.out]at h10;have H10:=Hh h10;have TY:=Hh hk9;clear hp9 hk9 h10;obtain⟨d0,d1⟩:=(HHW.out.kp TY.out).cells
  go_wp2_with fail
  refine H10.out.mono ?_;rintro e w10 ⟨rfl,akw,hk10⟩;have hl:=hk10.2 _ _ _ _ rfl (TY.out.2 _ _ _ _ rfl HL.out)
  have cl:w10.cell? ⟨bL,0,none⟩=some (.slice a0 dn c0):=by simp[World.cell?,hl]
  have hkd:=hk10.3 _ _ (TY.out.3 _ _ Xj.out);have TZ:=Hh hkd;have HPT:=Hh akw;have HKT:=Hh ((rA.out.trans TY.out).trans hk10);have HDT:=Hh ((HDV.out.kp TY.out).kp hk10);clear hl hkd akw hk10 d0 d1
  go_wp2_with fail
  refine⟨by simp, .inl ⟨_,_,rfl,run_takeDeferred TZ.out,?_⟩⟩
  have hXD:E.X≤Dd:=by have q1:=HXD.out;have q2:=HSV.out;have q3:=HXL.out;omega
  have hWD:w.heap.size≤Dd:=by have q1:=HXD.out;have q2:=HSV.out;have q3:=HWL.out;omega
  exact⟨.slice a0 dn c0,by simp[results,Tryz.results125,go_sem],Iq (zh Gs.out) (HDT.out.put _ TZ.out) (HPT.out.put _ hE TZ.out hXD) (HKT.out.put _ hWD)⟩):p:=h
theorem aeb{E:En}(hE:E.ok){n:Nat}(ih:∀m,m≤n→Wk E m)(s:Ps)(w:World)(hp:PW E w s)(hne:run E.L E.base (n+1) (.params) s≠ .out):Calls Tryz.prog 125 #[.pointer (some ⟨E.pb,0,none⟩)] w (eZ E vaP w (run E.L E.base (n+1) (.params) s)):=by
 obtain⟨r,hr⟩:∃r,run E.L E.base (n+1) (.params) s=r:=⟨_,rfl⟩
 rw[hr]at hne⊢
 rw[run]at hr
 have HN:=Hh hne
 have Bc:=Hh hr
 have G5:=Hh hp
 have je:=Hh (KP.refl w)
 have IH:=Hh ih
 clear hne hr hp ih
 refine(callsIn_wide (n:=5)).1 ?_
 refine callsIn_of_wp_marks Tryz.func125 rfl trivial ?_ rfl
 simp only[Tryz.ntmps125,afX,aaJ,List.length_nil,Nat.reduceAdd,Nat.reduceSub,afV,afW,agc,af0,List.nil_append,List.cons_append]
 refine wpIn_wide.2 ?_
 go_wp2_with fail
 refine mR (Ci hE _ _ G5.out) Bc HN je (fun _ _ h=>h) ?_
 rintro v1 s1 w1 HR1 qI - mF
 try dsimp only at HR1
 have hq:=HR1.out
 try(with_reducible replace hq:=gL hq)
 clear HR1
 have HR1:=Hh hq
 clear hq
 have PI:=Hh (lC.new w1 v1)
 have PM:=Hh (qI.out.ext hE (ag w1 (.cells #[.int .i64 v1.1, .int .i64 v1.2] 77)))
 have PN:=Hh (mF.out.trans (KP.aT (ag w1 (.cells #[.int .i64 v1.1, .int .i64 v1.2] 77))))
 have ajQ:=Hh qI.out
 have ajR:=Hh mF.out
 clear qI mF
 have qI:=Hh PM.out
 have mF:=Hh PN.out
 clear PM PN
 simp only[tL]
 obtain⟨bh,zk⟩:∃b,w1.heap.size=b:=⟨_,rfl⟩
 have TC:=Hh (zk▸PI.out)
 clear PI
 go_wp2_with fail
 try rw[zk]
 refine mR (E5 hE [40] _ _ qI.out) HR1 HN mF (fun _ _ h=>h) ?_
 rintro v2 s2 w2 HR2 nJ hkk eQ
 try dsimp only at HR2
 have TD:=Hh (TC.out.kp hkk)
 clear hkk
 have hq:=HR2.out
 try(with_reducible replace hq:=gL hq)
 clear HR2
 have HR2:=Hh hq
 clear hq
 go_wp2_with fail
 refine mR (Ol hE _ _ nJ.out (fP HR2.out HN.out)) HR2 HN eQ (fun _ _ h=>h) ?_
 rintro v3 s3 w3 HR3 sW hkk ji
 try dsimp only at HR3
 have zl:=Hh (TD.out.kp hkk)
 clear hkk
 have hq:=HR3.out
 try(with_reducible replace hq:=gL hq)
 clear HR3
 have HR3:=Hh hq
 clear hq
 go_wp2_with fail
 refine mR (Ch hE [41] _ _ sW.out) HR3 HN ji (fun _ _ h=>h) ?_
 rintro v4 s4 w4 HR4 pR hkk qo
 try dsimp only at HR4
 have Lf:=Hh (zl.out.kp hkk)
 clear hkk
 have hq:=HR4.out
 try(with_reducible replace hq:=gL hq)
 clear HR4
 have HR4:=Hh hq
 clear hq
 obtain⟨bb4,akx⟩:∃bb,v4=bb:=⟨_,rfl⟩
 rw[akx]at HR4⊢
 clear akx
 cases bb4
 ·have hq:=HR4.out
  first|replace hq:=Tn hq|replace hq:=Ml hq
  try(with_reducible replace hq:=gL hq)
  clear HR4;have HR4:=Hh hq;clear hq
  go_wp2_with fail
  refine mQ ((IH.out n (υ _)).E8 _ _ pR.out (fP HR4.out HN.out)) HR4 HN qo (fun _ _ h=>h) ?_;rintro v5 s5 y5 w5 zm rfl E9 hkk IA
  try dsimp only at zm
  have YV:=Hh (Lf.out.kp hkk);clear hkk;have hq:=zm.out
  try(with_reducible replace hq:=gL hq)
  clear zm;have zm:=Hh hq;clear hq
  go_wp2_with fail
  go_loopg [] n (fun k wr=>∃s',k≤n∧(run E.L E.base k (.su)>>=fun _=>(do bY E.L [41];pure Va.un)>>=fun _=>(do let s←sj;eO;node E.L 16 v1;pure (Va.pa s.nm.bZ))) s'=r∧PW E wr s'∧KP w wr∧lC wr bh v1)
  case atStart=>exact⟨_,υ _,zm.out,E9.out,IA.out,YV.out⟩
  case round=>
   obtain⟨s6,axK,rQ,II,uA,aky⟩:=hrel
   cases gk with
   |zero=>exact absurd (q_0 rQ) HN.out
   |succ g6=>
    rw[run]at rQ;have zo:=Hh rQ;have Fa:=Hh II;have Ba:=Hh uA;have YW:=Hh aky;clear rQ II uA aky;have hq:=zo.out
    try(with_reducible replace hq:=gL hq)
    clear zo;have zo:=Hh hq;clear hq
    go_wp2_with fail
    refine mR (Ch hE [44] _ _ Fa.out) zo HN Ba (fun _ _ h=>h) ?_;rintro v7 s7 w7 tQ Xg hkk Mx
    try dsimp only at tQ
    have TE:=Hh (YW.out.kp hkk);clear hkk;have hq:=tQ.out
    try(with_reducible replace hq:=gL hq)
    clear tQ;have tQ:=Hh hq;clear hq;obtain⟨bb7,akz⟩:∃bb,v7=bb:=⟨_,rfl⟩;rw[akz]at tQ⊢;clear akz;cases bb7
    focus
     have hq:=tQ.out
     first|replace hq:=Tn hq|replace hq:=Ml hq
     try(with_reducible replace hq:=gL hq)
     clear tQ;have tQ:=Hh hq;clear hq
     go_wp2_with fail
     have hq:=tQ.out
     try(with_reducible replace hq:=Tj hq)
     try dsimp only at hq
     try(with_reducible replace hq:=gL hq)
     clear tQ;have tQ:=Hh hq;clear hq;refine mR (E5 hE [41] _ _ Xg.out) tQ HN Mx (fun _ _ h=>h) ?_;rintro v8 s8 w8 ve ME hkk Xi
     try dsimp only at ve
     have Oq:=Hh (TE.out.kp hkk);refine ?S1a
    rotate_left 1
    focus
     have hq:=tQ.out
     first|replace hq:=Tm hq|replace hq:=Mj hq
     try(with_reducible replace hq:=gL hq)
     clear tQ;have tQ:=Hh hq;clear hq
     go_wp2_with fail
     refine mR (Ch hE [46,46,46] _ _ Xg.out) tQ HN Mx (fun _ _ h=>h) ?_;rintro v9 s9 w9 wy HP9 hkk Xj
     try dsimp only at wy
     have YX:=Hh (TE.out.kp hkk);clear hkk;have hq:=wy.out
     try(with_reducible replace hq:=gL hq)
     clear wy;have wy:=Hh hq;clear hq;obtain⟨bb9,akA⟩:∃bb,v9=bb:=⟨_,rfl⟩;rw[akA]at wy⊢;clear akA;cases bb9
     ·have hq:=wy.out
      first|replace hq:=Tn hq|replace hq:=Ml hq
      try(with_reducible replace hq:=gL hq)
      clear wy;have wy:=Hh hq;clear hq
      go_wp2_with fail
      refine mQ ((IH.out g6 η).E8 _ _ HP9.out (fP wy.out HN.out)) wy HN Xj (fun _ _ h=>h) ?_;rintro v10 s10 y10 w10 Gs rfl adZ hkk ad1
      try dsimp only at Gs
      have af7:=Hh (YX.out.kp hkk);clear hkk;have hq:=Gs.out
      try(with_reducible replace hq:=gL hq)
      clear Gs;have Gs:=Hh hq;clear hq
      go_wp2_with fail
      go_roundg g6
      case measure=>omega
      case rel=>exact⟨_,by omega,Gs.out,adZ.out,ad1.out,af7.out⟩
     focus
      have hq:=wy.out
      first|replace hq:=Tm hq|replace hq:=Mj hq
      try(with_reducible replace hq:=gL hq)
      clear wy;have wy:=Hh hq;clear hq
      go_wp2_with fail
      have hq:=wy.out
      try(with_reducible replace hq:=Tj hq)
      try dsimp only at hq
      try(with_reducible replace hq:=gL hq)
      clear wy;have wy:=Hh hq;clear hq;refine mR (E5 hE [41] _ _ HP9.out) wy HN Xj (fun _ _ h=>h) ?_;rintro v11 s11 Xp akB asA hkk asB
      try dsimp only at akB
      have aou:=Hh (YX.out.kp hkk);have ve:=akB;obtain⟨w8,rfl⟩:∃q,q=Xp:=⟨_,rfl⟩;have ME:=asA;have Xi:=asB;have Oq:=aou;obtain⟨s8,rfl⟩:∃q,q=s11:=⟨_,rfl⟩;refine ?S1b
    case S1a|S1b=>
     clear hkk;have hq:=ve.out
     try(with_reducible replace hq:=gL hq)
     clear ve;have ve:=Hh hq;clear hq
     go_wp2_with fail
     exact PT
 ·have hq:=HR4.out
  first|replace hq:=Tm hq|replace hq:=Mj hq
  try(with_reducible replace hq:=gL hq)
  clear HR4;have HR4:=Hh hq;clear hq
  go_wp2_with fail
  have ve:=HR4;have ME:=pR;have Xi:=qo;have Oq:=Lf;obtain⟨w8,rfl⟩:∃q,q=w4:=⟨_,rfl⟩;obtain⟨s8,rfl⟩:∃q,q=s4:=⟨_,rfl⟩;exact PT
end Go.Proofs.YtlboejdhmggjpaaGreat.Pp
namespace Go.Proofs.YtlboejdhmggjpaaGreat.Pp
set_option maxRecDepth 100000
set_option maxHeartbeats 16000000
open Go.RowKit Go.BigFrame Go.Shelf Go.Proofs.YtlboejdhmggjpaaGreat
attribute [local go_sem] Oper.semAt_some
structure K3 (w w':World):Prop where
 size:w.heap.size≤w'.heap.size
 cells:∀(k:Nat) (cs:Array Value) (t:TypeId) (fz:Nat×Nat),t≠3→w.heap[k]? =some (.cells cs t fz)→w'.heap[k]? =some (.cells cs t fz)
theorem K3.refl(w:World):K3 w w:=⟨υ _,fun _ _ _ _ _ h=>h⟩
theorem K3.trans{a b c:World}(h:K3 a b)(k:K3 b c):K3 a c:=⟨aaT h.1 k.1,fun i cs t fz ht hi=>k.2 i cs t fz ht (h.2 i cs t fz ht hi)⟩
theorem K3.aT{w w':World}(h:Below w.heap.size w w'):K3 w w':=⟨h.size,fun k cs t fz _ hk=>aF h hk (ψ.1 hk).1⟩
theorem K3.putObj{w:World}{l:Nat}{o o':Obj}(ho:w.heap[l]? =some o)(hc:o.isCells=false):K3 w (w.putObj l o'):=⟨by simp,fun k cs t fz _ hk=>by
 rw[ab5 (fun e=>by
  subst e;rw[ho]at hk;cases hk
  cases hc)]
 exact hk⟩
def GJ(W:List Nd):Nat→Nat→Nat→Prop
 |0,left,_=>left=0
 |n+1,left,k=>left=0∨(left≤k+1∧k<W.length∧1≤(W.getD k n0).sz∧(W.getD k n0).sz≤left∧GJ W n (left - (W.getD k n0).sz) (k - (W.getD k n0).sz))
theorem IK(W:List Nd)(n k:Nat):oG W n 0 k=[]:=by cases n<;>rfl
theorem GJ.step{W:List Nd}{n left k:Nat}(h:GJ W n left k)(hl:0<left):∃m,n=m+1∧left≤k+1∧k<W.length∧1≤(W.getD k n0).sz∧(W.getD k n0).sz≤left∧GJ W m (left - (W.getD k n0).sz) (k - (W.getD k n0).sz)∧oG W n left k=k::oG W m (left - (W.getD k n0).sz) (k - (W.getD k n0).sz):=by
 cases n with
 |zero=>exact absurd h (Nat.pos_iff_ne_zero.1 hl)
 |succ m=>
  rcases h with h|⟨h1,h2,h3,h4,h5⟩
  ·omega
  ·exact⟨m,rfl,h1,h2,h3,h4,h5,by conv=>lhs;unfold oG
                                 rw[χ η]⟩
theorem Ah{w:World}{X g lc:Nat}{W:List Nd}(h:w.ownsRow X 38 4 (.slice (some ⟨g,0,none⟩) W.length lc) W.length (W.flatMap jX)){i:Nat}(hi:i<W.length):
  w.cell? ⟨g,i*4,none⟩=some (.int .i64 (W.getD i n0).k)∧w.cell? ⟨g,i*4+1,none⟩=some (.int .i64 (W.getD i n0).lo)∧w.cell? ⟨g,i*4+2,none⟩=some (.int .i64 (W.getD i n0).hi)∧w.cell? ⟨g,i*4+3,none⟩=some (.int .i64 (W.getD i n0).sz):=by
 have hg:∀j (hj:j<4),(W.flatMap jX)[i*4+j]? =(jX (W.getD i n0))[j]? :=fun j hj=>by
  have e:=KD 4 jX (fun _=>rfl) W i (W.getD i n0) hi
  have e2:W.set i (W.getD i n0)=W:=by
   rw[abN,abE hi];exact List.set_getElem_self hi
  rw[e2]at e;have hl:(W.flatMap jX).length=W.length*4:=vG 4 jX (fun _=>rfl) W;rw[←e,Ψ,acF (by rw[acn];omega),acn,hl,agt η,show i*4+j - i*4=j by omega,afS (by show j<4;exact hj)]
 refine⟨?_,?_,?_,?_⟩
 ·rw[h.cellAt _ η];exact hg 0 η
 ·rw[h.cellAt _ η];exact hg 1 η
 ·rw[h.cellAt _ η];exact hg 2 η
 ·rw[h.cellAt _ η];exact hg 3 η
theorem Kd.seq(n B1 B2 X g lc i lf:Nat)(L:List Nd)(w:World)(hX:X≤w.heap.size)(h1:w.heap[B1]? =some (.cells #[.slice (some ⟨g,0,none⟩) L.length lc] 24 (0,0)))(h2:w.heap[B2]? =some (.cells #[.int .i64 i] 3 (0,0)))
  (hrow:w.ownsRow X 38 4 (.slice (some ⟨g,0,none⟩) L.length lc) L.length (L.flatMap jX)) (hi:i<L.length) (hlen:L.length≤1000000) (hsz:(L.getD i n0).sz=lf+1) (hlf:lf≤1000000) (hko:GJ L lf lf (i - 1)) (hi0:0<lf→0<i):
  adC Fence.wide n Tryz.prog 91 #[.pointer (some ⟨B1,0,none⟩), .pointer (some ⟨B2,0,none⟩)] (fun k:Nat=>#[.int .i64 k]) K3 (fun pre x=>∃r,oG L lf lf (i - 1)=pre++x::r) (fun _=>False)
   (fun zs=>zs=oG L lf lf (i - 1)) (fun _=>True) w:=fun l J Jx W hW hJ hJx hY hj0=>by
 have g1:=aF hW h1 (ψ.1 h1).1
 have g2:=aF hW h2 (ψ.1 h2).1
 have Zz:=gI hrow hW
 have c1:W.cell? ⟨B1,0,none⟩=some (.slice (some ⟨g,0,none⟩) L.length lc):=by simp[World.cell?,g1]
 have c2:W.cell? ⟨B2,0,none⟩=some (.int .i64 i):=by simp[World.cell?,g2]
 obtain⟨-, -, -,d3⟩:=Ah Zz hi
 rw[hsz]at d3
 obtain⟨N,hN⟩:∃N,L.length=N:=⟨_,rfl⟩
 rw[hN]at c1 hlen
 have hiN:i<N:=by rw[←hN];exact hi
 have HJ:=Hh hJ
 have HY:=Hh hY
 have PO:=Hh hj0
 have Xm:=Hh Zz
 have HG1:=Hh g1
 have HN:=Hh hN
 have HKO:=Hh hko
 have HI0:=Hh hi0
 have d1:((lf:Int)+1 - 1)=lf:=by omega
 have hz1:Int.toNat (i:Int)=i:=by omega
 clear h1 h2 hJ hJx g1 g2 hY hj0 hko hrow Zz hsz hN hi hi0
 refine callsIn_of_wp Tryz.func91 rfl trivial ?_ rfl
 simp only[Tryz.ntmps91,afX,aaJ,List.length_nil,Nat.reduceAdd,Nat.reduceSub,afV,afW,agc,af0,List.nil_append,List.cons_append]
 gi_wp2_with (fail)
 gi_loopw [4,5] (fun s4 s5 wr=>∃(pre:List Nat) (m left k:Nat) (z:Int),s4= .int .i64 left∧s5= .int .i64 z∧(0<left→z=k)∧left≤lf∧ -1≤z∧z≤N∧oG L lf lf (i - 1)=pre++oG L m left k∧GJ L m left k∧K3 W wr∧J pre wr) (fun s4 s5 _=>(intOf s4).toNat)
 case atStart=>exact⟨[],lf,lf,i - 1,_,by go_num,by go_num,fun h=>by have:=HI0.out h;go_num,υ _,by go_num,by go_num,rfl,HKO.out,K3.refl W,PO.out⟩
 case round=>
  obtain⟨pre,m,left,k,z,rfl,rfl,hz,hll,hzl,hzN,hkd,hkk,hkr,hjr⟩:=hrel
  rcases afC left with h0|h0
  ·subst h0
   rw[IK,List.append_nil]at hkd;have HJR:=Hh hjr;have TZ:=Hh hkd;clear hjr hkd hkk hkr hz
   gi_wp2_with (fail)
   go_end0
   exact⟨⟨_,rfl⟩, .inl ⟨_,TZ.out.symm,HJR.out⟩⟩
  ·obtain⟨m',rfl,q1,q2,q3,q4,q5,q6⟩:=hkk.step h0
   have hzk:=hz h0;subst hzk;rw[q6]at hkd;have hrow:wr.ownsRow X 38 4 (.slice (some ⟨g,0,none⟩) L.length lc) L.length (L.flatMap jX):=fq Xm.out (fun g cur hg=>hkr.cells g cur 38 (0,0) ζ hg);have e1:=hkr.cells _ _ 24 _ ζ HG1.out
   have a1:wr.cell? ⟨B1,0,none⟩=some (.slice (some ⟨g,0,none⟩) N lc):=by simp[World.cell?,e1,HN.out]
   obtain⟨-, -, -,a3⟩:=Ah hrow q2;obtain⟨sz,hs⟩:∃sz,(L.getD k n0).sz=sz:=⟨_,rfl⟩;rw[hs]at a3 q3 q4 q5 hkd;rw[HN.out]at q2;have hgt:decide (0<left)=true:=aa4 h0
   have hw1:(left:Int) - sz=((left - sz:Nat):Int):=by omega
   have hw2:IntKind.i64.wrap ((k:Int) - sz)=(k:Int) - sz:=by go_arith
   obtain⟨fn1,tm1,as1,bo1,Ev,zu⟩:=HY.out pre k _ hjr ⟨_,hkd⟩;have TZ:=Hh hkd;have zL:=Hh hkr;have HQ5:=Hh q5;clear hkd hkr hjr hrow e1 q5 hs q6 hkk hz
   gi_wp2_with (fail)
   refine⟨(fun hh=>by cases hh),zu.mono ?_⟩;rintro e W1 (⟨rfl,PQ,hk1⟩|⟨rfl,hx1⟩)
   ·have TV:=Hh PQ
    have mF:=Hh (zL.out.trans hk1);clear PQ hk1 Ev zu
    gi_wp2_with (fail)
    go_roundw
    case rel=>exact⟨pre++[k],m',left - sz,k - sz,(k:Int) - sz,by go_num,by go_num,fun h=>by omega,by omega,by omega,by omega,by rw[TZ.out,Ψ];rfl,HQ5.out,mF.out,TV.out⟩
    case measure=>simp[intOf];omega
   ·have yu:=Hh hx1
    clear hx1 Ev zu
    gi_wp2_with (fail)
    refine abw (results_none rfl _ _ _) rfl ?_;exact⟨⟨_,rfl⟩, .inr ⟨_,trivial,yu.out⟩⟩
end Go.Proofs.YtlboejdhmggjpaaGreat.Pp
namespace Go.Proofs.YtlboejdhmggjpaaGreat.Pp
def Aok(L:List Nd):Prop:=∀i,i<L.length→∃lf,(L.getD i n0).sz=lf+1∧lf≤i∧GJ L lf lf (i - 1)
theorem aiA{a b:Nat}{K K':List Nd}(h:Bt a b K K'):∀(A B W:List Nd) (n:Nat),W=A++(K++B)→K.length≤n→GJ W n K.length (A.length+K.length - 1):=by
 induction h with
 |nil h=>
  intro A B W n hW hn
  cases n with
  |zero=>exact rfl
  |succ n=>exact .inl rfl
 |@snoc a m lo hi b k F F' M M' h1 h2 h3 h4 h5 i1 i3=>
  intro A B W n hW hn
  have hlen:(F++(M++[(⟨k,lo,hi,M.length+1⟩:Nd)])).length=F.length+M.length+1:=by simp only[Δ,aaJ,List.length_nil];omega
  rw[hlen]at hn⊢;obtain⟨n',rfl⟩:∃n',n=n'+1:=⟨n - 1,by omega⟩
  have hWl:W.length=A.length+F.length+M.length+1+B.length:=by rw[hW];simp only[Δ,aaJ,List.length_nil];omega
  have hr:W.getD (A.length+(F.length+M.length+1) - 1) n0=⟨k,lo,hi,M.length+1⟩:=FM (A:=A++(F++M)) (B:=B) W _ (by rw[hW];simp[Ψ]) (by simp only[Δ];omega);have q:=i1 A (M++[⟨k,lo,hi,M.length+1⟩]++B) W n' (by rw[hW];simp[Ψ]) η;refine .inr ⟨by omega,by omega,by rw[hr];exact Nat.le_add_left 1 _,by rw[hr];show M.length+1≤_;omega,?_⟩;rw[hr];show GJ W n' (F.length+M.length+1 - (M.length+1)) (A.length+(F.length+M.length+1) - 1 - (M.length+1));rw[show F.length+M.length+1 - (M.length+1)=F.length by omega,show A.length+(F.length+M.length+1) - 1 - (M.length+1)=A.length+F.length - 1 by omega];exact q
theorem ag6{a b:Nat}{L P:List Nd}(h:Bt a b L P):∀(A B W:List Nd),W=A++(L++B)→∀i,A.length≤i→i<A.length+L.length→∃lf,(W.getD i n0).sz=lf+1∧lf≤i∧GJ W lf lf (i - 1):=by
 induction h with
 |nil h=>intro A B W hW i h1 h2;simp at h2;omega
 |@snoc a m lo hi b k F F' M M' h1 h2 h3 h4 h5 i1 i3=>
  intro A B W hW i hi1 hi2
  have hlen:(F++(M++[(⟨k,lo,hi,M.length+1⟩:Nd)])).length=F.length+M.length+1:=by simp only[Δ,aaJ,List.length_nil];omega
  rw[hlen]at hi2;by_cases c1:i<A.length+F.length
  ·exact i1 A (M++[⟨k,lo,hi,M.length+1⟩]++B) W (by rw[hW];simp[Ψ]) i hi1 c1
  by_cases c2:i<A.length+F.length+M.length
  ·exact i3 (A++F) ([⟨k,lo,hi,M.length+1⟩]++B) W (by rw[hW];simp[Ψ]) i (by rw[Δ];omega) (by rw[Δ];omega)
  ·obtain rfl:i=A.length+F.length+M.length:=by omega
   have hr:W.getD (A.length+F.length+M.length) n0=⟨k,lo,hi,M.length+1⟩:=FM (A:=A++(F++M)) (B:=B) W _ (by rw[hW];simp[Ψ]) (by simp only[Δ];omega);have q:=aiA h3 (A++F) ([⟨k,lo,hi,M.length+1⟩]++B) W M.length (by rw[hW];simp[Ψ]) (υ _);rw[Δ]at q;exact⟨M.length,by rw[hr],by omega,q⟩
theorem aiB{a b:Nat}{L P:List Nd}(h:Bt a b L P):Aok L:=fun i hi=>ag6 h [] [] L ν i (Ω _) (by simpa using hi)
def s0:Ps:=⟨0,[],⟨[],[]⟩⟩
theorem jo{α β:Type}{x:Pm α}{k:α→Pm β}{s s':Ps}{v:β}(h:(x>>=k) s= .ok v s'):∃a s1,x s= .ok a s1∧k a s1= .ok v s':=by
 change Pm.bind x k s=_ at h
 unfold Pm.bind at h
 cases hx:x s with
 |ok a s1=>rw[hx]at h;exact⟨a,s1,rfl,h⟩
 |no=>rw[hx]at h;cases h
 |out=>rw[hx]at h;cases h
theorem ag7{l:List Ct}{k:Nat}{h:Nat×Nat}{s s':Ps}{v:Va}(hr:(node l k h>>=fun _=>(pure Va.un:Pm Va)) s= .ok v s'):∃D,s'.done=D++[⟨k,h.1,s'.af,D.length - h.2+1⟩]∧s'.af=s.af:=by
 obtain⟨a,s1,h1,h2⟩:=jo hr
 cases h2
 unfold node at h1
 split at h1
 ·cases h1
  exact⟨s.done,rfl,rfl⟩
 ·cases h1
theorem OV(l:List Ct)(base:Bs→Bool):∀n s v s',run l base n .unit s= .ok v s'→∃D,s'.done=D++[⟨1,0,s'.af,D.length+1⟩]∧l.length≤s'.af
 |0,s,v,s',h=>by rw[run]at h;cases h
 |n+1,s,v,s',h=>by
  rw[run]at h;obtain⟨a,s1,h1,h2⟩:=jo h;cases h1;by_cases c:s.af<l.length
  ·rw[ω c]at h2
   obtain⟨a,s1,h3,h4⟩:=jo h2;exact OV l base n s1 v s' h4
  ·rw[χ c]at h2
   obtain⟨D,h3,h4⟩:=ag7 h2;exact⟨D,h3,by rw[h4];omega⟩
def fu(l:List Ct):Nat:=16*l.length+100
structure XR (l:List Ct) (s:Ps):Prop where
 aiC:∃k K,s.done=K++[⟨k,0,s.af,K.length+1⟩]
 fo:Fo 0 s.af s.done
 af:s.af≤l.length
 len:s.done.length≤4*l.length+1
theorem OW(l:List Ct)(base:Bs→Bool):run l base (fu l) .unit s0≠ .out∧∀v s',run l base (fu l) .unit s0= .ok v s'→XR l s'∧s'.af=l.length∧∃K,s'.done=K++[⟨1,0,l.length,K.length+1⟩]:=by
 have h:=pq l base (fu l) .unit s0 s0 (fun _=>rfl) (fun h e=>by cases e;rfl) (Tr.refl _) (by
  refine⟨Ω _,υ _,Ω _,Ω _,by decide,Ω _,?_⟩;show 16*(l.length - 0)+5<16*l.length+100
  omega)
 refine⟨fun e=>by rw[e]at h;exact h,fun v s' e=>?_⟩
 rw[e]at h
 obtain⟨⟨h1,F,h2,h3⟩, -,⟨h4,h5,h6, -⟩, -⟩:=h
 obtain⟨D,d1,d2⟩:=OV l base _ _ _ _ e
 have hat:s'.af=l.length:=by omega
 have h2':s'.done=F:=h2
 rw[←h2']at h3
 have h6':s'.done.length+0+0*_+4*0≤0+4*s'.af+1:=h6
 exact⟨⟨⟨1,D,d1⟩,h3,h5,by omega⟩,hat,D,by rw[d1,hat]⟩
theorem XR.oq{l:List Ct}{s:Ps}(h:XR l s):Aok s.done∧0<s.done.length∧Fp 0 s.af (qX s.done)∧(qX s.done).length=s.done.length∧∃k K,s.done=K++[⟨k,0,s.af,K.length+1⟩]∧∃R,qX s.done=⟨k,0,s.af,K.length+1⟩::R:=by
 obtain⟨k,K,hr⟩:=h.aiC
 obtain⟨P,hP⟩:=h.fo.ac2
 have ha:=aiB hP
 have hl:=hP.len
 have hp:=hP.pre
 have e:qX s.done=P:=by
  rw[hr]at hP⊢;exact OU hP
 refine⟨ha,by rw[hr];simp,by rw[e];exact hp,by rw[e,hl],k,K,hr,?_⟩
 rw[e]
 rw[hr]at hP
 generalize hL:K++[(⟨k,0,s.af,K.length+1⟩:Nd)]=L at hP
 cases hP with
 |nil=>simp at hL
 |@snoc a m lo hi b k' F F' M M' h1 h2 h3 h4 h5=>
  rw[←Ψ]at hL;obtain⟨e1,e2⟩:=afy hL rfl;simp only[afM,and_true,Nd.mk.injEq]at e2;obtain⟨rfl,rfl,rfl,e3⟩:=e2;have:F=[]:=acM (by have:=afz List.length e1;rw[Δ]at this;omega);subst this;have hF':F'=[]:=acM (by have:=h1.len;simpa using this);subst hF';rw[List.nil_append]at e1;subst e1;exact⟨_,rfl⟩
set_option maxRecDepth 100000
set_option maxHeartbeats 16000000
open Go.RowKit Go.BigFrame Go.Proofs.YtlboejdhmggjpaaGreat
attribute [local go_sem] Oper.semAt_some
def Kl(L:List Nd)(pl:List Nat):Prop:=pl.length=L.length∧∀j,j<L.length→pl.getD j 0+(L.getD j n0).sz≤L.length
theorem MR(z:Array Value)(v:Value)(h0:0<z.size)(hz:∀k,k<z.size→z[k]! =v)(m:Nat):(madeCells z m).toList=List.replicate m v:=by
 refine List.ext_getElem (by simp[madeCells]) fun k h1 h2=>?_
 simp only[madeCells,Array.getElem_toList,Array.getElem_map,Array.getElem_range,List.getElem_replicate]
 exact hz _ (Nat.mod_lt _ h0)
theorem Uc:∀n,(List.replicate n n0).flatMap jX=List.replicate (n*4) (.int .i64 0)
 |0=>rfl
 |n+1=>by
  rw[List.replicate_succ,acy,Uc n,agO,Nat.add_comm,←List.replicate_append_replicate];rfl
theorem Xq:∀n,(List.replicate n 0).map (fun k:Nat=>Value.int .i64 k)=List.replicate n (.int .i64 0)
 |0=>rfl
 |n+1=>by rw[List.replicate_succ,acj,Xq n];rfl
def IL(pl:List Nat):Array Value:=(pl.map fun k:Nat=>Value.int .i64 k).toArray
def DY(rs:List Nd):Array Value:=(rs.flatMap jX).toArray
theorem Kl.start{L:List Nd}(h:Aok L):Kl L (List.replicate L.length 0):=by
 refine⟨by simp,fun j hj=>?_⟩
 obtain⟨lf,h1,h2, -⟩:=h j hj
 rw[abN,List.getElem?_replicate,ω hj,h1]
 simp only[Option.getD_some]
 omega
theorem Ud{L:List Nd}:∀(n left k e:Nat) (pl:List Nat),GJ L n left k→left≤e→e≤L.length→Kl L pl→Kl L (wY L (oG L n left k) e pl)
 |0,left,k,e,pl,h,_,_,hp=>by
  obtain rfl:left=0:=h;exact hp
 |n+1,left,k,e,pl,h,hl,he,hp=>by
  rcases afC left with h0|h0
  ·subst h0;rw[IK];exact hp
  ·obtain⟨m,hm,q1,q2,q3,q4,q5,q6⟩:=h.step h0
   obtain rfl:n=m:=by omega
   rw[q6];unfold wY;refine Ud n _ _ _ _ q5 η η ⟨by rw[af3];exact hp.1,fun j hj=>?_⟩;rw[abN,List.getElem?_set];by_cases hjk:k=j
   ·subst hjk
    rw[ω rfl,ω (by rw[hp.1];exact q2)];simp only[Option.getD_some];omega
   ·rw[χ hjk,←abN]
    exact hp.2 j hj
theorem Kl.step{L:List Nd}(h:Aok L){i:Nat}(hi:i<L.length){st:List Nat×List Nd}(hp:Kl L st.1):Kl L (Dv L i st).1:=by
 obtain⟨lf,h1,h2,h3⟩:=h i hi
 have hb:=hp.2 i hi
 unfold Dv
 rw[h1]at hb⊢
 exact Ud _ _ _ _ _ h3 (by show lf≤_;omega) hb hp
structure AhM (wr:World) (L:List Nd) (g lc b0 b1 b2 b3:Nat) (pl:List Nat) (rs:List Nd):Prop where
 h0:wr.heap[b0]? =some (.cells #[.slice (some ⟨g,0,none⟩) L.length lc] 24 (0,0))
 h1:wr.heap[b1]? =some (.cells (DY rs) 38 (0,0))
 h2:wr.heap[b2]? =some (.cells (IL pl) 3 (0,0))
 h3:wr.heap[b3]? =some (.cells #[.slice (some ⟨b2,0,none⟩) L.length L.length] 61 (0,0))
theorem Lg{w:World}{b j:Nat}{pl:List Nat}(h:w.heap[b]? =some (.cells (IL pl) 3 (0,0)))(hj:j<pl.length):w.cell? ⟨b,j,none⟩=some (.int .i64 (pl.getD j 0)):=by
 simp[World.cell?,h,IL,abN,abE hj]
theorem ah9(pl:List Nat)(j v:Nat):(IL pl).setIfInBounds j (.int .i64 v)=IL (pl.set j v):=by
 simp[IL,List.map_set]
theorem Ue(rs:List Nd):(DY rs).size=rs.length*4:=by
 unfold DY;rw[afX];exact vG 4 jX (fun _=>rfl) rs
theorem aia(rs:List Nd)(p:Nat)(x:Nd)(h:p<rs.length):((DY rs).toList.take (p*4)++jX x++(DY rs).toList.drop (p*4+4)).toArray=DY (rs.set p x):=by
 unfold DY
 exact afz _ (KD 4 jX (fun _=>rfl) rs p x h)
def gU(L:List Nd)(q:Nat×List Nat)(k:Nat):Nat×List Nat:=(q.1 - (L.getD k n0).sz,q.2.set k (q.1 - (L.getD k n0).sz))
theorem PS(L:List Nd):∀(ks:List Nat) (e:Nat) (pl:List Nat),wY L ks e pl=(ks.foldl (gU L) (e,pl)).2
 |[],e,pl=>rfl
 |k::ks,e,pl=>by unfold wY;rw[PS L ks];rfl
theorem Uf(L:List Nd):∀(ks:List Nat) (q:Nat×List Nat),(ks.foldl (gU L) q).2.length=q.2.length
 |[],q=>rfl
 |k::ks,q=>by rw[List.foldl_cons,Uf L ks];exact af3
theorem Ug{L:List Nd}:∀(n left k0:Nat) (q:Nat×List Nat) (pre:List Nat) (x:Nat) (r:List Nat),GJ L n left k0→left≤q.1→oG L n left k0=pre++x::r→x<L.length∧(L.getD x n0).sz≤(pre.foldl (gU L) q).1∧(pre.foldl (gU L) q).1≤q.1
 |0,left,k0,q,pre,x,r,h,hl,he=>by simp[oG]at he
 |n+1,left,k0,q,pre,x,r,h,hl,he=>by
  rcases afC left with h0|h0
  ·subst h0;rw[IK]at he;simp at he
  ·obtain⟨m,hm,q1,q2,q3,q4,q5,q6⟩:=h.step h0
   obtain rfl:n=m:=by omega
   rw[q6]at he
   cases pre with
   |nil=>
    simp only[List.nil_append,afM]at he;obtain⟨rfl, -⟩:=he;exact⟨q2,by show _≤q.1;omega,υ _⟩
   |cons y pre=>
    simp only[List.cons_append,afM]at he;obtain⟨rfl,he⟩:=he;obtain⟨a1,a2,a3⟩:=Ug n _ _ (gU L q k0) pre x r q5 (by show left - _≤q.1 - _;omega) he;exact⟨a1,a2,aaT a3 (by show q.1 - _≤_;omega)⟩
theorem VI(a:Option Addr)(n c i:Nat)(w:World):Calls Tryz.prog 55 #[.slice a n c, .int .i64 i] w fun e w'=>e= .returned (.func (.func 91) #[] #[.pointer (some ⟨w.heap.size,0,none⟩), .pointer (some ⟨w.heap.size+1,0,none⟩)])∧w'=(w.alloc (.cells #[.slice a n c] 24)).alloc (.cells #[.int .i64 i] 3):=by
 go_enter Tryz.func55,Tryz.ntmps55
 go_wp2
 go_ret
 exact⟨rfl,rfl⟩
theorem Uh{c:Code}{Q:Exit→Act→World→Prop}{T:Array Value}{ds:List Deferred}{w:World}(h:∀T',T=T'→c.wp Tryz.prog Q {tmps:=T',defers:=ds} w):c.wp Tryz.prog Q {tmps:=T,defers:=ds} w:=h T rfl
structure AhI (V:World) (L:List Nd) (b2 m e0:Nat) (pl:List Nat) (ks:List Nat) (W:World):Prop where
 md:iV (fun k=>k=b2∨k=m) V W
 pw:W.heap[b2]? =some (.cells (IL (ks.foldl (gU L) (e0,pl)).2) 3 (0,0))
 en:W.heap[m]? =some (.cells #[.int .i64 (ks.foldl (gU L) (e0,pl)).1] 3 (0,0))
theorem AhI.lL{V:World}{L:List Nd}{b2 m e0 B:Nat}{pl ks:List Nat}{X:Nat→Prop}{A C:World}(h:AhI V L b2 m e0 pl ks A)(hX:∀k,¬X k)(hB:V.heap.size≤B)(hm:iV (fun k=>X k∨(B≤k∧nc A k)) A C):AhI V L b2 m e0 pl ks C:=by
 have hn:∀(k:Nat) (cs:Array Value) (t:TypeId) (fz:Nat×Nat),A.heap[k]? =some (.cells cs t fz)→C.heap[k]? =some (.cells cs t fz):=fun k cs t fz hk=>hm.lL hk (fun e=>by
  rcases e with e|⟨-,o,ho,hc⟩
  ·exact hX k e
  ·rw[hk]at ho;cases ho;cases hc)
 refine⟨⟨hm.os.trans h.md.os,hm.tape.trans h.md.tape,hm.output.trans h.md.output,aaT h.md.size hm.size,fun k hk hs=>?_⟩,hn _ _ _ _ h.pw,hn _ _ _ _ h.en⟩
 rw[hm.block k (abB hk h.md.size) (fun e=>by
  rcases e with e|⟨e, -⟩
  ·exact hX k e
  ·omega)]
 exact h.md.block k hk hs
def aow(w:World)(L:List Nd)(g lc NN b0 b1 b2 b3:Nat)(a':Act)(wr:World):Prop:=
 ∃(i:Nat) (z:Int) (ds:List Deferred) (pl:List Nat) (rs:List Nd) (u6 u17 u18 u19 u20 u21 u22 u23 u24 u25 u26 u27 u28 u29 u30 u31 u32 u33 u34 u35 u36 u37 u38 u39 u40 u41 u42 u43:Value),z=(i:Int) - 1∧i≤NN∧Dw L (NN - i) NN (List.replicate NN 0,List.replicate NN n0)=(pl,rs)∧AhM wr L g lc b0 b1 b2 b3 pl rs∧Kl L pl∧rs.length=NN∧Below b0 w wr∧b0+4≤wr.heap.size∧wH b0 wr ds∧a'={tmps:=#[.slice (some ⟨g,0,none⟩) NN lc, .pointer (some ⟨b0,0,none⟩), .slice none 0 0, .slice (some ⟨b1,0,none⟩) NN NN, .pointer (some ⟨b3,0,none⟩), .int .i64 z,u6,undef, .slice (some ⟨g,0,none⟩) NN lc, .int .i64 NN, .slice (some ⟨b1,0,none⟩) NN NN, .slice (some ⟨g,0,none⟩) NN lc, .int .i64 NN, .slice (some ⟨b2,0,none⟩) NN NN, .slice (some ⟨g,0,none⟩) NN lc, .int .i64 NN, .int .i64 ((NN:Int) - 1),u17,u18,u19,u20,u21,u22,u23,u24,u25,u26,u27,u28,u29,u30,u31,u32,u33,u34,u35,u36,u37,u38,u39,u40,u41,u42,u43,undef,undef,undef,undef,undef,undef,undef,undef,undef,undef,undef,undef,undef],defers:=ds}
theorem ael(L:List Nd)(X g lc:Nat)(w:World)(hX:X≤w.heap.size)(hrow:w.ownsRow X 38 4 (.slice (some ⟨g,0,none⟩) L.length lc) L.length (L.flatMap jX))(h0:0<L.length)(hlen:L.length≤500000)(hok:Aok L):
 Calls Tryz.prog 36 #[.slice (some ⟨g,0,none⟩) L.length lc] w fun e w'=>∃v,e= .returned v∧w'.ownsRow w.heap.size 38 4 v L.length ((qX L).flatMap jX)∧Below w.heap.size w w':=by
 obtain⟨NN,hN⟩:∃NN,L.length=NN:=⟨_,rfl⟩
 obtain⟨B,hB⟩:∃B,w.heap.size=B:=⟨_,rfl⟩
 obtain⟨i0,hi0,hz0,hz1,hz2⟩:=rJ abp
 obtain⟨i1,hi1,hz3,DZ,hz5⟩:=rJ YR
 rw[hN,hB]
 rw[hN]at h0 hlen
 have HI0:=Hh hi0
 have HZ0:=Hh hz0
 have HZ1:=Hh hz1
 have HZ2:=Hh hz2
 have HI1:=Hh hi1
 have HZ3:=Hh hz3
 have HZ4:=Hh DZ
 have HZ5:=Hh hz5
 have BB:=Hh hrow
 have Fg:=Hh hok
 have HN:=Hh hN
 have HB:=Hh hB
 have HX:=Hh hX
 clear hi0 hz0 hz1 hz2 hi1 hz3 DZ hz5 hrow hok hN hX
 obtain⟨R0,hR0⟩:∃R0,DY (List.replicate NN n0)=R0:=⟨_,rfl⟩
 obtain⟨P0,LZ⟩:∃P0,IL (List.replicate NN 0)=P0:=⟨_,rfl⟩
 have Bc:=Hh hR0
 have G5:=Hh LZ
 have HM0:=Hh (show madeCells (Value.agg #[.int .i64 0, .int .i64 0, .int .i64 0, .int .i64 0]).cells (NN*4)=R0 by
  rw[←hR0];unfold DY
  rw[Uc,←MR #[.int .i64 0, .int .i64 0, .int .i64 0, .int .i64 0] (.int .i64 0) ν (fun k hk=>by
   match k,hk with
   |0,_=>rfl
   |1,_=>rfl
   |2,_=>rfl
   |3,_=>rfl
   |k+4,hk=>simp at hk;omega)]
  exact(Array.toArray_toList).symm)
 have HM1:=Hh (show madeCells (Value.int .i64 0).cells (NN*1)=P0 by
  rw[←LZ,afF];unfold IL
  rw[Xq,←MR #[.int .i64 0] (.int .i64 0) ν (fun k hk=>by
   obtain rfl:k=0:=by simpa using hk
   rfl)]
  exact(Array.toArray_toList).symm)
 clear hR0 LZ hB
 refine(callsIn_wide (n:=5)).1 ?_
 refine callsIn_of_wp_marks Tryz.func36 rfl trivial ?_ rfl
 simp only[Tryz.ntmps36,afX,aaJ,List.length_nil,Nat.reduceAdd,Nat.reduceSub,afV,afW,agc,af0,List.nil_append,List.cons_append]
 refine wpIn_wide.2 ?_
 go_wp2_with (first
  |(at_make;refine EH _ rfl _ _ 24 rfl 38 i0 (.agg #[.int .i64 0, .int .i64 0, .int .i64 0, .int .i64 0]) 4 Tryz.underlying24 HI0.out HZ0.out HZ1.out .i64 .i64 NN NN NN rfl rfl rfl rfl (by rw[HZ2.out];omega) η R0 HM0.out ?_)
  |(at_make;refine EH _ rfl _ _ 61 rfl 3 i1 (.int .i64 0) 1 Tryz.underlying61 HI1.out HZ3.out HZ4.out .i64 .i64 NN NN NN rfl rfl rfl rfl (by rw[HZ5.out];omega) η P0 HM1.out ?_)
  |fail)
 obtain⟨b0,hb0⟩:∃b,w.heap.size=b:=⟨_,rfl⟩
 have MS:=Hh hb0
 obtain⟨V0,uy⟩:∃V0,V0=(((w.alloc (.cells #[.slice (some ⟨g,0,none⟩) NN lc] 24)).alloc (.cells R0 38)).alloc (.cells P0 3)).alloc (.cells #[.slice (some ⟨w.heap.size+1+1,0,none⟩) NN NN] 61):=⟨_,rfl⟩
 have wu:Below w.heap.size w V0:=by rw[uy];exact((((Below.refl _ w).alloc (υ _) _).alloc ν _).alloc (by simp<;>omega) _).alloc (by simp<;>omega) _
 have Xn:V0.heap.size=w.heap.size+4:=by rw[uy];simp
 have e0:V0.heap[w.heap.size]? =some (.cells #[.slice (some ⟨g,0,none⟩) NN lc] 24 (0,0)):=by rw[uy,Lib.alloc_old _ _ _ (by simp<;>omega),Lib.alloc_old _ _ _ (by simp<;>omega),Lib.alloc_old _ _ _ ν];exact dz _ _ _
 have e1:V0.heap[w.heap.size+1]? =some (.cells R0 38 (0,0)):=by
  rw[uy,Lib.alloc_old _ _ _ (by simp<;>omega),Lib.alloc_old _ _ _ ν];have:=dz (w.alloc (.cells #[.slice (some ⟨g,0,none⟩) NN lc] 24)) R0 38;simpa using this
 have e2:V0.heap[w.heap.size+1+1]? =some (.cells P0 3 (0,0)):=by
  rw[uy,Lib.alloc_old _ _ _ ν];have:=dz ((w.alloc (.cells #[.slice (some ⟨g,0,none⟩) NN lc] 24)).alloc (.cells R0 38)) P0 3;simpa using this
 have e3:V0.heap[w.heap.size+1+1+1]? =some (.cells #[.slice (some ⟨w.heap.size+1+1,0,none⟩) NN NN] 61 (0,0)):=by
  rw[uy];have:=dz (((w.alloc (.cells #[.slice (some ⟨g,0,none⟩) NN lc] 24)).alloc (.cells R0 38)).alloc (.cells P0 3)) #[.slice (some ⟨w.heap.size+1+1,0,none⟩) NN NN] 61;simpa using this
 rw[←uy]
 clear uy
 simp only[hb0]at wu Xn e0 e1 e2 e3⊢
 clear hb0
 obtain⟨b1,hb1⟩:∃b,b0+1=b:=⟨_,rfl⟩
 simp only[hb1]at e1 e2 e3⊢
 obtain⟨b2,hb2⟩:∃b,b1+1=b:=⟨_,rfl⟩
 simp only[hb2]at e2 e3⊢
 obtain⟨b3,hb3⟩:∃b,b2+1=b:=⟨_,rfl⟩
 simp only[hb3]at e3⊢
 have hst:AhM V0 L g lc b0 b1 b2 b3 (List.replicate NN 0) (List.replicate NN n0):=⟨by rw[HN.out];exact e0,by rw[Bc.out];exact e1,by rw[G5.out];exact e2,by rw[HN.out];exact e3⟩
 have MU:=Hh (show b1=b0+1∧b2=b0+2∧b3=b0+3 from⟨by omega,by omega,by omega⟩)
 have HST:=Hh hst
 have SN:=Hh wu
 have HSV:=Hh Xn
 clear wu Xn e0 e1 e2 e3 hb1 hb2 hb3 hst Bc G5 HM0 HM1
 have agb:=Kl.start Fg.out
 have asC:=Hh agb
 clear agb
 refine wp_loop (aow w L g lc NN b0 b1 b2 b3) (fun a' _=>(intOf (a'.tmps.getD 5 undef)+1).toNat) ?_ ?_
 ·exact⟨NN,_,[],_,_,_,_,_,_,_,_,_,_,_,_,_,_,_,_,_,_,_,_,_,_,_,_,_,_,_,_,_,_,by rfl,υ _,by rw[Nat.sub_self];rfl,HST.out,by rw[←HN.out];exact asC.out,by simp,SN.out,by rw[HSV.out];exact υ _,wH.nil _ _,rfl⟩
 ·rintro a' wr ⟨i,z,ds,pl,rs,u6,u17,u18,u19,u20,u21,u22,u23,u24,u25,u26,u27,u28,u29,u30,u31,u32,u33,u34,u35,u36,u37,u38,u39,u40,u41,u42,u43,hz,hi,hah,hmem,IM,hrl,hbel,hsz,hmk,rfl⟩
  dsimp only[]
  cases i with
  |zero=>
   obtain rfl:z= -1:=by omega
   have Ew:=Hh hmem;have IP:=Hh hmk;have Ey:=Hh hbel;rw[Nat.sub_zero]at hah
   have hrs:qX L=rs:=by unfold qX;rw[HN.out,hah]
   have PU:=Hh hrs;have Ui:=Hh hrl;clear hah hmem IM hrl hbel hsz hmk hrs hz hi
   go_wp2_with fail
   refine QX ν ds wr IP.out fun w' hm=>?_
   rw[show B=b0 from HB.out.symm.trans MS.out];have hbs:=MU.out
   have hr1:=hm.lL Ew.out.h1 (fun e=>by
    obtain⟨-,o,ho,hc⟩:=e
    rw[Ew.out.h1]at ho;cases ho;cases hc)
   refine⟨.slice (some ⟨b1,0,none⟩) NN NN,by simp[results,Tryz.results36,go_sem],_,rfl,?_,Ey.out.trans (hm.below (by have:=Ey.out.size;have:=MS.out;omega) (fun k hk=>hk.1))⟩;rw[PU.out]
   have hl:(rs.flatMap jX).length=NN*4:=by rw[vG 4 jX (fun _=>rfl),Ui.out]
   exact⟨hl, .inr ⟨b1,NN,DY rs,rfl,by omega,hr1,υ _,by unfold maxLen;omega,by rw[Ue,Ui.out],by show List.take (NN*4) (rs.flatMap jX)=_;rw[←hl];exact acR⟩⟩
  |succ j=>
   obtain rfl:z=(j:Int):=by omega
   have Uj:j<NN:=by omega
   obtain⟨lf,k1,k2,k3⟩:=Fg.out j (by rw[HN.out];exact Uj);obtain⟨p,hp⟩:∃p,pl.getD j 0=p:=⟨_,rfl⟩;have hpn:=IM.2 j (by rw[HN.out];exact Uj);rw[k1,hp,HN.out]at hpn
   have hpb:p<NN:=by omega
   have c0:wr.cell? ⟨b0,0,none⟩=some (.slice (some ⟨g,0,none⟩) NN lc):=by simp[World.cell?,hmem.h0,HN.out]
   have c3:wr.cell? ⟨b3,0,none⟩=some (.slice (some ⟨b2,0,none⟩) NN NN):=by simp[World.cell?,hmem.h3,HN.out]
   have cp:=Lg hmem.h2 (j:=j) (by rw[IM.1,HN.out];exact Uj);rw[hp]at cp;have aem:wr.ownsRow X 38 4 (.slice (some ⟨g,0,none⟩) L.length lc) L.length (L.flatMap jX):=gI BB.out (by rw[MS.out];exact hbel);obtain⟨n1,n2,n3,n4⟩:=Ah aem (i:=j) (by rw[HN.out];exact Uj);obtain⟨nd,hnd⟩:∃nd,L.getD j n0=nd:=⟨_,rfl⟩;rw[hnd]at n1 n2 n3 n4 k1
   have HC:=Hh (fun n:Nat=>(show dX (wr.drewN n) g (j*4) (jX nd)from fun q v hv=>by
    match q,hv with
    |0,hv=>cases hv;exact n1
    |1,hv=>cases hv;exact n2
    |2,hv=>cases hv;exact n3
    |3,hv=>cases hv;exact n4
    |q+4,hv=>simp[jX]at hv))
   have Ew:=Hh hmem;have HPI:=Hh IM;have HAH:=Hh hah;have Ey:=Hh hbel;have IP:=Hh hmk;have Be:=Hh hsz;have ji:=Hh k3;have mF:=Hh k1;have eQ:=Hh k2;have MV:=Hh hnd;have Ui:=Hh hrl;have HPN:=Hh hpn;have axq:=Hh aem;have IQ:=Hh hp;clear hmem IM hah hbel hmk hsz k1 k2 k3 hnd hrl hpn aem n1 n2 n3 n4 hp hz
   go_wp2_with fail
   refine jq (C:=fun w'=>∃n,w'=wr.drewN n) 10 (by kernel_rfl) (by kernel_rfl) ⟨1,rfl⟩ ?_;simp only[List.take_succ_cons,List.take_zero,List.drop_succ_cons,List.drop_zero]
   repeat(first
    |(go_big_quiet_want;(with_reducible refine GH 38 _ rfl g (j*4) rfl (jX nd) _ (fun w' hw'=>by obtain⟨n,rfl⟩:=hw';exact HC.out n) Tryz.underlying38 rfl (by kernel_rfl) ?_);go_big_quiet_on;simp only[jX,Act.put,abu,abH,abG])
    |go_big_quiet_step (fail))
   refine abO ?_;rintro w' ⟨nr,rfl⟩
   have akT:p*4+4≤(DY rs).size:=by rw[Ue,Ui.out];omega
   refine qV rfl 38 _ _ rfl b1 (p*4) rfl (jX nd) rfl (DY rs) 38 Ew.out.h1 akT (fun u hu=>by simp[jX]at hu;rcases hu with rfl|rfl|rfl|rfl<;>rfl) (by kernel_rfl) ?_;simp only[Act.put];rw[show(jX nd).length=4 from rfl,aia rs p nd (by rw[Ui.out];exact hpb)];obtain⟨W2,hW2⟩:∃W2,W2=(wr.drewN nr).setRow b1 (DY (rs.set p nd)):=⟨_,rfl⟩
   have hs2:W2.heap.size=wr.heap.size:=by rw[hW2];simp[World.setRow]
   have ho2:∀k,k≠b1→W2.heap[k]? =wr.heap[k]? :=fun k hk=>by
    rw[hW2];simp only[World.setRow,Array.getElem?_modify];rw[χ (fun e=>hk e.symm)];rfl
   have hr2:W2.heap[b1]? =some (.cells (DY (rs.set p nd)) 38 (0,0)):=by rw[hW2];exact setRow_heap _ _ _ _ _ _ Ew.out.h1
   have hbs:=MU.out;have MW:AhM W2 L g lc b0 b1 b2 b3 pl (rs.set p nd):=⟨by rw[ho2 _ η];exact Ew.out.h0,hr2,by rw[ho2 _ η];exact Ew.out.h2,by rw[ho2 _ η];exact Ew.out.h3⟩
   have ZA:Below b0 w W2:=by
    have q:=Ey.out;rw[hW2]
    exact⟨q.os,q.tape,q.output,by simpa[World.setRow]using q.size,fun k hk=>by
     have:=ho2 k η;rw[hW2]at this;rw[this]
     exact q.block k hk⟩
   have akU:wH b0 W2 ds:=IP.out.VY fun D hD=>by
    rw[ho2 D (fun e=>by rw[e,Ew.out.h1]at hD;cases hD)];exact hD
   clear Ew Ey IP ho2 hr2 akT;rw[←hW2];clear hW2
   have c0:W2.cell? ⟨b0,0,none⟩=some (.slice (some ⟨g,0,none⟩) NN lc):=by simp[World.cell?,MW.h0,HN.out]
   have c3:W2.cell? ⟨b3,0,none⟩=some (.slice (some ⟨b2,0,none⟩) NN NN):=by simp[World.cell?,MW.h3,HN.out]
   have cp:=Lg MW.h2 (j:=j) (by rw[HPI.out.1,HN.out];exact Uj);rw[IQ.out]at cp;have ZB:W2.ownsRow X 38 4 (.slice (some ⟨g,0,none⟩) L.length lc) L.length (L.flatMap jX):=gI BB.out (by rw[MS.out];exact ZA);obtain⟨-, -, -,n4⟩:=Ah ZB (i:=j) (by rw[HN.out];exact Uj);rw[MV.out,mF.out]at n4;obtain⟨m,hm⟩:∃m,W2.heap.size=m:=⟨_,rfl⟩;obtain⟨V1,hV1⟩:∃V1,V1=W2.drew.alloc (.cells #[.int .i64 0] 3):=⟨_,rfl⟩
   have aen:Below W2.heap.size W2 V1:=by rw[hV1];exact((Below.refl _ W2).drew).alloc (υ _) _
   have hV:∃V:Nat→World,V 0=W2.drew∧∀j,1≤j→V j=V1:=⟨fun j=>match j with|0=>W2.drew|_=>V1,rfl,fun j hj=>by
    match j,hj with
    |j+1,_=>rfl⟩
   obtain⟨V,uy,hVj⟩:=hV
   have hst:∀(a:Addr) (v:Value),W2.cell? a=some v→∀j,(V j).cell? a=some v:=fun a v hq j=>by
    match j with
    |0=>rw[uy];exact hq
    |j+1=>rw[hVj _ η];exact(aen.cell (World.block_lt_of_cell? W2 a hq)).trans hq
   have d0:=hst _ _ c0;have d3:=hst _ _ c3;have dp:=hst _ _ cp;have d4:=hst _ _ n4
   have hlf:lf≤500000:=by have:=eQ.out;omega
   have HM2:=Hh MW;have Ey:=Hh ZA;have IP:=Hh akU;have HM:=Hh hm;have Im:=Hh hV1;have akV:=Hh aen;have K0:=Hh uy;have K1:=Hh hVj;have HR2:=Hh ZB;have HS2:=Hh hs2;clear MW ZA akU hV1 aen uy hVj hst c0 c3 cp n4 ZB hs2 hbs hm
   go_wp2_with fail
   refine oZ V [10] 11 K0.out (by kernel_rfl) (by kernel_rfl) ?_;simp only[List.take_succ_cons,List.take_zero,List.drop_succ_cons,List.drop_zero];refine nu 10 (by kernel_rfl) ?_;simp only[List.take_succ_cons,List.take_zero,List.drop_succ_cons,List.drop_zero]
   repeat(go_big_quiet_step (fail))
   refine abO ?_;refine xQ 0 (.pointer (some ⟨W2.heap.size,0,none⟩)) (by kernel_rfl) rfl (.inl ?_) ?_
   ·rw[K0.out,K1.out _ (υ _),Im.out]
    kernel_rfl
   refine Du ?_;rw[show V ([10]:List Nat).length=V1 from K1.out _ (υ _)];simp only[Act.put,abu,abH,abG];rw[HM.out];have hm2:=HM.out;have hbs:=MU.out;have hsz:=Be.out;have hs2:=HS2.out
   have v1m:V1.heap[m]? =some (.cells #[.int .i64 0] 3 (0,0)):=by rw[Im.out,←hm2];exact dz W2.drew _ _
   have v1c:V1.cell? ⟨m,0,none⟩=some (.int .i64 0):=by simp[World.cell?,v1m]
   have v1f:V1.frozen? ⟨m,0,none⟩=false:=ab7 v1m 0
   have akW:V1.heap.size=m+1:=by rw[Im.out,←hm2];simp
   have hbv:=akV.out;obtain⟨V2,hV2⟩:∃V2,V2=V1.setCell ⟨m,0,none⟩ (.int .i64 ((p:Int)+((lf:Int)+1))):=⟨_,rfl⟩
   have akX:V2.heap.size=m+1:=by rw[hV2];simpa using akW
   have aeo:Below m W2 V2:=by
    rw[hV2];rw[hm2]at hbv;exact hbv.setCell (υ _) _
   have v2m:V2.heap[m]? =some (.cells #[.int .i64 ((p:Int)+((lf:Int)+1))] 3 (0,0)):=by rw[hV2];have:=gJ (i:=0) (v:= .int .i64 ((p:Int)+((lf:Int)+1))) v1m;simpa using this
   have Fh:∀(k:Nat) (o:Obj),W2.heap[k]? =some o→V2.heap[k]? =some o:=fun k o hk=>aF aeo hk (by have:=(ψ.1 hk).1;omega)
   have CW:=HM2.out;have ZC:AhM V2 L g lc b0 b1 b2 b3 pl (rs.set p nd):=⟨Fh _ _ CW.h0,Fh _ _ CW.h1,Fh _ _ CW.h2,Fh _ _ CW.h3⟩
   have x0:V2.cell? ⟨b0,0,none⟩=some (.slice (some ⟨g,0,none⟩) NN lc):=by simp[World.cell?,ZC.h0,HN.out]
   have x0':(V1.setCell ⟨m,0,none⟩ (.int .i64 ((p:Int)+((lf:Int)+1)))).cell? ⟨b0,0,none⟩=some (.slice (some ⟨g,0,none⟩) NN lc):=by rw[←hV2];exact x0
   have hMV:=Hh ZC;have Ov:=Hh akX;have akY:=Hh aeo;have hK2:=Hh Fh;have hVM:=Hh v2m;have ak0:=Hh hV2;clear hm2 hbs hsz hs2 v1m akW hbv hV2 akX aeo v2m Fh CW ZC x0 d0 d3 dp d4
   go_wp2_with fail
   refine(VI _ _ _ _ _).mono ?_;rintro e we ⟨rfl,rfl⟩;simp only[←ak0.out,Ov.out];clear x0' v1c v1f
   go_wp2_with fail
   obtain⟨V3,Xr⟩:∃V3,V3=(V2.alloc (.cells #[.slice (some ⟨g,0,none⟩) NN lc] 24)).alloc (.cells #[.int .i64 j] 3):=⟨_,rfl⟩
   have ZE:Below V2.heap.size V2 V3:=by rw[Xr];exact(ag _ _).trans ((ag _ _).mono ν)
   have ak1:V3.heap.size=m+3:=by rw[Xr];simp[Ov.out]
   have y0:V3.heap[m+1]? =some (.cells #[.slice (some ⟨g,0,none⟩) NN lc] 24 (0,0)):=by
    rw[Xr,Lib.alloc_old _ _ _ (by simp[Ov.out]),←Ov.out];exact dz _ _ _
   have y1:V3.heap[m+1+1]? =some (.cells #[.int .i64 j] 3 (0,0)):=by
    rw[Xr];have:=dz (V2.alloc (.cells #[.slice (some ⟨g,0,none⟩) NN lc] 24)) #[.int .i64 j] 3;simpa[Ov.out]using this
   rw[←Xr];clear Xr
   have Fj:∀(k:Nat) (o:Obj),W2.heap[k]? =some o→V3.heap[k]? =some o:=fun k o hk=>by have q:=hK2.out k o hk;exact aF ZE q (ψ.1 q).1
   have z2:V3.heap[m]? =some (.cells #[.int .i64 ((p:Int)+((lf:Int)+1))] 3 (0,0)):=aF ZE hVM.out (ψ.1 hVM.out).1;have QR:Below b0 w V3:=(Ey.out.trans (akY.out.mono (by have:=Ey.out.size;have:=MS.out;have:=HM.out;omega))).trans (ZE.mono (by have:=Ey.out.size;have:=MS.out;have:=Ov.out;have:=HM.out;omega))
   have ak2:wH b0 V3 ds:=IP.out.VY fun D hD=>Fj _ _ hD
   have CW:=HM2.out;have ZF:AhM V3 L g lc b0 b1 b2 b3 pl (rs.set p nd):=⟨Fj _ _ CW.h0,Fj _ _ CW.h1,Fj _ _ CW.h2,Fj _ _ CW.h3⟩;have hrow3:V3.ownsRow X 38 4 (.slice (some ⟨g,0,none⟩) L.length lc) L.length (L.flatMap jX):=gI BB.out (by rw[MS.out];exact QR);have ak3:=MV.out;have hseq:=Kd.seq 4 (m+1) (m+1+1) X g lc j lf L V3 (by have:=HX.out;have:=QR.size;have:=MS.out;omega) (by rw[HN.out];exact y0) y1 hrow3 (by rw[HN.out];exact Uj) (by rw[HN.out];omega) (by rw[ak3];exact mF.out) η ji.out (fun _=>by have:=eQ.out;omega);have ad7:=Hh hseq;have HS3:=Hh ak1;have HI0:=Hh (show AhI V3 L b2 m (p+(lf+1)) pl [] V3 from⟨iV.refl _ _,ZF.h2,by rw[z2];simp⟩);have HM3:=Hh ZF;have asD:=Hh ak2;have agd:=Hh QR;clear hseq ak1 ZF ak2 QR hrow3 CW z2 Fj y0 y1 ZE ak3 IP Ey HM2 hMV akY hK2 hVM ak0 Im akV K0 K1;refine Uh ?_;intro T hT;have HT:=Hh hT;clear hT;refine(wpIn_wide (n:=5)).1 ?_;refine AV rfl η (gf:=91) (lb:=#[.pointer (some ⟨m+1,0,none⟩), .pointer (some ⟨m+1+1,0,none⟩)]) (by have h:=HT.out;subst h;rfl) trivial (enters_of Tryz.func91 (by kernel_rfl) rfl) ad7.out (fun k hk=>hk.elim) (fun h k=>h.trans k) (fun W l o o' hl hW ho _=>K3.putObj hW ho) (Below.refl _ _) (fun _=>rfl) (AhI V3 L b2 m (p+(lf+1)) pl) (fun _ _ _=>False) (fun t A B h hm=>h.lL (fun k e=>e) (υ _) hm) (fun c t A B h _=>h) HI0.out (fun(x:Nat) a' W=>a'={tmps:=(T.setIfInBounds 44 (.int .i64 x)).setIfInBounds 7 (.int .i64 x),defers:=[]}) (fun h=>K3.aT h) (fun p a' W l o o' hl ho ha=>ha) ?assign ?body ?done ?stop
   case stop=>rintro Dd c pre W hD _ h _;exact h.elim
   case assign=>
    intro l z W K hK;have hT:=HT.out;subst hT
    gi_wp2_with (fail)
    refine hK _ _ (Below.refl _ W) ?_;simp only[abu,abH,abG]
   case body=>
    rintro l pre x a' W hi ⟨rr,hr⟩ rfl;have hbs:=MU.out;have hsz:=Be.out;have hs2:=HS2.out;have hm2:=HM.out;have hs3:=HS3.out;have h2:=eQ.out;obtain⟨q1,q2,q3⟩:=Ug lf lf (j - 1) (p+(lf+1),pl) pre x rr ji.out (by show lf≤p+(lf+1);omega) hr;have hfl:=Uf L pre (p+(lf+1),pl);have hen:=hi.en;have hpw:=hi.pw;have hmd:=hi.md;have CJ:=HM3.out;obtain⟨E,hE⟩:∃E,(pre.foldl (gU L) (p+(lf+1),pl)).1=E:=⟨_,rfl⟩;obtain⟨PL,hPL⟩:∃PL,(pre.foldl (gU L) (p+(lf+1),pl)).2=PL:=⟨_,rfl⟩;obtain⟨sx,hsx⟩:∃sx,(L.getD x n0).sz=sx:=⟨_,rfl⟩;rw[hE]at q2 q3 hen;rw[hPL]at hfl hpw;rw[hsx]at q2;simp only at q3 hfl;rw[HN.out]at q1;rw[HPI.out.1,HN.out]at hfl;have hpn:=HPN.out;have w0:W.heap[b0]? =some (.cells #[.slice (some ⟨g,0,none⟩) L.length lc] 24 (0,0)):=hmd.lL CJ.h0 η;have w3:W.heap[b3]? =some (.cells #[.slice (some ⟨b2,0,none⟩) L.length L.length] 61 (0,0)):=hmd.lL CJ.h3 η;have hbw:Below b0 w W:=agd.out.trans (hmd.below η (fun k hk=>by omega));have hrw:W.ownsRow X 38 4 (.slice (some ⟨g,0,none⟩) L.length lc) L.length (L.flatMap jX):=gI BB.out (by rw[MS.out];exact hbw);obtain⟨-, -, -,r4⟩:=Ah hrw (i:=x) (by rw[HN.out];exact q1);rw[hsx]at r4
    have a0:W.cell? ⟨b0,0,none⟩=some (.slice (some ⟨g,0,none⟩) NN lc):=by simp[World.cell?,w0,HN.out]
    have am:W.cell? ⟨m,0,none⟩=some (.int .i64 E):=by simp[World.cell?,hen]
    have fm:W.frozen? ⟨m,0,none⟩=false:=ab7 hen 0
    have hne:b2≠m:=by omega
    have hEb:E≤1000000:=by omega
    have hsb:sx≤E:=q2;obtain⟨W4,jB⟩:∃W4,W4=W.setCell ⟨m,0,none⟩ (.int .i64 ((E:Int) - sx)):=⟨_,rfl⟩
    have k4:∀k,k≠m→W4.heap[k]? =W.heap[k]? :=fun k hk=>by rw[jB];exact Below.heap_setCell _ _ _ _ hk
    have m4:W4.heap[m]? =some (.cells #[.int .i64 ((E:Int) - sx)] 3 (0,0)):=by rw[jB];have:=gJ (i:=0) (v:= .int .i64 ((E:Int) - sx)) hen;simpa using this
    have p4:W4.heap[b2]? =some (.cells (IL PL) 3 (0,0)):=by rw[k4 _ hne];exact hpw
    have b4:W4.heap[b3]? =some (.cells #[.slice (some ⟨b2,0,none⟩) L.length L.length] 61 (0,0)):=by rw[k4 _ η];exact w3
    have t4:∀n,(((W.drewN n).setCell ⟨m,0,none⟩ (.int .i64 ((E:Int) - sx))).cell? ⟨b3,0,none⟩=some (.slice (some ⟨b2,0,none⟩) NN NN))∧(((W.drewN n).setCell ⟨m,0,none⟩ (.int .i64 ((E:Int) - sx))).cell? ⟨m,0,none⟩=some (.int .i64 ((E:Int) - sx)))∧(((W.drewN n).setCell ⟨m,0,none⟩ (.int .i64 ((E:Int) - sx))).cell? ⟨b2,x,none⟩=some (.int .i64 (PL.getD x 0)))∧(((W.drewN n).setCell ⟨m,0,none⟩ (.int .i64 ((E:Int) - sx))).frozen? ⟨b2,x,none⟩=false):=fun n=>by
     have e:((W.drewN n).setCell ⟨m,0,none⟩ (.int .i64 ((E:Int) - sx))).heap=W4.heap:=by rw[jB];rfl
     refine⟨?_,?_,?_,?_⟩
     ·unfold World.cell?;rw[e];simp[b4,HN.out]
     ·unfold World.cell?;rw[e];simp[m4]
     ·have:=Lg p4 (j:=x) (by rw[hfl];exact q1)
      unfold World.cell? at this⊢;rw[e];exact this
     ·have:=ab7 p4 x
      unfold World.frozen? at this⊢;rw[e];exact this
    have HI:=Hh hi;have HE:=Hh hE;have HPL:=Hh hPL;have HSX:=Hh hsx;have M4:=Hh m4;have P4:=Hh p4;have T4:=Hh t4;have HW4:=Hh jB;have HEN:=Hh hen;have HFL:=Hh hfl;clear hbs hsz hs2 hm2 hs3 h2 hr hfl hen hpw hmd CJ hE hPL hsx hi w0 w3 hbw hrw k4 m4 p4 b4 t4 hpn q2 q3 jB;have hT:=HT.out;subst hT;simp only[abu,abH,abG]
    gi_wp2_with (fail)
    refine KZ (C:=fun w'=>∃n,w'=W.drewN n) 7 (by kernel_rfl) (by kernel_rfl) ⟨1,rfl⟩ ?_;simp only[List.take_succ_cons,List.take_zero,List.drop_succ_cons,List.drop_zero]
    repeat(go_big_quiet_step (fail))
    refine abO ?_;rintro w' ⟨nr,rfl⟩;obtain⟨u1,u2,u3,u4⟩:=T4.out nr
    go_wp2_with fail
    refine Mh.normal ?_
    gi_wp2_with (fail)
    obtain⟨W5,tO⟩:∃W5,W5=((W.drewN nr).setCell ⟨m,0,none⟩ (.int .i64 ((E:Int) - sx))).setCell ⟨b2,x,none⟩ (.int .i64 ((E:Int) - sx)):=⟨_,rfl⟩;rw[←tO]
    have e4:((W.drewN nr).setCell ⟨m,0,none⟩ (.int .i64 ((E:Int) - sx))).heap=W4.heap:=by rw[HW4.out];rfl
    have k5:∀k,k≠m→k≠b2→W5.heap[k]? =W.heap[k]? :=fun k h1 h2=>by
     rw[tO,Below.heap_setCell _ _ _ _ h2,Below.heap_setCell _ _ _ _ h1];rfl
    have s5:W5.heap.size=W.heap.size:=by rw[tO];simp
    have m5:W5.heap[m]? =some (.cells #[.int .i64 ((E - sx:Nat):Int)] 3 (0,0)):=by
     rw[tO,Below.heap_setCell _ _ _ _ (fun e=>hne e.symm),e4,M4.out,Int.ofNat_sub hsb]
    have p5:W5.heap[b2]? =some (.cells (IL (PL.set x (E - sx))) 3 (0,0)):=by
     have:=gJ (w:=(W.drewN nr).setCell ⟨m,0,none⟩ (.int .i64 ((E:Int) - sx))) (i:=x) (v:= .int .i64 ((E:Int) - sx)) (by rw[e4];exact P4.out);rw[←tO]at this;rw[this,←Int.ofNat_sub hsb,ah9]
    have hfo:(pre++[x]).foldl (gU L) (p+(lf+1),pl)=(E - sx,PL.set x (E - sx)):=by
     rw[List.foldl_append,List.foldl_cons,List.foldl_nil];show((pre.foldl (gU L) (p+(lf+1),pl)).1 - (L.getD x n0).sz,(pre.foldl (gU L) (p+(lf+1),pl)).2.set x ((pre.foldl (gU L) (p+(lf+1),pl)).1 - (L.getD x n0).sz))=_;rw[HE.out,HPL.out,HSX.out]
    have hi:=HI.out;refine⟨⟨by rw[s5];exact υ _,fun k o hB hk ho=>?_⟩,⟨by rw[s5];exact υ _,fun k cs t fz ht hk=>?_⟩,⟨by rw[tO];exact hi.md.os,by rw[tO];exact hi.md.tape,by rw[tO];exact hi.md.output,by rw[s5];exact hi.md.size,fun k hk hs=>?_⟩,by rw[hfo];exact p5,by rw[hfo];exact m5⟩
    ·rw[k5 k (fun e=>by subst e;rw[hi.en]at hk;cases hk;cases ho) (fun e=>by subst e;rw[hi.pw]at hk;cases hk;cases ho)]
     exact hk
    ·rw[k5 k (fun e=>by subst e;rw[hi.en]at hk;cases hk;exact ht rfl) (fun e=>by subst e;rw[hi.pw]at hk;cases hk;exact ht rfl)]
     exact hk
    ·rw[k5 k (fun e=>hs (.inr e)) (fun e=>hs (.inl e))]
     exact hi.md.block k hk hs
   case done=>
    rintro D xs W hD rfl hi hK;have HI:=Hh hi;have HD:=Hh hD;have HK:=Hh hK;clear hi hD hK;have hT:=HT.out;subst hT
    go_wp2_with fail
    have hbs:=MU.out;have hsz:=Be.out;have hs2:=HS2.out;have hm2:=HM.out;have hs3:=HS3.out;have hi:=HI.out;have CJ:=HM3.out
    have hah:Dw L (NN - j) NN (List.replicate NN 0,List.replicate NN n0)=Dv L j (pl,rs):=by
     rw[show NN - j=(NN - (j+1))+1 by omega,Js,HAH.out];show Dv L (NN - (NN - (j+1)) - 1) _=_
     congr 1
     omega
    have hst:Dv L j (pl,rs)=(((oG L lf lf (j - 1)).foldl (gU L) (p+(lf+1),pl)).2,rs.set p nd):=by
     unfold Dv;have e1:=mF.out;have e2:=MV.out;have e3:=IQ.out;simp only[e2,e3,e1,Nat.add_sub_cancel];rw[PS]
    have IM:=Kl.step Fg.out (i:=j) (by rw[HN.out];omega) (st:=(pl,rs)) HPI.out;rw[hst]at hah IM;have hbelW:Below b0 w W:=agd.out.trans (hi.md.below η (fun k hk=>by omega))
    have hkm:∀D':Nat,V3.heap[D']? =some (.deferred (some []))→W.heap[D']? =some (.deferred (some [])):=fun D' hD'=>hi.md.lL hD' (fun e=>by
     rcases e with e|e
     ·rw[e,CJ.h2]at hD';cases hD'
     ·subst e
      have q:=HI0.out.en
      rw[q]at hD';cases hD')
    refine⟨⟨j,_,QE D::ds,_,_,_,_,_,_,_,_,_,_,_,_,_,_,_,_,_,_,_,_,_,_,_,_,_,_,_,_,_,_,by rfl,by omega,hah,⟨hi.md.lL CJ.h0 η,hi.md.lL CJ.h1 η,hi.pw,hi.md.lL CJ.h3 η⟩,IM,by rw[af3];exact Ui.out,hbelW,by have:=hi.md.size;omega,asD.out.push hkm (by have:=HD.out;omega) HK.out HD.out,rfl⟩,?_⟩;simp[intOf];omega
end Go.Proofs.YtlboejdhmggjpaaGreat.Pp
namespace Go.Proofs.YtlboejdhmggjpaaGreat.Pp
open Go.RowKit Go.BigFrame Go.Shelf Go.Proofs.YtlboejdhmggjpaaGreat
attribute [local go_sem] Oper.semAt_some
end Go.Proofs.YtlboejdhmggjpaaGreat.Pp
