import Derived.Test.YtlboejdhmggjpaaGreatRcG
import Derived.Test.YtlboejdhmggjpaaGreatXdM
import Derived.Laws.OwnMore
import Derived.LaidEqlPtr
set_option linter.all false
namespace Go.Proofs.YtlboejdhmggjpaaGreat.Pp
structure Mv where
 d:Nat
 ρ:Bs→Bs
 D:List Nd
 C:List (Bs×Bool)
namespace Mv
variable (m:Mv)
def nR(t:Ct):Ct:=⟨t.c,if t.c=2 then m.ρ t.t else t.t⟩
def mf(p:Bs×Bool):Bs×Bool:=(m.ρ p.1,p.2)
def nd(n:Nd):Nd:=⟨n.k,n.lo+m.d,n.hi+m.d,n.sz⟩
def hd(h:Nat×Nat):Nat×Nat:=(h.1+m.d,h.2+m.D.length)
def st(s:Ps):Ps:=⟨s.af+m.d,m.D++s.done.map m.nd,⟨m.C++s.nm.ch.map m.mf,s.nm.bl.map (· +m.C.length)⟩⟩
def fm(f:Fm):Fm:=⟨f.named,m.ρ f.name,f.ek,f.params.map m.mf⟩
def va:Va→Va
 | .un=> .un
 | .bo b=> .bo b
 | .fo f=> .fo (m.fm f)
 | .pa p=> .pa (p.map m.mf)
def tg:Tg→Tg
 | .yO h=> .yO (m.hd h)
 | .fT k h u=> .fT k (m.hd h) u
 | .jG h=> .jG (m.hd h)
 | .jf h=> .jf (m.hd h)
 | .eT f a=> .eT (m.fm f) a
 | .body p=> .body (p.map m.mf)
 | .iG h=> .iG (m.hd h)
 | .jg t h=> .jg t (m.hd h)
 | .jH t h=> .jH t (m.hd h)
 |t=>t
end Mv
structure Mk (m:Mv) (l l':List Ct) (base base':Bs→Bool):Prop where
 nR:∀i,l'.getD (i+m.d) ⟨0,[]⟩=m.nR (l.getD i ⟨0,[]⟩)
 len:l'.length=l.length+m.d
 inj:∀x y,m.ρ x=m.ρ y→x=y
 emp:m.ρ []=[]
 OT:∀x,((m.C.reverse.find? fun p=>p.1==m.ρ x).map (·.2)).getD (base' (m.ρ x))=base x
section
variable {m:Mv} {α α' β β':Type} {f:α→α'} {g:β→β'}
end
section
variable {m:Mv} {l l':List Ct} {base base':Bs→Bool} (K:Mk m l l' base base') {α α':Type} {f:α→α'}
include K
end
section
variable {m:Mv} {l l':List Ct} {base base':Bs→Bool} (K:Mk m l l' base base')
end
section
variable {m:Mv} {R R':Tg→Pm Va}
end
section
variable {m:Mv} {l l':List Ct} {base base':Bs→Bool} (K:Mk m l l' base base')
include K
end
set_option maxRecDepth 100000
end Go.Proofs.YtlboejdhmggjpaaGreat.Pp
namespace Go.Proofs.YtlboejdhmggjpaaGreat.Pp.Dr
set_option maxRecDepth 10000
def VH(x:Sx)(_:Va)(_:Ps)(r:Sx):Prop:=∃t,VK x r t∧47≤t.k
def cS0:List Nat:=[64,14,42,30,46,41,13,32,27,28,22,18,33,40,47,48,36,39,20]
def cS1:List Nat:=cS0++[38,21,35,52,10,29,26,50,44]
def RO:List Nat:=cS0++[2,74,60,62]
section
variable {l:List Ct} {base:Bs→Bool} {B:List Sd} {D D2:List Nd}
def tt{α:Type}(_:α)(_:Ps)(_:Sx):Prop:=True
theorem lW{α:Type}{C1:List Nat}{V:α→Ps→Sx→Prop}{w:Bs}{f:Nat}{r:Sx}{R:Rs α}(hL:l.length≤90)(hw:w.headD 0≠64)(h:Sm l (r.af+1) C1 B D V (dl l (.call w r)) R):Sm l (r.af+1) C1 B D tt (wr (fun z=>z) (dl l (.seq [.nm w] f [r]))) R:=by
 have e:∀zs,dl l (.call w r)=some zs→eP l (r.af+1) zs→wr (fun z=>z) (dl l (.seq [.nm w] f [r]))=some zs:=fun zs h hd=>by
  unfold wr;rw[bJ,bX,fe hw,h,Ξ,hd.aG hL,Ξ,dH,Ξ,hd.aG hL];show some (zs.map _)=_;rw[List.map_id']
 cases R with
 |out=>trivial
 |no=>obtain⟨zs,h1,h2⟩:=h;exact⟨zs,e zs h1 h2.1,h2⟩
 |ok a s=>obtain⟨zs,r1,h1,h2,h3, -⟩:=h;exact⟨zs,r1,e zs h1 h2.1,h2,h3,trivial⟩
theorem EN{α β:Type}{p P:Nat}{C C1 C2:List Nat}{D1:List Nd}{V2:β→Ps→Sx→Prop}{xs:List Sx}{r:Sx}{a:List (List Sy)}{y:List Sy}{ys:List Sy}{f:Nat}{m:Pm α}{k:α→Pm β}{s:Ps}{g:Sx→Sx}(i:Nat){c:Nat→Bool}
  (hL:l.length≤90) (hF:Fr l p C xs r) (hi:a[i]? =some y) (ht:tb c (aiZ a i)=true) (hc:c (kd l r.env r.af)=true) (hd:(C.all fun c=>dd c (.jy a))=true) (hg:Kp g) (hP:P≤r.af+1) (h:Sm l (r.af+1) C1 B D1 tt (wr (fun z=>z) (dl l (.seq y r.af [r]))) (m s)) (hth:qm C2 C1 ys=true)
  (hk:∀v s1 r1 gB,m s= .ok v s1→Fr l (r.af+1) C1 gB r1→r.af+1≤r1.af→Rl l B D1 s1 r1→Sm l P C2 B D2 V2 (wr g (dl l (.seq ys f gB))) (k v s1)):Sm l P C2 B D2 V2 (wr g (dl l (.seq (.jy a::ys) f xs))) ((m>>=k) s):=by
 have hlv:lv C (.jy a)=[]:=afN.2 fun c hc=>by rw[(Θ.1 hd) c hc];decide
 have hst:zH C (.jy a)=true:=Θ.2 fun c hc=>by rw[(Θ.1 hd) c hc];rfl
 refine kU (q:=r.af+1) (p':=r.af+1) (C1:=C1) (V:=tt) hL hF (by rw[wP,vV i hi ht hc];exact BX h) (abK _) hg (υ _) (.inl hlv) (.inl hP) hst (by rw[hlv];exact hth) fun v s1 r1 gB e h1 h2 h3 _=>hk v s1 r1 gB e (by rw[hlv]at h1;exact h1) h2 h3
theorem uw{α β:Type}{p P:Nat}{C C1 C2 F:List Nat}{D1:List Nd}{V2:β→Ps→Sx→Prop}{xs:List Sx}{r:Sx}{y ys:List Sy}{f:Nat}{m:Pm α}{k:α→Pm β}{s:Ps}{g:Sx→Sx}
  (hL:l.length≤90) (hF:Fr l p C xs r) (hf:aJ F (kc l r.af)=true) (hg:Kp g) (hP:P≤p∨qm [] (lv C (.dO [y])++(F++C1)) ys=true) (h:Sm l (r.af+1) C1 B D1 tt (wr (fun z=>z) (dl l (.seq y r.af [r]))) (m s)) (hs:zH C (.dO [y])=true) (hth:qm C2 (lv C (.dO [y])++(F++C1)) ys=true)
  (hk:∀v s1 r1 gB,m s= .ok v s1→Fr l p (lv C (.dO [y])++(F++C1)) gB r1→r.af≤r1.af→Rl l B D1 s1 r1→Sm l P C2 B D2 V2 (wr g (dl l (.seq ys f gB))) (k v s1)):Sm l P C2 B D2 V2 (wr g (dl l (.seq (.dO [y]::ys) f xs))) ((m>>=k) s):=
 kU (q:=r.af) (p':=p) (V:=tt) hL hF (Ry f hL (aar _) hF.lo.2 hf (by rw[ou];exact BX h)) (υ _) hg hF.lo.1 (.inr (υ _)) hP hs hth fun v s1 r1 gB e h1 h2 h3 _=>hk v s1 r1 gB e h1 h2 h3
theorem ow(hL:l.length≤90){p:Nat}{C:List Nat}{xs:List Sx}{r:Sx}{a:List (List Sy)}{ys:List Sy}{f:Nat}{c:Nat→Bool}(hF:Fr l p C xs r)(ht:tb c (FZ a)=true)(hc:c (kd l r.env r.af)=true)(hs:zH C (.dO a)=true):∃xs',dl l (.seq (.dO a::ys) f xs)=dl l (.seq ys f xs')∧Fr l p (lv C (.dO a)) xs' r:=EL hL ys hF (vO (mq ht hc) f) rfl hs
def Tin(l:List Ct)(B:List Sd)(D:List Nd)(x:Sx):Rs Va→Prop
 | .ok _ s1=>∃r t,Rl l B D s1 r∧VK x r t∧x.af+3≤r.af∧∀ys f,dl l (.seq (.tx [40]:: .nm qF:: .tx [41]::ys) f [x])=dl l (.seq ys f [r])
 | .no=>∀ys f,dl l (.seq (.tx [40]:: .nm qF:: .tx [41]::ys) f [x])=some []
 | .out=>True
theorem vY{n:Nat}(hL:l.length≤90)(iht:∀k,k<n→dZ l base B (.call qF) .kg RO (fun x=>VU x) k){x:Sx}{s:Ps}(hx:Rl l B D s x):Tin l B D x (run l base n .mW s):=by
 cases n with
 |zero=>rw[run];trivial
 |succ n=>
  rw[run];have h1:=iQ hx (t:=[40]) rfl ζ
  cases c1:aO (kd l x.env x.af) [40]with
  |false=>
   rw[zZ (h1.trans c1)]
   exact fun ys f=>il (kM f ζ c1)
  |true=>
   rw[sQ (h1.trans c1)]
   have e1:∀ys f,dl l (.seq (.tx [40]:: .nm qF:: .tx [41]::ys) f [x])=((dl l (.call qF (up x))).bind aG).bind fun z=>dl l (.seq (.tx [41]::ys) f z):=fun ys f=>by
    rw[bH (dL f ζ c1),bJ,bX,fe ζ]
   have hu:=hx.up (dQ ζ c1);have hi:=iht n (aar n) (up x) (bU s) D hu;show Tin l B D x (Pm.bind (run l base n .kg) _ (bU s));unfold Pm.bind
   cases e:run l base n .kg (bU s)with
   |out=>trivial
   |no=>
    rw[e]at hi;obtain⟨xs,h2,h3⟩:=hi;intro ys f;rw[e1,h2,Ξ,h3.1.aG hL,Ξ,bJ,ja fun z hz=>wQ ((Θ.1 (by decide+kernel:(RO.all fun c=>dd c (.tx [41]))=true)) _ (aU.1 (h3.2 z hz))) rfl f];exact lN ys f
   |ok v s1=>
    rw[e]at hi;obtain⟨xs,r,h2,h3,h4,t,h5⟩:=hi;have h6:=iQ h4 (t:=[41]) rfl ζ;have h7:=h3.lo.1;have h7:x.af+1+1≤r.af:=h7;show Tin l B D x ((bY l [41]>>=fun _=>pure Va.un) s1)
    cases c2:aO (kd l r.env r.af) [41]with
    |false=>
     rw[zZ (h6.trans c2)];intro ys f;rw[e1,h2,Ξ,h3.1.aG hL,Ξ];obtain⟨A,Z,rfl,jK⟩:=h3.2;rw[bJ,ja fun z hz=>?_]
     ·exact lN ys f
     ·rcases h3.mem.2 z hz with rfl|hz
      ·exact kM f ζ c2
      ·exact wQ ((Θ.1 (by decide+kernel:(RO.all fun c=>dd c (.tx [41]))=true)) _ (aU.1 hz.1)) rfl f
    |true=>
     rw[sQ (h6.trans c2)];refine⟨up r,t,h4.up (dQ ζ c2),h5,by show _≤r.af+1;omega,fun ys f=>?_⟩;rw[e1,h2,Ξ,h3.1.aG hL,Ξ];exact Jy h3 (dL f ζ c2) θ θ
def vZ(l:List Ct)(it:Nat→Pm Va)(stop:Ps→Bool):Nat→Pm Va
 |0=>FJ
 |n+1=>fun s=>if aX l s 0 [44]=true∧stop s=false then(it n>>=fun _=>vZ l it stop n) (bU s)else .ok Va.un s
theorem aaK{k:Nat}{t:Bs}(ys:List Sy)(h0:bg t≠0)(h:aO k t=false)(h1:bg t≠1:=by decide)(h2:bg t≠2:=by decide):jb uX 8 k (.tx t::ys)=true:=by
 unfold jb
 rw[h,acm.2 h0,acm.2 h1,acm.2 h2];rfl
theorem JA{w:Bs}{it:Nat→Pm Va}{stop:Ps→Bool}{Cw E:List Nat}{V:Sx→Va→Ps→Sx→Prop}{I:Sx→Prop}{m f:Nat}{s:Ps}{r:Sx}(hL:l.length≤90)(hw:w.headD 0≠64)(hC:(Cw.all fun c=>dd c (.jy [[.tx [44], .nm w]]))=true)(hE:Cw.all (aJ E)=true)(hI:∀x,I x→I (up x))(hV:∀x v s r,I x→V x v s r→I r)
  (hst:∀s r D,Rl l B D s r→aX l s 0 [44]=true→(stop s=true→gT l [[.tx [44], .nm w]] r=some [])∧(stop s=false→aJ E (kc l r.af)=true))
  (ih:∀k,k<m→∀x s D,Rl l B D s x→I x→Sm l (x.af+1) Cw B D (V x) (dl l (.call w x)) (it k s)) (hr:Rl l B D s r) (hi:I r):Sm l r.af E B D (fun _ _ r1=>I r1) (dl l (.ay (.bV [[.tx [44], .nm w]]) r f)) (vZ l it stop m s):=by
 refine xW (C:=Cw) (I:=fun(_:Unit) _ r=>I r) (loop:=fun m _=>vZ l it stop m) (i:=()) hL hC hE (fun m' _ s r hm hr hi=>?_) hr hi
 cases m' with
 |zero=>exact .inr (.inl rfl)
 |succ k=>
  have hq:=iQ hr (t:=[44]) rfl ζ
  cases c:aX l s 0 [44]with
  |false=>exact .inl ⟨Ib (by unfold FZ;rw[List.all_cons,aaK _ ζ (hq.symm.trans c)];rfl),Va.un,by show(if _ then _ else _)=_;rw[c,χ fun h=>by cases h.1],hi⟩
  |true=>
   obtain⟨h1,h2⟩:=hst s r D hr c
   cases c2:stop s with
   |true=>exact .inl ⟨h1 c2,Va.un,by show(if _ then _ else _)=_;rw[c2,χ fun h=>by cases h.2],hi⟩
   |false=>
    refine .inr (.inr ⟨h2 c2,k,fun s=>it k (bU s),fun _=>(),aar k,by show(if _ then _ else _)=_;rw[c,c2,ω ⟨rfl,rfl⟩];rfl,?_⟩);have hu:=hr.up (dQ (t:=[44]) ζ (hq.symm.trans c))
    have e1:gT l [[.tx [44], .nm w]] r=(dl l (.seq [.nm w] r.af [up r])).bind aG:=by unfold gT;rw[bX,bH (dL _ ζ (hq.symm.trans c))]
    rw[e1];refine BX (ahi (p:=r.af+1) (C:=[]) (V:=V (up r)) hL (.ay (υ _) hu.le) (ih k η (up r) (bU s) D hu (hI r hi)) jW (by show _≤r.af+1+1;omega) hw rfl (by rw[Θ];exact fun x hx=>aU.2 hx) fun v s1 r1 h3 h4=>⟨h3,hV (up r) v s1 r1 (hI r hi) h4⟩)
theorem Ic{w:Bs}{it:Nat→Pm Va}{stop:Ps→Bool}{Cw E:List Nat}{V:Sx→Va→Ps→Sx→Prop}{m f:Nat}{s:Ps}{r:Sx}(hL:l.length≤90)(hw:w.headD 0≠64)(hC:(Cw.all fun c=>dd c (.jy [[.tx [44], .nm w]]))=true)(hE:Cw.all (aJ E)=true)
  (hst:∀s r D,Rl l B D s r→aX l s 0 [44]=true→(stop s=true→gT l [[.tx [44], .nm w]] r=some [])∧(stop s=false→aJ E (kc l r.af)=true))
  (ih:∀k,k<m→∀x s D,Rl l B D s x→Sm l (x.af+1) Cw B D (V x) (dl l (.call w x)) (it k s)) (hr:Rl l B D s r):Sm l r.af E B D (fun _ _ _=>True) (dl l (.ay (.bV [[.tx [44], .nm w]]) r f)) (vZ l it stop m s):=
 JA (I:=fun _=>True) hL hw hC hE (fun _ _=>trivial) (fun _ _ _ _ _ _=>trivial) hst (fun k hk x s D hx _=>ih k hk x s D hx) hr trivial
def Bv(c:Nat):List Nat:=(List.range KN).filter (· !=c)
theorem DF(p:Nat):kc l p<KN:=by
 have h1:=(wN (bz l p) (bM l p)).1
 have h1:k0 l p<110:=h1
 unfold kc Rh KN
 repeat' split
 all_goals omega
theorem AP{t:Bs}{c:Nat}{env:List (List Sd)}{p:Nat}(h:aO (kd l env p) t=false)(hc:bg t=c)(h0:c≠0)(h3:c≠67)(h1:c≠1:=by decide)(h2:c≠2:=by decide):aJ (Bv c) (kc l p)=true:=by
 have e:=mZ (l:=l) (p:=p) hc h0 h3
 rw[iZ env p η η η,h]at e
 exact aU.2 (afx.2 ⟨acD.2 (DF p),by rw[bne,←e];rfl⟩)
theorem tJ{s:Ps}{r:Sx}(hr:Rl l B D s r)(h:aX l s 0 [44]=true):aJ [67,110,111] (kc l r.af)=true:=KO (by rw[iZ r.env r.af ζ,←iQ hr rfl ζ];exact h)
theorem RP:∀n,run l base n .xN=vZ l (fun n=>run l base n .assign) (fun _=>false) n
 |0=>by funext s;rw[run];rfl
 |n+1=>by
  funext s
  rw[run]
  show _=if _ then _ else _
  cases c:aX l s 0 [44]with
  |false=>rw[dM c];rfl
  |true=>rw[dM c,RP n];rfl
theorem ahn{n:Nat}(hL:l.length≤90)(iha:∀k,k<n→dZ l base B (.call jk) .assign lI (fun x=>VU x) k){x:Sx}{s:Ps}(hs:aX l s 0 [40]=true)(hx:Rl l B D (bU s) x):Sm l (x.af+1) [] B D (fun _ _ r=>True) (dl l (.args x)) (run l base n .call s):=by
 have e0:dl l (.args x)=(dl l (.seq [.dO [[.nm jk, .bV [[.tx [44], .nm jk]]]], .tx [41]] x.af [x])).bind aG:=by rw[fM];rfl
 rw[e0]
 refine BX ?_
 cases n with
 |zero=>rw[run];trivial
 |succ n=>
  rw[run,sQ hs];have hq:=iQ hx (t:=[41]) rfl ζ;show Sm l (x.af+1) [] B D _ _ ((fU l [41]>>=_) (bU s))
  cases c:aO (kd l x.env x.af) [41]with
  |true=>
   rw[dM (hq.trans c)];have hd:gT l [[.nm jk, .bV [[.tx [44], .nm jk]]]] x=some []:=mq (c:=fun k=>aO k [41]) θ c;rw[bH (vO hd _),bH (dL _ ζ c)];have hu:=hx.up (dQ ζ c);exact mr (p:=x.af+1) (C:=[]) hL (.ay (υ _) hu.le) (υ _) rfl jW hu trivial
  |false=>
   rw[dM (hq.trans c)]
   have hb:(do let _←run l base n .assign;let _←run l base n .xN;bY l [41];pure Va.un:Pm Va)=((run l base n .assign>>=fun _=>run l base n .xN)>>=fun _=>bY l [41]>>=fun _=>pure Va.un):=by rw[bG]
   show Sm l (x.af+1) [] B D _ _ ((do let _←run l base n .assign;let _←run l base n .xN;bY l [41];pure Va.un:Pm Va) (bU s));rw[hb]
   have hin:Sm l (x.af+1) zJ B D (fun _ _ _=>True) (gT l [[.nm jk, .bV [[.tx [44], .nm jk]]]] x) ((run l base n .assign>>=fun _=>run l base n .xN) (bU s)):=by
    have e1:gT l [[.nm jk, .bV [[.tx [44], .nm jk]]]] x=(dl l (.seq [.nm jk, .bV [[.tx [44], .nm jk]]] x.af [x])).bind aG:=by unfold gT;rw[bX]
    rw[e1];refine BX ?_
    refine dV hL (.ay (p:=x.af) (C:=[]) (υ _) hx.le) (iha n (aar n) _ _ _ hx) jW (υ _) ζ rfl θ fun v s1 r1 gB _ hF1 h1 hl1 _=>?_
    rw[←wR (run l base n .xN),RP]
    exact kU (q:=r1.af) (p':=x.af+1) (C1:=zJ) (V:=fun _ _ _=>True) hL hF1 (Ic hL ζ θ θ (fun s r D hr h=>⟨(fun h=>(by cases h)),fun _=>lU (C:=[67,110,111]) θ (tJ hr h)⟩) (fun k hk x s D hx=>iha k η x s D hx) hl1) (υ _) jW h1 (.inr (υ _)) (.inl (υ _)) θ θ fun v s2 r2 jM _ hF2 _ hl2 _=>mr hL hF2 (υ _) θ jW hl2 trivial
   refine kU (q:=x.af) (p':=x.af) (C:=[]) (C1:=Bv 61++zJ) hL (.ay (υ _) hx.le) (Ry _ hL (aar _) hx.le (AP c ζ ζ ζ) hin) (υ _) jW (υ _) (.inl rfl) (.inr θ) rfl θ fun v s2 r2 jM _ hF2 h2 hl2 _=>?_
   ·refine eD hF2 hl2 η rfl ζ ζ ζ θ fun RJ hl3=>?_
    exact mr hL RJ η rfl jW hl3 trivial
end
section
variable {l:List Ct} {base:Bs→Bool} {B:List Sd} {D D2:List Nd}
def H1(r:Sx):Prop:=∃t,r.ah=[t]∧47≤t.k
theorem JB{x:Sx}{s:Ps}(hx:Rl l B D s x):Sm l (x.af+1) [] B D (fun v s1 r=>v=bM l x.af∧r=up x∧s1=bU s) (dl l (.call nT x)) (l9 l s):=by
 have hc:(az l s 0).c=bz l x.af:=by rw[hx.af];exact ku s 0
 have ht:(az l s 0).t=bM l x.af:=by rw[hx.af];rfl
 rw[vQ]
 unfold l9
 rw[hc,ht]
 by_cases c:bz l x.af=2
 ·rw[ω c,c]
  have hu:=hx.up (by rw[eY];rcases(mo x.env x.af).1.1 c with c|c<;>rw[c]<;>decide);exact .ay rfl (υ _) hu ⟨rfl,rfl,rfl⟩
 ·rw[χ c,abF c]
  exact .nil rfl
theorem NT{α β:Type}{p:Nat}{C:List Nat}{V:α→Ps→Sx→Prop}{V2:β→Ps→Sx→Prop}{o:Option (List Sx)}{m:Pm α}{b:β}{s:Ps}(h:Sm l p C B D V o (m s))(hv:∀a s r,V a s r→V2 b s r):Sm l p C B D V2 o ((m>>=fun _=>pure b) s):=by
 show Sm l p C B D V2 o (Pm.bind m _ s)
 unfold Pm.bind
 cases e:m s with
 |out=>trivial
 |no=>rw[e]at h;exact h
 |ok a s1=>rw[e]at h;obtain⟨xs,r,h1,h2,h3,h4⟩:=h;exact⟨xs,r,h1,h2,h3,hv a s1 r h4⟩
theorem JC{k:Nat}{x r:Sx}{s0 s:Ps}{t:Tr}{o:Option (List Sx)}{m:Pm Va}{s':Ps}{V:Va→Ps→Sx→Prop}{C:List Nat}(hk:47≤k)(hx:Rl l B D s0 x)(hr:Rl l B s0.done s r)(ht:r.ah=[t])(h:Sm l (r.af+1) [] B s.done V o (m s')):
  Sm l (r.af+1) C B s0.done (fun _ _ r2=>H1 r2) (o.bind fun zs=>some (zs.map fun y=>iA k x.af y (r.ah.headD zT::y.ah))) ((m>>=fun _=>node l k (s0.af,s0.done.length)>>=fun _=>pure Va.un) s'):=by
 show Sm l _ _ B _ _ _ (Pm.bind m _ s')
 unfold Pm.bind
 rw[ht]
 cases e:m s' with
 |out=>trivial
 |no=>rw[e]at h;obtain⟨zs,rfl,h4⟩:=h;exact⟨_,rfl,(h4.map (g:=fun y=>iA k x.af y (([t]:List Tr).headD zT::y.ah)) fun _=>rfl).le (υ _) rfl⟩
 |ok v s1=>
  rw[e]at h;obtain⟨zs,r1,rfl,h4,hl, -⟩:=h;show Sm l _ _ B _ _ _ ((node l k (s0.af,s0.done.length)>>=fun _=>pure Va.un) s1)
  rcases xD (l:=l) (k:=k) (h:=(s0.af,s0.done.length)) (s:=s1) (f:=fun _=>pure Va.un)with e|⟨-,e⟩
  ·rw[e];trivial
  ·rw[e]
   refine⟨_,_,rfl,(h4.map (g:=fun y=>iA k x.af y (([t]:List Tr).headD zT::y.ah)) (fun _=>rfl)).le (υ _) rfl,⟨hl.af,hl.le,hl.env,?_,hl.bk⟩,_,rfl,hk⟩
   have hd:s1.done=s0.done++fG (t::r1.ah):=by
    rw[hl.dn,hr.dn,ht,Ψ,←nV];rfl
   show s1.done++_=s0.done++fG [_];rw[nW,post,hd,hx.af,hl.af,Ψ]
   congr 3
   simp
theorem aaL{x t:Sx}(ht:aJ [6] (kc l t.af)=true):jF l (dl l) x t=some []:=by
 have e:kc l t.af=6:=Φ.1 (aU.1 ht)
 unfold jF ru
 rw[mZ (t:=[91]) (c:=62) ζ ζ ζ,mZ (t:=[40]) (c:=60) ζ ζ ζ,mZ (t:=[46]) (c:=69) ζ ζ ζ,mZ (t:=Hy) (c:=70) ζ ζ ζ,mZ (t:=El) (c:=71) ζ ζ ζ,mZ (t:=Em) (c:=72) ζ ζ ζ,e]
 rfl
theorem kz{t:Bs}{c:Nat}{env:List (List Sd)}{p:Nat}(h:aO (kd l env p) t=true)(hc:bg t=c)(h0:c≠0)(h3:c≠67)(h1:c≠1:=by decide)(h2:c≠2:=by decide):kc l p=c:=by
 have e:=mZ (l:=l) (p:=p) hc h0 h3
 rw[iZ env p η η η,h]at e
 exact aaZ.1 e.symm
theorem LQ{M:Nat}(hL:l.length≤90)(BI:∀k,k<M→dZ l base B (.call lq) .o9 zJ (fun x=>VU x) k)(iha:∀k,k<M→dZ l base B (.call jk) .assign lI (fun x=>VU x) k){x:Sx}{s0:Ps}(hx:Rl l B D s0 x){p:Nat}{s:Ps}{r:Sx}{xs:List Sx}(hF:Fr l p [6] xs r)(hr:Rl l B s0.done s r)(hi:H1 r):Sm l p J4 B D (VH x) (dl l (.iO x xs)) (run l base M (.jf (s0.af,s0.done.length)) s):=by
 have hZ:∀xs,xs≠[]→dl l (.iO x xs)=(bu (jF l (dl l) x) xs).bind fun y=>(dl l (.iO x y)).bind fun z=>aG (xs.map (dF x)++z):=fun xs hxs=>by
  rw[fM];show(if xs.isEmpty then _ else _)=_;rw[χ (by simpa using hxs)]
 refine NI (l:=l) (B:=B) (D:=s0.done) (D2:=D) (V:=VH x) (nx:=jF l (dl l) x) (Z:=fun xs=>dl l (.iO x xs)) (pt:=dF x) (C:=[6]) (E:=J4) (I:=fun(_:Unit) _ r=>H1 r) (loop:=fun m _=>run l base m (.jf (s0.af,s0.done.length))) hL (AL x) hZ (fun z=>rfl) (fun _=>aaL) ζ (M:=M) (fun m _ s r hm hr hi=>?_) M p () s r xs (υ M) hF hr hi
 obtain⟨t,ht,htk⟩:=hi
 cases m with
 |zero=>exact .inr (.inl (by show run l base 0 _ s=_;rw[run]))
 |succ n=>
  show(_∧∃v,run l base (n+1) _ s=_∧_)∨run l base (n+1) _ s=_∨_;rw[run,y8]
  have yg:∀u:Bs,rP u=true→bg u≠0→bg u≠1→bg u≠2→(dJ l r.af u=true↔((az l s 0).c=7∧(az l s 0).t=u)):=fun u h1 h2 h3 h4=>by rw[LP hr h1 h2 h3 h4,iZ r.env r.af h2 h3 h4]
  have i1:=yg [91] rfl ζ ζ ζ;have i2:=yg [40] rfl ζ ζ ζ;have i3:=yg [46] rfl ζ ζ ζ;have i4:=yg Hy rfl ζ ζ ζ;have i5:=yg El rfl ζ ζ ζ;have i6:=yg Em rfl ζ ζ ζ
  have hstop:dJ l r.af [91]=false→dJ l r.af [40]=false→(dJ l r.af [46]||dJ l r.af Hy)=false→(dJ l r.af El||dJ l r.af Em)=false→jF l (dl l) x r=some []:=fun a b c d=>by
   unfold jF ru;rw[a,b,c,d];rfl
  have pf:=fun(b:Bool)=>(acL b).mp
  obtain⟨pa,pb⟩:=AO hx hr ht;by_cases c7:(az l s 0).c=7
  case neg=>
   rw[ω c7];refine .inl ⟨hstop (pf _ fun h=>c7 (i1.1 h).1) (pf _ fun h=>c7 (i2.1 h).1) (pf _ fun h=>?_) (pf _ fun h=>?_),_,rfl,pa,t,pb,htk⟩
   ·rcases ack _ _▸h with h|h
    ·exact c7 (i3.1 h).1
    ·exact c7 (i4.1 h).1
   ·rcases ack _ _▸h with h|h
    ·exact c7 (i5.1 h).1
    ·exact c7 (i6.1 h).1
  rw[χ fun h=>h c7]
  have hsg:∀{u:Bs},rP u=true→bg u≠0→bg u≠1→bg u≠2→(az l s 0).t=u→aO (kd l r.env r.af) u=true∧dJ l r.af u=true:=fun{u} h1 h2 h3 h4 h=>⟨(LP hr h1 h2 h3 h4).1 ⟨c7,h⟩,(yg u h1 h2 h3 h4).2 ⟨c7,h⟩⟩
  have hoff:∀{u:Bs},rP u=true→bg u≠0→bg u≠1→bg u≠2→(az l s 0).t≠u→dJ l r.af u=false:=fun{u} h1 h2 h3 h4 h=>pf _ fun q=>h ((yg u h1 h2 h3 h4).1 q).2
  have hfr:∀{u:Bs},bg u≠0→aO (kd l r.env r.af) u=true→Rl l B s.done (bU s) {af:=r.af+1,env:=r.env}∧s.af+1≤l.length:=fun{u} h0 h=>by
   have hl:=LK (dQ h0 h);exact⟨⟨by show r.af+1=s.af+1;rw[hr.af],hl,hr.env,by simp[fG,bU],hr.bk⟩,by rw[←hr.af];exact hl⟩
  by_cases d1:(az l s 0).t=[91]
  ·rw[ω d1]
   obtain⟨e1,e2⟩:=hsg rfl ζ ζ ζ d1;obtain⟨hf,hs⟩:=hfr ζ e1;refine .inr (.inr ⟨by rw[kz e1 (c:=62) ζ ζ ζ];decide,n,fun s=>((run l base n .o9>>=fun _=>bY l [93]>>=fun _=>pure Va.un)>>=fun _=>node l 49 (s0.af,s0.done.length)>>=fun _=>pure Va.un) (bU s),fun _=>(),aar n,?_,?_⟩)
   ·rw[vT hs]
    show _=((((run l base n .o9>>=fun _=>bY l [93]>>=fun _=>pure Va.un)>>=fun _=>node l 49 (s0.af,s0.done.length)>>=fun _=>pure Va.un))>>=fun _=>run l base n (.jf (s0.af,s0.done.length))) (bU s);simp only[bG];rfl
   ·have e3:jF l (dl l) x r=((dl l (.seq [.nm lq, .tx [93]] (r.af+1) [{af:=r.af+1,env:=r.env}])).bind aG).bind fun zs=>some (zs.map fun y=>iA 49 x.af y (r.ah.headD zT::y.ah)):=by
     unfold jF ru;rw[ω e2];generalize (dl l (.seq [.nm lq, .tx [93]] (r.af+1) [{af:=r.af+1,env:=r.env}])).bind aG=o
     cases o<;>rfl
    rw[e3];refine JC (k:=49) (s:=s) (V:=fun _ _ _=>True) ζ hx hr ht (BX (dV (ys:=[.tx [93]]) hL (.ay (p:=r.af+1) (C:=[]) (υ _) hf.le) (BI n η _ _ _ hf) jW (abK _) ζ rfl θ fun v s2 r2 jM _ hF2 h2 hl2 _=>?_));have h2:r.af+1+1≤r2.af:=h2
    refine eD hF2 hl2 η rfl ζ ζ ζ θ fun RJ hl3=>?_
    exact mr (V:=fun _ _ _=>True) hL RJ η rfl jW hl3 trivial
  rw[χ d1];by_cases d2:(az l s 0).t=[40]
  ·rw[ω d2]
   obtain⟨e1,e2⟩:=hsg rfl ζ ζ ζ d2;obtain⟨hf,hs⟩:=hfr ζ e1;refine .inr (.inr ⟨by rw[kz e1 (c:=60) ζ ζ ζ];decide,n,(run l base n .call>>=fun _=>node l 50 (s0.af,s0.done.length)>>=fun _=>pure Va.un),fun _=>(),aar n,?_,?_⟩)
   ·simp only[bG];rfl
   ·have e3:jF l (dl l) x r=(dl l (.args {af:=r.af+1,env:=r.env})).bind fun zs=>some (zs.map fun y=>iA 50 x.af y (r.ah.headD zT::y.ah)):=by
     unfold jF ru;rw[hoff rfl ζ ζ ζ d1,e2];generalize dl l (.args {af:=r.af+1,env:=r.env})=o
     cases o<;>rfl
    rw[e3];refine JC (k:=50) (s:=s) (V:=fun _ _ _=>True) ζ hx hr ht ((ahn hL (fun k hk=>iha k η) ((iQ hr rfl ζ).trans e1) hf).le (abK _) rfl)
  rw[χ d2];by_cases d3:(az l s 0).t=[46]∨(az l s 0).t=Hy
  ·rw[ω d3]
   obtain⟨⟨hf,hs⟩,e2,hkc⟩:(Rl l B s.done (bU s) {af:=r.af+1,env:=r.env}∧s.af+1≤l.length)∧(dJ l r.af [46]||dJ l r.af Hy)=true∧aJ J4 (kc l r.af)=true:=by
    rcases d3 with d3|d3
    ·obtain⟨e1,e2⟩:=hsg rfl ζ ζ ζ d3
     exact⟨hfr ζ e1,by rw[e2];rfl,by rw[kz e1 (c:=69) ζ ζ ζ];decide⟩
    ·obtain⟨e1,e2⟩:=hsg rfl ζ ζ ζ d3
     exact⟨hfr ζ e1,by rw[e2,Bool.or_true],by rw[kz e1 (c:=70) ζ ζ ζ];decide⟩
   refine .inr (.inr ⟨hkc,n,fun s=>((l9 l>>=fun _=>pure Va.un)>>=fun _=>node l 51 (s0.af,s0.done.length)>>=fun _=>pure Va.un) (bU s),fun _=>(),aar n,?_,?_⟩)
   ·rw[vT hs]
    show _=((((l9 l>>=fun _=>pure Va.un)>>=fun _=>node l 51 (s0.af,s0.done.length)>>=fun _=>pure Va.un))>>=fun _=>run l base n (.jf (s0.af,s0.done.length))) (bU s);simp only[bG];rfl
   ·have e3:jF l (dl l) x r=(dl l (.call nT {af:=r.af+1,env:=r.env})).bind fun zs=>some (zs.map fun y=>iA 51 x.af y (r.ah.headD zT::y.ah)):=by
     unfold jF ru;rw[hoff rfl ζ ζ ζ d1,hoff rfl ζ ζ ζ d2,e2];generalize dl l (.call nT {af:=r.af+1,env:=r.env})=o
     cases o<;>rfl
    rw[e3];refine JC (k:=51) (s:=s) (V:=fun _ _ _=>True) ζ hx hr ht (NT ((JB hf).le (abK _) rfl) fun _ _ _ _=>trivial)
  rw[χ d3];by_cases d4:(az l s 0).t=El∨(az l s 0).t=Em
  ·rw[ω d4]
   obtain⟨⟨hf,hs⟩,e2,hkc⟩:(Rl l B s.done (bU s) {af:=r.af+1,env:=r.env}∧s.af+1≤l.length)∧(dJ l r.af El||dJ l r.af Em)=true∧aJ J4 (kc l r.af)=true:=by
    rcases d4 with d4|d4
    ·obtain⟨e1,e2⟩:=hsg rfl ζ ζ ζ d4
     exact⟨hfr ζ e1,by rw[e2];rfl,by rw[kz e1 (c:=71) ζ ζ ζ];decide⟩
    ·obtain⟨e1,e2⟩:=hsg rfl ζ ζ ζ d4
     exact⟨hfr ζ e1,by rw[e2,Bool.or_true],by rw[kz e1 (c:=72) ζ ζ ζ];decide⟩
   refine .inr (.inr ⟨hkc,n,fun s=>((pure Va.un:Pm Va)>>=fun _=>node l 52 (s0.af,s0.done.length)>>=fun _=>pure Va.un) (bU s),fun _=>(),aar n,?_,?_⟩)
   ·rw[vT hs]
    show _=((((pure Va.un:Pm Va)>>=fun _=>node l 52 (s0.af,s0.done.length)>>=fun _=>pure Va.un))>>=fun _=>run l base n (.jf (s0.af,s0.done.length))) (bU s);simp only[bG];rfl
   ·have e3:jF l (dl l) x r=(some [{af:=r.af+1,env:=r.env}]).bind fun zs=>some (zs.map fun y=>iA 52 x.af y (r.ah.headD zT::y.ah)):=by
     unfold jF ru;rw[hoff rfl ζ ζ ζ d1,hoff rfl ζ ζ ζ d2,hoff rfl ζ ζ ζ fun h=>d3 (.inl h),hoff rfl ζ ζ ζ fun h=>d3 (.inr h),e2];rfl
    rw[e3];exact JC (k:=52) (s:=s) (V:=fun _ _ _=>True) ζ hx hr ht (.ay rfl (υ _) hf trivial)
  rw[χ d4];refine .inl ⟨hstop (hoff rfl ζ ζ ζ d1) (hoff rfl ζ ζ ζ d2) ?_ ?_,_,rfl,pa,t,pb,htk⟩
  ·rw[hoff rfl ζ ζ ζ fun h=>d3 (.inl h),hoff rfl ζ ζ ζ fun h=>d3 (.inr h)];rfl
  ·rw[hoff rfl ζ ζ ζ fun h=>d4 (.inl h),hoff rfl ζ ζ ζ fun h=>d4 (.inr h)];rfl
end
section
variable {l:List Ct} {base:Bs→Bool} {B:List Sd} {D D2:List Nd}
def xY(l:List Ct):Nat→Pm Unit
 |0=>FJ
 |m+1=>fun s=>if(az l s 0).c=6 then xY l m (bU s)else .ok () s
theorem aaM:∀(m:Nat) (s:Ps),xY l m s= .out∨xY l m s= .ok () {s with af:=ug l m s}
 |0,s=> .inl rfl
 |m+1,s=>by
  unfold xY ug;by_cases c:(az l s 0).c=6
  ·rw[ω c,ω c];exact aaM m _
  ·rw[χ c,χ c];exact .inr rfl
theorem Wu:∀(m:Nat) (s:Ps),0<m→l.length<s.af+m→xY l m s≠ .out
 |0,s,h0,h=>absurd h0 (agn 0)
 |m+1,s,h0,h=>by
  unfold xY;by_cases c:(az l s 0).c=6
  ·rw[ω c]
   have hl:s.af+0<l.length:=Ce (by rw[←ku,c];decide);exact Wu m _ η (by show l.length<s.af+1+m;omega)
  ·rw[χ c];intro e;cases e
theorem O5(s:Ps):jQ l s=if(az l s 0).c=6 then xY l (l.length - s.af) (bU s)else .no:=by
 have e:jQ l s=if(az l s 0).c=6 then xY l (l.length - s.af+1) s else .no:=by
  unfold jQ;by_cases c:(az l s 0).c=6
  ·rw[ω c,ω c]
   rcases aaM (l:=l) (l.length - s.af+1) s with e|e
   ·exact absurd e (Wu _ _ η η)
   ·exact e.symm
  ·rw[χ c,χ c]
 rw[e]
 by_cases c:(az l s 0).c=6
 ·rw[ω c,ω c];show(if _ then _ else _)=_;rw[ω c]
 ·rw[χ c,χ c]
theorem JE{x:Sx}{f:Nat}:dl l (.ay (.nm xS) x f)=some (jC x (bz l x.af==6)):=by rw[fe ζ,J2]
theorem Wv{β:Type}{P p:Nat}{C C2:List Nat}{V2:β→Ps→Sx→Prop}{xs:List Sx}{r:Sx}{ys:List Sy}{f:Nat}{k:Unit→Pm β}{s:Ps}{g:Sx→Sx}(hL:l.length≤90)(hF:Fr l p C xs r)(hr:Rl l B D s r)(hg:Kp g)(hP:P≤r.af+1)(hd:(C.all fun c=>dd c (.nm xS))=true)(ht:qm C2 [6] ys=true)
  (hk:∀s1 r1 gB,Fr l (r.af+1) [6] gB r1→r.af+1≤r1.af→Rl l B D s1 r1→Sm l P C2 B D2 V2 (wr g (dl l (.seq ys f gB))) (k () s1)):Sm l P C2 B D2 V2 (wr g (dl l (.seq (.nm xS:: .bV [[.nm xS]]::ys) f xs))) ((jQ l>>=k) s):=by
 have hlv:lv C (.nm xS)=[]:=afN.2 fun c hc=>by rw[(Θ.1 hd) c hc];decide
 have hst:zH C (.nm xS)=true:=Θ.2 fun c hc=>by rw[(Θ.1 hd) c hc];rfl
 have hpc:∀{s r},Rl l B D s r→(az l s 0).c=bz l r.af:=fun h=>by rw[h.af];exact ku _ 0
 have hup:∀{s r},Rl l B D s r→bz l r.af=6→Rl l B D (bU s) (up r)∧kc l r.af=6:=fun{s r} h c=>by
  have e:=(uu r.af).2.2.1 c;refine⟨h.up (by rw[eY,(FX (k:=6) ζ).2 e];decide),?_⟩;rw[uZ]at e
  split at e
  ·cases e
  ·exact e
 by_cases c:bz l r.af=6
 case neg=>
  rw[Wn (by rw[O5,hpc hr,χ c])];refine Sm.nil ?_;obtain⟨hd',A,Z,rfl,jK⟩:=hF;unfold wr;rw[bJ,ja fun x hx=>?_]
  ·show(((dl l (.seq _ f [])).bind Dr.aG).bind _)=_
   rw[lN];rfl
  ·have:x=r∨x∈A++Z:=by
    simp only[abr,abf]at hx⊢
    rcases hx with h|h|h
    ·exact .inr (.inl h)
    ·exact .inl h
    ·exact .inr (.inr h)
   rcases this with rfl|hx
   ·rw[JE,abF c];rfl
   ·exact wQ ((Θ.1 hd) _ (aU.1 (jK x hx).1)) rfl f
 have hb:(jQ l>>=k) s=(xY l (l.length - s.af)>>=k) (bU s):=by
  show Pm.bind _ _ _=Pm.bind _ _ _;unfold Pm.bind;rw[O5,hpc hr,ω c]
 obtain⟨hu, -⟩:=hup hr c
 rw[hb,Jy hF (z:=up r) (by rw[JE,c];rfl) hst hlv]
 have aO:Sm l (up r).af [6] B D (fun _ _ _=>True) (dl l (.ay (.bV [[.nm xS]]) (up r) f)) (xY l (l.length - s.af) (bU s)):=by
  refine xW (C:=[]) (I:=fun(_:Unit) _ _=>True) (loop:=fun m _=>xY l m) (i:=()) hL rfl rfl (fun m _ s r hm hr _=>?_) hu trivial
  cases m with
  |zero=>exact .inr (.inl rfl)
  |succ m=>
   have es:xY l (m+1) s=if(az l s 0).c=6 then xY l m (bU s)else .ok () s:=rfl
   by_cases c:bz l r.af=6
   ·obtain⟨h1,h2⟩:=hup hr c
    refine .inr (.inr ⟨by rw[h2];decide,m,fun s=> .ok Va.un (bU s),fun _=>(),aar m,by show xY l (m+1) s=_;rw[es,hpc hr,ω c];rfl,?_⟩);rw[ou,bH (z:=up r) (by rw[JE,c];rfl),dH];exact .ay rfl (υ _) h1 trivial
   ·refine .inl ⟨?_,(),by show xY l (m+1) s=_;rw[es,hpc hr,χ c],trivial⟩
    exact rG fun y hy=>by rw[Φ.1 hy];exact il (by rw[JE,abF c];rfl)
 exact kU (p:=(up r).af) (C:=[]) (q:=(up r).af) (p':=r.af+1) (C1:=[6]) hL (.ay (υ _) hu.le) aO (υ _) hg (υ _) (.inl rfl) (.inl hP) rfl ht fun v s1 r1 gB _ h1 h2 h3 _=>hk s1 r1 gB h1 h2 h3
theorem Yl{m:Nat}(hL:l.length≤90)(iht:∀k,k<m→dZ l base B (.call qF) .kg RO (fun x=>VU x) k)(iha:∀k,k<m→dZ l base B (.call jk) .assign lI (fun x=>VU x) k):dZ l base B (.call Rc) .wJ lI (fun x=>VU x) m:=by
 intro x s D hx
 cases m with
 |zero=>rw[run];trivial
 |succ n=>
  rw[run,fD];refine dY 0 (w:=Rc) hL (c:=fun _=>true) ζ rfl θ rfl ?_;have hf:=hx.fr
  have hend:∀{p s1 r1 gB C1},Fr l p C1 gB r1→(qm lI C1 [.tx [58], .nm jk])=true→(C1.all fun c=>dd c (.tx [58]))=true→x.af+1≤r1.af→Rl l B s.done s1 r1→Sm l (x.af+1) lI B D (VU x) (wr (fun r=>bn x r 55) (dl l (.seq [.tx [58], .nm jk] x.af gB))) ((bY l [58]>>=fun _=>run l base n .assign>>=fun _=>node l 55 (s.af,s.done.length)>>=fun _=>pure Va.un) s1):=fun hF1 ht hd h1 hl1=>by
   refine eD hF1 hl1 η rfl ζ ζ ζ hd fun hF2 hl2=>?_
   refine dV hL hF2 (iha n (aar n) _ _ _ hl2) (aI x 55) (by show _≤_+1+1;omega) ζ rfl θ fun v s3 r3 EO _ RJ h3 hl3 _=>?_
   exact dR hL RJ (by show _≤_+1+1;omega) θ ζ hx hl3 fun h=>⟨_,h⟩
  have hw:=CF hf (t:=FO) rfl ζ
  cases c:aO (kd l (fr x).env (fr x).af) FO with
  |true=>
   rw[lH (hw.trans c)];have hu:=hf.up (dQ ζ c)
   have e:dl l (.ay (.jy [[.nm qF],[.tx FO]]) (fr x) x.af)=some [up (fr x)]:=by
    rw[wP];refine Eq.trans (vV 1 rfl (c:=fun k=>aO k FO==true) θ (aaZ.2 c)) ?_;rw[bH (dL _ ζ c),dH];rfl
   rw[bH e];exact hend (p:=x.af+1) (C1:=[]) (.ay (υ _) hu.le) ζ rfl (υ _) hu
  |false=>
   rw[lH (hw.trans c)]
   exact EN 0 (p:=x.af) (C:=[]) hL (.ay (υ _) hf.le) rfl (c:=fun k=>aO k FO==false) θ (aaZ.2 c) rfl (aI x 55) (υ _) (lW hL ζ (iht n (aar n) _ _ _ hf)) θ fun v s1 r1 gB _ h1 h2 h3=>hend h1 θ θ h2 h3
theorem Ww:∀n,run l base n .xR=vZ l (fun n=>run l base n .wJ) (fun _=>false) n
 |0=>by funext s;rw[run];rfl
 |n+1=>by
  funext s
  rw[run]
  show _=if _ then _ else _
  cases c:aX l s 0 [44]with
  |false=>rw[dM c];rfl
  |true=>rw[dM c,Ww n];rfl
theorem Fr.me{p:Nat}{r:Sx}(h:r.af≤l.length)(hp:p≤r.af:=by exact υ _):Fr l p [] [r] r:= .ay hp h
theorem RQ{m:Nat}(hL:l.length≤90)(hB:Bb base B)(BI:∀k,k<m→dZ l base B (.call lq) .o9 zJ (fun x=>VU x) k)(iha:∀k,k<m→dZ l base B (.call jk) .assign lI (fun x=>VU x) k)(ihs:∀k,k<m→dZ l base B (.call Rc) .wJ lI (fun x=>VU x) k):dZ l base B (.call vL) .uI [6] VH m:=by
 intro x s D hx
 cases m with
 |zero=>rw[run];trivial
 |succ n=>
  have hf:=hx.fr;rw[run,fD,y8,F3]
  have nR:∀{w:Bs} {k:Nat},47≤k→w.headD 0≠64→dl l (.call w (fr x))=some [up (fr x)]→un (kd l x.env x.af)≠0→Sm l (x.af+1) [6] B D (VH x) (wr (fun r=>bn x r k) (dl l (.seq [.nm w] x.af [fr x]))) ((step l 1>>=fun _=>node l k (s.af,s.done.length)>>=fun _=>pure Va.un) s):=fun{w k} hk hw h hu=>by
   have h2:=hf.up (x:=fr x) hu;rw[vT (by rw[←hx.af];exact h2.le),bH (z:=up (fr x)) (by rw[fe hw];exact h)]
   exact dR (p:=x.af+1) (C:=[]) hL (.me h2.le) (υ _) rfl η hx h2 fun h=>⟨_,h,hk⟩
  by_cases c1:(az l s 0).c=2∧s.nm.l8 base (az l s 0).t=false
  ·have hk:=(pkn hB hx).1 c1
   rw[ω c1];refine dY 0 hL (c:=fun k=>un k==2) ζ rfl θ (aaZ.2 hk) (nR ζ ζ ?_ (by rw[hk];decide))
   have hc:bz l x.af=2:=by rw[hx.af];exact(ku s 0).symm.trans c1.1
   have ht:iN x.env (bM l x.af)=false:=by rw[←LM hB hx,hx.af];exact c1.2
   rw[FW];show some (jC _ (bz l x.af==2&&!iN x.env (bM l x.af)))=_;rw[hc,ht];rfl
  rw[χ c1]
  have hk1:¬un (kd l x.env x.af)=2:=fun h=>c1 ((pkn hB hx).2 h)
  by_cases c2:(az l s 0).c=3∨(az l s 0).c=4∨(az l s 0).c=5
  ·have hk:=(Ws hx).2.1.1 c2
   rw[ω c2];refine dY 1 hL (c:=fun k=>k==3) ζ rfl θ (aaZ.2 hk) (nR ζ ζ ?_ (by rw[hk];decide))
   have hc:(bz l x.af==3||bz l x.af==4||bz l x.af==5)=true:=by
    have e:(az l s 0).c=bz l x.af:=by rw[hx.af];exact ku s 0
    rw[←e];simpa[or_assoc]using c2
   rw[GK];show some (jC _ (bz l x.af==3||bz l x.af==4||bz l x.af==5))=_;rw[hc];rfl
  rw[χ c2];by_cases c3:(az l s 0).c=6
  ·have hk:=(Ws hx).2.2.1 c3
   rw[ω c3];refine dY 2 hL (c:=fun k=>k==6) ζ rfl θ (aaZ.2 hk) ?_
   exact Wv hL (.me (p:=x.af) hf.le) hf (aI x 58) (υ _) rfl ζ fun s1 r1 gB h1 h2 h3=>dR hL h1 (υ _) ζ ζ hx h3 fun h=>⟨_,h,by show 47≤58;decide⟩
  rw[χ c3];have hs:=iQ hx (t:=[40]) rfl ζ
  cases c4:aO (kd l x.env x.af) [40]with
  |true=>
   rw[dM (hs.trans c4)];refine dY 3 hL (c:=fun k=>aO k [40]) ζ rfl θ c4 ?_;have hu:=hf.up (x:=fr x) (dQ ζ c4);rw[bH (dL (r:=fr x) _ ζ c4)]
   refine dV hL (.me (p:=x.af+1) hu.le) (BI n (aar n) _ _ _ hu) (aI x 56) (abK _) ζ rfl θ fun v s1 r1 gB _ h1 h2 h3 _=>?_
   have h2:x.af+1+1≤r1.af:=h2
   refine eD h1 h3 η rfl ζ ζ ζ θ fun h4 h5=>?_
   exact dR hL h4 η rfl ζ hx h5 fun h=>⟨_,h,by show 47≤56;decide⟩
  |false=>
   rw[dM (hs.trans c4)];have hw:=CF hx (t:=Nu) rfl ζ;show Sm l _ _ B D _ _ ((fC l Nu>>=_) s)
   cases c5:aO (kd l x.env x.af) Nu with
   |true=>
    rw[lH (hw.trans c5)];refine dY 4 hL (c:=fun k=>aO k Nu) ζ rfl θ c5 ?_;have hu:=hf.up (x:=fr x) (dQ ζ c5);rw[bH (dL (r:=fr x) _ ζ c5)];show Sm l _ _ B D _ _ ((run l base n .zR>>=fun _=>node l 54 (s.af,s.done.length)>>=fun _=>pure Va.un) (bU s))
    cases n with
    |zero=>show Sm l _ _ B D _ _ (Pm.bind _ _ _);unfold Pm.bind;rw[run];trivial
    |succ n=>
     rw[run];simp only[bG]
     refine eD (.me (p:=x.af+1) hu.le) hu (abK _) rfl ζ ζ ζ rfl fun h1 h2=>?_
     refine dV hL h1 (iha n η _ _ _ h2) (aI x 54) (by show x.af+1≤x.af+1+1+1;omega) ζ rfl θ fun v s3 r3 EO _ h3 h4 h5 _=>?_
     have h4:x.af+1+1+1≤r3.af:=h4
     refine eD h3 h5 η rfl ζ ζ ζ θ fun h6 h7=>?_
     refine dV hL h6 (ihs n η _ _ _ h7) (aI x 54) (by show _≤_+1+1;omega) ζ rfl θ fun v s8 r8 xs8 _ h8 h9 h10 _=>?_
     have h9:r3.af+1+1≤r8.af:=h9;rw[Ww]
     refine kU (q:=r8.af) (p':=x.af+1) (C1:=zJ) (V:=tt) hL h8 (Ic hL ζ θ θ (fun s r D hr h=>⟨(fun h=>(by cases h)),fun _=>lU (C:=[67,110,111]) θ (tJ hr h)⟩) (fun k hk x s D hx=>ihs k η x s D hx) h10) (υ _) (aI x 54) η (.inr (by show _≤_+1+1;omega)) (.inl (υ _)) θ θ fun v s2 r2 jM _ hF2 h11 hl2 _=>?_
     refine eD hF2 hl2 η rfl ζ ζ ζ θ fun h4 h5=>?_
     exact dR hL h4 η rfl ζ hx h5 fun h=>⟨_,h,by show 47≤54;decide⟩
   |false=>
    rw[lH (hw.trans c5)];refine .nil (vU (c:=fun k=>!(un k==2)&&!(k==3)&&!(k==6)&&!aO k [40]&&!aO k Nu) ζ θ ?_);rw[abF hk1,abF fun h=>c2 ((Ws hx).2.1.2 h),abF fun h=>c3 ((Ws hx).2.2.2 h),c4,c5];rfl
theorem Wx{x:Sx}(hL:l.length≤90)(hk:kd l x.env x.af=114){z:List Sx}(hz:dl l (.seq [.tx [40], .nm qF, .tx [41], .nm zX] x.af [fresh x])=some z)(hd:eP l (x.af+1) z):dl l (.jT x)=dl l (.iO x (z.map fun r=>bn (fresh x) r 53)):=by
 have e0:dl l (.jT x)=(dl l (.call vL (fresh x))).bind fun a=>(dl l (.call yU (fresh x))).bind fun b=>(aG (a++b)).bind fun z=>dl l (.iO x z):=by rw[fM];rfl
 have e2:ed l (fresh x) ([.tx [40], .nm qF, .tx [41], .nm zX],53)=some (z.map fun r=>bn (fresh x) r 53):=by
  unfold ed;show((dl l (.seq _ x.af [fresh x])).bind aG).bind _=_;rw[hz,Ξ,hd.aG hL];rfl
 rw[e0,vU (w:=vL) (x:=fresh x) (c:=fun k=>k==114) ζ θ (aaZ.2 hk),lV (w:=yU) (x:=fresh x) 0 (c:=fun _=>true) ζ rfl θ rfl,e2]
 show((aG _).bind fun b=>_)=_
 rw[(hd.map (aI (fresh x) 53)).aG hL,Ξ,List.nil_append,(hd.map (aI (fresh x) 53)).aG hL];rfl
theorem Cf{x:Sx}(hL:l.length≤90)(hk:kd l x.env x.af=114)(h:dl l (.seq [.tx [40], .nm qF, .tx [41], .nm zX] x.af [fresh x])=some []):dl l (.jT x)=some []:=by
 rw[Wx hL hk h .nil];exact AL x
theorem RS{n:Nat}(hL:l.length≤90)(ihb:∀k,k<n→dZ l base B (.call zX) .oO [] (fun x=>VU x) k)(BI:∀k,k<n→dZ l base B (.call lq) .o9 zJ (fun x=>VU x) k)(iha:∀k,k<n→dZ l base B (.call jk) .assign lI (fun x=>VU x) k)
  {x r:Sx} {s s1:Ps} (hx:Rl l B D s x) (hk:kd l x.env x.af=114) (h1:Rl l B s.done s1 r) (h3:x.af+3≤r.af) (h4:∀ys f,dl l (.seq (.tx [40]:: .nm qF:: .tx [41]::ys) f [fresh x])=dl l (.seq ys f [r])):Sm l (r.af+1) J4 B D (VH x) (dl l (.jT x)) (run l base n (.jG (s.af,s.done.length)) s1):=by
 have hfx:Rl l B s.done s (fresh x):=hx.frame false
 cases n with
 |zero=>rw[run];trivial
 |succ n=>
  rw[run];have hb:=ihb n (aar n) r s1 s.done h1
  have e3:∀z,dl l (.call zX r)=some z→eP l (r.af+1) z→dl l (.seq [.tx [40], .nm qF, .tx [41], .nm zX] x.af [fresh x])=some z:=fun z hz hd=>by
   rw[h4,bJ,bX,fe ζ,hz,Ξ,hd.aG hL,Ξ,dH]
  show Sm l _ _ B D _ _ (Pm.bind (run l base n .oO) _ s1);unfold Pm.bind
  cases e9:run l base n .oO s1 with
  |out=>trivial
  |no=>
   rw[e9]at hb;obtain⟨z,h5,h6,h7⟩:=hb
   have:z=[]:=acs.2 fun y hy=>by have:=h7 y hy;cases this
   subst this;exact .nil (Cf hL hk (e3 [] h5 .nil))
  |ok v s2=>
   rw[e9]at hb;obtain⟨z,r2,h5,h6,h7,t2,h8⟩:=hb;rw[Wx hL hk (e3 z h5 h6.1) (h6.1.uj η)];show Sm l _ _ B D _ _ ((node l 53 (s.af,s.done.length)>>=fun _=>run l base n (.jf (s.af,s.done.length))) s2)
   rcases xD (l:=l) (k:=53) (h:=(s.af,s.done.length)) (s:=s2) (f:=fun _=>run l base n (.jf (s.af,s.done.length)))with e|⟨-,e⟩
   ·rw[e];trivial
   ·rw[e]
    have h9:=(h6.map (aI (fresh x) 53)).le (q:=r.af+1) (E:=[6]) (υ _) rfl
    have hd:s2.done=s.done++fG r2.ah:=by rw[h7.dn]
    refine LQ hL (fun k hk=>BI k η) (fun k hk=>iha k η) hx h9 ?_ ⟨.mk 53 x.af r2.af r2.ah [],rfl,by show 47≤53;decide⟩;exact xX (x:=fresh x) hfx hd h7
theorem aaN{m:Nat}(hL:l.length≤90)(hB:Bb base B)(iht:∀k,k<m→dZ l base B (.call qF) .kg RO (fun x=>VU x) k)(ihb:∀k,k<m→dZ l base B (.call zX) .oO [] (fun x=>VU x) k)(BI:∀k,k<m→dZ l base B (.call lq) .o9 zJ (fun x=>VU x) k)(iha:∀k,k<m→dZ l base B (.call jk) .assign lI (fun x=>VU x) k)(EP:∀k,k<m→dZ l base B (.call vL) .uI [6] VH k):dZ l base B (.call yT) .jT J4 VH m:=by
 intro x s D hx
 rw[vR]
 cases m with
 |zero=>rw[run];trivial
 |succ n=>
  rw[run,fD];have ha:=NQ hB hx;show Sm l _ _ B D _ _ ((if(aX l s 0 [40]&&nO l base s 1)=true then _ else _:Pm Va) s);rw[ha];by_cases c:kd l x.env x.af=114
  ·rw[ω (aaZ.2 c)]
   have hT:=vY (n:=n) hL (fun k hk=>iht k η) (hx.frame (D:=D) false:Rl l B s.done s (fresh x));show Sm l _ _ B D _ _ (Pm.bind _ _ s);unfold Pm.bind
   cases e:run l base n .mW s with
   |out=>trivial
   |no=>rw[e]at hT;exact .nil (Cf hL c (hT ..))
   |ok v s1=>
    rw[e]at hT;obtain⟨r,t,h1,h2,h3,h4⟩:=hT;have h3:x.af+3≤r.af:=h3;exact(RS hL (fun k hk=>ihb k η) (fun k hk=>BI k η) (fun k hk=>iha k η) hx c h1 h3 h4).le η ζ
  ·rw[χ fun h=>c (aaZ.1 h)]
   have e0:dl l (.jT x)=(dl l (.call vL (fresh x))).bind fun a=>(dl l (.call yU (fresh x))).bind fun b=>(aG (a++b)).bind fun z=>dl l (.iO x z):=by rw[fM];rfl
   have e1:dl l (.call yU (fresh x))=some []:=vU (c:=fun k=>!(k==114)) ζ θ (by show(!(kd l x.env x.af==_))=true;rw[abF c];rfl);rw[e0,e1];have hp:=EP n (aar n) (fresh x) s s.done (hx.frame false)
   have fw:∀z,eP l (x.af+1) z→((some z).bind fun a=>(some []).bind fun b=>(aG (a++b)).bind fun z=>dl l (.iO x z))=dl l (.iO x z):=fun z hd=>by
    show(aG (z++[])).bind _=_;rw[List.append_nil,hd.aG hL];rfl
   show Sm l _ _ B D _ _ (Pm.bind _ _ s);unfold Pm.bind
   cases e:run l base n .uI s with
   |out=>trivial
   |no=>
    rw[e]at hp;obtain⟨z,h1,h2⟩:=hp
    rw[h1,fw z h2.1,F4 (Z:=fun xs=>dl l (.iO x xs)) (nx:=jF l (dl l) x) (pt:=dF x) hL (AL x) (fun xs hxs=>by
     rw[fM];show(if xs.isEmpty then _ else _)=_
     rw[χ (by simpa using hxs)]) (fun _=>rfl) (fun _=>aaL) h2]
    exact⟨_,rfl,(h2.map (g:=dF x) fun _=>rfl).le (υ _) ζ⟩
   |ok v s1=>
    rw[e]at hp;obtain⟨z,r,h1,h2,h3,t,⟨h4, -, -⟩,h5⟩:=hp;rw[h1,fw z h2.1];exact LQ hL (fun k hk=>BI k η) (fun k hk=>iha k η) hx h2 h3 ⟨t,h4,h5⟩
end
section
variable {l:List Ct} {base:Bs→Bool} {B:List Sd} {D D2:List Nd}
theorem NU{y r:Sx}{t:Tr}(h:VK (fr y) r t):VK y (bn y r 0) t:=⟨by show y.ah++r.ah=_;rw[h.1];rfl,rfl,rfl⟩
theorem nX{α:Type}{q f:Nat}{C:List Nat}{V V2:α→Ps→Sx→Prop}{w:Bs}{y:Sx}{s:Ps}{R:Rs α}(hL:l.length≤90)(hx:Rl l B D s y)(hw:w.headD 0≠64)(h:Sm l q C B s.done V (dl l (.call w (fr y))) R)(hV:∀v s r,V v s r→V2 v s (bn y r 0)):Sm l q C B D V2 (wr (fun r=>bn y r 0) (dl l (.seq [.nm w] f [fr y]))) R:=by
 have e:∀zs,dl l (.call w (fr y))=some zs→eP l q zs→wr (fun r=>bn y r 0) (dl l (.seq [.nm w] f [fr y]))=some (zs.map fun r=>bn y r 0):=fun zs h hd=>by
  unfold wr;rw[bJ,bX,fe hw,h,Ξ,hd.aG hL,Ξ,dH,Ξ,hd.aG hL];rfl
 cases R with
 |out=>trivial
 |no=>obtain⟨zs,h1,h2⟩:=h;exact⟨_,e zs h1 h2.1,h2.map (aI y 0)⟩
 |ok a s1=>obtain⟨zs,r,h1,h2,h3,h4⟩:=h;exact⟨_,_,e zs h1 h2.1,h2.map (aI y 0),hx.EM h3,hV a s1 r h4⟩
theorem NV{y:Sx}:∀(v:Va) (s:Ps) (r:Sx),VH (fr y) v s r→VH y v s (bn y r 0):=fun v s r ⟨t,h,hk⟩=>⟨t,NU h,hk⟩
theorem yh{α:Type}{y:Sx}:∀(v:α) (s:Ps) (r:Sx),VU (fr y) v s r→VU y v s (bn y r 0):=fun v s r ⟨t,h⟩=>⟨t,NU h⟩
theorem afv{q:Nat}{y:Sx}{s:Ps}{R:Rs Va}(hL:l.length≤90)(hx:Rl l B D s y)(hk:kd l y.env y.af=114)(h:Sm l q J4 B s.done (VH (fr y)) (dl l (.jT (fr y))) R):Sm l q J4 B D (VH y) (dl l (.call ry y)) R:=
 dY 0 hL (c:=fun k=>k==114) ζ rfl θ (aaZ.2 hk) (nX hL hx ζ (by rw[vR];exact h) NV)
theorem LU{y:Sx}(hk:kd l y.env y.af=114)(h:dl l (.jT (fr y))=some []):dl l (.call ry y)=some []:=by
 rw[lV 0 (c:=fun k=>k==114) ζ rfl θ (aaZ.2 hk)]
 unfold ed
 show(((dl l (.seq [.nm yT] y.af [fr y])).bind aG).bind _).bind aG=_
 rw[bJ,bX,fe ζ,vR,h]
 show(((dl l (.seq [] _ [])).bind aG).bind _).bind aG=_
 rw[dH];rfl
theorem O6{r:Sx}(h:aO (kd l r.env r.af) [123]=false):dl l (.call zX r)=some []:=vU (c:=fun k=>!aO k [123]) ζ θ (by rw[h];rfl)
theorem Sm.post{α:Type}{P q:Nat}{C:List Nat}{V:α→Ps→Sx→Prop}{o:Option (List Sx)}{R:Rs α}{u:Sx}(hu:aJ C (kc l u.af)=true)(hp:P≤u.af)(hq:u.af<q)(hl:u.af≤l.length)(h:Sm l q C B D V o R):Sm l P C B D V (o.bind fun a=>(some [u]).bind fun b=>some (a++b)) R:=by
 have hd:∀{xs},eP l q xs→eP l P (xs++[u]):=fun h=>eP.Rx agy ((eP.ay hp hl).fK h η fun x hx=>by rw[Φ.1 hx];exact hq)
 cases R with
 |out=>trivial
 |no=>
  obtain⟨xs,rfl,h2,h3⟩:=h;exact⟨xs++[u],rfl,hd h2,fun x hx=>(abr.1 hx).elim (h3 x) fun e=>(Φ.1 e)▸hu⟩
 |ok a s=>
  obtain⟨xs,r,rfl,h2,h4⟩:=h;have h5:=h2.lo.1;exact⟨xs++[u],r,rfl, .xB (hd h2.1) (aby _ h2.mem.1) fun x hx=>(abr.1 hx).elim (h2.mem.2 x) fun e=> .inr ((Φ.1 e)▸⟨hu,by omega⟩),h4⟩
theorem J6(hB:Bb base B){s:Ps}{x:Sx}(h:Rl l B D s x){α:Type}(k:Bool→Pm α):(kP l base>>=k) s=k (kd l x.env x.af==114) s:=by
 show k (aX l s 0 [40]&&nO l base s 1) s=_
 rw[NQ hB h]
structure Ex (l:List Ct) (base:Bs→Bool) (B:List Sd) (k:Nat):Prop where
 e:dZ l base B (.call lq) .o9 zJ (fun x=>VU x) k
 a:dZ l base B (.call jk) .assign lI (fun x=>VU x) k
 u:dZ l base B (.call ry) .unary zI VH k
 c:dZ l base B (.call nU) .cast zI VE k
 p:dZ l base B (.call yT) .jT J4 VH k
 t:dZ l base B (.call qF) .kg RO (fun x=>VU x) k
 b:dZ l base B (.call zX) .oO [] (fun x=>VU x) k
theorem aaO{m:Nat}(hL:l.length≤90)(hB:Bb base B)(ih:∀k,k<m→Ex l base B k):dZ l base B (.call nU) .cast zI VE m:=by
 intro x s D hx
 cases m with
 |zero=>rw[run];trivial
 |succ n=>
  rw[run];have i:=ih n (aar n);have hf:=hx.fr;show Sm l _ _ B D _ _ ((if(aX l s 0 [40]&&nO l base s 1)=true then _ else _:Pm Va) s);rw[NQ hB hx];by_cases c:kd l x.env x.af=114
  case neg=>
   rw[χ fun h=>c (aaZ.1 h)];refine dY 0 hL (c:=fun k=>!(k==114)) ζ rfl θ (by show(!(kd l x.env x.af==_))=true;rw[abF c];rfl) ?_
   refine nX hL hx ζ (V:=VE (fr x)) ?_ fun v s r ⟨t,h,hk⟩=>⟨t,NU h,hk⟩
   refine NT (i.u (fr x) s s.done hf) fun a s r ⟨t,h,hk⟩=>⟨t,h,by simp[Va.bool,hk]⟩
  rw[ω (aaZ.2 c),fD];have hT:=vY (n:=n) hL (fun k hk=>(ih k η).t) hf;have GN:=vY (n:=n) hL (fun k hk=>(ih k η).t) (hf.fr.frame false:Rl l B s.done s (fresh (fr (fr x))));have e:dl l (.call nU x)=((ed l x ([.nm ry],0)).bind fun a=>(ed l x ([.tx [40], .nm qF, .tx [41], .nm nU],46)).bind fun b=>some (a++b)).bind aG:=CG 0 (c:=fun k=>k==114) ζ rfl rfl θ (aaZ.2 c)
  have r1:∀zs,dl l (.call ry (fr x))=some zs→eP l 0 zs→ed l x ([.nm ry],0)=some (zs.map fun r=>bn x r 0):=fun zs h hd=>by
   show wr _ (dl l (.seq [.nm ry] x.af [fr x]))=_;unfold wr;rw[bJ,bX,fe ζ,h,Ξ,hd.aG hL,Ξ,dH,Ξ,hd.aG hL];rfl
  have kf:kd l (fr (fr x)).env (fr (fr x)).af=114:=c;show Sm l _ _ B D _ _ (Pm.bind _ _ s);unfold Pm.bind
  cases e1:run l base n .mW s with
  |out=>trivial
  |no=>
   rw[e1]at hT GN;have h0:dl l (.call ry (fr x))=some []:=LU kf (Cf hL kf (GN ..));rw[e,r1 [] h0 .nil]
   have:ed l x ([.tx [40], .nm qF, .tx [41], .nm nU],46)=some []:=by
    unfold ed;show((dl l (.seq _ x.af [fr x])).bind aG).bind _=_;rw[hT];rfl
   rw[this];exact .nil rfl
  |ok v s1=>
   rw[e1]at hT GN;obtain⟨r,t,h1,h2,h3,h4⟩:=hT;obtain⟨r',t',h1',h2',h3',h4'⟩:=GN;have h3:x.af+3≤r.af:=h3;have h3':x.af+3≤r'.af:=h3';have hs:=iQ h1 (t:=[123]) rfl ζ;have hs':=iQ h1' (t:=[123]) rfl ζ;show Sm l _ _ B D _ _ ((eu l 0 [123]>>=_) s1);rw[jL,hs]
   cases c2:aO (kd l r.env r.af) [123]with
   |true=>
    have h5:=afv hL hf kf (RS (n:=n) (B:=B) (D:=s.done) hL (fun k hk=>(ih k η).b) (fun k hk=>(ih k η).e) (fun k hk=>(ih k η).a) (x:=fr (fr x)) hf.fr kf h1' h3' h4');have h6:dl l (.seq [.nm nU] x.af [r])=some []:=dN snd 8 _ _ _ r ((mP (c:=fun k=>aO k [123]) (d:=fun k=>jb uX 8 k [.nm nU]) θ (jP ..) c2)) rfl
    have h7:ed l x ([.tx [40], .nm qF, .tx [41], .nm nU],46)=some []:=by
     unfold ed;show((dl l (.seq _ x.af [fr x])).bind aG).bind _=_;rw[h4,h6];rfl
    show Sm l _ _ B D _ _ ((run l base n (.jG (s.af,s.done.length))>>=fun _=>pure (Va.bo true)) s1)
    refine NT (V:=VH x) ?_ fun a s r ⟨t,h,hk⟩=>⟨t,h,by simp[Va.bool,hk]⟩
    rw[e,h7]
    have fw:∀{zs p},dl l (.call ry (fr x))=some zs→eP l p zs→(((ed l x ([.nm ry],0)).bind fun a=>(some []).bind fun b=>some (a++b)).bind aG)=some (zs.map fun r=>bn x r 0):=fun{zs p} h hd=>by
     rw[r1 zs h (hd.uj (Ω _))];show aG (_++[])=_;rw[List.append_nil,(hd.map (aI x 0)).aG hL]
    cases e7:run l base n (.jG (s.af,s.done.length)) s1 with
    |out=>trivial
    |no=>
     rw[show run l base n (.jG (s.af,s.done.length)) s1=_ from e7]at h5;obtain⟨zs,a1,a2⟩:=h5;exact⟨_,fw a1 a2.1,(a2.map (aI x 0)).le η ζ⟩
    |ok v s2=>
     rw[show run l base n (.jG (s.af,s.done.length)) s1=_ from e7]at h5;obtain⟨zs,r9,a1,a2,a3,a4⟩:=h5;exact⟨_,_,fw a1 a2.1,(a2.map (aI x 0)).le η ζ,hx.EM a3,NV v s2 r9 a4⟩
   |false=>
    have h0:dl l (.call ry (fr x))=some []:=LU kf (Cf hL kf (by
     exact(h4' _ _).trans (il ((fe ζ _ _).trans (O6 (hs'.symm.trans (hs.trans c2)))))))
    rw[e,r1 [] h0 .nil]
    have h5:Sm l (x.af+1) zI B D (VE x) (ed l x ([.tx [40], .nm qF, .tx [41], .nm nU],46)) ((run l base n .cast>>=fun _=>node l 46 (s.af,s.done.length)>>=fun _=>pure (Va.bo false)) s1):=by
     show Sm l _ _ B D _ (wr (fun r=>bn x r 46) (dl l (.seq _ x.af [fr x]))) _;rw[h4]
     refine dV hL (.me (p:=r.af) h1.le) (i.c r s1 s.done h1) (aI x 46) η ζ rfl ζ fun v s2 r2 jM _ a1 a2 a3 _=>?_
     exact dR hL a1 η ζ ζ hx a3 fun h=>⟨_,h,by show false=true↔47≤46;decide⟩
    have h6:=h5.aG hL
    have:∀o:Option (List Sx),((some (([]:List Sx).map fun r=>bn x r 0)).bind fun a=>o.bind fun b=>some (a++b))=o:=fun o=>by cases o<;>rfl
    rw[this];exact h6
theorem Ym{m:Nat}(hL:l.length≤90)(hB:Bb base B)(ih:∀k,k<m→Ex l base B k):dZ l base B (.call ry) .unary zI VH m:=by
 intro x s D hx
 cases m with
 |zero=>rw[run];trivial
 |succ n=>
  rw[run,fD,y8];have i:=ih n (aar n);have hf:=hx.fr
  have ops:∀u:Bs,rP u=true→bg u≠0→bg u≠1→bg u≠2→((az l s 0).c=7→(az l s 0).t=u→aO (kd l x.env x.af) u=true)∧(aO (kd l x.env x.af) u=true→(az l s 0).c=7∧(az l s 0).t=u):=fun u a b c d=>⟨fun h7 h=>(LP hx a b c d).1 ⟨h7,h⟩,(LP hx a b c d).2⟩
  have adq:∀{w:Bs} {tg:Tg} {V:Sx→Va→Ps→Sx→Prop} {C:List Nat} {y:Sx},w.headD 0≠64→dZ l base B (.call w) tg C V n→C.all (aJ zI)=true→Rl l B s.done (bU s) y→x.af+1≤y.af→Sm l (x.af+1) zI B D (VH x) (wr (fun r=>bn x r 47) (dl l (.seq [.nm w] x.af [y]))) ((step l 1>>=fun _=>run l base n tg>>=fun _=>node l 47 (s.af,s.done.length)>>=fun _=>pure Va.un) s):=fun{w tg V C y} hw hi hC hu hy=>by
   rw[vT (by have h1:=hu.af;have h2:=hu.le;rw[h1]at h2;exact h2)]
   refine dV hL (.me (p:=y.af) hu.le) (hi _ _ _ hu) (aI x 47) η hw rfl (by unfold qm;exact hC) fun v s2 r2 jM _ a1 a2 a3 _=>?_
   exact dR hL a1 η hC ζ hx a3 fun h=>⟨_,h,by show 47≤47;decide⟩
  by_cases c1:(az l s 0).c=7∧((az l s 0).t=El∨(az l s 0).t=Em)
  ·rw[ω c1]
   rcases c1.2 with ht|ht
   ·have h:=(ops _ rfl ζ ζ ζ).1 c1.1 ht
    refine dY 1 hL (c:=fun k=>aO k El) ζ rfl θ h ?_;rw[bH (dL (r:=fr x) _ ζ h)];exact adq ζ i.u ζ (hf.up (x:=fr x) (dQ ζ h)) (υ _)
   ·have h:=(ops _ rfl ζ ζ ζ).1 c1.1 ht
    refine dY 2 hL (c:=fun k=>aO k Em) ζ rfl θ h ?_;rw[bH (dL (r:=fr x) _ ζ h)];exact adq ζ i.u ζ (hf.up (x:=fr x) (dQ ζ h)) (υ _)
  rw[χ c1]
  have hm:((az l s 0).c=7∧(az l s 0).t∈([[38],[42],[43],[45],[126],[33]]:List Bs))↔aJ [73,74,75,76,77,78] (un (kd l x.env x.af))=true:=by
   have e:∀(u:Bs) (k:Nat),bg u=k→k≠0→k≠1→k≠2→rP u=true→(((az l s 0).c=7∧(az l s 0).t=u)↔un (kd l x.env x.af)=k):=fun u k a b c d f=>by
    rw[LP hx f η η η];unfold aO;rw[a,aaZ]
   rw[aU];simp only[abf,abZ,acz,and_or_left];rw[e [38] 73 ζ ζ ζ ζ rfl,e [42] 74 ζ ζ ζ ζ rfl,e [43] 75 ζ ζ ζ ζ rfl,e [45] 76 ζ ζ ζ ζ rfl,e [126] 77 ζ ζ ζ ζ rfl,e [33] 78 ζ ζ ζ ζ rfl]
  by_cases c2:(az l s 0).c=7∧(az l s 0).t∈([[38],[42],[43],[45],[126],[33]]:List Bs)
  ·rw[ω c2]
   have h:=hm.1 c2;refine dY 3 hL (c:=fun k=>aJ [73,74,75,76,77,78] (un k)) ζ rfl θ h ?_
   have h0:un (kd l x.env x.af)≠0:=fun e=>by rw[e]at h;cases h
   rw[bH (z:=up (fr x)) (by rw[fe ζ,Wm];show some (jC (fr x) (aJ _ (un (kd l x.env x.af))))=_;rw[h];rfl)];exact adq ζ i.c ζ (hf.up (x:=fr x) h0) (υ _)
  rw[χ c2]
  have kw:∀u:Bs,rP u=false→bg u≠0→bg u≠1→bg u≠2→((az l s 0).c=1∧(az l s 0).t=u↔aO (kd l x.env x.af) u=true):=fun u a b c d=>QI hx a b c d
  by_cases c3:(az l s 0).c=1∧((az l s 0).t=Cv∨(az l s 0).t=X6)
  case neg=>
   rw[χ c3]
   have n1:aJ [71,72,73,74,75,76,77,78,34,45] (un (kd l x.env x.af))=false:=by
    refine(acL _).mp fun h=>?_
    have h:=aU.1 h
    have q:∀u k,bg u=k→un (kd l x.env x.af)=k→aO (kd l x.env x.af) u=true:=fun u k a b=>by unfold aO;rw[a,b,afA]
    simp only[abf,abZ,acz]at h
    rcases h with h|h|h|h|h|h|h|h|h|h
    ·have:=(ops El rfl ζ ζ ζ).2 (q _ _ ζ h);exact c1 ⟨this.1, .inl this.2⟩
    ·have:=(ops Em rfl ζ ζ ζ).2 (q _ _ ζ h);exact c1 ⟨this.1, .inr this.2⟩
    iterate 6 exact c2 (hm.2 (by rw[h];decide))
    ·have:=(kw Cv rfl ζ ζ ζ).2 (q _ _ ζ h);exact c3 ⟨this.1, .inl this.2⟩
    ·have:=(kw X6 rfl ζ ζ ζ).2 (q _ _ ζ h);exact c3 ⟨this.1, .inr this.2⟩
   refine dY 0 hL (c:=fun k=>!aJ [71,72,73,74,75,76,77,78,34,45] (un k)) ζ rfl θ (by rw[n1];rfl) ?_;exact nX hL hx ζ ((i.p (fr x) s s.done hf).le (υ _) ζ) NV
  rw[ω c3]
  have hh:Sm l (x.af+1) zI B D (VH x) (dl l (.call ry x)) ((run l base n (.size ((az l s 0).t==Cv))>>=fun _=>node l 48 (s.af,s.done.length)>>=fun _=>pure Va.un) (bU s)):=by
   cases n with
   |zero=>show Sm l _ _ B D _ _ (Pm.bind _ _ _);unfold Pm.bind;rw[run];trivial
   |succ n=>
   rw[run]
   rcases c3.2 with h|h
   ·have hk:=(kw _ rfl ζ ζ ζ).1 ⟨c3.1,h⟩
    have hu:Rl l B s.done (bU s) (up (fr x)):=hf.up (x:=fr x) (dQ ζ hk);rw[h];have e:dl l (.call ry x)=((ed l x ([.tx Cv, .nm ry],48)).bind fun a=>(ed l x ([.tx Cv, .tx [40], .nm qF, .tx [41]],48)).bind fun b=>some (a++b)).bind aG:=CG 4 (c:=fun k=>aO k Cv) ζ rfl rfl θ hk
    have e4:ed l x ([.tx Cv, .nm ry],48)=wr (fun r=>bn x r 48) (dl l (.seq [.nm ry] x.af [up (fr x)])):=by
     show wr _ (dl l (.seq [.tx Cv, .nm ry] x.af [fr x]))=_;rw[bH (dL (r:=fr x) _ ζ hk)]
    have e5:ed l x ([.tx Cv, .tx [40], .nm qF, .tx [41]],48)=wr (fun r=>bn x r 48) (dl l (.seq [.tx [40], .nm qF, .tx [41]] x.af [up (fr x)])):=by
     show wr _ (dl l (.seq [.tx Cv, .tx [40], .nm qF, .tx [41]] x.af [fr x]))=_;rw[bH (dL (r:=fr x) _ ζ hk)]
    rw[bG,J6 hB hu];by_cases c:kd l (up (fr x)).env (up (fr x)).af=114
    case neg=>
     rw[χ fun h=>c (aaZ.1 h)];have e6:dl l (.seq [.tx [40], .nm qF, .tx [41]] x.af [up (fr x)])=some []:=dN snd 8 _ _ _ (up (fr x)) (mP (c:=fun k=>!(k==114)) (d:=fun k=>jb uX 8 k [.tx [40], .nm qF, .tx [41]]) θ (jP ..) (by show(!(kd l _ _==_))=true;rw[abF c];rfl)) rfl;rw[e,e4,e5,e6]
     have h5:Sm l (x.af+1) zI B D (VH x) (wr (fun r=>bn x r 48) (dl l (.seq [.nm ry] x.af [up (fr x)]))) ((run l base n .unary>>=fun _=>node l 48 (s.af,s.done.length)>>=fun _=>pure Va.un) (bU s)):=dV hL (.me (p:=x.af+1) hu.le) ((ih n η).u _ _ _ hu) (aI x 48) (abK _) ζ rfl ζ fun v s2 r2 jM _ a1 a2 a3 _=>dR hL a1 (by show _≤x.af+1+1;omega) ζ ζ hx a3 fun h=>⟨_,h,by show 47≤48;decide⟩
     have:∀o:Option (List Sx),(o.bind fun a=>(wr (fun r=>bn x r 48) (some [])).bind fun b=>some (a++b))=o:=fun o=>by cases o<;>simp[wr,aG]
     rw[this];exact h5.aG hL
    rw[ω (aaZ.2 c)];have hT:=vY (n:=n) hL (fun k hk=>(ih k η).t) hu;have GN:=vY (n:=n) hL (fun k hk=>(ih k η).t) (hu.fr.frame false:Rl l B (bU s).done (bU s) (fresh (fr (up (fr x)))));have kf:kd l (fr (up (fr x))).env (fr (up (fr x))).af=114:=c;rw[bG,fD]
    have wr0:dl l (.call ry (up (fr x)))=some []→wr (fun r=>bn x r 48) (dl l (.seq [.nm ry] x.af [up (fr x)]))=some []:=fun h=>by
     rw[il ((fe ζ _ _).trans h)];rfl
    rw[bG];show Sm l _ _ B D _ _ (Pm.bind (run l base n .mW) _ (bU s));unfold Pm.bind
    cases e1:run l base n .mW (bU s)with
    |out=>trivial
    |no=>
     rw[e1]at hT GN;rw[e,e4,e5,hT,wr0 (LU c (Cf hL kf (GN ..)))];exact .nil rfl
    |ok v s1=>
     rw[e1]at hT GN;obtain⟨r,t,h1,h2,h3,h4⟩:=hT;obtain⟨r',t',h1',h2',h3',h4'⟩:=GN;have h3:x.af+1+3≤r.af:=h3;have h3':x.af+1+3≤r'.af:=h3';have hs:=iQ h1 (t:=[123]) rfl ζ;have hs':=iQ h1' (t:=[123]) rfl ζ
     have e7:wr (fun r=>bn x r 48) (dl l (.seq [.tx [40], .nm qF, .tx [41]] x.af [up (fr x)]))=some [bn x r 48]:=by rw[h4,dH];rfl
     rw[e,e4,e5,e7];show Sm l _ _ B D _ _ (((eu l 0 [123]>>=_)>>=_) s1);rw[bG,jL,hs]
     have nd:∀{o:Option (List Sx)} {m:Pm Va} {q:Nat},x.af+1≤q→Sm l q zI B s.done tt o (m s1)→Sm l q zI B D (VH x) (wr (fun r=>bn x r 48) o) ((m>>=fun _=>node l 48 (s.af,s.done.length)>>=fun _=>pure Va.un) s1):=fun{o m q} hq h=>by
      have e:∀{zs},o=some zs→eP l q zs→wr (fun r=>bn x r 48) o=some (zs.map fun r=>bn x r 48):=fun{zs} h hd=>by
       unfold wr;rw[h,Ξ,hd.aG hL];rfl
      show Sm l _ _ B D _ _ (Pm.bind m _ s1);unfold Pm.bind
      cases em:m s1 with
      |out=>trivial
      |no=>rw[em]at h;obtain⟨zs,a,b⟩:=h;exact⟨_,e a b.1,b.map (aI x 48)⟩
      |ok v s2=>
       rw[em]at h;obtain⟨zs,r9,a,b,c, -⟩:=h
       have:=dR (C2:=zI) (V:=VH x) (P:=q) (f:=0) (v:=Va.un) hL b (υ _) ζ (k:=48) ζ hx c fun h=>⟨_,h,by show 47≤48;decide⟩
       rw[dH,←a]at this;exact this
     cases c2:aO (kd l r.env r.af) [123]with
     |true=>
      have h5:=(afv hL hu kf (RS (n:=n) (B:=B) (D:=(bU s).done) hL (fun k hk=>(ih k η).b) (fun k hk=>(ih k η).e) (fun k hk=>(ih k η).a) (x:=fr (up (fr x))) hu.fr kf h1' h3' h4')).le (υ _) (E:=zI) ζ;have h5:=nd (m:=run l base n (.jG ((bU s).af,(bU s).done.length))) η (h5.mono (V2:=tt) (υ _) ζ fun _ _ _ _ _ _=>trivial)
      have e8:dl l (.seq [.nm ry] x.af [up (fr x)])=(dl l (.call ry (up (fr x)))).bind aG:=by
       rw[bJ,bX,fe ζ]
       cases hq:(dl l (.call ry (up (fr x)))).bind aG with
       |none=>rfl
       |some z=>exact dH _ z
      have e9:∀o:Option (List Sx),wr (fun r=>bn x r 48) (o.bind aG)=wr (fun r=>bn x r 48) o:=fun o=>by
       unfold wr
       cases o with
       |none=>rfl
       |some z=>
        show(((aG z).bind aG).bind _)=((aG z).bind _);unfold aG;by_cases c:z.length≤1000
        ·rw[ω c,Ξ,ω c]
        ·rw[χ c];rfl
      rw[e8,e9];have hr:r'.af=r.af:=h1'.af.trans h1.af.symm
      have hkr:aJ zI (kc l r.af)=true:=by rw[kz c2 (c:=64) ζ ζ ζ];decide
      rw[hr]at h5;refine Sm.aG hL (Sm.post (u:=bn x r 48) (P:=x.af+1) ?_ ?_ ?_ h1.le h5)
      ·rw[show(bn x r 48).af=r.af from rfl];exact hkr
      ·show _≤r.af;omega
      ·exact aar _
     |false=>
      rw[wr0 (LU c (Cf hL kf ((h4' _ _).trans (il ((fe ζ _ _).trans (O6 (hs'.symm.trans (hs.trans c2))))))))];exact nd (o:=some [r]) (m:=pure Va.un) (q:=x.af+1) (υ _) (.ay rfl η h1 trivial)
   ·have hk:=(kw _ rfl ζ ζ ζ).1 ⟨c3.1,h⟩
    have hu:Rl l B s.done (bU s) (up (fr x)):=hf.up (x:=fr x) (dQ ζ hk);rw[h];refine dY 6 hL (c:=fun k=>aO k X6) ζ rfl θ hk ?_;rw[bH (dL (r:=fr x) _ ζ hk)];rw[bG,J6 hB hu];by_cases c:kd l (up (fr x)).env (up (fr x)).af=114
    case neg=>
     rw[χ fun h=>c (aaZ.1 h)];have e6:dl l (.seq [.tx [40], .nm qF, .tx [41]] x.af [up (fr x)])=some []:=dN snd 8 _ _ _ (up (fr x)) (mP (c:=fun k=>!(k==114)) (d:=fun k=>jb uX 8 k [.tx [40], .nm qF, .tx [41]]) θ (jP ..) (by show(!(kd l _ _==_))=true;rw[abF c];rfl)) rfl;rw[e6];exact .nil rfl
    rw[ω (aaZ.2 c)];have hT:=vY (n:=n) hL (fun k hk=>(ih k η).t) hu;rw[bG,fD,bG];show Sm l _ _ B D _ _ (Pm.bind (run l base n .mW) _ (bU s));unfold Pm.bind
    cases e1:run l base n .mW (bU s)with
    |out=>trivial
    |no=>rw[e1]at hT;rw[hT];exact .nil rfl
    |ok v s1=>
     rw[e1]at hT;obtain⟨r,t,h1,h2,h3,h4⟩:=hT;have h3:x.af+1+3≤r.af:=h3;rw[h4];show Sm l _ _ B D _ _ ((node l 48 (s.af,s.done.length)>>=fun _=>pure Va.un) s1)
     exact dR hL (.me (p:=r.af) h1.le) η rfl ζ hx h1 fun h=>⟨_,h,by show 47≤48;decide⟩
  have hlt:s.af+1≤l.length:=by
   have:bz l (s.af+0)≠0:=by rw[←ku,c3.1];decide
   exact Ce this
  rw[vT hlt];exact hh
end
section
variable {l:List Ct} {base:Bs→Bool} {B:List Sd} {D D2:List Nd}
theorem nY{α:Type}{xs:List α}(h:xs.length≤1000):aG xs=some xs:=by unfold Dr.aG;rw[ω h]
theorem O7{α β γ:Type}(g:β→Option (List γ))(h:α→List β):∀xs:List α,bu g (xs.flatMap h)=bu (fun t=>bu g (h t)) xs
 |[]=>rfl
 |a::r=>by rw[acy,mi,di,O7 g h r]
def GQ(l:List Ct)(t:Sx):List Sx:=if kd l t.env t.af=110 then[up (up t)]else if aO (kd l t.env t.af) [125]=true then[up t]else[]
theorem LV:∀m<110,(iK 67 m==110)=(m==65):=by decide+kernel
theorem ai7(f:Nat)(t:Sx):(dl l (.ay (.dO [[.tx [44]]]) t f)).bind (bu fun s=>dl l (.ay (.tx [125]) s f))=some (GQ l t):=by
 have e1:gT l [[.tx [44]]] t=some (jC t (aO (kd l t.env t.af) [44])):=by
  rw[ou,bJ,bX,AJ,iZ t.env t.af (t:=[44]) ζ]
  cases aO (kd l t.env t.af) [44]<;>(show(dl l (.seq [] _ _)).bind aG=_;rw[dH];rfl)
 have e2:∀s:Sx,dl l (.ay (.tx [125]) s f)=some (jC s (aO (kd l s.env s.af) [125])):=fun s=>by rw[AJ,iZ s.env s.af (t:=[125]) ζ]
 rw[wO,e1]
 unfold GQ
 cases c:aO (kd l t.env t.af) [44]with
 |false=>
  have:kd l t.env t.af≠110:=fun e=>by rw[e]at c;revert c;decide
  rw[χ this];show(aG [t]).bind _=_;rw[ahf,Ξ,bX,e2]
  cases aO (kd l t.env t.af) [125]<;>rfl
 |true=>
  have hk:k1 l t.env t.af=67:=by rw[←eY];exact aaZ.1 c
  show(aG [t,up t]).bind _=_;rw[nY (by show 2≤1000;decide),Ξ]
  have hn:aO (kd l t.env t.af) [125]=false:=by unfold aO;rw[eY,hk];decide
  rw[di,bX,e2,e2,hn]
  have:aO (kd l (up t).env (up t).af) [125]=(kd l t.env t.af==110):=by
   rw[mU hk,LV _ (jI ..)];unfold aO;rw[eY,show bg [125]=65 by decide];rfl
  rw[this];by_cases e:kd l t.env t.af=110
  ·rw[ω e,e];rfl
  ·rw[χ e,abF e];rfl
theorem Yn(env:List (List Sd))(p:Nat):kd l env p=110↔kc l p=110:=by
 have h:=yV (l:=l) env p
 constructor
 ·intro e
  rw[e]at h
  have:∀c<KN,aJ (Bu c) 110=true→c=110:=by decide+kernel
  exact this _ (DF p) (aU.2 h)
 ·intro e
  rw[e]at h;exact Φ.1 h
theorem ai8{xs:List Sx}(h:(xs.map (·.af)).Nodup){x y:Sx}(hx:x∈xs)(hy:y∈xs)(e:x.af=y.af):x=y:=by
 induction xs with
 |nil=>cases hx
 |cons a t ih=>
  rw[acj,agJ]at h
  rcases abf.1 hx with rfl|hx'
  ·rcases abf.1 hy with rfl|hy'
   ·rfl
   ·exact absurd (e▸abt.2 ⟨y,hy',rfl⟩) h.1
  ·rcases abf.1 hy with rfl|hy'
   ·exact absurd (e▸abt.2 ⟨x,hx',rfl⟩) h.1
   ·exact ih h.2 hx' hy'
theorem RU{p:Nat}{C:List Nat}{xs:List Sx}{r:Sx}{ys:List Sy}{f:Nat}(hL:l.length≤90)(hF:Fr l p C xs r)(hC:aJ C 65=false)(hC2:aJ C 110=false):dl l (.seq (.dO [[.tx [44]]]:: .tx [125]::ys) f xs)=dl l (.seq ys f (GQ l r)):=by
 have ay:∀t:Sx,∃z,dl l (.ay (.dO [[.tx [44]]]) t f)=some z∧z.length≤2:=fun t=>by
  have e1:gT l [[.tx [44]]] t=some (jC t (aO (kd l t.env t.af) [44])):=by
   rw[ou,bJ,bX,AJ,iZ t.env t.af (t:=[44]) ζ]
   cases aO (kd l t.env t.af) [44]<;>(show(dl l (.seq [] _ _)).bind aG=_;rw[dH];rfl)
  rw[wO,e1];cases aO (kd l t.env t.af) [44]
  ·exact⟨[t],rfl,abK 1⟩
  ·exact⟨[t,up t],rfl,υ _⟩
 obtain⟨h,hh⟩:=Classical.axiomOfChoice ay
 have e1:bu (fun s=>dl l (.ay (.dO [[.tx [44]]]) s f)) xs=some (xs.flatMap h):=by
  clear hF
  induction xs with
  |nil=>rfl
  |cons a t ih=>rw[di,(hh a).1,ih];rfl
 have e2:(xs.flatMap h).length≤2*xs.length:=by
  clear hF e1
  induction xs with
  |nil=>exact υ 0
  |cons a t ih=>
   rw[acy,Δ,aaJ];have:=(hh a).2;omega
 have e3:bu (fun s=>dl l (.ay (.tx [125]) s f)) (xs.flatMap h)=some (GQ l r):=by
  rw[O7]
  have e:(fun t=>bu (fun s=>dl l (.ay (.tx [125]) s f)) (h t))=fun t=>some (GQ l t):=by
   funext t
   have:=ai7 (l:=l) f t;rw[(hh t).1]at this;exact this
  rw[e];obtain⟨hd,A,Z,rfl,jK⟩:=hF
  refine CE r fun x hx=>?_
  have h1:=(jK x hx).1;unfold GQ;rw[χ (fun e=>by rw[(Yn x.env x.af).1 e,hC2]at h1;cases h1),χ fun e=>by rw[kz (t:=[125]) (env:=x.env) e (c:=65) ζ ζ ζ,hC]at h1;cases h1]
 have h1:=hF.1.len
 have l1:aG (xs.flatMap h)=some (xs.flatMap h):=by unfold Dr.aG;rw[ω η]
 have l2:aG (GQ l r)=some (GQ l r):=by
  unfold GQ
  repeat' split
  all_goals rfl
 rw[bJ,e1,Ξ,l1,Ξ,bJ,e3,Ξ,l2];rfl
theorem ER{α β:Type}{x y:Pm α}{s s':Ps}(h:x s=y s')(k:α→Pm β):(x>>=k) s=(y>>=k) s':=by
 show Pm.bind x k s=Pm.bind y k s'
 unfold Pm.bind;rw[h]
theorem jR{α β:Type}(x:Pm α)(f:α→Pm β)(s:Ps):(x>>=f) s=Pm.bind x f s:=rfl
theorem DI(it:Nat→Pm Va)(stop:Ps→Bool)(n:Nat)(s:Ps):vZ l it stop (n+1) s=if aX l s 0 [44]=true∧stop s=false then(it n>>=fun _=>vZ l it stop n) (bU s)else .ok Va.un s:=rfl
theorem RV{it R:Tg}(h0:run l base 0 R=FJ)(h1:∀n s,run l base (n+1) R s=(fU l [44]>>=fun b=>if b=true then eu l 0 [125]>>=fun c=>if c=true then pure Va.un else run l base n it>>=fun _=>run l base n R else pure Va.un) s):∀n,run l base n R=(vZ l (fun n=>run l base n it) (fun s=>aX l s 1 [125]) n>>=fun _=>fU l [44]>>=fun _=>pure Va.un)
 |0=>by rw[h0];rfl
 |n+1=>by
  funext s
  rw[h1]
  cases c:aX l s 0 [44]with
  |false=>rw[dM c,jo (show vZ l _ _ (n+1) s= .ok Va.un s by rw[DI,χ fun h=>by rw[c]at h;cases h.1]),dM c];rfl
  |true=>
   rw[dM c];show(eu l 0 [125]>>=_) (bU s)=_;rw[jL,show aX l (bU s) 0 [125]=aX l s 1 [125]from rfl]
   cases c2:aX l s 1 [125]with
   |true=>rw[jo (show vZ l _ _ (n+1) s= .ok Va.un s by rw[DI,χ fun h=>by rw[c2]at h;cases h.2]),dM c];rfl
   |false=>
    rw[ER (show vZ l _ _ (n+1) s=(run l base n it>>=fun _=>vZ l _ _ n) (bU s) by rw[DI,ω ⟨c,c2⟩]),RV h0 h1 n,bG];rfl
theorem aho{C:List Nat}(hC:aJ C 65=false)(hC2:aJ C 110=false){x:Sx}(h1:aJ C (kc l x.af)=true):GQ l x=[]:=by
 unfold GQ
 rw[χ (fun e=>by rw[(Yn x.env x.af).1 e,hC2]at h1;cases h1),χ fun e=>by rw[kz (t:=[125]) (env:=x.env) e (c:=65) ζ ζ ζ,hC]at h1;cases h1]
theorem O8{w:Bs}{it R:Tg}{n:Nat}{Cw C2:List Nat}{V2:Va→Ps→Sx→Prop}{P p:Nat}{C:List Nat}{xs:List Sx}{r:Sx}{ys:List Sy}{f:Nat}{k:Pm Va}{s:Ps}{g:Sx→Sx}{V:Sx→Va→Ps→Sx→Prop}(hL:l.length≤90)(hF:Fr l p C xs r)(hr:Rl l B D s r)(hg:Kp g)
  (h0:run l base 0 R=FJ) (h1:∀n s,run l base (n+1) R s=(fU l [44]>>=fun b=>if b=true then eu l 0 [125]>>=fun c=>if c=true then pure Va.un else run l base n it>>=fun _=>run l base n R else pure Va.un) s) (ih:∀k,k<n+1→dZ l base B (.call w) it Cw V k) (hw:w.headD 0≠64) (hd:(C.all fun c=>dd c (.nm w))=true)
  (hC:(Cw.all fun c=>dd c (.jy [[.tx [44], .nm w]]))=true) (hco:tb (fun k=>k==110) (FZ [[.tx [44], .nm w]])=true) (hps:zH Cw (.bV [[.tx [44], .nm w]])=true) (hcc:aJ (lv Cw (.bV [[.tx [44], .nm w]])++(Cw++[67,111])) 65=false∧aJ (lv Cw (.bV [[.tx [44], .nm w]])++(Cw++[67,111])) 110=false) (hcw:aJ Cw 65=false∧aJ Cw 110=false)
  (hk:∀s1 r1,r.af+2≤r1.af→r1.af≤l.length→Rl l B D s1 r1→Sm l P C2 B D2 V2 (wr g (dl l (.seq ys f [r1]))) (k s1)):Sm l P C2 B D2 V2 (wr g (dl l (.seq (.nm w:: .bV [[.tx [44], .nm w]]:: .dO [[.tx [44]]]:: .tx [125]::ys) f xs))) ((run l base n it>>=fun _=>run l base n R>>=fun _=>bY l [125]>>=fun _=>k) s):=by
 have off:∀{C:List Nat} {zs p},aJ C 65=false→aJ C 110=false→Al l p C zs→∃t,dl l (.seq (.dO [[.tx [44]]]:: .tx [125]::ys) f zs)=some t∧Al l P C2 t:=fun{C zs p} h h2 ha=>by
  cases zs with
  |nil=>exact⟨[],lN _ _, .nil,fun x hx=>(by cases hx)⟩
  |cons a t=>
   have:∃r∈a::t,∀x∈a::t,x.af≤r.af:=by
    clear ha
    induction t generalizing a with
    |nil=>exact⟨a,by simp,fun x hx=>by rw[Φ.1 hx];exact υ _⟩
    |cons b t ih=>
     obtain⟨r,h1,h2⟩:=ih b
     rcases Nat.le_total r.af a.af with h|h
     ·exact⟨a,by simp,fun x hx=>(abf.1 hx).elim (fun e=>by rw[e];exact υ _) fun e=>aaT (h2 x e) h⟩
     ·exact⟨r,abM _ h1,fun x hx=>(abf.1 hx).elim (fun e=>e▸h) (h2 x)⟩
   obtain⟨r,hr,hm⟩:=this
   have hF:Fr l p C (a::t) r:= .xB ha.1 hr fun x hx=>by
    by_cases e:x=r
    ·exact .inl e
    ·refine .inr ⟨ha.2 x hx,Nat.lt_of_le_of_ne (hm x hx) fun q=>e ?_⟩
     exact ai8 ha.1.nd hx hr q
   refine⟨[],?_, .nil,fun x hx=>(by cases hx)⟩;rw[RU hL hF h h2,aho h h2 (ha.2 r hr)];exact lN _ _
 have hlv:lv C (.nm w)=[]:=afN.2 fun c hc=>by rw[(Θ.1 hd) c hc];decide
 have hst:zH C (.nm w)=true:=Θ.2 fun c hc=>by rw[(Θ.1 hd) c hc];rfl
 refine NH (q:=r.af+1) (p':=r.af+1) (C1:=Cw) (V:=V r) hL hF (by rw[fe hw];exact ih n (aar n) r s D hr) (abK _) hg (υ _) (.inl hlv) hst (fun zs hz=>?_) fun v s1 r1 gB _ a1 a2 a3 _=>?_
 ·rw[hlv]at hz
  obtain⟨u,b1,b2,b3⟩:=yZ hps f hz.2;rw[bJ,b1,Ξ,(hz.1.sub b2).aG hL];refine off (C:=Cw) hcw.1 hcw.2 ⟨hz.1.sub b2,fun x hx=>?_⟩;exact aU.2 (afx.1 (aU.1 (b3 x hx))).1
 ·rw[hlv]at a1
  rw[RV h0 h1,bG]
  refine NH (q:=r1.af) (p':=r.af+1) (C1:=Cw++[67,111]) (V:=tt) hL a1 (Ic (w:=w) (it:=fun n=>run l base n it) (stop:=fun s=>aX l s 1 [125]) hL hw hC (by rw[Θ];exact fun x hx=>aU.2 (aby _ hx)) (fun s r D hr h=>⟨fun h2=>?_,fun h2=>?_⟩) (fun k hk x s D hx=>ih k η x s D hx) a3) (υ _) hg a2 (.inr (υ _)) hps (fun zs hz=>off hcc.1 hcc.2 hz) fun v s2 r2 jM _ b1 b2 b3 _=>?_
  ·have e:=iQ hr (t:=[44]) rfl ζ
   have hk:k1 l r.env r.af=67:=by rw[←eY];exact aaZ.1 (e.symm.trans h)
   have e2:=x8 hr (t:=[125]) rfl ζ;exact mq (c:=fun k=>k==110) hco (by rw[mU hk,LV _ (jI ..)];exact e2.symm.trans h2)
  ·have e:=iQ hr (t:=[44]) rfl ζ
   have hk:k1 l r.env r.af=67:=by rw[←eY];exact aaZ.1 (e.symm.trans h)
   have e2:=x8 hr (t:=[125]) rfl ζ;have h3:=aU.1 (tJ hr h)
   have h4:kc l r.af≠110:=fun e3=>by
    have:=(Yn r.env r.af).2 e3;rw[mU hk]at this;have h5:=LV _ (jI (l:=l) r.env (r.af+1));rw[this]at h5;have h6:=e2.symm.trans h2;rw[show bg [125]=65 by decide]at h6;rw[h6]at h5;cases h5
   simp only[abf,abZ,acz]at h3;refine aU.2 (abD _ ?_)
   rcases h3 with h3|h3|h3
   ·rw[h3];decide
   ·exact absurd h3 h4
   ·rw[h3];decide
  ·rw[RU hL b1 hcc.1 hcc.2]
   have e:=iQ b3 (t:=[44]) rfl ζ;show Sm l _ _ B D2 _ _ (((fU l [44]>>=fun _=>pure Va.un)>>=fun _=>bY l [125]>>=fun _=>k) s2);rw[bG];unfold GQ
   cases c:aO (kd l r2.env r2.af) [44]with
   |true=>
    rw[dM (e.trans c)];have hu:=b3.up (dQ (t:=[44]) ζ c)
    have hk1:k1 l r2.env r2.af=67:=by rw[←eY];exact aaZ.1 c
    have e2:=iQ hu (t:=[125]) rfl ζ
    have hn:aO (kd l r2.env r2.af) [125]=false:=by unfold aO;rw[eY,hk1];decide
    have e3:aO (kd l (up r2).env (up r2).af) [125]=(kd l r2.env r2.af==110):=by
     rw[mU hk1,LV _ (jI ..)];unfold aO;rw[eY,show bg [125]=65 by decide];rfl
    show Sm l _ _ B D2 _ _ ((bY l [125]>>=fun _=>k) (bU s2));by_cases c2:kd l r2.env r2.af=110
    ·rw[ω c2,sQ (by rw[e2,e3,c2];rfl)]
     have hu2:=hu.up (dQ (t:=[125]) ζ (by rw[e3,c2];rfl));exact hk _ _ (by show _≤r2.af+1+1;omega) hu2.le hu2
    ·rw[χ c2,χ (by rw[hn];decide),zZ (by rw[e2,e3,abF c2])]
     exact .nil (by rw[lN];rfl)
   |false=>
    rw[dM (e.trans c)]
    have c2:kd l r2.env r2.af≠110:=fun e=>by rw[e]at c;revert c;decide
    have e2:=iQ b3 (t:=[125]) rfl ζ;show Sm l _ _ B D2 _ _ ((bY l [125]>>=fun _=>k) s2);rw[χ c2]
    cases c3:aO (kd l r2.env r2.af) [125]with
    |true=>
     rw[ω rfl,sQ (e2.trans c3)];have hu2:=b3.up (dQ (t:=[125]) ζ c3);exact hk _ _ (by show _≤r2.af+1;omega) hu2.le hu2
    |false=>
     rw[χ ζ,zZ (e2.trans c3)];exact .nil (by rw[lN];rfl)
theorem aaP{m:Nat}(hL:l.length≤90)(ih:∀k,k<m→dZ l base B (.call Re) .nz lI (fun x=>VU x) k):dZ l base B (.call zX) .oO [] (fun x=>VU x) m:=by
 intro x s D hx
 cases m with
 |zero=>rw[run];trivial
 |succ n=>
  rw[run,fD];refine dY 0 (w:=zX) hL (c:=fun _=>true) ζ rfl θ rfl ?_;have hf:=hx.fr
  refine eD (.me (p:=x.af) hf.le) hf (υ _) rfl ζ ζ ζ rfl fun h1 h2=>?_
  exact O8 (R:= .zS) (V:=fun x=>VU x) hL h1 h2 (aI x 19) (by funext s;rw[run];rfl) (fun n s=>by rw[run]) ih ζ rfl θ θ θ θ θ fun s1 r1 h3 h4 h5=>dR hL (.me (p:=r1.af) h4) (by have:x.af+1+2≤r1.af:=h3;omega) rfl ζ hx h5 fun h=>⟨_,h⟩
theorem aaQ{m:Nat}(hL:l.length≤90)(iha:∀k,k<m→dZ l base B (.call jk) .assign lI (fun x=>VU x) k)(ihb:∀k,k<m→dZ l base B (.call zX) .oO [] (fun x=>VU x) k):dZ l base B (.call Cr) .jv lI (fun x=>VU x) m:=by
 intro x s D hx
 cases m with
 |zero=>rw[run];trivial
 |succ n=>
  have hf:=hx.fr;rw[run,jL,iQ hx (t:=[123]) rfl ζ]
  cases c:aO (kd l x.env x.af) [123]with
  |true=>exact dY 1 (w:=Cr) hL (c:=fun k=>aO k [123]) ζ rfl θ c (nX hL hx ζ ((ihb n (aar n) _ _ _ hf).le (υ _) rfl) yh)
  |false=>exact dY 0 (w:=Cr) hL (c:=fun k=>!aO k [123]) ζ rfl θ (by rw[c];rfl) (nX hL hx ζ (iha n (aar n) _ _ _ hf) yh)
theorem LW{n:Nat}(hL:l.length≤90)(O4:∀k,k<n→dZ l base B (.call sO) .dx vX VE k){x:Sx}{s:Ps}(hx:Rl l B D s x):(aJ [62,69] (un (kd l x.env x.af))=true∧Sm l (x.af+1) [] B D (fun v s r=>VU x v s r∧v.bool=true) (dl l (.call NB x)) (run l base n .pg s))∨(aJ [62,69] (un (kd l x.env x.af))=false∧(run l base n .pg s= .out∨run l base n .pg s= .ok (Va.bo false) s)):=by
 have hf:=hx.fr
 have e1:=iQ hx (t:=[91]) rfl ζ
 have e2:=iQ hx (t:=[46]) rfl ζ
 have hm:aJ [62,69] (un (kd l x.env x.af))=(aO (kd l x.env x.af) [91]||aO (kd l x.env x.af) [46]):=(mP (c:=fun _=>true) (d:=fun k=>aJ [62,69] (un k)==(aO k [91]||aO k [46])) θ (jP x.env x.af) rfl|>aaZ.1)
 rw[hm]
 cases c:aO (kd l x.env x.af) [91]with
 |true=>
  refine .inl ⟨rfl,?_⟩
  cases n with
  |zero=>rw[run];trivial
  |succ n=>
   rw[run,fD,dM (e1.trans c)];refine dY 0 (w:=NB) hL (c:=fun k=>aO k [91]) ζ rfl θ c ?_;have hu:=hf.up (x:=fr x) (dQ ζ c);rw[bH (dL (r:=fr x) _ ζ c)]
   refine dV hL (.me (p:=x.af+1) hu.le) (O4 n (aar n) _ _ _ hu) (aI x 21) (abK _) ζ rfl θ fun v s1 r1 gB _ h1 h2 h3 _=>?_
   have h2:x.af+1+1≤r1.af:=h2
   refine eD h1 h3 η rfl ζ ζ ζ θ fun h4 h5=>?_
   exact dR hL h4 η rfl ζ hx h5 fun h=>⟨⟨_,h⟩,rfl⟩
 |false=>
  cases c2:aO (kd l x.env x.af) [46]with
  |true=>
   refine .inl ⟨rfl,?_⟩
   cases n with
   |zero=>rw[run];trivial
   |succ n=>
    rw[run,fD,dM (e1.trans c)];show Sm l _ _ B D _ _ ((fU l [46]>>=_) s);rw[dM (e2.trans c2)];refine dY 1 (w:=NB) hL (c:=fun k=>aO k [46]) ζ rfl θ c2 ?_;have hu:=hf.up (x:=fr x) (dQ ζ c2);rw[bH (dL (r:=fr x) _ ζ c2)]
    refine dV hL (.me (p:=x.af+1) hu.le) (JB hu) (aI x 21) (abK _) ζ rfl θ fun v s1 r1 gB _ h1 h2 h3 _=>?_
    exact dR hL h1 (abK _) rfl ζ hx h3 fun h=>⟨⟨_,h⟩,rfl⟩
  |false=>
   refine .inr ⟨rfl,?_⟩
   cases n with
   |zero=>exact .inl (by rw[run])
   |succ n=>
    right;rw[run,fD,dM (e1.trans c)];show(fU l [46]>>=_) s=_;rw[dM (e2.trans c2)];rfl
theorem aaR{m:Nat}(hL:l.length≤90)(O4:∀k,k<m→dZ l base B (.call sO) .dx vX VE k)(ihi:∀k,k<m→dZ l base B (.call Cr) .jv lI (fun x=>VU x) k):dZ l base B (.call Re) .nz lI (fun x=>VU x) m:=by
 intro x s D hx
 cases m with
 |zero=>rw[run];trivial
 |succ n=>
  have hf:=hx.fr;rw[run,fD];refine dY 0 (w:=Re) hL (c:=fun _=>true) ζ rfl θ rfl ?_
  have fw:∀{p s1 r1 gB C1},Fr l p C1 gB r1→(C1.all fun c=>dd c (.nm Cr))=true→x.af≤r1.af→Rl l B s.done s1 r1→Sm l (x.af+1) lI B D (VU x) (wr (fun r=>bn x r 20) (dl l (.seq [.nm Cr] x.af gB))) ((run l base n .jv>>=fun _=>node l 20 (s.af,s.done.length)>>=fun _=>pure Va.un) s1):=fun hF hd h1 hr=>dV hL hF (ihi n (aar n) _ _ _ hr) (aI x 20) η ζ hd θ fun v s2 r2 jM _ a1 a2 a3 _=>dR hL a1 η θ ζ hx a3 fun h=>⟨_,h⟩
  rcases LW (n:=n) hL (fun k hk=>O4 k η) hf with⟨hk,hs⟩|⟨hk,hs|hs⟩
  case inr.inl=>rw[jR];unfold Pm.bind;rw[hs];trivial
  case inr.inr=>
   rw[jo hs];obtain⟨xs',e,h1⟩:=ow (ys:=[.nm Cr]) (f:=x.af) (a:=[[.nm NB, .bV [[.nm NB]], .tx [61]]]) hL (.me (p:=x.af) hf.le) (c:=fun k=>!aJ [62,69] (un k)) θ (by rw[hk];rfl) rfl;rw[e];exact fw h1 rfl (υ _) hf
  have hb:∀(f:Va→Pm Va) (g:Pm Va),(∀v:Va,v.bool=true→f v=((run l base n .uh>>=fun _=>bY l [61]>>=fun _=>pure Va.un)>>=fun _=>g))→(run l base n .pg>>=f) s=((run l base n .pg>>=fun _=>run l base n .uh>>=fun _=>bY l [61]>>=fun _=>pure Va.un)>>=fun _=>g) s:=fun f g hf=>by
   rw[bG];show Pm.bind _ _ s=Pm.bind _ _ s;unfold Pm.bind
   cases e:run l base n .pg s with
   |out=>rfl
   |no=>rfl
   |ok v s1=>
    rw[e]at hs;obtain⟨_,_,_,_,_,_,hv⟩:=hs;simp only[hf v hv]
  rw[hb _ (run l base n .jv>>=fun _=>node l 20 (s.af,s.done.length)>>=fun _=>pure Va.un) fun v hv=>by simp only[hv,if_true]]
  have hkc:aJ [62,69] (kc l (fr x).af)=true:=by
   have h:=yV (l:=l) x.env x.af
   exact(mP (c:=fun k=>aJ [62,69] (un k)) (d:=fun k=>(List.range KN).all fun c=>!aJ (Bu c) k||aJ [62,69] c) θ (jP x.env x.af) hk|>fun q=>by
    have:=(Θ.1 q) (kc l x.af) (acD.2 (DF x.af));rw[aU.2 h]at this
    exact this)
  refine uw (C:=[]) (F:=[62,69]) (C1:=[]) hL (.me (p:=x.af) hf.le) hkc (aI x 20) (.inr θ) ?_ rfl θ fun v s1 r1 gB _ a1 a2 a3=>fw a1 θ a2 a3
  refine dV hL (.me (p:=x.af) hf.le) hs jW (υ _) ζ rfl ζ fun v s1 r1 gB _ a1 a2 a3 _=>?_
  have a2:x.af+1≤r1.af:=a2
  refine kU (q:=r1.af) (p':=x.af+1) (C1:=[62,69]) (V:=tt) hL a1 (xW (C:=[]) (I:=fun(_:Unit) _ _=>True) (loop:=fun m _=>run l base m .uh) (i:=()) hL rfl rfl (fun m' _ s r hm hr _=>?_) a3 trivial) (υ _) jW a2 (.inl rfl) (.inl (υ _)) rfl θ fun v s2 r2 jM _ b1 b2 b3 _=>?_
  ·cases m' with
   |zero=>exact .inr (.inl (by show run l base 0 _ s=_;rw[run]))
   |succ k=>
    have er:∀s,run l base (k+1) .uh s=(run l base k .pg>>=fun d=>if d.bool=true then run l base k .uh else pure Va.un) s:=fun s=>by rw[run]
    rcases LW (n:=k) hL (fun k hk=>O4 k η) hr with⟨hk,hs⟩|⟨hk,hs|hs⟩
    ·refine .inr (.inr ⟨?_,k,run l base k .pg,fun _=>(),aar k,?_,?_⟩)
     ·have h:=yV (l:=l) r.env r.af
      exact(mP (c:=fun k=>aJ [62,69] (un k)) (d:=fun k=>(List.range KN).all fun c=>!aJ (Bu c) k||aJ [62,69] c) θ (jP r.env r.af) hk|>fun q=>by
       have:=(Θ.1 q) (kc l r.af) (acD.2 (DF r.af));rw[aU.2 h]at this
       exact this)
     ·show run l base (k+1) .uh s=_
      rw[er];show Pm.bind _ _ s=Pm.bind _ _ s;unfold Pm.bind
      cases e:run l base k .pg s with
      |out=>rfl
      |no=>rfl
      |ok v s1=>
       rw[e]at hs;obtain⟨_,_,_,_,_,_,hv⟩:=hs;simp only[hv];rfl
     ·rw[ou]
      exact BX (lW hL ζ hs)
    ·refine .inr (.inl ?_)
     show run l base (k+1) .uh s=_;rw[er,jR];unfold Pm.bind;rw[hs]
    ·refine .inl ⟨mq (c:=fun k=>!aJ [62,69] (un k)) θ (by rw[hk];rfl),Va.un,?_,trivial⟩
     show run l base (k+1) .uh s=_;rw[er,jo hs];rfl
  ·refine eD b1 b3 (by show x.af+1≤_;omega) rfl ζ ζ ζ θ fun h4 h5=>mr hL h4 (by show x.af+1≤_;omega) rfl jW h5 trivial
end
def VL{α:Type}(x:Sx)(_:α)(_:Ps)(r:Sx):Prop:=∃t,VK x r t∧t.lo=x.af∧t.hi=r.af
def qH(l:List Ct)(base:Bs→Bool)(B:List Sd)(c:Nat→Bool)(q:Sx→Rq)(tg:Tg)(C:List Nat)(V:Sx→Va→Ps→Sx→Prop)(m:Nat):Prop:=
 ∀(x:Sx) (s:Ps) (D:List Nd),Rl l B D s x→c (kd l x.env x.af)=true→Sm l (x.af+1) C B D (V x) (dl l (q x)) (run l base m tg s)
section
variable {l:List Ct} {base:Bs→Bool} {B:List Sd} {D D2:List Nd}
inductive Ie (l:List Ct) (lo:Nat):Nat→List Tr→Bool→Prop
 |nil:Ie l lo lo [] false
 |nR {p ks td}:Ie l lo p ks td→Ie l lo (p+1) ks (td||dJ l p Eg)
 |O9 {p ks td t}:Ie l lo p ks td→t.lo=p→p<t.hi→Ie l lo t.hi (ks++[t]) td
inductive Ig (l:List Ct) (hi:Nat):Nat→List Tr→Bool→Prop
 |nil:Ig l hi hi [] false
 |nR {p ks td}:Ig l hi (p+1) ks td→p<hi→(∀t∈ks.head?,p<t.lo)→Ig l hi p ks (dJ l p Eg||td)
 |O9 {p ks td t}:Ig l hi t.hi ks td→t.lo=p→p<t.hi→t.hi≤hi→Ig l hi p (t::ks) td
theorem Ig.le{hi p:Nat}{ks:List Tr}{td:Bool}(h:Ig l hi p ks td):p≤hi∧∀t∈ks.head?,p≤t.lo:=by
 cases h with
 |nil=>exact⟨υ _,fun t ht=>by cases ht⟩
 |nR h1 h2 h3=>exact⟨af2 h2,fun t ht=>af2 (h3 t ht)⟩
 |O9 h1 h2 h3 h4=>exact⟨by omega,fun t ht=>by cases ht;omega⟩
theorem Ie.bB{lo p:Nat}{ks:List Tr}{td:Bool}(h:Ie l lo p ks td):∀{hi ks2 td2},Ig l hi p ks2 td2→Ig l hi lo (ks++ks2) (td||td2):=by
 induction h with
 |nil=>intro hi ks2 td2 h;simpa using h
 |nR h1 ih=>
  intro hi ks2 td2 h;have h2:=h.le;have:=ih (.nR h η fun t ht=>by have:=h2.2 t ht;omega);rwa[←Bool.or_assoc]at this
 |O9 h1 h2 h3 ih=>
  intro hi ks2 td2 h;have:=ih (.O9 h h2 h3 h.le.1);rw[Ψ];exact this
theorem Ig.Yo{hi:Nat}:∀{n p:Nat} {ks:List Tr} {td:Bool},Ig l hi p ks td→hi<n+p→jV l hi n p ks=td:=by
 intro n p ks td h
 induction h generalizing n with
 |nil=>intro hn;cases n<;>rw[jV];rw[χ (agn _)]
 |nR h1 h2 h3 ih=>
  rename_i p ks td;intro hn
  cases n with
  |zero=>omega
  |succ n=>
   cases ks with
   |nil=>rw[jV,ω h2,ih η]
   |cons t r=>rw[jV,ω h2,χ (by have:=h3 t ν;omega),ih η]
 |O9 h1 h2 h3 h4 ih=>
  rename_i p ks td t;intro hn
  cases n with
  |zero=>omega
  |succ n=>rw[jV,ω η,ω h2,ih η]
theorem Ie.Yo{lo hi:Nat}{ks:List Tr}{td:Bool}(h:Ie l lo hi ks td):jV l hi (hi+1) lo ks=td:=by
 have:=h.bB (hi:=hi) .nil
 rw[List.append_nil,afp]at this
 exact this.Yo η
def VS(l:List Ct)(x:Sx)(v:Va)(_:Ps)(r:Sx):Prop:=∃t td,VK x r t∧t.k=5∧v=Va.bo td∧jV l t.hi (t.hi+1) t.lo t.ah=td
theorem DJ:∀(n:Nat) (a:Bool) (w o:Nat) (td:Bool) (s s1:Ps) (v:Va),1<o∨0<w∧0<o→run l base n (.jJ a w o td) s≠ .ok v s1
 |0,a,w,o,td,s,s1,v,h,e=>by rw[run]at e;cases e
 |n+1,a,w,o,td,s,s1,v,h,e=>by
  rw[run]at e
  have st:∀(w' o':Nat) (GR:Bool),w≤w'→o≤o'→(step l 1>>=fun _=>run l base n (.jJ a w' o' GR)) s≠ .ok v s1:=fun w' o' GR hw ho e=>by
   obtain⟨_,s2, -,e2⟩:=uk e;exact DJ n a w' o' GR s2 s1 v η e2
  have ca:∀(tg:Tg) (w' o':Nat) (GR:Bool),w≤w'→o≤o'→(run l base n tg>>=fun _=>run l base n (.jJ a w' o' GR)) s≠ .ok v s1:=fun tg w' o' GR hw ho e=>by
   obtain⟨_,s2, -,e2⟩:=uk e;exact DJ n a w' o' GR s2 s1 v η e2
  by_cases c:l.length<w+o
  ·rw[ω c]at e;cases e
  rw[χ c,y8,F3]at e
  repeat' split at e
  all_goals first
   |omega
   |(change Rs.no=_ at e;cases e;done)
   |exact st _ _ _ η η e
   |exact ca _ _ _ _ η η e
end
theorem Wy:∀t∈kD,qZ.contains t=(spec t==5)∧uV.contains t=(spec t==3)∧rf.contains t=(spec t==1)∧(t==Eh)=(spec t==4)∧(t==yS)=(spec t==2)∧(t==rF)=(spec t==7)∧ql.contains t=(spec t==4||spec t==6||spec t==7)∧(spec t≠0→aJ cS1 (10+kD.idxOf t)=true)∧(3≤spec t→aJ cS0 (10+kD.idxOf t)=true)∧spec t≤7:=by decide+kernel
theorem adr(t:Bs):qZ.contains t=(spec t==5)∧uV.contains t=(spec t==3)∧rf.contains t=(spec t==1)∧(t==Eh)=(spec t==4)∧(t==yS)=(spec t==2)∧(t==rF)=(spec t==7)∧ql.contains t=(spec t==4||spec t==6||spec t==7)∧spec t≤7:=by
 by_cases h:t∈kD
 ·obtain⟨a,b,c,d,e,f,g, -, -,i⟩:=Wy t h
  exact⟨a,b,c,d,e,f,g,i⟩
 ·have e:∀L:List Bs,(∀t∈L,t∈kD)→L.contains t=false:=fun L hL=>(acL _).mp fun c=>h (hL _ (ab0.1 c))
  have e1:∀u:Bs,u∈kD→(t==u)=false:=fun u hu=>abF fun c=>h (c▸hu)
  rw[DD h,e qZ θ,e uV θ,e rf θ,e ql θ,e1 Eh θ,e1 yS θ,e1 rF θ]
  decide
def RX(k:Nat):Bool:=uY (un k)==2
def RY(k:Nat):Bool:=k==116
def LX(k:Nat):Bool:=uY (un k)==6
def RZ(k:Nat):Bool:=uY (un k)==7
def cS(all:Bool):List Nat:=if all then cS1 else cS0
section
variable {l:List Ct} {base:Bs→Bool} {B:List Sd} {D D2:List Nd}
theorem ahp{p:Nat}{all:Bool}(h:bz l p=1)(h2:spec (bM l p)≠0)(h3:all=true∨3≤spec (bM l p)):aJ (cS all) (kc l p)=true:=by
 have hk:kD.contains (bM l p)=true:=ab0.2 (afT fun c=>h2 (DD c))
 have e:k0 l p=10+kD.idxOf (bM l p):=by
  unfold k0 uS;rw[h];simp only[hk,if_true];rfl
 have b2:kD.idxOf (bM l p)≤43:=acu (l:=kD)
 have e2:=uZ (l:=l) p
 have:kc l p=10+kD.idxOf (bM l p):=by
  rw[e]at e2
  split at e2
  ·omega
  ·exact e2.symm
 obtain⟨-, -, -, -, -, -, -,a,b, -⟩:=Wy _ (ab0.1 hk)
 rw[this]
 cases all with
 |true=>exact a h2
 |false=>exact b (h3.resolve_left ζ)
def y9(x:Sx)(t:So):Sx:=gU x t.s (.mk 5 x.af t.s.af t.s.ah [])
theorem KQ(x:Sx):∀(fr:List So),(∀t∈fr,0<t.b+t.w)→fr.filterMap (iM x)=fr.map (y9 x)
 |[],_=>rfl
 |t::r,h=>by
  rw[agH]
  have:iM x t=some (y9 x t):=by unfold iM;rw[ω (h t (ab6 ..))];rfl
  rw[this,acj,KQ x r fun t ht=>h t (abM _ ht)]
theorem F6{all:Bool}{x:Sx}{fr:List So}(h:fr≠[]):dl l (.dh all x fr)=((bu (ic l (dl l) all) fr).bind aG).bind fun z=>(dl l (.dh all x z)).bind fun y=>aG (fr.filterMap (iM x)++y):=by
 rw[fM]
 show(if fr.isEmpty then _ else _)=_
 rw[χ (by simpa using h)]
theorem AQ{all:Bool}{x:Sx}:dl l (.dh all x [])=some []:=by rw[fM];rfl
theorem R3{all:Bool}{t:So}(h:kc l t.s.af=64):ic l (dl l) all t=some []:=by
 unfold ic
 refine ω ?_
 rw[vS]
 have e:k1 l t.s.env t.s.af=64:=by
  rw[FX ζ,uZ,h];decide
 rw[e];cases all<;>rfl
theorem Yp{all:Bool}{x:Sx}{fr:List So}{p:Nat}(hL:l.length≤90)(hd:eP l p (fr.map (·.s)))(h:∀t∈fr,kc l t.s.af=64∧0<t.b+t.w):dl l (.dh all x fr)=some (fr.map (y9 x)):=by
 cases fr with
 |nil=>exact AQ
 |cons a r=>
  rw[F6 ν,ja fun t ht=>R3 (h t ht).1];show(dl l (.dh all x [])).bind _=_;rw[AQ,KQ x _ fun t ht=>(h t ht).2];show aG (_++[])=_;rw[List.append_nil];refine eP.aG (p:=p) hL ⟨?_,fun y hy=>?_,fun y hy=>?_⟩
  ·have:((a::r).map (y9 x)).map (·.af)=((a::r).map (·.s)).map (·.af):=by rw[agx,agx];rfl
   rw[this];exact hd.nd
  all_goals obtain⟨t,ht,rfl⟩:=abt.1 hy
  ·exact hd.lo t.s (abt.2 ⟨t,ht,rfl⟩)
  ·exact hd.hi t.s (abt.2 ⟨t,ht,rfl⟩)
structure Fs (l:List Ct) (P:Nat) (x:Sx) (fr:List So) (y:So):Prop where
 mem:∃A Z,fr=A++y::Z∧∀t∈A++Z,kc l t.s.af=64∧0<t.b+t.w∧t.s.af<y.s.af
 dis:eP l 0 (fr.map (·.s))
 lo:0<y.b+y.w→∀t∈fr,P≤t.s.af
 ay:y.b+y.w=0→fr=[y]∧P≤y.s.af+1
theorem Fs.pos{P:Nat}{x:Sx}{fr:List So}{y:So}(h:Fs l P x fr y)(hy:0<y.b+y.w):∀t∈fr,0<t.b+t.w:=fun t ht=>by
 obtain⟨A,Z,rfl,h2⟩:=h.mem
 simp only[abr,abf]at ht
 rcases ht with h|h|h
 ·exact(h2 t (aby _ h)).2.1
 ·exact h▸hy
 ·exact(h2 t (abD _ h)).2.1
theorem Fs.fZ{P:Nat}{x:Sx}{fr:List So}{y:So}(h:Fs l P x fr y)(hy:0<y.b+y.w):fr.filterMap (iM x)=fr.map (y9 x)∧Fr l P [64] (fr.map (y9 x)) (y9 x y):=by
 refine⟨KQ x fr (h.pos hy),?_⟩
 have e:((fr.map (y9 x)).map (·.af))=(fr.map (·.s)).map (·.af):=by rw[agx,agx];rfl
 obtain⟨A,Z,hfr,h2⟩:=h.mem
 refine⟨⟨e▸h.dis.nd,fun z hz=>?_,fun z hz=>?_⟩,A.map (y9 x),Z.map (y9 x),by rw[hfr];simp,fun z hz=>?_⟩
 ·obtain⟨t,ht,rfl⟩:=abt.1 hz;exact h.lo hy t ht
 ·obtain⟨t,ht,rfl⟩:=abt.1 hz;exact h.dis.hi t.s (abt.2 ⟨t,ht,rfl⟩)
 ·rw[←acb]at hz
  obtain⟨t,ht,rfl⟩:=abt.1 hz;have:=h2 t ht;exact⟨by show aJ _ (kc l t.s.af)=true;rw[this.1];decide,this.2.2⟩
theorem Fs.bB{P:Nat}{x:Sx}{fr:List So}{y:So}{all:Bool}(h:Fs l P x fr y):bu (ic l (dl l) all) fr=ic l (dl l) all y:=by
 obtain⟨A,Z,rfl,h2⟩:=h.mem
 exact CE y fun t ht=>R3 (h2 t ht).1
theorem F7{α:Type}{P q:Nat}{C:List Nat}{V:α→Ps→Sx→Prop}{x:Sx}{fr:List So}{y:So}{o:Option (List Sx)}{R:Rs α}(hL:l.length≤90)(hF:Fs l P x fr y)(hC:aJ C 64=true)(hy:aJ C (kc l y.s.af)=true)(hq:y.s.af+1≤q)(h:Sm l q C B D V o R):Sm l P C B D V (o.bind fun z=>aG (fr.filterMap (iM x)++z)) R:=by
 by_cases c:0<y.b+y.w
 case neg=>
  have h1:=hF.ay η
  have:fr.filterMap (iM x)=[]:=by
   rw[h1.1,agH]
   have:iM x y=none:=by unfold iM;rw[χ c]
   rw[this];rfl
  rw[this];exact(h.aG hL).le (by have:=h1.2;omega) (by rw[Θ];exact fun x hx=>aU.2 hx)
 obtain⟨e,h2⟩:=hF.fZ c
 rw[e]
 have hlt:∀z∈fr.map (y9 x),z.af<q∧aJ C (kc l z.af)=true:=fun z hz=>by
  rcases h2.mem.2 z hz with rfl|h3
  ·exact⟨by show y.s.af<q;omega,hy⟩
  ·refine⟨by have:z.af<y.s.af:=h3.2;omega,?_⟩
   rw[Φ.1 (aU.1 h3.1)];exact hC
 have hd:∀{z},eP l q z→eP l P (fr.map (y9 x)++z):=fun hz=>h2.1.fK hz (by have:P≤y.s.af:=h2.lo.1;omega) fun z hz=>(hlt z hz).1
 cases R with
 |out=>trivial
 |no=>
  obtain⟨z,rfl,h3⟩:=h;exact⟨_,(hd h3.1).aG hL,hd h3.1,fun u hu=>(abr.1 hu).elim (fun h=>(hlt u h).2) (h3.2 u)⟩
 |ok a s=>
  obtain⟨z,r,rfl,h3,h4⟩:=h;have h5:=h3.lo.1;exact⟨_,r,(hd h3.1).aG hL, .xB (hd h3.1) (abD _ h3.mem.1) fun u hu=>(abr.1 hu).elim (fun h=> .inr ⟨(hlt u h).2,by have:=(hlt u h).1;omega⟩) (h3.mem.2 u),h4⟩
theorem F8{M:Nat}{all:Bool}(hL:l.length≤90)(hB:Bb base B)(ihl:∀k,k<M→qH l base B RX (.call FU) .wL [] (fun x=>VL x) k)(iha:∀k,k<M→qH l base B RY (.call FP) .atomic [] (fun x=>VL x) k)(ihr:∀k,k<M→qH l base B LX (.call FQ) .qW [64] (fun x=>VL x) k)(BI:∀k,k<M→qH l base B RZ (.call rF) .yP [64] (fun x=>VL x) k){x:Sx}{s0:Ps}(hx:Rl l B D s0 x):
  ∀(n P:Nat) (fr:List So) (y:So) (s:Ps) (td:Bool),n≤M→Fs l P x fr y→Rl l B s0.done s y.s→(¬1<y.w∧¬(0<y.b∧0<y.w))→Ie l x.af y.s.af y.s.ah td→
   Sm l P (cS all) B D (VS l x) (dl l (.dh all x fr)) ((run l base n (.jJ all y.b y.w td)>>=fun r=>node l 5 (s0.af,s0.done.length)>>=fun _=>pure r) s)
 |0,P,fr,y,s,td,_,_,_,_,_=>by rw[run];trivial
 |n+1,P,fr,y,s,td,hn,hF,hr,hw,ht=>by
  have hfr:fr≠[]:=by
   obtain⟨A,Z,rfl, -⟩:=hF.mem;simp
  have Wz:aJ (cS all) 64=true:=by cases all<;>decide
  rw[F6 hfr,hF.bB];rw[run];by_cases c0:l.length<y.b+y.w
  ·rw[ω c0];trivial
  rw[χ c0,bG,y8,bG,F3]
  have hc:(az l s 0).c=bz l y.s.af:=by rw[hr.af];exact ku s 0
  have htx:(az l s 0).t=bM l y.s.af:=by rw[hr.af];rfl
  have hbad:(y.b+y.w=0∨1<y.w∨0<y.b∧0<y.w)↔y.b+y.w=0:=⟨fun h=>by omega, .inl⟩
  have stop:ic l (dl l) all y=some []→Sm l P (cS all) B D (VS l x) ((ic l (dl l) all y).bind aG|>.bind fun z=>(dl l (.dh all x z)).bind fun y'=>aG (fr.filterMap (iM x)++y')) (((if y.b+y.w=0∨1<y.w∨0<y.b∧0<y.w then iD else pure (Va.bo td):Pm Va)>>=fun r=>node l 5 (s0.af,s0.done.length)>>=fun _=>pure r) s):=fun h=>by
   rw[h];show Sm l P (cS all) B D (VS l x) ((dl l (.dh all x [])).bind _) _;rw[AQ];show Sm l P (cS all) B D (VS l x) (aG (_++[])) _;rw[List.append_nil];by_cases c:y.b+y.w=0
   ·rw[ω (hbad.2 c)]
    have h1:=hF.ay c
    have:fr.filterMap (iM x)=[]:=by
     rw[h1.1,agH]
     have:iM x y=none:=by unfold iM;rw[χ η]
     rw[this];rfl
    rw[this];exact .nil rfl
   ·rw[χ fun h=>c (hbad.1 h)]
    obtain⟨e,h2⟩:=hF.fZ η;rw[e];show Sm l P (cS all) B D (VS l x) _ ((node l 5 (s0.af,s0.done.length)>>=fun _=>pure (Va.bo td)) s)
    rcases xD (l:=l) (k:=5) (h:=(s0.af,s0.done.length)) (s:=s) (f:=fun _=>pure (Va.bo td))with e|⟨-,e⟩
    ·rw[e];trivial
    ·rw[e]
     exact⟨_,_,h2.1.aG hL,h2.le (υ _) (by rw[Θ];exact fun u hu=>by rw[Φ.1 hu];exact Wz),xX hx hr.dn hr,_,td,⟨rfl,rfl,rfl⟩,rfl,rfl,ht.Yo⟩
  have nR:∀(y':So) (GR:Bool),ic l (dl l) all y=some [y']→y'.s=up y.s→un (kd l y.s.env y.s.af)≠0→aJ (cS all) (kc l y.s.af)=true∨y.b+y.w=0→(¬1<y'.w∧¬(0<y'.b∧0<y'.w))→GR=(td||dJ l y.s.af Eg)→Sm l P (cS all) B D (VS l x) ((ic l (dl l) all y).bind aG|>.bind fun z=>(dl l (.dh all x z)).bind fun y'=>aG (fr.filterMap (iM x)++y')) (((step l 1>>=fun _=>run l base n (.jJ all y'.b y'.w GR))>>=fun r=>node l 5 (s0.af,s0.done.length)>>=fun _=>pure r) s):=fun y' GR h hs hk hE hw' htd=>by
   have hu:=hr.up hk;rw[h,bG,vT (by rw[←hr.af];exact hu.le)];have ih:=F8 (all:=all) hL hB ihl iha ihr BI hx n (y.s.af+1) [y'] y' (bU s) GR η ⟨⟨[],[],rfl,fun t ht=>(by cases ht)⟩,by rw[acj,hs];exact .ay (Ω _) hu.le,fun _ t ht=>by rw[Φ.1 ht,hs];exact υ _,fun _=>⟨rfl,by rw[hs];exact abK _⟩⟩ (hs▸hu) hw' (by rw[hs,htd];exact .nR ht)
   rcases hE with hE|hE
   ·exact F7 hL hF Wz hE (υ _) ih
   ·have h1:=hF.ay hE
    have:fr.filterMap (iM x)=[]:=by
     rw[h1.1,agH]
     have:iM x y=none:=by unfold iM;rw[χ η]
     rw[this];rfl
    rw[this];exact(ih.aG hL).le (by have:=h1.2;omega) (by rw[Θ];exact fun x hx=>aU.2 hx)
  have call:∀(w:Bs) (tg:Tg) (b' w':Nat) (C:List Nat) (kk:Nat→Bool),qH l base B kk (.call w) tg C (fun x=>VL x) n→kk (kd l y.s.env y.s.af)=true→C.all (aJ [64])=true→(ic l (dl l) all y=(dl l (.call w y.s)).bind fun z=>some (z.map fun u=>(⟨u,b',w'⟩:So)))→(C=[]∨0<b'+w')→aJ (cS all) (kc l y.s.af)=true→(¬1<w'∧¬(0<b'∧0<w'))→Sm l P (cS all) B D (VS l x) ((ic l (dl l) all y).bind aG|>.bind fun z=>(dl l (.dh all x z)).bind fun y'=>aG (fr.filterMap (iM x)++y')) (((run l base n tg>>=fun _=>run l base n (.jJ all b' w' td))>>=fun r=>node l 5 (s0.af,s0.done.length)>>=fun _=>pure r) s):=fun w tg b' w' C kk hi hkk hC h hpos hE hw'=>by
   have hc:=hi y.s s s0.done hr hkk
   have hCc:C.all (aJ (cS all))=true:=by
    rw[Θ];intro c hc;have:=(Θ.1 hC) c hc;rw[Φ.1 (aU.1 this)];exact Wz
   rw[h,bG];show Sm l P _ B D _ _ (Pm.bind (run l base n tg) _ s);unfold Pm.bind
   have hmap:∀z:List Sx,(z.map fun u=>(⟨u,b',w'⟩:So)).map (·.s)=z:=fun z=>by rw[agx];exact List.map_id' z
   have hlim:∀{z:List Sx} {q},eP l q z→aG (z.map fun u=>(⟨u,b',w'⟩:So))=some (z.map fun u=>(⟨u,b',w'⟩:So)):=fun{z q} hd=>nY (by rw[abz];have:=hd.len;omega)
   cases e:run l base n tg s with
   |out=>trivial
   |no=>
    rw[e]at hc;obtain⟨z,h1,h2⟩:=hc;rw[h1];show Sm l P _ B D _ ((aG (z.map fun u=>(⟨u,b',w'⟩:So))).bind _) .no;rw[hlim h2.1];refine F7 hL hF Wz hE (q:=y.s.af+1) (υ _) (R:=(.no:Rs Va)) ?_;rw[Yp (p:=y.s.af+1) hL (by rw[hmap];exact h2.1) fun t ht=>?_]
    ·refine⟨_,rfl,?_⟩
     have:=(h2.map (g:=fun u=>gU x u (.mk 5 x.af u.af u.ah [])) fun _=>rfl).le (υ _) (E:=cS all) hCc;rw[agx];exact this
    ·obtain⟨u,hu,rfl⟩:=abt.1 ht
     refine⟨Φ.1 (aU.1 ((Θ.1 hC) _ (aU.1 (h2.2 u hu)))),?_⟩
     rcases hpos with rfl|h
     ·have:=h2.2 u hu;cases this
     ·exact h
   |ok v s1=>
    rw[e]at hc;obtain⟨z,r,h1,h2,h3,t,h4,h5,h6⟩:=hc;rw[h1];show Sm l P _ B D _ ((aG (z.map fun u=>(⟨u,b',w'⟩:So))).bind _) _;rw[hlim h2.1];have h7:=h2.lo.1;refine F7 hL hF Wz hE (q:=y.s.af+1) (υ _) ?_;refine F8 (all:=all) hL hB ihl iha ihr BI hx n (y.s.af+1) (z.map fun u=>⟨u,b',w'⟩) ⟨r,b',w'⟩ s1 td η ⟨?_,by rw[hmap];exact h2.1.uj (Ω _),fun _ t ht=>?_,fun h0=>?_⟩ h3 hw' ?_
    ·obtain⟨A,Z,rfl,jK⟩:=h2.2
     refine⟨A.map fun u=>⟨u,b',w'⟩,Z.map fun u=>⟨u,b',w'⟩,by simp,fun t ht=>?_⟩;rw[←acb]at ht;obtain⟨u,hu,rfl⟩:=abt.1 ht;refine⟨Φ.1 (aU.1 ((Θ.1 hC) _ (aU.1 (jK u hu).1))),?_,(jK u hu).2⟩
     rcases hpos with rfl|h
     ·have:=(jK u hu).1;cases this
     ·exact h
    ·obtain⟨u,hu,rfl⟩:=abt.1 ht
     exact h2.1.lo u hu
    ·rcases hpos with rfl|h
     ·obtain⟨A,Z,rfl,jK⟩:=h2.2
      have hz:∀L:List Sx,(∀x∈L,aJ [] (kc l x.af)=true∧x.af<r.af)→L=[]:=fun L hL=>acs.2 fun x hx=>by have:=(hL x hx).1;cases this
      have hA:=hz A fun x hx=>jK x (aby _ hx)
      have hZ:=hz Z fun x hx=>jK x (abD _ hx)
      subst hA hZ;exact⟨rfl,by show _≤r.af+1;omega⟩
     ·have h0:b'+w'=0:=h0
      omega
    ·show Ie l x.af r.af r.ah td
     rw[h4.1,←h6];exact .O9 ht h5 (by rw[h6];omega)
  have bad:∀X:Pm Va,ic l (dl l) all y=some []→aJ (cS all) (kc l y.s.af)=true→0<y.b+y.w→(∀s1 v,X s≠ .ok v s1)→Sm l P (cS all) B D (VS l x) ((ic l (dl l) all y).bind aG|>.bind fun z=>(dl l (.dh all x z)).bind fun y'=>aG (fr.filterMap (iM x)++y')) ((X>>=fun r=>node l 5 (s0.af,s0.done.length)>>=fun _=>pure r) s):=fun X h hE h0 hX=>by
   rw[h];show Sm l P (cS all) B D (VS l x) ((dl l (.dh all x [])).bind _) (Pm.bind X _ s);unfold Pm.bind;rw[AQ];show Sm l P (cS all) B D (VS l x) (aG (_++[])) _;rw[List.append_nil];obtain⟨e,h2⟩:=hF.fZ h0;rw[e]
   cases eX:X s with
   |out=>trivial
   |ok v s1=>exact absurd eX (hX s1 v)
   |no=>
    refine⟨_,h2.1.aG hL,h2.1,fun z hz=>?_⟩
    rcases h2.mem.2 z hz with rfl|h3
    ·exact hE
    ·rw[Φ.1 (aU.1 h3.1)];exact Wz
  obtain⟨t1,t2,t3,t4,t5,t6,t7,t8⟩:=adr (bM l y.s.af)
  have hsp:iY l y.s.env y.s.af all=(if bz l y.s.af=2 then iN y.s.env (bM l y.s.af)else if bz l y.s.af≠1 then false else(spec (bM l y.s.af)==5||spec (bM l y.s.af)==3||(spec (bM l y.s.af)==4||spec (bM l y.s.af)==6||spec (bM l y.s.af)==7)||(all&&(spec (bM l y.s.af)==1||spec (bM l y.s.af)==2)))):=by
   unfold iY;rw[t1,t2,t3,t7,t5]
  have off:iY l y.s.env y.s.af all=false→ic l (dl l) all y=some []:=fun h=>by unfold ic;exact ω h
  by_cases c2:bz l y.s.af=2
  ·rw[ω (hc.trans c2)]
   rw[ω c2]at hsp;rw[LM hB hr,htx]
   cases cT:iN y.s.env (bM l y.s.af)with
   |false=>
    rw[ω (.inr rfl)];exact stop (off (hsp.trans cT))
   |true=>
    have hm:ic l (dl l) all y=if 0<y.b+y.w then some []else some [⟨up y.s,y.b,y.w+1⟩]:=by
     unfold ic;rw[χ (by rw[hsp,cT];decide),χ fun h=>by rw[c2]at h;exact absurd h.1 ζ,χ fun h=>by rw[c2]at h;exact absurd h.1 ζ,χ fun h=>by rw[c2]at h;exact absurd h.1 ζ];by_cases h0:0<y.b+y.w
     ·rw[ω h0,ω h0]
     ·rw[χ h0,χ h0,ω (by rw[c2];decide)];rfl
    by_cases h0:0<y.b+y.w
    ·rw[ω (.inl h0)]
     rw[ω h0]at hm;exact stop hm
    ·rw[χ fun h=>h.elim h0 fun h=>by cases h]
     rw[χ h0]at hm
     have hb:y.b=0∧y.w=0:=by omega
     refine nR ⟨up y.s,y.b,y.w+1⟩ td hm rfl ?_ (.inr η) (by show¬1<y.w+1∧¬(0<y.b∧0<y.w+1);omega) ?_
     ·rw[eY,((mo y.s.env y.s.af).2).1 ⟨c2,cT⟩];decide
     ·have:dJ l y.s.af Eg=false:=by
       rw[CB _ ζ,((uu y.s.af).1).1 c2];decide
      rw[this,afp]
  rw[χ fun h=>c2 (hc.symm.trans h)];rw[χ c2]at hsp;by_cases c1:bz l y.s.af=1
  case neg=>
   rw[ω fun h=>c1 (hc.symm.trans h)];rw[ω c1]at hsp;exact stop (off hsp)
  rw[χ fun h=>h (hc.trans c1),htx];rw[χ fun h=>h c1]at hsp
  have hu:un (kd l y.s.env y.s.af)≠0∨spec (bM l y.s.af)=0:=by
   by_cases hk:bM l y.s.af∈kD
   ·left
    have e:k0 l y.s.af=10+kD.idxOf (bM l y.s.af):=by
     unfold k0 uS;rw[c1];simp only[ab0.2 hk,if_true];rfl
    rw[eY];unfold k1
    split
    ·decide
    ·omega
   ·exact .inr (DD hk)
  have ntd:spec (bM l y.s.af)≠1→dJ l y.s.af Eg=false:=fun h=>(acL _).mp fun e=>by
   unfold dJ at e;simp only[aaS,aaZ]at e;have:bM l y.s.af=Eg:=e.2;rw[this]at h;exact h ζ
  have ap:=x8 hr (t:=[40]) rfl ζ
  have ap2:dJ l (y.s.af+1) [40]=aX l s 1 [40]:=by rw[KJ rfl,hr.af]
  have Pb:ic l (dl l) all y=if iY l y.s.env y.s.af all=false then some []else if spec (bM l y.s.af)=5 then some (if 0<y.w then[]else[⟨up y.s,y.b+1,y.w⟩])else if spec (bM l y.s.af)=3∨spec (bM l y.s.af)=1∨(spec (bM l y.s.af)=4∧aX l s 1 [40]=false)then some [⟨up y.s,y.b,y.w⟩]else if spec (bM l y.s.af)=2 then(dl l (.call FU y.s)).bind fun z=>some (z.map fun u=>(⟨u,y.b,y.w⟩:So))else if 0<y.b+y.w then some []else(dl l (.call (if spec (bM l y.s.af)=4 then FP else if spec (bM l y.s.af)=7 then rF else FQ) y.s)).bind fun z=>some (z.map fun u=>(⟨u,0,1⟩:So)):=by
   have p4:bM l y.s.af=Eh↔spec (bM l y.s.af)=4:=by rw[←aaZ,t4,aaZ]
   have p2:bM l y.s.af=yS↔spec (bM l y.s.af)=2:=by rw[←aaZ,t5,aaZ]
   have p7:bM l y.s.af=rF↔spec (bM l y.s.af)=7:=by rw[←aaZ,t6,aaZ]
   unfold ic;rw[t1,t2,t3,ap2];simp only[c1,true_and,p4,p2,p7,aaZ,ne_eq,not_true,if_false];rfl
  have hE:spec (bM l y.s.af)≠0→all=true∨3≤spec (bM l y.s.af)→aJ (cS all) (kc l y.s.af)=true:=fun h h2=>ahp c1 h h2
  generalize hq:spec (bM l y.s.af)=q at*
  have hnz:q≠0→un (kd l y.s.env y.s.af)≠0:=fun h=>hu.resolve_right h
  by_cases q1:q=1∧all=true
  ·rw[ω q1]
   have hs1:iY l y.s.env y.s.af all≠false:=by rw[hsp,q1.1,q1.2];decide
   refine nR ⟨up y.s,y.b,y.w⟩ (td||bM l y.s.af==Eg) ?_ rfl (hnz η) (.inl (hE η (.inl q1.2))) hw ?_
   ·rw[Pb,χ hs1,χ η,ω (.inr (.inl q1.1))]
   ·congr 1
    cases e:dJ l y.s.af Eg with
    |true=>
     unfold dJ at e;simp only[aaS,aaZ]at e;exact aaZ.2 e.2
    |false=>
     refine abF fun e2=>?_
     have hlt:=Ce (l:=l) (p:=y.s.af) (by rw[c1];decide);have h1:=c1;unfold bz at h1;rw[ω hlt]at h1;unfold dJ at e;unfold bM at e2;rw[h1,e2]at e;simp[hlt]at e
  rw[χ q1];by_cases q2:q=2∧all=true
  ·rw[ω q2]
   have hs1:iY l y.s.env y.s.af all≠false:=by rw[hsp,q2.1,q2.2];decide
   exact call FU .wL y.b y.w [] RX (ihl n η) (by unfold RX;rw[eY,←Aa y.s.env c1,hq,q2.1];rfl) rfl (by rw[Pb,χ hs1,χ η,χ η,ω q2.1]) (.inl rfl) (hE η (.inl q2.2)) hw
  rw[χ q2];by_cases q12:q=1∨q=2
  ·have ha:all=false:=by
    cases all with
    |false=>rfl
    |true=>
     rcases q12 with h|h
     ·exact absurd ⟨h,rfl⟩ q1
     ·exact absurd ⟨h,rfl⟩ q2
   have hs0:iY l y.s.env y.s.af all=false:=by rw[hsp,ha];rcases q12 with h|h<;>rw[h]<;>decide
   rw[χ η,χ η,χ η,χ η,χ η];exact stop (off hs0)
  by_cases q0:q=0
  ·have hs0:iY l y.s.env y.s.af all=false:=by rw[hsp,q0];cases all<;>decide
   rw[χ η,χ η,χ η,χ η,χ η];exact stop (off hs0)
  have h3:3≤q:=by omega
  have hs1:iY l y.s.env y.s.af all≠false:=by
   rw[hsp]
   have:q=3∨q=4∨q=5∨q=6∨q=7:=by omega
   rcases this with h|h|h|h|h<;>rw[h]<;>cases all<;>decide
  have hE:=hE q0 (.inr h3);by_cases q3:q=3∨q=4∧aX l s 1 [40]=false
  ·rw[ω q3]
   refine nR ⟨up y.s,y.b,y.w⟩ td ?_ rfl (hnz q0) (.inl hE) hw (by rw[ntd η,afp]);rw[Pb,χ hs1,χ η,ω]
   rcases q3 with h|h
   ·exact .inl h
   ·exact .inr (.inr h)
  rw[χ q3]
  have CJ:¬(q=3∨q=1∨(q=4∧aX l s 1 [40]=false)):=fun h=>by
   rcases h with h|h|h
   ·exact q3 (.inl h)
   ·omega
   ·exact q3 (.inr h)
  by_cases q5:q=5
  ·rw[ω q5]
   by_cases h0:0<y.w
   ·refine bad _ (by rw[Pb,χ hs1,ω q5,ω h0]) hE η fun s1 v e=>?_
    obtain⟨_,s2, -,e2⟩:=uk e;exact DJ n all (y.b+1) y.w td s2 s1 v (.inr ⟨Nat.succ_pos _,h0⟩) e2
   ·exact nR ⟨up y.s,y.b+1,y.w⟩ td (by rw[Pb,χ hs1,ω q5,χ h0]) rfl (hnz q0) (.inl hE) (by show¬1<y.w∧¬(0<y.b+1∧0<y.w);omega) (by rw[ntd η,afp])
  rw[χ q5]
  have big:∀(w:Bs) (tg:Tg) (C:List Nat) (kk:Nat→Bool),qH l base B kk (.call w) tg C (fun x=>VL x) n→kk (kd l y.s.env y.s.af)=true→C.all (aJ [64])=true→(if q=4 then FP else if q=7 then rF else FQ)=w→Sm l P (cS all) B D (VS l x) ((ic l (dl l) all y).bind aG|>.bind fun z=>(dl l (.dh all x z)).bind fun y'=>aG (fr.filterMap (iM x)++y')) (((run l base n tg>>=fun _=>run l base n (.jJ all y.b (y.w+1) td))>>=fun r=>node l 5 (s0.af,s0.done.length)>>=fun _=>pure r) s):=fun w tg C kk hi hkk hC he=>by
   by_cases h0:0<y.b+y.w
   ·refine bad _ (by rw[Pb,χ hs1,χ q5,χ CJ,χ η,ω h0]) hE h0 fun s1 v e=>?_
    obtain⟨_,s2, -,e2⟩:=uk e;exact DJ n all y.b (y.w+1) td s2 s1 v η e2
   ·have h00:y.b=0∧y.w=0:=by omega
    rw[h00.1,h00.2];exact call w tg 0 1 C kk hi hkk hC (by rw[Pb,χ hs1,χ q5,χ CJ,χ η,χ h0,he]) (.inr ζ) hE ζ
  by_cases q4:q=4
  ·rw[ω q4]
   have h4:uY (k1 l y.s.env y.s.af)=4:=by rw[←Aa y.s.env c1,hq,q4]
   have hk:k1 l y.s.env y.s.af=46:=(by decide+kernel:∀u<110,uY u=4→u=46) _ (jI ..) h4
   have hs:aX l s 1 [40]=true:=by
    cases e:aX l s 1 [40]with
    |true=>rfl
    |false=>exact absurd (.inr ⟨q4,e⟩) q3
   exact big FP .atomic [] RY (iha n η) (by unfold RY;rw[mU hk,←(xC _ (jI ..)).2.2.2];exact ap.symm.trans hs) rfl (ω q4)
  rw[χ q4];by_cases q6:q=6
  ·rw[ω q6]
   exact big FQ .qW [64] LX (ihr n η) (by unfold LX;rw[eY,←Aa y.s.env c1,hq,q6];rfl) ζ (by rw[χ q4,χ η])
  rw[χ q6]
  have q7:q=7:=by omega
  rw[ω q7];exact big rF .yP [64] RZ (BI n η) (by unfold RZ;rw[eY,←Aa y.s.env c1,hq,q7];rfl) ζ (by rw[χ q4,ω q7])
theorem Yq{m:Nat}{all:Bool}(hL:l.length≤90)(hB:Bb base B)(ihl:∀k,k<m→qH l base B RX (.call FU) .wL [] (fun x=>VL x) k)(iha:∀k,k<m→qH l base B RY (.call FP) .atomic [] (fun x=>VL x) k)(ihr:∀k,k<m→qH l base B LX (.call FQ) .qW [64] (fun x=>VL x) k)(BI:∀k,k<m→qH l base B RZ (.call rF) .yP [64] (fun x=>VL x) k):dZ l base B (fun x=> .dh all x [⟨fresh x,0,0⟩]) (.dh all) (cS all) (VS l) m:=by
 intro x s D hx
 cases m with
 |zero=>rw[run];trivial
 |succ n=>
  rw[run,fD];exact F8 (M:=n) hL hB (fun k hk=>ihl k η) (fun k hk=>iha k η) (fun k hk=>ihr k η) (fun k hk=>BI k η) hx n (x.af+1) [⟨fresh x,0,0⟩] ⟨fresh x,0,0⟩ s false (υ n) ⟨⟨[],[],rfl,fun t ht=>(by cases ht)⟩, .ay (Ω _) hx.le,fun h=>absurd h (agn 0),fun _=>⟨rfl,υ _⟩⟩ (hx.frame false) (by show¬1<0∧¬(0<0∧0<0);decide) .nil
end
def AR:List Nat:=[62,60]
def wh:List Nat:=[2,74,14,42,30,46,60,62]
def cFi:List Nat:=AR++68::vX
def kSa(k:Nat):Bool:=aO k uW
section
variable {l:List Ct} {base:Bs→Bool} {B:List Sd} {D D2:List Nd}
variable {s : Ps}{r x : Sx}{α : Type}
theorem JF {k:Nat}{ks:List Tr}{d:List Sd}{v:α}(h:VK x (bn x r k) (.mk k x.af r.af ks d)):VL x v s (bn x r k):=⟨_,h,rfl,(aI x k r).symm⟩
theorem Rl.fV (h:Rl l B D s r)(x:Bs)(b:Bool):Rl l B D {s with nm:=s.nm.bS x b} {r with env:=Dr.fV r.env x b}:=by
 refine⟨h.af,h.le,?_,h.dn,?_⟩
 ·show Dr.fV r.env x b=DC B (s.nm.bS x b).bl.reverse (s.nm.bS x b).ch
  unfold Ns.bS;by_cases c:x=[]
  ·rw[ω c,h.env];unfold Dr.fV;rw[ω c]
  ·rw[χ c,h.env];exact adm B _ _ x b c h.bk
 ·show Rp (s.nm.bS x b).bl.reverse (s.nm.bS x b).ch.length
  unfold Ns.bS;by_cases c:x=[]
  ·rw[ω c];exact h.bk
  ·rw[χ c]
   have hb:=h.bk;show Rp s.nm.bl.reverse (s.nm.ch++[(x,b)]).length
   cases e:s.nm.bl.reverse with
   |nil=>trivial
   |cons k r=>rw[e]at hb;exact⟨by rw[Δ];have:=hb.1;omega,hb.2⟩
theorem Rl.qY (h:Rl l B D s r):Rl l B D {s with nm:=s.nm.kH} {r with env:=Dr.qY r.env}:=by
 have e:s.nm.kH.bl.reverse=s.nm.ch.length::s.nm.bl.reverse:=by unfold Ns.kH;simp
 refine⟨h.af,h.le,?_,h.dn,?_⟩
 ·show Dr.qY r.env=DC B s.nm.kH.bl.reverse s.nm.ch
  rw[e,DC,acR,List.drop_length,h.env];rfl
 ·show Rp s.nm.kH.bl.reverse s.nm.ch.length
  rw[e];exact⟨υ _,h.bk⟩
variable {β : Type}
theorem ES (k:Unit→Pm β)(s:Ps):(jU l>>=k) s= .out∨(jU l>>=k) s=k () {s with nm:=s.nm.kH}:=by
 show Pm.bind (jU l) k s=_∨Pm.bind (jU l) k s=_
 unfold Pm.bind jU
 by_cases c:s.nm.bl.length≤2*l.length+1
 ·rw[ω c];exact .inr rfl
 ·rw[χ c];exact .inl rfl
theorem yj{β:Type}(x:Bs)(b:Bool)(k:Unit→Pm β)(s:Ps):(bS l x b>>=k) s= .out∨(bS l x b>>=k) s=k () {s with nm:=s.nm.bS x b}:=by
 show Pm.bind (bS l x b) k s=_∨Pm.bind (bS l x b) k s=_
 unfold Pm.bind bS
 by_cases c:s.nm.ch.length≤2*l.length
 ·rw[ω c];exact .inr rfl
 ·rw[χ c];exact .inl rfl
theorem ET (h:Rl l B D s r)(k:Unit→Pm β):(eO>>=k) s= .out∨((eO>>=k) s=k () {s with nm:=s.nm.oN}∧Rl l B D {s with nm:=s.nm.oN} {r with cl:=r.env.getLastD [],env:=r.env.dropLast}∧r.env.getLastD []=s.nm.bZ):=by
 show Pm.bind eO k s=_∨(Pm.bind eO k s=_∧_)
 unfold Pm.bind eO
 cases e:s.nm.bl.getLast? with
 |none=>exact .inl rfl
 |some b=>
  by_cases c:b≤s.nm.ch.length
  case neg=>simp only[χ c];exact .inl trivial
  simp only[ω c];right
  have e2:s.nm.bl.reverse=b::s.nm.oN.bl.reverse:=by
   unfold Ns.oN
   have:s.nm.bl=s.nm.bl.dropLast++[b]:=by
    have h1:=List.getLast?_eq_some_iff.1 e;obtain⟨ys,hys⟩:=h1;rw[hys];simp
   conv=>lhs;rw[this]
   simp
  have e3:s.nm.oN.ch=s.nm.ch.take b:=by unfold Ns.oN;rw[e];rfl
  have e4:s.nm.bZ=s.nm.ch.drop b:=by unfold Ns.bZ;rw[e];rfl
  have hb:=h.bk;have he:=h.env;rw[e2]at hb he;rw[DC]at he;refine⟨trivial,⟨h.af,h.le,?_,h.dn,?_⟩,?_⟩
  ·show r.env.dropLast=DC B s.nm.oN.bl.reverse s.nm.oN.ch
   rw[he,e3];simp
  ·show Rp s.nm.oN.bl.reverse s.nm.oN.ch.length
   rw[e3,acn,agt c];exact hb.2
  ·rw[he,e4];simp
def ze(l:List Ct)(t:Bs)(it:Nat→Pm Va):Nat→Pm Va
 |0=>FJ
 |n+1=>fun s=>if aX l s 0 t=true then .ok Va.un s else(it n>>=fun _=>ze l t it n) s
variable {c f m : Nat}
theorem aaU {a:List (List Sy)}{t:Bs}{it:Nat→Pm Va}(hL:l.length≤90)(ho:rP t=true)(hc:bg t=c)(h0:c≠0)(h1:c≠1)(h2:c≠2)(h3:c≠67)(ha:tb (fun k=>un k==c) (FZ a)=true)(ih:∀k,k<m→∀s r D,Rl l B D s r→aX l s 0 t=false→Sm l (r.af+1) [] B D tt (gT l a r) (it k s))(hr:Rl l B D s r):Sm l r.af (Bv c) B D tt (dl l (.ay (.bV a) r f)) (ze l t it m s):=by
 refine xW (C:=[]) (I:=fun(_:Unit) _ _=>True) (loop:=fun m _=>ze l t it m) (i:=()) hL rfl rfl (fun m' _ s r hm hr _=>?_) hr trivial
 cases m' with
 |zero=>exact .inr (.inl rfl)
 |succ k=>
  have hq:=iQ hr ho η η η
  have e:ze l t it (k+1) s=if aX l s 0 t=true then .ok Va.un s else(it k>>=fun _=>ze l t it k) s:=rfl
  cases c2:aX l s 0 t with
  |true=>exact .inl ⟨mq (c:=fun k=>un k==c) ha (by have:=hq.symm.trans c2;unfold aO at this;rw[hc]at this;exact this),Va.un,by show ze l t it (k+1) s=_;rw[e,c2];rfl,trivial⟩
  |false=>exact .inr (.inr ⟨AP (hq.symm.trans c2) hc h0 h3 h1 h2,k,it k,fun _=>(),aar k,by show ze l t it (k+1) s=_;rw[e,c2];rfl,(ih k η s r _ hr c2).mono (υ _) rfl fun _ _ _ _ _ _=>trivial⟩)
theorem aaV{x:Sx}{f:Nat}(h:LX (kd l x.env x.af)=true):dl l (.ay (.nm ND) x f)=some [up x]:=by
 rw[fe ζ]
 have hs:∀u,bg u≠0→bg u≠1→bg u≠2→aO (kd l x.env x.af) u=true→ed l x ([.tx u],0)=some [up x]:=fun u h0 h1 h2 hh=>by
  show wr _ (dl l (.seq [.tx u] x.af [fr x]))=_;rw[bH (dL (r:=fr x) _ h0 hh h1 h2),dH];show some [bn x (up (fr x)) 0]=_;unfold bn up fr;simp
 cases c:aO (kd l x.env x.af) Ny with
 |true=>
  rw[lV 0 (c:=fun k=>aO k Ny) ζ rfl θ c,hs Ny ζ ζ ζ c];rfl
 |false=>
  have h2:aO (kd l x.env x.af) Nz=true:=by
   have:=mP (c:=fun k=>LX k) (d:=fun k=>aO k Ny||aO k Nz) θ (jP ..) h;rw[c]at this;exact this
  rw[lV 1 (c:=fun k=>aO k Nz) ζ rfl θ h2,hs Nz ζ ζ ζ h2];rfl
variable {y : Sx}
theorem R4 {ys:List Sy}:dl l (.seq (.dO [[.nm nT]]:: .tx [123]::ys) f [y])=dl l (.seq (.tx [123]::ys) f [if bz l y.af=2 then up y else y]):=by
 have e1:gT l [[.nm nT]] y=some (jC y (bz l y.af==2)):=by
  rw[ou,bJ,bX,fe ζ,vQ]
  cases(bz l y.af==2)<;>(show(dl l (.seq [] _ _)).bind aG=_;rw[dH];rfl)
 by_cases c:bz l y.af=2
 ·rw[ω c,bJ,bX,wO,e1,c]
  show((aG [y,up y]).bind aG).bind _=_;rw[nY (by show 2≤1000;decide),Ξ,nY (by show 2≤1000;decide),Ξ,bJ,bJ,di];have:dl l (.ay (.tx [123]) y f)=some []:=kM f ζ (by unfold aO;rw[eY];rcases(mo y.env y.af).1.1 c with h|h<;>rw[h]<;>decide);rw[this]
  cases bu (fun s=>dl l (.ay (.tx [123]) s f)) [up y]<;>rfl
 ·rw[χ c,bJ,bX,wO,e1,abF c];rfl
end
def NR(l:List Ct)(t:Tr)(f:Fm):Prop:=
 (f.ek=0→dG l t=none)∧(f.ek=1→dG l t=some none)∧(f.ek=2→∃y,dG l t=some (some y)∧y.k=15)∧(f.ek=3→∃y,dG l t=some (some y)∧y.k=16∧y.mf=f.params)∧f.ek≤3
def VD(l:List Ct)(x:Sx)(v:Va)(_:Ps)(r:Sx):Prop:=∃t f,VK x r t∧v=Va.fo f∧t.k=14∧jE l t=f.name∧f.named=true∧NR l t f
structure Ii (l:List Ct) (base:Bs→Bool) (B:List Sd) (k:Nat):Prop where
 ex:Ex l base B k
 ch:dZ l base B (.call sO) .dx vX VE k
 ini:dZ l base B (.call Cr) .jv lI (fun x=>VU x) k
 nz:dZ l base B (.call Re) .nz lI (fun x=>VU x) k
 pri:dZ l base B (.call vL) .uI [6] VH k
 aso:dZ l base B (.call Rc) .wJ lI (fun x=>VU x) k
 asr:qH l base B kSa (.call X9) .vH [] (fun x=>VU x) k
 Pf:∀all,dZ l base B (fun x=> .dh all x [⟨fresh x,0,0⟩]) (.dh all) (cS all) (VS l) k
 ali:qH l base B RX (.call FU) .wL [] (fun x=>VL x) k
 ato:qH l base B RY (.call FP) .atomic [] (fun x=>VL x) k
 rcd:qH l base B LX (.call FQ) .qW [64] (fun x=>VL x) k
 enu:qH l base B RZ (.call rF) .yP [64] (fun x=>VL x) k
 enr:dZ l base B (.call Bp) .ma (vX++[94]) (fun x=>VU x) k
 mem:dZ l base B (.call zW) .nP [] (fun x=>VU x) k
 fie:dZ l base B (.call KG) .field cFi (fun x=>VU x) k
 mf:dZ l base B (.call Cs) (.bP 0) AR (VD l) k
 abs:dZ l base B (.call AB) (.bP 2) wh (fun x=>VU x) k
section
variable {l:List Ct} {base:Bs→Bool} {B:List Sd} {D D2:List Nd}
variable {s : Ps}{x : Sx}{α : Type}
theorem ahq (hB:Bb base B)(h:Rl l B D s x)(k:Bool→Pm α):(wI l base 0>>=k) s=k (nL (un (kd l x.env x.af))) s:=by
 show k (nO l base s 0) s=_
 rw[Wq hB h 0,eY];rfl
variable {β : Type}
theorem sS (h:Rl l B D s x)(hu:un (kd l x.env x.af)≠0)(k:Unit→Pm β):(step l 1>>=k) s=k () (bU s):=vT (by rw[←h.af];exact LK hu) k
variable {m : Nat}
theorem Yr (hL:l.length≤90)(hB:Bb base B)(ih:∀k,k<m→Ii l base B k):qH l base B RX (.call FU) .wL [] (fun x=>VL x) m:=by
 intro x s D hx hk
 cases m with
 |zero=>rw[run];trivial
 |succ n=>
  have i:=ih n (aar n);have hf:=hx.fr;have hh:aO (kd l x.env x.af) yS=true:=mP (c:=RX) (d:=fun k=>aO k yS) θ (jP ..) hk;have hu:=hf.up (x:=fr x) (dQ ζ hh);rw[run,fD,sS hx (dQ ζ hh)];refine dY 0 (w:=FU) hL (c:=fun _=>true) ζ rfl θ rfl ?_;rw[bH (dL (r:=fr x) _ ζ hh)]
  refine eD (.me (p:=x.af+1) hu.le) hu (abK _) rfl ζ ζ ζ rfl fun h1 h2=>?_
  rw[ahq hB h2]
  have fw:∀{C1 s1 r1 gB},Fr l (x.af+1+1+1) C1 gB r1→(C1.all fun c=>dd c (.tx [41]))=true→x.af+1+1+1≤r1.af→Rl l B s.done s1 r1→Sm l (x.af+1) [] B D (VL x) (wr (fun r=>bn x r 11) (dl l (.seq [.tx [41]] x.af gB))) ((bY l [41]>>=fun _=>node l 11 (s.af,s.done.length)>>=fun _=>pure Va.un) s1):=fun a1 hd a2 a3=>eD a1 a3 η rfl ζ ζ ζ hd fun a4 a5=>dR hL a4 η rfl ζ hx a5 fun h=>JF h
  cases c:nL (un (kd l (up (up (fr x))).env (up (up (fr x))).af))with
  |true=>exact EN 0 hL h1 rfl (c:=fun k=>nL (un k)) θ c rfl (aI x 11) (by show x.af+1≤x.af+1+1+1;omega) (lW hL ζ (i.ex.t _ _ _ h2)) θ fun v s1 r1 gB _ a1 a2 a3=>fw a1 θ a2 a3
  |false=>exact EN 1 hL h1 rfl (c:=fun k=>!nL (un k)) θ (by rw[c];rfl) rfl (aI x 11) (by show x.af+1≤x.af+1+1+1;omega) (lW hL ζ (i.ch _ _ _ h2)) θ fun v s1 r1 gB _ a1 a2 a3=>fw a1 θ a2 a3
theorem Vn (hL:l.length≤90)(ih:∀k,k<m→Ii l base B k):qH l base B RY (.call FP) .atomic [] (fun x=>VL x) m:=by
 intro x s D hx hk
 cases m with
 |zero=>rw[run];trivial
 |succ n=>
  have hf:=hx.fr;have hh:aO (kd l x.env x.af) Eh=true:=mP (c:=RY) (d:=fun k=>aO k Eh) θ (jP ..) hk;have hu:=hf.up (x:=fr x) (dQ ζ hh);rw[run,fD,sS hx (dQ ζ hh)];refine dY 0 (w:=FP) hL (c:=fun _=>true) ζ rfl θ rfl ?_;rw[bH (dL (r:=fr x) _ ζ hh)];have hT:=vY (n:=n) hL (fun k hk=>(ih k η).ex.t) hu;rw[jR];unfold Pm.bind
  cases e1:run l base n .mW (bU s)with
  |out=>trivial
  |no=>rw[e1]at hT;rw[hT];exact .nil rfl
  |ok v s1=>
   rw[e1]at hT;obtain⟨r,t,h1,h2,h3,h4⟩:=hT;have h3:x.af+1+3≤r.af:=h3;rw[h4]
   exact dR hL (.me (p:=r.af) h1.le) η rfl ζ hx h1 fun h=>JF h
theorem WA:∀n,run l base n .uJ=(ze l [125] (fun n=>run l base n .nP) n>>=fun _=>bY l [125]>>=fun _=>pure Va.un)
 |0=>by funext s;rw[run];rfl
 |n+1=>by
  funext s
  rw[run]
  have e:ze l [125] (fun n=>run l base n .nP) (n+1) s=if aX l s 0 [125]=true then .ok Va.un s else(run l base n .nP>>=fun _=>ze l [125] (fun n=>run l base n .nP) n) s:=rfl
  cases c:aX l s 0 [125]with
  |true=>rw[dM c,jo (show ze l _ _ (n+1) s= .ok Va.un s by rw[e,c];rfl),sQ c];rfl
  |false=>rw[dM c,ER (show ze l _ _ (n+1) s=(run l base n .nP>>=fun _=>ze l _ _ n) s by rw[e,c];rfl),bG,WA n];rfl
theorem zg (h:Rl l B D s x):(az l s 0).c=2↔bz l x.af=2:=by rw[ku,h.af];rfl
theorem R5 (h:Rl l B D s x)(k:Unit→Pm β):((if(az l s 0).c=2 then step l 1 else pure ():Pm Unit)>>=k) s=k () (if bz l x.af=2 then bU s else s)∧Rl l B D (if bz l x.af=2 then bU s else s) (if bz l x.af=2 then up x else x):=by
 by_cases c:bz l x.af=2
 ·have hu:un (kd l x.env x.af)≠0:=by rw[eY];rcases(mo x.env x.af).1.1 c with h|h<;>rw[h]<;>decide
  rw[ω ((zg h).2 c),ω c,ω c];exact⟨sS h hu k,h.up hu⟩
 ·rw[χ fun q=>c ((zg h).1 q),χ c,χ c]
  exact⟨rfl,h⟩
theorem Vo (hL:l.length≤90)(ih:∀k,k<m→Ii l base B k):qH l base B LX (.call FQ) .qW [64] (fun x=>VL x) m:=by
 intro x s D hx hk
 cases m with
 |zero=>rw[run];trivial
 |succ n=>
  have hf:=hx.fr
  have hu0:un (kd l x.env x.af)≠0:=fun e=>by unfold LX at hk;rw[e]at hk;revert hk;decide
  have hu:=hf.up (x:=fr x) hu0;rw[run,fD,sS hx hu0,y8];have e:dl l (.call FQ x)=((ed l x ([.nm ND, .dO [[.nm nT]], .tx [123], .nm zW, .bV [[.nm zW]], .tx [125]],6)).bind fun a=>(ed l x ([.nm ND, .nm nT],6)).bind fun b=>some (a++b)).bind aG:=CG 0 (c:=fun _=>true) ζ rfl rfl θ rfl
  have e1:ed l x ([.nm ND, .dO [[.nm nT]], .tx [123], .nm zW, .bV [[.nm zW]], .tx [125]],6)=wr (fun r=>bn x r 6) (dl l (.seq [.tx [123], .nm zW, .bV [[.nm zW]], .tx [125]] x.af [if bz l (up (fr x)).af=2 then up (up (fr x))else up (fr x)])):=by
   show wr _ (dl l (.seq _ x.af [fr x]))=_;rw[bH (aaV (x:=fr x) hk),R4]
  have e2:ed l x ([.nm ND, .nm nT],6)=some (if bz l (up (fr x)).af=2 then[bn x (up (up (fr x))) 6]else[]):=by
   show wr _ (dl l (.seq _ x.af [fr x]))=_;rw[bH (aaV (x:=fr x) hk),bJ,bX,fe ζ,vQ];by_cases c:bz l (up (fr x)).af=2
   ·rw[ω c,c];show wr _ (dl l (.seq [] _ _))=_;rw[dH];rfl
   ·rw[χ c,abF c];show wr _ (dl l (.seq [] _ _))=_;rw[dH];rfl
  rw[e,e1,e2];show Sm l _ _ B D _ _ (((if(az l (bU s) 0).c=2 then step l 1 else pure ():Pm Unit)>>=_) (bU s));obtain⟨a1,a2⟩:=R5 hu (fun _=>(fU l [123]>>=fun b=>if b=true then(run l base n .nP>>=fun _=>run l base n .uJ>>=fun _=>node l 6 (s.af,s.done.length)>>=fun _=>pure Va.un)else if(az l (bU s) 0).c=2 then node l 6 (s.af,s.done.length)>>=fun _=>pure Va.un else iD:Pm Va));rw[a1];generalize hs:(if bz l (up (fr x)).af=2 then bU (bU s)else bU s)=s1 at a2⊢;generalize hz:(if bz l (up (fr x)).af=2 then up (up (fr x))else up (fr x))=z at a2⊢
  have hzl:x.af+1≤z.af:=by
   rw[←hz]
   split
   ·show x.af+1≤x.af+1+1;omega
   ·exact υ _
  have hq:=iQ a2 (t:=[123]) rfl ζ
  cases c:aO (kd l z.env z.af) [123]with
  |true=>
   rw[dM (hq.trans c)];have hu2:=a2.up (dQ ζ c);rw[bH (dL _ ζ c)]
   have main:Sm l (z.af+1) [64] B D (VL x) (wr (fun r=>bn x r 6) (dl l (.seq [.nm zW, .bV [[.nm zW]], .tx [125]] x.af [up z]))) ((run l base n .nP>>=fun _=>run l base n .uJ>>=fun _=>node l 6 (s.af,s.done.length)>>=fun _=>pure Va.un) (bU s1)):=by
    refine dV hL (.me (p:=z.af+1) hu2.le) ((ih n (aar n)).mem _ _ _ hu2) (aI x 6) (abK _) ζ rfl rfl fun v s2 r2 jM _ b1 b2 b3 _=>?_
    have b2:z.af+1+1≤r2.af:=b2;rw[WA,bG]
    refine kU (q:=r2.af) (p':=z.af+1) (C1:=Bv 65) (V:=tt) hL b1 (aaU hL rfl ζ ζ ζ ζ ζ θ (fun k hk s r D hr _=>by rw[ou];exact BX (lW hL ζ ((ih k η).mem _ _ _ hr))) b3) (υ _) (aI x 6) η (.inl rfl) (.inl (υ _)) rfl θ fun v s3 r3 EO _ d1 d2 d3 _=>?_
    rw[bG]
    refine eD d1 d3 η rfl ζ ζ ζ θ fun d4 d5=>?_
    exact dR hL d4 η rfl ζ hx d5 fun h=>JF h
   have hkz:aJ [64] (kc l z.af)=true:=by rw[kz c (c:=64) ζ ζ ζ];decide
   by_cases cn:bz l (up (fr x)).af=2
   ·rw[ω cn]at hz⊢
    rw[hz];exact Sm.aG hL (Sm.post (u:=bn x z 6) (P:=x.af+1) (by rw[aI x 6 z];exact hkz) (by rw[aI x 6 z];exact hzl) (by rw[aI x 6 z];exact aar _) (by rw[aI x 6 z];exact a2.le) main)
   ·rw[χ cn]
    have:∀o:Option (List Sx),(o.bind fun a=>(some []).bind fun b=>some (a++b))=o:=fun o=>by cases o<;>simp
    rw[this];exact(main.aG hL).le η ζ
  |false=>
   rw[dM (hq.trans c),il (kM _ ζ c)];show Sm l _ _ B D _ _ ((if(az l (bU s) 0).c=2 then node l 6 (s.af,s.done.length)>>=fun _=>pure Va.un else iD:Pm Va) s1);by_cases cn:bz l (up (fr x)).af=2
   ·rw[ω ((zg hu).2 cn)]
    rw[ω cn]at hz⊢;rw[hz]
    have:=dR (C2:=[64]) (P:=x.af+1) (f:=0) (V:=VL x) (v:=Va.un) hL (.me (p:=z.af) a2.le) hzl rfl (k:=6) ζ hx a2 fun h=>JF h
    rw[dH]at this;exact this
   ·rw[χ fun h=>cn ((zg hu).1 h),χ cn]
    exact .nil rfl
theorem aaW (hL:l.length≤90)(ih:∀k,k<m→Ii l base B k):qH l base B RZ (.call rF) .yP [64] (fun x=>VL x) m:=by
 intro x s D hx hk
 cases m with
 |zero=>rw[run];trivial
 |succ n=>
  have hf:=hx.fr;have hh:aO (kd l x.env x.af) rF=true:=mP (c:=RZ) (d:=fun k=>aO k rF) θ (jP ..) hk;have hu0:=dQ ζ hh;have hu:=hf.up (x:=fr x) hu0;rw[run,fD,sS hx hu0,y8];have e:dl l (.call rF x)=((ed l x ([.tx rF, .dO [[.nm nT]], .tx [123], .nm Bp, .bV [[.tx [44], .nm Bp]], .dO [[.tx [44]]], .tx [125]],9)).bind fun a=>(ed l x ([.tx rF, .nm nT],9)).bind fun b=>some (a++b)).bind aG:=CG 0 (c:=fun _=>true) ζ rfl rfl θ rfl
  have e1:ed l x ([.tx rF, .dO [[.nm nT]], .tx [123], .nm Bp, .bV [[.tx [44], .nm Bp]], .dO [[.tx [44]]], .tx [125]],9)=wr (fun r=>bn x r 9) (dl l (.seq [.tx [123], .nm Bp, .bV [[.tx [44], .nm Bp]], .dO [[.tx [44]]], .tx [125]] x.af [if bz l (up (fr x)).af=2 then up (up (fr x))else up (fr x)])):=by
   show wr _ (dl l (.seq _ x.af [fr x]))=_;rw[bH (dL (r:=fr x) _ ζ hh),R4]
  have e2:ed l x ([.tx rF, .nm nT],9)=some (if bz l (up (fr x)).af=2 then[bn x (up (up (fr x))) 9]else[]):=by
   show wr _ (dl l (.seq _ x.af [fr x]))=_;rw[bH (dL (r:=fr x) _ ζ hh),bJ,bX,fe ζ,vQ];by_cases c:bz l (up (fr x)).af=2
   ·rw[ω c,c];show wr _ (dl l (.seq [] _ _))=_;rw[dH];rfl
   ·rw[χ c,abF c];show wr _ (dl l (.seq [] _ _))=_;rw[dH];rfl
  rw[e,e1,e2];show Sm l _ _ B D _ _ (((if(az l (bU s) 0).c=2 then step l 1 else pure ():Pm Unit)>>=_) (bU s));obtain⟨a1,a2⟩:=R5 hu (fun _=>(fU l [123]>>=fun b=>if b=true then(run l base n .ma>>=fun _=>run l base n .BU>>=fun _=>bY l [125]>>=fun _=>node l 9 (s.af,s.done.length)>>=fun _=>pure Va.un)else if(az l (bU s) 0).c=2 then node l 9 (s.af,s.done.length)>>=fun _=>pure Va.un else iD:Pm Va));rw[a1];generalize hs:(if bz l (up (fr x)).af=2 then bU (bU s)else bU s)=s1 at a2⊢;generalize hz:(if bz l (up (fr x)).af=2 then up (up (fr x))else up (fr x))=z at a2⊢
  have hzl:x.af+1≤z.af:=by
   rw[←hz]
   split
   ·show x.af+1≤x.af+1+1;omega
   ·exact υ _
  have hq:=iQ a2 (t:=[123]) rfl ζ
  cases c:aO (kd l z.env z.af) [123]with
  |true=>
   rw[dM (hq.trans c)];have hu2:=a2.up (dQ ζ c);rw[bH (dL _ ζ c)]
   have main:Sm l (z.af+1) [64] B D (VL x) (wr (fun r=>bn x r 9) (dl l (.seq [.nm Bp, .bV [[.tx [44], .nm Bp]], .dO [[.tx [44]]], .tx [125]] x.af [up z]))) ((run l base n .ma>>=fun _=>run l base n .BU>>=fun _=>bY l [125]>>=fun _=>node l 9 (s.af,s.done.length)>>=fun _=>pure Va.un) (bU s1)):=
    O8 (R:= .BU) (V:=fun x=>VU x) hL (.me (p:=z.af+1) hu2.le) hu2 (aI x 9) (by funext s;rw[run];rfl) (fun n s=>by rw[run]) (fun k hk=>(ih k hk).enr) ζ rfl θ θ θ θ θ fun s1 r1 h3 h4 h5=>dR hL (.me (p:=r1.af) h4) (by have:z.af+1+2≤r1.af:=h3;omega) rfl ζ hx h5 fun h=>JF h
   have hkz:aJ [64] (kc l z.af)=true:=by rw[kz c (c:=64) ζ ζ ζ];decide
   by_cases cn:bz l (up (fr x)).af=2
   ·rw[ω cn]at hz⊢
    rw[hz];exact Sm.aG hL (Sm.post (u:=bn x z 9) (P:=x.af+1) (by rw[aI x 9 z];exact hkz) (by rw[aI x 9 z];exact hzl) (by rw[aI x 9 z];exact aar _) (by rw[aI x 9 z];exact a2.le) main)
   ·rw[χ cn]
    have:∀o:Option (List Sx),(o.bind fun a=>(some []).bind fun b=>some (a++b))=o:=fun o=>by cases o<;>simp
    rw[this];exact(main.aG hL).le η ζ
  |false=>
   rw[dM (hq.trans c),il (kM _ ζ c)];show Sm l _ _ B D _ _ ((if(az l (bU s) 0).c=2 then node l 9 (s.af,s.done.length)>>=fun _=>pure Va.un else iD:Pm Va) s1);by_cases cn:bz l (up (fr x)).af=2
   ·rw[ω ((zg hu).2 cn)]
    rw[ω cn]at hz⊢;rw[hz]
    have:=dR (C2:=[64]) (P:=x.af+1) (f:=0) (V:=VL x) (v:=Va.un) hL (.me (p:=z.af) a2.le) hzl rfl (k:=9) ζ hx a2 fun h=>JF h
    rw[dH]at this;exact this
   ·rw[χ fun h=>cn ((zg hu).1 h),χ cn]
    exact .nil rfl
end
end Go.Proofs.YtlboejdhmggjpaaGreat.Pp.Dr
namespace Go.Proofs.YtlboejdhmggjpaaGreat
open Go.RowKit
variable {F:Fence} {n:Nat} {P:Program}
def ajy:Obj→Bool
 | .map _ _=>false
 |_=>true
def nk(w:World)(k:Nat):Prop:=∃o,w.heap[k]? =some o∧o.isCells=false∧ajy o=true
end Go.Proofs.YtlboejdhmggjpaaGreat
namespace Go.Proofs.YtlboejdhmggjpaaGreat.Pp
set_option maxRecDepth 100000
set_option maxHeartbeats 16000000
open Go.RowKit Go.BigFrame Go.Proofs.YtlboejdhmggjpaaGreat
def mg:List Ct→Nat→Bool
 |[],_=>false
 |t::r,o=>
  if t.c≠7 then mg r o
  else if t.t=[40]∨t.t=[91]∨t.t=[123]then(if 256<o+1 then true else mg r (o+1))
  else if t.t=[41]∨t.t=[93]∨t.t=[125]then mg r (o - 1)
  else mg r o
theorem Zy(L:List Ct)(la:Option Addr)(lc:Nat)(w:World)(hrow:oV 2 sV w la L)(hl:L.length≤100000):Calls Tryz.prog 29 #[.slice la L.length lc] w fun e w'=>e= .returned (.bool (mg L 0))∧Below w.heap.size w w':=by
 obtain⟨D,hD⟩:∃D,mg L 0=D:=⟨_,rfl⟩
 obtain⟨m,hm⟩:∃m,L.length=m:=⟨_,rfl⟩
 rw[hD,hm]
 rw[hm]at hl
 have HD:=Hh hD
 have HM:=Hh hm
 have BB:=Hh hrow
 clear hD hm hrow
 go_enter Tryz.func29,Tryz.ntmps29
 go_wp2_with fail
 go_loopg [3,5,8] m (fun gf q3 q5 q8 wr=>∃i o:Nat,q8= .int .i64 i∧q3= .int .i64 o∧i+gf=m∧o≤i∧mg (L.drop i) o=D∧Below w.heap.size w wr)
 case atStart=>exact⟨0,0,rfl,rfl,by omega,υ _,HD.out,Below.refl _ _⟩
 case round=>
  obtain⟨i,o,rfl,rfl,hig,hoi,hdp,hb⟩:=hrel;have HB:=Hh hb
  cases gk with
  |zero=>
   have hi:decide (i<m)=false:=aa5 η
   have hd:false=D:=by rw[←hdp,abY (by rw[HM.out];omega)];rfl
   have Ff:=Hh hd;clear hdp hb hd
   go_wp2_with fail
   refine abw (v:= .bool false) (by simp[results,Tryz.results29,go_sem]) rfl ⟨by rw[Ff.out],HB.out⟩
  |succ g=>
   have hi0:i<L.length:=by rw[HM.out];omega
   have hi:i<m:=by omega
   obtain⟨b,off,hla,h2,h3⟩:=BB.out.at (by rintro e;rw[e]at hi0;simp at hi0);have hc:=(h3 i hi0).below hb h2;rw[abv hi0]at hdp;obtain⟨T,hT⟩:∃T,L[i]=T:=⟨_,rfl⟩;rw[hT]at hc hdp;obtain⟨c,t⟩:=T;have d0:wr.cell? ⟨b,off+i*2,none⟩=some (.int .i64 c):=hc 0 _ rfl;have d1:wr.cell? ⟨b,off+i*2+1,none⟩=some (.string (au t)):=hc 1 _ rfl;obtain⟨x,hx⟩:∃x:ByteArray,au t=x:=⟨_,rfl⟩;obtain⟨z,hz⟩:∃z:Int,(c:Int)=z:=⟨_,rfl⟩;rw[hx]at d1;rw[hz]at d0;have hb4:Below w.heap.size w (wr.alloc (.cells #[.int .i64 z, .string x] 54)):=hb.trans ((ag _ _).mono hb.size);have wU:=Hh hb4;have HX:=Hh hx;have HZ:=Hh hz
   have hun:mg (⟨c,t⟩::L.drop (i+1)) o=if c≠7 then mg (L.drop (i+1)) o else if t=[40]∨t=[91]∨t=[123]then(if 256<o+1 then true else mg (L.drop (i+1)) (o+1))else if t=[41]∨t=[93]∨t=[125]then mg (L.drop (i+1)) (o - 1)else mg (L.drop (i+1)) o:=rfl
   rw[hun]at hdp;subst hla;have wC:=Hh hdp;clear hdp hb hc h2 h3 hT hx hz hun hb4 hi0;by_cases oU:c=7
   ·have f7:(z !=7)=false:=by rw[←HZ.out,oU];rfl
    by_cases t0:t=[40]
    ·have x0:(x.toList==[40])=true:=HX.out▸gp t0
     by_cases CV:256<o+1
     ·have MP:decide ((256:Int)<(o:Int)+1)=true:=aa4 η
      have hd:true=D:=by have q:=wC.out;simp[oU,t0,CV]at q;exact q.symm
      have Ff:=Hh hd;clear hd
      go_wp2_with fail
      refine abw (v:= .bool true) (by simp[results,Tryz.results29,go_sem]) rfl ⟨by rw[←Ff.out],wU.out⟩
     ·have MP:decide ((256:Int)<(o:Int)+1)=false:=aa5 η
      go_wp2_with fail
      go_roundg g
      case measure=>omega
      case rel=>exact⟨i+1,o+1,by go_num,by go_num,by omega,by omega,by have q:=wC.out;simp[oU,t0,CV]at q;exact q,wU.out⟩
    ·have x0:(x.toList==[40])=false:=HX.out▸lX t0
     by_cases t1:t=[91]
     ·have x1:(x.toList==[91])=true:=HX.out▸gp t1
      by_cases CV:256<o+1
      ·have MP:decide ((256:Int)<(o:Int)+1)=true:=aa4 η
       have hd:true=D:=by have q:=wC.out;simp[oU,t0,t1,CV]at q;exact q.symm
       have Ff:=Hh hd;clear hd
       go_wp2_with fail
       refine abw (v:= .bool true) (by simp[results,Tryz.results29,go_sem]) rfl ⟨by rw[←Ff.out],wU.out⟩
      ·have MP:decide ((256:Int)<(o:Int)+1)=false:=aa5 η
       go_wp2_with fail
       go_roundg g
       case measure=>omega
       case rel=>exact⟨i+1,o+1,by go_num,by go_num,by omega,by omega,by have q:=wC.out;simp[oU,t0,t1,CV]at q;exact q,wU.out⟩
     ·have x1:(x.toList==[91])=false:=HX.out▸lX t1
      by_cases t2:t=[123]
      ·have x2:(x.toList==[123])=true:=HX.out▸gp t2
       by_cases CV:256<o+1
       ·have MP:decide ((256:Int)<(o:Int)+1)=true:=aa4 η
        have hd:true=D:=by have q:=wC.out;simp[oU,t0,t1,t2,CV]at q;exact q.symm
        have Ff:=Hh hd;clear hd
        go_wp2_with fail
        refine abw (v:= .bool true) (by simp[results,Tryz.results29,go_sem]) rfl ⟨by rw[←Ff.out],wU.out⟩
       ·have MP:decide ((256:Int)<(o:Int)+1)=false:=aa5 η
        go_wp2_with fail
        go_roundg g
        case measure=>omega
        case rel=>exact⟨i+1,o+1,by go_num,by go_num,by omega,by omega,by have q:=wC.out;simp[oU,t0,t1,t2,CV]at q;exact q,wU.out⟩
      ·have x2:(x.toList==[123])=false:=HX.out▸lX t2
       by_cases t3:t=[41]
       ·have x3:(x.toList==[41])=true:=HX.out▸gp t3
        rcases afC o with ho|ho
        ·subst ho
         go_wp2_with fail
         go_roundg g
         case measure=>omega
         case rel=>exact⟨i+1,0,by go_num,by go_num,by omega,by omega,by have q:=wC.out;simp[oU,t0,t1,t2,t3]at q;exact q,wU.out⟩
        ·obtain⟨p,rfl⟩:∃p,o=p+1:=⟨o - 1,by omega⟩
         go_wp2_with fail
         go_roundg g
         case measure=>omega
         case rel=>exact⟨i+1,p,by go_num,by go_num,by omega,by omega,by have q:=wC.out;simp[oU,t0,t1,t2,t3]at q;exact q,wU.out⟩
       ·have x3:(x.toList==[41])=false:=HX.out▸lX t3
        by_cases t4:t=[93]
        ·have x4:(x.toList==[93])=true:=HX.out▸gp t4
         rcases afC o with ho|ho
         ·subst ho
          go_wp2_with fail
          go_roundg g
          case measure=>omega
          case rel=>exact⟨i+1,0,by go_num,by go_num,by omega,by omega,by have q:=wC.out;simp[oU,t0,t1,t2,t3,t4]at q;exact q,wU.out⟩
         ·obtain⟨p,rfl⟩:∃p,o=p+1:=⟨o - 1,by omega⟩
          go_wp2_with fail
          go_roundg g
          case measure=>omega
          case rel=>exact⟨i+1,p,by go_num,by go_num,by omega,by omega,by have q:=wC.out;simp[oU,t0,t1,t2,t3,t4]at q;exact q,wU.out⟩
        ·have x4:(x.toList==[93])=false:=HX.out▸lX t4
         by_cases t5:t=[125]
         ·have x5:(x.toList==[125])=true:=HX.out▸gp t5
          rcases afC o with ho|ho
          ·subst ho
           go_wp2_with fail
           go_roundg g
           case measure=>omega
           case rel=>exact⟨i+1,0,by go_num,by go_num,by omega,by omega,by have q:=wC.out;simp[oU,t0,t1,t2,t3,t4,t5]at q;exact q,wU.out⟩
          ·obtain⟨p,rfl⟩:∃p,o=p+1:=⟨o - 1,by omega⟩
           go_wp2_with fail
           go_roundg g
           case measure=>omega
           case rel=>exact⟨i+1,p,by go_num,by go_num,by omega,by omega,by have q:=wC.out;simp[oU,t0,t1,t2,t3,t4,t5]at q;exact q,wU.out⟩
         ·have x5:(x.toList==[125])=false:=HX.out▸lX t5
          go_wp2_with fail
          go_roundg g
          case measure=>omega
          case rel=>exact⟨i+1,o,by go_num,by go_num,by omega,by omega,by have q:=wC.out;simp[oU,t0,t1,t2,t3,t4,t5]at q;exact q,wU.out⟩
   ·have f7:(z !=7)=true:=by rw[←HZ.out,acm];omega
    go_wp2_with fail
    go_roundg g
    case measure=>omega
    case rel=>exact⟨i+1,o,by go_num,by go_num,by omega,by omega,by have q:=wC.out;simp[oU]at q;exact q,wU.out⟩
end Go.Proofs.YtlboejdhmggjpaaGreat.Pp
namespace Go.Proofs.YtlboejdhmggjpaaGreat.Sp
set_option maxRecDepth 100000
set_option maxHeartbeats 16000000
open Go.RowKit Go.BigFrame Go.ChangeMaps Go.WideMaps Go.Proofs.YtlboejdhmggjpaaGreat
abbrev uF:=List (ByteArray×Bool)
def Er:uF→ByteArray→Option Bool
 |[],_=>none
 |p::f,x=>if p.1=x then some p.2 else Er f x
def Cj(x:ByteArray):Nat→List uF→List (Nat×Bool)
 |_,[]=>[]
 |i,f::F=>(match Er f x with|some t=>[(i,t)]|none=>[])++Cj x (i+1) F
def Xw(F:List uF)(x:ByteArray):List (Nat×Bool):=Cj x 1 F
def ZH(F:List uF)(x:ByteArray):Bool:=match(Xw F x).getLast? with|some p=>p.2|none=>false
def D5(p:Nat×Bool):List Value:=[.int .i64 p.1, .bool p.2]
abbrev eB:Value:= .slice none 0 0
def xg(v:Value):Option (DataW Value×List MemPlace):=some (.held v,[])
def ui(f:uF):List Value:=f.map fun p=> .string p.1
theorem Ul(x:ByteArray)(i:Nat)(f:uF)(F:List uF):Cj x i (f::F)=(match Er f x with|some t=>[(i,t)]|none=>[])++Cj x (i+1) F:=rfl
theorem Km(x:ByteArray):∀(i:Nat) (F:List uF),(Cj x i F).length≤F.length
 |i,[]=>by simp[Cj]
 |i,f::F=>by
  rw[Ul];have:=Km x (i+1) F
  cases Er f x<;>simp<;>omega
structure IU (w:World) (A M n:Nat) (vB:Value) (vs:List Value) (mv:ByteArray→Value) (D:DataW Value) (F:List uF):Prop where
 hd:w.heap[A]? =some (.cells #[.pointer (some ⟨A,0,none⟩), .map (some M),vB] 66 (0,0))
 mp:w.ownsMap Tryz.prog 9 xg M n D
 key:∀x:ByteArray,x.size≤maxLen→D.atKey (.string x.data.toList) (.held eB)= .held (mv x)
 alc:∀x,w.ownsRow 0 89 2 (mv x) (Xw F x).length ((Xw F x).flatMap D5)
 asJ:w.ownsRow 0 90 1 vB F.length vs
 asL:∀i (h:i<F.length),w.ownsRow 0 9 1 (vs.getD i eB) F[i].length (ui F[i])
 dm:∀x y,x≠y→(mv x).ownBlock=none∨(mv x).ownBlock≠(mv y).ownBlock
 dv:∀i j,i<F.length→j<F.length→i≠j→(vs.getD i eB).ownBlock=none∨(vs.getD i eB).ownBlock≠(vs.getD j eB).ownBlock
 pos:0<F.length
def ald(A M:Nat)(vB:Value)(vs:List Value)(mv:ByteArray→Value)(k:Nat):Prop:=
 k=A∨k=M∨vB.ownBlock=some k∨(∃i,(vs.getD i eB).ownBlock=some k)∨∃x,(mv x).ownBlock=some k
def PV(w:World)(A n:Nat)(S:Nat→Prop)(F:List uF):Prop:=
 ∃M vB vs mv D,IU w A M n vB vs mv D F∧(∀k,ald A M vB vs mv k→S k)∧∀k,S k→k<w.heap.size
variable {xs : List Value}{e n : Nat}{v : Value}
theorem uP {w w':World}{base size : Nat}{S:Nat→Prop}(h:w.ownsRow base e size v n xs)(hm:iV S w w')(hs:∀k,v.ownBlock=some k→¬S k):w'.ownsRow base e size v n xs:=by
 refine⟨h.1,?_⟩
 rcases h.2 with hn|⟨g,cap,cur,rfl,hb,hg,rest⟩
 ·exact .inl hn
 ·exact .inr ⟨g,cap,cur,rfl,hb,hm.lL hg (hs g rfl),rest⟩
theorem IU.lL{w w':World}{A M n:Nat}{vB:Value}{vs:List Value}{mv:ByteArray→Value}{D:DataW Value}{F:List uF}{T:Nat→Prop}(h:IU w A M n vB vs mv D F)(hm:iV T w w')(hT:∀k,ald A M vB vs mv k→¬T k):IU w' A M n vB vs mv D F:=by
 refine⟨hm.lL h.hd (hT A (.inl rfl)),?_,h.key,fun x=>uP (h.alc x) hm (fun k hk=>hT k (.inr (.inr (.inr (.inr ⟨x,hk⟩))))),uP h.asJ hm (fun k hk=>hT k (.inr (.inr (.inl hk)))),
  fun i hi=>uP (h.asL i hi) hm (fun k hk=>hT k (.inr (.inr (.inr (.inl ⟨i,hk⟩))))),h.dm,h.dv,h.pos⟩
 obtain⟨es,clock,hb,rest⟩:=h.mp
 exact⟨es,clock,hm.lL hb (hT M (.inr (.inl rfl))),rest⟩
theorem PV.lL{w w':World}{A n:Nat}{S T:Nat→Prop}{F:List uF}(h:PV w A n S F)(hm:iV T w w')(hd:∀k,S k→¬T k):PV w' A n S F:=by
 obtain⟨M,vB,vs,mv,D,h1,h2,h3⟩:=h
 exact⟨M,vB,vs,mv,D,h1.lL hm (fun k hk=>hd k (h2 k hk)),h2,fun k hk=>abB (h3 k hk) hm.size⟩
theorem fF {w:World}{base size : Nat}(h:w.ownsRow base e size v n xs):∃a cap,v= .slice a n cap:=by
 rcases h.2 with⟨rfl,rfl⟩|⟨g,cap,cur,rfl,_⟩
 ·exact⟨none,0,rfl⟩
 ·exact⟨_,cap,rfl⟩
theorem IU.cells{w:World}{A M n:Nat}{vB:Value}{vs:List Value}{mv:ByteArray→Value}{D:DataW Value}{F:List uF}(h:IU w A M n vB vs mv D F):
 w.cell? ⟨A,0,none⟩=some (.pointer (some ⟨A,0,none⟩))∧w.cell? ⟨A,1,none⟩=some (.map (some M))∧w.cell? ⟨A,2,none⟩=some vB:=by
 refine⟨?_,?_,?_⟩<;>simp[World.cell?,h.hd]
theorem ale:(Tryz.prog.info? 66).map (·.size)=some 3:=by kernel_rfl
theorem aep(A:Nat)(w:World):(binOp .eql 39 (.pointer (some ⟨A,0,none⟩)) (.pointer (some ⟨A,0,none⟩))).run Tryz.prog w= .ok (.bool true) w:=by
 have hi:=ale
 cases hq:Tryz.prog.info? 66 with
 |none=>rw[hq]at hi;cases hi
 |some i=>exact run_eql_ptr_same w _ Tryz.underlying39 hq
theorem Sc.xZ(A:Nat)(w:World)(x y:Value)(h:w.heap[A]? =some (.cells #[.pointer (some ⟨A,0,none⟩),x,y] 66 (0,0))):Calls Tryz.prog 39 #[.pointer (some ⟨A,0,none⟩)] w fun e w'=>e= .returned (.bool true)∧w'=w:=by
 have c0:w.cell? ⟨A,0,none⟩=some (.pointer (some ⟨A,0,none⟩)):=by simp[World.cell?,h]
 clear h
 go_enter Tryz.func39,Tryz.ntmps39
 have hp:=aep A w
 go_wp2
 go_ret
 exact⟨rfl,rfl⟩
theorem Oc:Maps.Keyed Tryz.prog 9:=Maps.string_keyed Tryz.underlying9
theorem alf(w:World):(zeroValue 87).run Tryz.prog w= .ok eB w:=by kernel_rfl
theorem IU.lookup{w:World}{A M n:Nat}{vB:Value}{vs:List Value}{mv:ByteArray→Value}{D:DataW Value}{F:List uF}(h:IU w A M n vB vs mv D F)(x:ByteArray)(hx:x.size≤maxLen):
 (Instr.lookup 63 (.map (some M)) (.string x) false).run Tryz.prog w= .ok (mv x) w:=by
 obtain⟨v,ps,hrun,hv⟩:=h.mp.lookup Oc Tryz.underlying63 (alf w) (zd:= .held eB) (zp:=[]) rfl (keyOf_string_mk Tryz.underlying9 hx)
 rw[h.key x hx]at hv
 have:v=mv x:=by
  unfold xg at hv;simp only[aga,Prod.mk.injEq,DataW.held.injEq]at hv;exact hv.1
 rw[hrun,this]
theorem aox(l:List (Nat×Bool))(i:Nat)(h:i<l.length):(l.flatMap D5)[i*2]? =some (.int .i64 l[i].1)∧(l.flatMap D5)[i*2+1]? =some (.bool l[i].2):=by
 induction l generalizing i with
 |nil=>simp at h
 |cons p l ih=>
  cases i with
  |zero=>simp[D5]
  |succ i=>
   have:=ih i (by simpa using h)
   have e1:(p::l).flatMap D5=(.int .i64 p.1)::(.bool p.2)::l.flatMap D5:=by simp[D5]
   rw[e1,show(i+1)*2=i*2+1+1 from by omega];simpa using this
theorem aic {w:World}{base : Nat}{l:List (Nat×Bool)}(h:w.ownsRow base e 2 v l.length (l.flatMap D5))(h0:0<l.length):
 ∃g cap,v= .slice (some ⟨g,0,none⟩) l.length cap∧g<w.heap.size∧w.cell? ⟨g,(l.length - 1)*2,none⟩=some (.int .i64 (l[l.length - 1]' η).1)∧w.cell? ⟨g,(l.length - 1)*2+1,none⟩=some (.bool (l[l.length - 1]' η).2):=by
 obtain⟨h1,h2⟩:=aox l (l.length - 1) η
 rcases h.2 with⟨rfl,hz⟩|⟨g,cap,cur,rfl,hb,hg,hn,hm,hc,ht⟩
 ·omega
 ·refine⟨g,cap,rfl,(ψ.1 hg).1,?_,?_⟩
  ·rw[h.cellAt _ η];exact h1
  ·rw[h.cellAt _ η];exact h2
theorem Sc.l8(A n:Nat)(S:Nat→Prop)(F:List uF)(x:ByteArray)(w:World)(h:PV w A n S F)(hx:x.size≤maxLen)(hF:F.length≤9223372036854775807):
 Calls Tryz.prog 21 #[.pointer (some ⟨A,0,none⟩), .string x] w fun e w'=>e= .returned (.bool (ZH F x))∧w'=w:=by
 obtain⟨M,vB,vs,mv,D,h,h2,h3⟩:=h
 obtain⟨c0,c1,c2⟩:=h.cells
 have HD:=π h.hd
 have hlk:=h.lookup x hx
 have hrow:=h.alc x
 have hsl:(Xw F x).length≤F.length:=Km x 1 F
 have hty:ZH F x=match(Xw F x).getLast? with|some p=>p.2|none=>false:=rfl
 clear h h2 h3
 generalize Xw F x=l at*
 generalize ZH F x=r at*
 generalize mv x=v at*
 by_cases h0:0<l.length
 ·obtain⟨g,cap,rfl,hg,k0,k1⟩:=aic hrow h0
  have hr:r=(l[l.length - 1]' η).2:=by
   rw[hty,List.getLast?_eq_getElem?,abE η]
  rw[←hr]at k1
  have i0:((l.length:Int) - 1).toNat=l.length - 1:=by omega
  have i1:(0:Int)≤(l.length:Int) - 1:=by omega
  have i2:((l.length:Int) - 1)<(l.length:Int):=by omega
  have i3:(l.length:Int)≤9223372036854775807:=by omega
  clear hr hty hrow k0
  go_enter Tryz.func21,Tryz.ntmps21
  go_wp2_with fail
  refine(Sc.xZ A w _ _ HD.out).mono ?_;rintro e w1 ⟨rfl,rfl⟩
  go_wp2_with fail
  go_ret;exact⟨rfl,rfl⟩
 ·have hl0:l=[]:=List.length_eq_zero_iff.1 η
  subst hl0
  obtain rfl:r=false:=by rw[hty];rfl
  obtain⟨a,cap,rfl⟩:=fF hrow;clear hrow hty h0
  go_enter Tryz.func21,Tryz.ntmps21
  go_wp2_with fail
  refine(Sc.xZ A w _ _ HD.out).mono ?_;rintro e w1 ⟨rfl,rfl⟩
  go_wp2_with fail
  go_ret;exact⟨rfl,rfl⟩
def aoy(w:World)(e:Ending)(w':World):Prop:=∃A,e= .returned (.pointer (some ⟨A,0,none⟩))∧PV w' A 0 (fun k=>w.heap.size≤k∧k<w'.heap.size) [[]]∧Below w.heap.size w w'
theorem Sc.new(w:World):Calls Tryz.prog 16 #[] w (aoy w):=by
 have hmm:=@run_makeMap Tryz.prog
 have hbt:(Tryz.prog.built 66 [(1,Value.map (some w.heap.size)),(2, .slice (some ⟨w.heap.size+1,0,none⟩) 1 1)])=some #[.pointer none, .map (some w.heap.size), .slice (some ⟨w.heap.size+1,0,none⟩) 1 1]:=by kernel_rfl
 go_enter Tryz.func16,Tryz.ntmps16
 go_wp2_with (refine wpList_build rfl 66 _ rfl (by simp[Act.eval,hbt]) ?_)
 obtain⟨W,hW⟩:∃W,W=((w.alloc (.map #[] 0)).alloc (.cells #[eB] 90)).alloc (.cells #[.pointer (some ⟨w.heap.size+1+1,0,none⟩), .map (some w.heap.size), .slice (some ⟨w.heap.size+1,0,none⟩) 1 1] 66):=⟨_,rfl⟩
 rw[←hW]
 have hs:W.heap.size=w.heap.size+3:=by rw[hW];simp
 have h1:W.heap[w.heap.size]? =some (.map #[] 0):=by rw[hW,Lib.alloc_old _ _ _ (by simp;omega),Lib.alloc_old _ _ _ ν];exact heap_alloc_new _ _
 have h2:W.heap[w.heap.size+1]? =some (.cells #[eB] 90 (0,0)):=by
  rw[hW,Lib.alloc_old _ _ _ ν];have:=heap_alloc_new (w.alloc (.map #[] 0)) (.cells #[eB] 90);simpa using this
 have h3:W.heap[w.heap.size+1+1]? =some (.cells #[.pointer (some ⟨w.heap.size+1+1,0,none⟩), .map (some w.heap.size), .slice (some ⟨w.heap.size+1,0,none⟩) 1 1] 66 (0,0)):=by
  rw[hW];have:=heap_alloc_new ((w.alloc (.map #[] 0)).alloc (.cells #[eB] 90)) (.cells #[.pointer (some ⟨w.heap.size+1+1,0,none⟩), .map (some w.heap.size), .slice (some ⟨w.heap.size+1,0,none⟩) 1 1] 66);simpa using this
 have hB:Below w.heap.size w W:=by rw[hW];exact(((Below.refl _ _).alloc (υ _) _).alloc ν _).alloc (by simp;omega) _
 have hmp:W.ownsMap Tryz.prog 9 xg w.heap.size 0 (.map []):=by
  rw[hW];exact((World.ownsMap_made w Tryz.prog 9 xg).alloc _).alloc _
 clear hW
 go_ret
 refine⟨_,rfl,⟨w.heap.size,_,[eB],fun _=>eB, .map [],⟨h3,hmp,fun x _=>rfl,fun x=>World.ownsRow_nil _ _ _ _,?_,?_,fun x y _=> .inl rfl,fun i j hi hj hij=>?_,by simp⟩,?_,fun k hk=>hk.2⟩,hB⟩
 ·exact⟨rfl, .inr ⟨w.heap.size+1,1,#[eB],rfl,Ω _,h2,υ _,by unfold maxLen;omega,rfl,rfl⟩⟩
 ·intro i hi
  obtain rfl:i=0:=by simpa using hi
  exact World.ownsRow_nil _ _ _ _
 ·simp at hi hj;omega
 ·intro k hk
  rcases hk with rfl|rfl|hk|⟨i,hk⟩|⟨x,hk⟩
  ·exact⟨by omega,by omega⟩
  ·exact⟨by omega,by omega⟩
  ·simp[Value.ownBlock]at hk;exact⟨by omega,by omega⟩
  ·exfalso
   cases i<;>simp[Value.ownBlock]at hk
  ·simp[Value.ownBlock]at hk
def Leaves(A n:Nat)(S:Nat→Prop)(F:List uF)(w w':World):Prop:=
 ∃S',PV w' A n S' F∧(∀k,S' k→S k∨w.heap.size≤k)∧iV S w w'
def alg:uF→ByteArray→Bool→uF
 |[],x,t=>[(x,t)]
 |p::f,x,t=>if p.1=x then(p.1,t)::f else p::alg f x t
def bS(F:List uF)(x:ByteArray)(t:Bool):List uF:=F.dropLast++[alg (F.getLastD []) x t]
section
variable {w:World} {A M n:Nat} {vB:Value} {vs:List Value} {mv:ByteArray→Value} {D:DataW Value} {F:List uF} {st:ByteArray→List (Nat×Bool)} {ns:List (List Value)}
end
def jr(W:World)(A n:Nat)(F:List uF)(w:World):Prop:=∃S,PV w A n S F∧(∀k,S k→W.heap.size≤k)∧Below W.heap.size W w
theorem jr.below{W w:World}{A n:Nat}{F:List uF}(h:jr W A n F w):Below W.heap.size W w:=let ⟨_,_,_,h⟩:=h;h
theorem Ow.new(W w:World)(hb:Below W.heap.size W w):Calls Tryz.prog 16 #[] w fun e w'=>∃A,e= .returned (.pointer (some ⟨A,0,none⟩))∧jr W A 0 [[]] w':=by
 refine(Sc.new w).mono ?_
 rintro e w1 ⟨A,rfl,h1,h2⟩
 exact⟨A,rfl,_,h1,fun k hk=>aaT hb.size hk.1,hb.trans (h2.mono hb.size)⟩
theorem Ow.l8(W:World)(A n:Nat)(F:List uF)(x:ByteArray)(w:World)(h:jr W A n F w)(hx:x.size≤maxLen)(hF:F.length≤9223372036854775807):
 Calls Tryz.prog 21 #[.pointer (some ⟨A,0,none⟩), .string x] w fun e w'=>e= .returned (.bool (ZH F x))∧w'=w:=by
 obtain⟨S,h1,h2,h3⟩:=h
 exact Sc.l8 A n S F x w h1 hx hF
end Go.Proofs.YtlboejdhmggjpaaGreat.Sp
