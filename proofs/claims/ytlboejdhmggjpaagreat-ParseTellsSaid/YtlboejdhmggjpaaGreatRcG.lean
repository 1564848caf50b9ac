import Derived.Test.YtlboejdhmggjpaaGreatXbS
set_option linter.all false
namespace Go.Proofs.YtlboejdhmggjpaaGreat.Pp.Dr
set_option maxRecDepth 10000
def lZ{β:Type}(P:(Rq→Option (List Sx))→Option β):Prop:=∀g b,P g=some b→∃Q:List Rq,(∀q∈Q,g q≠none)∧∀g',(∀q∈Q,g' q=g q)→P g'=some b
theorem lZ.const{β:Type}(o:Option β):lZ fun _=>o:=fun g b h=>⟨[],(fun q hq=>(by cases hq)),fun g' _=>h⟩
theorem lZ.fK(q:Rq):lZ fun g=>g q:=fun g b h=>⟨[q],(fun q' hq=>by
 have h:g q=some b:=h
 rw[Φ.1 hq,h];exact fun e=>(by cases e)),fun g' hg=>(hg q (Φ.2 rfl)).trans h⟩
theorem lZ.bind{β γ:Type}{P:(Rq→Option (List Sx))→Option β}{K:β→(Rq→Option (List Sx))→Option γ}(hP:lZ P)(hK:∀b,lZ (K b)):lZ fun g=>(P g).bind fun b=>K b g:=fun g c h=>by
 obtain⟨b,h1,h2⟩:=Γ.1 h
 obtain⟨Q1,a1,a2⟩:=hP g b h1
 obtain⟨Q2,b1,b2⟩:=hK b g c h2
 refine⟨Q1++Q2,fun q hq=>(abr.1 hq).elim (a1 q) (b1 q),fun g' hg=>Γ.2 ⟨b,a2 g' fun q hq=>hg q (aby _ hq),b2 g' fun q hq=>hg q (abD _ hq)⟩⟩
theorem lZ.bu{α β:Type}{K:(Rq→Option (List Sx))→α→Option (List β)}(hK:∀a,lZ fun g=>K g a):∀xs:List α,lZ fun g=>Dr.bu (K g) xs
 |[]=>lZ.const _
 |a::r=>lZ.bind (hK a) fun x=>lZ.bind (lZ.bu hK r) fun y=>lZ.const _
theorem lZ.ite{β:Type}{c:Prop}[Decidable c]{P Q:(Rq→Option (List Sx))→Option β}(hP:lZ P)(hQ:lZ Q):lZ fun g=>if c then P g else Q g:=by
 by_cases h:c
 ·simp only[ω h];exact hP
 ·simp only[χ h];exact hQ
theorem lZ.map{β γ:Type}{P:(Rq→Option (List Sx))→Option β}(f:β→γ)(hP:lZ P):lZ fun g=>(P g).map f:=by
 have e:(fun g=>(P g).map f)=fun g=>(P g).bind fun b=>some (f b):=by funext g;cases P g<;>rfl
 rw[e];exact hP.bind fun b=> .const _
section
variable (l:List Ct)
theorem NF(a:List (List Sy))(s:Sx):lZ fun g=>Bo g a s:= .bind (.bu (fun y=> .fK _) a) fun _=> .const _
theorem ade(a:List (List Sy))(s:Sx):lZ fun g=>Au g a s:= .bind (NF a s) fun _=> .const _
theorem Wi(k:Nat)(s:Sx):lZ fun g=>vJ g k s:= .ite (.fK _) (.fK _)
theorem aiW(x:Sx):lZ fun g=>ru l g x:= .ite (.map _ (.bind (.fK _) fun _=> .const _)) (.ite (.map _ (.fK _)) (.ite (.map _ (.fK _)) (.ite (.const _) (.const _))))
theorem adf(b:Bool)(x:So):lZ fun g=>ic l g b x:=
 .ite (.const _) (.ite (.const _) (.ite (.const _) (.ite (.bind (.fK _) fun _=> .const _) (.ite (.const _) (.ite (.const _) (.bind (.fK _) fun _=> .const _))))))
theorem adg(w:Bs)(s:Sx):lZ fun g=>jO l g w s:=
 .ite (.const _) (.ite (.const _) (.ite (.const _) (.ite (.const _) (.ite (.fK _) (.ite (.fK _) (.ite (.fK _) (.ite (.fK _) (.ite (.fK _) (.ite (.fK _)
  (.bind (.bu (fun R=> .ite (.bu (fun p=> .bind (.bind (.fK _) fun _=> .const _) fun _=> .const _) _) (.const _)) _) fun _=> .const _))))))))))
theorem Yd:∀q,lZ fun g=>F l g q
 | .seq [] _ ss=> .const _
 | .seq (y::r) f ss=> .bind (.bind (.bu (fun s=> .fK _) ss) fun _=> .const _) fun x=> .fK _
 | .ay (.tx t) s _=> .const _
 | .ay (.nm t) s f=> .ite (.const _) (.fK _)
 | .ay (.dO a) s _=> .bind (NF a s) fun _=> .const _
 | .ay (.jy a) s _=>NF a s
 | .ay (.bV a) s _=> .bind (.fK _) fun _=> .const _
 | .bV a bB=> .ite (.const _) (.bind (.bu (fun s=>ade a s) bB) fun x=> .bind (.fK _) fun _=> .const _)
 | .call w s=>adg l w s
 | .dh all s bB=> .ite (.const _) (.bind (.bind (.bu (fun x=>adf l all x) bB) fun _=> .const _) fun x=> .bind (.fK _) fun _=> .const _)
 | .dB k s=> .ite (.fK _) (.bind (Wi k _) fun x=> .fK _)
 | .iB k s bB=> .ite (.const _) (.bind (.bu (fun x=> .ite (.bind (Wi k _) fun _=> .const _) (.const _)) bB) fun x=> .bind (.fK _) fun _=> .const _)
 | .dx s=> .bind (.fK _) fun x=> .bind (.bu (fun y=> .bind (.ite (.bind (.fK _) fun _=> .const _) (.const _)) fun _=> .const _) x) fun _=> .const _
 | .assign s=> .bind (.fK _) fun x=> .bind (.bu (fun y=> .bind (.ite (.fK _) (.const _)) fun _=> .const _) x) fun _=> .const _
 | .args s=> .bind (.fK _) fun _=> .const _
 | .jT s=> .bind (.fK _) fun x=> .bind (.fK _) fun y=> .bind (.const _) fun z=> .fK _
 | .iO s bB=> .ite (.const _) (.bind (.bu (fun x=> .bind (aiW l x) fun _=> .const _) bB) fun x=> .bind (.fK _) fun _=> .const _)
theorem aaw:∀(n:Nat) (q:Rq) (xs:List Sx),gV l n q=some xs→gV l (n+1) q=some xs
 |0,q,xs,h=>(by cases h)
 |n+1,q,xs,h=>by
  obtain⟨Q,h1,h2⟩:=Yd l q (gV l n) xs h
  refine h2 (gV l (n+1)) fun q hq=>?_
  cases e:gV l n q with
  |none=>exact absurd e (h1 q hq)
  |some ys=>exact aaw n q ys e
theorem LH{n m:Nat}{q:Rq}{xs:List Sx}(hn:n≤m)(h:gV l n q=some xs):gV l m q=some xs:=by
 induction hn with
 |refl=>exact h
 |step _ ih=>exact aaw l _ _ _ ih
open Classical in
noncomputable def dl (q:Rq):Option (List Sx):=if h:∃p:Nat×List Sx,gV l p.1 q=some p.2 then some (Classical.choose h).2 else none
theorem Hz{q:Rq}{xs:List Sx}:dl l q=some xs↔∃n,gV l n q=some xs:=by
 unfold dl
 constructor
 ·intro h
  split at h
  ·next hh=>cases h;exact⟨_,Classical.choose_spec hh⟩
  ·cases h
 ·rintro⟨n,h⟩
  have hh:∃p:Nat×List Sx,gV l p.1 q=some p.2:=⟨(n,xs),h⟩;rw[dif_pos hh];have h1:=LH l (agK (Classical.choose hh).1 n) (Classical.choose_spec hh);have h2:=LH l (Nat.le_max_right (Classical.choose hh).1 n) h;rw[h1]at h2;exact h2
theorem aax:∀Q:List Rq,(∀q∈Q,dl l q≠none)→∃n,∀q∈Q,gV l n q=dl l q
 |[],_=>⟨0,(fun q hq=>(by cases hq))⟩
 |q::Q,h=>by
  obtain⟨n,hn⟩:=aax Q fun q hq=>h q (abM _ hq)
  cases e:dl l q with
  |none=>exact absurd e (h q (ab6 ..))
  |some xs=>
   obtain⟨m,hm⟩:=(Hz l).1 e;refine⟨max n m,fun q' hq=>?_⟩
   rcases abf.1 hq with rfl|hq
   ·rw[e];exact LH l (Nat.le_max_right ..) hm
   ·cases e2:dl l q' with
    |none=>exact absurd e2 (h q' (abM _ hq))
    |some ys=>exact LH l (agK ..) ((hn q' hq).trans e2)
theorem fM(q:Rq):dl l q=F l (dl l) q:=by
 have ay:∀xs,dl l q=some xs↔F l (dl l) q=some xs:=fun xs=>by
  rw[Hz];constructor
  ·rintro⟨n,h⟩
   cases n with
   |zero=>cases h
   |succ n=>
    obtain⟨Q,h1,h2⟩:=Yd l q (gV l n) xs h
    refine h2 (dl l) fun q hq=>?_
    cases e:gV l n q with
    |none=>exact absurd e (h1 q hq)
    |some ys=>exact(Hz l).2 ⟨n,e⟩
  ·intro h
   obtain⟨Q,h1,h2⟩:=Yd l q (dl l) xs h;obtain⟨n,hn⟩:=aax l Q h1;exact⟨n+1,h2 (gV l n) hn⟩
 cases e:dl l q with
 |some xs=>exact((ay xs).1 e).symm
 |none=>
  cases e2:F l (dl l) q with
  |none=>rfl
  |some xs=>rw[(ay xs).2 e2]at e;cases e
end
def kD:List Bs:=[[97,117,116,111],ada,Yb,[99,104,97,114],Rb,ac8,FO,[100,111],[100,111,117,98,108,101],Cz,rF,[101,120,116,101,114,110],[102,108,111,97,116],Rf,Yc,[105,102],[105,110,108,105,110,101],[105,110,116],[108,111,110,103],aiT,Q8,X7,[115,104,111,114,116],[115,105,103,110,101,100],Cv,pM,Ny,X8,Eg,Nz,aiU,[118,111,105,100],Q9,Hu,yS,X6,Eh,[95,66,111,111,108],aiV,Nu,aiS,uW,aiR]
def pO:List Bs:=[[40],[41],[91],[93],[123],[125],[59],[44],[58],[46],Hy,El,Em,[38],[42],[43],[45],[126],[33],[47],[37],[60,60],[62,62],[60],[62],[60,61],[62,61],[61,61],[33,61],[94],[124],[38,38],[124,124],[63],[61],[42,61],[47,61],[37,61],[43,61],[45,61],[60,60,61],[62,62,61],[38,61],[94,61],[124,61],uR]
def rP(t:Bs):Bool:=!(t.headD 0==95||(97≤t.headD 0&&t.headD 0≤122))
def bg(t:Bs):Nat:=if rP t then(if pO.contains t then 60+pO.idxOf t else 0)else if kD.contains t then 10+kD.idxOf t else 0
def uS(c:Int)(t:Bs):Nat:=if c=2 then 2 else if c=3∨c=4∨c=5 then 3 else if c=6 then 6 else if c=7 then(if pO.contains t then 60+pO.idxOf t else 0)else if c=1 then(if kD.contains t then 10+kD.idxOf t else 0)else 0
def KN:Nat:=117
def aJ(l:List Nat)(k:Nat):Bool:=l.any fun x=>x==k
def nL(k:Nat):Bool:=aJ [1,14,42,30,46,41,13,32,27,28,22,18,33,40,47,48,36,39,20] k
def oP(k:Nat):Bool:=aJ [38,21,35,52,10,29,26,50,44] k
def iK(k m:Nat):Nat:=
 if k=1 then(if m=68 then 5 else 1)
 else if k=2 then(if m=68 then 4 else 2)
 else if k=67 then(if m=65 then 110 else if m=105 then 111 else k)
 else if k=74 then(if m=63 then 112 else k)
 else if k=60 then(if m=61 then 113 else if nL m then 114 else if oP m then 115 else k)
 else if k=46 then(if m=60 then 116 else k)
 else k
def un(k:Nat):Nat:=if k=5 then 1 else if k=4 then 2 else if k=110∨k=111 then 67 else if k=112 then 74 else if k=113∨k=114∨k=115 then 60 else if k=116 then 46 else k
def spK(k:Nat):Bool:=aJ [1,2,5,4,67,110,111,74,112,60,113,114,115,46,116] k
def Rh(k m:Nat):Nat:=if k=67 then(if m=65 then 110 else if m=105 then 111 else k)else k
def Bu(k:Nat):List Nat:=if k=2 then[1,2,5,4]else if k=74 then[74,112]else if k=60 then[60,113,114,115]else if k=46 then[46,116]else[k]
section
variable (l:List Ct)
def k0(p:Nat):Nat:=uS (bz l p) (bM l p)
def k1(env:List (List Sd))(p:Nat):Nat:=if k0 l p=2∧iN env (bM l p)=true then 1 else k0 l p
def kd(env:List (List Sd))(p:Nat):Nat:=iK (k1 l env p) (k1 l env (p+1))
def kc(p:Nat):Nat:=Rh (k0 l p) (k0 l (p+1))
end
theorem wN(c:Int)(t:Bs):uS c t<110∧uS c t≠1∧uS c t≠4∧uS c t≠5:=by
 unfold uS
 have h1:pO.idxOf t≤pO.length:=acu
 have h2:kD.idxOf t≤kD.length:=acu
 have e1:pO.length=46:=rfl
 have e2:kD.length=43:=rfl
 repeat' split
 all_goals refine⟨?_,?_,?_,?_⟩<;>omega
section
variable {l:List Ct}
theorem jI(env:List (List Sd))(p:Nat):k1 l env p<110:=by
 have:=(wN (bz l p) (bM l p)).1
 unfold k1 k0
 split<;>omega
theorem OY:∀k<110,∀m<110,iK k m<117∧(k≠4→k≠5→un (iK k m)=k):=by decide+kernel
theorem jP(env:List (List Sd))(p:Nat):kd l env p<KN:=(OY _ (jI env p) _ (jI env (p+1))).1
theorem afq(env:List (List Sd))(p:Nat):k1 l env p≠4∧k1 l env p≠5:=by
 have:=wN (bz l p) (bM l p)
 unfold k1 k0
 split
 ·decide
 ·exact⟨this.2.2.1,this.2.2.2⟩
theorem eY(env:List (List Sd))(p:Nat):un (kd l env p)=k1 l env p:=(OY _ (jI env p) _ (jI env (p+1))).2 (afq env p).1 (afq env p).2
theorem ahd(env:List (List Sd))(p:Nat):iK (un (kd l env p)) (un (kd l env (p+1)))=kd l env p:=by rw[eY,eY];rfl
def Ye(k:Nat):List Nat:=if k=2 then[1,2]else[k]
theorem ahe:((List.range 110).all fun k=>aJ [1,4,5] k||(List.range 110).all fun m=>aJ [1,4,5] m||(Ye k).all fun i=>(Ye m).all fun j=>aJ (Bu (Rh k m)) (iK i j))=true:=by decide+kernel
theorem aay(env:List (List Sd))(p:Nat):k1 l env p∈Ye (k0 l p):=by
 unfold k1 Ye
 by_cases h:k0 l p=2
 ·rw[ω h]
  by_cases h2:iN env (bM l p)=true
  ·rw[ω ⟨h,h2⟩];simp
  ·rw[χ (fun c=>h2 c.2),h];simp
 ·rw[χ h,χ (fun c=>h c.1)];simp
theorem aU{L:List Nat}{k:Nat}:aJ L k=true↔k∈L:=by
 unfold aJ
 rw[List.any_eq_true]
 exact⟨fun⟨x,h1,h2⟩=>by rw[←aaZ.1 h2];exact h1,fun h=>⟨k,h,afA k⟩⟩
theorem yV(env:List (List Sd))(p:Nat):kd l env p∈Bu (kc l p):=by
 have f:∀q,aJ [1,4,5] (k0 l q)=false:=fun q=>by
  have h1:=wN (bz l q) (bM l q)
  cases e:aJ [1,4,5] (k0 l q)with
  |false=>rfl
  |true=>
   have:=aU.1 e;unfold k0 at this;simp only[abf,abZ,acz]at this;omega
 have h:=ahe
 rw[Θ]at h
 have h:=h (k0 l p) (acD.2 (wN _ _).1)
 rw[f,afu,Θ]at h
 have h:=h (k0 l (p+1)) (acD.2 (wN _ _).1)
 rw[f,afu,Θ]at h
 have h:=h _ (aay env p)
 rw[Θ]at h
 exact aU.1 (h _ (aay env (p+1)))
def aO(k:Nat)(t:Bs):Bool:=un k==bg t
theorem Wj{L:List Bs}{a b:Bs}(ha:a∈L)(h:L.idxOf a=L.idxOf b):a=b:=by
 have h1:L.idxOf a<L.length:=List.idxOf_lt_length_of_mem ha
 have e1:=List.getElem_idxOf h1
 have h2:L.idxOf b<L.length:=by omega
 have e2:=List.getElem_idxOf h2
 rw[←e1,←e2]
 congr 1
theorem CB(p:Nat){t:Bs}(ht:bg t≠0):dJ l p t=(k0 l p==bg t):=by
 have hc:dJ l p t=decide (bz l p=(if rP t then 7 else 1)∧bM l p=t):=by
  unfold dJ rP bz bM;by_cases hp:p<l.length
  ·rw[ω hp]
   cases e:(t.headD 0==95||(97≤t.headD 0&&t.headD 0≤122))<;>rw[ags]<;>simp[hp]
  ·rw[χ hp]
   cases e:(t.headD 0==95||(97≤t.headD 0&&t.headD 0≤122))<;>simp[hp]
 rw[hc,ags,decide_eq_true_iff,aaZ]
 have b1:pO.idxOf (bM l p)≤46:=acu (l:=pO)
 have b2:kD.idxOf (bM l p)≤43:=acu (l:=kD)
 have b3:pO.idxOf t≤46:=acu (l:=pO)
 have b4:kD.idxOf t≤43:=acu (l:=kD)
 unfold bg at ht⊢
 unfold k0 uS
 cases ho:rP t
 ·rw[ho]at ht
  simp only[Bool.false_eq_true,if_false]at ht⊢;by_cases hk:kD.contains t
  ·rw[ω hk]
   constructor
   ·rintro⟨a,b⟩;rw[a,b,ω hk];rfl
   ·intro h
    repeat' split at h
    all_goals first
     |(exfalso;omega;done)
     |(refine⟨‹_›,?_⟩;exact Wj (ab0.1 ‹_›) η)
  ·rw[χ hk]at ht;exact absurd rfl ht
 ·rw[ho]at ht
  simp only[if_true]at ht⊢;by_cases hk:pO.contains t
  ·rw[ω hk]
   constructor
   ·rintro⟨a,b⟩;rw[a,b,ω hk];rfl
   ·intro h
    repeat' split at h
    all_goals first
     |(exfalso;omega;done)
     |(refine⟨‹_›,?_⟩;exact Wj (ab0.1 ‹_›) η)
  ·rw[χ hk]at ht;exact absurd rfl ht
theorem an4{env:List (List Sd)}{p k:Nat}(h:k≠1)(h2:k≠2):(k1 l env p==k)=(k0 l p==k):=by
 unfold k1
 split
 ·next h3=>rw[h3.1,abF (agh h),abF (agh h2)]
 ·rfl
theorem iZ(env:List (List Sd))(p:Nat){t:Bs}(ht:bg t≠0)(h1:bg t≠1:=by decide)(h2:bg t≠2:=by decide):dJ l p t=aO (kd l env p) t:=by
 rw[CB p ht];unfold aO;rw[eY,an4 h1 h2]
end
variable {α β : Type}
theorem FV (f:α→Option (List β)):bu f []=some []:=rfl
theorem di (f:α→Option (List β))(a:α)(r:List α):bu f (a::r)=(f a).bind fun x=>(bu f r).bind fun y=>some (x++y):=rfl
theorem bX (f:α→Option (List β))(a:α):bu f [a]=f a:=by
 rw[di,FV]
 cases f a<;>simp
theorem mi{α β:Type}(f:α→Option (List β))(b:List α):∀a:List α,bu f (a++b)=(bu f a).bind fun x=>(bu f b).bind fun y=>some (x++y)
 |[]=>by rw[FV,List.nil_append];cases bu f b<;>rfl
 |t::a=>by
  rw[List.cons_append,di,di,mi f b a]
  cases f t<;>cases bu f a<;>cases bu f b<;>simp
theorem ja{α β:Type}{f:α→Option (List β)}:∀{xs:List α},(∀x∈xs,f x=some [])→bu f xs=some []
 |[],_=>rfl
 |a::r,h=>by rw[di,h a (ab6 ..),ja fun x hx=>h x (abM _ hx)];rfl
theorem CE {f:α→Option (List β)}{A Z:List α}(a:α)(h:∀x∈A++Z,f x=some []):bu f (A++a::Z)=f a:=by
 rw[mi,di,ja fun x hx=>h x (aby _ hx),ja fun x hx=>h x (abD _ hx)]
 cases f a<;>simp
theorem JZ{α β:Type}(p:α→Prop)[DecidablePred p](g:α→Option (List β)):∀xs:List α,bu (fun r=>if p r then g r else some []) xs=bu g (xs.filter fun r=>decide (p r))
 |[]=>rfl
 |a::r=>by
  rw[di,JZ p g r];by_cases h:p a
  ·rw[List.filter_cons_of_pos (by simpa using h),ω h,di]
  ·rw[List.filter_cons_of_neg (by simpa using h),χ h]
   simp
theorem ahf (a:α):aG [a]=some [a]:=rfl
section
variable {l:List Ct}
theorem dH(f:Nat)(xs:List Sx):dl l (.seq [] f xs)=some xs:=by rw[fM];rfl
theorem bJ(y:Sy)(r:List Sy)(f:Nat)(xs:List Sx):dl l (.seq (y::r) f xs)=((bu (fun s=>dl l (.ay y s f)) xs).bind aG).bind fun z=>dl l (.seq r f z):=by rw[fM];rfl
theorem lN:∀(r:List Sy) (f:Nat),dl l (.seq r f [])=some []
 |[],f=>dH f []
 |y::r,f=>by rw[bJ,FV];exact lN r f
theorem bH{y:Sy}{r:List Sy}{f:Nat}{x z:Sx}(h:dl l (.ay y x f)=some [z]):dl l (.seq (y::r) f [x])=dl l (.seq r f [z]):=by rw[bJ,bX,h];rfl
variable {x : Sx}
theorem il {y:Sy}{r:List Sy}{f:Nat}(h:dl l (.ay y x f)=some []):dl l (.seq (y::r) f [x])=some []:=by rw[bJ,bX,h];exact lN r f
theorem AJ(t:Bs)(x:Sx)(f:Nat):dl l (.ay (.tx t) x f)=some (jC x (dJ l x.af t)):=by rw[fM];rfl
theorem iW{t:Bs}(ht:t.headD 0=64)(x:Sx)(f:Nat):dl l (.ay (.nm t) x f)=some (j3 l t x f):=by rw[fM];show(if t.headD 0=64 then _ else _)=_;rw[ω ht]
theorem fe{t:Bs}(ht:t.headD 0≠64)(x:Sx)(f:Nat):dl l (.ay (.nm t) x f)=dl l (.call t x):=by rw[fM];show(if t.headD 0=64 then _ else _)=_;rw[χ ht]
noncomputable def gT (l:List Ct) (a:List (List Sy)) (x:Sx):Option (List Sx):=(bu (fun y=>dl l (.seq y x.af [x])) a).bind aG
theorem wO(a:List (List Sy))(x:Sx)(f:Nat):dl l (.ay (.dO a) x f)=(gT l a x).bind fun z=>aG (x::z):=by rw[fM];rfl
theorem wP(a:List (List Sy))(x:Sx)(f:Nat):dl l (.ay (.jy a) x f)=gT l a x:=by rw[fM];rfl
theorem Wl(a:List (List Sy))(x:Sx)(f:Nat):dl l (.ay (.bV a) x f)=(dl l (.bV a [x])).bind fun z=>aG (x::z):=by rw[fM];rfl
theorem Ju(a:List (List Sy)):dl l (.bV a [])=some []:=by rw[fM];rfl
noncomputable def Dz (l:List Ct) (a:List (List Sy)) (x:Sx):Option (List Sx):=(gT l a x).bind fun y=>some (y.filter fun z=>x.af<z.af)
theorem KH(a:List (List Sy))(xs:List Sx)(h:xs≠[]):dl l (.bV a xs)=(bu (Dz l a) xs).bind fun x=>(dl l (.bV a x)).bind fun y=>aG (x++y):=by
 rw[fM]
 show(if xs.isEmpty then _ else _)=_
 rw[χ (by simpa using h)];rfl
variable {a : List (List Sy)}
theorem rG (h:∀y∈a,dl l (.seq y x.af [x])=some []):gT l a x=some []:=by unfold gT;rw[ja h];rfl
theorem vO (h:gT l a x=some [])(f:Nat):dl l (.ay (.dO a) x f)=some [x]:=by rw[wO,h];rfl
theorem xU (h:gT l a x=some [])(f:Nat):dl l (.ay (.bV a) x f)=some [x]:=by
 rw[Wl,KH a [x] ν,bX,Dz,h]
 show((some ([].filter _)).bind _).bind _=_
 rw[List.filter_nil,Ξ,Ju];rfl
def Ri(w:Bs):Bool:=!([nT,FR,Hq,xS,Ht,Cy,lq,jk,sO,yT]:List Bs).contains w
noncomputable def ed (l:List Ct) (x:Sx) (p:List Sy×Nat):Option (List Sx):=((dl l (.seq p.1 x.af [{af:=x.af,env:=x.env,ty:=x.ty}])).bind aG).bind fun y=>some (y.map fun r=>bn x r p.2)
theorem vP{w:Bs}{R:Ru}(hp:Ri w=true)(hr:dU.filter (fun r=>decide (r.name=w))=[R])(x:Sx):dl l (.call w x)=(bu (ed l x) (R.mh.zip R.iL)).bind aG:=by
 have hne:∀t∈([nT,FR,Hq,xS,Ht,Cy,lq,jk,sO,yT]:List Bs),w≠t:=fun t ht e=>by
  subst e;unfold Ri at hp;rw[ab0.2 ht]at hp;cases hp
 simp only[abf,abZ,acz,forall_eq_or_imp,forall_eq]at hne
 obtain⟨h1,h2,h3,h4,h5,h6,h7,h8,h9,h10⟩:=hne
 rw[fM]
 show jO l (dl l) w x=_
 unfold jO
 rw[χ h1,χ h2,χ h3,χ h4,χ h5,χ h6,χ h7,χ h8,χ h9,χ h10]
 have e:=JZ (fun r:Ru=>r.name=w) (fun R=>bu (ed l x) (R.mh.zip R.iL)) dU
 rw[hr,bX]at e
 rw[←e];rfl
theorem vQ(x:Sx):dl l (.call nT x)=some (jC x (bz l x.af==2)):=by rw[fM];rfl
theorem FW(x:Sx):dl l (.call FR x)=some (jC x (bz l x.af==2&&!iN x.env (bM l x.af))):=by rw[fM];rfl
theorem GK(x:Sx):dl l (.call Hq x)=some (jC x (bz l x.af==3||bz l x.af==4||bz l x.af==5)):=by rw[fM];rfl
theorem J2(x:Sx):dl l (.call xS x)=some (jC x (bz l x.af==6)):=by rw[fM];rfl
theorem Eo(x:Sx):dl l (.call Ht x)=dl l (.dh false x [⟨fresh x,0,0⟩]):=by rw[fM];rfl
theorem uN(x:Sx):dl l (.call Cy x)=dl l (.dh true x [⟨fresh x,0,0⟩]):=by rw[fM];rfl
theorem H7(x:Sx):dl l (.call lq x)=dl l (.dB 0 x):=by rw[fM];rfl
theorem Av(x:Sx):dl l (.call jk x)=dl l (.assign x):=by rw[fM];rfl
theorem J3(x:Sx):dl l (.call sO x)=dl l (.dx x):=by rw[fM];rfl
theorem vR(x:Sx):dl l (.call yT x)=dl l (.jT x):=by rw[fM];rfl
theorem uu(p:Nat):(bz l p=2↔k0 l p=2)∧((bz l p=3∨bz l p=4∨bz l p=5)↔k0 l p=3)∧(bz l p=6↔k0 l p=6):=by
 have b1:pO.idxOf (bM l p)≤46:=acu (l:=pO)
 have b2:kD.idxOf (bM l p)≤43:=acu (l:=kD)
 unfold k0 uS
 repeat' split
 all_goals(refine⟨?_,?_,?_⟩<;>omega)
theorem mo(env:List (List Sd))(p:Nat):(bz l p=2↔k1 l env p=1∨k1 l env p=2)∧((bz l p=2∧iN env (bM l p)=true)↔k1 l env p=1):=by
 have h:=(wN (bz l p) (bM l p)).2.1
 rw[(uu p).1]
 unfold k1
 by_cases h2:k0 l p=2
 ·by_cases h3:iN env (bM l p)=true
  ·rw[ω ⟨h2,h3⟩];simp[h2,h3]
  ·rw[χ (fun c=>h3 c.2)];simp[h2,h3]
 ·rw[χ (fun c=>h2 c.1)]
  have:k0 l p≠1:=h;simp[h2,this]
theorem FX{env:List (List Sd)}{p k:Nat}(h:2<k):k1 l env p=k↔k0 l p=k:=by
 unfold k1
 split
 ·next h3=>omega
 ·rfl
theorem ahg:∀t∈kD,(qZ.contains t||uV.contains t||ql.contains t)=nL (10+kD.idxOf t)∧(rf.contains t||t==yS)=oP (10+kD.idxOf t):=by decide+kernel
theorem adh:∀t∈qZ++uV++ql++rf++[yS],t∈kD:=by decide+kernel
theorem Rj:∀k<110,k≠1→(k<10∨53≤k)→nL k=false∧oP k=false:=by decide+kernel
theorem vS(env:List (List Sd))(p:Nat)(all:Bool):iY l env p all=(nL (k1 l env p)||(all&&oP (k1 l env p))):=by
 have b2:kD.idxOf (bM l p)≤43:=acu (l:=kD)
 have hlt:=jI (l:=l) env p
 unfold iY
 by_cases h2:bz l p=2
 ·rw[ω h2]
  by_cases h3:iN env (bM l p)=true
  ·rw[((mo env p).2).1 ⟨h2,h3⟩,h3];rfl
  ·have e:k1 l env p=2:=((mo env p).1.1 h2).resolve_left fun c=>h3 (((mo env p).2).2 c).2
   have h3':iN env (bM l p)=false:=by cases h:iN env (bM l p)<;>simp_all
   rw[e,h3'];cases all<;>rfl
 ·rw[χ h2]
  have n1:k1 l env p≠1∧k1 l env p≠2:=⟨fun c=>h2 ((mo env p).1.2 (.inl c)),fun c=>h2 ((mo env p).1.2 (.inr c))⟩
  have e0:k1 l env p=k0 l p:=by
   unfold k1;rw[χ (fun c=>h2 ((uu p).1.2 c.1))]
  by_cases h1:bz l p=1
  ·rw[χ (fun c=>c h1)]
   by_cases hk:kD.contains (bM l p)=true
   ·have e:k0 l p=10+kD.idxOf (bM l p):=by
     unfold k0 uS;rw[h1];simp only[hk,if_true];rfl
    obtain⟨a,b⟩:=ahg (bM l p) (ab0.1 hk);rw[e0,e,←a,←b]
   ·have e:k0 l p=0:=by
     unfold k0 uS;rw[h1];simp only[hk];rfl
    have f:∀L:List Bs,(∀t∈L,t∈kD)→L.contains (bM l p)=false:=fun L hL=>by
     cases c:L.contains (bM l p)with
     |false=>rfl
     |true=>exact absurd (ab0.2 (hL _ (ab0.1 c))) hk
    have g:∀t∈qZ++uV++ql++rf++[yS],t∈kD:=adh;rw[f qZ fun t ht=>g t (by simp[ht]),f uV fun t ht=>g t (by simp[ht]),f ql fun t ht=>g t (by simp[ht]),f rf fun t ht=>g t (by simp[ht])]
    have h9:(bM l p==yS)=false:=by
     have:=f [yS] fun t ht=>g t (by simp at ht;simp[ht])
     simpa using this
    rw[h9,e0,e];cases all<;>rfl
  ·rw[ω h1]
   have e:k0 l p<10∨53≤k0 l p:=by
    unfold k0 uS;rw[χ h2,χ h1]
    repeat' split
    all_goals omega
   obtain⟨a,b⟩:=Rj (k1 l env p) hlt n1.1 (by rw[e0];exact e)
   rw[a,b];cases all<;>rfl
end
abbrev Tb:=List (Bs×List Nat)
def Rk(w:Bs):List (List Sy):=(dU.filter fun r=>decide (r.name=w)).flatMap (·.mh)
def yY:List (List Sy):=[[.tx [38]],[.tx [42]],[.tx [43]],[.tx [45]],[.tx [126]],[.tx [33]]]
def GL(k:Nat)(p:Nat→Bool):Bool:=spK k&&(List.range KN).all fun k'=>iK (un k) (un k')!=k||p k'
def jb(T:Tb):Nat→Nat→List Sy→Bool
 |0,_,_=>false
 |n+1,k,[]=>false
 |n+1,k, .tx t::r=>bg t !=0&&bg t !=1&&bg t !=2&&(!aO k t||GL k fun k'=>jb T n k' r)
 |n+1,k, .dO a::r=>a.all (fun y=>jb T n k y)&&jb T n k r
 |n+1,k, .bV a::r=>a.all (fun y=>jb T n k y)&&jb T n k r
 |n+1,k, .jy a::r=>a.all fun y=>jb T n k y
 |n+1,k, .nm w::r=>
  if w=NA∨w=Bq∨w=Hw then jb T n k r
  else if w=Cu then(nL (un k)||oP (un k)||un k==61||jb T n k r)
  else if w=Nv then un k==60||jb T n k r
  else if w=Nw then un k==19||jb T n k r
  else if w=nT then !(un k==1||un k==2)||GL k fun k'=>jb T n k' r
  else if w=FR then un k !=2||GL k fun k'=>jb T n k' r
  else if w=Hq then un k !=3
  else if w=xS then un k !=6
  else if w=Ht then !nL (un k)
  else if w=Cy then !(nL (un k)||oP (un k))
  else if w=NC then yY.all fun y=>jb T n k (y++r)
  else match T.find? fun p=>p.1==w with
   |some p=>!aJ p.2 k
   |none=>false
section
variable {l:List Ct}
def Yf(l:List Ct)(T:Tb):Prop:=∀p∈T,p.1.headD 0≠64∧∀x:Sx,aJ p.2 (kd l x.env x.af)=false→dl l (.call p.1 x)=some []
theorem Rm{k:Nat}{p:Nat→Bool}(h:GL k p=true){env:List (List Sd)}{i:Nat}(hk:kd l env i=k):p (kd l env (i+1))=true:=by
 unfold GL at h
 rw[aaS,Θ]at h
 have h:=h.2 (kd l env (i+1)) (acD.2 (jP env (i+1)))
 have e:=ahd (l:=l) env i
 rw[hk]at e
 rw[e]at h
 simpa using h
theorem OZ{all:Bool}{x:Sx}(h:iY l x.env x.af all=false):dl l (.dh all x [⟨fresh x,0,0⟩])=some []:=by
 rw[fM]
 show((bu (ic l (dl l) all) [_]).bind aG).bind _=_
 rw[bX]
 have e:ic l (dl l) all ⟨fresh x,0,0⟩=some []:=by unfold ic;exact ω h
 rw[e]
 show(dl l (.dh all x [])).bind _=_
 have e2:dl l (.dh all x [])=some []:=by rw[fM];rfl
 rw[e2];rfl
theorem aaz(x:Sx):dl l (.call NC x)=(bu (ed l x) (yY.map fun y=>(y,0))).bind aG:=vP (R:=⟨NC,yY,[0,0,0,0,0,0]⟩) ζ rfl x
theorem Wm(x:Sx):dl l (.call NC x)=some (jC x (aJ [73,74,75,76,77,78] (un (kd l x.env x.af)))):=by
 rw[aaz]
 have e:∀t:Bs,(bg t≠0)→bg t≠1→bg t≠2→ed l x ([.tx t],0)=some (jC x (un (kd l x.env x.af)==bg t)):=fun t h0 h1 h2=>by
  have he:dl l (.seq [.tx t] x.af [{af:=x.af,env:=x.env,ty:=x.ty}])=some (jC {af:=x.af,env:=x.env,ty:=x.ty} (un (kd l x.env x.af)==bg t)):=by
   rw[bJ,bX,AJ,iZ x.env x.af h0 h1 h2];unfold aO
   cases(un (kd l x.env x.af)==bg t)<;>exact dH ..
  unfold ed;rw[he];cases(un (kd l x.env x.af)==bg t)
  ·rfl
  ·show some [bn x _ 0]=some [_]
   unfold bn;simp[jC]
 unfold yY
 simp only[acj,acJ]
 rw[di,di,di,di,di,di,FV]
 rw[e [38] ζ ζ ζ,e [42] ζ ζ ζ,e [43] ζ ζ ζ,e [45] ζ ζ ζ,e [126] ζ ζ ζ,e [33] ζ ζ ζ]
 have hlt:=jP (l:=l) x.env x.af
 generalize kd l x.env x.af=k at hlt⊢
 have c:∀k<KN,[un k==bg [38],un k==bg [42],un k==bg [43],un k==bg [45],un k==bg [126],un k==bg [33],aJ [73,74,75,76,77,78] (un k)]∈[[false,false,false,false,false,false,false],[true,false,false,false,false,false,true],[false,true,false,false,false,false,true],[false,false,true,false,false,false,true],[false,false,false,true,false,false,true],[false,false,false,false,true,false,true],[false,false,false,false,false,true,true]]:=by decide+kernel
 have c:=c k hlt
 simp only[abf,abZ,acz,afM,and_true]at c
 rcases c with⟨c1,c2,c3,c4,c5,c6,c7⟩|⟨c1,c2,c3,c4,c5,c6,c7⟩|⟨c1,c2,c3,c4,c5,c6,c7⟩|⟨c1,c2,c3,c4,c5,c6,c7⟩|⟨c1,c2,c3,c4,c5,c6,c7⟩|⟨c1,c2,c3,c4,c5,c6,c7⟩|⟨c1,c2,c3,c4,c5,c6,c7⟩<;>(rw[c1,c2,c3,c4,c5,c6,c7];rfl)
theorem dN{T:Tb}(hT:Yf l T):∀(n k:Nat) (ys:List Sy) (f:Nat) (x:Sx),jb T n k ys=true→kd l x.env x.af=k→dl l (.seq ys f [x])=some []
 |0,k,ys,f,x,h,hk=>by cases h
 |n+1,k,[],f,x,h,hk=>by cases h
 |n+1,k, .tx t::r,f,x,h,hk=>by
  unfold jb at h;simp only[aaS,acm,ne_eq,ack,af9]at h;obtain⟨⟨⟨h0,h1⟩,h2⟩,h3⟩:=h;have e:=AJ (l:=l) t x f;rw[iZ x.env x.af h0 h1 h2,hk]at e
  cases hh:aO k t with
  |false=>rw[hh]at e;exact il e
  |true=>
   rw[hh]at e h3;have h3:=h3.resolve_left ζ;rw[bH e];exact dN hT n _ r f _ (Rm h3 hk) rfl
 |n+1,k, .dO a::r,f,x,h,hk=>by
  unfold jb at h;rw[aaS,Θ]at h;rw[bH (vO (rG fun y hy=>dN hT n k y x.af x (h.1 y hy) hk) f)];exact dN hT n k r f x h.2 hk
 |n+1,k, .bV a::r,f,x,h,hk=>by
  unfold jb at h;rw[aaS,Θ]at h;rw[bH (xU (rG fun y hy=>dN hT n k y x.af x (h.1 y hy) hk) f)];exact dN hT n k r f x h.2 hk
 |n+1,k, .jy a::r,f,x,h,hk=>by
  unfold jb at h;rw[Θ]at h;exact il ((wP a x f).trans (rG fun y hy=>dN hT n k y x.af x (h y hy) hk))
 |n+1,k, .nm w::r,f,x,h,hk=>by
  have hu:un k=k1 l x.env x.af:=by rw[←hk,eY]
  rw[jb]at h;by_cases hw:w=NA∨w=Bq∨w=Hw
  ·rw[ω hw]at h
   have hd:w.headD 0=64:=by rcases hw with rfl|rfl|rfl<;>rfl
   have e:=iW (l:=l) hd x f
   rcases hw with rfl|rfl|rfl
   ·rw[bH e]
    exact dN hT n k r f _ h (by
     rw[←hk]
     have e1:∀p,k1 l (qY x.env) p=k1 l x.env p:=fun p=>by unfold k1 iN qY;simp
     show iK (k1 l (qY x.env) x.af) (k1 l (qY x.env) (x.af+1))=_
     rw[e1,e1];rfl)
   ·rw[bH e];exact dN hT n k r f _ h hk
   ·by_cases hs:f<x.af
    ·rw[bH (z:=x) (by rw[e];show some (if f<x.af then[x]else[])=_;rw[ω hs])];exact dN hT n k r f x h hk
    ·exact il (by rw[e];show some (if f<x.af then[x]else[])=_;rw[χ hs])
  rw[χ hw]at h;clear hw;by_cases hw:w=Cu
  ·rw[ω hw]at h
   subst hw;have e:=iW (l:=l) (t:=Cu) rfl x f
   have ea:j3 l Cu x f=if iY l x.env x.af true=false∧dJ l x.af [41]=false then[x]else[]:=rfl
   rw[ea,iZ x.env x.af ζ,hk,vS,←hu]at e;by_cases c:(nL (un k)||true&&oP (un k))=false∧aO k [41]=false
   ·rw[ω c]at e
    rw[bH e];refine dN hT n k r f x ?_ hk;have c2:(un k==61)=false:=c.2;have c1:=c.1;rw[af5]at c1;rw[c1,c2]at h;exact h
   ·rw[χ c]at e;exact il e
  rw[χ hw]at h;clear hw;by_cases hw:w=Nv
  ·rw[ω hw]at h
   subst hw;have e:=iW (l:=l) (t:=Nv) rfl x f
   have ea:j3 l Nv x f=if dJ l x.af [40]=false then[x]else[]:=rfl
   rw[ea,iZ x.env x.af ζ,hk]at e;by_cases c:aO k [40]=false
   ·rw[ω c]at e
    rw[bH e];have c2:(un k==60)=false:=c;rw[c2]at h;exact dN hT n k r f x h hk
   ·rw[χ c]at e;exact il e
  rw[χ hw]at h;clear hw;by_cases hw:w=Nw
  ·rw[ω hw]at h
   subst hw;have e:=iW (l:=l) (t:=Nw) rfl x f
   have ea:j3 l Nw x f=if dJ l x.af Cz=false then[x]else[]:=rfl
   rw[ea,iZ x.env x.af ζ,hk]at e;by_cases c:aO k Cz=false
   ·rw[ω c]at e
    rw[bH e];have c2:(un k==19)=false:=c;rw[c2]at h;exact dN hT n k r f x h hk
   ·rw[χ c]at e;exact il e
  rw[χ hw]at h;clear hw;by_cases hw:w=nT
  ·rw[ω hw]at h
   subst hw;have e:=fe (l:=l) (t:=nT) ζ x f;rw[vQ]at e;by_cases c:bz l x.af=2
   ·rw[c]at e
    rw[bH e];have c2:=(mo x.env x.af).1.1 c;rw[hu]at h;refine dN hT n _ r f _ (Rm (ack _ _▸h|>.resolve_left ?_) hk) rfl
    rcases c2 with c2|c2<;>rw[c2]<;>decide
   ·rw[abF c]at e;exact il e
  rw[χ hw]at h;clear hw;by_cases hw:w=FR
  ·rw[ω hw]at h
   subst hw;have e:=fe (l:=l) (t:=FR) ζ x f;rw[FW]at e;by_cases c:(bz l x.af==2&&!iN x.env (bM l x.af))=true
   ·rw[c]at e
    rw[bH e];rw[aaS,aaZ,af9]at c
    have c2:k1 l x.env x.af=2:=((mo x.env x.af).1.1 c.1).resolve_left fun q=>by rw[((mo x.env x.af).2.2 q).2]at c;cases c.2
    rw[hu,c2]at h;exact dN hT n _ r f _ (Rm (ack _ _▸h|>.resolve_left ζ) hk) rfl
   ·have c:_=false:=acL _|>.mp c
    rw[c]at e;exact il e
  rw[χ hw]at h;clear hw;by_cases hw:w=Hq
  ·rw[ω hw]at h
   subst hw;have e:=fe (l:=l) (t:=Hq) ζ x f;rw[GK]at e
   have c:(bz l x.af==3||bz l x.af==4||bz l x.af==5)=false:=by
    rw[acm,hu,ne_eq,FX ζ,←(uu x.af).2.1]at h;simp only[not_or]at h;simp[h]
   rw[c]at e;exact il e
  rw[χ hw]at h;clear hw;by_cases hw:w=xS
  ·rw[ω hw]at h
   subst hw;have e:=fe (l:=l) (t:=xS) ζ x f;rw[J2]at e
   have c:(bz l x.af==6)=false:=by
    rw[acm,hu,ne_eq,FX ζ,←(uu x.af).2.2]at h;simp[h]
   rw[c]at e;exact il e
  rw[χ hw]at h;clear hw;by_cases hw:w=Ht
  ·rw[ω hw]at h
   subst hw;refine il ((fe ζ x f).trans ((Eo x).trans (OZ ?_)));rw[vS,←hu];simpa using h
  rw[χ hw]at h;clear hw;by_cases hw:w=Cy
  ·rw[ω hw]at h
   subst hw;refine il ((fe ζ x f).trans ((uN x).trans (OZ ?_)));rw[vS,←hu];simpa using h
  rw[χ hw]at h;clear hw;by_cases hw:w=NC
  ·rw[ω hw]at h
   subst hw;have e:=fe (l:=l) (t:=NC) ζ x f;rw[Wm,hk]at e
   cases c:aJ [73,74,75,76,77,78] (un k)with
   |false=>rw[c]at e;exact il e
   |true=>
    rw[c]at e;rw[bH e];rw[Θ]at h
    have g:∀t:Bs,bg t≠0→bg t≠1→bg t≠2→un k=bg t→[Sy.tx t]∈yY→dl l (.seq r f [{x with af:=x.af+1}])=some []:=fun t h0 h1 h2 h3 h4=>by
     have q:=dN hT n k ([.tx t]++r) f x (h _ h4) hk;have e9:=AJ (l:=l) t x f;rw[iZ x.env x.af h0 h1 h2,hk,aO,h3,afA]at e9;rw[afR,bH e9]at q;exact q
    have c:=aU.1 c;simp only[abf,abZ,acz]at c
    rcases c with c|c|c|c|c|c
    ·exact g [38] ζ ζ ζ c (by simp[yY])
    ·exact g [42] ζ ζ ζ c (by simp[yY])
    ·exact g [43] ζ ζ ζ c (by simp[yY])
    ·exact g [45] ζ ζ ζ c (by simp[yY])
    ·exact g [126] ζ ζ ζ c (by simp[yY])
    ·exact g [33] ζ ζ ζ c (by simp[yY])
  ·rw[χ hw]at h;clear hw
   split at h
   ·next p hp=>
    have h1:=List.find?_some hp;have h2:=agf hp
    have h1:p.1=w:=by simpa using h1
    subst h1;obtain⟨a,b⟩:=hT p h2;exact il ((fe a x f).trans (b x (by rw[hk];simpa using h)))
   ·cases h
end
def sP(w:Bs):Bool:=Ri w&&w.headD 0 !=64&&(dU.filter fun r=>decide (r.name=w)).length==1
def sub(a b:List Nat):Bool:=a.all (aJ b)
def Rn:List (List Sy):=[[.nm Br],[.tx [40], .nm Cu, .nm AB, .tx [41]],[.nm qJ]]
def entry(T:Tb)(w:Bs)(s:List Nat):Bool:=
 if w=lq∨w=jk∨w=sO then(match T.find? fun p=>p.1==nU with
  |some p=>sub p.2 s
  |none=>false)
 else if w=yT then(match T.find? fun p=>p.1==vL with
  |some p=>sub p.2 s&&(match T.find? fun p=>p.1==yU with
   |some p=>sub p.2 s
   |none=>false)
  |none=>false)
 else sP w&&(List.range KN).all fun k=>aJ s k||if w=AB then Rn.all fun y=>jb T 8 k y else(Rk w).all fun y=>jb T 8 k y
def chk:Tb→Bool
 |[]=>true
 |p::T=>chk T&&entry T p.1 p.2
section
variable {l:List Ct}
theorem aaA{w:Bs}(ho:sP w=true)(x:Sx)(h:∀y∈Rk w,dl l (.seq y x.af [{af:=x.af,env:=x.env,ty:=x.ty}])=some []):dl l (.call w x)=some []:=by
 unfold sP at ho
 simp only[aaS,aaZ]at ho
 obtain⟨R,hR⟩:=af1.1 ho.2
 rw[vP ho.1.1 hR]
 rw[ja fun p hp=>?_];rfl
 unfold ed
 rw[h p.1 (by unfold Rk;rw[hR];simpa using (List.of_mem_zip hp).1)];rfl
theorem Ro{a b:List Nat}{k:Nat}(h:sub a b=true)(hk:aJ b k=false):aJ a k=false:=by
 cases c:aJ a k with
 |false=>rfl
 |true=>
  unfold sub at h;rw[Θ]at h;rw[h k (aU.1 c)]at hk;cases hk
theorem pF(k:Nat)(s:Sx):dl l (.iB k s [])=some []:=by rw[fM];rfl
theorem AL(s:Sx):dl l (.iO s [])=some []:=by rw[fM];rfl
theorem FY(x:Sx):dl l (.dB 11 x)=dl l (.call nU x):=by rw[fM];rfl
theorem xV{k:Nat}(hk:k≠11)(x:Sx):dl l (.dB k x)=(if k=0 then dl l (.call jk (fresh x))else dl l (.dB (k+1) (fresh x))).bind fun y=>dl l (.iB k x y):=by
 rw[fM]
 show(if k=11 then _ else _)=_
 rw[χ hk];rfl
theorem O0{x:Sx}:∀(j k:Nat),k+j=11→0<k→dl l (.call nU (fresh x))=some []→dl l (.call nU x)=some []→dl l (.dB k (fresh x))=some []∧dl l (.dB k x)=some []
 |0,k,h,_,h1,h2=>by
  obtain rfl:k=11:=by omega
  exact⟨(FY _).trans h1,(FY _).trans h2⟩
 |j+1,k,h,h0,h1,h2=>by
  have ih:=O0 j (k+1) η η h1 h2;have e:fresh (fresh x)=fresh x:=rfl;rw[xV (k:=k) η (fresh x),xV (k:=k) η x,χ η,χ η,e,ih.1];exact⟨pF ..,pF ..⟩
theorem aaB{x:Sx}(h1:∀y:Sx,kd l y.env y.af=kd l x.env x.af→dl l (.call nU y)=some []):dl l (.call lq x)=some []∧dl l (.call jk x)=some []∧dl l (.call sO x)=some []:=by
 have e:∀y:Sx,kd l y.env y.af=kd l x.env x.af→dl l (.dx y)=some []:=fun y hy=>by
  rw[fM];show(dl l (.dB 1 (fresh y))).bind _=_;rw[(O0 (l:=l) (x:=y) 10 1 rfl ζ (h1 _ hy) (h1 _ hy)).1];rfl
 have e2:∀y:Sx,kd l y.env y.af=kd l x.env x.af→dl l (.assign y)=some []:=fun y hy=>by
  rw[fM];show(dl l (.dx (fresh y))).bind _=_;rw[e (fresh y) hy];rfl
 refine⟨?_,(Av x).trans (e2 x rfl),(J3 x).trans (e x rfl)⟩
 rw[H7,xV ζ,ω rfl,Av,e2 (fresh x) rfl]
 exact pF ..
theorem NG{T:Tb}{w:Bs}{p:Bs×List Nat}(h:T.find? (fun p=>p.1==w)=some p):p∈T∧p.1=w:=⟨agf h,by simpa using List.find?_some h⟩
theorem afr:∀T:Tb,chk T=true→Yf l T
 |[],_=>fun p hp=>(by cases hp)
 |(w,s)::T,h=>by
  unfold chk at h;rw[aaS]at h;have ih:=afr T h.1;have h:=h.2
  refine fun p hp=>?_
  rcases abf.1 hp with rfl|hp
  case inr=>exact ih p hp
  unfold entry at h;by_cases h1:w=lq∨w=jk∨w=sO
  ·rw[ω h1]at h
   refine⟨by(show w.headD 0≠64);rcases h1 with rfl|rfl|rfl<;>decide,fun x hx=>?_⟩
   split at h
   ·next q hq=>
    obtain⟨a,b⟩:=NG hq
    have hc:=aaB (l:=l) (x:=x) fun y hy=>by
     have:=(ih q a).2 y (by rw[hy];exact Ro h hx);rw[b]at this;exact this
    rcases h1 with rfl|rfl|rfl
    ·exact hc.1
    ·exact hc.2.1
    ·exact hc.2.2
   ·cases h
  rw[χ h1]at h;by_cases h2:w=yT
  ·rw[ω h2]at h
   refine⟨by(show w.headD 0≠64);rw[h2];decide,fun x hx=>?_⟩
   split at h
   ·next q hq=>
    obtain⟨a,b⟩:=NG hq;rw[aaS]at h;obtain⟨ha,h⟩:=h
    split at h
    ·next r hr=>
     obtain⟨c,d⟩:=NG hr;have e1:=(ih q a).2 (fresh x) (Ro ha hx);have e2:=(ih r c).2 (fresh x) (Ro h hx);rw[b]at e1;rw[d]at e2;show dl l (.call w x)=_;rw[h2,vR,fM];show(dl l (.call vL (fresh x))).bind _=_;rw[e1];show(dl l (.call yU (fresh x))).bind _=_;rw[e2];exact AL x
    ·cases h
   ·cases h
  rw[χ h2,aaS,Θ]at h
  have hw:w.headD 0≠64:=by
   have:=h.1;unfold sP at this;simp only[aaS,acm]at this;exact this.1.2
  refine⟨hw,fun x hx=>?_⟩;have hk:=h.2 _ (acD.2 (jP (l:=l) x.env x.af));show dl l (.call w x)=_;have hx:aJ s (kd l x.env x.af)=false:=hx;rw[hx,afu]at hk
  refine aaA h.1 x fun y hy=>?_
  by_cases h3:w=AB
  ·rw[ω h3,Θ]at hk
   subst h3;have hy:y=[.bV [[.nm Br]], .dO [[.tx [40], .nm Cu, .nm AB, .tx [41]]], .bV [[.nm qJ]], .nm Hw]:=Φ.1 hy;subst hy
   have d:∀y∈Rn,gT l [y] {af:=x.af,env:=x.env,ty:=x.ty}=some []:=fun y hy=>rG fun z hz=>by
    rw[Φ.1 hz];exact dN ih 8 _ y _ _ (hk y hy) rfl
   rw[bH (xU (d _ (by simp[Rn])) _),bH (vO (d _ (by simp[Rn])) _),bH (xU (d _ (by simp[Rn])) _)];refine il ((iW ζ _ _).trans ?_);show some (if x.af<x.af then _ else[])=_;rw[χ (agn _)]
  ·rw[χ h3,Θ]at hk
   exact dN ih 8 _ y _ _ (hk y hy) rfl
end
def uX:Tb:=[(Ej,[2,3,4,5,6,11,12,15,16,17,23,24,25,31,34,37,43,45,49,60,64,66,71,72,73,74,75,76,77,78,114]),
 (mY,[2,3,4,5,6,11,12,15,16,17,23,24,25,31,34,37,43,45,49,60,64,66,71,72,73,74,75,76,77,78,114]),
 (Ya,[64]),
 (KF,[64]),
 (Ra,[1,5,10,13,14,18,20,21,22,26,27,28,29,30,32,33,35,36,38,39,40,41,42,44,46,47,48,50,51,52,116]),
 (AA,[1,5,10,13,14,18,20,21,22,26,27,28,29,30,32,33,35,36,38,39,40,41,42,44,46,47,48,50,51,52,116]),
 (tH,[1,2,4,5,60,74,112,113,114,115]),
 (zW,[1,5,13,14,18,20,22,27,28,30,32,33,36,39,40,41,42,46,47,48,51,116]),
 (KG,[1,2,4,5,60,68,74,112,113,114,115]),
 (X9,[51]),
 (Rc,[1,5,13,14,16,18,20,22,27,28,30,32,33,36,39,40,41,42,46,47,48,116]),
 (Bp,[1,2,4,5]),
 (Re,[2,3,4,6,34,45,49,60,62,64,69,71,72,73,74,75,76,77,78,114]),
 (NB,[62,69]),
 (Cr,[2,3,4,6,34,45,49,60,64,71,72,73,74,75,76,77,78,114]),
 (AB,[60,62,74,112,113,114,115]),
 (Ef,[1,2,4,5,60,74,112]),
 (sO,[2,3,4,6,34,45,49,60,71,72,73,74,75,76,77,78,114]),
 (jk,[2,3,4,6,34,45,49,60,71,72,73,74,75,76,77,78,114]),
 (lq,[2,3,4,6,34,45,49,60,71,72,73,74,75,76,77,78,114]),
 (nU,[2,3,4,6,34,45,49,60,71,72,73,74,75,76,77,78,114]),
 (ry,[2,3,4,6,34,45,49,60,71,72,73,74,75,76,77,78,114]),
 (yT,[2,3,4,6,49,60,114]),
 (vL,[2,3,4,6,49,60]),
 (AB,[60,62,74,112,113,114,115]),
 (Cs,[1,2,4,5,60,74,112,113,114,115]),
 (Ef,[1,2,4,5,60,74,112]),
 (qJ,[62,113,114,115]),
 (sO,[2,3,4,6,34,45,49,60,71,72,73,74,75,76,77,78,112,113,114,115]),
 (jk,[2,3,4,6,34,45,49,60,71,72,73,74,75,76,77,78,112,113,114,115]),
 (lq,[2,3,4,6,34,45,49,60,71,72,73,74,75,76,77,78,112,113,114,115]),
 (nU,[2,3,4,6,34,45,49,60,71,72,73,74,75,76,77,78,112,113,114,115]),
 (ry,[2,3,4,6,34,45,49,60,71,72,73,74,75,76,77,78,112,113,114,115]),
 (yT,[2,3,4,6,49,60,113,114,115]),
 (vL,[2,3,4,6,49,60,113,114,115]),
 (yU,[114]),
 (FT,[1,5,10,13,14,18,20,21,22,26,27,28,29,30,32,33,35,36,38,39,40,41,42,44,46,47,48,50,52,116]),
 (qF,[1,5,13,14,18,20,22,27,28,30,32,33,36,39,40,41,42,46,47,48,116]),
 (zX,[64]),
 (Br,[74,112]),
 (kL,[14,30,42,46]),
 (FP,[116]),
 (FU,[44]),
 (rF,[20]),
 (FQ,[36,39]),
 (ND,[36,39])]
theorem aiX:chk uX=true:=by decide+kernel
theorem snd{l:List Ct}:Yf l uX:=afr uX aiX
mutual
def post:Tr→List Nd
 | .mk k lo hi ks _=>fG ks++[⟨k,lo,hi,(fG ks).length+1⟩]
def fG:List Tr→List Nd
 |[]=>[]
 |t::r=>post t++fG r
end
theorem nV:∀(a b:List Tr),fG (a++b)=fG a++fG b
 |[],b=>rfl
 |t::r,b=>by rw[List.cons_append,fG,fG,nV r b,Ψ]
theorem nW(t:Tr):fG [t]=post t:=by rw[fG,fG,List.append_nil]
def DC(B:List Sd):List Nat→List Sd→List (List Sd)
 |[],ch=>[B++ch]
 |b::r,ch=>DC B r (ch.take b)++[ch.drop b]
def Rp:List Nat→Nat→Prop
 |[],_=>True
 |b::r,n=>b≤n∧Rp r b
structure Rl (l:List Ct) (B:List Sd) (D:List Nd) (s:Ps) (x:Sx):Prop where
 af:x.af=s.af
 le:x.af≤l.length
 env:x.env=DC B s.nm.bl.reverse s.nm.ch
 dn:s.done=D++fG x.ah
 bk:Rp s.nm.bl.reverse s.nm.ch.length
theorem O1:∀(N:Nat) (xs:List Nat),xs.Nodup→(∀x∈xs,x<N)→xs.length≤N
 |0,xs,_,h=>by
  cases xs with
  |nil=>exact υ 0
  |cons a r=>exact absurd (h a (ab6 ..)) (Nat.not_lt_zero a)
 |N+1,xs,hn,h=>by
  have h1:=O1 N (xs.erase N) (hn.erase N) fun x hx=>by
   have:=(hn.mem_erase_iff).1 hx;have:=h x this.2;omega
  have h2:xs.length≤(xs.erase N).length+1:=by rw[List.length_erase];split<;>omega
  omega
structure eP (l:List Ct) (p:Nat) (xs:List Sx):Prop where
 nd:(xs.map (·.af)).Nodup
 lo:∀x∈xs,p≤x.af
 hi:∀x∈xs,x.af≤l.length
def Al(l:List Ct)(p:Nat)(C:List Nat)(xs:List Sx):Prop:=eP l p xs∧∀x∈xs,aJ C (kc l x.af)=true
def Fr(l:List Ct)(p:Nat)(C:List Nat)(xs:List Sx)(r:Sx):Prop:=eP l p xs∧∃A Z,xs=A++r::Z∧∀x∈A++Z,aJ C (kc l x.af)=true∧x.af<r.af
def Sm{α:Type}(l:List Ct)(p:Nat)(C:List Nat)(B:List Sd)(D:List Nd)(V:α→Ps→Sx→Prop)(o:Option (List Sx)):Rs α→Prop
 | .ok a s=>∃xs r,o=some xs∧Fr l p C xs r∧Rl l B D s r∧V a s r
 | .no=>∃xs,o=some xs∧Al l p C xs
 | .out=>True
def wr(g:Sx→Sx)(o:Option (List Sx)):Option (List Sx):=(o.bind aG).bind fun zs=>some (zs.map g)
def Kp(g:Sx→Sx):Prop:=∀z,(g z).af=z.af
def dd(c:Nat)(y:Sy):Bool:=(Bu c).all fun k=>jb uX 8 k [y]
def ps(c:Nat):Sy→Bool
 | .dO a=>(Bu c).all fun k=>a.all fun y=>jb uX 8 k y
 | .bV a=>(Bu c).all fun k=>a.all fun y=>jb uX 8 k y
 | .nm w=>w.headD 0==64
 |_=>false
def lv(C:List Nat)(y:Sy):List Nat:=C.filter fun c=>!dd c y
def zH(C:List Nat)(y:Sy):Bool:=C.all fun c=>dd c y||ps c y
def qm(C2:List Nat):List Nat→List Sy→Bool
 |C,[]=>C.all (aJ C2)
 |C,y::r=>zH C y&&qm C2 (lv C y) r
section
variable {l:List Ct} {B:List Sd} {D D2:List Nd}
variable {xs : List Sx}{p : Nat}
theorem eP.uj {q : Nat}(hq:q≤p)(h:eP l p xs):eP l q xs:=⟨h.nd,fun x hx=>aaT hq (h.lo x hx),h.hi⟩
theorem eP.nil:eP l p []:=⟨.nil,(fun x hx=>(by cases hx)),fun x hx=>(by cases hx)⟩
theorem eP.ay{p:Nat}{x:Sx}(h:p≤x.af)(h2:x.af≤l.length):eP l p [x]:=⟨by simp,fun y hy=>by rw[Φ.1 hy];exact h,fun y hy=>by rw[Φ.1 hy];exact h2⟩
theorem eP.map{p:Nat}{xs:List Sx}{g:Sx→Sx}(hg:Kp g)(h:eP l p xs):eP l p (xs.map g):=by
 have e:(xs.map g).map (·.af)=xs.map (·.af):=by rw[agx];exact List.map_congr_left fun x _=>hg x
 refine⟨e▸h.nd,fun y hy=>?_,fun y hy=>?_⟩<;>obtain⟨x,hx,rfl⟩:=abt.1 hy<;>rw[hg]
 ·exact h.lo x hx
 ·exact h.hi x hx
theorem eP.len (h:eP l p xs):xs.length≤l.length+1:=by
 have:=O1 (l.length+1) (xs.map (·.af)) h.nd fun y hy=>by
  obtain⟨x,hx,rfl⟩:=abt.1 hy;exact Nat.lt_succ_of_le (h.hi x hx)
 rwa[abz]at this
theorem eP.aG{p:Nat}{xs:List Sx}(hL:l.length≤90)(h:eP l p xs):aG xs=some xs:=by unfold Dr.aG;rw[ω (by have:=h.len;omega)]
variable {ys : List Sx}
theorem eP.fK {q : Nat}(hx:eP l p xs)(hy:eP l q ys)(hp:p≤q)(h:∀x∈xs,x.af<q):eP l p (xs++ys):=by
 refine⟨?_,fun z hz=>(abr.1 hz).elim (hx.lo z) fun h=>aaT hp (hy.lo z h),fun z hz=>(abr.1 hz).elim (hx.hi z) (hy.hi z)⟩
 rw[acb,List.nodup_append]
 refine⟨hx.nd,hy.nd,fun a ha b hb=>?_⟩
 obtain⟨x,hx',rfl⟩:=abt.1 ha
 obtain⟨y,hy',rfl⟩:=abt.1 hb
 have:=h x hx'
 have:=hy.lo y hy'
 omega
theorem eP.sub {u : List Sx}(h:eP l p xs)(hs:(u.map (·.af)).Sublist (xs.map (·.af))):eP l p u:=by
 have hm:∀x∈u,∃y∈xs,y.af=x.af:=fun x hx=>abt.1 (hs.subset (abt.2 ⟨x,hx,rfl⟩))
 exact⟨h.nd.sublist hs,fun x hx=>by obtain⟨y,h1,h2⟩:=hm x hx;rw[←h2];exact h.lo y h1,fun x hx=>by obtain⟨y,h1,h2⟩:=hm x hx;rw[←h2];exact h.hi y h1⟩
theorem eP.Rx (hp:ys.Perm xs)(h:eP l p xs):eP l p ys:=⟨(hp.map _).nodup_iff.2 h.nd,fun y hy=>h.lo y (hp.mem_iff.1 hy),fun y hy=>h.hi y (hp.mem_iff.1 hy)⟩
theorem lU{C E:List Nat}(hE:C.all (aJ E)=true){k:Nat}(h:aJ C k=true):aJ E k=true:=(Θ.1 hE) k (aU.1 h)
theorem Al.le{p q:Nat}{C E:List Nat}{xs:List Sx}(hq:q≤p)(hE:C.all (aJ E)=true)(h:Al l p C xs):Al l q E xs:=⟨h.1.uj hq,fun x hx=>lU hE (h.2 x hx)⟩
theorem Fr.le{p q:Nat}{C E:List Nat}{xs:List Sx}{r:Sx}(hq:q≤p)(hE:C.all (aJ E)=true)(h:Fr l p C xs r):Fr l q E xs r:=by
 obtain⟨h1,A,Z,rfl,h2⟩:=h
 exact⟨h1.uj hq,A,Z,rfl,fun x hx=>⟨lU hE (h2 x hx).1,(h2 x hx).2⟩⟩
variable {C : List Nat}
theorem Fr.lo {r:Sx}(h:Fr l p C xs r):p≤r.af∧r.af≤l.length:=by
 obtain⟨h1,A,Z,rfl, -⟩:=h
 exact⟨h1.lo r ν,h1.hi r ν⟩
theorem Fr.ay{p:Nat}{C:List Nat}{r:Sx}(h:p≤r.af)(h2:r.af≤l.length):Fr l p C [r] r:=⟨.ay h h2,[],[],rfl,fun x hx=>(by cases hx)⟩
theorem Fr.map{p:Nat}{C:List Nat}{xs:List Sx}{r:Sx}{g:Sx→Sx}(hg:Kp g)(h:Fr l p C xs r):Fr l p C (xs.map g) (g r):=by
 obtain⟨h1,A,Z,rfl,h2⟩:=h
 refine⟨h1.map hg,A.map g,Z.map g,by simp,fun x hx=>?_⟩
 rw[←acb]at hx
 obtain⟨y,hy,rfl⟩:=abt.1 hx
 rw[hg,hg];exact h2 y hy
theorem Al.map{p:Nat}{C:List Nat}{xs:List Sx}{g:Sx→Sx}(hg:Kp g)(h:Al l p C xs):Al l p C (xs.map g):=⟨h.1.map hg,fun x hx=>by
 obtain⟨y,hy,rfl⟩:=abt.1 hx
 rw[hg];exact h.2 y hy⟩
theorem Sm.mono{α:Type}{p q:Nat}{C E:List Nat}{V V2:α→Ps→Sx→Prop}{o:Option (List Sx)}{R:Rs α}(h:Sm l p C B D V o R)(hq:q≤p)(hE:C.all (aJ E)=true)(hv:∀a s r,p≤r.af→Rl l B D s r→V a s r→V2 a s r):Sm l q E B D V2 o R:=by
 cases R with
 |out=>trivial
 |no=>obtain⟨xs,h1,h2⟩:=h;exact⟨xs,h1,h2.le hq hE⟩
 |ok a s=>
  obtain⟨xs,r,h1,h2,h4,h5⟩:=h;exact⟨_,r,h1,h2.le hq hE,h4,hv a s r h2.lo.1 h4 h5⟩
theorem Sm.le{α:Type}{p q:Nat}{C E:List Nat}{V:α→Ps→Sx→Prop}{o:Option (List Sx)}{R:Rs α}(h:Sm l p C B D V o R)(hq:q≤p)(hE:C.all (aJ E)=true):Sm l q E B D V o R:=h.mono hq hE fun _ _ _ _ _ h=>h
variable {α : Type}
theorem Sm.nil {V:α→Ps→Sx→Prop}{o:Option (List Sx)}(h:o=some []):Sm l p C B D V o .no:=⟨[],h, .nil,fun x hx=>(by cases hx)⟩
theorem Sm.ay{α:Type}{p:Nat}{C:List Nat}{V:α→Ps→Sx→Prop}{o:Option (List Sx)}{a:α}{s:Ps}{r:Sx}(h:o=some [r])(hp:p≤r.af)(hl:Rl l B D s r)(hv:V a s r):Sm l p C B D V o (.ok a s):=
 ⟨[r],r,h, .ay hp hl.le,hl,hv⟩
theorem Sm.aG{α:Type}{p:Nat}{C:List Nat}{V:α→Ps→Sx→Prop}{o:Option (List Sx)}{R:Rs α}(hL:l.length≤90)(h:Sm l p C B D V o R):Sm l p C B D V (o.bind Dr.aG) R:=by
 cases R with
 |out=>trivial
 |no=>obtain⟨xs,h1,h2⟩:=h;exact⟨xs,by rw[h1];exact h2.1.aG hL,h2⟩
 |ok a s=>obtain⟨xs,r,h1,h2,h4⟩:=h;exact⟨xs,r,by rw[h1];exact h2.1.aG hL,h2,h4⟩
theorem wQ{c:Nat}{y:Sy}(h:dd c y=true){x:Sx}(hx:kc l x.af=c)(f:Nat):dl l (.ay y x f)=some []:=by
 unfold dd at h
 rw[Θ]at h
 have h1:=yV (l:=l) x.env x.af
 rw[hx]at h1
 have h2:=dN snd 8 _ [y] f x (h _ h1) rfl
 rw[bJ,bX]at h2
 cases e:dl l (.ay y x f)with
 |none=>rw[e]at h2;cases h2
 |some xs=>
  rw[e,Ξ]at h2;unfold Dr.aG at h2;by_cases c:xs.length≤1000
  ·rw[ω c,Ξ,dH]at h2
   rw[aau h2]
  ·rw[χ c]at h2;cases h2
def KI(x:Sx)(o:List Sx):Prop:=o=[]∨∃z,o=[z]∧z.af=x.af
theorem KI.ite{x:Sx}{c:Prop}[Decidable c]{a b:List Sx}(ha:KI x a)(hb:KI x b):KI x (if c then a else b):=by split<;>assumption
theorem KI.ay{x z:Sx}(h:z.af=x.af):KI x [z]:= .inr ⟨z,rfl,h⟩
theorem aiY(w:Bs)(x:Sx)(f:Nat):KI x (j3 l w x f):=by
 unfold j3
 refine .ite (.ay rfl) (.ite (.ay rfl) (.ite (.ay rfl) (.ite (.ay rfl) (.ite (.ay rfl) (.ite ?_ (.ite (.ite (.ay rfl) (.inl rfl)) (.ite (.ite (.ay rfl) (.inl rfl)) (.ite (.ite (.ay rfl) (.inl rfl)) (.ite (.ite (.ay rfl) (.inl rfl)) (.ay rfl))))))))))
 split
 ·exact .ite (.ay rfl) (.inl rfl)
 ·exact .inl rfl
theorem an5{c:Nat}{y:Sy}(h:ps c y=true){x:Sx}(hx:kc l x.af=c)(f:Nat):dl l (.ay y x f)=some []∨∃z,dl l (.ay y x f)=some [z]∧z.af=x.af:=by
 have h1:=yV (l:=l) x.env x.af
 rw[hx]at h1
 cases y with
 |tx t=>cases h
 |jy a=>cases h
 |nm w=>
  have hw:w.headD 0=64:=by simpa[ps]using h
  rw[iW hw]
  rcases aiY (l:=l) w x f with e|⟨z,e,ez⟩
  ·rw[e];exact .inl rfl
  ·rw[e];exact .inr ⟨z,rfl,ez⟩
 |dO a=>
  unfold ps at h;rw[Θ]at h;have h2:=Θ.1 (h _ h1);exact .inr ⟨x,vO (rG fun y hy=>dN snd 8 _ y _ x (h2 y hy) rfl) f,rfl⟩
 |bV a=>
  unfold ps at h;rw[Θ]at h;have h2:=Θ.1 (h _ h1);exact .inr ⟨x,xU (rG fun y hy=>dN snd 8 _ y _ x (h2 y hy) rfl) f,rfl⟩
theorem yZ{C:List Nat}{y:Sy}(h:zH C y=true)(f:Nat):∀{xs:List Sx},(∀x∈xs,aJ C (kc l x.af)=true)→∃u,bu (fun s=>dl l (.ay y s f)) xs=some u∧(u.map (·.af)).Sublist (xs.map (·.af))∧∀x∈u,aJ (lv C y) (kc l x.af)=true
 |[],_=>⟨[],rfl, .slnil,fun y hy=>(by cases hy)⟩
 |a::r,hx=>by
  obtain⟨u,h1,h2,h3⟩:=yZ h f fun x hx'=>hx x (abM _ hx')
  have ha:=aU.1 (hx a (ab6 ..))
  cases hd:dd (kc l a.af) y with
  |true=>exact⟨u,by rw[di,wQ hd rfl,h1];rfl,h2.cons _,h3⟩
  |false=>
   have hp:ps (kc l a.af) y=true:=by
    have:=(Θ.1 h) _ ha;rw[hd]at this;exact this
   rcases an5 (l:=l) hp (x:=a) rfl f with e|⟨z,e,ez⟩
   ·exact⟨u,by rw[di,e,h1];rfl,h2.cons _,h3⟩
   ·refine⟨z::u,by rw[di,e,h1];rfl,?_,fun x hx=>?_⟩
    ·rw[acj,acj,ez];exact h2.cons_cons _
    ·rcases abf.1 hx with rfl|hx
     ·rw[ez];exact aU.2 (afx.2 ⟨ha,by rw[hd];rfl⟩)
     ·exact h3 x hx
theorem zY(hL:l.length≤90){C2:List Nat}(f:Nat):∀{ys:List Sy} {C:List Nat} {p:Nat} {xs:List Sx},qm C2 C ys=true→Al l p C xs→∃u,dl l (.seq ys f xs)=some u∧Al l p C2 u
 |[],C,p,xs,h,ha=>⟨xs,dH f xs,ha.le (υ _) h⟩
 |y::r,C,p,xs,h,ha=>by
  unfold qm at h;rw[aaS]at h;obtain⟨u,h1,h2,h3⟩:=yZ h.1 f ha.2;have hd:=ha.1.sub h2;obtain⟨v,h4,h5⟩:=zY hL f h.2 ⟨hd,h3⟩;exact⟨v,by rw[bJ,h1,Ξ,hd.aG hL];exact h4,h5⟩
variable {v z : List α}{x : α}
theorem Jv {u : List α}(h:x∈u++(z++v)):x∈z∨x∈u++v:=by
 simp only[abr]at h⊢
 rcases h with h|h|h
 ·exact .inr (.inl h)
 ·exact .inl h
 ·exact .inr (.inr h)
variable {a : List α}
theorem adi {u : List α}(h:x∈u++a++(z++v)):x∈a++z∨x∈u++v:=by
 simp only[abr]at h⊢
 rcases h with(h|h)|h|h
 ·exact .inr (.inl h)
 ·exact .inl (.inl h)
 ·exact .inl (.inr h)
 ·exact .inr (.inr h)
theorem NH{α β:Type}{p q p' P:Nat}{C C1 C2:List Nat}{D1:List Nd}{V:α→Ps→Sx→Prop}{V2:β→Ps→Sx→Prop}{xs:List Sx}{r:Sx}{y:Sy}{ys:List Sy}{f:Nat}{m:Pm α}{k:α→Pm β}{s:Ps}{g:Sx→Sx}
  (hL:l.length≤90) (hF:Fr l p C xs r) (hi:Sm l q C1 B D1 V (dl l (.ay y r f)) (m s)) (hq:r.af≤q) (hg:Kp g) (hpq:p'≤q) (y7:lv C y=[]∨p'≤p) (hs:zH C y=true) (hno:∀zs,Al l p' (lv C y++C1) zs→∃t,dl l (.seq ys f zs)=some t∧Al l P C2 t)
  (hk:∀v s1 r1 gB,m s= .ok v s1→Fr l p' (lv C y++C1) gB r1→q≤r1.af→Rl l B D1 s1 r1→V v s1 r1→Sm l P C2 B D2 V2 (wr g (dl l (.seq ys f gB))) (k v s1)):Sm l P C2 B D2 V2 (wr g (dl l (.seq (y::ys) f xs))) ((m>>=k) s):=by
 obtain⟨hd,A,Z,rfl,jK⟩:=hF
 obtain⟨u,a1,a2,a3⟩:=yZ hs f fun x hx=>(jK x (aby Z hx)).1
 obtain⟨v,b1,b2,b3⟩:=yZ hs f fun x hx=>(jK x (abD A hx)).1
 have huv:((u++v).map (·.af)).Sublist ((A++r::Z).map (·.af)):=by
  rw[acb,acb,acj];exact a2.append (b2.cons _)
 have hm:∀x∈u++v,aJ (lv C y) (kc l x.af)=true∧x.af<r.af:=fun x hx=>by
  rcases abr.1 hx with hx|hx
  ·refine⟨a3 x hx,?_⟩
   obtain⟨w,h1,h3⟩:=abt.1 (a2.subset (abt.2 ⟨x,hx,rfl⟩));rw[←h3];exact(jK w (aby _ h1)).2
  ·refine⟨b3 x hx,?_⟩
   obtain⟨w,h1,h3⟩:=abt.1 (b2.subset (abt.2 ⟨x,hx,rfl⟩));rw[←h3];exact(jK w (abD _ h1)).2
 have arH:eP l p' (u++v):=by
  rcases y7 with e|e
  ·have:u++v=[]:=acs.2 fun x hx=>by
    have:=(hm x hx).1;rw[e]at this;cases this
   rw[this];exact .nil
  ·exact(hd.sub huv).uj e
 have H8:∀z,eP l q z→eP l p' (u++(z++v)):=fun z hz=>by
  refine eP.Rx ?_ (arH.fK hz hpq fun x hx=>abB (hm x hx).2 hq);rw[Ψ];exact agy.append_left u
 have hone:∀z,dl l (.ay y r f)=some z→eP l q z→dl l (.seq (y::ys) f (A++r::Z))=dl l (.seq ys f (u++(z++v))):=fun z hz hdz=>by
  rw[bJ,mi,di,a1,b1,hz];show(Dr.aG (u++(z++v))).bind _=_;rw[(H8 z hdz).aG hL];rfl
 show Sm l P C2 B D2 V2 _ (Pm.bind m k s)
 unfold Pm.bind
 cases e:m s with
 |out=>trivial
 |no=>
  rw[e]at hi;obtain⟨z,hz,hz2⟩:=hi
  have hal:Al l p' (lv C y++C1) (u++(z++v)):=⟨H8 z hz2.1,fun x hx=>by
   have:x∈z∨x∈u++v:=Jv hx
   rcases this with hx|hx
   ·exact aU.2 (abD _ (aU.1 (hz2.2 x hx)))
   ·exact aU.2 (aby _ (aU.1 (hm x hx).1))⟩
  obtain⟨t,h1,h2⟩:=hno _ hal;refine⟨t.map g,?_,h2.map hg⟩;unfold wr;rw[hone z hz hz2.1,h1];show(Dr.aG t).bind _=_;rw[h2.1.aG hL];rfl
 |ok a s1=>
  rw[e]at hi;obtain⟨z,r1,hz,⟨hdz,A1,Z1,rfl,h5⟩,hl1,hv1⟩:=hi;show Sm l P C2 B D2 V2 _ (k a s1);rw[hone _ hz hdz];refine hk a s1 r1 _ e ⟨H8 _ hdz,u++A1,Z1++v,by simp,fun x hx=>?_⟩ (hdz.lo r1 ν) hl1 hv1;have hr1:q≤r1.af:=hdz.lo r1 ν;have:x∈A1++Z1∨x∈u++v:=adi hx
  rcases this with hx|hx
  ·exact⟨aU.2 (abD _ (aU.1 (h5 x hx).1)),(h5 x hx).2⟩
  ·exact⟨aU.2 (aby _ (aU.1 (hm x hx).1)),by have:=(hm x hx).2;omega⟩
variable {C2 : List Nat}{P f p' : Nat}
theorem ahh {ys:List Sy}(hL:l.length≤90)(hP:P≤p'∨qm [] C ys=true)(ht:qm C2 C ys=true):∀zs,Al l p' C zs→∃t,dl l (.seq ys f zs)=some t∧Al l P C2 t:=fun zs hal=>by
 rcases hP with hP|hP
 ·obtain⟨t,h1,h2⟩:=zY hL f ht hal
  exact⟨t,h1,h2.1.uj hP,h2.2⟩
 ·obtain⟨t,h1,h2⟩:=zY hL f hP hal
  have:t=[]:=acs.2 fun x hx=>by have:=h2.2 x hx;cases this
  exact⟨[],by rw[h1,this], .nil,fun x hx=>(by cases hx)⟩
theorem kU{α β:Type}{p q p' P:Nat}{C C1 C2:List Nat}{D1:List Nd}{V:α→Ps→Sx→Prop}{V2:β→Ps→Sx→Prop}{xs:List Sx}{r:Sx}{y:Sy}{ys:List Sy}{f:Nat}{m:Pm α}{k:α→Pm β}{s:Ps}{g:Sx→Sx}
  (hL:l.length≤90) (hF:Fr l p C xs r) (hi:Sm l q C1 B D1 V (dl l (.ay y r f)) (m s)) (hq:r.af≤q) (hg:Kp g) (hpq:p'≤q) (y7:lv C y=[]∨p'≤p) (hP:P≤p'∨qm [] (lv C y++C1) ys=true) (hs:zH C y=true) (ht:qm C2 (lv C y++C1) ys=true)
  (hk:∀v s1 r1 gB,m s= .ok v s1→Fr l p' (lv C y++C1) gB r1→q≤r1.af→Rl l B D1 s1 r1→V v s1 r1→Sm l P C2 B D2 V2 (wr g (dl l (.seq ys f gB))) (k v s1)):Sm l P C2 B D2 V2 (wr g (dl l (.seq (y::ys) f xs))) ((m>>=k) s):=
 NH hL hF hi hq hg hpq y7 hs (ahh hL hP ht) hk
end
def lQ(w:Bs):List (List Sy×Nat):=(dU.filter fun r=>decide (r.name=w)).flatMap fun R=>R.mh.zip R.iL
def yX:List (List Sy×Nat)→Nat→Nat→Bool
 |[],_,_=>true
 |q::r,0,k=>r.all fun q=>jb uX 8 k q.1
 |q::r,i+1,k=>jb uX 8 k q.1&&yX r i k
def Ia:List (List Sy×Nat)→Nat→List (List Sy×Nat)
 |[],_=>[]
 |q::r,0=>r
 |q::r,i+1=>q::Ia r i
theorem Jw{k:Nat}:∀{a:List (List Sy×Nat)} {i:Nat},yX a i k=true→∀q∈Ia a i,jb uX 8 k q.1=true
 |[],_,_,q,hq=>(by cases hq)
 |b::r,0,h,q,hq=>(Θ.1 h) q hq
 |b::r,i+1,h,q,hq=>by
  have h:(jb uX 8 k b.1&&yX r i k)=true:=h;rw[aaS]at h
  rcases abf.1 hq with rfl|hq
  ·exact h.1
  ·exact Jw h.2 q hq
theorem EK{β:Type}{f:List Sy×Nat→Option (List β)}:∀(a:List (List Sy×Nat)) (i:Nat) (q:List Sy×Nat),a[i]? =some q→(∀b∈Ia a i,f b=some [])→bu f a=f q
 |[],i,q,hi,h=>by simp at hi
 |b::r,0,q,hi,h=>by
  have e:b=q:=by simpa using hi
  rw[di,ja (xs:=r) h,e]
  cases f q<;>simp
 |b::r,i+1,q,hi,h=>by
  rw[di,h b (ab6 ..),EK r i q (by simpa using hi) fun c hc=>h c (abM _ hc)]
  cases f q<;>simp
def aiZ(a:List (List Sy))(i k:Nat):Bool:=yX (a.map fun y=>(y,0)) i k
def arI(a:List (List Sy×Nat))(k:Nat):Bool:=a.all fun q=>jb uX 8 k q.1
def FZ(a:List (List Sy))(k:Nat):Bool:=a.all fun q=>jb uX 8 k q
def tb(c d:Nat→Bool):Bool:=(List.range KN).all fun k=>!c k||d k
theorem mP{c d:Nat→Bool}(h:tb c d=true){k:Nat}(hk:k<KN)(hc:c k=true):d k=true:=by
 have:=(Θ.1 h) k (acD.2 hk)
 rw[hc]at this;exact this
section
variable {l:List Ct} {base:Bs→Bool} {B:List Sd} {D D2:List Nd}
variable {α β γ : Type}
theorem bG (x:Pm α)(f:α→Pm β)(g:β→Pm γ):(x>>=f)>>=g=x>>=fun a=>f a>>=g:=by
 funext s
 show Pm.bind (Pm.bind x f) g s=Pm.bind x (fun a=>Pm.bind (f a) g) s
 unfold Pm.bind
 cases x s<;>rfl
theorem wR (x:Pm α):(x>>=fun a=>pure a)=x:=by
 funext s
 show Pm.bind x _ s=_
 unfold Pm.bind
 cases x s<;>rfl
variable {s s1 : Ps}
theorem jo {x:Pm α}{k:α→Pm β}{a:α}(h:x s= .ok a s1):(x>>=k) s=k a s1:=by
 show Pm.bind x k s=_;unfold Pm.bind;rw[h]
theorem Wn {x:Pm α}{k:α→Pm β}(h:x s= .no):(x>>=k) s= .no:=by
 show Pm.bind x k s=_;unfold Pm.bind;rw[h]
theorem fD (k:Nat×Nat→Pm β)(s:Ps):(fH>>=k) s=k (s.af,s.done.length) s:=rfl
theorem F3 (k:Ps→Pm β)(s:Ps):(sj>>=k) s=k s s:=rfl
theorem y8 (i:Nat)(k:Ct→Pm β)(s:Ps):(rD l i>>=k) s=k (az l s i) s:=rfl
theorem jL (i:Nat)(t:Bs)(k:Bool→Pm β)(s:Ps):(eu l i t>>=k) s=k (aX l s i t) s:=rfl
theorem LJ (t:Bs)(k:Bool→Pm β)(s:Ps):(o6 l t>>=k) s=k (iX l s t) s:=rfl
variable {t : Bs}
theorem dM {b:Bool}(h:aX l s 0 t=b)(k:Bool→Pm β):(fU l t>>=k) s=k b {s with af:=s.af+_root_.cond b 1 0}:=by
 show Pm.bind (fU l t) k s=_
 unfold Pm.bind fU
 rw[h];cases b<;>rfl
theorem lH {b:Bool}(h:iX l s t=b)(k:Bool→Pm β):(fC l t>>=k) s=k b {s with af:=s.af+_root_.cond b 1 0}:=by
 show Pm.bind (fC l t) k s=_
 unfold Pm.bind fC
 rw[h];cases b<;>rfl
theorem sQ (h:aX l s 0 t=true)(k:Unit→Pm β):(bY l t>>=k) s=k () {s with af:=s.af+1}:=jo (by unfold bY;rw[h];rfl)
theorem zZ (h:aX l s 0 t=false)(k:Unit→Pm β):(bY l t>>=k) s= .no:=Wn (by unfold bY;rw[h];rfl)
variable {i : Nat}
theorem vT (h:s.af+i≤l.length)(k:Unit→Pm β):(step l i>>=k) s=k () {s with af:=s.af+i}:=jo (by unfold step;rw[ω h])
def fr(x:Sx):Sx:={af:=x.af,env:=x.env,ty:=x.ty}
def up(x:Sx):Sx:={x with af:=x.af+1}
def bU(s:Ps):Ps:={s with af:=s.af+1}
variable {p : Nat}
theorem afs (h:k0 l p≠0):p<l.length:=by
 unfold k0 bz at h
 split at h
 ·assumption
 ·exact absurd rfl h
theorem LK {env:List (List Sd)}(h:un (kd l env p)≠0):p<l.length:=by
 rw[eY]at h
 unfold k1 at h
 split at h
 ·next c=>exact afs (by rw[c.1];decide)
 ·exact afs h
theorem Rl.up{s:Ps}{x:Sx}(h:Rl l B D s x)(hk:un (kd l x.env x.af)≠0):Rl l B D (bU s) (up x):=⟨by show x.af+1=s.af+1;rw[h.af],LK hk,h.env,h.dn,h.bk⟩
theorem KJ (ho:rP t=true)(s:Ps)(i:Nat):aX l s i t=dJ l (s.af+i) t:=by
 unfold dJ aX az rP at*
 rw[af9]at ho
 rw[ho]
 by_cases h:s.af+i<l.length
 ·simp[h]
 ·rw[abN,acO η]
  simp[h]
theorem adj (ho:rP t=false)(s:Ps):iX l s t=dJ l s.af t:=by
 unfold dJ iX az rP at*
 have ho:(t.headD 0==95||(97≤t.headD 0&&t.headD 0≤122))=true:=by
  rw[←Bool.not_eq_false',ho]
 rw[ho]
 by_cases h:s.af+0<l.length
 ·have h':s.af<l.length:=h
  simp[h']
 ·rw[abN,acO η]
  have h':¬s.af<l.length:=h;simp[h']
theorem iQ{s:Ps}{x:Sx}(h:Rl l B D s x){t:Bs}(ho:rP t=true)(hc:bg t≠0)(h1:bg t≠1:=by decide)(h2:bg t≠2:=by decide):aX l s 0 t=aO (kd l x.env x.af) t:=by
 rw[KJ ho,Nat.add_zero,←h.af];exact iZ _ _ hc h1 h2
variable {x : Sx}
theorem arK (h:Rl l B D s x)(ho:rP t=true)(hc:bg t≠0)(h1:bg t≠1:=by decide)(h2:bg t≠2:=by decide):aX l s 1 t=aO (kd l x.env (x.af+1)) t:=by
 rw[KJ ho,←h.af];exact iZ _ _ hc h1 h2
theorem CF{s:Ps}{x:Sx}(h:Rl l B D s x){t:Bs}(ho:rP t=false)(hc:bg t≠0)(h1:bg t≠1:=by decide)(h2:bg t≠2:=by decide):iX l s t=aO (kd l x.env x.af) t:=by
 rw[adj ho,←h.af];exact iZ _ _ hc h1 h2
theorem ku(s:Ps)(i:Nat):(az l s i).c=bz l (s.af+i):=by
 unfold bz az
 by_cases h:s.af+i<l.length
 ·rw[ω h]
 ·rw[χ h,abN,acO η];rfl
theorem Jy{p:Nat}{C:List Nat}{xs:List Sx}{r z:Sx}{y:Sy}{ys:List Sy}{f:Nat}(hF:Fr l p C xs r)(h:dl l (.ay y r f)=some [z])(hs:zH C y=true)(hl:lv C y=[]):dl l (.seq (y::ys) f xs)=dl l (.seq ys f [z]):=by
 obtain⟨hd,A,Z,rfl,jK⟩:=hF
 obtain⟨u,a1, -,a3⟩:=yZ hs f fun x hx=>(jK x (aby Z hx)).1
 obtain⟨v,b1, -,b3⟩:=yZ hs f fun x hx=>(jK x (abD A hx)).1
 have e:∀u:List Sx,(∀x∈u,aJ (lv C y) (kc l x.af)=true)→u=[]:=fun u hu=>acs.2 fun x hx=>by
  have:=hu x hx;rw[hl]at this;cases this
 rw[bJ,mi,di,a1,b1,h,e u a3,e v b3];rfl
theorem EL(hL:l.length≤90){p:Nat}{C:List Nat}{xs:List Sx}{r z:Sx}{y:Sy}(ys:List Sy){f:Nat}(hF:Fr l p C xs r)(h:dl l (.ay y r f)=some [z])(hz:z.af=r.af)(hs:zH C y=true):∃xs',dl l (.seq (y::ys) f xs)=dl l (.seq ys f xs')∧Fr l p (lv C y) xs' z:=by
 obtain⟨hd,A,Z,rfl,jK⟩:=hF
 obtain⟨u,a1,a2,a3⟩:=yZ hs f fun x hx=>(jK x (aby Z hx)).1
 obtain⟨v,b1,b2,b3⟩:=yZ hs f fun x hx=>(jK x (abD A hx)).1
 have hsub:((u++z::v).map (·.af)).Sublist ((A++r::Z).map (·.af)):=by
  rw[acb,acb,acj,acj,hz];exact a2.append (b2.cons_cons _)
 have hd2:=hd.sub hsub
 refine⟨u++z::v,?_,hd2,u,v,rfl,fun x hx=>?_⟩
 ·rw[bJ,mi,di,a1,b1,h]
  show(Dr.aG (u++([z]++v))).bind _=_;rw[afR,hd2.aG hL];rfl
 ·rw[hz]
  rcases abr.1 hx with hx|hx
  ·refine⟨a3 x hx,?_⟩
   obtain⟨w,h1,h3⟩:=abt.1 (a2.subset (abt.2 ⟨x,hx,rfl⟩));rw[←h3];exact(jK w (aby _ h1)).2
  ·refine⟨b3 x hx,?_⟩
   obtain⟨w,h1,h3⟩:=abt.1 (b2.subset (abt.2 ⟨x,hx,rfl⟩));rw[←h3];exact(jK w (abD _ h1)).2
theorem dL{t:Bs}{r:Sx}(f:Nat)(h0:bg t≠0)(h:aO (kd l r.env r.af) t=true)(h1:bg t≠1:=by decide)(h2:bg t≠2:=by decide):dl l (.ay (.tx t) r f)=some [up r]:=by
 rw[AJ,iZ r.env r.af h0 h1 h2,h];rfl
theorem kM{t:Bs}{r:Sx}(f:Nat)(h0:bg t≠0)(h:aO (kd l r.env r.af) t=false)(h1:bg t≠1:=by decide)(h2:bg t≠2:=by decide):dl l (.ay (.tx t) r f)=some []:=by
 rw[AJ,iZ r.env r.af h0 h1 h2,h];rfl
theorem dQ{k:Nat}{t:Bs}(h0:bg t≠0)(h:aO k t=true):un k≠0:=by
 unfold aO at h
 rw[aaZ.1 h];exact h0
variable {C C2 : List Nat}{xs : List Sx}{P f : Nat}{r : Sx}
theorem eD {V2:β→Ps→Sx→Prop}{ys:List Sy}{k:Unit→Pm β}{g:Sx→Sx}(hF:Fr l p C xs r)(hr:Rl l B D s r)(hP:P≤r.af+1)(ho:rP t=true)(h0:bg t≠0)(h1:bg t≠1)(h2:bg t≠2)(hs:(C.all fun c=>dd c (.tx t))=true)(hk:Fr l (r.af+1) [] [up r] (up r)→Rl l B D (bU s) (up r)→Sm l P C2 B D2 V2 (wr g (dl l (.seq ys f [up r]))) (k () (bU s))):Sm l P C2 B D2 V2 (wr g (dl l (.seq (.tx t::ys) f xs))) ((bY l t>>=k) s):=by
 have hst:zH C (.tx t)=true:=Θ.2 fun c hc=>by rw[(Θ.1 hs) c hc];rfl
 have hlv:lv C (.tx t)=[]:=afN.2 fun c hc=>by rw[(Θ.1 hs) c hc];decide
 have e:=iQ hr ho h0 h1 h2
 cases hh:aO (kd l r.env r.af) t with
 |false=>
  rw[zZ (e.trans hh)];refine Sm.nil ?_;obtain⟨hd,A,Z,rfl,jK⟩:=hF
  have ha:∀x∈A++r::Z,dl l (.ay (.tx t) x f)=some []:=fun x hx=>by
   have:x=r∨x∈A++Z:=by
    simp only[abr,abf]at hx⊢
    rcases hx with h|h|h
    ·exact .inr (.inl h)
    ·exact .inl h
    ·exact .inr (.inr h)
   rcases this with rfl|hx
   ·exact kM f h0 hh h1 h2
   ·exact wQ ((Θ.1 hs) _ (aU.1 (jK x hx).1)) rfl f
  unfold wr;rw[bJ,ja ha];show(((dl l (.seq ys f [])).bind Dr.aG).bind _)=_;rw[lN];rfl
 |true=>
  rw[sQ (e.trans hh),Jy hF (dL f h0 hh h1 h2) hst hlv];have hu:=hr.up (dQ h0 hh);exact hk (.ay (υ _) hu.le) hu
theorem dV{α β:Type}{p P:Nat}{C C1 C2:List Nat}{D1:List Nd}{V:α→Ps→Sx→Prop}{V2:β→Ps→Sx→Prop}{xs:List Sx}{r:Sx}{w:Bs}{ys:List Sy}{f:Nat}{m:Pm α}{k:α→Pm β}{s:Ps}{g:Sx→Sx}
  (hL:l.length≤90) (hF:Fr l p C xs r) (hi:Sm l (r.af+1) C1 B D1 V (dl l (.call w r)) (m s)) (hg:Kp g) (hP:P≤r.af+1) (hw:w.headD 0≠64) (hd:(C.all fun c=>dd c (.nm w))=true) (ht:qm C2 C1 ys=true)
  (hk:∀v s1 r1 gB,m s= .ok v s1→Fr l (r.af+1) C1 gB r1→r.af+1≤r1.af→Rl l B D1 s1 r1→V v s1 r1→Sm l P C2 B D2 V2 (wr g (dl l (.seq ys f gB))) (k v s1)):Sm l P C2 B D2 V2 (wr g (dl l (.seq (.nm w::ys) f xs))) ((m>>=k) s):=by
 have hlv:lv C (.nm w)=[]:=afN.2 fun c hc=>by rw[(Θ.1 hd) c hc];decide
 have hst:zH C (.nm w)=true:=Θ.2 fun c hc=>by rw[(Θ.1 hd) c hc];rfl
 refine kU (q:=r.af+1) (p':=r.af+1) (C1:=C1) hL hF (by rw[fe hw];exact hi) (abK _) hg (υ _) (.inl hlv) (.inl hP) hst (by rw[hlv];exact ht) fun v s1 r1 gB e1 h1 h2 h3 h4=>hk v s1 r1 gB e1 ?_ h2 h3 h4
 rw[hlv]at h1;exact h1
theorem ahi{α:Type}{p P:Nat}{C C1 C2:List Nat}{V V2:α→Ps→Sx→Prop}{xs:List Sx}{r:Sx}{w:Bs}{f:Nat}{m:Pm α}{s:Ps}{g:Sx→Sx}
  (hL:l.length≤90) (hF:Fr l p C xs r) (hi:Sm l (r.af+1) C1 B D2 V (dl l (.call w r)) (m s)) (hg:Kp g) (hP:P≤r.af+1) (hw:w.headD 0≠64) (hd:(C.all fun c=>dd c (.nm w))=true) (hC:C1.all (aJ C2)=true)
  (hk:∀v s1 r1,Rl l B D2 s1 r1→V v s1 r1→Rl l B D s1 (g r1)∧V2 v s1 (g r1)):Sm l P C2 B D V2 (wr g (dl l (.seq [.nm w] f xs))) (m s):=by
 rw[←wR m]
 refine dV hL hF hi hg hP hw hd (by unfold qm;exact hC) fun v s1 r1 gB _ h1 _ h2 h3=>?_
 obtain⟨a,b⟩:=hk v s1 r1 h2 h3
 exact⟨gB.map g,g r1,by unfold wr;rw[dH];show(Dr.aG gB).bind _=_;rw[h1.1.aG hL];rfl,(h1.map hg).le hP hC,a,b⟩
theorem lV{w:Bs}(i:Nat){q:List Sy×Nat}{x:Sx}{c:Nat→Bool}(hw:sP w=true)(hi:(lQ w)[i]? =some q)(ht:tb c (yX (lQ w) i)=true)(hc:c (kd l x.env x.af)=true):dl l (.call w x)=(ed l x q).bind aG:=by
 unfold sP at hw
 simp only[aaS,aaZ]at hw
 obtain⟨R,hR⟩:=af1.1 hw.2
 have e:lQ w=R.mh.zip R.iL:=by unfold lQ;rw[hR];simp
 rw[vP hw.1.1 hR,←e,EK _ _ _ hi fun q hq=>?_]
 unfold ed
 rw[dN (x:={af:=x.af,env:=x.env,ty:=x.ty}) snd 8 _ q.1 _ (Jw (mP ht (jP ..) hc) q hq) rfl];rfl
theorem dY{α:Type}{p:Nat}{C:List Nat}{V:α→Ps→Sx→Prop}{w:Bs}(i:Nat){ys:List Sy}{k:Nat}{x:Sx}{o:Rs α}(hL:l.length≤90){c:Nat→Bool}(hw:sP w=true)(hi:(lQ w)[i]? =some (ys,k))(ht:tb c (yX (lQ w) i)=true)(hc:c (kd l x.env x.af)=true)
  (h:Sm l p C B D V (wr (fun r=>bn x r k) (dl l (.seq ys x.af [fr x]))) o):Sm l p C B D V (dl l (.call w x)) o:=by
 rw[lV i hw hi ht hc];exact h.aG hL
def adk:List (List Sy×Nat)→Nat→Nat→Bool
 |[],_,_=>true
 |q::r,0,k=>yX r 0 k
 |q::r,i+1,k=>jb uX 8 k q.1&&adk r i k
theorem CG{w:Bs}(i:Nat){q q2:List Sy×Nat}{x:Sx}{c:Nat→Bool}(hw:sP w=true)(hi:(lQ w)[i]? =some q)(hi2:(lQ w)[i+1]? =some q2)(ht:tb c (adk (lQ w) i)=true)(hc:c (kd l x.env x.af)=true):dl l (.call w x)=((ed l x q).bind fun a=>(ed l x q2).bind fun b=>some (a++b)).bind aG:=by
 unfold sP at hw
 simp only[aaS,aaZ]at hw
 obtain⟨R,hR⟩:=af1.1 hw.2
 have e:lQ w=R.mh.zip R.iL:=by unfold lQ;rw[hR];simp
 have off:∀{q:List Sy×Nat},jb uX 8 (kd l x.env x.af) q.1=true→ed l x q=some []:=fun{q} h=>by
  unfold ed;rw[dN (x:={af:=x.af,env:=x.env,ty:=x.ty}) snd 8 _ q.1 _ h rfl];rfl
 replace ht:=mP ht (jP ..) hc
 rw[vP hw.1.1 hR,←e]
 clear e hR hw
 congr 1
 generalize lQ w=L at hi hi2 ht
 induction L generalizing i with
 |nil=>simp at hi
 |cons b t ih=>
  cases i with
  |zero=>
   obtain rfl:b=q:=by simpa using hi
   rw[di,EK t 0 q2 (by simpa using hi2) fun c hc=>off (Jw ht c hc)]
  |succ i=>
   have ht:(jb uX 8 (kd l x.env x.af) b.1&&adk t i (kd l x.env x.af))=true:=ht;rw[aaS]at ht;rw[di,off ht.1,ih i (by simpa using hi) (by simpa using hi2) ht.2]
   cases ed l x q<;>cases ed l x q2<;>rfl
theorem vU{w:Bs}{x:Sx}{c:Nat→Bool}(hw:sP w=true)(ht:tb c (arI (lQ w))=true)(hc:c (kd l x.env x.af)=true):dl l (.call w x)=some []:=by
 unfold sP at hw
 simp only[aaS,aaZ]at hw
 obtain⟨R,hR⟩:=af1.1 hw.2
 have e:lQ w=R.mh.zip R.iL:=by unfold lQ;rw[hR];simp
 rw[vP hw.1.1 hR,ja];rfl
 intro q hq
 unfold ed
 rw[dN (x:={af:=x.af,env:=x.env,ty:=x.ty}) snd 8 _ q.1 _ ((Θ.1 (mP ht (jP ..) hc)) q (e▸hq)) rfl];rfl
theorem vV{a:List (List Sy)}(i:Nat){y:List Sy}{x:Sx}{c:Nat→Bool}(hi:a[i]? =some y)(ht:tb c (aiZ a i)=true)(hc:c (kd l x.env x.af)=true):gT l a x=(dl l (.seq y x.af [x])).bind aG:=by
 unfold gT
 have e:bu (fun y=>dl l (.seq y x.af [x])) a=bu (fun q:List Sy×Nat=>dl l (.seq q.1 x.af [x])) (a.map fun y=>(y,0)):=by
  have g:∀a:List (List Sy),bu (fun y=>dl l (.seq y x.af [x])) a=bu (fun q:List Sy×Nat=>dl l (.seq q.1 x.af [x])) (a.map fun y=>(y,0)):=fun a=>by
   induction a with
   |nil=>rfl
   |cons b t ih=>rw[acj,di,di,ih]
  exact g a
 rw[e,EK _ i (y,0) (by rw[afG,hi];rfl) fun q hq=>dN snd 8 _ q.1 _ _ (Jw (mP ht (jP ..) hc) q hq) rfl]
theorem ou {y:List Sy}:gT l [y] x=(dl l (.seq y x.af [x])).bind aG:=by unfold gT;rw[bX]
theorem mq{a:List (List Sy)}{x:Sx}{c:Nat→Bool}(ht:tb c (FZ a)=true)(hc:c (kd l x.env x.af)=true):gT l a x=some []:=rG fun q hq=>dN snd 8 _ q _ _ ((Θ.1 (mP ht (jP ..) hc)) q hq) rfl
variable {a : List (List Sy)}
theorem Ib (h:FZ a (kd l x.env x.af)=true):gT l a x=some []:=rG fun q hq=>dN snd 8 _ q _ _ ((Θ.1 h) q hq) rfl
theorem Rl.frame{s:Ps}{x:Sx}(h:Rl l B D s x)(ty:Bool):Rl l B s.done s {af:=x.af,env:=x.env,ty:=ty}:=⟨h.af,h.le,h.env,by simp[fG],h.bk⟩
theorem Rl.fr{s:Ps}{x:Sx}(h:Rl l B D s x):Rl l B s.done s (fr x):=h.frame x.ty
theorem aI(x:Sx)(k:Nat):Kp fun r=>bn x r k:=fun r=>by
 show(bn x r k).af=r.af
 unfold bn;split<;>rfl
theorem jW:Kp fun z=>z:=fun _=>rfl
variable {o : Option (List Sx)}{R : Rs α}
theorem BX {V:α→Ps→Sx→Prop}(h:Sm l p C B D V (wr (fun z=>z) o) R):Sm l p C B D V (o.bind aG) R:=by
 unfold wr at h
 have e:((o.bind aG).bind fun zs=>some (zs.map fun z=>z))=o.bind aG:=by
  cases o.bind aG<;>simp
 rw[e]at h;exact h
theorem mr{α:Type}{P p:Nat}{C C2:List Nat}{V:α→Ps→Sx→Prop}{xs:List Sx}{r:Sx}{f:Nat}{g:Sx→Sx}{v:α}{s:Ps}(hL:l.length≤90)(hF:Fr l p C xs r)(hP:P≤p)(hC:C.all (aJ C2)=true)(hg:Kp g)(hl:Rl l B D2 s (g r))(hv:V v s (g r)):Sm l P C2 B D2 V (wr g (dl l (.seq [] f xs))) (.ok v s):=by
 refine⟨xs.map g,g r,?_,(hF.map hg).le hP hC,hl,hv⟩
 unfold wr
 rw[dH]
 show(Dr.aG xs).bind _=_
 rw[hF.1.aG hL];rfl
def VK(x r:Sx)(t:Tr):Prop:=r.ah=x.ah++[t]∧r.ty=x.ty∧r.cl=x.cl
def VU (x:Sx)(_:α)(_:Ps)(r:Sx):Prop:=∃t,VK x r t
theorem dR{α:Type}{P p:Nat}{C C2:List Nat}{V:α→Ps→Sx→Prop}{xs:List Sx}{r x:Sx}{f k:Nat}{v:α}{s0 s1:Ps}(hL:l.length≤90)(hF:Fr l p C xs r)(hP:P≤p)(hC:C.all (aJ C2)=true)(hk:0<k)(hx:Rl l B D s0 x)(hl:Rl l B s0.done s1 r)
  (hv:VK x (bn x r k) (.mk k x.af r.af r.ah (if k=16 then r.cl else[]))→V v {s1 with done:=s1.done++[⟨k,s0.af,s1.af,s1.done.length - s0.done.length+1⟩]} (bn x r k)):Sm l P C2 B D V (wr (fun r=>bn x r k) (dl l (.seq [] f xs))) ((node l k (s0.af,s0.done.length)>>=fun _=>pure v) s1):=by
 show Sm l P C2 B D V _ (Pm.bind (node l k (s0.af,s0.done.length)) _ s1)
 unfold Pm.bind node
 by_cases hg:s1.done.length≤4*l.length∧s0.done.length≤s1.done.length
 ·rw[ω hg]
  have hw:bn x r k=gU x r (.mk k x.af r.af r.ah (if k=16 then r.cl else[])):=by unfold bn;rw[ω hk]
  refine mr hL hF hP hC (aI x k) ?_ (hv ⟨by rw[hw];rfl,by rw[hw];rfl,by rw[hw];rfl⟩);show Rl l B D _ (bn x r k);rw[hw];refine⟨hl.af,hl.le,hl.env,?_,hl.bk⟩;show s1.done++_=D++fG (x.ah++[_]);rw[nV,nW,post,hl.dn,hx.dn,hx.af,hl.af];simp only[Ψ,List.append_cancel_left_eq]
  have e:(D++(fG x.ah++fG r.ah)).length - (D++fG x.ah).length=(fG r.ah).length:=by simp;omega
  rw[e]
 ·rw[χ hg];trivial
theorem Rl.EM {s0 : Ps}(hx:Rl l B D s0 x)(hl:Rl l B s0.done s1 r):Rl l B D s1 (bn x r 0):=⟨hl.af,hl.le,hl.env,by
 show s1.done=D++fG (x.ah++r.ah)
 rw[hl.dn,hx.dn,nV,Ψ],hl.bk⟩
theorem Fr.xB (hd:eP l p xs)(hr:r∈xs)(h:∀x∈xs,x=r∨(aJ C (kc l x.af)=true∧x.af<r.af)):Fr l p C xs r:=by
 obtain⟨A,Z,rfl⟩:=List.append_of_mem hr
 refine⟨hd,A,Z,rfl,fun x hx=>?_⟩
 have hne:x.af≠r.af:=fun e=>by
  have hn:=hd.nd;rw[acb,acj,List.nodup_append]at hn
  rcases abr.1 hx with hx|hx
  ·exact hn.2.2 x.af (abt.2 ⟨x,hx,rfl⟩) r.af (ab6 ..) e
  ·exact(agJ.1 hn.2.1).1 (e▸abt.2 ⟨x,hx,rfl⟩)
 rcases h x (by rcases abr.1 hx with hx|hx<;>simp[hx])with rfl|h
 ·exact absurd rfl hne
 ·exact h
theorem Fr.mem (h:Fr l p C xs r):r∈xs∧∀x∈xs,x=r∨(aJ C (kc l x.af)=true∧x.af<r.af):=by
 obtain⟨-,A,Z,rfl,h2⟩:=h
 refine⟨by simp,fun x hx=>?_⟩
 simp only[abr,abf]at hx
 rcases hx with h|h|h
 ·exact .inr (h2 x (aby _ h))
 ·exact .inl h
 ·exact .inr (h2 x (abD _ h))
theorem Sm.pre {q : Nat}{V:α→Ps→Sx→Prop}{u:Sx}(hL:l.length≤90)(hu:aJ C (kc l u.af)=true)(hp:p≤u.af)(hq:u.af<q)(hl:u.af≤l.length)(h:Sm l q C B D V o R):Sm l p C B D V (o.bind fun xs=>Dr.aG (u::xs)) R:=by
 have hd:∀{xs},eP l q xs→eP l p (u::xs):=fun h=>(eP.ay hp hl).fK h η fun x hx=>by rw[Φ.1 hx];exact hq
 cases R with
 |out=>trivial
 |no=>
  obtain⟨xs,rfl,h2,h3⟩:=h;exact⟨u::xs,(hd h2).aG hL,hd h2,fun x hx=>(abf.1 hx).elim (fun e=>e▸hu) (h3 x)⟩
 |ok a s=>
  obtain⟨xs,r,rfl,⟨h2,A,Z,rfl,h3⟩,h4,h5⟩:=h;refine⟨_,r,(hd h2).aG hL,⟨hd h2,u::A,Z,rfl,fun x hx=>?_⟩,h4,h5⟩
  rcases abf.1 hx with rfl|hx
  ·exact⟨hu,abB hq (h2.lo r ν)⟩
  ·exact h3 x hx
theorem Ry {q:Nat}{F : List Nat}{V:α→Ps→Sx→Prop}(f:Nat)(hL:l.length≤90)(hq:r.af<q)(hl:r.af≤l.length)(hF:aJ F (kc l r.af)=true)(h:Sm l q C B D V (gT l a r) R):Sm l r.af (F++C) B D V (dl l (.ay (.dO a) r f)) R:=by
 rw[wO]
 refine Sm.pre hL (aU.2 (aby _ (aU.1 hF))) (υ _) hq hl (h.le (υ _) (Θ.2 fun x hx=>aU.2 (abD _ hx)))
variable {ι : Type}
def Rnd (l:List Ct)(B:List Sd)(D:List Nd)(a:List (List Sy))(C E:List Nat)(V:α→Ps→Sx→Prop)(I:ι→Ps→Sx→Prop)(loop:Nat→ι→Pm α)(m:Nat)(i:ι)(s:Ps)(r:Sx):Prop:=
 (gT l a r=some []∧∃v,loop m i s= .ok v s∧V v s r)∨loop m i s= .out∨
 (aJ E (kc l r.af)=true∧∃(m':Nat) (nz:Pm Va) (nx:Va→ι),m'<m∧loop m i s=(nz>>=fun v=>loop m' (nx v)) s∧Sm l (r.af+1) C B D (fun v s1 r1=>I (nx v) s1 r1) (gT l a r) (nz s))
variable {zs : List Sx}
theorem KL (h:gT l a r=some zs)(hz:∀z∈zs,r.af<z.af):Dz l a r=some zs:=by
 unfold Dz
 rw[h]
 show some (zs.filter _)=_
 rw[List.filter_eq_self.2 fun z hz'=>aa4 (hz z hz')]
theorem ahj (h:∀z∈zs,gT l a z=some []):dl l (.bV a zs)=some []:=by
 cases zs with
 |nil=>exact Ju a
 |cons z r=>
  rw[KH a _ ν,ja fun x hx=>?_]
  ·show(dl l (.bV a [])).bind _=_
   rw[Ju];rfl
  ·unfold Dz
   rw[h x hx];rfl
variable {E : List Nat}{M : Nat}
theorem ai0 {V:α→Ps→Sx→Prop}{I:ι→Ps→Sx→Prop}{loop:Nat→ι→Pm α}(hL:l.length≤90)(hC:(C.all fun c=>dd c (.jy a))=true)(GM:C.all (aJ E)=true)(hl:∀m i s r,m≤M→Rl l B D s r→I i s r→Rnd l B D a C E V I loop m i s r):∀(m p:Nat) (i:ι) (s:Ps) (r:Sx) (xs:List Sx),m≤M→Fr l p C xs r→Rl l B D s r→I i s r→Sm l r.af E B D V ((dl l (.bV a xs)).bind fun y=>aG (r::y)) (loop m i s):=by
 have aft:∀x:Sx,aJ C (kc l x.af)=true→gT l a x=some []:=fun x hx=>by
  have:=wQ ((Θ.1 hC) _ (aU.1 hx)) (x:=x) rfl 0;rw[wP]at this;exact this
 intro m
 induction m using Nat.strongRecOn with
 |ind m ih=>
  intro p i s r xs hmM hF hr hi;obtain⟨hd,A,Z,rfl,jK⟩:=hF
  have e1:dl l (.bV a (A++r::Z))=(Dz l a r).bind fun x=>(dl l (.bV a x)).bind fun y=>aG (x++y):=by
   rw[KH a _ ν,CE];intro x hx;unfold Dz;rw[aft x (jK x hx).1];rfl
  rw[e1]
  rcases hl m i s r hmM hr hi with⟨h1,v,h2,h3⟩|h1|⟨hE,m',nz,nx,hm,h1,h2⟩
  ·have e2:Dz l a r=some []:=KL h1 fun z hz=>(by cases hz)
   rw[e2,h2];refine Sm.ay (r:=r) ?_ (υ _) hr h3;show((dl l (.bV a [])).bind _).bind _=_;rw[Ju];rfl
  ·rw[h1];trivial
  ·rw[h1]
   show Sm l r.af E B D V _ (Pm.bind nz _ s);unfold Pm.bind
   cases e3:nz s with
   |out=>trivial
   |no=>
    rw[e3]at h2;obtain⟨zs,h4,h5,h6⟩:=h2;rw[KL h4 fun z hz=>h5.lo z hz];show Sm l r.af E B D V (((dl l (.bV a zs)).bind fun y=>aG (zs++y)).bind _) .no;rw[ahj fun z hz=>aft z (h6 z hz)];show Sm l r.af E B D V ((aG (zs++[])).bind _) .no;rw[List.append_nil,h5.aG hL]
    have hdd:eP l r.af (r::zs):=(eP.ay (υ _) hr.le).fK h5 (abK _) fun x hx=>by rw[Φ.1 hx];exact aar _
    exact⟨r::zs,hdd.aG hL,hdd,fun x hx=>(abf.1 hx).elim (fun e=>e▸hE) fun h=>lU GM (h6 x h)⟩
   |ok b s1=>
    rw[e3]at h2;obtain⟨zs,r1,h4,h5,h6,h7⟩:=h2;have hih:=ih m' hm (r.af+1) (nx b) s1 r1 zs η h5 h6 h7;rw[KL h4 fun z hz=>h5.1.lo z hz];show Sm l r.af E B D V (((dl l (.bV a zs)).bind fun y=>aG (zs++y)).bind _) (loop m' (nx b) s1)
    have key:∀y:List Sx,eP l r1.af (r1::y)→eP l r.af (r::(zs++y))∧eP l r.af (zs++y):=fun y hy=>by
     obtain⟨hz,A1,Z1,rfl,h8⟩:=h5;have arL:eP l (r.af+1) (A1++Z1):=hz.sub (agE _ ((List.Sublist.refl A1).append (agu r1 Z1)))
     have h9:eP l r.af ((r::(A1++Z1))++(r1::y)):=((eP.ay (x:=r) (υ _) hr.le).fK arL (abK _) fun x hx=>by rw[Φ.1 hx];exact aar _).fK hy (by have:=hz.lo r1 ν;omega) fun x hx=>by
      rcases abf.1 hx with rfl|hx
      ·exact Nat.lt_of_succ_le (hz.lo r1 ν)
      ·exact(h8 x hx).2
     have hp:(r::((A1++r1::Z1)++y)).Perm ((r::(A1++Z1))++(r1::y)):=by
      rw[List.cons_append];refine .cons _ ?_;rw[Ψ,Ψ];refine List.Perm.append_left A1 ?_;rw[List.cons_append];exact List.perm_middle.symm
     have h10:=h9.Rx hp;exact⟨h10,h10.sub (agE _ (agu _ _))⟩
    cases e5:dl l (.bV a zs)with
    |none=>
     rw[e5]at hih
     cases e4:loop m' (nx b) s1 with
     |out=>trivial
     |no=>rw[e4]at hih;obtain⟨_,h,_⟩:=hih;cases h
     |ok b2 s2=>rw[e4]at hih;obtain⟨_,_,h,_⟩:=hih;cases h
    |some y=>
     rw[e5]at hih;have hih:Sm l r1.af E B D V (aG (r1::y)) (loop m' (nx b) s1):=hih
     have hlim:∀{ws:List Sx},aG (r1::y)=some ws→ws=r1::y:=fun{ws} h=>by
      unfold Dr.aG at h
      split at h
      ·exact(aau h).symm
      ·cases h
     show Sm l r.af E B D V ((aG (zs++y)).bind fun y=>aG (r::y)) (loop m' (nx b) s1)
     cases e4:loop m' (nx b) s1 with
     |out=>trivial
     |no=>
      rw[e4]at hih;obtain⟨ws,h8,h9,h10⟩:=hih;obtain rfl:=hlim h8;obtain⟨k1,k2⟩:=key y h9;refine⟨r::(zs++y),by rw[k2.aG hL];exact k1.aG hL,k1,fun x hx=>?_⟩
      rcases abf.1 hx with rfl|hx
      ·exact hE
      ·rcases abr.1 hx with hx|hx
       ·rcases h5.mem.2 x hx with rfl|h
        ·exact h10 _ (ab6 ..)
        ·exact lU GM h.1
       ·exact h10 x (abM _ hx)
     |ok b2 s2=>
      rw[e4]at hih;obtain⟨ws,r2,h8,h9,h10,h11⟩:=hih;obtain rfl:=hlim h8;obtain⟨k1,k2⟩:=key y h9.1;have hlo:r1.af≤r2.af:=h9.lo.1;have hr1:r.af+1≤r1.af:=h5.lo.1;refine⟨r::(zs++y),r2,by rw[k2.aG hL];exact k1.aG hL, .xB k1 ?_ fun x hx=>?_,h10,h11⟩
      ·rcases abf.1 h9.mem.1 with e|h
       ·rw[e];exact abM _ (aby _ h5.mem.1)
       ·exact abM _ (abD _ h)
      ·rcases abf.1 hx with rfl|hx
       ·exact .inr ⟨hE,by omega⟩
       ·rcases abr.1 hx with hx|hx
        ·rcases h5.mem.2 x hx with rfl|h
         ·exact h9.mem.2 _ (ab6 ..)
         ·exact .inr ⟨lU GM h.1,by have:=h.2;omega⟩
        ·exact h9.mem.2 x (abM _ hx)
theorem xW{α ι:Type}{a:List (List Sy)}{C E:List Nat}{V:α→Ps→Sx→Prop}{I:ι→Ps→Sx→Prop}{loop:Nat→ι→Pm α}{m f:Nat}{i:ι}{s:Ps}{r:Sx}(hL:l.length≤90)(hC:(C.all fun c=>dd c (.jy a))=true)(GM:C.all (aJ E)=true)
  (hl:∀m' i s r,m'≤m→Rl l B D s r→I i s r→Rnd l B D a C E V I loop m' i s r) (hr:Rl l B D s r) (hi:I i s r):Sm l r.af E B D V (dl l (.ay (.bV a) r f)) (loop m i s):=by
 rw[Wl]
 exact ai0 hL hC GM hl m r.af i s r [r] (υ m) (.ay (υ _) hr.le) hr hi
theorem F4{nx:Sx→Option (List Sx)}{Z:List Sx→Option (List Sx)}{pt:Sx→Sx}{C:List Nat}(hL:l.length≤90)(h0:Z []=some [])(hZ:∀xs,xs≠[]→Z xs=(bu nx xs).bind fun x=>(Z x).bind fun y=>aG (xs.map pt++y))(hg:Kp pt)(hC:∀t:Sx,aJ C (kc l t.af)=true→nx t=some []){xs:List Sx}{p:Nat}(h:Al l p C xs):Z xs=some (xs.map pt):=by
 cases xs with
 |nil=>exact h0
 |cons a t=>
  rw[hZ _ ν,ja fun x hx=>hC x (h.2 x hx)];show(Z []).bind _=_;rw[h0];show aG ((a::t).map pt++[])=_;rw[List.append_nil];exact(h.1.map hg).aG hL
theorem NI{α ι:Type}{nx:Sx→Option (List Sx)}{Z:List Sx→Option (List Sx)}{pt:Sx→Sx}{C E:List Nat}{V:α→Ps→Sx→Prop}{I:ι→Ps→Sx→Prop}{loop:Nat→ι→Pm α}(hL:l.length≤90)(h0:Z []=some [])
  (hZ:∀xs,xs≠[]→Z xs=(bu nx xs).bind fun x=>(Z x).bind fun y=>aG (xs.map pt++y)) (hg:Kp pt) (hC:∀t:Sx,aJ C (kc l t.af)=true→nx t=some []) (GM:C.all (aJ E)=true)
  {M:Nat} (hl:∀m i s r,m≤M→Rl l B D s r→I i s r→(nx r=some []∧∃v,loop m i s= .ok v s∧Rl l B D2 s (pt r)∧V v s (pt r))∨loop m i s= .out∨
   (aJ E (kc l r.af)=true∧∃(m':Nat) (nz:Pm Va) (j:Va→ι),m'<m∧loop m i s=(nz>>=fun v=>loop m' (j v)) s∧Sm l (r.af+1) C B D (fun v s1 r1=>I (j v) s1 r1) (nx r) (nz s))):
  ∀(m p:Nat) (i:ι) (s:Ps) (r:Sx) (xs:List Sx),m≤M→Fr l p C xs r→Rl l B D s r→I i s r→Sm l p E B D2 V (Z xs) (loop m i s):=by
 have hoff:∀{xs p},Al l p C xs→Z xs=some (xs.map pt):=fun h=>F4 hL h0 hZ hg hC h
 intro m
 induction m using Nat.strongRecOn with
 |ind m ih=>
  intro p i s r xs hmM hF hr hi
  have e1:Z xs=(nx r).bind fun x=>(Z x).bind fun y=>aG (xs.map pt++y):=by
   obtain⟨hd,A,Z',rfl,jK⟩:=hF;rw[hZ _ ν,CE]
   exact fun x hx=>hC x (jK x hx).1
  have Wp:=(hF.map hg).le (υ p) GM
  have hle:∀x∈xs.map pt,x.af<r.af+1:=fun x hx=>by
   obtain⟨y,hy,rfl⟩:=abt.1 hx;rw[hg]
   rcases hF.mem.2 y hy with rfl|h
   ·exact aar _
   ·exact Nat.lt_succ_of_lt h.2
  have hp:=hF.lo.1;rw[e1]
  rcases hl m i s r hmM hr hi with⟨h1,v,h2,h3,h4⟩|h1|⟨hE,m',nz,j,hm,h1,h2⟩
  ·rw[h1,h2]
   refine⟨xs.map pt,pt r,?_,Wp,h3,h4⟩;show(Z []).bind _=_;rw[h0];show aG (xs.map pt++[])=_;rw[List.append_nil];exact Wp.1.aG hL
  ·rw[h1];trivial
  ·rw[h1]
   show Sm l p E B D2 V _ (Pm.bind nz _ s);unfold Pm.bind
   have hxE:∀x∈xs.map pt,aJ E (kc l x.af)=true:=fun x hx=>by
    rcases Wp.mem.2 x hx with rfl|h
    ·rw[hg];exact hE
    ·exact h.1
   cases e3:nz s with
   |out=>trivial
   |no=>
    rw[e3]at h2;obtain⟨zs,h4,h5⟩:=h2;rw[h4];show Sm l p E B D2 V ((Z zs).bind _) .no;rw[hoff h5];have hd:=Wp.1.fK (h5.1.map hg) η hle;refine⟨_,hd.aG hL,hd,fun x hx=>(abr.1 hx).elim (hxE x) fun h=>?_⟩;obtain⟨y,hy,rfl⟩:=abt.1 h;rw[hg];exact lU GM (h5.2 y hy)
   |ok b s1=>
    rw[e3]at h2;obtain⟨zs,r1,h4,h5,h6,h7⟩:=h2;rw[h4];have hih:=ih m' hm (r.af+1) (j b) s1 r1 zs η h5 h6 h7;show Sm l p E B D2 V ((Z zs).bind _) (loop m' (j b) s1)
    cases e4:loop m' (j b) s1 with
    |out=>trivial
    |no=>
     rw[e4]at hih;obtain⟨ws,h8,h9⟩:=hih;rw[h8];have hd:=Wp.1.fK h9.1 η hle;exact⟨_,hd.aG hL,hd,fun x hx=>(abr.1 hx).elim (hxE x) (h9.2 x)⟩
    |ok c s2=>
     rw[e4]at hih;obtain⟨ws,r2,h8,h9,h10⟩:=hih;rw[h8];have hd:=Wp.1.fK h9.1 η hle;have:=h9.lo.1;refine⟨_,r2,hd.aG hL, .xB hd (abD _ h9.mem.1) fun x hx=>?_,h10⟩
     rcases abr.1 hx with hx|hx
     ·exact .inr ⟨hxE x hx,by have:=hle x hx;omega⟩
     ·exact h9.mem.2 x hx
end
def uY(u:Nat):Nat:=if aJ [38,21,35,52,10,29,26,50] u then 1 else if u=44 then 2 else if aJ [14,30,42] u then 3 else if u=46 then 4 else if aJ [41,13,32,27,28,22,18,33,40,47,48] u then 5 else if aJ [36,39] u then 6 else if u=20 then 7 else 0
theorem adl:∀t∈kD,spec t=uY (10+kD.idxOf t):=by decide+kernel
theorem DD{t:Bs}(h:t∉kD):spec t=0:=by
 have e:∀L:List Bs,(∀t∈L,t∈kD)→t∉L:=fun L hL ht=>h (hL t ht)
 have n1:=e [Eg,[101,120,116,101,114,110],pM,aiR,[97,117,116,111],aiT,[105,110,108,105,110,101],aiS] θ
 have n2:=e [yS] θ
 have n3:=e [Rb,Q8,Q9] θ
 have n4:=e [Eh] θ
 have n5:=e [[118,111,105,100],[99,104,97,114],[115,104,111,114,116],[105,110,116],[108,111,110,103],[102,108,111,97,116],[100,111,117,98,108,101],[115,105,103,110,101,100],aiU,[95,66,111,111,108],aiV] θ
 have n6:=e [Ny,Nz] θ
 have n7:=e [rF] θ
 rw[Φ]at n2 n4 n7
 unfold spec
 rw[χ n1,χ n2,χ n3,χ n4,χ n5,χ n6,χ n7]
section
variable {l:List Ct} {base:Bs→Bool} {B:List Sd} {D D2:List Nd}
theorem Rz(B:List Sd):∀(bl:List Nat) (ch:List Sd),(DC B bl ch).flatten=B++ch
 |[],ch=>by simp[DC]
 |b::r,ch=>by rw[DC,afZ,Rz B r];simp
theorem adm(B:List Sd)(bl:List Nat)(ch:List Sd)(x:Bs)(b:Bool)(hx:x≠[])(hb:Rp bl ch.length):fV (DC B bl ch) x b=DC B bl (ch++[(x,b)]):=by
 unfold fV
 rw[χ hx]
 cases bl with
 |nil=>simp[DC]
 |cons k r=>
  have hk:k≤ch.length:=hb.1;simp[DC,List.take_append_of_le_length hk,List.drop_append_of_le_length hk]
def Bb(base:Bs→Bool)(B:List Sd):Prop:=∀x,base x=iN [B] x
variable {s : Ps}{x : Sx}
theorem LM (hB:Bb base B)(h:Rl l B D s x)(t:Bs):s.nm.l8 base t=iN x.env t:=by
 unfold Ns.l8 Ns.now iN
 rw[h.env,Rz,agm,List.find?_append,hB t]
 cases s.nm.ch.reverse.find? fun p=>p.1==t with
 |some p=>rfl
 |none=>unfold iN;simp
variable {p : Nat}
theorem Aa (env:List (List Sd))(h:bz l p=1):spec (bM l p)=uY (k1 l env p):=by
 have e0:k1 l env p=k0 l p:=by
  unfold k1;rw[χ (fun c=>by have:=(uu p).1.2 c.1;omega)]
 rw[e0]
 unfold k0 uS
 rw[h]
 by_cases hk:kD.contains (bM l p)=true
 ·rw[adl _ (ab0.1 hk)]
  simp only[hk,if_true];rfl
 ·rw[DD fun c=>hk (ab0.2 c)]
  simp only[hk];rfl
theorem RA:∀u<110,u≠1→(decide (uY u≠0))=(nL u||oP u)∧(decide (uY u=1∨uY u=2))=oP u∧(oP u=true→nL u=false):=by decide+kernel
theorem NJ (env:List (List Sd))(h:bz l p≠1)(h2:bz l p≠2):nL (k1 l env p)=false∧oP (k1 l env p)=false:=by
 have e0:k1 l env p=k0 l p:=by
  unfold k1;rw[χ (fun c=>h2 ((uu p).1.2 c.1))]
 have b1:=wN (bz l p) (bM l p)
 rw[e0]
 refine Rj _ b1.1 b1.2.1 ?_
 unfold k0 uS
 rw[χ h2,χ h]
 repeat' split
 all_goals omega
theorem NK (hB:Bb base B)(h:Rl l B D s x)(i:Nat):jD l base s i=(nL (k1 l x.env (x.af+i))||oP (k1 l x.env (x.af+i))):=by
 have hc:(az l s i).c=bz l (x.af+i):=by rw[h.af];exact ku s i
 have ht:(az l s i).t=bM l (x.af+i):=by rw[h.af];rfl
 have e:=vS (l:=l) x.env (x.af+i) true
 rw[af5]at e
 unfold jD
 rw[hc,ht,LM hB h]
 by_cases h1:bz l (x.af+i)=1
 ·rw[ω h1,Aa x.env h1]
  have:=(RA _ (jI x.env (x.af+i)) (fun c=>by have:=(mo (l:=l) x.env (x.af+i)).1.2 (.inl c);omega)).1;rw[←this]
 ·rw[χ h1]
  by_cases h2:bz l (x.af+i)=2
  ·rw[ω h2,←e,iY,ω h2]
  ·rw[χ h2,(NJ x.env h1 h2).1,(NJ x.env h1 h2).2];rfl
theorem Wq (hB:Bb base B)(h:Rl l B D s x)(i:Nat):nO l base s i=nL (k1 l x.env (x.af+i)):=by
 have hc:(az l s i).c=bz l (x.af+i):=by rw[h.af];exact ku s i
 have ht:(az l s i).t=bM l (x.af+i):=by rw[h.af];rfl
 have h9:=jI (l:=l) x.env (x.af+i)
 unfold nO
 rw[NK hB h,hc,ht]
 by_cases h1:bz l (x.af+i)=1
 ·have hk:=RA _ h9 (fun c=>by have:=(mo (l:=l) x.env (x.af+i)).1.2 (.inl c);omega)
  rw[Aa x.env h1];by_cases h3:uY (k1 l x.env (x.af+i))=1∨uY (k1 l x.env (x.af+i))=2
  ·rw[ω ⟨h1,h3⟩]
   have:=hk.2.1;rw[aa4 h3]at this;rw[hk.2.2 this.symm]
  ·rw[χ fun c=>h3 c.2]
   have:=hk.2.1;rw[aa5 h3]at this;rw[←this,afp]
 ·rw[χ fun c=>h1 c.1]
  by_cases h2:bz l (x.af+i)=2
  ·have:oP (k1 l x.env (x.af+i))=false:=by
    rcases(mo x.env (x.af+i)).1.1 h2 with c|c<;>rw[c]<;>rfl
   rw[this,afp]
  ·rw[(NJ x.env h1 h2).2,afp]
theorem xC:∀m<110,nL m=(iK 60 m==114)∧(m==61||(nL m||oP m))=(iK 60 m !=60)∧(m==63)=(iK 74 m==112)∧(m==60)=(iK 46 m==116):=by decide+kernel
theorem NM{k:Nat}{t:Bs}{c:Nat}(h:bg t=c):aO k t=(un k==c):=by unfold aO;rw[h]
variable {c : Nat}
theorem mU {env:List (List Sd)}(h:k1 l env p=c):kd l env p=iK c (k1 l env (p+1)):=by unfold kd;rw[h]
theorem NQ (hB:Bb base B)(h:Rl l B D s x):(aX l s 0 [40]&&nO l base s 1)=(kd l x.env x.af==114):=by
 rw[iQ h rfl ζ,Wq hB h,NM (c:=60) ζ,eY]
 by_cases c:k1 l x.env x.af=60
 ·rw[mU c,←(xC _ (jI x.env _)).1,c];rfl
 ·rw[abF c,agw]
  exact(abF fun e=>c (by rw[←eY,e];rfl)).symm
theorem x8{s:Ps}{x:Sx}(h:Rl l B D s x){t:Bs}(ho:rP t=true)(hc:bg t≠0)(h1:bg t≠1:=by decide)(h2:bg t≠2:=by decide):aX l s 1 t=(k1 l x.env (x.af+1)==bg t):=by
 rw[arK h ho hc h1 h2];unfold aO;rw[eY]
theorem ai3 (hB:Bb base B)(h:Rl l B D s x)(k:Nat):(aX l s 0 [40]&&(k==0||!(aX l s 1 [41]||jD l base s 1)))=(if k=0 then un (kd l x.env x.af)==60 else kd l x.env x.af==60):=by
 rw[iQ h rfl ζ,NK hB h,x8 h rfl ζ,NM (c:=60) ζ,eY,show bg [41]=61 by decide]
 by_cases c:k1 l x.env x.af=60
 ·rw[mU c,c,afA,af5,(xC _ (jI x.env _)).2.1]
  by_cases k0:k=0
  ·rw[ω k0,k0];rfl
  ·rw[χ k0,abF k0,afu]
   cases e:(iK 60 (k1 l x.env (x.af+1))==60)<;>simp[bne,e]
 ·rw[abF c,agw]
  have:kd l x.env x.af≠60:=fun e=>c (by rw[←eY,e];rfl)
  rw[abF this];simp
theorem Ws (h:Rl l B D s x):((az l s 0).c=2↔un (kd l x.env x.af)=1∨un (kd l x.env x.af)=2)∧(((az l s 0).c=3∨(az l s 0).c=4∨(az l s 0).c=5)↔kd l x.env x.af=3)∧((az l s 0).c=6↔kd l x.env x.af=6):=by
 have hc:(az l s 0).c=bz l x.af:=by rw[h.af];exact ku s 0
 have hu:∀k<KN,(un k=3↔k=3)∧(un k=6↔k=6):=by decide+kernel
 rw[hc,eY,(mo x.env x.af).1,(uu x.af).2.1,(uu x.af).2.2,←FX (env:=x.env) ζ,←FX (env:=x.env) ζ,←eY,(hu _ (jP x.env x.af)).1,(hu _ (jP x.env x.af)).2]
 exact⟨.rfl, .rfl, .rfl⟩
theorem pkn (hB:Bb base B)(h:Rl l B D s x):((az l s 0).c=2∧s.nm.l8 base (az l s 0).t=false)↔un (kd l x.env x.af)=2:=by
 have hc:(az l s 0).c=bz l x.af:=by rw[h.af];exact ku s 0
 have ht:(az l s 0).t=bM l x.af:=by rw[h.af];rfl
 rw[LM hB h,hc,ht,eY]
 constructor
 ·rintro⟨a,b⟩
  exact((mo x.env x.af).1.1 a).resolve_left fun c=>by rw[((mo x.env x.af).2.2 c).2]at b;cases b
 ·intro c
  have a:=(mo x.env x.af).1.2 (.inr c);refine⟨a,?_⟩
  cases b:iN x.env (bM l x.af)with
  |false=>rfl
  |true=>have:=(mo x.env x.af).2.1 ⟨a,b⟩;rw[c]at this;cases this
variable {t : Bs}
theorem LP (h:Rl l B D s x)(ho:rP t=true)(hc:bg t≠0)(h1:bg t≠1:=by decide)(h2:bg t≠2:=by decide):((az l s 0).c=7∧(az l s 0).t=t)↔aO (kd l x.env x.af) t=true:=by
 rw[←iQ h ho hc h1 h2]
 unfold aX
 simp
theorem QI (h:Rl l B D s x)(ho:rP t=false)(hc:bg t≠0)(h1:bg t≠1:=by decide)(h2:bg t≠2:=by decide):((az l s 0).c=1∧(az l s 0).t=t)↔aO (kd l x.env x.af) t=true:=by
 rw[←CF h ho hc h1 h2]
 unfold iX
 simp
end
def VE(x:Sx)(v:Va)(_:Ps)(r:Sx):Prop:=∃t,VK x r t∧(v.bool=true↔47≤t.k)
def J4:List Nat:=[6,62,60,69,70,71,72]
def zI:List Nat:=J4++[64]
def J5(j:Nat):List Nat:=([[67],[92],[91],[90],[89],[73],[87,88],[83,84,85,86],[81,82],[75,76],[74,79,80]]:List (List Nat)).getD j []
def qG(j:Nat):List Nat:=zI++((List.range 11).filter (j≤·)).flatMap J5
def vX:List Nat:=qG 1++[93]
def RB:List Nat:=[94,95,96,97,98,99,100,101,102,103,104]
def lI:List Nat:=vX++RB
def zJ:List Nat:=lI++[67,110,111]
theorem NS:∀t∈pO,∀j∈[1,2,3,4,5,6,7,8,9,10],(decide (Co t=35+j))=aJ (J5 j) (60+pO.idxOf t)∧(FN j).contains t=aJ (J5 j) (60+pO.idxOf t):=by decide+kernel
theorem ahk:∀t∈pO,Hd t=aJ RB (60+pO.idxOf t)∧yR.contains t=aJ RB (60+pO.idxOf t):=by decide+kernel
theorem RD(t:Bs):Co t≤45:=by
 unfold Co
 repeat' split
 all_goals omega
theorem aaC:∀j∈[1,2,3,4,5,6,7,8,9,10],∀t∈FN j,t∈pO:=by decide
theorem ai4:∀t∈yR,t∈pO:=by decide
theorem adn(t:Bs):Hd t=yR.contains t:=by
 unfold Hd
 rw[ags,decide_eq_true_iff,ab0]
 rfl
theorem ahl{t:Bs}(h:t∉pO):Co t=0:=by
 have e:∀L:List Bs,(∀t∈L,t∈pO)→t∉L:=fun L hL ht=>h (hL t ht)
 have n1:=e [[124,124],[38,38],[124],[94],[38]] ζ
 have n2:=e [[61,61],[33,61]] ζ
 have n3:=e [[60],[62],[60,61],[62,61]] ζ
 have n4:=e [[60,60],[62,62]] ζ
 have n5:=e [[43],[45]] ζ
 have n6:=e [[42],[47],[37]] ζ
 simp only[abf,abZ,acz,not_or]at n1
 unfold Co
 rw[χ n1.1,χ n1.2.1,χ n1.2.2.1,χ n1.2.2.2.1,χ n1.2.2.2.2,χ n2,χ n3,χ n4,χ n5,χ n6]
section
variable {l:List Ct} {base:Bs→Bool} {B:List Sd} {D D2:List Nd}
theorem QJ(p:Nat):k0 l p=(if bz l p=7∧pO.contains (bM l p)=true then 60+pO.idxOf (bM l p)else k0 l p)∧(¬(bz l p=7∧pO.contains (bM l p)=true)→k0 l p<60):=by
 have b2:kD.idxOf (bM l p)≤43:=acu (l:=kD)
 constructor
 ·split
  ·next h=>
   unfold k0 uS;rw[h.1];simp only[h.2,if_true];rfl
  ·rfl
 ·intro h
  unfold k0 uS
  repeat' split
  all_goals first
   |omega
   |exact absurd ⟨‹_›,‹_›⟩ h
theorem aaD:∀j∈[1,2,3,4,5,6,7,8,9,10],∀k∈J5 j++RB,60≤k:=by decide
theorem RF(j p:Nat)(hj:j∈[1,2,3,4,5,6,7,8,9,10]):wZ l j p=aJ (J5 j) (k0 l p):=by
 unfold wZ
 by_cases h:bz l p=7∧pO.contains (bM l p)=true
 ·have e:=(QJ (l:=l) p).1
  rw[ω h]at e;rw[e,h.1,(NS _ (ab0.1 h.2) j hj).2];rfl
 ·have e:=(QJ (l:=l) p).2 h
  have e2:aJ (J5 j) (k0 l p)=false:=by
   cases c:aJ (J5 j) (k0 l p)with
   |false=>rfl
   |true=>have:=aaD j hj _ (aby _ (aU.1 c));omega
  rw[e2]
  cases c:(bz l p==7&&(FN j).contains (bM l p))with
  |false=>rfl
  |true=>
   rw[aaS,aaZ]at c;exact absurd ⟨c.1,ab0.2 (aaC j hj _ (ab0.1 c.2))⟩ h
theorem Yg(p:Nat):(bz l p=7∧yR.contains (bM l p)=true)↔aJ RB (k0 l p)=true:=by
 by_cases h:bz l p=7∧pO.contains (bM l p)=true
 ·have e:=(QJ (l:=l) p).1
  rw[ω h]at e;rw[e,(ahk _ (ab0.1 h.2)).2];exact⟨fun q=>q.2,fun q=>⟨h.1,q⟩⟩
 ·have e:=(QJ (l:=l) p).2 h
  constructor
  ·exact fun q=>absurd ⟨q.1,ab0.2 (ai4 _ (ab0.1 q.2))⟩ h
  ·exact fun q=>by have:=aaD 1 ζ _ (abD _ (aU.1 q));omega
theorem uZ(p:Nat):k0 l p=(if kc l p=110∨kc l p=111 then 67 else kc l p):=by
 unfold kc Rh
 have b:=(wN (bz l p) (bM l p)).1
 by_cases h:k0 l p=67
 ·rw[ω h,h]
  repeat' split
  all_goals first
   |rfl
   |omega
 ·rw[χ h,χ]
  unfold k0;omega
def ky(l:List Ct)(s:Ps):Nat:=if(az l s 0).c=7 then Co (az l s 0).t else 0
theorem KM(s:Ps):ky l s≤45:=by
 unfold ky
 split
 ·exact RD _
 ·omega
theorem Yh{s:Ps}{x:Sx}{j:Nat}(hx:x.af=s.af)(hj:j∈[1,2,3,4,5,6,7,8,9,10]):wZ l j x.af=decide (ky l s=35+j):=by
 have hc:(az l s 0).c=bz l x.af:=by rw[hx];exact ku s 0
 have ht:(az l s 0).t=bM l x.af:=by rw[hx];rfl
 have h35:decide ((0:Nat)=35+j)=false:=aa5 η
 unfold ky wZ
 rw[hc,ht]
 by_cases c:bz l x.af=7
 ·rw[ω c,c]
  by_cases h:bM l x.af∈pO
  ·rw[(NS _ h j hj).1,(NS _ h j hj).2];rfl
  ·rw[ahl h,h35]
   cases e:(FN j).contains (bM l x.af)with
   |false=>rfl
   |true=>exact absurd (aaC j hj _ (ab0.1 e)) h
 ·rw[χ c,abF c,h35];rfl
theorem Sm.lk{α:Type}{p:Nat}{C:List Nat}{V:α→Ps→Sx→Prop}{o:Option (List Sx)}{x y:Pm α}{s:Ps}(h:Lk x y)(hs:Sm l p C B D V o (y s)):Sm l p C B D V o (x s):=by
 rcases h s with e|e
 ·rw[e];trivial
 ·rw[e];exact hs
theorem RG{α:Type}{x y z:Pm α}(h:Lk x y)(k:Lk y z):Lk x z:=fun s=>by
 rcases h s with e|e
 ·exact .inl e
 ·rcases k s with f|f
  ·exact .inl (e.trans f)
  ·exact .inr (e.trans f)
theorem x9(n k:Nat)(h:Nat×Nat)(ub:Bool)(s:Ps):run l base (n+1) (.fT k h ub) s=if ky l s<k then .ok (Va.bo ub) s else(step l 1>>=fun _=>run l base n (.fI (ky l s+1))>>=fun _=>node l (ky l s) h>>=fun _=>run l base n (.fT k h false)) s:=by
 rw[run]
 show Pm.bind (dB l) _ s=_
 unfold Pm.bind dB
 show(if ky l s<k then pure (Va.bo ub)else _:Pm Va) s=_
 by_cases c:ky l s<k
 ·rw[ω c,ω c];rfl
 ·rw[χ c,χ c];rfl
theorem O3:∀(n k:Nat) (h:Nat×Nat) (ub:Bool),Lk (run l base n (.fT k h ub)) (run l base n (.fT (k+1) h ub)>>=fun v=>run l base n (.fT k h v.bool))
 |0,k,h,ub=>fun s=> .inl (by rw[run])
 |n+1,k,h,ub=>fun s=>by
  by_cases c:ky l s<k+1
  ·right
   have e:run l base (n+1) (.fT (k+1) h ub) s= .ok (Va.bo ub) s:=by rw[x9,ω c]
   rw[jo e];rfl
  ·have e1:run l base (n+1) (.fT (k+1) h ub) s=(step l 1>>=fun _=>run l base n (.fI (ky l s+1))>>=fun _=>node l (ky l s) h>>=fun _=>run l base n (.fT (k+1) h false)) s:=by rw[x9,χ c]
   have e2:run l base (n+1) (.fT k h ub) s=(step l 1>>=fun _=>run l base n (.fI (ky l s+1))>>=fun _=>node l (ky l s) h>>=fun _=>run l base n (.fT k h false)) s:=by rw[x9,χ η]
   have e3:(run l base (n+1) (.fT (k+1) h ub)>>=fun v=>run l base (n+1) (.fT k h v.bool)) s=((step l 1>>=fun _=>run l base n (.fI (ky l s+1))>>=fun _=>node l (ky l s) h>>=fun _=>run l base n (.fT (k+1) h false))>>=fun v=>run l base (n+1) (.fT k h v.bool)) s:=by
    show Pm.bind _ _ s=Pm.bind _ _ s;unfold Pm.bind;rw[e1]
   rw[e2,e3,bG];refine uM uL (fun _=>?_) s;rw[bG];refine uM uL (fun _=>?_);rw[bG];refine uM uL (fun _=>?_);exact RG (O3 n k h false) (uM uL (fun v=>Hl l base n (n+1) (abK n) _))
theorem ai5(n k:Nat):Lk (run l base n (.fI k)) (fH>>=fun h=>run l base n (.fI (k+1))>>=fun v=>run l base n (.fT k h v.bool)):=by
 cases n with
 |zero=>exact fun s=> .inl (by rw[run])
 |succ n=>
  rw[run,run];intro s;rw[fD,fD];rw[show((fH>>=fun h=>run l base n .cast>>=fun uv=>run l base n (.fT (k+1) h uv.bool))>>=fun v=>run l base (n+1) (.fT k (s.af,s.done.length) v.bool)) s=((run l base n .cast>>=fun uv=>run l base n (.fT (k+1) (s.af,s.done.length) uv.bool))>>=fun v=>run l base (n+1) (.fT k (s.af,s.done.length) v.bool)) s from rfl,bG];refine uM uL (fun uv=>?_) s;exact RG (O3 n k _ _) (uM uL (fun v=>Hl l base n (n+1) (abK n) _))
theorem uk{α β:Type}{x:Pm α}{f:α→Pm β}{s:Ps}{v:β}{s1:Ps}(h:(x>>=f) s= .ok v s1):∃a s2,x s= .ok a s2∧f a s2= .ok v s1:=by
 have h:Pm.bind x f s=_:=h
 unfold Pm.bind at h
 cases e:x s with
 |out=>rw[e]at h;cases h
 |no=>rw[e]at h;cases h
 |ok a s2=>rw[e]at h;exact⟨a,s2,rfl,h⟩
theorem RH:∀(n k:Nat) (h:Nat×Nat) (ub:Bool) (s s1:Ps) (v:Va),run l base n (.fT k h ub) s= .ok v s1→ky l s1<k
 |0,k,h,ub,s,s1,v,e=>by rw[run]at e;cases e
 |n+1,k,h,ub,s,s1,v,e=>by
  rw[x9]at e;by_cases c:ky l s<k
  ·rw[ω c]at e;cases e;exact c
  ·rw[χ c]at e
   obtain⟨a,s2, -,h2⟩:=uk e;obtain⟨a,s3, -,h3⟩:=uk h2;obtain⟨a,s4, -,h4⟩:=uk h3;exact RH n k h false s4 s1 v h4
theorem Wt{n k:Nat}{s s1:Ps}{v:Va}(e:run l base n (.fI k) s= .ok v s1):ky l s1<k:=by
 cases n with
 |zero=>rw[run]at e;cases e
 |succ n=>
  rw[run,fD]at e;obtain⟨a,s2, -,h2⟩:=uk e;exact RH _ _ _ _ _ _ _ h2
def dZ(l:List Ct)(base:Bs→Bool)(B:List Sd)(q:Sx→Rq)(tg:Tg)(C:List Nat)(V:Sx→Va→Ps→Sx→Prop)(m:Nat):Prop:=
 ∀(x:Sx) (s:Ps) (D:List Nd),Rl l B D s x→Sm l (x.af+1) C B D (V x) (dl l (q x)) (run l base m tg s)
theorem RI{k:Nat}{s0 s s3:Ps}{x r r2:Sx}{t t2:Tr}(hx:Rl l B D s0 x)(hr:Rl l B s0.done s r)(ht:r.ah=[t])(hl:Rl l B s.done s3 r2)(hk:r2.ah=[t2]):Rl l B s0.done {s3 with done:=s3.done++[⟨k,s0.af,s3.af,s3.done.length - s0.done.length+1⟩]} (iA k x.af r2 [t,t2]):=by
 refine⟨hl.af,hl.le,hl.env,?_,hl.bk⟩
 have hd3:s3.done=s0.done++(post t++post t2):=by
  rw[hl.dn,hr.dn,ht,hk,nW,nW,Ψ]
 show s3.done++_=s0.done++fG [_]
 rw[nW,post,show fG [t,t2]=post t++post t2 by rw[fG,nW],hx.af,hl.af,hd3,Ψ]
 congr 3
 simp
theorem AO{s1 s0:Ps}{x r:Sx}{t:Tr}(hx:Rl l B D s0 x)(hl:Rl l B s0.done s1 r)(hk:r.ah=[t]):Rl l B D s1 (dF x r)∧VK x (dF x r) t:=by
 have e:dF x r=gU x r t:=by unfold dF;rw[hk];rfl
 rw[e]
 exact⟨⟨hl.af,hl.le,hl.env,by
  show s1.done=D++fG (x.ah++[t])
  rw[hl.dn,hx.dn,hk,nV,Ψ],hl.bk⟩,rfl,rfl,rfl⟩
theorem xD{α:Type}{k:Nat}{h:Nat×Nat}{s:Ps}{f:Unit→Pm α}:(node l k h>>=f) s= .out∨(h.2≤s.done.length∧(node l k h>>=f) s=f () {s with done:=s.done++[⟨k,h.1,s.af,s.done.length - h.2+1⟩]}):=by
 show Pm.bind (node l k h) f s=_∨(_∧Pm.bind (node l k h) f s=_)
 unfold Pm.bind node
 by_cases hg:s.done.length≤4*l.length∧h.2≤s.done.length
 ·rw[ω hg];exact .inr ⟨hg.2,rfl⟩
 ·rw[χ hg];exact .inl rfl
theorem ahm:∀j∈[1,2,3,4,5,6,7,8,9,10],(qG (j+1)).all (aJ (qG j))=true∧(∀k∈qG (j+1),aJ (J5 j) k=false∧k<110)∧(∀k∈J5 j,aJ (qG j) k=true∧k<110∧k≠67):=by decide+kernel
theorem xX{k:Nat}{s0 s1:Ps}{x r:Sx}{ks:List Tr}{D1:List Nd}(hx:Rl l B D s0 x)(hd:s1.done=s0.done++fG ks)(hl:Rl l B D1 s1 r):Rl l B D {s1 with done:=s1.done++[⟨k,s0.af,s1.af,s1.done.length - s0.done.length+1⟩]} (gU x r (.mk k x.af r.af ks [])):=by
 refine⟨hl.af,hl.le,hl.env,?_,hl.bk⟩
 show s1.done++_=D++fG (x.ah++[_])
 rw[nV,nW,post,hd,hx.dn,hx.af,hl.af]
 simp only[Ψ,List.append_cancel_left_eq]
 have e:(D++(fG x.ah++fG ks)).length - (D++fG x.ah).length=(fG ks).length:=by simp;omega
 rw[e]
theorem Ce{p:Nat}(h:bz l p≠0):p<l.length:=by
 unfold bz at h
 split at h
 ·assumption
 ·exact absurd rfl h
theorem nM{j m:Nat}(hL:l.length≤90)(hj:j∈[1,2,3,4,5,6,7,8,9,10])(ih:∀k,k≤m→dZ l base B (.dB (j+1)) (.fI (35+(j+1))) (qG (j+1)) VE k):dZ l base B (.dB j) (.fI (35+j)) (qG j) VE m:=by
 intro x s0 D hx
 obtain⟨L1,L2,L3⟩:=ahm j hj
 have hj0:j≠0:=by rintro rfl;revert hj;decide
 have arM:j≠11:=by rintro rfl;revert hj;decide
 have axA:j≤10:=by
  have:∀j∈[1,2,3,4,5,6,7,8,9,10],j≤10:=by decide
  exact this j hj
 have hkj:gZ j=35+j:=by unfold gZ;rw[χ hj0]
 refine Sm.lk (ai5 m (35+j)) ?_
 rw[fD,xV arM,χ hj0]
 have hf:Rl l B s0.done s0 (fresh x):=hx.frame false
 have hih:=ih m (υ m) (fresh x) s0 s0.done hf
 show Sm l (x.af+1) (qG j) B D (VE x) _ (Pm.bind (run l base m (.fI (35+j+1))) _ s0)
 rw[show 35+j+1=35+(j+1) by omega]
 have hC:∀t:Sx,aJ (qG (j+1)) (kc l t.af)=true→jh l (dl l) j x t=some []:=fun t ht=>by
  unfold jh;have h2:=L2 _ (aU.1 ht)
  have e:wZ l j t.af=false:=by
   rw[RF j _ hj,uZ,χ η];exact h2.1
  rw[e];rfl
 have hZ:∀xs,xs≠[]→dl l (.iB j x xs)=(bu (jh l (dl l) j x) xs).bind fun y=>(dl l (.iB j x y)).bind fun z=>aG (xs.map (dF x)++z):=fun xs hxs=>by
  rw[fM];show(if xs.isEmpty then _ else _)=_;rw[χ (by simpa using hxs)]
 have it:=NI (l:=l) (B:=B) (D:=s0.done) (D2:=D) (V:=VE x) (nx:=jh l (dl l) j x) (Z:=fun xs=>dl l (.iB j x xs)) (pt:=dF x) (C:=qG (j+1)) (E:=qG j) (I:=fun ub s r=>∃t,r.ah=[t]∧(ub=true↔47≤t.k)∧ky l s<36+j) (loop:=fun m ub=>run l base m (.fT (35+j) (s0.af,s0.done.length) ub)) hL (pF j x) hZ (fun z=>rfl) hC L1 (M:=m) (fun m' ub s r hm' hr hi=>by
  obtain⟨t,ht,hu,hlv⟩:=hi
  cases m' with
  |zero=>exact .inr (.inl (by show run l base 0 _ s=_;rw[run]))
  |succ n=>
   have hop:=Yh (l:=l) hr.af hj;show(_∧∃v,run l base (n+1) _ s=_∧_)∨run l base (n+1) _ s=_∨_;rw[x9];by_cases c:ky l s<35+j
   ·rw[ω c]
    rw[aa5 η]at hop;obtain⟨a,b⟩:=AO hx hr ht;exact .inl ⟨by unfold jh;rw[hop];rfl,_,rfl,a,t,b,hu⟩
   ·rw[χ c]
    have hlv:ky l s=35+j:=by omega
    rw[hlv,aa4 rfl]at hop;rw[hlv];right
    have hE:aJ (qG j) (kc l r.af)=true:=by
     rw[RF j _ hj]at hop;have h3:=L3 _ (aU.1 hop);have e:=uZ (l:=l) r.af
     have:kc l r.af=k0 l r.af:=by
      by_cases c:kc l r.af=110∨kc l r.af=111
      ·rw[ω c]at e;exact absurd e h3.2.2
      ·rw[χ c]at e;exact e.symm
     rw[this];exact h3.1
    have hm:n≤m:=by omega
    by_cases hg:s.af+1≤l.length
    case neg=>
     left;show Pm.bind (step l 1) _ s=_;unfold Pm.bind step;rw[χ hg]
    right;refine⟨hE,n,(step l 1>>=fun _=>run l base n (.fI (35+j+1))>>=fun _=>node l (35+j) (s0.af,s0.done.length)>>=fun _=>pure Va.un),fun _=>false,aar n,?_,?_⟩
    ·simp only[bG]
     try rfl
    ·rw[vT hg]
     have hf2:Rl l B s.done (bU s) {af:=r.af+1,env:=r.env}:=⟨by show r.af+1=s.af+1;rw[hr.af],by show r.af+1≤_;rw[hr.af];exact hg,hr.env,by simp[fG,bU],hr.bk⟩;have h2:=ih n hm {af:=r.af+1,env:=r.env} (bU s) s.done hf2;unfold jh;rw[hop,ω rfl];unfold vJ;rw[χ hj0,ht];show Sm l (r.af+1) (qG (j+1)) B s0.done _ _ (Pm.bind (run l base n (.fI (35+j+1))) _ (bU s));rw[show 35+j+1=35+(j+1) by omega];unfold Pm.bind
     cases e6:run l base n (.fI (35+(j+1))) (bU s)with
     |out=>trivial
     |no=>
      rw[e6]at h2;obtain⟨zs,h3,h4⟩:=h2;rw[h3];exact⟨_,rfl,(h4.map (g:=fun y=>iA (gZ j) x.af y [([t]:List Tr).headD zT,y.ah.headD zT]) (fun _=>rfl)).le (by show _≤r.af+1+1;omega) (by rw[Θ];exact fun x hx=>aU.2 hx)⟩
     |ok v s3=>
      rw[e6]at h2;obtain⟨zs,r2,h3,h4,h5,t2,⟨h6, -, -⟩, -⟩:=h2;have h6:r2.ah=[t2]:=h6;rw[h3];show Sm l (r.af+1) (qG (j+1)) B s0.done _ _ ((node l (35+j) (s0.af,s0.done.length)>>=fun _=>pure Va.un) s3)
      rcases xD (l:=l) (k:=35+j) (h:=(s0.af,s0.done.length)) (s:=s3) (f:=fun _=>pure Va.un)with e|⟨-,e⟩
      ·rw[e];trivial
      ·rw[e]
       have hfr:=(h4.map (g:=fun y=>iA (gZ j) x.af y [([t]:List Tr).headD zT,y.ah.headD zT]) (fun _=>rfl)).le (q:=r.af+1) (by show _≤r.af+1+1;omega) (E:=qG (j+1)) (by rw[Θ];exact fun x hx=>aU.2 hx)
       have er:iA (gZ j) x.af r2 [([t]:List Tr).headD zT,r2.ah.headD zT]=iA (gZ j) x.af r2 [t,t2]:=by rw[h6];rfl
       refine⟨_,_,rfl,hfr,?_,_,by rw[er];rfl,?_,?_⟩
       ·rw[er,hkj];exact RI hx hr ht h5 h6
       ·rw[hkj]
        show false=true↔47≤35+j;constructor
        ·intro h;cases h
        ·intro h;omega
       ·have:=Wt e6
        show ky l s3<36+j
        omega)
 unfold Pm.bind
 cases e6:run l base m (.fI (35+(j+1))) s0 with
 |out=>trivial
 |no=>
  rw[e6]at hih;obtain⟨zs,h3,h4⟩:=hih;rw[h3];exact⟨_,F4 hL (pF j x) hZ (fun z=>rfl) hC h4,(h4.map (g:=dF x) (fun z=>rfl)).le (υ _) L1⟩
 |ok v s1=>
  rw[e6]at hih;obtain⟨zs,r,h3,h4,h5,t,⟨h6, -, -⟩,h7⟩:=hih;rw[h3];refine it m (x.af+1) v.bool s1 r zs (υ m) h4 h5 ⟨t,h6,h7,?_⟩;have:=Wt e6;omega
theorem Yi{m:Nat}(ih:∀k,k<m→dZ l base B (.call nU) .cast zI VE k):dZ l base B (.dB 11) (.fI 46) (qG 11) VE m:=by
 intro x s D hx
 rw[FY]
 cases m with
 |zero=>rw[run];trivial
 |succ n=>
  have hc:=ih n (aar n) x s D hx;rw[run,fD];show Sm l (x.af+1) _ B D (VE x) _ (Pm.bind (run l base n .cast) _ s);unfold Pm.bind
  cases e:run l base n .cast s with
  |out=>trivial
  |no=>rw[e]at hc;exact hc
  |ok v s1=>
   rw[e]at hc;show Sm l _ _ B D (VE x) _ (run l base n (.fT 46 (s.af,s.done.length) v.bool) s1)
   cases n with
   |zero=>rw[run];trivial
   |succ n=>
    rw[x9,ω (by have:=KM (l:=l) s1;omega)];obtain⟨xs,r,h1,h2,h3,h4⟩:=hc;exact⟨xs,r,h1,h2,h3,h4⟩
theorem aaE{m:Nat}(hL:l.length≤90)(ih:∀k,k<m→dZ l base B (.call nU) .cast zI VE k):dZ l base B (.dB 1) (.fI 36) (qG 1) VE m:=by
 have h11:∀k,k≤m→dZ l base B (.dB 11) (.fI (35+11)) (qG 11) VE k:=fun k hk=>Yi fun i hi=>ih i η
 have h10:∀k,k≤m→dZ l base B (.dB 10) (.fI (35+10)) (qG 10) VE k:=fun k hk=>nM hL ζ fun i hi=>h11 i η
 have h9:∀k,k≤m→dZ l base B (.dB 9) (.fI (35+9)) (qG 9) VE k:=fun k hk=>nM hL ζ fun i hi=>h10 i η
 have h8:∀k,k≤m→dZ l base B (.dB 8) (.fI (35+8)) (qG 8) VE k:=fun k hk=>nM hL ζ fun i hi=>h9 i η
 have h7:∀k,k≤m→dZ l base B (.dB 7) (.fI (35+7)) (qG 7) VE k:=fun k hk=>nM hL ζ fun i hi=>h8 i η
 have h6:∀k,k≤m→dZ l base B (.dB 6) (.fI (35+6)) (qG 6) VE k:=fun k hk=>nM hL ζ fun i hi=>h7 i η
 have h5:∀k,k≤m→dZ l base B (.dB 5) (.fI (35+5)) (qG 5) VE k:=fun k hk=>nM hL ζ fun i hi=>h6 i η
 have h4:∀k,k≤m→dZ l base B (.dB 4) (.fI (35+4)) (qG 4) VE k:=fun k hk=>nM hL ζ fun i hi=>h5 i η
 have h3:∀k,k≤m→dZ l base B (.dB 3) (.fI (35+3)) (qG 3) VE k:=fun k hk=>nM hL ζ fun i hi=>h4 i η
 have h2:∀k,k≤m→dZ l base B (.dB 2) (.fI (35+2)) (qG 2) VE k:=fun k hk=>nM hL ζ fun i hi=>h3 i η
 exact nM hL ζ h2
theorem F5{C:List Nat}{f:Sx→Option (List Sx)}{h:Sx→Sx}:∀{xs:List Sx},(∀t:Sx,aJ C (kc l t.af)=true→f t=some [h t])→(∀x∈xs,aJ C (kc l x.af)=true)→bu f xs=some (xs.map h)
 |[],_,_=>rfl
 |a::r,hf,hx=>by rw[di,hf a (hx a (ab6 ..)),F5 hf fun x hx'=>hx x (abM _ hx')];rfl
theorem aaF{p:Nat}{C E:List Nat}{f:Sx→Option (List Sx)}{h:Sx→Sx}{xs:List Sx}(hL:l.length≤90)(hx:Al l p C xs)(hh:Kp h)(GM:C.all (aJ E)=true)(hf:∀t:Sx,aJ C (kc l t.af)=true→f t=some [h t]){α:Type}{V:α→Ps→Sx→Prop}:Sm l p E B D V ((bu f xs).bind aG) (.no:Rs α):=by
 rw[F5 hf hx.2]
 exact⟨_,(hx.map hh).1.aG hL,(hx.map hh).le (υ _) GM⟩
theorem aaG{α:Type}{p:Nat}{C E:List Nat}{V:α→Ps→Sx→Prop}{f:Sx→Option (List Sx)}{h:Sx→Sx}{xs:List Sx}{r:Sx}{R:Rs α}(hL:l.length≤90)(hF:Fr l p C xs r)(hh:Kp h)(GM:C.all (aJ E)=true)(hf:∀t:Sx,aJ C (kc l t.af)=true→f t=some [h t])(hr:Sm l r.af E B D V (f r) R):Sm l p E B D V ((bu f xs).bind aG) R:=by
 obtain⟨hd,A,Z,rfl,jK⟩:=hF
 have e:∀z,f r=some z→bu f (A++r::Z)=some (A.map h++(z++Z.map h)):=fun z hz=>by
  rw[mi,di,F5 hf fun x hx=>(jK x (aby _ hx)).1,F5 hf fun x hx=>(jK x (abD _ hx)).1,hz];rfl
 have hp:p≤r.af:=hd.lo r ν
 have arN:eP l p ((A++Z).map h):=(hd.sub (agE _ ((List.Sublist.refl A).append (agu r Z)))).map hh
 have hlt:∀x∈(A++Z).map h,aJ E (kc l x.af)=true∧x.af<r.af:=fun x hx=>by
  obtain⟨y,hy,rfl⟩:=abt.1 hx;rw[hh];exact⟨lU GM (jK y hy).1,(jK y hy).2⟩
 have H8:∀z,eP l r.af z→eP l p (A.map h++(z++Z.map h)):=fun z hz=>by
  refine eP.Rx ?_ (arN.fK hz hp fun x hx=>(hlt x hx).2);rw[acb,Ψ];exact agy.append_left _
 cases R with
 |out=>trivial
 |no=>
  obtain⟨z,h1,h2,h3⟩:=hr;rw[e z h1];refine⟨_,(H8 z h2).aG hL,H8 z h2,fun x hx=>?_⟩
  rcases Jv hx with hx|hx
  ·exact h3 x hx
  ·rw[←acb]at hx;exact(hlt x hx).1
 |ok a s=>
  obtain⟨z,r1,h1,h2,h3⟩:=hr;rw[e z h1];have h4:=h2.lo.1;refine⟨_,r1,(H8 z h2.1).aG hL, .xB (H8 z h2.1) ?_ fun x hx=>?_,h3⟩
  ·exact abD _ (aby _ h2.mem.1)
  ·rcases Jv hx with hx|hx
   ·exact h2.mem.2 x hx
   ·rw[←acb]at hx;exact .inr ⟨(hlt x hx).1,by have:=(hlt x hx).2;omega⟩
theorem aaH{α:Type}{q:Nat}{E:List Nat}{V:α→Ps→Sx→Prop}{o:Option (List Sx)}{R:Rs α}{u:Sx}{g:Sx→Sx}(hu:aJ E (kc l u.af)=true)(hq:u.af<q)(hl:u.af≤l.length)(h:Sm l q E B D V (o.bind fun zs=>some (zs.map g)) R):Sm l u.af E B D V (o.bind fun zs=>some (u::zs.map g)) R:=by
 have hd:∀{xs},eP l q xs→eP l u.af (u::xs):=fun h=>(eP.ay (υ _) hl).fK h η fun x hx=>by rw[Φ.1 hx];exact hq
 cases o with
 |none=>
  cases R with
  |out=>trivial
  |no=>obtain⟨xs,h1,h2⟩:=h;cases h1
  |ok a s=>obtain⟨xs,r,h1,h2⟩:=h;cases h1
 |some zs=>
  cases R with
  |out=>trivial
  |no=>
   obtain⟨xs,h1,h2,h3⟩:=h;cases h1;exact⟨_,rfl,hd h2,fun x hx=>(abf.1 hx).elim (fun e=>e▸hu) (h3 x)⟩
  |ok a s=>
   obtain⟨xs,r,h1,h2,h3⟩:=h;cases h1;have h4:=h2.lo.1;exact⟨_,r,rfl, .xB (hd h2.1) (abM _ h2.mem.1) fun x hx=>(abf.1 hx).elim (fun e=> .inr (e▸⟨hu,by omega⟩)) (h2.mem.2 x),h3⟩
theorem Ac:(∀k∈qG 1,k≠93)∧(qG 1).all (aJ vX)=true∧(∀k∈vX,aJ RB k=false∧k<110∧k≠67)∧vX.all (aJ lI)=true:=by decide+kernel
theorem ado(t:Bs):bg t<110:=by
 have c1:pO.idxOf t≤46:=acu (l:=pO)
 have c2:kD.idxOf t≤43:=acu (l:=kD)
 unfold bg
 repeat' split
 all_goals omega
theorem mZ{p:Nat}{t:Bs}{c:Nat}(hc:bg t=c)(h0:c≠0)(h3:c≠67):dJ l p t=(kc l p==c):=by
 have b:=ado t
 rw[CB p η,uZ,hc]
 split
 ·next h=>rw[abF (agh h3),abF η]
 ·rfl
theorem Vl{m:Nat}(hL:l.length≤90)(ih1:∀k,k<m→dZ l base B (.call nU) .cast zI VE k)(BI:∀k,k<m→dZ l base B (.call lq) .o9 zJ (fun x=>VU x) k)(O4:∀k,k<m→dZ l base B (.call sO) .dx vX VE k):dZ l base B .dx .dx vX VE m:=by
 intro x s D hx
 have e:dl l (.dx x)=(dl l (.dB 1 (fresh x))).bind fun y=>(bu (nS l (dl l) x) y).bind aG:=by rw[fM];rfl
 rw[e]
 cases m with
 |zero=>rw[run];trivial
 |succ n=>
  rw[run,fD];have hih:=aaE (m:=n) hL (fun k hk=>ih1 k η) (fresh x) s s.done (hx.frame false)
  have hf:∀t:Sx,aJ (qG 1) (kc l t.af)=true→nS l (dl l) x t=some [dF x t]:=fun t ht=>by
   unfold nS;rw[mZ (c:=93) ζ ζ ζ,abF (Ac.1 _ (aU.1 ht))];rfl
  show Sm l (x.af+1) vX B D (VE x) _ (Pm.bind (run l base n (.fI 36)) _ s);unfold Pm.bind
  cases e6:run l base n (.fI 36) s with
  |out=>trivial
  |no=>
   rw[e6]at hih;obtain⟨zs,h3,h4⟩:=hih;rw[h3];exact aaF (h:=dF x) hL h4 (fun _=>rfl) Ac.2.1 hf
  |ok uv s1=>
   rw[e6]at hih;obtain⟨zs,r,h3,h4,hl,t,⟨h6, -, -⟩,hu⟩:=hih;have hk:r.ah=[t]:=h6;rw[h3];refine aaG hL h4 (h:=dF x) (fun _=>rfl) Ac.2.1 hf ?_;show Sm l r.af vX B D (VE x) (nS l (dl l) x r) ((fU l [63]>>=_) s1);have hq:=iQ hl (t:=[63]) rfl ζ;obtain⟨pa,pb⟩:=AO hx hl hk;unfold nS;rw[iZ r.env r.af (t:=[63]) ζ,←hq]
   cases hs:aX l s1 0 [63]with
   |false=>
    rw[dM hs];exact Sm.ay rfl (υ _) pa ⟨t,pb,hu⟩
   |true=>
    rw[dM hs];rw[hs]at hq
    have hkc:aJ vX (kc l r.af)=true:=by
     have:=mZ (l:=l) (p:=r.af) (t:=[63]) (c:=93) ζ ζ ζ;rw[iZ r.env r.af (t:=[63]) ζ,←hq]at this;rw[aaZ.1 this.symm];decide
    have hup:Rl l B s1.done (bU s1) {af:=r.af+1,env:=r.env}:=⟨by show r.af+1=s1.af+1;rw[hl.af],LK (dQ ζ hq.symm),hl.env,by simp[fG,bU],hl.bk⟩;rw[ω rfl,hk];refine aaH (u:=dF x r) (q:=r.af+1) (g:=fun z=>dF x (iA 35 x.af z [([t]:List Tr).headD zT,z.ah.getD 0 zT,z.ah.getD 1 zT])) hkc (aar _) hl.le ?_;show Sm l (r.af+1) vX B D (VE x) (wr _ _) ((run l base n .o9>>=fun _=>bY l [58]>>=fun _=>run l base n .dx>>=fun _=>node l 35 (s.af,s.done.length)>>=fun _=>pure (Va.bo false)) (bU s1))
    refine dV hL (.ay (p:=r.af+1) (C:=[]) (υ _) hup.le) (BI n (aar n) _ _ _ hup) (fun _=>rfl) (abK _) ζ rfl θ fun v s2 r2 jM _ hF2 h2 hl2 hv2=>?_
    obtain⟨t1,hk1, -, -⟩:=hv2;have hk1:r2.ah=[t1]:=hk1;have h2:r.af+1+1≤r2.af:=h2
    refine eD hF2 hl2 η rfl ζ ζ ζ θ fun RJ hl3=>?_
    refine dV hL RJ (O4 n (aar n) _ _ _ hl3) (fun _=>rfl) (by show r.af+1≤r2.af+1+1;omega) ζ rfl θ fun v s4 r4 RN _ hF4 h4' hl4 hv4=>?_
    obtain⟨t2,⟨hk4, -, -⟩, -⟩:=hv4
    have hk4:r4.ah=[t1,t2]:=by rw[hk4];show r2.ah++[t2]=_;rw[hk1];rfl
    rcases xD (l:=l) (k:=35) (h:=(s.af,s.done.length)) (s:=s4) (f:=fun _=>pure (Va.bo false))with e|⟨-,e⟩
    ·rw[e];trivial
    ·rw[e]
     have hd:s4.done=s.done++fG [t,t1,t2]:=by
      rw[hl4.dn,hl.dn,hk,hk4,Ψ,←nV];rfl
     have er:dF x (iA 35 x.af r4 [([t]:List Tr).headD zT,r4.ah.getD 0 zT,r4.ah.getD 1 zT])=gU x r4 (.mk 35 x.af r4.af [t,t1,t2] []):=by rw[hk4];rfl
     exact mr hL hF4 (by show r.af+1≤r2.af+1+1;omega) θ (fun _=>rfl) (by rw[er];exact xX hx hd hl4) (by rw[er];exact⟨_,⟨rfl,rfl,rfl⟩,by show false=true↔47≤35;decide⟩)
theorem Jz:(∀k∈RB,aJ lI k=true∧k<110)∧lI.all (aJ zJ)=true∧(∀k∈lI,k≠67∧k≠110∧k≠111)∧zJ.all (aJ zJ)=true:=by decide+kernel
theorem Vm{m:Nat}(hL:l.length≤90)(O4:∀k,k<m→dZ l base B .dx .dx vX VE k)(iha:∀k,k<m→dZ l base B .assign .assign lI (fun x=>VU x) k):dZ l base B .assign .assign lI (fun x=>VU x) m:=by
 intro x s D hx
 have e:dl l (.assign x)=(dl l (.dx (fresh x))).bind fun y=>(bu (mX l (dl l) x) y).bind aG:=by rw[fM];rfl
 rw[e]
 cases m with
 |zero=>rw[run];trivial
 |succ n=>
  rw[run,fD];have hih:=O4 n (aar n) (fresh x) s s.done (hx.frame false)
  have hk0:∀p,aJ vX (kc l p)=true→¬(bz l p=7∧yR.contains (bM l p)=true):=fun p hp c=>by
   have h1:=Ac.2.2.1 _ (aU.1 hp)
   have h2:=Yg (l:=l) p|>.1 c
   rw[uZ,χ η,h1.1]at h2;cases h2
  have hf:∀t:Sx,aJ vX (kc l t.af)=true→mX l (dl l) x t=some [dF x t]:=fun t ht=>by
   unfold mX;rw[χ fun c=>hk0 _ ht c.2];rfl
  show Sm l (x.af+1) lI B D (VU x) _ (Pm.bind (run l base n .dx) _ s);unfold Pm.bind
  cases e6:run l base n .dx s with
  |out=>trivial
  |no=>
   rw[e6]at hih;obtain⟨zs,h3,h4⟩:=hih;rw[h3];exact aaF (h:=dF x) hL h4 (fun _=>rfl) Ac.2.2.2 hf
  |ok uv s1=>
   rw[e6]at hih;obtain⟨zs,r,h3,h4,hl,t,⟨h6, -, -⟩,hu⟩:=hih;have hk:r.ah=[t]:=h6;rw[h3];refine aaG hL h4 (h:=dF x) (fun _=>rfl) Ac.2.2.2 hf ?_
   have hc:(az l s1 0).c=bz l r.af:=by rw[hl.af];exact ku s1 0
   have ht:(az l s1 0).t=bM l r.af:=by rw[hl.af];rfl
   have ea:∀(k:Bool→Pm Va),(ny l>>=k) s1=k ((az l s1 0).c==7&&Hd (az l s1 0).t) s1:=fun k=>rfl
   show Sm l r.af lI B D (VU x) (mX l (dl l) x r) ((ny l>>=_) s1);rw[ea,hc,ht,adn];obtain⟨pa,pb⟩:=AO hx hl hk;unfold mX;rw[hk];by_cases c:bz l r.af=7∧yR.contains (bM l r.af)=true
   case neg=>
    have hb:(bz l r.af==7&&yR.contains (bM l r.af))=false:=by
     rw[Bool.and_eq_false_iff];by_cases c7:bz l r.af=7
     ·exact .inr (acL _|>.mp fun q=>c ⟨c7,q⟩)
     ·exact .inl (abF c7)
    rw[χ fun q=>c q.2,hb,agQ];exact Sm.ay rfl (υ _) pa ⟨t,pb⟩
   have hb:(bz l r.af==7&&yR.contains (bM l r.af))=true:=by rw[c.1,c.2];rfl
   rw[hb,Bool.and_true]
   cases hub:uv.bool with
   |false=>
    rw[χ fun q=>by rw[hu.2 q.1]at hub;cases hub];exact Sm.ay rfl (υ _) pa ⟨t,pb⟩
   |true=>
    rw[ω ⟨hu.1 hub,c⟩];have h1:=Jz.1 _ (aU.1 (Yg (l:=l) r.af|>.1 c))
    have hkc:aJ lI (kc l r.af)=true:=by
     have e:=uZ (l:=l) r.af;by_cases c:kc l r.af=110∨kc l r.af=111
     ·rw[ω c]at e
      rw[e]at h1;exact absurd h1.1 ζ
     ·rw[χ c]at e
      rw[←e];exact h1.1
    have hlt:r.af<l.length:=Ce (by rw[c.1];decide);have hup:Rl l B s1.done (bU s1) {af:=r.af+1,env:=r.env}:=⟨by show r.af+1=s1.af+1;rw[hl.af],hlt,hl.env,by simp[fG,bU],hl.bk⟩;refine aaH (u:=dF x r) (q:=r.af+1) (g:=fun z=>dF x (iA 34 x.af z [([t]:List Tr).headD zT,z.ah.headD zT])) hkc (aar _) hl.le ?_;have hi:=iha n (aar n) _ _ _ hup;have hb:(step l 1>>=fun _=>run l base n .assign>>=fun _=>node l 34 (s.af,s.done.length)>>=fun _=>pure Va.un) s1=(run l base n .assign>>=fun _=>node l 34 (s.af,s.done.length)>>=fun _=>pure Va.un) (bU s1):=vT (by rw[←hl.af];exact hlt) _;rw[ω rfl];show Sm l (r.af+1) lI B D (VU x) _ ((step l 1>>=fun _=>run l base n .assign>>=fun _=>node l 34 (s.af,s.done.length)>>=fun _=>pure Va.un) s1);rw[hb];show Sm l (r.af+1) lI B D (VU x) _ (Pm.bind _ _ _);unfold Pm.bind
    cases e7:run l base n .assign (bU s1)with
    |out=>trivial
    |no=>
     rw[e7]at hi;obtain⟨ws,h8,h9⟩:=hi;rw[h8];exact⟨_,rfl,(h9.map (g:=fun z=>dF x (iA 34 x.af z [([t]:List Tr).headD zT,z.ah.headD zT])) (fun _=>rfl)).le (abK _) θ⟩
    |ok v2 s2=>
     rw[e7]at hi;obtain⟨ws,r2,h8,h9,hl2,t2,hk2, -, -⟩:=hi;have hk2:r2.ah=[t2]:=hk2;rw[h8];show Sm l (r.af+1) lI B D (VU x) _ ((node l 34 (s.af,s.done.length)>>=fun _=>pure Va.un) s2)
     rcases xD (l:=l) (k:=34) (h:=(s.af,s.done.length)) (s:=s2) (f:=fun _=>pure Va.un)with e|⟨-,e⟩
     ·rw[e];trivial
     ·rw[e]
      have hd:s2.done=s.done++fG [t,t2]:=by
       rw[hl2.dn,hl.dn,hk,hk2,Ψ,←nV];rfl
      have er:dF x (iA 34 x.af r2 [([t]:List Tr).headD zT,r2.ah.headD zT])=gU x r2 (.mk 34 x.af r2.af [t,t2] []):=by rw[hk2];rfl
      refine⟨_,_,rfl,(h9.map (g:=fun z=>dF x (iA 34 x.af z [([t]:List Tr).headD zT,z.ah.headD zT])) (fun _=>rfl)).le (abK _) θ,?_,?_⟩
      ·rw[er];exact xX hx hd hl2
      ·rw[er];exact⟨_,rfl,rfl,rfl⟩
theorem KO{p:Nat}(h:dJ l p [44]=true):aJ [67,110,111] (kc l p)=true:=by
 rw[CB p ζ]at h
 have h:k0 l p=67:=aaZ.1 h
 unfold kc Rh
 rw[h,ω rfl]
 repeat' split
 all_goals decide
theorem Yj(p:Nat):wZ l 0 p=dJ l p [44]:=by
 unfold wZ
 cases e:dJ l p [44]with
 |true=>
  unfold dJ at e;simp only[aaS,abC,aaZ]at e;unfold bz bM;rw[ω e.1.1,e.1.2,e.2];rfl
 |false=>
  cases c:(bz l p==7&&(FN 0).contains (bM l p))with
  |false=>rfl
  |true=>
   rw[aaS,aaZ]at c
   have h2:bM l p=[44]:=by simpa[FN]using ab0.1 c.2
   have hp:=Ce (l:=l) (p:=p) (by rw[c.1];decide);have h1:=c.1;unfold bz at h1;rw[ω hp]at h1;unfold dJ at e;unfold bM at h2;rw[h1,h2]at e;simp[hp]at e
theorem aaI{m:Nat}(hL:l.length≤90)(ih:∀k,k<m→dZ l base B (.call jk) .assign lI (fun x=>VU x) k):dZ l base B (.call lq) .o9 zJ (fun x=>VU x) m:=by
 intro x s0 D hx
 rw[H7,xV ζ,ω rfl]
 cases m with
 |zero=>rw[run];trivial
 |succ m=>
  rw[run,fD];have hih:=ih m (aar m) (fresh x) s0 s0.done (hx.frame false)
  have hC:∀t:Sx,aJ lI (kc l t.af)=true→jh l (dl l) 0 x t=some []:=fun t ht=>by
   unfold jh;have h2:=Jz.2.2.1 _ (aU.1 ht)
   have e:wZ l 0 t.af=false:=by
    rw[Yj]
    cases c:dJ l t.af [44]with
    |false=>rfl
    |true=>
     have:=aU.1 (KO c);simp only[abf,abZ,acz]at this;omega
   rw[e];rfl
  have hZ:∀xs,xs≠[]→dl l (.iB 0 x xs)=(bu (jh l (dl l) 0 x) xs).bind fun y=>(dl l (.iB 0 x y)).bind fun z=>aG (xs.map (dF x)++z):=fun xs hxs=>by
   rw[fM];show(if xs.isEmpty then _ else _)=_;rw[χ (by simpa using hxs)]
  have it:=NI (l:=l) (B:=B) (D:=s0.done) (D2:=D) (V:=VU x) (nx:=jh l (dl l) 0 x) (Z:=fun xs=>dl l (.iB 0 x xs)) (pt:=dF x) (C:=lI) (E:=zJ) (I:=fun(_:Unit) s r=>∃t,r.ah=[t]) (loop:=fun m _=>run l base m (.yO (s0.af,s0.done.length))) hL (pF 0 x) hZ (fun z=>rfl) hC Jz.2.1 (M:=m) (fun m' _ s r hm' hr hi=>by
   obtain⟨t,ht⟩:=hi
   cases m' with
   |zero=>exact .inr (.inl (by show run l base 0 _ s=_;rw[run]))
   |succ n=>
    have hop:=iQ hr (t:=[44]) rfl ζ
    have Yk:dJ l r.af [44]=aX l s 0 [44]:=by rw[hop];exact iZ _ _ ζ
    show(_∧∃v,run l base (n+1) _ s=_∧_)∨run l base (n+1) _ s=_∨_;rw[run]
    cases hs:aX l s 0 [44]with
    |false=>
     rw[dM hs];obtain⟨a,b⟩:=AO hx hr ht;exact .inl ⟨by unfold jh;rw[Yj,Yk,hs];rfl,_,rfl,a,t,b⟩
    |true=>
     rw[dM hs];rw[hs]at Yk;refine .inr (.inr ⟨lU (C:=[67,110,111]) ζ (KO Yk),n,fun s=>(run l base n .assign>>=fun _=>node l 33 (s0.af,s0.done.length)>>=fun _=>pure Va.un) (bU s),fun _=>(),aar n,?_,?_⟩)
     ·show _=(((run l base n .assign>>=fun _=>node l 33 (s0.af,s0.done.length)>>=fun _=>pure Va.un))>>=fun _=>run l base n (.yO (s0.af,s0.done.length))) (bU s)
      simp only[bG];rfl
     ·have hup:Rl l B s.done (bU s) {af:=r.af+1,env:=r.env}:=⟨by show r.af+1=s.af+1;rw[hr.af],LK (dQ (t:=[44]) ζ (by rw[←hop];exact hs)),hr.env,by simp[fG,bU],hr.bk⟩
      have h2:=ih n η {af:=r.af+1,env:=r.env} (bU s) s.done hup;unfold jh;rw[Yj,Yk,ω rfl];unfold vJ;rw[ω rfl,ht];show Sm l (r.af+1) lI B s0.done _ _ (Pm.bind (run l base n .assign) _ (bU s));unfold Pm.bind
      cases e6:run l base n .assign (bU s)with
      |out=>trivial
      |no=>
       rw[e6]at h2;obtain⟨zs,h3,h4⟩:=h2;rw[h3];exact⟨_,rfl,(h4.map (g:=fun y=>iA (gZ 0) x.af y [([t]:List Tr).headD zT,y.ah.headD zT]) (fun _=>rfl)).le (abK _) θ⟩
      |ok v s3=>
       rw[e6]at h2;obtain⟨zs,r2,h3,h4,h5,t2,h6, -, -⟩:=h2;have h6:r2.ah=[t2]:=h6;rw[h3];show Sm l (r.af+1) lI B s0.done _ _ ((node l 33 (s0.af,s0.done.length)>>=fun _=>pure Va.un) s3)
       rcases xD (l:=l) (k:=33) (h:=(s0.af,s0.done.length)) (s:=s3) (f:=fun _=>pure Va.un)with e|⟨-,e⟩
       ·rw[e];trivial
       ·rw[e]
        have er:iA (gZ 0) x.af r2 [([t]:List Tr).headD zT,r2.ah.headD zT]=iA 33 x.af r2 [t,t2]:=by rw[h6];rfl
        refine⟨_,_,rfl,(h4.map (g:=fun y=>iA (gZ 0) x.af y [([t]:List Tr).headD zT,y.ah.headD zT]) (fun _=>rfl)).le (abK _) θ,?_,_,by rw[er];rfl⟩
        rw[er];exact RI hx hr ht h5 h6)
  show Sm l (x.af+1) zJ B D (VU x) _ (Pm.bind (run l base m .assign) _ s0);unfold Pm.bind
  cases e6:run l base m .assign s0 with
  |out=>trivial
  |no=>
   rw[e6]at hih;obtain⟨zs,h3,h4⟩:=hih;rw[h3];exact⟨_,F4 hL (pF 0 x) hZ (fun z=>rfl) hC h4,(h4.map (g:=dF x) (fun z=>rfl)).le (υ _) Jz.2.1⟩
  |ok v s1=>
   rw[e6]at hih;obtain⟨zs,r,h3,h4,h5,t,h6, -, -⟩:=hih;rw[h3];exact it m (x.af+1) () s1 r zs (υ m) h4 h5 ⟨t,h6⟩
end
end Go.Proofs.YtlboejdhmggjpaaGreat.Pp.Dr
