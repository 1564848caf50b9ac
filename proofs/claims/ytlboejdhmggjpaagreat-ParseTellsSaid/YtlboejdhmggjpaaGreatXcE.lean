import Derived.Deep.CutBlock
import Derived.Test.YtlboejdhmggjpaaGreatXdN
set_option linter.all false
namespace Go.Proofs.YtlboejdhmggjpaaGreat.Pp.Dr
set_option maxRecDepth 10000
section
variable (L:List Ct)
def Gw(e e':List (List Sd))(k:Nat):Prop:=∃a d δ,e=a++[d]∧e'=a++[d++δ]∧δ.length≤k
variable {e : List (List Sd)}
theorem Gw.refl (h:e≠[]):Gw e e 0:=⟨e.dropLast,e.getLast h,[],(acI h).symm,by rw[List.append_nil,acI h],υ _⟩
variable {e' e'' : List (List Sd)}
theorem Gw.trans {k m:Nat}(h:Gw e e' k)(h':Gw e' e'' m):Gw e e'' (k+m):=by
 obtain⟨a,d,x,rfl,rfl,hx⟩:=h
 obtain⟨a',d',y,h1,rfl,hy⟩:=h'
 obtain⟨rfl,h2⟩:=afy h1 rfl
 obtain rfl:=agP.1 h2
 exact⟨a,d,x++y,rfl,by rw[Ψ],by rw[Δ];omega⟩
theorem Gw.mono{e e':List (List Sd)}{k m:Nat}(h:Gw e e' k)(hm:k≤m):Gw e e' m:=let ⟨a,d,x,h1,h2,h3⟩:=h;⟨a,d,x,h1,h2,aaT h3 hm⟩
theorem Gw.len {k:Nat}(h:Gw e e' k):e'.length=e.length:=by
 obtain⟨a,d,x,rfl,rfl, -⟩:=h;simp
theorem Gw.ne {k:Nat}(h:Gw e e' k):e'≠[]:=by
 obtain⟨a,d,x,rfl,rfl, -⟩:=h;simp
theorem Gw.ds {k n:Nat}(h:Gw e e' k)(hd:∀d∈e,d.length≤n):∀d∈e',d.length≤n+k:=by
 obtain⟨a,d,x,rfl,rfl,hx⟩:=h
 intro y hy
 rcases abr.1 hy with hy|hy
 ·exact aaT (hd y (aby _ hy)) η
 ·obtain rfl:=Φ.1 hy
  have:=hd d ν;rw[Δ];omega
theorem JI{e:List (List Sd)}(x:Bs)(b:Bool)(h:e≠[]):Gw e (fV e x b) 1:=by
 unfold fV
 split
 ·exact(Gw.refl h).mono η
 ·refine⟨e.dropLast,e.getLast h,[(x,b)],(acI h).symm,?_,υ _⟩
  rw[afU,afY h];rfl
mutual
def TQ:Tr→Prop
 | .mk _ lo hi ks ds=>lo≤100000∧hi≤100000∧ds.length≤300∧oQ ks
def oQ:List Tr→Prop
 |[]=>True
 |t::r=>TQ t∧oQ r
end
mutual
theorem TQ.tg:∀{t:Tr},TQ t→TG t
 | .mk _ _ _ _ _,⟨h1,h2,h3,h4⟩=>⟨h1,h2,by omega,oQ.tg h4⟩
theorem oQ.tg:∀{l:List Tr},oQ l→Md l
 |[],_=>trivial
 |_::_,⟨h1,h2⟩=>⟨TQ.tg h1,oQ.tg h2⟩
end
theorem oQ.fK:∀{l r:List Tr},oQ l→oQ r→oQ (l++r)
 |[],_,_,h=>h
 |_::_,_,⟨h1,h2⟩,h=>⟨h1,oQ.fK h2 h⟩
theorem oQ.mem:∀{l:List Tr} {t:Tr},oQ l→t∈l→TQ t
 |a::r,t,⟨h1,h2⟩,h=>by
  rcases abf.1 h with rfl|h
  ·exact h1
  ·exact oQ.mem h2 h
theorem oQ.headD{l:List Tr}(h:oQ l):TQ (l.headD zT):=by
 cases l with
 |nil=>exact⟨by decide,by decide,by decide,trivial⟩
 |cons a r=>exact h.1
theorem oQ.getD{l:List Tr}(h:oQ l)(i:Nat):TQ (l.getD i zT):=by
 rw[abN]
 cases e:l[i]? with
 |none=>exact⟨by decide,by decide,by decide,trivial⟩
 |some t=>exact h.mem (agG e)
theorem Me:∀{t:Tr} {x:Tr},TQ t→dG L t=some (some x)→TQ x
 | .mk _ lo hi [] ds,x,h,e=>by
   unfold dG at e
   split at e<;>cases e
 | .mk k lo hi (y::r) ds,x,⟨_,_,_,h1,h2⟩,e=>by
   unfold dG at e
   split at e
   ·split at e
    ·next z he=>exact Me h1 (e▸he)
    ·split at e
     ·next z r'=>cases e;exact h2.1
     ·split at e<;>cases e
   ·cases e;exact h1
def Il(w:Bs):Nat:=if w=nT∨w=FR∨w=Hq∨w=xS∨w=Cs∨w=Ef then 2 else 0
def DU(w:Bs):Nat:=if w=Ht∨w=Cy∨w=lq∨w=jk∨w=sO∨w=yT∨w=nU∨w=ry∨w=vL∨w=yU then 1 else 0
def cW(w:Bs):Nat:=if w=Ra then 1 else if w=Ej then 2 else if w=mY∨w=Ya then 3 else 4
theorem cW4(w:Bs):cW w≤4:=by unfold cW;split;decide;split;decide;split<;>decide
structure Ab where
 o:Nat
 sl:Nat
 tk:Bool
 cf:Bool
 kd:Nat
def Ab.le(a b:Ab):Bool:=a.o==b.o&&decide (a.sl≤b.sl)&&(!a.tk||b.tk)&&(!a.cf||b.cf)&&decide (a.kd≤b.kd)
def Ab.Ij(a b:Ab):Option Ab:=if a.o=b.o then some ⟨a.o,min a.sl b.sl,a.tk&&b.tk,a.cf&&b.cf,min a.kd b.kd⟩else none
theorem Ab.WW{a b c:Ab}(h:a.Ij b=some c):c.le a=true∧c.le b=true:=by
 unfold Ab.Ij at h
 split at h
 ·next e=>
  obtain rfl:=aau h;obtain⟨a1,a2,a3,a4,a5⟩:=a;obtain⟨b1,b2,b3,b4,b5⟩:=b;obtain rfl:a1=b1:=e;simp only[Ab.le,Nat.min_le_left,Nat.min_le_right,decide_true,afA]
  cases a3<;>cases a4<;>cases b3<;>cases b4<;>exact⟨rfl,rfl⟩
 ·cases h
def kq(ys:List Sy):Nat:=if ys.map (fun y=>match y with| .nm t=>t|_=>[])=[lq,[],sO]then 2 else 0
section
variable (c:Nat)
def chA(top:Bool)(t:Bs)(σ:Ab):Option Ab:=
 if t=Hr then(if 1≤σ.sl then some {σ with sl:=σ.sl - 1}else none)
 else if t=X5 then(if 1≤σ.sl∧top=true∧σ.tk=true then some {σ with sl:=σ.sl - 1}else none)
 else if t=NA then(if σ.o=0 then some {σ with o:=1,sl:=0}else none)
 else if t=Ei then(if σ.o=0 then none else some {σ with o:=0,sl:=0,cf:=σ.o==1})
 else if t=Nt then(if σ.o=0∧1≤σ.sl then some {σ with o:=2,sl:=0}else none)
 else if t=Hw then(if top=true then some {σ with tk:=true}else some σ)
 else some σ
mutual
def WX:Bool→Sy→Ab→Option Ab
 |_, .tx t,σ=>if t≠[]∧t.length≤1000 then some {σ with sl:=σ.sl+2,tk:=true}else none
 |top, .nm t,σ=>if t=[]then none else if t.headD 0=64 then chA top t σ else if c+(if σ.o=0 then 0 else 1)≤(if σ.tk=true then 8 else 0)+cW t then some {σ with sl:=σ.sl+Il t,tk:=true,cf:=false,kd:=σ.kd+DU t}else none
 |_, .dO a,σ=>(J8 a σ).bind fun τ=>σ.Ij τ
 |_, .jy a,σ=>J8 a σ
 |_, .bV a,σ=>(J8 a σ).bind fun τ=>if σ.le τ=true then some σ else none
def Pq:Bool→List Sy→Ab→Option Ab
 |_,[],σ=>some σ
 |top,y::r,σ=>(WX top y σ).bind fun ρ=>(Pq top r ρ).bind fun τ=>if kq (y::r)≤τ.kd then some τ else none
def J8:List (List Sy)→Ab→Option Ab
 |[],_=>none
 |[y],σ=>Pq false y σ
 |y::z::r,σ=>(Pq false y σ).bind fun τ=>(J8 (z::r) σ).bind fun ρ=>τ.Ij ρ
end
end
def σ0:Ab:=⟨0,0,false,false,0⟩
def okR(R:Ru)(y:List Sy)(k:Nat):Bool:=match Pq (cW R.name) true y σ0 with
 |none=>false
 |some τ=>τ.o==0&&decide (Il R.name≤τ.sl)&&τ.tk&&(k !=16||τ.cf)&&decide (DU R.name≤if 0<k then 1 else τ.kd)
theorem adE:∀R∈dU,∀p∈R.mh.zip R.iL,okR R p.1 p.2=true:=by decide+kernel
end
section
variable (L:List Ct)
structure Eb (c:Nat) (s:Sx):Prop where
 af:s.af≤L.length
 ne:s.env≠[]
 len:s.env.length≤8*s.af+c
 ds:∀d∈s.env,d.length≤400+2*s.af
 kl:s.ah.length≤s.af
 tq:oQ s.ah
structure jc (sl m:Nat) (s x:Sx):Prop where
 lt:s.af<x.af
 le:x.af≤L.length
 env:∃k,Gw s.env x.env k∧k+sl+2*s.af≤2*x.af
 ah:∃K,x.ah=s.ah++K∧K.length+s.af≤x.af∧m≤K.length∧oQ K
def EvI(b:Sx)(σ:Ab)(s:Sx):Prop:=
 (σ.o=0∧∃k,Gw b.env s.env k∧k+σ.sl+2*b.af≤2*s.af)∨(σ.o≠0∧∃e1 op k,s.env=e1++[op]∧Gw b.env e1 k∧k+2*b.af≤2*s.af∧op.length+σ.sl+2*b.af≤2*s.af+(if σ.o=1 then 0 else 300))
structure Ga (b:Sx) (σ:Ab) (s:Sx):Prop where
 le:s.af≤L.length
 ge:b.af≤s.af
 tk:σ.tk=true→b.af<s.af
 env:EvI b σ s
 ah:∃K,s.ah=b.ah++K∧K.length+b.af≤s.af∧σ.kd≤K.length∧oQ K
 cl:σ.cf=true→s.cl.length≤300
variable {L} {c:Nat} {b s x:Sx} {σ τ:Ab}
theorem Eb.ok(h:Eb L c s)(hc:c≤9)(hL:L.length≤100):pQ L s:=⟨h.af,h.ne,by have:=h.af;have:=h.len;omega,fun d hd=>by have:=h.af;have:=h.ds d hd;omega,by have:=h.af;have:=h.kl;omega,h.tq.tg⟩
theorem Eb.mono{c':Nat}(h:Eb L c s)(hc:c≤c'):Eb L c' s:=⟨h.af,h.ne,by have:=h.len;omega,h.ds,h.kl,h.tq⟩
theorem Eb.ga(h:Eb L c b):Ga L b σ0 b:=⟨h.af,υ _,(fun e=>(by cases e)), .inl ⟨rfl,0,Gw.refl h.ne,by simp[σ0]⟩,⟨[],(List.append_nil _).symm,by simp,υ _,trivial⟩,fun e=>(by cases e)⟩
theorem Ga.SF(h:Ga L b τ s)(e:σ.le τ=true):Ga L b σ s:=by
 obtain⟨a1,a2,a3,a4,a5⟩:=σ
 obtain⟨b1,b2,b3,b4,b5⟩:=τ
 simp only[Ab.le,aaS,aaZ,abC,ack,af9]at e
 obtain⟨⟨⟨⟨rfl,h2⟩,h3⟩,h4⟩,h5⟩:=e
 refine⟨h.le,h.ge,fun e=>h.tk ?_,?_,?_,fun e=>h.cl ?_⟩
 ·exact h3.elim (fun z=>by rw[show a3=true from e]at z;cases z) id
 ·rcases h.env with⟨h6,k,h7,h8⟩|⟨h6,e1,op,k,h7,h8,h9,h10⟩
  ·exact .inl ⟨h6,k,h7,by simp only at h8⊢;omega⟩
  ·exact .inr ⟨h6,e1,op,k,h7,h8,h9,by simp only at h10⊢;omega⟩
 ·obtain⟨K,k1,k2,k3,k4⟩:=h.ah
  exact⟨K,k1,k2,by simp only at k3⊢;omega,k4⟩
 ·exact h4.elim (fun z=>by rw[show a4=true from e]at z;cases z) id
theorem Ga.eb{c':Nat}(h:Ga L b σ s)(hb:Eb L c b)(e:c+(if σ.o=0 then 0 else 1)≤(if σ.tk=true then 8 else 0)+c'):Eb L c' s:=by
 have ht:(if σ.tk=true then 8 else 0)+8*b.af≤8*s.af:=by
  have:=h.ge
  split
  ·next h1=>have:=h.tk h1;omega
  ·omega
 have hbl:=hb.len
 obtain⟨K,k1,k2,k3,k4⟩:=h.ah
 have hkl:s.ah.length≤s.af:=by rw[k1,Δ];have:=hb.kl;omega
 have hq:oQ s.ah:=by rw[k1];exact hb.tq.fK k4
 rcases h.env with⟨h6,k,h7,h8⟩|⟨h6,e1,op,k,h7,h8,h9,h10⟩
 ·rw[ω h6]at e
  refine⟨h.le,h7.ne,by rw[h7.len];omega,fun d hd=>?_,hkl,hq⟩;have:=h7.ds hb.ds d hd;omega
 ·rw[χ h6]at e
  refine⟨h.le,by rw[h7];simp,by rw[h7,Δ,h8.len,af4];omega,fun d hd=>?_,hkl,hq⟩;rw[h7]at hd
  rcases abr.1 hd with hd|hd
  ·have:=h8.ds hb.ds d hd
   omega
  ·obtain rfl:=Φ.1 hd
   split at h10<;>omega
theorem Ga.ok(h:Ga L b σ s)(hb:Eb L c b)(hc:c≤8)(hL:L.length≤100):pQ L s:=(h.eb (c':=c+1) hb (by split<;>split<;>omega)).ok η hL
theorem Ga.call{sl m:Nat}(h:Ga L b σ s)(p:jc L sl m s x):Ga L b {σ with sl:=σ.sl+sl,tk:=true,cf:=false,kd:=σ.kd+m} x:=by
 obtain⟨K,k1,k2,k3,k4⟩:=h.ah
 obtain⟨K',k1',k2',k3',k4'⟩:=p.ah
 obtain⟨q,g1,g2⟩:=p.env
 have hlt:=p.lt
 have hge:=h.ge
 refine⟨p.le,by omega,fun _=>by omega,?_,⟨K++K',by rw[k1',k1,Ψ],by rw[Δ];omega,by rw[Δ];exact Nat.add_le_add k3 k3',k4.fK k4'⟩,fun e=>(by cases e)⟩
 rcases h.env with⟨h6,k,h7,h8⟩|⟨h6,e1,op,k,h7,h8,h9,h10⟩
 ·exact .inl ⟨h6,k+q,h7.trans g1,by simp only;omega⟩
 ·obtain⟨a,d,δ,e2,e3,e4⟩:=g1
  rw[h7]at e2;obtain⟨rfl,e5⟩:=afy e2 rfl;obtain rfl:=agP.1 e5;exact .inr ⟨h6,e1,op++δ,k,e3,h8,by omega,by rw[Δ];simp only at h10⊢;omega⟩
theorem Ga.tx(h:Ga L b σ s)(hl:s.af<L.length):Ga L b {σ with sl:=σ.sl+2,tk:=true} {s with af:=s.af+1}:=by
 obtain⟨K,k1,k2,k3,k4⟩:=h.ah
 have hge:=h.ge
 refine⟨hl,by simp only;omega,fun _=>by simp only;omega,?_,⟨K,k1,by simp only;omega,k3,k4⟩,h.cl⟩
 rcases h.env with⟨h6,k,h7,h8⟩|⟨h6,e1,op,k,h7,h8,h9,h10⟩
 ·exact .inl ⟨h6,k,h7,by simp only;omega⟩
 ·exact .inr ⟨h6,e1,op,k,h7,h8,by simp only;omega,by simp only at h10⊢;omega⟩
theorem Ga.fV(h:Ga L b σ s)(n:Bs)(q:Bool)(h1:1≤σ.sl):Ga L b {σ with sl:=σ.sl - 1} {s with env:=fV s.env n q}:=by
 refine⟨h.le,h.ge,h.tk,?_,h.ah,h.cl⟩
 rcases h.env with⟨h6,k,h7,h8⟩|⟨h6,e1,op,k,h7,h8,h9,h10⟩
 ·exact .inl ⟨h6,k+1,h7.trans (JI n q h7.ne),by simp only;omega⟩
 ·obtain⟨a,d,δ,e2,e3,e4⟩:=JI (e:=s.env) n q (by rw[h7];simp)
  rw[h7]at e2;obtain⟨rfl,e5⟩:=afy e2 rfl;obtain rfl:=agP.1 e5;exact .inr ⟨h6,e1,op++δ,k,e3,h8,h9,by rw[Δ];simp only at h10⊢;omega⟩
theorem Pv(e1:List (List Sd)):∀(ds op:List Sd),∃op',ds.foldl (fun e d=>Dr.fV e d.1 d.2) (e1++[op])=e1++[op']∧op'.length≤op.length+ds.length
 |[],op=>⟨op,rfl,υ _⟩
 |d::r,op=>by
  obtain⟨a,d',δ,e2,e3,e4⟩:=JI (e:=e1++[op]) d.1 d.2 ν;obtain⟨rfl,e5⟩:=afy e2 rfl;obtain rfl:=agP.1 e5;obtain⟨op',h1,h2⟩:=Pv e1 r (op++δ);refine⟨op',by rw[List.foldl_cons,e3];exact h1,?_⟩;rw[Δ]at h2;rw[aaJ];omega
theorem Ga.yQ(h:Ga L b σ s)(hb:oQ b.ah):TQ (jA s):=by
 obtain⟨K,k1,k2,k3,k4⟩:=h.ah
 have hq:oQ s.ah:=by rw[k1];exact hb.fK k4
 unfold jA
 rw[afU]
 cases e:s.ah.getLast? with
 |none=>exact⟨by decide,by decide,by decide,trivial⟩
 |some t=>exact hq.mem (List.mem_of_getLast? e)
theorem Ga.j3{top:Bool}{t:Bs}{f:Nat}(h:Ga L b σ s)(hb:oQ b.ah)(hL:L.length≤100)(ht:top=true→f=b.af)(hc:chA top t σ=some τ):∀x∈j3 L t s f,Ga L b τ x:=by
 intro x hx
 unfold chA at hc
 unfold Dr.j3 at hx
 by_cases c0:t=Bq
 ·subst c0
  rw[ω rfl]at hx;rw[χ ζ,χ ζ,χ ζ,χ ζ,χ ζ,χ ζ]at hc;obtain rfl:=Φ.1 hx;cases hc;exact⟨h.le,h.ge,h.tk,h.env,h.ah,h.cl⟩
 rw[χ c0]at hx
 split at hc
 ·next e=>
  rw[ω e]at hx;obtain rfl:=Φ.1 hx
  split at hc
  ·next h1=>cases hc;exact h.fV _ _ h1
  ·cases hc
 next c1=>
 rw[χ c1]at hx
 split at hc
 ·next e=>
  rw[ω e]at hx;obtain rfl:=Φ.1 hx
  split at hc
  ·next h1=>cases hc;exact h.fV _ _ h1.1
  ·cases hc
 next c2=>
 rw[χ c2]at hx
 split at hc
 ·next e=>
  rw[ω e]at hx;obtain rfl:=Φ.1 hx
  split at hc
  ·next h1=>
   cases hc;refine⟨h.le,h.ge,h.tk,?_,h.ah,h.cl⟩
   rcases h.env with⟨h6,k,h7,h8⟩|⟨h6, -⟩
   ·exact .inr ⟨ν,s.env,[],k,rfl,h7,by simp only;omega,by have:=h.ge;simp only[List.length_nil,ω];omega⟩
   ·exact absurd h1 h6
  ·cases hc
 next c3=>
 rw[χ c3]at hx
 split at hc
 ·next e=>
  rw[ω e]at hx;obtain rfl:=Φ.1 hx
  split at hc
  ·cases hc
  ·next h1=>
   cases hc
   rcases h.env with⟨h6, -⟩|⟨h6,e1,op,k,h7,h8,h9,h10⟩
   ·exact absurd h6 h1
   ·refine⟨h.le,h.ge,h.tk, .inl ⟨rfl,k,by simp only[h7,List.dropLast_concat];exact h8,by simp only;omega⟩,h.ah,fun e=>?_⟩
    have e:σ.o=1:=by simpa using e
    rw[ω e]at h10;simp only[h7,List.getLastD_concat];have:=h.le;omega
 next c4=>
 rw[χ c4]at hx
 split at hc
 ·next e=>
  rw[ω e]at hx
  split at hc
  ·next h1=>
   cases hc
   split at hx
   ·next y he=>
    split at hx
    ·next hk=>
     obtain rfl:=Φ.1 hx;have hy:=Me L (h.yQ hb) he
     have hyd:y.mf.length≤300:=by
      cases y;exact hy.2.2.1
     rcases h.env with⟨h6,k,h7,h8⟩|⟨h6, -⟩
     ·obtain⟨op',h9,h10⟩:=Pv (Dr.fV s.env (jE L (jA s)) s.ty) y.mf []
      refine⟨h.le,h.ge,h.tk, .inr ⟨ν,_,op',k+1,h9,h7.trans (JI _ _ h7.ne),by have:=h1.2;simp only;omega,?_⟩,h.ah,h.cl⟩;have:=h.ge;simp only[List.length_nil]at h10⊢;rw[χ ζ];omega
     ·exact absurd h1.1 h6
    ·cases hx
   ·cases hx
  ·cases hc
 next c5=>
 rw[χ c5]at hx
 have hid:σ=τ→x=s→Ga L b τ x:=fun e1 e2=>by subst e1;subst e2;exact h
 have hs:∀{p:Prop} [Decidable p],x∈(if p then[s]else[])→x=s:=fun{p} _ hx=>by
  split at hx
  ·exact Φ.1 hx
  ·cases hx
 by_cases c6:t=Cu
 ·subst c6
  rw[ω rfl]at hx;rw[χ ζ]at hc;exact hid (aau hc) (hs hx)
 rw[χ c6]at hx
 by_cases c7:t=Nv
 ·subst c7
  rw[ω rfl]at hx;rw[χ ζ]at hc;exact hid (aau hc) (hs hx)
 rw[χ c7]at hx
 by_cases c8:t=Nw
 ·subst c8
  rw[ω rfl]at hx;rw[χ ζ]at hc;exact hid (aau hc) (hs hx)
 rw[χ c8]at hx
 split at hc
 ·next e=>
  rw[ω e]at hx
  split at hc
  ·next h1=>
   cases hc
   split at hx
   ·next h2=>
    obtain rfl:=Φ.1 hx;exact⟨h.le,h.ge,fun _=>by rw[ht h1]at h2;exact h2,h.env,h.ah,h.cl⟩
   ·cases hx
  ·exact hid (aau hc) (hs hx)
 ·next c9=>
  rw[χ c9]at hx;exact hid (aau hc) (Φ.1 hx)
end
section
variable (L:List Ct)
theorem sU{α β:Type}{f g:α→Option (List β)}{P:β→Prop}:∀{l:List α} {zs:List β},(∀a∈l,∀y,f a=some y→g a=some y∧∀z∈y,P z)→bu f l=some zs→bu g l=some zs∧∀z∈zs,P z
 |[],zs,_,h=>by cases h;exact⟨rfl,fun z hz=>(by cases hz)⟩
 |a::r,zs,H,h=>by
  obtain⟨x,y,h1,h2,rfl⟩:=mM h;obtain⟨h3,h4⟩:=H a (ab6 ..) x h1;obtain⟨h5,h6⟩:=sU (fun a ha=>H a (abM _ ha)) h2;refine⟨?_,fun z hz=>(abr.1 hz).elim (h4 z) (h6 z)⟩;unfold bu;rw[h3,Ξ,h5];rfl
theorem ajz{α:Type}{x:List α}(h:x.length≤1000):aG x=some x:=ω h
theorem Cg{n:Nat}{q:Rq}{xs:List Sx}(h1:BJ L q)(h2:F L (aS L n) q=some xs)(h3:okO L q xs):aS L (n+1) q=some xs:=by
 unfold aS
 rw[ω h1,h2,Ξ,ω h3]
structure DV (s:Sx) (t:So):Prop where
 ge:s.af≤t.s.af
 le:t.s.af≤L.length
 lt:0<t.b+t.w→s.af<t.s.af
 env:∃k,Gw s.env t.s.env k∧k+2*s.af≤2*t.s.af
 ah:t.s.ah.length+s.af≤t.s.af
 tq:oQ t.s.ah
 b:t.b≤t.s.af
 w:t.w≤t.s.af
structure St (n:Nat):Prop where
 seq:∀{c b σ τ top ys f ss xs},c≤8→Eb L c b→Pq c top ys σ=some τ→(top=true→f=b.af)→f≤L.length→ss.length≤1000→(∀s∈ss,Ga L b σ s)→gV L n (.seq ys f ss)=some xs→aS L n (.seq ys f ss)=some xs∧∀x∈xs,Ga L b τ x
 ay:∀{c b σ τ top y f s xs},c≤8→Eb L c b→WX c top y σ=some τ→(top=true→f=b.af)→f≤L.length→Ga L b σ s→gV L n (.ay y s f)=some xs→aS L n (.ay y s f)=some xs∧∀x∈xs,Ga L b τ x
 bV:∀{c b σ τ a bB xs},c≤8→Eb L c b→J8 c a σ=some τ→σ.le τ=true→bB.length≤1000→(∀s∈bB,Ga L b σ s)→gV L n (.bV a bB)=some xs→aS L n (.bV a bB)=some xs∧∀x∈xs,Ga L b σ x
 call:∀{w s xs},Eb L (cW w) s→gV L n (.call w s)=some xs→aS L n (.call w s)=some xs∧∀x∈xs,jc L (Il w) (DU w) s x
 dh:∀{all s bB xs},Eb L 4 s→bB.length≤1000→(∀t∈bB,DV L s t)→gV L n (.dh all s bB)=some xs→aS L n (.dh all s bB)=some xs∧∀x∈xs,jc L 0 1 s x
 dB:∀{k s xs},Eb L 4 s→k≤11→gV L n (.dB k s)=some xs→aS L n (.dB k s)=some xs∧∀x∈xs,jc L 0 1 s x
 iB:∀{k s bB xs},Eb L 4 s→k≤10→(∀x∈bB,jc L 0 1 (fresh s) x)→gV L n (.iB k s bB)=some xs→aS L n (.iB k s bB)=some xs∧∀x∈xs,jc L 0 1 s x
 dx:∀{s xs},Eb L 4 s→gV L n (.dx s)=some xs→aS L n (.dx s)=some xs∧∀x∈xs,jc L 0 1 s x
 assign:∀{s xs},Eb L 4 s→gV L n (.assign s)=some xs→aS L n (.assign s)=some xs∧∀x∈xs,jc L 0 1 s x
 args:∀{s xs},Eb L 4 s→gV L n (.args s)=some xs→aS L n (.args s)=some xs∧∀x∈xs,jc L 0 0 s x
 jT:∀{s xs},Eb L 4 s→gV L n (.jT s)=some xs→aS L n (.jT s)=some xs∧∀x∈xs,jc L 0 1 s x
 iO:∀{s bB xs},Eb L 4 s→(∀x∈bB,jc L 0 1 (fresh s) x)→gV L n (.iO s bB)=some xs→aS L n (.iO s bB)=some xs∧∀x∈xs,jc L 0 1 s x
variable {L} {n c:Nat} {b s:Sx} {σ τ:Ab} {top:Bool} {f:Nat}
variable {ss xs : List Sx}
theorem ajA (hL:L.length≤100)(ih:St L n){ys:List Sy}(hc:c≤8)(hb:Eb L c b)(hq:Pq c top ys σ=some τ)(ht:top=true→f=b.af)(hf:f≤L.length)(hl:ss.length≤1000)(hs:∀s∈ss,Ga L b σ s)(h:gV L (n+1) (.seq ys f ss)=some xs):aS L (n+1) (.seq ys f ss)=some xs∧∀x∈xs,Ga L b τ x:=by
 have h0:BJ L (.seq ys f ss):=⟨⟨hl,fun s h=>(hs s h).ok hb hc hL⟩,hf⟩
 cases ys with
 |nil=>
  cases hq;have h:some ss=some xs:=h;cases h;exact⟨Cg L h0 rfl ⟨h0.1,fun _ _=>Ω _⟩,hs⟩
 |cons y r=>
  obtain⟨z,h1,h2⟩:=Γ.1 (show((bu (fun s=>gV L n (.ay y s f)) ss).bind aG).bind (fun x=>gV L n (.seq r f x))=some xs from h);obtain⟨z',h3,h4⟩:=Γ.1 h1;obtain⟨rfl,hzl⟩:=eU h4;obtain⟨ρ,q1,q2⟩:=Γ.1 (show(WX c top y σ).bind _=_ from hq);obtain⟨τ',q3,q4⟩:=Γ.1 q2
  split at q4
  ·next hk=>
   cases q4;obtain⟨h5,h6⟩:=sU (fun s hs' y hy=>ih.ay hc hb q1 ht hf (hs s hs') hy) h3;obtain⟨h7,h8⟩:=ih.seq hc hb q3 ht hf hzl h6 h2;refine⟨Cg L h0 ?_ ⟨(fE h7).2.1,fun x hx=>?_⟩,h8⟩
   ·show((bu (fun s=>aS L n (.ay y s f)) ss).bind aG).bind (fun x=>aS L n (.seq r f x))=some xs
    rw[h5,Ξ,ajz hzl,Ξ,h7]
   ·obtain⟨K,k1,k2,k3,k4⟩:=(h8 x hx).ah
    rw[k1,Δ];exact aaT hk η
  ·cases q4
theorem abg(ih:St L n)(hc:c≤8)(hb:Eb L c b)(hs:Ga L b σ s):∀{a:List (List Sy)} {τ:Ab} {xs:List Sx},J8 c a σ=some τ→bu (fun y=>gV L n (.seq y s.af [s])) a=some xs→bu (fun y=>aS L n (.seq y s.af [s])) a=some xs∧∀x∈xs,Ga L b τ x
 |[],τ,xs,hq,h=>(by cases hq)
 |[y],τ,xs,hq,h=>by
  refine sU (fun a ha z hz=>?_) h;obtain rfl:=Φ.1 ha;exact ih.seq hc hb hq (fun e=>(by cases e)) hs.le ν (fun s' h'=>Φ.1 h'▸hs) hz
 |y::y2::r,τ,xs,hq,h=>by
  obtain⟨ρ,q1,q2⟩:=Γ.1 (show(Pq c false y σ).bind _=_ from hq);obtain⟨ρ2,q3,q4⟩:=Γ.1 q2;obtain⟨j1,j2⟩:=Ab.WW q4;obtain⟨x1,x2,h1,h2,rfl⟩:=mM h;obtain⟨h3,h4⟩:=abg ih hc hb hs q3 h2;obtain⟨h5,h6⟩:=ih.seq hc hb q1 (fun e=>(by cases e)) hs.le ν (fun s' h'=>Φ.1 h'▸hs) h1;refine⟨?_,fun x hx=>(abr.1 hx).elim (fun h=>(h6 x h).SF j1) fun h=>(h4 x h).SF j2⟩;unfold bu;rw[h5,Ξ,h3];rfl
variable {a : List (List Sy)}
theorem N9 (ih:St L n)(hc:c≤8)(hb:Eb L c b)(hs:Ga L b σ s)(hq:J8 c a σ=some τ)(h:Bo (gV L n) a s=some xs):Bo (aS L n) a s=some xs∧xs.length≤1000∧∀x∈xs,Ga L b τ x:=by
 obtain⟨z,h1,h2⟩:=Γ.1 h
 obtain⟨rfl,h3⟩:=eU h2
 obtain⟨h4,h5⟩:=abg ih hc hb hs hq h1
 exact⟨by unfold Bo;rw[h4,Ξ,h2],h3,h5⟩
theorem adF(t:Bs)(s:Sx)(f:Nat):(Dr.j3 L t s f).length≤1:=by
 have hi:∀(p:Prop) [Decidable p] (a b:List Sx),a.length≤1→b.length≤1→(if p then a else b).length≤1:=fun p _ a b h1 h2=>by split<;>assumption
 unfold Dr.j3
 repeat' first
  |exact υ 1
  |exact Ω _
  |refine hi _ _ _ ?_ ?_
 split
 ·exact hi _ _ _ (υ 1) (Ω _)
 ·exact Ω _
theorem ajB (hL:L.length≤100)(ih:St L n){y:Sy}(hc:c≤8)(hb:Eb L c b)(hq:WX c top y σ=some τ)(ht:top=true→f=b.af)(hf:f≤L.length)(hs:Ga L b σ s)(h:gV L (n+1) (.ay y s f)=some xs):aS L (n+1) (.ay y s f)=some xs∧∀x∈xs,Ga L b τ x:=by
 have h0:=hs.ok hb hc hL
 have done:BJ L (.ay y s f)→F L (aS L n) (.ay y s f)=some xs→xs.length≤1000→(∀x∈xs,Ga L b τ x)→aS L (n+1) (.ay y s f)=some xs∧∀x∈xs,Ga L b τ x:=fun a1 a2 a3 a4=>⟨Cg L a1 a2 ⟨⟨a3,fun x hx=>(a4 x hx).ok hb hc hL⟩,fun _ _=>Ω _⟩,a4⟩
 cases y with
 |tx t=>
  unfold WX at hq
  split at hq
  ·next h1=>
   cases hq;have h:some (jC s (dJ L s.af t))=some xs:=h;obtain rfl:=aau h
   refine done ⟨h0,h1⟩ rfl (by unfold jC;split<;>simp) fun x hx=>?_
   unfold jC at hx
   split at hx
   ·next h2=>
    obtain rfl:=Φ.1 hx;refine hs.tx ?_;unfold dJ at h2;simp only[aaS,abC]at h2;exact h2.1.1
   ·cases hx
  ·cases hq
 |nm t=>
  unfold WX at hq
  split at hq
  ·cases hq
  next ht0=>
  have h:(if t.headD 0=64 then some (Dr.j3 L t s f)else gV L n (.call t s))=some xs:=h
  split at hq
  ·next h1=>
   rw[ω h1]at h;obtain rfl:=aau h;refine done ⟨h0,hf,ht0,fun e=>?_⟩ (ω h1) ?_ (hs.j3 hb.tq hL ht hq)
   ·subst e
    unfold chA at hq;rw[χ ζ,ω rfl]at hq
    split at hq
    ·next h2=>
     rw[ht h2.2.1];exact abB (hs.tk h2.2.2) hs.le
    ·cases hq
   ·exact aaT (adF t s f) ζ
  ·next h1=>
   rw[χ h1]at h;by_cases h2:c+(if σ.o=0 then 0 else 1)≤(if σ.tk=true then 8 else 0)+cW t
   ·rw[ω h2]at hq
    cases hq;obtain⟨h3,h4⟩:=ih.call (hs.eb hb h2) h
    refine done ⟨h0,hf,ht0,fun e=>?_⟩ ((χ h1).trans h3) (fE h3).2.1.1 fun x hx=>hs.call (h4 x hx)
    subst e;exact absurd rfl h1
   ·rw[χ h2]at hq;cases hq
 |dO a=>
  obtain⟨ρ,q1,q2⟩:=Γ.1 (show(J8 c a σ).bind _=_ from hq);obtain⟨j1,j2⟩:=Ab.WW q2;obtain⟨x,h1,h2⟩:=Γ.1 (show(Bo (gV L n) a s).bind (fun x=>aG (s::x))=some xs from h);obtain⟨rfl,hl⟩:=eU h2;obtain⟨h3,h4,h5⟩:=N9 ih hc hb hs q1 h1
  refine done h0 (show(Bo (aS L n) a s).bind (fun x=>aG (s::x))=_ by rw[h3,Ξ,h2]) hl fun z hz=>?_
  rcases abf.1 hz with rfl|hz
  ·exact hs.SF j1
  ·exact(h5 z hz).SF j2
 |jy a=>
  obtain⟨h3,h4,h5⟩:=N9 ih hc hb hs hq h;exact done h0 h3 h4 h5
 |bV a=>
  obtain⟨ρ,q1,q2⟩:=Γ.1 (show(J8 c a σ).bind _=_ from hq)
  split at q2
  ·next j1=>
   cases q2;obtain⟨x,h1,h2⟩:=Γ.1 (show(gV L n (.bV a [s])).bind (fun x=>aG (s::x))=some xs from h);obtain⟨rfl,hl⟩:=eU h2;obtain⟨h3,h4⟩:=ih.bV hc hb q1 j1 ν (fun s' h'=>Φ.1 h'▸hs) h1
   refine done h0 (show(aS L n (.bV a [s])).bind (fun x=>aG (s::x))=_ by rw[h3,Ξ,h2]) hl fun z hz=>?_
   rcases abf.1 hz with rfl|hz
   ·exact hs
   ·exact h4 z hz
  ·cases q2
theorem ajC (hL:L.length≤100)(ih:St L n){bB : List Sx}(hc:c≤8)(hb:Eb L c b)(hq:J8 c a σ=some τ)(hle:σ.le τ=true)(hl:bB.length≤1000)(hs:∀s∈bB,Ga L b σ s)(h:gV L (n+1) (.bV a bB)=some xs):aS L (n+1) (.bV a bB)=some xs∧∀x∈xs,Ga L b σ x:=by
 have h0:BJ L (.bV a bB):=⟨hl,fun s h=>(hs s h).ok hb hc hL⟩
 have h:(if bB.isEmpty then some []else(bu (Au (gV L n) a) bB).bind fun x=>(gV L n (.bV a x)).bind fun y=>aG (x++y))=some xs:=h
 split at h
 ·next h1=>
  cases h;exact⟨Cg L h0 (ω h1) ⟨⟨by simp,fun x hx=>(by cases hx)⟩,fun x hx=>(by cases hx)⟩,fun x hx=>(by cases hx)⟩
 ·next h1=>
  obtain⟨x,h2,h3⟩:=Γ.1 h;obtain⟨y,h4,h5⟩:=Γ.1 h3;obtain⟨rfl,h6⟩:=eU h5
  obtain⟨h7,h8⟩:=sU (g:=Au (aS L n) a) (P:=fun x=>Ga L b σ x) (fun s hs' z hz=>by
   obtain⟨z',k1,k2⟩:=Γ.1 hz;obtain rfl:=aau k2;obtain⟨k3,k4,k5⟩:=N9 ih hc hb (hs s hs') hq k1
   exact⟨by unfold Au;rw[k3];rfl,fun u hu=>(k5 u (afx.1 hu).1).SF hle⟩) h2
  obtain⟨h9,h10⟩:=ih.bV hc hb hq hle (by rw[Δ]at h6;omega) h8 h4
  have hall:∀z∈x++y,Ga L b σ z:=fun z hz=>(abr.1 hz).elim (h8 z) (h10 z)
  refine⟨Cg L h0 ?_ ⟨⟨h6,fun z hz=>(hall z hz).ok hb hc hL⟩,fun _ _=>Ω _⟩,hall⟩;show(if bB.isEmpty then some []else(bu (Au (aS L n) a) bB).bind fun x=>(aS L n (.bV a x)).bind fun y=>aG (x++y))=_;rw[χ h1,h7,Ξ,h9,Ξ,h5]
end
section
variable {L:List Ct} {n c:Nat} {b s x:Sx} {σ τ:Ab} {sl m:Nat}
theorem JJ{i:Nat}(h:bz L i≠0):i<L.length:=by
 unfold bz at h
 split at h
 ·assumption
 ·exact absurd rfl h
theorem Ae{i:Nat}{t:Bs}(h:dJ L i t=true):i<L.length:=by
 unfold dJ at h
 simp only[aaS,abC]at h
 exact h.1.1
theorem jc.eb(h:jc L sl m s x)(hs:Eb L c s):Eb L c x:=by
 obtain⟨K,k1,k2,k3,k4⟩:=h.ah
 obtain⟨k,g1,g2⟩:=h.env
 have:=h.lt
 refine⟨h.le,g1.ne,by rw[g1.len];have:=hs.len;omega,fun d hd=>?_,by rw[k1,Δ];have:=hs.kl;omega,by rw[k1];exact hs.tq.fK k4⟩
 have:=g1.ds hs.ds d hd
 omega
theorem nH(hL:L.length≤100){q:Rq}{xs:List Sx}(hs:Eb L c s)(hc:c≤8)(h1:BJ L q)(h2:F L (aS L n) q=some xs)(hl:xs.length≤1000)(hp:∀x∈xs,jc L sl m s x)(hm:SH q≤m):aS L (n+1) q=some xs∧∀x∈xs,jc L sl m s x:=
 ⟨Cg L h1 h2 ⟨⟨hl,fun x hx=>((hp x hx).eb hs).ok η hL⟩,fun x hx=>by
  obtain⟨K,k1,k2,k3,k4⟩:=(hp x hx).ah
  rw[k1,Δ];omega⟩,hp⟩
theorem ahI{q:Bool}(hne:s.env≠[])(hq:q=true→bz L s.af≠0)(hsl:sl≤2):∀x∈jC s q,jc L sl 0 s x:=fun x hx=>by
 unfold jC at hx
 split at hx
 ·next h=>
  obtain rfl:=Φ.1 hx;have:=JJ (hq h);exact⟨aar _,this,⟨0,Gw.refl hne,by simp only;omega⟩,[],(List.append_nil _).symm,by simp,υ _,trivial⟩
 ·cases hx
theorem Ga.pst(h:Ga L b τ x)(h0:τ.o=0)(ht:τ.tk=true):jc L τ.sl τ.kd b x:=by
 rcases h.env with⟨h6,k,h7,h8⟩|⟨h6, -⟩
 ·exact⟨h.tk ht,h.le,⟨k,h7,h8⟩,h.ah⟩
 ·exact absurd h0 h6
theorem jc.mono{sl' m':Nat}(h:jc L sl m s x)(h1:sl'≤sl)(h2:m'≤m):jc L sl' m' s x:=by
 obtain⟨K,k1,k2,k3,k4⟩:=h.ah
 obtain⟨k,g1,g2⟩:=h.env
 exact⟨h.lt,h.le,⟨k,g1,by omega⟩,K,k1,k2,by omega,k4⟩
theorem jc.put{s':Sx}(h:jc L sl m s' x)(e1:s'.af=s.af)(e2:s'.env=s.env){t:Tr}(ht:TQ t):jc L sl 1 s (gU s x t):=by
 obtain⟨k,g1,g2⟩:=h.env
 have hlt:=h.lt
 rw[e1]at hlt g2
 rw[e2]at g1
 exact⟨hlt,h.le,⟨k,g1,g2⟩,[t],rfl,by show 1+s.af≤x.af;omega,by simp,ht,trivial⟩
theorem jc.tq{s':Sx}(h:jc L sl m s' x)(e:s'.ah=[]):oQ x.ah:=by
 obtain⟨K,k1,k2,k3,k4⟩:=h.ah
 rw[k1,e];exact k4
theorem jc.ne{s':Sx}(h:jc L sl 1 s' x):x.ah≠[]:=by
 obtain⟨K,k1,k2,k3,k4⟩:=h.ah
 rw[k1];intro e
 rw[(List.append_eq_nil_iff.1 e).2]at k3;cases k3
theorem Eb.fresh(h:Eb L c s):Eb L c (fresh s):=⟨h.af,h.ne,h.len,h.ds,Ω _,trivial⟩
theorem Eb.rest(h:Eb L c s)(hl:s.af<L.length):Eb L c {af:=s.af+1,env:=s.env}:=⟨hl,h.ne,by have:=h.len;simp only;omega,fun d hd=>by have:=h.ds d hd;simp only;omega,Ω _,trivial⟩
theorem jc.step{y:Sx}(h:jc L sl m s x){sl' m':Nat}(k:jc L sl' m' {af:=x.af+1,env:=x.env} y)(K:List Tr)(e:K.length≤1)(hK:oQ K)(hm:1≤K.length)(kd:Nat):jc L 0 1 (fresh s) {af:=y.af,env:=y.env,ah:=K}:=by
 obtain⟨q,g1,g2⟩:=h.env
 obtain⟨q',g1',g2'⟩:=k.env
 have h1:=h.lt
 have h2:=k.lt
 simp only at g2' h2
 exact⟨by show s.af<y.af;omega,k.le,⟨q+q',g1.trans g1',by show q+q'+0+2*s.af≤2*y.af;omega⟩,K,rfl,by show K.length+s.af≤y.af;omega,hm,hK⟩
theorem ahJ(hL:L.length≤100){k:Nat}(hs:Eb L c s)(h:Ga L {af:=s.af,env:=s.env,ty:=s.ty} τ x)(h0:τ.o=0)(h1:sl≤τ.sl)(h2:τ.tk=true)(h3:k=16→τ.cf=true)(h4:m≤if 0<k then 1 else τ.kd):jc L sl m s (bn s x k):=by
 have p:=(h.pst h0 h2).mono h1 (υ _)
 have hq:oQ x.ah:=p.tq rfl
 have ha:=hs.af
 have hx:=h.le
 unfold bn
 split
 ·next hk=>
  rw[ω hk]at h4;refine(p.put (s:=s) rfl rfl (t:= .mk k s.af x.af x.ah (if k=16 then x.cl else[])) ⟨by omega,by omega,?_,hq⟩).mono (υ _) h4
  split
  ·next e=>exact h.cl (h3 e)
  ·simp
 ·next hk=>
  rw[χ hk]at h4;obtain⟨q,g1,g2⟩:=p.env;obtain⟨K,k1,k2,k3,k4⟩:=p.ah;have k1:x.ah=K:=k1;exact⟨p.lt,p.le,⟨q,g1,g2⟩,x.ah,rfl,by rw[k1];exact k2,by rw[k1];omega,hq⟩
theorem adG(hL:L.length≤100)(ih:St L n){w:Bs}{xs:List Sx}(hs:Eb L (cW w) s)(h:bu (Dy (gV L n) w s) dU=some xs):bu (Dy (aS L n) w s) dU=some xs∧∀x∈xs,jc L (Il w) (DU w) s x:=by
 refine sU (fun R hR z hz=>?_) h
 unfold Dy at hz⊢
 split at hz
 ·next e=>
  rw[ω e];refine sU (fun p hp z hz=>?_) hz;obtain⟨u,h1,h2⟩:=Γ.1 hz;obtain⟨u',h3,h4⟩:=Γ.1 h1;obtain⟨rfl,hl⟩:=eU h4;obtain rfl:=aau h2;have hk:=adE R hR p hp;unfold okR at hk
  split at hk
  ·cases hk
  next τ hτ=>
  simp only[aaS,aaZ,abC,ack,acm]at hk;obtain⟨⟨⟨⟨k1,k2⟩,k3⟩,k4⟩,k5⟩:=hk;rw[e]at hτ k2 k5;have hb:Eb L (cW w) {af:=s.af,env:=s.env,ty:=s.ty}:=⟨hs.af,hs.ne,hs.len,hs.ds,Ω _,trivial⟩;obtain⟨h5,h6⟩:=ih.seq (by have:=cW4 w;omega) hb hτ (fun _=>rfl) hs.af ν (fun s' h'=>Φ.1 h'▸hb.ga) h3;refine⟨by rw[h5,Ξ,h4];rfl,fun y hy=>?_⟩;obtain⟨r,hr,rfl⟩:=abt.1 hy;exact ahJ hL hs (h6 r hr) k1 k2 k3 (fun e=>k4.resolve_left fun h=>h e) k5
 ·next e=>
  rw[χ e];exact⟨hz,fun x hx=>by cases hz;cases hx⟩
theorem adH(w:Bs)(s:Sx):SH (.call w s)≤DU w:=by
 show(if w=jk∨w=nU∨w=vL∨w=yU then 1 else 0)≤DU w
 split
 ·next e=>rcases e with e|e|e|e<;>rw[e]<;>decide
 ·exact Ω _
theorem ahK(hL:L.length≤100)(ih:St L n){w:Bs}{xs:List Sx}(hs:Eb L (cW w) s)(h:gV L (n+1) (.call w s)=some xs):aS L (n+1) (.call w s)=some xs∧∀x∈xs,jc L (Il w) (DU w) s x:=by
 have h0:BJ L (.call w s):=hs.ok (by have:=cW4 w;omega) hL
 have hk:SH (.call w s)≤DU w:=adH w s
 have done:F L (aS L n) (.call w s)=some xs→xs.length≤1000→(∀x∈xs,jc L (Il w) (DU w) s x)→aS L (n+1) (.call w s)=some xs∧∀x∈xs,jc L (Il w) (DU w) s x:=fun h1 h2 h3=>nH hL hs (by have:=cW4 w;omega) h0 h1 h2 h3 hk
 have nR:∀q:Bool,(q=true→bz L s.af≠0)→Il w≤2→DU w=0→some (jC s q)=some xs→xs.length≤1000∧∀x∈xs,jc L (Il w) (DU w) s x:=fun q h1 h2 h3 e=>by
  obtain rfl:=aau e;exact⟨by unfold jC;split<;>simp,by rw[h3];exact ahI hs.ne h1 h2⟩
 have sub:∀{q:Rq},(aS L n q=some xs∧∀x∈xs,jc L 0 1 s x)→Il w=0→DU w≤1→xs.length≤1000∧∀x∈xs,jc L (Il w) (DU w) s x:=fun{q} h1 h2 h3=>⟨(fE h1.1).2.1.1,fun x hx=>(h1.2 x hx).mono η h3⟩
 have h:jO L (gV L n) w s=some xs:=h
 have g:∀{p:Prop} [Decidable p] {a b a' b':Option (List Sx)},(p→a=some xs→a'=some xs)→(¬p→b=some xs→b'=some xs)→(if p then a else b)=some xs→(if p then a' else b')=some xs:=fun{p} _ {a b a' b'} h1 h2 h=>by
  by_cases hp:p
  ·rw[ω hp]at h⊢;exact h1 hp h
  ·rw[χ hp]at h⊢;exact h2 hp h
 unfold jO at h
 by_cases c0:w=nT
 ·rw[ω c0]at h
  obtain⟨h1,h2⟩:=nR _ (fun e=>by rw[aaZ]at e;rw[e];decide) (by rw[c0];decide) (by rw[c0];decide) h;exact done (by show jO L _ w s=_;unfold jO;rw[ω c0];exact h) h1 h2
 rw[χ c0]at h
 by_cases c1:w=FR
 ·rw[ω c1]at h
  obtain⟨h1,h2⟩:=nR _ (fun e=>by rw[aaS,aaZ]at e;rw[e.1];decide) (by rw[c1];decide) (by rw[c1];decide) h;exact done (by show jO L _ w s=_;unfold jO;rw[χ c0,ω c1];exact h) h1 h2
 rw[χ c1]at h
 by_cases c2:w=Hq
 ·rw[ω c2]at h
  obtain⟨h1,h2⟩:=nR _ (fun e=>by simp only[ack,aaZ]at e;rcases e with(e|e)|e<;>rw[e]<;>decide) (by rw[c2];decide) (by rw[c2];decide) h;exact done (by show jO L _ w s=_;unfold jO;rw[χ c0,χ c1,ω c2];exact h) h1 h2
 rw[χ c2]at h
 by_cases c3:w=xS
 ·rw[ω c3]at h
  obtain⟨h1,h2⟩:=nR _ (fun e=>by rw[aaZ]at e;rw[e];decide) (by rw[c3];decide) (by rw[c3];decide) h;exact done (by show jO L _ w s=_;unfold jO;rw[χ c0,χ c1,χ c2,ω c3];exact h) h1 h2
 rw[χ c3]at h
 have spec:∀{all:Bool},w=Ht∨w=Cy→gV L n (.dh all s [⟨fresh s,0,0⟩])=some xs→aS L n (.dh all s [⟨fresh s,0,0⟩])=some xs∧∀x∈xs,jc L 0 1 s x:=fun{all} hw h=>by
  refine ih.dh (hs.mono (cW4 w)) ν (fun t ht=>?_) h;obtain rfl:=Φ.1 ht;exact⟨υ _,hs.af,(fun e=>(by cases e)),⟨0,Gw.refl hs.ne,acf (acK _)⟩,by simp[fresh],trivial,Ω _,Ω _⟩
 by_cases c4:w=Ht
 ·rw[ω c4]at h
  have h1:=spec (.inl c4) h;obtain⟨h2,h3⟩:=sub h1 (by rw[c4];decide) (by rw[c4];decide);exact done (by show jO L _ w s=_;unfold jO;rw[χ c0,χ c1,χ c2,χ c3,ω c4];exact h1.1) h2 h3
 rw[χ c4]at h
 by_cases c5:w=Cy
 ·rw[ω c5]at h
  have h1:=spec (.inr c5) h;obtain⟨h2,h3⟩:=sub h1 (by rw[c5];decide) (by rw[c5];decide);exact done (by show jO L _ w s=_;unfold jO;rw[χ c0,χ c1,χ c2,χ c3,χ c4,ω c5];exact h1.1) h2 h3
 rw[χ c5]at h
 have hs4:=hs.mono (cW4 w)
 by_cases c6:w=lq
 ·rw[ω c6]at h
  have h1:=ih.dB hs4 ζ h;obtain⟨h2,h3⟩:=sub h1 (by rw[c6];decide) (by rw[c6];decide);exact done (by show jO L _ w s=_;unfold jO;rw[χ c0,χ c1,χ c2,χ c3,χ c4,χ c5,ω c6];exact h1.1) h2 h3
 rw[χ c6]at h
 by_cases c7:w=jk
 ·rw[ω c7]at h
  have h1:=ih.assign hs4 h;obtain⟨h2,h3⟩:=sub h1 (by rw[c7];decide) (by rw[c7];decide);exact done (by show jO L _ w s=_;unfold jO;rw[χ c0,χ c1,χ c2,χ c3,χ c4,χ c5,χ c6,ω c7];exact h1.1) h2 h3
 rw[χ c7]at h
 by_cases c8:w=sO
 ·rw[ω c8]at h
  have h1:=ih.dx hs4 h;obtain⟨h2,h3⟩:=sub h1 (by rw[c8];decide) (by rw[c8];decide);exact done (by show jO L _ w s=_;unfold jO;rw[χ c0,χ c1,χ c2,χ c3,χ c4,χ c5,χ c6,χ c7,ω c8];exact h1.1) h2 h3
 rw[χ c8]at h
 by_cases c9:w=yT
 ·rw[ω c9]at h
  have h1:=ih.jT hs4 h;obtain⟨h2,h3⟩:=sub h1 (by rw[c9];decide) (by rw[c9];decide);exact done (by show jO L _ w s=_;unfold jO;rw[χ c0,χ c1,χ c2,χ c3,χ c4,χ c5,χ c6,χ c7,χ c8,ω c9];exact h1.1) h2 h3
 rw[χ c9]at h
 obtain⟨z,h1,h2⟩:=Γ.1 h
 obtain⟨rfl,hl⟩:=eU h2
 obtain⟨h3,h4⟩:=adG hL ih hs h1
 exact done (by show jO L _ w s=_;unfold jO;rw[χ c0,χ c1,χ c2,χ c3,χ c4,χ c5,χ c6,χ c7,χ c8,χ c9,h3];exact h2) hl h4
end
section
variable {L:List Ct} {n c:Nat} {b s x:Sx} {σ τ:Ab} {sl m:Nat}
theorem DV.eb{t:So}(h:DV L s t)(hs:Eb L 4 s):Eb L 4 t.s:=by
 obtain⟨k,g1,g2⟩:=h.env
 have:=h.ge
 refine⟨h.le,g1.ne,by rw[g1.len];have:=hs.len;omega,fun d hd=>?_,by have:=h.ah;omega,h.tq⟩
 have:=g1.ds hs.ds d hd
 omega
variable {B W : Nat}{t : So}
theorem DV.nR (h:DV L s t)(hl:t.s.af<L.length)(hb:B≤t.b+1)(hw:W≤t.w+1):DV L s ⟨{t.s with af:=t.s.af+1},B,W⟩:=by
 obtain⟨k,g1,g2⟩:=h.env
 have h1:=h.ge
 have h2:=h.ah
 have h3:=h.b
 have h4:=h.w
 exact⟨by simp only;omega,hl,fun _=>by simp only;omega,⟨k,g1,by simp only;omega⟩,by simp only;omega,h.tq,by simp only;omega,by simp only;omega⟩
theorem DV.sub (h:DV L s t)(p:jc L sl m t.s x)(hb:B≤t.b+1)(hw:W≤t.w+1):DV L s ⟨x,B,W⟩:=by
 obtain⟨k,g1,g2⟩:=h.env
 obtain⟨k',g1',g2'⟩:=p.env
 obtain⟨K,k1,k2,k3,k4⟩:=p.ah
 have h1:=h.ge
 have h2:=h.ah
 have h3:=h.b
 have h4:=h.w
 have h5:=p.lt
 exact⟨by simp only;omega,p.le,fun _=>by simp only;omega,⟨k+k',g1.trans g1',by simp only;omega⟩,by simp only;rw[k1,Δ];omega,by simp only;rw[k1];exact h.tq.fK k4,by simp only;omega,by simp only;omega⟩
theorem ahL (ih:St L n)(hs:Eb L 4 s){all:Bool}(h:DV L s t){z:List So}(hz:ic L (gV L n) all t=some z):ic L (aS L n) all t=some z∧∀y∈z,DV L s y:=by
 unfold ic at hz⊢
 have none:∀y∈([]:List So),DV L s y:=fun y hy=>(by cases hy)
 by_cases c0:iY L t.s.env t.s.af all=false
 ·rw[ω c0]at hz⊢
  cases hz;exact⟨rfl,none⟩
 rw[χ c0]at hz⊢
 have hlt:t.s.af<L.length:=by
  refine JJ fun e=>c0 ?_
  unfold iY;rw[e];rfl
 have ay:∀{B W},B≤t.b+1→W≤t.w+1→∀y∈[(⟨{t.s with af:=t.s.af+1},B,W⟩:So)],DV L s y:=fun hb hw y hy=>by
  obtain rfl:=Φ.1 hy;exact h.nR hlt hb hw
 by_cases c1:bz L t.s.af=1∧qZ.contains (bM L t.s.af)=true
 ·rw[ω c1]at hz⊢
  refine⟨hz,?_⟩;cases hz
  split
  ·exact none
  ·exact ay (υ _) η
 rw[χ c1]at hz⊢
 by_cases c2:bz L t.s.af=1∧(uV.contains (bM L t.s.af)=true∨rf.contains (bM L t.s.af)=true∨(bM L t.s.af=Eh∧dJ L (t.s.af+1) [40]=false))
 ·rw[ω c2]at hz⊢
  refine⟨hz,?_⟩;cases hz;exact ay η η
 rw[χ c2]at hz⊢
 by_cases c3:bz L t.s.af=1∧bM L t.s.af=yS
 ·rw[ω c3]at hz⊢
  obtain⟨u,h1,h2⟩:=Γ.1 hz;cases h2;obtain⟨h3,h4⟩:=ih.call (w:=FU) (h.eb hs) h1;refine⟨by rw[h3];rfl,fun y hy=>?_⟩;obtain⟨q,hq,rfl⟩:=abt.1 hy;exact h.sub (h4 q hq) η η
 rw[χ c3]at hz⊢
 by_cases c4:0<t.b+t.w
 ·rw[ω c4]at hz⊢
  cases hz;exact⟨rfl,none⟩
 rw[χ c4]at hz⊢
 by_cases c5:bz L t.s.af≠1
 ·rw[ω c5]at hz⊢
  refine⟨hz,?_⟩;cases hz;exact ay η η
 rw[χ c5]at hz⊢
 obtain⟨u,h1,h2⟩:=Γ.1 hz
 cases h2
 obtain⟨h3,h4⟩:=ih.call (Eb.mono (h.eb hs) (by split;decide;split<;>decide)) h1
 refine⟨by rw[h3];rfl,fun y hy=>?_⟩
 obtain⟨q,hq,rfl⟩:=abt.1 hy
 exact h.sub (h4 q hq) η η
variable {xs : List Sx}
theorem adI (hL:L.length≤100)(ih:St L n){all:Bool}{bB:List So}(hs:Eb L 4 s)(hl:bB.length≤1000)(hf:∀t∈bB,DV L s t)(h:gV L (n+1) (.dh all s bB)=some xs):aS L (n+1) (.dh all s bB)=some xs∧∀x∈xs,jc L 0 1 s x:=by
 have hsa:=hs.af
 have h0:BJ L (.dh all s bB):=⟨hs.ok ζ hL,hl,fun t ht=>⟨((hf t ht).eb hs).ok ζ hL,by have:=(hf t ht).b;have:=(hf t ht).le;omega,by have:=(hf t ht).w;have:=(hf t ht).le;omega⟩⟩
 have h:(if bB.isEmpty then some []else((bu (ic L (gV L n) all) bB).bind aG).bind fun x=>(gV L n (.dh all s x)).bind fun y=>aG (bB.filterMap (iM s)++y))=some xs:=h
 by_cases h1:bB.isEmpty=true
 ·rw[ω h1]at h
  cases h;exact nH hL hs ζ h0 (ω h1) ν (fun x hx=>(by cases hx)) (Ω _)
 ·rw[χ h1]at h
  obtain⟨x,h2,h3⟩:=Γ.1 h;obtain⟨x',h4,h5⟩:=Γ.1 h2;obtain⟨rfl,hxl⟩:=eU h5;obtain⟨y,h6,h7⟩:=Γ.1 h3;obtain⟨rfl,hol⟩:=eU h7;obtain⟨k1,k2⟩:=sU (fun t ht z hz=>ahL ih hs (hf t ht) hz) h4;obtain⟨k3,k4⟩:=ih.dh hs hxl k2 h6;refine nH hL hs ζ h0 ?_ hol (fun z hz=>?_) (Ω _)
  ·show(if bB.isEmpty then some []else((bu (ic L (aS L n) all) bB).bind aG).bind fun x=>(aS L n (.dh all s x)).bind fun y=>aG (bB.filterMap (iM s)++y))=_
   rw[χ h1,k1,Ξ,h5,Ξ,k3,Ξ,h7]
  ·rcases abr.1 hz with hz|hz
   ·obtain⟨t,ht,e⟩:=List.mem_filterMap.1 hz
    unfold iM at e
    split at e
    ·next hbw=>
     cases e;have p:=hf t ht;obtain⟨k,g1,g2⟩:=p.env;have hlt:=p.lt hbw;have hle:=p.le;exact⟨hlt,hle,⟨k,g1,g2⟩,_,rfl,by show 1+s.af≤t.s.af;omega,by simp,⟨by omega,by omega,by simp,p.tq⟩,trivial⟩
    ·cases e
   ·exact k4 z hz
theorem abh (ih:St L n){k:Nat}(hs:Eb L 4 s)(hk:k≤10)(h:vJ (gV L n) k s=some xs):vJ (aS L n) k s=some xs∧∀x∈xs,jc L 0 1 s x:=by
 unfold vJ at h⊢
 split at h
 ·next e=>rw[ω e];exact ih.call (w:=jk) hs h
 ·next e=>rw[χ e];exact ih.dB hs η h
theorem adJ (hL:L.length≤100)(ih:St L n){k:Nat}(hs:Eb L 4 s)(hk:k≤11)(h:gV L (n+1) (.dB k s)=some xs):aS L (n+1) (.dB k s)=some xs∧∀x∈xs,jc L 0 1 s x:=by
 have h0:BJ L (.dB k s):=⟨hs.ok ζ hL,hk⟩
 have h:(if k=11 then gV L n (.call nU s)else(vJ (gV L n) k (fresh s)).bind fun x=>gV L n (.iB k s x))=some xs:=h
 by_cases h1:k=11
 ·rw[ω h1]at h
  obtain⟨h2,h3⟩:=ih.call (w:=nU) hs h;exact nH hL hs ζ h0 ((ω h1).trans h2) (fE h2).2.1.1 h3 (υ _)
 ·rw[χ h1]at h
  obtain⟨x,h2,h3⟩:=Γ.1 h;obtain⟨h4,h5⟩:=abh ih hs.fresh η h2;obtain⟨h6,h7⟩:=ih.iB hs η h5 h3;refine nH hL hs ζ h0 ?_ (fE h6).2.1.1 h7 (υ _);show(if k=11 then aS L n (.call nU s)else(vJ (aS L n) k (fresh s)).bind fun x=>aS L n (.iB k s x))=_;rw[χ h1,h4];exact h6
theorem TQ.iA{t u:Tr}{k lo hi:Nat}(hlo:lo≤100000)(hhi:hi≤100000){ks:List Tr}(h:oQ ks):oQ [.mk k lo hi ks []]:=⟨⟨hlo,hhi,by simp,h⟩,trivial⟩
theorem abj (hL:L.length≤100)(ih:St L n){k:Nat}{bB : List Sx}(hs:Eb L 4 s)(hk:k≤10)(hf:∀x∈bB,jc L 0 1 (fresh s) x)(h:gV L (n+1) (.iB k s bB)=some xs):aS L (n+1) (.iB k s bB)=some xs∧∀x∈xs,jc L 0 1 s x:=by
 have hsa:=hs.af
 have h:(if bB.isEmpty then some []else(bu (jh L (gV L n) k s) bB).bind fun x=>(gV L n (.iB k s x)).bind fun y=>aG (bB.map (dF s)++y))=some xs:=h
 by_cases h1:bB.isEmpty=true
 ·rw[ω h1]at h
  cases h;obtain rfl:=afP.1 h1;exact nH hL hs ζ ⟨hs.ok ζ hL,hk,⟨by simp,fun x hx=>(by cases hx)⟩,fun x hx=>(by cases hx)⟩ rfl ν (fun x hx=>(by cases hx)) (Ω _)
 ·rw[χ h1]at h
  obtain⟨x,h2,h3⟩:=Γ.1 h;obtain⟨y,h6,h7⟩:=Γ.1 h3;obtain⟨rfl,hol⟩:=eU h7;have h0:BJ L (.iB k s bB):=⟨hs.ok ζ hL,hk,⟨by rw[Δ,abz]at hol;omega,fun x hx=>((hf x hx).eb hs.fresh).ok ζ hL⟩,fun x hx=>(hf x hx).ne⟩
  obtain⟨k1,k2⟩:=sU (g:=jh L (aS L n) k s) (P:=fun x=>jc L 0 1 (fresh s) x) (fun t ht z hz=>by
   unfold jh at hz⊢;by_cases ho:wZ L k t.af=true
   ·rw[ω ho]at hz⊢
    obtain⟨r,q1,q2⟩:=Γ.1 hz;cases q2
    have hlt:t.af<L.length:=JJ fun e=>by
     unfold wZ at ho;rw[e]at ho;cases ho
    have ht2:=hf t ht;obtain⟨q3,q4⟩:=abh ih ((ht2.eb hs.fresh).rest hlt) hk q1;refine⟨by rw[q3];rfl,fun u hu=>?_⟩;obtain⟨v,hv,rfl⟩:=abt.1 hu;have hv2:=q4 v hv;have:=hv2.le;exact ht2.step hv2 _ (υ 1) (TQ.iA (t:=zT) (u:=zT) η η ⟨(ht2.tq rfl).headD,(hv2.tq rfl).headD,trivial⟩) (υ 1) 0
   ·rw[χ ho]at hz⊢
    cases hz;exact⟨rfl,fun u hu=>(by cases hu)⟩) h2
  obtain⟨k3,k4⟩:=ih.iB hs hk k2 h6;refine nH hL hs ζ h0 ?_ hol (fun z hz=>?_) (Ω _)
  ·show(if bB.isEmpty then some []else(bu (jh L (aS L n) k s) bB).bind fun x=>(aS L n (.iB k s x)).bind fun y=>aG (bB.map (dF s)++y))=_
   rw[χ h1,k1,Ξ,k3,Ξ,h7]
  ·rcases abr.1 hz with hz|hz
   ·obtain⟨t,ht,rfl⟩:=abt.1 hz
    exact(hf t ht).put (s:=s) rfl rfl ((hf t ht).tq rfl).headD
   ·exact k4 z hz
end
section
variable {L:List Ct} {n c:Nat} {b s x:Sx} {σ τ:Ab} {sl m:Nat}
theorem Oa(ih:St L n){ys:List Sy}{f:Nat}{xs:List Sx}(hs:Eb L 4 s)(hq:Pq 4 false ys σ0=some τ)(h0:τ.o=0)(h1:τ.tk=true)(hf:f≤L.length)(h:(gV L n (.seq ys f [s])).bind aG=some xs):(aS L n (.seq ys f [s])).bind aG=some xs∧xs.length≤1000∧∀x∈xs,jc L τ.sl τ.kd s x:=by
 obtain⟨z,h2,h3⟩:=Γ.1 h
 obtain⟨rfl,hl⟩:=eU h3
 obtain⟨h4,h5⟩:=ih.seq ζ hs hq (fun e=>(by cases e)) hf ν (fun s' h'=>Φ.1 h'▸hs.ga) h2
 exact⟨by rw[h4];exact h3,hl,fun x hx=>(h5 x hx).pst h0 h1⟩
variable {xs : List Sx}
theorem abk (hL:L.length≤100)(ih:St L n)(hs:Eb L 4 s)(h:gV L (n+1) (.dx s)=some xs):aS L (n+1) (.dx s)=some xs∧∀x∈xs,jc L 0 1 s x:=by
 have hsa:=hs.af
 obtain⟨x,h1,h2⟩:=Γ.1 (show(gV L n (.dB 1 (fresh s))).bind (fun x=>(bu (nS L (gV L n) s) x).bind aG)=some xs from h)
 obtain⟨y,h3,h4⟩:=Γ.1 h2
 obtain⟨rfl,hol⟩:=eU h4
 obtain⟨h5,h6⟩:=ih.dB hs.fresh ζ h1
 obtain⟨k1,k2⟩:=sU (g:=nS L (aS L n) s) (P:=fun x=>jc L 0 1 s x) (fun t ht z hz=>by
  have ht2:=h6 t ht;have fH:=ht2.put (s:=s) rfl rfl (ht2.tq rfl).headD;unfold nS at hz⊢;obtain⟨r,q1,q2⟩:=Γ.1 hz;cases q2;by_cases ho:dJ L t.af [63]=true
  ·rw[ω ho]at q1⊢
   have hlt:=Ae ho;obtain⟨q3,q4,q5⟩:=Oa (τ:=⟨0,2,true,false,2⟩) ih ((ht2.eb hs.fresh).rest hlt) rfl rfl rfl hlt q1;refine⟨by rw[q3];rfl,fun u hu=>?_⟩
   rcases abf.1 hu with rfl|hu
   ·exact fH
   ·obtain⟨v,hv,rfl⟩:=abt.1 hu
    have hv2:=q5 v hv;have:=hv2.le;have p:=ht2.step hv2 [.mk 35 s.af v.af [t.ah.headD zT,v.ah.getD 0 zT,v.ah.getD 1 zT] []] (υ 1) (TQ.iA (t:=zT) (u:=zT) η η ⟨(ht2.tq rfl).headD,(hv2.tq rfl).getD 0,(hv2.tq rfl).getD 1,trivial⟩) (υ 1) 0;exact p.put (s:=s) rfl rfl (p.tq rfl).headD
  ·rw[χ ho]at q1⊢
   cases q1;refine⟨rfl,fun u hu=>?_⟩;obtain rfl:=Φ.1 hu
   exact fH) h3
 refine nH hL hs ζ (hs.ok ζ hL) ?_ hol k2 (υ _)
 show(aS L n (.dB 1 (fresh s))).bind (fun x=>(bu (nS L (aS L n) s) x).bind aG)=_
 rw[h5,Ξ,k1];exact h4
theorem abl (hL:L.length≤100)(ih:St L n)(hs:Eb L 4 s)(h:gV L (n+1) (.assign s)=some xs):aS L (n+1) (.assign s)=some xs∧∀x∈xs,jc L 0 1 s x:=by
 have hsa:=hs.af
 obtain⟨x,h1,h2⟩:=Γ.1 (show(gV L n (.dx (fresh s))).bind (fun x=>(bu (mX L (gV L n) s) x).bind aG)=some xs from h)
 obtain⟨y,h3,h4⟩:=Γ.1 h2
 obtain⟨rfl,hol⟩:=eU h4
 obtain⟨h5,h6⟩:=ih.dx hs.fresh h1
 obtain⟨k1,k2⟩:=sU (g:=mX L (aS L n) s) (P:=fun x=>jc L 0 1 s x) (fun t ht z hz=>by
  have ht2:=h6 t ht;have fH:=ht2.put (s:=s) rfl rfl (ht2.tq rfl).headD;unfold mX at hz⊢;obtain⟨r,q1,q2⟩:=Γ.1 hz;cases q2;by_cases ho:47≤(t.ah.headD zT).k∧bz L t.af=7∧yR.contains (bM L t.af)=true
  ·rw[ω ho]at q1⊢
   have hlt:t.af<L.length:=JJ (by rw[ho.2.1];decide);obtain⟨q3,q4⟩:=ih.assign ((ht2.eb hs.fresh).rest hlt) q1;refine⟨by rw[q3];rfl,fun u hu=>?_⟩
   rcases abf.1 hu with rfl|hu
   ·exact fH
   ·obtain⟨v,hv,rfl⟩:=abt.1 hu
    have hv2:=q4 v hv;have:=hv2.le;have p:=ht2.step hv2 [.mk 34 s.af v.af [t.ah.headD zT,v.ah.headD zT] []] (υ 1) (TQ.iA (t:=zT) (u:=zT) η η ⟨(ht2.tq rfl).headD,(hv2.tq rfl).headD,trivial⟩) (υ 1) 0;exact p.put (s:=s) rfl rfl (p.tq rfl).headD
  ·rw[χ ho]at q1⊢
   cases q1;refine⟨rfl,fun u hu=>?_⟩;obtain rfl:=Φ.1 hu
   exact fH) h3
 refine nH hL hs ζ (hs.ok ζ hL) ?_ hol k2 (υ _)
 show(aS L n (.dx (fresh s))).bind (fun x=>(bu (mX L (aS L n) s) x).bind aG)=_
 rw[h5,Ξ,k1];exact h4
theorem ahM (hL:L.length≤100)(ih:St L n)(hs:Eb L 4 s)(h:gV L (n+1) (.args s)=some xs):aS L (n+1) (.args s)=some xs∧∀x∈xs,jc L 0 0 s x:=by
 obtain⟨q3,q4,q5⟩:=Oa (τ:=⟨0,2,true,false,0⟩) ih hs rfl rfl rfl hs.af h
 exact nH hL hs ζ (hs.ok ζ hL) q3 q4 (fun x hx=>(q5 x hx).mono ζ (υ _)) (υ _)
theorem abm(ih:St L n)(hx:Eb L 4 x){p:Nat×List Sx}(h:ru L (gV L n) x=some p):ru L (aS L n) x=some p∧∀y∈p.2,x.af<y.af∧y.af≤L.length∧(∃k,Gw x.env y.env k∧k+2*x.af≤2*y.af)∧oQ y.ah:=by
 have done:∀{sl m:Nat} {y:Sx} (hlt:x.af<L.length),jc L sl m {af:=x.af+1,env:=x.env} y→x.af<y.af∧y.af≤L.length∧(∃k,Gw x.env y.env k∧k+2*x.af≤2*y.af)∧oQ y.ah:=fun{sl m y} hlt p=>by
  obtain⟨k,g1,g2⟩:=p.env;have h1:=p.lt;simp only at h1 g2;exact⟨by omega,p.le,⟨k,g1,by omega⟩,p.tq rfl⟩
 unfold ru at h⊢
 by_cases c0:dJ L x.af [91]=true
 ·rw[ω c0]at h⊢
  have hlt:=Ae c0;obtain⟨z,h1,rfl⟩:=acw.1 h;obtain⟨q3,q4,q5⟩:=Oa (τ:=⟨0,2,true,false,1⟩) ih (hx.rest hlt) rfl rfl rfl hlt h1;exact⟨by rw[q3];rfl,fun y hy=>done hlt (q5 y hy)⟩
 rw[χ c0]at h⊢
 by_cases c1:dJ L x.af [40]=true
 ·rw[ω c1]at h⊢
  have hlt:=Ae c1;obtain⟨z,h1,rfl⟩:=acw.1 h;obtain⟨q3,q5⟩:=ih.args (hx.rest hlt) h1;exact⟨by rw[q3];rfl,fun y hy=>done hlt (q5 y hy)⟩
 rw[χ c1]at h⊢
 by_cases c2:(dJ L x.af [46]||dJ L x.af Hy)=true
 ·rw[ω c2]at h⊢
  have hlt:x.af<L.length:=(ack _ _▸c2).elim Ae Ae;obtain⟨z,h1,rfl⟩:=acw.1 h;obtain⟨q3,q5⟩:=ih.call (w:=nT) (hx.rest hlt) h1;exact⟨by rw[q3];rfl,fun y hy=>done hlt (q5 y hy)⟩
 rw[χ c2]at h⊢
 refine⟨h,?_⟩
 split at h
 ·next c3=>
  have hlt:x.af<L.length:=(ack _ _▸c3).elim Ae Ae;cases h;intro y hy;obtain rfl:=Φ.1 hy;exact⟨aar _,hlt,⟨0,Gw.refl hx.ne,by simp only;omega⟩,trivial⟩
 ·cases h
  exact fun y hy=>(by cases hy)
theorem adK (hL:L.length≤100)(ih:St L n){bB : List Sx}(hs:Eb L 4 s)(hf:∀x∈bB,jc L 0 1 (fresh s) x)(h:gV L (n+1) (.iO s bB)=some xs):aS L (n+1) (.iO s bB)=some xs∧∀x∈xs,jc L 0 1 s x:=by
 have hsa:=hs.af
 have h:(if bB.isEmpty then some []else(bu (jF L (gV L n) s) bB).bind fun x=>(gV L n (.iO s x)).bind fun y=>aG (bB.map (dF s)++y))=some xs:=h
 by_cases h1:bB.isEmpty=true
 ·rw[ω h1]at h
  cases h;obtain rfl:=afP.1 h1;exact nH hL hs ζ ⟨hs.ok ζ hL,⟨by simp,fun x hx=>(by cases hx)⟩,fun x hx=>(by cases hx)⟩ rfl ν (fun x hx=>(by cases hx)) (Ω _)
 ·rw[χ h1]at h
  obtain⟨x,h2,h3⟩:=Γ.1 h;obtain⟨y,h6,h7⟩:=Γ.1 h3;obtain⟨rfl,hol⟩:=eU h7;have h0:BJ L (.iO s bB):=⟨hs.ok ζ hL,⟨by rw[Δ,abz]at hol;omega,fun x hx=>((hf x hx).eb hs.fresh).ok ζ hL⟩,fun x hx=>(hf x hx).ne⟩
  obtain⟨k1,k2⟩:=sU (g:=jF L (aS L n) s) (P:=fun x=>jc L 0 1 (fresh s) x) (fun t ht z hz=>by
   unfold jF at hz⊢;obtain⟨r,q1,q2⟩:=Γ.1 hz;cases q2;have ht2:=hf t ht;obtain⟨q3,q4⟩:=abm ih (ht2.eb hs.fresh) q1;refine⟨by rw[q3];rfl,fun u hu=>?_⟩;obtain⟨v,hv,rfl⟩:=abt.1 hu;obtain⟨a1,a2,⟨k,a3,a4⟩,a5⟩:=q4 v hv;obtain⟨k',g1,g2⟩:=ht2.env;have hlt:=ht2.lt;simp only[fresh]at hlt g2
   exact⟨by show s.af<v.af;omega,a2,⟨k'+k,g1.trans a3,by show k'+k+0+2*s.af≤2*v.af;omega⟩,_,rfl,by show 1+s.af≤v.af;omega,υ 1,TQ.iA (t:=zT) (u:=zT) η η ⟨(ht2.tq rfl).headD,a5⟩⟩) h2
  obtain⟨k3,k4⟩:=ih.iO hs k2 h6;refine nH hL hs ζ h0 ?_ hol (fun z hz=>?_) (Ω _)
  ·show(if bB.isEmpty then some []else(bu (jF L (aS L n) s) bB).bind fun x=>(aS L n (.iO s x)).bind fun y=>aG (bB.map (dF s)++y))=_
   rw[χ h1,k1,Ξ,k3,Ξ,h7]
  ·rcases abr.1 hz with hz|hz
   ·obtain⟨t,ht,rfl⟩:=abt.1 hz
    exact(hf t ht).put (s:=s) rfl rfl ((hf t ht).tq rfl).headD
   ·exact k4 z hz
theorem ahO (hL:L.length≤100)(ih:St L n)(hs:Eb L 4 s)(h:gV L (n+1) (.jT s)=some xs):aS L (n+1) (.jT s)=some xs∧∀x∈xs,jc L 0 1 s x:=by
 obtain⟨x,h1,h2⟩:=Γ.1 (show(gV L n (.call vL (fresh s))).bind (fun x=>(gV L n (.call yU (fresh s))).bind fun y=>(aG (x++y)).bind fun z=>gV L n (.iO s z))=some xs from h)
 obtain⟨y,h3,h4⟩:=Γ.1 h2
 obtain⟨z,h5,h6⟩:=Γ.1 h4
 obtain⟨k1,k2⟩:=ih.call (w:=vL) hs.fresh h1
 obtain⟨k3,k4⟩:=ih.call (w:=yU) hs.fresh h3
 obtain⟨rfl, -⟩:=eU h5
 obtain⟨k5,k6⟩:=ih.iO hs (fun u hu=>(abr.1 hu).elim (k2 u) (k4 u)) h6
 refine nH hL hs ζ (hs.ok ζ hL) ?_ (fE k5).2.1.1 k6 (Ω _)
 show(aS L n (.call vL (fresh s))).bind (fun x=>(aS L n (.call yU (fresh s))).bind fun y=>(aG (x++y)).bind fun z=>aS L n (.iO s z))=_
 rw[k1,Ξ,k3,Ξ,h5,Ξ,k5]
end
theorem Sa{L:List Ct}(hL:L.length≤100):∀n,St L n
 |0=>by constructor<;>intros<;>rename_i h<;>exact (by cases h)
 |n+1=>have ih:=Sa hL n
  ⟨ajA hL ih,ajB hL ih,ajC hL ih,ahK hL ih,adI hL ih,adJ hL ih,abj hL ih,abk hL ih,abl hL ih,ahM hL ih,ahO hL ih,adK hL ih⟩
set_option maxRecDepth 100000
set_option maxHeartbeats 1600000
open Go.RowKit Go.BigFrame Go.Proofs.YtlboejdhmggjpaaGreat
variable {c : Nat}{T : Nat→Prop}{a : Option Addr}
theorem l5.yQ {w:World}{k : Nat}{ks:List Tr}(h:l5 T w (.slice a k c) ks):(k=0∧ks=[])∨∃k' b off aK nK cK aD nD cD,k=k'+1∧a=some ⟨b,off,none⟩∧(∀W,Below w.heap.size w W→W.cell? ⟨b,off+k'*5,none⟩=some (.int .i64 (ks.getLastD (.mk 0 0 0 [] [])).k)∧W.cell? ⟨b,off+k'*5+1,none⟩=some (.int .i64 (ks.getLastD (.mk 0 0 0 [] [])).lo)∧W.cell? ⟨b,off+k'*5+2,none⟩=some (.int .i64 (ks.getLastD (.mk 0 0 0 [] [])).hi)∧W.cell? ⟨b,off+k'*5+3,none⟩=some (.slice aK nK cK)∧W.cell? ⟨b,off+k'*5+4,none⟩=some (.slice aD nD cD))∧kF T w (ks.getLastD (.mk 0 0 0 [] [])) [.int .i64 (ks.getLastD (.mk 0 0 0 [] [])).k, .int .i64 (ks.getLastD (.mk 0 0 0 [] [])).lo, .int .i64 (ks.getLastD (.mk 0 0 0 [] [])).hi, .slice aK nK cK, .slice aD nD cD]:=by
 obtain⟨gs,h1,h2⟩:=h
 have hk:=h1.len.1
 rw[h2.len]at hk
 by_cases h0:ks=[]
 ·exact .inl ⟨by rw[hk,h0];rfl,h0⟩
 ·have hp:0<ks.length:=acN.2 h0
  have hi:ks.length - 1<ks.length:=by omega
  obtain⟨g,g1,hg⟩:=h2.get _ hi
  have e:ks[ks.length - 1]=ks.getLastD (.mk 0 0 0 [] []):=by rw[afU,afY h0,List.getLast_eq_getElem];rfl
  rw[e]at hg;obtain⟨-,b,off,rfl,hS,hl,hc⟩:=h1.get g1;obtain⟨aK,nK,cK,aD,nD,cD,rfl, -⟩:=kF.aj hg;refine .inr ⟨ks.length - 1,b,off,aK,nK,cK,aD,nD,cD,by omega,rfl,fun W hW=>?_,hg⟩;have u:=dX.below hc hW hl;exact⟨u 0 _ rfl,u 1 _ rfl,u 2 _ rfl,u 3 _ rfl,u 4 _ rfl⟩
variable {g : List Value}{m : Nat}{S : Nat→Prop}{x : Sx}{w0 : World}
theorem dS.asX {w : World}(hm:w.heap.size=m)(hb:Below w0.heap.size w0 w)(h:fJ (Dr.gr S w0 w) w x g):dS (Dr.gr S w0 (w.alloc (.cells g.toArray 51))) (w.alloc (.cells g.toArray 51)) (.slice (some ⟨m,0,none⟩) 1 1) [x]:=(dS.ay 51 hm h).to (QS hb.size)
theorem uq{S:Nat→Prop}{w W:World}{m n:Nat}{x:Sx}{g:List Value}(hm:w.heap.size≤m)(b:Below w.heap.size w W)(h:fJ (nw S m) W x g)(hn:W.heap.size=n)(hS:∀b,S b→b<w.heap.size):Ps S w [x] (.returned (.slice (some ⟨n,0,none⟩) 1 1)) (W.alloc (.cells g.toArray 51)):=by
 have h1:fJ (gr S w W) W x g:=h.to (.mono fun d hd hl=>⟨hl,hd.imp id fun k=>by omega⟩)
 exact⟨_,rfl,b.alloc b.size _,dS.asX hn b h1⟩
theorem fJ.aeS{S:Nat→Prop}{W:World}{m:Nat}{x:Sx}{g:List Value}(hS:∀b,S b→b<m)(h:fJ (nw S (m+2)) W x g){p:Addr}(hp:p.block=m)(v:Value):fJ (nw S (m+2)) (W.setCell p v) x g:=by
 have hne:∀d,nw S (m+2) d→d≠p.block:=by
  intro d hd
  rcases hd with hd|hd
  ·have:=hS d hd;omega
  ·omega
 exact h.to (To.set p rfl hne v)
variable {p : Addr}{W : World}
theorem OE {w : World}(hS:∀b,S b→b<w.heap.size)(hm:w.heap.size=m)(b:Below w.heap.size w W)(h:fJ (nw S (m+2)) W x g)(hp:p.block=m)(v:Value):Ps S w [x] (.returned (.slice (some ⟨W.heap.size,0,none⟩) 1 1)) ((W.setCell p v).alloc (.cells g.toArray 51)):=
 uq (m:=m+2) η (b.setCell η v) (fJ.aeS (hm▸hS) h hp v) ν hS
variable {n : Nat}
theorem agC {w:World}(h:m≤n):To (nw S n) w (nw S m) w:= .mono fun _ k _=>k.imp id (aaT h)
def ap(S:Nat→Prop)(m:Nat)(w:World)(b:Nat):Prop:=b<w.heap.size∧(S b∨m+2≤b)
variable {env : List (List Sd)}{Q : Nat→Prop}{v : Value}
theorem acr (hS:∀b,S b→b<m)(h:nZ Q W v env)(hQ:∀b,Q b→b<W.heap.size→S b∨m+2≤b)(hp:p.block=m)(u:Value):nZ (ap S m (W.setCell p u)) (W.setCell p u) v env:=
 h.to ((To.mono (T:=ap S m W) fun b hb hl=>⟨hl,hQ b hb hl⟩).trans ((To.set p rfl (fun b hb=>by rcases hb.2 with hb|hb;(have:=hS b hb;omega);omega) u).trans (.mono fun b hb hl=>⟨hl,hb.2⟩)))
variable {d e : Value}
theorem P7 {a b c : Value}{t:TypeId}(h:W.heap[m]? =some (.cells #[a,b,c,d,e] t (0,0)))(u:Value):(W.setCell ⟨m,1,none⟩ u).heap[m]? =some (.cells #[a,u,c,d,e] t (0,0)):=gJ h
theorem nZ.aoC {w:World}{k : Nat}(h:nZ S w (.slice a k c) env)(h0:env≠[]):∃k' b off aD nD cD,k=k'+1∧k'+1≤9223372036854775807∧k'+1≤c∧a=some ⟨b,off,none⟩∧(∀W,Below w.heap.size w W→W.cell? ⟨b,off+k',none⟩=some (.slice aD nD cD))∧vg S w (.slice aD nD cD) (env.getLastD [])∧nZ S w (.slice (some ⟨b,off,none⟩) k' c) env.dropLast:=by
 obtain⟨A,D,rfl⟩:∃A D,env=A++[D]:=⟨env.dropLast,env.getLast h0,(acI h0).symm⟩
 obtain⟨gs,h1,h2⟩:=h
 obtain⟨ga,vi,rfl,h3,h4⟩:=h2.snoc
 obtain⟨aD,nD,cD,rfl⟩:=Rw.aj h4
 obtain⟨hk,hk2⟩:=h1.len
 obtain⟨-,b,off,rfl,hS,hlt,hc⟩:=h1.get (i:=ga.length) (g:=[.slice aD nD cD]) ν
 obtain⟨a',c',e,q1,q2,q3,q4,q5⟩:=h1
 cases e
 simp only[Δ,aaJ,List.length_nil,acK]at hk hk2 q4 q5
 refine⟨ga.length,b,off,aD,nD,cD,by simp,hk2,q5,rfl,fun W hW=>?_,by simpa using h4,ga,⟨_,_,rfl,(fun e=>(by cases e)), .inr ⟨b,off,rfl,hS,hlt,fun i hi=>?_⟩,fun g hg=>q3 g (aby _ hg),by omega,by omega⟩,by simpa using h3⟩
 ·have:=dX.below hc hW hlt 0 _ rfl
  simpa using this
 ·rcases q2 with q2|⟨b',off',e, -, -,q2⟩
  ·simp at q2
  ·cases e
   have:=q2 i (by simp;omega);rwa[List.getElem_append_left hi]at this
theorem UK:∀{ks:List Tr},Md ks→TG (ks.getLastD (.mk 0 0 0 [] []))
 |[],_=>⟨Ω _,Ω _,Ω _,trivial⟩
 |[t],h=>h.1
 |t::u::r,h=>by
  have:=UK (ks:=u::r) h.2;simpa[afU,List.getLast?_cons_cons]using this
variable {G' H : Prop}
theorem aim (n k:Nat){G : Prop}(hcall:H)(q:G')(h:Tg n k→H→G'→G:=by
  intro t hcall q;refine BC t (by kernel_rfl) (by kernel_rfl) ?_;dsimp only[List.take_succ_cons,List.take_zero,Nat.reduceAdd,List.drop_succ_cons,List.drop_zero,List.append_nil,List.cons_append,List.nil_append]
  try dsimp only[List.drop]
  repeat(first|go_big_quiet_step (fail)|go_big_quiet_step ((go_at_call 164;rename_i u;refine(hcall u).mono ?_;rintro e w2 ⟨rfl,b2⟩;exact⟨rfl,u.on b2⟩)))
  refine abO ?_;intro ok hok K hK w' hw';cases hok;obtain⟨u,rfl⟩:=hw';obtain⟨W,hW⟩:∃W,W=u.w:=⟨_,rfl⟩;have hbw:=u.below;rw[←hW]at hbw⊢;clear hW;clear u;have HK:=π hK;clear hK
  revert hbw W HK K
  exact q):G:=h ⟨⟩ hcall q
theorem ain (n k:Nat){G : Prop}(hcall:H)(q:G')(h:Tg n k→H→G'→G:=by
  intro t hcall q;refine Fv t (by kernel_rfl) (by kernel_rfl) ?_;dsimp only[List.take_succ_cons,List.take_zero,Nat.reduceAdd,List.drop_succ_cons,List.drop_zero,List.append_nil,List.cons_append,List.nil_append]
  repeat(first|go_big_quiet_step (fail)|go_big_quiet_step ((go_at_call 164;rename_i u;refine(hcall u).mono ?_;rintro e w2 ⟨rfl,b2⟩;exact⟨rfl,u.on b2⟩)))
  refine abO ?_;intro ok hok K hK w' hw';cases hok;obtain⟨u,rfl⟩:=hw';obtain⟨W,hW⟩:∃W,W=u.w:=⟨_,rfl⟩;have hbw:=u.below;rw[←hW]at hbw⊢;clear hW;clear u;have HK:=π hK;clear hK
  revert hbw W HK K
  exact q):G:=h ⟨⟩ hcall q
def BF:List Bs:=[[64,116,121,112,101,100],[64,100,101,99,108,97,114,101],[64,101,110,117,109,101,114,97,116,101],[64,111,112,101,110],[64,99,108,111,115,101],[64,102,117,110,99,116,105,111,110],[64,110,111,115,112,101,99],[64,110,111,112,97,114,101,110],[64,110,111,101,108,115,101],[64,115,111,109,101]]
theorem XG{env:List (List Sd)}{x:Bs}{b:Bool}{A M:Nat}(h:env≠[]∧env.length≤A∧∀d∈env,d.length≤M):fV env x b≠[]∧(fV env x b).length≤A∧∀d∈fV env x b,d.length≤M+1:=by
 obtain⟨h0,h1,h2⟩:=h
 unfold fV
 split
 ·exact⟨h0,h1,fun d hd=>Nat.le_succ_of_le (h2 d hd)⟩
 ·have hp:=acN.2 h0
  refine⟨by simp,by simp;omega,fun d hd=>?_⟩
  rcases abr.1 hd with hd|hd
  ·exact Nat.le_succ_of_le (h2 d ((List.dropLast_sublist _).subset hd))
  ·rw[Φ.1 hd,Δ,afU,afY h0]
   have:=h2 _ (List.getLast_mem h0);simp;omega
theorem M8{L:List Ct}:∀{t x:Tr},TG t→dG L t=some (some x)→TG x
 | .mk k lo hi [] ds,x,_,h=>by unfold dG at h;split at h<;>simp at h
 | .mk k lo hi (y::r) ds,x,ht,h=>by
   unfold dG at h
   split at h
   ·split at h
    ·next z hz=>exact M8 ht.2.2.2.1 (hz.trans h)
    ·split at h
     ·cases h;exact ht.2.2.2.2.1
     ·split at h<;>simp at h
   ·cases h;exact ht.2.2.2.1
theorem TG.mf:∀{t:Tr},TG t→t.mf.length≤10000
 | .mk _ _ _ _ _,⟨_,_,h,_⟩=>h
variable {L : List Ct}
theorem al4 {t:Tr}(h:TG t):TG (De (dG L t)).1:=by
 cases e:dG L t with
 |none=>exact⟨Ω _,Ω _,Ω _,trivial⟩
 |some o=>cases o with
  |none=>exact⟨Ω _,Ω _,Ω _,trivial⟩
  |some x=>exact M8 h e
theorem Df {G : Prop}(k:G')(h:PLift G'→G:=by
 intro kk
 obtain⟨l0,hl0⟩:∃l,jA s=l:=⟨_,rfl⟩
 have hl1:s.ah.getLastD (.mk 0 0 0 [] [])=l0:=hl0
 have hT0:=hK.yQ
 rw[hl1]at hT0
 have xK:=π hl0
 have hLT:∃lK mK qK lD mD qD,kF S w l0 [.int .i64 l0.k, .int .i64 l0.lo, .int .i64 l0.hi, .slice lK mK qK, .slice lD mD qD]∧((nK=0∧([.int .i64 l0.k, .int .i64 l0.lo, .int .i64 l0.hi, .slice lK mK qK, .slice lD mD qD]:List Value)=[.int .i64 0, .int .i64 0, .int .i64 0, .slice none 0 0, .slice none 0 0])∨∃k' b off,nK=k'+1∧aK=some ⟨b,off,none⟩∧∀W,Below w.heap.size w W→W.cell? ⟨b,off+k'*5,none⟩=some (.int .i64 l0.k)∧W.cell? ⟨b,off+k'*5+1,none⟩=some (.int .i64 l0.lo)∧W.cell? ⟨b,off+k'*5+2,none⟩=some (.int .i64 l0.hi)∧W.cell? ⟨b,off+k'*5+3,none⟩=some (.slice lK mK qK)∧W.cell? ⟨b,off+k'*5+4,none⟩=some (.slice lD mD qD)):=by
  rcases hT0 with⟨h1,h2⟩|⟨k',b,off,lK,mK,qK,lD,mD,qD,h1,h2,h3,h4⟩
  ·have:l0=zT:=by rw[←hl1,h2];rfl
   rw[this];exact⟨_,_,_,_,_,_,kF.zero, .inl ⟨h1,rfl⟩⟩
  ·exact⟨_,_,_,_,_,_,h4, .inr ⟨k',b,off,h1,h2,h3⟩⟩
 obtain⟨lK,mK,qK,lD,mD,qD,Fy,hcase⟩:=hLT
 have Ea:TG l0:=by rw[←hl1];exact UK hs.tg
 have zN:TB l0:=Ea.tb
 have hb1:=ag w (.cells #[.int .i64 s.af, .slice aE nE cE, .slice aK nK cK, .bool s.ty, .slice aC nC cC] 51)
 have hb2:=hb1.alloc hb1.size (.cells #[.int .i64 l0.k, .int .i64 l0.lo, .int .i64 l0.hi, .slice lK mK qK, .slice lD mD qD] 35)
 have B0:=π (CX (rR hm #[.int .i64 s.af, .slice aE nE cE, .slice aK nK cK, .bool s.ty, .slice aC nC cC] 51) (.cells #[.int .i64 l0.k, .int .i64 l0.lo, .int .i64 l0.hi, .slice lK mK qK, .slice lD mD qD] 35))
 have B1:=π (rR (l7 hm (.cells #[.int .i64 s.af, .slice aE nE cE, .slice aK nK cK, .bool s.ty, .slice aC nC cC] 51)) #[.int .i64 l0.k, .int .i64 l0.lo, .int .i64 l0.hi, .slice lK mK qK, .slice lD mD qD] 35)
 clear hl0 hl1 hT0
 obtain⟨W2,hW2⟩:∃W,W=(w.alloc (.cells #[.int .i64 s.af, .slice aE nE cE, .slice aK nK cK, .bool s.ty, .slice aC nC cC] 51)).alloc (.cells #[.int .i64 l0.k, .int .i64 l0.lo, .int .i64 l0.hi, .slice lK mK qK, .slice lD mD qD] 35):=⟨_,rfl⟩
 have HW2:=π hW2
 have Bi:∀b,S b→b<W2.heap.size:=by intro b hb;have:=hx.lt b hb;rw[hW2];simp;omega
 have yA:=hG.ext (show Below w.heap.size w W2 by rw[hW2];exact hb2)
 have Fz:=hE.to (show To S w S W2 by rw[hW2];exact .below hb2)
 have hKW:=hK.to (show To S w S W2 by rw[hW2];exact .below hb2)
 have hCW:=hC.to (show To S w S W2 by rw[hW2];exact .below hb2)
 have FB:=Fy.to (show To S w S W2 by rw[hW2];exact .below hb2)
 have vw:=π Fz
 have rA:=π hKW
 have wV:=π hCW
 have BO:=π FB
 rw[←hW2]at B0 B1 hb2
 have hs2:W2.heap.size=m0+2:=by rw[hW2];exact l7 (l7 hm _) _
 have HS2:=π hs2
 have vz:=(ψ.1 B0.out).1
 have BP:=(ψ.1 B1.out).1
 have HB2:=π hb2
 clear hW2 hs2
 have c:=fQ B0.out
 have cl:=fQ B1.out
 have z0:=gQ B0.out 0
 have z1:=gQ B0.out 1
 have z2:=gQ B0.out 2
 have z3:=gQ B0.out 3
 have z4:=gQ B0.out 4
 revert l0 xK lK mK qK lD mD qD Fy hcase Ea zN hb1 W2 hb2 B1 B0 HW2 Bi yA Fz hKW hCW FB vw rA wV BO HS2 vz BP HB2 c cl z0 z1 z2 z3 z4
 exact kk.down):G:=h ⟨k⟩
theorem Dh {G : Prop}(k:G')(h:PLift G'→G:=by
 intro kk
 first
 |(have d0:=hcells _ (hb1.alloc hb1.size (.cells #[.int .i64 0, .int .i64 0, .int .i64 0, .slice none 0 0, .slice none 0 0] 35))
   have hk':k'+1≤9223372036854775807:=hK.choose_spec.1.len.2
   have e9:decide ((0:Int)<((k'+1:Nat):Int))=true:=by rw[abC];omega)
 |skip
 go_enter Tryz.func135,Tryz.ntmps135
 generalize pW:bodyPost Tryz.prog Tryz.f135 _=K0
 have je:=π pW.symm
 clear pW
 go_upto_block 0 with fail
 rw[←HW2.out]
 rename_i K1 a1
 revert K0 je K1 a1
 exact kk.down):G:=h ⟨k⟩
theorem eqA{t:Bs}:∀L:List Bs,(∀d∈L,¬t=d)→EqN (au t) L
 |[],_=>trivial
 |a::r,h=>⟨by rw[mJ,aat];exact h a (.head _),eqA r fun d hd=>h d (.tail _ hd)⟩
variable {t : Bs}{f : Nat}{s : Sx}{vr : Value}
theorem VM {gb:Nat}{w:World}(ht:t=[64,111,112,101,110])(hx:Cx gb L vr S w s g)(hs:pQ L s)(hf:f≤L.length):Calls Tryz.prog 135 #[gP gb, .string (au t), .agg g.toArray, .int .i64 (f:Nat)] w (Ps S w (j3 L t s f)):=by
 have hA:j3 L t s f=[{s with env:=qY s.env}]:=by rw[ht];rfl
 rw[hA]
 have HA:=π hA
 obtain⟨aE,nE,cE,aK,nK,cK,aC,nC,cC,m0,rfl,hE,hK,hC,hG,hL2,hat,hm⟩:=hx.sh hs
 have HM:=π hm
 obtain⟨e0,e1,e2, -⟩:=Bg ht (BF.take 3) ζ
 have e3:=gp ht
 clear hA ht
 refine Df ?_
 intro l0 xK lK mK qK lD mD qD Fy hcase Ea zN hb1 W2 hb2 B1 B0 HW2 Bi yA Fz hKW hCW FB vw rA wV BO HS2 vz BP HB2 c cl z0 z1 z2 z3 z4
 rcases hcase with⟨rfl,hz⟩|⟨k',b,off,rfl,rfl,hcells⟩
 case' inl=>
  rw[hz]at HW2;clear hz
 all_goals
  refine Dh ?_;intro K0 je K1 a1
  go_wp2_with fail
  refine(Xz Bi vw.out (aaT hs.env ζ)).mono ?_;rintro e w3 ⟨v',rfl,b3,hv'⟩;obtain⟨a',k',c',rfl⟩:=hv'.choose_spec.1.aj;have A0:=aF b3 B0.out vz;have c:=fQ A0;have z0:=gQ A0 0;have z1:=gQ A0 1
  go_wp2_with fail
  rw[je.out];go_ret;have hb:=HB2.out.trans (b3.mono HB2.out.size);refine OE hx.lt HM.out hb ?_ rfl _;exact⟨_,_,_,rfl,HS2.out▸hv',rA.out.to (ig b3),wV.out.to (ig b3)⟩
theorem OG {gb:Nat}{w:World}(ht:t=[64,100,101,99,108,97,114,101])(hx:Cx gb L vr S w s g)(hs:pQ L s)(hf:f≤L.length):Calls Tryz.prog 135 #[gP gb, .string (au t), .agg g.toArray, .int .i64 (f:Nat)] w (Ps S w (j3 L t s f)):=by
 have hA:j3 L t s f=[{s with env:=fV s.env (jE L (jA s)) s.ty}]:=by rw[ht];rfl
 rw[hA]
 have HA:=π hA
 obtain⟨aE,nE,cE,aK,nK,cK,aC,nC,cC,m0,rfl,hE,hK,hC,hG,hL2,hat,hm⟩:=hx.sh hs
 have HM:=π hm
 obtain⟨e0, -⟩:=Bg ht (BF.take 1) ζ
 have e1:=gp ht
 clear hA ht
 refine Df ?_
 intro l0 xK lK mK qK lD mD qD Fy hcase Ea zN hb1 W2 hb2 B1 B0 HW2 Bi yA Fz hKW hCW FB vw rA wV BO HS2 vz BP HB2 c cl z0 z1 z2 z3 z4
 rcases hcase with⟨rfl,hz⟩|⟨k',b,off,rfl,rfl,hcells⟩
 case' inl=>
  rw[hz]at HW2;clear hz
 all_goals
  refine Dh ?_;intro K0 je K1 a1
  go_wp2_with fail
  have d0:∀u:df W2,_:=fun u=>fQ (aF u.below B0.out vz)
  have d1:∀u:df W2,_:=fun u=>fQ (aF u.below B1.out BP)
  have hcall:∀u:df W2,Calls Tryz.prog 164 #[gP gb, .agg [.int .i64 l0.k, .int .i64 l0.lo, .int .i64 l0.hi, .slice lK mK qK, .slice lD mD qD].toArray] u.w (fun e w'=>e= .returned (.string (au (jE L l0)))∧Below u.w.heap.size u.w w'):=fun u=>IX l0 u.w _ (yA.ext u.below) (BO.out.to (.below u.below)) zN
  dsimp only[List.toArray]at hcall;refine aim 9 7 hcall ?_;intro K W hbw eQ;clear d0 d1 hcall
  go_wp2_with fail
  refine(Cb (S:=S) (fun b h=>abB (Bi b h) hbw.size) (vw.out.to (.below hbw)) hs.UB (aaT hs.env ζ) (fun d hd=>aaT (hs.ds d hd) ζ) _ _).mono ?_;rintro e w3 ⟨v',rfl,b3,hv'⟩;have hb3:=hbw.trans (b3.mono hbw.size);obtain⟨a',k',c',rfl⟩:=hv'.choose_spec.1.aj
  go_wp2_with fail
  refine eQ.out _ _ ⟨⟨w3,hb3⟩,rfl⟩ ?_;have A0:=aF hb3 B0.out vz;clear c cl;have c:=fQ A0;have z0:=gQ A0 0;have z1:=gQ A0 1
  go_wp2_with fail
  rw[je.out];go_ret;have hb:=HB2.out.trans (hb3.mono HB2.out.size);refine OE hx.lt HM.out hb ?_ rfl _;rw[xK.out];exact⟨_,_,_,rfl,hv'.to (agC (by have:=hbw.size;have:=HS2.out;omega)),rA.out.to (ig hb3),wV.out.to (ig hb3)⟩
theorem Lp {gb:Nat}{w:World}(ht:t=[64,101,110,117,109,101,114,97,116,101])(hx:Cx gb L vr S w s g)(hs:pQ L s)(hf:f≤L.length)(hfl:f<L.length):Calls Tryz.prog 135 #[gP gb, .string (au t), .agg g.toArray, .int .i64 (f:Nat)] w (Ps S w (j3 L t s f)):=by
 have hA:j3 L t s f=[{s with env:=fV s.env (bM L f) false}]:=by rw[ht];rfl
 rw[hA]
 have HA:=π hA
 obtain⟨aE,nE,cE,aK,nK,cK,aC,nC,cC,m0,rfl,hE,hK,hC,hG,hL2,hat,hm⟩:=hx.sh hs
 have HM:=π hm
 obtain⟨e0,e1, -⟩:=Bg ht (BF.take 2) ζ
 have e2:=gp ht
 clear hA ht
 refine Df ?_
 intro l0 xK lK mK qK lD mD qD Fy hcase Ea zN hb1 W2 hb2 B1 B0 HW2 Bi yA Fz hKW hCW FB vw rA wV BO HS2 vz BP HB2 c cl z0 z1 z2 z3 z4
 rcases hcase with⟨rfl,hz⟩|⟨k',b,off,rfl,rfl,hcells⟩
 case' inl=>
  rw[hz]at HW2;clear hz
 all_goals
  refine Dh ?_;intro K0 je K1 a1
  go_wp2_with fail
  have d0:∀u:df W2,_:=fun u=>fQ (aF u.below B0.out vz)
  have d1:∀u:df W2,_:=fun u=>fQ (aF u.below B1.out BP)
  obtain⟨bt,ot,nt,ct,hnt,dt⟩:=yA.nR hfl
  have d2:∀u:df W2,_:=fun u=>dt u.w u.below
  have hft:f<nt:=hnt▸hfl;refine JR 12 10 ?_;intro K W hbw eQ;clear d0 d1 d2
  go_wp2_with fail
  refine(Cb (S:=S) (fun b h=>abB (Bi b h) hbw.size) (vw.out.to (.below hbw)) hs.UB (aaT hs.env ζ) (fun d hd=>aaT (hs.ds d hd) ζ) _ _).mono ?_;rintro e w3 ⟨v',rfl,b3,hv'⟩;have hb3:=hbw.trans (b3.mono hbw.size);obtain⟨a',k',c',rfl⟩:=hv'.choose_spec.1.aj
  go_wp2_with fail
  refine eQ.out _ _ ⟨⟨w3,hb3⟩,rfl⟩ ?_;have A0:=aF hb3 B0.out vz;clear c cl;have c:=fQ A0;have z0:=gQ A0 0;have z1:=gQ A0 1
  go_wp2_with fail
  rw[je.out];go_ret;have hb:=HB2.out.trans (hb3.mono HB2.out.size);refine OE hx.lt HM.out hb ?_ rfl _;exact⟨_,_,_,rfl,hv'.to (agC (by have:=hbw.size;have:=HS2.out;omega)),rA.out.to (ig hb3),wV.out.to (ig hb3)⟩
theorem OH {gb:Nat}{w:World}(ht:t=[64,110,111,112,97,114,101,110])(hx:Cx gb L vr S w s g)(hs:pQ L s)(hf:f≤L.length):Calls Tryz.prog 135 #[gP gb, .string (au t), .agg g.toArray, .int .i64 (f:Nat)] w (Ps S w (j3 L t s f)):=by
 have hA:j3 L t s f=(if dJ L s.af [40]=false then[s]else[]):=by rw[ht];rfl
 rw[hA]
 have HA:=π hA
 obtain⟨aE,nE,cE,aK,nK,cK,aC,nC,cC,m0,rfl,hE,hK,hC,hG,hL2,hat,hm⟩:=hx.sh hs
 have HM:=π hm
 obtain⟨e0,e1,e2,e3,e4,e5,e6, -⟩:=Bg ht (BF.take 7) ζ
 have e7:=gp ht
 clear hA ht
 refine Df ?_
 intro l0 xK lK mK qK lD mD qD Fy hcase Ea zN hb1 W2 hb2 B1 B0 HW2 Bi yA Fz hKW hCW FB vw rA wV BO HS2 vz BP HB2 c cl z0 z1 z2 z3 z4
 rcases hcase with⟨rfl,hz⟩|⟨k',b,off,rfl,rfl,hcells⟩
 case' inl=>
  rw[hz]at HW2;clear hz
 all_goals
  refine Dh ?_;intro K0 je K1 a1
  go_wp2_with fail
  refine(rY yA s.af hat [40] ζ ζ).mono ?_;rintro e w4 ⟨rfl,b4⟩;have b4:=(Below.refl W2.heap.size W2).trans (b4.mono (Below.refl W2.heap.size W2).size);obtain⟨z,hz⟩:∃z,dJ L s.af [40]=z:=⟨_,rfl⟩;rw[hz];have HZ:=π hz;clear hz;have A0:=aF b4 B0.out vz;clear c cl;have c:=fQ A0
  cases z with
  |true=>
   go_wp2_with fail
   rw[je.out];go_ret;rw[HZ.out,χ ν];exact⟨_,rfl,HB2.out.trans (b4.mono HB2.out.size),dS.nil⟩
  |false=>
   go_wp2_with fail
   rw[je.out];go_ret;rw[HZ.out,ω rfl];have hb:=HB2.out.trans (b4.mono HB2.out.size);refine uq (m:=m0+2) (by have:=HM.out;omega) hb ?_ (by first|rfl|(have:=HS2.out;omega)) hx.lt;exact⟨_,_,_,rfl,vw.out.to (ig b4),rA.out.to (ig b4),wV.out.to (ig b4)⟩
theorem QC {gb:Nat}{w:World}(ht:t=[64,110,111,101,108,115,101])(hx:Cx gb L vr S w s g)(hs:pQ L s)(hf:f≤L.length):Calls Tryz.prog 135 #[gP gb, .string (au t), .agg g.toArray, .int .i64 (f:Nat)] w (Ps S w (j3 L t s f)):=by
 have hA:j3 L t s f=(if dJ L s.af [101,108,115,101]=false then[s]else[]):=by rw[ht];rfl
 rw[hA]
 have HA:=π hA
 obtain⟨aE,nE,cE,aK,nK,cK,aC,nC,cC,m0,rfl,hE,hK,hC,hG,hL2,hat,hm⟩:=hx.sh hs
 have HM:=π hm
 obtain⟨e0,e1,e2,e3,e4,e5,e6,e7, -⟩:=Bg ht (BF.take 8) ζ
 have e8:=gp ht
 clear hA ht
 refine Df ?_
 intro l0 xK lK mK qK lD mD qD Fy hcase Ea zN hb1 W2 hb2 B1 B0 HW2 Bi yA Fz hKW hCW FB vw rA wV BO HS2 vz BP HB2 c cl z0 z1 z2 z3 z4
 rcases hcase with⟨rfl,hz⟩|⟨k',b,off,rfl,rfl,hcells⟩
 case' inl=>
  rw[hz]at HW2;clear hz
 all_goals
  refine Dh ?_;intro K0 je K1 a1
  go_wp2_with fail
  refine(rY yA s.af hat [101,108,115,101] ζ ζ).mono ?_;rintro e w4 ⟨rfl,b4⟩;have b4:=(Below.refl W2.heap.size W2).trans (b4.mono (Below.refl W2.heap.size W2).size);obtain⟨z,hz⟩:∃z,dJ L s.af [101,108,115,101]=z:=⟨_,rfl⟩;rw[hz];have HZ:=π hz;clear hz;have A0:=aF b4 B0.out vz;clear c cl;have c:=fQ A0
  cases z with
  |true=>
   go_wp2_with fail
   rw[je.out];go_ret;rw[HZ.out,χ ν];exact⟨_,rfl,HB2.out.trans (b4.mono HB2.out.size),dS.nil⟩
  |false=>
   go_wp2_with fail
   rw[je.out];go_ret;rw[HZ.out,ω rfl];have hb:=HB2.out.trans (b4.mono HB2.out.size);refine uq (m:=m0+2) (by have:=HM.out;omega) hb ?_ (by first|rfl|(have:=HS2.out;omega)) hx.lt;exact⟨_,_,_,rfl,vw.out.to (ig b4),rA.out.to (ig b4),wV.out.to (ig b4)⟩
theorem QD {gb:Nat}{w:World}(ht:t=[64,110,111,115,112,101,99])(hx:Cx gb L vr S w s g)(hs:pQ L s)(hf:f≤L.length):Calls Tryz.prog 135 #[gP gb, .string (au t), .agg g.toArray, .int .i64 (f:Nat)] w (Ps S w (j3 L t s f)):=by
 have hA:j3 L t s f=(if iY L s.env s.af true=false∧dJ L s.af [41]=false then[s]else[]):=by rw[ht];rfl
 rw[hA]
 have HA:=π hA
 obtain⟨aE,nE,cE,aK,nK,cK,aC,nC,cC,m0,rfl,hE,hK,hC,hG,hL2,hat,hm⟩:=hx.sh hs
 have HM:=π hm
 obtain⟨e0,e1,e2,e3,e4,e5, -⟩:=Bg ht (BF.take 6) ζ
 have e6:=gp ht
 clear hA ht
 refine Df ?_
 intro l0 xK lK mK qK lD mD qD Fy hcase Ea zN hb1 W2 hb2 B1 B0 HW2 Bi yA Fz hKW hCW FB vw rA wV BO HS2 vz BP HB2 c cl z0 z1 z2 z3 z4
 rcases hcase with⟨rfl,hz⟩|⟨k',b,off,rfl,rfl,hcells⟩
 case' inl=>
  rw[hz]at HW2;clear hz
 all_goals
  refine Dh ?_;intro K0 je K1 a1
  go_wp2_with fail
  refine(oF yA vw.out (aaT hs.env ζ) (fun d hd=>aaT (hs.ds d hd) ζ) s.af hat true).mono ?_;rintro e w3 ⟨rfl,b3⟩;obtain⟨y,hy⟩:∃y,iY L s.env s.af true=y:=⟨_,rfl⟩;rw[hy];have HY:=π hy;clear hy;have A0:=aF b3 B0.out vz;clear c cl;have c:=fQ A0
  cases y with
  |true=>
   go_wp2_with fail
   rw[je.out];go_ret;rw[HY.out,χ ν];exact⟨_,rfl,HB2.out.trans (b3.mono HB2.out.size),dS.nil⟩
  |false=>
   go_wp2_with fail
   refine(rY (yA.ext b3) s.af hat [41] ζ ζ).mono ?_;rintro e w4 ⟨rfl,b4⟩;have b4:=b3.trans (b4.mono b3.size);obtain⟨z,hz⟩:∃z,dJ L s.af [41]=z:=⟨_,rfl⟩;rw[hz];have HZ:=π hz;clear hz;have A1:=aF b4 B0.out vz;clear c;have c:=fQ A1
   cases z with
   |true=>
    go_wp2_with fail
    rw[je.out];go_ret;rw[HY.out,HZ.out,χ ν];exact⟨_,rfl,HB2.out.trans (b4.mono HB2.out.size),dS.nil⟩
   |false=>
    go_wp2_with fail
    rw[je.out];go_ret;rw[HY.out,HZ.out,ω ⟨rfl,rfl⟩];have hb:=HB2.out.trans (b4.mono HB2.out.size);refine uq (m:=m0+2) (by have:=HM.out;omega) hb ?_ (by first|rfl|(have:=HS2.out;omega)) hx.lt;exact⟨_,_,_,rfl,vw.out.to (ig b4),rA.out.to (ig b4),wV.out.to (ig b4)⟩
theorem VN {gb:Nat}{w:World}(ht:t=[64,115,111,109,101])(hx:Cx gb L vr S w s g)(hs:pQ L s)(hf:f≤L.length):Calls Tryz.prog 135 #[gP gb, .string (au t), .agg g.toArray, .int .i64 (f:Nat)] w (Ps S w (j3 L t s f)):=by
 have hA:j3 L t s f=(if f<s.af then[s]else[]):=by rw[ht];rfl
 rw[hA]
 have HA:=π hA
 obtain⟨aE,nE,cE,aK,nK,cK,aC,nC,cC,m0,rfl,hE,hK,hC,hG,hL2,hat,hm⟩:=hx.sh hs
 have HM:=π hm
 obtain⟨e0,e1,e2,e3,e4,e5,e6,e7,e8, -⟩:=Bg ht (BF.take 9) ζ
 have e9:=gp ht
 clear hA ht
 refine Df ?_
 intro l0 xK lK mK qK lD mD qD Fy hcase Ea zN hb1 W2 hb2 B1 B0 HW2 Bi yA Fz hKW hCW FB vw rA wV BO HS2 vz BP HB2 c cl z0 z1 z2 z3 z4
 rcases hcase with⟨rfl,hz⟩|⟨k',b,off,rfl,rfl,hcells⟩
 case' inl=>
  rw[hz]at HW2;clear hz
 all_goals
  refine Dh ?_;intro K0 je K1 a1;obtain⟨z20,aeT⟩:∃z,decide (f<s.af)=z:=⟨_,rfl⟩
  have hif:∀X:List Sx,(if f<s.af then X else[])=if z20=true then X else[]:=fun X=>by rw[←aeT];by_cases h:f<s.af<;>simp[h]
  rw[hif]at je;have asY:=π aeT;clear aeT hif
  go_cut [9]from 31 to 203 (fun s9 wx=>s9= .bool z20∧W2=wx)
  case first=>
   go_wp2_with fail
   go_meet
   exact⟨by rw[asY.out],rfl⟩
  case rest=>
   obtain⟨rfl,rfl⟩:=hcut;cases z20
   case false=>
    go_wp2_with fail
    rw[je.out];go_ret;rw[χ ζ];exact⟨_,rfl,HB2.out,dS.nil⟩
   case true=>
    go_wp2_with fail
    rw[je.out];go_ret;rw[ω (by trivial)];refine uq (m:=m0+2) (by have:=HM.out;omega) HB2.out ?_ (by first|rfl|(have:=HS2.out;omega)) hx.lt;exact⟨_,_,_,rfl,vw.out.to (ig (Below.refl W2.heap.size W2)),rA.out.to (ig (Below.refl W2.heap.size W2)),wV.out.to (ig (Below.refl W2.heap.size W2))⟩
theorem UL {gb:Nat}{w:World}(ht:∀c∈BF,t≠c)(hx:Cx gb L vr S w s g)(hs:pQ L s)(hf:f≤L.length):Calls Tryz.prog 135 #[gP gb, .string (au t), .agg g.toArray, .int .i64 (f:Nat)] w (Ps S w (j3 L t s f)):=by
 have hA:j3 L t s f=[s]:=by unfold j3;repeat rw[χ (ht _ ζ)]
 rw[hA]
 have HA:=π hA
 obtain⟨aE,nE,cE,aK,nK,cK,aC,nC,cC,m0,rfl,hE,hK,hC,hG,hL2,hat,hm⟩:=hx.sh hs
 have HM:=π hm
 obtain⟨e0,e1,e2,e3,e4,e5,e6,e7,e8,e9, -⟩:=eqA _ ht
 clear hA ht
 refine Df ?_
 intro l0 xK lK mK qK lD mD qD Fy hcase Ea zN hb1 W2 hb2 B1 B0 HW2 Bi yA Fz hKW hCW FB vw rA wV BO HS2 vz BP HB2 c cl z0 z1 z2 z3 z4
 rcases hcase with⟨rfl,hz⟩|⟨k',b,off,rfl,rfl,hcells⟩
 case' inl=>
  rw[hz]at HW2;clear hz
 all_goals
  refine Dh ?_;intro K0 je K1 a1
  go_wp2_with fail
  rw[je.out];go_ret;have hb:=HB2.out;refine uq (m:=m0+2) (by have:=HM.out;omega) hb ?_ (by first|rfl|(have:=HS2.out;omega)) hx.lt;exact⟨_,_,_,rfl,vw.out.to (ig (Below.refl W2.heap.size W2)),rA.out.to (ig (Below.refl W2.heap.size W2)),wV.out.to (ig (Below.refl W2.heap.size W2))⟩
set_option maxHeartbeats 160000000
theorem M9 {gb:Nat}{w:World}(ht:t=[64,102,117,110,99,116,105,111,110])(hx:Cx gb L vr S w s g)(hs:pQ L s)(hf:f≤L.length):Calls Tryz.prog 135 #[gP gb, .string (au t), .agg g.toArray, .int .i64 (f:Nat)] w (Ps S w (j3 L t s f)):=by
 have hA:j3 L t s f=(if(De (dG L (jA s))).2=true∧(De (dG L (jA s))).1.k=16 then[{s with env:=(De (dG L (jA s))).1.mf.foldl (fun e (d:Sd)=>fV e d.1 d.2) (qY (fV s.env (jE L (jA s)) s.ty))}]else[]):=by
  rw[ht];show(match dG L (jA s)with|some (some x)=>if x.k=16 then[{s with env:=x.mf.foldl (fun e (d:Sd)=>fV e d.1 d.2) (qY (fV s.env (jE L (jA s)) s.ty))}]else[]|_=>[])=_
  cases dG L (jA s)with
  |none=>rfl
  |some o=>cases o with
   |none=>rfl
   |some x=>simp[De]
 rw[hA]
 have HA:=π hA
 obtain⟨aE,nE,cE,aK,nK,cK,aC,nC,cC,m0,rfl,hE,hK,hC,hG,hL2,hat,hm⟩:=hx.sh hs
 have HM:=π hm
 obtain⟨e0,e1,e2,e3,e4, -⟩:=Bg ht (BF.take 5) ζ
 have e5:=gp ht
 clear hA ht
 refine Df ?_
 intro l0 xK lK mK qK lD mD qD Fy hcase Ea zN hb1 W2 hb2 B1 B0 HW2 Bi yA Fz hKW hCW FB vw rA wV BO HS2 vz BP HB2 c cl z0 z1 z2 z3 z4
 rcases hcase with⟨rfl,hz⟩|⟨k',b,off,rfl,rfl,hcells⟩
 case' inl=>
  rw[hz]at HW2;clear hz
 all_goals
  refine Dh ?_;intro K0 je K1 a1
  go_wp2_with fail
  refine(M7 (S:=S) l0 W2 _ Bi yA BO.out zN).mono ?_;rintro e w3 ⟨g',rfl,b3,hn⟩;rw[xK.out]at je;have hNG:TG (De (dG L l0)).1:=al4 Ea;obtain⟨N,hN⟩:∃N,De (dG L l0)=N:=⟨_,rfl⟩;rw[hN]at hn hNG je⊢;clear hN;obtain⟨nt,nb⟩:=N;dsimp only at hn hNG je⊢;obtain⟨gK,oK,vK,gD,oD,vD,rfl,hn1,hn2⟩:=kF.aj hn;have hnd:nt.mf.length≤10000:=hNG.mf;have hb4:=ag w3 (.cells #[.int .i64 nt.k, .int .i64 nt.lo, .int .i64 nt.hi, .slice gK oK vK, .slice gD oD vD] 35);have hb5:=b3.trans (hb4.mono b3.size);obtain⟨W5,tO⟩:∃W,W=w3.alloc (.cells #[.int .i64 nt.k, .int .i64 nt.lo, .int .i64 nt.hi, .slice gK oK vK, .slice gD oD vD] 35):=⟨_,rfl⟩;obtain⟨m5,hm5⟩:∃m,w3.heap.size=m:=⟨_,rfl⟩;have HM5:=π hm5;have HW5:=π tO;have hn3:=Rw.to hn2 (.below hb4);have B5:=π (rR hm5 #[.int .i64 nt.k, .int .i64 nt.lo, .int .i64 nt.hi, .slice gK oK vK, .slice gD oD vD] 35);rw[←tO]at hb5 hn3 B5;have tV:=π hb5;have UM:=π hn3;have MV:=π hnd
  have axS:m0+2≤m5:=by have:=b3.size;have:=HS2.out;omega
  have hs5:m5+1≤W5.heap.size:=by rw[tO];simp;omega
  clear hn hn1 hn2 hn3 hb4 tO hm5 hnd hNG hb5 c cl;have c:=fQ (aF tV.out B0.out vz);rw[HW5.out]at c;obtain⟨z9,XH⟩:∃z,(nb&&decide (nt.k=16))=z:=⟨_,rfl⟩
  have hif:∀X:List Sx,(if nb=true∧nt.k=16 then X else[])=if z9=true then X else[]:=fun X=>by rw[←XH];cases nb<;>by_cases h:nt.k=16<;>simp[h]
  rw[hif]at je;have HZ9:=π XH;clear XH hif
  go_upto_region 28 with fail
  go_cut [9]from 129 to 134 (fun s9 wx=>s9= .bool z9∧wx=w3.alloc (.cells #[.int .i64 nt.k, .int .i64 nt.lo, .int .i64 nt.hi, .slice gK oK vK, .slice gD oD vD] 35))
  case first=>
   by_cases h16:nt.k=16
   case pos=>
    have e16:((nt.k:Int)==16)=true:=by rw[aaZ];omega
    obtain rfl:nb=z9:=by rw[←HZ9.out,aa4 h16,Bool.and_true]
    clear h16;cases nb
    all_goals(go_wp2_with fail;go_meet;exact⟨rfl,rfl⟩)
   case neg=>
    have e16:((nt.k:Int)==16)=false:=by rw[aat];omega
    obtain rfl:false=z9:=by rw[←HZ9.out,aa5 h16,agQ]
    clear h16;cases nb
    all_goals(go_wp2_with fail;go_meet;exact⟨rfl,rfl⟩)
  case rest=>
   obtain⟨rfl,rfl⟩:=hcut
   go_wp2_with fail
   rw[←HW5.out];rw[HM5.out];clear c
   have d0:∀u:df W5,_:=fun u=>fQ (aF (tV.out.trans (u.below.mono tV.out.size)) B0.out vz)
   have d1:∀u:df W5,_:=fun u=>fQ (aF (tV.out.trans (u.below.mono tV.out.size)) B1.out BP)
   have hcall:∀u:df W5,Calls Tryz.prog 164 #[gP gb, .agg [.int .i64 l0.k, .int .i64 l0.lo, .int .i64 l0.hi, .slice lK mK qK, .slice lD mD qD].toArray] u.w (fun e w'=>e= .returned (.string (au (jE L l0)))∧Below u.w.heap.size u.w w'):=fun u=>IX l0 u.w _ (yA.ext (tV.out.trans (u.below.mono tV.out.size))) (BO.out.to (.below (tV.out.trans (u.below.mono tV.out.size)))) zN
   dsimp only[List.toArray]at hcall;refine ain 9 7 hcall ?_;intro K W hbw eQ;clear d0 d1 hcall;have hbW:=tV.out.trans (hbw.mono tV.out.size)
   go_wp2_with fail
   refine(Cb (S:=S) (fun b h=>abB (Bi b h) hbW.size) (vw.out.to (.below hbW)) hs.UB (aaT hs.env ζ) (fun d hd=>aaT (hs.ds d hd) ζ) _ _).mono ?_;rintro e w6 ⟨v',rfl,b6,hv'⟩;have hb6:=hbw.trans (b6.mono hbw.size);have hD1:=XG (x:=jE L l0) (b:=s.ty) (A:=1000) (M:=10000) ⟨hs.UB,hs.env,hs.ds⟩;obtain⟨E1,hE1⟩:∃E,fV s.env (jE L l0) s.ty=E:=⟨_,rfl⟩;rw[hE1]at hv' hD1 je;clear hE1
   go_wp2_with fail
   refine eQ.out _ _ ⟨⟨w6,hb6⟩,rfl⟩ ?_;intro o2 ho2 K2 hK2;cases ho2;have ji:=π hK2;clear hK2;have hv1:=hv'.to (To.mono (T:=ap S m0 w6) fun b k hl=>⟨hl,k.imp id (aaT (by have:=hbW.size;have:=HS2.out;omega))⟩)
   go_wp2_with fail
   refine(Xz (fun b h=>h.1) hv1 (by have:=hD1.2.1;omega)).mono ?_;rintro e w7 ⟨v2,rfl,b7,hv2⟩;have tF:=hb6.trans (b7.mono hb6.size);obtain⟨a',k',c',rfl⟩:=hv2.choose_spec.1.aj;obtain⟨E2,hE2⟩:∃E,qY E1=E:=⟨_,rfl⟩
   have hD2:E2≠[]∧E2.length≤1001∧∀d∈E2,d.length≤10001:=by
    rw[←hE2];unfold qY;refine⟨by simp,by have:=hD1.2.1;simp;omega,fun d hd=>?_⟩
    rcases abr.1 hd with hd|hd
    ·exact hD1.2.2 d hd
    ·rw[Φ.1 hd];exact Ω _
   rw[hE2]at hv2 je;clear hE2 hD1
   go_wp2_with fail
   refine ji.out _ _ ⟨⟨w7,tF⟩,rfl⟩ ?_;have A7:=aF (tV.out.trans (tF.mono tV.out.size)) B0.out vz;have c:=fQ A7;have z0:=gQ A7 0;have z1:=gQ A7 1;have hbf:=tV.out.trans (tF.mono tV.out.size);have hst:nZ (ap S m0 (w7.setCell ⟨m0,1,none⟩ (.slice a' k' c'))) (w7.setCell ⟨m0,1,none⟩ (.slice a' k' c')) (.slice a' k' c') E2:=acr (HM.out▸hx.lt) hv2 (fun b hb hl=>hb.elim (fun h=>h.2) fun h=> .inr (by have:=hb6.size;have:=tV.out.size;have:=HS2.out;omega)) rfl _;have UN:To (fun b=>b≠m0) W5 (fun b=>b≠m0) (w7.setCell ⟨m0,1,none⟩ (.slice a' k' c')):=(To.below tF).trans (.set ⟨m0,1,none⟩ rfl (fun _ h=>h) _);have UO:Below w.heap.size w (w7.setCell ⟨m0,1,none⟩ (.slice a' k' c')):=(HB2.out.trans (hbf.mono HB2.out.size)).setCell (by have:=HM.out;show w.heap.size≤m0;omega) _;have J7:=P7 A7 (.slice a' k' c');have hlD:oD=nt.mf.length:=(Rw.len UM.out).1.trans (by rw[abz]);have axT:=(Rw.len UM.out).2;have HLD:=π hlD;clear hlD;have HKX:=rA
   go_wp2_with fail
   go_loopw [16] (fun s16 wr=>∃(i:Nat) (a1:Option Addr) (k1 c1:Nat) (I9:Option Addr) (Ja Jb:Nat),s16= .int .i64 (i:Int)∧i≤oD∧l5 S W2 (.slice I9 Ja Jb) s.ah∧wr.heap[m0]? =some (.cells #[.int .i64 s.af, .slice a1 k1 c1, .slice I9 Ja Jb, .bool s.ty, .slice aC nC cC] 51 (0,0))∧To (fun b=>b≠m0) W5 (fun b=>b≠m0) wr∧Below w.heap.size w wr∧nZ (ap S m0 wr) wr (.slice a1 k1 c1) ((nt.mf.take i).foldl (fun e (d:Sd)=>fV e d.1 d.2) E2)∧((nt.mf.take i).foldl (fun e (d:Sd)=>fV e d.1 d.2) E2≠[]∧((nt.mf.take i).foldl (fun e (d:Sd)=>fV e d.1 d.2) E2).length≤1001∧∀d∈(nt.mf.take i).foldl (fun e (d:Sd)=>fV e d.1 d.2) E2,d.length≤10001+i)) (fun s16 _=>(oD - intOf s16).toNat)
   case atStart=>exact⟨0,a',k',c',_,_,_,by go_num,Ω _,HKX.out,J7,UN,UO,hst,hD2⟩
   case round=>
    clear hv2 hv1 hst UN UO J7 hD2 A7 c z0 z1;obtain⟨i,a1,k1,c1,I9,Ja,Jb,rfl,hi,hkk,hA,hto,hbe,hE,hB⟩:=hrel;obtain⟨EE,hEE⟩:∃E,(nt.mf.take i).foldl (fun e (d:Sd)=>fV e d.1 d.2) E2=E:=⟨_,rfl⟩;rw[hEE]at hE hB;have HEE:=π hEE;have HA:=π hA;have HKK:=π hkk;have HE:=π hE;clear hEE hA hkk hE;have hml:m0<wr.heap.size:=(ψ.1 HA.out).1
    have asZ:m5≠m0:=by omega
    have hA5:wr.heap[m5]? =some (.cells #[.int .i64 nt.k, .int .i64 nt.lo, .int .i64 nt.hi, .slice gK oK vK, .slice gD oD vD] 35 (0,0)):=(hto.eq m5 asZ (abB (aar _) hs5)).1.trans B5.out;have HA5:=π hA5;clear hA5;have h5l:m5<wr.heap.size:=(ψ.1 HA5.out).1;by_cases hlt:i<oD
    case pos=>
     have hiD:i<nt.mf.length:=by rw[←HLD.out];exact hlt
     obtain⟨-,bD,al9,rfl,hSb,hlt2,hc⟩:=Rw.get UM.out (i:=i) (g:=MX nt.mf[i]) (by rw[afG,abE hiD];rfl);obtain⟨Y,hY⟩:∃Y,nt.mf[i]=Y:=⟨_,rfl⟩;rw[hY]at hc;obtain⟨yt,yq⟩:=Y
     have hne:bD≠m0:=by have:=hx.lt bD hSb;have:=HM.out;omega
     have hc2:=dX.same hc (hto.eq bD hne hlt2).1;have hwl:bD<wr.heap.size:=abB hlt2 hto.size
     have d0:∀u:df wr,_:=fun u=>fQ (aF u.below HA.out hml)
     have d1:∀u:df wr,_:=fun u=>(fQ (aF u.below HA5.out h5l)).2.2.2.2
     have d2:∀u:df wr,u.w.cell? ⟨bD,al9+i*2,none⟩=some (.string (au yt))∧u.w.cell? ⟨bD,al9+i*2+1,none⟩=some (.bool yq):=fun u=>⟨dX.below hc2 u.below hwl 0 _ rfl,dX.below hc2 u.below hwl 1 _ rfl⟩
     have d3:=d0 (df.oH wr);have d4:=(fQ HA5.out).2.2.2.2;dsimp only[df.oH,df.w]at d3;have h1:decide (i<oD)=true:=aa4 hlt;have HY:=π hY;clear hY hc hc2
     go_wp2_with fail
     refine JR 16 14 ?_;intro K W hbw eQ;clear d0 d1 d2 d3 d4
     go_wp2_with fail
     refine(Cb (S:=ap S m0 wr) (fun b h=>abB h.1 hbw.size) (HE.out.to (.below hbw)) hB.1 (by have:=hB.2.1;omega) (fun d hd=>by have:=hB.2.2 d hd;have:=MV.out;have:=HLD.out;omega) _ _).mono ?_;rintro e w8 ⟨v8,rfl,b8,hv8⟩;have gW:=hbw.trans (b8.mono hbw.size);obtain⟨a8,k8,c8,rfl⟩:=hv8.choose_spec.1.aj
     go_wp2_with fail
     refine eQ.out _ _ ⟨⟨w8,gW⟩,rfl⟩ ?_;have A8:=aF gW HA.out hml;have c:=fQ A8;have z0:=gQ A8 0;have z1:=gQ A8 1
     go_wp2_with fail
     go_roundw
     case rel=>
      refine⟨i+1,a8,k8,c8,I9,Ja,Jb,by go_num,by omega,HKK.out,P7 A8 _,hto.trans ((To.below gW).trans (.set ⟨m0,1,none⟩ rfl (fun _ h=>h) _)),(hbe.trans (gW.mono hbe.size)).setCell (by have:=HM.out;show w.heap.size≤m0;omega) _,?_⟩;rw[abL hiD,List.foldl_append,HEE.out,HY.out];refine⟨acr (HM.out▸hx.lt) hv8 (fun b hb hl=>hb.elim (fun h=>h.2) fun h=> .inr (by have:=hbw.size;have:=hto.size;have:=HM.out;omega)) rfl _,?_⟩;exact XG hB
     case measure=>simp[intOf];omega
    case neg=>
     have h1:decide (i<oD)=false:=aa5 hlt
     obtain rfl:EE=nt.mf.foldl (fun e (d:Sd)=>fV e d.1 d.2) E2:=by rw[←HEE.out,ab1 (by rw[←HLD.out];omega)]
     have d3:=fQ HA.out;have d4:=(fQ HA5.out).2.2.2.2;cases z9
     case false=>
      go_wp2_with fail
      rw[je.out];go_ret;rw[χ ζ];exact⟨_,rfl,hbe,dS.nil⟩
     case true=>
      go_wp2_with fail
      rw[je.out];go_ret;rw[ω (by trivial)];have hSr:To S W2 (nw S (m0+2)) wr:=⟨aaT tV.out.size hto.size,fun b hb hl=>⟨(hto.eq b (by have:=hx.lt b hb;have:=HM.out;omega) (abB hl tV.out.size)).1.trans (tV.out.block b hl), .inl hb⟩⟩;exact uq (m:=m0+2) (by have:=HM.out;omega) hbe ⟨_,_,_,rfl,HE.out.to (.mono fun b h _=>h.2),HKK.out.to hSr,wV.out.to hSr⟩ rfl hx.lt
set_option maxHeartbeats 16000000
theorem Jc {a b c : Value}{t:TypeId}(h:W.heap[m]? =some (.cells #[a,b,c,d,e] t (0,0)))(u:Value):(W.setCell ⟨m,3,none⟩ u).heap[m]? =some (.cells #[a,b,c,u,e] t (0,0)):=gJ h
variable {i : Nat}
theorem ZV {hi : Nat}{ks:List Tr}(h:¬i<hi):jV L hi n i ks=false:=by
 cases n with
 |zero=>unfold jV;rfl
 |succ n=>unfold jV;rw[χ h]
theorem VO {hi : Nat}{x:Tr}{r:List Tr}(h:i<hi)(hn:0<n)(hx:x.lo=i):jV L hi n i (x::r)=jV L hi (hi+1) x.hi r:=by
 obtain⟨n,rfl⟩:∃k,n=k+1:=⟨n - 1,by omega⟩
 conv=>lhs;unfold jV
 rw[ω h]
 dsimp only
 rw[ω hx]
theorem VQ{L:List Ct}{hi n i:Nat}{ks:List Tr}(h:i<hi)(hn:0<n)(hx:∀x r,ks=x::r→x.lo≠i):jV L hi n i ks=(dJ L i [116,121,112,101,100,101,102]||jV L hi (n - 1) (i+1) ks):=by
 obtain⟨n,rfl⟩:∃k,n=k+1:=⟨n - 1,by omega⟩
 conv=>lhs;unfold jV
 rw[ω h]
 cases ks with
 |nil=>rfl
 |cons x r=>dsimp only;rw[χ (hx x r rfl)];rfl
theorem Uz.get:∀{ks:List Tr} {k:Nat} (_:Uz ks) (h:k<ks.length),TB ks[k]
 |t::r,0,h,_=>h.1
 |t::r,k+1,h,hk=>Uz.get (ks:=r) h.2 (by simpa using hk)
theorem TB.hi:∀{t:Tr},TB t→t.hi≤100000
 | .mk _ _ _ _ _,h=>h.2.1
theorem TB.lo:∀{t:Tr},TB t→t.lo≤100000
 | .mk _ _ _ _ _,h=>h.1
theorem TB.ks:∀{t:Tr},TB t→Uz t.ah
 | .mk _ _ _ _ _,h=>h.2.2
theorem UQ {gb:Nat}{w:World}(ht:t=[64,116,121,112,101,100])(hx:Cx gb L vr S w s g)(hs:pQ L s)(hf:f≤L.length):Calls Tryz.prog 135 #[gP gb, .string (au t), .agg g.toArray, .int .i64 (f:Nat)] w (Ps S w (j3 L t s f)):=by
 have hA:j3 L t s f=[{s with ty:=jV L (jA s).hi ((jA s).hi+1) (jA s).lo (jA s).ah}]:=by rw[ht];rfl
 rw[hA]
 have HA:=π hA
 obtain⟨aE,nE,cE,aK,nK,cK,aC,nC,cC,m0,rfl,hE,hK,hC,hG,hL2,hat,hm⟩:=hx.sh hs
 have HM:=π hm
 have e0:=gp ht
 clear hA ht
 refine Df ?_
 intro l0 xK lK mK qK lD mD qD Fy hcase Ea zN hb1 W2 hb2 B1 B0 HW2 Bi yA Fz hKW hCW FB vw rA wV BO HS2 vz BP HB2 c cl z0 z1 z2 z3 z4
 rcases hcase with⟨rfl,hz⟩|⟨k',b,off,rfl,rfl,hcells⟩
 case' inl=>
  rw[hz]at HW2;clear hz
 all_goals
  refine Dh ?_;intro K0 je K1 a1;rw[xK.out]at je;obtain⟨Z,hZ⟩:∃Z,jV L l0.hi (l0.hi+1) l0.lo l0.ah=Z:=⟨_,rfl⟩;rw[hZ]at je;have HZ:=π hZ;clear hZ;obtain⟨_,_,_,_,_,_,eqL,hLK, -⟩:=kF.aj BO.out;simp only[afM,Value.slice.injEq,true_and,and_true]at eqL;obtain⟨⟨rfl,rfl,rfl⟩,rfl,rfl,rfl⟩:=eqL;obtain⟨gsL,hL1,aeU⟩:=hLK;have hmK:mK=l0.ah.length:=hL1.len.1.trans aeU.len;have axU:=hL1.len.2;have IP:=π hmK;have HL1:=π hL1;have HL2:=π aeU;have as0:=zN.lo;have axV:=zN.hi;have UN:To (fun b=>b≠m0) W2 (fun b=>b≠m0) (W2.setCell ⟨m0,3,none⟩ (.bool false)):= .set ⟨m0,3,none⟩ rfl (fun _ h=>h) _;have UO:Below w.heap.size w (W2.setCell ⟨m0,3,none⟩ (.bool false)):=HB2.out.setCell (by have:=HM.out;show w.heap.size≤m0;omega) _;have J7:=Jc B0.out (.bool false);clear hmK hL1 aeU
  go_wp2_with fail
  go_loopw [11,12] (fun s11 s12 wr=>∃(k i n:Nat) (ty:Bool) (I9:Option Addr) (Ja Jb:Nat),s11= .int .i64 (k:Int)∧s12= .int .i64 (i:Int)∧k≤mK∧l0.hi+1≤n+i∧i≤100000∧(ty||jV L l0.hi n i (l0.ah.drop k))=Z∧l5 S W2 (.slice I9 Ja Jb) s.ah∧wr.heap[m0]? =some (.cells #[.int .i64 s.af, .slice aE nE cE, .slice I9 Ja Jb, .bool ty, .slice aC nC cC] 51 (0,0))∧To (fun b=>b≠m0) W2 (fun b=>b≠m0) wr∧Below w.heap.size w wr) (fun s11 s12 _=>(mK - intOf s11).toNat*(l0.hi+1)+(l0.hi - intOf s12).toNat)
  case atStart=>exact⟨0,l0.lo,l0.hi+1,false,_,_,_,by go_num,rfl,Ω _,by omega,as0,by rw[afu,List.drop_zero];exact HZ.out,rA.out,J7,UN,UO⟩
  case round=>
   clear UN UO J7 c z0 z1 z2 z3 z4 cl;obtain⟨q,i,n,ty,I9,Ja,Jb,rfl,rfl,hq,hn,hi,hT,hkk,hA,hto,hbe⟩:=hrel;have HA:=π hA;have HKK:=π hkk;have HTT:=π hT;clear hA hkk hT;have hml:m0<wr.heap.size:=(ψ.1 HA.out).1;have A1:wr.heap[m0+1]? =some (.cells #[.int .i64 l0.k, .int .i64 l0.lo, .int .i64 l0.hi, .slice lK mK qK, .slice lD mD qD] 35 (0,0)):=(hto.eq (m0+1) (by show m0+1≠m0;omega) BP).1.trans B1.out;have d1:=fQ A1;clear A1;have c:=fQ HA.out;have z3:=gQ HA.out 3;by_cases hih:i<l0.hi
   case pos=>
    have e0:decide (i<l0.hi)=true:=aa4 hih;by_cases hj:q<mK∧∀Na:q<l0.ah.length,(l0.ah[q]).lo=i
    case pos=>
     obtain⟨hqm,hj⟩:=hj
     have Na:q<l0.ah.length:=by rw[←IP.out];exact hqm
     have hj:=hj Na;obtain⟨gX,hgX,hX⟩:=HL2.out.get q Na;obtain⟨_,_,_,_,_,_,rfl, -, -⟩:=kF.aj hX;obtain⟨-,bL,oL,rfl,hSL,hlL,hcL⟩:=HL1.out.get hgX;have hc2:=dX.same hcL (hto.eq bL (by have:=hx.lt bL hSL;have:=HM.out;show bL≠m0;omega) hlL).1;have d2:=hc2 1 _ rfl;have d3:=hc2 2 _ rfl;rw[hj]at d2;have e1:decide (q<mK)=true:=aa4 hqm;obtain⟨xh,hxh⟩:∃h,(l0.ah[q]).hi=h:=⟨_,rfl⟩;have hxB:(l0.ah[q]).hi≤100000:=(zN.ks.get Na).hi;have HXH:=π hxh;rw[hxh]at d3 hxB;have HJ:=π hj;clear hxh hj hc2 hcL hX hgX
     go_wp2_with fail
     go_roundw
     case rel=>
      refine⟨q+1,xh,l0.hi+1,ty,I9,Ja,Jb,by go_num,rfl,by omega,by omega,hxB,?_,HKK.out,HA.out,hto,hbe⟩;have h9:=HTT.out;rw[abv Na,VO hih η HJ.out,HXH.out]at h9;exact h9
     case measure=>
      have h1:mK - q=(mK - (q+1))+1:=by omega
      simp[intOf];rw[show((mK:Int) - (q+1)).toNat=mK - (q+1) by omega,h1,agO];omega
    case neg=>
     have hst:=VQ (L:=L) (n:=n) (ks:=l0.ah.drop q) hih η (by
      rintro x r e h;refine hj ⟨?_,fun Na=>?_⟩
      ·rw[IP.out]
       apply Nat.lt_of_not_le;intro hle;rw[abY hle]at e;cases e
      ·rw[abv Na]at e
       cases e
       exact h)
     have hT:=HTT.out;rw[hst]at hT;have HT2:=π hT;clear hst hT
     have hcell:(decide (q<mK)=false)∨(decide (q<mK)=true∧q<mK∧∃bL oL xl,lK=some ⟨bL,oL,none⟩∧wr.cell? ⟨bL,oL+q*5+1,none⟩=some (.int .i64 (xl:Nat))∧((xl:Int)==(i:Int))=false):=by
      by_cases hqm:q<mK
      ·have Na:q<l0.ah.length:=by rw[←IP.out];exact hqm
       obtain⟨gX,hgX,hX⟩:=HL2.out.get q Na;obtain⟨_,_,_,_,_,_,rfl, -, -⟩:=kF.aj hX;obtain⟨-,bL,oL,rfl,hSL,hlL,hcL⟩:=HL1.out.get hgX;have hc2:=dX.same hcL (hto.eq bL (by have:=hx.lt bL hSL;have:=HM.out;show bL≠m0;omega) hlL).1;refine .inr ⟨aa4 hqm,hqm,bL,oL,(l0.ah[q]).lo,rfl,hc2 1 _ rfl,?_⟩;rw[aat];intro e;exact hj ⟨hqm,fun _=>by omega⟩
      ·exact .inl (aa5 hqm)
     clear hj;have HI:=π hih
     have hi1:i+1≤100000:=by omega
     have aO:dJ L i [116,121,112,101,100,101,102]=dJ L i [116,121,112,101,100,101,102]:=rfl
     rcases hcell with e1|⟨e1,hqm,bL,oL,xl,rfl,d2,e2⟩
     all_goals
      cases ty with
      |true=>
       go_wp2_with fail
       go_roundw
       case rel=>exact⟨q,i+1,n - 1,true,I9,Ja,Jb,rfl,by go_num,hq,by omega,hi1,by have:=HT2.out;rw[Bool.true_or]at this⊢;exact this,HKK.out,Jc HA.out _,hto.trans (.set ⟨m0,3,none⟩ rfl (fun _ h=>h) _),hbe.setCell (by have:=HM.out;show w.heap.size≤m0;omega) _⟩
       case measure=>have:=HI.out;simp[intOf];omega
      |false=>
       go_wp2_with fail
       refine(rY (hG.ext hbe) i hi [116,121,112,101,100,101,102] ζ ζ).mono ?_;rintro e w4 ⟨rfl,b4⟩;obtain⟨z,hz⟩:∃z,dJ L i [116,121,112,101,100,101,102]=z:=⟨_,rfl⟩;rw[hz];have hT:=HT2.out;rw[hz,afu]at hT;have HT3:=π hT;clear hz hT;have A4:=aF b4 HA.out hml;clear c z3 d1;have c:=fQ A4;have z3:=gQ A4 3
       go_wp2_with fail
       go_roundw
       case rel=>exact⟨q,i+1,n - 1,z,I9,Ja,Jb,rfl,by go_num,hq,by omega,hi1,HT3.out,HKK.out,Jc A4 _,hto.trans ((To.below b4).trans (.set ⟨m0,3,none⟩ rfl (fun _ h=>h) _)),(hbe.trans (b4.mono hbe.size)).setCell (by have:=HM.out;show w.heap.size≤m0;omega) _⟩
       case measure=>have:=HI.out;simp[intOf];omega
   case neg=>
    have e0:decide (i<l0.hi)=false:=aa5 hih;have hT:=HTT.out;rw[ZV hih,afp]at hT;subst hT
    go_wp2_with fail
    rw[je.out];go_ret;have hSr:To S W2 (nw S (m0+2)) wr:=⟨hto.size,fun b hb hl=>⟨(hto.eq b (by have:=hx.lt b hb;have:=HM.out;show b≠m0;omega) hl).1, .inl hb⟩⟩;exact uq (m:=m0+2) (by have:=HM.out;omega) hbe ⟨_,_,_,rfl,vw.out.to hSr,HKK.out.to hSr,wV.out.to hSr⟩ rfl hx.lt
theorem UR {gb:Nat}{w:World}(ht:t=[64,99,108,111,115,101])(hx:Cx gb L vr S w s g)(hs:pQ L s)(hf:f≤L.length):Calls Tryz.prog 135 #[gP gb, .string (au t), .agg g.toArray, .int .i64 (f:Nat)] w (Ps S w (j3 L t s f)):=by
 have hA:j3 L t s f=[{s with cl:=s.env.getLastD [],env:=s.env.dropLast}]:=by rw[ht];rfl
 rw[hA]
 have HA:=π hA
 obtain⟨aE,nE,cE,aK,nK,cK,aC,nC,cC,m0,rfl,hE,hK,hC,hG,hL2,hat,hm⟩:=hx.sh hs
 have HM:=π hm
 obtain⟨e0,e1,e2,e3, -⟩:=Bg ht (BF.take 4) ζ
 have e4:=gp ht
 clear hA ht
 refine Df ?_
 intro l0 xK lK mK qK lD mD qD Fy hcase Ea zN hb1 W2 hb2 B1 B0 HW2 Bi yA Fz hKW hCW FB vw rA wV BO HS2 vz BP HB2 c cl z0 z1 z2 z3 z4
 rcases hcase with⟨rfl,hz⟩|⟨k',b,off,rfl,rfl,hcells⟩
 case' inl=>
  rw[hz]at HW2;clear hz
 all_goals
  refine Dh ?_;intro K0 je K1 a1;obtain⟨kE,bE,oE,aD,nD,cD,rfl,hE1,hE2,rfl,hE3,hE4,hE5⟩:=vw.out.aoC hs.UB;have ce:=hE3 W2 (Below.refl _ _);have HE4:=π hE4;have HE5:=π hE5
  have hw64:wrap64 (kE:Int)=(kE:Int):=by unfold wrap64;omega
  have HE9:=π (And.intro hE1 (And.intro hE2 (And.intro ce hw64)));clear hE3 hE4 hE5 hE1 hE2 ce hw64
  go_upto_region 24 with fail
  obtain⟨hE1,hE2,ce,hw64⟩:=HE9.out;rw[hw64];clear hw64
  go_wp2_with fail
  go_simp
  go_wp2_with fail
  rw[je.out];go_ret;have hb:Below w.heap.size w ((W2.setCell ⟨m0,4,none⟩ (.slice aD nD cD)).setCell ⟨m0,1,none⟩ (.slice (some ⟨bE,oE,none⟩) kE cE)):=(HB2.out.setCell (p:=⟨m0,4,none⟩) (by have:=HM.out;show w.heap.size≤m0;omega) _).setCell (p:=⟨m0,1,none⟩) (by have:=HM.out;show w.heap.size≤m0;omega) _;have hSm:∀b,S b→b<m0:=HM.out▸hx.lt;refine uq (m:=m0+2) (by have:=HM.out;omega) hb (fJ.aeS (S:=S) (m:=m0) (p:=⟨m0,1,none⟩) hSm (fJ.aeS (S:=S) (m:=m0) (p:=⟨m0,4,none⟩) hSm ?_ rfl _) rfl _) (by have:=HS2.out;simp[this]) hx.lt;exact⟨_,_,_,rfl,HE5.out.to (ig (Below.refl _ _)),rA.out.to (ig (Below.refl _ _)),Rw.to HE4.out (ig (Below.refl _ _))⟩
theorem amc {gb:Nat}:alD gb L vr:=by
 intro S w t s g f hx hs hf _ he _
 by_cases h:t∈BF
 ·simp only[BF,abf,abZ,acz]at h
  rcases h with h|h|h|h|h|h|h|h|h|h
  ·exact UQ h hx hs hf
  ·exact OG h hx hs hf
  ·exact Lp h hx hs hf (he h)
  ·exact VM h hx hs hf
  ·exact UR h hx hs hf
  ·exact M9 h hx hs hf
  ·exact QD h hx hs hf
  ·exact OH h hx hs hf
  ·exact QC h hx hs hf
  ·exact VN h hx hs hf
 ·exact UL (fun c hc e=>h (e▸hc)) hx hs hf
set_option maxHeartbeats 8000000
theorem acv {gb:Nat}(ih:Wd gb L vr n):alM gb L vr n:=by
 intro S w x g f p hx hs hk0 hf h
 have hG:=hx.gx.gb
 have hL2:L.length≤100000:=hG.choose_spec.choose_spec.2.2
 have hat:x.af≤100000:=aaT hs.af hL2
 obtain⟨T,hp,hbx,hst⟩:=hx.box
 obtain⟨m0,hm0⟩:∃m,w.heap.size=m:=⟨_,rfl⟩
 rw[hm0]at hbx
 have HM0:=π hm0
 obtain⟨aE,nE,cE,aK,nK,cK,aC,nC,cC,rfl,hE,hK,hC⟩:=hx.st.aj
 obtain⟨w1,hw1⟩:∃W,W=w.alloc (.cells #[.int .i64 x.af, .slice aE nE cE, .slice aK nK cK, .bool x.ty, .slice aC nC cC] 51):=⟨_,rfl⟩
 have aml:w.alloc (.cells ([.int .i64 x.af, .slice aE nE cE, .slice aK nK cK, .bool x.ty, .slice aC nC cC]:List Value).toArray 51)=w1:=hw1.symm
 rw[aml]at hp hbx hst
 have HW1:=π hw1
 have hs1:w1.heap.size=m0+1:=by rw[hw1];exact l7 hm0 _
 have hsx:fJ T w1 {af:=x.af+1,env:=x.env} [.int .i64 ((x.af:Int)+1), .slice aE nE cE, .slice none 0 0, .bool false, .slice none 0 0]:=⟨_,_,_,by simp,hst.lG.1,⟨[],Rw.nil,rfl⟩,Rw.nil⟩
 have iq:=ag w1 (.cells #[.int .i64 ((x.af:Int)+1), .slice aE nE cE, .slice none 0 0, .bool false, .slice none 0 0] 51)
 have p2:=hp.call iq
 have bx1:=Bx.new hs1 [.int .i64 ((x.af:Int)+1), .slice aE nE cE, .slice none 0 0, .bool false, .slice none 0 0] 51 (S:=T)
 have bx0:=hbx.to (aH iq)
 have st0:=hst.to (aH iq)
 have st1:=hsx.to (aH iq)
 obtain⟨w2,hw2⟩:∃W,W=w1.alloc (.cells #[.int .i64 ((x.af:Int)+1), .slice aE nE cE, .slice none 0 0, .bool false, .slice none 0 0] 51):=⟨_,rfl⟩
 have amm:w1.alloc (.cells ([.int .i64 ((x.af:Int)+1), .slice aE nE cE, .slice none 0 0, .bool false, .slice none 0 0]:List Value).toArray 51)=w2:=hw2.symm
 have HW2:=π hw2
 rw[amm]at bx1
 rw[←hw2]at p2 bx0 st0 st1
 obtain⟨T2,GN⟩:∃T2,T2=gr T w1 w2:=⟨_,rfl⟩
 rw[←GN]at bx1 p2 bx0 st0 st1
 have qw:=hx.af p2 st1
 have hG2:=qw.gx.gb
 unfold ru at h
 have H:=π h
 clear h hw1 aml hw2 amm hp hbx hst hsx iq hs1 GN
 go_enter Tryz.func102,Tryz.ntmps102
 obtain⟨K0,pW⟩:∃K0,K0=bodyPost Tryz.prog Tryz.f102 (Ps S w (List.map (fun y=>iA p.fst f y (x.ah.headD zT::y.ah)) p.snd)):=⟨_,rfl⟩
 rw[←pW]
 have je:=π pW
 clear pW
 go_wp2_with fail
 rw[←HW1.out,←HW2.out]
 refine(rY (qw.gx.gb) x.af hat [91] ζ ζ).mono ?_
 rintro e w3 ⟨rfl,b3⟩
 obtain⟨z1,hz1⟩:∃z,dJ L x.af [91]=z:=⟨_,rfl⟩
 rw[hz1]
 have h:=H.out
 rw[hz1]at h
 have H:=π h
 clear hz1 h
 have p3:=p2.on b3
 have qx:=bx0.to (.below b3)
 have qy:=bx1.to (.below b3)
 have wG:=st0.to (.below b3)
 have Bl:=hx.af p3 (qw.st.to (.below b3))
 have c0:=qx.cell
 have c1:=qy.cell
 clear b3 p2 bx0 bx1 st0 qw
 have p2:=p3
 have bx0:=qx
 have bx1:=qy
 have st0:=wG
 have qw:=Bl
 clear p3 qx qy wG Bl
 go_upto_if 24 with fail
 go_cut [7,8]from 25 to 67 (fun s7 s8 wx=>∃(av:Option Addr) (kv cv:Nat) (T1:Nat→Prop),s7= .int .i64 (p.1:Nat)∧s8= .slice av kv cv∧Pw S w T1 wx∧Bx T1 wx m0 [.int .i64 x.af, .slice aE nE cE, .slice aK nK cK, .bool x.ty, .slice aC nC cC]∧fJ T1 wx x [.int .i64 x.af, .slice aE nE cE, .slice aK nK cK, .bool x.ty, .slice aC nC cC]∧dS T1 wx (.slice av kv cv) p.2∧p.2.length≤1000∧∀y∈p.2,y.ah.length≤1000)
 case first=>
  cases z1 with
  |true=>
   have h:=H.out;rw[ω rfl]at h;obtain⟨ys0,h1,h2⟩:=acw.1 h;obtain⟨ys,h3,h4⟩:=Γ.1 h1;obtain⟨rfl,hyl⟩:=eU h4;have HS:=π h3
   have FC:Hid (∀y∈ys,y.ah.length≤1000):=π fun y hy=>((fE HS.out).2.1.2 y hy).ah
   obtain⟨j,k1,k2,k3,k4⟩:=as5;have HW:=π (And.intro k1 (And.intro k2 k3));subst h2;clear h h1 h3 h4 k1 k2 k3 H
   go_wp2_with fail
   refine(CZ (S:=T2) amk k4).mono ?_;rintro e w4 ⟨v2,rfl,hb2,hr2⟩;have p4:=p2.call hb2;have hr3:=hr2.to wS;obtain⟨a2,q2,c2,rfl⟩:=hr3.aj
   go_wp2_with fail
   refine(JU 100 (i:=0) p4.lt hr3 HW.out.2.1 HW.out.2.2 ζ HW.out.1).mono ?_;rintro e w5 ⟨v3,rfl,hb3,hal⟩;have p5:=p4.call hb3;have as7:=(bx1.to (aH hb2)).to (aH hb3);have as8:=(bx0.to (aH hb2)).to (aH hb3);have as9:=(st0.to (aH hb2)).to (aH hb3);have ata:=(qw.st.to (aH hb2)).to (aH hb3);obtain⟨a3,q3,c3,rfl⟩:=hal.choose_spec.1.aj;have hq3:=hal.len.1;obtain⟨bb,off,ai,ki,ci,rfl,d0,yz⟩:=hal.at (i:=0) ζ;obtain rfl:q3=1:=hq3;have d0:∀u:df w5,u.w.cell? ⟨bb,off,none⟩=some (.slice ai ki ci):=d0;have d1:=as7.u;clear c0 c1
   go_wp2_with fail
   refine zy 6 5 ?_;intro K W hbw eQ;clear d0 d1
   go_wp2_with fail
   refine(ih.seq (hx.af (p5.on hbw) (ata.to (.below hbw))) (yz.to (.below hbw)) HS.out).mono ?_;rintro e w6 h;obtain⟨v,rfl,hb6,hr⟩:=h.rq hbw;obtain⟨av,kv,cv,rfl⟩:=hr.aj;clear h;have p6:=p5.call hb6;have Ao:=as8.to (aH hb6);have Ap:=as9.to (aH hb6)
   go_wp2_with fail
   refine eQ.out _ _ ⟨⟨w6,hb6⟩,rfl⟩ ?_
   go_wp2_with fail
   go_meet
   exact⟨_,_,_,_,rfl,rfl,p6,Ao,Ap,hr,hyl,FC.out⟩
  |false=>
   have h:=H.out;rw[χ ζ]at h;have H:=π h;clear h
   go_wp2_with fail
   refine(rY (qw.gx.gb) x.af hat [40] ζ ζ).mono ?_;rintro e w3 ⟨rfl,b3⟩;obtain⟨z1,hz1⟩:∃z,dJ L x.af [40]=z:=⟨_,rfl⟩;rw[hz1];have h:=H.out;rw[hz1]at h;have H:=π h;clear hz1 h c0 c1;have p3:=p2.on b3;have qx:=bx0.to (.below b3);have qy:=bx1.to (.below b3);have wG:=st0.to (.below b3);have Bl:=hx.af p3 (qw.st.to (.below b3));have c0:=qx.cell;have c1:=qy.cell;clear b3 p2 bx0 bx1 st0 qw;have p2:=p3;have bx0:=qx;have bx1:=qy;have st0:=wG;have qw:=Bl;clear p3 qx qy wG Bl
   cases z1 with
   |true=>
    have h:=H.out;rw[ω (by rfl)]at h;obtain⟨ys,h1,rfl⟩:=acw.1 h;have HS:=π h1;have hyl:ys.length≤1000:=(fE HS.out).2.1.1
    have FC:Hid (∀y∈ys,y.ah.length≤1000):=π fun y hy=>((fE HS.out).2.1.2 y hy).ah
    clear h h1 H
    go_wp2_with fail
    refine(ih.args qw HS.out).mono ?_;rintro e w6 ⟨v,rfl,hb6,hr⟩;obtain⟨av,kv,cv,rfl⟩:=hr.aj;have p6:=p2.call hb6;have Ao:=bx0.to (aH hb6);have Ap:=st0.to (aH hb6)
    go_wp2_with fail
    go_meet
    exact⟨_,_,_,_,rfl,rfl,p6,Ao,Ap,hr,hyl,FC.out⟩
   |false=>
    have h:=H.out;rw[χ ζ]at h;have H:=π h;clear h
    go_wp2_with fail
    refine(rY (qw.gx.gb) x.af hat [46] ζ ζ).mono ?_;rintro e w3 ⟨rfl,b3⟩;obtain⟨z1,hz1⟩:∃z,dJ L x.af [46]=z:=⟨_,rfl⟩;rw[hz1];have h:=H.out;rw[hz1]at h;have H:=π h;clear hz1 h c0 c1;have p3:=p2.on b3;have qx:=bx0.to (.below b3);have qy:=bx1.to (.below b3);have wG:=st0.to (.below b3);have Bl:=hx.af p3 (qw.st.to (.below b3));have c0:=qx.cell;have c1:=qy.cell;clear b3 p2 bx0 bx1 st0 qw;have p2:=p3;have bx0:=qx;have bx1:=qy;have st0:=wG;have qw:=Bl;clear p3 qx qy wG Bl
    cases z1 with
    |true=>
     have h:=H.out;rw[ω ν]at h;obtain⟨ys,h1,rfl⟩:=acw.1 h;have HS:=π h1;have hyl:ys.length≤1000:=(fE HS.out).2.1.1
     have FC:Hid (∀y∈ys,y.ah.length≤1000):=π fun y hy=>((fE HS.out).2.1.2 y hy).ah
     clear h h1 H
     go_wp2_with fail
     refine(ih.call qw HS.out).mono ?_;rintro e w6 ⟨v,rfl,hb6,hr⟩;obtain⟨av,kv,cv,rfl⟩:=hr.aj;have p6:=p2.call hb6;have Ao:=bx0.to (aH hb6);have Ap:=st0.to (aH hb6)
     go_wp2_with fail
     go_meet
     exact⟨_,_,_,_,rfl,rfl,p6,Ao,Ap,hr,hyl,FC.out⟩
    |false=>
     go_wp2_with fail
     refine(rY (qw.gx.gb) x.af hat [45,62] ζ ζ).mono ?_;rintro e w3 ⟨rfl,b3⟩;obtain⟨z1,hz1⟩:∃z,dJ L x.af [45,62]=z:=⟨_,rfl⟩;rw[hz1];have h:=H.out;rw[hz1]at h;have H:=π h;clear hz1 h c0 c1;have p3:=p2.on b3;have qx:=bx0.to (.below b3);have qy:=bx1.to (.below b3);have wG:=st0.to (.below b3);have Bl:=hx.af p3 (qw.st.to (.below b3));have c0:=qx.cell;have c1:=qy.cell;clear b3 p2 bx0 bx1 st0 qw;have p2:=p3;have bx0:=qx;have bx1:=qy;have st0:=wG;have qw:=Bl;clear p3 qx qy wG Bl
     cases z1 with
     |true=>
      have h:=H.out;rw[ω ν]at h;obtain⟨ys,h1,rfl⟩:=acw.1 h;have HS:=π h1;have hyl:ys.length≤1000:=(fE HS.out).2.1.1
      have FC:Hid (∀y∈ys,y.ah.length≤1000):=π fun y hy=>((fE HS.out).2.1.2 y hy).ah
      clear h h1 H
      go_wp2_with fail
      refine(ih.call qw HS.out).mono ?_;rintro e w6 ⟨v,rfl,hb6,hr⟩;obtain⟨av,kv,cv,rfl⟩:=hr.aj;have p6:=p2.call hb6;have Ao:=bx0.to (aH hb6);have Ap:=st0.to (aH hb6)
      go_wp2_with fail
      go_meet
      exact⟨_,_,_,_,rfl,rfl,p6,Ao,Ap,hr,hyl,FC.out⟩
     |false=>
      have h:=H.out;rw[χ ν]at h;have H:=π h;clear h
      go_wp2_with fail
      refine(rY (qw.gx.gb) x.af hat [43,43] ζ ζ).mono ?_;rintro e w3 ⟨rfl,b3⟩;obtain⟨z1,hz1⟩:∃z,dJ L x.af [43,43]=z:=⟨_,rfl⟩;rw[hz1];have h:=H.out;rw[hz1]at h;have H:=π h;clear hz1 h c0 c1;have p3:=p2.on b3;have qx:=bx0.to (.below b3);have qy:=bx1.to (.below b3);have wG:=st0.to (.below b3);have Bl:=hx.af p3 (qw.st.to (.below b3));have c0:=qx.cell;have c1:=qy.cell;clear b3 p2 bx0 bx1 st0 qw;have p2:=p3;have bx0:=qx;have bx1:=qy;have st0:=wG;have qw:=Bl;clear p3 qx qy wG Bl
      cases z1 with
      |true=>
       have h:=H.out;rw[ω ν]at h;obtain⟨kk,ys⟩:=p;obtain⟨rfl,hys⟩:=Prod.mk.inj (aau h);clear h H
       go_wp2_with fail
       have p6:=p2.call (ag _ (.cells #[.int .i64 ((x.af:Int)+1), .slice aE nE cE, .slice none 0 0, .bool false, .slice none 0 0] 51));have Ao:=bx0.to (aH (ag _ (.cells #[.int .i64 ((x.af:Int)+1), .slice aE nE cE, .slice none 0 0, .bool false, .slice none 0 0] 51)));have Ap:=st0.to (aH (ag _ (.cells #[.int .i64 ((x.af:Int)+1), .slice aE nE cE, .slice none 0 0, .bool false, .slice none 0 0] 51)));have hr:=dS.ay 51 rfl qw.st;rw[hys]at hr
       have hyl:ys.length≤1000:=by rw[←hys];simp
       have FC:Hid (∀y∈ys,y.ah.length≤1000):=π (by rw[←hys];intro y hy;rw[Φ.1 hy];simp)
       go_meet
       exact⟨_,_,_,_,rfl,rfl,p6,Ao,Ap,hr,hyl,FC.out⟩
      |false=>
       go_wp2_with fail
       refine(rY (qw.gx.gb) x.af hat [45,45] ζ ζ).mono ?_;rintro e w3 ⟨rfl,b3⟩;obtain⟨z1,hz1⟩:∃z,dJ L x.af [45,45]=z:=⟨_,rfl⟩;rw[hz1];have h:=H.out;rw[hz1]at h;have H:=π h;clear hz1 h c0 c1;have p3:=p2.on b3;have qx:=bx0.to (.below b3);have qy:=bx1.to (.below b3);have wG:=st0.to (.below b3);have Bl:=hx.af p3 (qw.st.to (.below b3));have c0:=qx.cell;have c1:=qy.cell;clear b3 p2 bx0 bx1 st0 qw;have p2:=p3;have bx0:=qx;have bx1:=qy;have st0:=wG;have qw:=Bl;clear p3 qx qy wG Bl
       cases z1 with
       |true=>
        have h:=H.out;rw[ω ν]at h;obtain⟨kk,ys⟩:=p;obtain⟨rfl,hys⟩:=Prod.mk.inj (aau h);clear h H
        go_wp2_with fail
        have p6:=p2.call (ag _ (.cells #[.int .i64 ((x.af:Int)+1), .slice aE nE cE, .slice none 0 0, .bool false, .slice none 0 0] 51));have Ao:=bx0.to (aH (ag _ (.cells #[.int .i64 ((x.af:Int)+1), .slice aE nE cE, .slice none 0 0, .bool false, .slice none 0 0] 51)));have Ap:=st0.to (aH (ag _ (.cells #[.int .i64 ((x.af:Int)+1), .slice aE nE cE, .slice none 0 0, .bool false, .slice none 0 0] 51)));have hr:=dS.ay 51 rfl qw.st;rw[hys]at hr
        have hyl:ys.length≤1000:=by rw[←hys];simp
        have FC:Hid (∀y∈ys,y.ah.length≤1000):=π (by rw[←hys];intro y hy;rw[Φ.1 hy];simp)
        go_meet
        exact⟨_,_,_,_,rfl,rfl,p6,Ao,Ap,hr,hyl,FC.out⟩
       |false=>
        have h:=H.out;rw[χ ζ]at h;obtain rfl:=aau h;clear h H
        go_wp2_with fail
        go_meet
        exact⟨_,_,_,_,rfl,rfl,p2,bx0,st0,dS.nil,by decide,fun y hy=>(by cases hy)⟩
 case rest=>
  obtain⟨av,kv,cv,T1,rfl,rfl,p6,Ao,Ap,hr,hyl,hyo⟩:=hcut;obtain⟨kk,ys⟩:=p;have FC:=π hyo;clear hyo H
  go_wp2_with fail
  have axW:=hr.len.2;have P5:=hr.len.1;have Ki:=π P5;have HYL:=π hyl;clear P5 hyl
  go_loopw [12,13] (fun s12 s13 wr=>∃(i:Nat) (T':Nat→Prop) (fZ:List Sx),s13= .int .i64 (i:Int)∧i≤kv∧Pw S w T' wr∧dW T' w.heap.size wr s12 fZ∧Bx T' wr m0 [.int .i64 x.af, .slice aE nE cE, .slice aK nK cK, .bool x.ty, .slice aC nC cC]∧fJ T' wr x [.int .i64 x.af, .slice aE nE cE, .slice aK nK cK, .bool x.ty, .slice aC nC cC]∧dS T' wr (.slice av kv cv) ys∧(ys.take i).map (fun y=>iA kk f y (x.ah.headD zT::y.ah))=fZ) (fun _ s13 _=>(kv - intOf s13).toNat)
  case atStart=>exact⟨0,_,[],by go_num,Ω _,p6,dW.nil,Ao,Ap,hr,rfl⟩
  case round=>
   obtain⟨i,T',fZ,rfl,hi,hpL,hac,amo,hst',hrr,ho⟩:=hrel;obtain⟨a12,c12,rfl⟩:=hac.aj;have HO:=π ho;clear ho;by_cases hlt:i<kv
   case pos=>
    have hiY:i<ys.length:=by rw[←Ki.out];exact hlt
    have h1:decide (i<kv)=true:=aa4 hlt;obtain⟨h0k,b0,Ox,tK,sK,uK,tD,sD,uD,rfl,d0,hx0⟩:=hst'.lG.2.1.first hk0;obtain⟨t0,ht0⟩:∃t,x.ah.headD zT=t:=⟨_,rfl⟩;rw[ht0]at d0 hx0;have HT0:=π ht0;clear ht0;obtain⟨bI,oI,eE,eN,eC,eK,eL,eM,eF,eG,eH,rfl,dI,hxi⟩:=hrr.at hiY;have iq:=ag wr (.cells #[.int .i64 t0.k, .int .i64 t0.lo, .int .i64 t0.hi, .slice tK sK uK, .slice tD sD uD] 35)
    have hdj:Dj (.slice a12 fZ.length c12) (.slice (some ⟨wr.heap.size,0,none⟩) 1 1):=fun b hb hb'=>by
     have h2:=(World.ownsRow.lt hac.choose_spec.1.row b hb).2;have:wr.heap.size=b:=aau hb';omega
    obtain⟨hT1,pT1⟩:=oM.ay (m:=wr.heap.size) rfl hpL hx0;have atb:=hac.on iq;have hyk:=hxi.lG.2.1;have atc:ys[i].ah.length≤1000:=FC.out _ (ab2 hiY);have atd:=hyk.to (.below iq);have d2:=d0 (df.oH wr);have d3:=dI ⟨_,iq⟩;dsimp only[df.oH,df.w]at d2 d3;have c0:=amo.cell
    go_wp2_with (first
     |(at_builtin;refine XI pT1 (.tmp 79) (.tmp 84) hT1 atd (by have:=atc;simp;omega) rfl rfl rfl rfl ?_
       intro v3 w3 Bj hle3;obtain⟨bI',oI',eE',eN',eC',eK',eL',eM',eF',eG',eH',e9,dI3,ate⟩:=((hrr.to (.below iq)).to hle3.tk).at hiY;cases e9;have d4:=dI3 (df.oH w3);dsimp only[df.oH,df.w]at d4
       obtain⟨a14,c14,rfl⟩:=Bj.aj)
     |fail)
    obtain⟨iU,aeW⟩:=atb.rU hle3 hdj;obtain⟨pG,hTr,atf⟩:=Bj.UT hle3.pw iU aeW;refine(Um (ate.to (.mono fun b hb _=>Or.inl hb)) kk f _ _ hTr).mono ?_;rintro e w4 ⟨g',rfl,hb4,hsx⟩;obtain⟨Y,hY⟩:∃Y,iA kk f ys[i] (t0::ys[i].ah)=Y:=⟨_,rfl⟩;rw[show([t0]++ys[i].ah)=t0::ys[i].ah from rfl,hY]at hsx;have HY:=π hY;have mH:=hsx.to wS;obtain⟨sE,Qa,uE,Jd,Fw,Fx,sC,tC,uC,rfl, -⟩:=mH.aj;have hrow:=dS.ay 51 rfl mH;have aeX:=ag w4 (.cells #[.int .i64 Y.af, .slice sE Qa uE, .slice Jd Fw Fx, .bool Y.ty, .slice sC tC uC] 51);have p5:=(pG.call hb4).call aeX;have rO:=(atf.call hb4).call aeX
    have hol:fZ.length≤1000:=by rw[←HO.out,abz,acn];have:=HYL.out;omega
    have tk5:=((((To.below iq).trans hle3.tk).trans (pG.sup fun b hb=>Or.inl hb)).trans (aH hb4)).trans (aH aeX);clear hY d2 d3 d4 c0 d0 dI dI3 hsx
    go_wp2_with (first
     |(at_builtin;refine kX p5 (.tmp 86) (.tmp 95) rO hrow (by simp;omega) rfl rfl rfl rfl ?_
       intro v6 w6' EB qP)
     |fail)
    go_roundw
    case rel=>exact⟨i+1,_,_,by go_num,by omega,qP.pw,EB,(amo.to tk5).to qP.tk,(hst'.to tk5).to qP.tk,(hrr.to tk5).to qP.tk,by rw[abL hiY,acb,HO.out,acj,acJ,HT0.out,HY.out]⟩
    case measure=>simp[intOf];omega
   case neg=>
    have h1:decide (i<kv)=false:=aa5 hlt;have ho:=HO.out;rw[ab1 (by rw[←Ki.out];omega)]at ho;subst ho
    go_wp2_with fail
    rw[je.out];go_ret;exact⟨_,rfl,hpL.be,hac.fw hpL⟩
end Go.Proofs.YtlboejdhmggjpaaGreat.Pp.Dr
