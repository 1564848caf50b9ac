import Derived.Test.YtlboejdhmggjpaaGreatXbA
set_option linter.all false
namespace Go.Proofs.YtlboejdhmggjpaaGreat.Pp.Dr
set_option maxRecDepth 100000
set_option maxHeartbeats 800000
open Go.RowKit Go.BigFrame Go.Proofs.YtlboejdhmggjpaaGreat
mutual
def tX(T:Nat→Prop)(w:World):Sy→List Value→Prop
 | .tx t,g=>g=[.int .i64 0, .string (au t), .slice none 0 0]
 | .nm t,g=>g=[.int .i64 1, .string (au t), .slice none 0 0]
 | .dO a,g=>∃v gs,g=[.int .i64 2, .string (au []),v]∧Rw T 1 w v gs∧oh T w a gs
 | .bV a,g=>∃v gs,g=[.int .i64 3, .string (au []),v]∧Rw T 1 w v gs∧oh T w a gs
 | .jy a,g=>∃v gs,g=[.int .i64 4, .string (au []),v]∧Rw T 1 w v gs∧oh T w a gs
def tu(T:Nat→Prop)(w:World):List Sy→List (List Value)→Prop
 |[],gs=>gs=[]
 |y::r,gs=>∃g gr,gs=g::gr∧tX T w y g∧tu T w r gr
def oh(T:Nat→Prop)(w:World):List (List Sy)→List (List Value)→Prop
 |[],gs=>gs=[]
 |l::r,gs=>∃v gl gr,gs=[v]::gr∧Rw T 3 w v gl∧tu T w l gl∧oh T w r gr
end
def zx(T:Nat→Prop)(w:World)(v:Value)(l:List Sy):Prop:=∃gs,Rw T 3 w v gs∧tu T w l gs
def vo(T:Nat→Prop)(w:World)(v:Value)(a:List (List Sy)):Prop:=∃gs,Rw T 1 w v gs∧oh T w a gs
def qa(T:Nat→Prop)(w:World):List Ru→List (List Value)→Prop
 |[],gs=>gs=[]
 |r::l,gs=>∃va vk gr,gs=[.string (au r.name),va,vk]::gr∧vo T w va r.mh∧Rw T 1 w vk (r.iL.map fun k=>[.int .i64 (k:Nat)])∧qa T w l gr
def GX(gb:Nat)(L:List Ct)(vr:Value)(T:Nat→Prop)(w:World):Prop:=∃la lc gs,T gb∧w.heap[gb]? =some (.cells #[.slice la L.length lc,vr] 84 (0,0))∧Rw T 2 w (.slice la L.length lc) (L.map sV)∧Rw T 3 w vr gs∧qa T w dU gs∧L.length≤100000
section
variable {S T:Nat→Prop} {w w':World} (k:To S w T w')
include k
mutual
theorem tX.to:∀{y:Sy} {g:List Value},tX S w y g→tX T w' y g
 | .tx _,_,h=>h
 | .nm _,_,h=>h
 | .dO _,_,⟨v,gs,h1,h2,h3⟩=>⟨v,gs,h1,h2.to k,oh.to h3⟩
 | .bV _,_,⟨v,gs,h1,h2,h3⟩=>⟨v,gs,h1,h2.to k,oh.to h3⟩
 | .jy _,_,⟨v,gs,h1,h2,h3⟩=>⟨v,gs,h1,h2.to k,oh.to h3⟩
theorem tu.to:∀{l:List Sy} {gs:List (List Value)},tu S w l gs→tu T w' l gs
 |[],_,h=>h
 |y::r,_,⟨g,gr,h1,h2,h3⟩=>⟨g,gr,h1,tX.to h2,tu.to h3⟩
theorem oh.to:∀{a:List (List Sy)} {gs:List (List Value)},oh S w a gs→oh T w' a gs
 |[],_,h=>h
 |l::r,_,⟨v,gl,gr,h1,h2,h3,h4⟩=>⟨v,gl,gr,h1,h2.to k,tu.to h3,oh.to h4⟩
end
theorem zx.to{v:Value}{l:List Sy}(h:zx S w v l):zx T w' v l:=let ⟨gs,h1,h2⟩:=h;⟨gs,h1.to k,tu.to k h2⟩
theorem vo.to{v:Value}{a:List (List Sy)}(h:vo S w v a):vo T w' v a:=let ⟨gs,h1,h2⟩:=h;⟨gs,h1.to k,oh.to k h2⟩
theorem qa.to:∀{l:List Ru} {gs:List (List Value)},qa S w l gs→qa T w' l gs
 |[],_,h=>h
 |r::l,_,⟨va,vk,gr,h1,h2,h3,h4⟩=>⟨va,vk,gr,h1,h2.to k,h3.to k,qa.to h4⟩
theorem GX.to{gb:Nat}{L:List Ct}{vr:Value}(h:GX gb L vr S w):GX gb L vr T w':=by
 obtain⟨la,lc,gs,h1,h2,h3,h4,h5,h6⟩:=h
 obtain⟨k1,k2⟩:=k.eq gb h1 (ψ.1 h2).1
 exact⟨la,lc,gs,k2,k1.trans h2,h3.to k,h4.to k,qa.to k h5,h6⟩
end
variable {T : Nat→Prop}
theorem GX.gb {w:World}{gb:Nat}{L:List Ct}{vr:Value}(h:GX gb L vr T w):GB w gb L vr:=by
 obtain⟨la,lc,gs,h1,h2,⟨a,c,e,k1,k2, -⟩, -, -,h6⟩:=h
 refine⟨la,lc,h2,?_,h6⟩
 obtain rfl:=(Value.slice.inj e).1
 rcases k2 with k2|⟨b,off,rfl, -,hl,hc⟩
 ·exact .inl (List.map_eq_nil_iff.1 k2)
 ·refine .inr ⟨b,off,rfl,hl,fun i hi=>?_⟩
  have:=hc i (by rw[abz];exact hi);rw[agk]at this;exact this
theorem tu.len {w:World}:∀{l:List Sy} {gs:List (List Value)},tu T w l gs→gs.length=l.length
 |[],_,h=>by rw[show _=[]from h];rfl
 |x::r,_,⟨g,gr,h1,h2,h3⟩=>by rw[h1,aaJ,aaJ,tu.len h3]
theorem oh.len {w:World}:∀{l:List (List Sy)} {gs:List (List Value)},oh T w l gs→gs.length=l.length
 |[],_,h=>by rw[show _=[]from h];rfl
 |x::r,_,⟨v,gl,gr,h1,_,_,h3⟩=>by rw[h1,aaJ,aaJ,oh.len h3]
theorem qa.len {w:World}:∀{l:List Ru} {gs:List (List Value)},qa T w l gs→gs.length=l.length
 |[],_,h=>by rw[show _=[]from h];rfl
 |x::r,_,⟨va,vk,gr,h1,_,_,h3⟩=>by rw[h1,aaJ,aaJ,qa.len h3]
theorem tu.get{T:Nat→Prop}{w:World}:∀{l:List Sy} {gs:List (List Value)},tu T w l gs→∀i (h:i<l.length),∃g,gs[i]? =some g∧tX T w l[i] g
 |[],_,_,i,h=>by simp at h
 |d::r,_,⟨v,gr,h1,h2,h3⟩,i,h=>by
  subst h1
  cases i with
  |zero=>exact⟨v,rfl,h2⟩
  |succ i=>exact tu.get h3 i (by simpa using h)
theorem oh.get{T:Nat→Prop}{w:World}:∀{l:List (List Sy)} {gs:List (List Value)},oh T w l gs→∀i (h:i<l.length),∃v,gs[i]? =some [v]∧zx T w v l[i]
 |[],_,_,i,h=>by simp at h
 |d::r,_,⟨v,gl,gr,h1,h2,h3,h4⟩,i,h=>by
  subst h1
  cases i with
  |zero=>exact⟨v,rfl,gl,h2,h3⟩
  |succ i=>exact oh.get h4 i (by simpa using h)
theorem qa.get{T:Nat→Prop}{w:World}:∀{l:List Ru} {gs:List (List Value)},qa T w l gs→∀i (h:i<l.length),∃va vk,gs[i]? =some [.string (au l[i].name),va,vk]∧vo T w va l[i].mh∧Rw T 1 w vk (l[i].iL.map fun k=>[.int .i64 (k:Nat)])
 |[],_,_,i,h=>by simp at h
 |d::r,_,⟨va,vk,gr,h1,h2,h3,h4⟩,i,h=>by
  subst h1
  cases i with
  |zero=>exact⟨va,vk,rfl,h2,h3⟩
  |succ i=>exact qa.get h4 i (by simpa using h)
mutual
def TG:Tr→Prop
 | .mk _ lo hi ks ds=>lo≤100000∧hi≤100000∧ds.length≤10000∧Md ks
def Md:List Tr→Prop
 |[]=>True
 |t::r=>TG t∧Md r
end
mutual
theorem TG.tb:∀{t:Tr},TG t→TB t
 | .mk _ _ _ _ _,⟨h1,h2,_,h4⟩=>⟨h1,h2,Md.tb h4⟩
theorem Md.tb:∀{l:List Tr},Md l→Uz l
 |[],_=>trivial
 |_::_,⟨h1,h2⟩=>⟨TG.tb h1,Md.tb h2⟩
end
section
variable (L:List Ct)
structure pQ (x:Sx):Prop where
 af:x.af≤L.length
 UB:x.env≠[]
 env:x.env.length≤1000
 ds:∀d∈x.env,d.length≤10000
 ah:x.ah.length≤1000
 tg:Md x.ah
def Ai(xs:List Sx):Prop:=xs.length≤1000∧∀x∈xs,pQ L x
def BJ:Rq→Prop
 | .seq ys f ss=>Ai L ss∧f≤L.length
 | .ay (.tx t) s f=>pQ L s∧t≠[]∧t.length≤1000
 | .ay (.nm t) s f=>pQ L s∧f≤L.length∧t≠[]∧(t=[64,101,110,117,109,101,114,97,116,101]→f<L.length)
 | .ay _ s f=>pQ L s
 | .bV a bB=>Ai L bB
 | .call w s=>pQ L s
 | .dh all s bB=>pQ L s∧bB.length≤1000∧∀t∈bB,pQ L t.s∧t.b≤100000∧t.w≤100000
 | .dB k s=>pQ L s∧k≤11
 | .iB k s bB=>pQ L s∧k≤10∧Ai L bB∧∀x∈bB,x.ah≠[]
 | .dx s=>pQ L s
 | .assign s=>pQ L s
 | .args s=>pQ L s
 | .jT s=>pQ L s
 | .iO s bB=>pQ L s∧Ai L bB∧∀x∈bB,x.ah≠[]
def SH:Rq→Nat
 | .call w _=>if w=[97,115,115,105,103,110]∨w=[99,97,115,116]∨w=[112,114,105,109,97,114,121]∨w=[108,105,116,101,114,97,108]then 1 else 0
 | .dB _ _=>1
 | .dx _=>1
 | .assign _=>1
 | .seq ys _ _=>if ys.map (fun y=>match y with| .nm t=>t|_=>[])=[[101,120,112,114],[],[99,104,111,105,99,101]]then 2 else 0
 |_=>0
def okO(q:Rq)(xs:List Sx):Prop:=Ai L xs∧∀x∈xs,SH q≤x.ah.length
open Classical in
noncomputable def aS:Nat→Rq→Option (List Sx)
 |0,_=>none
 |n+1,q=>if BJ L q then(F L (aS n) q).bind fun xs=>if okO L q xs then some xs else none else none
end
theorem fB{L:List Ct}{n:Nat}{q:Rq}{xs:List Sx}(h:aS L n q=some xs):∃m,n=m+1∧BJ L q∧F L (aS L m) q=some xs∧okO L q xs:=by
 cases n with
 |zero=>cases h
 |succ m=>
  unfold aS at h
  split at h
  ·next h1=>
   obtain⟨ys,h2,h3⟩:=Γ.1 h
   split at h3
   ·next h4=>cases h3;exact⟨m,rfl,h1,h2,h4⟩
   ·cases h3
  ·cases h
def Ps(S:Nat→Prop)(w:World)(xs:List Sx)(e:Ending)(w':World):Prop:=∃v,e= .returned v∧Below w.heap.size w w'∧dS (gr S w w') w' v xs
def PsA(S:Nat→Prop)(w:World)(xs:List Sx)(e:Ending)(w':World):Prop:=∃v T,e= .returned v∧Pw S w T w'∧dW T w.heap.size w' v xs
theorem PsA.ps{S:Nat→Prop}{w:World}{xs:List Sx}{e:Ending}{w':World}(h:PsA S w xs e w'):Ps S w xs e w':=let ⟨v,T,h1,h2,h3⟩:=h;⟨v,h1,h2.be,h3.fw h2⟩
def rZ:List Bs:=[[110,97,109,101],[112,108,97,105,110],[99,111,110,115,116,97,110,116],[115,116,114,105,110,103],[115,112,101,99,115,48],[115,112,101,99,115,49],[101,120,112,114],[97,115,115,105,103,110],[99,104,111,105,99,101],[112,111,115,116,102,105,120]]
structure Cx (gb:Nat) (L:List Ct) (vr:Value) (S:Nat→Prop) (w:World) (s:Sx) (g:List Value):Prop where
 lt:∀b,S b→b<w.heap.size
 gx:GX gb L vr S w
 st:fJ S w s g
structure Wd (gb:Nat) (L:List Ct) (vr:Value) (n:Nat):Prop where
 seq:∀{S w ys vl s g xs},Cx gb L vr S w s g→zx S w vl ys→aS L n (.seq ys s.af [s])=some xs→Calls Tryz.prog 64 #[gP gb,vl, .agg g.toArray] w (Ps S w xs)
 ay:∀{S w y gy s g f xs},Cx gb L vr S w s g→tX S w y gy→aS L n (.ay y s f)=some xs→Calls Tryz.prog 103 #[gP gb, .agg gy.toArray, .agg g.toArray, .int .i64 (f:Nat)] w (Ps S w xs)
 call:∀{S w t s g xs},Cx gb L vr S w s g→aS L n (.call t s)=some xs→Calls Tryz.prog 38 #[gP gb, .string (au t), .agg g.toArray] w (Ps S w xs)
 agp:∀{S w t s g xs},t∉rZ→Cx gb L vr S w s g→aS L n (.call t s)=some xs→Calls Tryz.prog 38 #[gP gb, .string (au t), .agg g.toArray] w (PsA S w xs)
 dh:∀{S w all s g xs},Cx gb L vr S w s g→aS L n (.dh all s [⟨fresh s,0,0⟩])=some xs→Calls Tryz.prog 59 #[gP gb, .agg g.toArray, .bool all] w (Ps S w xs)
 dB:∀{S w k s g xs},Cx gb L vr S w s g→aS L n (.dB k s)=some xs→Calls Tryz.prog 60 #[gP gb, .int .i64 (k:Nat), .agg g.toArray] w (Ps S w xs)
 dx:∀{S w s g xs},Cx gb L vr S w s g→aS L n (.dx s)=some xs→Calls Tryz.prog 62 #[gP gb, .agg g.toArray] w (Ps S w xs)
 assign:∀{S w s g xs},Cx gb L vr S w s g→aS L n (.assign s)=some xs→Calls Tryz.prog 61 #[gP gb, .agg g.toArray] w (Ps S w xs)
 args:∀{S w s g xs},Cx gb L vr S w s g→aS L n (.args s)=some xs→Calls Tryz.prog 134 #[gP gb, .agg g.toArray] w (Ps S w xs)
 jT:∀{S w s g xs},Cx gb L vr S w s g→aS L n (.jT s)=some xs→Calls Tryz.prog 63 #[gP gb, .agg g.toArray] w (Ps S w xs)
def Bx(T:Nat→Prop)(w:World)(b:Nat)(g:List Value):Prop:=T b∧b<w.heap.size∧dX w b 0 g
theorem Bx.to{S T:Nat→Prop}{w w':World}{b:Nat}{g:List Value}(h:Bx S w b g)(k:To S w T w'):Bx T w' b g:=by
 obtain⟨k1,k2⟩:=k.eq b h.1 h.2.1
 exact⟨k2,abB h.2.1 k.size,dX.same h.2.2 k1⟩
theorem Bx.new{S:Nat→Prop}{w:World}{m:Nat}(hm:w.heap.size=m)(g:List Value)(t:TypeId):Bx (gr S w (w.alloc (.cells g.toArray t))) (w.alloc (.cells g.toArray t)) m g:=by
 subst hm
 exact⟨⟨by simp, .inr (υ _)⟩,by simp,dX.Cc (dz w g.toArray t)⟩
end Go.Proofs.YtlboejdhmggjpaaGreat.Pp.Dr
