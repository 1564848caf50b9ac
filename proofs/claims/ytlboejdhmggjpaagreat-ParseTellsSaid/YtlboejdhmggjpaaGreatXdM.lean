import Derived.ProofKit
import Derived.OpenShut
import Derived.Deep.Slices
import Derived.SizedLaws
import Derived.Test.YtlboejdhmggjpaaGreatXbS
import Derived.RangeFuncWrites
import Derived.RangeFuncLeaves
import Derived.Laws.CopyRow
import Derived.Laws.MakeOwn
import Derived.Defers
import Derived.Recover
import Derived.Test.YtlboejdhmggjpaaGreatWkI
set_option linter.all false
namespace Go.Proofs.YtlboejdhmggjpaaGreat
open Go.RowKit Go.ChangeShapes Go.WideShapes Go.Deep
theorem JX{α:Type}{p:Nat→α→Prop}:∀n,(∀i,i<n→∃g,p i g)→∃l:List α,l.length=n∧∀i (h:i<l.length),p i l[i]
 |0,_=>⟨[],rfl,fun i h=>absurd h (Nat.not_lt_zero i)⟩
 |n+1,h=>by
  obtain⟨l,hl,hp⟩:=JX n (fun i hi=>h i η);obtain⟨g,hg⟩:=h n η;refine⟨l++[g],by simp[hl],fun i hi=>?_⟩;by_cases hin:i<l.length
  ·rw[List.getElem_append_left hin];exact hp i hin
  ·have:i=n:=by simp at hi;omega
   subst this;rw[List.getElem_append_right η];simpa using hg
theorem QY(b o j:Nat):(⟨b,o,none⟩:Addr).add j=⟨b,o+j,none⟩:=by unfold Addr.add;split<;>simp_all
section
variable {H:Type} {enc:TypeId×Value→H} {P:Program} {w:World} {base:Nat} {spare:Nat→Bool} {held:Bool}
def zQ(P:Program)(t:TypeId)(d:DataW H):Prop:=∀n∈d.weights P t,n≤reachBytes
theorem QZ{e:TypeId}:∀{l:List (DataW H)} {d:DataW H},(∀n∈DataW.weightsAll P e l,n≤reachBytes)→d∈l→zQ P e d
 |[],d,_,hd=>by cases hd
 |a::l,d,h,hd=>by
  simp only[DataW.weightsAll,abr]at h
  rcases abf.1 hd with rfl|hd
  ·exact fun n hn=>h n (.inl hn)
  ·exact QZ (fun n hn=>h n (.inr hn)) hd
theorem OL{ts:List TypeId}{ds:List (DataW H)}{j:Nat}{t:TypeId}{d:DataW H}(h:∀n∈DataW.weightsEach P ts ds,n≤reachBytes)(ht:ts[j]? =some t)(hd:ds[j]? =some d):zQ P t d:=
 fun n hn=>h n (DataW.weights_mem_each ht hd n hn)
theorem acY{ts:List TypeId}{ds:List (DataW H)}{j:Nat}{t:TypeId}{d:DataW H}(h:(DataW.weightsEach P ts ds).all (·≤reachBytes)=true)(ht:ts[j]? =some t)(hd:ds[j]? =some d):zQ P t d:=
 OL (fun n hn=>by simpa using Θ.1 h n hn) ht hd
variable {x : DataW H×List MemPlace}{cs : List Value}{fuel : Nat}{t : TypeId}
theorem Z7 {fs:Array Field}(ht:P.underlying t=some (.struct fs))(h:DataW.trod enc P w base spare held fuel t cs=some x)(hw:zQ P t x.1):
 cs.length=P.cellsOf t∧∀(i:Nat) (ty:TypeId) (off:Nat),(fs[i]?).map (fun f=>(f.type,f.offset))=some (ty,off)→∃n y,DataW.trod enc P w base spare held n ty ((cs.drop off).take (P.cellsOf ty))=some y∧zQ P ty y.1:=by
 obtain⟨xs,n,_,rfl,hl,hx,hf⟩:=DataW.trod_struct ht h
 refine⟨hl,fun i ty off hi=>?_⟩
 obtain⟨f,hfi,hfe⟩:=acw.1 hi
 simp only[Prod.mk.injEq]at hfe
 obtain⟨rfl,rfl⟩:=hfe
 have hil:i<xs.length:=by rw[hx];exact(ψ.1 hfi).1
 refine⟨n,xs[i],?_,?_⟩
 ·rw[hf i f hfi];exact abE _
 ·simp only[zQ,DataW.weights,ht]at hw
  refine OL (j:=i) hw ?_ ?_
  ·simp[hfi]
  ·simp[hil]
variable {e : TypeId}
theorem acZ {α:Type}(n:Nat)(f:α→List Value)(G:α→Prop)(ht:P.underlying t=some (.slice e))(hC:P.cellsOf e=n)(hn:0<n)(elem:∀fuel cs x,DataW.trod enc P w base spare held fuel e cs=some x→zQ P e x.1→∃g,cs=f g∧G g)(h:DataW.trod enc P w base spare held fuel t cs=some x)(hw:zQ P t x.1):
 ∃a cap l,cs=[.slice a l.length cap]∧l.length≤cap∧cap≤maxLen∧l.length*P.bytesOf e≤reachBytes∧(a=none→l=[]∧cap=0)∧oV n f w a l∧∀g∈l,G g:=by
 rcases open_slice ht h with⟨hcs,_⟩|⟨a,len,cap,m,k,D,Pl,hcs,_,hl,hm,hmm,hx,he⟩
 ·exact⟨none,0,[],hcs,υ _,Ω _,by simp,fun _=>⟨rfl,rfl⟩, .inl rfl,fun g hg=>by cases hg⟩
 ·have hlm:len≤m:=by rw[hmm];split<;>omega
  have hw':=hw;rw[hx]at hw';simp only[zQ,DataW.weights,ht]at hw';have hwh:=hw' _ ab6
  obtain⟨l,hll,hp⟩:=JX (p:=fun i g=>w.cells? base (a.add (i*n)) n=some (f g)∧G g) len (fun i hi=>by
   obtain⟨cs',hc,ht'⟩:=he i η;obtain⟨g,hg,hG⟩:=elem _ _ _ ht' (QZ (l:=(List.range len).map D) (fun n hn=>hw' n (abM _ (aby _ hn))) (abt.2 ⟨i,acD.2 hi,rfl⟩));rw[hC]at hc
   exact⟨g,by rw[hc,hg],hG⟩)
  subst hll;refine⟨some a,cap,l,hcs,hl,hm,?_,(fun h=>by cases h),?_,fun g hg=>?_⟩
  ·simp only[abz,List.length_range]at hwh
   exact aaT (age _ (agD _ _)) hwh
  ·by_cases h0:l=[]
   ·exact .inl h0
   ·right
    have hpos:0<l.length:=acN.2 h0;obtain⟨_,aw7,hc0⟩:=World.cells?_some (hp 0 hpos).1;have ac0:=hc0 0 hn;obtain⟨v,hv⟩:∃v,(f l[0])[0]? =some v:=⟨(f l[0])[0]' η,abE _⟩;rw[hv]at ac0;have hsp:=World.cell?_spot ac0;have hbl:=World.block_lt_of_cell? w _ ac0;obtain⟨b,off,spot⟩:=a
    have hspot:spot=none:=by simpa[Addr.add]using hsp
    subst hspot;refine⟨b,off,rfl,by simpa[Addr.add]using hbl,fun i hi j u hu=>?_⟩;obtain⟨_,hlen,hcc⟩:=World.cells?_some (hp i hi).1
    have hj:j<n:=by rw[←hlen];exact(aca.1 hu).1
    have:=hcc j hj;rw[hu]at this;rwa[QY,QY]at this
  ·obtain⟨i,hi,rfl⟩:=List.mem_iff_getElem.1 hg
   exact(hp i hi).2
theorem Z8 (ht:P.underlying t=some .string)(h:DataW.trod enc P w base spare held fuel t cs=some x)(hw:zQ P t x.1):∃s:ByteArray,cs=[.string s]∧s.size≤reachBytes:=by
 obtain⟨s,hs,rfl,_⟩:=DataW.trod_string ht h
 exact⟨s,hs,by have:=hw s.data.toList.length (by simp[DataW.weights]);simpa using this⟩
end
end Go.Proofs.YtlboejdhmggjpaaGreat
namespace Go.Proofs.YtlboejdhmggjpaaGreat.Pp
set_option maxRecDepth 100000
set_option maxHeartbeats 16000000
attribute [local go_sem] Az sM Bn st sk sm cc cB wo lv xO Tg.sz sF sG sH sI om List.length_nil sJ qd cond qi qj Nat.zero_mul Nat.add_zero if_true Bool.false_eq_true if_false and_true true_and
variable {l:List Ct} {base:Bs→Bool}
theorem Vg{n:Nat}(ih:Ih l base n):Gd l base n .assign:=by
 intro sh s hf1 hf2 hT hp
 first
 |obtain rfl:=hf1 rfl
 |obtain rfl:=hf2 _ rfl
 clear hf1 hf2
 simp only[go_sem]at hp
 obtain⟨_,_,_,_,_,_,_⟩:=hp
 rw[run]
 exact VC
def gIB:Tg→Bool
 | .o9=>true
 | .yO _=>true
 | .dx=>true
 | .fI _=>true
 | .fT _ _ _=>true
 | .cast=>true
 | .mW=>true
 | .jG _=>true
 |_=>false
theorem anP{n:Nat}(ih:Ih l base n)(tg:Tg)(ht:gIB tg=true):Gd l base n tg:=by
 intro sh s hf1 hf2 hT hp
 cases tg
 all_goals first
  |(cases ht;done)
  |skip
 all_goals
  clear ht
  first
  |obtain rfl:=hf1 rfl
  |obtain rfl:=hf2 _ rfl
  clear hf1 hf2;simp only[go_sem]at hp;obtain⟨_,_,_,_,_,_,_⟩:=hp;rw[run];exact V
attribute [local go_sem] Az sM Bn st sk sm cc cB wo lv xO Tg.sz sF sG sH sI om List.length_nil sJ qd cond qi qj Nat.zero_mul Nat.add_zero if_true Bool.false_eq_true if_false and_true true_and
variable {l:List Ct} {base:Bs→Bool}
variable {n : Nat}
theorem aao (ih:Ih l base n):Gd l base n .nz:=by
 intro sh s hf1 hf2 hT hp
 first
 |obtain rfl:=hf1 rfl
 |obtain rfl:=hf2 _ rfl
 clear hf1 hf2
 simp only[go_sem]at hp
 obtain⟨_,_,_,_,_,_,_⟩:=hp
 rw[run]
 exact VC
theorem XO (ih:Ih l base n):Gd l base n .uh:=by
 intro sh s hf1 hf2 hT hp
 first
 |obtain rfl:=hf1 rfl
 |obtain rfl:=hf2 _ rfl
 clear hf1 hf2
 simp only[go_sem]at hp
 obtain⟨_,_,_,_,_,_,_⟩:=hp
 rw[run]
 exact VC
theorem LF (ih:Ih l base n)(k:Nat):Gd l base n (.bP k):=by
 intro sh s hf1 hf2 hT hp
 first
 |obtain rfl:=hf1 rfl
 |obtain rfl:=hf2 _ rfl
 clear hf1 hf2
 simp only[go_sem]at hp
 obtain⟨_,_,_,_,_,_,_⟩:=hp
 rw[run]
 exact VC
theorem Vh (ih:Ih l base n)(b:Bool):Gd l base n (.lg b):=by
 intro sh s hf1 hf2 hT hp
 first
 |obtain rfl:=hf1 rfl
 |obtain rfl:=hf2 _ rfl
 clear hf1 hf2
 simp only[go_sem]at hp
 obtain⟨_,_,_,_,_,_,_⟩:=hp
 rw[run]
 cases b<;>exact VC
def gID:Tg→Bool
 | .wJ=>true
 | .jv=>true
 | .oO=>true
 | .zS=>true
 | .pg=>true
 |_=>false
theorem anR (ih:Ih l base n)(tg:Tg)(ht:gID tg=true):Gd l base n tg:=by
 intro sh s hf1 hf2 hT hp
 cases tg
 all_goals first
  |(cases ht;done)
  |skip
 all_goals
  clear ht
  first
  |obtain rfl:=hf1 rfl
  |obtain rfl:=hf2 _ rfl
  clear hf1 hf2;simp only[go_sem]at hp;obtain⟨_,_,_,_,_,_,_⟩:=hp;rw[run];exact V
attribute [local go_sem] Az sM Bn st sk sm cc cB wo lv xO Tg.sz sF sG sH sI om List.length_nil sJ qd cond qi qj Nat.zero_mul Nat.add_zero if_true Bool.false_eq_true if_false and_true true_and
variable {l:List Ct} {base:Bs→Bool}
variable {n : Nat}
theorem Qq (ih:Ih l base n)(f:Fm)(a:Bool):Gd l base n (.eT f a):=by
 intro sh s hf1 hf2 hT hp
 first
 |obtain rfl:=hf1 rfl
 |obtain rfl:=hf2 _ rfl
 clear hf1 hf2
 simp only[go_sem]at hp
 obtain⟨_,_,_,_,_,_,_⟩:=hp
 rw[run]
 have hfs:=fun(v:Va)=>ac1 f v.jm
 exact V
theorem XP (ih:Ih l base n):Gd l base n .array:=by
 intro sh s hf1 hf2 hT hp
 first
 |obtain rfl:=hf1 rfl
 |obtain rfl:=hf2 _ rfl
 clear hf1 hf2
 simp only[go_sem]at hp
 obtain⟨_,_,_,_,_,_,_⟩:=hp
 rw[run]
 exact V
theorem XQ (ih:Ih l base n):Gd l base n .qA:=by
 intro sh s hf1 hf2 hT hp
 first
 |obtain rfl:=hf1 rfl
 |obtain rfl:=hf2 _ rfl
 clear hf1 hf2
 simp only[go_sem]at hp
 obtain⟨_,_,_,_,_,_,_⟩:=hp
 rw[run]
 exact V
theorem Qr (ih:Ih l base n):Gd l base n .j6:=by
 intro sh s hf1 hf2 hT hp
 first
 |obtain rfl:=hf1 rfl
 |obtain rfl:=hf2 _ rfl
 clear hf1 hf2
 simp only[go_sem]at hp
 obtain⟨_,_,_,_,_,_,_⟩:=hp
 rw[run]
 exact V
theorem aap (ih:Ih l base n)(p:List (Bs×Bool)):Gd l base n (.body p):=by
 intro sh s hf1 hf2 hT hp
 first
 |obtain rfl:=hf1 rfl
 |obtain rfl:=hf2 _ rfl
 clear hf1 hf2
 simp only[go_sem]at hp
 obtain⟨_,_,_,_,_,_,_⟩:=hp
 rw[run]
 exact V
def gIE:Tg→Bool
 | .params=>true
 | .su=>true
 | .iw=>true
 | .jS _=>true
 |_=>false
theorem anS (ih:Ih l base n)(tg:Tg)(ht:gIE tg=true):Gd l base n tg:=by
 intro sh s hf1 hf2 hT hp
 cases tg
 all_goals first
  |(cases ht;done)
  |skip
 all_goals
  clear ht
  first
  |obtain rfl:=hf1 rfl
  |obtain rfl:=hf2 _ rfl
  clear hf1 hf2;simp only[go_sem]at hp;obtain⟨_,_,_,_,_,_,_⟩:=hp;rw[run];exact V
attribute [local go_sem] Az sM Bn st sk sm cc cB wo lv xO Tg.sz sF sG sH sI om List.length_nil sJ qd cond qi qj Nat.zero_mul Nat.add_zero if_true Bool.false_eq_true if_false and_true true_and
variable {l:List Ct} {base:Bs→Bool}
theorem Vi{n:Nat}(ih:Ih l base n):Gd l base n .xz:=by
 intro sh s hf1 hf2 hT hp
 first
 |obtain rfl:=hf1 rfl
 |obtain rfl:=hf2 _ rfl
 clear hf1 hf2
 simp only[go_sem]at hp
 obtain⟨_,_,_,_,_,_,_⟩:=hp
 rw[run]
 exact V
theorem Nn{n:Nat}(ih:Ih l base n):Gd l base n .iy:=by
 intro sh s hf1 hf2 hT hp
 first
 |obtain rfl:=hf1 rfl
 |obtain rfl:=hf2 _ rfl
 clear hf1 hf2
 simp only[go_sem]at hp
 obtain⟨_,_,_,_,_,_,_⟩:=hp
 rw[run]
 exact VC
def gIF:Tg→Bool
 | .uQ _=>true
 | .iG _=>true
 | .vH=>true
 | .wK=>true
 | .part=>true
 | .iP=>true
 | .ik _=>true
 |_=>false
theorem anT{n:Nat}(ih:Ih l base n)(tg:Tg)(ht:gIF tg=true):Gd l base n tg:=by
 intro sh s hf1 hf2 hT hp
 cases tg
 all_goals first
  |(cases ht;done)
  |skip
 all_goals
  clear ht
  first
  |obtain rfl:=hf1 rfl
  |obtain rfl:=hf2 _ rfl
  clear hf1 hf2;simp only[go_sem]at hp;obtain⟨_,_,_,_,_,_,_⟩:=hp;rw[run];exact V
attribute [local go_sem] Az sM Bn st sk sm cc cB wo lv xO Tg.sz sF sG sH sI om List.length_nil sJ qd cond qi qj Nat.zero_mul Nat.add_zero if_true Bool.false_eq_true if_false and_true true_and
variable {l:List Ct} {base:Bs→Bool}
theorem Vj{n:Nat}(ih:Ih l base n)(a:Bool)(w o:Nat)(td:Bool):Gd l base n (.jJ a w o td):=by
 intro sh s hf1 hf2 hT hp
 first
 |obtain rfl:=hf1 rfl
 |obtain rfl:=hf2 _ rfl
 clear hf1 hf2
 simp only[go_sem]at hp
 obtain⟨_,_,_,_,_,_,_⟩:=hp
 rw[run]
 rw[χ (show¬l.length<w+o by omega)]
 exact V
def gIG:Tg→Bool
 | .jg _ _=>true
 | .jH _ _=>true
 | .dh _=>true
 | .wL=>true
 | .atomic=>true
 | .qW=>true
 | .uJ=>true
 | .nP=>true
 |_=>false
theorem anU{n:Nat}(ih:Ih l base n)(tg:Tg)(ht:gIG tg=true):Gd l base n tg:=by
 intro sh s hf1 hf2 hT hp
 cases tg
 all_goals first
  |(cases ht;done)
  |skip
 all_goals
  clear ht
  first
  |obtain rfl:=hf1 rfl
  |obtain rfl:=hf2 _ rfl
  clear hf1 hf2;simp only[go_sem]at hp;obtain⟨_,_,_,_,_,_,_⟩:=hp;rw[run];exact V
attribute [local go_sem] Az sM Bn st sk sm cc cB wo lv xO Tg.sz sF sG sH sI om List.length_nil sJ qd cond qi qj Nat.zero_mul Nat.add_zero if_true Bool.false_eq_true if_false and_true true_and
variable {l:List Ct} {base:Bs→Bool}
theorem Qt{n:Nat}(ih:Ih l base n):Gd l base n .kg:=by
 intro sh s hf1 hf2 hT hp
 first
 |obtain rfl:=hf1 rfl
 |obtain rfl:=hf2 _ rfl
 clear hf1 hf2
 simp only[go_sem]at hp
 obtain⟨_,_,_,_,_,_,_⟩:=hp
 rw[run]
 exact V
theorem aaq{n:Nat}(ih:Ih l base n):Gd l base n .unit:=by
 intro sh s hf1 hf2 hT hp
 have he:=hf2 _ rfl
 clear hf1 hf2
 simp only[go_sem]at hp
 obtain⟨_,_,_,_,_,_,_⟩:=hp
 rw[run,he]
 have hu:frame .unit=some (sh.af,sh.done.length):=by rw[←he];rfl
 exact V
def gIH:Tg→Bool
 | .wM=>true
 | .field=>true
 | .yP=>true
 | .BU=>true
 | .ma=>true
 |_=>false
theorem anV{n:Nat}(ih:Ih l base n)(tg:Tg)(ht:gIH tg=true):Gd l base n tg:=by
 intro sh s hf1 hf2 hT hp
 cases tg
 all_goals first
  |(cases ht;done)
  |skip
 all_goals
  clear ht
  first
  |obtain rfl:=hf1 rfl
  |obtain rfl:=hf2 _ rfl
  clear hf1 hf2;simp only[go_sem]at hp;obtain⟨_,_,_,_,_,_,_⟩:=hp;rw[run];exact V
inductive Bt:Nat→Nat→List Nd→List Nd→Prop
 |nil {a b:Nat} (h:a≤b):Bt a b [] []
 |snoc {a m lo hi b k:Nat} {F F' K K':List Nd} (h1:Bt a m F F') (h2:m≤lo) (h3:Bt lo hi K K') (h4:hi≤b) (h5:1≤k∧k≤58):Bt a b (F++(K++[⟨k,lo,hi,K.length+1⟩])) (F'++(⟨k,lo,hi,K.length+1⟩::K'))
theorem Fo.ac2{a b:Nat}{L:List Nd}(h:Fo a b L):∃P,Bt a b L P:=by
 induction h with
 |nil h=>exact⟨[], .nil h⟩
 |snoc h1 h2 h3 h4 h5 i1 i3=>
  obtain⟨F',i1⟩:=i1;obtain⟨K',i3⟩:=i3;exact⟨_, .snoc i1 h2 i3 h4 h5⟩
theorem Bt.len{a b:Nat}{L P:List Nd}(h:Bt a b L P):P.length=L.length:=by
 induction h with
 |nil h=>rfl
 |snoc h1 h2 h3 h4 h5 i1 i3=>simp only[Δ,aaJ,List.length_nil,i1,i3]
inductive Fp:Nat→Nat→List Nd→Prop
 |nil {a b:Nat} (h:a≤b):Fp a b []
 |cons {a lo hi b k:Nat} {K R:List Nd} (h2:a≤lo) (h3:Fp lo hi K) (h4:1≤k∧k≤58) (h5:Fp hi b R):Fp a b (⟨k,lo,hi,K.length+1⟩::(K++R))
theorem Fp.aiy{a a' b:Nat}{L:List Nd}(h:Fp a b L)(ha:a'≤a):Fp a' b L:=by
 cases h with
 |nil h=>exact .nil (aaT ha h)
 |cons h2 h3 h4 h5=>exact .cons (aaT ha h2) h3 h4 h5
theorem Fp.append{a m b:Nat}{F L:List Nd}(h:Fp a m F):Fp m b L→Fp a b (F++L):=by
 induction h with
 |nil h=>exact fun k=>k.aiy h
 |cons h2 h3 h4 h5 i3 i5=>
  intro k;rw[List.cons_append,Ψ];exact .cons h2 h3 h4 (i5 k)
theorem Bt.pre{a b:Nat}{L P:List Nd}(h:Bt a b L P):Fp a b P:=by
 induction h with
 |nil h=>exact .nil h
 |@snoc a m lo hi b k F F' K K' h1 h2 h3 h4 h5 i1 i3=>
  refine i1.append ?_;have:=Fp.cons (k:=k) h2 i3 h5 (.nil h4);rwa[List.append_nil,h3.len]at this
def n0:Nd:=⟨0,0,0,0⟩
def oG(W:List Nd):Nat→Nat→Nat→List Nat
 |0,_,_=>[]
 |n+1,left,k=>if left=0 then[]else k::oG W n (left - (W.getD k n0).sz) (k - (W.getD k n0).sz)
def wY(W:List Nd):List Nat→Nat→List Nat→List Nat
 |[],_,pl=>pl
 |k::ks,e,pl=>wY W ks (e - (W.getD k n0).sz) (pl.set k (e - (W.getD k n0).sz))
def Dv(W:List Nd)(i:Nat)(st:List Nat×List Nd):List Nat×List Nd:=
 (wY W (oG W ((W.getD i n0).sz - 1) ((W.getD i n0).sz - 1) (i - 1)) (st.1.getD i 0+(W.getD i n0).sz) st.1,st.2.set (st.1.getD i 0) (W.getD i n0))
def Dw(W:List Nd):Nat→Nat→List Nat×List Nd→List Nat×List Nd
 |0,_,st=>st
 |m+1,t,st=>Dw W m (t - 1) (Dv W (t - 1) st)
theorem Js(W:List Nd):∀(m1 m2 t:Nat) (st:List Nat×List Nd),Dw W (m1+m2) t st=Dw W m2 (t - m1) (Dw W m1 t st)
 |0,m2,t,st=>by rw[acK];rfl
 |m1+1,m2,t,st=>by
  rw[show m1+1+m2=(m1+m2)+1 by omega];show Dw W (m1+m2) (t - 1) _=_;rw[Js W m1 m2 (t - 1),show t - 1 - m1=t - (m1+1) by omega];rfl
theorem Q4(W:List Nd):∀(ks:List Nat) (e:Nat) (pl:List Nat),(wY W ks e pl).length=pl.length
 |[],_,_=>rfl
 |k::ks,e,pl=>by unfold wY;rw[Q4 W ks,af3]
theorem We(W:List Nd)(i:Nat)(st:List Nat×List Nd):(Dv W i st).1.length=st.1.length∧(Dv W i st).2.length=st.2.length:=⟨Q4 _ _ _ _,af3⟩
theorem Wh(W:List Nd):∀(m t:Nat) (st:List Nat×List Nd),(Dw W m t st).1.length=st.1.length∧(Dw W m t st).2.length=st.2.length
 |0,_,_=>⟨rfl,rfl⟩
 |m+1,t,st=>by
  have h:=Wh W m (t - 1) (Dv W (t - 1) st);have h2:=We W (t - 1) st;exact⟨h.1.trans h2.1,h.2.trans h2.2⟩
inductive Rt (pl:List Nat) (c o:Nat):List Nd→Prop
 |nil:Rt pl c o []
 |snoc {F K:List Nd} {r:Nd} (h1:Rt pl c o F) (h2:pl[c+F.length+K.length]? =some (o+F.length)) (h3:r.sz=K.length+1):Rt pl c o (F++(K++[r]))
theorem Rt.inv{pl:List Nat}{c o:Nat}{F K:List Nd}{r:Nd}(h:Rt pl c o (F++(K++[r])))(hr:r.sz=K.length+1):Rt pl c o F∧pl[c+F.length+K.length]? =some (o+F.length):=by
 generalize hL:F++(K++[r])=L at h
 cases h with
 |nil=>simp at hL
 |@snoc F1 K1 r1 h1 h2 h3=>
  rw[←Ψ,←Ψ]at hL;obtain⟨e1,e2⟩:=afy hL rfl;simp only[afM,and_true]at e2;subst e2;obtain⟨e3,e4⟩:=afy e1 η;subst e3 e4;exact⟨h1,h2⟩
theorem Rt.congr{pl pl':List Nat}{c o:Nat}{F:List Nd}(h:Rt pl c o F):(∀j,c≤j→j<c+F.length→pl'[j]? =pl[j]?)→Rt pl' c o F:=by
 induction h with
 |nil=>exact fun _=> .nil
 |@snoc F K r h1 h2 h3 i1=>
  intro hj;simp only[Δ,aaJ,List.length_nil]at hj;refine .snoc (i1 fun j a b=>hj j a η) ?_ h3;rw[hj _ η η];exact h2
theorem FM{A B:List Nd}{r:Nd}(W:List Nd)(i:Nat)(h:W=A++r::B)(hi:i=A.length):W.getD i n0=r:=by
 subst h hi
 simp
theorem ag5{a b:Nat}{K K':List Nd}(h:Bt a b K K'):∀(A B W:List Nd) (n o:Nat) (pl:List Nat),W=A++(K++B)→K.length≤n→pl.length=W.length→
 Rt (wY W (oG W n K.length (A.length+K.length - 1)) (o+K.length) pl) A.length o K∧∀j,(j<A.length∨A.length+K.length≤j)→(wY W (oG W n K.length (A.length+K.length - 1)) (o+K.length) pl)[j]? =pl[j]? :=by
 induction h with
 |nil h=>
  intro A B W n o pl hW hn hl
  have:oG W n (List.length ([]:List Nd)) (A.length+List.length ([]:List Nd) - 1)=[]:=by cases n<;>rfl
  rw[this];exact⟨.nil,fun j _=>rfl⟩
 |@snoc a m lo hi b k F F' M M' h1 h2 h3 h4 h5 i1 i3=>
  intro A B W n o pl hW hn hl
  have hlen:(F++(M++[(⟨k,lo,hi,M.length+1⟩:Nd)])).length=F.length+M.length+1:=by simp only[Δ,aaJ,List.length_nil];omega
  rw[hlen]at hn⊢;obtain⟨n',rfl⟩:∃n',n=n'+1:=⟨n - 1,by omega⟩
  have hWl:W.length=A.length+F.length+M.length+1+B.length:=by rw[hW];simp only[Δ,aaJ,List.length_nil];omega
  have hr:W.getD (A.length+(F.length+M.length+1) - 1) n0=⟨k,lo,hi,M.length+1⟩:=FM (A:=A++(F++M)) (B:=B) W _ (by rw[hW];simp[Ψ]) (by simp only[Δ];omega)
  have hk:oG W (n'+1) (F.length+M.length+1) (A.length+(F.length+M.length+1) - 1)=(A.length+F.length+M.length)::oG W n' F.length (A.length+F.length - 1):=by
   conv=>lhs;unfold oG
   rw[χ η,hr];show(A.length+(F.length+M.length+1) - 1)::oG W n' (F.length+M.length+1 - (M.length+1)) (A.length+(F.length+M.length+1) - 1 - (M.length+1))=_
   congr 1
   ·omega
   ·congr 1<;>omega
  have hr2:W.getD (A.length+F.length+M.length) n0=⟨k,lo,hi,M.length+1⟩:=by rw[←hr];congr 1;omega
  have hp:wY W ((A.length+F.length+M.length)::oG W n' F.length (A.length+F.length - 1)) (o+(F.length+M.length+1)) pl=wY W (oG W n' F.length (A.length+F.length - 1)) (o+F.length) (pl.set (A.length+F.length+M.length) (o+F.length)):=by
   conv=>lhs;unfold wY
   rw[hr2];show wY W _ (o+(F.length+M.length+1) - (M.length+1)) (pl.set _ (o+(F.length+M.length+1) - (M.length+1)))=_;rw[show o+(F.length+M.length+1) - (M.length+1)=o+F.length by omega]
  rw[hk,hp];obtain⟨q1,q2⟩:=i1 A (M++[⟨k,lo,hi,M.length+1⟩]++B) W n' o (pl.set (A.length+F.length+M.length) (o+F.length)) (by rw[hW];simp[Ψ]) η (by rw[af3];exact hl);refine⟨.snoc q1 ?_ rfl,fun j hj=>?_⟩
  ·rw[q2 _ (.inr η),List.getElem?_set_self η]
  ·rw[q2 j η,List.getElem?_set_ne η]
theorem aas{a b:Nat}{L P:List Nd}(h:Bt a b L P):∀(A B W:List Nd) (o:Nat) (st:List Nat×List Nd),W=A++(L++B)→Rt st.1 A.length o L→st.1.length=W.length→o+L.length≤st.2.length→
 (∀j,(Dw W L.length (A.length+L.length) st).2[j]? =if o≤j∧j<o+L.length then P[j - o]? else st.2[j]?)∧∀j,(j<A.length∨A.length+L.length≤j)→(Dw W L.length (A.length+L.length) st).1[j]? =st.1[j]? :=by
 induction h with
 |nil h=>
  intro A B W o st hW hR hl ho;refine⟨fun j=>?_,fun j _=>rfl⟩;rw[χ (by simp only[List.length_nil];omega)];rfl
 |@snoc a m lo hi b k F F' K K' h1 h2 h3 h4 h5 i1 i3=>
  intro A B W o st hW hR hl ho
  have hlen:(F++(K++[(⟨k,lo,hi,K.length+1⟩:Nd)])).length=1+(K.length+F.length):=by simp only[Δ,aaJ,List.length_nil];omega
  obtain⟨hRF,hRr⟩:=hR.inv rfl;rw[hlen]at ho⊢
  have hWl:W.length=A.length+F.length+K.length+1+B.length:=by rw[hW];simp only[Δ,aaJ,List.length_nil];omega
  have hi0:A.length+(1+(K.length+F.length)) - 1=A.length+F.length+K.length:=by omega
  have hr:W.getD (A.length+F.length+K.length) n0=⟨k,lo,hi,K.length+1⟩:=FM (A:=A++(F++K)) (B:=B) W _ (by rw[hW];simp[Ψ]) (by simp only[Δ];omega)
  have hpr:st.1.getD (A.length+F.length+K.length) 0=o+F.length:=by rw[abN,hRr];rfl
  rw[Js,Js]
  have e1:Dw W 1 (A.length+(1+(K.length+F.length))) st=Dv W (A.length+F.length+K.length) st:=by
   show Dv W (A.length+(1+(K.length+F.length)) - 1) st=_;rw[hi0]
  rw[e1];obtain⟨st1,sN⟩:∃st1,Dv W (A.length+F.length+K.length) st=st1:=⟨_,rfl⟩;have hl1:=We W (A.length+F.length+K.length) st;rw[sN]at hl1⊢;have hst:=sN;unfold Dv at hst;rw[hr,hpr]at hst;have hk:=ag5 h3 (A++F) ([⟨k,lo,hi,K.length+1⟩]++B) W K.length (o+F.length+1) st.1 (by rw[hW];simp[Ψ]) (υ _) hl
  have e2:wY W (oG W K.length K.length ((A++F).length+K.length - 1)) (o+F.length+1+K.length) st.1=st1.1:=by
   rw[←hst];show _=wY W (oG W (K.length+1 - 1) (K.length+1 - 1) (A.length+F.length+K.length - 1)) (o+F.length+(K.length+1)) st.1;rw[Δ,Nat.add_sub_cancel,show o+F.length+(K.length+1)=o+F.length+1+K.length by omega]
  rw[e2]at hk
  have e3:st1.2=st.2.set (o+F.length) ⟨k,lo,hi,K.length+1⟩:=by rw[←hst]
  rw[Δ]at hk
  have t1:A.length+(1+(K.length+F.length)) - 1=A.length+F.length+K.length:=by omega
  have t2:A.length+F.length+K.length - K.length=A.length+F.length:=by omega
  rw[t1,t2];obtain⟨k1,k2⟩:=i3 (A++F) ([⟨k,lo,hi,K.length+1⟩]++B) W (o+F.length+1) st1 (by rw[hW];simp[Ψ]) (by rw[Δ];exact hk.1) η η;rw[Δ]at k1 k2;obtain⟨st2,Ee⟩:∃st2,Dw W K.length (A.length+F.length+K.length) st1=st2:=⟨_,rfl⟩;have hl2:=Wh W K.length (A.length+F.length+K.length) st1;rw[Ee]at k1 k2 hl2⊢;obtain⟨f1,f2⟩:=i1 A (K++[⟨k,lo,hi,K.length+1⟩]++B) W o st2 (by rw[hW];simp[Ψ]) (hRF.congr fun j a b=>by rw[k2 j (.inl b),hk.2 j (.inl b)]) η η;have hF':=h1.len;have hK':=h3.len;refine⟨fun j=>?_,fun j hj=>?_⟩
  ·rw[f1 j]
   by_cases c1:o≤j∧j<o+F.length
   ·rw[ω c1,ω η,afS η]
   rw[χ c1,k1 j];by_cases c2:o+F.length+1≤j∧j<o+F.length+1+K.length
   ·rw[ω c2,ω η,acF η,show j - o - F'.length=(j - (o+F.length+1))+1 by omega,List.getElem?_cons_succ]
   rw[χ c2,e3];by_cases c3:j=o+F.length
   ·subst c3
    rw[List.getElem?_set_self η,ω η,acF η,show o+F.length - o - F'.length=0 by omega,List.getElem?_cons_zero]
   ·rw[List.getElem?_set_ne (fun e=>c3 e.symm),χ η]
  ·rw[f2 j η,k2 j η,hk.2 j η]
def qX(W:List Nd):List Nd:=(Dw W W.length W.length (List.replicate W.length 0,List.replicate W.length n0)).2
theorem OU{a b lo hi k:Nat}{K P:List Nd}(h:Bt a b (K++[⟨k,lo,hi,K.length+1⟩]) P):qX (K++[⟨k,lo,hi,K.length+1⟩])=P:=by
 have hlen:(K++[(⟨k,lo,hi,K.length+1⟩:Nd)]).length=K.length+1:=by simp
 have hR:Rt (List.replicate (K++[(⟨k,lo,hi,K.length+1⟩:Nd)]).length 0) 0 0 (K++[⟨k,lo,hi,K.length+1⟩]):=by
  refine Rt.snoc (F:=[]) .nil ?_ rfl;rw[List.getElem?_replicate,ω ν];simp
 have q:=(aas h [] [] (K++[⟨k,lo,hi,K.length+1⟩]) 0 (List.replicate (K++[(⟨k,lo,hi,K.length+1⟩:Nd)]).length 0,List.replicate (K++[(⟨k,lo,hi,K.length+1⟩:Nd)]).length n0) ν hR ν ν).1
 refine List.ext_getElem? fun j=>?_
 have hj:=q j
 simp only[List.length_nil,acK]at hj
 unfold qX
 rw[hj]
 by_cases c:j<(K++[(⟨k,lo,hi,K.length+1⟩:Nd)]).length
 ·rw[ω ⟨Ω _,c⟩];rfl
 ·rw[χ (fun e=>c e.2),List.getElem?_replicate,χ c,acO (by rw[h.len];omega)]
end Go.Proofs.YtlboejdhmggjpaaGreat.Pp
namespace Go.Proofs.YtlboejdhmggjpaaGreat
open Go.RowKit
variable {F:Fence} {n:Nat} {P:Program}
def nc(w:World)(k:Nat):Prop:=∃o,w.heap[k]? =some o∧o.isCells=false
def adC{α:Type}(F:Fence)(n:Nat)(P:Program)(g:Nat)(lb:Array Value)(encs:α→Array Value)(Kp:World→World→Prop)(Ok:List α→α→Prop)(X:Nat→Prop)(S Sp:List α→Prop)(w:World):Prop:=
 ∀(l:Nat) (J Jx:List α→World→Prop) (W:World),Below w.heap.size w W→(∀s A B,J s A→iV (fun k=>X k∨(W.heap.size≤k∧nc A k)) A B→J s B)→(∀s A B,Jx s A→iV (fun k=>X k∨(W.heap.size≤k∧nc A k)) A B→Jx s B)→
  (∀pre x W1,J pre W1→Ok pre x→YieldAt F (n - 1) P l (encs x) W1 fun e W'=>(e= .returned (.bool true)∧J (pre++[x]) W'∧Kp W1 W')∨(e= .returned (.bool false)∧Jx (pre++[x]) W'))→J [] W→
  CallsIn F n P g (#[.func (.yield l) #[] #[]]++lb) W fun e W'=>(∃v,e= .returned v)∧((∃xs,S xs∧J xs W')∨(∃pre,Sp pre∧Jx pre W'))
variable {F:Fence} {n:Nat} {P:Program}
def QE(D:Nat):Deferred:={target:= .collected D,args:=#[]}
def wH(b:Nat)(w:World)(ds:List Deferred):Prop:=∃Ds:List Nat,ds=Ds.map QE∧Ds.Nodup∧∀D∈Ds,b≤D∧w.heap[D]? =some (.deferred (some []))
theorem wH.nil(b:Nat)(w:World):wH b w []:=⟨[],rfl,List.nodup_nil,fun D h=>by simp at h⟩
variable {w' : World}
theorem wH.VY {b:Nat}{w : World}{ds:List Deferred}(h:wH b w ds)(hk:∀D:Nat,w.heap[D]? =some (.deferred (some []))→w'.heap[D]? =some (.deferred (some []))):wH b w' ds:=by
 obtain⟨Ds,h1,h2,h3⟩:=h
 exact⟨Ds,h1,h2,fun D hD=>⟨(h3 D hD).1,hk D (h3 D hD).2⟩⟩
theorem wH.push {b D:Nat}{w : World}{ds:List Deferred}(h:wH b w ds)(hk:∀D:Nat,w.heap[D]? =some (.deferred (some []))→w'.heap[D]? =some (.deferred (some [])))(hb:b≤D)(hD:w'.heap[D]? =some (.deferred (some [])))(hw:w.heap.size≤D):wH b w' (QE D::ds):=by
 obtain⟨Ds,h1,h2,h3⟩:=h
 refine⟨D::Ds,by rw[h1];rfl,agJ.2 ⟨fun e=>?_,h2⟩,fun D' hD'=>?_⟩
 ·have:=(ψ.1 (h3 D e).2).1
  omega
 ·rcases abf.1 hD' with rfl|hD'
  ·exact⟨hb,hD⟩
  ·exact⟨(h3 D' hD').1,hk D' (h3 D' hD').2⟩
theorem QX{fn:Func}{tmps:Array Value}{R:Ending→World→Prop}{u:FrameMode}(hu:u≠ .run){b:Nat}:∀(ds:List Deferred) (w:World),wH b w ds→
 (∀w',iV (fun k=>b≤k∧nc w k) w w'→LeavesInM F n P fn tmps R [] u w')→LeavesInM F n P fn tmps R ds u w:=by
 suffices H:∀(Ds:List Nat) (w:World),Ds.Nodup→(∀D∈Ds,b≤D∧w.heap[D]? =some (.deferred (some [])))→(∀w',iV (fun k=>b≤k∧nc w k) w w'→LeavesInM F n P fn tmps R [] u w')→LeavesInM F n P fn tmps R (Ds.map QE) u w by
  rintro ds w ⟨Ds,rfl,h2,h3⟩ h;exact H Ds w h2 h3 h
 intro Ds
 induction Ds with
 |nil=>exact fun w _ _ h=>h w (iV.refl _ _)
 |cons D Ds ih=>
  intro w hn hall h;obtain⟨hnot,hn2⟩:=agJ.1 hn;have hD:=hall D ν;refine⟨hu, .inl ⟨D,w.putObj D (.deferred none),rfl,run_takeDeferred hD.2,ih _ hn2 (fun D' hD'=>?_) (fun w' hm=>h w' ?_)⟩⟩
  ·have:=hall D' (by simp[hD'])
   refine⟨this.1,?_⟩;rw[ab5 (fun e=>by subst e;exact hnot hD')];exact this.2
  ·have hlt:=(ψ.1 hD.2).1
   have h1:iV (fun k=>b≤k∧nc w k) w (w.putObj D (.deferred none)):=⟨rfl,rfl,rfl,by simp,fun k hk hs=>ab5 (fun e=>hs (by subst e;exact⟨hD.1,_,hD.2,rfl⟩))⟩;refine h1.trans (hm.mono fun k hk hs=>⟨hs.1,?_⟩);by_cases e:k=D
   ·subst e;exact⟨_,hD.2,rfl⟩
   ·obtain⟨o,ho,hc⟩:=hs.2
    rw[ab5 e]at ho;exact⟨o,ho,hc⟩
theorem KC(w:World)(ty:TypeId)(g o:Nat)(vs:List Value)(cur:Array Value)(t:TypeId)(hg:w.heap[g]? =some (.cells cur t (0,0)))(hl:o+vs.length≤cur.size)(h1:∀v∈vs,v.oneCell'=true)(hi:(P.info? ty).map (·.size)=some vs.length):
 (storeVar ty ⟨g,o,none⟩ (.agg vs.toArray)).run P w= .ok () (w.setRow g (cur.toList.take o++vs++cur.toList.drop (o+vs.length)).toArray):=by
 have hst:=run_storeCells_at P g o t vs 0 cur w hg (by simpa using hl) h1
 cases hq:P.info? ty with
 |none=>simp[hq]at hi
 |some i=>
  have hs:i.size=vs.length:=by simpa[hq]using hi
  simpa[storeVar,sizeOf,typeInfo,hq,hs,Value.cells,Sem.run_bind]using hst
variable {a : Act}{Q : Exit→Act→World→Prop}{o : Oper}
theorem Vf {w:World}{K:Act→World→Prop}(ty:TypeId)(x y:Operand)(ho:o.op= .store ty x y)(g i:Nat)(hx:a.eval x= .pointer (some ⟨g,i,none⟩))(vs:List Value)(hy:a.eval y= .agg vs.toArray)(cur:Array Value)(t:TypeId)(hg:w.heap[g]? =some (.cells cur t (0,0)))(hl:i+vs.length≤cur.size)(h1:∀v∈vs,v.oneCell'=true)(hi:(P.info? ty).map (·.size)=some vs.length)(h:K (a.put o.dst undef) (w.setRow g (cur.toList.take i++vs++cur.toList.drop (i+vs.length)).toArray)):o.wp P a w K Q:=by
 unfold Oper.wp execOp
 simp only[ho,hx,hy,Instr.storeAt,Instr.sureAddr,Sem.run_bind,Sem.run_pure,Result.andThen_ok,KC w ty g i vs cur t hg hl h1 hi]
 exact h
variable {ops : Array Oper}
theorem qV {rest:List Oper}{w:World}(hgd:o.guard=none)(ty:TypeId)(x y:Operand)(ho:o.op= .store ty x y)(g i:Nat)(hx:a.eval x= .pointer (some ⟨g,i,none⟩))(vs:List Value)(hy:a.eval y= .agg vs.toArray)(cur:Array Value)(t:TypeId)(hg:w.heap[g]? =some (.cells cur t (0,0)))(hl:i+vs.length≤cur.size)(h1:∀v∈vs,v.oneCell'=true)(hi:(P.info? ty).map (·.size)=some vs.length)(h:wpList P ops Q rest (a.put o.dst undef) (w.setRow g (cur.toList.take i++vs++cur.toList.drop (i+vs.length)).toArray)):wpList P ops Q (o::rest) a w:=
 wpList_plain hgd fun _ hK=>Vf ty x y ho g i hx vs hy cur t hg hl h1 hi (hK _ _ h)
theorem EH (w:World){rest:List Oper}(hg:o.guard=none)(l c:Operand)(t:TypeId)(hop:o.op=Op.makeSlice t l c)(e:TypeId)(i:TypeInfo)(z:Value)(size:Nat)(h1:P.underlying t=some (.slice e))(h2:P.info? e=some i)(h3:i.zero=some z)(h4:i.size=size)(kl kc:IntKind)(L C:Int)(n:Nat)(hl:a.eval l= .int kl L)(hc:a.eval c= .int kc C)(hL:L=(n:Int))(hC:C=(n:Int))(b2:i.bytes*n≤281474976710656)(b3:n≤9223372036854775807)(cs:Array Value)(hcs:madeCells z.cells (n*size)=cs)(hK:wpList P ops Q rest (a.put o.dst (.slice (some ⟨w.heap.size,0,none⟩) n n)) (w.alloc (.cells cs e))):
 wpList P ops Q (o::rest) a w:=by
 refine wpList_plain hg fun K hK'=>?_
 subst hL hC h4 hcs
 have hb':(i.bytes:Int)*(n:Int)≤281474976710656:=by
  have h:((i.bytes*n:Nat):Int)≤281474976710656:=by omega
  rwa[Int.natCast_mul]at h
 have hrun:=run_make (P:=P) w t e i z h1 h2 h3 kl kc n n η (Int.le_refl _) hb' η
 unfold Oper.wp
 simp only[Int.toNat_natCast]at hrun
 simp only[execOp,hop,hl,hc,hrun,Sem.run_bind,Result.andThen_ok,Sem.run_pure]
 exact hK' _ _ hK
theorem KD{α:Type}(n:Nat)(f:α→List Value)(hf:∀x,(f x).length=n):∀(l:List α) (i:Nat) (x:α),i<l.length→(l.flatMap f).take (i*n)++f x++(l.flatMap f).drop (i*n+n)=(l.set i x).flatMap f
 |[],i,x,h=>by simp at h
 |y::l,0,x,h=>by
  rw[acy,Nat.zero_mul,acK,List.take_zero,List.nil_append,abG,acy,List.drop_append_of_le_length (by rw[hf];omega),abY (by rw[hf];omega),List.nil_append]
 |y::l,i+1,x,h=>by
  have ih:=KD n f hf l i x (by simpa using h);rw[acy,abH,acy,←ih]
  have e1:(i+1)*n=(f y).length+i*n:=by rw[hf,agO];omega
  rw[e1,List.take_length_add_append,Nat.add_assoc,List.drop_length_add_append];simp only[Ψ]
variable {F:Fence} {n:Nat} {P:Program}
theorem AV{α:Type}{g:Operand}{ps:Array Tmp}{assign body:Code}{Q:Exit→Act→World→Prop}{a:Act}{w:World}
 (hro:F.round=none) (h1:1≤n) {gf:Nat} {lb:Array Value} (hg:a.eval g= .func (.func gf) #[] lb) (hFg:F.fn gf) (eg:∀args w,(callFunc gf args).run P w= .ok (.enter gf args) w)
 {encs:α→Array Value} {Kp:World→World→Prop} {Ok:List α→α→Prop} {X:Nat→Prop} {S Sp:List α→Prop} {w0:World} (hseq:adC F (n - 1) P gf lb encs Kp Ok X S Sp w0) (hX:∀k,X k→k<w.heap.size)
 (hKt:∀{A B C:World},Kp A B→Kp B C→Kp A C) (hKb:∀(W:World) (l:Nat) (o o':Obj),w.heap.size≤l→W.heap[l]? =some o→o.isCells=false→o.isWalk=false→Kp W (W.putObj l o')) (hb0:Below w0.heap.size w0 w) (hps:∀x,(encs x).size=ps.size)
 (I:List α→World→Prop) (Ix:Code→List α→World→Prop) (hI:∀s A B,I s A→iV (fun k=>X k∨(w.heap.size≤k∧nc A k)) A B→I s B) (hIx:∀c s A B,Ix c s A→iV (fun k=>X k∨(w.heap.size≤k∧nc A k)) A B→Ix c s B) (h0:I [] w) (Rw:α→Act→World→Prop) (hKa:∀{A B:World},Below A.heap.size A B→Kp A B) (hRw:∀(x:α) (a':Act) (W:World) (l:Nat) (o o':Obj),W.heap[l]? =some o→o.isCells=false→Rw x a' W→Rw x a' (W.putObj l o'))
 (hassign:∀(l:Nat) (x:α) (W:World) (K:Act→World→Prop),(∀a' W',Below W.heap.size W W'→Rw x a' W'→K a' W')→
  assign.wpIn (F.inRound l) (n - 1 - 1) P (Exit.then K (fun _ _ _=>False)) {tmps:=(ps.zip (encs x)).foldl (fun t (p,v)=>t.setIfInBounds p v) a.tmps,defers:=[]} W)
 (hbody:∀(l:Nat) (pre:List α) (x:α) (a':Act) (W:World),I pre W→Ok pre x→Rw x a' W→body.wpIn (F.inRound l) (n - 1 - 1) P (ownPostG w.heap.size Kp I Ix (pre++[x]) W) a' W)
 (hdone:∀(D:Nat) (xs:List α) (W:World),w.heap.size≤D→S xs→I xs W→W.heap[D]? =some (.deferred (some []))→Q .normal {a with defers:={target:= .collected D,args:=#[]}::a.defers} W)
 (hstop:∀(D:Nat) (c:Code) (pre:List α) (W:World),w.heap.size≤D→Sp pre→Ix c pre W→W.heap[D]? =some (.deferred (some []))→c.wpIn F n P Q {a with defers:={target:= .collected D,args:=#[]}::a.defers} W):
 (Code.rangeFunc g ps assign body).wpIn F n P Q a w:=by
 refine wpIn_rangeFunc fun fn hfn=>?_
 rw[hro]
 let L:LoopState→Option Code→Obj:=fun st c=> .loop {state:=st,pending:=c,fn,tmps:=a.tmps,params:=ps,assign,body,defers:=w.heap.size}
 obtain⟨V,hV⟩:∃V,V=(w.alloc (.deferred (some []))).alloc (L .ready none):=⟨_,rfl⟩
 have hVs:V.heap.size=w.heap.size+2:=by rw[hV];simp
 have hl0:V.heap[w.heap.size+1]? =some (L .ready none):=by
  rw[hV];have:=World.alloc_heap_new (w.alloc (.deferred (some []))) (L .ready none);rwa[World.size_alloc]at this
 have hd0:V.heap[w.heap.size]? =some (.deferred (some [])):=by
  rw[hV];exact(Below.heap_alloc _ _ _ ν).trans (World.alloc_heap_new w _)
 have hwV:Below w.heap.size w V:=by rw[hV];exact((Below.refl _ w).alloc (υ _) _).alloc ν _
 have hi0:I [] V:=hI _ _ _ h0 (iV.aT hwV)
 have hput:∀{s:List α} {A:World} {l:Nat} {o0:Obj} (o:Obj),I s A→A.heap[l]? =some o0→o0.isCells=false→w.heap.size≤l→I s (A.putObj l o):=fun{s A l o0} o hi h0 h1 hl=>
  hI s A _ hi ⟨rfl,rfl,rfl,by simp,fun k hk hn=>ab5 (fun e=>hn (.inr (by subst e;exact⟨hl,o0,h0,h1⟩)))⟩
 have afL:∀{c:Code} {s:List α} {A:World} {l:Nat} {o0:Obj} (o:Obj),Ix c s A→A.heap[l]? =some o0→o0.isCells=false→w.heap.size≤l→Ix c s (A.putObj l o):=fun{c s A l o0} o hi h0 h1 hl=>
  hIx c s A _ hi ⟨rfl,rfl,rfl,by simp,fun k hk hn=>ab5 (fun e=>hn (.inr (by subst e;exact⟨hl,o0,h0,h1⟩)))⟩
 refine⟨w.heap.size+1,[{target:= .collected w.heap.size,args:=#[]}],V,{target:= .fn (.func gf) lb,args:=#[.func (.yield (w.heap.size+1)) #[] #[]]},V,gf,
  #[.func (.yield (w.heap.size+1)) #[] #[]]++lb,V,by rw[hV];exact run_enterLoop_outer _ _ _ _ _,by simp only[resolve,hg];simp[go_sem],fun f' hf'=>by simp[Target.leads]at hf';subst hf';exact hFg,by simp[invoke,go_sem,eg],fun _=>h1,?_⟩
 let J:List α→World→Prop:=fun pre W=>I pre W∧W.heap[w.heap.size+1]? =some (L .ready none)∧W.heap[w.heap.size]? =some (.deferred (some []))
 let Jx:List α→World→Prop:=fun pre W=>∃c,Ix c pre W∧W.heap[w.heap.size+1]? =some (L .done (some c))∧W.heap[w.heap.size]? =some (.deferred (some []))
 have hkeep:∀{A B:World} {k:Nat} {o:Obj},iV (fun k=>X k∨(V.heap.size≤k∧nc A k)) A B→A.heap[k]? =some o→w.heap.size≤k→k<w.heap.size+2→B.heap[k]? =some o:=fun hm ho h1 h2=>
  hm.lL ho (fun e=>by
   rcases e with e|e
   ·have:=hX _ e;omega
   ·omega)
 have hsub:∀{A B:World},iV (fun k=>X k∨(V.heap.size≤k∧nc A k)) A B→iV (fun k=>X k∨(w.heap.size≤k∧nc A k)) A B:=fun hm=>hm.mono (fun k _ hk=>by
  rcases hk with hk|hk
  ·exact .inl hk
  ·exact .inr ⟨by omega,hk.2⟩)
 have hJ:∀s A B,J s A→iV (fun k=>X k∨(V.heap.size≤k∧nc A k)) A B→J s B:=fun s A B hs hm=>
  ⟨hI s A B hs.1 (hsub hm),hkeep hm hs.2.1 η η,hkeep hm hs.2.2 η η⟩
 have hJx:∀s A B,Jx s A→iV (fun k=>X k∨(V.heap.size≤k∧nc A k)) A B→Jx s B:=fun s A B ⟨c,h1,h2,h3⟩ hm=>
  ⟨c,hIx c s A B h1 (hsub hm),hkeep hm h2 η η,hkeep hm h3 η η⟩
 refine(hseq (w.heap.size+1) J Jx V (hb0.trans (hwV.mono hb0.size)) hJ hJx ?_ ⟨hi0,hl0,hd0⟩).mono ?_
 ·rintro pre x W0 ⟨hi0,hl0,hk0⟩ hok
  have arU:w.heap.size+1<W0.heap.size:=(ψ.1 hl0).1;refine⟨fn,_,assign,body,run_yield (P:=P) (args:=encs x) hl0 (hps x),roundIn_of_wpIn hfn (hassign _ x W0 _ fun a' W iq hra=>?_)⟩;have hl:=aF iq hl0 arU;have hk:=aF iq hk0 η;have hi:I pre W:=hI _ _ _ hi0 (iV.aT iq);refine⟨_,run_beginRound hl rfl,?_⟩;have hlt:w.heap.size+1<W.heap.size:=(ψ.1 hl).1;have hl2:(W.putObj (w.heap.size+1) (L .busy none)).heap[w.heap.size+1]? =some (L .busy none):=World.putObj_heap_same hlt;have hk2:(W.putObj (w.heap.size+1) (L .busy none)).heap[w.heap.size]? =some (.deferred (some [])):=(ab5 η).trans hk;refine wpIn_mono (hbody _ pre x _ _ (hput _ hi hl rfl η) hok (hRw _ _ _ _ _ _ hl rfl hra)) ?_
  have fw:∀{W3:World},KeepsFrom w.heap.size (W.putObj (w.heap.size+1) (L .busy none)) W3→W3.heap[w.heap.size+1]? =some (L .busy none)∧W3.heap[w.heap.size]? =some (.deferred (some [])):=fun hk3=>
   ⟨hk3.same _ _ η hl2 rfl,hk3.same _ _ (υ _) hk2 rfl⟩
  rintro e a3 W3 hp
  have out:∀(c:Code),KeepsFrom w.heap.size (W.putObj (w.heap.size+1) (L .busy none)) W3→Ix c (pre++[x]) W3→Jx (pre++[x]) (W3.putObj (w.heap.size+1) (L .done (some c))):=fun c h1 h2=>by
   obtain⟨hl3,hk3⟩:=fw h1;exact⟨c,afL _ h2 hl3 rfl η,World.putObj_heap_same (ψ.1 hl3).1,(ab5 η).trans hk3⟩
  cases e with
  |normal=>
   obtain⟨hk3,hkp,hi3⟩:=hp;obtain⟨hl3,hd3⟩:=fw hk3;refine⟨_,_,run_endRound (P:=P) none hl3, .inl ⟨rfl,⟨hput _ hi3 hl3 rfl η,World.putObj_heap_same (ψ.1 hl3).1,(ab5 η).trans hd3⟩,?_⟩⟩;exact hKt (hKa iq)<|hKt (hKt (hKb _ _ _ _ η hl rfl rfl) hkp) (hKb _ _ _ _ η hl3 rfl rfl)
  |ret=>exact⟨_,_,run_endRound (P:=P) (some .ret) (fw hp.1).1, .inr ⟨rfl,out _ hp.1 hp.2⟩⟩
  |exit id=>exact⟨_,_,run_endRound (P:=P) (some (.exit id)) (fw hp.1).1, .inr ⟨rfl,out _ hp.1 hp.2⟩⟩
  |goto t=>exact⟨_,_,run_endRound (P:=P) (some (.goto t)) (fw hp.1).1, .inr ⟨rfl,out _ hp.1 hp.2⟩⟩
  |panic ch=>exact hp.elim
  |outgrown=>exact hp.elim
 ·rintro e W2 ⟨⟨v,rfl⟩,(⟨xs,hS,hi,hl,hk⟩|⟨pre,hSp,c,hi,hl,hk⟩)⟩
  ·exact⟨none,_,run_endLoop (P:=P) hl ν,hdone _ xs _ (υ _) hS (hput _ hi hl rfl η) ((ab5 η).trans hk)⟩
  ·exact⟨some c,_,run_endLoop (P:=P) hl ν,hstop _ c pre _ (υ _) hSp (afL _ hi hl rfl η) ((ab5 η).trans hk)⟩
end Go.Proofs.YtlboejdhmggjpaaGreat
namespace Go.Proofs.YtlboejdhmggjpaaGreat.Pp
set_option maxRecDepth 100000
set_option maxHeartbeats 16000000
open Go.RowKit Go.BigFrame Go.Proofs.YtlboejdhmggjpaaGreat
theorem Zw(p:Addr)(w:World):CallsD Tryz.prog 54 #[.pointer (some p)] .returning w fun e u' w'=>e= .returned (.tuple #[])∧u'= .returning∧w'=w:=by
 refine callsD_of_wpS Tryz.func54 rfl fun c₀ cs hu=>?_
 have hnil:∀w:World,(binOp BinOp.eql 20 .nilIface .nilIface).run Tryz.prog w= .ok (.bool true) w:=fun _=>by kernel_rfl
 apply wpS_seq
 apply wpS_region
 simp[wpOpsS,go_sem,recoverD,hu,Tryz.ntmps54,Exit.thenS]
 refine wpS_of_wp ?_
 go_wp2_with fail
 cases c₀
 simp_all[bodyPostS,results,Tryz.results54]
theorem Zx(b:Nat)(n:Int)(w:World)(hb:w.heap[b]? =some (.cells #[.bool false] 4 (0,0))):CallsD Tryz.prog 54 #[.pointer (some ⟨b,0,none⟩)] (.panicking (mV n)) w fun e u' w'=>e= .returned (.tuple #[])∧u'= .panicking [{v:= .iface 114 (.agg #[.int .i64 n]),recovered:=true}]∧w'=(w.setCell ⟨b,0,none⟩ (.bool false)).alloc (.cells #[.int .i64 n] 114):=by
 refine callsD_of_wpS Tryz.func54 rfl fun c₀ cs hu=>?_
 unfold mV at hu
 have hnil:∀(v:Value) (w:World),(binOp BinOp.eql 20 (.iface 114 v) .nilIface).run Tryz.prog w= .ok (.bool false) w:=fun _ _=>by kernel_rfl
 have hta:∀(v:Value) (w:World),(Instr.typeAssert (.iface 114 v) 20 114 true).run Tryz.prog w= .ok (.tuple #[v, .bool true]) w:=fun _ _=>by kernel_rfl
 have hlt:=(ψ.1 hb).1
 have c0:w.cell? ⟨b,0,none⟩=some (.bool false):=by simp[World.cell?,hb]
 have f0:w.frozen? ⟨b,0,none⟩=false:=ab7 hb 0
 simp only[Tryz.ntmps54,afX,aaJ,List.length_nil,Nat.reduceAdd,Nat.reduceSub,afV,afW,agc,af0,List.nil_append,List.cons_append]
 apply wpS_seq
 apply wpS_region
 simp[wpOpsS,go_sem,recoverD,hu,Exit.thenS]
 refine wpS_of_wp ?_
 have HU:=Hh hu
 clear hu hb
 go_wp2_with fail
 exact⟨rfl,_,rfl, .tuple #[],by simp[results,Tryz.results54,go_sem],rfl,rfl,rfl⟩
theorem akN(B:Nat)(w:World){A Bd:World→Prop}(h:Calls Tryz.prog 31 #[.pointer (some ⟨B,0,none⟩)] (w.alloc (.cells #[.bool false] 4)) fun e W'=>KP (w.alloc (.cells #[.bool false] 4)) W'∧((e= .returned (.tuple #[])∧A W')∨((∃n:Int,e= .panicked (mV n))∧Bd W'))):
 Calls Tryz.prog 35 #[.func (.func 31) #[] #[.pointer (some ⟨B,0,none⟩)]] w fun e w'=>(∃W',A W'∧KP (w.alloc (.cells #[.bool false] 4)) W'∧e= .returned (.bool true)∧w'=W'.setCell ⟨w.heap.size,0,none⟩ (.bool true))∨(∃W' n,Bd W'∧KP (w.alloc (.cells #[.bool false] 4)) W'∧e= .returned (.bool false)∧w'=(W'.setCell ⟨w.heap.size,0,none⟩ (.bool false)).alloc (.cells #[.int .i64 n] 114)):=by
 have Pb:∀(fn:Fn) (first cap:Array Value) (w:World),(Instr.makeFunc fn first cap).run Tryz.prog w= .ok (.func fn first cap) w:=fun _ _ _ _=>rfl
 have HC:=Hh h
 clear h
 go_enter_defers Tryz.func35,Tryz.ntmps35
 go_wp2_with fail
 refine HC.out.mono ?_
 rintro e W' ⟨hk,⟨rfl,hA⟩|⟨⟨n,rfl⟩,hB⟩⟩
 ·have hb:=hk.2 w.heap.size _ 4 (0,0) rfl (dz _ _ _)
  have f0:W'.frozen? ⟨w.heap.size,0,none⟩=false:=ab7 hb 0
  have c0:W'.cell? ⟨w.heap.size,0,none⟩=some (.bool false):=by simp[World.cell?,hb]
  have HK:=Hh hk;have HA:=Hh hA;clear hk hA hb
  go_wp2_with fail
  refine leaves_cons (f:=54) (args:=#[.pointer (some ⟨w.heap.size,0,none⟩)]) ν (by simp[go_sem]) ?_;refine(Zw ⟨w.heap.size,0,none⟩ _).mono ?_;rintro e u' w'' ⟨rfl,rfl,rfl⟩;simp only[Leaves,settle];refine⟨.bool true,by simp[results,Tryz.results35,go_sem,c0], .inl ⟨W',HA.out,HK.out,rfl,rfl⟩⟩
 ·have hb:=hk.2 w.heap.size _ 4 (0,0) rfl (dz _ _ _)
  have HK:=Hh hk;have HB:=Hh hB;clear hk hB;refine leaves_cons (f:=54) (args:=#[.pointer (some ⟨w.heap.size,0,none⟩)]) ν (by simp[go_sem]) ?_;refine(Zx w.heap.size n _ hb).mono ?_;rintro e u' w'' ⟨rfl,rfl,rfl⟩;have hlt:=(ψ.1 hb).1
  have c0:W'.cell? ⟨w.heap.size,0,none⟩=some (.bool false):=by simp[World.cell?,hb]
  have hs:settle (.panicking [{v:= .iface 114 (.agg #[.int .i64 n]),recovered:=true}])= .returning:=rfl;simp only[hs,Leaves];refine⟨.bool false,by simp[results,Tryz.results35,go_sem,c0,hlt], .inr ⟨W',n,HB.out,HK.out,rfl,rfl⟩⟩
end Go.Proofs.YtlboejdhmggjpaaGreat.Pp
namespace Go.Proofs.YtlboejdhmggjpaaGreat.Pp
set_option maxRecDepth 100000
set_option maxHeartbeats 16000000
open Go.RowKit Go.ChangeShapes Go.WideShapes Go.Deep Go.Proofs.YtlboejdhmggjpaaGreat
theorem c3:Tryz.prog.cellsOf 3=1:=by kernel_rfl
theorem c9:Tryz.prog.cellsOf 9=1:=by kernel_rfl
theorem c54:Tryz.prog.cellsOf 54=2:=by kernel_rfl
section
variable {H:Type} {enc:TypeId×Value→H} {w:World} {base:Nat} {spare:Nat→Bool} {held:Bool}
variable {x : DataW H×List MemPlace}{cs : List Value}{fuel : Nat}
theorem alh (h:DataW.trod enc Tryz.prog w base spare held fuel 54 cs=some x)(hw:zQ Tryz.prog 54 x.1):∃t:Ct,cs=sV t∧t.t.length≤reachBytes:=by
 obtain⟨hl,hf⟩:=Z7 Tryz.underlying54 h hw
 rw[c54]at hl
 match cs,hl with
 |[v0,v1],_=>
  obtain⟨n0,y0,f0,w0⟩:=hf 0 3 0 rfl;obtain⟨n1,y1,f1,w1⟩:=hf 1 9 1 rfl;simp only[c3,c9]at f0 f1;obtain⟨a0,e0, -, -⟩:=DataW.trod_int Tryz.underlying3 f0;obtain⟨a1,e1,hs⟩:=Z8 Tryz.underlying9 f1 w1;simp at e0 e1;exact⟨⟨a0,dl a1⟩,by simp[sV,e0,e1,LG],by rw[←ahc];exact hs⟩
theorem ahT (h:DataW.trod enc Tryz.prog w base spare held fuel 22 cs=some x)(hw:zQ Tryz.prog 22 x.1):
 ∃a cap l,cs=[.slice a l.length cap]∧l.length≤cap∧cap≤maxLen∧l.length*Tryz.prog.bytesOf 54≤reachBytes∧(a=none→l=[]∧cap=0)∧oV 2 sV w a l∧∀t∈l,t.t.length≤reachBytes:=
 acZ 2 sV (fun t=>t.t.length≤reachBytes) Tryz.underlying22 c54 η (fun _ _ _ h hw=>alh h hw) h hw
end
end Go.Proofs.YtlboejdhmggjpaaGreat.Pp
namespace Go.Proofs.YtlboejdhmggjpaaGreat.Pp.Dr
set_option maxRecDepth 100000
set_option maxHeartbeats 16000000
open Go.RowKit Go.BigFrame Go.Proofs.YtlboejdhmggjpaaGreat
theorem alj:(Tryz.prog.info? 51).map (fun i=>(i.zero,i.size,i.bytes))=some (some (.agg #[.int .i64 0, .slice none 0 0, .slice none 0 0, .bool false, .slice none 0 0]),5,88):=by kernel_rfl
theorem IV:(Tryz.prog.info? 35).map (fun i=>(i.zero,i.size,i.bytes))=some (some (.agg #[.int .i64 0, .int .i64 0, .int .i64 0, .slice none 0 0, .slice none 0 0]),5,72):=by kernel_rfl
theorem ab4:(Tryz.prog.info? 44).map (fun i=>(i.zero,i.size,i.bytes))=some (some (.agg #[.string ⟨#[]⟩, .bool false]),2,24):=by kernel_rfl
theorem Un:(Tryz.prog.info? 33).map (fun i=>(i.zero,i.size,i.bytes))=some (some (.slice none 0 0),1,24):=by kernel_rfl
abbrev Sb(n:Nat):={g:List Value//g.length=n∧∀u∈g,u.oneCell'=true}
theorem Lh{n:Nat}:∀(gs:List (List Value)) (h:∀g∈gs,g.length=n∧∀u∈g,u.oneCell'=true),∃l:List (Sb n),l.map (·.1)=gs∧l.flatMap (·.1)=gs.flatten
 |[],_=>⟨[],rfl,rfl⟩
 |g::r,h=>by
  obtain⟨l,h1,h2⟩:=Lh r fun g hg=>h g (abM _ hg)
  exact⟨⟨g,h g (ab6 ..)⟩::l,by rw[acj,h1],by rw[acy,h2];rfl⟩
theorem uG{S:Nat→Prop}{size bytes:Nat}{e t:TypeId}{z:Value}(info:(Tryz.prog.info? e).map (fun i=>(i.zero,i.size,i.bytes))=some (some z,size,bytes))(ht:Tryz.prog.underlying t=some (.slice e))(hzs:z.cells.size=size)(hsz:0<size)(hby:bytes≤1000)
  {w:World} {ops:Array Oper} {rest:List Oper} {o:Oper} {a:Act} {Q:Exit→Act→World→Prop} (hgd:o.guard=none) (s x:Operand) (ho:o.op= .call {callee:= .builtin .append,args:=#[s,x],argTypes:=#[t,t]})
  {base:Nat} {v:Value} {gs:List (List Value)} (hs:a.eval s=v) (hown:w.ownsRow base e size v gs.length gs.flatten) {v2:Value} {gs2:List (List Value)} (hx:a.eval x=v2) (hr:Rw S size w v2 gs2) (h63:gs.length+gs2.length≤1000000000) (hbase:base≤w.heap.size)
  (h:∀v' w',w'.ownsRow base e size v' (gs++gs2).length (gs++gs2).flatten→w.grownBy w' v.ownBlock→wpList Tryz.prog ops Q rest (a.put o.dst v') w'):wpList Tryz.prog ops Q (o::rest) a w:=by
 obtain⟨i,hi,hz,hs2,hb2⟩:=rJ info
 obtain⟨a2,c2,rfl,h1,h2,h3,h4⟩:=hr
 obtain⟨l,hl1,hl2⟩:=Lh gs2 h3
 have hlen:gs2.length=l.length:=by rw[←hl1,abz]
 refine G9 (α:=Sb size) (·.1) hgd s x t ho base e i z size bytes ht hi hz hs2 hb2 hzs hsz (fun g=>g.2.1) (fun g=>g.2.2) v gs.length gs.flatten hs hown a2 l c2 (by rw[←hlen];exact hx) (fun e=>?_) ?_ (by rw[←hlen];unfold maxLen;omega) (by
  rw[←hlen]
  refine aaT (Nat.mul_le_mul h63 hby) ζ) hbase fun v' w' h5 h6=>h v' w' ?_ h6
 ·obtain⟨h5,h6⟩:=h1 e
  exact⟨acM (by rw[←hlen,h5];rfl),h6⟩
 ·rcases h2 with h2|⟨b,off,h5, -,h6,h7⟩
  ·exact .inl (acM (by rw[←hlen,h2];rfl))
  ·refine .inr ⟨b,off,h5,h6,fun i hi=>?_⟩
   have:=h7 i η
   have e:gs2[i]' η=l[i].1:=by
    have:(l.map (·.1))[i]'(by rw[abz];exact hi)=gs2[i]' η:=by simp only[hl1]
    rw[←this,agk]
   rw[e]at this;exact this
 ·rw[Δ,afZ,←hl2,hlen];exact h5
set_option maxHeartbeats 400000
variable {m : Nat}
theorem gQ {W:World}{cs:Array Value}{t:TypeId}(h:W.heap[m]? =some (.cells cs t (0,0)))(i:Nat):W.frozen? ⟨m,i,none⟩=false:=ab7 h i
theorem rR {w:World}(h:w.heap.size=m)(cs:Array Value)(t:TypeId):(w.alloc (.cells cs t)).heap[m]? =some (.cells cs t (0,0)):=by subst h;exact dz w cs t
theorem l7 {w:World}(h:w.heap.size=m)(o:Obj):(w.alloc o).heap.size=m+1:=by subst h;simp
theorem CX {w:World}{o:Obj}(h:w.heap[m]? =some o)(o2:Obj):(w.alloc o2).heap[m]? =some o:=aF (ag w o2) h (ψ.1 h).1
variable {xs : List Value}{e n : Nat}{v : Value}
theorem og {w:World}{base size : Nat}(h:w.ownsRow base e size v n xs):∀k,v.ownBlock=some k→base≤k:=fun k hk=>by
 rcases h.2 with⟨rfl, -⟩|⟨g,cap,cur,rfl,hb, -⟩
 ·cases hk
 ·cases hk;exact hb
variable {S : Nat→Prop}
theorem Rw.aj {w:World}{gs:List (List Value)}(h:Rw S n w v gs):∃a k c,v= .slice a k c:=let ⟨a,c,h,_⟩:=h;⟨a,_,c,h⟩
theorem Uo{S:Nat→Prop}{w:World}{x r:Sx}{t:Tr}{gx gr gt:List Value}(hS:∀b,S b→b<w.heap.size)(hx:fJ S w x gx)(hr:fJ S w r gr)(ht:kF S w t gt)(hk:x.ah.length≤100000):Calls Tryz.prog 94 #[.agg gx.toArray, .agg gr.toArray, .agg gt.toArray] w fun e w'=>∃g,e= .returned (.agg g.toArray)∧Below w.heap.size w w'∧fJ (nw S w.heap.size) w' (gU x r t) g:=by
 obtain⟨vE,vK,vC,rfl,h1,⟨gs,h2,h2'⟩,h3⟩:=hx
 obtain⟨rE,rK,rC,rfl,r1,r2,r3⟩:=hr
 obtain⟨af,env,ah,ty,cl⟩:=x
 obtain⟨rat,aer,aoz,MZ,rcl⟩:=r
 obtain⟨aC,nC,cC,rfl⟩:=Rw.aj h3
 obtain⟨aE,nE,cE,rfl⟩:=r1.choose_spec.1.aj
 have hgl:gs.length≤100000:=by rw[h2'.len];exact hk
 have ht1:=ht.ay
 obtain⟨m0,hm⟩:∃m,w.heap.size=m:=⟨_,rfl⟩
 obtain⟨k,lo,hi,ks,ds⟩:=t
 obtain⟨vk,vd,gk,rfl,t1⟩:=id ht
 obtain⟨W1,hW1⟩:∃W,W=(((w.alloc (.cells #[.int .i64 af,vE,vK, .bool ty, .slice aC nC cC] 51)).alloc (.cells #[.int .i64 rat, .slice aE nE cE,rK, .bool MZ,rC] 51)).alloc (.cells #[.int .i64 k, .int .i64 lo, .int .i64 hi,vk,vd] 35)).alloc (.cells #[.int .i64 0, .slice none 0 0, .slice none 0 0, .bool false, .slice none 0 0] 51):=⟨_,rfl⟩
 have hb1:Below w.heap.size w W1:=by
  have q1:=ag w (.cells #[.int .i64 af,vE,vK, .bool ty, .slice aC nC cC] 51);have q2:=q1.alloc q1.size (.cells #[.int .i64 rat, .slice aE nE cE,rK, .bool MZ,rC] 51);have q3:=q2.alloc q2.size (.cells #[.int .i64 k, .int .i64 lo, .int .i64 hi,vk,vd] 35);rw[hW1];exact q3.alloc q3.size _
 have hs1:W1.heap.size=m0+1+1+1+1:=by rw[hW1];exact l7 (l7 (l7 (l7 hm _) _) _) _
 have b0:W1.heap[m0]? =some (.cells #[.int .i64 af,vE,vK, .bool ty, .slice aC nC cC] 51 (0,0)):=by rw[hW1];exact CX (CX (CX (rR hm _ _) _) _) _
 have b1:W1.heap[m0+1]? =some (.cells #[.int .i64 rat, .slice aE nE cE,rK, .bool MZ,rC] 51 (0,0)):=by rw[hW1];exact CX (CX (rR (l7 hm _) _ _) _) _
 have b2:W1.heap[m0+1+1]? =some (.cells #[.int .i64 k, .int .i64 lo, .int .i64 hi,vk,vd] 35 (0,0)):=by rw[hW1];exact CX (rR (l7 (l7 hm _) _) _ _) _
 have b3:W1.heap[m0+1+1+1]? =some (.cells #[.int .i64 0, .slice none 0 0, .slice none 0 0, .bool false, .slice none 0 0] 51 (0,0)):=by rw[hW1];exact rR (l7 (l7 (l7 hm _) _) _) _ _
 have HW:=π hW1
 have zL:=π (h2.to (.below hb1))
 have Fu:=π hs1
 have AF:∀w',Below (m0+1+1+1+1) W1 w'→w'.heap[m0]? =some (.cells #[.int .i64 af,vE,vK, .bool ty, .slice aC nC cC] 51 (0,0))∧w'.heap[m0+1]? =some (.cells #[.int .i64 rat, .slice aE nE cE,rK, .bool MZ,rC] 51 (0,0))∧w'.heap[m0+1+1]? =some (.cells #[.int .i64 k, .int .i64 lo, .int .i64 hi,vk,vd] 35 (0,0))∧w'.heap[m0+1+1+1]? =some (.cells #[.int .i64 0, .slice none 0 0, .slice none 0 0, .bool false, .slice none 0 0] 51 (0,0)):=fun w' h=>⟨aF h b0 η,aF h b1 η,aF h b2 η,aF h b3 η⟩
 have HAF:=π AF
 have HT1:=π ht1
 obtain⟨r1',r1⟩:∃q:nZ S w (.slice aE nE cE) aer,True:=⟨r1,trivial⟩
 rw[hm]at hb1
 clear AF b0 b1 b2 b3
 clear hW1
 go_enter Tryz.func94,Tryz.ntmps94
 rw[hm]
 go_wp2_with (first
  |(at_builtin;rw[←HW.out];refine uG IV Tryz.underlying30 rfl ζ ζ rfl _ _ rfl (base:=m0+1+1+1+1) (gs:=[]) rfl (World.ownsRow_nil _ _ _ _) rfl zL.out (by simp;omega) (by rw[Fu.out];exact υ _) ?_
    intro v1 w1 hown1 hg1
    have rT:=(Below.refl (m0+1+1+1+1) W1).grown hg1 (by rw[Fu.out];exact υ _) fun k h=>(by cases h)
    rw[List.nil_append]at hown1;obtain⟨f0,f1,f2,f3⟩:=HAF.out w1 rT;obtain⟨d0,d1,d2,d3,d4⟩:=fQ f2;have Kn:=π hown1;have HB1:=π rT
    have hsz:m0+1+1+1+1≤w1.heap.size:=by have:=rT.size;rw[Fu.out]at this;exact this
    have Be:=π hsz
    clear hown1 hg1 rT f0 f1 f2 f3 hsz)
  |(at_builtin;refine uG IV Tryz.underlying30 rfl ζ ζ rfl _ _ rfl (base:=m0+1+1+1+1) (gs:=gs) rfl (Kn.out.alloc _) rfl (Rw.kJ (S:=fun _=>True) 35 rfl trivial HT1.out) (by simp;omega) (by have:=Be.out;simp;omega) ?_
    intro v2 w2 hown2 hg2;obtain⟨a2,c2,rfl⟩:=fF hown2;have hbC:=HB1.out.trans ((((Below.refl _ w1).alloc Be.out (.cells #[.int .i64 k, .int .i64 lo, .int .i64 hi,vk,vd] 35))).grown hg2 (by have:=Be.out;simp;omega) (og Kn.out));obtain⟨f0,f1,f2,f3⟩:=HAF.out w2 hbC;obtain⟨d0,d1,d2,d3,d4⟩:=fQ f0;obtain⟨e0,e1,e2,e3,e4⟩:=fQ f1;obtain⟨r0,r1,r2,r3,r4⟩:=fQ f3;have z00:=gQ f0 0;have z01:=gQ f0 1;have z02:=gQ f0 2;have z30:=gQ f3 0;have z31:=gQ f3 1;have z32:=gQ f3 2;have z33:=gQ f3 3;have z34:=gQ f3 4;have CY:=π hown2;have HB2:=π hbC
    clear hown2 hg2 hbC f0 f1 f2 f3)
  |fail)
 have PY:=(((((((((hb1.trans (HB2.out.mono η)).setCell (p:=⟨m0,2,none⟩) (υ m0) (.slice a2 (gs.length+1) c2)).setCell (p:=⟨m0,0,none⟩) (υ m0) (.int .i64 rat)).setCell (p:=⟨m0,1,none⟩) (υ m0) (.slice aE nE cE)).setCell (p:=⟨m0+1+1+1,0,none⟩) (by show m0≤m0+1+1+1;omega) (.int .i64 rat)).setCell (p:=⟨m0+1+1+1,1,none⟩) (by show m0≤m0+1+1+1;omega) (.slice aE nE cE)).setCell (p:=⟨m0+1+1+1,2,none⟩) (by show m0≤m0+1+1+1;omega) (.slice a2 (gs.length+1) c2)).setCell (p:=⟨m0+1+1+1,3,none⟩) (by show m0≤m0+1+1+1;omega) (.bool ty)).setCell (p:=⟨m0+1+1+1,4,none⟩) (by show m0≤m0+1+1+1;omega) (.slice aC nC cC))
 have Xy:=ownsRow_setCell_below (ownsRow_setCell_below (ownsRow_setCell_below (ownsRow_setCell_below (ownsRow_setCell_below (ownsRow_setCell_below (ownsRow_setCell_below (ownsRow_setCell_below CY.out (a:=⟨m0,2,none⟩) (by show m0<_;omega) (.slice a2 (gs.length+1) c2)) (a:=⟨m0,0,none⟩) (by show m0<_;omega) (.int .i64 rat)) (a:=⟨m0,1,none⟩) (by show m0<_;omega) (.slice aE nE cE)) (a:=⟨m0+1+1+1,0,none⟩) (by show m0+1+1+1<_;omega) (.int .i64 rat)) (a:=⟨m0+1+1+1,1,none⟩) (by show m0+1+1+1<_;omega) (.slice aE nE cE)) (a:=⟨m0+1+1+1,2,none⟩) (by show m0+1+1+1<_;omega) (.slice a2 (gs.length+1) c2)) (a:=⟨m0+1+1+1,3,none⟩) (by show m0+1+1+1<_;omega) (.bool ty)) (a:=⟨m0+1+1+1,4,none⟩) (by show m0+1+1+1<_;omega) (.slice aC nC cC)
 have hbw:=PY.mono (acf hm)
 refine abw (v:= .agg [.int .i64 rat, .slice aE nE cE, .slice a2 (gs.length+1) c2, .bool ty, .slice aC nC cC].toArray) ?_ rfl ⟨_,rfl,PY,_,_,_,rfl,r1'.to (ig hbw),⟨gs++[_],?_,jZ.fK (jZ.to (ig hbw) h2') ⟨_,[],rfl,ht.to (ig hbw),rfl⟩⟩,Rw.to h3 (ig hbw)⟩
 ·simp[results,Tryz.results94,go_sem,r0,r1,r2,r3,r4]
 ·have:=Rw.xG (S:=nw S m0) Xy rfl (fun b hb=> .inr (by have:=og Xy b hb;omega)) (fun g hg=>by
   rcases abr.1 hg with hg|hg
   ·exact h2.choose_spec.choose_spec.2.2.2.1 g hg
   ·rw[Φ.1 hg];exact ht1)
  simpa using this
set_option maxHeartbeats 800000
theorem nZ.aj {w:World}{e:List (List Sd)}(h:nZ S w v e):∃a k c,v= .slice a k c:=h.choose_spec.1.aj
theorem l5.aj {w:World}{e:List Tr}(h:l5 S w v e):∃a k c,v= .slice a k c:=h.choose_spec.1.aj
theorem vg.aj {w:World}{e:List Sd}(h:vg S w v e):∃a k c,v= .slice a k c:=Rw.aj h
variable {g : List Value}{x : Sx}
theorem fJ.aj {w:World}(h:fJ S w x g):∃aE nE cE aK nK cK aC nC cC,g=[.int .i64 x.af, .slice aE nE cE, .slice aK nK cK, .bool x.ty, .slice aC nC cC]∧nZ S w (.slice aE nE cE) x.env∧l5 S w (.slice aK nK cK) x.ah∧vg S w (.slice aC nC cC) x.cl:=by
 obtain⟨vE,vK,vC,rfl,h1,h2,h3⟩:=h
 obtain⟨aE,nE,cE,rfl⟩:=h1.aj
 obtain⟨aK,nK,cK,rfl⟩:=h2.aj
 obtain⟨aC,nC,cC,rfl⟩:=h3.aj
 exact⟨_,_,_,_,_,_,_,_,_,rfl,h1,h2,h3⟩
theorem To.set{S:Nat→Prop}{w:World}{m:Nat}(a:Addr)(ha:a.block=m)(hS:∀b,S b→b≠m)(u:Value):To S w S (w.setCell a u):=⟨by simp[World.setCell],fun b hb hl=>⟨Below.heap_setCell _ _ _ _ (by rw[ha];exact hS b hb),hb⟩⟩
def IW(w:World)(m:Nat)(a b c d e:Value):World:=((((w.setCell ⟨m,0,none⟩ a).setCell ⟨m,1,none⟩ b).setCell ⟨m,2,none⟩ c).setCell ⟨m,3,none⟩ d).setCell ⟨m,4,none⟩ e
variable {T : Nat→Prop}
theorem To.IW {w:World}(a b c d e:Value)(h:∀b,S b→b<w.heap.size→T b∧b≠m):To S w T (IW w m a b c d e):=
 ((((((To.mono h).trans (.set ⟨m,0,none⟩ rfl (fun _ h=>h.2) a)).trans (.set ⟨m,1,none⟩ rfl (fun _ h=>h.2) b)).trans (.set ⟨m,2,none⟩ rfl (fun _ h=>h.2) c)).trans (.set ⟨m,3,none⟩ rfl (fun _ h=>h.2) d)).trans (.set ⟨m,4,none⟩ rfl (fun _ h=>h.2) e)).trans (.mono fun _ h _=>h.1)
theorem um{n:Nat}{w0 w:World}{m:Nat}(h:Below n w0 w)(hm:n≤m)(a b c d e:Value):Below n w0 (IW w m a b c d e):=((((h.setCell (p:=⟨m,0,none⟩) hm a).setCell (p:=⟨m,1,none⟩) hm b).setCell (p:=⟨m,2,none⟩) hm c).setCell (p:=⟨m,3,none⟩) hm d).setCell (p:=⟨m,4,none⟩) hm e
variable {gx : List Value}{r : Sx}
theorem aes {w:World}{gr : List Value}(hS:∀b,S b→b<w.heap.size)(hx:fJ S w x gx)(hr:fJ S w r gr)(k:Nat)(hk0:0<k)(hk:x.ah.length≤100000):Calls Tryz.prog 65 #[.agg gx.toArray, .agg gr.toArray, .int .i64 k] w fun e w'=>∃g,e= .returned (.agg g.toArray)∧Below w.heap.size w w'∧fJ (nw S w.heap.size) w' (bn x r k) g:=by
 have hx0:=hx
 obtain⟨aE,nE,cE,aK,nK,cK,aC,nC,cC,rfl,h1,h2,h3⟩:=hx.aj
 obtain⟨bE,oE,dE,bK,oK,dK,bC,oC,dC,rfl,r1,r2,r3⟩:=hr.aj
 have hw:bn x r k=gU x r (.mk k x.af r.af r.ah (if k=16 then r.cl else[])):=by unfold bn;rw[ω hk0]
 rw[hw]
 obtain⟨xa,xe,xk,xt,xc⟩:=x
 obtain⟨ra,re,rk,rt,rc⟩:=r
 dsimp only at hx hr h1 h2 h3 r1 r2 r3 hx0 hk⊢
 have e1:(0:Int)<k:=by omega
 have HX:=π hx0
 have HR:=π hr
 have HR2:=π r2
 have HR3:=π r3
 by_cases c:k=16
 ·subst c
  go_enter Tryz.func65,Tryz.ntmps65
  go_wp2_with fail
  obtain⟨W4,jB⟩:∃W,W=(((w.alloc (.cells #[.int .i64 xa, .slice aE nE cE, .slice aK nK cK, .bool xt, .slice aC nC cC] 51)).alloc (.cells #[.int .i64 ra, .slice bE oE dE, .slice bK oK dK, .bool rt, .slice bC oC dC] 51)).alloc (.cells #[.int .i64 0, .slice none 0 0, .slice none 0 0, .bool false, .slice none 0 0] 51)).alloc (.cells #[.int .i64 16, .int .i64 xa, .int .i64 ra, .slice bK oK dK, .slice bC oC dC] 35):=⟨_,rfl⟩
  have hq:Below w.heap.size w W4:=by
   have q1:=ag w (.cells #[.int .i64 xa, .slice aE nE cE, .slice aK nK cK, .bool xt, .slice aC nC cC] 51);have q2:=q1.alloc q1.size (.cells #[.int .i64 ra, .slice bE oE dE, .slice bK oK dK, .bool rt, .slice bC oC dC] 51);have q3:=q2.alloc q2.size (.cells #[.int .i64 0, .slice none 0 0, .slice none 0 0, .bool false, .slice none 0 0] 51);rw[jB];exact q3.alloc q3.size _
  have b3:W4.heap[w.heap.size+1+1]? =some (.cells #[.int .i64 0, .slice none 0 0, .slice none 0 0, .bool false, .slice none 0 0] 51 (0,0)):=by rw[jB];exact CX (rR (l7 (l7 rfl _) _) _ _) _
  have DZ:W4.heap.size=w.heap.size+1+1+1+1:=by rw[jB];exact l7 (l7 (l7 (l7 rfl _) _) _) _
  rw[←jB];clear jB;have HZ4:=π DZ;obtain⟨gk,k1,k2⟩:=HR2.out;refine(Uo (S:=S) (w:=W4) (x:=⟨xa,xe,xk,xt,xc⟩) (r:=⟨ra,re,rk,rt,rc⟩) (t:= .mk 16 xa ra rk rc) (fun b hb=>abB (hS b hb) hq.size) (HX.out.to (.below hq)) (HR.out.to (.below hq)) ⟨_,_,gk,rfl,k1.to (.below hq),jZ.to (.below hq) k2,Rw.to HR3.out (.below hq)⟩ hk).mono ?_;rintro e w1 ⟨g,rfl,hb,hs⟩;have b4:=aF hb b3 (ψ.1 b3).1;have HBB:=π (hq.trans (hb.mono hq.size));have HS:=π hs;obtain⟨sE,tE,uE,sK,tK,uK,sC,tC,uC,rfl, -⟩:=hs.aj;obtain⟨c0,c1,c2,c3,c4⟩:=fQ b4;have z0:=gQ b4 0;have z1:=gQ b4 1;have z2:=gQ b4 2;have z3:=gQ b4 3;have z4:=gQ b4 4;obtain⟨m2,hm2⟩:∃m,w.heap.size+1+1=m:=⟨_,rfl⟩;rw[hm2]at c0 c1 c2 c3 c4 z0 z1 z2 z3 z4;have HM:=π hm2;clear DZ hb b3 b4 hq hs k1 k2 h1 h2 h3 r1 r2 r3 hx hr hx0;rw[hm2]
  go_wp2_with fail
  refine abw (v:= .agg [_,_,_,_,_].toArray) (by simp[results,Tryz.results65,go_sem,c0,c1,c2,c3,c4]) rfl ⟨_,rfl,um HBB.out (by rw[←HM.out];omega) _ _ _ _ _,HS.out.to (To.IW _ _ _ _ _ fun b hb hl=>?_)⟩
  rcases hb with hb|hb
  ·have:=hS b hb
   exact⟨.inl hb,by rw[←HM.out];omega⟩
  ·rw[HZ4.out]at hb
   exact⟨.inr η,by rw[←HM.out];omega⟩
 ·have e2:((k:Int)==16)=false:=by rw[aat];omega
  go_enter Tryz.func65,Tryz.ntmps65
  go_wp2_with fail
  obtain⟨W4,jB⟩:∃W,W=(((w.alloc (.cells #[.int .i64 xa, .slice aE nE cE, .slice aK nK cK, .bool xt, .slice aC nC cC] 51)).alloc (.cells #[.int .i64 ra, .slice bE oE dE, .slice bK oK dK, .bool rt, .slice bC oC dC] 51)).alloc (.cells #[.int .i64 0, .slice none 0 0, .slice none 0 0, .bool false, .slice none 0 0] 51)).alloc (.cells #[.int .i64 k, .int .i64 xa, .int .i64 ra, .slice bK oK dK, .slice none 0 0] 35):=⟨_,rfl⟩
  have hq:Below w.heap.size w W4:=by
   have q1:=ag w (.cells #[.int .i64 xa, .slice aE nE cE, .slice aK nK cK, .bool xt, .slice aC nC cC] 51);have q2:=q1.alloc q1.size (.cells #[.int .i64 ra, .slice bE oE dE, .slice bK oK dK, .bool rt, .slice bC oC dC] 51);have q3:=q2.alloc q2.size (.cells #[.int .i64 0, .slice none 0 0, .slice none 0 0, .bool false, .slice none 0 0] 51);rw[jB];exact q3.alloc q3.size _
  have b3:W4.heap[w.heap.size+1+1]? =some (.cells #[.int .i64 0, .slice none 0 0, .slice none 0 0, .bool false, .slice none 0 0] 51 (0,0)):=by rw[jB];exact CX (rR (l7 (l7 rfl _) _) _ _) _
  have DZ:W4.heap.size=w.heap.size+1+1+1+1:=by rw[jB];exact l7 (l7 (l7 (l7 rfl _) _) _) _
  rw[←jB];clear jB;have HZ4:=π DZ;obtain⟨gk,k1,k2⟩:=HR2.out;refine(Uo (S:=S) (w:=W4) (x:=⟨xa,xe,xk,xt,xc⟩) (r:=⟨ra,re,rk,rt,rc⟩) (t:= .mk k xa ra rk []) (fun b hb=>abB (hS b hb) hq.size) (HX.out.to (.below hq)) (HR.out.to (.below hq)) ⟨_,_,gk,rfl,k1.to (.below hq),jZ.to (.below hq) k2,Rw.nil⟩ hk).mono ?_;rintro e w1 ⟨g,rfl,hb,hs⟩;have b4:=aF hb b3 (ψ.1 b3).1;have HBB:=π (hq.trans (hb.mono hq.size));have HS:=π hs;obtain⟨sE,tE,uE,sK,tK,uK,sC,tC,uC,rfl, -⟩:=hs.aj;obtain⟨c0,c1,c2,c3,c4⟩:=fQ b4;have z0:=gQ b4 0;have z1:=gQ b4 1;have z2:=gQ b4 2;have z3:=gQ b4 3;have z4:=gQ b4 4;obtain⟨m2,hm2⟩:∃m,w.heap.size+1+1=m:=⟨_,rfl⟩;rw[hm2]at c0 c1 c2 c3 c4 z0 z1 z2 z3 z4;have HM:=π hm2;clear DZ hb b3 b4 hq hs k1 k2 h1 h2 h3 r1 r2 r3 hx hr hx0;rw[hm2]
  go_wp2_with fail
  refine abw (v:= .agg [_,_,_,_,_].toArray) (by simp[results,Tryz.results65,go_sem,c0,c1,c2,c3,c4]) rfl ⟨_,rfl,um HBB.out (by rw[←HM.out];omega) _ _ _ _ _,HS.out.to (To.IW _ _ _ _ _ fun b hb hl=>?_)⟩
  rcases hb with hb|hb
  ·have:=hS b hb
   exact⟨.inl hb,by rw[←HM.out];omega⟩
  ·rw[HZ4.out]at hb
   exact⟨.inr η,by rw[←HM.out];omega⟩
theorem aet{w:World}{base e size n m:Nat}{v:Value}{xs:List Value}(h:w.ownsRow base e size v n xs)(hm:m<base)(a b c d f:Value):(IW w m a b c d f).ownsRow base e size v n xs:=
 ownsRow_setCell_below (ownsRow_setCell_below (ownsRow_setCell_below (ownsRow_setCell_below (ownsRow_setCell_below h (a:=⟨m,0,none⟩) hm a) (a:=⟨m,1,none⟩) hm b) (a:=⟨m,2,none⟩) hm c) (a:=⟨m,3,none⟩) hm d) (a:=⟨m,4,none⟩) hm f
def alm(w:World)(m:Nat)(a b c:Value):World:=((w.setCell ⟨m,2,none⟩ a).setCell ⟨m,0,none⟩ b).setCell ⟨m,1,none⟩ c
theorem aeu{w:World}{base e size n m:Nat}{v:Value}{xs:List Value}(h:w.ownsRow base e size v n xs)(hm:m<base)(a b c:Value):(alm w m a b c).ownsRow base e size v n xs:=
 ownsRow_setCell_below (ownsRow_setCell_below (ownsRow_setCell_below h (a:=⟨m,2,none⟩) hm a) (a:=⟨m,0,none⟩) hm b) (a:=⟨m,1,none⟩) hm c
theorem ZI{n:Nat}{w0 w:World}{m:Nat}(h:Below n w0 w)(hm:n≤m)(a b c:Value):Below n w0 (alm w m a b c):=((h.setCell (p:=⟨m,2,none⟩) hm a).setCell (p:=⟨m,0,none⟩) hm b).setCell (p:=⟨m,1,none⟩) hm c
theorem aev {w:World}{gr : List Value}(hS:∀b,S b→b<w.heap.size)(hx:fJ S w x gx)(hr:fJ S w r gr)(hk:x.ah.length≤100000)(hk2:r.ah.length≤100000):Calls Tryz.prog 65 #[.agg gx.toArray, .agg gr.toArray, .int .i64 0] w fun e w'=>∃g,e= .returned (.agg g.toArray)∧Below w.heap.size w w'∧fJ (nw S w.heap.size) w' (bn x r 0) g:=by
 obtain⟨vE,vK,vC,rfl,h1,⟨gs,h2,h2'⟩,h3⟩:=hx
 obtain⟨rE,rK,rC,rfl,r1,⟨gr,r2,r2'⟩,r3⟩:=hr
 obtain⟨af,env,ah,ty,cl⟩:=x
 obtain⟨rat,aer,aoz,MZ,rcl⟩:=r
 obtain⟨aC,nC,cC,rfl⟩:=Rw.aj h3
 obtain⟨aE,nE,cE,rfl⟩:=r1.aj
 have hgl:gs.length≤100000:=by rw[h2'.len];exact hk
 have axL:gr.length≤100000:=by rw[r2'.len];exact hk2
 obtain⟨m0,hm⟩:∃m,w.heap.size=m:=⟨_,rfl⟩
 obtain⟨W1,hW1⟩:∃W,W=((w.alloc (.cells #[.int .i64 af,vE,vK, .bool ty, .slice aC nC cC] 51)).alloc (.cells #[.int .i64 rat, .slice aE nE cE,rK, .bool MZ,rC] 51)).alloc (.cells #[.int .i64 0, .slice none 0 0, .slice none 0 0, .bool false, .slice none 0 0] 51):=⟨_,rfl⟩
 have hb1:Below w.heap.size w W1:=by
  have q1:=ag w (.cells #[.int .i64 af,vE,vK, .bool ty, .slice aC nC cC] 51);have q2:=q1.alloc q1.size (.cells #[.int .i64 rat, .slice aE nE cE,rK, .bool MZ,rC] 51);rw[hW1];exact q2.alloc q2.size _
 have hs1:W1.heap.size=m0+1+1+1:=by rw[hW1];exact l7 (l7 (l7 hm _) _) _
 have b0:W1.heap[m0]? =some (.cells #[.int .i64 af,vE,vK, .bool ty, .slice aC nC cC] 51 (0,0)):=by rw[hW1];exact CX (CX (rR hm _ _) _) _
 have b1:W1.heap[m0+1]? =some (.cells #[.int .i64 rat, .slice aE nE cE,rK, .bool MZ,rC] 51 (0,0)):=by rw[hW1];exact CX (rR (l7 hm _) _ _) _
 have b3:W1.heap[m0+1+1]? =some (.cells #[.int .i64 0, .slice none 0 0, .slice none 0 0, .bool false, .slice none 0 0] 51 (0,0)):=by rw[hW1];exact rR (l7 (l7 hm _) _) _ _
 have HW:=π hW1
 have zL:=π (h2.to (.below hb1))
 have HKS:=π (r2.to (.below hb1))
 have Fu:=π hs1
 have AF:∀w',Below (m0+1+1+1) W1 w'→w'.heap[m0]? =some (.cells #[.int .i64 af,vE,vK, .bool ty, .slice aC nC cC] 51 (0,0))∧w'.heap[m0+1]? =some (.cells #[.int .i64 rat, .slice aE nE cE,rK, .bool MZ,rC] 51 (0,0))∧w'.heap[m0+1+1]? =some (.cells #[.int .i64 0, .slice none 0 0, .slice none 0 0, .bool false, .slice none 0 0] 51 (0,0)):=fun w' h=>⟨aF h b0 η,aF h b1 η,aF h b3 η⟩
 have HAF:=π AF
 have hgk:=r2.choose_spec.choose_spec.2.2.2.1
 obtain⟨r1',r1⟩:∃q:nZ S w (.slice aE nE cE) aer,True:=⟨r1,trivial⟩
 rw[hm]at hb1
 clear AF b0 b1 b3
 clear hW1
 go_enter Tryz.func65,Tryz.ntmps65
 rw[hm]
 go_wp2_with (first
  |(at_builtin;rw[←HW.out];refine uG IV Tryz.underlying30 rfl ζ ζ rfl _ _ rfl (base:=m0+1+1+1) (gs:=[]) rfl (World.ownsRow_nil _ _ _ _) rfl zL.out (by simp;omega) (by rw[Fu.out];exact υ _) ?_
    intro v1 w1 hown1 hg1
    have rT:=(Below.refl (m0+1+1+1) W1).grown hg1 (by rw[Fu.out];exact υ _) fun k h=>(by cases h)
    rw[List.nil_append]at hown1;obtain⟨f0,f1,f3⟩:=HAF.out w1 rT;obtain⟨d0,d1,d2,d3,d4⟩:=fQ f1;have Kn:=π hown1;have HB1:=π rT
    have hsz:m0+1+1+1≤w1.heap.size:=by have:=rT.size;rw[Fu.out]at this;exact this
    have Be:=π hsz
    clear hown1 hg1 rT f0 f1 f3 hsz)
  |(at_builtin;refine uG IV Tryz.underlying30 rfl ζ ζ rfl _ _ rfl (base:=m0+1+1+1) (gs:=gs) rfl Kn.out rfl (Rw.to (T:=S) (w':=w1) HKS.out ⟨by have:=HB1.out.size;exact this,fun b hb hl=>⟨HB1.out.block b (by have:=hS b hb;omega),hb⟩⟩) η Be.out ?_
    intro v2 w2 hown2 hg2;obtain⟨a2,c2,rfl⟩:=fF hown2;have hbC:=HB1.out.trans ((Below.refl _ w1).grown hg2 Be.out (og Kn.out));obtain⟨f0,f1,f3⟩:=HAF.out w2 hbC;obtain⟨d0,d1,d2,d3,d4⟩:=fQ f0;obtain⟨e0,e1,e2,e3,e4⟩:=fQ f1;obtain⟨r0,r1,r2,r3,r4⟩:=fQ f3;have z00:=gQ f0 0;have z01:=gQ f0 1;have z02:=gQ f0 2;have z30:=gQ f3 0;have z31:=gQ f3 1;have z32:=gQ f3 2;have z33:=gQ f3 3;have z34:=gQ f3 4;have CY:=π hown2;have HB2:=π hbC
    clear hown2 hg2 hbC f0 f1 f3)
  |fail)
 have PY:=um (m:=m0+1+1) (ZI (m:=m0) (hb1.trans (HB2.out.mono η)) (υ m0) (.slice a2 (gs.length+gr.length) c2) (.int .i64 rat) (.slice aE nE cE)) η (.int .i64 rat) (.slice aE nE cE) (.slice a2 (gs.length+gr.length) c2) (.bool ty) (.slice aC nC cC)
 have hbw:=PY.mono (acf hm)
 have Xy:=aet (m:=m0+1+1) (aeu (m:=m0) CY.out η (.slice a2 (gs.length+gr.length) c2) (.int .i64 rat) (.slice aE nE cE)) η (.int .i64 rat) (.slice aE nE cE) (.slice a2 (gs.length+gr.length) c2) (.bool ty) (.slice aC nC cC)
 rw[Δ]at Xy
 refine abw (v:= .agg [.int .i64 rat, .slice aE nE cE, .slice a2 (gs.length+gr.length) c2, .bool ty, .slice aC nC cC].toArray) (by simp[results,Tryz.results65,go_sem,r0,r1,r2,r3,r4]) rfl ⟨_,rfl,PY,_,_,_,rfl,r1'.to (ig hbw),⟨gs++gr,?_,jZ.fK (jZ.to (ig hbw) h2') (jZ.to (ig hbw) r2')⟩,Rw.to h3 (ig hbw)⟩
 have:=Rw.xG (S:=nw S m0) Xy Δ (fun b hb=> .inr (by have:=og Xy b hb;omega)) (fun g hg=>by
  rcases abr.1 hg with hg|hg
  ·exact h2.choose_spec.choose_spec.2.2.2.1 g hg
  ·exact hgk g hg)
 exact this
theorem ab8{w:World}(k:Nat)(hk:k≤100):Calls Tryz.prog 99 #[.int .i64 k] w fun e w'=>e= .returned (.int .i64 (gZ k))∧Below w.heap.size w w':=by
 by_cases h:k=0
 ·subst h
  go_enter Tryz.func99,Tryz.ntmps99
  go_wp2_with fail
  all_goals(go_ret;exact⟨rfl,Below.refl _ _⟩)
 ·have e1:((k:Int)==0)=false:=by rw[aat];omega
  have e2:gZ k=35+k:=by unfold gZ;rw[χ h]
  rw[e2]
  go_enter Tryz.func99,Tryz.ntmps99
  go_wp2_with fail
  all_goals(go_ret;exact⟨by go_num,Below.refl _ _⟩)
theorem nI.fK {w:World}:∀{xs ys:List (List Sd)} {gs hs:List (List Value)},nI S w xs gs→nI S w ys hs→nI S w (xs++ys) (gs++hs)
 |[],_,_,_,h,k=>by rw[show _=[]from h];exact k
 |x::r,_,_,_,⟨v,gr,h1,h2,h3⟩,k=>by rw[h1];exact⟨v,gr++_,rfl,h2,nI.fK h3 k⟩
theorem nI.len {w:World}:∀{xs:List (List Sd)} {gs:List (List Value)},nI S w xs gs→gs.length=xs.length
 |[],_,h=>by rw[show _=[]from h];rfl
 |x::r,_,⟨g,gr,h1,h2,h3⟩=>by rw[h1,aaJ,aaJ,nI.len h3]
theorem Rw.gs {w:World}{gs:List (List Value)}(h:Rw S n w v gs):∀g∈gs,g.length=n∧∀u∈g,u.oneCell'=true:=h.choose_spec.choose_spec.2.2.2.1
variable {env : List (List Sd)}
theorem Xz {w:World}(hS:∀b,S b→b<w.heap.size)(hv:nZ S w v env)(hl:env.length≤100000):Calls Tryz.prog 165 #[v] w fun e w'=>∃v',e= .returned v'∧Below w.heap.size w w'∧nZ (nw S w.heap.size) w' v' (qY env):=by
 obtain⟨gs,h1,h2⟩:=hv
 have hgl:gs.length≤100000:=by rw[h2.len];exact hl
 have H1:=π h1
 obtain⟨m0,hm⟩:∃m,w.heap.size=m:=⟨_,rfl⟩
 have HM:=π hm
 obtain⟨a,k,c,rfl⟩:=h1.aj
 go_enter Tryz.func165,Tryz.ntmps165
 go_wp2_with (first
  |(at_builtin;refine uG Un Tryz.underlying41 rfl ζ ζ rfl (.tmp 4) (.tmp 5) rfl (base:=m0) (gs:=[]) rfl (World.ownsRow_nil _ _ _ _) rfl H1.out (by simp;omega) (by rw[HM.out];exact υ _) ?_
    intro v1 w1 hown1 hg1
    have rT:=(Below.refl m0 w).grown hg1 (by rw[HM.out];exact υ _) fun k h=>(by cases h)
    rw[List.nil_append]at hown1;have Kn:=π hown1;have HB1:=π rT;have Be:=π (show m0≤w1.heap.size by have:=rT.size;omega)
    clear hown1 hg1 rT)
  |(at_builtin;refine uG Un Tryz.underlying41 rfl ζ ζ rfl (.tmp 7) (.tmp 8) rfl (base:=m0) (gs:=gs) rfl (Kn.out.alloc _) rfl (Rw.kJ (S:=fun _=>True) 33 rfl trivial (g:=[.slice none 0 0]) ⟨rfl,fun u hu=>by rw[Φ.1 hu];rfl⟩) (by simp;omega) (by have:=Be.out;simp;omega) ?_
    intro v2 w2 hown2 hg2;have hbC:=HB1.out.trans ((((Below.refl _ w1).alloc Be.out (.cells #[.slice none 0 0] 33))).grown hg2 (by have:=Be.out;simp;omega) (og Kn.out));have CY:=π hown2;have HB2:=π hbC
    clear hown2 hg2 hbC)
  |fail)
 all_goals go_ret
 have hb:=HB2.out
 rw[←hm]at hb
 refine⟨_,rfl,hb,gs++[[.slice none 0 0]],Rw.xG (CY.out) rfl (fun b hb=> .inr (by have:=og CY.out b hb;omega)) (fun g hg=>?_),nI.fK (nI.to (ig hb) h2) ⟨_,[],rfl,(show vg _ _ (.slice none 0 0) []from Rw.nil),rfl⟩⟩
 rcases abr.1 hg with hg|hg
 ·exact h1.gs g hg
 ·rw[Φ.1 hg];exact⟨rfl,fun u hu=>by rw[Φ.1 hu];rfl⟩
theorem aln(A:List (List Sd))(x:Bs):iN (A++[[]]) x=iN A x:=by unfold iN;simp
theorem aif(A:List (List Sd))(d:List Sd)(p:Sd)(x:Bs):iN (A++[d++[p]]) x=if p.1=x then p.2 else iN (A++[d]) x:=by
 unfold iN
 simp only[afZ,afI,List.flatten_nil,List.append_nil,←Ψ,agm,List.reverse_cons,List.reverse_nil,List.nil_append,List.cons_append,List.find?_cons]
 by_cases h:p.1=x
 ·rw[ω h,aaZ.2 h]
 ·rw[χ h,aat.2 h]
theorem nI.get{S:Nat→Prop}{w:World}:∀{env:List (List Sd)} {gs:List (List Value)},nI S w env gs→∀i (h:i<env.length),∃v,gs[i]? =some [v]∧vg S w v env[i]
 |[],_,_,i,h=>by simp at h
 |d::r,_,⟨v,gr,h1,h2,h3⟩,i,h=>by
  subst h1
  cases i with
  |zero=>exact⟨v,rfl,h2⟩
  |succ i=>exact nI.get h3 i (by simpa using h)
theorem Rw.get{S:Nat→Prop}{n:Nat}{w:World}{a:Option Addr}{k c:Nat}{gs:List (List Value)}(h:Rw S n w (.slice a k c) gs){i:Nat}{g:List Value}(hi:gs[i]? =some g):k=gs.length∧∃b off,a=some ⟨b,off,none⟩∧S b∧b<w.heap.size∧dX w b (off+i*n) g:=by
 obtain⟨a',c',e,h2,h3,h4⟩:=h
 cases e
 have hlt:=(aca.1 hi).1
 rcases h3 with h3|⟨b,off,e,k1,k2,k3⟩
 ·rw[h3]at hlt;simp at hlt
 ·refine⟨rfl,b,off,e,k1,k2,?_⟩
  have:=k3 i hlt;rw[(aca.1 hi).2]at this;exact this
theorem PZ {w:World}(hv:nZ S w v env)(hl:env.length≤100000)(hd:∀d∈env,d.length≤100000)(x:Bs):Calls Tryz.prog 22 #[v, .string (au x)] w fun e w'=>e= .returned (.bool (iN env x))∧Below w.heap.size w w':=by
 obtain⟨gs,h1,h2⟩:=hv
 obtain⟨a,k,c,rfl⟩:=h1.aj
 have hk:k=env.length:=by obtain⟨a',c',e, -⟩:=h1;cases e;exact h2.len
 obtain⟨z,hz⟩:∃z,iN env x=z:=⟨_,rfl⟩
 rw[hz]
 have HZ:=π hz
 have HK:=π hk
 have H1:=π h1
 have H2:=π h2
 have HD:=π hd
 have hk2:k≤100000:=by omega
 clear hz hk h1 h2 hd hl
 go_enter Tryz.func22,Tryz.ntmps22
 go_wp2_with fail
 go_loopw [5,6] (fun s5 s6 wr=>∃i:Nat,s5= .int .i64 ((i:Int) - 1)∧i≤k∧iN (env.take i) x=z∧Below w.heap.size w wr) (fun s5 _ _=>(intOf s5+1).toNat)
 case atStart=>exact⟨k,by go_num,υ _,by rw[HK.out,acR];exact HZ.out,Below.refl _ _⟩
 case round=>
  obtain⟨i,rfl,hik,hty,hb⟩:=hrel;have HB:=π hb
  cases i with
  |zero=>
   have hz:z=false:=by rw[←hty];rfl
   subst hz;clear hb hty
   go_wp2_with fail
   go_ret;exact⟨rfl,HB.out⟩
  |succ i=>
   have hiE:i<env.length:=by rw[←HK.out];omega
   obtain⟨vi,g1,g2⟩:=nI.get H2.out i hiE;obtain⟨-,b,off,rfl,hSb,hlt,hc⟩:=H1.out.get g1;obtain⟨ai,ki,ci,rfl⟩:=g2.aj;have d0:wr.cell? ⟨b,off+i*1,none⟩=some (.slice ai ki ci):=(dX.below hc hb hlt) 0 _ rfl;rw[afF]at d0
   have hki:ki=(env[i]).length:=by obtain⟨a',c',e, -⟩:=g2;cases e;rw[abz]
   have axM:ki≤100000:=by rw[hki];exact HD.out _ (ab2 hiE)
   obtain⟨D,hD⟩:∃D,env[i]=D:=⟨_,rfl⟩;rw[abL hiE,hD]at hty;rw[hD]at g2 hki;have HTY:=π hty;have G2:=π g2;have HKI:=π hki;have HC:=π hc;obtain⟨s5,hs5⟩:∃q:Int,q=i:=⟨_,rfl⟩;clear hb hty g2 hki hD hiE g1
   go_wp2_with fail
   go_loopw [6] (fun s6 wr=>∃j:Nat,s6= .int .i64 ((j:Int) - 1)∧j≤ki∧iN (env.take i++[D.take j]) x=z∧Below w.heap.size w wr) (fun s6 _=>(intOf s6+1).toNat)
   case atStart=>exact⟨ki,by go_num,υ _,by rw[HKI.out,acR];exact HTY.out,HB.out⟩
   case round=>
    obtain⟨j,rfl,hjk,hty,hb⟩:=hrel;have HB2:=π hb
    cases j with
    |zero=>
     rw[List.take_zero,aln]at hty;have HT2:=π hty;clear hty hb d0
     go_wp2_with fail
     go_roundw
     case rel=>exact⟨i,by go_num,by omega,HT2.out,HB2.out⟩
     case measure=>simp[intOf]
    |succ j=>
     have hjD:j<D.length:=by rw[←HKI.out];omega
     have g3:(D.map MX)[j]? =some (MX D[j]):=by rw[afG,abE hjD];rfl
     obtain⟨-,b2,sZ,rfl,axN,hlt2,hc2⟩:=Rw.get G2.out g3;rw[abL hjD,aif]at hty;obtain⟨T,hT⟩:∃T,D[j]=T:=⟨_,rfl⟩;rw[hT]at hty hc2;obtain⟨t,q⟩:=T;have d0:=(dX.below HC.out hb hlt) 0 _ rfl;have d1:wr.cell? ⟨b2,sZ+j*2,none⟩=some (.string (au t)):=(dX.below hc2 hb hlt2) 0 _ rfl;have d2:wr.cell? ⟨b2,sZ+j*2+1,none⟩=some (.bool q):=(dX.below hc2 hb hlt2) 1 _ rfl;rw[afF,Nat.add_zero]at d0;by_cases ht:t=x
     ·rw[ω ht]at hty
      subst ht;subst hty;clear hb hc2 hT g3 hjD
      go_wp2_with fail
      go_ret;exact⟨rfl,HB2.out⟩
     ·rw[χ ht]at hty
      have HT2:=π hty
      have e1:((au t).toList==(au x).toList)=false:=by rw[JP,aat];exact ht
      clear hb hc2 hT g3 hjD hty ht
      go_wp2_with fail
      go_roundw
      case rel=>exact⟨j,by go_num,by omega,HT2.out,HB2.out⟩
      case measure=>simp[intOf]
end Go.Proofs.YtlboejdhmggjpaaGreat.Pp.Dr
namespace Go.Proofs.YtlboejdhmggjpaaGreat
open Go Go.RowKit
section
variable {P:Program}
abbrev Dn:=Nat→Option Value
def Dn.tZ(D:Dn)(i:Nat)(v:Value):Dn:=fun j=>if j=i then some v else D j
def Dn.no:Dn:=fun _=>none
def Dn.all(ms:List Nat)(U:Nat→Value):Dn:=fun i=>if ms.contains i=true then some (U i)else none
def vF(P:Program)(C:World→Prop)(ms:List Nat)(I:Dn→World→Prop)(U:Nat→Value)(i:Nat)(o:Oper)(a:Act)(v:Value):Prop:=
 if ms.contains i=true then v=U i∧∀D w,I D w→D i=none→(∀j u,D j=some u→u=U j)→(∀e∈o.after,Region.binds .any e=true→ms.contains e.on=true→D e.on≠none)→Gx P (fun v w'=>I (D.tZ i v) w') ((execOp a.eval o).run P w)
 else∀w,C w→o.quietAt P a C w v
variable {I : Dn→World→Prop}{ms : List Nat}{C : World→Prop}
theorem aeY {U:Nat→Value}:∀i o (a a':Act) v,execOp a'.eval o=execOp a.eval o→vF P C ms I U i o a v→vF P C ms I U i o a' v:=fun i o a a' v he h=>by
 unfold vF Oper.quietAt at*;rw[he];exact h
variable {a : Act}{Q : Exit→Act→World→Prop}{o : Oper}
theorem aeZ {R:Value→World→Prop}{w:World}(h:Gx P R ((execOp a.eval o).run P w)){K:Act→World→Prop}(hk:∀v w',R v w'→K (a.put o.dst v) w'):o.wp P a w K Q:=
 qQ.wp (C:=fun w'=>w'=w) (fun w' e=>e▸h) rfl hk
theorem acx{C:World→Prop}{ms:List Nat}{I:Dn→World→Prop}{l:List Oper}{Qf:(Nat→Value)→Act→Prop}{Q':Exit→Act→World→Prop}(hB:uf .any l l.length=true)
  (hl:∀i,ms.contains i=true→i<l.length) (hp:∀i o,l[i]? =some o→ms.contains i=false→qc o=true) (hg:∀i o,l[i]? =some o→ms.contains i=true→o.guard=none)
  (hIC:∀D w,I D w→C w) (hQ:∀U a w,Qf U a→I (Dn.all ms U) w→Q' .normal a w):∀(fuel:Nat) (listed:Array Bool) (a:Act) (w:World) (D:Dn),listed.size=l.length→I D w→
    (∀i,D i≠none↔(ms.contains i=true∧listed.getD i true=true))→(∀U:Nat→Value,(∀j u,D j=some u→u=U j)→wX .any l.toArray (vF P C ms I U) (Qf U) fuel listed a)→wpAny P .any l.toArray Q' fuel listed a w:=by
 have si:∀D:Dn,∀j u,D j=some u→u=(fun i=>(D i).getD undef) j:=fun D j u h=>by simp[h]
 have fw:∀(listed:Array Bool) (a:Act) (w:World) (D:Dn),listed.size=l.length→Region.ready .any l.toArray listed=[]→I D w→(∀i,D i≠none↔(ms.contains i=true∧listed.getD i true=true))→Qf (fun i=>(D i).getD undef) a→Q' .normal a w:=fun listed a w D hs hr hI hD hq=>by
  refine hQ _ a w hq ?_
  have:Dn.all ms (fun i=>(D i).getD undef)=D:=by
   funext i
   unfold Dn.all
   split
   ·next h=>
    have:=Ay (n:=l.length) (lh:=listed) hB hs (by rw[acR];exact hr) i (hl i h);have h9:=(hD i).2 ⟨h,by rw[ni (by have:=hl i h;omega)];exact this⟩
    cases e:D i with
    |none=>exact absurd e h9
    |some v=>simp[e]
   ·next h=>
    cases e:D i with
    |none=>rfl
    |some v=>exact absurd ((hD i).1 (by rw[e];exact fun h=>(by cases h))).1 h
  rw[this];exact hI
 intro fuel
 induction fuel with
 |zero=>
  intro listed a w D hs hI hD h;have h1:=h _ (si D);exact⟨h1.1,fw listed a w D hs h1.1 hI hD h1.2⟩
 |succ fuel ih=>
  intro listed a w D hs hI hD h;refine⟨fun h0=>fw listed a w D hs h0 hI hD ((h _ (si D)).1 h0),fun i hi=>?_⟩;obtain⟨hun,o,ho,hall⟩:=mem_ready.1 hi
  have ho':l[i]? =some o:=by simpa using ho
  have hil:i<l.length:=(aca.1 ho').1
  have hs2:(listed.setIfInBounds i true).size=l.length:=by simp[hs]
  have hself:(listed.setIfInBounds i true).getD i true=true:=by simp[hs,hil]
  unfold wpOp;simp only[ho];by_cases him:ms.contains i=true
  ·have hwt:Region.wanted o (yielded l.toArray a.tmps)=true:=by unfold Region.wanted;rw[hg i o ho' him]
   rw[ω hwt];left
   have hDi:D i=none:=by
    cases e:D i with
    |none=>rfl
    |some v=>
     have:=((hD i).1 (by rw[e];exact fun h=>(by cases h))).2;rw[hun]at this;cases this
   obtain⟨v,hy, -⟩:=(h _ (si D)).2 i hi o ho
   have hrun:Gx P (fun v w'=>I (D.tZ i v) w') ((execOp a.eval o).run P w):=by
    rcases hy with⟨_,hE⟩|⟨hw1,_⟩
    ·unfold vF at hE
     rw[ω him]at hE
     refine hE.2 D w hI hDi (si D) fun e he hb hm=>(hD e.on).2 ⟨hm,?_⟩
     have:=hall e he hb
     rcases agi e.on listed.size with h'|h'
     ·rw[ni h'];exact this
     ·rw[agA,agv h'];rfl
    ·rw[hwt]at hw1;cases hw1
   refine aeZ hrun fun v w' hI'=>ih _ _ _ (D.tZ i v) hs2 hI' (fun j=>?_) fun U hU=>?_
   ·unfold Dn.tZ
    by_cases hji:j=i
    ·subst hji;rw[ω rfl,hself];simp only[him];simp
    ·rw[χ hji,getD_set_ne true (agh hji)];exact hD j
   ·have hUi:v=U i:=hU i v (ω rfl)
    obtain⟨v',hy',hK'⟩:=(h U fun j u hj=>hU j u (by
     unfold Dn.tZ;by_cases hji:j=i
     ·subst hji;rw[hDi]at hj;cases hj
     ·rw[χ hji];exact hj)).2 i hi o ho
    rcases hy' with⟨_,hE⟩|⟨hw1,_⟩
    ·unfold vF at hE
     rw[ω him]at hE;rw[hE.1,←hUi]at hK';exact hK'
    ·rw[hwt]at hw1;cases hw1
  ·have ae0:ms.contains i=false:=by simpa using him
   have hpl:=hp i o ho' ae0;obtain⟨v,hy,hK⟩:=(h _ (si D)).2 i hi o ho
   have hnext:∀b,b=a.put o.dst v→wpAny P .any l.toArray Q' fuel (listed.setIfInBounds i true) b w:=fun b hb=>by
    rw[hb]
    refine ih _ _ _ D hs2 hI (fun j=>?_) fun U hU=>?_
    ·by_cases hji:j=i
     ·subst hji
      rw[ae0];have:=hD j;rw[ae0]at this;simpa using this
     ·rw[getD_set_ne true (agh hji)];exact hD j
    ·obtain⟨v',hy',hK'⟩:=(h U hU).2 i hi o ho
     have:v'=v:=by
      rcases hy with⟨g1,g2⟩|⟨g1,rfl⟩<;>rcases hy' with⟨k1,k2⟩|⟨k1,rfl⟩
      ·unfold vF at g2 k2
       rw[χ him]at g2 k2;have r1:=yI hpl (g2 w (hIC D w hI));have r2:=yI hpl (k2 w (hIC D w hI));rw[r1]at r2;cases r2;rfl
      ·rw[g1]at k1;cases k1
      ·rw[g1]at k1;cases k1
      ·rfl
     rw[this]at hK';exact hK'
   rcases hy with⟨g1,g2⟩|⟨g1,rfl⟩
   ·rw[ω g1]
    left;unfold vF at g2;rw[χ him]at g2;exact Db hpl (g2 w (hIC D w hI)) (hnext _ rfl)
   ·rw[χ (by rw[g1];simp)]
    exact hnext _ rfl
def ae1(l:List Oper)(ms:List Nat):Bool:=uf .any l l.length&&Region.lexB .any l.toArray&&ms.all (fun i=>decide (i<l.length))&&(List.range l.length).all fun i=>match l[i]? with
 |some o=>if ms.contains i then o.guard.isNone else qc o
 |none=>false
variable {l : List Oper}{id : Nat}
theorem uH {w:World}(n:Nat)(ms:List Nat)(C:World→Prop)(I:Dn→World→Prop)(hm:P.follows .mixedOrders=true)(hB:(nN l n&&ae1 (l.take n) ms)=true)(h0:I Dn.no (World.drew w))(hIC:∀D w,I D w→C w)(h:∀U:Nat→Value,kG (l.take n).toArray (vF P C ms I U) (fun b=>∀w',I (Dn.all ms U) w'→wpList P l.toArray Q (l.drop n) b w') 0 (l.take n) a):(Code.region id l.toArray true).wp P Q a w:=by
 refine wp_region_any hm ?_
 show wpAny P .any l.toArray Q l.toArray.size (Array.replicate l.toArray.size false) a (World.drew w)
 simp only[nN,ae1,aaS,abC]at hB
 obtain⟨⟨⟨⟨⟨h1,h2⟩,h3⟩,h4⟩,h6⟩,⟨⟨hb,hlex⟩,hlt⟩,hop⟩:=hB
 have hln:(l.take n).length=n:=by simp;omega
 have rW:=hlex
 simp only[Region.lexB,aaS]at rW
 have hop':∀i o,(l.take n)[i]? =some o→(if ms.contains i then o.guard.isNone else qc o)=true:=fun i o ho=>by
  have:=Θ.1 hop i (acD.2 (aca.1 ho).1);rw[ho]at this;exact this
 have hany:=fun U=>Cn (md:= .any) aeY rW.1 (l.take n) 0 (Array.replicate (l.take n).toArray.size false) a ν (by simpa using rW.2) (h U)
 have BR:=acx (P:=P) (C:=C) (ms:=ms) (I:=I) (l:=l.take n) (Qf:=fun U b=>∀w',I (Dn.all ms U) w'→wpList P l.toArray Q (l.drop n) b w') (Q':=fun e a' w'=>e= .normal∧wpList P l.toArray Q (l.drop n) a' w') hb
  (fun i hi=>by
    have:=Θ.1 hlt i (by simpa using hi)
    simpa using this)
  (fun i o ho hi=>by have:=hop' i o ho;rw[hi]at this;exact this) (fun i o ho hi=>by have:=hop' i o ho;rw[ω hi]at this;exact agN.1 this)
  hIC (fun U b w' hb hI=>⟨rfl,hb w' hI⟩) _ (Array.replicate (l.take n).toArray.size false) a (World.drew w) Dn.no ν h0 (fun i=>⟨fun h=>absurd rfl h,fun h=>by
   by_cases hil:i<n
   ·have h9:=h.2
    rw[ni (by simp;omega),abX]at h9;cases h9
   ·have:=Θ.1 hlt i (by simpa using h.1)
    simp at this;omega⟩) fun U _=>hany U
 have:=xw (P:=P) (md:= .any) (Q:=Q) (g:=l.length - n) h1 h2 h3 h4 (Qh:=fun e a' w'=>e= .normal∧wpList P l.toArray Q (l.drop n) a' w') (fun e a w he hh=>absurd hh.1 he)
  (fun a' w' hh=>by
    have:=wpAny_of_seq (md:= .any) (P:=P) (Q':=Q) (l.drop n) n (xM l n) a' w' (fun j=>by simp[agq]) (by simpa using h6) hh.2
    simpa using this)
  _ (Array.replicate l.length false) (Array.replicate (l.take n).toArray.size false) a _
  ⟨by simp,by simpa using hln,fun i hi=>by rw[abX,abX],
   ⟨by simp,fun j oj _ hl=>(by rw[abX]at hl;cases hl),fun t _ ht=>getD_in (by simpa using ht) (abX _ _)⟩⟩ BR
 rw[hln]at this
 rw[show n+(l.length - n)=l.length from by omega]at this
 simpa using this
theorem Qb{ops:Array Oper}{C:World→Prop}{ms:List Nat}{I:Dn→World→Prop}{U:Nat→Value}{Q':Act→Prop}:∀(l rest:List Oper) (i:Nat) (a:Act),((List.range l.length).all fun j=>!ms.contains (i+j))=true→wpQuiet P ops C (fun a=>kG ops (vF P C ms I U) Q' (i+l.length) rest a) l a→kG ops (vF P C ms I U) Q' i (l++rest) a
 |[],rest,i,a,_,h=>h
 |o::l,rest,i,a,hk,h=>by
  rw[Θ]at hk
  have hik:ms.contains i=false:=by
   have:=hk 0 ν;simpa using this
  have hrest:∀a',wpQuiet P ops C (fun a=>kG ops (vF P C ms I U) Q' (i+1+l.length) rest a) l a'→kG ops (vF P C ms I U) Q' (i+1) (l++rest) a':=fun a' h'=>
   Qb l rest (i+1) a' (by
    rw[Θ];intro j hj;have:=hk (j+1) (by simp at hj⊢;omega)
    rwa[show i+(j+1)=i+1+j from by omega]at this) h'
  rw[aaJ,show i+(l.length+1)=i+1+l.length from by omega]at h;unfold wpQuiet at h;by_cases hw:Region.wanted o (yielded ops a.tmps)=true
  ·rw[ω hw]at h
   obtain⟨v,h1,h2⟩:=h;refine⟨v, .inl ⟨hw,?_⟩,hrest _ h2⟩;unfold vF;rw[χ (by rw[hik];simp)];exact h1
  ·rw[χ hw]at h
   exact⟨undef, .inr ⟨by simpa using hw,rfl⟩,hrest _ h⟩
variable {Q' : Act→Prop}{ops : Array Oper}{i : Nat}
theorem mI {U:Nat→Value}(k:Nat)(hn:((l.take k).length==k&&(List.range (l.take k).length).all fun j=>!ms.contains (i+j))=true)(h:wpQuiet P ops C (fun a=>kG ops (vF P C ms I U) Q' (i+k) (l.drop k) a) (l.take k) a):kG ops (vF P C ms I U) Q' i l a:=by
 simp only[aaS,aaZ]at hn
 have:=Qb (Q':=Q') (ms:=ms) (I:=I) (U:=U) (l.take k) (l.drop k) i a hn.2 (by rw[hn.1];exact h)
 rwa[acB]at this
variable {d : Tmp}
theorem air {u v:Value}(hd:d<a.tmps.size)(h:a.put (some d) u=a.put (some d) v):u=v:=by
 have h1:=afz (fun b:Act=>b.tmps[d]?) h
 simpa[Act.put,hd]using h1
theorem UW {U:Nat→Value}{rest:List Oper}(hi:ms.contains i=true)(hg:o.guard=none)(hd:o.dst=some d)(hs:d<a.tmps.size)(hm:∀D w,I D w→D i=none→(∀j u,D j=some u→u=U j)→(∀e∈o.after,Region.binds .any e=true→ms.contains e.on=true→D e.on≠none)→∃R:Value→World→Prop,(∀v w',R v w'→I (D.tZ i v) w')∧wpList P ops (fun e b w'=>e= .normal∧b.defers=a.defers∧∃v,b=a.put o.dst v∧R v w') [o] a w)(h:kG ops (vF P C ms I U) Q' (i+1) rest (a.put o.dst (U i))):kG ops (vF P C ms I U) Q' i (o::rest) a:=by
 refine⟨U i, .inl ⟨by unfold Region.wanted;rw[hg],?_⟩,h⟩
 unfold vF
 rw[ω hi]
 refine⟨rfl,fun D w hI hn hU iC=>?_⟩
 obtain⟨R,hR,hw⟩:=hm D w hI hn hU iC
 have h1:=qQ.of (C:=fun w'=>w'=w) (K:=fun b w'=>∃v,b=a.put o.dst v∧R v w') (P:=P) (o:=o) (ops:=ops) (a:=a) hg (fun w' e=>by rw[e];exact hw) w rfl
 refine(show∀{R R':Value→World→Prop} {r:Result Next},Gx P R r→(∀v w,R v w→R' v w)→Gx P R' r from fun{R R' r} hr hk=>?_) h1 fun v w' hv=>?_
 ·unfold Gx at hr⊢
  split at hr<;>first
   |exact hk _ _ hr
   |exact Calls.mono hr fun e w'' he=>by
     cases e with
     |returned v=>exact hk _ _ he
     |panicked c=>exact he
     |outgrown=>exact he
   |exact Rows.mono hr fun v w'' hv=>hk _ _ hv
   |exact hr
 ·obtain⟨v',e1,e2⟩:=hv
  rw[hd]at e1;rw[air hs e1];exact hR _ _ e2
end
end Go.Proofs.YtlboejdhmggjpaaGreat
namespace Go.Proofs.YtlboejdhmggjpaaGreat
open Go Go.RowKit Go.BigFrame
section
variable {P:Program}
def mkI(W:World)(S:Nat→Value→World→Prop)(D:Dn)(w:World):Prop:=Below W.heap.size W w∧∀i v,D i=some v→S i v w
variable {a : Act}{id : Nat}
theorem Je {Q:Exit→Act→World→Prop}{w:World}{l:List Oper}(n:Nat)(ms:List Nat)(S:Nat→Value→World→Prop)(hm:P.follows .mixedOrders=true)(hB:(nN l n&&ae1 (l.take n) ms)=true)(h:∀U:Nat→Value,kG (l.take n).toArray (vF P (fun w'=>∃u:df w,w'=u.w) ms (mkI w S) U) (fun b=>∀w',Below w.heap.size w w'→(∀i,ms.contains i=true→S i (U i) w')→wpList P l.toArray Q (l.drop n) b w') 0 (l.take n) a):(Code.region id l.toArray true).wp P Q a w:=by
 refine uH n ms (fun w'=>∃u:df w,w'=u.w) (mkI w S) hm hB ⟨(Below.refl _ _).drew,(fun i v h=>(by cases h))⟩ (fun D w' h=>⟨⟨w',h.1⟩,rfl⟩) fun U=>?_
 refine(show∀{E:Nat→Oper→Act→Value→Prop} {Q1 Q2:Act→Prop} {ops:Array Oper} (hk:∀a,Q1 a→Q2 a) (l:List Oper) (i:Nat) (a:Act),kG ops E Q1 i l a→kG ops E Q2 i l a from fun{E Q1 Q2 ops} hk l=>?_) (fun b hb w' hI=>hb w' hI.1 fun i hi=>hI.2 i _ (ω hi)) _ _ _ (h U)
 induction l with
 |nil=>exact fun i a h=>hk a h
 |cons o r ih=>exact fun i a ⟨v,h1,h2⟩=>⟨v,h1,ih _ _ h2⟩
def amr(o:Oper)(j:Nat):Bool:=o.after.any fun e=>Region.binds .any e&&e.on==j
def mkP(a:Act)(dst:Option Tmp)(R:Value→World→Prop):Exit→Act→World→Prop:=fun e b w'=>e= .normal∧b.defers=a.defers∧∃v,b=a.put dst v∧R v w'
variable {Q' : Act→Prop}{ops : Array Oper}{ms : List Nat}{i : Nat}{o : Oper}{d : Tmp}{C : World→Prop}
theorem qz {I:Dn→World→Prop}{U:Nat→Value}{rest:List Oper}(hi:ms.contains i=true)(hg:o.guard=none)(hd:o.dst=some d)(hs:Nat.blt d a.tmps.size=true)(hm:∀D w,I D w→D i=none→(∀j,(amr o j&&ms.contains j)=true→D j=some (U j))→wpList P ops (mkP a o.dst fun v w'=>I (D.tZ i v) w') [o] a w)(h:kG ops (vF P C ms I U) Q' (i+1) rest (a.put o.dst (U i))):kG ops (vF P C ms I U) Q' i (o::rest) a:=by
 refine UW hi hg hd (Nat.le_of_ble_eq_true hs) (fun D w hI hn hU iC=>⟨fun v w'=>I (D.tZ i v) w',fun _ _ h=>h,hm D w hI hn fun j hj=>?_⟩) h
 simp only[aaS]at hj
 obtain⟨k,hk,he⟩:=af6.1 hj.1
 simp only[aaS,aaZ]at he
 have:=iC _ (af8 hk) he.1 (by rw[he.2];exact hj.2)
 rw[he.2]at this
 cases e:D j with
 |none=>exact absurd e this
 |some u=>rw[hU j u e]
theorem Aq {W:World}{S:Nat→Value→World→Prop}{U:Nat→Value}{rest:List Oper}(hmono:∀i v w w',Below w.heap.size w w'→S i v w→S i v w')(hi:ms.contains i=true)(hg:o.guard=none)(hd:o.dst=some d)(hs:Nat.blt d a.tmps.size=true)(hm:∀w,Below W.heap.size W w→(∀j,(amr o j&&ms.contains j)=true→S j (U j) w)→wpList P ops (mkP a o.dst fun v w'=>S i v w'∧Below w.heap.size w w') [o] a w)(h:kG ops (vF P C ms (mkI W S) U) Q' (i+1) rest (a.put o.dst (U i))):kG ops (vF P C ms (mkI W S) U) Q' i (o::rest) a:=by
 refine UW hi hg hd (Nat.le_of_ble_eq_true hs) (fun D w hI hn hU iC=>?_) h
 refine⟨fun v w'=>S i v w'∧Below w.heap.size w w',fun v w' h=>⟨hI.1.trans (h.2.mono hI.1.size),fun j u hj=>?_⟩,hm w hI.1 fun j hj=>?_⟩
 ·unfold Dn.tZ at hj
  split at hj
  ·next e=>subst e;cases hj;exact h.1
  ·exact hmono _ _ _ _ h.2 (hI.2 j u hj)
 ·simp only[aaS]at hj
  obtain⟨k,hk,he⟩:=af6.1 hj.1;simp only[aaS,aaZ]at he;have:=iC _ (af8 hk) he.1 (by rw[he.2];exact hj.2);rw[he.2]at this
  cases e:D j with
  |none=>exact absurd e this
  |some u=>rw[←hU j u e];exact hI.2 j u e
def SL(l:List (Nat×(Value→World→Prop)))(i:Nat)(v:Value)(w:World):Prop:=match l.find? (·.1==i)with
 |some p=>p.2 v w
 |none=>True
def Lr(A:Value→World→Prop):Prop:=∀v w w',Below w.heap.size w w'→A v w→A v w'
theorem SL.mono{l:List (Nat×(Value→World→Prop))}(h:∀p∈l,Lr p.2):∀i v w w',Below w.heap.size w w'→SL l i v w→SL l i v w':=fun i v w w' hb hs=>by
 unfold SL at hs⊢
 cases e:l.find? (·.1==i)with
 |none=>trivial
 |some p=>rw[e]at hs;exact h p (agf e) v w w' hb hs
def xu(B:Nat)(f:Nat→Value)(O:Obj)(v:Value)(w:World):Prop:=∃b,v=f b∧B≤b∧w.heap[b]? =some O
theorem xu.mono{B:Nat}{f:Nat→Value}{O:Obj}:Lr (xu B f O):=fun v w w' hb h=>
 let ⟨b,h1,h2,h3⟩:=h
 ⟨b,h1,h2,aF hb h3 (ψ.1 h3).1⟩
end
end Go.Proofs.YtlboejdhmggjpaaGreat
