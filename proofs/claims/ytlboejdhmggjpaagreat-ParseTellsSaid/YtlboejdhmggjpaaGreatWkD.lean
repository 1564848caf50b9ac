/- Short names. -/
import Derived.Lib.Builder
import Derived.Lib.Hide
import Derived.RangeFuncRecord
import Derived.Tactics
import Derived.StillTail
import Derived.Deep.Quiet
import Derived.WalkKit
import Derived.BigCall
import Derived.BigQuiet
import Derived.WalkLawsBesides
import Derived.Lib.Strings
import Derived.Deep.QuietTactic
import Derived.Deep.RegionWith
import Derived.Deep.RegionHeld3
import Derived.Deep.LoopGhost
import Derived.Deep.DeepCutAuto
import Derived.Handy
import Derived.Laws.AppendOwnNone
import Derived.Lib.Bytealg
import Derived.OrdersIn
import Derived.RangeFuncCalls
import Derived.RegionTactic
import Derived.Test.YtlboejdhmggjpaaGreatProg
import Derived.Maps.OwnIn
import Derived.Maps.OwnOps
import Derived.Maps.OwnSet
import Derived.Maps.Views
import Derived.Maps.Range
import Derived.Carry
import Derived.Lib.SlicesS
set_option linter.all false
namespace Go.Proofs.YtlboejdhmggjpaaGreat
theorem ζ {p : Prop} (h : p := by decide) : p := h
theorem η {p : Prop} (h : p := by omega) : p := h
variable {p : Prop}
theorem θ (h : p := by decide +kernel): p := h
theorem ν (h : p := by simp): p := h
theorem ξ (h : p := by assumption): p := h
abbrev π := @Lib.hid
abbrev υ := @Nat.le_refl
abbrev χ := @if_neg
abbrev ψ := @Array.getElem?_eq_some_iff
abbrev ω := @if_pos
abbrev Γ := @Option.bind_eq_some_iff
abbrev Δ := @List.length_append
abbrev Θ := @List.all_eq_true
abbrev Ξ := @Option.bind_some
abbrev Φ := @List.mem_singleton
abbrev Ψ := @List.append_assoc
abbrev Ω := @Nat.zero_le
abbrev aar := @Nat.lt_succ_self
abbrev aat := @beq_eq_false_iff_ne
abbrev aau := @Option.some.inj
abbrev aaJ := @List.length_cons
abbrev aaS := @Bool.and_eq_true
abbrev aaT := @Nat.le_trans
abbrev aaZ := @beq_iff_eq
abbrev aa4 := @decide_eq_true
abbrev aa5 := @decide_eq_false
abbrev abf := @List.mem_cons
abbrev abr := @List.mem_append
abbrev abt := @List.mem_map
abbrev abu := @List.setIfInBounds_toArray
abbrev abv := @List.drop_eq_getElem_cons
abbrev abw := @bodyPost_ret
abbrev aby := @List.mem_append_left
abbrev abz := @List.length_map
abbrev abB := @Nat.lt_of_lt_of_le
abbrev abC := @decide_eq_true_eq
abbrev abD := @List.mem_append_right
abbrev abE := @List.getElem?_eq_getElem
abbrev abF := @beq_false_of_ne
abbrev abG := @List.set_cons_zero
abbrev abH := @List.set_cons_succ
abbrev abK := @Nat.le_succ
abbrev abL := @List.take_succ_eq_append_getElem
abbrev abM := @List.mem_cons_of_mem
abbrev abN := @List.getD_eq_getElem?_getD
abbrev abO := @wpQuiet_nil
abbrev abX := @getD_replicate_false
abbrev abY := @List.drop_of_length_le
abbrev abZ := @List.not_mem_nil
abbrev ab0 := @List.contains_iff_mem
abbrev ab1 := @List.take_of_length_le
abbrev ab2 := @List.getElem_mem
abbrev ab5 := @World.putObj_heap_other
abbrev ab6 := @List.mem_cons_self
abbrev ab7 := @Lib.frozen_of_heap
abbrev aca := @List.getElem?_eq_some_iff
abbrev acb := @List.map_append
abbrev acf := @Nat.le_of_eq
abbrev ach := @decide_eq_false_iff_not
abbrev acj := @List.map_cons
abbrev ack := @Bool.or_eq_true
abbrev acm := @bne_iff_ne
abbrev acn := @List.length_take
abbrev acs := @List.eq_nil_iff_forall_not_mem
abbrev acu := @List.idxOf_le_length
abbrev acw := @Option.map_eq_some_iff
abbrev acy := @List.flatMap_cons
abbrev acz := @or_false
abbrev acB := @List.take_append_drop
abbrev acC := @eq_false_of_ne_true
abbrev acD := @List.mem_range
abbrev acF := @List.getElem?_append_right
abbrev acI := @List.dropLast_concat_getLast
abbrev acJ := @List.map_nil
abbrev acK := @Nat.zero_add
abbrev acL := @Bool.not_eq_true
abbrev acM := @List.eq_nil_of_length_eq_zero
abbrev acN := @List.length_pos_iff
abbrev acO := @List.getElem?_eq_none
abbrev acR := @List.take_length
abbrev afp := @Bool.or_false
abbrev afu := @Bool.false_or
abbrev afx := @List.mem_filter
abbrev afy := @List.append_inj'
abbrev afz := @congrArg
abbrev afA := @beq_self_eq_true
abbrev afC := @Nat.eq_zero_or_pos
abbrev afF := @Nat.mul_one
abbrev afG := @List.getElem?_map
abbrev afI := @List.flatten_cons
abbrev afM := @List.cons.injEq
abbrev afN := @List.filter_eq_nil_iff
abbrev afO := @List.exists_cons_of_ne_nil
abbrev afP := @List.isEmpty_iff
abbrev afR := @List.singleton_append
abbrev afS := @List.getElem?_append_left
abbrev afT := @Classical.byContradiction
abbrev afU := @List.getLastD_eq_getLast?
abbrev afV := @Array.replicate_succ
abbrev afW := @Array.replicate_zero
abbrev afX := @List.size_toArray
abbrev afY := @List.getLast?_eq_some_getLast
abbrev afZ := @List.flatten_append
abbrev af0 := @List.append_toArray
abbrev af1 := @List.length_eq_one_iff
abbrev af2 := @Nat.le_of_lt
abbrev af3 := @List.length_set
abbrev af4 := @List.length_singleton
abbrev af5 := @Bool.true_and
abbrev af6 := @Array.any_eq_true
abbrev af8 := @Array.getElem_mem
abbrev af9 := @Bool.not_eq_true'
abbrev aga := @Option.some.injEq
abbrev agc := @List.push_toArray
abbrev age := @Nat.mul_le_mul_right
abbrev agf := @List.mem_of_find?_eq_some
abbrev agh := @Ne.symm
abbrev agi := @Nat.lt_or_ge
abbrev agj := @List.length_drop
abbrev agk := @List.getElem_map
abbrev agm := @List.reverse_append
abbrev agn := @Nat.lt_irrefl
abbrev agq := @List.getElem?_drop
abbrev agr := @Bool.false_ne_true
abbrev ags := @Bool.eq_iff_iff
abbrev agt := @Nat.min_eq_left
abbrev agu := @List.sublist_cons_self
abbrev agv := @Array.getElem?_eq_none
abbrev agw := @Bool.false_and
abbrev agx := @List.map_map
abbrev agy := @List.perm_append_comm
abbrev agA := @Array.getD_eq_getD_getElem?
abbrev agD := @Nat.le_add_right
abbrev agE := @List.Sublist.map
abbrev agF := @Bool.or_eq_false_iff
abbrev agG := @List.mem_of_getElem?
abbrev agH := @List.filterMap_cons
abbrev agI := @List.pairwise_iff_getElem
abbrev agJ := @List.nodup_cons
abbrev agK := @Nat.le_max_left
abbrev agL := @UInt8.toNat_inj
abbrev agN := @Option.isNone_iff_eq_none
abbrev agO := @Nat.succ_mul
abbrev agP := @List.singleton_inj
abbrev agQ := @Bool.and_false
open Go.RowKit
def dX(w:World)(b o:Nat)(cs:List Value):Prop:=∀(j:Nat) (v:Value),cs[j]? =some v→w.cell? ⟨b,o+j,none⟩=some v
theorem dX.below{w w':World}{b o B:Nat}{cs:List Value}(h:dX w b o cs)(hb:Below B w w')(hlt:b<B):dX w' b o cs:=
 fun j v hv=>(hb.cell (p:=⟨b,o+j,none⟩) hlt).trans (h j v hv)
theorem dX.Cc{w:World}{b:Nat}{t:TypeId}{cs:Array Value}{fz:Nat×Nat}(h:w.heap[b]? =some (.cells cs t fz)):dX w b 0 cs.toList:=
 fun j v hv=>by simp[World.cell?,h];simpa using hv
section
variable {P:Program}
theorem EG(w:World)(b o:Nat)(ty:TypeId)(cs:List Value)(d:TypeDesc)(hc:dX w b o cs)
 (hu:P.underlying ty=some d) (hd:(match d with| .struct _| .array _ _=>true|_=>false)=true) (hi:(P.info? ty).map (·.size)=some cs.length):
 (loadVar ty ⟨b,o,none⟩).run P w= .ok (.agg cs.toArray) w:=by
 have hl:(loadCells ⟨b,o,none⟩ cs.length).run P w= .ok cs.toArray w:=
  run_loadCells_list (P:=P) w ⟨b,o,none⟩ cs (fun j v hv=>by
   have hadd:(⟨b,o,none⟩:Addr).add j=⟨b,o+j,none⟩:=by unfold Addr.add;split<;>simp_all
   rw[hadd];exact hc j v hv)
 cases hq:P.info? ty with
 |none=>simp[hq]at hi
 |some i=>
  have hs:i.size=cs.length:=by simpa[hq]using hi
  have hagg:(isAgg ty).run P w= .ok true w:=by
   unfold isAgg;rw[Sem.run_bind,run_underlying hu w]
   cases d<;>simp_all
  simp[loadVar,Sem.run_bind,hagg,sizeOf,typeInfo,hq,hs,hl]
end
def df(w0:World):Type:={u:World//Below w0.heap.size w0 u}
def df.w{w0:World}(u:df w0):World:=u.1
instance df.arx (w0:World):Nonempty (df w0):=⟨⟨w0,Below.refl _ _⟩⟩
theorem df.below{w0:World}(u:df w0):Below w0.heap.size w0 u.w:=u.2
theorem df.cell{w0:World}(u:df w0){p:Addr}{v:Value}(h:w0.cell? p=some v):u.w.cell? p=some v:=
 (u.2.cell (World.block_lt_of_cell? w0 p h)).trans h
theorem df.on{w0:World}(u:df w0){w:World}(h:Below u.w.heap.size u.w w):∃u':df w0,w=u'.w:=⟨⟨w,u.2.trans (h.mono u.2.size)⟩,rfl⟩
theorem df.drew(w0:World):∃u:df w0,({w0 with drawn:=w0.drawn+1}:World)=u.w:=⟨⟨_,((Below.refl _ w0).drew)⟩,rfl⟩
section
variable {P:Program} {C:World→Prop}
theorem GH{K:Act→Prop}{o:Oper}{a:Act}(ty:TypeId)(x:Operand)(ho:o.op= .load ty x)
 (b i:Nat) (hx:a.eval x= .pointer (some ⟨b,i,none⟩)) (cs:List Value) (d:TypeDesc) (hc:∀w,C w→dX w b i cs)
 (hu:P.underlying ty=some d) (hd:(match d with| .struct _| .array _ _=>true|_=>false)=true) (hi:(P.info? ty).map (·.size)=some cs.length)
 (h:K (a.put o.dst (.agg cs.toArray))):o.quiet P a C K:=
 ⟨_,fun w hw=>by
  unfold Oper.quietAt execOp;simp only[ho,hx,Instr.loadAt,Instr.sureAddr,Sem.run_bind,Sem.run_pure,Result.andThen_ok,EG w b i ty cs d (hc w hw) hu hd hi]
  exact⟨rfl,rfl⟩,h⟩
end
def oV{α:Type}(n:Nat)(f:α→List Value)(w:World)(a:Option Addr)(l:List α):Prop:=
 l=[]∨∃b off,a=some ⟨b,off,none⟩∧b<w.heap.size∧∀i (h:i<l.length),dX w b (off+i*n) (f l[i])
theorem oV.below{α:Type}{n:Nat}{f:α→List Value}{w w':World}{a:Option Addr}{l:List α}{B:Nat}(h:oV n f w a l)(hb:Below B w w')(hB:w.heap.size≤B)(hs:w.heap.size≤w'.heap.size):oV n f w' a l:=by
 rcases h with h|⟨b,off,ha,hlt,hc⟩
 ·exact .inl h
 ·exact .inr ⟨b,off,ha,abB hlt hs,fun i hi=>(hc i hi).below hb (abB hlt hB)⟩
theorem oV.at{α:Type}{n:Nat}{f:α→List Value}{w:World}{a:Option Addr}{l:List α}(h:oV n f w a l)(h0:l≠[]):
 ∃b off,a=some ⟨b,off,none⟩∧b<w.heap.size∧∀i (h:i<l.length),dX w b (off+i*n) (f l[i]):=by
 rcases h with h|h
 ·exact absurd h h0
 ·exact h
theorem aF{B b:Nat}{w w':World}{o:Obj}(hb:Below B w w')(h:w.heap[b]? =some o)(hlt:b<B):w'.heap[b]? =some o:=by
 rw[hb.block b hlt];exact h
theorem ag(w:World)(o:Obj):Below w.heap.size w (w.alloc o):=(Below.refl _ _).alloc (υ _) _
theorem gz(B:Nat)(w:World)(n:Nat):Below B w (w.drewN n):=⟨rfl,rfl,rfl,υ _,fun _ _=>rfl⟩
end Go.Proofs.YtlboejdhmggjpaaGreat
namespace Go.Proofs.YtlboejdhmggjpaaGreat
open Go.RowKit Go.BigFrame
theorem OJ(b o j:Nat):(⟨b,o,none⟩:Addr).add j=⟨b,o+j,none⟩:=by unfold Addr.add;split<;>simp_all
theorem Nj{α:Type}(n:Nat)(f:α→List Value)(hf:∀g,(f g).length=n)(w:World)(b:Nat):∀(l:List α) (off:Nat),(∀i (h:i<l.length),dX w b (off+i*n) (f l[i]))→
  ∀(j:Nat) (u:Value),(l.flatMap f)[j]? =some u→w.cell? ⟨b,off+j,none⟩=some u
 |[],off,_,j,u,h=>by simp at h
 |g::l,off,hc,j,u,h=>by
  rw[acy,List.getElem?_append]at h
  split at h
  ·have:=hc 0 ν j u (by simpa using h)
   simpa using this
  ·rename_i hj
   rw[hf]at hj h
   have:=Nj n f hf w b l (off+n) (fun i hi=>by
    have:=hc (i+1) (by simpa using hi);rw[show off+n+i*n=off+(i+1)*n from by rw[Nat.add_mul];omega]
    simpa using this) (j - n) u h
   rwa[show off+n+(j - n)=off+j from by omega]at this
theorem vG{α:Type}(n:Nat)(f:α→List Value)(hf:∀g,(f g).length=n):∀l:List α,(l.flatMap f).length=l.length*n
 |[]=>by simp
 |g::l=>by rw[acy,Δ,hf,vG n f hf l,aaJ,Nat.add_mul];omega
theorem G9{P:Program}{w:World}{ops:Array Oper}{rest:List Oper}{o:Oper}{a:Act}{Q:Exit→Act→World→Prop}{α:Type}(f:α→List Value)(hgd:o.guard=none)(s x:Operand)(t:TypeId)
  (ho:o.op= .call {callee:= .builtin .append,args:=#[s,x],argTypes:=#[t,t]})
  (base:Nat) (e:TypeId) (i:TypeInfo) (z:Value) (size bytes:Nat) (ht:P.underlying t=some (.slice e)) (hi:P.info? e=some i) (hz:i.zero=some z)
  (hsize:i.size=size) (hby:i.bytes=bytes) (hzs:z.cells.size=size) (hsz:0<size) (hf:∀g,(f g).length=size) (hf1:∀g,∀u∈f g,u.oneCell'=true)
  (v:Value) (n:Nat) (xs:List Value) (hs:a.eval s=v) (hown:w.ownsRow base e size v n xs)
  (ao:Option Addr) (l:List α) (c:Nat) (hx:a.eval x= .slice ao l.length c) (hnil:ao=none→l=[]∧c=0) (hr:oV size f w ao l)
  (h63:n+l.length≤maxLen) (hbytes:(n+l.length)*bytes≤140737488355328) (hbase:base≤w.heap.size)
  (h:∀v' w',w'.ownsRow base e size v' (n+l.length) (xs++l.flatMap f)→w.grownBy w' v.ownBlock→wpList P ops Q rest (a.put o.dst v') w'):wpList P ops Q (o::rest) a w:=by
 cases ao with
 |none=>
  obtain⟨rfl,rfl⟩:=hnil rfl;refine wpList_append_own_none hgd s x t ho base e i size ht hi v n xs hs hown (by simpa using hx) ?_;have:=h v w (by simpa using hown) ?_
  ·exact this
  ·exact⟨rfl,rfl,rfl,υ _,fun k hk _=>rfl⟩
 |some ad=>
  refine wpList_append_own _ hgd s x t ho base e i z size bytes ht hi hz hsize hby hzs hsz v n xs hs hown ad l.length c (l.flatMap f) hx (vG size f hf l) (fun j u hj=>?_) (fun u hu=>?_) h63 hbytes hbase (fun v' w' h1 h2 _=>h v' w' h1 h2)
  ·rcases hr with rfl|⟨b,off,hab,_,hc⟩
   ·simp at hj
   ·cases hab
    rw[OJ];exact Nj size f hf w b l off hc j u hj
  ·obtain⟨g,hg,hu⟩:=List.mem_flatMap.1 hu
   exact hf1 g u hu
end Go.Proofs.YtlboejdhmggjpaaGreat
namespace Go.Proofs.YtlboejdhmggjpaaGreat.Pp
abbrev Bs:=List UInt8
structure Ct where
 c:Int
 t:Bs
deriving DecidableEq
structure Nd where
 k:Nat
 lo:Nat
 hi:Nat
 sz:Nat
deriving DecidableEq
structure Ns where
 ch:List (Bs×Bool)
 bl:List Nat
structure Ps where
 af:Nat
 done:List Nd
 nm:Ns
structure Fm where
 named:Bool
 name:Bs
 ek:Nat
 params:List (Bs×Bool)
def Fm.yJ(b:Bool)(f:Fm):Fm:=if b&&f.ek==0 then{f with ek:=1}else f
def Fm.BG(f:Fm):Fm:=if f.ek=0 then{f with ek:=2}else f
def Fm.yL(f:Fm)(p:List (Bs×Bool)):Fm:=if f.ek=0 then{f with ek:=3,params:=p}else f
inductive Va
 |un
 |bo (x:Bool)
 |fo (x:Fm)
 |pa (x:List (Bs×Bool))
inductive Rs (α:Type)
 |ok (a:α) (s:Ps)
 |no
 |out
def Pm(α:Type):=Ps→Rs α
variable {α β : Type}
def Pm.bind (x:Pm α)(f:α→Pm β):Pm β:=fun s=>match x s with
 | .ok a s1=>f a s1
 | .no=> .no
 | .out=> .out
instance:Monad Pm where
 pure:=fun a s=> .ok a s
 bind:=Pm.bind
def iD:Pm α:=fun _=> .no
def FJ:Pm α:=fun _=> .out
def sj:Pm Ps:=fun s=> .ok s s
def fH:Pm (Nat×Nat):=fun s=> .ok (s.af,s.done.length) s
def step(l:List Ct)(k:Nat):Pm Unit:=fun s=>if s.af+k≤l.length then .ok () {s with af:=s.af+k}else .out
def node(l:List Ct)(k:Nat)(h:Nat×Nat):Pm Unit:=fun s=>if s.done.length≤4*l.length∧h.2≤s.done.length then .ok () {s with done:=s.done++[⟨k,h.1,s.af,s.done.length - h.2+1⟩]}else .out
def Ns.bS(n:Ns)(x:Bs)(b:Bool):Ns:=if x=[]then n else{n with ch:=n.ch++[(x,b)]}
def Ns.kH(n:Ns):Ns:={n with bl:=n.bl++[n.ch.length]}
def Ns.oN(n:Ns):Ns:={ch:=n.ch.take (n.bl.getLast?.getD 0),bl:=n.bl.dropLast}
def Ns.bZ(n:Ns):List (Bs×Bool):=n.ch.drop (n.bl.getLast?.getD 0)
def Ns.now(n:Ns)(x:Bs):Option Bool:=(n.ch.reverse.find? fun p=>p.1==x).map (·.2)
def Ns.l8(base:Bs→Bool)(n:Ns)(x:Bs):Bool:=(n.now x).getD (base x)
def bS(l:List Ct)(x:Bs)(b:Bool):Pm Unit:=fun s=>if s.nm.ch.length≤2*l.length then .ok () {s with nm:=s.nm.bS x b}else .out
def iE(l:List Ct):List (Bs×Bool)→Pm Unit
 |[]=>pure ()
 |p::r=>do bS l p.1 p.2;iE l r
def jU(l:List Ct):Pm Unit:=fun s=>if s.nm.bl.length≤2*l.length+1 then .ok () {s with nm:=s.nm.kH}else .out
def eO:Pm Unit:=fun s=>match s.nm.bl.getLast? with
 |some k=>if k≤s.nm.ch.length then .ok () {s with nm:=s.nm.oN}else .out
 |none=> .out
def spec(t:Bs):Nat:=
 if t∈[[116,121,112,101,100,101,102],[101,120,116,101,114,110],[115,116,97,116,105,99],[95,84,104,114,101,97,100,95,108,111,99,97,108],[97,117,116,111],[114,101,103,105,115,116,101,114],[105,110,108,105,110,101],[95,78,111,114,101,116,117,114,110]]then 1
 else if t=[95,65,108,105,103,110,97,115]then 2
 else if t∈[[99,111,110,115,116],[114,101,115,116,114,105,99,116],[118,111,108,97,116,105,108,101]]then 3
 else if t=[95,65,116,111,109,105,99]then 4
 else if t∈[[118,111,105,100],[99,104,97,114],[115,104,111,114,116],[105,110,116],[108,111,110,103],[102,108,111,97,116],[100,111,117,98,108,101],[115,105,103,110,101,100],[117,110,115,105,103,110,101,100],[95,66,111,111,108],[95,67,111,109,112,108,101,120]]then 5
 else if t∈[[115,116,114,117,99,116],[117,110,105,111,110]]then 6
 else if t=[101,110,117,109]then 7
 else 0
def Co(t:Bs):Nat:=
 if t=[124,124]then 36 else if t=[38,38]then 37 else if t=[124]then 38 else if t=[94]then 39 else if t=[38]then 40
 else if t∈[[61,61],[33,61]]then 41 else if t∈[[60],[62],[60,61],[62,61]]then 42 else if t∈[[60,60],[62,62]]then 43 else if t∈[[43],[45]]then 44 else if t∈[[42],[47],[37]]then 45 else 0
def Hd(t:Bs):Bool:=t∈[[61],[42,61],[47,61],[37,61],[43,61],[45,61],[60,60,61],[62,62,61],[38,61],[94,61],[124,61]]
section
variable (l:List Ct) (base:Bs→Bool)
def az(s:Ps)(k:Nat):Ct:=l.getD (s.af+k) ⟨0,[]⟩
def aX(s:Ps)(k:Nat)(t:Bs):Bool:=(az l s k).c==7&&(az l s k).t==t
def iX(s:Ps)(t:Bs):Bool:=(az l s 0).c==1&&(az l s 0).t==t
def rD(k:Nat):Pm Ct:=fun s=> .ok (az l s k) s
def eu(k:Nat)(t:Bs):Pm Bool:=fun s=> .ok (aX l s k t) s
def o6(t:Bs):Pm Bool:=fun s=> .ok (iX l s t) s
def fU(t:Bs):Pm Bool:=fun s=>if aX l s 0 t then .ok true {s with af:=s.af+1}else .ok false s
def fC(t:Bs):Pm Bool:=fun s=>if iX l s t then .ok true {s with af:=s.af+1}else .ok false s
def bY(t:Bs):Pm Unit:=fun s=>if aX l s 0 t then .ok () {s with af:=s.af+1}else .no
def l9:Pm Bs:=fun s=>if(az l s 0).c=2 then .ok (az l s 0).t {s with af:=s.af+1}else .no
def jD(s:Ps)(k:Nat):Bool:=if(az l s k).c=1 then decide (spec (az l s k).t≠0)else if(az l s k).c=2 then s.nm.l8 base (az l s k).t else false
def nO(s:Ps)(k:Nat):Bool:=if(az l s k).c=1∧(spec (az l s k).t=1∨spec (az l s k).t=2)then false else jD l base s k
def afi(k:Nat):Pm Bool:=fun s=> .ok (jD l base s k) s
def wI(k:Nat):Pm Bool:=fun s=> .ok (nO l base s k) s
def kP:Pm Bool:=fun s=> .ok (aX l s 0 [40]&&nO l base s 1) s
def j5:Pm Bool:=fun s=> .ok (iX l s [95,83,116,97,116,105,99,95,97,115,115,101,114,116]||jD l base s 0) s
def lM:Pm Bool:=fun s=> .ok ((az l s 0).c==2&&aX l s 1 [58]) s
def dB:Pm Nat:=fun s=> .ok (if(az l s 0).c=7 then Co (az l s 0).t else 0) s
def ny:Pm Bool:=fun s=> .ok ((az l s 0).c==7&&Hd (az l s 0).t) s
def kZ:Nat→Ps→Nat
 |0,s=>s.af
 |n+1,s=>if(az l s 0).c=1∧(spec (az l s 0).t=3∨spec (az l s 0).t=4∧aX l s 1 [40]=false)then kZ n {s with af:=s.af+1}else s.af
def kS:Pm Bool:=fun s=> .ok (decide (s.af<kZ l (l.length - s.af+1) s)) {s with af:=kZ l (l.length - s.af+1) s}
def ug:Nat→Ps→Nat
 |0,s=>s.af
 |n+1,s=>if(az l s 0).c=6 then ug n {s with af:=s.af+1}else s.af
def jQ:Pm Unit:=fun s=>if(az l s 0).c=6 then .ok () {s with af:=ug l (l.length - s.af+1) s}else .no
end
inductive Tg
 |o9|yO (h:Nat×Nat)|assign|dx|fI (k:Nat)|fT (k:Nat) (h:Nat×Nat) (ub:Bool)|cast|mW|jG (h:Nat×Nat)|unary|size (v:Bool)|jT|jf (h:Nat×Nat)
 |call|xN|uI|zR|xR|wJ|jv|oO|zS|nz|uh|pg
 |bP (k:Nat)|lg (b:Bool)|eT (f:Fm) (a:Bool)|array|params|su|qA
 |j6|body (p:List (Bs×Bool))|iw|jS (t:Bool)|uQ (t:Bool)|iG (h:Nat×Nat)|vH|wK|xz|part|iP|ik (t:Bs)|iy|jg (t:Bs) (h:Nat×Nat)|jH (t:Bs) (h:Nat×Nat)
 |dh (a:Bool)|jJ (a:Bool) (w o:Nat) (t:Bool)|wL|atomic|qW|uJ|nP|wM|field|yP|BU|ma|kg|unit
def Va.bool:Va→Bool
 | .bo x=>x
 |_=>false
def Va.fA:Va→Fm
 | .fo x=>x
 |_=>⟨false,[],0,[]⟩
def Va.jm:Va→List (Bs×Bool)
 | .pa x=>x
 |_=>[]
section
variable (l:List Ct) (base:Bs→Bool)
def run:Nat→Tg→Pm Va
 |0,_=>fun _=> .out
 |n+1, .o9=>do let h←fH;let _←run n .assign;run n (.yO h)
 |n+1, .yO h=>do
  if←fU l [44]then let _←run n .assign;node l 33 h;run n (.yO h)
  else pure Va.un
 |n+1, .assign=>do
  let h←fH
  let uv←run n .dx
  if uv.bool&&(←ny l)then step l 1;let _←run n .assign;node l 34 h;pure Va.un
  else pure Va.un
 |n+1, .dx=>do
  let h←fH
  let uv←run n (.fI 36)
  if←fU l [63]then let _←run n .o9;bY l [58];let _←run n .dx;node l 35 h;pure (Va.bo false)
  else pure uv
 |n+1, .fI k=>do let h←fH;let uv←run n .cast;run n (.fT k h uv.bool)
 |n+1, .fT k h ub=>do
  let j←dB l
  if j<k then pure (Va.bo ub)
  else step l 1;let _←run n (.fI (j+1));node l j h;run n (.fT k h false)
 |n+1, .cast=>do
  if←kP l base then
   let h←fH
   let _←run n .mW
   if←eu l 0 [123]then let _←run n (.jG h);pure (Va.bo true)
   else let _←run n .cast;node l 46 h;pure (Va.bo false)
  else let _←run n .unary;pure (Va.bo true)
 |n+1, .mW=>do bY l [40];let _←run n .kg;bY l [41];pure Va.un
 |n+1, .jG h=>do let _←run n .oO;node l 53 h;run n (.jf h)
 |n+1, .unary=>do
  let h←fH
  let t←rD l 0
  if t.c=7∧(t.t=[43,43]∨t.t=[45,45])then step l 1;let _←run n .unary;node l 47 h;pure Va.un
  else if t.c=7∧t.t∈[[38],[42],[43],[45],[126],[33]]then step l 1;let _←run n .cast;node l 47 h;pure Va.un
  else if t.c=1∧(t.t=[115,105,122,101,111,102]∨t.t=[95,65,108,105,103,110,111,102])then step l 1;let _←run n (.size (t.t==[115,105,122,101,111,102]));node l 48 h;pure Va.un
  else run n .jT
 |n+1, .size v=>do
  if←kP l base then
   let h←fH
   let _←run n .mW
   if v&&(←eu l 0 [123])then run n (.jG h)else pure Va.un
  else if v then run n .unary else iD
 |n+1, .jT=>do
  let h←fH
  if←kP l base then let _←run n .mW;run n (.jG h)
  else let _←run n .uI;run n (.jf h)
 |n+1, .jf h=>do
  let t←rD l 0
  if t.c≠7 then pure Va.un
  else if t.t=[91]then step l 1;let _←run n .o9;bY l [93];node l 49 h;run n (.jf h)
  else if t.t=[40]then let _←run n .call;node l 50 h;run n (.jf h)
  else if t.t=[46]∨t.t=[45,62]then step l 1;let _←l9 l;node l 51 h;run n (.jf h)
  else if t.t=[43,43]∨t.t=[45,45]then step l 1;node l 52 h;run n (.jf h)
  else pure Va.un
 |n+1, .call=>do
  bY l [40]
  if←fU l [41]then pure Va.un
  else let _←run n .assign;let _←run n .xN;bY l [41];pure Va.un
 |n+1, .xN=>do
  if←fU l [44]then let _←run n .assign;run n .xN
  else pure Va.un
 |n+1, .uI=>do
  let h←fH
  let t←rD l 0
  let s←sj
  if t.c=2∧s.nm.l8 base t.t=false then step l 1;node l 57 h;pure Va.un
  else if t.c=3∨t.c=4∨t.c=5 then step l 1;node l 58 h;pure Va.un
  else if t.c=6 then jQ l;node l 58 h;pure Va.un
  else if←fU l [40]then let _←run n .o9;bY l [41];node l 56 h;pure Va.un
  else if←fC l [95,71,101,110,101,114,105,99]then let _←run n .zR;node l 54 h;pure Va.un
  else iD
 |n+1, .zR=>do bY l [40];let _←run n .assign;bY l [44];let _←run n .wJ;let _←run n .xR;bY l [41];pure Va.un
 |n+1, .xR=>do
  if←fU l [44]then let _←run n .wJ;run n .xR
  else pure Va.un
 |n+1, .wJ=>do
  let h←fH
  let d←fC l [100,101,102,97,117,108,116]
  let _←if d then pure Va.un else run n .kg
  bY l [58]
  let _←run n .assign
  node l 55 h
  pure Va.un
 |n+1, .jv=>do if←eu l 0 [123]then run n .oO else run n .assign
 |n+1, .oO=>do let h←fH;bY l [123];let _←run n .nz;let _←run n .zS;bY l [125];node l 19 h;pure Va.un
 |n+1, .zS=>do
  if←fU l [44]then
   if←eu l 0 [125]then pure Va.un else let _←run n .nz;run n .zS
  else pure Va.un
 |n+1, .nz=>do
  let h←fH
  let d←run n .pg
  let _←if d.bool then(do let _←run n .uh;bY l [61];pure Va.un)else pure Va.un
  let _←run n .jv
  node l 20 h
  pure Va.un
 |n+1, .uh=>do
  let d←run n .pg
  if d.bool then run n .uh else pure Va.un
 |n+1, .pg=>do
  let h←fH
  if←fU l [91]then let _←run n .dx;bY l [93];node l 21 h;pure (Va.bo true)
  else if←fU l [46]then let _←l9 l;node l 21 h;pure (Va.bo true)
  else pure (Va.bo false)
 |n+1, .bP k=>do
  let h←fH
  let st←run n (.lg false)
  let t←rD l 0
  let sa←(fun s=> .ok (aX l s 0 [40]&&(k==0||!(aX l s 1 [41]||jD l base s 1))) s:Pm Bool)
  let c:Bool×Va←if k≠2∧t.c=2 then(do let x←l9 l;pure (true,Va.fo ⟨true,x,0,[]⟩))
   else if sa then(do step l 1;let f←run n (.bP k);bY l [41];pure (true,f))
   else if k=0 then iD
   else pure (false,Va.fo ⟨false,[],0,[]⟩)
  let d←sj
  let f←run n (.eT c.2.fA false)
  let e←sj
  if c.1=false∧st.bool=false∧d.af=e.af then iD
  else node l 14 h;pure (Va.fo (f.fA.yJ st.bool))
 |n+1, .lg b=>do
  if←fU l [42]then let _←kS l;run n (.lg true)
  else pure (Va.bo b)
 |n+1, .eT f a=>do
  if←eu l 0 [91]then let _←run n .array;run n (.eT f.BG true)
  else if←eu l 0 [40]then let p←run n .params;run n (.eT (f.yL p.jm) true)
  else pure (Va.fo f)
 |n+1, .array=>do
  let h←fH
  bY l [91]
  let _←if←fC l [115,116,97,116,105,99]then(do let _←kS l;run n .assign)
   else(do
    let q←kS l
    let st←if q then fC l [115,116,97,116,105,99]else pure false
    if st then run n .assign
    else if←eu l 0 [93]then pure Va.un
    else if(←eu l 0 [42])&&(←eu l 1 [93])then(do step l 1;pure Va.un)
    else run n .assign)
  bY l [93]
  node l 15 h
  pure Va.un
 |n+1, .params=>do
  let h←fH
  bY l [40]
  jU l
  let _←if←fU l [41]then pure Va.un else(do let _←run n .qA;let _←run n .su;bY l [41];pure Va.un)
  let s←sj
  eO
  node l 16 h
  pure (Va.pa s.nm.bZ)
 |n+1, .su=>do
  if←fU l [44]then
   if←fU l [46,46,46]then pure Va.un else let _←run n .qA;run n .su
  else pure Va.un
 |n+1, .qA=>do
  let h←fH
  let td←run n (.dh true)
  let _←if(←eu l 0 [44])||(←eu l 0 [41])then pure Va.un
   else(do
    let f←run n (.bP 1)
    let _←(if f.fA.named=true then bS l f.fA.name td.bool else pure ())
    pure Va.un)
  node l 17 h
  pure Va.un
 |n+1, .j6=>do
  if←o6 l [95,83,116,97,116,105,99,95,97,115,115,101,114,116]then run n .vH
  else
   let h←fH
   let td←run n (.dh true)
   if←eu l 0 [59]then bY l [59];node l 3 h;pure Va.un
   else
    let h1←fH
    let f←run n (.bP 0)
    bS l f.fA.name td.bool
    if(←eu l 0 [123])&&f.fA.ek==3 then let _←run n (.body f.fA.params);node l 2 h;pure Va.un
    else let _←run n (.iG h1);let _←run n (.jS td.bool);bY l [59];node l 3 h;pure Va.un
 |n+1, .body p=>do jU l;iE l p;let _←run n .wK;eO;pure Va.un
 |n+1, .iw=>do
  if←o6 l [95,83,116,97,116,105,99,95,97,115,115,101,114,116]then run n .vH
  else
   let h←fH
   let td←run n (.dh true)
   let _←if←eu l 0 [59]then pure Va.un else(do let _←run n (.uQ td.bool);run n (.jS td.bool))
   bY l [59]
   node l 3 h
   pure Va.un
 |n+1, .jS td=>do
  if←fU l [44]then let _←run n (.uQ td);run n (.jS td)
  else pure Va.un
 |n+1, .uQ td=>do let h←fH;let f←run n (.bP 0);bS l f.fA.name td;run n (.iG h)
 |n+1, .iG h=>do
  let _←if←fU l [61]then run n .jv else pure Va.un
  node l 13 h
  pure Va.un
 |n+1, .vH=>do let h←fH;step l 1;bY l [40];let _←run n .dx;bY l [44];jQ l;bY l [41];bY l [59];node l 4 h;pure Va.un
 |n+1, .wK=>do let h←fH;bY l [123];let _←run n .xz;node l 22 h;pure Va.un
 |n+1, .xz=>do
  if←fU l [125]then pure Va.un
  else
   let _←if !(←lM l)&&(←j5 l base)then run n .iw else run n .iy
   run n .xz
 |n+1, .part=>do jU l;let _←run n .iy;eO;pure Va.un
 |n+1, .iP=>do bY l [40];let _←run n .o9;bY l [41];pure Va.un
 |n+1, .ik t=>do
  let _←if←eu l 0 t then pure Va.un else run n .o9
  bY l t
  pure Va.un
 |n+1, .iy=>do
  let h←fH
  let t←rD l 0
  if←lM l then step l 2;let _←run n .iy;node l 23 h;pure Va.un
  else if←eu l 0 [123]then jU l;let _←run n .wK;eO;pure Va.un
  else
   let k←if t.c=1 then run n (.jg t.t h)else pure (Va.bo false)
   if k.bool then pure Va.un
   else let _←run n (.ik [59]);node l 26 h;pure Va.un
 |n+1, .jg t h=>do
  if t=[99,97,115,101]then step l 1;let _←run n .dx;bY l [58];let _←run n .iy;node l 24 h;pure (Va.bo true)
  else if t=[100,101,102,97,117,108,116]then step l 1;bY l [58];let _←run n .iy;node l 25 h;pure (Va.bo true)
  else if t=[103,111,116,111]then step l 1;let _←l9 l;bY l [59];node l 32 h;pure (Va.bo true)
  else if t=[99,111,110,116,105,110,117,101]∨t=[98,114,101,97,107]then step l 1;bY l [59];node l 32 h;pure (Va.bo true)
  else if t=[114,101,116,117,114,110]then step l 1;let _←run n (.ik [59]);node l 32 h;pure (Va.bo true)
  else if t∈[[105,102],[115,119,105,116,99,104],[119,104,105,108,101],[100,111],[102,111,114]]then step l 1;jU l;let _←run n (.jH t h);eO;pure (Va.bo true)
  else pure (Va.bo false)
 |n+1, .jH t h=>do
  if t=[105,102]then
   let _←run n .iP
   let _←run n .part
   let _←if←fC l [101,108,115,101]then run n .part else pure Va.un
   node l 27 h
   pure Va.un
  else if t=[115,119,105,116,99,104]then let _←run n .iP;let _←run n .part;node l 28 h;pure Va.un
  else if t=[119,104,105,108,101]then let _←run n .iP;let _←run n .part;node l 29 h;pure Va.un
  else if t=[100,111]then
   let _←run n .part
   if←fC l [119,104,105,108,101]then let _←run n .iP;bY l [59];node l 30 h;pure Va.un
   else iD
  else if t=[102,111,114]then
   bY l [40]
   let _←if←j5 l base then run n .iw else run n (.ik [59])
   let _←run n (.ik [59])
   let _←run n (.ik [41])
   let _←run n .part
   node l 31 h
   pure Va.un
  else pure Va.un
 |n+1, .dh a=>do
  let h←fH
  let r←run n (.jJ a 0 0 false)
  node l 5 h
  pure r
 |n+1, .jJ a w o td=>if l.length<w+o then FJ else do
  let t←rD l 0
  let s←sj
  let en:Pm Va:=if w+o=0∨1<o∨0<w∧0<o then iD else pure (Va.bo td)
  if t.c=2 then
   if 0<w+o∨s.nm.l8 base t.t=false then en
   else step l 1;run n (.jJ a w (o+1) td)
  else if t.c≠1 then en
  else if spec t.t=1∧a=true then step l 1;run n (.jJ a w o (td||t.t==[116,121,112,101,100,101,102]))
  else if spec t.t=2∧a=true then let _←run n .wL;run n (.jJ a w o td)
  else if spec t.t=3∨spec t.t=4∧aX l s 1 [40]=false then step l 1;run n (.jJ a w o td)
  else if spec t.t=5 then step l 1;run n (.jJ a (w+1) o td)
  else if spec t.t=4 then let _←run n .atomic;run n (.jJ a w (o+1) td)
  else if spec t.t=6 then let _←run n .qW;run n (.jJ a w (o+1) td)
  else if spec t.t=7 then let _←run n .yP;run n (.jJ a w (o+1) td)
  else en
 |n+1, .wL=>do
  let h←fH
  step l 1
  bY l [40]
  let _←if←wI l base 0 then run n .kg else run n .dx
  bY l [41]
  node l 11 h
  pure Va.un
 |n+1, .atomic=>do let h←fH;step l 1;let _←run n .mW;node l 12 h;pure Va.un
 |n+1, .qW=>do
  let h←fH
  step l 1
  let t←rD l 0
  let _←(if t.c=2 then step l 1 else pure ())
  if←fU l [123]then let _←run n .nP;let _←run n .uJ;node l 6 h;pure Va.un
  else if t.c=2 then node l 6 h;pure Va.un
  else iD
 |n+1, .uJ=>do
  if←fU l [125]then pure Va.un
  else let _←run n .nP;run n .uJ
 |n+1, .nP=>do
  if←o6 l [95,83,116,97,116,105,99,95,97,115,115,101,114,116]then run n .vH
  else
   let h←fH
   let _←run n (.dh false)
   let _←if←eu l 0 [59]then pure Va.un else(do let _←run n .field;run n .wM)
   bY l [59]
   node l 7 h
   pure Va.un
 |n+1, .wM=>do
  if←fU l [44]then let _←run n .field;run n .wM
  else pure Va.un
 |n+1, .field=>do
  let h←fH
  let _←if←eu l 0 [58]then pure Va.un else run n (.bP 0)
  let _←if←fU l [58]then run n .dx else pure Va.un
  node l 8 h
  pure Va.un
 |n+1, .yP=>do
  let h←fH
  step l 1
  let t←rD l 0
  let _←(if t.c=2 then step l 1 else pure ())
  if←fU l [123]then let _←run n .ma;let _←run n .BU;bY l [125];node l 9 h;pure Va.un
  else if t.c=2 then node l 9 h;pure Va.un
  else iD
 |n+1, .BU=>do
  if←fU l [44]then
   if←eu l 0 [125]then pure Va.un else let _←run n .ma;run n .BU
  else pure Va.un
 |n+1, .ma=>do
  let h←fH
  let x←l9 l
  let _←if←fU l [61]then run n .dx else pure Va.un
  node l 10 h
  bS l x false
  pure Va.un
 |n+1, .kg=>do
  let h←fH
  let _←run n (.dh false)
  let _←if(←eu l 0 [42])||(←eu l 0 [40])||(←eu l 0 [91])then run n (.bP 2)else pure Va.un
  node l 18 h
  pure Va.un
 |n+1, .unit=>do
  let s←sj
  if s.af<l.length then let _←run n .j6;run n .unit
  else node l 1 (0,0);pure Va.un
end
inductive Fo:Nat→Nat→List Nd→Prop
 |nil {a b:Nat} (h:a≤b):Fo a b []
 |snoc {a m lo hi b k:Nat} {F K:List Nd} (h1:Fo a m F) (h2:m≤lo) (h3:Fo lo hi K) (h4:hi≤b) (h5:1≤k∧k≤58):Fo a b (F++(K++[⟨k,lo,hi,K.length+1⟩]))
theorem Fo.mono{a b b':Nat}{L:List Nd}(h:Fo a b L)(hb:b≤b'):Fo a b' L:=by
 cases h with
 |nil h=>exact .nil (aaT h hb)
 |snoc h1 h2 h3 h4 h5=>exact .snoc h1 h2 h3 (aaT h4 hb) h5
theorem Fo.append{a m b:Nat}{F L:List Nd}(h:Fo a m F)(k:Fo m b L):Fo a b (F++L):=by
 induction k with
 |nil hb=>rw[List.append_nil];exact h.mono hb
 |snoc h1 h2 h3 h4 h5 i1 i3=>
  rw[←Ψ];exact .snoc (i1 h) h2 h3 h4 h5
theorem Fo.wrap{a b k:Nat}{K:List Nd}(h:Fo a b K)(hk:1≤k∧k≤58):Fo a b (K++[⟨k,a,b,K.length+1⟩]):=by
 have:=Fo.snoc (.nil (υ a)) (υ a) h (υ b) hk
 simpa using this
def Tr(s s':Ps):Prop:=s.af≤s'.af∧∃F,s'.done=s.done++F∧Fo s.af s'.af F
theorem Tr.refl(s:Ps):Tr s s:=⟨υ _,[],by simp, .nil (υ _)⟩
theorem Tr.trans{a b c:Ps}(h:Tr a b)(k:Tr b c):Tr a c:=by
 obtain⟨h1,F,h2,h3⟩:=h
 obtain⟨k1,L,k2,k3⟩:=k
 exact⟨aaT h1 k1,F++L,by rw[k2,h2,Ψ],h3.append k3⟩
theorem Tr.vI{a b c:Ps}(k:Tr b c)(h:Tr a b):Tr a c:=h.trans k
theorem Tr.go{a b:Ps}(h:a.af≤b.af)(hd:b.done=a.done):Tr a b:=⟨h,[],by rw[hd,List.append_nil], .nil h⟩
theorem Tr.node{a b:Ps}(h:Tr a b){k:Nat}(hk:1≤k∧k≤58):Tr a {b with done:=b.done++[⟨k,a.af,b.af,b.done.length - a.done.length+1⟩]}:=by
 obtain⟨h1,F,h2,h3⟩:=h
 refine⟨h1,F++[⟨k,a.af,b.af,F.length+1⟩],?_,h3.wrap hk⟩
 simp only[h2,Δ,Nat.add_sub_cancel_left,Ψ]
def Nr(s s':Ps):Prop:=s'.nm.bl=s.nm.bl∧∃m,s'.nm.ch=s.nm.ch++m
theorem Nr.refl(s:Ps):Nr s s:=⟨rfl,[],by simp⟩
theorem Nr.of{a b:Ps}(h:b.nm=a.nm):Nr a b:=⟨by rw[h],[],by rw[h,List.append_nil]⟩
theorem Nr.trans{a b c:Ps}(h:Nr a b)(k:Nr b c):Nr a c:=by
 obtain⟨h1,m,h2⟩:=h
 obtain⟨k1,m',k2⟩:=k
 exact⟨by rw[k1,h1],m++m',by rw[k2,h2,Ψ]⟩
theorem Nr.vI{a b c:Ps}(k:Nr b c)(h:Nr a b):Nr a c:=h.trans k
def Va.size:Va→Nat
 | .fo f=>f.params.length
 | .pa x=>x.length
 |_=>0
theorem sF:Va.un.size=0:=rfl
theorem sG(b:Bool):(Va.bo b).size=0:=rfl
theorem sH(f:Fm):(Va.fo f).size=f.params.length:=rfl
theorem sI(p:List (Bs×Bool)):(Va.pa p).size=p.length:=rfl
theorem om(f:Fm):(Va.fo f).fA=f:=rfl
theorem sJ:Va.un.bool=false:=rfl
theorem qd(b:Bool):(Va.bo b).bool=b:=rfl
theorem OM(v:Va):v.fA.params.length≤v.size:=by cases v<;>simp[Va.fA,Va.size]
theorem OO(v:Va):v.jm.length≤v.size:=by cases v<;>simp[Va.jm,Va.size]
theorem qi(b:Bool)(f:Fm):(f.yJ b).params.length=f.params.length:=by unfold Fm.yJ;split<;>rfl
theorem qj(f:Fm):f.BG.params.length=f.params.length:=by unfold Fm.BG;split<;>rfl
theorem ac1(f:Fm)(p:List (Bs×Bool)):(f.yL p).params.length≤f.params.length+p.length:=by unfold Fm.yL;split<;>simp
def G{α:Type}(Q:α→Ps→Prop):Rs α→Prop
 | .ok a s=>Q a s
 | .no=>True
 | .out=>False
section
variable {l:List Ct} {base:Bs→Bool} {α β:Type} {Q:β→Ps→Prop} {s sh:Ps}
theorem nQ{x:Pm α}{f:α→Pm β}(h:G (fun a s1=>G Q (f a s1)) (x s)):G Q ((x>>=f) s):=by
 show G Q (Pm.bind x f s)
 unfold Pm.bind
 cases hx:x s with
 |ok a s1=>rw[hx]at h;exact h
 |no=>trivial
 |out=>rw[hx]at h;exact h
theorem G.mono{Q':β→Ps→Prop}{r:Rs β}(h:G Q r)(k:∀a s,Q a s→Q' a s):G Q' r:=by
 cases r with
 |ok a s=>exact k a s h
 |no=>trivial
 |out=>exact h
theorem Z9{a:β}(h:Q a s):G Q ((pure a:Pm β) s):=h
theorem aaa:G Q ((iD:Pm β) s):=trivial
theorem afj{A B:Pm β}(h:G Q (A s)):G Q ((if true=true then A else B) s):=h
theorem afk{A B:Pm β}(h:G Q (B s)):G Q ((if false=true then A else B) s):=h
theorem qU{k:Nat}(h:(az l s k).c≠0):s.af+k<l.length:=by
 refine Nat.lt_of_not_le fun hle=>h ?_
 unfold az
 rw[abN,acO hle]
 rfl
theorem zU{k:Nat}{t:Bs}(h:aX l s k t=true):s.af+k<l.length:=by
 refine qU (l:=l) fun e=>?_
 unfold aX at h
 rw[e]at h
 cases h
theorem Nk{t:Bs}(h:iX l s t=true):s.af<l.length:=by
 refine qU (l:=l) (k:=0) fun e=>?_
 unfold iX at h
 rw[e]at h
 cases h
variable {k:α→Pm β}
theorem aab{k:Nat×Nat→Pm β}(h:G Q (k (s.af,s.done.length) s)):G Q ((fH>>=k) s):=h
theorem afl{k:Ps→Pm β}(h:G Q (k s s)):G Q ((sj>>=k) s):=h
def FK(l:List Ct)(s:Ps)(n:Nat)(s2:Ps):Prop:=s2.af=n∧n≤l.length∧s2.done.length=s.done.length∧s2.nm.ch.length=s.nm.ch.length∧s2.nm.bl.length=s.nm.bl.length
variable {n : Nat}
theorem FI (h:s.af≤n)(hn:n≤l.length)(P:Ps→Prop)(hP:∀s2,FK l s n s2→Tr s s2→Nr s s2→P s2):P {s with af:=n}:=
 hP _ ⟨rfl,hn,rfl,rfl,rfl⟩ (Tr.go h rfl) (Nr.of rfl)
theorem aac {k:Unit→Pm β}(hn:s.af+n≤l.length)(h:∀s2,FK l s (s.af+n) s2→Tr s s2→Nr s s2→G Q (k () s2)):G Q ((step l n>>=k) s):=by
 refine nQ ?_
 unfold step
 rw[ω hn]
 exact FI (agD _ _) hn (fun s2=>G Q (k () s2)) h
theorem Nl {Q:Unit→Ps→Prop}(hn:s.af+n≤l.length)(h:∀s2,FK l s (s.af+n) s2→Tr s s2→Nr s s2→Q () s2):G Q (step l n s):=by
 unfold step
 rw[ω hn]
 exact FI (agD _ _) hn (fun s2=>Q () s2) h
theorem aad {k:Unit→Pm β}(hT:Tr sh s)(hn:1≤n∧n≤58)(hd:s.done.length≤4*l.length)(h:∀s2,(s2.af=s.af∧s2.done.length=s.done.length+1∧s2.nm.ch.length=s.nm.ch.length∧s2.nm.bl.length=s.nm.bl.length)→Tr sh s2→Nr s s2→G Q (k () s2)):G Q ((node l n (sh.af,sh.done.length)>>=k) s):=by
 refine nQ ?_
 unfold node
 rw[ω ⟨hd,by obtain⟨_,F,hF,_⟩:=hT;show sh.done.length≤_;rw[hF,Δ];omega⟩]
 exact h {s with done:=s.done++[⟨n,sh.af,s.af,s.done.length - sh.done.length+1⟩]} ⟨rfl,by simp,rfl,rfl⟩ (hT.node hn) (Nr.of rfl)
variable {x : Bs}
theorem FL {Q:Unit→Ps→Prop}{b:Bool}(hd:s.nm.ch.length≤2*l.length)(h:∀s2,(s2.af=s.af∧s2.done.length=s.done.length∧s2.nm.ch.length≤s.nm.ch.length+1∧s2.nm.bl.length=s.nm.bl.length)→Tr s s2→Nr s s2→Q () s2):G Q (bS l x b s):=by
 unfold bS
 rw[ω hd]
 refine h {s with nm:=s.nm.bS x b} ⟨rfl,rfl,?_,?_⟩ (Tr.go (υ _) rfl) ?_
 ·unfold Ns.bS;split<;>simp
 ·unfold Ns.bS;split<;>rfl
 ·unfold Ns.bS;split
  ·exact Nr.of rfl
  ·exact⟨rfl,_,rfl⟩
theorem He {k:Unit→Pm β}{b:Bool}(hd:s.nm.ch.length≤2*l.length)(h:∀s2,(s2.af=s.af∧s2.done.length=s.done.length∧s2.nm.ch.length≤s.nm.ch.length+1∧s2.nm.bl.length=s.nm.bl.length)→Tr s s2→Nr s s2→G Q (k () s2)):G Q ((bS l x b>>=k) s):=
 nQ (FL hd h)
theorem GI:∀(p:List (Bs×Bool)) {s:Ps} {Q:Unit→Ps→Prop},s.nm.ch.length+p.length≤2*l.length→(∀s2,(s2.af=s.af∧s2.done.length=s.done.length∧s2.nm.ch.length≤s.nm.ch.length+p.length∧s2.nm.bl.length=s.nm.bl.length)→Tr s s2→Nr s s2→Q () s2)→G Q (iE l p s)
 |[],s,Q,_,h=>h s ⟨rfl,rfl,υ _,rfl⟩ (Tr.refl s) (Nr.refl s)
 |x::p,s,Q,hd,h=>by
  unfold iE
  refine He η fun s2 ⟨a1,a2,a3,a4⟩ t1 n1=>?_
  rw[aaJ]at hd
  refine GI p η fun s3 ⟨b1,b2,b3,b4⟩ t2 n2=>?_
  exact h s3 ⟨by omega,by omega,by rw[aaJ];omega,by omega⟩ (t1.trans t2) (n1.trans n2)
theorem Hf{k:Unit→Pm β}{p:List (Bs×Bool)}(hd:s.nm.ch.length+p.length≤2*l.length)(h:∀s2,(s2.af=s.af∧s2.done.length=s.done.length∧s2.nm.ch.length≤s.nm.ch.length+p.length∧s2.nm.bl.length=s.nm.bl.length)→Tr s s2→Nr s s2→G Q (k () s2)):G Q ((iE l p>>=k) s):=
 nQ (GI p hd h)
theorem aae{k:Unit→Pm β}(hd:s.nm.bl.length≤2*l.length+1)(h:∀s2,s2.nm=s.nm.kH→(s2.af=s.af∧s2.done.length=s.done.length∧s2.nm.ch.length=s.nm.ch.length∧s2.nm.bl.length=s.nm.bl.length+1)→Tr s s2→G Q (k () s2)):G Q ((jU l>>=k) s):=by
 refine nQ ?_
 unfold jU
 rw[ω hd]
 exact h {s with nm:=s.nm.kH} rfl ⟨rfl,rfl,rfl,by simp[Ns.kH]⟩ (Tr.go (υ _) rfl)
theorem VZ{k:Unit→Pm β}{a b:Ps}(hb:b.nm=a.nm.kH)(hr:Nr b s)(h:∀s2,(s2.af=s.af∧s2.done.length=s.done.length∧s2.nm.ch.length=a.nm.ch.length∧s2.nm.bl.length=a.nm.bl.length∧s.nm.bZ.length+a.nm.ch.length=s.nm.ch.length)→Tr s s2→Nr a s2→G Q (k () s2)):G Q ((eO>>=k) s):=by
 refine nQ ?_
 obtain⟨h1,m,h2⟩:=hr
 rw[hb]at h1 h2
 simp only[Ns.kH]at h1 h2
 have hl:s.nm.bl.getLast? =some a.nm.ch.length:=by rw[h1];simp
 have hc:a.nm.ch.length≤s.nm.ch.length:=by rw[h2];simp
 have hn:s.nm.oN=a.nm:=by
  unfold Ns.oN;rw[hl,h1,h2];simp
 unfold eO
 rw[hl]
 simp only[hc,if_true]
 refine h {s with nm:=s.nm.oN} ⟨rfl,rfl,by rw[hn],by rw[hn],?_⟩ (Tr.go (υ _) rfl) (Nr.of hn)
 unfold Ns.bZ
 rw[hl]
 simp only[Option.getD_some,agj]
 omega
theorem aaf {k:Ct→Pm β}(h:∀t:Ct,(t.c=0∨s.af+n<l.length)→az l s n=t→G Q (k t s)):G Q ((rD l n>>=k) s):=by
 refine h (az l s n) ?_ rfl
 by_cases e:(az l s n).c=0
 ·exact .inl e
 ·exact .inr (qU e)
variable {t : Bs}
theorem aag {k:Bool→Pm β}(h1:aX l s n t=true→s.af+n<l.length→G Q (k true s))(h2:aX l s n t=false→G Q (k false s)):G Q ((eu l n t>>=k) s):=by
 show G Q (k (aX l s n t) s)
 cases e:aX l s n t with
 |true=>exact h1 e (zU e)
 |false=>exact h2 e
theorem aah {k:Bool→Pm β}(h1:iX l s t=true→s.af<l.length→G Q (k true s))(h2:iX l s t=false→G Q (k false s)):G Q ((o6 l t>>=k) s):=by
 show G Q (k (iX l s t) s)
 cases e:iX l s t with
 |true=>exact h1 e (Nk e)
 |false=>exact h2 e
theorem JY{k:Bool→Pm β}(h1:s.af<l.length→G Q (k true s))(h2:G Q (k false s)):G Q ((kP l base>>=k) s):=by
 show G Q (k (aX l s 0 [40]&&nO l base s 1) s)
 cases e:(aX l s 0 [40]&&nO l base s 1)with
 |true=>rw[aaS]at e;exact h1 (zU e.1)
 |false=>exact h2
theorem V4 {k:Bool→Pm β}(h1:G Q (k true s))(h2:G Q (k false s)):G Q ((wI l base n>>=k) s):=by
 show G Q (k (nO l base s n) s)
 cases nO l base s n<;>assumption
theorem LB{k:Bool→Pm β}(h1:G Q (k true s))(h2:G Q (k false s)):G Q ((j5 l base>>=k) s):=by
 show G Q (k (iX l s _||jD l base s 0) s)
 cases(iX l s _||jD l base s 0)<;>assumption
theorem LC{k:Bool→Pm β}(h1:s.af+1<l.length→G Q (k true s))(h2:G Q (k false s)):G Q ((lM l>>=k) s):=by
 show G Q (k ((az l s 0).c==2&&aX l s 1 [58]) s)
 cases e:((az l s 0).c==2&&aX l s 1 [58])with
 |true=>rw[aaS]at e;exact h1 (zU e.2)
 |false=>exact h2
theorem V5{k:Nat→Pm β}(h1:∀n,n≤45→(n=0∨s.af<l.length)→G Q (k n s)):G Q ((dB l>>=k) s):=by
 show G Q (k (if(az l s 0).c=7 then Co (az l s 0).t else 0) s)
 split
 ·rename_i e
  refine h1 _ ?_ (.inr (qU (l:=l) (k:=0) (by rw[e];decide)));unfold Co
  repeat' split
  all_goals omega
 ·exact h1 0 η (.inl rfl)
theorem OP{k:Bool→Pm β}(h1:s.af<l.length→G Q (k true s))(h2:G Q (k false s)):G Q ((ny l>>=k) s):=by
 show G Q (k ((az l s 0).c==7&&Hd (az l s 0).t) s)
 cases e:((az l s 0).c==7&&Hd (az l s 0).t)with
 |true=>
  rw[aaS,aaZ]at e;exact h1 (qU (l:=l) (k:=0) (by rw[e.1];decide))
 |false=>exact h2
theorem aai {k:Bool→Pm β}(h1:∀s2,FK l s (s.af+1) s2→Tr s s2→Nr s s2→G Q (k true s2))(h2:aX l s 0 t=false→G Q (k false s)):G Q ((fU l t>>=k) s):=by
 refine nQ ?_
 unfold fU
 cases e:aX l s 0 t with
 |true=>exact FI (abK _) (zU e) (fun s2=>G Q (k true s2)) h1
 |false=>exact h2 e
theorem LD {k:Bool→Pm β}(h1:∀s2,FK l s (s.af+1) s2→Tr s s2→Nr s s2→G Q (k true s2))(h2:iX l s t=false→G Q (k false s)):G Q ((fC l t>>=k) s):=by
 refine nQ ?_
 unfold fC
 cases e:iX l s t with
 |true=>exact FI (abK _) (Nk e) (fun s2=>G Q (k true s2)) h1
 |false=>exact h2 e
theorem aaj {k:Unit→Pm β}(h1:∀s2,FK l s (s.af+1) s2→Tr s s2→Nr s s2→G Q (k () s2)):G Q ((bY l t>>=k) s):=by
 refine nQ ?_
 unfold bY
 cases e:aX l s 0 t with
 |true=>exact FI (abK _) (zU e) (fun s2=>G Q (k () s2)) h1
 |false=>trivial
theorem aak{k:Bs→Pm β}(h1:∀x s2,FK l s (s.af+1) s2→Tr s s2→Nr s s2→G Q (k x s2)):G Q ((l9 l>>=k) s):=by
 refine nQ ?_
 unfold l9
 split
 ·rename_i e
  exact FI (abK _) (qU (l:=l) (k:=0) (by rw[e];decide)) (fun s2=>G Q (k _ s2)) (h1 _)
 ·trivial
theorem Q0(l:List Ct):∀(n:Nat) (s:Ps),s.af≤l.length→s.af≤kZ l n s∧kZ l n s≤l.length
 |0,s,h=>⟨υ _,h⟩
 |n+1,s,h=>by
  unfold kZ
  split
  ·rename_i e
   have hl:=qU (l:=l) (s:=s) (k:=0) (by rw[e.1];decide);have:=Q0 l n {s with af:=s.af+1} hl;exact⟨aaT (abK _) this.1,this.2⟩
  ·exact⟨υ _,h⟩
theorem V6(l:List Ct):∀(n:Nat) (s:Ps),s.af≤l.length→s.af≤ug l n s∧ug l n s≤l.length
 |0,s,h=>⟨υ _,h⟩
 |n+1,s,h=>by
  unfold ug
  split
  ·rename_i e
   have hl:=qU (l:=l) (s:=s) (k:=0) (by rw[e];decide);have:=V6 l n {s with af:=s.af+1} hl;exact⟨aaT (abK _) this.1,this.2⟩
  ·exact⟨υ _,h⟩
theorem V7{k:Bool→Pm β}(hl:s.af≤l.length)(h1:∀b n s2,s.af≤n→FK l s n s2→Tr s s2→Nr s s2→G Q (k b s2)):G Q ((kS l>>=k) s):=by
 have hq:=Q0 l (l.length - s.af+1) s hl
 exact FI hq.1 hq.2 (fun s2=>G Q (k _ s2)) (fun s2=>h1 _ _ s2 hq.1)
theorem OQ{k:Unit→Pm β}(h1:∀n s2,s.af+1≤n→FK l s n s2→Tr s s2→Nr s s2→G Q (k () s2)):G Q ((jQ l>>=k) s):=by
 refine nQ ?_
 unfold jQ
 split
 ·rename_i e
  have hl:=qU (l:=l) (s:=s) (k:=0) (by rw[e];decide);have hq:=V6 l (l.length - s.af) {s with af:=s.af+1} hl
  have he:ug l (l.length - s.af+1) s=ug l (l.length - s.af) {s with af:=s.af+1}:=by
   conv=>lhs;unfold ug
   rw[ω e]
  rw[he];exact FI (aaT (abK _) hq.1) hq.2 (fun s2=>G Q (k () s2)) (fun s2=>h1 _ s2 hq.1)
 ·trivial
end
def Bn:Tg→Nat
 | .jf _=>1| .wJ=>4| .jG _=>2| .jT=>3| .unary=>4| .size _=>5| .cast=>5| .fI _=>6| .dx=>7| .assign=>8| .o9=>9| .jv=>9| .uh=>1| .nz=>10| .ik _=>10
 | .eT _ _=>1| .bP _=>2| .jJ _ _ _ _=>1| .dh _=>2| .kg=>3| .qA=>3| .field=>3| .nP=>4| .uJ=>5| .uQ _=>3| .iw=>4| .body _=>1| .j6=>4
 | .iy=>11| .part=>12| .xz=>12| .jH _ _=>13| .unit=>5
 |_=>0
def frame:Tg→Option (Nat×Nat)
 | .yO h=>some h| .fT _ h _=>some h| .jG h=>some h| .jf h=>some h| .iG h=>some h| .jg _ h=>some h| .jH _ h=>some h
 | .unit=>some (0,0)
 |_=>none
def st:Tg→Nat
 | .yO _| .fT _ _ _| .jf _| .jG _| .xN| .xR| .zS| .uh| .pg| .lg _| .eT _ _| .su| .jS _| .iG _| .jg _ _| .jH _ _| .wM| .uJ| .BU| .unit| .field=>0
 | .jJ _ w o _=>1 - (w+o)
 |_=>1
def sk(b:Bool):Tg→Nat
 | .yO _| .fT _ _ _| .jf _| .xN| .xR| .zS| .uh| .pg| .su| .jS _| .wM| .uJ| .BU| .xz| .jH _ _=>1
 | .lg _| .eT _ _=>1
 | .jg _ _=>if b then 4 else 1
 | .jG _| .nz| .bP _| .kg| .qA| .wJ=>3
 | .uQ _=>2
 | .iG _| .unit| .field=>0
 | .jJ _ w o _=>1+4*(1 - (w+o))
 | .wL| .atomic| .qW| .yP| .ik _=>5
 |_=>4
def sm:Tg→Nat
 | .lg _| .eT _ _=>3
 |_=>0
def cc:Tg→Nat
 | .dh _| .qW| .yP| .atomic=>1
 | .jJ _ w o _=>1 - (w+o)
 | .bP k=>1 - k
 |_=>0
def cB:Tg→Nat
 | .wK=>0
 | .part| .jH _ _| .body _=>2
 |_=>1
def wo:Tg→Nat
 | .jJ _ w o _=>w+o
 |_=>0
def lv:Tg→Nat
 | .fI k=>k
 | .fT k _ _=>k
 |_=>36
def xO:Tg→Nat
 | .jg _ _| .vH| .wL| .atomic| .qW| .yP=>1
 |_=>0
def Tg.sz:Tg→Nat
 | .eT f _=>f.params.length
 | .body p=>p.length
 |_=>0
def cond:Tg→Bool
 | .pg=>true
 | .jg _ _=>true
 | .lg b=>!b
 |_=>false
def Az(l:List Ct)(n:Nat)(tg:Tg)(s:Ps):Prop:=s.af+xO tg≤l.length∧36≤lv tg∧s.done.length≤4*s.af∧s.nm.ch.length+tg.sz≤2*s.af∧s.nm.bl.length+cB tg≤2*s.af+1∧wo tg≤s.af∧16*(l.length - s.af)+Bn tg<n
def sM(l:List Ct)(tg:Tg)(s:Ps)(v:Va)(s1:Ps):Prop:=s.af+st tg≤s1.af∧s1.af≤l.length∧s1.done.length+sk v.bool tg+sm tg*min 1 (s1.af - s.af)+4*s.af≤s.done.length+4*s1.af+1∧s1.nm.ch.length+v.size+cc tg+2*s.af≤s.nm.ch.length+tg.sz+2*s1.af∧s1.nm.bl.length=s.nm.bl.length
def aiw(l:List Ct)(tg:Tg)(sh s:Ps)(v:Va)(s1:Ps):Prop:=Tr sh s1∧Nr s s1∧sM l tg s v s1∧(cond tg=true→v.bool=true→s.af<s1.af)
def Ih(l:List Ct)(base:Bs→Bool)(n:Nat):Prop:=∀(tg:Tg) (sh s:Ps),(frame tg=none→sh=s)→(∀h,frame tg=some h→h=(sh.af,sh.done.length))→Tr sh s→Az l n tg s→G (aiw l tg sh s) (run l base n tg s)
section
variable {l:List Ct} {base:Bs→Bool} {n:Nat} {β:Type} {Q:β→Ps→Prop} {s sh:Ps} {k:Va→Pm β}
theorem QG{tg:Tg}{Q:Va→Ps→Prop}(ih:Ih l base n)(hf:frame tg=none)(hp:Az l n tg s)
 (h:∀v s1,Tr s s1→Nr s s1→sM l tg s v s1→v.fA.params.length≤v.size→v.jm.length≤v.size→(cond tg=true→v.bool=true→s.af<s1.af)→Q v s1):G Q (run l base n tg s):=
 (ih tg s s (fun _=>rfl) (fun h e=>by rw[hf]at e;cases e) (Tr.refl s) hp).mono fun v s1 ⟨h1,h2,h3,h4⟩=>h v s1 h1 h2 h3 (OM v) (OO v) h4
theorem aal{tg:Tg}{Q:Va→Ps→Prop}(ih:Ih l base n)(hf:frame tg=none)(hc:cond tg=true)(hp:Az l n tg s)
 (h1:∀v s1,v.bool=true→Tr s s1→Nr s s1→sM l tg s v s1→v.fA.params.length≤v.size→v.jm.length≤v.size→s.af<s1.af→Q v s1)
 (h2:∀v s1,v.bool=false→Tr s s1→Nr s s1→sM l tg s v s1→v.fA.params.length≤v.size→v.jm.length≤v.size→Q v s1):G Q (run l base n tg s):=
 QG ih hf hp fun v s1 a1 a2 a3 a4 a5 a6=>by
  cases hv:v.bool with
  |true=>exact h1 v s1 hv a1 a2 a3 a4 a5 (a6 hc hv)
  |false=>exact h2 v s1 hv a1 a2 a3 a4 a5
theorem aix{tg:Tg}(ih:Ih l base n)(hf:frame tg=none)(hc:cond tg=true)(hp:Az l n tg s)
 (h1:∀v s1,v.bool=true→Tr s s1→Nr s s1→sM l tg s v s1→v.fA.params.length≤v.size→v.jm.length≤v.size→s.af<s1.af→G Q (k v s1))
 (h2:∀v s1,v.bool=false→Tr s s1→Nr s s1→sM l tg s v s1→v.fA.params.length≤v.size→v.jm.length≤v.size→G Q (k v s1)):G Q ((run l base n tg>>=k) s):=
 nQ (aal ih hf hc hp h1 h2)
theorem afm{tg:Tg}(ih:Ih l base n)(hf:frame tg=none)(hp:Az l n tg s)
 (h:∀v s1,Tr s s1→Nr s s1→sM l tg s v s1→v.fA.params.length≤v.size→v.jm.length≤v.size→(cond tg=true→v.bool=true→s.af<s1.af)→G Q (k v s1)):G Q ((run l base n tg>>=k) s):=
 nQ (QG ih hf hp h)
theorem Hg{tg:Tg}{Q:Va→Ps→Prop}(ih:Ih l base n)(hf:frame tg=some (sh.af,sh.done.length))(hT:Tr sh s)(hp:Az l n tg s)
 (h:∀v s1,Tr sh s1→Nr s s1→sM l tg s v s1→v.fA.params.length≤v.size→v.jm.length≤v.size→(cond tg=true→v.bool=true→s.af<s1.af)→Q v s1):G Q (run l base n tg s):=
 (ih tg sh s (fun e=>by rw[hf]at e;cases e) (fun h e=>by rw[hf]at e;cases e;rfl) hT hp).mono fun v s1 ⟨h1,h2,h3,h4⟩=>h v s1 h1 h2 h3 (OM v) (OO v) h4
theorem V8{tg:Tg}{Q:Va→Ps→Prop}(ih:Ih l base n)(hf:frame tg=some (sh.af,sh.done.length))(hc:cond tg=true)(hT:Tr sh s)(hp:Az l n tg s)
 (h1:∀v s1,v.bool=true→Tr sh s1→Nr s s1→sM l tg s v s1→v.fA.params.length≤v.size→v.jm.length≤v.size→s.af<s1.af→Q v s1)
 (h2:∀v s1,v.bool=false→Tr sh s1→Nr s s1→sM l tg s v s1→v.fA.params.length≤v.size→v.jm.length≤v.size→Q v s1):G Q (run l base n tg s):=
 Hg ih hf hT hp fun v s1 a1 a2 a3 a4 a5 a6=>by
  cases hv:v.bool with
  |true=>exact h1 v s1 hv a1 a2 a3 a4 a5 (a6 hc hv)
  |false=>exact h2 v s1 hv a1 a2 a3 a4 a5
theorem aam{tg:Tg}(ih:Ih l base n)(hf:frame tg=some (sh.af,sh.done.length))(hT:Tr sh s)(hp:Az l n tg s)
 (h:∀v s1,Tr sh s1→Nr s s1→sM l tg s v s1→v.fA.params.length≤v.size→v.jm.length≤v.size→(cond tg=true→v.bool=true→s.af<s1.af)→G Q (k v s1)):G Q ((run l base n tg>>=k) s):=
 nQ (Hg ih hf hT hp h)
theorem ag4{tg:Tg}(ih:Ih l base n)(hf:frame tg=some (sh.af,sh.done.length))(hc:cond tg=true)(hT:Tr sh s)(hp:Az l n tg s)
 (h1:∀v s1,v.bool=true→Tr sh s1→Nr s s1→sM l tg s v s1→v.fA.params.length≤v.size→v.jm.length≤v.size→s.af<s1.af→G Q (k v s1))
 (h2:∀v s1,v.bool=false→Tr sh s1→Nr s s1→sM l tg s v s1→v.fA.params.length≤v.size→v.jm.length≤v.size→G Q (k v s1)):G Q ((run l base n tg>>=k) s):=
 nQ (V8 ih hf hc hT hp h1 h2)
end
end Go.Proofs.YtlboejdhmggjpaaGreat.Pp
namespace Go.Proofs.YtlboejdhmggjpaaGreat
abbrev Bs:=List UInt8
def anW(c:UInt8):Option UInt8:=
 if c=61 then some 35 else if c=47 then some 92 else if c=39 then some 94 else if c=40 then some 91 else if c=41 then some 93 else if c=33 then some 124 else if c=60 then some 123 else if c=62 then some 125 else if c=45 then some 126 else none
structure Pt where
 b:UInt8
 pos:Nat
 len:Nat
 spl:Bool
deriving DecidableEq
def tri(s:Bs)(i:Nat):Option UInt8:=if s[i]? =some 63∧s[i+1]? =some 63 then(s[i+2]?).bind anW else none
def OT(s:Bs)(i:Nat):UInt8×Nat:=match tri s i with|some c=>(c,3)|none=>(s.getD i 0,1)
def anX(s:Bs)(i:Nat):Bool:=(OT s i).1==92&&s[i+(OT s i).2]? ==some 10
def XT(s:Bs)(i:Nat):Pt:=if anX s i then⟨0,i,(OT s i).2+1,true⟩else⟨(OT s i).1,i,(OT s i).2,false⟩
theorem ag9(s:Bs)(i:Nat):1≤(OT s i).2:=by unfold OT;split<;>simp
theorem aiE(s:Bs)(i:Nat):1≤(XT s i).len:=by unfold XT;have:=ag9 s i;split<;>simp<;>omega
def aiF(s:Bs)(i:Nat):List Pt:=if h:i<s.length then XT s i::aiF s (i+(XT s i).len)else[]
termination_by s.length - i
decreasing_by have:=aiE s i;omega
def aiG(p:Pt):Bool:=p.spl||p.b !=10
def aiH(s:Bs):Bool:=match(aiF s 0).getLast? with|none=>false|some p=>aiG p
def chk(s:Bs):Nat:=if 65536<s.length then 3 else if aiH s then 10 else 0
def Hm(c:UInt8):Bool:=(decide (97≤c.toNat)&&decide (c.toNat≤122))||(decide (65≤c.toNat)&&decide (c.toNat≤90))||decide (c.toNat=95)
def Ar(c:UInt8):Bool:=decide (48≤c.toNat)&&decide (c.toNat≤57)
def eu(c:UInt8):Bool:=decide (c.toNat=43)||decide (c.toNat=45)
def ac4(c:UInt8):Bool:=decide (c.toNat=101)||decide (c.toNat=69)||decide (c.toNat=112)||decide (c.toNat=80)
def XU(c:UInt8):Bool:=Ar c||Hm c||decide (c.toNat=46)
def aiI:Bs→Nat
 |[]=>0
 |c::r=>if Hm c||Ar c then aiI r+1 else 0
def arz:Bs→Nat
 |[]=>0
 |c::r=>if Hm c then aiI r+1 else 0
def XV:Bs→Nat
 |[]=>0
 |[c]=>if XU c then 1 else 0
 |c::d::r=>if ac4 c&&eu d then XV r+2 else if XU c then XV (d::r)+1 else 0
def arA:Bs→Nat
 |[]=>0
 |[c]=>if Ar c then 1 else 0
 |c::d::r=>if c.toNat=46 then(if Ar d then XV r+2 else 0)else if Ar c then XV (d::r)+1 else 0
def ac5(q:UInt8):Bs→Option Nat
 |[]=>none
 |[c]=>if c=10 then none else if c=q then some 1 else none
 |c::d::r=>if c=10 then none else if c=q then some 1 else if c=92 then(if d=10 then none else(ac5 q r).map (· +2))else(ac5 q (d::r)).map (· +1)
def ac7(t:Bs):Nat:=if t.take 3=[117,56,34]then 2 else if t.head? =some 117∨t.head? =some 85∨t.head? =some 76 then 1 else 0
def arB(t:Bs):Nat×Nat:=
 match t.drop (ac7 t)with
 |[]=>(0,0)
 |q::r=>if q=39∨q=34 then(match ac5 q r with|none=>(0,0)|some m=>if q=34 then(4,ac7 t+1+m)else if 1<m then(3,ac7 t+1+m)else(0,0))else(0,0)
def aav:List Bs:=[[91],[93],[40],[41],[123],[125],[46],[45,62],[43,43],[45,45],[38],[42],[43],[45],[126],[33],
 [47],[37],[60,60],[62,62],[60],[62],[60,61],[62,61],[61,61],[33,61],[94],[124],[38,38],[124,124],
 [63],[58],[59],[46,46,46],[61],[42,61],[47,61],[37,61],[43,61],[45,61],[60,60,61],[62,62,61],[38,61],[94,61],[124,61],
 [44],[35],[35,35],[60,58],[58,62],[60,37],[37,62],[37,58],[37,58,37,58]]
def afn(t:Bs):Nat→Nat
 |0=>0
 |n+1=>if aav.contains (t.take (n+1))then n+1 else afn t n
def arC(t:Bs):Nat:=afn t (min 4 t.length)
def aiJ:Bs→Bool
 |[]=>false
 |c::r=>Hm c&&r.all fun x=>Hm x||Ar x
def Q6:Bs→Bool
 |[]=>false
 |[a]=>Ar a
 |c::b::r=>if r=[]∧b.toNat=46 then Ar c else if eu c then decide (r≠[])&&ac4 b&&Q6 r else XU c&&Q6 (b::r)
def anY(t:Bs):Bool:=Q6 t.reverse
def XW(q:UInt8):Bs→Bool
 |[]=>true
 |[c]=>c≠q&&c≠10&&c≠92
 |c::d::r=>if c=q∨c=10 then false else if c=92 then d≠10&&XW q r else XW q (d::r)
def anZ(q:UInt8)(p t:Bs):Bool:=decide (p.length+2≤t.length)&&t.take p.length==p&&t[p.length]? ==some q&&t.getLast? ==some q&&XW q ((t.drop (p.length+1)).take (t.length - p.length - 2))
def XX(q:UInt8):List Bs→Bs→Bool
 |[],_=>false
 |p::ps,t=>if anZ q p t then(q==34||decide (p.length+2<t.length))else XX q ps t
def an0:List Bs:=[[],[117],[85],[76]]
def an1:List Bs:=[[],[117,56],[117],[85],[76]]
def gZ(t:Bs):Nat:=
 if t=[10]then 9 else if aiJ t then 1 else if anY t then 2 else if XX 39 an0 t then 3 else if XX 34 an1 t then 4 else if aav.contains t then 5 else 0
def aiK:Bs→Nat
 |[]=>0
 |c::r=>if c=10 then 0 else aiK r+1
def XY(a b:Nat×Nat):Nat×Nat:=if a.2<b.2 then b else a
def XZ(t:Bs):Nat×Nat:=
 if t.head? =some 10 then(9,1)
 else
  let b:=XY (XY (XY (XY (0,0) (arB t)) (1,arz t)) (2,arA t)) (5,arC t)
  if b.1≠0 then b else if t.head? =some 39∨t.head? =some 34 then(0,0)else(6,1)
inductive KE:Bs→Prop
 |nil:KE []
 |ay {c:UInt8} {r:Bs}:XU c=true→KE r→KE (c::r)
 |iA {c d:UInt8} {r:Bs}:ac4 c=true→eu d=true→KE r→KE (c::d::r)
inductive sM:Bs→Prop
 |ay {c:UInt8} {r:Bs}:Ar c=true→KE r→sM (c::r)
 |iA {c d:UInt8} {r:Bs}:c.toNat=46→Ar d=true→KE r→sM (c::d::r)
structure Tk where
 kind:Nat
 Cq:Bs
 lo:Nat
 hi:Nat
 afo:Bool
deriving DecidableEq
def Np(q:UInt8):Bs→Nat
 |[]=>0
 |c::r=>if c=10 then 0 else if c=q then 1 else if Np q r=0 then 0 else Np q r+1
def aiL:Bs→Nat
 |[]=>0
 |c::r=>if c=60 then(if Np 62 r=0 then 0 else Np 62 r+1)else if c=34 then(if Np 34 r=0 then 0 else Np 34 r+1)else 0
def aiM:Bs→Option Nat
 |[]=>none
 |[_]=>none
 |c::d::r=>if c=42∧d=47 then some 0 else(aiM (d::r)).map (· +1)
def X0:Bs→Nat×Nat
 |c::d::r=>if c=47∧d=42 then(match aiM r with|none=>(0,20)|some n=>(n+4,0))else if c=47∧d=47 then(aiK r+2,0)else(0,0)
 |_=>(0,0)
def itm(t:Bs)(hdr:Bool):Nat×Nat×Nat:=
 if hdr=true∧0<aiL t then(7,aiL t,0)
 else if(X0 t).2≠0 then(0,0,(X0 t).2)
 else if(X0 t).1≠0 then(8,(X0 t).1,0)
 else if(XZ t).1=0 then(0,0,21)else((XZ t).1,(XZ t).2,0)
def aiN(x:Bs):Bool:=x==[35]||x==[37,58]
def arD:Bs:=[105,110,99,108,117,100,101]
def after(st kind:Nat)(x:Bs):Nat:=
 if kind=8 then st else if kind=9 then 0 else if st=0∧kind=5∧aiN x=true then 1 else if st=1∧kind=1∧x=arD then 2 else 3
def X3(d:Bool):List Tk→List Tk
 |[]=>[]
 |t::r=>if t.kind=8∨t.kind=9 then X3 true r else{t with afo:=t.afo||d}::X3 false r
abbrev bare(l:List Tk):List Tk:=X3 false l
structure Rw where
 dir:Bool
 name:Bs
 arE:List Tk
deriving DecidableEq
def arF(r:Rw):Bool:=!r.dir&&(bare r.arE).isEmpty
def aiy(l:List Rw):List Rw:=l.filter fun r=>!arF r
abbrev dl(s:ByteArray):Bs:=s.data.toList
def au(l:Bs):ByteArray:=⟨l.toArray⟩
@[simp] theorem nG (l:Bs):(au l).data.toList=l:=by simp[au]
@[simp] theorem ko (l:Bs):(au l).size=l.length:=by simp[au,ByteArray.size]
theorem LG(s:ByteArray):au s.data.toList=s:=by simp[au]
theorem aha{a b:Bs}(h:au a=au b):a=b:=by have:=afz (fun s=>s.data.toList) h;simpa using this
theorem aiO{a b:ByteArray}(h:dl a=dl b):a=b:=by rw[←LG a,←LG b];exact afz au h
theorem ahb(s:ByteArray)(a b:Nat):s.extract a b=au ((s.data.toList.drop a).take (b - a)):=by
 rw[←Lib.extract_data,LG]
theorem aiP(s:ByteArray)(a:Nat):s.extract a s.size=au (s.data.toList.drop a):=by
 rw[ahb,ab1]
 rw[agj];exact υ _
theorem ahc(s:ByteArray):s.size=(dl s).length:=(Array.length_toList (xs:=s.data)).symm
theorem X4(a b:Bs):au a++au b=au (a++b):=by
 apply aiO
 simp[dl,au]
open Go
section
variable {P:Program} {md:Region.Mode} {Q:Exit→Act→World→Prop}
theorem Mf{ops:Array Oper}:∀(f:Nat) (listed:Array Bool) (a:Act) (w:World),wpAny P md ops Q f listed a w→wpAny P md ops Q (f+1) listed a w
 |0,listed,a,w,h=>⟨fun _=>h.2,fun i hi=>by rw[h.1]at hi;cases hi⟩
 |f+1,listed,a,w,h=>⟨h.1,fun i hi=>wpOp_mono (fun a w h=>Mf f _ a w h) (h.2 i hi)⟩
variable {a : Act}{listed : Array Bool}
theorem adM {ops:Array Oper}{w:World}(f k:Nat)(h:wpAny P md ops Q f listed a w):wpAny P md ops Q (f+k) listed a w:=by
 induction k with
 |zero=>exact h
 |succ k ih=>exact Mf _ _ _ _ ih
def uf(md:Region.Mode)(l:List Oper)(n:Nat):Bool:=
 (List.range n).all fun i=>match l[i]? with
  |none=>false
  |some o=>(o.after.all fun e=>!Region.binds md e||decide (e.on<i))&&(match o.guard with|some (g,_)=>decide (g<n)|none=>true)
variable {l : List Oper}{i n : Nat}
theorem Gf (h:uf md l n=true)(hi:i<n):∃o,l[i]? =some o∧(∀e∈o.after,Region.binds md e=true→e.on<i)∧(∀g b,o.guard=some (g,b)→g<n):=by
 have h1:=Θ.1 h i (acD.2 hi)
 split at h1
 ·cases h1
 ·rename_i o ho
  simp only[aaS]at h1;refine⟨o,ho,fun e he hb=>?_,fun g b hg=>?_⟩
  ·have:=Array.all_eq_true'.1 h1.1 e he
   simp only[hb,Bool.not_true,afu,abC]at this;exact this
  ·have h2:=h1.2
   rw[hg]at h2;simpa using h2
structure SI (l:List Oper) (n:Nat) (listed lh:Array Bool):Prop where
 size:listed.size=l.length
 QO:lh.size=n
 same:∀i,i<n→listed.getD i false=lh.getD i false
 inv:HeadInv md l.toArray n listed
variable {x : Array Bool}
theorem JK (h:i<x.size)(d:Bool):x.getD i d=x[i]:=by simp[h]
theorem ni (h:i<x.size):x.getD i true=x.getD i false:=by rw[JK h,JK h]
variable {lh : Array Bool}
theorem SI.ready (h:SI (md:=md) l n listed lh)(hB:uf md l n=true)(hn:n≤l.length)(hi:i<n):
 i∈Region.ready md l.toArray listed↔i∈Region.ready md (l.take n).toArray lh:=by
 obtain⟨o,ho,hafter,_⟩:=Gf hB hi
 have e1:listed.getD i true=lh.getD i true:=by rw[ni (by rw[h.size];omega),ni (by rw[h.QO];exact hi)];exact h.same i hi
 rw[mem_ready,mem_ready,e1]
 have ho2:(l.take n).toArray[i]? =some o:=by simp[hi,ho]
 have ho1:l.toArray[i]? =some o:=by simpa using ho
 constructor
 ·rintro⟨a,o',ho',hall⟩
  obtain rfl:o'=o:=aau (ho'.symm.trans ho1);exact⟨a,o',ho2,fun e he hb=>by rw[←h.same e.on (by have:=hafter e he hb;omega)];exact hall e he hb⟩
 ·rintro⟨a,o',ho',hall⟩
  obtain rfl:o'=o:=aau (ho'.symm.trans ho2);exact⟨a,o',ho1,fun e he hb=>by rw[h.same e.on (by have:=hafter e he hb;omega)];exact hall e he hb⟩
theorem Ay{l:List Oper}{n:Nat}{lh:Array Bool}(hB:uf md l n=true)(hs:lh.size=n)(h:Region.ready md (l.take n).toArray lh=[]):∀i,i<n→lh.getD i false=true:=by
 intro i
 induction i using Nat.strongRecOn with
 |_ i ih=>
  intro hi;obtain⟨o,ho,hafter,_⟩:=Gf hB hi
  cases hl:lh.getD i false with
  |true=>rfl
  |false=>
   have:i∈Region.ready md (l.take n).toArray lh:=by
    rw[mem_ready];exact⟨by rw[ni η];exact hl,o,by simp[hi,ho],fun e he hb=>ih e.on (hafter e he hb) (by have:=hafter e he hb;omega)⟩
   rw[h]at this;cases this
theorem abn (hB:uf md l n=true)(hi:i<n)(K:Act→World→Prop)(a:Act)(w:World){Qh:Exit→Act→World→Prop}(hQ:∀e a w,e≠ .normal→Qh e a w→Q e a w)(h:wpOp P (l.take n).toArray Qh i K a w):wpOp P l.toArray Q i K a w:=by
 obtain⟨o,ho,_,hg⟩:=Gf hB hi
 unfold wpOp at*
 have e1:(l.take n).toArray[i]? =some o:=by simp[hi,ho]
 have e2:l.toArray[i]? =some o:=by simpa using ho
 rw[e2];rw[e1]at h
 simp only at*
 have hw:Region.wanted o (yielded l.toArray a.tmps)=Region.wanted o (yielded (l.take n).toArray a.tmps):=by
  unfold Region.wanted
  cases hgu:o.guard with
  |none=>rfl
  |some g=>
   obtain⟨g,b⟩:=g;have hgn:=hg g b hgu
   have:yielded l.toArray a.tmps g=yielded (l.take n).toArray a.tmps g:=by
    unfold yielded
    have:l.toArray[g]? =(l.take n).toArray[g]? :=by simp[hgn]
    rw[this]
   simp only[this]
 rw[hw]
 split
 ·rename_i hwt
  rw[ω hwt]at h
  rcases h with h|⟨hasks,a',w',hq⟩
  ·left
   unfold Oper.wp at*;generalize (execOp a.eval o).run P w=r at*
   cases r with
   |ok x w'=>
    cases x<;>simp only[Oper.upon]at h⊢<;>try exact h
    refine Calls.mono h fun e w'' he=>?_
    cases e with
    |returned u=>exact he
    |panicked c=>exact hQ _ _ _ ν he
    |outgrown=>obtain⟨a',w',hq⟩:=he;exact⟨a',w',hQ _ _ _ ν hq⟩
   |halt x w'=>
    cases x<;>simp only[Oper.upon]at h⊢<;>try exact h
    exact hQ _ _ _ ν h
  ·exact .inr ⟨hasks,a',w',hQ _ _ _ ν hq⟩
 ·rename_i hwt
  rw[χ hwt]at h;exact h
theorem SI.set{l:List Oper}{n i:Nat}{listed lh:Array Bool}(h:SI (md:=md) l n listed lh)(hi:i∈Region.ready md l.toArray listed)(hin:i<n):SI (md:=md) l n (listed.setIfInBounds i true) (lh.setIfInBounds i true):=by
 refine⟨by simp[h.size],by simp[h.QO],fun j hj=>?_,h.inv.set hi hin⟩
 by_cases hij:i=j
 ·subst hij
  have h1:i<listed.size:=by
   have:=(ψ.1 (mem_ready.1 hi).2.choose_spec.1).1;rw[h.size];simpa using this
  have h2:i<lh.size:=by rw[h.QO];exact hin
  simp[h1,h2]
 ·rw[getD_set_ne false hij,getD_set_ne false hij];exact h.same j hj
def xM(l:List Oper)(n:Nat):Array Bool:=((List.range l.length).map fun i=>decide (i<n)).toArray
theorem ahQ (hs:listed.size=l.length)(h1:∀i,i<n→listed.getD i false=true)(h2:∀t,n≤t→t<l.length→listed.getD t true=false):listed=xM l n:=by
 apply Array.ext
 ·simp[xM,hs]
 ·intro i hi hi2
  simp only[xM,List.getElem_toArray,agk,List.getElem_range];by_cases hin:i<n
  ·have:=h1 i hin;rw[JK hi]at this;simp[this,hin]
  ·have:=h2 i η η;rw[JK hi]at this;simp[this,hin]
theorem xw{l:List Oper}{n g:Nat}{Qh:Exit→Act→World→Prop}(hB:uf md l n=true)(hs:Region.sinkB md l.toArray n=true)(hc:Region.chainB md l.toArray n=true)(hn:n<l.length)
 (hQ:∀e a w,e≠ .normal→Qh e a w→Q e a w) (hT:∀a w,Qh .normal a w→wpAny P md l.toArray Q g (xM l n) a w):
 ∀(f:Nat) (listed lh:Array Bool) (a:Act) (w:World),SI (md:=md) l n listed lh→wpAny P md (l.take n).toArray Qh f lh a w→wpAny P md l.toArray Q (f+g) listed a w:=by
 have hdone:∀(listed lh:Array Bool) (a:Act) (w:World),SI (md:=md) l n listed lh→Region.ready md (l.take n).toArray lh=[]→Qh .normal a w→wpAny P md l.toArray Q g listed a w:=fun listed lh a w ht hr hq=>by
  have hd:=Ay hB ht.QO hr;have:listed=xM l n:=ahQ ht.size (fun i hi=>by rw[ht.same i hi];exact hd i hi) (fun t h1 h2=>ht.inv.tail t h1 (by simpa using h2));rw[this];exact hT a w hq
 intro f
 induction f with
 |zero=>
  intro listed lh a w ht h;rw[acK];exact hdone listed lh a w ht h.1 h.2
 |succ f ih=>
  intro listed lh a w ht h;by_cases hr:Region.ready md (l.take n).toArray lh=[]
  ·rw[Nat.add_comm];exact adM g (f+1) (hdone listed lh a w ht hr (h.1 hr))
  ·obtain⟨i0,hi0⟩:∃i,i∈Region.ready md (l.take n).toArray lh:=by
    cases hx:Region.ready md (l.take n).toArray lh with
    |nil=>exact absurd hx hr
    |cons x xs=>exact⟨x,by simp⟩
   have ajD:i0<n:=by
    have:=(ψ.1 (mem_ready.1 hi0).2.choose_spec.1).1;simp at this;omega
   have adN:=(ht.ready hB η ajD).2 hi0;have hun:=(mem_ready.1 adN).1;rw[show f+1+g=(f+g)+1 from by omega];refine⟨fun h0=>(by rw[h0]at adN;cases adN),fun i hi=>?_⟩
   have hin:i<n:=by
    rcases agi i n with h'|h'
    ·exact h'
    ·exact absurd hi (tail_waits hs hc (by simpa using hn) ht.inv _ i0 rfl ajD hun i h')
   have h1:=h.2 i ((ht.ready hB η hin).1 hi);exact wpOp_mono (fun a' w' h'=>ih _ _ a' w' (ht.set hi hin) h') (abn hB hin _ a w hQ h1)
def QP(l:List Oper)(n:Nat):Bool:=
 uf .any l n&&Region.sinkB .any l.toArray n&&Region.chainB .any l.toArray n&&decide (n<l.length)&&Region.lexB .any (l.take n).toArray&&Region.seqB .any l.toArray (l.length - n) n (xM l n)
theorem Mg {C:World→Prop}{w:World}(n:Nat)(hB:QP l n=true)(hC:C w)(h:wpQuiet P (l.take n).toArray C (fun a'=>∀w',C w'→wpList P l.toArray Q (l.drop n) a' w') (l.take n) a):wpAny P .any l.toArray Q l.toArray.size (Array.replicate l.toArray.size false) a w:=by
 simp only[QP,aaS,abC]at hB
 obtain⟨⟨⟨⟨⟨h1,h2⟩,h3⟩,h4⟩,h5⟩,h6⟩:=hB
 have hln:(l.take n).length=n:=by simp;omega
 have hlex:=h5
 simp only[Region.lexB,aaS]at hlex
 have hq:=wpAnyQ_lex (C:=C) (md:= .any) hlex.1 (l.take n) 0 (Array.replicate (l.take n).toArray.size false) a ν (by simpa using hlex.2) h
 have hany:=wpAny_of_quiet (P:=P) (Q:=fun a'=>∀w',C w'→wpList P l.toArray Q (l.drop n) a' w')
  (Q':=fun e a' w'=>e= .normal∧wpList P l.toArray Q (l.drop n) a' w') (fun a' w' hw' h'=>⟨rfl,h' w' hw'⟩) _ _ _ _ hC hq
 have:=xw (P:=P) (md:= .any) (Q:=Q) (g:=l.length - n) h1 h2 h3 h4 (Qh:=fun e a' w'=>e= .normal∧wpList P l.toArray Q (l.drop n) a' w') (fun e a w he hh=>absurd hh.1 he)
  (fun a' w' hh=>by
   have:=wpAny_of_seq (md:= .any) (P:=P) (Q':=Q) (l.drop n) n (xM l n) a' w' (fun j=>by simp[agq]) (by simpa using h6) hh.2
   simpa using this)
  _ (Array.replicate l.length false) (Array.replicate (l.take n).toArray.size false) a _
  ⟨by simp,by simpa using hln,fun i hi=>by rw[abX,abX],
   ⟨by simp,fun j oj _ hl=>(by rw[abX]at hl;cases hl),fun t _ ht=>getD_in (by simpa using ht) (abX _ _)⟩⟩ hany
 rw[hln]at this
 rw[show n+(l.length - n)=l.length from by omega]at this
 simpa using this
theorem jq{C:World→Prop}{id:Nat}{a:Act}{w:World}{l:List Oper}(n:Nat)(hm:P.follows .mixedOrders=true)(hB:QP l n=true)(hC:C {w with drawn:=w.drawn+1})
 (h:wpQuiet P (l.take n).toArray C (fun a'=>∀w',C w'→wpList P l.toArray Q (l.drop n) a' w') (l.take n) a):(Code.region id l.toArray true).wp P Q a w:=
 wp_region_any hm (Mg n hB hC h)
def Mh(Q:Exit→Act→World→Prop):Exit→Act→World→Prop:=fun e a w=>e≠ .outgrown∧Q e a w
theorem Mh.normal {w:World}(h:Q .normal a w):Mh Q .normal a w:=⟨by simp,h⟩
variable {args : Array Value}
theorem YK {l : Nat}{row:String}{w:World}{R:Value→World→Prop}(h:Rows P row args w R):RowsIn (Fence.wide.inRound l) n P row args w R:=
 fun c cs _=>let ⟨v,w',r,s⟩:=h c cs;⟨v,w',r,stepsIn_wide.2 s⟩
theorem Vu {l : Nat}{f:FuncId}{w:World}{R:Ending→World→Prop}(h:Calls P f args w R):CallsIn (Fence.wide.inRound l) n P f args w R:=
 CallsIn.inRound l (callsIn_wide.2 h)
def KY(l:List Oper):Bool:=l.all fun o=>match o.op with| .defer _=>false|_=>true
theorem Qw {o:Oper}(h:KY l=true)(ho:l.toArray[i]? =some o):∀c,o.op≠ .defer c:=fun c hc=>by
 have:=Θ.1 h o (agG (by simpa using ho))
 rw[hc]at this
 cases this
theorem EZ{l:List Oper}{r n:Nat}(hd:KY l=true):∀(f:Nat) (listed:Array Bool) (a:Act) (w:World),wpAny P md l.toArray (Mh Q) f listed a w→wpAnyIn (Fence.wide.inRound r) n P md l.toArray Q f listed a w
 |0,listed,a,w,h=>⟨h.1,h.2.2⟩
 |f+1,listed,a,w,h=>⟨fun h0=>(h.1 h0).2,fun i hi=>by
  have h1:=wpOp_mono (fun a w hh=>EZ (r:=r) (n:=n) hd f _ a w hh) (h.2 i hi);unfold wpOp at h1;unfold wpOpIn
  split
  ·rename_i ho;simp only[ho]at h1;exact h1
  ·rename_i o ho
   simp only[ho]at h1
   split
   ·rename_i hw
    rw[ω hw]at h1
    rcases h1 with h1|⟨_,a',w',hq⟩
    ·refine⟨fun _ _=>trivial,?_⟩
     rw[Oper.semAt_eq _ _ _ (Qw hd ho)];unfold Oper.wp at h1;generalize (execOp a.eval o).run P w=res at*
     cases res with
     |ok x w'=>
      cases x<;>simp only[Oper.upon,Oper.uponIn]at h1⊢<;>try exact h1
      ·refine⟨fun hh=>(by cases hh),Vu (Calls.mono h1 fun e w'' he=>?_)⟩
       cases e with
       |returned u=>exact he
       |panicked c=>exact he.2
       |outgrown=>obtain⟨a',w',hq⟩:=he;exact absurd rfl hq.1
      ·exact⟨fun hh=>(by cases hh),YK h1⟩
     |halt x w'=>
      cases x<;>simp only[Oper.upon,Oper.uponIn]at h1⊢<;>try exact h1
      exact h1.2
    ·exact absurd rfl hq.1
   ·rename_i hw
    rw[χ hw]at h1
    exact⟨fun _ _=>trivial,h1⟩⟩
theorem KZ{C:World→Prop}{id r m:Nat}{a:Act}{w:World}{l:List Oper}(n:Nat)(hm:P.follows .mixedOrders=true)(hB:(QP l n&&KY l)=true)(hC:C {w with drawn:=w.drawn+1})
 (h:wpQuiet P (l.take n).toArray C (fun a'=>∀w',C w'→wpList P l.toArray (Mh Q) (l.drop n) a' w') (l.take n) a):(Code.region id l.toArray true).wpIn (Fence.wide.inRound r) m P Q a w:=by
 simp only[aaS]at hB
 exact wpIn_region_any hm (EZ hB.2 _ _ _ _ (Mg n hB.1 hC h))
end
section
variable {P:Program} {Q:Exit→Act→World→Prop}
def nN(l:List Oper)(n:Nat):Bool:=
 uf .any l n&&Region.sinkB .any l.toArray n&&Region.chainB .any l.toArray n&&decide (n<l.length)&&Region.seqB .any l.toArray (l.length - n) n (xM l n)
end
end Go.Proofs.YtlboejdhmggjpaaGreat
namespace Go.Proofs.YtlboejdhmggjpaaGreat
open Go.RowKit Go.BigFrame
structure iV (S:Nat→Prop) (w w':World):Prop where
 os:w'.os=w.os
 tape:w'.tape=w.tape
 output:w'.output=w.output
 size:w.heap.size≤w'.heap.size
 block:∀k,k<w.heap.size→¬S k→w'.heap[k]? =w.heap[k]?
theorem iV.refl(S:Nat→Prop)(w:World):iV S w w:=⟨rfl,rfl,rfl,υ _,fun _ _ _=>rfl⟩
theorem iV.trans{S:Nat→Prop}{a b c:World}(h:iV S a b)(k:iV S b c):iV S a c:=
 ⟨k.os.trans h.os,k.tape.trans h.tape,k.output.trans h.output,aaT h.size k.size,fun i hi hs=>(k.block i (abB hi h.size) hs).trans (h.block i hi hs)⟩
theorem iV.mono{S T:Nat→Prop}{a b:World}(h:iV S a b)(hST:∀k,k<a.heap.size→S k→T k):iV T a b:=
 ⟨h.os,h.tape,h.output,h.size,fun i hi hs=>h.block i hi (fun hh=>hs (hST i hi hh))⟩
theorem iV.setCell{S:Nat→Prop}{a w:World}(h:iV S a w)(p:Addr)(hp:a.heap.size≤p.block∨S p.block)(u:Value):iV S a (w.setCell p u):=
 ⟨h.os,h.tape,h.output,by simpa using h.size,fun k hk hs=>by
  rw[Below.heap_setCell _ _ _ _ (fun e=>by
   subst e
   rcases hp with hp|hp
   ·omega
   ·exact hs hp)]
  exact h.block k hk hs⟩
theorem iV.aT{w w':World}{S:Nat→Prop}(h:Below w.heap.size w w'):iV S w w':=⟨h.os,h.tape,h.output,h.size,fun k hk _=>h.block k hk⟩
theorem iV.below{w w':World}{S:Nat→Prop}{B:Nat}(h:iV S w w')(hB:B≤w.heap.size)(hS:∀k,S k→B≤k):Below B w w':=
 ⟨h.os,h.tape,h.output,h.size,fun k hk=>h.block k η (fun hs=>by have:=hS k hs;omega)⟩
theorem iV.lL{S:Nat→Prop}{w w':World}(h:iV S w w'){k:Nat}{o:Obj}(hk:w.heap[k]? =some o)(hs:¬S k):w'.heap[k]? =some o:=
 (h.block k (ψ.1 hk).1 hs).trans hk
end Go.Proofs.YtlboejdhmggjpaaGreat
namespace Go.Proofs.YtlboejdhmggjpaaGreat
open Go
section
variable {P:Program} {ops:Array Oper} {md:Region.Mode} {E:Nat→Oper→Act→Value→Prop}
def Ep(ops:Array Oper)(E:Nat→Oper→Act→Value→Prop)(i:Nat)(o:Oper)(v:Value)(a:Act):Prop:=
 (Region.wanted o (yielded ops a.tmps)=true∧E i o a v)∨(Region.wanted o (yielded ops a.tmps)=false∧v=undef)
def WY(ops:Array Oper)(E:Nat→Oper→Act→Value→Prop)(i:Nat)(K:Act→Prop)(a:Act):Prop:=
 ∀o,ops[i]? =some o→∃v,Ep ops E i o v a∧K (a.put o.dst v)
def wX(md:Region.Mode)(ops:Array Oper)(E:Nat→Oper→Act→Value→Prop)(Q:Act→Prop):Nat→Array Bool→Act→Prop
 |0,listed,a=>Region.ready md ops listed=[]∧Q a
 |fuel+1,listed,a=>(Region.ready md ops listed=[]→Q a)∧∀i∈Region.ready md ops listed,WY ops E i (wX md ops E Q fuel (listed.setIfInBounds i true)) a
def kG(ops:Array Oper)(E:Nat→Oper→Act→Value→Prop)(Q:Act→Prop):Nat→List Oper→Act→Prop
 |_,[],a=>Q a
 |i,o::rest,a=>∃v,Ep ops E i o v a∧kG ops E Q (i+1) rest (a.put o.dst v)
variable {a : Act}{K K' : Act→Prop}{i : Nat}
theorem adL (h:∀a,K a→K' a)(hh:WY ops E i K a):WY ops E i K' a:=
 fun o ho=>let ⟨v,h1,h2⟩:=hh o ho;⟨v,h1,h _ h2⟩
variable {a' : Act}{o : Oper}{v : Value}
theorem Ep.same (hE:∀i o a a' v,execOp a'.eval o=execOp a.eval o→E i o a v→E i o a' v)(h:Ep ops E i o v a)(he:execOp a'.eval o=execOp a.eval o)(hw:Region.wanted o (yielded ops a'.tmps)=Region.wanted o (yielded ops a.tmps)):Ep ops E i o v a':=by
 rcases h with⟨h1,h2⟩|⟨h1,h2⟩
 ·exact .inl ⟨by rw[hw];exact h1,hE _ _ _ _ _ he h2⟩
 ·exact .inr ⟨by rw[hw];exact h1,h2⟩
variable {j : Nat}{oi oj : Oper}
theorem ahP (hE:∀i o a a' v,execOp a'.eval o=execOp a.eval o→E i o a v→E i o a' v)(hj:ops[j]? =some oj)(hap:oi.apart ops oj=true)(hsi:∀cs b,oi.op≠ .select cs b)(hsj:∀cs b,oj.op≠ .select cs b)(hy:Ep ops E i oi v a)(h:WY ops E j K (a.put oi.dst v)):
 WY ops E j (fun a'=>Ep ops E i oi v a'∧K (a'.put oi.dst v)) a:=by
 obtain⟨h1,h2,h3⟩:=Oper.apart_spec hap
 intro o ho
 obtain rfl:oj=o:=aau (hj.symm.trans ho)
 obtain⟨u,hu,hK⟩:=h oj hj
 refine⟨u,hu.same hE (execOp_put oj hsj a oi.dst v h1).symm (wanted_put oj a oi.dst v h1).symm,hy.same hE (execOp_put oi hsi a oj.dst u h3) (wanted_put oi a oj.dst u h3),?_⟩
 rw[←Act.put_comm a v u h2];exact hK
variable {Q : Act→Prop}
theorem YH (hE:∀i o a a' v,execOp a'.eval o=execOp a.eval o→E i o a v→E i o a' v)(hi:ops[i]? =some oi)(hsel:∀(j:Nat) (o:Oper) cs b,ops[j]? =some o→o.op≠ .select cs b):
 ∀(fuel:Nat) (listed:Array Bool) (a:Act),
  (∀j oj,ops[j]? =some oj→j≠i→listed.getD j true=false→(∀e∈oj.after,Region.binds md e=true→e.on≠i)→oi.apart ops oj=true)→
  i∈Region.ready md ops listed→Ep ops E i oi v a→
  wX md ops E Q fuel (listed.setIfInBounds i true) (a.put oi.dst v)→wX md ops E Q (fuel+1) listed a:=by
 have oH:∀{K:Act→Prop} {a:Act},Ep ops E i oi v a→K (a.put oi.dst v)→WY ops E i K a:=fun hy hK o ho=>by
  obtain rfl:oi=o:=aau (hi.symm.trans ho);exact⟨v,hy,hK⟩
 intro fuel
 induction fuel with
 |zero=>
  intro listed a _ hr hy H;refine⟨fun h=>(by rw[h]at hr;cases hr),fun j hj=>?_⟩;by_cases hji:j=i
  ·subst hji;exact oH hy H
  ·have:=ready_mono hj hji
   rw[H.1]at this;cases this
 |succ fuel ih=>
  intro listed a hfree hr hy H;refine⟨fun h=>(by rw[h]at hr;cases hr),fun j hj=>?_⟩;by_cases hji:j=i
  ·subst hji;exact oH hy H
  ·have h1:=H.2 j (ready_mono hj hji)
   obtain⟨hjun,oj,hoj,hall⟩:=mem_ready.1 hj
   have hnot:∀e∈oj.after,Region.binds md e=true→e.on≠i:=fun e he hb heq=>by
    have h1:=hall e he hb;have h0:=(mem_ready.1 hr).1;rw[heq]at h1
    rcases agi i listed.size with h'|h'
    ·simp[h']at h0 h1;rw[h0]at h1;cases h1
    ·simp[agv h']at h1
   have h2:=ahP hE hoj (hfree j oj hoj hji hjun hnot) (fun cs b=>hsel i oi cs b hi) (fun cs b=>hsel j oj cs b hoj) hy h1;refine adL (fun a' h3=>ih (listed.setIfInBounds j true) a' (fun k ok hk hki hun hno=>hfree k ok hk hki ?_ hno) (ready_mono hr (agh hji)) h3.1 ?_) h2
   ·by_cases hjk:j=k
    ·subst hjk;exact hjun
    ·rw[getD_set_ne true hjk]at hun;exact hun
   ·rw[Array.setIfInBounds_comm _ _ hji]
    exact h3.2
theorem Cn(hE:∀i o a a' v,execOp a'.eval o=execOp a.eval o→E i o a v→E i o a' v){Q:Act→Prop}(hs:Region.noSelect ops=true):∀(l:List Oper) (k:Nat) (listed:Array Bool) (a:Act),(∀j,l[j]? =ops[k+j]?)→
 Region.lexFrom md ops l.length k listed=true→kG ops E Q k l a→wX md ops E Q l.length listed a
 |[],_,_,_,_,hB,h=>⟨by simpa[Region.lexFrom]using hB,h⟩
 |o::l,k,listed,a,hl,hB,h=>by
  have h0:ops[k]? =some o:=by simpa using (hl 0).symm
  simp only[aaJ,Region.lexFrom,aaS]at hB;obtain⟨⟨hr,hf⟩,hB'⟩:=hB;obtain⟨v,hy,hK⟩:=h
  exact YH hE h0 (Region.noSelect_spec hs) l.length listed a (Region.free_spec h0 hf) (by simpa using hr) hy
   (Cn hE hs l (k+1) _ _ (fun j=>by have:=hl (j+1);simpa[Nat.add_assoc,Nat.add_comm 1 j]using this) hB' hK)
def QU(o:Oper):Bool:=match o.op with
 | .move _| .assign _| .load _ _| .nilCheck _| .binOp _ _ _ _ _| .unOp _ _ _| .fieldAddr _ _ _| .indexAddr _ _ _=>true
 |_=>false
variable {w' : World}
theorem jo {α β:Type}{x:Sem α}{f:α→Sem β}{w : World}{n:β}(h:(x>>=f).run P w= .ok n w'):∃v w1,(f v).run P w1= .ok n w':=by
 rw[Sem.run_bind]at h
 cases hx:x.run P w with
 |ok v w1=>rw[hx]at h;exact⟨v,w1,h⟩
 |halt e w1=>rw[hx]at h;cases h
variable {n : Next}
theorem pJ {x:Sem Value}{w : World}(h:(do pure (Next.value (←x)):Sem Next).run P w= .ok n w'):∃v,n= .value v:=by
 rw[Sem.run_bind]at h
 cases hx:x.run P w with
 |ok v w1=>
  rw[hx]at h;simp only[Result.andThen_ok,Sem.run_pure]at h;cases h;exact⟨_,rfl⟩
 |halt e w1=>rw[hx]at h;cases h
theorem Ve (hp:QU o=true){w : World}(h:(execOp a.eval o).run P w= .ok n w'):∃v,n= .value v:=by
 unfold QU at hp
 unfold execOp at h
 split at hp<;>rename_i hop<;>simp only[hop]at h
 ·rw[Sem.run_pure]at h;cases h;exact⟨_,rfl⟩
 ·rw[Sem.run_pure]at h;cases h;exact⟨_,rfl⟩
 ·exact pJ h
 ·have YI:(runtimePanic .nilDeref:Sem Next).run P w= .ok n w'→∃v,n= .value v:=fun hh=>by simp[runtimePanic,goPanic]at hh
  split at h
  ·exact YI h
  ·exact YI h
  ·exact YI h
  ·split at h
   ·exact YI h
   ·obtain⟨v1,w1,h⟩:=jo h
    obtain⟨v2,w2,h⟩:=jo h
    split at h
    ·obtain⟨v3,w3,h⟩:=jo h
     rw[Sem.run_pure]at h;cases h;exact⟨_,rfl⟩
    ·rw[Sem.run_pure]at h;cases h;exact⟨_,rfl⟩
   ·rw[Sem.run_pure]at h;cases h;exact⟨_,rfl⟩
  ·rw[Sem.run_pure]at h;cases h;exact⟨_,rfl⟩
 ·exact pJ h
 ·exact pJ h
 ·exact pJ h
 ·exact pJ h
 ·cases hp
end
section
variable {P:Program} {md:Region.Mode}
def Aw(P:Program)(W:Nat→World)(ch:List Nat)(i:Nat)(o:Oper)(a:Act)(v:Value):Prop:=
 match ch.idxOf? i with
 |some j=>(execOp a.eval o).run P (W j)= .ok (.value v) (W (j+1))∨(execOp a.eval o).run P (W j)= .ok .skip (W (j+1))∧v=undef
 |none=>∀j,j≤ch.length→(execOp a.eval o).run P (W j)= .ok (.value v) (W j)
variable {ch : List Nat}{W : Nat→World}
theorem acU:∀i o (a a':Act) v,execOp a'.eval o=execOp a.eval o→Aw P W ch i o a v→Aw P W ch i o a' v:=fun i o a a' v he h=>by
 unfold Aw at*;rw[he];exact h
def Cm(md:Region.Mode)(l:List Oper)(ch:List Nat):Bool:=
 decide ch.Nodup&&(List.range ch.length).all fun j=>match ch[j]? with
  |none=>false
  |some c=>decide (c<l.length)&&(match l[c]? with
   |none=>false
   |some o=>(match o.guard with|none=>true|_=>false)&&(decide (j=0)||o.after.any fun e=>Region.binds md e&&decide (ch[j - 1]? =some e.on)))
variable {l : List Oper}
theorem yB (h:Cm md l ch=true)(j:Nat)(hj:j<ch.length):
 ∃o,l[ch[j]]? =some o∧ch[j]<l.length∧o.guard=none∧(0<j→∃e∈o.after,Region.binds md e=true∧ch[j - 1]? =some e.on):=by
 simp only[Cm,aaS,Θ]at h
 have h1:=h.2 j (acD.2 hj)
 rw[abE hj]at h1
 simp only[aaS,abC]at h1
 obtain⟨h2,h3⟩:=h1
 cases ho:l[ch[j]]? with
 |none=>rw[ho]at h3;cases h3
 |some o=>
  rw[ho]at h3;simp only[aaS,ack,abC]at h3;refine⟨o,rfl,h2,?_,fun h0=>?_⟩
  ·have:=h3.1
   split at this
   ·assumption
   ·cases this
  ·rcases h3.2 with h4|h4
   ·omega
   ·obtain⟨i,hi,he⟩:=af6.1 h4
    simp only[aaS,abC]at he;exact⟨_,af8 hi,he.1,he.2⟩
theorem acV{ch:List Nat}{i j:Nat}(hn:ch.Nodup)(h:ch[j]? =some i):ch.idxOf? i=some j:=by
 obtain⟨hj,rfl⟩:=aca.1 h
 rw[List.idxOf?_eq_some_iff]
 refine⟨hj,rfl,fun k hk=>?_⟩
 intro he
 exact agI.1 hn k j η hj hk he
variable {i j : Nat}
theorem acW (h:ch.idxOf? i=some j):∃hj:j<ch.length,ch[j]=i:=by
 rw[List.idxOf?_eq_some_iff]at h
 obtain⟨hj,he,_⟩:=h
 exact⟨hj,he⟩
theorem Vd{W:Nat→World}{ch:List Nat}{l:List Oper}{Q:Act→Prop}{Q':Exit→Act→World→Prop}(hB:uf md l l.length=true)(hc:Cm md l ch=true)(hQ:∀a,Q a→Q' .normal a (W ch.length)):
 ∀(fuel:Nat) (listed:Array Bool) (a:Act) (w:World),listed.size=l.length→(∃j,j≤ch.length∧w=W j∧∀k (hk:k<ch.length),(listed.getD ch[k] true=true↔k<j))→
  wX md l.toArray (Aw P W ch) Q fuel listed a→wpAny P md l.toArray Q' fuel listed a w:=by
 have hnd:ch.Nodup:=by
  simp only[Cm,aaS,abC]at hc;exact hc.1
 have hend:∀(listed:Array Bool) (w:World),listed.size=l.length→(∃j,j≤ch.length∧w=W j∧∀k (hk:k<ch.length),(listed.getD ch[k] true=true↔k<j))→Region.ready md l.toArray listed=[]→w=W ch.length:=fun listed w hs ⟨j,hj,hw,hk⟩ hr=>by
  have hall:=Ay (n:=l.length) (lh:=listed) hB hs (by rw[acR];exact hr);by_cases hlt:j<ch.length
  ·obtain⟨o,_,hcl,_⟩:=yB hc j hlt
   have:=(hk j hlt).1 (by rw[ni η];exact hall _ hcl);omega
  ·rw[hw];congr 1;omega
 intro fuel
 induction fuel with
 |zero=>exact fun listed a w hs hw h=>⟨h.1,by rw[hend listed w hs hw h.1];exact hQ _ h.2⟩
 |succ fuel ih=>
  intro listed a w hs hw h;refine⟨fun h0=>by rw[hend listed w hs hw h0];exact hQ _ (h.1 h0),fun i hi=>?_⟩;obtain⟨hun,o,ho,hall⟩:=mem_ready.1 hi;obtain⟨v,hy,hK⟩:=h.2 i hi o ho
  have hil:i<l.length:=by simpa using (ψ.1 ho).1
  obtain⟨j,hj,rfl,hk⟩:=hw;unfold wpOp;simp only[ho]
  cases hix:ch.idxOf? i with
  |some k=>
   obtain⟨hkl,hki⟩:=acW hix;obtain⟨o',ho',hcl,hgd,anN⟩:=yB hc k hkl
   have hoo:o'=o:=by
    rw[hki]at ho'
    have:l[i]? =some o:=by simpa using ho
    exact aau (ho'.symm.trans this)
   subst hoo
   have hjk:j=k:=by
    have h1:¬k<j:=fun hlt=>by
     have:=(hk k hkl).2 hlt;rw[hki,hun]at this;cases this
    by_cases h0:0<k
    ·obtain⟨e,he,hb,hp⟩:=anN h0
     have h2:=hall e he hb
     have hlt:k - 1<ch.length:=by omega
     have h3:ch[k - 1]=e.on:=by
      rw[abE hlt]at hp;exact aau hp
     obtain⟨_,_,acX,_⟩:=yB hc (k - 1) hlt;have h4:=(hk (k - 1) hlt).1 (by rw[ni η,h3];exact h2);omega
    ·omega
   subst hjk
   have hwt:Region.wanted o' (yielded l.toArray a.tmps)=true:=by unfold Region.wanted;rw[hgd]
   have hinv:∃j',j'≤ch.length∧W (j+1)=W j'∧∀k (hk:k<ch.length),((listed.setIfInBounds i true).getD ch[k] true=true↔k<j'):=by
    refine⟨j+1,by omega,rfl,fun k' hk'=>?_⟩;by_cases hkk:k'=j
    ·subst hkk
     rw[hki]
     have:i<listed.size:=by omega
     simp[this]
    ·have hne:i≠ch[k']:=by
      rw[←hki];intro he
      rcases agi j k' with hlt|hge
      ·exact agI.1 hnd j k' hkl hk' hlt he
      ·exact agI.1 hnd k' j hk' hkl η he.symm
     rw[getD_set_ne true hne,hk k' hk'];omega
   rcases hy with⟨_,hE⟩|⟨hw1,_⟩
   ·rw[ω hwt]
    left;unfold Aw at hE;rw[hix]at hE;unfold Oper.wp
    rcases hE with hE|⟨hE,rfl⟩
    ·rw[hE]
     exact ih _ _ _ (by simp[hs]) hinv hK
    ·rw[hE]
     exact ih _ _ _ (by simp[hs]) hinv hK
   ·rw[hwt]at hw1;cases hw1
  |none=>
   have hinv:∃j',j'≤ch.length∧W j=W j'∧∀k (hk:k<ch.length),((listed.setIfInBounds i true).getD ch[k] true=true↔k<j'):=by
    refine⟨j,hj,rfl,fun k' hk'=>?_⟩
    have hne:i≠ch[k']:=fun he=>by
     have:=acV hnd (j:=k') (i:=i) (by rw[abE hk',he]);rw[hix]at this;cases this
    rw[getD_set_ne true hne];exact hk k' hk'
   rcases hy with⟨hw1,hE⟩|⟨hw1,rfl⟩
   ·rw[ω hw1]
    left;unfold Aw at hE;rw[hix]at hE;unfold Oper.wp;rw[hE j hj];exact ih _ _ _ (by simp[hs]) hinv hK
   ·rw[χ (by rw[hw1];simp)]
    exact ih _ _ _ (by simp[hs]) hinv hK
def qc(o:Oper):Bool:=QU o||match o.op with
 | .build _ _| .slice _ _ _ _ _| .extract _ _| .lookup _ _ _ _=>true
 | .call c=>(match c.callee with| .builtin .len=>true|_=>false)
 |_=>false
variable {a : Act}{o : Oper}{w' : World}
theorem QW (hp:qc o=true){w : World}{n:Next}(h:(execOp a.eval o).run P w= .ok n w'):∃v,n= .value v:=by
 unfold qc at hp
 rw[ack]at hp
 rcases hp with hp|hp
 ·exact Ve hp h
 ·unfold execOp at h
  split at hp<;>rename_i hop<;>simp only[hop]at h
  ·exact pJ h
  ·exact pJ h
  ·exact pJ h
  ·exact pJ h
  ·rename_i c
   split at hp
   ·rename_i hc
    unfold resolve at h;simp only[hc,Sem.run_bind,Sem.run_pure,Result.andThen_ok,invoke,builtin]at h;exact pJ (by rw[Sem.run_bind];exact h)
   ·cases hp
  ·cases hp
variable {v : Value}
theorem yI {C:World→Prop}(hp:qc o=true){w:World}(h:o.quietAt P a C w v):(execOp a.eval o).run P w= .ok (.value v) w:=by
 unfold Oper.quietAt at h
 cases hr:(execOp a.eval o).run P w with
 |ok n w'=>
  obtain⟨u,rfl⟩:=QW hp hr;rw[hr]at h;obtain⟨rfl,rfl⟩:=h;rfl
 |halt e w'=>rw[hr]at h;exact h.elim
theorem JW{ops:Array Oper}{W:Nat→World}{ch:List Nat}{Q Q':Act→Prop}:∀(l rest:List Oper) (i:Nat) (a:Act),((List.range l.length).all fun j=>(ch.idxOf? (i+j)).isNone)=true→l.all qc=true→
 (∀a,Q a→kG ops (Aw P W ch) Q' (i+l.length) rest a)→wpQuiet P ops (fun w'=>∃j,w'=W j) Q l a→kG ops (Aw P W ch) Q' i (l++rest) a
 |[],rest,i,a,_,_,hQ,h=>hQ a h
 |o::l,rest,i,a,hk,hp,hQ,h=>by
  simp only[List.all_cons,aaS]at hp;rw[Θ]at hk
  have hik:ch.idxOf? i=none:=by
   have:=hk 0 ν;simpa using this
  have hrest:∀a',wpQuiet P ops (fun w'=>∃j,w'=W j) Q l a'→kG ops (Aw P W ch) Q' (i+1) (l++rest) a':=fun a' h'=>
   JW l rest (i+1) a' (by
    rw[Θ];intro j hj;have:=hk (j+1) (by simp at hj⊢;omega)
    rwa[show i+(j+1)=i+1+j from by omega]at this) hp.2 (fun a'' hq=>by have:=hQ a'' hq;simpa[Nat.add_assoc,Nat.add_comm 1]using this) h'
  unfold wpQuiet at h;by_cases hw:Region.wanted o (yielded ops a.tmps)=true
  ·rw[ω hw]at h
   obtain⟨v,h1,h2⟩:=h;refine⟨v, .inl ⟨hw,?_⟩,hrest _ h2⟩;unfold Aw;rw[hik];intro j hj;exact yI hp.1 (h1 _ ⟨j,rfl⟩)
  ·rw[χ hw]at h
   exact⟨undef, .inr ⟨by simpa using hw,rfl⟩,hrest _ h⟩
variable {Q' : Act→Prop}{ops : Array Oper}
theorem nu (n:Nat)(hn:((l.take n).length==n&&((List.range (l.take n).length).all fun j=>(ch.idxOf? (i+j)).isNone)&&(l.take n).all qc)=true)(h:wpQuiet P ops (fun w'=>∃j,w'=W j) (fun a=>kG ops (Aw P W ch) Q' (i+n) (l.drop n) a) (l.take n) a):kG ops (Aw P W ch) Q' i l a:=by
 simp only[aaS,aaZ]at hn
 have:=JW (Q':=Q') (l.take n) (l.drop n) i a hn.1.2 hn.2 (fun a' hq=>by rw[hn.1.1];exact hq) h
 rwa[acB]at this
variable {v' : Value}
theorem Ed {w : World}{s x:Operand}{t:TypeId}{u : Value}(ho:o.op= .call {callee:= .builtin .append,args:=#[s,x],argTypes:=#[t,t]})(hs:a.eval s=v)(hx:a.eval x=u)(hr:(Builtin.append_ #[t,t] o.type #[v,u]).run P w= .ok v' w'):(execOp a.eval o).run P w= .ok (.value v') w':=by
 unfold execOp
 simp only[ho,resolve,invoke,builtin,Sem.run_bind,Sem.run_pure,Result.andThen_ok,List.map_toArray,acj,acJ,hs,hx,hr]
theorem xQ {rest:List Oper}(j:Nat)(v:Value)(hi:ch.idxOf? i=some j)(hg:o.guard=none)(hr:(execOp a.eval o).run P (W j)= .ok (.value v) (W (j+1))∨(execOp a.eval o).run P (W j)= .ok .skip (W (j+1))∧v=undef)(h:kG ops (Aw P W ch) Q' (i+1) rest (a.put o.dst v)):kG ops (Aw P W ch) Q' i (o::rest) a:=
 ⟨v, .inl ⟨by unfold Region.wanted;rw[hg],by unfold Aw;rw[hi];exact hr⟩,h⟩
theorem Du (h:Q' a):kG ops (Aw P W ch) Q' i [] a:=h
def chainB(l:List Oper)(ch:List Nat):Bool:=uf .any l l.length&&Region.lexB .any l.toArray&&Cm .any l ch
variable {id : Nat}
theorem oZ {Q:Exit→Act→World→Prop}{w:World}(W:Nat→World)(ch:List Nat)(n:Nat)(hW:W 0=World.drew w)(hm:P.follows .mixedOrders=true)(hB:(nN l n&&chainB (l.take n) ch)=true)(h:kG (l.take n).toArray (Aw P W ch) (fun a'=>wpList P l.toArray Q (l.drop n) a' (W ch.length)) 0 (l.take n) a):(Code.region id l.toArray true).wp P Q a w:=by
 refine wp_region_any hm ?_
 show wpAny P .any l.toArray Q l.toArray.size (Array.replicate l.toArray.size false) a (World.drew w)
 simp only[nN,chainB,aaS,abC]at hB
 obtain⟨⟨⟨⟨⟨h1,h2⟩,h3⟩,h4⟩,h6⟩,⟨hb,hlex⟩,hch⟩:=hB
 have hln:(l.take n).length=n:=by simp;omega
 have rW:=hlex
 simp only[Region.lexB,aaS]at rW
 have hany:=Cn (md:= .any) acU rW.1 (l.take n) 0 (Array.replicate (l.take n).toArray.size false) a ν (by simpa using rW.2) h
 have BR:=Vd (P:=P) (md:= .any) (W:=W) (ch:=ch) (l:=l.take n) (Q':=fun e a' w'=>e= .normal∧wpList P l.toArray Q (l.drop n) a' w') hb hch (fun a' h'=>⟨rfl,h'⟩) _ (Array.replicate (l.take n).toArray.size false) a (World.drew w) ν
  ⟨0,Ω _,hW.symm,fun k hk=>by
   obtain⟨o,_,hcl,_⟩:=yB hch k hk;rw[hln]at hcl
   simp[hln,hcl]⟩ hany
 have:=xw (P:=P) (md:= .any) (Q:=Q) (g:=l.length - n) h1 h2 h3 h4 (Qh:=fun e a' w'=>e= .normal∧wpList P l.toArray Q (l.drop n) a' w') (fun e a w he hh=>absurd hh.1 he)
  (fun a' w' hh=>by
   have:=wpAny_of_seq (md:= .any) (P:=P) (Q':=Q) (l.drop n) n (xM l n) a' w' (fun j=>by simp[agq]) (by simpa using h6) hh.2
   simpa using this)
  _ (Array.replicate l.length false) (Array.replicate (l.take n).toArray.size false) a _
  ⟨by simp,by simpa using hln,fun i hi=>by rw[abX,abX],
   ⟨by simp,fun j oj _ hl=>(by rw[abX]at hl;cases hl),fun t _ ht=>getD_in (by simpa using ht) (abX _ _)⟩⟩ BR
 rw[hln]at this
 rw[show n+(l.length - n)=l.length from by omega]at this
 simpa using this
end
end Go.Proofs.YtlboejdhmggjpaaGreat
namespace Go.Proofs.YtlboejdhmggjpaaGreat.Pp
set_option maxRecDepth 100000
set_option maxHeartbeats 16000000
open Go.RowKit Go.BigFrame Go.Proofs.YtlboejdhmggjpaaGreat
theorem Hh{p:Prop}(h:p):Hid p:=h
def sV(t:Ct):List Value:=[.int .i64 t.c, .string (au t.t)]
def AX(t:Ct):Value:= .agg #[.int .i64 t.c, .string (au t.t)]
def tL(h:Nat×Nat):Value:= .agg #[.int .i64 h.1, .int .i64 h.2]
def jX(n:Nd):List Value:=[.int .i64 n.k, .int .i64 n.lo, .int .i64 n.hi, .int .i64 n.sz]
def AY(n:Nat):List Value:=[.int .i64 n]
def jY(ch:List (Bs×Bool))(x:Bs):Option Bool:=(ch.reverse.find? fun p=>p.1==x).map (·.2)
def mE:Option Bool→Int
 |none=>0
 |some true=>1
 |some false=>2
def yn:List (Bs×Bool)→List Value
 |[]=>[]
 |p::r=>yn r++[.string (au p.1), .int .i64 (mE ((r.find? fun q=>q.1==p.1).map (·.2))), .int .i64 (mE (some p.2))]
structure En where
 X:Nat
 pb:Nat
 la:Option Addr
 lc:Nat
 L:List Ct
 sp:Value
 base:Bs→Bool
 w0:World
structure En.ok (E:En):Prop where
 X:E.X=E.w0.heap.size
 pb:E.X≤E.pb
 row:oV 2 sV E.w0 E.la E.L
 len:E.L.length≤100000
 bM:∀t∈E.L,t.t.length≤maxLen
 ist:∀(w:World) (x:Bs),Below E.X E.w0 w→x.length≤maxLen→Calls Tryz.prog 21 #[E.sp, .string (au x)] w fun e w'=>e= .returned (.bool (E.base x))∧Below w.heap.size w w'
def xg(v:Value):Option (DataW Value×List MemPlace):=some (.held v,[])
def Nm(w:World)(mb:Nat)(ch:List (Bs×Bool)):Prop:=
 ∃n D,w.ownsMap Tryz.prog 9 xg mb n D∧∀x:Bs,(∀z,D.atKey (.string x) z=match jY ch x with|some b=> .held (.int .i64 (mE (some b)))|none=>z)∧Maps.has D (.string x)=(jY ch x).isSome
structure PX (E:En) (w:World) (s:Ps) (vd vc vb:Value) (mb:Nat):Prop where
 lu:Below E.X E.w0 w
 box:w.heap[E.pb]? =some (.cells #[.slice E.la E.L.length E.lc, .int .i64 s.af,vd,E.sp, .map (some mb),vc,vb] 75 (0,0))
 dn:w.ownsRow E.X 38 4 vd s.done.length (s.done.flatMap jX)
 ch:w.ownsRow E.X 132 3 vc s.nm.ch.length (yn s.nm.ch.reverse)
 bl:w.ownsRow E.X 3 1 vb s.nm.bl.length (s.nm.bl.flatMap AY)
 mp:Nm w mb s.nm.ch
 mx:E.X≤mb
 le:s.af≤E.L.length
 tx:∀p∈s.nm.ch,p.1.length≤maxLen
 cb:s.nm.ch.length≤2*E.L.length+1
 bb:s.nm.bl.length≤2*E.L.length+2
def PW(E:En)(w:World)(s:Ps):Prop:=∃vd vc vb mb,PX E w s vd vc vb mb
def K5(t:TypeId):Bool:=t==75||t==38||t==132||t==3
structure KP (w w':World):Prop where
 size:w.heap.size≤w'.heap.size
 cells:∀(k:Nat) (cs:Array Value) (t:TypeId) (fz:Nat×Nat),K5 t=false→w.heap[k]? =some (.cells cs t fz)→w'.heap[k]? =some (.cells cs t fz)
 dfr:∀(k:Nat) (x:Option (List Deferred)),w.heap[k]? =some (.deferred x)→w'.heap[k]? =some (.deferred x)
theorem KP.refl(w:World):KP w w:=⟨υ _,fun _ _ _ _ _ h=>h,fun _ _ h=>h⟩
variable {a c : World}
theorem KP.trans {b : World}(h:KP a b)(k:KP b c):KP a c:=⟨aaT h.1 k.1,fun i cs t fz ht hi=>k.2 i cs t fz ht (h.2 i cs t fz ht hi),fun i x hi=>k.3 i x (h.3 i x hi)⟩
variable {w' : World}
theorem KP.aT {w : World}(h:Below w.heap.size w w'):KP w w':=⟨h.size,fun k cs t fz _ hk=>aF h hk (ψ.1 hk).1,fun k x hk=>aF h hk (ψ.1 hk).1⟩
variable {xs : List Value}{e n : Nat}{v : Value}
theorem fq {w : World}{base size : Nat}(h:w.ownsRow base e size v n xs)(hk:∀(g:Nat) (cur:Array Value),w.heap[g]? =some (Obj.cells cur e (0,0))→w'.heap[g]? =some (Obj.cells cur e (0,0))):w'.ownsRow base e size v n xs:=by
 refine⟨h.1,?_⟩
 rcases h.2 with hn|⟨g,cap,cur,rfl,hb,hg,rest⟩
 ·exact .inl hn
 ·exact .inr ⟨g,cap,cur,rfl,hb,hk g cur hg,rest⟩
theorem gI {w : World}{base size : Nat}(h:w.ownsRow base e size v n xs)(hm:Below w.heap.size w w'):w'.ownsRow base e size v n xs:=
 fq h fun g cur hg=>aF hm hg (ψ.1 hg).1
variable {M : Nat}
theorem pI {w : World}{D:DataW Value}(h:w.ownsMap Tryz.prog 9 xg M n D)(hk:∀es c,w.heap[M]? =some (Obj.map es c)→w'.heap[M]? =some (Obj.map es c)):w'.ownsMap Tryz.prog 9 xg M n D:=by
 obtain⟨es,c,h1,h2⟩:=h
 exact⟨es,c,hk es c h1,h2⟩
variable {mb : Nat}
theorem Nm.ext {w : World}{ch:List (Bs×Bool)}(h:Nm w mb ch)(hm:Below w.heap.size w w'):Nm w' mb ch:=by
 obtain⟨n,D,h1,h2⟩:=h
 exact⟨n,D,pI h1 fun es c hg=>aF hm hg (ψ.1 hg).1,h2⟩
variable {E : En}{s : Ps}{vb vc vd : Value}
theorem PX.ext {w : World}(h:PX E w s vd vc vb mb)(hE:E.ok)(hm:Below w.heap.size w w'):PX E w' s vd vc vb mb where
 lu:=h.lu.trans (hm.mono (by have:=h.lu.size;rw[hE.X];exact this))
 box:=aF hm h.box (ψ.1 h.box).1
 dn:=gI h.dn hm
 ch:=gI h.ch hm
 bl:=gI h.bl hm
 mp:=h.mp.ext hm
 mx:=h.mx
 le:=h.le
 tx:=h.tx
 cb:=h.cb
 bb:=h.bb
theorem PW.ext {w : World}(h:PW E w s)(hE:E.ok)(hm:Below w.heap.size w w'):PW E w' s:=by
 obtain⟨vd,vc,vb,mb,h⟩:=h
 exact⟨vd,vc,vb,mb,h.ext hE hm⟩
theorem PX.cell{E:En}{w:World}{s:Ps}{vd vc vb:Value}{mb:Nat}(h:PX E w s vd vc vb mb):
 w.cell? ⟨E.pb,0,none⟩=some (.slice E.la E.L.length E.lc)∧w.cell? ⟨E.pb,1,none⟩=some (.int .i64 s.af)∧w.cell? ⟨E.pb,2,none⟩=some vd∧w.cell? ⟨E.pb,3,none⟩=some E.sp∧w.cell? ⟨E.pb,4,none⟩=some (.map (some mb))∧w.cell? ⟨E.pb,5,none⟩=some vc∧w.cell? ⟨E.pb,6,none⟩=some vb:=by
 simp[World.cell?,h.box]
variable {i : Nat}
theorem PX.nR {w:World}(h:PX E w s vd vc vb mb)(hE:E.ok)(hi:i<E.L.length):∃b off,E.la=some ⟨b,off,none⟩∧dX w b (off+i*2) (sV E.L[i]):=by
 obtain⟨b,off,h1,h2,h3⟩:=hE.row.at (by rintro e;rw[e]at hi;simp at hi)
 exact⟨b,off,h1,(h3 i hi).below h.lu (by rw[hE.X];exact h2)⟩
theorem dz(w:World)(cs:Array Value)(t:TypeId):(w.alloc (.cells cs t)).heap[w.heap.size]? =some (.cells cs t (0,0)):=heap_alloc_new w _
theorem qg (hE:E.ok)(k:Nat)(s:Ps)(w:World)(hk:k≤10)(h:PW E w s):Calls Tryz.prog 71 #[.pointer (some ⟨E.pb,0,none⟩), .int .i64 k] w fun e w'=>e= .returned (AX (az E.L s k))∧Below w.heap.size w w':=by
 obtain⟨vd,vc,vb,mb,h⟩:=h
 have hl:=h.le
 have hL:=hE.len
 obtain⟨T,hT⟩:∃T,az E.L s k=T:=⟨_,rfl⟩
 rw[hT]
 obtain⟨W1,hW1⟩:∃W1,W1=w.alloc (.cells #[.int .i64 0, .string ⟨#[]⟩] 54):=⟨_,rfl⟩
 have hb1:Below w.heap.size w W1:=by rw[hW1];exact ag _ _
 have hr1:W1.heap[w.heap.size]? =some (.cells #[.int .i64 0, .string ⟨#[]⟩] 54 (0,0)):=by rw[hW1];exact dz _ _ _
 have h1:=h.ext hE hb1
 obtain⟨c0,c1, -, -, -, -, -⟩:=h1.cell
 have hf:W1.frozen? ⟨w.heap.size,0,none⟩=false:=ab7 hr1 0
 obtain⟨a,hat⟩:∃a,s.af=a:=⟨_,rfl⟩
 obtain⟨n,hn⟩:∃n,E.L.length=n:=⟨_,rfl⟩
 obtain⟨m,hm⟩:∃m,w.heap.size=m:=⟨_,rfl⟩
 by_cases hi:s.af+k<E.L.length
 ·obtain⟨b,off,ha,hc⟩:=h1.nR hE hi
  have hp:az E.L s k=E.L[s.af+k]:=by unfold az;rw[abN,abE hi];rfl
  rw[hT]at hp;rw[←hp]at hc;rw[ha]at c0;rw[hn]at c0 hi hL;rw[hat]at c1 hi hl hc
  have hi':¬((n:Int)≤(a:Int)+k):=by omega
  have hi2:(a:Int)+k<n:=by omega
  have HC:=π (fun n:Nat=>(show dX (W1.drewN n) b (off+(a+k)*2) (sV T)from fun j v hv=>hc j v hv));have HB1:=π hb1;have HR1:=π hr1;clear hp hT hi hl h hc h1 hb1 hr1
  go_enter Tryz.func71,Tryz.ntmps71
  go_wp2_with fail
  rw[←hW1];clear hW1
  go_quiet (fail)
  go_wp2_with fail
  refine jq (C:=fun w'=>∃n,w'=W1.drewN n) 12 (by kernel_rfl) (by kernel_rfl) ⟨nq+1,rfl⟩ ?_;simp only[List.take_succ_cons,List.take_zero,List.drop_succ_cons,List.drop_zero]
  repeat(first
   |(go_big_quiet_want;(with_reducible refine GH 54 _ rfl b (off+(a+k)*2) rfl (sV T) _ (fun w' hw'=>by obtain⟨n,rfl⟩:=hw';exact HC.out n) Tryz.underlying54 rfl (by kernel_rfl) ?_);go_big_quiet_on;simp only[sV,Act.put,abu,abH,abG])
   |go_big_quiet_step (fail))
  refine abO ?_;rintro w' ⟨nr,rfl⟩;obtain⟨W2,hW2⟩:∃W2,W2=W1.drewN nr:=⟨_,rfl⟩
  have hb2:Below w.heap.size w W2:=by rw[hW2];exact HB1.out.trans (gz _ _ _)
  have hr2:W2.heap[m]? =some (.cells #[.int .i64 0, .string ⟨#[]⟩] 54 (0,0)):=by rw[hW2,←hm];exact HR1.out
  rw[←hW2];clear hW2
  have g0:W2.cell? ⟨m,0,none⟩=some (.int .i64 0):=by simp[World.cell?,hr2]
  have g1:W2.cell? ⟨m,1,none⟩=some (.string ⟨#[]⟩):=by simp[World.cell?,hr2]
  have f0:W2.frozen? ⟨m,0,none⟩=false:=ab7 hr2 0;have f1:W2.frozen? ⟨m,1,none⟩=false:=ab7 hr2 1;have HB2:=π hb2;clear hb2 hr2
  go_wp2_with fail
  refine abw (v:=AX T) ?_ rfl ⟨rfl,((HB2.out.setCell (by rw[hm];exact υ _) _).setCell (by rw[hm];exact υ _) _)⟩;simp[results,Tryz.results71,go_sem,g0,g1,AX]
 ·have hp:az E.L s k=⟨0,[]⟩:=by unfold az;rw[abN,acO η];rfl
  rw[hT]at hp;subst hp;rw[hn]at c0 hi hL;rw[hat]at c1 hi hl;rw[hn]at hl
  have hi':(n:Int)≤(a:Int)+k:=by omega
  have hi2:(a:Int)≤n:=by omega
  have HB1:=π hb1;have HR1:=π hr1;clear hT hi hl h h1 hb1 hr1
  go_enter Tryz.func71,Tryz.ntmps71
  go_wp2_with fail
  rw[←hW1];clear hW1
  go_quiet (fail)
  obtain⟨W2,hW2⟩:∃W2,W2=W1.drewN nq:=⟨_,rfl⟩
  have hb2:Below w.heap.size w W2:=by rw[hW2];exact HB1.out.trans (gz _ _ _)
  have hr2:W2.heap[m]? =some (.cells #[.int .i64 0, .string ⟨#[]⟩] 54 (0,0)):=by rw[hW2,←hm];exact HR1.out
  rw[←hW2];clear hW2
  have g0:W2.cell? ⟨m,0,none⟩=some (.int .i64 0):=by simp[World.cell?,hr2]
  have g1:W2.cell? ⟨m,1,none⟩=some (.string ⟨#[]⟩):=by simp[World.cell?,hr2]
  have f0:W2.frozen? ⟨m,0,none⟩=false:=ab7 hr2 0;have f1:W2.frozen? ⟨m,1,none⟩=false:=ab7 hr2 1;have HB2:=π hb2;clear hb2 hr2
  go_wp2_with fail
  refine abw (v:=AX ⟨0,[]⟩) ?_ rfl ⟨rfl,((HB2.out.setCell (by rw[hm];exact υ _) _).setCell (by rw[hm];exact υ _) _)⟩;simp[results,Tryz.results71,go_sem,g0,g1,AX,au]
def mV(n:Int):List PanicEntry:=[{v:= .iface 114 (.agg #[.int .i64 n]),recovered:=false}]
def fO(E:En){α:Type}(val:α→Value)(w:World)(r:Rs α)(e:Ending)(w':World):Prop:=
 match r with
 | .ok v s'=>e= .returned (val v)∧PW E w' s'∧KP w w'
 | .no=>(∃n:Int,e= .panicked (mV n))∧Below E.X E.w0 w'∧KP w w'
 | .out=>True
variable {s' : Ps}
theorem fO.mk {α:Type}{val:α→Value}{w : World}{v:α}{e:Ending}(he:e= .returned (val v))(hE:E.ok)(h:PW E w s')(hb:Below w.heap.size w w'):fO E val w (.ok v s') e w':=⟨he,h.ext hE hb,KP.aT hb⟩
theorem WZ{a b:Bs}(h:¬a=b):((au a).toList==(au b).toList)=false:=by
 rw[Bool.eq_false_iff]
 intro e
 exact h (aha ((Lib.bytes_beq_iff _ _).mp e))
theorem uO (hE:E.ok)(k:Nat)(t:Bs)(s:Ps)(w:World)(hk:k≤10)(h:PW E w s):Calls Tryz.prog 47 #[.pointer (some ⟨E.pb,0,none⟩), .int .i64 k, .string (au t)] w (fO E .bool w (eu E.L k t s)):=by
 obtain⟨T,hT⟩:∃T,az E.L s k=T:=⟨_,rfl⟩
 have pk:=qg hE k s w hk h
 rw[hT]at pk
 unfold AX at pk
 have PK:=Hh pk
 have H:=Hh h
 have hS:eu E.L k t s= .ok (T.c==7&&T.t==t) s:=by show Rs.ok (aX E.L s k t) s=_;unfold aX;rw[hT]
 rw[hS]
 clear h hT hS pk
 have key:(T.c=7∧T.t=t∧(T.c==7&&T.t==t)=true)∨(T.c=7∧((au T.t).toList==(au t).toList)=false∧(T.c==7&&T.t==t)=false)∨(((T.c:Int)==7)=false∧(T.c==7&&T.t==t)=false):=by
  by_cases hc:T.c=7
  ·by_cases ht:T.t=t
   ·exact .inl ⟨hc,ht,by simp[hc,ht]⟩
   ·exact .inr (.inl ⟨hc,WZ ht,by simp[ht]⟩)
  ·exact .inr (.inr ⟨by rw[aat];omega,by simp[hc]⟩)
 rcases key with⟨hc,ht,hq⟩|⟨hc,ht,hq⟩|⟨hc,hq⟩
 ·rw[hq]
  clear hq
  go_enter Tryz.func47,Tryz.ntmps47
  go_wp2_with fail
  refine PK.out.mono ?_;rintro e w1 ⟨rfl,hb1⟩;have HB:=Hh hb1;clear hb1
  go_wp2_with fail
  refine abw (v:= .bool true) (by simp[results,Tryz.results47,go_sem]) rfl (fO.mk rfl hE H.out (HB.out.trans ((ag _ _).mono HB.out.size)))
 ·rw[hq]
  clear hq
  go_enter Tryz.func47,Tryz.ntmps47
  go_wp2_with fail
  refine PK.out.mono ?_;rintro e w1 ⟨rfl,hb1⟩;have HB:=Hh hb1;clear hb1
  go_wp2_with fail
  refine abw (v:= .bool false) (by simp[results,Tryz.results47,go_sem]) rfl (fO.mk rfl hE H.out (HB.out.trans ((ag _ _).mono HB.out.size)))
 ·rw[hq]
  clear hq
  go_enter Tryz.func47,Tryz.ntmps47
  go_wp2_with fail
  refine PK.out.mono ?_;rintro e w1 ⟨rfl,hb1⟩;have HB:=Hh hb1;clear hb1
  go_wp2_with fail
  refine abw (v:= .bool false) (by simp[results,Tryz.results47,go_sem]) rfl (fO.mk rfl hE H.out (HB.out.trans ((ag _ _).mono HB.out.size)))
theorem Ob (hE:E.ok)(t:Bs)(s:Ps)(w:World)(h:PW E w s):Calls Tryz.prog 44 #[.pointer (some ⟨E.pb,0,none⟩), .string (au t)] w (fO E .bool w (o6 E.L t s)):=by
 obtain⟨T,hT⟩:∃T,az E.L s 0=T:=⟨_,rfl⟩
 have pk:=qg hE 0 s w η h
 rw[hT]at pk
 unfold AX at pk
 have PK:=Hh pk
 have H:=Hh h
 have hS:o6 E.L t s= .ok (T.c==1&&T.t==t) s:=by show Rs.ok (iX E.L s t) s=_;unfold iX;rw[hT]
 rw[hS]
 clear h hT hS pk
 have key:(T.c=1∧T.t=t∧(T.c==1&&T.t==t)=true)∨(T.c=1∧((au T.t).toList==(au t).toList)=false∧(T.c==1&&T.t==t)=false)∨(((T.c:Int)==1)=false∧(T.c==1&&T.t==t)=false):=by
  by_cases hc:T.c=1
  ·by_cases ht:T.t=t
   ·exact .inl ⟨hc,ht,by simp[hc,ht]⟩
   ·exact .inr (.inl ⟨hc,WZ ht,by simp[ht]⟩)
  ·exact .inr (.inr ⟨by rw[aat];omega,by simp[hc]⟩)
 rcases key with⟨hc,ht,hq⟩|⟨hc,ht,hq⟩|⟨hc,hq⟩
 ·rw[hq]
  clear hq
  go_enter Tryz.func44,Tryz.ntmps44
  go_wp2_with fail
  refine PK.out.mono ?_;rintro e w1 ⟨rfl,hb1⟩;have HB:=Hh hb1;clear hb1
  go_wp2_with fail
  refine abw (v:= .bool true) (by simp[results,Tryz.results44,go_sem]) rfl (fO.mk rfl hE H.out (HB.out.trans ((ag _ _).mono HB.out.size)))
 ·rw[hq]
  clear hq
  go_enter Tryz.func44,Tryz.ntmps44
  go_wp2_with fail
  refine PK.out.mono ?_;rintro e w1 ⟨rfl,hb1⟩;have HB:=Hh hb1;clear hb1
  go_wp2_with fail
  refine abw (v:= .bool false) (by simp[results,Tryz.results44,go_sem]) rfl (fO.mk rfl hE H.out (HB.out.trans ((ag _ _).mono HB.out.size)))
 ·rw[hq]
  clear hq
  go_enter Tryz.func44,Tryz.ntmps44
  go_wp2_with fail
  refine PK.out.mono ?_;rintro e w1 ⟨rfl,hb1⟩;have HB:=Hh hb1;clear hb1
  go_wp2_with fail
  refine abw (v:= .bool false) (by simp[results,Tryz.results44,go_sem]) rfl (fO.mk rfl hE H.out (HB.out.trans ((ag _ _).mono HB.out.size)))
theorem fF {w:World}{base size : Nat}(h:w.ownsRow base e size v n xs):∃a cap,v= .slice a n cap:=by
 rcases h.2 with⟨rfl,rfl⟩|⟨g,cap,cur,rfl,_⟩
 ·exact⟨none,0,rfl⟩
 ·exact⟨_,cap,rfl⟩
theorem jl{w:World}{base e size k:Nat}{v:Value}{n:Nat}{xs:List Value}(h:w.ownsRow base e size v n xs)(hk:v.ownBlock=some k):base≤k∧∃cur,w.heap[k]? =some (.cells cur e (0,0)):=by
 rcases h.2 with⟨rfl,_⟩|⟨g,cap,cur,rfl,hb,hg,_⟩
 ·simp[Value.ownBlock]at hk
 ·simp only[Value.ownBlock,aga]at hk
  subst hk;exact⟨hb,cur,hg⟩
theorem gJ{w:World}{pb i:Nat}{cs:Array Value}{t:TypeId}{v:Value}(h:w.heap[pb]? =some (.cells cs t (0,0))):(w.setCell ⟨pb,i,none⟩ v).heap[pb]? =some (.cells (cs.setIfInBounds i v) t (0,0)):=heap_setCell_same w pb i _ _ v h
theorem iJ{w:World}{pb i base e size n:Nat}{cs:Array Value}{t:TypeId}{x v:Value}{xs:List Value}(h:w.heap[pb]? =some (.cells cs t (0,0)))(ht:¬t=e)(ho:w.ownsRow base e size v n xs):(w.setCell ⟨pb,i,none⟩ x).ownsRow base e size v n xs:=
 fq ho fun g cur hg=>by
  rw[heap_setCell_other _ _ _ _ (fun q=>by subst q;rw[h]at hg;cases hg;exact ht rfl)];exact hg
theorem Nm.set{w:World}{pb i mb:Nat}{cs:Array Value}{t:TypeId}{x:Value}{ch:List (Bs×Bool)}(h:w.heap[pb]? =some (.cells cs t (0,0)))(hm:Nm w mb ch):Nm (w.setCell ⟨pb,i,none⟩ x) mb ch:=by
 obtain⟨n,D,h1,h2⟩:=hm
 exact⟨n,D,pI h1 fun es c hg=>by
  rw[heap_setCell_other _ _ _ _ (fun q=>by subst q;rw[h]at hg;cases hg)]
  exact hg,h2⟩
theorem KP.set{w:World}{pb i:Nat}{cs:Array Value}{t:TypeId}{x:Value}(h:w.heap[pb]? =some (.cells cs t (0,0)))(ht:K5 t=true):KP w (w.setCell ⟨pb,i,none⟩ x):=
 ⟨by simp,fun k cs' t' fz hk hg=>by
  rw[heap_setCell_other _ _ _ _ (fun q=>by subst q;rw[h]at hg;cases hg;rw[ht]at hk;cases hk)]
  exact hg,fun k y hg=>by
  rw[heap_setCell_other _ _ _ _ (fun q=>by subst q;rw[h]at hg;cases hg)]
  exact hg⟩
theorem PX.on{E:En}{w:World}{s:Ps}{vd vc vb:Value}{mb:Nat}(h:PX E w s vd vc vb mb)(hE:E.ok){n:Nat}(hn:n≤E.L.length):PX E (w.setCell ⟨E.pb,1,none⟩ (.int .i64 n)) {s with af:=n} vd vc vb mb where
 lu:=h.lu.setCell hE.pb _
 box:=by have:=gJ (i:=1) (v:= .int .i64 n) h.box;simpa using this
 dn:=iJ h.box ζ h.dn
 ch:=iJ h.box ζ h.ch
 bl:=iJ h.box ζ h.bl
 mp:=h.mp.set h.box
 mx:=h.mx
 le:=hn
 tx:=h.tx
 cb:=h.cb
 bb:=h.bb
theorem PW.on{E:En}{w:World}{s:Ps}(h:PW E w s)(hE:E.ok){n:Nat}(hn:n≤E.L.length):PW E (w.setCell ⟨E.pb,1,none⟩ (.int .i64 n)) {s with af:=n}∧KP w (w.setCell ⟨E.pb,1,none⟩ (.int .i64 n)):=by
 obtain⟨vd,vc,vb,mb,h⟩:=h
 exact⟨⟨vd,vc,vb,mb,h.on hE hn⟩,KP.set h.box rfl⟩
theorem PW.lu {w:World}(h:PW E w s):Below E.X E.w0 w:=by
 obtain⟨vd,vc,vb,mb,h⟩:=h
 exact h.lu
theorem PW.lt{E:En}{w:World}{s:Ps}(h:PW E w s):E.pb<w.heap.size:=by
 obtain⟨vd,vc,vb,mb,h⟩:=h
 exact(ψ.1 h.box).1
theorem PW.at{E:En}{w:World}{s:Ps}(h:PW E w s):w.cell? ⟨E.pb,1,none⟩=some (.int .i64 s.af)∧w.frozen? ⟨E.pb,1,none⟩=false∧s.af≤E.L.length:=by
 obtain⟨vd,vc,vb,mb,h⟩:=h
 exact⟨h.cell.2.1,ab7 h.box 1,h.le⟩
theorem Ch (hE:E.ok)(t:Bs)(s:Ps)(w:World)(h:PW E w s):Calls Tryz.prog 81 #[.pointer (some ⟨E.pb,0,none⟩), .string (au t)] w (fO E .bool w (fU E.L t s)):=by
 have pk:=uO hE 0 t s w η h
 have hs:fU E.L t s=if aX E.L s 0 t then .ok true {s with af:=s.af+1}else .ok false s:=rfl
 have hl:aX E.L s 0 t=true→s.af<E.L.length:=zU
 rw[hs]
 have hq:eu E.L 0 t s= .ok (aX E.L s 0 t) s:=rfl
 rw[hq]at pk
 obtain⟨b,hb⟩:∃b,aX E.L s 0 t=b:=⟨_,rfl⟩
 rw[hb]at pk hl⊢
 have PK:=Hh pk
 have hL:=hE.len
 clear h pk hs hq hb
 cases b
 ·clear hl
  go_enter Tryz.func81,Tryz.ntmps81
  go_wp2_with fail
  refine PK.out.mono ?_;rintro e w1 ⟨rfl,hp,hk⟩;have HP:=Hh hp;have HK:=Hh hk;clear hp hk
  go_wp2_with fail
  refine abw (v:= .bool false) (by simp[results,Tryz.results81,go_sem]) rfl ?_;exact⟨rfl,HP.out,HK.out⟩
 ·have hl':=hl rfl
  clear hl
  go_enter Tryz.func81,Tryz.ntmps81
  go_wp2_with fail
  refine PK.out.mono ?_;rintro e w1 ⟨rfl,hp,hk⟩;obtain⟨c1,f1, -⟩:=hp.at;have HP:=Hh hp;have HK:=Hh hk;clear hp hk;obtain⟨a,ha⟩:∃a,s.af=a:=⟨_,rfl⟩;rw[ha]at c1
  have hi:a<100000:=by omega
  have HL:=Hh hl';have HA:=Hh ha;clear hl' hL ha
  go_wp2_with fail
  refine abw (v:= .bool true) (by simp[results,Tryz.results81,go_sem]) rfl ?_;obtain⟨q1,q2⟩:=HP.out.on hE (n:=s.af+1) HL.out;rw[HA.out]at q1 q2⊢;exact⟨rfl,q1,HK.out.trans q2⟩
theorem Vv (hE:E.ok)(t:Bs)(s:Ps)(w:World)(h:PW E w s):Calls Tryz.prog 158 #[.pointer (some ⟨E.pb,0,none⟩), .string (au t)] w (fO E .bool w (fC E.L t s)):=by
 have pk:=Ob hE t s w h
 have hs:fC E.L t s=if iX E.L s t then .ok true {s with af:=s.af+1}else .ok false s:=rfl
 have hl:iX E.L s t=true→s.af<E.L.length:=Nk
 rw[hs]
 have hq:o6 E.L t s= .ok (iX E.L s t) s:=rfl
 rw[hq]at pk
 obtain⟨b,hb⟩:∃b,iX E.L s t=b:=⟨_,rfl⟩
 rw[hb]at pk hl⊢
 have PK:=Hh pk
 have hL:=hE.len
 clear h pk hs hq hb
 cases b
 ·clear hl
  go_enter Tryz.func158,Tryz.ntmps158
  go_wp2_with fail
  refine PK.out.mono ?_;rintro e w1 ⟨rfl,hp,hk⟩;have HP:=Hh hp;have HK:=Hh hk;clear hp hk
  go_wp2_with fail
  refine abw (v:= .bool false) (by simp[results,Tryz.results158,go_sem]) rfl ?_;exact⟨rfl,HP.out,HK.out⟩
 ·have hl':=hl rfl
  clear hl
  go_enter Tryz.func158,Tryz.ntmps158
  go_wp2_with fail
  refine PK.out.mono ?_;rintro e w1 ⟨rfl,hp,hk⟩;obtain⟨c1,f1, -⟩:=hp.at;have HP:=Hh hp;have HK:=Hh hk;clear hp hk;obtain⟨a,ha⟩:∃a,s.af=a:=⟨_,rfl⟩;rw[ha]at c1
  have hi:a<100000:=by omega
  have HL:=Hh hl';have HA:=Hh ha;clear hl' hL ha
  go_wp2_with fail
  refine abw (v:= .bool true) (by simp[results,Tryz.results158,go_sem]) rfl ?_;obtain⟨q1,q2⟩:=HP.out.on hE (n:=s.af+1) HL.out;rw[HA.out]at q1 q2⊢;exact⟨rfl,q1,HK.out.trans q2⟩
theorem qh{E:En}(hE:E.ok){α:Type}(val:α→Value)(s:Ps)(w:World)(h:PW E w s):Calls Tryz.prog 80 #[.pointer (some ⟨E.pb,0,none⟩)] w (fO E val w ((iD:Pm α) s)):=by
 obtain⟨c1,f1,hle⟩:=h.at
 have hL:=hE.len
 have hi:(s.af:Int)≤100000:=by omega
 have H:=Hh h
 clear h
 go_enter Tryz.func80,Tryz.ntmps80
 go_wp2_with fail
 exact⟨rfl,⟨_,rfl⟩,H.out.lu,KP.refl _⟩
def Px(_:Unit):Value:= .tuple #[]
def stV(x:Bs):Value:= .string (au x)
theorem E5 (hE:E.ok)(t:Bs)(s:Ps)(w:World)(h:PW E w s):Calls Tryz.prog 53 #[.pointer (some ⟨E.pb,0,none⟩), .string (au t)] w (fO E Px w (bY E.L t s)):=by
 have pk:=Ch hE t s w h
 obtain⟨b,hb⟩:∃b,aX E.L s 0 t=b:=⟨_,rfl⟩
 have h1:fU E.L t s=if b then .ok true {s with af:=s.af+1}else .ok false s:=by rw[←hb];rfl
 have h2:bY E.L t s=if b then .ok () {s with af:=s.af+1}else .no:=by rw[←hb];rfl
 rw[h1]at pk
 rw[h2]
 have PK:=Hh pk
 clear h pk h1 h2 hb
 cases b
 ·go_enter Tryz.func53,Tryz.ntmps53
  go_wp2_with fail
  refine PK.out.mono ?_;rintro e w1 ⟨rfl,hp,hk⟩;have HP:=Hh hp;have HK:=Hh hk;clear hp hk
  go_wp2_with fail
  refine(qh hE Px _ _ HP.out).mono ?_;rintro e w2 ⟨⟨n,rfl⟩,hb,hk2⟩;exact⟨rfl,⟨_,rfl⟩,hb,HK.out.trans hk2⟩
 ·go_enter Tryz.func53,Tryz.ntmps53
  go_wp2_with fail
  refine PK.out.mono ?_;rintro e w1 ⟨rfl,hp,hk⟩;have HP:=Hh hp;have HK:=Hh hk;clear hp hk
  go_wp2_with fail
  refine abw (v:= .tuple #[]) (by simp[results,Tryz.results53,go_sem]) rfl ?_;exact⟨rfl,HP.out,HK.out⟩
theorem Xa (hE:E.ok)(s:Ps)(w:World)(h:PW E w s):Calls Tryz.prog 83 #[.pointer (some ⟨E.pb,0,none⟩)] w (fO E stV w (l9 E.L s)):=by
 obtain⟨T,hT⟩:∃T,az E.L s 0=T:=⟨_,rfl⟩
 have pk:=qg hE 0 s w η h
 rw[hT]at pk
 unfold AX at pk
 have hl:T.c=2→s.af<E.L.length:=fun e=>qU (l:=E.L) (k:=0) (by rw[hT,e];decide)
 have h2:l9 E.L s=if T.c=2 then .ok T.t {s with af:=s.af+1}else .no:=by unfold l9;rw[hT]
 rw[h2]
 have PK:=Hh pk
 have H:=Hh h
 have hL:=hE.len
 clear h pk h2 hT
 by_cases hc:T.c=2
 ·have HL:=Hh (hl hc)
  rw[ω hc]
  have hc':((T.c:Int)!=2)=false:=by rw[hc];rfl
  obtain⟨a,ha⟩:∃a,s.af=a:=⟨_,rfl⟩
  have hi:a<100000:=by have:=HL.out;omega
  have HA:=Hh ha;clear hl hL ha
  go_enter Tryz.func83,Tryz.ntmps83
  go_wp2_with fail
  refine PK.out.mono ?_;rintro e w1 ⟨rfl,hb1⟩;have hp1:PW E w1 s:=H.out.ext hE hb1;obtain⟨c1,f1, -⟩:=hp1.at;have hpb:=hp1.lt;rw[HA.out]at c1;have HP:=Hh hp1;have HB:=Hh hb1;clear hb1 hp1
  go_wp2_with fail
  refine abw (v:= .string (au T.t)) (by simp[results,Tryz.results83,go_sem]) rfl ?_;obtain⟨q1,q2⟩:=HP.out.on hE (n:=s.af+1) HL.out;rw[HA.out]at q1 q2⊢;exact⟨rfl,q1.ext hE (ag _ _),(KP.aT HB.out).trans (q2.trans (KP.aT (ag _ _)))⟩
 ·rw[χ hc]
  have hc':((T.c:Int)!=2)=true:=by rw[acm];omega
  clear hl hL
  go_enter Tryz.func83,Tryz.ntmps83
  go_wp2_with fail
  refine PK.out.mono ?_;rintro e w1 ⟨rfl,hb1⟩;have HB:=Hh hb1;clear hb1
  go_wp2_with fail
  have hb2:Below w.heap.size w (w1.alloc (.cells #[.int .i64 T.c, .string (au T.t)] 54)):=HB.out.trans ((ag _ _).mono HB.out.size);refine(qh hE stV s _ (H.out.ext hE hb2)).mono ?_;rintro e w2 ⟨⟨n,rfl⟩,hb,hk2⟩;exact⟨rfl,⟨_,rfl⟩,hb,(KP.aT hb2).trans hk2⟩
theorem Ci (hE:E.ok)(s:Ps)(w:World)(h:PW E w s):Calls Tryz.prog 32 #[.pointer (some ⟨E.pb,0,none⟩)] w (fO E tL w (fH s)):=by
 have hr:fH s= .ok (s.af,s.done.length) s:=rfl
 rw[hr]
 have H:=Hh h
 obtain⟨W1,hW1⟩:∃W1,W1=w.alloc (.cells #[.int .i64 0, .int .i64 0] 77):=⟨_,rfl⟩
 have hb1:Below w.heap.size w W1:=by rw[hW1];exact ag _ _
 have hr1:W1.heap[w.heap.size]? =some (.cells #[.int .i64 0, .int .i64 0] 77 (0,0)):=by rw[hW1];exact dz _ _ _
 obtain⟨vd,vc,vb,mb,h1⟩:=h.ext hE hb1
 obtain⟨-,c1,c2, -, -, -, -⟩:=h1.cell
 obtain⟨da,dc,rfl⟩:=fF h1.dn
 obtain⟨a,hat⟩:∃a,s.af=a:=⟨_,rfl⟩
 obtain⟨n,hn⟩:∃n,s.done.length=n:=⟨_,rfl⟩
 obtain⟨m,hm⟩:∃m,w.heap.size=m:=⟨_,rfl⟩
 rw[hat]at c1
 rw[hn]at c2
 have HB1:=Hh hb1
 have HR1:=Hh hr1
 clear h h1 hb1 hr1 hr
 go_enter Tryz.func32,Tryz.ntmps32
 go_wp2_with fail
 rw[←hW1]
 clear hW1
 refine jq (C:=fun w'=>∃n,w'=W1.drewN n) 10 (by kernel_rfl) (by kernel_rfl) ⟨1,rfl⟩ ?_
 simp only[List.take_succ_cons,List.take_zero,List.drop_succ_cons,List.drop_zero]
 repeat(go_big_quiet_step (fail))
 refine abO ?_
 rintro w' ⟨nr,rfl⟩
 obtain⟨W2,hW2⟩:∃W2,W2=W1.drewN nr:=⟨_,rfl⟩
 have hb2:Below w.heap.size w W2:=by rw[hW2];exact HB1.out.trans (gz _ _ _)
 have hr2:W2.heap[m]? =some (.cells #[.int .i64 0, .int .i64 0] 77 (0,0)):=by rw[hW2,←hm];exact HR1.out
 rw[←hW2]
 clear hW2
 have g0:W2.cell? ⟨m,0,none⟩=some (.int .i64 0):=by simp[World.cell?,hr2]
 have g1:W2.cell? ⟨m,1,none⟩=some (.int .i64 0):=by simp[World.cell?,hr2]
 have f0:W2.frozen? ⟨m,0,none⟩=false:=ab7 hr2 0
 have f1:W2.frozen? ⟨m,1,none⟩=false:=ab7 hr2 1
 have HB2:=Hh hb2
 clear hb2 hr2
 go_wp2_with fail
 have hb3:=(HB2.out.setCell (p:=⟨m,0,none⟩) (by rw[hm];exact υ _) (.int .i64 a)).setCell (p:=⟨m,1,none⟩) (by rw[hm];exact υ _) (.int .i64 n)
 refine abw (v:=tL (a,n)) (by simp[results,Tryz.results32,go_sem,g0,g1,tL]) rfl ?_
 rw[hat,hn]
 exact fO.mk rfl hE H.out hb3
end Go.Proofs.YtlboejdhmggjpaaGreat.Pp
