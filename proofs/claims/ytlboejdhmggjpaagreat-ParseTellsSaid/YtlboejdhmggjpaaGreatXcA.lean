import Derived.Test.YtlboejdhmggjpaaGreatXbT
set_option linter.all false
namespace Go.Proofs.YtlboejdhmggjpaaGreat.Pp.Dr
set_option maxRecDepth 100000
set_option maxHeartbeats 4000000
open Go.RowKit Go.BigFrame Go.Proofs.YtlboejdhmggjpaaGreat
def clW:List Bs:=[[62,62],[63,62],[41,62],[124],[45,62]]
def opW:List Bs:=[[60,60],[60,63],[60,40]]
def opS(t:Bs)(bs:List (List Sy)):Sy:=if t=[60,60]then .bV bs else if t=[60,63]then .dO bs else .jy bs
def xq:Nat→List Bs→Nat→List (List Sy)→List Sy→Option (List (List Sy)×Nat)
 |0,_,_,_,_=>none
 |n+1,ws,i,kC,a=>if 1000<i then none else match ws[i]? with
  |none=>some (kC++[a],i)
  |some t=>if t∈clW then some (kC++[a],i)else if t=[47,47]then xq n ws (i+1) (kC++[a]) []
   else if t∈opW then(xq n ws (i+1) [] []).bind fun p=>xq n ws (p.2+1) kC (a++[opS t p.1])
   else if t.headD 0=39 then xq n ws (i+1) kC (a++[.tx t.tail])else xq n ws (i+1) kC (a++[.nm t])
theorem aio:(Tryz.prog.info? 169).map (fun i=>(i.zero,i.size,i.bytes))=some (some (.agg #[.int .i64 0, .string ⟨#[]⟩, .slice none 0 0]),3,48):=by kernel_rfl
theorem aip:(Tryz.prog.info? 127).map (fun i=>(i.zero,i.size,i.bytes))=some (some (.slice none 0 0),1,24):=by kernel_rfl
theorem tu.fK{T:Nat→Prop}{w:World}:∀{xs ys:List Sy} {gs hs:List (List Value)},tu T w xs gs→tu T w ys hs→tu T w (xs++ys) (gs++hs)
 |[],_,_,_,h,k=>by rw[show _=[]from h];exact k
 |x::r,_,_,_,⟨g,gr,h1,h2,h3⟩,k=>by rw[h1];exact⟨g,gr++_,rfl,h2,tu.fK h3 k⟩
theorem oh.fK{T:Nat→Prop}{w:World}:∀{xs ys:List (List Sy)} {gs hs:List (List Value)},oh T w xs gs→oh T w ys hs→oh T w (xs++ys) (gs++hs)
 |[],_,_,_,h,k=>by rw[show _=[]from h];exact k
 |x::r,_,_,_,⟨v,gl,gr,h1,h2,h3,h4⟩,k=>by rw[h1];exact⟨v,gl,gr++_,rfl,h2,h3,oh.fK h4 k⟩
def zC(T:Nat→Prop)(m:Nat)(w:World)(v:Value)(ys:List Sy):Prop:=∃gs,jr T m 169 3 w v gs∧tu T w ys gs
def qR(T:Nat→Prop)(m:Nat)(w:World)(v:Value)(al:List (List Sy)):Prop:=∃gs,jr T m 127 1 w v gs∧oh T w al gs
section
variable {S T:Nat→Prop} {w0 w w':World} {m:Nat} {v:Value} {ys:List Sy} {al:List (List Sy)}
theorem zC.nil:zC T m w (.slice none 0 0) []:=⟨[], .nil,rfl⟩
theorem qR.nil:qR T m w (.slice none 0 0) []:=⟨[], .nil,rfl⟩
theorem zC.call(o:zC T m w v ys)(h:Below w.heap.size w w'):zC (gr T w w') m w' v ys:=let ⟨gs,h1,h2⟩:=o;⟨gs,h1.call h,tu.to (aH h) h2⟩
theorem qR.call(o:qR T m w v al)(h:Below w.heap.size w w'):qR (gr T w w') m w' v al:=let ⟨gs,h1,h2⟩:=o;⟨gs,h1.call h,oh.to (aH h) h2⟩
theorem zC.aj(o:zC T m w v ys):∃a c,v= .slice a ys.length c:=by
 obtain⟨gs,h1,h2⟩:=o
 obtain⟨a,c,h⟩:=h1.aj
 exact⟨a,c,by rw[←h2.len];exact h⟩
theorem qR.aj(o:qR T m w v al):∃a c,v= .slice a al.length c:=by
 obtain⟨gs,h1,h2⟩:=o
 obtain⟨a,c,h⟩:=h1.aj
 exact⟨a,c,by rw[←h2.len];exact h⟩
theorem qR.rU{w1:World}{u u':Value}(o:qR T m w v al)(l:Left S w0 T w u w1 u')(d:Dj v u):qR T m w1 v al∧Dj v u':=by
 obtain⟨gs,h1,h2⟩:=o
 obtain⟨h3,h4⟩:=l.rU h1 d
 exact⟨⟨gs,h3,oh.to l.tk h2⟩,h4⟩
def gv(T:Nat→Prop)(v:Value)(b:Nat):Prop:=T b∨v.ownBlock=some b
theorem zC.UT{z:Value}(o:zC T w0.heap.size w v ys)(p:Pw S w0 T w)(q:qR T w0.heap.size w z al)(d:Dj z v):Pw S w0 (gv T v) w∧zx (gv T v) w v ys∧qR (gv T v) w0.heap.size w z al:=by
 obtain⟨gs,h1,h2⟩:=o
 obtain⟨hs,k1,k2⟩:=q
 have hl:=fun b hb=>World.ownsRow.lt h1.row b hb
 have hm:To T w (gv T v) w:= .mono fun b hb _=> .inl hb
 refine⟨⟨fun b hb=>hb.elim (p.lt b) fun h=>(hl b h).2,fun b hb=>hb.elim (p.up b) fun h=> .inr (hl b h).1,p.be,fun b hb h=> .inl (p.sub b hb h)⟩,⟨gs,h1.rw fun b hb=> .inr hb,tu.to hm h2⟩,⟨hs,⟨k1.row,fun b hb hT=>hT.elim (k1.out b hb) fun h=>d b hb h,k1.ay⟩,oh.to hm k2⟩⟩
theorem qR.fw(o:qR T w0.heap.size w v al)(p:Pw S w0 T w):vo (gr S w0 w) w v al:=by
 obtain⟨gs,h1,h2⟩:=o
 refine⟨gs,h1.rw fun b hb=>?_,oh.to (.mono fun b hb hl=>⟨hl,p.up b hb⟩) h2⟩
 have:=World.ownsRow.lt h1.row b hb
 exact⟨this.2, .inr this.1⟩
theorem zx.ay(h:zx T w v ys)(hm:w.heap.size=m):vo (gr T w (w.alloc (.cells #[v] 127))) (w.alloc (.cells #[v] 127)) (.slice (some ⟨m,0,none⟩) 1 1) [ys]:=by
 obtain⟨gs,h1,h2⟩:=h
 have hv:v.oneCell'=true:=h1.sl
 exact⟨[[v]],Rw.kJ (g:=[v]) 127 hm ⟨by subst hm;simp, .inr η⟩ ⟨rfl,fun u hu=>by rw[Φ.1 hu];exact hv⟩,v,gs,[],rfl,h1.to (aH (ag _ _)),tu.to (aH (ag _ _)) h2,rfl⟩
theorem tX.ay{y:Sy}{a b c:Value}(h:tX T w y [a,b,c])(hm:w.heap.size=m)(ho:∀u∈[a,b,c],u.oneCell'=true):zx (gr T w (w.alloc (.cells #[a,b,c] 169))) (w.alloc (.cells #[a,b,c] 169)) (.slice (some ⟨m,0,none⟩) 1 1) [y]:=
 ⟨[[a,b,c]],Rw.kJ (g:=[a,b,c]) 169 hm ⟨by subst hm;simp, .inr η⟩ ⟨rfl,ho⟩,[a,b,c],[],rfl,tX.to (aH (ag _ _)) h,rfl⟩
end
variable {a : Act}{ops : Array Oper}{Q : Exit→Act→World→Prop}{S T : Nat→Prop}{o : Oper}{v v2 : Value}{w0 : World}
theorem OI {w : World}(p:Pw S w0 T w){rest:List Oper}(s x:Operand){xs:List Sy}(hown:zC T w0.heap.size w v xs){ys:List Sy}(hr:zx T w v2 ys)(h63:xs.length+ys.length≤1000000000)(hgd:o.guard=none)(ho:o.op= .call {callee:= .builtin .append,args:=#[s,x],argTypes:=#[127,127]})(hs:a.eval s=v)(hx:a.eval x=v2)(h:∀v' w',zC T w0.heap.size w' v' (xs++ys)→Left S w0 T w v w' v'→wpList Tryz.prog ops Q rest (a.put o.dst v') w'):wpList Tryz.prog ops Q (o::rest) a w:=by
 obtain⟨gs,h1,h2⟩:=hown
 obtain⟨gs2,h3,h4⟩:=hr
 exact xH aio Tryz.underlying127 rfl ζ ζ p s x h1 h3 (by rw[h2.len,h4.len];exact h63) hgd ho hs hx fun v' w' k1 k2=>h v' w' ⟨_,k1,tu.fK (tu.to k2.tk h2) (tu.to k2.tk h4)⟩ k2
theorem JS {w : World}(p:Pw S w0 T w){rest:List Oper}(s x:Operand){xs:List (List Sy)}(hown:qR T w0.heap.size w v xs){ys:List (List Sy)}(hr:vo T w v2 ys)(h63:xs.length+ys.length≤1000000000)(hgd:o.guard=none)(ho:o.op= .call {callee:= .builtin .append,args:=#[s,x],argTypes:=#[117,117]})(hs:a.eval s=v)(hx:a.eval x=v2)(h:∀v' w',qR T w0.heap.size w' v' (xs++ys)→Left S w0 T w v w' v'→wpList Tryz.prog ops Q rest (a.put o.dst v') w'):wpList Tryz.prog ops Q (o::rest) a w:=by
 obtain⟨gs,h1,h2⟩:=hown
 obtain⟨gs2,h3,h4⟩:=hr
 exact xH aip Tryz.underlying117 rfl ζ ζ p s x h1 h3 (by rw[h2.len,h4.len];exact h63) hgd ho hs hx fun v' w' k1 k2=>h v' w' ⟨_,k1,oh.fK (oh.to k2.tk h2) (oh.to k2.tk h4)⟩ k2
def PsS(S:Nat→Prop)(w:World)(bs:List (List Sy))(j:Nat)(e:Ending)(w':World):Prop:=∃v,e= .returned (.tuple #[v, .int .i64 (j:Nat)])∧Below w.heap.size w w'∧vo (gr S w w') w' v bs
end Go.Proofs.YtlboejdhmggjpaaGreat.Pp.Dr
