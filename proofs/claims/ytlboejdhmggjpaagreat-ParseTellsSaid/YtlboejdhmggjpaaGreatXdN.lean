import Derived.Test.YtlboejdhmggjpaaGreatXcD
import Derived.Laws.CopyOwn
set_option linter.all false
namespace Go.Proofs.YtlboejdhmggjpaaGreat.Pp.Dr
set_option maxRecDepth 100000
open Go.RowKit Go.BigFrame Go.Proofs.YtlboejdhmggjpaaGreat
theorem dW.on{T:Nat→Prop}{m:Nat}{w w':World}{v:Value}{xs:List Sx}(o:dW T m w v xs)(hb:Below w.heap.size w w'):dW T m w' v xs:=let ⟨gs,h1,h2⟩:=o;⟨gs,⟨gI h1.row hb,h1.out,h1.ay⟩,pX.to (.below hb) h2⟩
theorem agM{T:Nat→Prop}{W w w':World}(h:Below w.heap.size w w'):To (gr T W w) w (gr T W w') w':=⟨h.size,fun b hb hl=>⟨h.block b hl,abB hl h.size,hb.2⟩⟩
theorem Rw.heap{S:Nat→Prop}{w:World}{b size:Nat}{t:TypeId}{gs:List (List Value)}(h:w.heap[b]? =some (.cells gs.flatten.toArray t (0,0)))(hS:S b)(hg:∀g∈gs,g.length=size∧∀u∈g,u.oneCell'=true)(hl:gs.length≤1000):Rw S size w (.slice (some ⟨b,0,none⟩) gs.length gs.length) gs:=by
 have hlen:∀L:List (List Value),(∀g∈L,g.length=size)→L.flatten.length=L.length*size:=fun L=>by
  induction L with
  |nil=>intro _;simp
  |cons a r ih=>intro hL;rw[afI,Δ,ih fun g hg=>hL g (abM _ hg),hL a (ab6 ..),aaJ,agO,Nat.add_comm]
 have h9:=hlen gs fun g h=>(hg g h).1
 exact Rw.xG (base:=0) (e:=t) ⟨h9, .inr ⟨b,gs.length,gs.flatten.toArray,rfl,Ω _,h,υ _,by unfold maxLen;omega,by simpa using h9,by rw[←h9];exact ab1 (υ _)⟩⟩ rfl (fun k hk=>by cases hk;exact hS) hg
theorem To.row{S T:Nat→Prop}{w:World}{b:Nat}(cs:Array Value)(h:∀k,S k→k<w.heap.size→T k∧k≠b):To S w T (w.setRow b cs):=⟨by simp,fun k hk hl=>⟨setRow_other w b k cs (h k hk hl).2,(h k hk hl).1⟩⟩
theorem Pw.sup{S T U:Nat→Prop}{w0 w:World}(p:Pw S w0 U w)(h:∀b,T b→U b):To T w U w:= .mono fun b hb _=>h b hb
def zO(T:Nat→Prop)(W:World)(m1 m2 m3:Nat)(A:Value→World→Prop)(Y:Sx)(D:Dn)(w:World):Prop:=Below W.heap.size W w∧(∀v,D m1=some v→A v w)∧(∀v,D m3=some v→∃b,v= .pointer (some ⟨b,0,none⟩)∧W.heap.size≤b∧w.heap[b]? =some (.cells #[.int .i64 0, .slice none 0 0, .slice none 0 0, .bool false, .slice none 0 0] 51 (0,0)))∧(∀v,D m2=some v→∃g:List Value,v= .agg g.toArray∧fJ (fun q=>gr T W w q∧∀b,D m3=some (.pointer (some ⟨b,0,none⟩))→q≠b) w Y g)
section
variable {T:Nat→Prop} {W w w':World} {m1 m2 m3:Nat} {A:Value→World→Prop} {Y:Sx} {D:Dn} {v:Value}
theorem zO.on(h:zO T W m1 m2 m3 A Y D w)(hA:Lr A)(hb:Below w.heap.size w w'):zO T W m1 m2 m3 A Y D w':=by
 obtain⟨h1,h2,h3,h4⟩:=h
 refine⟨h1.trans (hb.mono h1.size),fun v hv=>hA _ _ _ hb (h2 v hv),fun v hv=>?_,fun v hv=>?_⟩
 ·obtain⟨b,k1,k2,k3⟩:=h3 v hv
  exact⟨b,k1,k2,aF hb k3 (ψ.1 k3).1⟩
 ·obtain⟨g,k1,k2⟩:=h4 v hv
  exact⟨g,k1,k2.to ⟨hb.size,fun b hb' hl=>⟨hb.block b hl,⟨abB hl hb.size,hb'.1.2⟩,hb'.2⟩⟩⟩
theorem zO.row(h:zO T W m1 m2 m3 A Y D w)(n2:m1≠m2)(n3:m1≠m3)(hA:A v w):zO T W m1 m2 m3 A Y (D.tZ m1 v) w:=by
 obtain⟨h1,h2,h3,h4⟩:=h
 refine⟨h1,fun u hu=>?_,fun u hu=>h3 u ?_,fun u hu=>?_⟩
 ·unfold Dn.tZ at hu;rw[ω rfl]at hu;cases hu;exact hA
 ·unfold Dn.tZ at hu;rwa[χ (agh n3)]at hu
 ·unfold Dn.tZ at hu⊢
  rw[χ (agh n2)]at hu;rw[χ (agh n3)];exact h4 u hu
theorem zO.box(h:zO T W m1 m2 m3 A Y D w)(hA:Lr A)(n1:m3≠m1)(n2:m3≠m2):zO T W m1 m2 m3 A Y (D.tZ m3 (.pointer (some ⟨w.heap.size,0,none⟩))) (w.alloc (.cells #[.int .i64 0, .slice none 0 0, .slice none 0 0, .bool false, .slice none 0 0] 51)):=by
 have hb:=ag w (.cells #[.int .i64 0, .slice none 0 0, .slice none 0 0, .bool false, .slice none 0 0] 51)
 obtain⟨h1,h2,h3,h4⟩:=h
 refine⟨h1.trans (hb.mono h1.size),fun u hu=>?_,fun u hu=>?_,fun u hu=>?_⟩
 ·unfold Dn.tZ at hu;rw[χ (agh n1)]at hu;exact hA _ _ _ hb (h2 u hu)
 ·unfold Dn.tZ at hu;rw[ω rfl]at hu;cases hu;exact⟨_,rfl,h1.size,dz _ _ _⟩
 ·unfold Dn.tZ at hu⊢
  rw[χ (agh n2)]at hu;obtain⟨g,k1,k2⟩:=h4 u hu;refine⟨g,k1,k2.to ⟨hb.size,fun q hq hl=>⟨hb.block q hl,⟨abB hl hb.size,hq.1.2⟩,fun b e=>?_⟩⟩⟩;rw[ω rfl]at e;cases e;exact Nat.ne_of_lt hl
theorem zO.iA(h:zO T W m1 m2 m3 A Y D w)(hA:Lr A)(n1:m2≠m1)(n3:m2≠m3)(hb:Below w.heap.size w w'){g:List Value}(hY:fJ (nw (fun q=>gr T W w q∧∀b,D m3=some (.pointer (some ⟨b,0,none⟩))→q≠b) w.heap.size) w' Y g):zO T W m1 m2 m3 A Y (D.tZ m2 (.agg g.toArray)) w':=by
 have hz:=h.2.2.1
 obtain⟨h1,h2,h3, -⟩:=h.on hA hb
 refine⟨h1,fun u hu=>?_,fun u hu=>?_,fun u hu=>?_⟩
 ·unfold Dn.tZ at hu;rw[χ (agh n1)]at hu;exact h2 u hu
 ·unfold Dn.tZ at hu;rw[χ (agh n3)]at hu;exact h3 u hu
 ·unfold Dn.tZ at hu⊢
  rw[ω rfl]at hu;cases hu;rw[χ (agh n3)];refine⟨g,rfl,hY.to (.mono fun q hq hl=>?_)⟩
  rcases hq with hq|hq
  ·exact⟨⟨hl,hq.1.2⟩,hq.2⟩
  ·refine⟨⟨hl, .inr (aaT h.1.size hq)⟩,fun b e=>?_⟩
   obtain⟨b',e', -,hc⟩:=hz _ e;cases e';have:=(ψ.1 hc).1;omega
theorem zO.in(h:zO T W m1 m2 m3 A Y D w)(hT:∀b,T b→b<W.heap.size):To T W (fun q=>gr T W w q∧∀b,D m3=some (.pointer (some ⟨b,0,none⟩))→q≠b) w:=⟨h.1.size,fun q hq hl=>⟨h.1.block q hl,⟨abB hl h.1.size, .inl hq⟩,fun b e=>by
 obtain⟨b',e',h1, -⟩:=h.2.2.1 _ e
 cases e'
 omega⟩⟩
theorem zO.bR(h:zO T W m1 m2 m3 A Y D w){b:Nat}{cs:Array Value}(hc:w.heap[b]? =some (.cells cs 35 (0,0)))(hB:W.heap.size≤b):gr T W w b∧∀b',D m3=some (.pointer (some ⟨b',0,none⟩))→b≠b':=⟨⟨(ψ.1 hc).1, .inr hB⟩,fun b' e hbb=>by
 obtain⟨b2,e', -,h1⟩:=h.2.2.1 _ e
 cases e'
 rw[←hbb,hc]at h1
 simp at h1⟩
end
theorem ams{L:List Ct}{n k:Nat}{s:Sx}{xs:List Sx}(h:vJ (aS L n) k s=some xs):Ai L xs∧∀x∈xs,x.ah≠[]:=by
 have key:∀q:Rq,SH q=1→aS L n q=some xs→Ai L xs∧∀x∈xs,x.ah≠[]:=fun q hq h=>⟨(fE h).2.1,fun x hx e=>by
  have:=(fE h).2.2 x hx
  rw[hq,e]at this;exact absurd this ζ⟩
 unfold vJ at h
 split at h
 ·exact key _ rfl h
 ·exact key _ rfl h
end Go.Proofs.YtlboejdhmggjpaaGreat.Pp.Dr
