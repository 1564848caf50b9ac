import Derived.Test.YtlboejdhmggjpaaGreatXaU
set_option linter.all false
namespace Go.Proofs.YtlboejdhmggjpaaGreat.Pp.Dr
set_option maxRecDepth 100000
set_option maxHeartbeats 800000
open Go.RowKit Go.BigFrame Go.Proofs.YtlboejdhmggjpaaGreat
def gr(T:Nat→Prop)(w w':World)(b:Nat):Prop:=b<w'.heap.size∧(T b∨w.heap.size≤b)
structure Pw (S:Nat→Prop) (w0:World) (T:Nat→Prop) (w:World):Prop where
 lt:∀b,T b→b<w.heap.size
 up:∀b,T b→S b∨w0.heap.size≤b
 be:Below w0.heap.size w0 w
 sub:∀b,S b→b<w0.heap.size→T b
def Dj(u v:Value):Prop:=∀b,u.ownBlock=some b→v.ownBlock≠some b
structure jr (T:Nat→Prop) (m:Nat) (e:TypeId) (size:Nat) (w:World) (v:Value) (gs:List (List Value)):Prop where
 row:w.ownsRow m e size v gs.length gs.flatten
 out:∀b,v.ownBlock=some b→¬T b
 ay:∀g∈gs,g.length=size∧∀u∈g,u.oneCell'=true
section
variable {S T:Nat→Prop} {w0 w w':World} {m:Nat} {e:TypeId} {size:Nat} {v:Value} {gs:List (List Value)}
theorem aH(h:Below w.heap.size w w'):To T w (gr T w w') w':=⟨h.size,fun b hb hl=>⟨h.block b hl,abB hl h.size, .inl hb⟩⟩
theorem wS:To (nw T w.heap.size) w' (gr T w w') w':= .mono fun b h hl=>⟨hl,h⟩
theorem Pw.start(hS:∀b,S b→b<w.heap.size):Pw S w S w:=⟨hS,fun _ h=> .inl h,Below.refl _ _,fun _ h _=>h⟩
theorem Pw.mG(p:Pw S w0 T w):To S w0 T w:=⟨p.be.size,fun b hb hl=>⟨p.be.block b hl,p.sub b hb hl⟩⟩
theorem Pw.call(p:Pw S w0 T w)(h:Below w.heap.size w w'):Pw S w0 (gr T w w') w':=⟨fun _ h=>h.1,fun b hb=>hb.2.elim (p.up b) fun h=> .inr (aaT p.be.size h),p.be.trans (h.mono p.be.size),fun b hb hl=>⟨abB (p.lt b (p.sub b hb hl)) h.size, .inl (p.sub b hb hl)⟩⟩
theorem jr.nil:jr T m e size w (.slice none 0 0) []:=⟨World.ownsRow_nil _ _ _ _,(fun _ h=>(by cases h)),fun _ h=>(by cases h)⟩
theorem jr.call(o:jr T m e size w v gs)(h:Below w.heap.size w w'):jr (gr T w w') m e size w' v gs:=⟨gI o.row h,fun b hb hg=>hg.2.elim (o.out b hb) fun h=>by have:=(World.ownsRow.lt o.row b hb).2;omega,o.ay⟩
theorem jr.aj(o:jr T m e size w v gs):∃a c,v= .slice a gs.length c:=fF o.row
theorem jr.rw(o:jr T m e size w v gs)(hS:∀b,v.ownBlock=some b→S b):Rw S size w v gs:=Rw.xG o.row rfl hS o.ay
end
variable {bytes c m n : Nat}{e t ty : TypeId}{v v' z : Value}
theorem UA {w w':World}{i:TypeInfo}{size base : Nat}{xs news:List Value}{a:Addr}(ht:Tryz.prog.underlying t=some (.slice e))(hi:Tryz.prog.info? e=some i)(hz:i.zero=some z)(hsize:i.size=size)(hby:i.bytes=bytes)(hsz:0<size)(hown:w.ownsRow base e size v n xs)(hl:news.length=m*size)(hnews:∀j u,news[j]? =some u→w.cell? (a.add j)=some u)(h1:∀u∈news,u.oneCell'=true)(h63:n+m≤maxLen)(hbytes:(n+m)*bytes≤140737488355328)(hr:(Builtin.append_ #[t,t] ty #[v, .slice (some a) m c]).run Tryz.prog w= .ok v' w'):∀b,v'.ownBlock=some b→v.ownBlock=some b∨b=w.heap.size:=by
 subst hsize
 subst hby
 have hsmall:n+m≤9223372036854775807:=by simp only[maxLen]at h63;omega
 intro b hb
 rcases hown.2 with⟨rfl,rfl⟩|⟨g,cap,cur,rfl,hbg,hg,hnc,hcm,hcs,htake⟩
 ·by_cases hm:m=0
  ·subst hm
   have hr2:(Builtin.append_ #[t,t] ty #[.slice none 0 0, .slice (some a) 0 c]).run Tryz.prog w= .ok (.slice none 0 0) w:=by simp[Builtin.append_,run_underlying ht,sizeOf,typeInfo,hi,Builtin.lenOf,Builtin.firstCells,loadCells,loadCellsFrom]
   rw[hr2]at hr;cases hr;cases hb
  ·have:=run_append_nil (P:=Tryz.prog) w t ty e i z ht hi hz a m c news hl hnews η η (by have hb:=hbytes;simp only[acK]at hb;omega)
   rw[this]at hr;cases hr;exact .inr (aau hb).symm
 ·by_cases hroom:n+m≤cap
  ·have:=run_append_room (P:=Tryz.prog) w t ty e i ht hi g n cap cur hg a m c news hl hnews h1 hroom (by rw[hl,hcs,←Nat.add_mul];exact age _ hroom)
   rw[this]at hr;cases hr;exact .inl hb
  ·have holds:∀j u,xs[j]? =some u→w.cell? ((⟨g,0,none⟩:Addr).add j)=some u:=hown.cells (g:=g) rfl
   have:=run_append_grow (P:=Tryz.prog) w t ty e i z ht hi hz ⟨g,0,none⟩ n cap xs hown.1 holds a m c news hl hnews η η (growslice_fits η hbytes);rw[this]at hr;cases hr;exact .inr (aau hb).symm
structure Left (S:Nat→Prop) (w0:World) (T:Nat→Prop) (w:World) (v:Value) (w':World) (v':Value):Prop where
 pw:Pw S w0 T w'
 tk:To T w T w'
 rU:∀{m e size u gu},jr T m e size w u gu→Dj u v→jr T m e size w' u gu∧Dj u v'
 IY:∀b,b<w.heap.size→v.ownBlock≠some b→w'.heap[b]? =w.heap[b]?
 nb:∀b,v'.ownBlock=some b→v.ownBlock=some b∨b=w.heap.size
 sz:w.heap.size≤w'.heap.size
variable {v2 : Value}
theorem xH {S T:Nat→Prop}{w0 w:World}{size : Nat}(info:(Tryz.prog.info? e).map (fun i=>(i.zero,i.size,i.bytes))=some (some z,size,bytes))(ht:Tryz.prog.underlying t=some (.slice e))(hzs:z.cells.size=size)(hsz:0<size)(hby:bytes≤1000)(p:Pw S w0 T w){ops:Array Oper}{rest:List Oper}{o:Oper}{a:Act}{Q:Exit→Act→World→Prop}(s x:Operand){gs:List (List Value)}(hown:jr T w0.heap.size e size w v gs){gs2:List (List Value)}(hr:Rw T size w v2 gs2)(h63:gs.length+gs2.length≤1000000000)(hgd:o.guard=none)(ho:o.op= .call {callee:= .builtin .append,args:=#[s,x],argTypes:=#[t,t]})(hs:a.eval s=v)(hx:a.eval x=v2)(h:∀v' w',jr T w0.heap.size e size w' v' (gs++gs2)→Left S w0 T w v w' v'→wpList Tryz.prog ops Q rest (a.put o.dst v') w'):wpList Tryz.prog ops Q (o::rest) a w:=by
 obtain⟨i,hi,hz,hs2,hb2⟩:=rJ info
 have key:∃v' w',(Builtin.append_ #[t,t] o.type #[v,v2]).run Tryz.prog w= .ok v' w'∧jr T w0.heap.size e size w' v' (gs++gs2)∧Left S w0 T w v w' v':=by
  obtain⟨a2,c2,rfl,h1,h2,h3,h4⟩:=hr
  have done:∀v' w',w'.ownsRow w0.heap.size e size v' (gs.length+gs2.length) (gs.flatten++gs2.flatten)→w.grownBy w' v.ownBlock→(∀b,v'.ownBlock=some b→v.ownBlock=some b∨b=w.heap.size)→jr T w0.heap.size e size w' v' (gs++gs2)∧Left S w0 T w v w' v':=fun v' w' k1 k2 k3=>by
   refine⟨⟨by rw[Δ,afZ];exact k1,fun b hb hT=>(k3 b hb).elim (fun h=>hown.out b h hT) fun h=>by have:=p.lt b hT;omega,fun g hg=>(abr.1 hg).elim (hown.ay g) (h3 g)⟩,
    ⟨fun b hb=>abB (p.lt b hb) k2.size,p.up,p.be.grown k2 p.be.size (fun k hk=>(World.ownsRow.lt hown.row k hk).1),p.sub⟩,⟨k2.size,fun b hb hl=>⟨k2.block b hl (fun h=>hown.out b h.symm hb),hb⟩⟩,fun hu hd=>?_,fun b hl hb=>k2.block b hl (fun h=>hb h.symm),k3,k2.size⟩
   refine⟨⟨hu.row.kept k2 ?_,hu.out,hu.ay⟩,fun b hb hb'=>(k3 b hb').elim (hd b hb) fun h=>by have:=(World.ownsRow.lt hu.row b hb).2;omega⟩
   cases hb:Value.ownBlock _ with
   |none=>exact .inl rfl
   |some b=>exact .inr fun h=>hd b hb h.symm
  cases a2 with
  |none=>
   obtain⟨h5,rfl⟩:=h1 rfl;subst h5;have h6:(Value.slice none ([]:List (List Value)).length 0)= .slice none 0 0:=rfl;obtain⟨a,c,hv⟩:=hown.aj;refine⟨v,w,?_,done v w (by simpa using hown.row) ⟨rfl,rfl,rfl,υ _,fun k hk _=>rfl⟩ fun b h=> .inl h⟩;rw[h6];exact run_append_owned_none (P:=Tryz.prog) (w:=w) w0.heap.size t o.type e i size ht hi v gs.length gs.flatten hown.row
  |some ad=>
   obtain⟨l,hl1,hl2⟩:=Lh gs2 h3
   have hlen:gs2.length=l.length:=by rw[←hl1,abz]
   have hnews:∀j u,gs2.flatten[j]? =some u→w.cell? (ad.add j)=some u:=fun j u hj=>by
    rcases h2 with h2|⟨b,off,h5, -,h6,h7⟩
    ·rw[h2]at hj;simp at hj
    ·cases h5
     rw[OJ];refine Nj size (fun g:Sb size=>g.1) (fun g=>g.2.1) w b l off (fun i hi=>?_) j u (by rw[hl2];exact hj);have:=h7 i η
     have e:gs2[i]' η=l[i].1:=by
      have:(l.map (·.1))[i]'(by rw[abz];exact hi)=gs2[i]' η:=by simp only[hl1]
      rw[←this,agk]
     rw[e]at this;exact this
   have hfl:gs2.flatten.length=gs2.length*size:=by
    rw[←hl2,hlen];exact vG size (fun g:Sb size=>g.1) (fun g=>g.2.1) l
   have hone:∀u∈gs2.flatten,u.oneCell'=true:=fun u hu=>by
    obtain⟨g,hg,hu⟩:=List.mem_flatten.1 hu;exact(h3 g hg).2 u hu
   have hm:gs.length+gs2.length≤maxLen:=by unfold maxLen;omega
   have hbb:(gs.length+gs2.length)*bytes≤140737488355328:=aaT (Nat.mul_le_mul h63 hby) ζ;obtain⟨v',w',k1,k2,k3, -⟩:=run_append_own (P:=Tryz.prog) w w0.heap.size t o.type e i z size bytes ht hi hz hs2 hb2 hzs hsz v gs.length gs.flatten hown.row ad gs2.length c2 gs2.flatten hfl hnews hone hm hbb p.be.size;exact⟨v',w',k1,done v' w' k2 k3 (UA ht hi hz hs2 hb2 hsz hown.row hfl hnews hone hm hbb k1)⟩
 obtain⟨v',w',k1,k2,k3⟩:=key
 refine wpList_plain hgd fun _ hK=>?_
 unfold Oper.wp execOp
 simp only[ho,resolve,invoke,builtin,Sem.run_bind,Sem.run_pure,Result.andThen_ok,List.map_toArray,acj,acJ,hs,hx,k1]
 exact hK _ _ (h v' w' k2 k3)
def dW(T:Nat→Prop)(m:Nat)(w:World)(v:Value)(xs:List Sx):Prop:=∃gs,jr T m 51 5 w v gs∧pX T w xs gs
section
variable {S T:Nat→Prop} {w0 w w':World} {m:Nat} {v:Value} {xs:List Sx}
theorem dW.nil:dW T m w (.slice none 0 0) []:=⟨[], .nil,rfl⟩
theorem dW.call(o:dW T m w v xs)(h:Below w.heap.size w w'):dW (gr T w w') m w' v xs:=let ⟨gs,h1,h2⟩:=o;⟨gs,h1.call h,pX.to (aH h) h2⟩
theorem dW.aj(o:dW T m w v xs):∃a c,v= .slice a xs.length c:=by
 obtain⟨gs,h1,h2⟩:=o
 obtain⟨a,c,h⟩:=h1.aj
 exact⟨a,c,by rw[←h2.len];exact h⟩
theorem dW.fw(o:dW T w0.heap.size w v xs)(p:Pw S w0 T w):dS (gr S w0 w) w v xs:=by
 obtain⟨gs,h1,h2⟩:=o
 refine⟨gs,h1.rw fun b hb=>?_,pX.to (.mono fun b hb hl=>⟨hl,p.up b hb⟩) h2⟩
 have:=World.ownsRow.lt h1.row b hb
 exact⟨this.2, .inr this.1⟩
theorem dW.rU{w1:World}{u u':Value}(o:dW T m w v xs)(l:Left S w0 T w u w1 u')(d:Dj v u):dW T m w1 v xs∧Dj v u':=by
 obtain⟨gs,h1,h2⟩:=o
 obtain⟨h3,h4⟩:=l.rU h1 d
 exact⟨⟨gs,h3,pX.to l.tk h2⟩,h4⟩
end
theorem kX{S T:Nat→Prop}{w0 w:World}(p:Pw S w0 T w){ops:Array Oper}{rest:List Oper}{o:Oper}{a:Act}{Q:Exit→Act→World→Prop}(s x:Operand){v:Value}{xs:List Sx}(hown:dW T w0.heap.size w v xs){v2:Value}{ys:List Sx}(hr:dS T w v2 ys)(h63:xs.length+ys.length≤1000000000)
  (hgd:o.guard=none) (ho:o.op= .call {callee:= .builtin .append,args:=#[s,x],argTypes:=#[48,48]}) (hs:a.eval s=v) (hx:a.eval x=v2)
  (h:∀v' w',dW T w0.heap.size w' v' (xs++ys)→Left S w0 T w v w' v'→wpList Tryz.prog ops Q rest (a.put o.dst v') w'):wpList Tryz.prog ops Q (o::rest) a w:=by
 obtain⟨gs,h1,h2⟩:=hown
 obtain⟨gs2,h3,h4⟩:=hr
 exact xH alj Tryz.underlying48 rfl ζ ζ p s x h1 h3 (by rw[h2.len,h4.len];exact h63) hgd ho hs hx fun v' w' k1 k2=>h v' w' ⟨_,k1,pX.fK (pX.to k2.tk h2) (pX.to k2.tk h4)⟩ k2
end Go.Proofs.YtlboejdhmggjpaaGreat.Pp.Dr
