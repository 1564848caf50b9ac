import Derived.Test.YtlboejdhmggjpaaGreatXbN
set_option linter.all false
namespace Go.Proofs.YtlboejdhmggjpaaGreat.Pp.Dr
set_option maxRecDepth 100000
set_option maxHeartbeats 1600000
open Go.RowKit Go.BigFrame Go.Proofs.YtlboejdhmggjpaaGreat
variable {T : Nat→Prop}
theorem pY.len {w:World}:∀{xs:List So} {gs:List (List Value)},pY T w xs gs→gs.length=xs.length
 |[],_,h=>by rw[show _=[]from h];rfl
 |x::r,_,⟨g,gr,h1,h2,h3⟩=>by rw[h1,aaJ,aaJ,pY.len h3]
variable {S : Nat→Prop}
theorem pY.fK {w:World}:∀{xs ys:List So} {gs hs:List (List Value)},pY S w xs gs→pY S w ys hs→pY S w (xs++ys) (gs++hs)
 |[],_,_,_,h,k=>by rw[show _=[]from h];exact k
 |x::r,_,_,_,⟨g,gr,h1,h2,h3⟩,k=>by rw[h1];exact⟨g,gr++_,rfl,h2,pY.fK h3 k⟩
theorem pY.get{S:Nat→Prop}{w:World}:∀{xs:List So} {gs:List (List Value)},pY S w xs gs→∀i (h:i<xs.length),∃g,gs[i]? =some g∧yx S w xs[i] g
 |[],_,_,i,h=>by simp at h
 |d::r,_,⟨v,gr,h1,h2,h3⟩,i,h=>by
  subst h1
  cases i with
  |zero=>exact⟨v,rfl,h2⟩
  |succ i=>exact pY.get h3 i (by simpa using h)
theorem yx.ay{T:Nat→Prop}{w:World}{t:So}{g:List Value}(h:yx T w t g):g.length=7∧∀u∈g,u.oneCell'=true:=by
 obtain⟨g0,rfl,h1⟩:=h
 refine⟨by rw[Δ,h1.ay.1];rfl,fun u hu=>?_⟩
 rcases abr.1 hu with hu|hu
 ·exact h1.ay.2 u hu
 ·simp at hu;rcases hu with rfl|rfl<;>rfl
theorem yx.to{S T:Nat→Prop}{w w':World}{t:So}{g:List Value}(h:yx S w t g)(k:To S w T w'):yx T w' t g:=let ⟨g0,h1,h2⟩:=h;⟨g0,h1,h2.to k⟩
theorem kN.to{S T:Nat→Prop}{w w':World}{v:Value}{xs:List So}(h:kN S w v xs)(k:To S w T w'):kN T w' v xs:=let ⟨gs,h1,h2⟩:=h;⟨gs,h1.to k,pY.to k h2⟩
variable {xs : List So}
theorem kN.aj {w:World}{v:Value}(h:kN T w v xs):∃a k c,v= .slice a k c:=h.choose_spec.1.aj
theorem kN.len {w:World}{a:Option Addr}{k c:Nat}(h:kN T w (.slice a k c) xs):k=xs.length∧k≤9223372036854775807:=by
 obtain⟨gs,h1,h2⟩:=h
 exact⟨h1.len.1.trans h2.len,h1.len.2⟩
variable {t : So}
theorem yx.aj {w:World}{g:List Value}(h:yx T w t g):∃aE nE cE aK nK cK aC nC cC,g=[.int .i64 t.s.af, .slice aE nE cE, .slice aK nK cK, .bool t.s.ty, .slice aC nC cC, .int .i64 t.b, .int .i64 t.w]∧fJ T w t.s [.int .i64 t.s.af, .slice aE nE cE, .slice aK nK cK, .bool t.s.ty, .slice aC nC cC]:=by
 obtain⟨g0,rfl,h1⟩:=h
 obtain⟨aE,nE,cE,aK,nK,cK,aC,nC,cC,rfl, -⟩:=h1.aj
 exact⟨_,_,_,_,_,_,_,_,_,rfl,h1⟩
theorem yx.sx {w:World}{a b c d e x y:Value}(h:yx T w t [a,b,c,d,e,x,y]):fJ T w t.s [a,b,c,d,e]:=by
 obtain⟨g0,e,h⟩:=h
 have:g0=[a,b,c,d,_]:=(List.append_inj_left (s₁:=[a,b,c,d,_]) (t₁:=[x,y]) e (by rw[h.ay.1];rfl)).symm
 rw[←this];exact h
theorem kN.at{T:Nat→Prop}{w:World}{a:Option Addr}{k c i:Nat}{xs:List So}(h:kN T w (.slice a k c) xs)(hi:i<xs.length):∃b off aE nE cE aK nK cK aC nC cC,a=some ⟨b,off,none⟩∧(∀u:df w,u.w.cell? ⟨b,off+i*7,none⟩=some (.int .i64 xs[i].s.af)∧u.w.cell? ⟨b,off+i*7+1,none⟩=some (.slice aE nE cE)∧u.w.cell? ⟨b,off+i*7+2,none⟩=some (.slice aK nK cK)∧u.w.cell? ⟨b,off+i*7+3,none⟩=some (.bool xs[i].s.ty)∧u.w.cell? ⟨b,off+i*7+4,none⟩=some (.slice aC nC cC)∧u.w.cell? ⟨b,off+i*7+5,none⟩=some (.int .i64 xs[i].b)∧u.w.cell? ⟨b,off+i*7+6,none⟩=some (.int .i64 xs[i].w))∧yx T w xs[i] [.int .i64 xs[i].s.af, .slice aE nE cE, .slice aK nK cK, .bool xs[i].s.ty, .slice aC nC cC, .int .i64 xs[i].b, .int .i64 xs[i].w]:=by
 obtain⟨gs,h1,h2⟩:=h
 obtain⟨g,g1,hg⟩:=h2.get i hi
 obtain⟨-,b,off,rfl,hS,hl,hc⟩:=h1.get g1
 obtain⟨aE,nE,cE,aK,nK,cK,aC,nC,cC,rfl, -⟩:=hg.aj
 exact⟨b,off,_,_,_,_,_,_,_,_,_,rfl,fun u=>⟨u.cell (hc 0 _ rfl),u.cell (hc 1 _ rfl),u.cell (hc 2 _ rfl),u.cell (hc 3 _ rfl),u.cell (hc 4 _ rfl),u.cell (hc 5 _ rfl),u.cell (hc 6 _ rfl)⟩,hg⟩
def xn(T:Nat→Prop)(m:Nat)(w:World)(v:Value)(xs:List So):Prop:=∃gs,jr T m 159 7 w v gs∧pY T w xs gs
section
variable {S T:Nat→Prop} {w0 w w':World} {m:Nat} {v:Value} {xs:List So}
theorem xn.nil:xn T m w (.slice none 0 0) []:=⟨[], .nil,rfl⟩
theorem xn.call(o:xn T m w v xs)(h:Below w.heap.size w w'):xn (Dr.gr T w w') m w' v xs:=let ⟨gs,h1,h2⟩:=o;⟨gs,h1.call h,pY.to (aH h) h2⟩
theorem xn.aj(o:xn T m w v xs):∃a c,v= .slice a xs.length c:=by
 obtain⟨gs,h1,h2⟩:=o
 obtain⟨a,c,h⟩:=h1.aj
 exact⟨a,c,by rw[←h2.len];exact h⟩
theorem xn.rU{w1:World}{u u':Value}(o:xn T m w v xs)(l:Left S w0 T w u w1 u')(d:Dj v u):xn T m w1 v xs∧Dj v u':=by
 obtain⟨gs,h1,h2⟩:=o
 obtain⟨h3,h4⟩:=l.rU h1 d
 exact⟨⟨gs,h3,pY.to l.tk h2⟩,h4⟩
theorem xn.lF(o:xn T w0.heap.size w v xs)(p:Pw S w0 T w):Pw S w0 (Dr.wo T v) w∧kN (Dr.wo T v) w v xs:=by
 obtain⟨gs,h1,h2⟩:=o
 refine⟨⟨fun b hb=>hb.elim (p.lt b) fun h=>(World.ownsRow.lt h1.row b h).2,fun b hb=>hb.elim (p.up b) fun h=> .inr (World.ownsRow.lt h1.row b h).1,p.be,fun b h hl=> .inl (p.sub b h hl)⟩,gs,h1.rw fun b hb=> .inr hb,pY.to xP h2⟩
theorem kN.ay{m:Nat}{x:So}{g:List Value}(hm:w.heap.size=m)(h:yx T w x g):kN (Dr.gr T w (w.alloc (.cells g.toArray 159))) (w.alloc (.cells g.toArray 159)) (.slice (some ⟨m,0,none⟩) 1 1) [x]:=⟨[g],Rw.kJ 159 hm ⟨by subst hm;simp, .inr η⟩ h.ay,g,[],rfl,h.to (aH (ag _ _)),rfl⟩
end
theorem XE{S T:Nat→Prop}{w0 w:World}(p:Pw S w0 T w){ops:Array Oper}{rest:List Oper}{o:Oper}{a:Act}{Q:Exit→Act→World→Prop}(s x:Operand){v:Value}{xs:List So}(hown:xn T w0.heap.size w v xs){v2:Value}{ys:List So}(hr:kN T w v2 ys)(h63:xs.length+ys.length≤1000000000)
  (hgd:o.guard=none) (ho:o.op= .call {callee:= .builtin .append,args:=#[s,x],argTypes:=#[160,160]}) (hs:a.eval s=v) (hx:a.eval x=v2)
  (h:∀v' w',xn T w0.heap.size w' v' (xs++ys)→Left S w0 T w v w' v'→wpList Tryz.prog ops Q rest (a.put o.dst v') w'):wpList Tryz.prog ops Q (o::rest) a w:=by
 obtain⟨gs,h1,h2⟩:=hown
 obtain⟨gs2,h3,h4⟩:=hr
 exact xH XB Tryz.underlying160 rfl ζ ζ p s x h1 h3 (by rw[h2.len,h4.len];exact h63) hgd ho hs hx fun v' w' k1 k2=>h v' w' ⟨_,k1,pY.fK (pY.to k2.tk h2) (pY.to k2.tk h4)⟩ k2
def agz(gb:Nat)(L:List Ct)(vr:Value)(n:Nat):Prop:=∀{S w x g all xs},(∀b,S b→b<w.heap.size)→GX gb L vr S w→yx S w x g→pQ L x.s→x.b≤100000→x.w≤100000→ic L (aS L n) all x=some xs→xs.length≤1000→Calls Tryz.prog 95 #[gP gb, .agg g.toArray, .bool all] w fun e w'=>∃v,e= .returned v∧Below w.heap.size w w'∧kN (Dr.gr S w w') w' v xs
theorem ZR{L:List Ct}{n:Nat}{all:Bool}{s:Sx}{fr:List So}{y:List Sx}(h:aS L n (.dh all s fr)=some y):BJ L (.dh all s fr)∧((fr=[]∧y=[])∨fr≠[]∧∃m Z y',n=m+1∧bu (ic L (aS L m) all) fr=some Z∧Z.length≤1000∧aS L m (.dh all s Z)=some y'∧y=fr.filterMap (iM s)++y'):=by
 obtain⟨m,rfl,h0,h1, -⟩:=fB h
 refine⟨h0,?_⟩
 have h1:(if fr.isEmpty then some []else((bu (ic L (aS L m) all) fr).bind aG).bind fun x=>(aS L m (.dh all s x)).bind fun y=>aG (fr.filterMap (iM s)++y))=some y:=h1
 split at h1
 ·next h2=>exact .inl ⟨afP.1 h2,(aau h1).symm⟩
 ·next h2=>
  obtain⟨Z,h3,h4⟩:=Γ.1 h1;obtain⟨Z',h3',hz⟩:=Γ.1 h3;obtain⟨rfl,hl⟩:=eU hz;obtain⟨y',h5,h6⟩:=Γ.1 h4;exact .inr ⟨fun e=>h2 (by rw[e];rfl),m,Z',y',rfl,h3',hl,h5,(eU h6).1.symm⟩
end Go.Proofs.YtlboejdhmggjpaaGreat.Pp.Dr
