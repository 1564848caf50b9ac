import Derived.Test.YtlboejdhmggjpaaGreatXcB
set_option linter.all false
namespace Go.Proofs.YtlboejdhmggjpaaGreat.Pp.Dr
set_option maxRecDepth 100000
set_option maxHeartbeats 4000000
open Go.RowKit Go.BigFrame Go.Proofs.YtlboejdhmggjpaaGreat
def ami:List Sy:=[.dO [[.nm [97,115,115,105,103,110], .bV [[.tx [44], .nm [97,115,115,105,103,110]]]]], .tx [41]]
def amj:Bs:=[60,63,32,97,115,115,105,103,110,32,60,60,32,39,44,32,97,115,115,105,103,110,32,62,62,32,63,62,32,39,41]
def as3:List Sy:=[.nm [101,120,112,114], .tx [93]]
def amk:Bs:=[101,120,112,114,32,39,93]
def ZW(s:Bs)(ys:List Sy):Prop:=∃j,xq 100 (wF s []) 0 [] []=some ([ys],j)∧(∀t∈wF s [],t≠[]∧t.length≤1000)∧(wF s []).length≤1000∧s.length≤100000
theorem as4:ZW amj ami:=⟨8,by kernel_rfl,by decide+kernel,by decide+kernel,by decide⟩
theorem as5:ZW amk as3:=⟨2,by kernel_rfl,by decide+kernel,by decide+kernel,by decide⟩
theorem aiq{gb:Nat}{L:List Ct}{vr:Value}{n:Nat}(ih:∀m,m<n→Wd gb L vr m){S:Nat→Prop}{w:World}{s:Sx}{g:List Value}{XS:List Sx}(hx:Cx gb L vr S w s g)(h:aS L n (.args s)=some XS):Calls Tryz.prog 134 #[gP gb, .agg g.toArray] w (Ps S w XS):=by
 obtain⟨m,rfl,hs,h1, -⟩:=fB h
 have h1:(aS L m (.seq ami s.af [s])).bind aG=some XS:=h1
 obtain⟨x,h2,h3⟩:=Γ.1 h1
 obtain⟨rfl, -⟩:=eU h3
 obtain⟨T,hp,hbx,hst⟩:=hx.box
 obtain⟨aE,nE,cE,aK,nK,cK,aC,nC,cC,rfl, -⟩:=hx.st.aj
 obtain⟨j,k1,k2,k3,k4⟩:=as4
 have H:=π h2
 have IH:=ih m (aar _)
 have HW:=π (And.intro k1 (And.intro k2 k3))
 clear h h1 h2 h3 k1 k2 k3 ih
 unfold Ps
 go_enter Tryz.func134,Tryz.ntmps134
 go_wp2_with fail
 refine(CZ (S:=T) amj k4).mono ?_
 rintro e w2 ⟨v2,rfl,hb2,hr2⟩
 have hp2:=hp.call hb2
 have hr3:=hr2.to (wS (T:=T) (w:=w.alloc (.cells #[.int .i64 s.af, .slice aE nE cE, .slice aK nK cK, .bool s.ty, .slice aC nC cC] 51)))
 obtain⟨a2,q2,c2,rfl⟩:=hr3.aj
 have uU:=hbx.to (aH hb2)
 have Ee:=hst.to (aH hb2)
 go_wp2_with fail
 refine(JU 100 (i:=0) hp2.lt hr3 HW.out.2.1 HW.out.2.2 ζ HW.out.1).mono ?_
 rintro e w3 ⟨v3,rfl,hb3,hal⟩
 have hp3:=hp2.call hb3
 have Ak:=uU.to (aH hb3)
 have as6:=Ee.to (aH hb3)
 obtain⟨a3,q3,c3,rfl⟩:=hal.choose_spec.1.aj
 have hq3:=hal.len.1
 obtain⟨bb,off,ai,ki,ci,rfl,d0,yz⟩:=hal.at (i:=0) ζ
 obtain rfl:q3=1:=hq3
 have c0:=Ak.u
 have d0:∀u:df w3,u.w.cell? ⟨bb,off,none⟩=some (.slice ai ki ci):=d0
 go_wp2_with fail
 refine zy 6 5 ?_
 intro K W hbw eQ
 clear d0 c0
 go_wp2_with fail
 refine(IH.seq (hx.af (hp3.on hbw) (as6.to (.below hbw))) (yz.to (.below hbw)) H.out).mono ?_
 rintro e w5 h
 obtain⟨v,rfl,hb,hr⟩:=Ps.up hp3 (h.rq hbw)
 obtain⟨av,kv,cv,rfl⟩:=hr.aj
 have hb5:=(h.rq hbw).choose_spec.2.1
 clear h
 go_wp2_with fail
 refine eQ.out _ _ ⟨⟨w5,hb5⟩,rfl⟩ ?_
 go_wp2_with fail
 go_ret
 exact⟨_,rfl,hb,hr⟩
def oM(T:Nat→Prop)(m:Nat)(w:World)(v:Value)(ts:List Tr):Prop:=∃gs,jr T m 35 5 w v gs∧jZ T w ts gs
section
variable {S T:Nat→Prop} {w0 w w':World} {m:Nat} {v:Value} {ts:List Tr}
theorem oM.nil:oM T m w (.slice none 0 0) []:=⟨[], .nil,rfl⟩
theorem oM.call(o:oM T m w v ts)(h:Below w.heap.size w w'):oM (gr T w w') m w' v ts:=let ⟨gs,h1,h2⟩:=o;⟨gs,h1.call h,jZ.to (aH h) h2⟩
theorem oM.aj(o:oM T m w v ts):∃a c,v= .slice a ts.length c:=by
 obtain⟨gs,h1,h2⟩:=o
 obtain⟨a,c,h⟩:=h1.aj
 exact⟨a,c,by rw[←h2.len];exact h⟩
theorem oM.rU{w1:World}{u u':Value}(o:oM T m w v ts)(l:Left S w0 T w u w1 u')(d:Dj v u):oM T m w1 v ts∧Dj v u':=by
 obtain⟨gs,h1,h2⟩:=o
 obtain⟨h3,h4⟩:=l.rU h1 d
 exact⟨⟨gs,h3,jZ.to l.tk h2⟩,h4⟩
theorem oM.ay{t:Tr}{g:List Value}(hm:w.heap.size=m)(p:Pw S w0 T w)(h:kF T w t g):oM T w0.heap.size (w.alloc (.cells g.toArray 35)) (.slice (some ⟨m,0,none⟩) 1 1) [t]∧Pw S w0 T (w.alloc (.cells g.toArray 35)):=by
 have hb:=ag w (.cells g.toArray 35)
 have hone:g.length=5∧∀u∈g,u.oneCell'=true:=by
  obtain⟨aK,nK,cK,aD,nD,cD,rfl, -⟩:=kF.aj h;exact⟨rfl,fun u hu=>by simp at hu;rcases hu with rfl|rfl|rfl|rfl|rfl<;>rfl⟩
 refine⟨⟨[g],⟨⟨by simpa using hone.1, .inr ⟨m,1,g.toArray,rfl,by have:=p.be.size;omega,rR hm _ _,υ _,by decide,by simpa using hone.1,?_⟩⟩,fun b hb hT=>?_,fun y hy=>by rw[Φ.1 hy];exact hone⟩,g,[],rfl,kF.to (.below hb) h,rfl⟩,p.on hb⟩
 ·have:=hone.1
  simp only[afI,List.flatten_nil,List.append_nil,af4];exact ab1 η
 ·have:=p.lt b hT
  have:m=b:=aau hb;omega
theorem oM.UT{z:Value}{xs:List Sx}(o:oM T w0.heap.size w v ts)(p:Pw S w0 T w)(q:dW T w0.heap.size w z xs)(d:Dj z v):Pw S w0 (gv T v) w∧l5 (gv T v) w v ts∧dW (gv T v) w0.heap.size w z xs:=by
 obtain⟨gs,h1,h2⟩:=o
 obtain⟨hs,k1,k2⟩:=q
 have hl:=fun b hb=>World.ownsRow.lt h1.row b hb
 have hm:To T w (gv T v) w:= .mono fun b hb _=> .inl hb
 exact⟨⟨fun b hb=>hb.elim (p.lt b) fun h=>(hl b h).2,fun b hb=>hb.elim (p.up b) fun h=> .inr (hl b h).1,p.be,fun b hb h=> .inl (p.sub b hb h)⟩,⟨gs,h1.rw fun b hb=> .inr hb,jZ.to hm h2⟩,⟨hs,⟨k1.row,fun b hb hT=>hT.elim (k1.out b hb) fun h=>d b hb h,k1.ay⟩,pX.to hm k2⟩⟩
end
theorem XI{S T:Nat→Prop}{w0 w:World}(p:Pw S w0 T w){ops:Array Oper}{rest:List Oper}{o:Oper}{a:Act}{Q:Exit→Act→World→Prop}(s x:Operand){v:Value}{xs:List Tr}(hown:oM T w0.heap.size w v xs){v2:Value}{ys:List Tr}(hr:l5 T w v2 ys)(h63:xs.length+ys.length≤1000000000)
  (hgd:o.guard=none) (ho:o.op= .call {callee:= .builtin .append,args:=#[s,x],argTypes:=#[30,30]}) (hs:a.eval s=v) (hx:a.eval x=v2)
  (h:∀v' w',oM T w0.heap.size w' v' (xs++ys)→Left S w0 T w v w' v'→wpList Tryz.prog ops Q rest (a.put o.dst v') w'):wpList Tryz.prog ops Q (o::rest) a w:=by
 obtain⟨gs,h1,h2⟩:=hown
 obtain⟨gs2,h3,h4⟩:=hr
 exact xH IV Tryz.underlying30 rfl ζ ζ p s x h1 h3 (by rw[h2.len,h4.len];exact h63) hgd ho hs hx fun v' w' k1 k2=>h v' w' ⟨_,k1,jZ.fK (jZ.to k2.tk h2) (jZ.to k2.tk h4)⟩ k2
end Go.Proofs.YtlboejdhmggjpaaGreat.Pp.Dr
