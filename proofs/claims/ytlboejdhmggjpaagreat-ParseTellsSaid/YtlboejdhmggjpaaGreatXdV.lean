import Derived.Test.YtlboejdhmggjpaaGreatXdN
set_option linter.all false
namespace Go.Proofs.YtlboejdhmggjpaaGreat.Pp.Dr
set_option maxRecDepth 100000
open Go.RowKit Go.BigFrame Go.Proofs.YtlboejdhmggjpaaGreat
def Jj:Bs→Nat→Option Nat
 |[],k=>some k
 |b::r,k=>if k≤1000∧48≤b then Jj r (10*k+b.toNat - 48)else none
def GD:Nat→List Bs→Nat→Option (List (List Sy)×List Nat)
 |0,_,_=>none
 |n+1,ws,i=>if 1000<i then none else if ws.length≤i then some ([],[])else(xq 100 ws i [] []).bind fun p=>match p.1 with
  |[]=>none
  |b::_=>match ws[p.2]? with
   |none=>(GD n ws (p.2+1)).map fun q=>(b::q.1,0::q.2)
   |some t=>if t=[45,62]then(match ws[p.2+1]? with
     |none=>none
     |some u=>(Jj u 0).bind fun k=>(GD n ws (p.2+2+1)).map fun q=>(b::q.1,k::q.2))
    else(GD n ws (p.2+1)).map fun q=>(b::q.1,0::q.2)
def ZZ(s:Bs)(R:Ru):Prop:=(wF s [])[0]? =some R.name∧GD 100 (wF s []) 2=some (R.mh,R.iL)∧(∀t∈wF s [],t≠[]∧t.length≤1000)∧(wF s []).length≤1000∧s.length≤100000
theorem FH:∀{n:Nat} {ws:List Bs} {i:Nat} {kC:List (List Sy)} {a:List Sy} {bs:List (List Sy)} {j:Nat},xq n ws i kC a=some (bs,j)→j≤1000
 |0,_,_,_,_,_,_,h=>(by cases h)
 |n+1,ws,i,kC,a,bs,j,h=>by
  unfold xq at h
  split at h
  ·cases h
  next hi=>
  split at h
  ·cases h;omega
  split at h
  ·cases h;omega
  split at h
  ·exact FH h
  split at h
  ·obtain⟨p,h1,h2⟩:=Γ.1 h
   exact FH h2
  split at h
  ·exact FH h
  ·exact FH h
def N0(_:Nat):Prop:=False
def Kv(k:Nat):List Value:=[.int .i64 k]
def U2(T:Nat→Prop)(m:Nat)(w:World)(v:Value)(ks:List Nat):Prop:=jr T m 3 1 w v (ks.map Kv)
theorem U2.aj{T:Nat→Prop}{m:Nat}{w:World}{v:Value}{ks:List Nat}(o:U2 T m w v ks):∃a c,v= .slice a ks.length c:=by
 obtain⟨a,c,h⟩:=jr.aj o
 exact⟨a,c,by rw[h,abz]⟩
theorem jr.ne{T:Nat→Prop}{m e size:Nat}{w:World}{v:Value}{gs:List (List Value)}(o:jr T m e size w v gs){b:Nat}{cs:Array Value}{t:TypeId}{f:Nat×Nat}(h:w.heap[b]? =some (.cells cs t f))(ht:t≠e):v.ownBlock≠some b:=fun hb=>by
 rcases o.row.2 with⟨rfl, -⟩|⟨g,cap,cur,rfl, -,hg, -⟩
 ·cases hb
 ·cases hb
  rw[hg]at h;cases h;exact ht rfl
theorem jr.same{T T':Nat→Prop}{m e size:Nat}{w w':World}{v:Value}{gs:List (List Value)}(o:jr T m e size w v gs)(hs:∀b,v.ownBlock=some b→w'.heap[b]? =w.heap[b]?)(hT:∀b,v.ownBlock=some b→¬T' b):jr T' m e size w' v gs:=by
 obtain⟨⟨h1,h2⟩,h3,h4⟩:=o
 refine⟨⟨h1,h2.imp id ?_⟩,hT,h4⟩
 rintro⟨g,cap,cur,rfl,k1,k2,k3⟩
 exact⟨g,cap,cur,rfl,k1,(hs g rfl).trans k2,k3⟩
structure Dk (w:World) (m0 m1:Nat) (nm:Bs) (vW:Value) (ws:List Bs) (T:Nat→Prop) (W:World) (va vk:Value) (kC:List (List Sy)) (ks:List Nat):Prop where
 pw:Pw N0 w T W
 bx:W.heap[m1]? =some (.cells #[.string (au nm),va,vk] 119 (0,0))
 rb:W.heap[m0]? =some (.cells #[.string ⟨#[]⟩, .slice none 0 0, .slice none 0 0] 119 (0,0))
 t1:¬T m1
 t0:¬T m0
 al:qR T w.heap.size W va kC
 ki:U2 T w.heap.size W vk ks
 dj:Dj va vk
 wd:Rw T 1 W vW (ws.map yw)
 ge:w.heap.size≤m1
section
variable {w:World} {m0 m1:Nat} {nm:Bs} {vW:Value} {ws:List Bs} {T:Nat→Prop} {W W':World} {va vk:Value} {kC:List (List Sy)} {ks:List Nat}
theorem Dk.call(h:Dk w m0 m1 nm vW ws T W va vk kC ks)(hb:Below W.heap.size W W'):Dk w m0 m1 nm vW ws (gr T W W') W' va vk kC ks where
 pw:=h.pw.call hb
 bx:=aF hb h.bx (ψ.1 h.bx).1
 rb:=aF hb h.rb (ψ.1 h.rb).1
 t1:=fun k=>k.2.elim h.t1 fun k=>absurd (ψ.1 h.bx).1 η
 t0:=fun k=>k.2.elim h.t0 fun k=>absurd (ψ.1 h.rb).1 η
 al:=h.al.call hb
 ki:=jr.call h.ki hb
 dj:=h.dj
 wd:=h.wd.to (aH hb)
 ge:=h.ge
theorem Dk.na(h:Dk w m0 m1 nm vW ws T W va vk kC ks):va.ownBlock≠some m1∧va.ownBlock≠some m0∧vk.ownBlock≠some m1∧vk.ownBlock≠some m0:=by
 obtain⟨gs,h1, -⟩:=h.al
 exact⟨h1.ne h.bx ζ,h1.ne h.rb ζ,jr.ne h.ki h.bx ζ,jr.ne h.ki h.rb ζ⟩
theorem Dk.ae5(h:Dk w m0 m1 nm vW ws T W va vk kC ks){Kw:Value}{al':List (List Sy)}(hl:Left N0 w T W va W' Kw)(ha:qR T w.heap.size W' Kw al')(hm:m0≠m1):Dk w m0 m1 nm vW ws T (W'.setCell ⟨m1,1,none⟩ Kw) Kw vk al' ks:=by
 obtain⟨n1,n2,n3,n4⟩:=h.na
 have hbl:=(ψ.1 h.bx).1
 have hrl:=(ψ.1 h.rb).1
 have hbx:=(hl.IY m1 hbl n1).trans h.bx
 have hrb:=(hl.IY m0 hrl n2).trans h.rb
 obtain⟨hk,hd⟩:=hl.rU h.ki h.dj.symm
 have hto:To T W' T (W'.setCell ⟨m1,1,none⟩ Kw):=To.set ⟨m1,1,none⟩ rfl (fun b hb e=>h.t1 (by rw[show m1=b from e.symm];exact hb)) Kw
 have sm:∀b,b≠m1→(W'.setCell ⟨m1,1,none⟩ Kw).heap[b]? =W'.heap[b]? :=fun b hb=>Below.heap_setCell _ _ _ _ hb
 obtain⟨gs,g1,g2⟩:=ha
 have hbs:(W'.setCell ⟨m1,1,none⟩ Kw).heap[m1]? =some (.cells #[.string (au nm),Kw,vk] 119 (0,0)):=by rw[setCell_eq_setRow _ _ _ _ _ _ _ hbx];exact setRow_heap _ _ _ _ _ _ hbx
 exact⟨⟨fun b hb=>by simpa using hl.pw.lt b hb,hl.pw.up,hl.pw.be.setCell (p:=⟨m1,1,none⟩) h.ge Kw,hl.pw.sub⟩,hbs,(sm m0 hm).trans hrb,h.t1,h.t0,⟨gs,g1.same (fun b hb=>sm b fun e=>by subst e;exact g1.ne hbx ζ hb) g1.out,oh.to hto g2⟩,hk.same (fun b hb=>sm b fun e=>by subst e;exact n3 hb) hk.out,hd.symm,(h.wd.to hl.tk).to hto,h.ge⟩
theorem Dk.fw(h:Dk w m0 m1 nm vW ws T W va vk kC ks)(hz:W'.heap.size=W.heap.size)(hs:∀b,b≠m0→W'.heap[b]? =W.heap[b]?):vo (nw N0 w.heap.size) W' va kC∧Rw (nw N0 w.heap.size) 1 W' vk (ks.map Kv):=by
 obtain⟨n1,n2,n3,n4⟩:=h.na
 obtain⟨gs,g1,g2⟩:=h.al
 have ht:To (fun b=>b≠m0∧w.heap.size≤b) W (nw N0 w.heap.size) W':=⟨acf hz.symm,fun b hb _=>⟨hs b hb.1, .inr hb.2⟩⟩
 exact⟨⟨gs,(g1.rw fun b hb=>⟨fun e=>by subst e;exact n2 hb,og g1.row b hb⟩).to ht,oh.to ((To.mono fun b hb _=>⟨fun e=>by subst e;exact h.t0 hb,(h.pw.up b hb).elim (fun h=>h.elim) id⟩).trans ht) g2⟩,(jr.rw h.ki fun b hb=>⟨fun e=>by subst e;exact n4 hb,og h.ki.row b hb⟩).to ht⟩
theorem Dk.aoD(h:Dk w m0 m1 nm vW ws T W va vk kC ks){Ky:Value}{ks':List Nat}(hl:Left N0 w T W vk W' Ky)(ha:U2 T w.heap.size W' Ky ks')(hm:m0≠m1):Dk w m0 m1 nm vW ws T (W'.setCell ⟨m1,2,none⟩ Ky) va Ky kC ks':=by
 obtain⟨n1,n2,n3,n4⟩:=h.na
 have hbl:=(ψ.1 h.bx).1
 have hrl:=(ψ.1 h.rb).1
 have hbx:=(hl.IY m1 hbl n3).trans h.bx
 have hrb:=(hl.IY m0 hrl n4).trans h.rb
 obtain⟨gs,g1,g2⟩:=h.al
 obtain⟨hk,hd⟩:=hl.rU g1 h.dj
 have hto:To T W' T (W'.setCell ⟨m1,2,none⟩ Ky):=To.set ⟨m1,2,none⟩ rfl (fun b hb e=>h.t1 (by rw[show m1=b from e.symm];exact hb)) Ky
 have sm:∀b,b≠m1→(W'.setCell ⟨m1,2,none⟩ Ky).heap[b]? =W'.heap[b]? :=fun b hb=>Below.heap_setCell _ _ _ _ hb
 have hbs:(W'.setCell ⟨m1,2,none⟩ Ky).heap[m1]? =some (.cells #[.string (au nm),va,Ky] 119 (0,0)):=by rw[setCell_eq_setRow _ _ _ _ _ _ _ hbx];exact setRow_heap _ _ _ _ _ _ hbx
 exact⟨⟨fun b hb=>by simpa using hl.pw.lt b hb,hl.pw.up,hl.pw.be.setCell (p:=⟨m1,2,none⟩) h.ge Ky,hl.pw.sub⟩,hbs,(sm m0 hm).trans hrb,h.t1,h.t0,⟨gs,hk.same (fun b hb=>sm b fun e=>by subst e;exact n1 hb) hk.out,oh.to (hl.tk.trans hto) g2⟩,jr.same ha (fun b hb=>sm b fun e=>by subst e;exact jr.ne ha hbx ζ hb) ha.out,hd,(h.wd.to hl.tk).to hto,h.ge⟩
end
def Dl(m:Nat)(O:Obj)(a:Addr)(v:Value):Type:={w:World//w.heap[m]? =some O∧w.cell? a=some v}
def Dl.w{m:Nat}{O:Obj}{a:Addr}{v:Value}(u:Dl m O a v):World:=u.1
theorem vo.head{T:Nat→Prop}{w:World}{a:Option Addr}{k c:Nat}{b:List Sy}{bs:List (List Sy)}(h:vo T w (.slice a k c) (b::bs)):0<k∧∃bb off a' k' c',a=some ⟨bb,off,none⟩∧T bb∧bb<w.heap.size∧w.cell? ⟨bb,off,none⟩=some (.slice a' k' c')∧zx T w (.slice a' k' c') b:=by
 obtain⟨gs,h1,h2⟩:=h
 obtain⟨vi,g1,yz⟩:=h2.get 0 ν
 obtain⟨e,bb,off,rfl,hS,hl,hc⟩:=h1.get g1
 obtain⟨ai,ki,ci,rfl⟩:=yz.choose_spec.1.aj
 refine⟨by rw[e,h2.len];simp,bb,off,ai,ki,ci,rfl,hS,hl,?_,yz⟩
 have:=hc 0 _ rfl
 rwa[afF,Nat.add_zero]at this
theorem acG{n:Nat}{ws:List Bs}{i:Nat}{p:List (List Sy)×List Nat}(h:GD n ws i=some p):∃m,n=m+1∧i≤1000∧((ws.length≤i∧p=([],[]))∨(i<ws.length∧∃b bs j k j2 q,xq 100 ws i [] []=some (b::bs,j)∧((ws[j]? ≠some [45,62]∧k=0∧j2=j)∨(ws[j]? =some [45,62]∧j2=j+2∧∃u,ws[j+1]? =some u∧Jj u 0=some k))∧GD m ws (j2+1)=some q∧p=(b::q.1,k::q.2))):=by
 cases n with
 |zero=>cases h
 |succ n=>
  unfold GD at h
  split at h
  ·cases h
  next hi=>
  refine⟨n,rfl,by omega,?_⟩
  split at h
  ·next h1=>exact .inl ⟨h1,(aau h).symm⟩
  next h1=>
  refine .inr ⟨by omega,?_⟩;obtain⟨⟨bs,j⟩,h2,h3⟩:=Γ.1 h;dsimp only at h3
  cases bs with
  |nil=>cases h3
  |cons b bs=>
   dsimp only at h3
   split at h3
   ·next h4=>
    obtain⟨q,h5,h6⟩:=acw.1 h3;exact⟨b,bs,j,0,j,q,h2, .inl ⟨by rw[h4];exact fun h=>((by cases h)),rfl,rfl⟩,h5,h6.symm⟩
   ·next t h4=>
    split at h3
    ·next h5=>
     subst h5
     split at h3
     ·cases h3
     ·next u h6=>
      obtain⟨k,h7,h8⟩:=Γ.1 h3;obtain⟨q,h9,h10⟩:=acw.1 h8;exact⟨b,bs,j,k,j+2,q,h2, .inr ⟨h4,rfl,u,h6,h7⟩,h9,h10.symm⟩
    ·next h5=>
     obtain⟨q,h6,h7⟩:=acw.1 h3;exact⟨b,bs,j,0,j,q,h2, .inl ⟨by rw[h4];exact fun h=>h5 (aau h),rfl,rfl⟩,h6,h7.symm⟩
theorem acH{b:UInt8}{r:Bs}{k K:Nat}(h:Jj (b::r) k=some K):k≤1000∧48≤b.toNat∧Jj r (10*k+b.toNat - 48)=some K:=by
 unfold Jj at h
 split at h
 ·next h1=>exact⟨h1.1,by have:=h1.2;simpa[UInt8.le_iff_toNat_le]using this,h⟩
 ·cases h
set_option maxHeartbeats 8000000
theorem JV{W:World}{m:Nat}{a b c:Value}{t:TypeId}{f:Nat×Nat}(h:W.heap[m]? =some (.cells #[a,b,c] t f)):W.cell? ⟨m,0,none⟩=some a∧W.cell? ⟨m,1,none⟩=some b∧W.cell? ⟨m,2,none⟩=some c:=by
 refine⟨?_,?_,?_⟩<;>simp[World.cell?,h]
theorem Rw.o6{T:Nat→Prop}{W:World}{a:Option Addr}{k c i:Nat}{ws:List Bs}{t:Bs}(h:Rw T 1 W (.slice a k c) (ws.map yw))(hi:ws[i]? =some t):i<k∧∃b off,a=some ⟨b,off,none⟩∧W.cell? ⟨b,off+i,none⟩=some (.string (au t)):=by
 obtain⟨e,b,off,rfl,hS,hl,hc⟩:=h.get (i:=i) (g:=yw t) (by rw[afG,hi];rfl)
 have:=(aca.1 hi).1
 rw[abz]at e
 exact⟨by omega,b,off,rfl,by have:=hc 0 _ rfl;rwa[afF,Nat.add_zero]at this⟩
def PsU(w:World)(R:Ru)(e:Ending)(w':World):Prop:=∃va vk,e= .returned (.agg #[.string (au R.name),va,vk])∧Below w.heap.size w w'∧vo (nw N0 w.heap.size) w' va R.mh∧Rw (nw N0 w.heap.size) 1 w' vk (R.iL.map Kv)
theorem ait{w:World}(s:Bs)(R:Ru)(h:ZZ s R):Calls Tryz.prog 56 #[.string (au s)] w (PsU w R):=by
 obtain⟨h0,h2,hW,hl,hs⟩:=h
 obtain⟨ws,hws⟩:∃ws,wF s []=ws:=⟨_,rfl⟩
 rw[hws]at h0 h2 hW hl
 obtain⟨m0,hm⟩:∃m,w.heap.size=m:=⟨_,rfl⟩
 have Jk:=ag w (.cells #[.string ⟨#[]⟩, .slice none 0 0, .slice none 0 0] 119)
 have hp1:=(Pw.start (S:=N0) (w:=w) fun _ h=>h.elim).on Jk
 have Z4:=rR hm #[.string ⟨#[]⟩, .slice none 0 0, .slice none 0 0] 119
 have hsz1:=l7 hm (.cells #[.string ⟨#[]⟩, .slice none 0 0, .slice none 0 0] 119)
 obtain⟨w1,hw1⟩:∃W,w.alloc (.cells #[.string ⟨#[]⟩, .slice none 0 0, .slice none 0 0] 119)=W:=⟨_,rfl⟩
 rw[hw1]at Jk hp1 Z4 hsz1
 have HW1:=π hw1
 have HWS:=π hws
 have H0:=π h0
 have H2:=π h2
 have HW:=π hW
 have HL:=π hl
 have HM:=π hm
 have Fu:=π hsz1
 clear hw1 hws h0 h2 hW hl hm hsz1
 go_enter Tryz.func56,Tryz.ntmps56
 obtain⟨K0,pW⟩:∃K0,K0=bodyPost Tryz.prog Tryz.f56 (PsU w R):=⟨_,rfl⟩
 rw[←pW]
 have je:=π pW
 clear pW
 go_wp2_with fail
 rw[HW1.out,HM.out]
 refine(CZ (S:=N0) s hs).mono ?_
 rintro e w2 ⟨v2,rfl,hb2,hr2⟩
 rw[HWS.out]at hr2
 have p2:=hp1.call hb2
 have hr3:=hr2.to (wS (T:=N0) (w:=w1))
 have ae6:=aF hb2 Z4 (ψ.1 Z4).1
 obtain⟨aW,kW,cW,rfl⟩:=hr3.aj
 have hkw:=hr3.len.1
 rw[abz]at hkw
 have axY:kW≤1000:=by have:=HL.out;omega
 obtain⟨m1,hm1⟩:∃m,w2.heap.size=m:=⟨_,rfl⟩
 obtain⟨hk0,bW,oW,rfl,d0⟩:=hr3.o6 H0.out
 have Dm:Dk w m0 m1 R.name (.slice (some ⟨bW,oW,none⟩) kW cW) ws (gr N0 w1 w2) (w2.alloc (.cells #[.string (au R.name), .slice none 0 0, .slice none 0 0] 119)) (.slice none 0 0) (.slice none 0 0) [] []:=
  ⟨p2.on (ag _ _),rR hm1 _ _,CX ae6 _,fun h=>by have:=h.1;omega,fun h=>h.2.elim id fun h=>by have:=Fu.out;omega,qR.nil,jr.nil,(fun _ h=>(by cases h)),hr3.to (.below (ag _ _)),by have:=Jk.size;have:=hb2.size;omega⟩
 have hne:m0≠m1:=by have:=(ψ.1 ae6).1;omega
 have rA:=π hkw
 have HNE:=π hne
 have d1:w2.cell? ⟨bW,oW,none⟩=some (.string (au R.name)):=d0
 clear d0 Z4 ae6 hr2 hr3 p2 hp1 Jk hkw hne
 go_wp2_with fail
 clear d1 hm1
 go_loopg [5,6,7,8,9] 100 (fun q s5 s6 s7 s8 s9 wr=>∃(i:Nat) (T:Nat→Prop) (va vk:Value) (kC:List (List Sy)) (ks:List Nat) (pz:List (List Sy)×List Nat),s5= .int .i64 (i:Nat)∧GD q ws i=some pz∧kC++pz.1=R.mh∧ks++pz.2=R.iL∧kC.length+q≤100∧ks.length+q≤100∧Dk w m0 m1 R.name (.slice (some ⟨bW,oW,none⟩) kW cW) ws T wr va vk kC ks)
 case atStart=>exact⟨2,_,_,_,[],[],(R.mh,R.iL),by go_num,H2.out,rfl,rfl,by decide,by decide,Dm⟩
 case round=>
  obtain⟨i,T,va,vk,kC,ks,pz,rfl,hz,ha,hk,hla,hlk,Dm⟩:=hrel;obtain⟨n,rfl,hi,hcase⟩:=acG hz;obtain⟨aA,cA,rfl⟩:=Dm.al.aj;obtain⟨aK,cK,rfl⟩:=Dm.ki.aj
  rcases hcase with⟨h1,rfl⟩|⟨h1,b,bs,j,k,j2,q,hsy,harr,hq,rfl⟩
  ·have e1:decide (i<kW)=false:=aa5 (by rw[rA.out];omega)
   rw[List.append_nil]at ha hk;subst ha;have hkk:=hk;have c1:=JV Dm.bx;have c0:=JV Dm.rb;have z0:=gQ Dm.rb 0;have z1:=gQ Dm.rb 1;have z2:=gQ Dm.rb 2;have PU:=π Dm;have HKK:=π hkk;clear hz hk hkk Dm h1
   go_wp2_with fail
   rw[je.out]
   have hf:=PU.out.fw (W':=((wr.setCell ⟨m0,0,none⟩ (.string (au R.name))).setCell ⟨m0,1,none⟩ (.slice aA R.mh.length cA)).setCell ⟨m0,2,none⟩ (.slice aK ks.length cK)) ν fun b hb=>(Below.heap_setCell _ _ _ _ hb).trans ((Below.heap_setCell _ _ _ _ hb).trans (Below.heap_setCell _ _ _ _ hb))
   have hf2:=hf.2;rw[show ks.map Kv=R.iL.map Kv by rw[HKK.out]]at hf2;refine abw (v:= .agg #[.string (au R.name), .slice aA R.mh.length cA, .slice aK ks.length cK]) (by simp[results,Tryz.results56,go_sem,c0.1,c0.2.1,c0.2.2]) rfl ⟨_,_,rfl,((PU.out.pw.be.setCell (p:=⟨m0,0,none⟩) (acf HM.out) _).setCell (p:=⟨m0,1,none⟩) (acf HM.out) _).setCell (p:=⟨m0,2,none⟩) (acf HM.out) _,hf.1,hf2⟩
  ·have e1:decide (i<kW)=true:=aa4 (by rw[rA.out];omega)
   have HSY:=π hsy;have ane:=π harr;have HQ:=π hq;have HA:=π ha;have HKK:=π hk;have hjl:j≤1000:=FH hsy
   have axZ:j2≤1002:=harr.elim (fun h=>by rw[h.2.2];omega) fun h=>by rw[h.2.1];omega
   clear hz hsy harr hq ha hk h1
   go_wp2_with fail
   refine(JU 100 (i:=i) Dm.pw.lt Dm.wd HW.out HL.out ζ HSY.out).mono ?_;rintro e w4 ⟨v4,rfl,hb4,hal⟩;have XL:=Dm.call hb4;obtain⟨aL,qL,cL,rfl⟩:=hal.choose_spec.1.aj;have UU:=hal.len.1;clear Dm UU
   go_upto_region 8 with fail
   obtain⟨z8,XK⟩:∃z:Bool,z=decide (ws[j]? =some [45,62]):=⟨_,rfl⟩;have HZ8:=π XK;clear XK
   go_cut [37]from 16 to 77 (fun s37 wx=>s37= .bool z8∧w4=wx)
   case first=>
    cases Qj:ws[j]? with
    |none=>
     have e2:decide (j<kW)=false:=aa5 (by have:=List.getElem?_eq_none_iff.1 Qj;rw[rA.out];omega)
     have hzz:z8=false:=by rw[HZ8.out,Qj];rfl
     clear Qj
     go_wp2_with fail
     go_meet
     exact⟨by rw[hzz],rfl⟩
    |some t=>
     obtain⟨hjk,b',o',e9,d0⟩:=XL.wd.o6 Qj;cases e9;have e2:decide (j<kW)=true:=aa4 hjk;by_cases ht:t=[45,62]
     ·have e3:((au t).toList==[45,62])=true:=gp ht
      have hzz:z8=true:=by rw[HZ8.out,Qj,ht];rfl
      clear Qj ht
      go_wp2_with fail
      go_meet
      exact⟨by rw[hzz],rfl⟩
     ·have e3:((au t).toList==[45,62])=false:=by rw[mJ];exact aat.2 ht
      have hzz:z8=false:=by rw[HZ8.out,Qj];exact aa5 fun h=>ht (aau h)
      clear Qj ht
      go_wp2_with fail
      go_meet
      exact⟨by rw[hzz],rfl⟩
   case rest=>
    obtain⟨rfl,rfl⟩:=hcut
    go_upto_if 37 with fail
    go_cut [5,8,9]from 16 to 77 (fun s5 s8 s9 wx=>s5= .int .i64 (j2:Nat)∧s8= .int .i64 (k:Nat)∧w4=wx)
    case first=>
     cases z8 with
     |false=>
      have hj2:j2=j∧k=0:=ane.out.elim (fun h=>⟨h.2.2,h.2.1⟩) fun h=>by have:=HZ8.out;rw[h.1]at this;simp at this
      go_wp2_with fail
      go_meet
      exact⟨by rw[hj2.1],by rw[hj2.2];rfl,rfl⟩
     |true=>
      obtain⟨hj2,u,hu,iR⟩:j2=j+2∧∃u,ws[j+1]? =some u∧Jj u 0=some k:=ane.out.elim (fun h=>absurd (of_decide_eq_true HZ8.out.symm) h.1) fun h=>h.2
      obtain⟨hjk,b',o',e9,d0⟩:=XL.wd.o6 hu;cases e9;have hul:=(HW.out u (agG hu)).2;obtain⟨un,hun⟩:∃n,u.length=n:=⟨_,rfl⟩;rw[hun]at hul;have HUN:=π hun;have atq:=π iR;have HJ2:=π hj2
      have hsz:(au u).size=un:=by rw[ko,hun]
      have d0:w4.cell? ⟨bW,oW+j+1,none⟩=some (.string (au u)):=d0;clear hu iR hj2 hun
      go_wp2_with fail
      go_loopw [8,9] (fun s8 s9 wx=>∃(y k':Nat),s9= .int .i64 (y:Nat)∧y≤un∧s8= .int .i64 (k':Nat)∧Jj (u.drop y) k'=some k∧w4=wx) (fun _ s9 _=>un - (intOf s9).toNat)
      case atStart=>exact⟨0,0,by go_num,Ω _,by go_num,atq.out,rfl⟩
      case round=>
       obtain⟨y,k',rfl,hy,rfl,hn,rfl⟩:=hrel;by_cases hlt:y<un
       case neg=>
        have e5:decide (y<un)=false:=aa5 hlt
        have hk':k'=k:=by
         rw[abY (by rw[HUN.out];omega)]at hn;exact aau hn
        have HK':=π hk';clear hn hk'
        go_wp2_with fail
        go_meet
        exact⟨by rw[HJ2.out];go_num,by rw[HK'.out],rfl⟩
       case pos=>
        have e5:decide (y<un)=true:=aa4 hlt
        have hyl:y<u.length:=by rw[HUN.out];exact hlt
        have hsi:(au u)[y]'(by rw[ko];exact hyl)=u[y]:=rfl;obtain⟨bt,hbt⟩:∃b,u[y]=b:=⟨_,rfl⟩;rw[abv hyl,hbt]at hn;obtain⟨h1k,h48,hn⟩:=acH hn;obtain⟨B,hB⟩:∃B,bt.toNat=B:=⟨_,rfl⟩
        have hB2:B≤255:=by rw[←hB];have:=bt.toNat_lt;omega
        rw[hB]at h48 hn
        have hbyte:(((au u)[y]'(by rw[ko];exact hyl)).toNat:Int)=(B:Int):=by rw[hsi,hbt,hB]
        have HN:=π hn;clear hn hsi hbt hB
        go_wp2_with fail
        go_roundw
        case rel=>exact⟨y+1,10*k'+B - 48,by go_num,by omega,by go_num,HN.out,trivial⟩
        case measure=>simp[intOf];omega
    case rest=>
     obtain⟨rfl,rfl,rfl⟩:=hcut;obtain⟨T4,hT4⟩:∃T4,gr T wr w4=T4:=⟨_,rfl⟩;rw[hT4]at XL hal;clear hT4;obtain⟨h0q,bb,off,ai,ki,ci,rfl,Kt,hbb,hv0,yz⟩:=hal.head;have EA:=XL.bx
     haveI:Nonempty (Dl m1 (.cells #[.string (au R.name), .slice aA kC.length cA, .slice aK ks.length cK] 119 (0,0)) ⟨bb,off,none⟩ (.slice ai ki ci)):=⟨⟨w4,EA,hv0⟩⟩
     have c1:∀u:Dl m1 (.cells #[.string (au R.name), .slice aA kC.length cA, .slice aK ks.length cK] 119 (0,0)) ⟨bb,off,none⟩ (.slice ai ki ci),u.w.cell? ⟨m1,1,none⟩=some (.slice aA kC.length cA):=fun u=>(JV u.2.1).2.1
     have c2:∀u:Dl m1 (.cells #[.string (au R.name), .slice aA kC.length cA, .slice aK ks.length cK] 119 (0,0)) ⟨bb,off,none⟩ (.slice ai ki ci),u.w.cell? ⟨bb,off,none⟩=some (.slice ai ki ci):=fun u=>u.2.2
     obtain⟨J,hJ⟩:∃J:Dn→World→Prop,J=fun D w'=>(w'.heap[m1]? =some (.cells #[.string (au R.name), .slice aA kC.length cA, .slice aK ks.length cK] 119 (0,0))∧w'.cell? ⟨bb,off,none⟩=some (.slice ai ki ci))∧(D 6≠none→D 5≠none)∧(D 6=none→Below w4.heap.size w4 w'∧∀v,D 5=some v→vo (gr T4 w4 w') w' v [b])∧∀v,D 6=some v→∃W8,Below w4.heap.size w4 W8∧Left N0 w (gr T4 w4 W8) W8 (.slice aA kC.length cA) w' v∧qR (gr T4 w4 W8) w.heap.size w' v (kC++[b]):=⟨_,rfl⟩
     have HJ:=π hJ
     have hJ0:J Dn.no (World.drew w4):=by rw[hJ];exact⟨⟨EA,hv0⟩,fun h=>absurd rfl h,fun _=>⟨(Below.refl _ _).drew,(fun _ h=>(by cases h))⟩,fun _ h=>(by cases h)⟩
     have hJC:∀D w',J D w'→∃u:Dl m1 (.cells #[.string (au R.name), .slice aA kC.length cA, .slice aK ks.length cK] 119 (0,0)) ⟨bb,off,none⟩ (.slice ai ki ci),w'=u.w:=fun D w' h=>by rw[hJ]at h;exact⟨⟨w',h.1⟩,rfl⟩
     have PO:=π hJ0;have HJC:=π hJC;have HV0:=π hv0;clear hJ hJ0 hJC hv0 EA
     go_wp2_with fail
     refine uH 8 [5,6] (fun w'=>∃u:Dl m1 (.cells #[.string (au R.name), .slice aA kC.length cA, .slice aK ks.length cK] 119 (0,0)) ⟨bb,off,none⟩ (.slice ai ki ci),w'=u.w) J (by kernel_rfl) (by kernel_rfl) PO.out HJC.out ?_;intro U;obtain⟨u5,hu5⟩:∃v,U 5=v:=⟨_,rfl⟩;have HU5:=π hu5;clear hu5;obtain⟨u6,hu6⟩:∃v,U 6=v:=⟨_,rfl⟩;have HU6:=π hu6;clear hu6;dsimp only[List.take,List.drop];refine mI 5 (by kernel_rfl) ?_;dsimp only[List.take,List.drop]
     repeat(go_big_quiet_step (fail))
     refine abO ?_;refine qz (by kernel_rfl) rfl rfl (by kernel_rfl) ?_ ?_
     ·intro D w8 hI hn iC
      rw[HJ.out]at hI;obtain⟨⟨i1,i2⟩,i3,i4, -⟩:=hI
      have Qk:D 6=none:=afT fun h=>i3 h hn
      obtain⟨gW, -⟩:=i4 Qk;have iq:=ag w8 (.cells #[.slice ai ki ci] 127);have hone:=(zx.ay (m:=w8.heap.size) (yz.to (aH gW)) rfl).to (T:=gr T4 w4 (w8.alloc (.cells #[.slice ai ki ci] 127))) (.mono fun q h _=>⟨h.1,h.2.elim (fun h=>h.2) fun h=> .inr (aaT gW.size h)⟩)
      have hfin:J (D.tZ 5 (.slice (some ⟨w8.heap.size,0,none⟩) 1 1)) (w8.alloc (.cells #[.slice ai ki ci] 127)):=by
       rw[HJ.out];refine⟨⟨aF iq i1 (ψ.1 i1).1,(iq.cell (World.block_lt_of_cell? w8 _ i2)).trans i2⟩,fun h=>absurd Qk h,fun _=>⟨gW.trans (iq.mono gW.size),fun v hv=>?_⟩,fun v hv=>?_⟩
       ·cases hv;exact hone
       ·have hv:D 6=some v:=hv
        rw[Qk]at hv;cases hv
      have HF:=π hfin;clear hfin hone iq i1 i2 i3 i4 hn iC Qk
      go_wp2_with fail
      exact⟨rfl,rfl,_,rfl,HF.out⟩
     rw[HU5.out];simp only[Act.put,abu,abH,abG];refine qz (by kernel_rfl) rfl rfl (by kernel_rfl) ?_ ?_
     ·intro D w8 hI hn iC
      have h5:=iC 5 (by kernel_rfl);rw[HU5.out]at h5;rw[HJ.out]at hI;obtain⟨⟨i1,i2⟩,i3,i4, -⟩:=hI;obtain⟨gW,i5⟩:=i4 hn;have hrow:=i5 _ h5;have Jl:=XL.call gW;obtain⟨aR,kR,cR,rfl⟩:=hrow.choose_spec.1.aj;have hT8:gr T4 w4 w8 bb:=⟨abB hbb gW.size, .inl Kt⟩;have I1:=π i1;have I2:=π i2;have H5:=π h5;clear i1 i2 i3 i4 i5 h5 iC hn
      go_wp2_with (first
       |(at_builtin;refine JS Jl.pw (.tmp 63) (.tmp 67) Jl.al hrow (by simp;omega) rfl rfl rfl rfl ?_
         intro v9 w9 ac9 Ql
         have hfin:J (D.tZ 6 v9) w9:=by
          rw[HJ.out];refine⟨⟨(Ql.IY m1 (ψ.1 Jl.bx).1 Jl.na.1).trans Jl.bx,?_⟩,fun _=>?_,fun h=>?_,fun v hv=>?_⟩
          ·have e:=(Ql.tk.eq bb hT8 (abB hbb gW.size)).1
           have:=I2.out;unfold World.cell? at this⊢;rw[e];exact this
          ·show D 5≠none
           rw[H5.out];exact fun h=>(by cases h)
          ·exact (by cases h)
          ·cases hv
           exact⟨w8,gW,Ql,ac9⟩
         have HF:=π hfin
         clear hfin)
       |fail)
      exact⟨rfl,rfl,_,rfl,HF.out⟩
     rw[HU6.out];simp only[Act.put,abu,abH,abG];refine mI 1 (by kernel_rfl) ?_;dsimp only[List.take,List.drop]
     repeat(go_big_quiet_step (fail))
     refine abO ?_;intro w8 hI;rw[HJ.out]at hI;obtain⟨W8,gW,U3,Jm⟩:=hI.2.2.2 (U 6) rfl;rw[HU6.out]at U3 Jm;obtain⟨al3,ae7⟩:∃q,kC++[b]=q:=⟨_,rfl⟩;rw[ae7]at Jm;have Jg:=(XL.call gW).ae5 U3 Jm HNE.out;obtain⟨aB,cB,rfl⟩:=Jm.aj;have ang:=π (show al3++q.1=R.mh∧al3.length+n≤100 by rw[←ae7,Ψ];exact⟨HA.out,by simp;omega⟩);have ib:=hI.1.1;have z1:=gQ ib 1;have c3:=JV ib;obtain⟨W9,FE⟩:∃W,w8.setCell ⟨m1,1,none⟩ (.slice aB al3.length cB)=W:=⟨_,rfl⟩
     have anh:W9.heap.size=w8.heap.size:=by rw[←FE];simp
     rw[FE]at Jg;have HW9:=π FE;have Lx:=Jg.call (ag W9 (.cells #[.int .i64 k] 3));have hrow3:=Rw.kJ (S:=gr (gr T4 w4 W8) W9 (W9.alloc (.cells #[.int .i64 k] 3))) (g:=Kv k) 3 (w:=W9) rfl ⟨by simp, .inr (υ _)⟩ ⟨rfl,fun u hu=>by rw[Φ.1 hu];rfl⟩;obtain⟨T10,ani⟩:∃T,gr (gr T4 w4 W8) W9 (W9.alloc (.cells #[.int .i64 k] 3))=T:=⟨_,rfl⟩;rw[ani]at Lx hrow3;clear ani;have ax0:=π anh;clear hI c1 c2 FE ae7 anh gW U3 Jm
     go_upto_region 15 with fail
     rw[HW9.out];have c9:=JV Jg.bx;obtain⟨ks3,ae8⟩:∃q,ks++[k]=q:=⟨_,rfl⟩;have anj:=π (show ks3++q.2=R.iL∧ks3.length+n≤100 by rw[←ae8,Ψ];exact⟨HKK.out,by simp;omega⟩);have HKS:=π ae8;clear ae8 ib z1 c3
     go_wp2_with (first
      |(at_builtin;refine xH YR Tryz.underlying61 rfl ζ ζ Lx.pw (.tmp 71) (.tmp 73) Lx.ki hrow3 (by simp;omega) rfl rfl rfl rfl ?_
        intro v11 Xp ank Lu
        have ae9:U2 T10 w.heap.size Xp v11 ks3:=by
         have h9:=ank;rw[show ks.map Kv++[Kv k]=ks3.map Kv by simp only[←HKS.out,acb,acj,acJ]]at h9;exact h9
        have anl:=Lx.aoD Lu ae9 HNE.out;have ib:=(Lu.IY m1 (ψ.1 Lx.bx).1 Lx.na.2.2.1).trans Lx.bx;obtain⟨aD,cD,rfl⟩:=ae9.aj;have z2:=gQ ib 2;have c3:=JV ib;have atr:=π anl
        clear anl ae9 ank Lu ib)
      |fail)
     go_roundg n
     case measure=>omega
     case rel=>exact⟨j2+1,_,_,_,al3,ks3,q,by go_num,HQ.out,ang.out.1,anj.out.1,ang.out.2,anj.out.2,atr.out⟩
def joi(s:Bs):List Bs→Bs
 |[]=>[]
 |[x]=>x
 |x::y::r=>x++s++joi s (y::r)
mutual
def syB:Sy→Bs
 | .tx t=>39::t
 | .nm t=>t
 | .dO a=>[60,63,32]++alB a++[32,63,62]
 | .bV a=>[60,60,32]++alB a++[32,62,62]
 | .jy a=>[60,40,32]++alB a++[32,41,62]
def sqB:List Sy→Bs
 |[]=>[]
 |[y]=>syB y
 |y::z::r=>syB y++[32]++sqB (z::r)
def alB:List (List Sy)→Bs
 |[]=>[]
 |[l]=>sqB l
 |l::m::r=>sqB l++[32,47,47,32]++alB (m::r)
end
def kiB(k:Nat):Bs:=if k=0 then[]else[32,45,62,32]++(if k<10 then[UInt8.ofNat (48+k)]else[UInt8.ofNat (48+k/10),UInt8.ofNat (48+k%10)])
def zP(R:Ru):Bs:=R.name++[32,61,32]++joi [32,124,32] ((R.mh.zip R.iL).map fun p=>sqB p.1++kiB p.2)
def Jn:Bs:=dU.flatMap fun R=>zP R++[10]
theorem LA:Jn.length=2638:=by decide+kernel
theorem acP:dU.map (fun R=>((wF (zP R) [])[0]?,GD 100 (wF (zP R) []) 2))=dU.map fun R=>(some R.name,some (R.mh,R.iL)):=by kernel_rfl
theorem Kz:∀R∈dU,(∀t∈wF (zP R) [],t≠[]∧t.length≤1000)∧(wF (zP R) []).length≤1000∧(zP R).length≤100000∧∀b∈zP R,b≠10:=by decide+kernel
theorem acQ{j:Nat}(hj:j<dU.length):ZZ (zP dU[j]) dU[j]:=by
 have h:=afz (fun l=>l[j]?) acP
 simp only[afG,abE hj,Option.map_some,aga,Prod.mk.injEq]at h
 obtain⟨h1,h2,h3, -⟩:=Kz _ (ab2 hj)
 exact⟨h.1,h.2,h1,h2,h3⟩
def Dp(j:Nat):Nat:=((dU.take j).flatMap fun R=>zP R++[10]).length
theorem Qm{j:Nat}(hj:j<dU.length):Jn.drop (Dp j)=zP dU[j]++10::Jn.drop (Dp (j+1)):=by
 have e:∀i,Jn.drop (Dp i)=(dU.drop i).flatMap fun R=>zP R++[10]:=fun i=>by
  have:Jn=((dU.take i).flatMap fun R=>zP R++[10])++(dU.drop i).flatMap fun R=>zP R++[10]:=by
   rw[←List.flatMap_append,acB];rfl
  rw[this];exact List.drop_left
 rw[e,e,abv hj,acy,Ψ];rfl
theorem U4{j:Nat}(hj:j<dU.length):Dp (j+1)=Dp j+(zP dU[j]).length+1:=by
 unfold Dp
 rw[abL hj,List.flatMap_append,Δ,acy,List.flatMap_nil]
 simp;omega
theorem aiu:Dp dU.length=2638:=by unfold Dp;rw[acR];exact LA
theorem aiv:(Tryz.prog.info? 119).map (fun i=>(i.zero,i.size,i.bytes))=some (some (.agg #[.string ⟨#[]⟩, .slice none 0 0, .slice none 0 0]),3,64):=by kernel_rfl
theorem qa.fK{T:Nat→Prop}{w:World}:∀{xs ys:List Ru} {gs hs:List (List Value)},qa T w xs gs→qa T w ys hs→qa T w (xs++ys) (gs++hs)
 |[],_,_,_,h,k=>by rw[show _=[]from h];exact k
 |x::r,_,_,_,⟨va,vk,gr,h1,h2,h3,h4⟩,k=>by rw[h1];exact⟨va,vk,gr++_,rfl,h2,h3,qa.fK h4 k⟩
def U5(T:Nat→Prop)(m:Nat)(w:World)(v:Value)(rs:List Ru):Prop:=∃gs,jr T m 119 3 w v gs∧qa T w rs gs
structure G8 (w:World) (m0 m1:Nat) (vl:Value) (T:Nat→Prop) (W:World) (vr:Value) (rs:List Ru):Prop where
 pw:Pw N0 w T W
 bx:W.heap[m1]? =some (.cells #[vl,vr] 84 (0,0))
 rb:W.heap[m0]? =some (.cells #[.slice none 0 0, .slice none 0 0] 84 (0,0))
 t1:¬T m1
 t0:¬T m0
 ac:U5 T w.heap.size W vr rs
 ge:w.heap.size≤m1
section
variable {w:World} {m0 m1:Nat} {vl:Value} {T:Nat→Prop} {W W':World} {vr:Value} {rs:List Ru}
theorem U5.aj{m:Nat}(o:U5 T m W vr rs):∃a c,vr= .slice a rs.length c:=by
 obtain⟨gs,h1,h2⟩:=o
 obtain⟨a,c,h⟩:=h1.aj
 exact⟨a,c,by rw[←h2.len];exact h⟩
theorem G8.call(h:G8 w m0 m1 vl T W vr rs)(hb:Below W.heap.size W W'):G8 w m0 m1 vl (gr T W W') W' vr rs where
 pw:=h.pw.call hb
 bx:=aF hb h.bx (ψ.1 h.bx).1
 rb:=aF hb h.rb (ψ.1 h.rb).1
 t1:=fun k=>k.2.elim h.t1 fun k=>absurd (ψ.1 h.bx).1 η
 t0:=fun k=>k.2.elim h.t0 fun k=>absurd (ψ.1 h.rb).1 η
 ac:=let ⟨gs,h1,h2⟩:=h.ac;⟨gs,h1.call hb,qa.to (aH hb) h2⟩
 ge:=h.ge
theorem G8.na(h:G8 w m0 m1 vl T W vr rs):vr.ownBlock≠some m1∧vr.ownBlock≠some m0:=by
 obtain⟨gs,h1, -⟩:=h.ac
 exact⟨h1.ne h.bx ζ,h1.ne h.rb ζ⟩
theorem G8.ae5(h:G8 w m0 m1 vl T W vr rs){KA:Value}{rs':List Ru}(hl:Left N0 w T W vr W' KA)(ha:U5 T w.heap.size W' KA rs')(hm:m0≠m1):G8 w m0 m1 vl T (W'.setCell ⟨m1,1,none⟩ KA) KA rs':=by
 obtain⟨n1,n2⟩:=h.na
 have hbl:=(ψ.1 h.bx).1
 have hrl:=(ψ.1 h.rb).1
 have hbx:=(hl.IY m1 hbl n1).trans h.bx
 have hrb:=(hl.IY m0 hrl n2).trans h.rb
 have hto:To T W' T (W'.setCell ⟨m1,1,none⟩ KA):=To.set ⟨m1,1,none⟩ rfl (fun b hb e=>h.t1 (by rw[show m1=b from e.symm];exact hb)) KA
 have sm:∀b,b≠m1→(W'.setCell ⟨m1,1,none⟩ KA).heap[b]? =W'.heap[b]? :=fun b hb=>Below.heap_setCell _ _ _ _ hb
 obtain⟨gs,g1,g2⟩:=ha
 have hbs:(W'.setCell ⟨m1,1,none⟩ KA).heap[m1]? =some (.cells #[vl,KA] 84 (0,0)):=by rw[setCell_eq_setRow _ _ _ _ _ _ _ hbx];exact setRow_heap _ _ _ _ _ _ hbx
 exact⟨⟨fun b hb=>by simpa using hl.pw.lt b hb,hl.pw.up,hl.pw.be.setCell (p:=⟨m1,1,none⟩) h.ge KA,hl.pw.sub⟩,hbs,(sm m0 hm).trans hrb,h.t1,h.t0,⟨gs,g1.same (fun b hb=>sm b fun e=>by subst e;exact g1.ne hbx ζ hb) g1.out,qa.to hto g2⟩,h.ge⟩
theorem G8.fw(h:G8 w m0 m1 vl T W vr rs)(hz:W'.heap.size=W.heap.size)(hs:∀b,b≠m0→W'.heap[b]? =W.heap[b]?):∃gs,Rw (nw N0 w.heap.size) 3 W' vr gs∧qa (nw N0 w.heap.size) W' rs gs:=by
 obtain⟨n1,n2⟩:=h.na
 obtain⟨gs,g1,g2⟩:=h.ac
 have ht:To (fun b=>b≠m0∧w.heap.size≤b) W (nw N0 w.heap.size) W':=⟨acf hz.symm,fun b hb _=>⟨hs b hb.1, .inr hb.2⟩⟩
 exact⟨gs,(g1.rw fun b hb=>⟨fun e=>by subst e;exact n2 hb,og g1.row b hb⟩).to ht,qa.to ((To.mono fun b hb _=>⟨fun e=>by subst e;exact h.t0 hb,(h.pw.up b hb).elim (fun h=>h.elim) id⟩).trans ht) g2⟩
end
def PsN(vl:Value)(w:World)(e:Ending)(w':World):Prop:=∃vr gs,e= .returned (.agg #[vl,vr])∧Below w.heap.size w w'∧Rw (nw N0 w.heap.size) 3 w' vr gs∧qa (nw N0 w.heap.size) w' dU gs
theorem anm{w:World}(la:Option Addr)(ll lc:Nat):Calls Tryz.prog 37 #[.slice la ll lc] w (PsN (.slice la ll lc) w):=by
 obtain⟨m0,hm⟩:∃m,w.heap.size=m:=⟨_,rfl⟩
 have Jk:=ag w (.cells #[.slice none 0 0, .slice none 0 0] 84)
 have ann:=Jk.alloc Jk.size (.cells #[.slice la ll lc, .slice none 0 0] 84)
 have hp1:=(Pw.start (S:=N0) (w:=w) fun _ h=>h.elim).on ann
 have hsz1:=l7 hm (.cells #[.slice none 0 0, .slice none 0 0] 84)
 have hNS:G8 w m0 (m0+1) (.slice la ll lc) N0 ((w.alloc (.cells #[.slice none 0 0, .slice none 0 0] 84)).alloc (.cells #[.slice la ll lc, .slice none 0 0] 84)) (.slice none 0 0) []:=
  ⟨hp1,rR hsz1 _ _,CX (rR hm _ _) _,id,id,⟨[], .nil,rfl⟩,by omega⟩
 have HM:=π hm
 clear Jk ann hp1 hsz1 hm
 obtain⟨gm,hgm⟩:∃g,Jn=g:=⟨_,rfl⟩
 have hgl:gm.length=2638:=by rw[←hgm];exact LA
 have HGM:=π hgm
 go_enter Tryz.func37,Tryz.ntmps37
 generalize hG:ByteArray.mk _=G
 obtain rfl:G=au gm:=by rw[←hG,←HGM.out];kernel_rfl
 clear hG
 go_wp2_with fail
 rw[HM.out]
 obtain⟨m1,hm1⟩:∃m,m0+1=m:=⟨_,rfl⟩
 rw[hm1]at hNS⊢
 have hne:m0≠m1:=by omega
 have HNE:=π hne
 clear hne hm1
 obtain⟨RL,hRL⟩:∃l,dU=l:=⟨_,rfl⟩
 have Ui:=π hRL
 go_loopw [4,5] (fun s4 s5 wr=>∃(j i:Nat) (c:Bs) (T:Nat→Prop) (vr:Value),s4= .int .i64 (Dp j:Nat)∧s5= .int .i64 (i:Nat)∧i≤2638∧i=Dp j+c.length∧((j=dU.length∧c=[])∨∃(h:j<dU.length) (d:Bs),c++d=zP dU[j])∧G8 w m0 m1 (.slice la ll lc) T wr vr (dU.take j)) (fun _ s5 _=>(2638 - intOf s5).toNat)
 case atStart=>exact⟨0,0,[],_,_,by go_num,by go_num,by decide,rfl, .inr ⟨by decide,zP (dU[0]' ζ),rfl⟩,hNS⟩
 case round=>
  obtain⟨j,i,c,T,vr,rfl,rfl,hi,hic,hcase,hN⟩:=hrel;obtain⟨aR,cR,rfl⟩:=hN.ac.aj
  have hjR:j≤dU.length:=hcase.elim (fun h=>acf h.1) fun h=>af2 h.choose
  obtain⟨rs,hrs⟩:∃l,dU.take j=l:=⟨_,rfl⟩;rw[hrs]at hN
  have hrl:rs.length≤34:=by rw[←hrs,acn];have:dU.length=34:=by decide+kernel
                            omega
  obtain⟨F,hF⟩:∃n,Dp j=n:=⟨_,rfl⟩;rw[hF]at hic⊢;have PU:=π hrs;have HF:=π hF;have HIC:=π hic;clear hrs hF hRL;by_cases hlt:i<2638
  case neg=>
   have e1:decide ((i:Int)<2638)=false:=by rw[ach];omega
   have hj:j=dU.length:=hcase.elim (fun h=>h.1) fun⟨h,d,hcd⟩=>by
    have h1:=U4 h;have h2:=afz List.length hcd;rw[Δ]at h2
    have h3:Dp (j+1)≤2638:=by
     have:=afz List.length (Qm h);have h4:=LA;rw[agj,Δ,aaJ,agj]at this;omega
    have h5:=HF.out;omega
   have hall:rs=dU:=by rw[←PU.out,hj,acR]
   have att:=π hall
   have c1:wr.cell? ⟨m1,0,none⟩=some (.slice la ll lc)∧wr.cell? ⟨m1,1,none⟩=some (.slice aR rs.length cR):=by constructor<;>simp[World.cell?,hN.bx]
   have c0:wr.cell? ⟨m0,0,none⟩=some (.slice none 0 0)∧wr.cell? ⟨m0,1,none⟩=some (.slice none 0 0):=by constructor<;>simp[World.cell?,hN.rb]
   have z0:=gQ hN.rb 0;have z1:=gQ hN.rb 1;have HN:=π hN;clear hcase hN hj hall hic
   go_wp2_with fail
   have hf:=HN.out.fw (W':=(wr.setCell ⟨m0,0,none⟩ (.slice la ll lc)).setCell ⟨m0,1,none⟩ (.slice aR rs.length cR)) ν fun b hb=>(Below.heap_setCell _ _ _ _ hb).trans (Below.heap_setCell _ _ _ _ hb)
   obtain⟨gs,f1,f2⟩:=hf;have f3:=(show∀(W':World) (l:List Ru),l=dU→qa (nw N0 w.heap.size) W' l gs→qa (nw N0 w.heap.size) W' dU gs from fun W' l e h=>e▸h) _ rs att.out f2;exact abw (v:= .agg #[.slice la ll lc, .slice aR rs.length cR]) (by simp[results,Tryz.results37,go_sem,c0.1,c0.2]) rfl ⟨_,gs,rfl,(HN.out.pw.be.setCell (p:=⟨m0,0,none⟩) (acf HM.out) _).setCell (p:=⟨m0,1,none⟩) (acf HM.out) _,f1,f3⟩
  case pos=>
   have e1:decide ((i:Int)<2638)=true:=by rw[abC];omega
   obtain⟨hj,d,hcd⟩:∃(h:j<dU.length) (d:Bs),c++d=zP dU[j]:=hcase.elim (fun h=>by
    have h1:=aiu;have h2:=HF.out;rw[h.1]at h2;rw[h.2]at hic;rw[List.length_nil]at hic
    omega) id
   have hil:i<gm.length:=by omega
   have hgd:gm.drop F=c++(d++10::Jn.drop (Dp (j+1))):=by rw[←HGM.out,←HF.out,Qm hj,←hcd,Ψ]
   have hgi:gm.drop i=d++10::Jn.drop (Dp (j+1)):=by rw[hic,←List.drop_drop,hgd];exact List.drop_left
   have hsi:(au gm)[i]'(by rw[ko];exact hil)=gm[i]:=rfl;have HCD:=π hcd
   have hFi:F≤i:=by omega
   clear hcase
   cases d with
   |cons b d=>
    have hb:gm[i]=b:=by
     rw[abv hil]at hgi;exact(List.cons.inj hgi).1
    have atu:b≠10:=(Kz _ (ab2 hj)).2.2.2 b (by rw[←hcd];simp)
    have hx:((((au gm)[i]'(by rw[ko];exact hil)).toNat:Int)==10)=false:=by
     rw[hsi,hb,aat]
     exact fun h=>atu (agL.1 (by show b.toNat=10;omega))
    clear hgd hgi hsi hb hic hcd
    go_wp2_with fail
    go_roundw
    case rel=>exact⟨j,i+1,c++[b],T,_,by rw[HF.out],by go_num,by omega,by rw[HF.out,Δ,af4,HIC.out];omega, .inr ⟨hj,d,by rw[Ψ];exact HCD.out⟩,by rw[PU.out];exact hN⟩
    case measure=>simp[intOf];omega
   |nil=>
    have hb:gm[i]=10:=by
     rw[abv hil]at hgi;exact(List.cons.inj hgi).1
    have hx:((((au gm)[i]'(by rw[ko];exact hil)).toNat:Int)==10)=true:=by rw[hsi,hb];rfl
    have hln:c=zP dU[j]:=by rw[←hcd,List.append_nil]
    have SL:∀W:World,(Instr.slice 9 (.string (au gm)) (some (.int .i64 F)) (some (.int .i64 i)) none).run Tryz.prog W= .ok (.string (au c)) W:=fun W=>by
     have ex:(au gm).extract F i=au c:=by
      apply ByteArray.ext;rw[ByteArray.data_extract];apply Array.ext';rw[Array.toList_extract,nG,nG,List.extract_eq_drop_take',List.drop_take,hgd,hic,Nat.add_sub_cancel_left];exact List.take_left
     have e9:=run_slice_string (P:=Tryz.prog) W 9 (au gm) .i64 .i64 F i Tryz.underlying9 η η (by rw[ko];omega);rw[Int.toNat_natCast,Int.toNat_natCast,ex]at e9;exact e9
    obtain⟨rl,Z5⟩:∃r,dU[j]=r:=⟨_,rfl⟩;rw[Z5]at hln;have HLR:=π (show ZZ c rl by rw[hln,←Z5];exact acQ hj);have atv:=π Z5;have EA:=hN.bx
    have afa:wr.cell? ⟨m1,1,none⟩=some (.slice aR rs.length cR):=by simp[World.cell?,EA]
    haveI:Nonempty (Dl m1 (.cells #[.slice la ll lc, .slice aR rs.length cR] 84 (0,0)) ⟨m1,1,none⟩ (.slice aR rs.length cR)):=⟨⟨wr,EA,afa⟩⟩
    have c1:∀u:Dl m1 (.cells #[.slice la ll lc, .slice aR rs.length cR] 84 (0,0)) ⟨m1,1,none⟩ (.slice aR rs.length cR),u.w.cell? ⟨m1,1,none⟩=some (.slice aR rs.length cR):=fun u=>u.2.2
    obtain⟨J,hJ⟩:∃J:Dn→World→Prop,J=fun D w'=>(w'.heap[m1]? =some (.cells #[.slice la ll lc, .slice aR rs.length cR] 84 (0,0))∧w'.cell? ⟨m1,1,none⟩=some (.slice aR rs.length cR))∧(D 6≠none→D 5≠none)∧(D 7≠none→D 6≠none)∧(D 7=none→Below wr.heap.size wr w'∧(∀v,D 5=some v→∃va vk,v= .agg #[.string (au rl.name),va,vk]∧vo (gr T wr w') w' va rl.mh∧Rw (gr T wr w') 1 w' vk (rl.iL.map Kv))∧∀v,D 6=some v→∃gs,Rw (gr T wr w') 3 w' v gs∧qa (gr T wr w') w' [rl] gs)∧∀v,D 7=some v→∃W8,Below wr.heap.size wr W8∧Left N0 w (gr T wr W8) W8 (.slice aR rs.length cR) w' v∧U5 (gr T wr W8) w.heap.size w' v (rs++[rl]):=⟨_,rfl⟩
    have HJ:=π hJ
    have hJ0:J Dn.no (World.drew wr):=by rw[hJ];exact⟨⟨EA,afa⟩,(fun h=>absurd rfl h),(fun h=>absurd rfl h),fun _=>⟨(Below.refl _ _).drew,(fun _ h=>(by cases h)),fun _ h=>(by cases h)⟩,fun _ h=>(by cases h)⟩
    have hJC:∀D w',J D w'→∃u:Dl m1 (.cells #[.slice la ll lc, .slice aR rs.length cR] 84 (0,0)) ⟨m1,1,none⟩ (.slice aR rs.length cR),w'=u.w:=fun D w' h=>by rw[hJ]at h;exact⟨⟨w',h.1⟩,rfl⟩
    have PO:=π hJ0;have HJC:=π hJC;clear hJ hJ0 hJC afa EA hgd hgi hsi hb hic hcd hln Z5
    go_wp2_with fail
    refine uH 9 [5,6,7] (fun w'=>∃u:Dl m1 (.cells #[.slice la ll lc, .slice aR rs.length cR] 84 (0,0)) ⟨m1,1,none⟩ (.slice aR rs.length cR),w'=u.w) J (by kernel_rfl) (by kernel_rfl) PO.out HJC.out ?_;intro U;obtain⟨u5,hu5⟩:∃v,U 5=v:=⟨_,rfl⟩;have HU5:=π hu5;clear hu5;obtain⟨u6,hu6⟩:∃v,U 6=v:=⟨_,rfl⟩;have HU6:=π hu6;clear hu6;obtain⟨u7,hu7⟩:∃v,U 7=v:=⟨_,rfl⟩;have HU7:=π hu7;clear hu7;dsimp only[List.take,List.drop];refine mI 5 (by kernel_rfl) ?_;dsimp only[List.take,List.drop]
    repeat(go_big_quiet_step (fail))
    refine abO ?_;refine qz (by kernel_rfl) rfl rfl (by kernel_rfl) ?_ ?_
    ·intro D w8 hI hn iC
     rw[HJ.out]at hI;obtain⟨⟨i1,i2⟩,i3,i4,i5, -⟩:=hI
     have Qk:D 6=none:=afT fun h=>i3 h hn
     have Qn:D 7=none:=afT fun h=>i4 h Qk
     obtain⟨gW, -, -⟩:=i5 Qn;have I1:=π i1;have I2:=π i2;clear i1 i2 i3 i4 i5 hn iC
     go_wp2_with fail
     refine(ait c rl HLR.out).mono ?_;rintro e w9 ⟨va,vk,rfl,j4,hal,hki⟩
     have hup:To (nw N0 w8.heap.size) w9 (gr T wr w9) w9:= .mono fun q h hl=>⟨hl, .inr (h.elim (fun h=>h.elim) (aaT gW.size))⟩
     have hfin:J (D.tZ 5 (.agg #[.string (au rl.name),va,vk])) w9:=by
      rw[HJ.out];refine⟨⟨aF j4 I1.out (ψ.1 I1.out).1,(j4.cell (World.block_lt_of_cell? w8 _ I2.out)).trans I2.out⟩,fun h=>absurd Qk h,fun h=>absurd Qn h,fun _=>⟨gW.trans (j4.mono gW.size),fun v hv=>?_,fun v hv=>?_⟩,fun v hv=>?_⟩
      ·cases hv;exact⟨va,vk,rfl,hal.to hup,hki.to hup⟩
      ·have hv:D 6=some v:=hv
       rw[Qk]at hv;cases hv
      ·have hv:D 7=some v:=hv
       rw[Qn]at hv;cases hv
     have HFI:=π hfin;clear hfin hal hki hup
     go_wp2_with fail
     exact⟨rfl,rfl,_,rfl,HFI.out⟩
    rw[HU5.out];simp only[Act.put,abu,abH,abG];refine qz (by kernel_rfl) rfl rfl (by kernel_rfl) ?_ ?_
    ·intro D w8 hI hn iC
     have h5:=iC 5 (by kernel_rfl);rw[HU5.out]at h5;rw[HJ.out]at hI;obtain⟨⟨i1,i2⟩,i3,i4,i5, -⟩:=hI
     have Qn:D 7=none:=afT fun h=>i4 h hn
     obtain⟨gW,i6, -⟩:=i5 Qn;obtain⟨va,vk,rfl,hal,hki⟩:=i6 _ h5;obtain⟨aA,nA,cA,rfl⟩:=hal.choose_spec.1.aj;obtain⟨aK,nK,cK,rfl⟩:=hki.aj;have iq:=ag w8 (.cells #[.string (au rl.name), .slice aA nA cA, .slice aK nK cK] 119);have hup:=agM (T:=T) (W:=wr) iq
     have hfin:J (D.tZ 6 (.slice (some ⟨w8.heap.size,0,none⟩) 1 1)) (w8.alloc (.cells #[.string (au rl.name), .slice aA nA cA, .slice aK nK cK] 119)):=by
      rw[HJ.out];refine⟨⟨aF iq i1 (ψ.1 i1).1,(iq.cell (World.block_lt_of_cell? w8 _ i2)).trans i2⟩,fun _=>?_,fun h=>absurd Qn h,fun _=>⟨gW.trans (iq.mono gW.size),fun v hv=>?_,fun v hv=>?_⟩,fun v hv=>?_⟩
      ·show D 5≠none
       rw[h5];exact fun h=>(by cases h)
      ·have hv:D 5=some v:=hv
       rw[h5]at hv;cases hv;exact⟨_,_,rfl,hal.to hup,hki.to hup⟩
      ·cases hv
       exact⟨_,Rw.kJ (g:=[.string (au rl.name), .slice aA nA cA, .slice aK nK cK]) 119 rfl ⟨by simp, .inr gW.size⟩ ⟨rfl,fun u hu=>by simp at hu;rcases hu with rfl|rfl|rfl<;>rfl⟩,_,_,[],rfl,hal.to hup,hki.to hup,rfl⟩
      ·have hv:D 7=some v:=hv
       rw[Qn]at hv;cases hv
     have HFI:=π hfin;clear hfin iq i1 i2 i3 i4 i5 i6 hn iC Qn hal hki hup h5
     go_wp2_with fail
     exact⟨rfl,rfl,_,rfl,HFI.out⟩
    rw[HU6.out];simp only[Act.put,abu,abH,abG];refine qz (by kernel_rfl) rfl rfl (by kernel_rfl) ?_ ?_
    ·intro D w8 hI hn iC
     have h6:=iC 6 (by kernel_rfl);rw[HU6.out]at h6;rw[HJ.out]at hI;obtain⟨⟨i1,i2⟩,i3,i4,i5, -⟩:=hI;obtain⟨gW, -,i7⟩:=i5 hn;obtain⟨g8,hrow,hru⟩:=i7 _ h6;have Jl:=hN.call gW;obtain⟨gO,ho1,ho2⟩:=Jl.ac;obtain⟨aQ,kQ,cQ,rfl⟩:=hrow.aj;have h5n:D 5≠none:=i3 (by rw[h6];exact fun h=>(by cases h))
     have atw:gO.length+g8.length≤1000000000:=by rw[ho2.len,hru.len];simp;omega
     have H6:=π h6;have I2:=π i2;clear i1 i2 i3 i4 i5 i7 h6 iC hn
     go_wp2_with (first
      |(at_builtin;refine xH aiv Tryz.underlying82 rfl ζ ζ Jl.pw (.tmp 16) (.tmp 21) ho1 hrow atw rfl rfl rfl rfl ?_
        intro v9 w9 ow9 Ql
        have hfin:J (D.tZ 7 v9) w9:=by
         rw[HJ.out];have j4:=(Ql.IY m1 (ψ.1 Jl.bx).1 Jl.na.1).trans Jl.bx;refine⟨⟨j4,by simp[World.cell?,j4]⟩,fun _=>h5n,fun _=>?_,fun h=>?_,fun v hv=>?_⟩
         ·show D 6≠none
          rw[H6.out];exact fun h=>(by cases h)
         ·exact (by cases h)
         ·cases hv
          exact⟨w8,gW,Ql,_,ow9,qa.fK (qa.to Ql.tk ho2) (qa.to Ql.tk hru)⟩
        have HFI:=π hfin
        clear hfin)
      |fail)
     exact⟨rfl,rfl,_,rfl,HFI.out⟩
    rw[HU7.out];simp only[Act.put,abu,abH,abG];refine mI 1 (by kernel_rfl) ?_;dsimp only[List.take,List.drop]
    repeat(go_big_quiet_step (fail))
    refine abO ?_;intro w8 hI;rw[HJ.out]at hI;obtain⟨W8,gW,U3,Jm⟩:=hI.2.2.2.2 (U 7) rfl;rw[HU7.out]at U3 Jm;obtain⟨rs3,afb⟩:∃q,rs++[rl]=q:=⟨_,rfl⟩;rw[afb]at Jm;have atx:=π afb;clear afb;have Jg:=(hN.call gW).ae5 U3 Jm HNE.out;obtain⟨aB,cB,rfl⟩:=Jm.aj;have ib:=hI.1.1;have z1:=gQ ib 1;have c3:w8.cell? ⟨m1,1,none⟩=some (.slice aR rs.length cR):=hI.1.2
    have hp1:Dp (j+1)=i+1:=by rw[U4 hj,HF.out,←HCD.out,List.append_nil,HIC.out]
    have qI:=π hp1;have wy:=π Jg;clear hI c1 gW U3 Jm hp1 Jg ib
    go_wp2_with fail
    go_roundw
    case rel=>
     refine⟨j+1,i+1,[],_,_,by rw[qI.out];go_num,by go_num,by omega,by rw[qI.out];rfl,?_,by rw[abL hj,PU.out,atv.out,atx.out];exact wy.out⟩;by_cases h9:j+1<dU.length
     ·exact .inr ⟨h9,_,rfl⟩
     ·exact .inl ⟨by omega,rfl⟩
    case measure=>simp[intOf];omega
end Go.Proofs.YtlboejdhmggjpaaGreat.Pp.Dr
