import Derived.Test.YtlboejdhmggjpaaGreatXbE
set_option linter.all false
namespace Go.Proofs.YtlboejdhmggjpaaGreat.Pp.Dr
set_option maxRecDepth 100000
set_option maxHeartbeats 800000
open Go.RowKit Go.BigFrame Go.Proofs.YtlboejdhmggjpaaGreat
theorem dW.ay{S T:Nat→Prop}{w0 w:World}{m:Nat}{x:Sx}{g:List Value}(hm:w.heap.size=m)(p:Pw S w0 T w)(h:fJ T w x g):dW T w0.heap.size (w.alloc (.cells g.toArray 51)) (.slice (some ⟨m,0,none⟩) 1 1) [x]∧Pw S w0 T (w.alloc (.cells g.toArray 51)):=by
 have hb:=ag w (.cells g.toArray 51)
 refine⟨⟨[g],⟨⟨by simpa using h.ay.1, .inr ⟨m,1,g.toArray,rfl,by have:=p.be.size;omega,rR hm _ _,υ _,by decide,by simpa using h.ay.1,?_⟩⟩,fun b hb hT=>?_,fun y hy=>by rw[Φ.1 hy];exact h.ay⟩,g,[],rfl,h.to (.below hb),rfl⟩,p.on hb⟩
 ·have:=h.ay.1
  simp only[afI,List.flatten_nil,List.append_nil,af4];exact ab1 η
 ·have:=p.lt b hT
  have:m=b:=aau hb;omega
variable {al : List (List Sy)}{L : List Ct}{XS : List Sx}{g gy : List Value}{f n : Nat}{S : Nat→Prop}{s : Sx}{vr : Value}
theorem ZK {gb:Nat}(ih:∀m,m<n→Wd gb L vr m){w:World}(hx:Cx gb L vr S w s g)(hy:tX S w (.dO al) gy)(h:aS L n (.ay (.dO al) s f)=some XS):Calls Tryz.prog 103 #[gP gb, .agg gy.toArray, .agg g.toArray, .int .i64 (f:Nat)] w (Ps S w XS):=by
 obtain⟨m',rfl,hs,h1,hO⟩:=fB h
 obtain⟨x,h2,h3⟩:=Γ.1 h1
 obtain⟨rfl,hl⟩:=eU h3
 clear h h1 h3
 obtain⟨T,hp,hb3,hb5,hst,hy2⟩:=hx.ZJ hy 169
 obtain⟨va,gs,rfl,hva⟩:=hy2
 have hva:vo T _ va al:=⟨gs,hva⟩
 obtain⟨a,k,c,rfl⟩:=hva.choose_spec.1.aj
 obtain⟨aE,nE,cE,aK,nK,cK,aC,nC,cC,rfl, -⟩:=hx.st.aj
 have H2:=π h2
 have HL:=π hl
 obtain⟨m0,hm⟩:∃m,w.heap.size=m:=⟨_,rfl⟩
 rw[hm]at hb3 hb5
 clear h2 hl hb3
 unfold Ps
 go_enter Tryz.func103,Tryz.ntmps103
 go_wp2_with fail
 refine(UD (ih m' η) (hx.af hp hst) hva H2.out).mono ?_
 rintro e w2 h
 obtain⟨v,rfl,hb,hr⟩:=h
 have hp2:=hp.call hb
 have Ee:=hst.to (aH hb)
 have c0:=(hb5.to (aH hb)).cell
 obtain⟨av,kv,cv,rfl⟩:=hr.aj
 go_wp2_with (first
  |(at_builtin;refine kX (dW.ay rfl hp2 Ee).2 (.tmp 58) (.tmp 59) (dW.ay rfl hp2 Ee).1 (hr.to (.below (ag _ _))) (by have:=HL.out;simp at this⊢;omega) rfl rfl rfl rfl ?_
    intro v3 w3 iU hle3)
  |fail)
 go_ret
 exact⟨_,rfl,hle3.pw.be,iU.fw hle3.pw⟩
theorem ZL {gb:Nat}(ih:∀m,m<n→Wd gb L vr m){w:World}(hx:Cx gb L vr S w s g)(hy:tX S w (.jy al) gy)(h:aS L n (.ay (.jy al) s f)=some XS):Calls Tryz.prog 103 #[gP gb, .agg gy.toArray, .agg g.toArray, .int .i64 (f:Nat)] w (Ps S w XS):=by
 obtain⟨m',rfl,hs,h2,hO⟩:=fB h
 have H2:=π (show Bo (aS L m') al s=some XS from h2)
 clear h h2
 obtain⟨T,hp,hb3,hb5,hst,hy2⟩:=hx.ZJ hy 169
 obtain⟨va,gs,rfl,hva⟩:=hy2
 have hva:vo T _ va al:=⟨gs,hva⟩
 obtain⟨a,k,c,rfl⟩:=hva.choose_spec.1.aj
 obtain⟨aE,nE,cE,aK,nK,cK,aC,nC,cC,rfl, -⟩:=hx.st.aj
 clear hb3 hb5
 unfold Ps
 go_enter Tryz.func103,Tryz.ntmps103
 go_wp2_with fail
 refine(UD (ih m' η) (hx.af hp hst) hva H2.out).mono ?_
 rintro e w2 h
 obtain⟨v,rfl,hb,hr⟩:=Ps.up hp h
 clear h
 go_wp2_with fail
 go_ret
 exact⟨_,rfl,hb,hr⟩
def Bf(T:Nat→Prop)(w:World)(v:Value)(xs:List Sx):Prop:=∃gs,Rw (fun b=>v.ownBlock=some b) 5 w v gs∧pX T w xs gs
section
variable {S T:Nat→Prop} {w0 w w':World} {v:Value} {xs:List Sx}
theorem dW.fr{m:Nat}(o:dW T m w v xs):Bf T w v xs:=let ⟨gs,h1,h2⟩:=o;⟨gs,h1.rw fun _ h=>h,h2⟩
theorem Bf.lt{b:Nat}(o:Bf T w v xs)(hx:xs≠[])(h:v.ownBlock=some b):b<w.heap.size:=by
 obtain⟨gs,⟨a,c,rfl, -,h3, -⟩,h2⟩:=o
 rcases h3 with h3|⟨b',off,rfl, -,h4, -⟩
 ·exact absurd (acM (by rw[←h2.len,h3];rfl)) hx
 ·have:b'=b:=aau h
  omega
theorem Bf.call(o:Bf T w v xs)(h:Below w.heap.size w w'):Bf (gr T w w') w' v xs:=let ⟨gs,h1,h2⟩:=o;⟨gs,h1.to (.below h),pX.to (aH h) h2⟩
theorem Bf.left{u u':Value}(o:Bf T w v xs)(l:Left S w0 T w u w' u')(d:Dj v u):Bf T w' v xs:=let ⟨gs,h1,h2⟩:=o;⟨gs,h1.to ⟨l.sz,fun b hb hl=>⟨l.IY b hl fun h=>d b hb h,hb⟩⟩,pX.to l.tk h2⟩
theorem Dj.left{u u':Value}(l:Left S w0 T w u w' u')(d:Dj v u)(h:∀b,v.ownBlock=some b→b<w.heap.size):Dj v u':=fun b hb hb'=>(l.nb b hb').elim (d b hb) fun e=>by have:=h b hb;omega
theorem dW.wo{m:Nat}{u:Value}(o:dW T m w v xs)(d:Dj v u):dW (Dr.wo T u) m w v xs:=let ⟨gs,k1,k2⟩:=o;⟨gs,⟨k1.row,fun b hb h=>h.elim (k1.out b hb) fun h=>d b hb h,k1.ay⟩,pX.to xP k2⟩
theorem Bf.aj(o:Bf T w v xs):∃a c,v= .slice a xs.length c:=by
 obtain⟨gs,h1,h2⟩:=o
 obtain⟨a,k,c,rfl⟩:=h1.aj
 exact⟨a,c,by rw[h1.len.1,h2.len]⟩
theorem Bf.at{a:Option Addr}{k c i:Nat}(h:Bf T w (.slice a k c) xs)(hi:i<xs.length):∃b off aE nE cE aK nK cK aC nC cC,a=some ⟨b,off,none⟩∧(∀u:df w,u.w.cell? ⟨b,off+i*5,none⟩=some (.int .i64 xs[i].af)∧u.w.cell? ⟨b,off+i*5+1,none⟩=some (.slice aE nE cE)∧u.w.cell? ⟨b,off+i*5+2,none⟩=some (.slice aK nK cK)∧u.w.cell? ⟨b,off+i*5+3,none⟩=some (.bool xs[i].ty)∧u.w.cell? ⟨b,off+i*5+4,none⟩=some (.slice aC nC cC))∧fJ T w xs[i] [.int .i64 xs[i].af, .slice aE nE cE, .slice aK nK cK, .bool xs[i].ty, .slice aC nC cC]:=by
 obtain⟨gs,h1,h2⟩:=h
 obtain⟨g,g1,hg⟩:=h2.get i hi
 obtain⟨-,b,off,rfl,hS,hl,hc⟩:=h1.get g1
 obtain⟨aE,nE,cE,aK,nK,cK,aC,nC,cC,rfl, -⟩:=hg.aj
 exact⟨b,off,_,_,_,_,_,_,_,_,_,rfl,fun u=>⟨u.cell (hc 0 _ rfl),u.cell (hc 1 _ rfl),u.cell (hc 2 _ rfl),u.cell (hc 3 _ rfl),u.cell (hc 4 _ rfl)⟩,hg⟩
theorem dS.fr(h:dS T w v xs):Bf T w v xs:=by
 obtain⟨gs,⟨a,c,rfl,h2,h3,h4⟩,k⟩:=h
 refine⟨gs,⟨a,c,rfl,h2,h3.imp id ?_,h4⟩,k⟩
 rintro⟨b,off,rfl, -,h6,h7⟩
 exact⟨b,off,rfl,rfl,h6,h7⟩
end
theorem aeH{L:List Ct}{n:Nat}{a:List (List Sy)}{fr y:List Sx}(h:aS L n (.bV a fr)=some y):Ai L fr∧((fr=[]∧y=[])∨fr≠[]∧∃m Z y',n=m+1∧bu (Au (aS L m) a) fr=some Z∧aS L m (.bV a Z)=some y'∧y=Z++y'):=by
 obtain⟨m,rfl,h0,h1, -⟩:=fB h
 refine⟨h0,?_⟩
 have h1:(if fr.isEmpty then some []else(bu (Au (aS L m) a) fr).bind fun x=>(aS L m (.bV a x)).bind fun y=>aG (x++y))=some y:=h1
 split at h1
 ·next h2=>exact .inl ⟨afP.1 h2,(aau h1).symm⟩
 ·next h2=>
  obtain⟨Z,h3,h4⟩:=Γ.1 h1;obtain⟨y',h5,h6⟩:=Γ.1 h4;exact .inr ⟨fun e=>h2 (by rw[e];rfl),m,Z,y',rfl,h3,h5,(eU h6).1.symm⟩
end Go.Proofs.YtlboejdhmggjpaaGreat.Pp.Dr
