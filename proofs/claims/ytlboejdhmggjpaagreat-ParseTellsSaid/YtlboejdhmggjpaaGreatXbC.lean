import Derived.Test.YtlboejdhmggjpaaGreatXbB
set_option linter.all false
namespace Go.Proofs.YtlboejdhmggjpaaGreat.Pp.Dr
set_option maxRecDepth 100000
set_option maxHeartbeats 800000
open Go.RowKit Go.BigFrame Go.Proofs.YtlboejdhmggjpaaGreat
variable {α : Type}
theorem eU {x y:List α}(h:aG x=some y):x=y∧y.length≤1000:=by
 unfold aG at h
 split at h
 ·next h1=>cases h;exact⟨rfl,h1⟩
 ·cases h
variable {β : Type}{zs : List β}{f : α→Option (List β)}
theorem rM (h:bu f []=some zs):zs=[]:=by cases h;rfl
theorem mM {a:α}{r:List α}(h:bu f (a::r)=some zs):∃x y,f a=some x∧bu f r=some y∧zs=x++y:=by
 have h:((f a).bind fun x=>(bu f r).bind fun y=>some (x++y))=some zs:=h
 obtain⟨x,h1,h2⟩:=Γ.1 h
 obtain⟨y,h3,h4⟩:=Γ.1 h2
 cases h4
 exact⟨x,y,h1,h3,rfl⟩
variable {c z : Nat}{T : Nat→Prop}{a : Option Addr}
theorem Rw.len {w:World}{k : Nat}{gs:List (List Value)}(h:Rw T z w (.slice a k c) gs):k=gs.length∧k≤9223372036854775807:=by
 obtain⟨a',c',e, -, -, -,h, -⟩:=h
 obtain⟨-,rfl, -⟩:=Value.slice.inj e
 exact⟨rfl,by unfold maxLen at h;omega⟩
variable {al : List (List Sy)}
theorem vo.len {w:World}{k : Nat}(h:vo T w (.slice a k c) al):k=al.length∧k≤9223372036854775807:=by
 obtain⟨gs,h1,h2⟩:=h
 exact⟨h1.len.1.trans h2.len,h1.len.2⟩
theorem zx.len {w:World}{k : Nat}{l:List Sy}(h:zx T w (.slice a k c) l):k=l.length∧k≤9223372036854775807:=by
 obtain⟨gs,h1,h2⟩:=h
 exact⟨h1.len.1.trans h2.len,h1.len.2⟩
variable {xs : List Sx}
theorem dS.len {w:World}{k : Nat}(h:dS T w (.slice a k c) xs):k=xs.length∧k≤9223372036854775807:=by
 obtain⟨gs,h1,h2⟩:=h
 exact⟨h1.len.1.trans h2.len,h1.len.2⟩
theorem dS.aj {w:World}{v:Value}(h:dS T w v xs):∃a k c,v= .slice a k c:=h.choose_spec.1.aj
theorem vo.at{T:Nat→Prop}{w:World}{a:Option Addr}{k c i:Nat}{al:List (List Sy)}(h:vo T w (.slice a k c) al)(hi:i<al.length):∃b off a' k' c',a=some ⟨b,off,none⟩∧(∀u:df w,u.w.cell? ⟨b,off+i,none⟩=some (.slice a' k' c'))∧zx T w (.slice a' k' c') al[i]:=by
 obtain⟨gs,h1,h2⟩:=h
 obtain⟨vi,g1,yz⟩:=h2.get i hi
 obtain⟨-,b,off,rfl,hS,hl,hc⟩:=h1.get g1
 obtain⟨ai,ki,ci,rfl⟩:=yz.choose_spec.1.aj
 exact⟨b,off,ai,ki,ci,rfl,fun u=>u.cell (by have:=hc 0 _ rfl;rw[afF,Nat.add_zero]at this;exact this),yz⟩
theorem Bx.cell{T:Nat→Prop}{w:World}{b:Nat}{v0 v1 v2 v3 v4:Value}(h:Bx T w b [v0,v1,v2,v3,v4]):w.cell? ⟨b,0,none⟩=some v0∧w.cell? ⟨b,1,none⟩=some v1∧w.cell? ⟨b,2,none⟩=some v2∧w.cell? ⟨b,3,none⟩=some v3∧w.cell? ⟨b,4,none⟩=some v4:=
 ⟨h.2.2 0 _ rfl,h.2.2 1 _ rfl,h.2.2 2 _ rfl,h.2.2 3 _ rfl,h.2.2 4 _ rfl⟩
theorem Bx.u{T:Nat→Prop}{w:World}{b:Nat}{v0 v1 v2 v3 v4:Value}(h:Bx T w b [v0,v1,v2,v3,v4])(u:df w):u.w.cell? ⟨b,0,none⟩=some v0∧u.w.cell? ⟨b,1,none⟩=some v1∧u.w.cell? ⟨b,2,none⟩=some v2∧u.w.cell? ⟨b,3,none⟩=some v3∧u.w.cell? ⟨b,4,none⟩=some v4:=
 ⟨u.cell h.cell.1,u.cell h.cell.2.1,u.cell h.cell.2.2.1,u.cell h.cell.2.2.2.1,u.cell h.cell.2.2.2.2⟩
structure Tg (n k:Nat):Type
variable {id n : Nat}
theorem BC {k : Nat}(t:Tg n k){Q:Exit→Act→World→Prop}{a:Act}{w:World}{l:List Oper}(hm:Tryz.prog.follows .mixedOrders=true)(hB:(nN l n&&aeF (l.take n) k)=true)(h:wpQuiet Tryz.prog (l.take n).toArray (fun w'=>∃u:df w,w'=u.w) (fun a'=>∀ok,(l.take n)[k]? =some ok→∀K:Act→World→Prop,(∀b w2,(∃u:df w,w2=u.w)→wpList Tryz.prog l.toArray Q (l.drop n) b w2→K b w2)→∀w',(∃u:df w,w'=u.w)→wpList Tryz.prog (l.take n).toArray (fun e b w2=>e= .normal∧b.defers=a'.defers∧K b w2) [ok] a' w') ((l.take n).take k++(l.take n).drop (k+1)) a):(Code.region id l.toArray true).wp Tryz.prog Q a w:=Qz n k _ hm hB (df.drew w) h
theorem zy(n k:Nat){G G':Prop}(q:G')(h:Tg n k→G'→G:=by
  intro t q;refine BC t (by kernel_rfl) (by kernel_rfl) ?_;dsimp only[List.take_succ_cons,List.take_zero,Nat.reduceAdd,List.drop_succ_cons,List.drop_zero,List.append_nil,List.cons_append,List.nil_append]
  repeat(go_big_quiet_step (fail))
  refine abO ?_;intro ok hok K hK w' hw';cases hok;obtain⟨u,rfl⟩:=hw';obtain⟨W,hW⟩:∃W,W=u.w:=⟨_,rfl⟩;have hbw:=u.below;rw[←hW]at hbw⊢;clear hW;clear u;have HK:=π hK;clear hK
  revert hbw W HK K
  exact q):G:=h ⟨⟩ q
theorem Pw.on{S T:Nat→Prop}{w0 w w':World}(p:Pw S w0 T w)(h:Below w.heap.size w w'):Pw S w0 T w':=⟨fun b hb=>abB (p.lt b hb) h.size,p.up,p.be.trans (h.mono p.be.size),p.sub⟩
theorem Cx.af{gb:Nat}{L:List Ct}{vr:Value}{S T:Nat→Prop}{w W:World}{s s':Sx}{g g':List Value}(h:Cx gb L vr S w s g)(p:Pw S w T W)(hs:fJ T W s' g'):Cx gb L vr T W s' g':=⟨p.lt,h.gx.to p.mG,hs⟩
theorem Ps.rq {wr W w2:World}{e:Ending}(h:Ps T W xs e w2)(hb:Below wr.heap.size wr W):Ps T wr xs e w2:=by
 obtain⟨v,rfl,h1,h2⟩:=h
 exact⟨v,rfl,hb.trans (h1.mono hb.size),h2.to (.mono fun b h _=>⟨h.1,h.2.imp id (aaT hb.size)⟩)⟩
variable {S : Nat→Prop}
theorem UD {gb:Nat}{L:List Ct}{vr:Value}(ih:Wd gb L vr n){w:World}{va:Value}{s:Sx}{g:List Value}(hx:Cx gb L vr S w s g)(ha:vo S w va al)(h:Bo (aS L n) al s=some xs):Calls Tryz.prog 136 #[gP gb,va, .agg g.toArray] w (Ps S w xs):=by
 obtain⟨zs,h1,h2⟩:=Γ.1 h
 obtain⟨rfl,hl⟩:=eU h2
 obtain⟨a,k,c,rfl⟩:=ha.choose_spec.1.aj
 obtain⟨hk,hk2⟩:=ha.len
 obtain⟨aE,nE,cE,aK,nK,cK,aC,nC,cC,rfl, -⟩:=hx.st.aj
 obtain⟨m0,hm⟩:∃m,w.heap.size=m:=⟨_,rfl⟩
 have LZ:=(Pw.start hx.lt).call (ag w (.cells #[.int .i64 s.af, .slice aE nE cE, .slice aK nK cK, .bool s.ty, .slice aC nC cC] 51))
 have hB0:=Bx.new (S:=S) hm [.int .i64 s.af, .slice aE nE cE, .slice aK nK cK, .bool s.ty, .slice aC nC cC] 51
 have HM:=π hm
 have HK:=π hk
 have H1:=π h1
 have HL:=π hl
 clear h h1 h2 hk hl
 unfold Ps
 rw[hm]
 go_enter Tryz.func136,Tryz.ntmps136
 go_wp2_with fail
 go_loopw [7,8,9] (fun s7 s8 s9 wr=>∃(i:Nat) (T:Nat→Prop) (ys zr:List Sx),s8= .int .i64 i∧i≤k∧Pw S w T wr∧dW T w.heap.size wr s7 ys∧Bx T wr m0 [.int .i64 s.af, .slice aE nE cE, .slice aK nK cK, .bool s.ty, .slice aC nC cC]∧bu (fun y=>aS L n (.seq y s.af [s])) (al.drop i)=some zr∧ys++zr=zs) (fun _ s8 _ _=>k - (intOf s8).toNat)
 case atStart=>exact⟨0,_,[],zs,rfl,Ω _,LZ,dW.nil,hB0,H1.out,rfl⟩
 case round=>
  obtain⟨i,T,ys,zr,rfl,hik,hp,hacc,hbx,XC,hys⟩:=hrel;obtain⟨a7,c7,rfl⟩:=hacc.aj;by_cases hlt:i<k
  case pos=>
   have hi:i<al.length:=by rw[←HK.out];exact hlt
   rw[abv hi]at XC;obtain⟨x,y,hx1,hx2,rfl⟩:=mM XC;obtain⟨bb,off,ai,ki,ci,rfl,d0,yz⟩:=(ha.to hp.mG).at hi;have c0:=hbx.u;have h1:decide (i<k)=true:=aa4 hlt;have yu:=π hx1;have wD:=π hx2;have D6:=π hys;clear hx1 hx2 hys XC
   go_wp2_with fail
   refine zy 7 6 ?_;intro K W hbw eQ;clear d0 c0
   go_wp2_with fail
   refine(ih.seq (hx.af (hp.on hbw) (hx.st.to (hp.on hbw).mG)) (yz.to (.below hbw)) yu.out).mono ?_;rintro e w2 h;obtain⟨v,rfl,hb,hr⟩:=h.rq hbw;have hp2:=hp.call hb;have uU:=hbx.to (aH hb);have oJ:=hacc.call hb;obtain⟨av,kv,cv,rfl⟩:=hr.aj;clear h
   go_wp2_with fail
   refine eQ.out _ _ ⟨⟨w2,hb⟩,rfl⟩ ?_
   go_wp2_with (first
    |(at_builtin;refine kX hp2 (.tmp 23) (.tmp 24) oJ hr (by have:=HL.out;rw[←D6.out]at this;simp at this;omega) rfl rfl rfl rfl ?_
      intro v3 w3 iU hle3)
    |fail)
   go_roundw
   case rel=>exact⟨i+1,_,_,_,by go_num,by omega,hle3.pw,iU,uU.to hle3.tk,wD.out,by rw[Ψ];exact D6.out⟩
   case measure=>simp[intOf];omega
  case neg=>
   have h1:decide (i<k)=false:=aa5 hlt
   have hz:ys=zs:=by
    rw[abY (by rw[←HK.out];omega)]at XC;rw[rM XC,List.append_nil]at hys;exact hys
   subst hz;clear XC hys
   go_wp2_with fail
   go_ret;exact⟨_,rfl,by rw[←HM.out];exact hp.be,hacc.fw hp⟩
end Go.Proofs.YtlboejdhmggjpaaGreat.Pp.Dr
