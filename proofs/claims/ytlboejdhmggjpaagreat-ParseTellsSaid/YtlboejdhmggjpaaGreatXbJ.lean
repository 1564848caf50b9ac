import Derived.Test.YtlboejdhmggjpaaGreatXbH
set_option linter.all false
namespace Go.Proofs.YtlboejdhmggjpaaGreat.Pp.Dr
set_option maxRecDepth 100000
set_option maxHeartbeats 800000
open Go.RowKit Go.BigFrame Go.Proofs.YtlboejdhmggjpaaGreat
variable {c d t : Bs}
theorem lX (h:t=c)(hd:(c==d)=false):((au t).toList==d)=false:=by rw[mJ,h];exact hd
theorem gp (h:t=c):((au t).toList==c)=true:=by rw[mJ,h];exact afA c
def EqN(x:ByteArray):List Bs→Prop
 |[]=>True
 |a::r=>(x.toList==a)=false∧EqN x r
theorem Bg{t u:Bs}(ht:t=u):∀L:List Bs,L.contains u=false→EqN (au t) L
 |[],_=>trivial
 |a::r,h=>by
  rw[List.contains_cons,agF]at h;exact⟨lX ht h.1,Bg ht r h.2⟩
def Lj:List Bs:=[[110,97,109,101],[112,108,97,105,110],[99,111,110,115,116,97,110,116],[115,116,114,105,110,103],[115,112,101,99,115,48],[115,112,101,99,115,49],[101,120,112,114],[97,115,115,105,103,110],[99,104,111,105,99,101],[112,111,115,116,102,105,120]]
variable {L : List Ct}{g : List Value}{S : Nat→Prop}{s : Sx}{vr : Value}
theorem Cx.sh {gb:Nat}{w:World}(hx:Cx gb L vr S w s g)(hs:pQ L s):∃aE nE cE aK nK cK aC nC cC m,g=[.int .i64 s.af, .slice aE nE cE, .slice aK nK cK, .bool s.ty, .slice aC nC cC]∧nZ S w (.slice aE nE cE) s.env∧l5 S w (.slice aK nK cK) s.ah∧vg S w (.slice aC nC cC) s.cl∧GB w gb L vr∧L.length≤100000∧s.af≤100000∧w.heap.size=m:=by
 have hG:=hx.gx.gb
 have h2:=hG.choose_spec.choose_spec.2.2
 obtain⟨aE,nE,cE,aK,nK,cK,aC,nC,cC,h,hE,hK,hC⟩:=hx.st.aj
 exact⟨aE,nE,cE,aK,nK,cK,aC,nC,cC,_,h,hE,hK,hC,hG,h2,aaT hs.af h2,rfl⟩
variable {xs : List Sx}{T : Nat→Prop}{v : Value}
theorem Gv {w0 w w':World}(p:Pw S w0 T w)(hb:Below w.heap.size w w')(h:dS (nw T w.heap.size) w' v xs):Below w0.heap.size w0 w'∧dS (gr S w0 w') w' v xs:=⟨p.be.trans (hb.mono p.be.size),(h.to wS).to (p.call hb).fw⟩
theorem CI{p:Prop}(h:p:=by
 obtain⟨aE,nE,cE,aK,nK,cK,aC,nC,cC,m0,rfl, -, -, -,hG,hL2,hat, -⟩:=hx.sh hs
 obtain⟨T0,hp,hbx,hst⟩:=hx.box
 have H2:=π h2
 obtain⟨cz,hcz⟩:∃z,bz L s.af=z:=⟨_,rfl⟩
 have qp:=π hcz
 clear h2 hcz ht h h1
 unfold Ps
 go_enter Tryz.func38,Tryz.ntmps38
 go_wp2_with fail
 refine(lT (hG.ext hp.be) s.af hat).mono ?_
 rintro e w1 ⟨rfl,hb1⟩
 rw[qp.out]
 have hp1:=hp.call hb1
 have sN:=hst.to (aH hb1)
 have c0:=(hbx.to (aH hb1)).cell
 go_wp2_with fail
 first
 |(go_at_call 58
   refine(Gt sN _ hat).mono ?_;rintro e w2 ⟨v,rfl,hb,hr⟩;have hq:=Gv hp1 hb hr
   go_wp2_with fail
   go_ret;obtain rfl:=aau H2.out
   exact⟨_,rfl,hq.1,by rw[qp.out];exact hq.2⟩)
 |(first|(go_at_call 59;refine((ih m' η).dh (hx.af hp1 sN) H2.out).mono ?_)
        |(go_at_call 60;refine((ih m' η).dB (hx.af hp1 sN) H2.out).mono ?_)
        |(go_at_call 61;refine((ih m' η).assign (hx.af hp1 sN) H2.out).mono ?_)
        |(go_at_call 62;refine((ih m' η).dx (hx.af hp1 sN) H2.out).mono ?_)
        |(go_at_call 63;refine((ih m' η).jT (hx.af hp1 sN) H2.out).mono ?_)
   rintro e w2 h;obtain⟨v,rfl,hb,hr⟩:=Ps.up hp1 h;clear h
   go_wp2_with fail
   go_ret
   exact⟨_,rfl,hb,hr⟩)):p:=h
abbrev D8(gb:Nat)(L:List Ct)(vr:Value)(n:Nat)(u:Bs):Prop:=∀{S:Nat→Prop} {w:World} {t:Bs} {s:Sx} {g:List Value} {XS:List Sx},t=u→Cx gb L vr S w s g→aS L n (.call t s)=some XS→Calls Tryz.prog 38 #[gP gb, .string (au t), .agg g.toArray] w (Ps S w XS)
variable {n : Nat}
theorem UF {gb:Nat}(ih:∀m,m<n→Wd gb L vr m):D8 gb L vr n [110,97,109,101]:=fun{S w t s g XS} ht hx h=>by
 obtain⟨m',rfl,hs,h1, -⟩:=fB h
 have h2:some (jC s (bz L s.af==2))=some XS:=by rw[ht]at h1;exact h1
 have e0:=gp ht
 exact CI
theorem Oy {gb:Nat}(ih:∀m,m<n→Wd gb L vr m):D8 gb L vr n [115,116,114,105,110,103]:=fun{S w t s g XS} ht hx h=>by
 obtain⟨m',rfl,hs,h1, -⟩:=fB h
 have h2:some (jC s (bz L s.af==6))=some XS:=by rw[ht]at h1;exact h1
 obtain⟨e0,e1,e2, -⟩:=Bg ht (Lj.take 3) ζ
 have e3:=gp ht
 exact CI
theorem Oz {gb:Nat}(ih:∀m,m<n→Wd gb L vr m):D8 gb L vr n [115,112,101,99,115,48]:=fun{S w t s g XS} ht hx h=>by
 obtain⟨m',rfl,hs,h1, -⟩:=fB h
 have h2:aS L m' (.dh false s [⟨fresh s,0,0⟩])=some XS:=by rw[ht]at h1;exact h1
 obtain⟨e0,e1,e2,e3, -⟩:=Bg ht (Lj.take 4) ζ
 have e4:=gp ht
 exact CI
theorem OA {gb:Nat}(ih:∀m,m<n→Wd gb L vr m):D8 gb L vr n [115,112,101,99,115,49]:=fun{S w t s g XS} ht hx h=>by
 obtain⟨m',rfl,hs,h1, -⟩:=fB h
 have h2:aS L m' (.dh true s [⟨fresh s,0,0⟩])=some XS:=by rw[ht]at h1;exact h1
 obtain⟨e0,e1,e2,e3,e4, -⟩:=Bg ht (Lj.take 5) ζ
 have e5:=gp ht
 exact CI
theorem UG {gb:Nat}(ih:∀m,m<n→Wd gb L vr m):D8 gb L vr n [101,120,112,114]:=fun{S w t s g XS} ht hx h=>by
 obtain⟨m',rfl,hs,h1, -⟩:=fB h
 have h2:aS L m' (.dB 0 s)=some XS:=by rw[ht]at h1;exact h1
 obtain⟨e0,e1,e2,e3,e4,e5, -⟩:=Bg ht (Lj.take 6) ζ
 have e6:=gp ht
 exact CI
theorem OB {gb:Nat}(ih:∀m,m<n→Wd gb L vr m):D8 gb L vr n [97,115,115,105,103,110]:=fun{S w t s g XS} ht hx h=>by
 obtain⟨m',rfl,hs,h1, -⟩:=fB h
 have h2:aS L m' (.assign s)=some XS:=by rw[ht]at h1;exact h1
 obtain⟨e0,e1,e2,e3,e4,e5,e6, -⟩:=Bg ht (Lj.take 7) ζ
 have e7:=gp ht
 exact CI
theorem OC {gb:Nat}(ih:∀m,m<n→Wd gb L vr m):D8 gb L vr n [99,104,111,105,99,101]:=fun{S w t s g XS} ht hx h=>by
 obtain⟨m',rfl,hs,h1, -⟩:=fB h
 have h2:aS L m' (.dx s)=some XS:=by rw[ht]at h1;exact h1
 obtain⟨e0,e1,e2,e3,e4,e5,e6,e7, -⟩:=Bg ht (Lj.take 8) ζ
 have e8:=gp ht
 exact CI
theorem M0 {gb:Nat}(ih:∀m,m<n→Wd gb L vr m):D8 gb L vr n [112,111,115,116,102,105,120]:=fun{S w t s g XS} ht hx h=>by
 obtain⟨m',rfl,hs,h1, -⟩:=fB h
 have h2:aS L m' (.jT s)=some XS:=by rw[ht]at h1;exact h1
 obtain⟨e0,e1,e2,e3,e4,e5,e6,e7,e8, -⟩:=Bg ht (Lj.take 9) ζ
 have e9:=gp ht
 exact CI
variable {XS : List Sx}
theorem Ll {gb:Nat}{w:World}(ht:t=[99,111,110,115,116,97,110,116])(hx:Cx gb L vr S w s g)(h:aS L n (.call t s)=some XS):Calls Tryz.prog 38 #[gP gb, .string (au t), .agg g.toArray] w (Ps S w XS):=by
 obtain⟨m',rfl,hs,h1, -⟩:=fB h
 have h2:some (jC s (bz L s.af==3||bz L s.af==4||bz L s.af==5))=some XS:=by rw[ht]at h1;exact h1
 clear h h1
 have hG:=hx.gx.gb
 have hat:s.af≤100000:=aaT hs.af hG.choose_spec.choose_spec.2.2
 obtain⟨T0,hp,hbx,hst⟩:=hx.box
 obtain⟨aE,nE,cE,aK,nK,cK,aC,nC,cC,rfl, -⟩:=hx.st.aj
 have H2:=π h2
 obtain⟨cz,hcz⟩:∃z,bz L s.af=z:=⟨_,rfl⟩
 have qp:=π hcz
 have e0:((au t).toList==[110,97,109,101])=false:=lX ht ζ
 have e1:((au t).toList==[112,108,97,105,110])=false:=lX ht ζ
 have e2:((au t).toList==[99,111,110,115,116,97,110,116])=true:=gp ht
 clear h2 hcz ht
 obtain⟨b3,hb3⟩:∃b,(cz==3)=b:=⟨_,rfl⟩
 obtain⟨b4,hb4⟩:∃b,(cz==4)=b:=⟨_,rfl⟩
 obtain⟨b5,hb5⟩:∃b,(cz==5)=b:=⟨_,rfl⟩
 have hz:jC s (b3||b4||b5)=XS:=by have:=H2.out;rw[qp.out,hb3,hb4,hb5]at this;exact aau this
 have HZ:=π hz
 clear hz
 cases b3
 cases b4
 all_goals
  unfold Ps
  go_enter Tryz.func38,Tryz.ntmps38
  go_wp2_with fail
  refine(lT (hG.ext hp.be) s.af hat).mono ?_;rintro e w1 ⟨rfl,hb1⟩;rw[qp.out];have hp1:=hp.call hb1;have sN:=hst.to (aH hb1);have c0:=(hbx.to (aH hb1)).cell
  go_wp2_with fail
  refine(Gt sN _ hat).mono ?_;rintro e w2 ⟨v,rfl,hb,hr⟩;have hq:=Gv hp1 hb hr
  go_wp2_with fail
  go_ret;exact⟨_,rfl,hq.1,by rw[←HZ.out];exact hq.2⟩
theorem QA {gb:Nat}{w:World}(ht:t=[112,108,97,105,110])(hx:Cx gb L vr S w s g)(h:aS L n (.call t s)=some XS):Calls Tryz.prog 38 #[gP gb, .string (au t), .agg g.toArray] w (Ps S w XS):=by
 obtain⟨m',rfl,hs,h1, -⟩:=fB h
 have h2:some (jC s (bz L s.af==2&&!iN s.env (bM L s.af)))=some XS:=by rw[ht]at h1;exact h1
 clear h h1
 have hG:=hx.gx.gb
 have hat:s.af≤100000:=aaT hs.af hG.choose_spec.choose_spec.2.2
 obtain⟨T0,hp,hbx,hst⟩:=hx.box
 obtain⟨aE,nE,cE,aK,nK,cK,aC,nC,cC,rfl,hE, -⟩:=hx.st.aj
 have H2:=π h2
 obtain⟨cz,hcz⟩:∃z,bz L s.af=z:=⟨_,rfl⟩
 have qp:=π hcz
 have e0:((au t).toList==[110,97,109,101])=false:=lX ht ζ
 have e1:((au t).toList==[112,108,97,105,110])=true:=gp ht
 have IT:=π (fun W (h:Below w.heap.size w W)=>PZ (hE.to (.below h)) (by have:=hs.env;omega) (fun d hd=>by have:=hs.ds d hd;omega) (bM L s.af))
 obtain⟨it,aO⟩:∃z,iN s.env (bM L s.af)=z:=⟨_,rfl⟩
 have HIT:=π aO
 clear h2 hcz ht aO hE
 by_cases hc2:cz=2
 case pos=>
  subst hc2;have zM:=C8 (L:=L) (i:=s.af) (by rw[qp.out];decide);obtain⟨b,off,nl,lc,hn,hT⟩:=hG.nR zM
  have hin:s.af<nl:=by omega
  have h9:decide (s.af<nl)=true:=aa4 hin;have HT:=π hT;clear hT hn;unfold Ps
  go_enter Tryz.func38,Tryz.ntmps38
  go_wp2_with fail
  refine(lT (hG.ext hp.be) s.af hat).mono ?_;rintro e w1 ⟨rfl,hb1⟩;rw[qp.out];have hp1:=hp.call hb1;have sN:=hst.to (aH hb1);have c0:=(hbx.to (aH hb1)).u
  have d0:∀u:df w1,_:=fun u=>HT.out u.w (hp1.be.trans (u.below.mono hp1.be.size))
  go_wp2_with fail
  refine jq (C:=fun w'=>∃u:df w1,w'=u.w) 18 (by kernel_rfl) (by kernel_rfl) (df.drew w1) ?_;dsimp only[List.take_succ_cons,List.take_zero,Nat.reduceAdd,List.drop_succ_cons,List.drop_zero,List.append_nil,List.cons_append,List.nil_append]
  repeat(go_big_quiet_step ((go_at_call 22;rename_i u;refine(IT.out _ (hp1.be.trans (u.below.mono hp1.be.size))).mono ?_;rintro e w2 ⟨rfl,b2⟩;exact⟨rfl,u.on b2⟩)))
  refine abO ?_;rintro w' ⟨u,rfl⟩;obtain⟨W,hW⟩:∃W,W=u.w:=⟨_,rfl⟩;have hbw:=u.below;rw[←hW]at hbw⊢;clear hW c0 d0;clear u;rw[HIT.out]
  go_wp2_with fail
  refine(Gt (sN.to (.below hbw)) (!it) hat).mono ?_;rintro e w2 ⟨v,rfl,hb,hr⟩;have hq:=Gv (hp1.on hbw) hb hr
  go_wp2_with fail
  go_ret;obtain rfl:=aau H2.out;exact⟨_,rfl,hq.1,by rw[qp.out,HIT.out];exact hq.2⟩
 case neg=>
  have hz:jC s false=XS:=by have:=H2.out;rw[qp.out,show(cz==2)=false from aat.2 hc2]at this;exact aau this
  have e9:(cz==2)=false:=aat.2 hc2;have HZ:=π hz;clear hz hc2;unfold Ps
  go_enter Tryz.func38,Tryz.ntmps38
  go_wp2_with fail
  refine(lT (hG.ext hp.be) s.af hat).mono ?_;rintro e w1 ⟨rfl,hb1⟩;rw[qp.out];have hp1:=hp.call hb1;have sN:=hst.to (aH hb1);have c0:=(hbx.to (aH hb1)).u
  go_wp2_with fail
  refine jq (C:=fun w'=>∃u:df w1,w'=u.w) 18 (by kernel_rfl) (by kernel_rfl) (df.drew w1) ?_;dsimp only[List.take_succ_cons,List.take_zero,Nat.reduceAdd,List.drop_succ_cons,List.drop_zero,List.append_nil,List.cons_append,List.nil_append]
  repeat(go_big_quiet_step (fail))
  refine abO ?_;rintro w' ⟨u,rfl⟩;obtain⟨W,hW⟩:∃W,W=u.w:=⟨_,rfl⟩;have hbw:=u.below;rw[←hW]at hbw⊢;clear hW c0;clear u
  go_wp2_with fail
  refine(Gt (sN.to (.below hbw)) false hat).mono ?_;rintro e w2 ⟨v,rfl,hb,hr⟩;have hq:=Gv (hp1.on hbw) hb hr
  go_wp2_with fail
  go_ret;exact⟨_,rfl,hq.1,by rw[←HZ.out];exact hq.2⟩
end Go.Proofs.YtlboejdhmggjpaaGreat.Pp.Dr
