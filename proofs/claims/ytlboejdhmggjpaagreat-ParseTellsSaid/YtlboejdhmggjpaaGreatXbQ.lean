import Derived.Test.YtlboejdhmggjpaaGreatXbP
set_option linter.all false
namespace Go.Proofs.YtlboejdhmggjpaaGreat.Pp.Dr
set_option maxRecDepth 100000
set_option maxHeartbeats 1600000
open Go.RowKit Go.BigFrame Go.Proofs.YtlboejdhmggjpaaGreat
theorem JR(n k:Nat){G G':Prop}(q:G')(h:Tg n k→G'→G:=by
  intro t q;refine BC t (by kernel_rfl) (by kernel_rfl) ?_;dsimp only[List.take_succ_cons,List.take_zero,Nat.reduceAdd,List.drop_succ_cons,List.drop_zero,List.append_nil,List.cons_append,List.nil_append]
  try dsimp only[List.drop]
  repeat(go_big_quiet_step (fail))
  refine abO ?_;intro ok hok K hK w' hw';cases hok;obtain⟨u,rfl⟩:=hw';obtain⟨W,hW⟩:∃W,W=u.w:=⟨_,rfl⟩;have hbw:=u.below;rw[←hW]at hbw⊢;clear hW;clear u;have HK:=π hK;clear hK
  revert hbw W HK K
  exact q):G:=h ⟨⟩ q
theorem oF{T:Nat→Prop}{w:World}{gb:Nat}{L:List Ct}{vr v:Value}{env:List (List Sd)}(hG:GB w gb L vr)(hv:nZ T w v env)(hl:env.length≤100000)(hd:∀d∈env,d.length≤100000)(i:Nat)(hi:i≤100000)(all:Bool):Calls Tryz.prog 132 #[gP gb,v, .int .i64 i, .bool all] w fun e w'=>e= .returned (.bool (iY L env i all))∧Below w.heap.size w w':=by
 by_cases h2:bz L i=2
 ·exact aex hG hv hl hd i hi all h2
 by_cases h1:bz L i=1
 ·exact aeA hG hv.aj i hi all h1
 ·exact aey hG hv.aj i hi all h2 h1
theorem zB{W:World}{m:Nat}{a b c d e x y:Value}{t:TypeId}(h:W.heap[m]? =some (.cells #[a,b,c,d,e,x,y] t (0,0))):W.cell? ⟨m,0,none⟩=some a∧W.cell? ⟨m,1,none⟩=some b∧W.cell? ⟨m,2,none⟩=some c∧W.cell? ⟨m,3,none⟩=some d∧W.cell? ⟨m,4,none⟩=some e∧W.cell? ⟨m,5,none⟩=some x∧W.cell? ⟨m,6,none⟩=some y:=by
 refine⟨?_,?_,?_,?_,?_,?_,?_⟩<;>simp[World.cell?,h]
theorem yx.up{T:Nat→Prop}{w:World}{t:So}{a b c d e x y:Value}(h:yx T w t [a,b,c,d,e,x,y])(b' w':Nat):yx T w ⟨{t.s with af:=t.s.af+1},b',w'⟩ [.int .i64 ((t.s.af:Int)+1),b,c,d,e, .int .i64 b', .int .i64 w']:=⟨_,rfl,h.sx.alC⟩
theorem kN.fw{S:Nat→Prop}{w0 w:World}{x:So}{g:List Value}{m:Nat}(hm:w.heap.size=m)(hb:Below w0.heap.size w0 w)(h:yx (Dr.gr S w0 w) w x g):kN (Dr.gr S w0 (w.alloc (.cells g.toArray 159))) (w.alloc (.cells g.toArray 159)) (.slice (some ⟨m,0,none⟩) 1 1) [x]:=(kN.ay hm h).to (QS hb.size)
theorem kN.nil{T:Nat→Prop}{w:World}:kN T w (.slice none 0 0) []:=⟨[],Rw.nil,rfl⟩
theorem aik{gb:Nat}{L:List Ct}{vr:Value}{n:Nat}(ih:Wd gb L vr n):agz gb L vr n:=by
 intro S w x g all xs hlt hgx hx hok hxb hxw h hxl
 have hG:=hgx.gb
 have hat:x.s.af≤100000:=aaT hok.af hG.choose_spec.choose_spec.2.2
 obtain⟨aE,nE,cE,aK,nK,cK,aC,nC,cC,rfl,hsx⟩:=hx.aj
 have hE:=hsx.lG.1
 obtain⟨m0,hm⟩:∃m,w.heap.size=m:=⟨_,rfl⟩
 have hb0:=ag w (.cells #[.int .i64 x.s.af, .slice aE nE cE, .slice aK nK cK, .bool x.s.ty, .slice aC nC cC, .int .i64 x.b, .int .i64 x.w] 159)
 have B0:=rR hm #[.int .i64 x.s.af, .slice aE nE cE, .slice aK nK cK, .bool x.s.ty, .slice aC nC cC, .int .i64 x.b, .int .i64 x.w] 159
 have HB0:=π B0
 have HM:=π hm
 have H:=π h
 obtain⟨sp,hsp⟩:∃z,iY L x.s.env x.s.af all=z:=⟨_,rfl⟩
 have UI:=π hsp
 clear B0 h hsp
 go_enter Tryz.func95,Tryz.ntmps95
 go_wp2_with fail
 refine(oF (hG.ext hb0) (hE.to (.below hb0)) (by have:=hok.env;omega) (fun d hd=>by have:=hok.ds d hd;omega) x.s.af hat all).mono ?_
 rintro e w1 ⟨rfl,hb1⟩
 rw[UI.out]
 have hq1:=hb0.trans (hb1.mono hb0.size)
 have B1:=aF hb1 HB0.out (ψ.1 HB0.out).1
 cases sp with
 |false=>
  have hz:xs=[]:=by have:=H.out;unfold ic at this;rw[ω UI.out]at this;exact(aau this).symm
  subst hz
  go_wp2_with fail
  go_ret;exact⟨_,rfl,hq1,kN.nil⟩
 |true=>
  have hcl:bz L x.s.af=1∨bz L x.s.af=2:=by
   have h1:=UI.out;unfold iY at h1;by_cases c2:bz L x.s.af=2
   ·exact .inr c2
   ·rw[χ c2]at h1
    by_cases c1:bz L x.s.af=1
    ·exact .inl c1
    ·rw[ω c1]at h1;cases h1
  have zM:=C8 (L:=L) (i:=x.s.af) η;obtain⟨b,off,nl,lc,hn,hT⟩:=hG.nR zM
  have hin:x.s.af<nl:=by omega
  have h9:decide (x.s.af<nl)=true:=aa4 hin;have HT:=π hT;have d0:=hT w1 hq1;have c7:=zB B1;obtain⟨t,ht⟩:∃t,bM L x.s.af=t:=⟨_,rfl⟩;rw[ht]at d0;have Xu:=π ht;have HB1:=π B1;clear hT ht hn B1
  go_wp2_with fail
  go_quiet (fail)
  have hbq:Below w1.heap.size w1 (w1.drewN nq):=gz _ _ _;obtain⟨w2,hw2⟩:∃W,W=w1.drewN nq:=⟨_,rfl⟩;rw[←hw2]at hbq⊢;have hq2:=hq1.trans (hbq.mono hq1.size);have hB2:=aF hbq HB1.out (ψ.1 HB1.out).1;have CC:=π (fun W (h:Below w2.heap.size w2 W)=>aF h hB2 (ψ.1 hB2).1);clear hw2 hbq c7 d0;have c7:=zB hB2;obtain⟨cz,hcz⟩:∃z,bz L x.s.af=z:=⟨_,rfl⟩;have qp:=π hcz;rw[hcz]at hcl;clear hcz hB2
  go_wp2_with fail
  refine(lT (hG.ext hq2) x.s.af hat).mono ?_;rintro e w3 ⟨rfl,hb3⟩;rw[qp.out];have hq3:=hq2.trans (hb3.mono hq2.size);have hB3:=CC.out w3 hb3;clear c7;have c7:=zB hB3;have z0:=gQ hB3 0;have z5:=gQ hB3 5;have z6:=gQ hB3 6
  rcases hcl with rfl|rfl
  case inr=>
   have hz:(if 0<x.b+x.w then[]else[⟨{x.s with af:=x.s.af+1},x.b,x.w+1⟩])=xs:=by
    have:=H.out;unfold ic at this;rw[χ (by rw[UI.out];simp),χ (by rw[qp.out];simp),χ (by rw[qp.out];simp),χ (by rw[qp.out];simp)]at this;by_cases h0:0<x.b+x.w
    ·rw[ω h0]at this⊢;exact aau this
    ·rw[χ h0,ω (by rw[qp.out];decide)]at this
     rw[χ h0];exact aau this
   have HZ:=π hz;clear hz;by_cases h0:0<x.b+x.w
   case pos=>
    have e2:decide ((0:Int)<(x.b:Int)+x.w)=true:=by rw[abC];omega
    go_wp2_with fail
    go_ret;have:=HZ.out;rw[ω h0]at this;rw[←this];exact⟨_,rfl,hq3,kN.nil⟩
   case neg=>
    have e2:decide ((0:Int)<(x.b:Int)+x.w)=false:=by rw[ach];omega
    clear hB3
    go_wp2_with fail
    go_ret;have hz:=HZ.out;rw[χ h0]at hz;have vv:=(hq3.setCell (p:=⟨m0,0,none⟩) (acf HM.out) (.int .i64 ((x.s.af:Int)+1))).setCell (p:=⟨m0,6,none⟩) (acf HM.out) (.int .i64 ((x.w:Int)+1));rw[←hz];exact⟨_,rfl,vv.alloc vv.size _,kN.fw (m:=w3.heap.size) (by simp[World.setCell]) vv ((hx.to (aH vv)).up x.b (x.w+1))⟩
  case inl=>
   obtain⟨l1,l2,l3,l4⟩:=Ux;obtain⟨b1,q1⟩:∃z,qZ.contains t=z:=⟨_,rfl⟩;obtain⟨b2,q2⟩:∃z,uV.contains t=z:=⟨_,rfl⟩;obtain⟨b3,q3⟩:∃z,rf.contains t=z:=⟨_,rfl⟩;obtain⟨b4,q4⟩:∃z,(t==[95,65,116,111,109,105,99])=z:=⟨_,rfl⟩;obtain⟨b5,q5⟩:∃z,dJ L (x.s.af+1) [40]=z:=⟨_,rfl⟩;obtain⟨b6,q6⟩:∃z,(t==[95,65,108,105,103,110,97,115])=z:=⟨_,rfl⟩;obtain⟨b7,q7⟩:∃z,(t==[101,110,117,109])=z:=⟨_,rfl⟩;have e4:((au t).toList==[95,65,116,111,109,105,99])=b4:=(mJ t _).trans q4;have e6:((au t).toList==[95,65,108,105,103,110,97,115])=b6:=(mJ t _).trans q6;have e7:((au t).toList==[101,110,117,109])=b7:=(mJ t _).trans q7
   have i4:(t=[95,65,116,111,109,105,99])=(b4=true):=by rw[←q4,aaZ]
   have i6:(t=[95,65,108,105,103,110,97,115])=(b6=true):=by rw[←q6,aaZ]
   have i7:(t=[101,110,117,109])=(b7=true):=by rw[←q7,aaZ]
   have hM:(if b1=true then some (if 0<x.w then[]else[⟨{x.s with af:=x.s.af+1},x.b+1,x.w⟩])else if b2=true∨b3=true∨(b4=true∧b5=false)then some [⟨{x.s with af:=x.s.af+1},x.b,x.w⟩]else if b6=true then(aS L n (.call [97,108,105,103,110] x.s)).bind (fun z=>some (z.map fun y=>(⟨y,x.b,x.w⟩:So)))else if 0<x.b+x.w then some []else(aS L n (.call (if b4=true then[97,116,111,109,105,99]else if b7=true then[101,110,117,109]else[114,101,99,111,114,100]) x.s)).bind (fun z=>some (z.map fun y=>(⟨y,0,1⟩:So))))=some xs:=by
    have:=H.out;unfold ic at this;rw[Xu.out,χ (by rw[UI.out];simp)]at this;simp only[qp.out,true_and,q1,q2,q3,q5,i4,i6,i7,ne_eq,not_true_eq_false,if_false]at this;exact this
   have I4:=π hM;have I5:=π (fun W (h:Below w.heap.size w W)=>rY (hG.ext h) (x.s.af+1) (by have:=hG.choose_spec.choose_spec.2.2;omega) [40] ζ ζ);have Q5:=π q5
   have A1:∀W,Calls Tryz.prog 97 #[.string (au Uu), .string (au t)] W fun e w'=>e= .returned (.bool b1)∧Below W.heap.size W w':=fun W=>by have:=uo (w:=W) Uu t ζ;rw[l1,q1]at this;exact this
   have HA1:=π A1
   have A2:∀W,Calls Tryz.prog 97 #[.string (au Uv), .string (au t)] W fun e w'=>e= .returned (.bool b2)∧Below W.heap.size W w':=fun W=>by have:=uo (w:=W) Uv t ζ;rw[l2,q2]at this;exact this
   have HA2:=π A2
   have A3:∀W,Calls Tryz.prog 97 #[.string (au Uw), .string (au t)] W fun e w'=>e= .returned (.bool b3)∧Below W.heap.size W w':=fun W=>by have:=uo (w:=W) Uw t ζ;rw[l4,q3]at this;exact this
   have HA3:=π A3;clear hM A1 A2 A3 q1 q2 q3 q4 q5 q6 q7 l1 l2 l3 l4 i4 i6 i7 hB3
   go_wp2_with fail
   refine(HA1.out w3).mono ?_;rintro e w4 ⟨rfl,hb4⟩;have hx4:=hb3.trans (hb4.mono hb3.size);have hq4:=hq3.trans (hb4.mono hq3.size);have hB4:=CC.out w4 hx4;clear c7 z0 z5 z6;have c7:=zB hB4;have z0:=gQ hB4 0;have z5:=gQ hB4 5
   cases b1 with
   |true=>
    by_cases h0:0<x.w
    case pos=>
     have e2:decide ((0:Int)<(x.w:Int))=true:=by rw[abC];omega
     have e3:decide (0<x.w)=true:=by rw[abC];omega
     clear hB4
     go_wp2_with fail
     go_ret;have hz:=aau I4.out;rw[ω h0]at hz;rw[←hz];exact⟨_,rfl,(hq4.setCell (p:=⟨m0,5,none⟩) (acf HM.out) (.int .i64 ((x.b:Int)+1))).setCell (p:=⟨m0,0,none⟩) (acf HM.out) (.int .i64 ((x.s.af:Int)+1)),kN.nil⟩
    case neg=>
     have e2:decide ((0:Int)<(x.w:Int))=false:=by rw[ach];omega
     have e3:decide (0<x.w)=false:=by rw[ach];omega
     clear hB4
     go_wp2_with fail
     go_ret;have hz:=aau I4.out;rw[χ h0]at hz;have vv:=(hq4.setCell (p:=⟨m0,5,none⟩) (acf HM.out) (.int .i64 ((x.b:Int)+1))).setCell (p:=⟨m0,0,none⟩) (acf HM.out) (.int .i64 ((x.s.af:Int)+1));rw[←hz];exact⟨_,rfl,vv.alloc vv.size _,kN.fw (m:=w4.heap.size) (by simp[World.setCell]) vv ((hx.to (aH vv)).up (x.b+1) x.w)⟩
   |false=>
    clear hB4
    go_wp2_with fail
    clear z5;refine(HA2.out w4).mono ?_;rintro e w5 ⟨rfl,hb⟩;have hw5:=hx4.trans (hb.mono hx4.size);have aeN:=hq4.trans (hb.mono hq4.size);have hB:=CC.out w5 hw5;clear c7 z0;have c7:=zB hB;have z0:=gQ hB 0;clear hB hb
    cases b2 with
    |true=>
     go_wp2_with fail
     go_ret;have hz:=I4.out;rw[χ ζ,ω ν]at hz;obtain rfl:=aau hz;have vv:=aeN.setCell (p:=⟨m0,0,none⟩) (acf HM.out) (.int .i64 ((x.s.af:Int)+1));exact⟨_,rfl,vv.alloc vv.size _,kN.fw (m:=w5.heap.size) (by simp[World.setCell]) vv ((hx.to (aH vv)).up x.b x.w)⟩
    |false=>
     go_wp2_with fail
     refine(HA3.out w5).mono ?_;rintro e w6 ⟨rfl,hb⟩;have hw6:=hw5.trans (hb.mono hw5.size);have OD:=aeN.trans (hb.mono aeN.size);have hB:=CC.out w6 hw6;clear c7 z0;have c7:=zB hB;have z0:=gQ hB 0;clear hB hb
     cases b3 with
     |true=>
      go_wp2_with fail
      go_ret;have hz:=I4.out;rw[χ ζ,ω ν]at hz;obtain rfl:=aau hz;have vv:=OD.setCell (p:=⟨m0,0,none⟩) (acf HM.out) (.int .i64 ((x.s.af:Int)+1));exact⟨_,rfl,vv.alloc vv.size _,kN.fw (m:=w6.heap.size) (by simp[World.setCell]) vv ((hx.to (aH vv)).up x.b x.w)⟩
     |false=>
      cases b4 with
      |false=>
       have I6:=(Pw.start hlt).call OD
       cases b6 with
       |true=>
        have hz0:=I4.out;rw[χ ζ,χ ν,ω rfl]at hz0;obtain⟨zs,hzs, -⟩:=Γ.1 hz0;have HC:=π hzs;have ng:=π hz0;clear hz0 hzs
        have cu:∀u:df w6,_:=fun u=>zB (CC.out u.w (hw6.trans (u.below.mono hw6.size)))
        go_wp2_with fail
        refine JR 8 3 ?_;intro K' W' hbw eQ;clear cu
        go_wp2_with fail
        refine(ih.call (S:=Dr.gr S w w6) ⟨(I6.on hbw).lt,hgx.to (I6.on hbw).mG,hsx.to (I6.on hbw).mG⟩ HC.out).mono ?_;rintro e wa h;obtain⟨v,rfl,iq,hr⟩:=h.rq hbw;have Da:=I6.call iq;have hzl:=(fE HC.out).2.1.1;obtain⟨av,kv,cv,rfl⟩:=hr.aj;clear h
        go_wp2_with fail
        refine eQ.out _ _ ⟨⟨wa,iq⟩,rfl⟩ ?_;clear c7 z0
        go_wp2_with fail
        refine(Gu hr x.b x.w hzl).mono ?_;rintro e wb ⟨v2,rfl,hbb,hr2⟩
        go_wp2_with fail
        go_ret;have hz:=ng.out;rw[HC.out]at hz;obtain rfl:=aau hz;exact⟨_,rfl,Da.be.trans (hbb.mono Da.be.size),(hr2.to wS).to (Da.call hbb).fw⟩
       |false=>
        by_cases h0:0<x.b+x.w
        case pos=>
         have e2:decide ((0:Int)<(x.b:Int)+x.w)=true:=by rw[abC];omega
         go_wp2_with fail
         go_ret;have hz:=I4.out;rw[χ ζ,χ ν,χ ζ,ω h0]at hz;obtain rfl:=aau hz;exact⟨_,rfl,OD,kN.nil⟩
        case neg=>
         have e2:decide ((0:Int)<(x.b:Int)+x.w)=false:=by rw[ach];omega
         have hz0:=I4.out;rw[χ ζ,χ ν,χ ζ,χ h0]at hz0;obtain⟨zs,hzs, -⟩:=Γ.1 hz0;have HC:=π hzs;have ng:=π hz0;clear hz0 hzs;cases b7
         all_goals
          go_wp2_with fail
          refine(ih.call (S:=Dr.gr S w w6) ⟨I6.lt,hgx.to I6.mG,hsx.to I6.mG⟩ HC.out).mono ?_;rintro e wa h;obtain⟨v,rfl,iq,hr⟩:=h;have Da:=I6.call iq;have hzl:=(fE HC.out).2.1.1;obtain⟨av,kv,cv,rfl⟩:=hr.aj
          go_wp2_with fail
          refine(Gu hr 0 1 hzl).mono ?_;rintro e wb ⟨v2,rfl,hbb,hr2⟩
          go_wp2_with fail
          go_ret;have hz:=ng.out;rw[HC.out]at hz;obtain rfl:=aau hz;exact⟨_,rfl,Da.be.trans (hbb.mono Da.be.size),(hr2.to wS).to (Da.call hbb).fw⟩
      |true=>
       go_wp2_with fail
       have e8:((x.s.af:Int)+1)=((x.s.af+1:Nat):Int):=by omega
       rw[e8];refine(I5.out w6 OD).mono ?_;rintro e w7 ⟨rfl,hb⟩;rw[Q5.out];have hw7:=hw6.trans (hb.mono hw6.size);have aeO:=OD.trans (hb.mono OD.size);have hB:=CC.out w7 hw7;clear c7 z0 e8;have c7:=zB hB;have z0:=gQ hB 0;clear hB hb
       cases b5 with
       |false=>
        go_wp2_with fail
        go_ret;have hz:=I4.out;rw[χ ζ,ω ν]at hz;obtain rfl:=aau hz;have vv:=aeO.setCell (p:=⟨m0,0,none⟩) (acf HM.out) (.int .i64 ((x.s.af:Int)+1));exact⟨_,rfl,vv.alloc vv.size _,kN.fw (m:=w7.heap.size) (by simp[World.setCell]) vv ((hx.to (aH vv)).up x.b x.w)⟩
       |true=>
        have I7:=(Pw.start hlt).call aeO
        cases b6 with
        |true=>
         have hz0:=I4.out;rw[χ ζ,χ ν,ω rfl]at hz0;obtain⟨zs,hzs, -⟩:=Γ.1 hz0;have HC:=π hzs;have ng:=π hz0;clear hz0 hzs
         have cu:∀u:df w7,_:=fun u=>zB (CC.out u.w (hw7.trans (u.below.mono hw7.size)))
         go_wp2_with fail
         refine JR 8 3 ?_;intro K' W' hbw eQ;clear cu
         go_wp2_with fail
         refine(ih.call (S:=Dr.gr S w w7) ⟨(I7.on hbw).lt,hgx.to (I7.on hbw).mG,hsx.to (I7.on hbw).mG⟩ HC.out).mono ?_;rintro e wa h;obtain⟨v,rfl,iq,hr⟩:=h.rq hbw;have Da:=I7.call iq;have hzl:=(fE HC.out).2.1.1;obtain⟨av,kv,cv,rfl⟩:=hr.aj;clear h
         go_wp2_with fail
         refine eQ.out _ _ ⟨⟨wa,iq⟩,rfl⟩ ?_;clear c7 z0
         go_wp2_with fail
         refine(Gu hr x.b x.w hzl).mono ?_;rintro e wb ⟨v2,rfl,hbb,hr2⟩
         go_wp2_with fail
         go_ret;have hz:=ng.out;rw[HC.out]at hz;obtain rfl:=aau hz;exact⟨_,rfl,Da.be.trans (hbb.mono Da.be.size),(hr2.to wS).to (Da.call hbb).fw⟩
        |false=>
         by_cases h0:0<x.b+x.w
         case pos=>
          have e2:decide ((0:Int)<(x.b:Int)+x.w)=true:=by rw[abC];omega
          go_wp2_with fail
          go_ret;have hz:=I4.out;rw[χ ζ,χ ν,χ ζ,ω h0]at hz;obtain rfl:=aau hz;exact⟨_,rfl,aeO,kN.nil⟩
         case neg=>
          have e2:decide ((0:Int)<(x.b:Int)+x.w)=false:=by rw[ach];omega
          have hz0:=I4.out;rw[χ ζ,χ ν,χ ζ,χ h0]at hz0;obtain⟨zs,hzs, -⟩:=Γ.1 hz0;have HC:=π hzs;have ng:=π hz0;clear hz0 hzs;cases b7
          all_goals
           go_wp2_with fail
           refine(ih.call (S:=Dr.gr S w w7) ⟨I7.lt,hgx.to I7.mG,hsx.to I7.mG⟩ HC.out).mono ?_;rintro e wa h;obtain⟨v,rfl,iq,hr⟩:=h;have Da:=I7.call iq;have hzl:=(fE HC.out).2.1.1;obtain⟨av,kv,cv,rfl⟩:=hr.aj
           go_wp2_with fail
           refine(Gu hr 0 1 hzl).mono ?_;rintro e wb ⟨v2,rfl,hbb,hr2⟩
           go_wp2_with fail
           go_ret;have hz:=ng.out;rw[HC.out]at hz;obtain rfl:=aau hz;exact⟨_,rfl,Da.be.trans (hbb.mono Da.be.size),(hr2.to wS).to (Da.call hbb).fw⟩
end Go.Proofs.YtlboejdhmggjpaaGreat.Pp.Dr
