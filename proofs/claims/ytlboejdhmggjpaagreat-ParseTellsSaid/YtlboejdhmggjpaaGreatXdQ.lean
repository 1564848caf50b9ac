import Derived.Test.YtlboejdhmggjpaaGreatXdP
set_option linter.all false
namespace Go.Proofs.YtlboejdhmggjpaaGreat.Pp.Dr
set_option maxRecDepth 100000
set_option maxHeartbeats 8000000
open Go.RowKit Go.BigFrame Go.Proofs.YtlboejdhmggjpaaGreat
variable {L : List Ct}{s y : Sx}
theorem VW {g:Rq→Option (List Sx)}{Z:List Sx}(h:mX L g s y=some Z):∃r,((¬(47≤(y.ah.headD zT).k∧bz L y.af=7∧yR.contains (bM L y.af)=true)∧r=[])∨((47≤(y.ah.headD zT).k∧bz L y.af=7∧yR.contains (bM L y.af)=true)∧g (.assign {af:=y.af+1,env:=y.env})=some r))∧Z=dF s y::r.map fun z=>dF s (iA 34 s.af z [y.ah.headD zT,z.ah.headD zT]):=by
 unfold mX at h
 obtain⟨r,h1,h2⟩:=Γ.1 h
 refine⟨r,?_,(aau h2).symm⟩
 split at h1
 ·next h3=>exact .inr ⟨h3,h1⟩
 ·next h3=>exact .inl ⟨h3,(aau h1).symm⟩
def ae4:Bs:=[61,32,42,61,32,47,61,32,37,61,32,43,61,32,45,61,32,60,60,61,32,62,62,61,32,38,61,32,94,61,32,124,61]
theorem ais:wF ae4 []=yR:=by decide+kernel
theorem acE {gb:Nat}{vr:Value}{n:Nat}(ih:∀m,m<n→Wd gb L vr m){S:Nat→Prop}{w:World}{g:List Value}{XS:List Sx}(hx:Cx gb L vr S w s g)(h:aS L n (.assign s)=some XS):Calls Tryz.prog 61 #[gP gb, .agg g.toArray] w (Ps S w XS):=by
 obtain⟨m',rfl,hs,h1, -⟩:=fB h
 have hG:=hx.gx.gb
 have hL2:L.length≤100000:=hG.choose_spec.choose_spec.2.2
 have hat:s.af≤100000:=aaT hs.af hL2
 obtain⟨l0,hl1,hc⟩:=Γ.1 (show(aS L m' (.dx (fresh s))).bind (fun x=>(bu (mX L (aS L m') s) x).bind aG)=some XS from h1)
 obtain⟨Z0,hc1,hc2⟩:=Γ.1 hc
 have hXl:=(eU hc2).2
 obtain rfl:=(eU hc2).1.symm
 obtain⟨T0,hp0,hbx0,hs0⟩:=hx.box
 obtain⟨aE,nE,cE,aK,nK,cK,aC,nC,cC,rfl,hE, -⟩:=hx.st.aj
 have hf0:fJ T0 _ (fresh s) [.int .i64 s.af, .slice aE nE cE, .slice none 0 0, .bool false, .slice none 0 0]:=⟨_,_,_,rfl,hE.to hp0.mG,⟨[],Rw.nil,rfl⟩,Rw.nil⟩
 have yu:=π hl1
 have XA:=π hc1
 have xK:=π (show Ai L l0∧∀x∈l0,x.ah≠[]from⟨(fE hl1).2.1,fun x hx e=>by have:=(fE hl1).2.2 x hx;rw[e]at this;exact absurd this (show¬(1≤0) by omega)⟩)
 obtain⟨m0,hm⟩:∃m,w.heap.size=m:=⟨_,rfl⟩
 rw[hm]at hbx0
 have HM:=π hm
 clear h h1 hc hc1 hc2 hl1 hs0
 unfold Ps
 go_enter Tryz.func61,Tryz.ntmps61
 go_wp2_with fail
 refine((ih m' η).dx (hx.af hp0 hf0) yu.out).mono ?_
 rintro e w2 ⟨v,rfl,hb,hr⟩
 have hp2:=hp0.call hb
 have uU:=hbx0.to (aH hb)
 obtain⟨al,kl,cl,rfl⟩:=hr.aj
 obtain⟨hkl,aeQ⟩:=hr.len
 have M3:=π hkl
 clear hbx0 hf0 hkl
 go_wp2_with fail
 go_loopw [5,7,8,9,10,11] (fun s5 s7 s8 s9 s10 s11 wr=>∃(i:Nat) (T:Nat→Prop) (acc zr:List Sx),s7= .int .i64 i∧i≤kl∧Pw S w T wr∧dW T w.heap.size wr s5 acc∧dS T wr (.slice al kl cl) l0∧Bx T wr m0 [.int .i64 s.af, .slice aE nE cE, .slice aK nK cK, .bool s.ty, .slice aC nC cC]∧bu (mX L (aS L m') s) (l0.drop i)=some zr∧acc++zr=XS) (fun _ s7 _ _ _ _ _=>kl - (intOf s7).toNat)
 case atStart=>exact⟨0,_,[],XS,rfl,Ω _,hp2,dW.nil,hr,uU,XA.out,rfl⟩
 case round=>
  obtain⟨i,T,acc,zr,rfl,hik,hp,hac,hfr,hbx,hz,hzz⟩:=hrel;obtain⟨a5,c5,rfl⟩:=hac.aj;by_cases hlt:i<kl
  case neg=>
   have h1:decide (i<kl)=false:=aa5 hlt
   have hz2:acc=XS:=by
    rw[abY (by rw[←M3.out];omega)]at hz;rw[rM hz,List.append_nil]at hzz;exact hzz
   subst hz2;clear hz hzz
   go_wp2_with fail
   go_ret;exact⟨_,rfl,hp.be,hac.fw hp⟩
  case pos=>
   have hi:i<l0.length:=by rw[←M3.out];exact hlt
   rw[abv hi]at hz;obtain⟨x1,z1,hx1,hx2,rfl⟩:=mM hz;obtain⟨b2,sZ,bE,oE,dE,bK,oK,dK,bC,oC,dC,rfl,d1,hxi⟩:=hfr.at hi;have Am:=xK.out.1.2 _ (ab2 hi);have hkn:=xK.out.2 _ (ab2 hi);obtain⟨x,Jf⟩:∃x,l0[i]=x:=⟨_,rfl⟩;rw[Jf]at d1 hxi Am hkn hx1;have Nc:=π Jf;have hxa:x.af≤100000:=aaT Am.af hL2;have h1:decide (i<kl)=true:=aa4 hlt;obtain⟨h0k,b3,zz,tK,sK,uK,tD,sD,uD,rfl,d3,hti⟩:=hxi.lG.2.1.first hkn;obtain⟨t0,ht0⟩:∃t,x.ah.headD zT=t:=⟨_,rfl⟩;rw[ht0]at d3 hti;have HT0:=π ht0;obtain⟨r,hr1,rfl⟩:=VW hx1;rw[ht0]at hzz
   try rw[ht0]at hr1
   have Ls:=π (show dF s x=gU s x t0 by rw[←ht0];rfl);have wD:=π hx2;have ng:=π hzz;have HR1:=π hr1
   have hal:acc.length+1+r.length+z1.length≤1000:=by
    have h9:=afz List.length hzz;simp only[Δ,abz,aaJ]at h9;omega
   clear hx2 hzz hz hx1 Jf ht0 hr1;have e1:=d1 (df.oH _);have e3:=d3 (df.oH _);dsimp only[df.oH,df.w]at e1 e3;obtain⟨W1,T1,m8,hW1,hm8,hp1,Lt,fr1,bx1,hx1,ht1,b81⟩:∃W1 T1 m8,wr.alloc (.cells #[.int .i64 t0.k, .int .i64 t0.lo, .int .i64 t0.hi, .slice tK sK uK, .slice tD sD uD] 35)=W1∧wr.heap.size=m8∧Pw S w T1 W1∧dW T1 w.heap.size W1 (.slice a5 acc.length c5) acc∧dS T1 W1 (.slice (some ⟨b2,sZ,none⟩) kl cl) l0∧Bx T1 W1 m0 [.int .i64 s.af, .slice aE nE cE, .slice aK nK cK, .bool s.ty, .slice aC nC cC]∧fJ T1 W1 x [.int .i64 x.af, .slice bE oE dE, .slice (some ⟨b3,zz,none⟩) oK dK, .bool x.ty, .slice bC oC dC]∧kF T1 W1 t0 [.int .i64 t0.k, .int .i64 t0.lo, .int .i64 t0.hi, .slice tK sK uK, .slice tD sD uD]∧Bx T1 W1 m8 [.int .i64 t0.k, .int .i64 t0.lo, .int .i64 t0.hi, .slice tK sK uK, .slice tD sD uD]:=⟨_,gr T wr _,_,rfl,rfl,hp.call (ag _ _),hac.call (ag _ _),hfr.to (aH (ag _ _)),hbx.to (aH (ag _ _)),hxi.to (aH (ag _ _)),hti.to (aH (ag _ _)),Bx.new (S:=T) rfl [.int .i64 t0.k, .int .i64 t0.lo, .int .i64 t0.hi, .slice tK sK uK, .slice tD sD uD] 35⟩;have HW1:=π hW1;clear hW1 hp hac hfr hbx hxi hti d1 d3
   go_wp2_with fail
   rw[HW1.out];clear hm8 e1 e3 h1 HW1;obtain⟨f1,f2,gE,gN,gC,gK,gM,gD,gF,gG,gH,e8,d1,EF⟩:=fr1.at hi;cases e8;rw[Nc.out]at d1 EF;have c0:=bx1.u;have c8:=b81.u
   go_wp2_with fail
   refine C9 9 7 ?_;intro K' W hbw eQ
   go_wp2_with fail
   refine(Aj (hp1.on hbw).lt (hx.st.to (hp1.on hbw).mG) (EF.to (.below hbw)) (ht1.to (.below hbw)) hs.ah).mono ?_;rintro e w2 ⟨g',rfl,hb0,hsx⟩;have hb:=hbw.trans (hb0.mono hbw.size);have mH:=hsx.to (JQ hbw);obtain⟨sE,tE,uE,Jd,Fw,Fx,sC,tC,uC,rfl, -⟩:=mH.aj;have hrow:=dS.ay 51 rfl mH;have hb3:=ag w2 (.cells #[.int .i64 (gU s x t0).af, .slice sE tE uE, .slice Jd Fw Fx, .bool (gU s x t0).ty, .slice sC tC uC] 51);have rO:=(Lt.call hb).call hb3;clear d1 c0 c8 hsx hb0
   go_wp2_with fail
   refine eQ.out _ _ ⟨⟨w2,hb⟩,rfl⟩ ?_;intro o2 ho2 K2 hK2;cases ho2;have ji:=π hK2;clear hK2 eQ
   go_wp2_with fail
   refine ji.out _ _ ⟨⟨_,hb.alloc hb.size _⟩,rfl⟩ ?_;refine kX ((hp1.call hb).call hb3) (.tmp 32) (.tmp 40) rO hrow (by simp;omega) rfl rfl rfl rfl ?_;intro v3 w3 iU hle3;have htk:=((aH hb).trans (aH hb3)).trans hle3.tk;have hp3:=hle3.pw;clear ji rO hb hb3 hle3 hbw mH hrow;obtain⟨Q3,xI⟩:∃Q,acc++[gU s x t0]=Q:=⟨_,rfl⟩;rw[xI]at iU
   have atm:Q3.length≤acc.length+1:=by rw[←xI];simp
   have Bh:=π xI;clear xI;obtain⟨T3,p3,a3,f3,Kq,x3,t83,m83⟩:∃T3,Pw S w T3 w3∧dW T3 w.heap.size w3 v3 Q3∧dS T3 w3 (.slice (some ⟨b2,sZ,none⟩) kl cl) l0∧Bx T3 w3 m0 [.int .i64 s.af, .slice aE nE cE, .slice aK nK cK, .bool s.ty, .slice aC nC cC]∧fJ T3 w3 x [.int .i64 x.af, .slice bE oE dE, .slice (some ⟨b3,zz,none⟩) oK dK, .bool x.ty, .slice bC oC dC]∧kF T3 w3 t0 [.int .i64 t0.k, .int .i64 t0.lo, .int .i64 t0.hi, .slice tK sK uK, .slice tD sD uD]∧Bx T3 w3 m8 [.int .i64 t0.k, .int .i64 t0.lo, .int .i64 t0.hi, .slice tK sK uK, .slice tD sD uD]:=⟨_,hp3,iU,fr1.to htk,bx1.to htk,hx1.to htk,ht1.to htk,b81.to htk⟩;obtain⟨a5',c5',rfl⟩:=a3.aj;clear hp3 iU htk fr1 bx1 hx1 hp1 Lt ht1 b81 EF;obtain⟨f1,f2,gE,gN,gC,gK,gM,gD,gF,gG,gH,e8,c1, -⟩:=f3.at hi;cases e8;rw[Nc.out]at c1;have c8:=m83.u
   go_wp2_with fail
   have agS:∀W,Below w3.heap.size w3 W→r=[]→∃(i':Nat) (T:Nat→Prop) (acc zr:List Sx),(i':Int)=(i:Int)+1∧i'≤kl∧Pw S w T W∧dW T w.heap.size W (.slice a5' Q3.length c5') acc∧dS T W (.slice (some ⟨b2,sZ,none⟩) kl cl) l0∧Bx T W m0 [.int .i64 s.af, .slice aE nE cE, .slice aK nK cK, .bool s.ty, .slice aC nC cC]∧bu (mX L (aS L m') s) (l0.drop i')=some zr∧acc++zr=XS:=fun W hb e=>⟨i+1,T3,Q3,z1,by omega,by omega,p3.on hb,a3.on hb,f3.to (.below hb),Kq.to (.below hb),wD.out,by have h9:=ng.out;rw[e]at h9;rw[←Bh.out,Ψ,←Ls.out];exact h9⟩
   have STOP:=π agS;clear agS;by_cases atp:t0.k<47
   case pos=>
    have e47:decide ((t0.k:Int)<47)=true:=by rw[abC];omega
    have hr0:r=[]:=HR1.out.elim (fun h=>h.2) fun h=>absurd h.1.1 η
    refine wp_region_quiet (C:=fun w'=>∃u:df w3,w'=u.w) (by kernel_rfl) (by kernel_rfl) (df.drew w3) ?_;dsimp only[]
    repeat(go_big_quiet_step (fail))
    refine abO ?_;rintro w' ⟨u,rfl⟩;obtain⟨W4,jB⟩:∃W,W=u.w:=⟨_,rfl⟩;have hb4:=u.below;rw[←jB]at hb4⊢;clear jB c1 c8;clear u
    go_wp2_with fail
    go_roundw
    case rel=>
     obtain⟨i',T,ac',zr,q1,q2,q3⟩:=STOP.out W4 hb4 hr0;exact⟨i',T,ac',zr,by rw[←q1],q2,q3⟩
    case measure=>simp[intOf];omega
   case neg=>
    have e47:decide ((t0.k:Int)<47)=false:=by rw[ach];omega
    obtain⟨cz,hcz⟩:∃z,bz L x.af=z:=⟨_,rfl⟩;have CLS:=π (fun W (h:Below w3.heap.size w3 W)=>show Calls Tryz.prog 57 #[gP gb, .int .i64 x.af] W fun e w'=>e= .returned (.int .i64 cz)∧Below W.heap.size W w' from hcz▸lT ((hG.ext p3.be).ext h) x.af hxa)
    have Nf:cz=7→x.af<L.length:=fun e=>C8 (L:=L) (i:=x.af) (by rw[hcz,e];decide)
    have qp:=π hcz;clear hcz;by_cases oU:cz=7
    case neg=>
     have e7:(cz !=7)=true:=by simpa using oU
     have hr0:r=[]:=HR1.out.elim (fun h=>h.2) fun h=>absurd h.1.2.1 (by rw[qp.out];exact oU)
     clear Nf;refine wp_region_quiet (C:=fun w'=>∃u:df w3,w'=u.w) (by kernel_rfl) (by kernel_rfl) (df.drew w3) ?_;dsimp only[]
     repeat(go_big_quiet_step ((go_at_call 57;rename_i u;refine(CLS.out _ u.below).mono ?_;rintro e w2 ⟨rfl,b2⟩;exact⟨rfl,u.on b2⟩)))
     refine abO ?_;rintro w' ⟨u,rfl⟩;obtain⟨W4,jB⟩:∃W,W=u.w:=⟨_,rfl⟩;have hb4:=u.below;rw[←jB]at hb4⊢;clear jB c1 c8;clear u
     go_wp2_with fail
     go_roundw
     case rel=>
      obtain⟨i',T,ac',zr,q1,q2,q3⟩:=STOP.out W4 hb4 hr0;exact⟨i',T,ac',zr,by rw[←q1],q2,q3⟩
     case measure=>simp[intOf];omega
    case pos=>
     subst oU;obtain⟨z,hz⟩:∃z,yR.contains (bM L x.af)=z:=⟨_,rfl⟩;have AM:=π (fun W=>show Calls Tryz.prog 97 #[.string (au ae4), .string (au (bM L x.af))] W fun e w'=>e= .returned (.bool z)∧Below W.heap.size W w' from by rw[←hz,←ais];exact uo ae4 (bM L x.af) ζ);have HZ:=π hz;obtain⟨tb,to',nl,lc,hn,hT⟩:=(hG.ext p3.be).nR (Nf rfl)
     have hin:x.af<nl:=by rw[←hn];exact Nf rfl
     have h9:decide (x.af<nl)=true:=aa4 hin
     have d0:∀u:df w3,_:=fun u=>hT u.w u.below
     clear hT hn Nf hz;refine wp_region_quiet (C:=fun w'=>∃u:df w3,w'=u.w) (by kernel_rfl) (by kernel_rfl) (df.drew w3) ?_;dsimp only[]
     repeat(go_big_quiet_step (first
      |(go_at_call 57;rename_i u;refine(CLS.out _ u.below).mono ?_;rintro e w2 ⟨rfl,b2⟩;exact⟨rfl,u.on b2⟩)
      |(go_at_call 97;rename_i u;refine(AM.out _).mono ?_;rintro e w2 ⟨rfl,b2⟩;exact⟨rfl,u.on b2⟩)))
     refine abO ?_;rintro w' ⟨u,rfl⟩;obtain⟨W4,jB⟩:∃W,W=u.w:=⟨_,rfl⟩;have hb4:=u.below;rw[←jB]at hb4⊢;clear jB c1 c8 d0;clear u
     cases z with
     |false=>
      have hr0:r=[]:=HR1.out.elim (fun h=>h.2) fun h=>absurd (HZ.out.symm.trans h.1.2.2) ζ
      go_wp2_with fail
      go_roundw
      case rel=>
       obtain⟨i',T,ac',zr,q1,q2,q3⟩:=STOP.out W4 hb4 hr0;exact⟨i',T,ac',zr,by rw[←q1],q2,q3⟩
      case measure=>simp[intOf];omega
     |true=>
      have Di:aS L m' (.assign {af:=x.af+1,env:=x.env})=some r:=HR1.out.elim (fun h=>absurd ⟨Nat.le_of_not_lt atp,qp.out,HZ.out⟩ h.1) fun h=>h.2
      have HSQ:=π Di;have Qc:=π (show Ai L r∧∀x∈r,x.ah≠[]from⟨(fE Di).2.1,fun x hx e=>by have:=(fE Di).2.2 x hx;rw[e]at this;exact absurd this (show¬(1≤0) by omega)⟩);have p4:=p3.on hb4;have a4:=a3.on hb4;have f4:=f3.to (.below hb4);have Kr:=Kq.to (.below hb4);have x4:=x3.to (.below hb4);have t84:=t83.to (.below hb4);have m84:=m83.to (.below hb4);clear Di p3 a3 f3 Kq x3 t83 m83 h9 hin
      go_wp2_with fail
      obtain⟨f1,f2,gE,gN,gC,gK,gM,gD,gF,gG,gH,e8,d1,D9⟩:=f4.at hi;cases e8;rw[Nc.out]at d1 D9;have MI:fJ T3 W4 {af:=x.af+1,env:=x.env} [.int .i64 ((x.af:Int)+1), .slice gE gN gC, .slice none 0 0, .bool false, .slice none 0 0]:=⟨_,_,_,by simp,D9.lG.1,⟨[],Rw.nil,rfl⟩,Rw.nil⟩;refine zy 14 13 ?_;intro K W hbw eQ;clear d1
      go_wp2_with fail
      refine((ih m' η).assign (hx.af (p4.on hbw) (MI.to (.below hbw))) HSQ.out).mono ?_;rintro e w7 h;obtain⟨v,rfl,tF,UY⟩:=h.rq hbw;obtain⟨ar,kr,cr,rfl⟩:=UY.aj;obtain⟨hkr,amv⟩:=UY.len;have zL:=π hkr;have p7:=p4.call tF;have a7:=a4.call tF;have f7:=f4.to (aH tF);have m07:=Kr.to (aH tF);have x7:=x4.to (aH tF);have t87:=t84.to (aH tF);have m87:=m84.to (aH tF);clear h hkr
      go_wp2_with fail
      refine eQ.out _ _ ⟨⟨w7,tF⟩,rfl⟩ ?_;clear p4 a4 f4 Kr x4 MI D9 t84 m84
      go_wp2_with fail
      obtain⟨wo2,rfl⟩:∃W,W=wr:=⟨wr,rfl⟩
      obtain⟨F,hF⟩:∃F:Sx→Sx,F=fun z=>dF s (iA 34 s.af z [t0,z.ah.headD zT]):=⟨_,rfl⟩
      rw[←hF]at ng;have HF:=π hF;clear hF
      go_loopw [5,10,11] (fun s5 s10 s11 wr=>∃(j:Nat) (T:Nat→Prop),s10= .int .i64 j∧j≤kr∧Pw S w T wr∧dW T w.heap.size wr s5 (Q3++(r.take j).map F)∧dS T wr (.slice ar kr cr) r∧dS T wr (.slice (some ⟨b2,sZ,none⟩) kl cl) l0∧Bx T wr m0 [.int .i64 s.af, .slice aE nE cE, .slice aK nK cK, .bool s.ty, .slice aC nC cC]∧fJ T wr x [.int .i64 x.af, .slice bE oE dE, .slice (some ⟨b3,zz,none⟩) oK dK, .bool x.ty, .slice bC oC dC]∧kF T wr t0 [.int .i64 t0.k, .int .i64 t0.lo, .int .i64 t0.hi, .slice tK sK uK, .slice tD sD uD]∧Bx T wr m8 [.int .i64 t0.k, .int .i64 t0.lo, .int .i64 t0.hi, .slice tK sK uK, .slice tD sD uD]) (fun _ s10 _ _=>kr - (intOf s10).toNat)
      case atStart=>exact⟨0,_,rfl,Ω _,p7,by rw[List.take_zero,acJ,List.append_nil];exact a7,UY,f7,m07,x7,t87,m87⟩
      case round=>
       obtain⟨j,T2,rfl,hjk,hp2,oJ,rr,ff,b0,xx,ht8,b8⟩:=hrel;obtain⟨N,hN⟩:∃N,Q3++(r.take j).map F=N:=⟨_,rfl⟩;rw[hN]at oJ
       have hNl:N.length≤1000:=by rw[←hN,Δ,abz,acn];omega
       have HN:=π hN;clear hN;obtain⟨aN,cN,rfl⟩:=oJ.aj;by_cases hlj:j<kr
       case neg=>
        have h1:decide (j<kr)=false:=aa5 hlj
        have Qd:N=acc++(dF s x::r.map F):=by rw[←HN.out,ab1 (by rw[←zL.out];omega),←Bh.out,Ls.out,Ψ];rfl
        have HN2:=π Qd;clear Qd
        go_wp2_with fail
        go_roundw
        case rel=>exact⟨i+1,T2,N,z1,by go_num,by omega,hp2,oJ,ff,b0,wD.out,by rw[HN2.out,Ψ];exact ng.out⟩
        case measure=>simp[intOf];omega
       case pos=>
        have hj:j<r.length:=by rw[←zL.out];exact hlj
        have h1:decide (j<kr)=true:=aa4 hlj;have hzo:=Qc.out.1.2 _ (ab2 hj);have hz2:=Qc.out.2 _ (ab2 hj);obtain⟨b5,amw,yE,yN,yC,yK,yM,yD,yF,yG,yH,rfl,d5,hzj⟩:=rr.at hj;obtain⟨z,hzz⟩:∃z,r[j]=z:=⟨_,rfl⟩;rw[hzz]at d5 hzj hzo hz2;have HZJ:=π hzz;clear hzz;have hza:z.af≤100000:=aaT hzo.af hL2;obtain⟨h0z,b6,amy,qK,qN,qC,qD,qM,qE',rfl,d6,hq0⟩:=hzj.lG.2.1.first hz2;obtain⟨k0,hk0⟩:∃t,z.ah.headD zT=t:=⟨_,rfl⟩;rw[hk0]at d6 hq0;obtain⟨Y,hY⟩:∃Y,iA 34 s.af z [t0,k0]=Y:=⟨_,rfl⟩;have Xk:=π (show F z=dF s Y by rw[HF.out,←hY,←hk0]);have HY:=π hY;clear hY hk0;have c0:=b0.u;have c8:=b8.u
        go_wp2_with fail
        obtain⟨A,hA⟩:∃A:Value→World→Prop,A=xu wr.heap.size (fun b=> .slice (some ⟨b,0,none⟩) 2 2) (.cells #[.int .i64 t0.k, .int .i64 t0.lo, .int .i64 t0.hi, .slice tK sK uK, .slice tD sD uD, .int .i64 k0.k, .int .i64 k0.lo, .int .i64 k0.hi, .slice qK qN qC, .slice qD qM qE'] 35 (0,0)):=⟨_,rfl⟩;have UZ:=π (show Lr A by rw[hA];exact xu.mono);have HA:=π hA;clear hA;refine uH 17 [14,15,16] (fun w'=>∃u:df wr,w'=u.w) (zO T2 wr 14 15 16 A Y) (by kernel_rfl) (by kernel_rfl) ⟨(Below.refl _ _).drew,(fun _ h=>(by cases h)),(fun _ h=>(by cases h)),fun _ h=>(by cases h)⟩ (fun D w' h=>⟨⟨w',h.1⟩,rfl⟩) ?_;intro U;obtain⟨u14,UX⟩:∃v,U 14=v:=⟨_,rfl⟩;have am5:=π UX;clear UX;obtain⟨u15,am6⟩:∃v,U 15=v:=⟨_,rfl⟩;have am7:=π am6;clear am6;obtain⟨u16,am8⟩:∃v,U 16=v:=⟨_,rfl⟩;have am9:=π am8;clear am8;dsimp only[List.take,List.drop];refine mI 14 (by kernel_rfl) ?_;dsimp only[List.take,List.drop]
        repeat(go_big_quiet_step (fail))
        refine abO ?_;refine qz (by kernel_rfl) rfl rfl (by kernel_rfl) ?_ ?_
        ·intro D w8 hI hn iC
         have HI:=π hI;clear hI hn iC
         go_wp2_with fail
         exact⟨rfl,rfl,_,rfl,(HI.out.on UZ.out (ag _ _)).row ζ ζ (by rw[HA.out];exact⟨_,rfl,HI.out.1.size,dz _ _ _⟩)⟩
        rw[am5.out];simp only[Act.put,abu,abH,abG];refine qz (by kernel_rfl) rfl rfl (by kernel_rfl) ?_ ?_
        ·intro D w8 hI hn iC
         have s1:A u14 w8:=am5.out▸hI.2.1 _ (iC 14 (by kernel_rfl));rw[HA.out]at s1;obtain⟨bR,rfl,hRb,Ec⟩:=s1;have hin:=hI.in hp2.lt;have hbR:=hI.bR Ec hRb
         have htr:l5 _ w8 (.slice (some ⟨bR,0,none⟩) 2 2) [t0,k0]:=⟨_,Rw.heap (gs:=[[.int .i64 t0.k, .int .i64 t0.lo, .int .i64 t0.hi, .slice tK sK uK, .slice tD sD uD],[.int .i64 k0.k, .int .i64 k0.lo, .int .i64 k0.hi, .slice qK qN qC, .slice qD qM qE']]) Ec hbR (fun g hg=>by
          simp only[abf,abZ,acz]at hg
          rcases hg with rfl|rfl
          ·exact(ht8).ay
          ·exact(hq0).ay
          ) ν,⟨_,_,rfl,(ht8).to hin,⟨_,_,rfl,(hq0).to hin,rfl⟩⟩⟩
         have XK:=hzj.to hin;have HI:=π hI;clear Ec hI hn iC hin hbR
         go_wp2_with fail
         refine(Um XK 34 s.af _ _ htr).mono ?_;rintro e w9 ⟨g9,rfl,b9,Fe⟩;rw[HY.out]at Fe;have HT:=π (HI.out.iA UZ.out ζ ζ b9 Fe);clear Fe htr
         go_wp2_with fail
         exact⟨rfl,rfl,_,rfl,HT.out⟩
        rw[am7.out];simp only[Act.put,abu,abH,abG];refine qz (by kernel_rfl) rfl rfl (by kernel_rfl) ?_ ?_
        ·intro D w8 hI hn iC
         have HI:=π hI;clear hI hn iC
         go_wp2_with fail
         exact⟨rfl,rfl,_,rfl,HI.out.box UZ.out ζ ζ⟩
        rw[am9.out];simp only[Act.put,abu,abH,abG];intro w8 hI;have gW:=hI.1;obtain⟨gY,e1,Ji⟩:=hI.2.2.2 (U 15) rfl;obtain⟨bT,e2,Kt,FD⟩:=hI.2.2.1 (U 16) rfl;have Ji:fJ (fun q=>gr T2 wr w8 q∧q≠bT) w8 Y gY:=Ji.to (.mono fun q hq _=>⟨hq.1,hq.2 bT (show some (U 16)=_ by rw[e2])⟩);rw[am7.out]at e1;rw[am9.out]at e2;subst e1;subst e2;obtain⟨pE,qE,rE,pK,qK,rK,pC,qC,rC,rfl, -⟩:=Ji.aj;clear hI c0 c8 d5 d6;refine qV rfl 51 (.tmp 11) (.tmp 106) rfl bT 0 rfl [.int .i64 Y.af, .slice pE qE rE, .slice pK qK rK, .bool Y.ty, .slice pC qC rC] rfl _ 51 FD ν (by intro v hv;simp at hv;rcases hv with rfl|rfl|rfl|rfl|rfl<;>rfl) (by kernel_rfl) ?_;simp only[Act.put];change wpList _ _ _ [] _ (w8.setRow bT #[.int .i64 Y.af, .slice pE qE rE, .slice pK qK rK, .bool Y.ty, .slice pC qC rC]);have j4:Below wr.heap.size wr (w8.setRow bT #[.int .i64 Y.af, .slice pE qE rE, .slice pK qK rK, .bool Y.ty, .slice pC qC rC]):=below_setRow gW Kt _;have BQ:=setRow_heap w8 bT _ #[.int .i64 Y.af, .slice pE qE rE, .slice pK qK rK, .bool Y.ty, .slice pC qC rC] 51 (0,0) FD;have Nh:fJ (gr T2 wr (w8.setRow bT #[.int .i64 Y.af, .slice pE qE rE, .slice pK qK rK, .bool Y.ty, .slice pC qC rC])) (w8.setRow bT #[.int .i64 Y.af, .slice pE qE rE, .slice pK qK rK, .bool Y.ty, .slice pC qC rC]) Y [.int .i64 Y.af, .slice pE qE rE, .slice pK qK rK, .bool Y.ty, .slice pC qC rC]:=Ji.to (To.row _ fun q hq hl=>⟨⟨by simp;exact hl,hq.1.2⟩,hq.2⟩);obtain⟨W9,FE⟩:∃W,w8.setRow bT #[.int .i64 Y.af, .slice pE qE rE, .slice pK qK rK, .bool Y.ty, .slice pC qC rC]=W:=⟨_,rfl⟩;rw[FE]at j4 BQ Nh⊢;clear FE FD gW Ji;have GA:=hp2.call j4;have Ni:=oJ.call j4;have Ng:=rr.to (aH j4);have Qe:=ff.to (aH j4);have Ku:=b0.to (aH j4);have Qg:=xx.to (aH j4);have ana:=ht8.to (aH j4);have b89:=b8.to (aH j4);have Qi:Bx (gr T2 wr W9) W9 bT [.int .i64 Y.af, .slice pE qE rE, .slice pK qK rK, .bool Y.ty, .slice pC qC rC]:=⟨⟨(ψ.1 BQ).1, .inr Kt⟩,(ψ.1 BQ).1,dX.Cc BQ⟩;obtain⟨T9,Jh⟩:∃T9,gr T2 wr W9=T9:=⟨_,rfl⟩;rw[Jh]at GA Ni Ng Qe Ku Qg ana b89 Qi Nh;clear Jh j4 BQ hp2 oJ rr ff b0 xx ht8 b8
        have U0:Y.ah≠[]:=by rw[←HY.out];exact fun h=>(by cases h)
        obtain⟨h0Y,b8,atn,vK,vN,vC,vD,vM,vE',rfl,d8,htY⟩:=Nh.lG.2.1.first U0;obtain⟨tY,Lv⟩:∃t,Y.ah.headD zT=t:=⟨_,rfl⟩;rw[Lv]at d8 htY;have HFZ:=π (show F z=gU s Y tY by rw[Xk.out,←Lv];rfl);clear Lv U0;have c0:=Ku.u;have c1:=Qi.u
        go_wp2_with fail
        refine C9 9 7 ?_;intro K' W hbw eQ
        go_wp2_with fail
        refine(Aj (GA.on hbw).lt (hx.st.to (GA.on hbw).mG) (Nh.to (.below hbw)) (htY.to (.below hbw)) hs.ah).mono ?_;rintro e w2 ⟨g',rfl,hb0,hsx⟩;have hb:=hbw.trans (hb0.mono hbw.size);have mH:=hsx.to (JQ hbw);obtain⟨sE,tE,uE,Jd,Fw,Fx,sC,tC,uC,rfl, -⟩:=mH.aj;have hrow:=dS.ay 51 rfl mH;have hb3:=ag w2 (.cells #[.int .i64 (gU s Y tY).af, .slice sE tE uE, .slice Jd Fw Fx, .bool (gU s Y tY).ty, .slice sC tC uC] 51);have rO:=(Ni.call hb).call hb3;clear d8 c0 c1 hsx hb0
        go_wp2_with fail
        refine eQ.out _ _ ⟨⟨w2,hb⟩,rfl⟩ ?_;intro o2 ho2 K2 hK2;cases ho2;have ji:=π hK2;clear hK2 eQ
        go_wp2_with fail
        refine ji.out _ _ ⟨⟨_,hb.alloc hb.size _⟩,rfl⟩ ?_;refine kX ((GA.call hb).call hb3) (.tmp 107) (.tmp 115) rO hrow (by simp;omega) rfl rfl rfl rfl ?_;intro v3 Xp iU hle3;have htk:=((aH hb).trans (aH hb3)).trans hle3.tk;have hp3:=hle3.pw;clear ji rO hb hb3 hle3 hbw mH hrow;obtain⟨N3,U1⟩:∃q,N++[gU s Y tY]=q:=⟨_,rfl⟩;rw[U1]at iU;have UM:=π U1;clear U1;obtain⟨aZ,cZ,rfl⟩:=iU.aj
        go_wp2_with fail
        go_roundw
        case rel=>exact⟨j+1,_,by go_num,by omega,hp3,by rw[abL hj,acb,←Ψ,HN.out,acj,acJ,HZJ.out,HFZ.out,UM.out];exact iU,Ng.to htk,Qe.to htk,Ku.to htk,Qg.to htk,ana.to htk,b89.to htk⟩
        case measure=>simp[intOf];omega
end Go.Proofs.YtlboejdhmggjpaaGreat.Pp.Dr
