import Derived.Test.YtlboejdhmggjpaaGreatXbM
set_option linter.all false
namespace Go.Proofs.YtlboejdhmggjpaaGreat.Pp.Dr
set_option maxRecDepth 100000
set_option maxHeartbeats 1600000
open Go.RowKit Go.BigFrame Go.Proofs.YtlboejdhmggjpaaGreat
theorem aij{gb:Nat}{L:List Ct}{vr:Value}{n:Nat}(ih:∀m,m<n→Wd gb L vr m)(BH:∀m,m<n→alM gb L vr m){S:Nat→Prop}{w:World}{s:Sx}{g:List Value}{XS:List Sx}(hx:Cx gb L vr S w s g)(h:aS L n (.jT s)=some XS):Calls Tryz.prog 63 #[gP gb, .agg g.toArray] w (Ps S w XS):=by
 have hXl:=(fE h).2.1.1
 obtain⟨m',x,y,rfl,hs,hx1,hy1,hl,hd⟩:=aci h
 clear h
 obtain⟨T0,hp0,hbx0,hs0⟩:=hx.box
 obtain⟨aE,nE,cE,aK,nK,cK,aC,nC,cC,rfl,hE, -⟩:=hx.st.aj
 have hf0:fJ T0 _ (fresh s) [.int .i64 s.af, .slice aE nE cE, .slice none 0 0, .bool false, .slice none 0 0]:=⟨_,_,_,rfl,hE.to hp0.mG,⟨[],Rw.nil,rfl⟩,Rw.nil⟩
 have hb1:=ag (w.alloc (.cells #[.int .i64 s.af, .slice aE nE cE, .slice aK nK cK, .bool s.ty, .slice aC nC cC] 51)) (.cells #[.int .i64 s.af, .slice aE nE cE, .slice none 0 0, .bool false, .slice none 0 0] 51)
 have hp1:=hp0.call hb1
 have wE:=hbx0.to (aH hb1)
 have aeK:=Bx.new (S:=T0) (m:=w.heap.size+1) (w:=w.alloc (.cells #[.int .i64 s.af, .slice aE nE cE, .slice aK nK cK, .bool s.ty, .slice aC nC cC] 51)) ν [.int .i64 s.af, .slice aE nE cE, .slice none 0 0, .bool false, .slice none 0 0] 51
 have hf1:=hf0.to (aH hb1)
 have yu:=π hx1
 have HY1:=π hy1
 have HD:=π hd
 obtain⟨m0,hm⟩:∃m,w.heap.size=m:=⟨_,rfl⟩
 rw[hm]at wE aeK
 have HM:=π hm
 clear hx1 hy1 hd hb1 hbx0 hp0 hs0 hf0
 unfold Ps
 go_enter Tryz.func63,Tryz.ntmps63
 go_wp2_with fail
 refine((ih m' η).agp ζ (hx.af hp1 hf1) yu.out).mono ?_
 rintro e w2 h
 obtain⟨v,T2,rfl,hq2,oJ⟩:=h
 have hp2:=hp1.trans hq2
 have oJ:=oJ.base hp1.be.size
 have uU:=wE.to hq2.mG
 have alN:=aeK.to hq2.mG
 have hf2:=hf1.to hq2.mG
 have c0:=alN.cell
 obtain⟨a6,c6,rfl⟩:=oJ.aj
 clear hq2 wE aeK hf1
 go_wp2_with fail
 refine((ih m' η).call (hx.af hp2 hf2) HY1.out).mono ?_
 rintro e w3 h
 obtain⟨v,rfl,hb,hr⟩:=h
 have hp3:=hp2.call hb
 have iU:=oJ.call hb
 have Ak:=uU.to (aH hb)
 obtain⟨av,kv,cv,rfl⟩:=hr.aj
 clear c0 uU alN hf2 oJ
 go_wp2_with (first
  |(at_builtin;refine kX hp3 (.tmp 23) (.tmp 24) iU hr (by simp at hl;omega) rfl rfl rfl rfl ?_
    intro v4 w4 UE ZQ)
  |fail)
 have Mw:=(UE.lF ZQ.pw).1
 have asQ:=(UE.lF ZQ.pw).2
 have EA:=(Ak.to ZQ.tk).to (xP (v:=v4))
 clear hp3 iU Ak hr UE ZQ hb
 obtain⟨q0,hq0⟩:∃q,m'=q:=⟨_,rfl⟩
 go_loopg [6,8,9,10,11] m' (fun q s6 s8 s9 s10 s11 wr=>∃(T:Nat→Prop) (fr y fZ:List Sx),q≤m'∧Pw S w T wr∧dW T w.heap.size wr s8 fZ∧dS T wr s6 fr∧Bx T wr m0 [.int .i64 s.af, .slice aE nE cE, .slice aK nK cK, .bool s.ty, .slice aC nC cC]∧aS L q (.iO s fr)=some y∧fZ++y=XS)
 case atStart=>exact⟨_,x++y,XS,[],υ _,Mw,dW.nil,asQ,EA,HD.out,rfl⟩
 case round=>
  obtain⟨T,fr,y,fZ,hkn,hp,hac,hfr,hbx,hd,hys⟩:=hrel;obtain⟨a8,c8,rfl⟩:=hac.aj;obtain⟨a6,kf,c6,rfl⟩:=hfr.aj;obtain⟨lJ,alO⟩:=hfr.len;obtain⟨hok,hcase⟩:=ZP hd
  rcases hcase with⟨rfl,rfl⟩|⟨hne,m2,Z,y',rfl,hz,hd2,rfl⟩
  ·rw[List.append_nil]at hys
   subst hys;simp at lJ;subst lJ;clear hd
   go_wp2_with fail
   go_ret;exact⟨_,rfl,hp.be,hac.fw hp⟩
  ·have hk0:0<kf:=by rw[lJ];exact acN.2 hne
   have e1:decide ((0:Int)<kf)=true:=by rw[abC];omega
   have hoz:=(fE hd2).1.2.1.1
   have hol:fZ.length+fr.length≤1000:=by
    have h1:=afz List.length hys;simp only[Δ,abz]at h1;omega
   have D7:=π lJ;have HZ:=π hz;have HD2:=π hd2;have D6:=π hys;have Fg:=π hok;obtain⟨wo',rfl⟩:∃W,W=wr:=⟨wr,rfl⟩;clear hd hz hd2 hys lJ hok
   go_wp2_with fail
   go_loopw [8,9,10,11] (fun s8 s9 s10 s11 wr=>∃(i:Nat) (T:Nat→Prop) (acc zr:List Sx),s10= .int .i64 i∧i≤kf∧Pw S w T wr∧dW T w.heap.size wr s8 (fZ++(fr.take i).map (dF s))∧dS T wr (.slice a6 kf c6) fr∧Bx T wr m0 [.int .i64 s.af, .slice aE nE cE, .slice aK nK cK, .bool s.ty, .slice aC nC cC]∧dW T w.heap.size wr s9 acc∧Dj s8 s9∧bu (jF L (aS L m2) s) (fr.drop i)=some zr∧acc++zr=Z) (fun _ _ s10 _ _=>kf - (intOf s10).toNat)
   case atStart=>exact⟨0,T,[],Z,rfl,Ω _,hp,by rw[List.take_zero,acJ,List.append_nil];exact hac,hfr,hbx,dW.nil,(fun _ _ h=>(by cases h)),HZ.out,rfl⟩
   case round=>
    obtain⟨i,T2,acc,zr,rfl,hik,hp,hac,hfr,hbx,hnx,hd1,hz,hzz⟩:=hrel;obtain⟨Q,hQ⟩:∃Q,fZ++(fr.take i).map (dF s)=Q:=⟨_,rfl⟩;rw[hQ]at hac
    have hQl:Q.length≤1000:=by rw[←hQ,Δ,abz,acn];omega
    have HQ:=π hQ;clear hQ;obtain⟨a8,c8,rfl⟩:=hac.aj;obtain⟨a9,c9,rfl⟩:=hnx.aj;by_cases hlt:i<kf
    case pos=>
     have hi:i<fr.length:=by rw[←D7.out];exact hlt
     rw[abv hi]at hz;obtain⟨x1,z1,hx1,hx2,rfl⟩:=mM hz;obtain⟨p,hp1,hp2⟩:=Γ.1 hx1;obtain rfl:=aau hp2;obtain⟨b2,sZ,bE,oE,dE,bK,oK,dK,bC,oC,dC,rfl,d1,hxi⟩:=hfr.at hi;have Am:=Fg.out.2.1.2 _ (ab2 hi);have hkn:=Fg.out.2.2 _ (ab2 hi);have hKi:=hxi.lG.2.1;obtain⟨h0k,b3,zz,tK,sK,uK,tD,sD,uD,rfl,d3,hti⟩:=hKi.first hkn;obtain⟨t0,ht0⟩:∃t,fr[i].ah.headD zT=t:=⟨_,rfl⟩;rw[ht0]at d3 hti;have HT0:=π ht0;clear ht0;have c0:=hbx.u;have h1:decide (i<kf)=true:=aa4 hlt;have qI:=π hp1;have wD:=π hx2;have ng:=π hzz;clear hx1 hx2 hzz hz hp1 hp2
     go_wp2_with fail
     refine C9 15 13 ?_;intro K' W hbw eQ
     go_wp2_with fail
     refine(Aj (hp.on hbw).lt (hx.st.to (hp.on hbw).mG) (hxi.to (.below hbw)) (hti.to (.below hbw)) hs.ah).mono ?_;rintro e w2 ⟨g',rfl,hb0,hsx⟩;have hb:=hbw.trans (hb0.mono hbw.size);have mH:=hsx.to (JQ hbw);obtain⟨sE,tE,uE,sK,Fw,Fx,sC,tC,uC,rfl, -⟩:=mH.aj;have hrow:=dS.ay 51 rfl mH;have hb3:=ag w2 (.cells #[.int .i64 (gU s fr[i] t0).af, .slice sE tE uE, .slice sK Fw Fx, .bool (gU s fr[i] t0).ty, .slice sC tC uC] 51);have rO:=(hac.call hb).call hb3;have Li:=(hnx.call hb).call hb3;clear d1 d3 c0 hsx hb0 h1
     go_wp2_with fail
     refine eQ.out _ _ ⟨⟨w2,hb⟩,rfl⟩ ?_;intro o2 ho2 K2 hK2;cases ho2;have ji:=π hK2;clear hK2 eQ
     go_wp2_with fail
     refine ji.out _ _ ⟨⟨_,hb.alloc hb.size _⟩,rfl⟩ ?_;refine kX ((hp.call hb).call hb3) (.tmp 35) (.tmp 49) rO hrow (by simp;omega) rfl rfl rfl rfl ?_;intro v3 w3 iU hle3;have htk:=((aH hb).trans (aH hb3)).trans hle3.tk;have BD:=Li.rU hle3 hd1.symm;have Lm:=hfr.to htk;have Ak:=hbx.to htk;have hp3:=hle3.pw;obtain⟨Q3,xI⟩:∃Q3,Q++[gU s fr[i] t0]=Q3:=⟨_,rfl⟩;rw[xI]at iU;have Bh:=π xI;clear xI;obtain⟨a8',c8',rfl⟩:=iU.aj;clear ji rO Li hb hb3 htk hle3 hac hnx hfr hbx hp hbw mH hrow hxi hti hKi;obtain⟨b2',aoA,bE',oE',dE',bK',oK',dK',bC',oC',dC',e,d1,hxi⟩:=Lm.at hi;cases e;have c0:=Ak.u;have c1:=Ak.cell;have h1:decide (i<kf)=true:=aa4 hlt
     go_wp2_with fail
     refine zy 8 7 ?_;intro K3 W3 hbw eQ;clear d1 c0 c1
     go_wp2_with fail
     refine(BH m2 η (hx.af (hp3.on hbw) (hxi.to (.below hbw))) Am hkn hs.af qI.out).mono ?_;rintro e w5 h;obtain⟨v,rfl,hb,hr⟩:=h.rq hbw;obtain⟨av,kv,cv,rfl⟩:=hr.aj;clear h
     go_wp2_with fail
     refine eQ.out _ _ ⟨⟨w5,hb⟩,rfl⟩ ?_;have EB:=iU.call hb
     go_wp2_with (first
      |(at_builtin;refine kX (hp3.call hb) (.tmp 59) (.tmp 60) (BD.1.call hb) hr (by have:=hoz;rw[←ng.out]at this;simp at this⊢;omega) rfl rfl rfl rfl ?_
        intro v6 w6 UH qP)
      |fail)
     go_roundw
     case rel=>exact⟨i+1,_,_,z1,by go_num,by omega,qP.pw,by rw[abL hi,acb,←Ψ,HQ.out,acj,acJ,show dF s fr[i]=gU s fr[i] t0 by unfold dF;rw[HT0.out],Bh.out];exact(EB.rU qP BD.2.symm).1,(Lm.to (aH hb)).to qP.tk,(Ak.to (aH hb)).to qP.tk,UH,(EB.rU qP BD.2.symm).2,wD.out,by rw[Ψ];exact ng.out⟩
     case measure=>simp[intOf];omega
    case neg=>
     have h1:decide (i<kf)=false:=aa5 hlt
     have hz2:acc=Z:=by
      rw[abY (by rw[←D7.out];omega)]at hz;rw[rM hz,List.append_nil]at hzz;exact hzz
     have BN:Q=fZ++fr.map (dF s):=by rw[←HQ.out,ab1 (by rw[←D7.out];omega)]
     have Ko:=π BN;clear hz hzz BN;subst hz2
     go_wp2_with fail
     go_roundg m2
     case measure=>omega
     case rel=>exact⟨_,acc,y',Q,by omega,(hnx.lF hp).1,hac.wo hd1,(hnx.lF hp).2,hbx.to xP,HD2.out,by rw[Ko.out,Ψ];exact D6.out⟩
end Go.Proofs.YtlboejdhmggjpaaGreat.Pp.Dr
