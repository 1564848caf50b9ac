import Derived.Test.YtlboejdhmggjpaaGreatXbO
set_option linter.all false
namespace Go.Proofs.YtlboejdhmggjpaaGreat.Pp.Dr
set_option maxRecDepth 100000
set_option maxHeartbeats 1600000
open Go.RowKit Go.BigFrame Go.Proofs.YtlboejdhmggjpaaGreat
theorem Bx.zB{T:Nat→Prop}{w:World}{b:Nat}{v0 v1 v2 v3 v4 v5 v6:Value}(h:Bx T w b [v0,v1,v2,v3,v4,v5,v6]):w.cell? ⟨b,0,none⟩=some v0∧w.cell? ⟨b,1,none⟩=some v1∧w.cell? ⟨b,2,none⟩=some v2∧w.cell? ⟨b,3,none⟩=some v3∧w.cell? ⟨b,4,none⟩=some v4∧w.cell? ⟨b,5,none⟩=some v5∧w.cell? ⟨b,6,none⟩=some v6:=
 ⟨h.2.2 0 _ rfl,h.2.2 1 _ rfl,h.2.2 2 _ rfl,h.2.2 3 _ rfl,h.2.2 4 _ rfl,h.2.2 5 _ rfl,h.2.2 6 _ rfl⟩
theorem aeL{gb:Nat}{L:List Ct}{vr:Value}{n:Nat}(MC:∀m,m<n→agz gb L vr m){S:Nat→Prop}{w:World}{all:Bool}{s:Sx}{g:List Value}{XS:List Sx}(hx:Cx gb L vr S w s g)(h:aS L n (.dh all s [⟨fresh s,0,0⟩])=some XS):Calls Tryz.prog 59 #[gP gb, .agg g.toArray, .bool all] w (Ps S w XS):=by
 have hXl:=(fE h).2.1.1
 have hs:=(fE h).1.1
 obtain⟨T0,hp0,hbx0,hs0⟩:=hx.box
 obtain⟨aE,nE,cE,aK,nK,cK,aC,nC,cC,rfl,hE, -⟩:=hx.st.aj
 have hf0:yx T0 _ ⟨fresh s,0,0⟩ [.int .i64 s.af, .slice aE nE cE, .slice none 0 0, .bool false, .slice none 0 0, .int .i64 0, .int .i64 0]:=⟨_,rfl,_,_,_,rfl,hE.to hp0.mG,⟨[],Rw.nil,rfl⟩,Rw.nil⟩
 have hb1:=ag (w.alloc (.cells #[.int .i64 s.af, .slice aE nE cE, .slice aK nK cK, .bool s.ty, .slice aC nC cC] 51)) (.cells #[.int .i64 s.af, .slice aE nE cE, .slice none 0 0, .bool false, .slice none 0 0, .int .i64 0, .int .i64 0] 159)
 have hrow:=kN.ay (m:=w.heap.size+1) ν hf0
 have hp1:=hp0.call hb1
 have wE:=hbx0.to (aH hb1)
 have H1:=π h
 obtain⟨m0,hm⟩:∃m,w.heap.size=m:=⟨_,rfl⟩
 rw[hm]at wE hrow
 have HM:=π hm
 clear h hb1 hbx0 hp0 hs0 hf0
 unfold Ps
 go_enter Tryz.func59,Tryz.ntmps59
 go_wp2_with fail
 go_loopg [7,8,9,10,11,12] n (fun q s7 s8 s9 s10 s11 s12 wr=>∃(T:Nat→Prop) (fr:List So) (y fZ:List Sx),q≤n∧Pw S w T wr∧dW T w.heap.size wr s7 fZ∧kN T wr s8 fr∧Bx T wr m0 [.int .i64 s.af, .slice aE nE cE, .slice aK nK cK, .bool s.ty, .slice aC nC cC]∧aS L q (.dh all s fr)=some y∧fZ++y=XS)
 case atStart=>exact⟨_,_,XS,[],υ _,hp1,dW.nil,hrow,wE,H1.out,rfl⟩
 case round=>
  obtain⟨T,fr,y,fZ,hkn,hp,hac,hfr,hbx,hd,hys⟩:=hrel;obtain⟨a7,c7,rfl⟩:=hac.aj;obtain⟨a8,kf,c8,rfl⟩:=hfr.aj;obtain⟨lJ,alO⟩:=hfr.len;obtain⟨hok,hcase⟩:=ZR hd
  rcases hcase with⟨rfl,rfl⟩|⟨hne,m2,Z,y',rfl,hz,XD,hd2,rfl⟩
  ·rw[List.append_nil]at hys
   subst hys;simp at lJ;subst lJ;clear hd
   go_wp2_with fail
   go_ret;exact⟨_,rfl,hp.be,hac.fw hp⟩
  ·have hk0:0<kf:=by rw[lJ];exact acN.2 hne
   have e1:decide ((0:Int)<kf)=true:=by rw[abC];omega
   have hol:fZ.length+(fr.filterMap (iM s)).length≤1000:=by
    have h1:=afz List.length hys;simp only[Δ]at h1;omega
   have HOL:=π hol;have D7:=π lJ;have HZ:=π hz;have HD2:=π hd2;have D6:=π hys;have Fg:=π hok;obtain⟨wo',rfl⟩:∃W,W=wr:=⟨wr,rfl⟩;clear hd hz hd2 hys lJ hok hol
   go_wp2_with fail
   go_loopw [7,9,10,11,12] (fun s7 s9 s10 s11 s12 wr=>∃(i:Nat) (T:Nat→Prop) (acc zr:List So),s10= .int .i64 i∧i≤kf∧Pw S w T wr∧dW T w.heap.size wr s7 (fZ++(fr.take i).filterMap (iM s))∧kN T wr (.slice a8 kf c8) fr∧Bx T wr m0 [.int .i64 s.af, .slice aE nE cE, .slice aK nK cK, .bool s.ty, .slice aC nC cC]∧xn T w.heap.size wr s9 acc∧Dj s7 s9∧bu (ic L (aS L m2) all) (fr.drop i)=some zr∧acc++zr=Z) (fun _ _ s10 _ _ _=>kf - (intOf s10).toNat)
   case atStart=>exact⟨0,T,[],Z,rfl,Ω _,hp,by rw[List.take_zero,List.filterMap_nil,List.append_nil];exact hac,hfr,hbx,xn.nil,(fun _ _ h=>(by cases h)),HZ.out,rfl⟩
   case round=>
    obtain⟨i,T2,acc,zr,rfl,hik,hp,hac,hfr,hbx,hnx,hd1,hz,hzz⟩:=hrel;obtain⟨Q,hQ⟩:∃Q,fZ++(fr.take i).filterMap (iM s)=Q:=⟨_,rfl⟩;rw[hQ]at hac
    have hQl:Q.length≤1000:=by
     have h1:=HOL.out;have h2:=((List.take_sublist i fr).filterMap (iM s)).length_le;rw[←hQ,Δ];omega
    have HQ:=π hQ;clear hQ;obtain⟨a7,c7,rfl⟩:=hac.aj;obtain⟨a9,c9,rfl⟩:=hnx.aj;by_cases hlt:i<kf
    case pos=>
     have hi:i<fr.length:=by rw[←D7.out];exact hlt
     rw[abv hi]at hz;obtain⟨x1,z1,hx1,hx2,rfl⟩:=mM hz;obtain⟨b2,sZ,bE,oE,dE,bK,oK,dK,bC,oC,dC,rfl,d1,hxi⟩:=hfr.at hi;have Am:=Fg.out.2.2 _ (ab2 hi);have d1:=d1 (df.oH wr);dsimp only[df.oH,df.w]at d1
     have htk:(fr.take (i+1)).filterMap (iM s)=(fr.take i).filterMap (iM s)++(iM s fr[i]).toList:=by
      rw[abL hi,List.filterMap_append]
      congr 1
     have Ka:=π htk;obtain⟨t,ht⟩:∃t,fr[i]=t:=⟨_,rfl⟩;have HT:=π ht;rw[ht]at d1 hxi Am hx1;have h1:decide (i<kf)=true:=aa4 hlt;have yu:=π hx1;have wD:=π hx2;have ng:=π hzz;obtain⟨hok1,hok2,alQ⟩:=Am;have gW:=ag wr (.cells #[.int .i64 t.s.af, .slice bE oE dE, .slice bK oK dK, .bool t.s.ty, .slice bC oC dC, .int .i64 t.b, .int .i64 t.w] 159);have XF:=hp.call gW;have alR:=hac.call gW;have alS:=hfr.to (aH gW);have aeM:=hbx.to (aH gW);have alU:=hnx.call gW;have D9:=hxi.to (aH gW);have c0:=aeM.cell;clear hx1 hx2 hzz hz ht htk hp hac hfr hbx hnx hxi;have bx8:=Bx.new (S:=T2) (w:=wr) rfl [.int .i64 t.s.af, .slice bE oE dE, .slice bK oK dK, .bool t.s.ty, .slice bC oC dC, .int .i64 t.b, .int .i64 t.w] 159;obtain⟨mw,hmw⟩:∃m,wr.heap.size=m:=⟨_,rfl⟩;have HMW:=π hmw;rw[hmw]at bx8;by_cases hq:0<t.b+t.w
     case pos=>
      have e2:decide ((0:Int)<(t.b:Int)+t.w)=true:=by rw[abC];omega
      have hxs:=D9.sx;obtain⟨gk,k1,k2⟩:=hxs.lG.2.1;have mF:=π k1;have eQ:=π k2
      go_wp2_with fail
      refine(Aj XF.lt (hx.st.to XF.mG) hxs (t:= .mk 5 s.af t.s.af t.s.ah []) ⟨_,_,gk,rfl,mF.out,eQ.out,Rw.nil⟩ hs.ah).mono ?_;rintro e w2 ⟨g',rfl,hb,hsx⟩;obtain⟨sE,tE,uE,sK,tK,uK,sC,tC,uC,rfl, -⟩:=hsx.aj;have hrow:=dS.ay 51 rfl hsx;obtain⟨p,y7⟩:∃p,gU s t.s (.mk 5 s.af t.s.af t.s.ah [])=p:=⟨_,rfl⟩;rw[y7]at hsx hrow;have IQ:=π y7;have hb3:=ag w2 (.cells #[.int .i64 p.af, .slice sE tE uE, .slice sK tK uK, .bool p.ty, .slice sC tC uC] 51);have asR:=(alR.call hb).call hb3;have asS:=(alU.call hb).call hb3;rw[y7];clear y7 c0
      go_wp2_with (first
       |(at_builtin;refine kX ((XF.call hb).call hb3) (.tmp 39) (.tmp 53) asR hrow (by simp;omega) rfl rfl rfl rfl ?_
         intro v3 w3 iU hle3;have htk:=((aH hb).trans (aH hb3)).trans hle3.tk;have BD:=asS.rU hle3 hd1.symm;have Lm:=alS.to htk;have Ak:=aeM.to htk;have hp3:=hle3.pw;have bx3:=bx8.to htk;have hx3:=D9.to htk
         have c7:=bx3.zB)
       |fail)
      obtain⟨Q3,xI⟩:∃Q3,Q++[p]=Q3:=⟨_,rfl⟩
      have hH:iM s t=some p:=by unfold iM;rw[ω hq,IQ.out]
      have HH:=π hH;rw[xI]at iU;have Bh:=π xI;clear xI hH;obtain⟨a8',c8',rfl⟩:=iU.aj;refine(MC m2 η hp3.lt (hx.gx.to hp3.mG) hx3 hok1 hok2 alQ yu.out (by have:=XD;rw[←ng.out]at this;simp at this;omega)).mono ?_;rintro e w5 ⟨v,rfl,hb,hr⟩;have EB:=iU.call hb;obtain⟨av,kv,cv,rfl⟩:=hr.aj
      go_wp2_with (first
       |(at_builtin;refine XE (hp3.call hb) (.tmp 59) (.tmp 60) (BD.1.call hb) hr (by have:=XD;rw[←ng.out]at this;simp at this⊢;omega) rfl rfl rfl rfl ?_
         intro v6 w6 UH qP)
       |fail)
      go_roundw
      case rel=>exact⟨i+1,_,_,z1,by go_num,by omega,qP.pw,by rw[Ka.out,HT.out,←Ψ,HQ.out,HH.out,show(some p).toList=[p]from rfl,Bh.out];exact(EB.rU qP BD.2.symm).1,(Lm.to (aH hb)).to qP.tk,(Ak.to (aH hb)).to qP.tk,UH,(EB.rU qP BD.2.symm).2,wD.out,by rw[Ψ];exact ng.out⟩
      case measure=>simp[intOf];omega
     case neg=>
      have e2:decide ((0:Int)<(t.b:Int)+t.w)=false:=by rw[ach];omega
      go_wp2_with fail
      have hH:iM s t=none:=by unfold iM;rw[χ hq]
      have HH:=π hH;clear hH;refine(MC m2 η XF.lt (hx.gx.to XF.mG) D9 hok1 hok2 alQ yu.out (by have:=XD;rw[←ng.out]at this;simp at this;omega)).mono ?_;rintro e w5 ⟨v,rfl,hb,hr⟩;have EB:=alR.call hb;obtain⟨av,kv,cv,rfl⟩:=hr.aj
      go_wp2_with (first
       |(at_builtin;refine XE (XF.call hb) (.tmp 59) (.tmp 60) (alU.call hb) hr (by have:=XD;rw[←ng.out]at this;simp at this⊢;omega) rfl rfl rfl rfl ?_
         intro v6 w6 UH qP)
       |fail)
      go_roundw
      case rel=>exact⟨i+1,_,_,z1,by go_num,by omega,qP.pw,by rw[Ka.out,HT.out,←Ψ,HQ.out,HH.out,show(none:Option Sx).toList=[]from rfl,List.append_nil];exact(EB.rU qP hd1).1,(alS.to (aH hb)).to qP.tk,(aeM.to (aH hb)).to qP.tk,UH,(EB.rU qP hd1).2,wD.out,by rw[Ψ];exact ng.out⟩
      case measure=>simp[intOf];omega
    case neg=>
     have h1:decide (i<kf)=false:=aa5 hlt
     have hz2:acc=Z:=by
      rw[abY (by rw[←D7.out];omega)]at hz;rw[rM hz,List.append_nil]at hzz;exact hzz
     have BN:Q=fZ++fr.filterMap (iM s):=by rw[←HQ.out,ab1 (by rw[←D7.out];omega)]
     have Ko:=π BN;clear hz hzz BN;subst hz2
     go_wp2_with fail
     go_roundg m2
     case measure=>omega
     case rel=>exact⟨_,acc,y',Q,by omega,(hnx.lF hp).1,hac.wo hd1,(hnx.lF hp).2,hbx.to xP,HD2.out,by rw[Ko.out,Ψ];exact D6.out⟩
end Go.Proofs.YtlboejdhmggjpaaGreat.Pp.Dr
