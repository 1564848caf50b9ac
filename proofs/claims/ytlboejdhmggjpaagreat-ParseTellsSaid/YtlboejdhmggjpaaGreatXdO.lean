import Derived.Test.YtlboejdhmggjpaaGreatXdN
set_option linter.all false
namespace Go.Proofs.YtlboejdhmggjpaaGreat.Pp.Dr
set_option maxRecDepth 100000
set_option maxHeartbeats 8000000
open Go.RowKit Go.BigFrame Go.Proofs.YtlboejdhmggjpaaGreat
theorem VR{L:List Ct}{n k:Nat}{s:Sx}{fr y:List Sx}(h:aS L n (.iB k s fr)=some y):BJ L (.iB k s fr)∧((fr=[]∧y=[])∨fr≠[]∧∃m Z y',n=m+1∧bu (jh L (aS L m) k s) fr=some Z∧aS L m (.iB k s Z)=some y'∧y=fr.map (dF s)++y'):=by
 obtain⟨m,rfl,h0,h1, -⟩:=fB h
 refine⟨h0,?_⟩
 have h1:(if fr.isEmpty then some []else(bu (jh L (aS L m) k s) fr).bind fun x=>(aS L m (.iB k s x)).bind fun y=>aG (fr.map (dF s)++y))=some y:=h1
 split at h1
 ·next h2=>exact .inl ⟨afP.1 h2,(aau h1).symm⟩
 ·next h2=>
  obtain⟨Z,h3,h4⟩:=Γ.1 h1;obtain⟨y',h5,h6⟩:=Γ.1 h4;exact .inr ⟨fun e=>h2 (by rw[e];rfl),m,Z,y',rfl,h3,h5,(eU h6).1.symm⟩
theorem ED{L:List Ct}{g:Rq→Option (List Sx)}{k:Nat}{s x:Sx}{Z:List Sx}(h:jh L g k s x=some Z):(wZ L k x.af=false∧Z=[])∨(wZ L k x.af=true∧∃r,vJ g k {af:=x.af+1,env:=x.env}=some r∧Z=r.map fun y=>iA (gZ k) s.af y [x.ah.headD zT,y.ah.headD zT]):=by
 unfold jh at h
 split at h
 ·next h1=>
  obtain⟨r,h2,h3⟩:=Γ.1 h;exact .inr ⟨h1,r,h2,(aau h3).symm⟩
 ·next h1=>exact .inl ⟨by simpa using h1,(aau h).symm⟩
theorem ae2:∀k<11,(Ut k).length≤100000:=by decide+kernel
theorem K7{gb:Nat}{L:List Ct}{vr:Value}{n:Nat}(ih:∀m,m<n→Wd gb L vr m){S:Nat→Prop}{w:World}{k:Nat}{s:Sx}{g:List Value}{XS:List Sx}(hx:Cx gb L vr S w s g)(h:aS L n (.dB k s)=some XS):Calls Tryz.prog 60 #[gP gb, .int .i64 (k:Nat), .agg g.toArray] w (Ps S w XS):=by
 have hXl:=(fE h).2.1.1
 obtain⟨m',rfl,⟨hs,axX⟩,h1, -⟩:=fB h
 have hG:=hx.gx.gb
 have hL2:L.length≤100000:=hG.choose_spec.choose_spec.2.2
 have hat:s.af≤100000:=aaT hs.af hL2
 have h1:(if k=11 then aS L m' (.call [99,97,115,116] s)else(vJ (aS L m') k (fresh s)).bind fun x=>aS L m' (.iB k s x))=some XS:=h1
 obtain⟨T0,hp0,hbx0,hs0⟩:=hx.box
 obtain⟨aE,nE,cE,aK,nK,cK,aC,nC,cC,rfl,hE, -⟩:=hx.st.aj
 clear h
 by_cases hk:k=11
 ·subst hk
  rw[ω rfl]at h1;have H:=π h1;clear h1;unfold Ps
  go_enter Tryz.func60,Tryz.ntmps60
  go_wp2_with fail
  refine((ih m' η).call (hx.af hp0 hs0) H.out).mono ?_;rintro e w2 h;obtain⟨v,rfl,hb,hr⟩:=Ps.up hp0 h;clear h
  go_wp2_with fail
  go_ret;exact⟨_,rfl,hb,hr⟩
 rw[χ hk]at h1
 have hk10:k≤10:=by omega
 have e11:((k:Int)==11)=false:=by rw[aat];omega
 obtain⟨x0,hx1,hd⟩:=Γ.1 h1
 have hf0:fJ T0 _ (fresh s) [.int .i64 s.af, .slice aE nE cE, .slice none 0 0, .bool false, .slice none 0 0]:=⟨_,_,_,rfl,hE.to hp0.mG,⟨[],Rw.nil,rfl⟩,Rw.nil⟩
 have yu:=π hx1
 have HD:=π hd
 obtain⟨m0,hm⟩:∃m,w.heap.size=m:=⟨_,rfl⟩
 rw[hm]at hbx0
 have HM:=π hm
 clear hx1 hd h1 hs0 hk
 unfold Ps
 go_enter Tryz.func60,Tryz.ntmps60
 go_wp2_with fail
 refine(M5 (ih m' η) η (hx.af hp0 hf0) yu.out).mono ?_
 rintro e w2 ⟨v,rfl,hb,hr⟩
 have hp2:=hp0.call hb
 have uU:=hbx0.to (aH hb)
 obtain⟨av,kv,cv,rfl⟩:=hr.aj
 clear hbx0 hf0
 go_wp2_with fail
 go_loopg [7,8,9,10,11,12,13,14] m' (fun q s7 s8 s9 s10 s11 s12 s13 MH wr=>∃(T:Nat→Prop) (fr y fZ:List Sx),q≤m'∧Pw S w T wr∧dW T w.heap.size wr s7 fZ∧dS T wr s8 fr∧Bx T wr m0 [.int .i64 s.af, .slice aE nE cE, .slice aK nK cK, .bool s.ty, .slice aC nC cC]∧aS L q (.iB k s fr)=some y∧fZ++y=XS)
 case atStart=>exact⟨_,x0,XS,[],υ _,hp2,dW.nil,hr,uU,HD.out,rfl⟩
 case round=>
  obtain⟨T,fr,y,fZ,hkn,hp,hac,hfr,hbx,hd,hys⟩:=hrel;obtain⟨a7,c7,rfl⟩:=hac.aj;obtain⟨a8,kf,c8,rfl⟩:=hfr.aj;obtain⟨lJ,alO⟩:=hfr.len;obtain⟨hok,hcase⟩:=VR hd
  rcases hcase with⟨rfl,rfl⟩|⟨hne,m2,Z,y',rfl,hz,hd2,rfl⟩
  ·rw[List.append_nil]at hys
   subst hys;simp at lJ;subst lJ;clear hd
   go_wp2_with fail
   go_ret;exact⟨_,rfl,hp.be,hac.fw hp⟩
  ·have hk0:0<kf:=by rw[lJ];exact acN.2 hne
   have e1:decide ((0:Int)<kf)=true:=by rw[abC];omega
   have hoz:=(fE hd2).1.2.2.1.1
   have hol:fZ.length+fr.length≤1000:=by
    have h1:=afz List.length hys;simp only[Δ,abz]at h1;omega
   have D7:=π lJ;have HZ:=π hz;have HD2:=π hd2;have D6:=π hys;have Fg:=π hok;obtain⟨wo',rfl⟩:∃W,W=wr:=⟨wr,rfl⟩;clear hd hz hd2 hys lJ hok
   go_wp2_with fail
   go_loopw [7,9,10,11,12,13,14] (fun s7 s9 s10 s11 s12 s13 MH wr=>∃(i:Nat) (T:Nat→Prop) (acc zr:List Sx),s10= .int .i64 i∧i≤kf∧Pw S w T wr∧dW T w.heap.size wr s7 (fZ++(fr.take i).map (dF s))∧dS T wr (.slice a8 kf c8) fr∧Bx T wr m0 [.int .i64 s.af, .slice aE nE cE, .slice aK nK cK, .bool s.ty, .slice aC nC cC]∧dW T w.heap.size wr s9 acc∧Dj s7 s9∧bu (jh L (aS L m2) k s) (fr.drop i)=some zr∧acc++zr=Z) (fun _ _ s10 _ _ _ _ _=>kf - (intOf s10).toNat)
   case atStart=>exact⟨0,T,[],Z,rfl,Ω _,hp,by rw[List.take_zero,acJ,List.append_nil];exact hac,hfr,hbx,dW.nil,(fun _ _ h=>(by cases h)),HZ.out,rfl⟩
   case round=>
    obtain⟨i,T2,acc,zr,rfl,hik,hp,hac,hfr,hbx,hnx,hd1,hz,hzz⟩:=hrel;obtain⟨Q,hQ⟩:∃Q,fZ++(fr.take i).map (dF s)=Q:=⟨_,rfl⟩;rw[hQ]at hac
    have hQl:Q.length≤1000:=by rw[←hQ,Δ,abz,acn];omega
    have HQ:=π hQ;clear hQ;obtain⟨a7,c7,rfl⟩:=hac.aj;obtain⟨a9,c9,rfl⟩:=hnx.aj;by_cases hlt:i<kf
    case pos=>
     have hi:i<fr.length:=by rw[←D7.out];exact hlt
     rw[abv hi]at hz;obtain⟨x1,z1,hx1,hx2,rfl⟩:=mM hz;obtain⟨b2,sZ,bE,oE,dE,bK,oK,dK,bC,oC,dC,rfl,d1,hxi⟩:=hfr.at hi;have Am:=Fg.out.2.2.1.2 _ (ab2 hi);have hkn:=Fg.out.2.2.2 _ (ab2 hi);have hput:dF s fr[i]=gU s fr[i] (fr[i].ah.headD zT):=rfl;obtain⟨x,Jf⟩:∃x,fr[i]=x:=⟨_,rfl⟩;rw[Jf]at d1 hxi Am hkn hx1 hput;have Nc:=π Jf;have Ls:=π hput;have hxa:x.af≤100000:=aaT Am.af hL2;clear Jf hput;have d0:=d1 (df.oH _);dsimp only[df.oH,df.w]at d0;have ba:=ag wr (.cells #[.int .i64 x.af, .slice bE oE dE, .slice bK oK dK, .bool x.ty, .slice bC oC dC] 51);have bx1:=Bx.new (S:=T2) (w:=wr) rfl [.int .i64 x.af, .slice bE oE dE, .slice bK oK dK, .bool x.ty, .slice bC oC dC] 51;have hp1:=hp.call ba;have Lt:=hac.call ba;have hnx1:=hnx.call ba;have ZX:=hfr.to (aH ba);have wE:=hbx.to (aH ba);have EF:=hxi.to (aH ba);obtain⟨W1,hW1⟩:∃W,wr.alloc (.cells #[.int .i64 x.af, .slice bE oE dE, .slice bK oK dK, .bool x.ty, .slice bC oC dC] 51)=W:=⟨_,rfl⟩;rw[show wr.alloc (.cells ([.int .i64 x.af, .slice bE oE dE, .slice bK oK dK, .bool x.ty, .slice bC oC dC]:List Value).toArray 51)=W1 from hW1]at bx1;rw[hW1]at hp1 Lt hnx1 ZX wE EF;have HW1:=π hW1;obtain⟨T1,hT1⟩:∃T1,gr T2 wr W1=T1:=⟨_,rfl⟩;rw[hT1]at hp1 Lt hnx1 ZX wE EF bx1;obtain⟨m1,hm1⟩:∃m,wr.heap.size=m:=⟨_,rfl⟩;rw[hm1]at bx1;have HM1:=π hm1;have h1:decide (i<kf)=true:=aa4 hlt;have wD:=π hx2;have ng:=π hzz;have HXN:=π hx1;clear hx2 hzz hz hx1 hW1 hT1 ba hp hac hnx hfr hbx hxi
     go_wp2_with fail
     rw[HW1.out];clear hm1;clear d0 d1 h1;have hKi:=EF.lG.2.1;obtain⟨h0k,b3,zz,tK,sK,uK,tD,sD,uD,rfl,d3,hti⟩:=hKi.first hkn;obtain⟨t0,ht0⟩:∃t,x.ah.headD zT=t:=⟨_,rfl⟩;rw[ht0]at d3 hti;have HT0:=π ht0;clear ht0;have c0:=wE.u;have c1:=bx1.u;refine C9 9 7 ?_;intro K' W hbw eQ
     go_wp2_with fail
     refine(Aj (hp1.on hbw).lt (hx.st.to (hp1.on hbw).mG) (EF.to (.below hbw)) (hti.to (.below hbw)) hs.ah).mono ?_;rintro e w2 ⟨g',rfl,hb0,hsx⟩;have hb:=hbw.trans (hb0.mono hbw.size);have mH:=hsx.to (JQ hbw);obtain⟨sE,tE,uE,Jd,Fw,Fx,sC,tC,uC,rfl, -⟩:=mH.aj;have hrow:=dS.ay 51 rfl mH;have hb3:=ag w2 (.cells #[.int .i64 (gU s x t0).af, .slice sE tE uE, .slice Jd Fw Fx, .bool (gU s x t0).ty, .slice sC tC uC] 51);have rO:=(Lt.call hb).call hb3;have Li:=(hnx1.call hb).call hb3;clear d3 c0 c1 hsx hb0
     go_wp2_with fail
     refine eQ.out _ _ ⟨⟨w2,hb⟩,rfl⟩ ?_;intro o2 ho2 K2 hK2;cases ho2;have ji:=π hK2;clear hK2 eQ
     go_wp2_with fail
     refine ji.out _ _ ⟨⟨_,hb.alloc hb.size _⟩,rfl⟩ ?_;refine kX ((hp1.call hb).call hb3) (.tmp 41) (.tmp 49) rO hrow (by simp;omega) rfl rfl rfl rfl ?_;intro v3 w3 iU hle3;have htk:=((aH hb).trans (aH hb3)).trans hle3.tk;have BD:=Li.rU hle3 hd1.symm;have Lm:=ZX.to htk;have Ak:=wE.to htk;have bx3:=bx1.to htk;have hx3:=EF.to htk;have hp3:=hle3.pw;obtain⟨Q3,xI⟩:∃Q3,Q++[gU s x t0]=Q3:=⟨_,rfl⟩;rw[xI]at iU;have Bh:=π (show fZ++(fr.take (i+1)).map (dF s)=Q3 by rw[abL hi,acb,←Ψ,HQ.out,acj,acJ,Nc.out,Ls.out,HT0.out,xI]);clear xI;obtain⟨a8',c8',rfl⟩:=iU.aj;clear ji rO Li hb hb3 htk hle3 Lt hnx1 ZX wE hp1 hbw mH hrow EF bx1 hti hKi;obtain⟨BD,aeW⟩:=BD;have hd3:=aeW.symm;obtain⟨T3,p3,a3,n3,f3,Kq,m13,x3⟩:∃T3,Pw S w T3 w3∧dW T3 w.heap.size w3 (.slice a8' Q3.length c8') Q3∧dW T3 w.heap.size w3 (.slice a9 acc.length c9) acc∧dS T3 w3 (.slice (some ⟨b2,sZ,none⟩) kf c8) fr∧Bx T3 w3 m0 [.int .i64 s.af, .slice aE nE cE, .slice aK nK cK, .bool s.ty, .slice aC nC cC]∧Bx T3 w3 m1 [.int .i64 x.af, .slice bE oE dE, .slice (some ⟨b3,zz,none⟩) oK dK, .bool x.ty, .slice bC oC dC]∧fJ T3 w3 x [.int .i64 x.af, .slice bE oE dE, .slice (some ⟨b3,zz,none⟩) oK dK, .bool x.ty, .slice bC oC dC]:=⟨_,hp3,iU,BD,Lm,Ak,bx3,hx3⟩;clear hp3 iU BD Lm Ak bx3 hx3
     go_wp2_with fail
     obtain⟨cz,hcz⟩:∃z,bz L x.af=z:=⟨_,rfl⟩;have CLS:=π (fun W (h:Below w3.heap.size w3 W)=>show Calls Tryz.prog 57 #[gP gb, .int .i64 x.af] W fun e w'=>e= .returned (.int .i64 cz)∧Below W.heap.size W w' from hcz▸lT ((hG.ext p3.be).ext h) x.af hxa);obtain⟨z,hz⟩:∃z,(FN k).contains (bM L x.af)=z:=⟨_,rfl⟩;have AM:=π (fun W=>show Calls Tryz.prog 97 #[.string (au (Ut k)), .string (au (bM L x.af))] W fun e w'=>e= .returned (.bool z)∧Below W.heap.size W w' from by rw[←hz,←aih k η];exact uo (Ut k) (bM L x.af) (ae2 k η))
     have hop:wZ L k x.af=(cz==7&&z):=by unfold wZ;rw[hcz,hz]
     have Nf:cz=7→x.af<L.length:=fun e=>C8 (L:=L) (i:=x.af) (by rw[hcz,e];decide)
     have HOP:=π hop;have c1:=m13.u;clear hcz hz hop;by_cases oU:cz=7
     case neg=>
      have e7:(cz !=7)=true:=by simpa using oU
      have hx0:x1=[]:=(ED HXN.out).elim (fun h=>h.2) fun h=>by
       have h9:=h.1;rw[HOP.out,show(cz==7)=false from aat.2 oU]at h9;cases h9
      subst hx0;clear Nf;refine wp_region_quiet (C:=fun w'=>∃u:df w3,w'=u.w) (by kernel_rfl) (by kernel_rfl) (df.drew w3) ?_;dsimp only[]
      repeat(go_big_quiet_step ((go_at_call 57;rename_i u;refine(CLS.out _ u.below).mono ?_;rintro e w2 ⟨rfl,b2⟩;exact⟨rfl,u.on b2⟩)))
      refine abO ?_;rintro w' ⟨u,rfl⟩;obtain⟨W4,jB⟩:∃W,W=u.w:=⟨_,rfl⟩;have hb4:=u.below;rw[←jB]at hb4⊢;clear jB c1;clear u
      go_wp2_with fail
      go_roundw
      case rel=>exact⟨i+1,T3,acc,z1,by go_num,by omega,p3.on hb4,by rw[Bh.out];exact a3.on hb4,f3.to (.below hb4),Kq.to (.below hb4),n3.on hb4,hd3,wD.out,ng.out⟩
      case measure=>simp[intOf];omega
     case pos=>
      subst oU;obtain⟨tb,to',nl,lc,hn,hT⟩:=(hG.ext p3.be).nR (Nf rfl)
      have hin:x.af<nl:=by rw[←hn];exact Nf rfl
      have h9:decide (x.af<nl)=true:=aa4 hin
      have d0:∀u:df w3,_:=fun u=>hT u.w u.below
      clear hT hn Nf;refine wp_region_quiet (C:=fun w'=>∃u:df w3,w'=u.w) (by kernel_rfl) (by kernel_rfl) (df.drew w3) ?_;dsimp only[]
      repeat(go_big_quiet_step (first
       |(go_at_call 57;rename_i u;refine(CLS.out _ u.below).mono ?_;rintro e w2 ⟨rfl,b2⟩;exact⟨rfl,u.on b2⟩)
       |(go_at_call 98;rename_i u;refine(alv k η).mono ?_;rintro e w2 ⟨rfl,b2⟩;exact⟨rfl,u.on b2⟩)
       |(go_at_call 97;rename_i u;refine(AM.out _).mono ?_;rintro e w2 ⟨rfl,b2⟩;exact⟨rfl,u.on b2⟩)))
      refine abO ?_;rintro w' ⟨u,rfl⟩;obtain⟨W4,jB⟩:∃W,W=u.w:=⟨_,rfl⟩;have hb4:=u.below;rw[←jB]at hb4⊢;clear jB c1 d0;clear u;have p4:=p3.on hb4;have a4:=a3.on hb4;have n4:=n3.on hb4;have f4:=f3.to (.below hb4);have Kr:=Kq.to (.below hb4);have m14:=m13.to (.below hb4);have x4:=x3.to (.below hb4);clear p3 a3 n3 f3 Kq m13 x3
      cases z with
      |false=>
       have hx0:x1=[]:=(ED HXN.out).elim (fun h=>h.2) fun h=>by
        have h9:=h.1;rw[HOP.out]at h9;cases h9
       subst hx0
       go_wp2_with fail
       go_roundw
       case rel=>exact⟨i+1,T3,acc,z1,by go_num,by omega,p4,by rw[Bh.out];exact a4,f4,Kr,n4,hd3,wD.out,ng.out⟩
       case measure=>simp[intOf];omega
      |true=>
       obtain⟨r,hr,hx1⟩:∃r,vJ (aS L m2) k {af:=x.af+1,env:=x.env}=some r∧x1=r.map fun y=>iA (gZ k) s.af y [x.ah.headD zT,y.ah.headD zT]:=(ED HXN.out).elim (fun h=>by have h9:=h.1;rw[HOP.out]at h9;cases h9) fun h=>h.2
       subst hx1;have hro:=ams hr;have HR:=π hr;have Qc:=π hro;have hy4:fJ T3 W4 {af:=x.af+1,env:=x.env} [.int .i64 ((x.af:Int)+1), .slice bE oE dE, .slice none 0 0, .bool false, .slice none 0 0]:=⟨_,_,_,by simp,x4.lG.1,⟨[],Rw.nil,rfl⟩,Rw.nil⟩;have c1:=m14.cell;clear hr hro h9 hin
       go_wp2_with fail
       refine(M5 (ih m2 η) η (hx.af p4 hy4) HR.out).mono ?_;rintro e w5 ⟨v,rfl,hb5,yo⟩;have p5:=p4.call hb5;have a5:=a4.call hb5;have n5:=n4.call hb5;have f5:=f4.to (aH hb5);have m05:=Kr.to (aH hb5);have m15:=m14.to (aH hb5);have x5:=x4.to (aH hb5);obtain⟨ar,kr,cr,rfl⟩:=yo.aj;obtain⟨hkr,amv⟩:=yo.len;have zL:=π hkr
       have hal:acc.length+r.length≤1000:=by
        have h1:=afz List.length ng.out;simp only[Δ,abz]at h1;omega
       obtain⟨wo2,rfl⟩:∃W,W=wr:=⟨wr,rfl⟩;clear c1 hy4 p4 a4 n4 f4 Kr m14 x4 hkr
       go_wp2_with fail
       go_loopw [9,13,14] (fun s9 s13 MH wr=>∃(j:Nat) (T:Nat→Prop),s13= .int .i64 j∧j≤kr∧Pw S w T wr∧dW T w.heap.size wr s9 (acc++(r.take j).map fun y=>iA (gZ k) s.af y [x.ah.headD zT,y.ah.headD zT])∧dS T wr (.slice ar kr cr) r∧dW T w.heap.size wr (.slice a8' Q3.length c8') Q3∧Dj (.slice a8' Q3.length c8') s9∧dS T wr (.slice (some ⟨b2,sZ,none⟩) kf c8) fr∧Bx T wr m0 [.int .i64 s.af, .slice aE nE cE, .slice aK nK cK, .bool s.ty, .slice aC nC cC]∧Bx T wr m1 [.int .i64 x.af, .slice bE oE dE, .slice (some ⟨b3,zz,none⟩) oK dK, .bool x.ty, .slice bC oC dC]∧fJ T wr x [.int .i64 x.af, .slice bE oE dE, .slice (some ⟨b3,zz,none⟩) oK dK, .bool x.ty, .slice bC oC dC]) (fun _ s13 _ _=>kr - (intOf s13).toNat)
       case atStart=>exact⟨0,_,rfl,Ω _,p5,by rw[List.take_zero,acJ,List.append_nil];exact n5,yo,a5,hd3,f5,m05,m15,x5⟩
       case round=>
        obtain⟨j,T,rfl,hjk,p,nx,rr,ac,dj,ff,b0,b1,xx⟩:=hrel;obtain⟨N,hN⟩:∃N,(acc++(r.take j).map fun y=>iA (gZ k) s.af y [x.ah.headD zT,y.ah.headD zT])=N:=⟨_,rfl⟩;rw[hN]at nx
        have hNl:N.length≤1000:=by rw[←hN,Δ,abz,acn];omega
        have HN:=π hN;clear hN;obtain⟨aN,cN,rfl⟩:=nx.aj;by_cases hlj:j<kr
        case neg=>
         have h1:decide (j<kr)=false:=aa5 hlj
         have Qd:N=acc++r.map fun y=>iA (gZ k) s.af y [x.ah.headD zT,y.ah.headD zT]:=by rw[←HN.out,ab1 (by rw[←zL.out];omega)]
         have HN2:=π Qd;clear Qd
         go_wp2_with fail
         go_roundw
         case rel=>exact⟨i+1,T,N,z1,by go_num,by omega,p,by rw[Bh.out];exact ac,ff,b0,nx,dj,wD.out,by rw[HN2.out,Ψ];exact ng.out⟩
         case measure=>simp[intOf];omega
        case pos=>
         have hj:j<r.length:=by rw[←zL.out];exact hlj
         have h1:decide (j<kr)=true:=aa4 hlj;have hyo:=Qc.out.1.2 _ (ab2 hj);have hyk:=Qc.out.2 _ (ab2 hj);obtain⟨b5,amw,yE,yN,yC,yK,yM,yD,yF,yG,yH,rfl,d5,hyj⟩:=rr.at hj;obtain⟨y,hyy⟩:∃y,r[j]=y:=⟨_,rfl⟩;rw[hyy]at d5 hyj hyo hyk;have HYY:=π hyy;clear hyy;obtain⟨h0y,b6,amy,qK,qN,qC,qD,qM,qE,rfl,d6,hqi⟩:=hyj.lG.2.1.first hyk;obtain⟨h0x,b7,atg,tK,tN,tC,tD,tM,Qa,e9,d7,hti⟩:=xx.lG.2.1.first hkn;cases e9;obtain⟨t0,ht0⟩:∃t,x.ah.headD zT=t:=⟨_,rfl⟩;obtain⟨t1,ht1⟩:∃t,y.ah.headD zT=t:=⟨_,rfl⟩;rw[ht0]at d7 hti;rw[ht1]at d6 hqi;have ath:=π ht0;have HT1:=π ht1;have hya:y.af≤100000:=aaT hyo.af hL2;clear ht0 ht1;have c0:=b0.u;have c1:=b1.u
         go_wp2_with fail
         obtain⟨A,hA⟩:∃A:Value→World→Prop,A=(fun v _=>v= .int .i64 (gZ k)):=⟨_,rfl⟩;obtain⟨B,hB⟩:∃B:Value→World→Prop,B=(xu wr.heap.size (fun b=> .slice (some ⟨b,0,none⟩) 2 2) (.cells #[.int .i64 t0.k, .int .i64 t0.lo, .int .i64 t0.hi, .slice tK tN tC, .slice tD tM Qa, .int .i64 t1.k, .int .i64 t1.lo, .int .i64 t1.hi, .slice qK qN qC, .slice qD qM qE] 35 (0,0))):=⟨_,rfl⟩;obtain⟨G,hG'⟩:∃C:Value→World→Prop,C=(xu wr.heap.size (fun b=> .agg #[.int .i64 (gZ k), .int .i64 s.af, .int .i64 y.af, .slice (some ⟨b,0,none⟩) 2 2, .slice none 0 0]) (.cells #[.int .i64 t0.k, .int .i64 t0.lo, .int .i64 t0.hi, .slice tK tN tC, .slice tD tM Qa, .int .i64 t1.k, .int .i64 t1.lo, .int .i64 t1.hi, .slice qK qN qC, .slice qD qM qE] 35 (0,0))):=⟨_,rfl⟩;obtain⟨Z',hZ'⟩:∃Z:Value→World→Prop,Z=(xu wr.heap.size (fun b=> .pointer (some ⟨b,0,none⟩)) (.cells #[.int .i64 0, .int .i64 0, .int .i64 0, .slice none 0 0, .slice none 0 0] 35 (0,0))):=⟨_,rfl⟩
         have HMO:=π (SL.mono (l:=[(1,A),(20,B),(21,G),(22,Z')]) (by
          intro q hq;simp only[abf,abZ,acz]at hq
          rcases hq with rfl|rfl|rfl|rfl
          ·rw[hA];exact fun _ _ _ _ h=>h
          ·rw[hB];exact xu.mono
          ·rw[hG'];exact xu.mono
          ·rw[hZ'];exact xu.mono))
         have HA:=π hA;have HB:=π hB;have HG:=π hG';have HZ':=π hZ';clear hA hB hG' hZ';refine Je 23 [1,20,21,22] (SL [(1,A),(20,B),(21,G),(22,Z')]) (by kernel_rfl) (by kernel_rfl) ?_;intro U;obtain⟨u1,hu1⟩:∃v,U 1=v:=⟨_,rfl⟩;have HU1:=π hu1;clear hu1;obtain⟨u20,amA⟩:∃v,U 20=v:=⟨_,rfl⟩;have amB:=π amA;clear amA;obtain⟨u21,hu21⟩:∃v,U 21=v:=⟨_,rfl⟩;have amC:=π hu21;clear hu21;obtain⟨u22,amD⟩:∃v,U 22=v:=⟨_,rfl⟩;have amE:=π amD;clear amD;dsimp only[List.take,List.drop];refine mI 1 (by kernel_rfl) ?_;dsimp only[List.take,List.drop]
         repeat(go_big_quiet_step (fail))
         refine abO ?_;refine Aq HMO.out (by kernel_rfl) rfl rfl (by kernel_rfl) ?_ ?_
         ·intro w8 gW iC
          go_wp2_with fail
          refine(ab8 k η).mono ?_;rintro e w9 ⟨rfl,b9⟩
          go_wp2_with fail
          exact⟨rfl,rfl,_,rfl,(show A _ _ by rw[HA.out]),b9⟩
         rw[HU1.out];simp only[Act.put,abu,abH,abG];refine mI 18 (by kernel_rfl) ?_;dsimp only[List.take,List.drop]
         repeat(go_big_quiet_step (fail))
         refine abO ?_;refine Aq HMO.out (by kernel_rfl) rfl rfl (by kernel_rfl) ?_ ?_
         ·intro w8 gW iC
          go_wp2_with fail
          exact⟨rfl,rfl,_,rfl,(show B _ _ by rw[HB.out];exact⟨_,rfl,gW.size,dz _ _ _⟩),ag _ _⟩
         rw[amB.out];simp only[Act.put,abu,abH,abG];refine Aq HMO.out (by kernel_rfl) rfl rfl (by kernel_rfl) ?_ ?_
         ·intro w8 gW iC
          have s1:A u1 w8:=HU1.out▸iC 1 (by kernel_rfl);have s20:B u20 w8:=amB.out▸iC 20 (by kernel_rfl);rw[HA.out]at s1;rw[HB.out]at s20;obtain rfl:=s1;obtain⟨bR,rfl,hRb,Ec⟩:=s20;have Xm:=π Ec;clear Ec iC
          go_wp2_with fail
          exact⟨rfl,rfl,_,rfl,(show G _ _ by rw[HG.out];exact⟨_,rfl,hRb,Xm.out⟩),Below.refl _ _⟩
         rw[amC.out];simp only[Act.put,abu,abH,abG];refine Aq HMO.out (by kernel_rfl) rfl rfl (by kernel_rfl) ?_ ?_
         ·intro w8 gW iC
          go_wp2_with fail
          exact⟨rfl,rfl,_,rfl,(show Z' _ _ by rw[HZ'.out];exact⟨_,rfl,gW.size,dz _ _ _⟩),ag _ _⟩
         rw[amE.out];simp only[Act.put,abu,abH,abG];intro w8 gW hS;have s21:G u21 w8:=amC.out▸hS 21 (by kernel_rfl);have s22:Z' u22 w8:=amE.out▸hS 22 (by kernel_rfl);rw[HG.out]at s21;rw[HZ'.out]at s22;obtain⟨bR,rfl,hRb,Ec⟩:=s21;obtain⟨bT,rfl,Kt,FD⟩:=s22;clear hS c0 c1 d5 d6 d7
         have hne:bR≠bT:=fun e=>by subst e;rw[Ec]at FD;simp at FD
         refine qV rfl 35 (.tmp 14) (.tmp 107) rfl bT 0 rfl [.int .i64 (gZ k), .int .i64 s.af, .int .i64 y.af, .slice (some ⟨bR,0,none⟩) 2 2, .slice none 0 0] rfl _ 35 FD ν (by intro v hv;simp at hv;rcases hv with rfl|rfl|rfl|rfl|rfl<;>rfl) (by kernel_rfl) ?_;simp only[Act.put];change wpList _ _ _ [] _ (w8.setRow bT #[.int .i64 (gZ k), .int .i64 s.af, .int .i64 y.af, .slice (some ⟨bR,0,none⟩) 2 2, .slice none 0 0]);have j4:Below wr.heap.size wr (w8.setRow bT #[.int .i64 (gZ k), .int .i64 s.af, .int .i64 y.af, .slice (some ⟨bR,0,none⟩) 2 2, .slice none 0 0]):=below_setRow gW Kt _;have BQ:=setRow_heap w8 bT _ #[.int .i64 (gZ k), .int .i64 s.af, .int .i64 y.af, .slice (some ⟨bR,0,none⟩) 2 2, .slice none 0 0] 35 (0,0) FD;have Jg:=(setRow_other w8 bT bR #[.int .i64 (gZ k), .int .i64 s.af, .int .i64 y.af, .slice (some ⟨bR,0,none⟩) 2 2, .slice none 0 0] hne).trans Ec;obtain⟨W9,FE⟩:∃W,w8.setRow bT #[.int .i64 (gZ k), .int .i64 s.af, .int .i64 y.af, .slice (some ⟨bR,0,none⟩) 2 2, .slice none 0 0]=W:=⟨_,rfl⟩;rw[FE]at j4 BQ Jg⊢;clear FE Ec FD gW;have hRl:=(ψ.1 Jg).1;have hTl:=(ψ.1 BQ).1;have p9:=p.call j4;have nx9:=nx.call j4;have ac9:=ac.call j4;have Qe:=ff.to (aH j4);have Ng:=rr.to (aH j4);have Ku:=b0.to (aH j4);have b19:=b1.to (aH j4);have Qg:=xx.to (aH j4);have hy9:=hyj.to (aH j4)
         have htr:kF (gr T wr W9) W9 (.mk (gZ k) s.af y.af [t0,t1] []) [.int .i64 (gZ k), .int .i64 s.af, .int .i64 y.af, .slice (some ⟨bR,0,none⟩) 2 2, .slice none 0 0]:=⟨_,_,[_,_],rfl,Rw.heap (gs:=[[.int .i64 t0.k, .int .i64 t0.lo, .int .i64 t0.hi, .slice tK tN tC, .slice tD tM Qa],[.int .i64 t1.k, .int .i64 t1.lo, .int .i64 t1.hi, .slice qK qN qC, .slice qD qM qE]]) Jg ⟨hRl, .inr hRb⟩ (fun g hg=>by
          simp only[abf,abZ,acz]at hg
          rcases hg with rfl|rfl
          ·exact hti.ay
          ·exact hqi.ay) ν,⟨_,_,rfl,hti.to (aH j4),_,_,rfl,hqi.to (aH j4),rfl⟩,Rw.nil⟩
         have Qi:Bx (gr T wr W9) W9 bT [.int .i64 (gZ k), .int .i64 s.af, .int .i64 y.af, .slice (some ⟨bR,0,none⟩) 2 2, .slice none 0 0]:=⟨⟨hTl, .inr Kt⟩,hTl,dX.Cc BQ⟩;obtain⟨T9,Jh⟩:∃T9,gr T wr W9=T9:=⟨_,rfl⟩;rw[Jh]at p9 nx9 ac9 Qe Ng Ku b19 Qg hy9 htr Qi;clear Jh j4 BQ Jg hRl hTl p nx ac ff rr b0 b1 xx hyj hti hqi;obtain⟨b5',axu,yE',yN',yC',yK',yM',yD',yF',yG',yH',e5,d5,hy5⟩:=Ng.at hj;cases e5;rw[HYY.out]at d5 hy5;clear hy9;have c2:=Qi.u;obtain⟨Y,hY⟩:∃Y,iA (gZ k) s.af y [t0,t1]=Y:=⟨_,rfl⟩;have HY:=π hY;clear hY
         go_wp2_with fail
         obtain⟨A2,hA2⟩:∃A:Value→World→Prop,A=xu W9.heap.size (fun b=> .slice (some ⟨b,0,none⟩) 1 1) (.cells #[.int .i64 (gZ k), .int .i64 s.af, .int .i64 y.af, .slice (some ⟨bR,0,none⟩) 2 2, .slice none 0 0] 35 (0,0)):=⟨_,rfl⟩;obtain⟨B2,hB2⟩:∃A:Value→World→Prop,A=xu W9.heap.size (fun b=> .agg #[.int .i64 y.af, .slice yE' yN' yC', .slice (some ⟨b,0,none⟩) 1 1, .bool false, .slice none 0 0]) (.cells #[.int .i64 (gZ k), .int .i64 s.af, .int .i64 y.af, .slice (some ⟨bR,0,none⟩) 2 2, .slice none 0 0] 35 (0,0)):=⟨_,rfl⟩
         obtain⟨C2,hC2⟩:∃A:Value→World→Prop,A=fun v w'=>dS (gr T9 W9 w') w' v [Y]:=⟨_,rfl⟩
         have ae3:=π (SL.mono (l:=[(12,A2),(13,B2),(14,C2)]) (by
          intro q hq;simp only[abf,abZ,acz]at hq
          rcases hq with rfl|rfl|rfl
          ·rw[hA2];exact xu.mono
          ·rw[hB2];exact xu.mono
          ·rw[hC2];exact fun v w1 w2 hb h=>h.to (agM hb)))
         have HA2:=π hA2;have HB2:=π hB2;have HC2:=π hC2;clear hA2 hB2 hC2;refine Je 15 [12,13,14] (SL [(12,A2),(13,B2),(14,C2)]) (by kernel_rfl) (by kernel_rfl) ?_;intro U';obtain⟨u12,amJ⟩:∃v,U' 12=v:=⟨_,rfl⟩;have amK:=π amJ;clear amJ;obtain⟨u13,amL⟩:∃v,U' 13=v:=⟨_,rfl⟩;have amM:=π amL;clear amL;obtain⟨u14,UX⟩:∃v,U' 14=v:=⟨_,rfl⟩;have amO:=π UX;clear UX;dsimp only[List.take,List.drop];refine mI 12 (by kernel_rfl) ?_;dsimp only[List.take,List.drop]
         repeat(go_big_quiet_step (fail))
         refine abO ?_;refine Aq ae3.out (by kernel_rfl) rfl rfl (by kernel_rfl) ?_ ?_
         ·intro w8 gW iC
          go_wp2_with fail
          exact⟨rfl,rfl,_,rfl,(show A2 _ _ by rw[HA2.out];exact⟨_,rfl,gW.size,dz _ _ _⟩),ag _ _⟩
         rw[amK.out];simp only[Act.put,abu,abH,abG];refine Aq ae3.out (by kernel_rfl) rfl rfl (by kernel_rfl) ?_ ?_
         ·intro w8 gW iC
          have s1:A2 u12 w8:=amK.out▸iC 12 (by kernel_rfl);rw[HA2.out]at s1;obtain⟨bQ,rfl,hQb,XJ⟩:=s1;have HQC:=π XJ;clear XJ iC
          go_wp2_with fail
          exact⟨rfl,rfl,_,rfl,(show B2 _ _ by rw[HB2.out];exact⟨_,rfl,hQb,HQC.out⟩),Below.refl _ _⟩
         rw[amM.out];simp only[Act.put,abu,abH,abG];refine Aq ae3.out (by kernel_rfl) rfl rfl (by kernel_rfl) ?_ ?_
         ·intro w8 gW iC
          have s1:B2 u13 w8:=amM.out▸iC 13 (by kernel_rfl);rw[HB2.out]at s1;obtain⟨bQ,rfl,hQb,XJ⟩:=s1
          have hsx:fJ (gr T9 W9 w8) w8 Y [.int .i64 y.af, .slice yE' yN' yC', .slice (some ⟨bQ,0,none⟩) 1 1, .bool false, .slice none 0 0]:=by
           rw[←HY.out];exact⟨_,_,_,rfl,hy5.lG.1.to (aH gW),⟨[_],Rw.heap (gs:=[[.int .i64 (gZ k), .int .i64 s.af, .int .i64 y.af, .slice (some ⟨bR,0,none⟩) 2 2, .slice none 0 0]]) XJ ⟨(ψ.1 XJ).1, .inr hQb⟩ (fun g hg=>by rw[Φ.1 hg];exact htr.ay) ν,_,[],rfl,htr.to (aH gW),rfl⟩,Rw.nil⟩
          have hone:=(dS.ay 51 (m:=w8.heap.size) rfl hsx).to (T:=gr T9 W9 (w8.alloc (.cells #[.int .i64 y.af, .slice yE' yN' yC', .slice (some ⟨bQ,0,none⟩) 1 1, .bool false, .slice none 0 0] 51))) (.mono fun b h _=>⟨h.1,h.2.elim (fun h=>h.2) fun h=> .inr (aaT gW.size h)⟩);have HON:=π hone;clear XJ iC hsx hone
          go_wp2_with fail
          exact⟨rfl,rfl,_,rfl,(show C2 _ _ by rw[HC2.out];exact HON.out),ag _ _⟩
         rw[amO.out];simp only[Act.put,abu,abH,abG];intro w8 gW hS;have MH:C2 u14 w8:=amO.out▸hS 14 (by kernel_rfl);rw[HC2.out]at MH;obtain⟨aY,kY,cY,rfl⟩:=dS.aj MH;clear hS c2 d5
         go_wp2_with (first
          |(at_builtin;refine kX (p9.call gW) (.tmp 108) (.tmp 122) (nx9.call gW) MH (by simp;omega) rfl rfl rfl rfl ?_
            intro v11 Xp ati Lu;have amQ:=(ac9.call gW).rU Lu dj
            have tk:=(aH gW).trans Lu.tk)
          |fail)
         go_roundw
         case rel=>exact⟨j+1,_,by go_num,by omega,Lu.pw,by rw[abL hj,acb,←Ψ,HN.out,acj,acJ,HYY.out,ath.out,HT1.out,HY.out];exact ati,Ng.to tk,amQ.1,amQ.2,Qe.to tk,Ku.to tk,b19.to tk,Qg.to tk⟩
         case measure=>simp[intOf];omega
    case neg=>
     have h1:decide (i<kf)=false:=aa5 hlt
     have hz2:acc=Z:=by
      rw[abY (by rw[←D7.out];omega)]at hz;rw[rM hz,List.append_nil]at hzz;exact hzz
     have BN:Q=fZ++fr.map (dF s):=by rw[←HQ.out,ab1 (by rw[←D7.out];omega)]
     have Ko:=π BN;clear hz hzz BN;subst hz2
     go_wp2_with fail
     go_roundg m2
     case measure=>omega
     case rel=>exact⟨_,acc,y',Q,by omega,(hnx.lF hp).1,hac.wo hd1,(hnx.lF hp).2,hbx.to xP,HD2.out,by rw[Ko.out,Ψ];exact D6.out⟩
end Go.Proofs.YtlboejdhmggjpaaGreat.Pp.Dr
