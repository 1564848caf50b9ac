import Derived.Test.YtlboejdhmggjpaaGreatXbG
set_option linter.all false
namespace Go.Proofs.YtlboejdhmggjpaaGreat.Pp.Dr
set_option maxRecDepth 100000
set_option maxHeartbeats 1600000
open Go.RowKit Go.BigFrame Go.Proofs.YtlboejdhmggjpaaGreat
theorem ZM{g:Rq→Option (List Sx)}{a:List (List Sy)}{s:Sx}{x:List Sx}(h:Au g a s=some x):∃y,Bo g a s=some y∧x=y.filter fun z=>decide (s.af<z.af):=by
 obtain⟨y,h1,h2⟩:=Γ.1 h
 exact⟨y,h1,(aau h2).symm⟩
theorem ZN{gb:Nat}{L:List Ct}{vr:Value}{n:Nat}(ih:∀m,m<n→Wd gb L vr m){S:Nat→Prop}{w:World}{al:List (List Sy)}{gy:List Value}{s:Sx}{g:List Value}{f:Nat}{XS:List Sx}(hx:Cx gb L vr S w s g)(hy:tX S w (.bV al) gy)(h:aS L n (.ay (.bV al) s f)=some XS):Calls Tryz.prog 103 #[gP gb, .agg gy.toArray, .agg g.toArray, .int .i64 (f:Nat)] w (Ps S w XS):=by
 obtain⟨m',rfl,hs,h1,hO⟩:=fB h
 obtain⟨x,h2,h3⟩:=Γ.1 h1
 obtain⟨hXS,hl⟩:=eU h3
 clear h h1 h3
 obtain⟨T,hp,hb3,hb5,hst,hy2⟩:=hx.ZJ hy 169
 obtain⟨va,gs,rfl, -⟩:=id hy
 have hva:vo S w va al:=by obtain⟨v,gs,e,h⟩:=hy;simp at e;rw[e];exact⟨gs,h⟩
 obtain⟨a,k,c,rfl⟩:=hva.choose_spec.1.aj
 obtain⟨aE,nE,cE,aK,nK,cK,aC,nC,cC,rfl, -⟩:=hx.st.aj
 have H2:=π h2
 have HL:=π hl
 have HXS:=π hXS
 obtain⟨m0,hm⟩:∃m,w.heap.size=m:=⟨_,rfl⟩
 have aeI:=dW.ay (m:=m0+1+1) (by simp[hm]) hp hst
 have hbx0:=hb3.to (.below (ag _ (.cells #[.int .i64 s.af, .slice aE nE cE, .slice aK nK cK, .bool s.ty, .slice aC nC cC] 51)))
 rw[hm]at hbx0
 have HM:=π hm
 clear h2 hl hb3 hb5 hXS hs hO hp hst hy2 hy
 unfold Ps
 go_enter Tryz.func103,Tryz.ntmps103
 go_wp2_with fail
 go_loopg [10,11,12,13,14,15] m' (fun q s10 s11 s12 s13 MH s15 wr=>∃(T:Nat→Prop) (fr y fZ:List Sx),q≤m'∧Pw S w T wr∧dW T w.heap.size wr s10 fZ∧Bf T wr s11 fr∧Bx T wr m0 [.int .i64 3, .string (au []), .slice a k c]∧aS L q (.bV al fr)=some y∧fZ++y=XS)
 case atStart=>exact⟨T,[s],x,[s],υ _,aeI.2,aeI.1,aeI.1.fr,hbx0,H2.out,HXS.out⟩
 case round=>
  obtain⟨T,fr,y,fZ,hkn,hp,hac,hfr,hbx,hd,hys⟩:=hrel;obtain⟨a11,c11,rfl⟩:=hfr.aj;obtain⟨a10,c10,rfl⟩:=hac.aj;obtain⟨hok,hcase⟩:=aeH hd;have hfl:=hok.1
  rcases hcase with⟨rfl,rfl⟩|⟨hne,m2,Z,y',rfl,hz,hd2,rfl⟩
  ·rw[List.append_nil]at hys
   subst hys;clear hd
   go_wp2_with fail
   go_ret;exact⟨_,rfl,hp.be,hac.fw hp⟩
  ·obtain⟨kf,lJ⟩:∃k,fr.length=k:=⟨_,rfl⟩
   have hk0:0<kf:=by rw[←lJ];exact acN.2 hne
   have e1:decide ((0:Int)<kf)=true:=by rw[abC];omega
   have hdj:=fun b h=>hfr.lt (b:=b) hne h
   have hoz:=(fE hd2).1.1;rw[lJ]at hfr hdj hfl⊢;have D7:=π lJ;have HZ:=π hz;have HD2:=π hd2;have D6:=π hys;have HDJ:=π hdj;obtain⟨wo',rfl⟩:∃W,W=wr:=⟨wr,rfl⟩;clear hd hz hd2 hys lJ hdj hok
   go_wp2_with fail
   go_loopw [12,13,14,15] (fun s12 s13 MH s15 wr=>∃(i:Nat) (T:Nat→Prop) (acc zr:List Sx),s13= .int .i64 i∧i≤kf∧Pw S w T wr∧dW T w.heap.size wr (.slice a10 fZ.length c10) fZ∧Bf T wr (.slice a11 kf c11) fr∧Bx T wr m0 [.int .i64 3, .string (au []), .slice a k c]∧dW T w.heap.size wr s12 acc∧Dj (.slice a10 fZ.length c10) s12∧Dj (.slice a11 kf c11) s12∧bu (Au (aS L m2) al) (fr.drop i)=some zr∧acc++zr=Z) (fun _ s13 _ _ _=>kf - (intOf s13).toNat)
   case atStart=>exact⟨0,T,[],Z,rfl,Ω _,hp,hac,hfr,hbx,dW.nil,(fun _ _ h=>(by cases h)),(fun _ _ h=>(by cases h)),HZ.out,rfl⟩
   case round=>
    obtain⟨i,T2,acc,zr,rfl,hik,hp,hac,hfr,hbx,hnx,hd1,hd2,hz,hzz⟩:=hrel;obtain⟨a12,c12,rfl⟩:=hnx.aj;by_cases hlt:i<kf
    case pos=>
     have hi:i<fr.length:=by rw[D7.out];exact hlt
     rw[abv hi]at hz;obtain⟨x1,z1,hx1,hx2,rfl⟩:=mM hz;obtain⟨y0,hy0,rfl⟩:=ZM hx1;obtain⟨b2,sZ,bE,oE,dE,bK,oK,dK,bC,oC,dC,rfl,d1,hxi⟩:=hfr.at hi;have c0:=hbx.u3;have h1:decide (i<kf)=true:=aa4 hlt;have HY0:=π hy0;have wD:=π hx2;have ng:=π hzz;clear hx1 hx2 hzz hz hy0
     go_wp2_with fail
     refine zy 8 7 ?_;intro K' W hbw eQ;clear d1 c0
     go_wp2_with fail
     refine(UD (ih m2 η) (hx.af (hp.on hbw) (hxi.to (.below hbw))) (hva.to (hp.on hbw).mG) HY0.out).mono ?_;rintro e w2 h;obtain⟨v,rfl,hb,hr⟩:=h.rq hbw;obtain⟨av,kv,cv,rfl⟩:=hr.aj;clear h
     go_wp2_with fail
     refine eQ.out _ _ ⟨⟨w2,hb⟩,rfl⟩ ?_;have hp2:=hp.call hb;have oJ:=hac.call hb;have hfr2:=hfr.call hb;have uU:=hbx.to (aH hb);have hnx2:=hnx.call hb;clear hp hac hfr hbx hnx eQ;obtain⟨P5,asO⟩:=hr.len;have Ki:=π P5;obtain⟨wo2,rfl⟩:∃W,W=w2:=⟨w2,rfl⟩;obtain⟨sa,hsa⟩:∃q,fr[i].af=q:=⟨_,rfl⟩;have HSA:=π hsa;clear P5
     go_wp2_with fail
     go_loopw [12,15] (fun s12 s15 wr=>∃(j:Nat) (T3:Nat→Prop),s15= .int .i64 j∧j≤kv∧Pw S w T3 wr∧dW T3 w.heap.size wr (.slice a10 fZ.length c10) fZ∧Bf T3 wr (.slice (some ⟨b2,sZ,none⟩) kf c11) fr∧Bx T3 wr m0 [.int .i64 3, .string (au []), .slice a k c]∧dW T3 w.heap.size wr s12 (acc++(y0.take j).filter fun z=>decide (fr[i].af<z.af))∧Dj (.slice a10 fZ.length c10) s12∧Dj (.slice (some ⟨b2,sZ,none⟩) kf c11) s12∧dS T3 wr (.slice av kv cv) y0) (fun _ s15 _=>kv - (intOf s15).toNat)
     case atStart=>exact⟨0,_,rfl,Ω _,hp2,oJ,hfr2,uU,by rw[List.take_zero,List.filter_nil,List.append_nil];exact hnx2,hd1,hd2,hr⟩
     case round=>
      obtain⟨j,T3,rfl,hjk,hp,hac,hfr,hbx,hnx,hd1,hd2,hr⟩:=hrel;obtain⟨Q,hQ⟩:∃Q,(acc++(y0.take j).filter fun z=>decide (fr[i].af<z.af))=Q:=⟨_,rfl⟩;rw[hQ]at hnx
      have hQl:Q.length≤1000:=by
       have h1:=hoz;rw[←ng.out,←Ψ,Δ,Δ]at h1;have h2:=((List.take_sublist j y0).filter fun z=>decide (fr[i].af<z.af)).length_le;rw[←hQ,Δ];omega
      have HQ:=π hQ;clear hQ;obtain⟨a12,c12,rfl⟩:=hnx.aj;by_cases hlt2:j<kv
      case pos=>
       have hj:j<y0.length:=by rw[←Ki.out];exact hlt2
       obtain⟨b2',aoA,bE',oE',dE',bK',oK',dK',bC',oC',dC',e,d1,hxi⟩:=hfr.at hi;cases e;obtain⟨b3,zz,bE3,oE3,dE3,bK3,oK3,dK3,bC3,oC3,dC3,rfl,d3,hxj⟩:=hr.at hj;have d1:=d1 (df.oH wr);have d3:=d3 (df.oH wr);dsimp only[df.oH,df.w]at d1 d3;have h1:decide (j<kv)=true:=aa4 hlt2
       have htk:(y0.take (j+1)).filter (fun z=>decide (fr[i].af<z.af))=(y0.take j).filter (fun z=>decide (fr[i].af<z.af))++(if fr[i].af<y0[j].af then[y0[j]]else[]):=by
        rw[abL hj,List.filter_append]
        congr 1
        by_cases h:fr[i].af<y0[j].af<;>simp[List.filter_cons,h]
       have Ka:=π htk;clear htk;by_cases hgt:fr[i].af<y0[j].af
       case pos=>
        have e2:decide (fr[i].af<y0[j].af)=true:=aa4 hgt
        go_wp2_with fail
        go_quiet (fail)
        have hbq:Below wr.heap.size wr (wr.drewN nq):=gz _ _ _;have hb5:=hbq.alloc hbq.size (.cells #[.int .i64 y0[j].af, .slice bE3 oE3 dE3, .slice bK3 oK3 dK3, .bool y0[j].ty, .slice bC3 oC3 dC3] 51);have hrow:=(dS.ay (w:=wr.drewN nq) (m:=wr.heap.size) 51 rfl (hxj.to (aH hbq))).to (QS hbq.size);have DX:=hp.call hb5;have Li:=hnx.call hb5
        go_wp2_with (first
         |(at_builtin;refine kX DX (.tmp 105) (.tmp 110) Li hrow (by simp;omega) rfl rfl rfl rfl ?_
           intro v3 w3 iU hle3)
         |fail)
        go_roundw
        case rel=>exact⟨j+1,_,by go_num,by omega,hle3.pw,((hac.call hb5).rU hle3 hd1).1,(hfr.call hb5).left hle3 hd2,(hbx.to (aH hb5)).to hle3.tk,by rw[Ka.out,ω hgt,←Ψ,HQ.out];exact iU,((hac.call hb5).rU hle3 hd1).2,hd2.left hle3 (fun b h=>abB (hfr.lt (by intro h;rw[h]at hi;simp at hi) h) hb5.size),(hr.to (aH hb5)).to hle3.tk⟩
        case measure=>simp[intOf];omega
       case neg=>
        have e2:decide (fr[i].af<y0[j].af)=false:=aa5 hgt
        go_wp2_with fail
        go_quiet (fail)
        have hbq:Below wr.heap.size wr (wr.drewN nq):=gz _ _ _
        go_wp2_with fail
        go_roundw
        case rel=>exact⟨j+1,_,by go_num,by omega,hp.call hbq,hac.call hbq,hfr.call hbq,hbx.to (aH hbq),by rw[Ka.out,χ hgt,List.append_nil,HQ.out];exact hnx.call hbq,hd1,hd2,hr.to (aH hbq)⟩
        case measure=>simp[intOf];omega
      case neg=>
       have h1:decide (j<kv)=false:=aa5 hlt2
       have BN:acc++y0.filter (fun z=>decide (fr[i].af<z.af))=Q:=by rw[←HQ.out,ab1 (by rw[←Ki.out];omega)]
       have Ko:=π BN;clear BN
       go_wp2_with fail
       go_roundw
       case rel=>exact⟨i+1,_,_,z1,by go_num,by omega,hp,hac,hfr,hbx,hnx,hd1,hd2,wD.out,by rw[←Ko.out,Ψ];exact ng.out⟩
       case measure=>simp[intOf];omega
    case neg=>
     have h1:decide (i<kf)=false:=aa5 hlt
     have hz2:acc=Z:=by
      rw[abY (by rw[D7.out];omega)]at hz;rw[rM hz,List.append_nil]at hzz;exact hzz
     clear hz hzz;subst hz2;have hpl:=hnx.lF hp;have iU:=hac.wo hd1
     have hol:fZ.length+acc.length≤1000:=by
      have h1:=afz List.length D6.out;have h2:=HL.out;rw[Δ,Δ]at h1;omega
     go_wp2_with (first
      |(at_builtin;refine kX hpl.1 (.tmp 112) (.tmp 113) iU hpl.2 η rfl rfl rfl rfl ?_
        intro v3 w3 UE hle3)
      |fail)
     go_roundg m2
     case measure=>omega
     case rel=>exact⟨_,acc,y',fZ++acc,by omega,hle3.pw,UE,(hpl.2.to hle3.tk).fr,(hbx.to xP).to hle3.tk,HD2.out,by rw[Ψ];exact D6.out⟩
end Go.Proofs.YtlboejdhmggjpaaGreat.Pp.Dr
