import Derived.Test.YtlboejdhmggjpaaGreatXdN
set_option linter.all false
namespace Go.Proofs.YtlboejdhmggjpaaGreat.Pp.Dr
set_option maxRecDepth 100000
set_option maxHeartbeats 8000000
open Go.RowKit Go.BigFrame Go.Proofs.YtlboejdhmggjpaaGreat
variable {L : List Ct}{s y : Sx}
theorem VV {g:Rq→Option (List Sx)}{Z:List Sx}(h:nS L g s y=some Z):∃r,((dJ L y.af [63]=false∧r=[])∨(dJ L y.af [63]=true∧r.length≤1000∧g (.seq [.nm [101,120,112,114], .tx [58], .nm [99,104,111,105,99,101]] (y.af+1) [{af:=y.af+1,env:=y.env}])=some r))∧Z=dF s y::r.map fun z=>dF s (iA 35 s.af z [y.ah.headD zT,z.ah.getD 0 zT,z.ah.getD 1 zT]):=by
 unfold nS at h
 obtain⟨r,h1,h2⟩:=Γ.1 h
 refine⟨r,?_,(aau h2).symm⟩
 split at h1
 ·next h3=>
  obtain⟨r',h4,h5⟩:=Γ.1 h1;obtain⟨rfl,h6⟩:=eU h5;exact .inr ⟨h3,h6,h4⟩
 ·next h3=>exact .inl ⟨by simpa using h3,(aau h1).symm⟩
def amR:Bs:=[101,120,112,114,32,39,58,32,99,104,111,105,99,101]
theorem atl:ZW amR [.nm [101,120,112,114], .tx [58], .nm [99,104,111,105,99,101]]:=⟨3,by kernel_rfl,by decide+kernel,by decide+kernel,by decide⟩
theorem l5.at{T:Nat→Prop}{w:World}{a:Option Addr}{k c i:Nat}{ks:List Tr}(h:l5 T w (.slice a k c) ks)(hi:i<ks.length):k=ks.length∧∃b off aK nK cK aD nD cD,a=some ⟨b,off,none⟩∧(∀u:df w,u.w.cell? ⟨b,off+i*5,none⟩=some (.int .i64 ks[i].k)∧u.w.cell? ⟨b,off+i*5+1,none⟩=some (.int .i64 ks[i].lo)∧u.w.cell? ⟨b,off+i*5+2,none⟩=some (.int .i64 ks[i].hi)∧u.w.cell? ⟨b,off+i*5+3,none⟩=some (.slice aK nK cK)∧u.w.cell? ⟨b,off+i*5+4,none⟩=some (.slice aD nD cD))∧kF T w ks[i] [.int .i64 ks[i].k, .int .i64 ks[i].lo, .int .i64 ks[i].hi, .slice aK nK cK, .slice aD nD cD]:=by
 obtain⟨gs,h1,h2⟩:=h
 obtain⟨g,g1,hg⟩:=h2.get i hi
 obtain⟨e,b,off,rfl,hS,hl,hc⟩:=h1.get g1
 obtain⟨aK,nK,cK,aD,nD,cD,rfl, -⟩:=kF.aj hg
 exact⟨by rw[e,h2.len],b,off,_,_,_,_,_,_,rfl,fun u=>⟨u.cell (hc 0 _ rfl),u.cell (hc 1 _ rfl),u.cell (hc 2 _ rfl),u.cell (hc 3 _ rfl),u.cell (hc 4 _ rfl)⟩,hg⟩
theorem acA {gb:Nat}{vr:Value}{n:Nat}(ih:∀m,m<n→Wd gb L vr m){S:Nat→Prop}{w:World}{g:List Value}{XS:List Sx}(hx:Cx gb L vr S w s g)(h:aS L n (.dx s)=some XS):Calls Tryz.prog 62 #[gP gb, .agg g.toArray] w (Ps S w XS):=by
 obtain⟨m',rfl,hs,h1, -⟩:=fB h
 have hG:=hx.gx.gb
 have hL2:L.length≤100000:=hG.choose_spec.choose_spec.2.2
 have hat:s.af≤100000:=aaT hs.af hL2
 obtain⟨l0,hl1,hc⟩:=Γ.1 (show(aS L m' (.dB 1 (fresh s))).bind (fun x=>(bu (nS L (aS L m') s) x).bind aG)=some XS from h1)
 obtain⟨Z0,hc1,hc2⟩:=Γ.1 hc
 have hXl:=(eU hc2).2
 obtain rfl:=(eU hc2).1.symm
 obtain⟨T0,hp0,hbx0,hs0⟩:=hx.box
 obtain⟨aE,nE,cE,aK,nK,cK,aC,nC,cC,rfl,hE, -⟩:=hx.st.aj
 have hf0:fJ T0 _ (fresh s) [.int .i64 s.af, .slice aE nE cE, .slice none 0 0, .bool false, .slice none 0 0]:=⟨_,_,_,rfl,hE.to hp0.mG,⟨[],Rw.nil,rfl⟩,Rw.nil⟩
 have yu:=π hl1
 have XA:=π hc1
 have xK:=π (show Ai L l0∧∀x∈l0,x.ah≠[]from⟨(fE hl1).2.1,fun x hx e=>by have:=(fE hl1).2.2 x hx;rw[e]at this;exact absurd this (show¬(1≤0) by omega)⟩)
 obtain⟨m0,hm⟩:∃m,w.heap.size=m:=⟨_,rfl⟩
 rw[hm]at hbx0
 have HM:=π hm
 clear h h1 hc hc1 hc2 hl1 hs0
 unfold Ps
 go_enter Tryz.func62,Tryz.ntmps62
 go_wp2_with fail
 refine((ih m' η).dB (k:=1) (hx.af hp0 hf0) yu.out).mono ?_
 rintro e w2 ⟨v,rfl,hb,hr⟩
 have hp2:=hp0.call hb
 have uU:=hbx0.to (aH hb)
 obtain⟨al,kl,cl,rfl⟩:=hr.aj
 obtain⟨hkl,aeQ⟩:=hr.len
 have M3:=π hkl
 clear hbx0 hf0 hkl
 go_wp2_with fail
 go_loopw [5,7,8,9,10,11,12] (fun s5 s7 s8 s9 s10 s11 s12 wr=>∃(i:Nat) (T:Nat→Prop) (acc zr:List Sx),s7= .int .i64 i∧i≤kl∧Pw S w T wr∧dW T w.heap.size wr s5 acc∧dS T wr (.slice al kl cl) l0∧Bx T wr m0 [.int .i64 s.af, .slice aE nE cE, .slice aK nK cK, .bool s.ty, .slice aC nC cC]∧bu (nS L (aS L m') s) (l0.drop i)=some zr∧acc++zr=XS) (fun _ s7 _ _ _ _ _ _=>kl - (intOf s7).toNat)
 case atStart=>exact⟨0,_,[],XS,rfl,Ω _,hp2,dW.nil,hr,uU,XA.out,rfl⟩
 case round=>
  obtain⟨i,T,acc,zr,rfl,hik,hp,hac,hfr,hbx,hz,hzz⟩:=hrel;obtain⟨a5,c5,rfl⟩:=hac.aj;by_cases hlt:i<kl
  case neg=>
   have h1:decide (i<kl)=false:=aa5 hlt
   have hz2:acc=XS:=by
    rw[abY (by rw[←M3.out];omega)]at hz;rw[rM hz,List.append_nil]at hzz;exact hzz
   subst hz2;clear hz hzz
   go_wp2_with fail
   go_ret;exact⟨_,rfl,hp.be,hac.fw hp⟩
  case pos=>
   have hi:i<l0.length:=by rw[←M3.out];exact hlt
   rw[abv hi]at hz;obtain⟨x1,z1,hx1,hx2,rfl⟩:=mM hz;obtain⟨b2,sZ,bE,oE,dE,bK,oK,dK,bC,oC,dC,rfl,d1,hxi⟩:=hfr.at hi;have Am:=xK.out.1.2 _ (ab2 hi);have hkn:=xK.out.2 _ (ab2 hi);obtain⟨x,Jf⟩:∃x,l0[i]=x:=⟨_,rfl⟩;rw[Jf]at d1 hxi Am hkn hx1;have Nc:=π Jf;have hxa:x.af≤100000:=aaT Am.af hL2;have h1:decide (i<kl)=true:=aa4 hlt;obtain⟨h0k,b3,zz,tK,sK,uK,tD,sD,uD,rfl,d3,hti⟩:=hxi.lG.2.1.first hkn;obtain⟨t0,ht0⟩:∃t,x.ah.headD zT=t:=⟨_,rfl⟩;rw[ht0]at d3 hti;have HT0:=π ht0;obtain⟨r,hr1,rfl⟩:=VV hx1;rw[ht0]at hzz
   try rw[ht0]at hr1
   have Ls:=π (show dF s x=gU s x t0 by rw[←ht0];rfl);have wD:=π hx2;have ng:=π hzz;have HR1:=π hr1
   have hal:acc.length+1+r.length+z1.length≤1000:=by
    have h9:=afz List.length hzz;simp only[Δ,abz,aaJ]at h9;omega
   clear hx2 hzz hz hx1 Jf ht0 hr1;have c0:=hbx.u
   go_wp2_with fail
   refine C9 15 13 ?_;intro K' W hbw eQ
   go_wp2_with fail
   refine(Aj (hp.on hbw).lt (hx.st.to (hp.on hbw).mG) (hxi.to (.below hbw)) (hti.to (.below hbw)) hs.ah).mono ?_;rintro e w2 ⟨g',rfl,hb0,hsx⟩;have hb:=hbw.trans (hb0.mono hbw.size);have mH:=hsx.to (JQ hbw);obtain⟨sE,tE,uE,Jd,Fw,Fx,sC,tC,uC,rfl, -⟩:=mH.aj;have hrow:=dS.ay 51 rfl mH;have hb3:=ag w2 (.cells #[.int .i64 (gU s x t0).af, .slice sE tE uE, .slice Jd Fw Fx, .bool (gU s x t0).ty, .slice sC tC uC] 51);have rO:=(hac.call hb).call hb3;clear d1 d3 c0 h1 hsx hb0
   go_wp2_with fail
   refine eQ.out _ _ ⟨⟨w2,hb⟩,rfl⟩ ?_;intro o2 ho2 K2 hK2;cases ho2;have ji:=π hK2;clear hK2 eQ
   go_wp2_with fail
   refine ji.out _ _ ⟨⟨_,hb.alloc hb.size _⟩,rfl⟩ ?_;refine kX ((hp.call hb).call hb3) (.tmp 26) (.tmp 40) rO hrow (by simp;omega) rfl rfl rfl rfl ?_;intro v3 w3 iU hle3;have htk:=((aH hb).trans (aH hb3)).trans hle3.tk;have hp3:=hle3.pw;clear ji rO hb hb3 hle3 hbw mH hrow;obtain⟨Q3,xI⟩:∃Q,acc++[gU s x t0]=Q:=⟨_,rfl⟩;rw[xI]at iU
   have atm:Q3.length≤acc.length+1:=by rw[←xI];simp
   have Bh:=π xI;clear xI;obtain⟨T3,p3,a3,f3,Kq,x3⟩:∃T3,Pw S w T3 w3∧dW T3 w.heap.size w3 v3 Q3∧dS T3 w3 (.slice (some ⟨b2,sZ,none⟩) kl cl) l0∧Bx T3 w3 m0 [.int .i64 s.af, .slice aE nE cE, .slice aK nK cK, .bool s.ty, .slice aC nC cC]∧fJ T3 w3 x [.int .i64 x.af, .slice bE oE dE, .slice (some ⟨b3,zz,none⟩) oK dK, .bool x.ty, .slice bC oC dC]:=⟨_,hp3,iU,hfr.to htk,hbx.to htk,hxi.to htk⟩;obtain⟨a5',c5',rfl⟩:=a3.aj;clear hp3 iU htk hfr hbx hxi hp hac hti;obtain⟨f1,f2,gE,gN,gC,gK,gM,gD,gF,gG,gH,e8,d1, -⟩:=f3.at hi;cases e8;have d0:=d1 (df.oH _);dsimp only[df.oH,df.w]at d0;rw[Nc.out]at d0;clear d1
   go_wp2_with fail
   refine(rY (hG.ext p3.be) x.af hxa [63] ζ ζ).mono ?_;rintro e w4 ⟨rfl,b4⟩;obtain⟨z,hz1⟩:∃z,dJ L x.af [63]=z:=⟨_,rfl⟩;rw[hz1];have BM:=HR1.out;rw[hz1]at BM;have p4:=p3.on b4;have a4:=a3.on b4;have f4:=f3.to (.below b4);have Kr:=Kq.to (.below b4);have x4:=x3.to (.below b4);clear d0 p3 a3 f3 Kq x3 hz1 b4
   cases z with
   |false=>
    have hr0:r=[]:=BM.elim (fun h=>h.2) fun h=>(by cases h.1)
    subst hr0;clear BM
    go_wp2_with fail
    go_roundw
    case rel=>exact⟨i+1,T3,Q3,z1,by go_num,by omega,p4,a4,f4,Kr,wD.out,by rw[←Bh.out,Ψ,←Ls.out];exact ng.out⟩
    case measure=>simp[intOf];omega
   |true=>
    have Di:aS L m' (.seq [.nm [101,120,112,114], .tx [58], .nm [99,104,111,105,99,101]] (x.af+1) [{af:=x.af+1,env:=x.env}])=some r:=BM.elim (fun h=>(by cases h.1)) fun h=>h.2.2
    have HSQ:=π Di;have Qc:=π (show Ai L r∧∀x∈r,2≤x.ah.length from⟨(fE Di).2.1,(fE Di).2.2⟩);clear BM Di;obtain⟨jw,k1,k2,k3,k4⟩:=atl;have HW:=π (And.intro k1 (And.intro k2 k3));clear k1 k2 k3
    go_wp2_with fail
    refine(CZ (S:=T3) amR k4).mono ?_;rintro e w5 ⟨v2,rfl,hb5,yo⟩;have p5:=p4.call hb5;have rQ:=yo.to (wS (T:=T3) (w:=w4));obtain⟨a9,q9,c9,rfl⟩:=rQ.aj
    go_wp2_with fail
    refine(JU 100 (i:=0) p5.lt rQ HW.out.2.1 HW.out.2.2 ζ HW.out.1).mono ?_;rintro e w6 ⟨v6,rfl,hb6,ZY⟩;have p6:=p5.call hb6;have tk6:=(aH (T:=T3) hb5).trans (aH hb6);have a6:=(a4.call hb5).call hb6;have f6:=f4.to tk6;have m06:=Kr.to tk6;have x6:=x4.to tk6;obtain⟨aL,qL,cL,rfl⟩:=ZY.choose_spec.1.aj;have UU:=ZY.len.1;obtain⟨bb,off,ai,ki,ci,rfl,d0,yz⟩:=ZY.at (i:=0) ζ;obtain rfl:qL=1:=UU;have d0:∀u:df w6,u.w.cell? ⟨bb,off,none⟩=some (.slice ai ki ci):=d0;obtain⟨f1,f2,gE,gN,gC,gK,gM,gD,gF,gG,gH,e8,d1,D9⟩:=f6.at hi;cases e8;rw[Nc.out]at d1 D9;clear hb5 hb6 tk6 a4 f4 Kr x4 p4 p5 yo rQ;have MI:fJ (gr (gr T3 w4 w5) w5 w6) w6 {af:=x.af+1,env:=x.env} [.int .i64 ((x.af:Int)+1), .slice gE gN gC, .slice none 0 0, .bool false, .slice none 0 0]:=⟨_,_,_,by simp,D9.lG.1,⟨[],Rw.nil,rfl⟩,Rw.nil⟩
    go_wp2_with fail
    refine zy 17 16 ?_;intro K W hbw eQ;clear d0 d1
    go_wp2_with fail
    refine((ih m' η).seq (hx.af (p6.on hbw) (MI.to (.below hbw))) (yz.to (.below hbw)) HSQ.out).mono ?_;rintro e w7 h;obtain⟨v,rfl,tF,UY⟩:=h.rq hbw;obtain⟨ar,kr,cr,rfl⟩:=UY.aj;obtain⟨hkr,amv⟩:=UY.len;have zL:=π hkr;have p7:=p6.call tF;have a7:=a6.call tF;have f7:=f6.to (aH tF);have m07:=m06.to (aH tF);have x7:=x6.to (aH tF);clear h hkr
    go_wp2_with fail
    refine eQ.out _ _ ⟨⟨w7,tF⟩,rfl⟩ ?_;clear p6 a6 f6 m06 x6 MI yz D9 ZY
    go_wp2_with fail
    obtain⟨wo2,rfl⟩:∃W,W=wr:=⟨wr,rfl⟩
    obtain⟨F,hF⟩:∃F:Sx→Sx,F=fun z=>dF s (iA 35 s.af z [t0,z.ah.getD 0 zT,z.ah.getD 1 zT]):=⟨_,rfl⟩
    rw[←hF]at ng;have HF:=π hF;clear hF
    go_loopw [5,11,12] (fun s5 s11 s12 wr=>∃(j:Nat) (T:Nat→Prop),s11= .int .i64 j∧j≤kr∧Pw S w T wr∧dW T w.heap.size wr s5 (Q3++(r.take j).map F)∧dS T wr (.slice ar kr cr) r∧dS T wr (.slice (some ⟨b2,sZ,none⟩) kl cl) l0∧Bx T wr m0 [.int .i64 s.af, .slice aE nE cE, .slice aK nK cK, .bool s.ty, .slice aC nC cC]∧fJ T wr x [.int .i64 x.af, .slice bE oE dE, .slice (some ⟨b3,zz,none⟩) oK dK, .bool x.ty, .slice bC oC dC]) (fun _ s11 _ _=>kr - (intOf s11).toNat)
    case atStart=>exact⟨0,_,rfl,Ω _,p7,by rw[List.take_zero,acJ,List.append_nil];exact a7,UY,f7,m07,x7⟩
    case round=>
     obtain⟨j,T2,rfl,hjk,hp2,oJ,rr,ff,b0,xx⟩:=hrel;obtain⟨N,hN⟩:∃N,Q3++(r.take j).map F=N:=⟨_,rfl⟩;rw[hN]at oJ
     have hNl:N.length≤1000:=by rw[←hN,Δ,abz,acn];omega
     have HN:=π hN;clear hN;obtain⟨aN,cN,rfl⟩:=oJ.aj;by_cases hlj:j<kr
     case neg=>
      have h1:decide (j<kr)=false:=aa5 hlj
      have Qd:N=acc++(dF s x::r.map F):=by rw[←HN.out,ab1 (by rw[←zL.out];omega),←Bh.out,Ls.out,Ψ];rfl
      have HN2:=π Qd;clear Qd
      go_wp2_with fail
      go_roundw
      case rel=>exact⟨i+1,T2,N,z1,by go_num,by omega,hp2,oJ,ff,b0,wD.out,by rw[HN2.out,Ψ];exact ng.out⟩
      case measure=>simp[intOf];omega
     case pos=>
      have hj:j<r.length:=by rw[←zL.out];exact hlj
      have h1:decide (j<kr)=true:=aa4 hlj;have hzo:=Qc.out.1.2 _ (ab2 hj);have hz2:=Qc.out.2 _ (ab2 hj);obtain⟨b5,amw,yE,yN,yC,yK,yM,yD,yF,yG,yH,rfl,d5,hzj⟩:=rr.at hj;obtain⟨z,hzz⟩:∃z,r[j]=z:=⟨_,rfl⟩;rw[hzz]at d5 hzj hzo hz2;have HZJ:=π hzz;clear hzz;have hza:z.af≤100000:=aaT hzo.af hL2;obtain⟨hl6,b6,amy,qK,qN,qC,qD,qM,qE',rfl,d6,hq0⟩:=hzj.lG.2.1.at (i:=0) η;obtain⟨-,b6',axv,oK',oN',oC',oD',oM',oE',e6,d8,hq1⟩:=hzj.lG.2.1.at (i:=1) η;cases e6
      have hg0:z.ah.getD 0 zT=z.ah[0]' η:=by rw[abN,abE η];rfl
      have hg1:z.ah.getD 1 zT=z.ah[1]' η:=by rw[abN,abE η];rfl
      obtain⟨k0,hk0⟩:∃t,z.ah[0]' η=t:=⟨_,rfl⟩;obtain⟨k1,hk1⟩:∃t,z.ah[1]' η=t:=⟨_,rfl⟩;rw[hk0]at d6 hq0 hg0;rw[hk1]at d8 hq1 hg1
      have h1y:1<yM:=by omega
      have HG0:=π hg0;have HG1:=π hg1;clear hk0 hk1 hg0 hg1 hl6 hz2;simp only[Nat.zero_mul,Nat.add_zero,Nat.one_mul]at d6 d8;obtain⟨f1,f2,gE,gN,gC,gK,gM,gD,gF,gG,gH,e8,d1,hxr⟩:=ff.at hi;cases e8;rw[Nc.out]at d1 hxr;obtain⟨h0x,b7,atg,tK,tN,tC,tD,tM,Qa,rfl,d7,hti⟩:=hxr.lG.2.1.first hkn;rw[HT0.out]at d7 hti;obtain⟨Y,hY⟩:∃Y,iA 35 s.af z [t0,k0,k1]=Y:=⟨_,rfl⟩;have Xk:=π (show F z=dF s Y by rw[HF.out,←hY,←HG0.out,←HG1.out]);have HY:=π hY;clear hY;have c0:=b0.u
      go_wp2_with fail
      obtain⟨A,hA⟩:∃A:Value→World→Prop,A=xu wr.heap.size (fun b=> .slice (some ⟨b,0,none⟩) 3 3) (.cells #[.int .i64 t0.k, .int .i64 t0.lo, .int .i64 t0.hi, .slice tK tN tC, .slice tD tM Qa, .int .i64 k0.k, .int .i64 k0.lo, .int .i64 k0.hi, .slice qK qN qC, .slice qD qM qE', .int .i64 k1.k, .int .i64 k1.lo, .int .i64 k1.hi, .slice oK' oN' oC', .slice oD' oM' oE'] 35 (0,0)):=⟨_,rfl⟩;have UZ:=π (show Lr A by rw[hA];exact xu.mono);have HA:=π hA;clear hA;refine uH 30 [27,28,29] (fun w'=>∃u:df wr,w'=u.w) (zO T2 wr 27 28 29 A Y) (by kernel_rfl) (by kernel_rfl) ⟨(Below.refl _ _).drew,(fun _ h=>(by cases h)),(fun _ h=>(by cases h)),fun _ h=>(by cases h)⟩ (fun D w' h=>⟨⟨w',h.1⟩,rfl⟩) ?_;intro U;obtain⟨u27,amV⟩:∃v,U 27=v:=⟨_,rfl⟩;have amW:=π amV;clear amV;obtain⟨u28,amX⟩:∃v,U 28=v:=⟨_,rfl⟩;have amY:=π amX;clear amX;obtain⟨u29,amZ⟩:∃v,U 29=v:=⟨_,rfl⟩;have am0:=π amZ;clear amZ;dsimp only[List.take,List.drop];refine mI 27 (by kernel_rfl) ?_;dsimp only[List.take,List.drop]
      repeat(go_big_quiet_step (fail))
      refine abO ?_;refine qz (by kernel_rfl) rfl rfl (by kernel_rfl) ?_ ?_
      ·intro D w8 hI hn iC
       have HI:=π hI;clear hI hn iC
       go_wp2_with fail
       exact⟨rfl,rfl,_,rfl,(HI.out.on UZ.out (ag _ _)).row ζ ζ (by rw[HA.out];exact⟨_,rfl,HI.out.1.size,dz _ _ _⟩)⟩
      rw[amW.out];simp only[Act.put,abu,abH,abG];refine qz (by kernel_rfl) rfl rfl (by kernel_rfl) ?_ ?_
      ·intro D w8 hI hn iC
       have s1:A u27 w8:=amW.out▸hI.2.1 _ (iC 27 (by kernel_rfl));rw[HA.out]at s1;obtain⟨bR,rfl,hRb,Ec⟩:=s1;have hin:=hI.in hp2.lt;have hbR:=hI.bR Ec hRb
       have htr:l5 _ w8 (.slice (some ⟨bR,0,none⟩) 3 3) [t0,k0,k1]:=⟨_,Rw.heap (gs:=[[.int .i64 t0.k, .int .i64 t0.lo, .int .i64 t0.hi, .slice tK tN tC, .slice tD tM Qa],[.int .i64 k0.k, .int .i64 k0.lo, .int .i64 k0.hi, .slice qK qN qC, .slice qD qM qE'],[.int .i64 k1.k, .int .i64 k1.lo, .int .i64 k1.hi, .slice oK' oN' oC', .slice oD' oM' oE']]) Ec hbR (fun g hg=>by
        simp only[abf,abZ,acz]at hg
        rcases hg with rfl|rfl|rfl
        ·exact(hti).ay
        ·exact(hq0).ay
        ·exact(hq1).ay
        ) ν,⟨_,_,rfl,(hti).to hin,⟨_,_,rfl,(hq0).to hin,⟨_,_,rfl,(hq1).to hin,rfl⟩⟩⟩⟩
       have XK:=hzj.to hin;have HI:=π hI;clear Ec hI hn iC hin hbR
       go_wp2_with fail
       refine(Um XK 35 s.af _ _ htr).mono ?_;rintro e w9 ⟨g9,rfl,b9,Fe⟩;rw[HY.out]at Fe;have HT:=π (HI.out.iA UZ.out ζ ζ b9 Fe);clear Fe htr
       go_wp2_with fail
       exact⟨rfl,rfl,_,rfl,HT.out⟩
      rw[amY.out];simp only[Act.put,abu,abH,abG];refine qz (by kernel_rfl) rfl rfl (by kernel_rfl) ?_ ?_
      ·intro D w8 hI hn iC
       have HI:=π hI;clear hI hn iC
       go_wp2_with fail
       exact⟨rfl,rfl,_,rfl,HI.out.box UZ.out ζ ζ⟩
      rw[am0.out];simp only[Act.put,abu,abH,abG];intro w8 hI;have gW:=hI.1;obtain⟨gY,e1,Ji⟩:=hI.2.2.2 (U 28) rfl;obtain⟨bT,e2,Kt,FD⟩:=hI.2.2.1 (U 29) rfl;have Ji:fJ (fun q=>gr T2 wr w8 q∧q≠bT) w8 Y gY:=Ji.to (.mono fun q hq _=>⟨hq.1,hq.2 bT (show some (U 29)=_ by rw[e2])⟩);rw[amY.out]at e1;rw[am0.out]at e2;subst e1;subst e2;obtain⟨pE,qE,rE,pK,qK,rK,pC,qC,rC,rfl, -⟩:=Ji.aj;clear hI c0 d1 d5 d6 d7 d8;refine qV rfl 51 (.tmp 12) (.tmp 106) rfl bT 0 rfl [.int .i64 Y.af, .slice pE qE rE, .slice pK qK rK, .bool Y.ty, .slice pC qC rC] rfl _ 51 FD ν (by intro v hv;simp at hv;rcases hv with rfl|rfl|rfl|rfl|rfl<;>rfl) (by kernel_rfl) ?_;simp only[Act.put];change wpList _ _ _ [] _ (w8.setRow bT #[.int .i64 Y.af, .slice pE qE rE, .slice pK qK rK, .bool Y.ty, .slice pC qC rC]);have j4:Below wr.heap.size wr (w8.setRow bT #[.int .i64 Y.af, .slice pE qE rE, .slice pK qK rK, .bool Y.ty, .slice pC qC rC]):=below_setRow gW Kt _;have BQ:=setRow_heap w8 bT _ #[.int .i64 Y.af, .slice pE qE rE, .slice pK qK rK, .bool Y.ty, .slice pC qC rC] 51 (0,0) FD;have Nh:fJ (gr T2 wr (w8.setRow bT #[.int .i64 Y.af, .slice pE qE rE, .slice pK qK rK, .bool Y.ty, .slice pC qC rC])) (w8.setRow bT #[.int .i64 Y.af, .slice pE qE rE, .slice pK qK rK, .bool Y.ty, .slice pC qC rC]) Y [.int .i64 Y.af, .slice pE qE rE, .slice pK qK rK, .bool Y.ty, .slice pC qC rC]:=Ji.to (To.row _ fun q hq hl=>⟨⟨by simp;exact hl,hq.1.2⟩,hq.2⟩);obtain⟨W9,FE⟩:∃W,w8.setRow bT #[.int .i64 Y.af, .slice pE qE rE, .slice pK qK rK, .bool Y.ty, .slice pC qC rC]=W:=⟨_,rfl⟩;rw[FE]at j4 BQ Nh⊢;clear FE FD gW Ji;have GA:=hp2.call j4;have Ni:=oJ.call j4;have Ng:=rr.to (aH j4);have Qe:=ff.to (aH j4);have Ku:=b0.to (aH j4);have Qg:=xx.to (aH j4);have Qi:Bx (gr T2 wr W9) W9 bT [.int .i64 Y.af, .slice pE qE rE, .slice pK qK rK, .bool Y.ty, .slice pC qC rC]:=⟨⟨(ψ.1 BQ).1, .inr Kt⟩,(ψ.1 BQ).1,dX.Cc BQ⟩;obtain⟨T9,Jh⟩:∃T9,gr T2 wr W9=T9:=⟨_,rfl⟩;rw[Jh]at GA Ni Ng Qe Ku Qg Qi Nh;clear Jh j4 BQ hp2 oJ rr ff b0 xx
      have U0:Y.ah≠[]:=by rw[←HY.out];exact fun h=>(by cases h)
      obtain⟨h0Y,b8,atn,vK,vN,vC,vD,vM,vE',rfl,d8,htY⟩:=Nh.lG.2.1.first U0;obtain⟨tY,Lv⟩:∃t,Y.ah.headD zT=t:=⟨_,rfl⟩;rw[Lv]at d8 htY;have HFZ:=π (show F z=gU s Y tY by rw[Xk.out,←Lv];rfl);clear Lv U0;have c0:=Ku.u;have c1:=Qi.u
      go_wp2_with fail
      refine C9 9 7 ?_;intro K' W hbw eQ
      go_wp2_with fail
      refine(Aj (GA.on hbw).lt (hx.st.to (GA.on hbw).mG) (Nh.to (.below hbw)) (htY.to (.below hbw)) hs.ah).mono ?_;rintro e w2 ⟨g',rfl,hb0,hsx⟩;have hb:=hbw.trans (hb0.mono hbw.size);have mH:=hsx.to (JQ hbw);obtain⟨sE,tE,uE,Jd,Fw,Fx,sC,tC,uC,rfl, -⟩:=mH.aj;have hrow:=dS.ay 51 rfl mH;have hb3:=ag w2 (.cells #[.int .i64 (gU s Y tY).af, .slice sE tE uE, .slice Jd Fw Fx, .bool (gU s Y tY).ty, .slice sC tC uC] 51);have rO:=(Ni.call hb).call hb3;clear d8 c0 c1 hsx hb0
      go_wp2_with fail
      refine eQ.out _ _ ⟨⟨w2,hb⟩,rfl⟩ ?_;intro o2 ho2 K2 hK2;cases ho2;have ji:=π hK2;clear hK2 eQ
      go_wp2_with fail
      refine ji.out _ _ ⟨⟨_,hb.alloc hb.size _⟩,rfl⟩ ?_;refine kX ((GA.call hb).call hb3) (.tmp 107) (.tmp 115) rO hrow (by simp;omega) rfl rfl rfl rfl ?_;intro v3 Xp iU hle3;have htk:=((aH hb).trans (aH hb3)).trans hle3.tk;have hp3:=hle3.pw;clear ji rO hb hb3 hle3 hbw mH hrow;obtain⟨N3,U1⟩:∃q,N++[gU s Y tY]=q:=⟨_,rfl⟩;rw[U1]at iU;have UM:=π U1;clear U1;obtain⟨aZ,cZ,rfl⟩:=iU.aj
      go_wp2_with fail
      go_roundw
      case rel=>exact⟨j+1,_,by go_num,by omega,hp3,by rw[abL hj,acb,←Ψ,HN.out,acj,acJ,HZJ.out,HFZ.out,UM.out];exact iU,Ng.to htk,Qe.to htk,Ku.to htk,Qg.to htk⟩
      case measure=>simp[intOf];omega
end Go.Proofs.YtlboejdhmggjpaaGreat.Pp.Dr
