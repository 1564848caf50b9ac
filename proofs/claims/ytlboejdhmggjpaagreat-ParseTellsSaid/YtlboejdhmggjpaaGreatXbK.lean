import Derived.Test.YtlboejdhmggjpaaGreatXbJ
set_option linter.all false
namespace Go.Proofs.YtlboejdhmggjpaaGreat.Pp.Dr
set_option maxRecDepth 100000
set_option maxHeartbeats 1600000
open Go.RowKit Go.BigFrame Go.Proofs.YtlboejdhmggjpaaGreat
theorem Fv{n k:Nat}(t:Tg n k){Q:Exit→Act→World→Prop}{id:Nat}{a:Act}{w:World}{l:List Oper}(hm:Tryz.prog.follows .mixedOrders=true)(hB:(nN l n&&aeJ (l.take n) k)=true)
  (h:wpQuiet Tryz.prog (l.take n).toArray (fun w'=>∃u:df w,w'=u.w) (fun a'=>∀ok,(l.take n)[k]? =some ok→∀K:Act→World→Prop,(∀b w2,(∃u:df w,w2=u.w)→(∀o2,(l.take n)[k+1]? =some o2→∀K2:Act→World→Prop,(∀b2 w3,(∃u:df w,w3=u.w)→wpList Tryz.prog l.toArray Q (l.drop n) b2 w3→K2 b2 w3)→wpList Tryz.prog (l.take n).toArray (fun e b2 w3=>e= .normal∧b2.defers=b.defers∧K2 b2 w3) [o2] b w2)→K b w2)→∀w',(∃u:df w,w'=u.w)→wpList Tryz.prog (l.take n).toArray (fun e b w2=>e= .normal∧b.defers=a'.defers∧K b w2) [ok] a' w') ((l.take n).take k) a):(Code.region id l.toArray true).wp Tryz.prog Q a w:=QB n k _ hm hB (df.drew w) h
theorem C9(n k:Nat){G G':Prop}(q:G')(h:Tg n k→G'→G:=by
  intro t q;refine Fv t (by kernel_rfl) (by kernel_rfl) ?_;dsimp only[List.take_succ_cons,List.take_zero,Nat.reduceAdd,List.drop_succ_cons,List.drop_zero,List.append_nil,List.cons_append,List.nil_append]
  repeat(go_big_quiet_step (fail))
  refine abO ?_;intro ok hok K hK w' hw';cases hok;obtain⟨u,rfl⟩:=hw';obtain⟨W,hW⟩:∃W,W=u.w:=⟨_,rfl⟩;have hbw:=u.below;rw[←hW]at hbw⊢;clear hW;clear u;have HK:=π hK;clear hK
  revert hbw W HK K
  exact q):G:=h ⟨⟩ q
theorem GX.rul{gb:Nat}{L:List Ct}{vr:Value}{T:Nat→Prop}{w:World}(h:GX gb L vr T w):∃b off c,vr= .slice (some ⟨b,off,none⟩) dU.length c:=by
 obtain⟨la,lc,gs,h1,h2,h3,h4,h5,h6⟩:=h
 have hl:=h5.len
 obtain⟨a,k,c,rfl⟩:=h4.aj
 obtain⟨e,b,off,rfl, -⟩:=h4.get (i:=0) (abE (by rw[hl];decide))
 exact⟨b,off,c,by rw[e,hl]⟩
theorem GX.at{gb:Nat}{L:List Ct}{b off c:Nat}{T:Nat→Prop}{w:World}(h:GX gb L (.slice (some ⟨b,off,none⟩) dU.length c) T w){i:Nat}(hi:i<dU.length):∃aA kA cA aK kK cK,(∀W,Below w.heap.size w W→W.cell? ⟨gb,1,none⟩=some (.slice (some ⟨b,off,none⟩) dU.length c)∧W.cell? ⟨b,off+i*3,none⟩=some (.string (au dU[i].name))∧W.cell? ⟨b,off+i*3+1,none⟩=some (.slice aA kA cA)∧W.cell? ⟨b,off+i*3+2,none⟩=some (.slice aK kK cK))∧vo T w (.slice aA kA cA) dU[i].mh∧Rw T 1 w (.slice aK kK cK) (dU[i].iL.map fun k=>[.int .i64 (k:Nat)]):=by
 obtain⟨la,lc,gs,h1,h2,h3,h4,h5,h6⟩:=h
 obtain⟨va,vk,g1,hva,hvk⟩:=h5.get i hi
 obtain⟨e,b',off',e2, -,hl,hc⟩:=h4.get g1
 cases e2
 obtain⟨aA,kA,cA,rfl⟩:=hva.choose_spec.1.aj
 obtain⟨aK,kK,cK,rfl⟩:=hvk.aj
 refine⟨_,_,_,_,_,_,fun W h=>?_,hva,hvk⟩
 have u:∀{p:Addr} {v:Value},w.cell? p=some v→W.cell? p=some v:=fun{p v} hp=>(h.cell (World.block_lt_of_cell? w p hp)).trans hp
 exact⟨u (by simp[World.cell?,h2]),u (hc 0 _ rfl),u (hc 1 _ rfl),u (hc 2 _ rfl)⟩
theorem GX.aoB{gb:Nat}{L:List Ct}{b off c:Nat}{T:Nat→Prop}{w:World}(h:GX gb L (.slice (some ⟨b,off,none⟩) dU.length c) T w):w.cell? ⟨gb,1,none⟩=some (.slice (some ⟨b,off,none⟩) dU.length c):=by
 obtain⟨la,lc,gs,h1,h2, -⟩:=h
 simp[World.cell?,h2]
theorem acg:∀R∈dU,R.mh.length=R.iL.length:=by decide+kernel
theorem aii{T:Nat→Prop}{w:World}{x r:Sx}{gx gr:List Value}(hS:∀b,T b→b<w.heap.size)(hx:fJ T w x gx)(hr:fJ T w r gr)(k:Nat)(hk:x.ah.length≤1000)(hk2:r.ah.length≤1000):Calls Tryz.prog 65 #[.agg gx.toArray, .agg gr.toArray, .int .i64 (k:Nat)] w fun e w'=>∃g,e= .returned (.agg g.toArray)∧Below w.heap.size w w'∧fJ (Dr.gr T w w') w' (bn x r k) g:=by
 by_cases h:0<k
 ·exact(aes hS hx hr k h η).mono fun e w' ⟨g,h1,h2,h3⟩=>⟨g,h1,h2,h3.to wS⟩
 ·obtain rfl:k=0:=by omega
  exact(aev hS hx hr η η).mono fun e w' ⟨g,h1,h2,h3⟩=>⟨g,h1,h2,h3.to wS⟩
theorem ZO{g:Rq→Option (List Sx)}{t:Bs}{s:Sx}{R:Ru}{x:List Sx}(h:Dy g t s R=some x):(R.name≠t∧x=[])∨(R.name=t∧bu (fun p=>((g (.seq p.1 s.af [{af:=s.af,env:=s.env,ty:=s.ty}])).bind aG).bind fun x=>some (x.map fun r=>bn s r p.2)) (R.mh.zip R.iL)=some x):=by
 unfold Dy at h
 split at h
 ·next h1=>exact .inr ⟨h1,h⟩
 ·next h1=>exact .inl ⟨h1,(aau h).symm⟩
theorem Rw.int{T:Nat→Prop}{w:World}{a:Option Addr}{k c i:Nat}{l:List Nat}(h:Rw T 1 w (.slice a k c) (l.map fun k=>[.int .i64 (k:Nat)]))(hi:i<l.length):∃b off,a=some ⟨b,off,none⟩∧∀u:df w,u.w.cell? ⟨b,off+i,none⟩=some (.int .i64 (l[i]:Nat)):=by
 obtain⟨-,b,off,rfl,hS,hl,hc⟩:=h.get (i:=i) (g:=[.int .i64 (l[i]:Nat)]) (by rw[afG,abE hi];rfl)
 exact⟨b,off,rfl,fun u=>u.cell (by have:=hc 0 _ rfl;rw[afF,Nat.add_zero]at this;exact this)⟩
theorem IZ{gb:Nat}{L:List Ct}{vr:Value}{n:Nat}(ih:∀m,m<n→Wd gb L vr m){S:Nat→Prop}{w:World}{t:Bs}{s:Sx}{g:List Value}{XS:List Sx}(ht:t∉rZ)(hx:Cx gb L vr S w s g)(h:aS L n (.call t s)=some XS):Calls Tryz.prog 38 #[gP gb, .string (au t), .agg g.toArray] w (PsA S w XS):=by
 obtain⟨m',rfl,hs,h1,hO⟩:=fB h
 have e:∀c∈rZ,t≠c:=fun c hc h=>ht (h▸hc)
 have q:∀c∈rZ,((au t).toList==c)=false:=fun c hc=>by rw[mJ,aat];exact e c hc
 have h2:(bu (Dy (aS L m') t s) dU).bind aG=some XS:=by
  have h1:jO L (aS L m') t s=some XS:=h1;unfold jO at h1;rwa[χ (e _ ζ),χ (e _ ζ),χ (e _ ζ),χ (e _ ζ),χ (e _ ζ),χ (e _ ζ),χ (e _ ζ),χ (e _ ζ),χ (e _ ζ),χ (e _ ζ)]at h1
 obtain⟨Z,h3,h4⟩:=Γ.1 h2
 obtain⟨rfl,hl⟩:=eU h4
 have q0:=q _ (show[110,97,109,101]∈rZ by decide)
 have q1:=q _ (show[112,108,97,105,110]∈rZ by decide)
 have q2:=q _ (show[99,111,110,115,116,97,110,116]∈rZ by decide)
 have q3:=q _ (show[115,116,114,105,110,103]∈rZ by decide)
 have q4:=q _ (show[115,112,101,99,115,48]∈rZ by decide)
 have q5:=q _ (show[115,112,101,99,115,49]∈rZ by decide)
 have q6:=q _ (show[101,120,112,114]∈rZ by decide)
 have q7:=q _ (show[97,115,115,105,103,110]∈rZ by decide)
 have q8:=q _ (show[99,104,111,105,99,101]∈rZ by decide)
 have q9:=q _ (show[112,111,115,116,102,105,120]∈rZ by decide)
 clear h h1 h2 h4 e q ht
 have hG:=hx.gx.gb
 have hat:s.af≤100000:=aaT hs.af hG.choose_spec.choose_spec.2.2
 obtain⟨rb,ro,rc,rfl⟩:=hx.gx.rul
 obtain⟨T0,hp0,hbx0,hst⟩:=hx.box
 obtain⟨aE,nE,cE,aK,nK,cK,aC,nC,cC,rfl,hE, -⟩:=hx.st.aj
 have H3:=π h3
 have HL:=π hl
 obtain⟨cz,hcz⟩:∃z,bz L s.af=z:=⟨_,rfl⟩
 have qp:=π hcz
 obtain⟨m0,hm⟩:∃m,w.heap.size=m:=⟨_,rfl⟩
 rw[hm]at hbx0
 have HM:=π hm
 obtain⟨N,hN⟩:∃N,dU.length=N:=⟨_,rfl⟩
 have hNl:N≤1000:=by rw[←hN];decide
 have HN:=π hN
 have HGX:=π hx.gx
 have HX0:=π hx
 rw[hN]at hx
 clear h3 hl hcz hN
 unfold PsA
 go_enter Tryz.func38,Tryz.ntmps38
 go_wp2_with fail
 refine(lT (hG.ext hp0.be) s.af hat).mono ?_
 rintro e w1 ⟨rfl,hb1⟩
 rw[qp.out]
 have hp1:=hp0.call hb1
 have wE:=hbx0.to (aH hb1)
 clear hp0 hbx0 hst
 go_wp2_with fail
 go_loopw [8,9,10,11,12] (fun s8 s9 s10 s11 s12 wr=>∃(i:Nat) (T:Nat→Prop) (acc zr:List Sx),s9= .int .i64 i∧i≤N∧Pw S w T wr∧dW T w.heap.size wr s8 acc∧Bx T wr m0 [.int .i64 s.af, .slice aE nE cE, .slice aK nK cK, .bool s.ty, .slice aC nC cC]∧bu (Dy (aS L m') t s) (dU.drop i)=some zr∧acc++zr=Z) (fun _ s9 _ _ _ _=>N - (intOf s9).toNat)
 case atStart=>exact⟨0,_,[],Z,rfl,Ω _,hp1,dW.nil,wE,H3.out,rfl⟩
 case round=>
  obtain⟨i,T,acc,zr,rfl,hiN,hp,hac,hbx,hz,hzz⟩:=hrel;obtain⟨a8,c8,rfl⟩:=hac.aj;have hgx:=hx.gx.to hp.mG;rw[←HN.out]at hgx;have g0:=hgx.aoB;rw[HN.out]at g0;by_cases hlt:i<N
  case pos=>
   have hi:i<dU.length:=by rw[HN.out];exact hlt
   rw[abv hi]at hz;obtain⟨x1,z1,hx1,hx2,rfl⟩:=mM hz;obtain⟨aA,kA,cA,aK',kK',cK',d0,hA,hK⟩:=HGX.out.at hi;obtain⟨R,hR⟩:∃R,dU[i]=R:=⟨_,rfl⟩;rw[hR]at hx1 hA hK d0;rw[HN.out]at d0
   have hkl:R.mh.length=R.iL.length:=by rw[←hR];exact acg _ (ab2 hi)
   have d1:=d0 wr hp.be;have D0:=π d0;have h1:decide (i<N)=true:=aa4 hlt;have en:=JP R.name t;have wD:=π hx2;have ng:=π hzz;clear hx2 hzz hz d0 hR
   rcases ZO hx1 with⟨hne,rfl⟩|⟨heq,alK⟩
   ·have en2:=en.trans (aat.2 hne)
    clear en hne hx1
    go_wp2_with fail
    go_roundw
    case rel=>exact⟨i+1,_,acc,z1,by go_num,by omega,hp,hac,hbx,wD.out,ng.out⟩
    case measure=>simp[intOf];omega
   ·have en2:=en.trans (aaZ.2 heq)
    have asP:=π alK;clear en heq hx1 alK;obtain⟨wo',rfl⟩:∃W,W=wr:=⟨wr,rfl⟩;obtain⟨hkA,axP⟩:=hA.len;have hkK:=hK.len.1;rw[abz]at hkK;have HKA:=π hkA;have HKK:=π (hkK.trans (hkl.symm.trans hkA.symm));have M3:=π hkl;clear hkA hkK hkl
    go_wp2_with fail
    go_loopw [8,10,11,12] (fun s8 s10 s11 s12 wr=>∃(k:Nat) (T:Nat→Prop) (ac zr:List Sx),s10= .int .i64 k∧k≤kA∧Pw S w T wr∧dW T w.heap.size wr s8 (acc++ac)∧Bx T wr m0 [.int .i64 s.af, .slice aE nE cE, .slice aK nK cK, .bool s.ty, .slice aC nC cC]∧bu (fun p=>((aS L m' (.seq p.1 s.af [{af:=s.af,env:=s.env,ty:=s.ty}])).bind aG).bind fun x=>some (x.map fun r=>bn s r p.2)) ((R.mh.zip R.iL).drop k)=some zr∧ac++zr=x1) (fun _ s10 _ _ _=>kA - (intOf s10).toNat)
    case atStart=>exact⟨0,_,[],x1,rfl,Ω _,hp,by rw[List.append_nil];exact hac,hbx,asP.out,rfl⟩
    case round=>
     obtain⟨k,T2,ac,zr,rfl,hkA,hp,hac,hbx,hz,hzz⟩:=hrel;have hgx:=hx.gx.to hp.mG;rw[←HN.out]at hgx;obtain⟨Q,hQ⟩:∃Q,acc++ac=Q:=⟨_,rfl⟩;rw[hQ]at hac;have HQ:=π hQ;obtain⟨a8,c8,rfl⟩:=hac.aj;by_cases hlt2:k<kA
     case pos=>
      have hkR:k<R.mh.length:=by rw[←HKA.out];exact hlt2
      have hkz:k<(R.mh.zip R.iL).length:=by rw[List.length_zip,←M3.out];omega
      rw[abv hkz]at hz;obtain⟨x2,z2,hx3,hx4,rfl⟩:=mM hz;obtain⟨x3,hx5,hx6⟩:=Γ.1 hx3;obtain⟨x4,hx7,D9⟩:=Γ.1 hx5;obtain⟨rfl,hl4⟩:=eU D9;obtain rfl:=aau hx6;rw[List.getElem_zip]at hx7;have hAT:=hA.to hp.mG;obtain⟨bb,off,ai,ki,ci,rfl,d2,yz⟩:=hAT.at hkR
      have d3:∀u:df wr,_:=fun u=>D0.out u.w (hp.be.trans (u.below.mono hp.be.size))
      have d1:=D0.out wr hp.be;have c0:=hbx.u;have h1:decide (k<kA)=true:=aa4 hlt2;have HX4:=π hx4;have HX7:=π hx7;have alL:=π hzz;clear hx3 hx4 hx5 hx6 hx7 D9 hzz hz hQ
      go_wp2_with fail
      clear d1;refine zy 20 19 ?_;intro K' W hbw eQ;clear d2 d3 c0
      go_wp2_with fail
      refine((ih m' η).seq (s:={af:=s.af,env:=s.env,ty:=s.ty}) (HX0.out.af (hp.on hbw) ⟨_,_,_,rfl,hE.to (hp.on hbw).mG,⟨[],Rw.nil,rfl⟩,Rw.nil⟩) (yz.to (.below hbw)) HX7.out).mono ?_;rintro e w2 h;obtain⟨v,rfl,hb,hr⟩:=h.rq hbw;obtain⟨av,kv,cv,rfl⟩:=hr.aj;clear h
      go_wp2_with fail
      refine eQ.out _ _ ⟨⟨w2,hb⟩,rfl⟩ ?_;have hp2:=hp.call hb;have oJ:=hac.call hb;have uU:=hbx.to (aH hb);obtain⟨P5,asO⟩:=hr.len;have Ki:=π P5;have hok:=(fE HX7.out).2.1.2;have Fg:=π hok;obtain⟨wo2,rfl⟩:∃W,W=w2:=⟨w2,rfl⟩
      have hkK:k<R.iL.length:=by rw[←M3.out];exact hkR
      obtain⟨kq,hkq⟩:∃q,R.iL[k]=q:=⟨_,rfl⟩;have HKQ:=π hkq
      have hlen:Q.length+x4.length≤1000:=by
       have h1:=HL.out;rw[←ng.out,←alL.out]at h1;simp only[Δ,abz]at h1;rw[←HQ.out,Δ];omega
      clear hp hac hbx eQ P5 hkq hok
      go_wp2_with fail
      go_loopw [8,12] (fun s8 s12 wr=>∃(j:Nat) (T3:Nat→Prop),s12= .int .i64 j∧j≤kv∧Pw S w T3 wr∧dW T3 w.heap.size wr s8 (Q++(x4.take j).map fun r=>bn s r kq)∧Bx T3 wr m0 [.int .i64 s.af, .slice aE nE cE, .slice aK nK cK, .bool s.ty, .slice aC nC cC]∧dS T3 wr (.slice av kv cv) x4) (fun _ s12 _=>kv - (intOf s12).toNat)
      case atStart=>exact⟨0,_,rfl,Ω _,hp2,by rw[List.take_zero,acJ,List.append_nil];exact oJ,uU,hr⟩
      case round=>
       obtain⟨j,T3,rfl,hjk,hp,hac,hbx,hr⟩:=hrel;obtain⟨Q2,BN⟩:∃Q2,(Q++(x4.take j).map fun r=>bn s r kq)=Q2:=⟨_,rfl⟩;rw[BN]at hac
       have hQl:Q2.length≤1000:=by rw[←BN,Δ,abz,acn];omega
       have Ko:=π BN;clear BN;obtain⟨a8,c8,rfl⟩:=hac.aj;by_cases hlt3:j<kv
       case pos=>
        have hj:j<x4.length:=by rw[←Ki.out];exact hlt3
        obtain⟨b3,zz,bE3,oE3,dE3,bK3,oK3,dK3,bC3,oC3,dC3,rfl,d2,hxj⟩:=hr.at hj;obtain⟨b4,axQ,rfl,d4⟩:=(hK.to hp.mG).int hkK;rw[HKQ.out]at d4
        have d3:∀u:df wr,_:=fun u=>D0.out u.w (hp.be.trans (u.below.mono hp.be.size))
        have d1:=D0.out wr hp.be;have c0:=hbx.u;have h1:decide (j<kv)=true:=aa4 hlt3;have e7:decide (k<kK')=true:=aa4 (by rw[HKK.out];exact hlt2);have hok:=Fg.out _ (ab2 hj)
        have hkk:k<kK':=by rw[HKK.out];exact hlt2
        go_wp2_with fail
        clear d1;refine C9 19 17 ?_;intro K' W hbw eQ;clear d2 d3 d4 c0
        go_wp2_with fail
        refine(aii (hp.on hbw).lt (HX0.out.st.to (hp.on hbw).mG) (hxj.to (.below hbw)) kq hs.ah hok.ah).mono ?_;rintro e w2 ⟨g',rfl,hb0,hsx⟩;have hb:=hbw.trans (hb0.mono hbw.size);have mH:fJ (gr T3 wr w2) w2 (bn s x4[j] kq) g':=hsx.to (.mono fun b h _=>⟨h.1,h.2.imp id (aaT hbw.size)⟩);obtain⟨sE,tE,uE,sK,tK,uK,sC,tC,uC,rfl, -⟩:=mH.aj;have hrow:=dS.ay 51 rfl mH;have hb3:=ag w2 (.cells #[.int .i64 (bn s x4[j] kq).af, .slice sE tE uE, .slice sK tK uK, .bool (bn s x4[j] kq).ty, .slice sC tC uC] 51);have DX:=(hp.call hb).call hb3;have rO:=(hac.call hb).call hb3
        go_wp2_with fail
        refine eQ.out _ _ ⟨⟨w2,hb⟩,rfl⟩ ?_;intro o2 ho2 K2 hK2;cases ho2;have ji:=π hK2;clear hK2 eQ
        go_wp2_with fail
        refine ji.out _ _ ⟨⟨_,hb.alloc hb.size _⟩,rfl⟩ ?_;refine kX DX (.tmp 153) (.tmp 171) rO hrow (by simp;omega) rfl rfl rfl rfl ?_;intro v3 w3 iU hle3
        go_wp2_with fail
        go_roundw
        case rel=>exact⟨j+1,_,by go_num,by omega,hle3.pw,by rw[abL hj,acb,←Ψ,Ko.out];exact iU,((hbx.to (aH hb)).to (aH hb3)).to hle3.tk,((hr.to (aH hb)).to (aH hb3)).to hle3.tk⟩
        case measure=>simp[intOf];omega
       case neg=>
        have h1:decide (j<kv)=false:=aa5 hlt3
        have hq2:Q2=acc++(ac++x4.map fun r=>bn s r kq):=by rw[←Ko.out,ab1 (by rw[←Ki.out];omega),←HQ.out,Ψ]
        have Bh:=π hq2;clear hq2
        go_wp2_with fail
        go_roundw
        case rel=>exact⟨k+1,_,ac++x4.map (fun r=>bn s r kq),z2,by go_num,by omega,hp,by rw[←Bh.out];exact hac,hbx,HX4.out,by have:=alL.out;simp only[List.getElem_zip,HKQ.out]at this;rw[Ψ];exact this⟩
        case measure=>simp[intOf];omega
     case neg=>
      have h1:decide (k<kA)=false:=aa5 hlt2
      have hz2:ac=x1:=by
       rw[abY (by rw[List.length_zip,←M3.out,←HKA.out];omega)]at hz;rw[rM hz,List.append_nil]at hzz;exact hzz
      have HZ2:=π hz2;have d1:=D0.out wr hp.be;clear hz hzz hz2 hQ
      go_wp2_with fail
      go_roundw
      case rel=>exact⟨i+1,_,acc++x1,z1,by go_num,by omega,hp,by rw[←HZ2.out,HQ.out];exact hac,hbx,wD.out,by rw[Ψ];exact ng.out⟩
      case measure=>simp[intOf];omega
  case neg=>
   have h1:decide (i<N)=false:=aa5 hlt
   have hz2:acc=Z:=by
    rw[abY (by rw[HN.out];omega)]at hz;rw[rM hz,List.append_nil]at hzz;exact hzz
   subst hz2;clear hz hzz
   go_wp2_with fail
   go_ret;exact⟨_,_,rfl,hp,hac⟩
end Go.Proofs.YtlboejdhmggjpaaGreat.Pp.Dr
