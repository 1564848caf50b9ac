import Derived.Test.YtlboejdhmggjpaaGreatXdW
set_option linter.all false
namespace Go.Proofs.YtlboejdhmggjpaaGreat.Pp.Dr
set_option maxRecDepth 100000
set_option maxHeartbeats 8000000
open Go.RowKit Go.BigFrame Go.Proofs.YtlboejdhmggjpaaGreat
theorem GX.new{S:Nat→Prop}{w w1:World}{la:Option Addr}{lc:Nat}{L:List Ct}{vr:Value}{gs:List (List Value)}(hS:∀b,S b→b<w.heap.size)(hL:Rw S 2 w (.slice la L.length lc) (L.map sV))(hl:L.length≤100000)(hb:Below w.heap.size w w1)(h1:Rw (nw N0 w.heap.size) 3 w1 vr gs)(h2:qa (nw N0 w.heap.size) w1 dU gs):∃T,Pw S w T (w1.alloc (.cells #[.slice la L.length lc,vr] 84))∧GX w1.heap.size L vr T (w1.alloc (.cells #[.slice la L.length lc,vr] 84)):=by
 have hp:=((Pw.start hS).call hb).call (ag w1 (.cells #[.slice la L.length lc,vr] 84))
 have hto:To (nw N0 w.heap.size) w1 (gr (gr S w w1) w1 (w1.alloc (.cells #[.slice la L.length lc,vr] 84))) (w1.alloc (.cells #[.slice la L.length lc,vr] 84)):=(To.mono (T:=gr S w w1) fun b h hl=>⟨hl, .inr (h.elim (fun h=>h.elim) id)⟩).trans (aH (ag _ _))
 exact⟨_,hp,la,lc,gs,⟨by simp, .inr (υ _)⟩,rR rfl _ _,((hL.to (aH hb)).to (aH (ag _ _))),h1.to hto,qa.to hto h2,hl⟩
theorem afc{L:List Ct}{k:Nat}{x:Sx}{ts:List Tr}(h:Jo L k x ts):∃q,k=q+1∧((x.af=L.length∧ts=[.mk 1 0 L.length x.ah []])∨(x.af≠L.length∧∃m xs,aS L m (.call [101,120,116,101,114,110,97,108] x)=some xs∧((xs=[]∧ts=[])∨∃r,xs=[r]∧Jo L q r ts))):=by
 cases k with
 |zero=>exact h.elim
 |succ q=>exact⟨q,rfl,h⟩
theorem oM.wo{T:Nat→Prop}{m:Nat}{w:World}{v u:Value}{ts:List Tr}(o:oM T m w v ts)(d:Dj v u):oM (Dr.wo T u) m w v ts:=let ⟨gs,k1,k2⟩:=o;⟨gs,⟨k1.row,fun b hb h=>h.elim (k1.out b hb) fun h=>d b hb h,k1.ay⟩,jZ.to xP k2⟩
theorem oM.fw{S T:Nat→Prop}{w0 w:World}{v:Value}{ts:List Tr}(o:oM T w0.heap.size w v ts)(p:Pw S w0 T w):l5 (gr S w0 w) w v ts:=by
 obtain⟨gs,h1,h2⟩:=o
 refine⟨gs,h1.rw fun b hb=>?_,jZ.to (.mono fun b hb hl=>⟨hl,p.up b hb⟩) h2⟩
 have:=World.ownsRow.lt h1.row b hb
 exact⟨this.2, .inr this.1⟩
theorem U6{S:Nat→Prop}{w:World}{la:Option Addr}{lc:Nat}{L:List Ct}{n:Nat}{TS:List Tr}(hS:∀b,S b→b<w.heap.size)(hL:Rw S 2 w (.slice la L.length lc) (L.map sV))(hl:L.length≤100000)(hd:Jo L n {af:=0,env:=[[]]} TS):Calls Tryz.prog 13 #[.slice la L.length lc] w fun e w'=>∃v,e= .returned v∧Below w.heap.size w w'∧l5 (gr S w w') w' v TS:=by
 have HD:=π hd
 obtain⟨nl,hnl⟩:∃n,L.length=n:=⟨_,rfl⟩
 have zK:=π hnl
 have HL:=π hL
 rw[hnl]at hl
 clear hd hnl hL
 rw[zK.out]
 go_enter Tryz.func13,Tryz.ntmps13
 go_wp2_with fail
 refine(anm la nl lc).mono ?_
 rintro e w1 ⟨vr,gs,rfl,hb1,h1,h2⟩
 obtain⟨T,hp,hg⟩:=GX.new hS HL.out (by rw[zK.out];exact hl) hb1 h1 h2
 obtain⟨gb,hgb⟩:∃m,w1.heap.size=m:=⟨_,rfl⟩
 rw[zK.out]at hp hg
 obtain⟨aV,kV,cV,rfl⟩:=h1.aj
 obtain⟨w2,hw2⟩:∃W,w1.alloc (.cells #[.slice la nl lc, .slice aV kV cV] 84)=W:=⟨_,rfl⟩
 rw[hw2,hgb]at hg
 rw[hw2]at hp
 have HW2:=π hw2
 have HGB:=π hgb
 clear h1 h2 hw2 hgb
 go_wp2_with fail
 rw[HW2.out,HGB.out]
 have hs2:w2.heap.size=gb+1:=by rw[←HW2.out,←HGB.out];simp
 have afd:nZ (gr T w2 (w2.alloc (.cells #[.slice none 0 0] 33))) (w2.alloc (.cells #[.slice none 0 0] 33)) (.slice (some ⟨gb+1,0,none⟩) 1 1) [[]]:=⟨[[.slice none 0 0]],Rw.kJ (g:=[.slice none 0 0]) 33 hs2 ⟨by simp;omega, .inr η⟩ ⟨rfl,fun u hu=>by rw[Φ.1 hu];rfl⟩,_,[],rfl,Rw.nil,rfl⟩
 have hp3:=hp.call (ag w2 (.cells #[.slice none 0 0] 33))
 have hg3:=hg.to (aH (ag w2 (.cells #[.slice none 0 0] 33)))
 have hs3:=l7 hs2 (.cells #[.slice none 0 0] 33)
 obtain⟨w3,hw3⟩:∃W,w2.alloc (.cells #[.slice none 0 0] 33)=W:=⟨_,rfl⟩
 rw[hw3]at afd hp3 hg3 hs3⊢
 have hsx:fJ (gr T w2 w3) w3 {af:=0,env:=[[]]} [.int .i64 0, .slice (some ⟨gb+1,0,none⟩) 1 1, .slice none 0 0, .bool false, .slice none 0 0]:=⟨_,_,_,rfl,afd,⟨[],Rw.nil,rfl⟩,Rw.nil⟩
 have hfr:=dS.ay 51 hs3 hsx
 have Mw:=hp3.call (ag w3 (.cells #[.int .i64 0, .slice (some ⟨gb+1,0,none⟩) 1 1, .slice none 0 0, .bool false, .slice none 0 0] 51))
 have hg4:=hg3.to (aH (ag w3 (.cells #[.int .i64 0, .slice (some ⟨gb+1,0,none⟩) 1 1, .slice none 0 0, .bool false, .slice none 0 0] 51)))
 clear hw3 hsx afd hp3 hg3 hs2 hs3 hp hg
 go_loopg [4,5,6,7,8] n (fun q s4 s5 s6 s7 s8 wr=>∃(T:Nat→Prop) (fr:List Sx) (fZ:List Tr),Pw S w T wr∧GX gb L (.slice aV kV cV) T wr∧dS T wr s4 fr∧oM T w.heap.size wr s5 fZ∧((∃x,fr=[x]∧fZ=[]∧Jo L q x TS)∨(fr=[]∧fZ=TS)))
 case atStart=>exact⟨_,_,[],Mw,hg4,hfr,oM.nil, .inl ⟨_,rfl,rfl,HD.out⟩⟩
 case round=>
  obtain⟨T1,fr,fZ,hp,hg,hfr,hac,hcase⟩:=hrel;obtain⟨a5,c5,rfl⟩:=hac.aj;obtain⟨a4,k4,c4,rfl⟩:=hfr.aj;have hk4:=hfr.len.1
  rcases hcase with⟨x,rfl,rfl,huc⟩|⟨rfl,rfl⟩
  case inr=>
   obtain rfl:k4=0:=hk4
   go_wp2_with fail
   go_ret;exact⟨_,rfl,hp.be,hac.fw hp⟩
  case inl=>
   obtain rfl:k4=1:=hk4;obtain⟨q,rfl,huc⟩:=afc huc;have HUC:=π huc;clear huc;obtain⟨wo',rfl⟩:∃W,W=wr:=⟨wr,rfl⟩
   go_wp2_with fail
   go_loopw [5,6,7,8] (fun s5 s6 s7 s8 wr=>∃(i:Nat) (T:Nat→Prop) (fZ:List Tr) (GL:List Sx),s7= .int .i64 (i:Nat)∧i≤1∧Pw S w T wr∧GX gb L (.slice aV kV cV) T wr∧dS T wr (.slice a4 1 c4) [x]∧oM T w.heap.size wr s5 fZ∧dW T w.heap.size wr s6 GL∧Dj s5 s6∧((i=0∧fZ=[]∧GL=[])∨(i=1∧((∃r,GL=[r]∧fZ=[]∧Jo L q r TS)∨(GL=[]∧fZ=TS))))) (fun _ _ s7 _ _=>1 - (intOf s7).toNat)
   case atStart=>exact⟨0,_,[],[],by go_num,by decide,hp,hg,hfr,hac,dW.nil,(fun _ _ h=>(by cases h)), .inl ⟨rfl,rfl,rfl⟩⟩
   case round=>
    obtain⟨i,T2,fZ,GL,rfl,hi,hp,hg,hfr,hac,hnx,hdj,hst⟩:=hrel
    rcases hst with⟨rfl,rfl,rfl⟩|⟨rfl,hst⟩
    case inr=>
     obtain⟨a5',c5',rfl⟩:=hac.aj;obtain⟨a6,c6,rfl⟩:=hnx.aj;have HST:=π hst;clear hst
     go_wp2_with fail
     go_roundg q
     case measure=>omega
     case rel=>exact⟨_,GL,fZ,(hnx.lF hp).1,hg.to xP,(hnx.lF hp).2,hac.wo hdj,HST.out.imp id id⟩
    case inl=>
     obtain⟨a5',c5',rfl⟩:=hac.aj;obtain⟨a6,c6,rfl⟩:=hnx.aj;obtain⟨b2,sZ,bE,oE,dE,bK,oK,dK,bC,oC,dC,rfl,d1,hxi⟩:=hfr.at (i:=0) ν;have d0:=d1 (df.oH _);dsimp only[df.oH,df.w,List.getElem_cons_zero]at d0 hxi;simp only[Nat.zero_mul,Nat.add_zero]at d0;by_cases hxl:x.af=L.length
     case pos=>
      have e3:((x.af:Int)==(nl:Int))=true:=by rw[aaZ,hxl,zK.out]
      have hTS:TS=[.mk 1 0 nl x.ah []]:=by rw[←zK.out];exact HUC.out.elim (fun h=>h.2) fun h=>absurd hxl h.1
      have htr:kF T2 wr (.mk 1 0 nl x.ah []) [.int .i64 1, .int .i64 0, .int .i64 nl, .slice bK oK dK, .slice none 0 0]:=⟨_,_,_,rfl,hxi.lG.2.1.choose_spec.1,hxi.lG.2.1.choose_spec.2,Rw.nil⟩;have iq:=ag wr (.cells #[.int .i64 1, .int .i64 0, .int .i64 nl, .slice bK oK dK, .slice none 0 0] 35);have hrow:=l5.kJ (S:=gr T2 wr (wr.alloc (.cells #[.int .i64 1, .int .i64 0, .int .i64 nl, .slice bK oK dK, .slice none 0 0] 35))) (m:=wr.heap.size) 35 rfl ⟨by simp, .inr (υ _)⟩ (htr.to (T:=gr T2 wr (wr.alloc (.cells #[.int .i64 1, .int .i64 0, .int .i64 nl, .slice bK oK dK, .slice none 0 0] 35))) (.mono fun b hb hl=>⟨abB hl iq.size, .inl hb⟩));have HTS:=π hTS;clear hxl hTS htr d1
      go_wp2_with (first
       |(at_builtin;refine XI (hp.call iq) (.tmp 31) (.tmp 40) (hac.call iq) hrow ν rfl rfl rfl rfl ?_
         intro v3 w3' Bj U7;obtain⟨a7,c7,rfl⟩:=Bj.aj
         have nx3:=(hnx.call iq).rU U7 hdj.symm)
       |fail)
      go_roundw
      case rel=>exact⟨1,_,_,[],by go_num,by decide,U7.pw,(hg.to (aH iq)).to U7.tk,(hfr.to (aH iq)).to U7.tk,Bj,nx3.1,nx3.2.symm, .inr ⟨rfl, .inr ⟨rfl,by rw[HTS.out];rfl⟩⟩⟩
      case measure=>simp[intOf]
     case neg=>
      have e3:((x.af:Int)==(nl:Int))=false:=by rw[aat];have:=zK.out;omega
      obtain⟨mm,xs,hden,hxs⟩:∃m xs,aS L m (.call [101,120,116,101,114,110,97,108] x)=some xs∧((xs=[]∧TS=[])∨∃r,xs=[r]∧Jo L q r TS):=HUC.out.elim (fun h=>absurd h.1 hxl) fun h=>h.2
      have HDE:=π hden;have HXS:=π hxs
      have ax1:xs.length≤1:=hxs.elim (fun h=>by rw[h.1];decide) fun⟨r,h,_⟩=>by rw[h];exact υ 1
      clear hxl hden hxs d1
      go_wp2_with fail
      refine((anb mm).call ⟨hp.lt,hg,hxi⟩ HDE.out).mono ?_;rintro e w5 ⟨v,rfl,hb5,yo⟩;obtain⟨ar,kr,cr,rfl⟩:=yo.aj
      go_wp2_with (first
       |(at_builtin;refine kX (hp.call hb5) (.tmp 47) (.tmp 48) (hnx.call hb5) yo (by simp;omega) rfl rfl rfl rfl ?_
         intro v6 w6 nx6 le6;obtain⟨a7,c7,rfl⟩:=nx6.aj
         have ac6:=(hac.call hb5).rU le6 hdj)
       |fail)
      go_roundw
      case rel=>exact⟨1,_,[],_,by go_num,by decide,le6.pw,(hg.to (aH hb5)).to le6.tk,(hfr.to (aH hb5)).to le6.tk,ac6.1,nx6,ac6.2, .inr ⟨rfl,HXS.out.elim (fun h=> .inr ⟨by rw[h.1];rfl,h.2.symm⟩) fun⟨r,h1,h2⟩=> .inl ⟨r,by rw[h1];rfl,rfl,h2⟩⟩⟩
      case measure=>simp[intOf]
end Go.Proofs.YtlboejdhmggjpaaGreat.Pp.Dr
