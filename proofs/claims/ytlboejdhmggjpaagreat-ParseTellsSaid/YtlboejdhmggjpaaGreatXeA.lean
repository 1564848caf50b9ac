import Derived.Test.YtlboejdhmggjpaaGreatXdZ
set_option linter.all false
namespace Go.Proofs.YtlboejdhmggjpaaGreat.Pp.Dr
set_option maxRecDepth 100000
set_option maxHeartbeats 16000000
open Go.RowKit Go.BigFrame Go.Proofs.YtlboejdhmggjpaaGreat
theorem ant:(Tryz.prog.info? 54).map (fun i=>(i.zero,i.size,i.bytes))=some (some (.agg #[.int .i64 0, .string ⟨#[]⟩]),2,24):=by kernel_rfl
theorem Rw.Gc{w:World}{la:Option Addr}{lc:Nat}{L:List Ct}(h:oV 2 sV w la L)(hnil:la=none→L=[]∧lc=0)(hcap:L.length≤lc)(hm:L.length≤maxLen):Rw (fun b=>b<w.heap.size) 2 w (.slice la L.length lc) (L.map sV):=by
 refine⟨la,lc,by rw[abz],fun e=>⟨by rw[(hnil e).1];rfl,(hnil e).2⟩,?_,fun g hg=>?_,by rw[abz];exact hm,by rw[abz];exact hcap⟩
 ·rcases h with rfl|⟨b,off,rfl,hl,hc⟩
  ·exact .inl rfl
  ·exact .inr ⟨b,off,rfl,hl,hl,fun i hi=>by rw[agk];exact hc i (by simpa using hi)⟩
 ·obtain⟨t, -,rfl⟩:=abt.1 hg
  exact⟨rfl,fun u hu=>by simp[sV]at hu;rcases hu with rfl|rfl<;>rfl⟩
theorem jr.lY{T:Nat→Prop}{m:Nat}{w:World}{v:Value}{ns:List Nd}(o:jr T m 38 4 w v (ns.map jX)):w.ownsRow m 38 4 v ns.length (ns.flatMap jX):=by
 have:=o.row
 rw[abz]at this
 rw[List.flatMap_def];exact this
theorem U9{w w':World}{m e size:Nat}{v:Value}{n:Nat}{xs:List Value}(h:w.ownsRow m e size v n xs)(hs:∀b,v.ownBlock=some b→w'.heap[b]? =w.heap[b]?):w'.ownsRow m e size v n xs:=by
 obtain⟨h1,h2⟩:=h
 refine⟨h1,h2.imp id ?_⟩
 rintro⟨g,cap,cur,rfl,k1,k2,k3⟩
 exact⟨g,cap,cur,rfl,k1,(hs g rfl).trans k2,k3⟩
theorem abo(L:List Ct)(la:Option Addr)(lc:Nat)(w:World)(hrow:oV 2 sV w la L)(hnil:la=none→L=[]∧lc=0)(hcap:L.length≤lc)(htx:∀t∈L,t.t.length≤maxLen)(hbig:L.length≤maxLen):
  Calls Tryz.prog 3 #[.slice la L.length lc] w fun e w'=>e= .returned (.bool true)∧Below w.heap.size w w':=by
 have hR:=Rw.Gc hrow hnil hcap hbig
 have HG:=π (afg L la lc w hrow (by unfold maxLen at hbig;omega))
 obtain⟨n,hn⟩:∃n,L.length=n:=⟨_,rfl⟩
 have Xu:=π htx
 have HN:=π hn
 have HR:=π hR
 rw[hn]at hbig⊢
 rw[hn]at HG
 clear hrow hnil hcap htx hn hR
 go_enter Tryz.func3,Tryz.ntmps3
 go_wp2_with fail
 refine HG.out.mono ?_
 rintro e w1 ⟨z,rfl,hb1,hz⟩
 cases z with
 |true=>
  go_wp2_with fail
  go_ret;exact⟨rfl,hb1⟩
 |false=>
  obtain⟨h20,hd⟩:=hz rfl;clear hz;have hp1:=(Pw.start (S:=fun b=>b<w.heap.size) fun b h=>h).call hb1;have hr1:=HR.out.to (aH hb1);have iq:=ag w1 (.cells #[] 54)
  have hown:jr (gr (fun b=>b<w.heap.size) w w1) w.heap.size 54 2 (w1.alloc (.cells #[] 54)) (.slice (some ⟨w1.heap.size,0,none⟩) 0 0) []:=
   ⟨⟨rfl, .inr ⟨w1.heap.size,0,#[],rfl,hb1.size,dz _ _ _,υ _,Ω _,rfl,rfl⟩⟩,fun b hb h=>by cases hb;exact agn _ h.1,fun _ h=>(by cases h)⟩
  have hr2:=hr1.to (.below iq);rw[HN.out]at hr2 hr1;have HR1:=π hr1;clear hr1
  go_wp2_with (first
   |(at_builtin;refine xH ant Tryz.underlying22 rfl ζ ζ (hp1.on iq) (.tmp 13) (.tmp 14) hown hr2 (by have:=HN.out;simp;omega) rfl rfl rfl rfl ?_
     intro v3 w3 ow3 U7;obtain⟨p3o,r3o⟩:=ow3.lF U7.pw (υ _)
     have q3o:=(hr2.to U7.tk).to (xP (v:=v3)))
   |fail)
  obtain⟨T3,p3,r3,q3⟩:∃T,Pw (fun b=>b<w.heap.size) w T w3∧Rw T 2 w3 v3 (L.map sV)∧Rw T 2 w3 (.slice la n lc) (L.map sV):=⟨_,p3o,by simpa using r3o,q3o⟩;clear p3o r3o q3o ow3;obtain⟨a3,k3,c3,rfl⟩:=r3.aj
  obtain rfl:n=k3:=by have:=r3.len.1;rw[abz,HN.out]at this;exact this.symm
  have hl3:L.length≤100000:=by rw[HN.out];omega
  have hrow3:=r3.row;have HP:=π (Uk L a3 c3 w3 hrow3 hl3 Xu.out);rw[HN.out]at HP;have p3':=p3.be;have p3l:=p3.lt;have HR3:=π r3;have Bh:=π q3;clear hown hr2 iq hp1 hrow3 r3 q3
  go_wp2_with fail
  refine HP.out.mono ?_;rintro e w4 ⟨v4,z4,rfl,hb4,hcs⟩;have r4:=HR3.out.to (.below hb4);have q4:=Bh.out.to (.below hb4);have p4:=p3.on hb4
  obtain⟨a4,n4,c4,rfl⟩:∃a n c,v4= .slice a n c:=by
   rcases hcs with⟨-,rfl, -⟩|⟨-, -,rfl, -⟩|⟨P, -, -, -,ho⟩
   ·exact⟨_,_,_,rfl⟩
   ·exact⟨_,_,_,rfl⟩
   ·obtain⟨a,c,h⟩:=fF ho;exact⟨_,_,_,h⟩
  have HSM:=π (acT L a3 la c3 lc w4 r4.row q4.row hl3);rw[HN.out]at HSM;have HCS:=π hcs;have wU:=π hb4;clear hcs hb4
  go_wp2_with fail
  refine HSM.out.mono ?_;rintro e w5 ⟨rfl,hb5⟩;have q5:=q4.to (.below hb5);have HD:=π (Xv L la lc w5 (by have h:=q5.row;exact h) hl3);rw[HN.out]at HD;have p5:=p4.on hb5
  go_wp2_with fail
  refine HD.out.mono ?_;rintro e w6 ⟨rfl,hb6⟩;obtain⟨d,hdd⟩:∃d,xA L 0 0=d:=⟨_,rfl⟩;rw[hdd]at hd⊢;have p6:=p5.on hb6;have q6:=q5.to (.below hb6);have HQ6:=π q6;have Ff:=π hdd;clear r4 q4 q5 p3 p4 p5 hdd q6;by_cases CV:256<d
  case pos=>
   have e1:decide ((256:Int)<d)=true:=by rw[abC];omega
   have hdl:mg L 0=true:=Dq L 0 0 ζ ζ (by rw[Ff.out];exact CV)
   obtain⟨hv,DZ⟩:(Value.slice a4 n4 c4=eB)∧z4=111:=by
    rcases HCS.out with⟨-,h1,h2⟩|⟨h, -⟩|⟨P,h, -⟩
    ·exact⟨h1,h2⟩
    ·rw[hdl]at h;cases h
    ·rw[hdl]at h;cases h
   obtain⟨rfl,rfl,rfl⟩:=Value.slice.inj hv;subst DZ;clear hdl hv
   go_wp2_with fail
   go_ret;exact⟨rfl,p6.be⟩
  case neg=>
   have e1:decide ((256:Int)<d)=false:=by rw[ach];omega
   have hdl:mg L 0=false:=zV L 0 0 (by rw[Ff.out];omega);have h80:n≤80:=hd.resolve_left CV
   rcases VX L (by rw[HN.out];omega)with⟨hpn,N,huc⟩|⟨P,N,t,y7,huc,hPt,hPl⟩
   ·have DZ:Value.slice a4 n4 c4=eB∧z4=110:=by
     rcases HCS.out with⟨h, -⟩|⟨-, -,h1,h2⟩|⟨P, -,h, -⟩
     ·rw[hdl]at h;cases h
     ·exact⟨h1,h2⟩
     ·rw[hpn]at h;cases h
    obtain⟨hv,rfl⟩:=DZ;obtain⟨rfl,rfl,rfl⟩:=Value.slice.inj hv;have HU:=π (U6 (TS:=[]) p6.lt (by rw[HN.out];exact HQ6.out) hl3 huc);rw[HN.out]at HU;clear hv hdl hpn huc
    go_wp2_with fail
    refine HU.out.mono ?_;rintro e w7 ⟨v7,rfl,tF,hts⟩;obtain⟨a7,k7,c7,rfl⟩:=hts.aj
    obtain rfl:k7=0:=by obtain⟨gs,h1,h2⟩:=hts;have h3:gs=[]:=h2;have:=h1.len.1;rw[h3]at this;exact this
    have hbf:=p6.be.trans (tF.mono p6.be.size)
    go_wp2_with fail
    go_ret;exact⟨rfl,hbf⟩
   ·obtain⟨DZ,ho4⟩:z4=0∧w4.ownsRow w3.heap.size 38 4 (.slice a4 n4 c4) P.length (P.flatMap jX):=by
     rcases HCS.out with⟨h, -⟩|⟨-,h, -⟩|⟨P', -,h1,h2,h3⟩
     ·rw[hdl]at h;cases h
     ·rw[y7]at h;cases h
     ·rw[y7]at h1;cases h1;exact⟨h2,h3⟩
    subst DZ
    have hPp:0<P.length:=by rw[hPt];exact Jp t
    have hPb:P.length≤1000:=by have:=HN.out;omega
    obtain⟨ga,ca,e4,atA,atB, -⟩:=pV ho4 hPp;obtain⟨rfl,rfl,rfl⟩:=Value.slice.inj e4;have HU:=π (U6 (TS:=[t]) p6.lt (by rw[HN.out];exact HQ6.out) hl3 huc);rw[HN.out]at HU;obtain⟨NP,hNP⟩:∃n,P.length=n:=⟨_,rfl⟩;have HO4:=π ho4;have XM:=π hNP;rw[hNP]at hPp hPb⊢;have HPT:=π hPt;have IQ:=π y7;clear e4 hdl y7 huc ho4 hNP hPt hPl
    go_wp2_with fail
    refine HU.out.mono ?_;rintro e w7 ⟨v7,rfl,tF,hts⟩;obtain⟨a7,k7,c7,rfl⟩:=hts.aj
    obtain rfl:k7=1:=by obtain⟨gs,h1,h2⟩:=hts;exact h1.len.1.trans h2.len
    have p7:=p6.call tF;obtain⟨-,b7,o7,tK,nK,cK,tD,nD,cD,rfl,d0,htr⟩:=hts.first ν;have d1:=d0 (df.oH _);dsimp only[df.oH,df.w,List.headD_cons]at d1 htr;have MV:=π (U8 NP (t:=t) (by rw[←HPT.out,XM.out];exact υ _) η p7.lt htr);clear d0 hts htr
    go_wp2_with fail
    refine MV.out.mono ?_;rintro e w8 ⟨vb,T8,rfl,q8,o8⟩;have gW:=q8.be;have hb48:Below w4.heap.size w4 w8:=hb5.trans ((hb6.trans ((tF.trans (gW.mono tF.size)).mono hb6.size)).mono hb5.size);have ho8:=gI HO4.out hb48
    have hob:w8.ownsRow w7.heap.size 38 4 vb P.length (P.flatMap jX):=by have:=o8.lY;rw[←HPT.out]at this;exact this
    have afh:=p7.be.trans (gW.mono p7.be.size);obtain⟨ab,cb,rfl⟩:=fF hob;have anz:=π (Xx P _ _ _ _ w8 ho8 hob (by rw[XM.out];omega));rw[XM.out]at anz⊢;have HOB:=π hob;have HO8:=π ho8;clear d1 ho8 hob o8 q8
    go_wp2_with fail
    refine anz.out.mono ?_;rintro e w9 ⟨rfl,j4⟩;have ho9:=gI HO8.out j4;have anA:=gI HOB.out j4;have anB:=afh.trans (j4.mono afh.size);have anC:=hb48.trans (j4.mono hb48.size)
    obtain⟨atC,hc0,YL⟩:∃cur:Array Value,w9.heap[ga]? =some (.cells cur 38 (0,0))∧NP*4≤cur.size:=by
     rcases ho9.2 with⟨h, -⟩|⟨g,cap,cur,h, -,h1,h2, -,h3, -⟩
     ·cases h
     ·cases h
      exact⟨cur,h1,by rw[h3,←XM.out];exact age _ h2⟩
    have anD:=π anA;have atD:=π anB;have atE:=π anC;have hgw:w.heap.size≤ga:=aaT p3'.size atA;have hg7:ga<w7.heap.size:=abB atB (aaT hb5.size (aaT hb6.size tF.size));clear ho9 anA anB anC hb48 afh
    go_wp2_with fail
    go_loopw [8] (fun s8 wr=>∃(i:Nat) (cur:Array Value),s8= .int .i64 (i:Nat)∧i≤NP∧wr.heap[ga]? =some (.cells cur 38 (0,0))∧NP*4≤cur.size∧wr.heap.size=w9.heap.size∧(∀k,k≠ga→wr.heap[k]? =w9.heap[k]?)∧Below w.heap.size w wr) (fun s8 _=>NP - (intOf s8).toNat)
    case atStart=>exact⟨0,atC,by go_num,Ω _,hc0,YL,rfl,fun _ _=>rfl,atD.out⟩
    case round=>
     obtain⟨i,cur,rfl,hi,hc,hcs,hsz,hot,hbe⟩:=hrel;by_cases hlt:i<NP
     case pos=>
      have e5:decide (i<NP)=true:=aa4 hlt;have HOT:=π hot;have HBE:=π hbe;have HC:=π hc
      have hbt:Tryz.prog.built 38 [(0,Value.int .i64 (-7))]=some #[.int .i64 (-7), .int .i64 0, .int .i64 0, .int .i64 0]:=by kernel_rfl
      clear hot hbe hc
      go_wp2_with (first
       |(refine wpList_build rfl 38 _ rfl (by simp[Act.eval,hbt]) ?_)
       |(refine qV rfl 38 (.tmp 73) (.tmp 72) rfl ga (i*4) rfl [.int .i64 (-7), .int .i64 0, .int .i64 0, .int .i64 0] rfl cur 38 HC.out (by simp;omega) (by intro v hv;simp at hv;rcases hv with rfl|rfl|rfl|rfl<;>rfl) (by kernel_rfl) ?_
         simp only[Act.put];obtain⟨cur',ag3⟩:∃c,(List.take (i*4) cur.toList++Value.int .i64 (-7)::Value.int .i64 0::Value.int .i64 0::Value.int .i64 0::List.drop (i*4+4) cur.toList).toArray=c:=⟨_,rfl⟩;have anE:=π ag3
         clear ag3)
       |fail)
      have hcz:NP*4≤cur'.size:=by rw[←anE.out];simp;omega
      have Fe:=setRow_heap wr ga cur cur' 38 (0,0) HC.out;have anF:=below_setRow HBE.out hgw cur'
      have anG:=fun k (hk:k≠ga)=>(setRow_other wr ga k cur' hk).trans (HOT.out k hk)
      have XH:(wr.setRow ga cur').heap.size=wr.heap.size:=by simp
      have HS9:=π Fe;have atF:=π anF;have atG:=π anG;have HZ9:=π XH;clear Fe anF anG XH
      go_roundw
      case rel=>
       cases anE.out;exact⟨i+1,_,by go_num,by omega,HS9.out,hcz,HZ9.out.trans hsz,atG.out,atF.out⟩
      case measure=>simp[intOf];omega
     case neg=>
      have e5:decide (i<NP)=false:=aa5 hlt;have rl:=(HR3.out.to (.below wU.out)).to (.below atE.out);have htl:To T3 w9 T3 wr:=⟨acf hsz.symm,fun b hb _=>⟨hot b fun e=>by subst e;have:=p3l b hb;omega,hb⟩⟩;have nJ:=π (Uk L a3 c3 wr (rl.to htl).row hl3 Xu.out);rw[HN.out]at nJ
      have anH:=U9 anD.out (w':=wr) fun b hb=>hot b fun e=>by
       subst e;have:=(World.ownsRow.lt anD.out b hb).1;omega
      have atH:=π anH;have HBE:=π hbe;clear hot hbe hc rl htl anH
      go_wp2_with fail
      refine nJ.out.mono ?_;rintro e wA ⟨vA,zA,rfl,hbA,hcA⟩
      have hoA:wA.ownsRow wr.heap.size 38 4 vA P.length (P.flatMap jX):=by
       have hdl:mg L 0=false:=zV L 0 0 (by rw[Ff.out];omega)
       rcases hcA with⟨h, -⟩|⟨-,h, -⟩|⟨P', -,h1,h2,h3⟩
       ·rw[hdl]at h;cases h
       ·rw[IQ.out]at h;cases h
       ·rw[IQ.out]at h1;cases h1;exact h3
      obtain⟨aA,cA,rfl⟩:=fF hoA;have anJ:=π (Xx P _ _ _ _ wA hoA (gI atH.out hbA) (by rw[XM.out];omega));rw[XM.out]at anJ⊢;have PY:=HBE.out.trans (hbA.mono HBE.out.size);clear hoA hcA
      go_wp2_with fail
      refine anJ.out.mono ?_;rintro e wB ⟨rfl,rT⟩
      go_wp2_with fail
      go_ret;exact⟨rfl,PY.trans (rT.mono PY.size)⟩
end Go.Proofs.YtlboejdhmggjpaaGreat.Pp.Dr
