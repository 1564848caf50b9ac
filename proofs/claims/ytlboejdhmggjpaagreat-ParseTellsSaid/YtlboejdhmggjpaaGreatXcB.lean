import Derived.Test.YtlboejdhmggjpaaGreatXcA
set_option linter.all false
namespace Go.Proofs.YtlboejdhmggjpaaGreat.Pp.Dr
set_option maxRecDepth 100000
set_option maxHeartbeats 16000000
open Go.RowKit Go.BigFrame Go.Proofs.YtlboejdhmggjpaaGreat
theorem P8{t u:Bs}(ht:t=u)(d:Bs)(h:(u==d)=true:=by decide):((au t).toList==d)=true:=by rw[mJ,ht];exact h
theorem zD{t u:Bs}(ht:t=u)(d:Bs)(h:(u==d)=false:=by decide):((au t).toList==d)=false:=by rw[mJ,ht];exact h
theorem P9{t:Bs}(d:Bs)(h:¬t=d):((au t).toList==d)=false:=by rw[mJ,aat];exact h
theorem bwS{T:Nat→Prop}{w:World}{o:Obj}{v:Value}{xs:List Sy}(_:zx T (w.alloc o) v xs):Below w.heap.size w (w.alloc o):=ag w o
theorem aeV(t:Bs):(au t).extract 1 t.length=au t.tail:=by
 have:=aiP (au t) 1
 rw[ko,nG,List.drop_one]at this
 exact this
theorem Ck:∀{n:Nat} {ws:List Bs} {i:Nat} {kC:List (List Sy)} {a:List Sy} {bs:List (List Sy)} {j:Nat},xq n ws i kC a=some (bs,j)→i≤j
 |0,_,_,_,_,_,_,h=>(by cases h)
 |n+1,ws,i,kC,a,bs,j,h=>by
  unfold xq at h
  split at h
  ·cases h
  split at h
  ·cases h;exact υ _
  split at h
  ·cases h;exact υ _
  split at h
  ·exact Nat.le_of_succ_le (Ck h)
  split at h
  ·obtain⟨p,h1,h2⟩:=Γ.1 h
   have h3:=Ck (bs:=p.1) (j:=p.2) h1;have h4:=Ck h2;omega
  split at h
  ·exact Nat.le_of_succ_le (Ck h)
  ·exact Nat.le_of_succ_le (Ck h)
theorem JU(N:Nat):∀{S:Nat→Prop} {w:World} {v:Value} {ws:List Bs} {i:Nat} {bs:List (List Sy)} {j:Nat},(∀b,S b→b<w.heap.size)→Rw S 1 w v (ws.map yw)→(∀t∈ws,t≠[]∧t.length≤1000)→ws.length≤1000→N≤1000→xq N ws i [] []=some (bs,j)→Calls Tryz.prog 93 #[v, .int .i64 (i:Nat)] w (PsS S w bs j):=by
 induction N using Nat.strongRecOn with
 |ind N IH=>
 intro S w v ws i bs j hS hr hws hl hN h
 obtain⟨aW,kW,cW,rfl⟩:=hr.aj
 have hk:kW=ws.length:=hr.len.1.trans (by rw[abz])
 have hkl:kW≤1000:=by omega
 have HK:=π hk
 have HR:=π hr
 have HWS:=π hws
 have HL:=π hl
 have H:=π h
 clear hk hr hws hl h
 go_enter Tryz.func93,Tryz.ntmps93
 obtain⟨K0,pW⟩:∃K0,K0=bodyPost Tryz.prog Tryz.f93 (PsS S w bs j):=⟨_,rfl⟩
 rw[←pW]
 have je:=π pW
 clear pW
 go_wp2_with fail
 go_loopw [1,6,7] (fun s1 s6 s7 wr=>∃(q n:Nat) (kC:List (List Sy)) (a:List Sy) (T:Nat→Prop),s1= .int .i64 (q:Int)∧xq n ws q kC a=some (bs,j)∧kC.length+n≤N∧a.length+n≤N∧Pw S w T wr∧qR T w.heap.size wr s6 kC∧zC T w.heap.size wr s7 a∧Dj s6 s7) (fun s1 _ _ _=>(1001 - intOf s1).toNat)
 case atStart=>exact⟨i,N,[],[],S,rfl,H.out,by simp,by simp,Pw.start hS,qR.nil,zC.nil,fun b h=>(by cases h)⟩
 case round=>
  obtain⟨q,n,kC,a,T,rfl,hz,hla,hlb,hp,hL,hY,hd⟩:=hrel
  cases n with
  |zero=>cases hz
  |succ n=>
  unfold xq at hz
  have hq:q≤1000:=by
   apply Nat.le_of_not_lt;intro h9;rw[ω h9]at hz;cases hz
  rw[χ η]at hz;obtain⟨a6,c6,rfl⟩:=hL.aj;obtain⟨a7,c7,rfl⟩:=hY.aj
  have e0:((q+1:Nat):Int)=(q:Int)+1:=by omega
  by_cases hlt:q<kW
  case neg=>
   have h1:decide (q<kW)=false:=aa5 hlt;rw[acO (by rw[←HK.out];omega)]at hz;cases hz;obtain⟨hp1,Di,hL1⟩:=hY.UT hp hL hd;have hone:=Di.ay (m:=wr.heap.size) rfl;have iq:=ag wr (.cells #[.slice a7 a.length c7] 127);have hp2:=hp1.call iq;have hL2:=hL1.call iq
   go_wp2_with (first
    |(at_builtin;refine JS hp2 (.tmp 89) (.tmp 91) hL2 hone (by simp;omega) rfl rfl rfl rfl ?_
      intro v3 w3 Bj hle3)
    |fail)
   rw[je.out]
   go_ret2
   exact⟨_,rfl,hle3.pw.be,Bj.fw hle3.pw⟩
  case pos=>
   have h1:decide (q<kW)=true:=aa4 hlt
   have UU:q<ws.length:=by rw[←HK.out];exact hlt
   rw[abE UU]at hz;have Nb:=HWS.out _ (ab2 UU);obtain⟨-,bW,oW,rfl,hSb,hlW,hcW⟩:=HR.out.get (i:=q) (g:=yw ws[q]) (by rw[afG,abE UU];rfl);have hc2:=dX.same hcW (hp.mG.eq bW hSb hlW).1;obtain⟨t,htt⟩:∃t,ws[q]=t:=⟨_,rfl⟩;rw[htt]at hz Nb hc2
   have d0:wr.cell? ⟨bW,oW+q,none⟩=some (.string (au t)):=by have:=hc2 0 _ rfl;simpa using this
   clear hcW hc2 htt;dsimp only at hz;by_cases hc:t∈clW
   case pos=>
    rw[ω hc]at hz;cases hz;simp only[clW,abf,abZ,acz]at hc
    rcases hc with ht|ht|ht|ht|ht
    all_goals
     first|have e1:=P8 ht [62,62]|have e1:=zD ht [62,62]
     first|have e2:=P8 ht [63,62]|have e2:=zD ht [63,62]
     first|have e3:=P8 ht [41,62]|have e3:=zD ht [41,62]
     first|have e4:=P8 ht [124]|have e4:=zD ht [124]
     first|have e5:=P8 ht [45,62]|have e5:=zD ht [45,62]
     clear ht Nb;obtain⟨hp1,Di,hL1⟩:=hY.UT hp hL hd;have hone:=Di.ay (m:=wr.heap.size) rfl;have iq:=ag wr (.cells #[.slice a7 a.length c7] 127);have hp2:=hp1.call iq;have hL2:=hL1.call iq
     go_wp2_with (first
      |(at_builtin;refine JS hp2 (.tmp 48) (.tmp 50) hL2 hone (by simp;omega) rfl rfl rfl rfl ?_
        intro v3 w3 Bj hle3)
      |fail)
     rw[je.out]
     go_ret2
     exact⟨_,rfl,hle3.pw.be,Bj.fw hle3.pw⟩
   case neg=>
    rw[χ hc]at hz;by_cases ht:t=[47,47]
    case pos=>
     rw[ω ht]at hz;have HZ:=π hz;have e1:=zD ht [62,62];have e2:=zD ht [63,62];have e3:=zD ht [41,62];have e4:=zD ht [124];have e5:=zD ht [45,62];have e6:=gp ht;clear ht Nb hz hc;obtain⟨hp1,Di,hL1⟩:=hY.UT hp hL hd;have hone:=Di.ay (m:=wr.heap.size) rfl;have iq:=ag wr (.cells #[.slice a7 a.length c7] 127);have hp2:=hp1.call iq;have hL2:=hL1.call iq
     go_wp2_with (first
      |(at_builtin;refine JS hp2 (.tmp 55) (.tmp 57) hL2 hone (by simp;omega) rfl rfl rfl rfl ?_
        intro v3 w3 Bj hle3)
      |fail)
     go_roundw
     case rel=>exact⟨q+1,n,kC++[a],[],_,by go_num,HZ.out,by simp;omega,by simp;omega,hle3.pw,Bj,zC.nil,fun b _ h=>(by cases h)⟩
     case measure=>simp[intOf];omega
    case neg=>
     rw[χ ht]at hz;by_cases h3:t∈opW
     case pos=>
      rw[ω h3]at hz;obtain⟨⟨Kj,j1⟩,hz1,hz2⟩:=Γ.1 hz;have hj1:=Ck hz1
      have hj2:j1≤1000000:=by
       cases n with
       |zero=>cases hz2
       |succ n=>unfold xq at hz2;apply Nat.le_of_not_lt;intro h9;rw[ω (by show 1000<j1+1;omega)]at hz2;cases hz2
      have HZ1:=π hz1;have HZ2:=π hz2;clear hz hz1 hz2 hc ht;simp only[opW,abf,abZ,acz]at h3
      rcases h3 with ht|ht|ht
      all_goals
       have e1:=zD ht [62,62];have e2:=zD ht [63,62];have e3:=zD ht [41,62];have e4:=zD ht [124];have e5:=zD ht [45,62];have e6:=zD ht [47,47]
       first|have e7:=P8 ht [60,60]|have e7:=zD ht [60,60]
       first|have e8:=P8 ht [60,63]|have e8:=zD ht [60,63]
       first|have e9:=P8 ht [60,40]|have e9:=zD ht [60,40]
       have hIH:=IH n η (S:=T) (w:=wr) (i:=q+1) hp.lt (HR.out.to hp.mG) HWS.out HL.out η HZ1.out;rw[e0]at hIH;have MQ:=π hIH;have HT:=π ht;clear hIH ht Nb
       go_wp2_with fail
       refine MQ.out.mono ?_;rintro e w2 ⟨v9,rfl,hb,hal⟩;obtain⟨gs9,h91,h92⟩:=hal;obtain⟨a9,k9,c9,rfl⟩:=h91.aj;have hp2:=hp.call hb;have hL2:=hL.call hb;have hY2:=hY.call hb
       first
       |have hsy:tX (gr T wr w2) w2 (opS t Kj) [.int .i64 3, .string (au []), .slice a9 k9 c9]:=by rw[HT.out];exact⟨_,gs9,rfl,h91,h92⟩
       |have hsy:tX (gr T wr w2) w2 (opS t Kj) [.int .i64 2, .string (au []), .slice a9 k9 c9]:=by rw[HT.out];exact⟨_,gs9,rfl,h91,h92⟩
       |have hsy:tX (gr T wr w2) w2 (opS t Kj) [.int .i64 4, .string (au []), .slice a9 k9 c9]:=by rw[HT.out];exact⟨_,gs9,rfl,h91,h92⟩
       have hone:=hsy.ay (m:=w2.heap.size) rfl (by intro u hu;simp at hu;rcases hu with rfl|rfl|rfl<;>rfl);have iq:=bwS hone;have hp3:=hp2.call iq;have hL3:=hL2.call iq;have hY3:=hY2.call iq
       go_wp2_with (first
        |(at_builtin;refine OI hp3 (.tmp 80) (.tmp 84) hY3 hone (by simp;omega) rfl rfl rfl rfl ?_
          intro v3 w3 Bj hle3)
        |fail)
       go_roundw
       case rel=>
        obtain⟨hL4,hd4⟩:=hL3.rU hle3 hd;exact⟨j1+1,n,kC,a++[opS t Kj],_,by go_num,HZ2.out,by omega,by simp;omega,hle3.pw,hL4,Bj,hd4⟩
       case measure=>simp[intOf];omega
     case neg=>
      rw[χ h3]at hz
      have e1:=P9 (t:=t) [62,62] fun e=>hc (by rw[e];decide)
      have e2:=P9 (t:=t) [63,62] fun e=>hc (by rw[e];decide)
      have e3:=P9 (t:=t) [41,62] fun e=>hc (by rw[e];decide)
      have e4:=P9 (t:=t) [124] fun e=>hc (by rw[e];decide)
      have e5:=P9 (t:=t) [45,62] fun e=>hc (by rw[e];decide)
      have e6:((au t).toList==[47,47])=false:=by rw[mJ,aat];exact ht
      have e7:=P9 (t:=t) [60,60] fun e=>h3 (by rw[e];decide)
      have e8:=P9 (t:=t) [60,63] fun e=>h3 (by rw[e];decide)
      have e9:=P9 (t:=t) [60,40] fun e=>h3 (by rw[e];decide)
      have hp0:0<(au t).size:=by rw[ko];exact acN.2 Nb.1
      by_cases h9:t.headD 0=39
      case pos=>
       rw[ω h9]at hz;have HZ:=π hz
       have e10:((((au t)[0]'hp0).toNat:Int)==39)=true:=by
        obtain⟨x,r,rfl⟩:=afO Nb.1;have:x=39:=h9;rw[aaZ];show(x.toNat:Int)=39;rw[this];rfl
       have hcut:(au t).extract 1 t.length=au t.tail:=aeV t;have as2:=π hcut;clear hz h9 h3 hc ht Nb hcut
       have hsy:tX T wr (.tx t.tail) [.int .i64 0, .string ((au t).extract 1 t.length), .slice none 0 0]:=by rw[as2.out];rfl
       have hone:=hsy.ay (m:=wr.heap.size) rfl (by intro u hu;simp at hu;rcases hu with rfl|rfl|rfl<;>rfl);have iq:=ag wr (.cells #[.int .i64 0, .string ((au t).extract 1 t.length), .slice none 0 0] 169);have hp3:=hp.call iq;have hL3:=hL.call iq;have hY3:=hY.call iq
       go_wp2_with (first
        |(at_builtin;refine OI hp3 (.tmp 25) (.tmp 32) hY3 hone (by simp;omega) rfl rfl rfl rfl ?_
          intro v3 w3 Bj hle3)
        |fail)
       go_roundw
       case rel=>
        obtain⟨hL4,hd4⟩:=hL3.rU hle3 hd;exact⟨q+1,n,kC,a++[.tx t.tail],_,by go_num,HZ.out,by omega,by simp;omega,hle3.pw,hL4,Bj,hd4⟩
       case measure=>simp[intOf];omega
      case neg=>
       rw[χ h9]at hz;have HZ:=π hz
       have e10:((((au t)[0]'hp0).toNat:Int)==39)=false:=by
        obtain⟨x,r,rfl⟩:=afO Nb.1;rw[aat];show(x.toNat:Int)≠39;intro e
        have e:x.toNat=39:=by omega
        exact h9 (agL.1 e)
       clear hz h9 h3 hc ht Nb;have hsy:tX T wr (.nm t) [.int .i64 1, .string (au t), .slice none 0 0]:=rfl;have hone:=hsy.ay (m:=wr.heap.size) rfl (by intro u hu;simp at hu;rcases hu with rfl|rfl|rfl<;>rfl);have iq:=ag wr (.cells #[.int .i64 1, .string (au t), .slice none 0 0] 169);have hp3:=hp.call iq;have hL3:=hL.call iq;have hY3:=hY.call iq
       go_wp2_with (first
        |(at_builtin;refine OI hp3 (.tmp 34) (.tmp 40) hY3 hone (by simp;omega) rfl rfl rfl rfl ?_
          intro v3 w3 Bj hle3)
        |fail)
       go_roundw
       case rel=>
        obtain⟨hL4,hd4⟩:=hL3.rU hle3 hd;exact⟨q+1,n,kC,a++[.nm t],_,by go_num,HZ.out,by omega,by simp;omega,hle3.pw,hL4,Bj,hd4⟩
       case measure=>simp[intOf];omega
end Go.Proofs.YtlboejdhmggjpaaGreat.Pp.Dr
