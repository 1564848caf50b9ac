import Derived.Test.YtlboejdhmggjpaaGreatWkX
set_option linter.all false
namespace Go.Proofs.YtlboejdhmggjpaaGreat.Pp
set_option maxRecDepth 100000
set_option maxHeartbeats 16000000
open Go.RowKit Go.BigFrame Go.Proofs.YtlboejdhmggjpaaGreat
variable {l : List Ct}{s : Ps}
theorem iH {base:Bs→Bool}{tg:Tg}:run l base 0 tg s= .out:=by rw[run]
variable {c : Prop}{α β : Type}{A B : Pm α}{r : Rs β}
theorem kI {dc:Decidable c}{k:α→Pm β}(h:((if c then A else B)>>=k) s=r)(hc:c):(A>>=k) s=r:=by rwa[ω hc]at h
theorem cO {dc:Decidable c}{k:α→Pm β}(h:((if c then A else B)>>=k) s=r)(hc:¬c):(B>>=k) s=r:=by rwa[χ hc]at h
variable {E : En}{s2 : Ps}
theorem Ti (hE:E.ok){x:Bs}(h:l9 E.L s= .ok x s2):x.length≤maxLen:=by
 unfold l9 at h
 split at h
 ·cases h;exact Gh hE s 0
 ·cases h
theorem A9 {n:Nat}{k:Unit→Pm β}(h:(step l n>>=k) s=r)(hn:r≠ .out):s.af+n≤l.length∧k () {s with af:=s.af+n}=r:=by
 change Pm.bind (step l n) k s=r at h
 unfold Pm.bind step at h
 by_cases hc:s.af+n≤l.length
 ·rw[ω hc]at h
  exact⟨hc,h⟩
 ·rw[χ hc]at h
  exact absurd h.symm hn
theorem Tj {v:α}{k:α→Pm β}(h:((pure v:Pm α)>>=k) s=r):k v s=r:=h
variable {γ : Type}{x : Pm α}{f : α→Pm β}
theorem gL {k:β→Pm γ}{r:Rs γ}(h:((x>>=f)>>=k) s=r):(x>>=fun a=>f a>>=k) s=r:=by
 rw[←h]
 show Pm.bind x (fun a=>Pm.bind (f a) k) s=Pm.bind (Pm.bind x f) k s
 unfold Pm.bind
 cases x s<;>rfl
theorem Tm {k:α→Pm β}(h:((if true=true then A else B)>>=k) s=r):(A>>=k) s=r:=h
theorem Tn {k:α→Pm β}(h:((if false=true then A else B)>>=k) s=r):(B>>=k) s=r:=h
theorem q_0 {base:Bs→Bool}{tg:Tg}{k:Va→Pm β}(h:(run l base 0 tg>>=k) s=r):r= .out:=by
 rw[←h,run]
 rfl
theorem YP (hE:E.ok)(s:Ps)(w:World)(h:PW E w s):Calls Tryz.prog 73 #[.pointer (some ⟨E.pb,0,none⟩)] w (fO E Px w (jQ E.L s)):=by
 have hF:∀(z:Int) (x:ByteArray) (W:World),(Instr.field 54 (.agg #[.int .i64 z, .string x]) 0).run Tryz.prog W= .ok (.int .i64 z) W:=fun z x W=>by kernel_rfl
 obtain⟨T,hT⟩:∃T,az E.L s 0=T:=⟨_,rfl⟩
 have pk:=qg hE 0 s w η h
 rw[hT]at pk
 unfold AX at pk
 obtain⟨F,PD⟩:∃F,ug E.L (E.L.length - s.af+1) s=F:=⟨_,rfl⟩
 have hr:jQ E.L s=if T.c=6 then .ok () {s with af:=F}else .no:=by unfold jQ;rw[hT,PD]
 rw[hr]
 have PK:=Hh pk
 have H:=Hh h
 have Xc:=Hh PD
 have HL:=Hh hE.len
 have hle:=h.at.2.2
 have Tp:=Hh hle
 clear pk h hr hT PD hle
 by_cases hc:T.c=6
 ·rw[ω hc]
  go_enter Tryz.func73,Tryz.ntmps73
  go_wp2_with fail
  refine PK.out.mono ?_;rintro e w1 ⟨rfl,hb1⟩;have qI:=Hh (H.out.ext hE hb1);have mF:=Hh (KP.aT hb1);clear hb1
  go_wp2_with fail
  go_loopg [] (E.L.length - s.af+1) (fun k wr=>∃i,E.L.length+1≤i+k∧ug E.L k {s with af:=i}=F∧PW E wr {s with af:=i}∧KP w wr)
  case atStart=>exact⟨s.af,by have:=Tp.out;omega,Xc.out,qI.out,mF.out⟩
  case round=>
   obtain⟨i,hik,hst,hp2,hk2⟩:=hrel;have hil:=hp2.at.2.2
   cases gk with
   |zero=>exfalso;simp only at hil;omega
   |succ g=>
    obtain⟨U,hU⟩:∃U,az E.L {s with af:=i} 0=U:=⟨_,rfl⟩;have pk:=qg hE 0 {s with af:=i} wr η hp2;rw[hU]at pk;unfold AX at pk
    have hlt:U.c=6→i+0<E.L.length:=fun e=>qU (l:=E.L) (s:={s with af:=i}) (k:=0) (by rw[hU,e];decide)
    unfold ug at hst;rw[hU]at hst;have PE:=Hh pk;have nJ:=Hh hp2;have eQ:=Hh hk2;have HIK:=Hh hik;clear pk hp2 hk2 hU hik hil;by_cases hd:U.c=6
    ·rw[ω hd]at hst
     have HST:=Hh hst;have HLT:=Hh (hlt hd)
     have hi:i<100000:=by have:=hlt hd;have:=HL.out;omega
     clear hst hlt
     go_wp2_with fail
     refine PE.out.mono ?_;rintro e w3 ⟨rfl,hb3⟩;have hp3:=nJ.out.ext hE hb3;obtain⟨c1,f1, -⟩:=hp3.at;simp only at c1;have sW:=Hh hp3;have ji:=Hh (eQ.out.trans (KP.aT hb3));clear hb3 hp3
     go_wp2_with fail
     obtain⟨q1,q2⟩:=sW.out.on hE (n:=i+1) (by have:=HLT.out;omega);have Q1:=Hh q1;have Q2:=Hh q2;clear q1 q2
     go_roundg g
     case measure=>omega
     case rel=>exact⟨i+1,by have:=HIK.out;omega,HST.out,Q1.out,ji.out.trans Q2.out⟩
    ·rw[χ hd]at hst
     have hd':((U.c:Int)==6)=false:=by rw[aat];omega
     have HST:=Hh hst;clear hst hlt
     go_wp2_with fail
     refine PE.out.mono ?_;rintro e w3 ⟨rfl,hb3⟩;have HB3:=Hh hb3;clear hb3
     go_wp2_with fail
     have hst:i=F:=HST.out;refine⟨rfl, .tuple #[],by simp[results,Tryz.results73,go_sem],?_⟩;rw[←hst];exact⟨rfl,nJ.out.ext hE HB3.out,eQ.out.trans (KP.aT HB3.out)⟩
 ·rw[χ hc]
  have hc':((T.c:Int)!=6)=true:=by rw[acm];omega
  go_enter Tryz.func73,Tryz.ntmps73
  go_wp2_with fail
  refine PK.out.mono ?_;rintro e w1 ⟨rfl,hb1⟩;have HB:=Hh hb1;clear hb1
  go_wp2_with fail
  refine(qh hE Px s _ (H.out.ext hE HB.out)).mono ?_;rintro e w2 ⟨⟨n,rfl⟩,hb,hk2⟩;exact⟨rfl,⟨_,rfl⟩,hb,(KP.aT HB.out).trans hk2⟩
theorem Tq (hE:E.ok)(s:Ps)(w:World)(h:PW E w s):Calls Tryz.prog 82 #[.pointer (some ⟨E.pb,0,none⟩)] w (fO E .bool w (kS E.L s)):=by
 obtain⟨F,PD⟩:∃F,kZ E.L (E.L.length - s.af+1) s=F:=⟨_,rfl⟩
 have hr:kS E.L s= .ok (decide (s.af<F)) {s with af:=F}:=by unfold kS;rw[PD]
 rw[hr]
 obtain⟨c1,f1,hle⟩:=h.at
 have hlt:=h.lt
 obtain⟨a,ha⟩:∃a,s.af=a:=⟨_,rfl⟩
 rw[ha]at c1 hle PD⊢
 have H:=Hh h
 have Xc:=Hh PD
 have HL:=Hh hE.len
 have Tp:=Hh hle
 have HA:=Hh ha
 clear h hr PD hle ha
 go_enter Tryz.func82,Tryz.ntmps82
 go_wp2_with fail
 go_step3
 go_wp2_with fail
 go_step3
 go_wp2_with fail
 go_loopg [] (E.L.length - a+1) (fun k wr=>∃i,E.L.length+1≤i+k∧kZ E.L k {s with af:=i}=F∧PW E wr {s with af:=i}∧KP w wr)
 case atStart=>exact⟨a,by have:=Tp.out;omega,by have q:=Xc.out;have e:s={s with af:=a}:=by rw[←HA.out];
                                                rw[←e];exact q,by have q:=H.out;have e:s={s with af:=a}:=by rw[←HA.out];
                                                                  rw[←e];exact q,KP.refl _⟩
 case round=>
  clear c1 f1;obtain⟨i,hik,hst,hp2,hk2⟩:=hrel;have hil:=hp2.at.2.2
  cases gk with
  |zero=>exfalso;simp only at hil;omega
  |succ g=>
   obtain⟨U,hU⟩:∃U,az E.L {s with af:=i} 0=U:=⟨_,rfl⟩;obtain⟨B,hB⟩:∃B,aX E.L {s with af:=i} 1 [40]=B:=⟨_,rfl⟩;obtain⟨q,hq⟩:∃q,spec U.t=q:=⟨_,rfl⟩;have pk:=qg hE 0 {s with af:=i} wr η hp2;rw[hU]at pk;unfold AX at pk
   have hlt2:U.c=1→i+0<E.L.length:=fun e=>qU (l:=E.L) (s:={s with af:=i}) (k:=0) (by rw[hU,e];decide)
   unfold kZ at hst;rw[hU,hB,hq]at hst;have SP:=Hh (fun W:World=>(hq▸oF U.t W:Calls Tryz.prog 75 #[.string (au U.t)] W fun e w'=>e= .returned (.int .i64 q)∧w'=W));have SG:=Hh (fun(W:World) (hW:PW E W {s with af:=i})=>(hB▸uO hE 1 [40] {s with af:=i} W η hW:Calls Tryz.prog 47 #[.pointer (some ⟨E.pb,0,none⟩), .int .i64 1, .string (au [40])] W (fO E .bool W (.ok B {s with af:=i}))));have PE:=Hh pk;have nJ:=Hh hp2;have eQ:=Hh hk2;have HIK:=Hh hik;clear pk hp2 hk2 hU hik hil hB hq
   have key:(U.c=1∧q=3∧kZ E.L g {s with af:=i+1}=F)∨(U.c=1∧((q:Int)==3)=false∧q=4∧B=false∧kZ E.L g {s with af:=i+1}=F)∨(U.c=1∧((q:Int)==3)=false∧q=4∧B=true∧i=F)∨(U.c=1∧((q:Int)==3)=false∧((q:Int)==4)=false∧i=F)∨(((U.c:Int)!=1)=true∧i=F):=by
    by_cases h1:U.c=1
    ·by_cases h3:q=3
     ·rw[ω ⟨h1, .inl h3⟩]at hst;exact .inl ⟨h1,h3,hst⟩
     ·have h3':((q:Int)==3)=false:=by rw[aat];omega
      by_cases h4:q=4
      ·cases B
       ·rw[ω ⟨h1, .inr ⟨h4,rfl⟩⟩]at hst;exact .inr (.inl ⟨h1,h3',h4,rfl,hst⟩)
       ·rw[χ (fun e=>e.2.elim h3 (fun x=>by cases x.2))]at hst;exact .inr (.inr (.inl ⟨h1,h3',h4,rfl,hst⟩))
      ·rw[χ (fun e=>e.2.elim h3 (fun x=>h4 x.1))]at hst;exact .inr (.inr (.inr (.inl ⟨h1,h3',by rw[aat];omega,hst⟩)))
    ·rw[χ (fun e=>h1 e.1)]at hst;exact .inr (.inr (.inr (.inr ⟨by rw[acm];omega,hst⟩)))
   clear hst;have YQ:=Hh hlt2;clear hlt2
   rcases key with⟨UC,QV,qf⟩|⟨UC,QN,QV,rfl,qf⟩|⟨UC,QN,QV,rfl,qf⟩|⟨UC,QN,QN2,qf⟩|⟨UC,qf⟩
   ·have QF:=Hh qf
    clear qf
    go_wp2_with fail
    refine PE.out.mono ?_;rintro e w3 ⟨rfl,hb3⟩;have HB3:=Hh hb3;clear hb3
    go_wp2_with fail
    refine(SP.out _).mono ?_;rintro e w4 ⟨rfl,rfl⟩;have hb4:Below wr.heap.size wr (w3.alloc (.cells #[.int .i64 1, .string (au U.t)] 54)):=HB3.out.trans ((ag _ _).mono HB3.out.size);have pR:=Hh (nJ.out.ext hE hb4);have qo:=Hh (eQ.out.trans (KP.aT hb4));clear hb4
    have hi:i<100000:=by have:=YQ.out UC;have:=HL.out;omega
    obtain⟨c1,f1, -⟩:=(nJ.out.ext hE HB3.out).at;have hpb:=(nJ.out.ext hE HB3.out).lt;simp only at c1
    go_wp2_with fail
    obtain⟨q1,q2⟩:=(nJ.out.ext hE HB3.out).on hE (n:=i+1) (by have:=YQ.out UC;omega);have Q1:=Hh q1;have Q2:=Hh q2;clear q1 q2
    go_roundg g
    case measure=>omega
    case rel=>exact⟨i+1,by have:=HIK.out;omega,QF.out,Q1.out.ext hE (ag _ _),((eQ.out.trans (KP.aT HB3.out)).trans Q2.out).trans (KP.aT (ag _ _))⟩
   ·have QF:=Hh qf
    clear qf
    go_wp2_with fail
    refine PE.out.mono ?_;rintro e w3 ⟨rfl,hb3⟩;have HB3:=Hh hb3;clear hb3
    go_wp2_with fail
    refine(SP.out _).mono ?_;rintro e w4 ⟨rfl,rfl⟩;have hb4:Below wr.heap.size wr (w3.alloc (.cells #[.int .i64 1, .string (au U.t)] 54)):=HB3.out.trans ((ag _ _).mono HB3.out.size);have pR:=Hh (nJ.out.ext hE hb4);have qo:=Hh (eQ.out.trans (KP.aT hb4));clear hb4
    go_wp2_with fail
    refine(SG.out _ pR.out).mono ?_;rintro e w5 ⟨rfl,DX,hk5⟩
    have hi:i<100000:=by have:=YQ.out UC;have:=HL.out;omega
    obtain⟨c1,f1, -⟩:=DX.at;have hpb:=DX.lt;simp only at c1;obtain⟨q1,q2⟩:=DX.on hE (n:=i+1) (by have:=YQ.out UC;omega);have Q1:=Hh q1;have Q2:=Hh (hk5.trans q2);clear q1 q2 DX hk5
    go_wp2_with fail
    go_roundg g
    case measure=>omega
    case rel=>exact⟨i+1,by have:=HIK.out;omega,QF.out,Q1.out,qo.out.trans Q2.out⟩
   ·have QF:=Hh qf
    clear qf
    go_wp2_with fail
    refine PE.out.mono ?_;rintro e w3 ⟨rfl,hb3⟩;have HB3:=Hh hb3;clear hb3
    go_wp2_with fail
    refine(SP.out _).mono ?_;rintro e w4 ⟨rfl,rfl⟩;have hb4:Below wr.heap.size wr (w3.alloc (.cells #[.int .i64 1, .string (au U.t)] 54)):=HB3.out.trans ((ag _ _).mono HB3.out.size);have pR:=Hh (nJ.out.ext hE hb4);have qo:=Hh (eQ.out.trans (KP.aT hb4));clear hb4
    go_wp2_with fail
    refine(SG.out _ pR.out).mono ?_;rintro e w5 ⟨rfl,DX,hk5⟩;have E9:=Hh DX;have IA:=Hh (qo.out.trans hk5);clear DX hk5;obtain⟨c1,f1, -⟩:=(E9.out).at;have hpb:=(E9.out).lt;simp only at c1
    go_wp2_with fail
    try rw[Exit.noGoto_ret]
    refine⟨rfl, .bool (decide (a<i)),by simp[results,Tryz.results82,go_sem],?_⟩;rw[←QF.out];exact⟨rfl,E9.out,IA.out⟩
   ·have QF:=Hh qf
    clear qf
    go_wp2_with fail
    refine PE.out.mono ?_;rintro e w3 ⟨rfl,hb3⟩;have HB3:=Hh hb3;clear hb3
    go_wp2_with fail
    refine(SP.out _).mono ?_;rintro e w4 ⟨rfl,rfl⟩;have hb4:Below wr.heap.size wr (w3.alloc (.cells #[.int .i64 1, .string (au U.t)] 54)):=HB3.out.trans ((ag _ _).mono HB3.out.size);have pR:=Hh (nJ.out.ext hE hb4);have qo:=Hh (eQ.out.trans (KP.aT hb4));clear hb4;obtain⟨c1,f1, -⟩:=(pR.out).at;have hpb:=(pR.out).lt;simp only at c1
    go_wp2_with fail
    try rw[Exit.noGoto_ret]
    refine⟨rfl, .bool (decide (a<i)),by simp[results,Tryz.results82,go_sem],?_⟩;rw[←QF.out];exact⟨rfl,pR.out,qo.out⟩
   ·have QF:=Hh qf
    clear qf
    go_wp2_with fail
    refine PE.out.mono ?_;rintro e w3 ⟨rfl,hb3⟩;have HB3:=Hh hb3;clear hb3;have hb4:Below wr.heap.size wr (w3.alloc (.cells #[.int .i64 U.c, .string (au U.t)] 54)):=HB3.out.trans ((ag _ _).mono HB3.out.size);have pR:=Hh (nJ.out.ext hE hb4);have qo:=Hh (eQ.out.trans (KP.aT hb4));clear hb4;obtain⟨c1,f1, -⟩:=(pR.out).at;have hpb:=(pR.out).lt;simp only at c1
    go_wp2_with fail
    try rw[Exit.noGoto_ret]
    refine⟨rfl, .bool (decide (a<i)),by simp[results,Tryz.results82,go_sem],?_⟩;rw[←QF.out];exact⟨rfl,pR.out,qo.out⟩
theorem Mt(t:Bs):spec t=0∨spec t=1∨spec t=2∨spec t=3∨spec t=4∨spec t=5∨spec t=6∨spec t=7:=by unfold spec;(repeat' split)<;>simp
theorem lC.lt{w:World}{b:Nat}{h:Nat×Nat}(hb:lC w b h):b<w.heap.size:=(ψ.1 hb).1
theorem lC.ne {w:World}{b:Nat}{h:Nat×Nat}(hb:lC w b h)(hp:PW E w s):¬E.pb=b:=by
 obtain⟨vd,vc,vb,mb,hp⟩:=hp
 intro e
 have:=hp.box
 rw[e,show w.heap[b]? =_ from hb]at this
 cases this
theorem RD(t:Bs):Co t≤45:=by unfold Co;(repeat' split)<;>omega
theorem KM{l:List Ct}{s s2:Ps}{v:Nat}(h:dB l s= .ok v s2):v≤45:=by
 unfold dB at h
 cases h
 split
 ·exact RD _
 ·omega
def uB(w:World)(b:Nat)(z:Int)(x:ByteArray):Prop:=w.heap[b]? =some (.cells #[.int .i64 z, .string x] 54 (0,0))
theorem uB.kp{w w':World}{b:Nat}{z:Int}{x:ByteArray}(hb:uB w b z x)(hk:KP w w'):uB w' b z x:=hk.2 _ _ _ _ rfl hb
theorem uB.new(w:World)(z:Int)(x:ByteArray):uB (w.alloc (.cells #[.int .i64 z, .string x] 54)) w.heap.size z x:=dz _ _ _
theorem uB.YU(w:World)(p:Addr)(v:Value)(z:Int)(x:ByteArray):uB ((w.setCell p v).alloc (.cells #[.int .i64 z, .string x] 54)) w.heap.size z x:=by
 have:=uB.new (w.setCell p v) z x
 rwa[show(w.setCell p v).heap.size=w.heap.size by simp]at this
theorem uB.cells{w:World}{b:Nat}{z:Int}{x:ByteArray}(hb:uB w b z x):w.cell? ⟨b,0,none⟩=some (.int .i64 z)∧w.cell? ⟨b,1,none⟩=some (.string x):=by unfold uB at hb;simp[World.cell?,hb]
def Mo (x:Pm α):Prop:=∀s v s',x s= .ok v s'→s.af≤s'.af
theorem Mo.bind (h:Mo x)(k:∀a,Mo (f a)):Mo (x>>=f):=by
 intro s v s' e
 change Pm.bind x f s= .ok v s' at e
 unfold Pm.bind at e
 cases hx:x s with
 |ok a s1=>rw[hx]at e;exact aaT (h _ _ _ hx) (k _ _ _ _ e)
 |no=>rw[hx]at e;cases e
 |out=>rw[hx]at e;cases e
theorem Mo.pure{α:Type}(a:α):Mo (pure a:Pm α):=by intro s v s' e;cases e;exact υ _
theorem Mo.fail:Mo (iD:Pm α):=by intro s v s' e;cases e
theorem Mo.out{α:Type}:Mo (FJ:Pm α):=by intro s v s' e;cases e
theorem Mo.ite{α:Type}{c:Prop}{dc:Decidable c}{A B:Pm α}(h:Mo A)(k:Mo B):Mo (if c then A else B):=by split<;>assumption
theorem Mo.fH:Mo fH:=by intro s v s' e;cases e;exact υ _
theorem Mo.get:Mo sj:=by intro s v s' e;cases e;exact υ _
theorem Mo.mO (f:Ps→α):Mo (fun s=> .ok (f s) s:Pm α):=by intro s v s' e;cases e;exact υ _
section
variable (l:List Ct) (base:Bs→Bool)
theorem Mo.step(k:Nat):Mo (step l k):=by intro s v s' e;unfold Pp.step at e;split at e<;>cases e;exact agD _ _
theorem Mo.node(k:Nat)(h:Nat×Nat):Mo (node l k h):=by intro s v s' e;unfold Pp.node at e;split at e<;>cases e;exact υ _
theorem Mo.bS(x:Bs)(b:Bool):Mo (bS l x b):=by intro s v s' e;unfold Pp.bS at e;split at e<;>cases e;exact υ _
theorem Mo.iE(p:List (Bs×Bool)):Mo (iE l p):=by
 induction p with
 |nil=>exact Mo.pure _
 |cons a r i=>exact Mo.bind (Mo.bS l _ _) fun _=>i
theorem Mo.open:Mo (jU l):=by intro s v s' e;unfold Pp.jU at e;split at e<;>cases e;exact υ _
theorem Mo.close:Mo eO:=by intro s v s' e;unfold Pp.eO at e;split at e<;>(try split at e)<;>cases e;exact υ _
theorem Mo.fU(t:Bs):Mo (fU l t):=by intro s v s' e;unfold Pp.fU at e;split at e<;>cases e<;>simp
theorem Mo.fC(t:Bs):Mo (fC l t):=by intro s v s' e;unfold Pp.fC at e;split at e<;>cases e<;>simp
theorem Ot{t:Bs}{s s':Ps}{v:Unit}(e:bY l t s= .ok v s'):s'.af=s.af+1:=by unfold Pp.bY at e;split at e<;>cases e;rfl
theorem Mo.bY(t:Bs):Mo (bY l t):=by intro s v s' e;have:=Ot l e;omega
theorem Mo.name:Mo (l9 l):=by intro s v s' e;unfold Pp.l9 at e;split at e<;>cases e;simp
theorem abI(n:Nat):∀s,s.af≤kZ l n s:=by
 induction n with
 |zero=>intro s;exact υ _
 |succ n i=>
  intro s;unfold kZ
  split
  ·exact aaT (abK _) (i {s with af:=s.af+1})
  ·exact υ _
theorem ad2(n:Nat):∀s,s.af≤ug l n s:=by
 induction n with
 |zero=>intro s;exact υ _
 |succ n i=>
  intro s;unfold ug
  split
  ·exact aaT (abK _) (i {s with af:=s.af+1})
  ·exact υ _
theorem Mo.kS:Mo (kS l):=by intro s v s' e;cases e;exact abI l _ _
theorem Mo.jQ:Mo (jQ l):=by intro s v s' e;unfold Pp.jQ at e;split at e<;>cases e;exact ad2 l _ _
theorem Mo.rD(k:Nat):Mo (rD l k):=Mo.mO _
theorem Mo.eu(k:Nat)(t:Bs):Mo (eu l k t):=Mo.mO _
theorem Mo.o6(t:Bs):Mo (o6 l t):=Mo.mO _
theorem Mo.wI(k:Nat):Mo (wI l base k):=Mo.mO _
theorem Mo.kP:Mo (kP l base):=Mo.mO _
theorem Mo.j5:Mo (j5 l base):=Mo.mO _
theorem Mo.lM:Mo (lM l):=Mo.mO _
theorem Mo.dB:Mo (dB l):=Mo.mO _
theorem Mo.ny:Mo (ny l):=Mo.mO _
theorem Mo.run(n:Nat):∀tg,Mo (run l base n tg):=by
 induction n with
 |zero=>intro tg s v s' e;rw[Pp.run]at e;cases e
 |succ n ih=>
  intro tg
  cases tg<;>rw[Pp.run]<;>
  repeat' (with_reducible first
   |exact ih _|exact Mo.pure _|exact Mo.fail|exact Mo.out|exact Mo.fH|exact Mo.get|exact Mo.step _ _|exact Mo.node _ _ _|exact Mo.bS _ _ _|exact Mo.iE _ _|exact Mo.open _|exact Mo.close
   |exact Mo.fU _ _|exact Mo.fC _ _|exact Mo.bY _ _|exact Mo.name _|exact Mo.kS _|exact Mo.jQ _|exact Mo.rD _ _|exact Mo.eu _ _ _|exact Mo.o6 _ _|exact Mo.wI _ _ _|exact Mo.kP _ _|exact Mo.j5 _ _|exact Mo.lM _|exact Mo.dB _|exact Mo.ny _
   |exact Mo.mO _|(refine Mo.bind ?_ fun _=>?_)|(refine Mo.ite ?_ ?_)|(intro;skip))
  refine Mo.bind (Mo.mO fun s=>_) fun _=>?_
  repeat' (with_reducible first
   |exact ih _|exact Mo.pure _|exact Mo.fail|exact Mo.out|exact Mo.fH|exact Mo.get|exact Mo.step _ _|exact Mo.node _ _ _|exact Mo.bS _ _ _|exact Mo.iE _ _|exact Mo.open _|exact Mo.close
   |exact Mo.fU _ _|exact Mo.fC _ _|exact Mo.bY _ _|exact Mo.name _|exact Mo.kS _|exact Mo.jQ _|exact Mo.rD _ _|exact Mo.eu _ _ _|exact Mo.o6 _ _|exact Mo.wI _ _ _|exact Mo.kP _ _|exact Mo.j5 _ _|exact Mo.lM _|exact Mo.dB _|exact Mo.ny _
   |exact Mo.mO _|(refine Mo.bind ?_ fun _=>?_)|(refine Mo.ite ?_ ?_)|(intro;skip))
end
theorem ad3{l:List Ct}{base:Bs→Bool}{n:Nat}{s s':Ps}{v:Va}(e:run l base n .array s= .ok v s'):s.af<s'.af:=by
 cases n with
 |zero=>rw[Pp.run]at e;cases e
 |succ n=>
  have hm:=Mo.run l base (n+1) .array;rw[Pp.run]at e;have e:=uT (x:=fH) e rfl
  rcases hx:bY l [91] s with⟨v1,s1⟩|_|_
  ·have e2:=uT e hx
   have:=Ot l hx;refine abB (show s.af<s1.af by omega) ?_
   revert e2
   refine(?_:Mo _) _ _ _
   repeat' (with_reducible first
    |exact Mo.run _ _ _ _|exact Mo.pure _|exact Mo.fail|exact Mo.out|exact Mo.fH|exact Mo.get|exact Mo.step _ _|exact Mo.node _ _ _|exact Mo.bS _ _ _|exact Mo.iE _ _|exact Mo.open _|exact Mo.close
    |exact Mo.fU _ _|exact Mo.fC _ _|exact Mo.bY _ _|exact Mo.name _|exact Mo.kS _|exact Mo.jQ _|exact Mo.rD _ _|exact Mo.eu _ _ _|exact Mo.o6 _ _|exact Mo.wI _ _ _|exact Mo.kP _ _|exact Mo.j5 _ _|exact Mo.lM _|exact Mo.dB _|exact Mo.ny _
    |exact Mo.mO _|(refine Mo.bind ?_ fun _=>?_)|(refine Mo.ite ?_ ?_)|(intro;skip))
  ·change Pm.bind _ _ _=_ at e;unfold Pm.bind at e;rw[hx]at e;cases e
  ·change Pm.bind _ _ _=_ at e;unfold Pm.bind at e;rw[hx]at e;cases e
theorem abJ{l:List Ct}{base:Bs→Bool}{n:Nat}{s s':Ps}{v:Va}(e:run l base n .params s= .ok v s'):s.af<s'.af:=by
 cases n with
 |zero=>rw[Pp.run]at e;cases e
 |succ n=>
  rw[Pp.run]at e;have e:=uT (x:=fH) e rfl
  rcases hx:bY l [40] s with⟨v1,s1⟩|_|_
  ·have e2:=uT e hx
   have:=Ot l hx;refine abB (show s.af<s1.af by omega) ?_
   revert e2
   refine(?_:Mo _) _ _ _
   repeat' (with_reducible first
    |exact Mo.run _ _ _ _|exact Mo.pure _|exact Mo.fail|exact Mo.out|exact Mo.fH|exact Mo.get|exact Mo.step _ _|exact Mo.node _ _ _|exact Mo.bS _ _ _|exact Mo.iE _ _|exact Mo.open _|exact Mo.close
    |exact Mo.fU _ _|exact Mo.fC _ _|exact Mo.bY _ _|exact Mo.name _|exact Mo.kS _|exact Mo.jQ _|exact Mo.rD _ _|exact Mo.eu _ _ _|exact Mo.o6 _ _|exact Mo.wI _ _ _|exact Mo.kP _ _|exact Mo.j5 _ _|exact Mo.lM _|exact Mo.dB _|exact Mo.ny _
    |exact Mo.mO _|(refine Mo.bind ?_ fun _=>?_)|(refine Mo.ite ?_ ?_)|(intro;skip))
  ·change Pm.bind _ _ _=_ at e;unfold Pm.bind at e;rw[hx]at e;cases e
  ·change Pm.bind _ _ _=_ at e;unfold Pm.bind at e;rw[hx]at e;cases e
structure tT (fb:Nat) (w w':World):Prop where
 size:w.heap.size≤w'.heap.size
 cells:∀(k:Nat) (cs:Array Value) (t:TypeId) (fz:Nat×Nat),k≠fb→K5 t=false→w.heap[k]? =some (.cells cs t fz)→w'.heap[k]? =some (.cells cs t fz)
 dfr:∀(k:Nat) (x:Option (List Deferred)),k≠fb→w.heap[k]? =some (.deferred x)→w'.heap[k]? =some (.deferred x)
theorem KP.b{w w':World}(h:KP w w')(fb:Nat):tT fb w w':=⟨h.1,fun k cs t fz _ ht hk=>h.2 k cs t fz ht hk,fun k x _ hk=>h.3 k x hk⟩
theorem tT.refl(fb:Nat)(w:World):tT fb w w:=⟨υ _,fun _ _ _ _ _ _ h=>h,fun _ _ _ h=>h⟩
theorem tT.trans{fb:Nat}{a b c:World}(h:tT fb a b)(k:tT fb b c):tT fb a c:=⟨aaT h.1 k.1,fun i cs t fz hi ht hk=>k.2 i cs t fz hi ht (h.2 i cs t fz hi ht hk),fun i x hi hk=>k.3 i x hi (h.3 i x hi hk)⟩
theorem tT.store(w:World)(fb i:Nat)(v:Value):tT fb w (w.setCell ⟨fb,i,none⟩ v):=⟨by simp,fun k cs t fz hk ht h=>by rw[heap_setCell_other _ _ _ _ hk];exact h,fun k x hk h=>by rw[heap_setCell_other _ _ _ _ hk];exact h⟩
theorem KP.store{a w:World}(h:KP a w){fb:Nat}(hb:a.heap.size≤fb)(i:Nat)(v:Value):KP a (w.setCell ⟨fb,i,none⟩ v):=⟨by simpa using h.1,fun k cs t fz ht hk=>by
 have hl:=(ψ.1 hk).1
 rw[heap_setCell_other _ _ _ _ (by show k≠fb;omega)]
 exact h.2 k cs t fz ht hk,fun k x hk=>by
 have hl:=(ψ.1 hk).1
 rw[heap_setCell_other _ _ _ _ (by show k≠fb;omega)]
 exact h.3 k x hk⟩
theorem tT.kp{a w w':World}{fb:Nat}(h:KP a w)(hb:a.heap.size≤fb)(k:tT fb w w'):KP a w':=⟨aaT h.1 k.1,fun i cs t fz ht hk=>by
 have hl:=(ψ.1 hk).1
 exact k.2 i cs t fz η ht (h.2 i cs t fz ht hk),fun i x hk=>by
 have hl:=(ψ.1 hk).1
 exact k.3 i x η (h.3 i x hk)⟩
theorem PW.store{E:En}{w:World}{s:Ps}{fb:Nat}{cs:Array Value}(h:PW E w s)(hE:E.ok)(hf:w.heap[fb]? =some (.cells cs 106 (0,0)))(hX:E.X≤fb)(i:Nat)(v:Value):PW E (w.setCell ⟨fb,i,none⟩ v) s:=by
 obtain⟨vd,vc,vb,mb,h⟩:=h
 refine⟨vd,vc,vb,mb,{lu:=h.lu.setCell hX _,box:=?_,dn:=iJ hf ζ h.dn,ch:=iJ hf ζ h.ch,bl:=iJ hf ζ h.bl,mp:=h.mp.set hf,mx:=h.mx,le:=h.le,tx:=h.tx,cb:=h.cb,bb:=h.bb}⟩
 rw[heap_setCell_other _ _ _ _ (fun q=>by have hx:=h.box;rw[show E.pb=fb from q,hf]at hx;cases hx)]
 exact h.box
def jN(w:World)(b:Nat)(f:Fm)(y:Value):Prop:=w.heap[b]? =some (.cells #[.bool f.named, .string (au f.name), .int .i64 f.ek,y] 106 (0,0))∧uz w y f.params∧f.name.length≤maxLen
theorem jN.kp{w w':World}{b:Nat}{f:Fm}{y:Value}(h:jN w b f y)(hk:KP w w'):jN w' b f y:=⟨hk.2 _ _ _ _ rfl h.1,h.2.1.kp hk,h.2.2⟩
theorem jN.cells{w:World}{b:Nat}{f:Fm}{y:Value}(h:jN w b f y):w.cell? ⟨b,0,none⟩=some (.bool f.named)∧w.cell? ⟨b,1,none⟩=some (.string (au f.name))∧w.cell? ⟨b,2,none⟩=some (.int .i64 f.ek)∧w.cell? ⟨b,3,none⟩=some y:=by simp[World.cell?,h.1]
theorem jN.wz{w:World}{b:Nat}{f:Fm}{y:Value}(h:jN w b f y)(i:Nat):w.frozen? ⟨b,i,none⟩=false:=ab7 h.1 i
theorem uz.set{w:World}{y:Value}{p:List (Bs×Bool)}{fb i:Nat}{cs:Array Value}{v:Value}(h:uz w y p)(hf:w.heap[fb]? =some (.cells cs 106 (0,0))):uz (w.setCell ⟨fb,i,none⟩ v) y p:=by
 obtain⟨a,c,h1,h0,h2⟩:=h
 refine⟨a,c,h1,h0,?_⟩
 rcases h2 with h2|⟨b,cur,h3,h4,h5⟩
 ·exact .inl h2
 ·exact .inr ⟨b,cur,h3,by rw[heap_setCell_other _ _ _ _ (fun q=>by subst q;rw[hf]at h4;cases h4)];exact h4,h5⟩
theorem jN.ek{w:World}{b:Nat}{f:Fm}{y:Value}(h:jN w b f y)(n:Nat):jN (w.setCell ⟨b,2,none⟩ (.int .i64 n)) b {f with ek:=n} y:=⟨by have:=gJ (i:=2) (v:= .int .i64 n) h.1;simpa using this,h.2.1.set h.1,h.2.2⟩
theorem jN.fn{w:World}{b:Nat}{f:Fm}{y y':Value}{p:List (Bs×Bool)}(h:jN w b f y)(hd:uz w y' p):jN ((w.setCell ⟨b,2,none⟩ (.int .i64 3)).setCell ⟨b,3,none⟩ y') b {f with ek:=3,params:=p} y':=by
 have h1:=gJ (i:=2) (v:= .int .i64 3) h.1
 have h2:=gJ (i:=3) (v:=y') h1
 exact⟨by simpa using h2,(hd.set h.1).set h1,h.2.2⟩
def ad4(E:En)(fb:Nat)(w:World)(s:Ps)(r:Rs Va)(e:Ending)(w':World):Prop:=
 match r with
 | .ok v s'=>e= .returned (.bool (decide (s.af<s'.af)))∧s.af≤s'.af∧(∃y,jN w' fb v.fA y)∧PW E w' s'∧tT fb w w'
 | .no=>(∃n:Int,e= .panicked (mV n))∧Below E.X E.w0 w'∧tT fb w w'
 | .out=>True
theorem Zn{E:En}{fb:Nat}{w w2:World}{s:Ps}{r:Rs Va}{n:Int}(hr:r= .no)(hb:Below E.X E.w0 w2)(hk:tT fb w w2):ad4 E fb w s r (.panicked (mV n)) w2:=by rw[hr];exact⟨⟨n,rfl⟩,hb,hk⟩
theorem Zo{E:En}(hE:E.ok){n:Nat}(ih:∀m,m≤n→Wk E m)(f0:Fm)(a0:Bool)(fb:Nat)(y0:Value)(s:Ps)(w:World)(hX:E.X≤fb)(hf:jN w fb f0 y0)(hp:PW E w s)(hne:run E.L E.base n (.eT f0 a0) s≠ .out):Calls Tryz.prog 85 #[.pointer (some ⟨E.pb,0,none⟩), .pointer (some ⟨fb,0,none⟩)] w (ad4 E fb w s (run E.L E.base n (.eT f0 a0) s)):=by
 obtain⟨r,hr⟩:∃r,run E.L E.base n (.eT f0 a0) s=r:=⟨_,rfl⟩
 rw[hr]at hne⊢
 have HN:=Hh hne
 have Bc:=Hh hr
 have G5:=Hh hp
 have HF0:=Hh hf
 have HX:=Hh hX
 have IH:=Hh ih
 clear hne hr hp hf hX ih
 go_enter Tryz.func85,Tryz.ntmps85
 go_wp2_with fail
 go_loopg [4,5] n (fun gf q4 q5 wr=>∃(s':Ps) (f':Fm) (a' b':Bool) (y':Value),q4= .bool b'∧b'=decide (s.af<s'.af)∧s.af≤s'.af∧gf≤n∧run E.L E.base gf (.eT f' a') s'=r∧PW E wr s'∧tT fb w wr∧jN wr fb f' y')
 case atStart=>exact⟨_,_,_,false,_,rfl,by simp,υ _,υ _,Bc.out,G5.out,tT.refl _ _,HF0.out⟩
 case round=>
  obtain⟨s1,f1,a1,b1,y1,rfl,hbd,hle,hgn,hr1,hp1,hk1,hf1⟩:=hrel
  cases gk with
  |zero=>rw[iH]at hr1;exact absurd hr1.symm HN.out
  |succ g=>
   rw[run]at hr1;have HR1:=Hh hr1;have qI:=Hh hp1;have mF:=Hh hk1;have HF1:=Hh hf1;have HBD:=Hh hbd;have Tp:=Hh hle;clear hr1 hp1 hk1 hf1 hbd hle
   go_wp2_with fail
   refine(uO hE 0 [91] _ _ η qI.out).mono ?_;intro e w2 he
   rcases CQ (x:=eu E.L 0 [91]) HR1.out HN.out (KP.refl _) he with⟨v2,s2,hr2,hx2,rfl,hp2,hk2, -⟩|⟨hr2,⟨z,rfl⟩,hb2,hk2⟩
   case' inr=>exact⟨rfl,Zn hr2 hb2 (mF.out.trans (hk2.b fb))⟩
   obtain rfl:s2=s1:=by cases hx2;rfl
   have HR2:=Hh hr2;have nJ:=Hh hp2;have eQ:=Hh (mF.out.trans (hk2.b fb));have Xk:=Hh (HF1.out.kp hk2);clear he hr2 hx2 hp2 hk2;cases v2
   ·have hq:=HR2.out
    replace hq:=Ml hq;have HR3:=Hh hq;clear hq
    go_wp2_with fail
    refine(uO hE 0 [40] _ _ η nJ.out).mono ?_;intro e w4 he
    rcases CQ (x:=eu E.L 0 [40]) HR3.out HN.out (KP.refl _) he with⟨v4,s4,hr4,hx4,rfl,Mw,hk4, -⟩|⟨hr4,⟨z,rfl⟩,hb4,hk4⟩
    case' inr=>exact⟨rfl,Zn hr4 hb4 (eQ.out.trans (hk4.b fb))⟩
    obtain rfl:s4=s2:=by cases hx4;rfl
    have HR4:=Hh hr4;have pR:=Hh Mw;have qo:=Hh (eQ.out.trans (hk4.b fb));have HF4:=Hh (Xk.out.kp hk4);clear he hr4 hx4 Mw hk4;cases v4
    ·have hq:=HR4.out
     replace hq:=zh (Ml hq);have HQ:=Hh hq;clear hq
     go_wp2_with fail
     refine⟨rfl, .bool b1,by simp[results,Tryz.results85,go_sem],?_⟩;rw[HQ.out];exact⟨by rw[HBD.out],Tp.out,⟨_,HF4.out⟩,pR.out,qo.out⟩
    ·have hq:=HR4.out
     replace hq:=Mj hq;have zm:=Hh hq;clear hq
     go_wp2_with fail
     refine((IH.out g η).Gj _ _ pR.out (fP zm.out HN.out)).mono ?_;intro e w6 he
     rcases JL (x:=run E.L E.base g .params) zm.out HN.out (KP.refl _) he with⟨v6,s6,y6,rQ,hx6,rfl,MI,II,uA, -⟩|⟨rQ,⟨z,rfl⟩,hb6,uA⟩
     case' inr=>exact⟨rfl,Zn rQ hb6 (qo.out.trans (uA.b fb))⟩
     obtain⟨ya,yc,rfl, -⟩:=id MI;have hlt:=abJ hx6;have hl:s.af<s6.af:=Nat.lt_of_le_of_lt Tp.out hlt;have Ke:=HF4.out.kp uA;obtain⟨-, -,d2, -⟩:=Ke.cells;have z2:=Ke.wz 2;have z3:=Ke.wz 3;have zo:=Hh rQ;have Fa:=Hh II;have Ba:=Hh (qo.out.trans (uA.b fb));have MJ:=Hh Ke;have HY6:=Hh MI;have MK:=Hh hl;clear he rQ hx6 II uA Ke MI hlt hl;obtain⟨zn,hzn⟩:∃z:Int,(f1.ek:Int)=z:=⟨_,rfl⟩;rw[hzn]at d2;by_cases h0:f1.ek=0
     ·have e0:(zn==0)=true:=by rw[←hzn,h0];rfl
      have HZ:=Hh hzn;clear hzn;have g3:=MJ.out.cells.2.2.2
      go_wp2_with fail
      go_roundg g
      case measure=>omega
      case rel=>
       have e1:f1.yL v6.jm={f1 with ek:=3,params:=v6.jm}:=by unfold Fm.yL;rw[ω h0]
       exact⟨s6,_,true,true,_,rfl,(aa4 MK.out).symm,af2 MK.out,by omega,e1▸zo.out,(Fa.out.store hE MJ.out.1 HX.out 2 _).store hE (gJ (i:=2) MJ.out.1) HX.out 3 _,(Ba.out.trans (tT.store _ fb 2 _)).trans (tT.store _ fb 3 _),MJ.out.fn HY6.out⟩
     ·have e0:(zn==0)=false:=by rw[aat,←hzn];omega
      have HZ:=Hh hzn;clear hzn
      go_wp2_with fail
      go_roundg g
      case measure=>omega
      case rel=>
       have e1:f1.yL v6.jm=f1:=by unfold Fm.yL;rw[χ h0]
       exact⟨s6,_,true,true,_,rfl,(aa4 MK.out).symm,af2 MK.out,by omega,e1▸zo.out,Fa.out,Ba.out,MJ.out⟩
   ·have hq:=HR2.out
    replace hq:=Mj hq;have HR3:=Hh hq;clear hq
    go_wp2_with fail
    refine((IH.out g η).JM _ _ nJ.out (fP HR3.out HN.out)).mono ?_;intro e w6 he
    rcases JL (x:=run E.L E.base g .array) HR3.out HN.out (KP.refl _) he with⟨v6,s6,y6,rQ,hx6,rfl,rfl,II,uA, -⟩|⟨rQ,⟨z,rfl⟩,hb6,uA⟩
    case' inr=>exact⟨rfl,Zn rQ hb6 (eQ.out.trans (uA.b fb))⟩
    have hlt:=ad3 hx6;have hl:s.af<s6.af:=Nat.lt_of_le_of_lt Tp.out hlt;have Ke:=Xk.out.kp uA;obtain⟨-, -,d2, -⟩:=Ke.cells;have z2:=Ke.wz 2;have zo:=Hh rQ;have Fa:=Hh II;have Ba:=Hh (eQ.out.trans (uA.b fb));have MJ:=Hh Ke;have MK:=Hh hl;clear he rQ hx6 II uA Ke hlt hl;obtain⟨zn,hzn⟩:∃z:Int,(f1.ek:Int)=z:=⟨_,rfl⟩;rw[hzn]at d2;by_cases h0:f1.ek=0
    ·have e0:(zn==0)=true:=by rw[←hzn,h0];rfl
     have HZ:=Hh hzn;clear hzn
     go_wp2_with fail
     go_roundg g
     case measure=>omega
     case rel=>
      have e1:f1.BG={f1 with ek:=2}:=by unfold Fm.BG;rw[ω h0]
      exact⟨s6,_,true,true,_,rfl,(aa4 MK.out).symm,af2 MK.out,by omega,e1▸zo.out,Fa.out.store hE MJ.out.1 HX.out 2 _,Ba.out.trans (tT.store _ fb 2 _),MJ.out.ek 2⟩
    ·have e0:(zn==0)=false:=by rw[aat,←hzn];omega
     have HZ:=Hh hzn;clear hzn
     go_wp2_with fail
     go_roundg g
     case measure=>omega
     case rel=>
      have e1:f1.BG=f1:=by unfold Fm.BG;rw[χ h0]
      exact⟨s6,_,true,true,_,rfl,(aa4 MK.out).symm,af2 MK.out,by omega,e1▸zo.out,Fa.out,Ba.out,MJ.out⟩
abbrev Wf(E:En)(n:Nat)(f:FuncId)(ar:Array Value)(R:World→Va→Value→Prop)(tg:Tg):Prop:=∀s w,PW E w s→run E.L E.base (n+1) tg s≠ .out→Calls Tryz.prog f ar w (eZ E R w (run E.L E.base (n+1) tg s))
theorem Wf.mk{E:En}{n:Nat}{f:FuncId}{ar:Array Value}{R:World→Va→Value→Prop}{tg:Tg}(h:∀s w r,Hid (run E.L E.base (n+1) tg s=r)→Hid (r≠ .out)→Hid (PW E w s)→Hid (KP w w)→Calls Tryz.prog f ar w (eZ E R w r)):Wf E n f ar R tg:=fun s w hp hne=>h s w _ (Hh rfl) (Hh hne) (Hh hp) (Hh (KP.refl w))
section
variable {α β:Type} {s:Ps} {r:Rs β}
theorem Zp(v:α)(k:α→Pm β):((pure v:Pm α)>>=k)=k v:=rfl
theorem ad5{c:Prop}{dc:Decidable c}(A B:Pm α)(k:α→Pm β):((if c then A else B)>>=k)=if c then A>>=k else B>>=k:=by
 by_cases e:c
 ·rw[ω e,ω e]
 ·rw[χ e,χ e]
theorem akf{P Q:Prop}{dc:Decidable (P∧Q)}(A B:Pm β):(if P∧Q then A else B)=(@ite _ P (Classical.propDecidable P) (@ite _ Q (Classical.propDecidable Q) A B) B):=by
 by_cases e:P<;>by_cases f:Q<;>simp only[e,f,and_self,and_true,and_false,false_and,if_true,if_false]
theorem orE{P Q:Prop}{dc:Decidable (P∨Q)}(A B:Pm β):(if P∨Q then A else B)=(@ite _ P (Classical.propDecidable P) A (@ite _ Q (Classical.propDecidable Q) A B)):=by
 by_cases e:P<;>by_cases f:Q<;>simp only[e,f,or_self,or_true,true_or,acz,if_true,if_false]
theorem akg{P:Prop}{dc:Decidable (¬P)}(A B:Pm β):(if¬P then A else B)=(@ite _ P (Classical.propDecidable P) B A):=by
 by_cases e:P<;>simp only[e,not_true,not_false_eq_true,if_true,if_false]
theorem bA{a b:Bool}{dc:Decidable ((a&&b)=true)}(A B:Pm β):(if(a&&b)=true then A else B)=(if a=true then(if b=true then A else B)else B):=by cases a<;>simp
theorem bO{a b:Bool}{dc:Decidable ((a||b)=true)}(A B:Pm β):(if(a||b)=true then A else B)=(if a=true then A else(if b=true then A else B)):=by cases a<;>simp
theorem bN{a:Bool}{dc:Decidable ((!a)=true)}(A B:Pm β):(if(!a)=true then A else B)=(if a=true then B else A):=by cases a<;>simp
theorem bF{a:Bool}{dc:Decidable (a=false)}(A B:Pm β):(if a=false then A else B)=(if a=true then B else A):=by cases a<;>simp
theorem iT{dc:Decidable (true=true)}(A B:Pm β):(if true=true then A else B)=A:=ω rfl
theorem iF{dc:Decidable (false=true)}(A B:Pm β):(if false=true then A else B)=B:=χ (fun e=>(by cases e))
theorem asE{γ:Type}(x:Pm γ)(f:γ→Pm α)(k:α→Pm β):((x>>=f)>>=k)=x>>=fun a=>f a>>=k:=by
 funext s
 show Pm.bind (Pm.bind x f) k s=Pm.bind x (fun a=>Pm.bind (f a) k) s
 unfold Pm.bind
 cases x s<;>rfl
theorem lpE{l:List Ct}{b:Bs→Bool}{n:Nat}{tg:Tg}{s:Ps}:run l b n tg s=(run l b n tg>>=fun v=>pure v) s:=by
 show _=Pm.bind _ _ s
 unfold Pm.bind
 cases run l b n tg s<;>rfl
theorem Xl{b:Bool}{dc:Decidable (b=true)}{A B:Pm β}(h:(if b=true then A else B) s=r)(e:b=true):A s=r:=by rwa[ω e]at h
theorem TM{b:Bool}{dc:Decidable (b=true)}{A B:Pm β}(h:(if b=true then A else B) s=r)(e:b=false):B s=r:=by rwa[χ (by rw[e];exact fun e=>(by cases e))]at h
theorem q_z{z k:Int}{dc:Decidable ((z==k)=true)}{A B:Pm β}(h:(if(z==k)=true then A else B) s=r):((z==k)=true∧(z !=k)=false∧A s=r)∨((z==k)=false∧(z !=k)=true∧B s=r):=by
 cases e:(z==k)
 ·exact .inr ⟨rfl,by unfold bne;rw[e];rfl,TM h e⟩
 ·exact .inl ⟨rfl,by unfold bne;rw[e];rfl,Xl h e⟩
theorem atI{z k j:Int}{dc:Decidable ((z==k)=true)}{A B:Pm β}(h:(if(z==k)=true then A else B) s=r)(e:(z==j)=true)(f:(j==k)=false):(z==k)=false∧(z !=k)=true∧B s=r:=by
 have g:(z==k)=false:=by rw[eq_of_beq e];exact f
 exact⟨g,by unfold bne;rw[g];rfl,TM h g⟩
theorem q_x{z k:Bs}{dc:Decidable ((z==k)=true)}{A B:Pm β}(h:(if(z==k)=true then A else B) s=r):((z==k)=true∧A s=r)∨((z==k)=false∧B s=r):=by
 cases e:(z==k)
 ·exact .inr ⟨rfl,TM h e⟩
 ·exact .inl ⟨rfl,Xl h e⟩
end
theorem iQ{E:En}{β:Type}{k:Nat}{t:Bs}{q:Bool→Pm β}{s:Ps}{r:Rs β}{w:World}(hE:E.ok)(HR:Hid ((eu E.L k t>>=q) s=r))(hk:k≤10)(h:PW E w s):Calls Tryz.prog 47 #[.pointer (some ⟨E.pb,0,none⟩), .int .i64 k, .string (au t)] w (fO E .bool w (eu E.L k t s)):=uO hE k t s w hk h
variable {E : En}{s : Ps}{β : Type}{r : Rs β}
theorem bls {k:Nat}{q:Bool→Pm β}{w:World}(hE:E.ok)(HR:Hid ((wI E.L E.base k>>=q) s=r))(hk:k≤10)(h:PW E w s):Calls Tryz.prog 118 #[.pointer (some ⟨E.pb,0,none⟩), .int .i64 k] w (fO E .bool w (wI E.L E.base k s)):=SS hE k s w hk h
variable {t : Bs}
theorem tb (x:ByteArray)(h:au t=x)(u:Bs):(t=u)=((x.toList==u)=true):=by
 subst h
 rw[mJ]
 exact propext ⟨fun e=>by rw[e];exact afA u,fun e=>eq_of_beq e⟩
theorem tbb (x:ByteArray)(h:au t=x)(u:Bs):(t==u)=(x.toList==u):=by
 subst h
 rw[mJ]
theorem zb(z k:Int):(z=k)=((z==k)=true):=propext ⟨fun e=>by rw[e];exact afA k,fun e=>eq_of_beq e⟩
def stK (l:List Ct)(n:Nat)(k:Unit→Pm β):Pm β:=step l n>>=k
theorem stE (l:List Ct)(n:Nat)(k:Unit→Pm β):(step l n>>=k)=stK l n k:=rfl
variable {n : Nat}{w1 : World}
theorem Ou {k:Unit→Pm β}{w : World}(hE:E.ok)(hr:Hid (stK E.L n k s=r))(hn:Hid (r≠ .out))(hp:Hid (PW E w1 s))(hk:Hid (KP w w1))(z:Int)(hz:((s.af+n:Nat):Int)=s.af+z):
 ∃s' W,W=w1.setCell ⟨E.pb,1,none⟩ (.int .i64 (s.af+z))∧Hid (k () s'=r)∧Hid (PW E W s')∧Hid (KP w W)∧KP w1 W∧W.heap.size=w1.heap.size:=by
 obtain⟨h1,h2⟩:=A9 hr.out hn.out
 obtain⟨h3,h4⟩:=hp.out.on hE h1
 rw[hz]at h3 h4
 exact⟨_,_,rfl,Hh h2,Hh h3,Hh (hk.out.trans h4),h4,by simp⟩
theorem at3 {w:World}(hE:E.ok)(hp:Hid (PW E w s)):w.cell? ⟨E.pb,1,none⟩=some (.int .i64 s.af)∧w.frozen? ⟨E.pb,1,none⟩=false∧s.af<100001∧E.pb<w.heap.size:=by
 obtain⟨h1,h2,h3⟩:=hp.out.at
 have:=hE.len
 exact⟨h1,h2,by omega,hp.out.lt⟩
variable {W : World}
theorem WN {w : World}{x:Obj}(hE:E.ok)(hW:w1.alloc x=W)(hp:Hid (PW E w1 s))(hk:Hid (KP w w1)):Hid (PW E W s)∧Hid (KP w W)∧KP w1 W:=by
 subst hW
 have h:=ag w1 x
 exact⟨Hh (hp.out.ext hE h),Hh (hk.out.trans (KP.aT h)),KP.aT h⟩
theorem alH {h:Nat×Nat}{b:Nat}(hW:w1.alloc (.cells #[.int .i64 h.1, .int .i64 h.2] 77)=W)(hs:Hid (w1.heap.size=b)):lC W b h:=by
 subst hW;rw[←hs.out];exact lC.new _ _
variable {x : ByteArray}{z : Int}
theorem alT {b:Nat}(hW:w1.alloc (.cells #[.int .i64 z, .string x] 54)=W)(hs:Hid (w1.heap.size=b)):uB W b z x:=by
 subst hW;rw[←hs.out];exact uB.new _ _ _
theorem ML(z:Int)(x:ByteArray)(W:World):(Instr.field 54 (.agg #[.int .i64 z, .string x]) 0).run Tryz.prog W= .ok (.int .i64 z) W:=by kernel_rfl
theorem uB.ne {w:World}{b:Nat}(hb:uB w b z x)(hp:PW E w s):¬E.pb=b:=by
 obtain⟨vd,vc,vb,mb,hp⟩:=hp
 intro e
 have:=hp.box
 rw[e,show w.heap[b]? =_ from hb]at this
 cases this
variable {nb : Bool}{f : Fm}{y : Value}
theorem alF {b:Nat}(hW:w1.alloc (.cells #[.bool nb, .string (au f.name), .int .i64 f.ek,y] 106)=W)(hs:Hid (w1.heap.size=b))(hd:Hid (uz w1 y f.params))(hl:Hid (f.name.length≤maxLen))(hn:f.named=nb):jN W b f y:=by
 subst hW;subst hn;rw[←hs.out];exact⟨dz _ _ _,hd.out.kp (KP.aT (ag _ _)),hl.out⟩
theorem fmU {b:Nat}(hb:Hid (jN W b f y))(u:df W):u.w.cell? ⟨b,1,none⟩=some (.string (au f.name)):=u.cell hb.out.cells.2.1
theorem jN.ne {w:World}{b:Nat}(hb:jN w b f y)(hp:PW E w s):¬E.pb=b:=by
 obtain⟨vd,vc,vb,mb,hp⟩:=hp
 intro e
 have:=hp.box
 rw[e,hb.1]at this
 cases this
theorem aoE(f:Fm):(f.ek==3)=(((f.ek:Nat):Int)==3):=by
 rw[ags,aaZ,aaZ];omega
theorem ctU {b:Nat}(hb:Hid (uB W b z x)):(∀u:df W,u.w.cell? ⟨b,0,none⟩=some (.int .i64 z))∧∀u:df W,u.w.cell? ⟨b,1,none⟩=some (.string x):=⟨fun u=>u.cell hb.out.cells.1,fun u=>u.cell hb.out.cells.2⟩
variable {B : Bool}
theorem atJ (hE:E.ok)(hl:Hid (t.length≤maxLen))(hx:Hid (au t=x))(hi:Hid (Ns.l8 E.base s.nm t=B))(hp:Hid (PW E W s))(u:df W):Calls Tryz.prog 74 #[.pointer (some ⟨E.pb,3,none⟩), .string x] u.w fun e w'=>e= .returned (.bool B)∧Below u.w.heap.size u.w w':=by
 have h:=Io hE t s _ hl.out (hp.out.ext hE u.below)
 rw[hi.out,hx.out]at h
 exact h
variable {A : Pm β}
theorem akc {b:Bool}{dc:Decidable (b=true)}{B : Pm β}(h:(if b=true then A else B) s=r):(b=true∧A s=r)∨(b=false∧B s=r):=by
 cases b
 ·exact .inr ⟨rfl,TM h rfl⟩
 ·exact .inl ⟨rfl,Xl h rfl⟩
variable {l : List Ct}{j : Nat}
theorem akh {t:Ps}{x:Bs}{dc:Decidable (aX l t j x=true)}{B : Pm β}(h:(if aX l t j x=true then A else B) s=r):(aX l t j x=true∧A s=r)∨(aX l t j x=false∧B s=r):=akc h
theorem Zq (k:Ps→Pm β)(s:Ps):(sj>>=k) s=k s s:=rfl
theorem sg1 {k:Nat}{w : World}(hE:E.ok)(hs:Hid (aX E.L s k t=B))(hk:k≤10)(hp:Hid (PW E w1 s))(hK:Hid (KP w w1)):Calls Tryz.prog 47 #[.pointer (some ⟨E.pb,0,none⟩), .int .i64 k, .string (au t)] w1 fun e w2=>e= .returned (.bool B)∧Hid (PW E w2 s)∧Hid (KP w w2)∧KP w1 w2:=by
 refine(uO hE k t s w1 hk hp.out).mono ?_
 rintro e w2 ⟨rfl,h1,h2⟩
 exact⟨by rw[hs.out],Hh h1,Hh (hK.out.trans h2),h2⟩
variable {α : Type}
theorem flE (k:α→Pm β):((iD:Pm α)>>=k)=iD:=rfl
variable {Q : Ending→World→Prop}
theorem mRk {k:α→Pm β}{val:α→Value}{w : World}{f:FuncId}{args:Array Value}{x:Pm α}(h:Calls Tryz.prog f args w1 (fO E val w1 (x s)))(hr:Hid ((x>>=k) s=r))(hn:Hid (r≠ .out))(hk:Hid (KP w w1))(hno:∀n w2,(∀{R:World→β→Value→Prop},eZ E R w r (.panicked (mV n)) w2)→Q (.panicked (mV n)) w2)(hok:∀v s2 w2,x s= .ok v s2→Hid (k v s2=r)→Hid (PW E w2 s2)→KP w1 w2→Hid (KP w w2)→Q (.returned (val v)) w2):Calls Tryz.prog f args w1 Q:=by
 refine h.mono fun e w2 he=>?_
 rcases CQ hr.out hn.out hk.out he with⟨v,s2,h1,h2,rfl,h3,h4,h5⟩|⟨h1,⟨z,rfl⟩,h3,h4⟩
 ·exact hok v s2 w2 h2 (Hh h1) (Hh h3) h4 (Hh h5)
 ·exact hno z w2 fun{R}=>by rw[h1];exact⟨⟨z,rfl⟩,h3,h4⟩
theorem mPk {k:Ct→Pm β}{w : World}(hE:E.ok)(hr:Hid ((rD E.L j>>=k) s=r))(hj:j≤10)(hp:Hid (PW E w1 s))(hk:Hid (KP w w1))(hok:∀z t x w2,az E.L s j=⟨z,t⟩→au t=x→t.length≤maxLen→k ⟨z,t⟩ s=r→Hid (PW E w2 s)→KP w1 w2→Hid (KP w w2)→Q (.returned (.agg #[.int .i64 z, .string x])) w2):Calls Tryz.prog 71 #[.pointer (some ⟨E.pb,0,none⟩), .int .i64 j] w1 Q:=by
 refine(qg hE j s _ hj hp.out).mono ?_
 rintro e w2 ⟨rfl,hb⟩
 have hl:=Gh hE s j
 have hq:=uT (x:=rD E.L j) hr.out rfl
 obtain⟨T,hT⟩:∃T,az E.L s j=T:=⟨_,rfl⟩
 rw[hT]at hl hq⊢
 exact hok T.c T.t _ w2 hT rfl hl hq (Hh (hp.out.ext hE hb)) (KP.aT hb) (Hh (hk.out.trans (KP.aT hb)))
theorem lpK {b:Bs→Bool}{tg:Tg}{k:Va→Pm β}(h:Hid ((run l b n tg>>=k) s=r)):∃m t q,n=m∧t=tg∧q=k∧(run l b n t>>=q) s=r:=⟨_,_,_,rfl,rfl,rfl,h.out⟩
theorem U{p:Prop}(h:p:=by
 have IH:=Hh ih
 clear ih
 have GO:=trivial
 repeat' first
  |(exact absurd HWO.out η)
  |(rcases enC HR.out with⟨rfl,rfl,h3⟩|⟨rfl,rfl,h3⟩|⟨rfl,f2,f1,h3⟩|⟨f3,rfl,f4,h3⟩|⟨f3,f5,f1,f6,h3⟩|⟨f3,f2,f1,h3⟩<;>replace HR:=Hh h3<;>clear h3)
  |(obtain⟨hwo,h3⟩:=axx HR.out HN.out
    replace HR:=Hh h3;have hLn:=hE.len
    have hbw:wd<200000:=by omega
    have hbo:oo<200000:=by omega
    clear hwo h3 hLn)
  |rw[Zq]at HR
  |rw[flE]at HR
  |rw[asE]at HR
  |rw[iT]at HR
  |rw[iF]at HR
  |rw[Zp]at HR
  |rw[ad5]at HR
  |rw[bA]at HR
  |rw[bO]at HR
  |rw[bN]at HR
  |rw[bF]at HR
  |rw[aoE]at HR
  |rw[akf]at HR
  |rw[orE]at HR
  |rw[akg]at HR
  |rw[lpE]at HR
  |(with_reducible replace HR:=Hh (Xl HR.out ξ))
  |(with_reducible replace HR:=Hh (TM HR.out ξ))
  |(with_reducible obtain⟨h1,h2,h3⟩:=atI HR.out HZ.out rfl
    have HR:=Hh h3
    clear h3)
  |(with_reducible obtain⟨h1,h3⟩:=ax3 HR.out HX.out rfl
    have HR:=Hh h3
    clear h3)
  |(obtain⟨B,hB⟩:∃B,Ns.l8 E.base (Ps.nm s) t=B:=⟨_,rfl⟩
    rw[hB]at HR;have HI:=Hh hB;clear hB
    cases B)
  |(with_reducible rcases axy HR.out with⟨h1,h2,HWO,h3⟩|⟨rfl,rfl,h3⟩<;>replace HR:=Hh h3<;>clear h3)
  |(with_reducible rcases q_z HR.out with⟨h1,h2,h3⟩|⟨h1,h2,h3⟩<;>replace HR:=Hh h3<;>(try have HZ:Hid (_=true):=Hh h1)<;>clear h3)
  |(with_reducible rcases q_x HR.out with⟨h1,h3⟩|⟨h1,h3⟩<;>replace HR:=Hh h3<;>(try have HX:Hid (_=true):=Hh h1)<;>clear h3)
  |(with_reducible rcases akh HR.out with⟨h1,h3⟩|⟨h1,h3⟩<;>replace HR:=Hh h3<;>(have HSG:=Hh h1)<;>clear h1 h3)
  |(replace HR:=Hh (QQ HR.out ζ))
  |(replace HR:=Hh (Mm HR.out ζ))
  |(have hsp:spec t=_:=rfl
    rw[hsp]at HR;clear hsp
    rcases Mt t with hk|hk|hk|hk|hk|hk|hk|hk<;>(rw[hk]at HR;have UI:=Hh hk;clear hk))
  |(rw[Bool.or_comm]at HR
    cases td<;>simp only[Bool.or_true,afp]at HR)
  |(clear GO
    obtain⟨c1,f1,hi,hpb⟩:=at3 hE HP
    (try obtain⟨d0,d1⟩:=rV.out.cells)
    (try obtain⟨d2,d3⟩:=wW.out.cells)
    (try obtain⟨d4,d5⟩:=zF.out.cells)
    (try have n0:=And.intro (rV.out.ne HP.out) rV.out.lt)
    (try have n1:=And.intro (wW.out.ne HP.out) wW.out.lt)
    (try have n3:=And.intro (jN.ne xL.out HP.out) xL.out.cells)
    (try have n4:=And.intro (And.intro (zG.out.ne HP.out) zG.out.lt) zG.out.cells)
    (try have n2:=uB.ne zF.out HP.out)
    go_wp2_with fail
    all_goals(repeat(go_step3;go_wp2_with fail))
    all_goals(clear c1 f1 hi hpb)
    all_goals(try clear d0 d1)
    all_goals(try clear d2 d3)
    all_goals(try clear d4 d5)
    all_goals(try clear n0)
    all_goals(try clear n1)
    all_goals(try clear n2)
    all_goals(try clear n3)
    all_goals(try clear n4)
    all_goals(try rw[Jq.out])
    all_goals(try rw[Kh.out])
    all_goals(try rw[Kg.out])
    all_goals(try rw[Vb.out]))
  |(have hs:=Jq
    generalize hW:World.alloc _ (Obj.cells #[.int .i64 (Nat.cast _), .int .i64 (Nat.cast _)] 77)=W
    fail_if_success (clear hW W)
    with_reducible have Jr:=Hh (alH hW hs)
    obtain⟨hp,hk,hkk⟩:=WN hE hW HP HK;replace HP:=hp;replace HK:=hk;clear hp hk
    (try replace rV:=Hh (rV.out.kp hkk))
    (try replace zG:=Hh (zG.out.kp hkk))
    (try replace zF:=Hh (zF.out.kp hkk))
    (try replace wW:=Hh (wW.out.kp hkk))
    (try replace xL:=Hh (xL.out.kp hkk))
    clear hkk;have wW:=Jr
    clear Jr Jq hs hW)
  |(have hs:=Kg
    generalize hW:World.alloc _ (Obj.cells #[.int .i64 (Nat.cast _), .int .i64 (Nat.cast _)] 77)=W
    fail_if_success (clear hW W)
    with_reducible have Jr:=Hh (alH hW hs)
    obtain⟨hp,hk,hkk⟩:=WN hE hW HP HK;replace HP:=hp;replace HK:=hk;clear hp hk
    (try replace rV:=Hh (rV.out.kp hkk))
    (try replace zG:=Hh (zG.out.kp hkk))
    (try replace zF:=Hh (zF.out.kp hkk))
    (try replace wW:=Hh (wW.out.kp hkk))
    (try replace xL:=Hh (xL.out.kp hkk))
    clear hkk;have rV:=Jr
    clear Jr Kg hs hW)
  |(have hs:=Kh
    generalize hW:World.alloc _ (Obj.cells #[.bool _, .string _, .int .i64 _, .slice _ _ _] 106)=W
    fail_if_success (clear hW W)
    with_reducible have Jr:=Hh (alF hW hs MM zK (by first|rfl|assumption))
    obtain⟨hp,hk,hkk⟩:=WN hE hW HP HK;replace HP:=hp;replace HK:=hk;clear hp hk
    (try replace rV:=Hh (rV.out.kp hkk))
    (try replace zG:=Hh (zG.out.kp hkk))
    (try replace zF:=Hh (zF.out.kp hkk))
    (try replace wW:=Hh (wW.out.kp hkk))
    (try replace xL:=Hh (xL.out.kp hkk))
    clear hkk;have xL:=Jr
    clear Jr Kh hs hW MM zK)
  |(have hs:=Vb
    generalize hW:World.alloc _ (Obj.cells #[.int .i64 _, .string _] 54)=W
    fail_if_success (clear hW W)
    with_reducible have Jr:=Hh (alT hW hs)
    obtain⟨hp,hk,hkk⟩:=WN hE hW HP HK;replace HP:=hp;replace HK:=hk;clear hp hk
    (try replace rV:=Hh (rV.out.kp hkk))
    (try replace zG:=Hh (zG.out.kp hkk))
    (try replace zF:=Hh (zF.out.kp hkk))
    (try replace wW:=Hh (wW.out.kp hkk))
    (try replace xL:=Hh (xL.out.kp hkk))
    clear hkk;have zF:=Jr
    clear Jr Vb hs hW)
  |((try obtain⟨g0,g1⟩:=ctU zF)
    (try have g2:=fmU xL)
    first
    |(refine jq (C:=fun w'=>∃u:df _,w'=u.w) 7 (by kernel_rfl) θ (df.drew _) ?_
      simp only[List.take_succ_cons,List.take_zero,List.drop_succ_cons,List.drop_zero]
      repeat(go_big_quiet_step (fail))
      refine abO ?_)
    |(refine wp_region_quiet (C:=fun w'=>∃u:df _,w'=u.w) (by kernel_rfl) (by kernel_rfl) (df.drew _) ?_
      dsimp only[]
      repeat(go_big_quiet_step (first|(go_at_call 74;rename_i u;refine(atJ hE HTl XN HI HP u).mono ?_;rintro e w2 ⟨rfl,b2⟩;exact⟨rfl,u.on b2⟩)|fail))
      refine abO ?_)
    rintro w' ⟨u,rfl⟩;obtain⟨W,hw⟩:∃w',w'=u.w:=⟨_,rfl⟩;have hbe:=u.below;rw[←hw]at hbe⊢
    (try clear g0 g1)
    (try clear g2)
    clear hw u;have hkk:=KP.aT hbe;replace HP:=Hh (HP.out.ext hE hbe);replace HK:=Hh (HK.out.trans hkk);clear hbe
    (try replace rV:=Hh (rV.out.kp hkk))
    (try replace zG:=Hh (zG.out.kp hkk))
    (try replace zF:=Hh (zF.out.kp hkk))
    (try replace wW:=Hh (wW.out.kp hkk))
    (try replace xL:=Hh (xL.out.kp hkk))
    clear hkk
    have GO:=trivial)
  |(rw[stE]at HR
    generalize hW:World.setCell _ ⟨E.pb,1,none⟩ _=W
    fail_if_success (clear hW W)
    obtain⟨s,W2,hw,hr,hp,hk,hkk,hsz⟩:=Ou hE HR HN HP HK 1 η;rw[hW]at hw;subst hw;replace HR:=hr;replace HP:=hp;replace HK:=hk;clear hr hp hk
    (try replace Jq:=Hh (hsz.trans Jq.out))
    (try replace Kh:=Hh (hsz.trans Kh.out))
    (try replace Kg:=Hh (hsz.trans Kg.out))
    (try replace Vb:=Hh (hsz.trans Vb.out))
    clear hsz hW
    (try replace rV:=Hh (rV.out.kp hkk))
    (try replace zG:=Hh (zG.out.kp hkk))
    (try replace zF:=Hh (zF.out.kp hkk))
    (try replace wW:=Hh (wW.out.kp hkk))
    (try replace xL:=Hh (xL.out.kp hkk))
    clear hkk)
  |(rw[stE]at HR
    generalize hW:World.setCell _ ⟨E.pb,1,none⟩ _=W
    fail_if_success (clear hW W)
    obtain⟨s,W2,hw,hr,hp,hk,hkk,hsz⟩:=Ou hE HR HN HP HK 2 η;rw[hW]at hw;subst hw;replace HR:=hr;replace HP:=hp;replace HK:=hk;clear hr hp hk
    (try replace Jq:=Hh (hsz.trans Jq.out))
    (try replace Kh:=Hh (hsz.trans Kh.out))
    (try replace Kg:=Hh (hsz.trans Kg.out))
    (try replace Vb:=Hh (hsz.trans Vb.out))
    clear hsz hW
    (try replace rV:=Hh (rV.out.kp hkk))
    (try replace zG:=Hh (zG.out.kp hkk))
    (try replace zF:=Hh (zF.out.kp hkk))
    (try replace wW:=Hh (wW.out.kp hkk))
    (try replace xL:=Hh (xL.out.kp hkk))
    clear hkk)
  |(first
    |(first
      |go_at_call 49
       refine mR (Gq hE _ _ _ _ xL.out.2.2 HP.out (fP HR.out HN.out)) HR HN HK (fun _ _ h=>⟨rfl,h⟩) ?_
      |go_at_call 53
       refine mR (E5 hE _ _ _ HP.out) HR HN HK (fun _ _ h=>⟨rfl,h⟩) ?_
      |go_at_call 34
       refine mR (Af hE _ _ _ _ HP.out (fP HR.out HN.out)) HR HN HK (fun _ _ h=>⟨rfl,h⟩) ?_
      |go_at_call 81
       refine mR (Ch hE _ _ _ HP.out) HR HN HK (fun _ _ h=>⟨rfl,h⟩) ?_
      |go_at_call 158
       refine mR (Vv hE _ _ _ HP.out) HR HN HK (fun _ _ h=>⟨rfl,h⟩) ?_
      |go_at_call 47
       refine mR (iQ hE HR (by first|decide|omega) HP.out) HR HN HK (fun _ _ h=>⟨rfl,h⟩) ?_
      |go_at_call 44
       refine mR (Ob hE _ _ _ HP.out) HR HN HK (fun _ _ h=>⟨rfl,h⟩) ?_
      |go_at_call 179
       refine mR (SV hE _ _ HP.out) HR HN HK (fun _ _ h=>⟨rfl,h⟩) ?_
      |go_at_call 127
       refine mR (Vx hE _ _ HP.out) HR HN HK (fun _ _ h=>⟨rfl,h⟩) ?_
      |go_at_call 126
       refine mR (Vy hE _ _ HP.out) HR HN HK (fun _ _ h=>⟨rfl,h⟩) ?_
      |go_at_call 163
       refine mR (YO hE _ _ HP.out) HR HN HK (fun _ _ h=>⟨rfl,h⟩) ?_
      |go_at_call 86
       refine mR (Ol hE _ _ HP.out (fP HR.out HN.out)) HR HN HK (fun _ _ h=>⟨rfl,h⟩) ?_
      |go_at_call 88
       refine mR (Le hE _ _ HP.out (fP HR.out HN.out)) HR HN HK (fun _ _ h=>⟨rfl,h⟩) ?_
      |go_at_call 73
       refine mR (YP hE _ _ HP.out) HR HN HK (fun _ _ h=>⟨rfl,h⟩) ?_
      |go_at_call 82
       refine mR (Tq hE _ _ HP.out) HR HN HK (fun _ _ h=>⟨rfl,h⟩) ?_
      |go_at_call 49
       refine mR (Gq hE _ _ _ _ HLn.out HP.out (fP HR.out HN.out)) HR HN HK (fun _ _ h=>⟨rfl,h⟩) ?_
      |go_at_call 118
       refine mR (bls hE HR (by first|decide|omega) HP.out) HR HN HK (fun _ _ h=>⟨rfl,h⟩) ?_
      clear HR HP HK
      rintro v s wq HR HP hkk HK)
    |(go_at_call 75
      refine(Pf XN UI _).mono ?_;rintro e MF ⟨rfl,rfl⟩
      have hkk:=KP.refl MF)
    |(go_at_call 47
      refine(sg1 hE HSG (by first|decide|omega) HP HK).mono ?_;rintro e wq ⟨rfl,hp,hk,hkk⟩;have HP:=hp;have HK:=hk
      clear hp hk HSG)
    |(go_at_call 83
      refine mRk (Xa hE _ _ HP.out) HR HN HK (fun _ _ h=>⟨rfl,h⟩) ?_;clear HR HP HK;rintro v s wq hxe HR HP hkk HK;have HLn:=Hh (Ti hE hxe);clear hxe
      simp only[stV])
    |(go_at_call 32
      refine mRk (Ci hE _ _ HP.out) HR HN HK (fun _ _ h=>⟨rfl,h⟩) ?_;clear HR HP HK;rintro hd s2 wq hxe HR HP hkk HK;have hxe:=(Rs.ok.inj hxe).2;subst hxe;simp only[tL]
      (try have zG:=rV)
      (try clear rV)
      obtain⟨bh,zk⟩:∃b,wq.heap.size=b:=⟨_,rfl⟩;have Kg:=Hh zk
      clear zk)
    |(go_at_call 71
      refine mPk hE HR (by first|decide|omega) HP HK ?_;clear HR HP HK;rintro z t x wq hT hxs hxl hq HP hkk HK;simp only[ne_eq,abf,abZ,acz,tb x hxs,tbb x hxs,zb z]at hq;have HR:=Hh hq;have XN:=Hh hxs;have HTl:=Hh hxl;have HT:=Hh hT;clear hq hxs hxl hT;obtain⟨bt,zk⟩:∃b,wq.heap.size=b:=⟨_,rfl⟩;have Vb:=Hh zk
      clear zk)
    |(first
      |go_at_call 117
       refine mQ ((IH.out _ η).SX _ _ HP.out (fP HR.out HN.out)) HR HN HK (fun _ _ h=>⟨rfl,h⟩) ?_
      |go_at_call 131
       refine mQ ((IH.out _ η).K8 _ _ HP.out (fP HR.out HN.out)) HR HN HK (fun _ _ h=>⟨rfl,h⟩) ?_
      |go_at_call 72
       refine mQ ((IH.out _ η).K9 _ _ HP.out (fP HR.out HN.out)) HR HN HK (fun _ _ h=>⟨rfl,h⟩) ?_
      |go_at_call 116
       refine mQ ((IH.out _ η).Gi _ _ _ HP.out (fP HR.out HN.out)) HR HN HK (fun _ _ h=>⟨rfl,h⟩) ?_
      |go_at_call 155
       refine mQ ((IH.out _ η).Mq _ _ HP.out (fP HR.out HN.out)) HR HN HK (fun _ _ h=>⟨rfl,h⟩) ?_
      |go_at_call 120
       refine mQ ((IH.out _ η).La _ _ HP.out (fP HR.out HN.out)) HR HN HK (fun _ _ h=>⟨rfl,h⟩) ?_
      |go_at_call 181
       refine mQ ((IH.out _ η).Ir _ _ _ HP.out (fP HR.out HN.out)) HR HN HK (fun _ _ h=>⟨rfl,h⟩) ?_
      |go_at_call 180
       refine mQ ((IH.out _ η).Od _ _ HP.out (fP HR.out HN.out)) HR HN HK (fun _ _ h=>⟨rfl,h⟩) ?_
      |go_at_call 193
       refine mQ ((IH.out _ η).SY _ _ _ HP.out (fP HR.out HN.out)) HR HN HK (fun _ _ h=>⟨rfl,h⟩) ?_
      |go_at_call 194
       refine mQ ((IH.out _ η).S9 _ _ HP.out (fP HR.out HN.out)) HR HN HK (fun _ _ h=>⟨rfl,h⟩) ?_
      |go_at_call 195
       refine mQ ((IH.out _ η).Iu _ _ _ HP.out (fP HR.out HN.out)) HR HN HK (fun _ _ h=>⟨rfl,h⟩) ?_
      |go_at_call 200
       refine mQ ((IH.out _ η).Ta _ _ HP.out (fP HR.out HN.out)) HR HN HK (fun _ _ h=>⟨rfl,h⟩) ?_
      |go_at_call 199
       refine mQ ((IH.out _ η).Iw _ _ HP.out (fP HR.out HN.out)) HR HN HK (fun _ _ h=>⟨rfl,h⟩) ?_
      |go_at_call 201
       refine mQ ((IH.out _ η).Iy _ _ HP.out (fP HR.out HN.out)) HR HN HK (fun _ _ h=>⟨rfl,h⟩) ?_
      |go_at_call 202
       refine mQ ((IH.out _ η).Oe _ _ HP.out (fP HR.out HN.out)) HR HN HK (fun _ _ h=>⟨rfl,h⟩) ?_
      |go_at_call 89
       refine mQ ((IH.out _ η).Bz _ _ HP.out (fP HR.out HN.out)) HR HN HK (fun _ _ h=>⟨rfl,h⟩) ?_
      |go_at_call 130
       refine mQ ((IH.out _ η).Lb _ _ HP.out (fP HR.out HN.out)) HR HN HK (fun _ _ h=>⟨rfl,h⟩) ?_
      |go_at_call 162
       refine mQ ((IH.out _ η).Tc _ _ HP.out (fP HR.out HN.out)) HR HN HK (fun _ _ h=>⟨rfl,h⟩) ?_
      |go_at_call 183
       refine mQ ((IH.out _ η).Og _ _ HP.out (fP HR.out HN.out)) HR HN HK (fun _ _ h=>⟨rfl,h⟩) ?_
      |go_at_call 48
       refine mQ ((IH.out _ η).zi _ _ _ HP.out (fP HR.out HN.out)) HR HN HK (fun _ _ h=>⟨rfl,h⟩) ?_
      |go_at_call 124
       refine mQ ((IH.out _ η).JM _ _ HP.out (fP HR.out HN.out)) HR HN HK (fun _ _ h=>⟨rfl,h⟩) ?_
      |go_at_call 125
       refine mQ ((IH.out _ η).Gj _ _ HP.out (fP HR.out HN.out)) HR HN HK (fun _ _ h=>⟨rfl,h⟩) ?_
      |go_at_call 159
       refine mQ ((IH.out _ η).E8 _ _ HP.out (fP HR.out HN.out)) HR HN HK (fun _ _ h=>⟨rfl,h⟩) ?_
      |go_at_call 33
       refine mQ ((IH.out _ η).Ca _ _ HP.out (fP HR.out HN.out)) HR HN HK (fun _ _ h=>⟨rfl,h⟩) ?_
      |go_at_call 128
       refine mQ ((IH.out _ η).BA _ _ HP.out (fP HR.out HN.out)) HR HN HK (fun _ _ h=>⟨rfl,h⟩) ?_
      |go_at_call 52
       refine mQ ((IH.out _ η).Es _ _ _ HP.out (fP HR.out HN.out)) HR HN HK (fun _ _ h=>⟨rfl,h⟩) ?_
      |go_at_call 90
       refine mQ ((IH.out _ η).Te _ _ _ HP.out (fP HR.out HN.out)) HR HN HK (fun _ _ h=>⟨rfl,h⟩) ?_
      |go_at_call 51
       refine mQ ((IH.out _ η).CR _ _ _ HP.out (fP HR.out HN.out)) HR HN HK (fun _ _ h=>⟨rfl,h⟩) ?_
      |go_at_call 45
       refine mQ ((IH.out _ η).Lc _ _ HP.out (fP HR.out HN.out)) HR HN HK (fun _ _ h=>⟨rfl,h⟩) ?_
      |go_at_call 87
       refine mQ ((IH.out _ η).JN _ _ HP.out (fP HR.out HN.out)) HR HN HK (fun _ _ h=>⟨rfl,h⟩) ?_
      |go_at_call 197
       refine mQ ((IH.out _ η).Tf _ _ HP.out (fP HR.out HN.out)) HR HN HK (fun _ _ h=>⟨rfl,h⟩) ?_
      |go_at_call 196
       refine mQ ((IH.out _ η).Et _ _ HP.out (fP HR.out HN.out)) HR HN HK (fun _ _ h=>⟨rfl,h⟩) ?_
      |go_at_call 161
       refine mQ ((IH.out _ η).Oh _ _ _ HP.out (fP HR.out HN.out)) HR HN HK (fun _ _ h=>⟨rfl,h⟩) ?_
      |go_at_call 129
       refine mQ ((IH.out _ η).Eu _ _ HP.out (fP HR.out HN.out)) HR HN HK (fun _ _ h=>⟨rfl,h⟩) ?_
      |go_at_call 160
       rw[←XN.out];refine mQ ((IH.out _ η).Iz _ _ _ _ HP.out (fP HR.out HN.out)) HR HN HK (fun _ _ h=>⟨rfl,h⟩) ?_
      |go_at_call 182
       rw[←XN.out];refine mQ ((IH.out _ η).Gl _ _ _ _ HP.out (fP HR.out HN.out)) HR HN HK (fun _ _ h=>⟨rfl,h⟩) ?_
      |go_at_call 46
       refine mQ ((IH.out _ η).Oi _ _ _ HP.out (fP HR.out HN.out)) HR HN HK (fun _ _ h=>⟨rfl,h⟩) ?_
      |go_at_call 76
       refine mQ ((IH.out _ η).JO _ _ HP.out (fP HR.out HN.out)) HR HN HK (fun _ _ h=>⟨rfl,h⟩) ?_
      |go_at_call 77
       refine mQ ((IH.out _ η).Gm _ _ HP.out (fP HR.out HN.out)) HR HN HK (fun _ _ h=>⟨rfl,h⟩) ?_
      |go_at_call 78
       refine mQ ((IH.out _ η).Gn _ _ HP.out (fP HR.out HN.out)) HR HN HK (fun _ _ h=>⟨rfl,h⟩) ?_
      |go_at_call 121
       refine mQ ((IH.out _ η).Ld _ _ HP.out (fP HR.out HN.out)) HR HN HK (fun _ _ h=>⟨rfl,h⟩) ?_
      |go_at_call 157
       refine mQ ((IH.out _ η).Oj _ _ HP.out (fP HR.out HN.out)) HR HN HK (fun _ _ h=>⟨rfl,h⟩) ?_
      |go_at_call 79
       refine mQ ((IH.out _ η).Mr _ _ HP.out (fP HR.out HN.out)) HR HN HK (fun _ _ h=>⟨rfl,h⟩) ?_
      |go_at_call 122
       refine mQ ((IH.out _ η).CS _ _ HP.out (fP HR.out HN.out)) HR HN HK (fun _ _ h=>⟨rfl,h⟩) ?_
      |go_at_call 119
       refine mQ ((IH.out _ η).Gp _ _ HP.out (fP HR.out HN.out)) HR HN HK (fun _ _ h=>⟨rfl,h⟩) ?_
      |go_at_call 50
       refine mQ ((IH.out _ η).Td _ _ _ _ xL.out.2.1 HP.out (fP HR.out HN.out)) HR HN HK (fun _ _ h=>⟨rfl,h⟩) ?_
      clear HR HP HK;rintro v s y wq HR hy HP hkk HK
      first
      |obtain rfl:=hy
      |(obtain⟨yf,rfl,MN,hnl⟩:=hy
        obtain⟨fa,fc,rfl, -⟩:=id MN;have MM:=Hh MN;have zK:=Hh hnl;obtain⟨bf,hb⟩:∃b,wq.heap.size=b:=⟨_,rfl⟩;have Kh:=Hh hb
        clear hb MN hnl))
    (try replace rV:=Hh (rV.out.kp hkk))
    (try replace zG:=Hh (zG.out.kp hkk))
    (try replace zF:=Hh (zF.out.kp hkk))
    (try replace wW:=Hh (wW.out.kp hkk))
    (try replace xL:=Hh (xL.out.kp hkk))
    clear hkk;have GO:=trivial
    (try(first|(have hv:Bool:=v;clear hv;cases v)|(have hv:Bool:=Va.bool v;clear hv;obtain⟨bb,hbb⟩:∃bb,Va.bool v=bb:=⟨_,rfl⟩;rw[hbb]at HR⊢;clear hbb;cases bb))))
  |(obtain⟨m,aa,q0,hm,ha,hq0,hX⟩:=lpS HR
    have hmn:m≤n+1:=by omega
    have hh:=rV.out
    go_loopg [4,6,7,8,9] m (fun k q4 q6 q7 q8 q9 wr=>∃(s':Ps) (wd oo:Nat) (td:Bool),q4= .bool td∧q6= .int .i64 (wd:Nat)∧q7= .int .i64 (oo:Nat)∧k≤m∧(run E.L E.base k (.jJ aa wd oo td)>>=q0) s'=r∧PW E wr s'∧KP w wr∧lC wr bh hd)
    (case atStart=>exact⟨_,0,0,false,rfl,rfl,rfl,υ _,hm▸hX,HP.out,HK.out,hh⟩)
    (case' round=>
      obtain⟨s,wd,oo,td,rfl,rfl,rfl,hgn,hr,hp,hk,hb⟩:=hrel;have rV:=Hh hb
      clear hb hh)
    rcases gk with _|g
    (exact absurd (q_0 hr) HN.out)
    subst ha hq0;rw[run]at hr;have HR:=Hh hr;have HP:=Hh hp;have HK:=Hh hk;clear hr hp hk hm
    have GO:=trivial)
  |(obtain⟨m,tg0,q0,hm,ht,hq0,hX⟩:=lpK HR
    have hmn:m≤n+1:=by omega
    first
    |(have hh:=rV.out
      go_loopg [] m (fun k wr=>∃s',k≤m∧(run E.L E.base k tg0>>=q0) s'=r∧PW E wr s'∧KP w wr∧lC wr bh hd)
      (case atStart=>exact⟨_,υ _,hm▸hX,HP.out,HK.out,hh⟩)
      (case' round=>
       obtain⟨s,hgn,hr,hp,hk,hb⟩:=hrel;have rV:=Hh hb
       clear hb hh))
    |(have hh:=wW.out
      go_loopg [] m (fun k wr=>∃s',k≤m∧(run E.L E.base k tg0>>=q0) s'=r∧PW E wr s'∧KP w wr∧lC wr ba h)
      (case atStart=>exact⟨_,υ _,hm▸hX,HP.out,HK.out,hh⟩)
      (case' round=>
       obtain⟨s,hgn,hr,hp,hk,hb⟩:=hrel;have wW:=Hh hb
       clear hb hh))
    |(go_loopg [] m (fun k wr=>∃s',k≤m∧(run E.L E.base k tg0>>=q0) s'=r∧PW E wr s'∧KP w wr)
      (case atStart=>exact⟨_,υ _,hm▸hX,HP.out,HK.out⟩)
      (case' round=>obtain⟨s,hgn,hr,hp,hk⟩:=hrel))
    rcases gk with _|g
    (exact absurd (q_0 hr) HN.out)
    subst ht hq0;rw[run]at hr;have HR:=Hh hr;have HP:=Hh hp;have HK:=Hh hk;clear hr hp hk hm
    have GO:=trivial)
  |(go_roundg g
    (case measure=>omega)
    (case rel=>first|exact⟨_,_,_,_,rfl,rfl,rfl,by omega,HR.out,HP.out,HK.out,rV.out⟩|exact⟨_,_,1,_,rfl,rfl,rfl,by omega,HR.out,HP.out,HK.out,rV.out⟩|exact⟨_,by omega,HR.out,HP.out,HK.out,rV.out⟩|exact⟨_,by omega,HR.out,HP.out,HK.out,wW.out⟩|exact⟨_,by omega,HR.out,HP.out,HK.out⟩))
  |(go_at_call 80
    refine(qh (α:=Va) hE (fun _=> .tuple #[]) _ _ HP.out).mono ?_;rintro e wf ⟨⟨z,rfl⟩,hbf,lJ⟩
    exact⟨rfl,xm (abx HR.out) hbf (HK.out.trans lJ)⟩)
  |(with_reducible replace HR:=Hh (uT (x:=eu E.L _ _) HR.out rfl))
  |(with_reducible replace HR:=Hh (uT (x:=o6 E.L _) HR.out rfl))
  |(with_reducible replace HR:=Hh (uT (x:=ny E.L) HR.out rfl))
  |(with_reducible replace HR:=Hh (uT (x:=lM E.L) HR.out rfl))
  |(with_reducible replace HR:=Hh (uT (x:=j5 E.L E.base) HR.out rfl))
  |(with_reducible replace HR:=Hh (uT (x:=sj) HR.out rfl))
  |(go_at_call 193
    simp only[*]at HR)
  |exact⟨rfl,_,(by first|(simp[results,go_sem];done)|(simp[results,go_sem];rfl)),Iq (zh HR.out) rfl HP.out HK.out⟩
  |fail):p:=h
end Go.Proofs.YtlboejdhmggjpaaGreat.Pp
