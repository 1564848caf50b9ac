import Derived.Test.YtlboejdhmggjpaaGreatXuC
import Derived.Test.YtlboejdhmggjpaaGreatXuD
import Derived.Test.YtlboejdhmggjpaaGreatXuE
import Derived.Test.YtlboejdhmggjpaaGreatWnI
set_option linter.all false
namespace Go.Proofs.YtlboejdhmggjpaaGreat.Pp
open Go.RowKit Go.BigFrame Go.Proofs.YtlboejdhmggjpaaGreat
theorem YJ{E:En}(hE:E.ok)(n:Nat):Wk E n:=by
 induction n using Nat.strongRecOn with
 |_ n IH=>
  cases n with
  |zero=>exact{
   SX:=fun s w hp hne=>absurd iH hne
   K8:=fun s w hp hne=>absurd iH hne
   K9:=fun s w hp hne=>absurd iH hne
   Gi:=fun k s w hp hne=>absurd iH hne
   Mq:=fun s w hp hne=>absurd iH hne
   La:=fun s w hp hne=>absurd iH hne
   Ir:=fun h s w hp hne=>absurd iH hne
   Od:=fun s w hp hne=>absurd iH hne
   SY:=fun v s w hp hne=>absurd iH hne
   S9:=fun s w hp hne=>absurd iH hne
   Iu:=fun h s w hp hne=>absurd iH hne
   Ta:=fun s w hp hne=>absurd iH hne
   Iw:=fun s w hp hne=>absurd iH hne
   Iy:=fun s w hp hne=>absurd iH hne
   Oe:=fun s w hp hne=>absurd iH hne
   Bz:=fun s w hp hne=>absurd iH hne
   Lb:=fun s w hp hne=>absurd iH hne
   Tc:=fun s w hp hne=>absurd iH hne
   Og:=fun s w hp hne=>absurd iH hne
   zi:=fun k s w hp hne=>absurd iH hne
   JM:=fun s w hp hne=>absurd iH hne
   Gj:=fun s w hp hne=>absurd iH hne
   E8:=fun s w hp hne=>absurd iH hne
   Ca:=fun s w hp hne=>absurd iH hne
   Td:=fun p y s w hd hp hne=>absurd iH hne
   BA:=fun s w hp hne=>absurd iH hne
   Es:=fun t s w hp hne=>absurd iH hne
   Te:=fun t s w hp hne=>absurd iH hne
   CR:=fun h s w hp hne=>absurd iH hne
   Lc:=fun s w hp hne=>absurd iH hne
   JN:=fun s w hp hne=>absurd iH hne
   Tf:=fun s w hp hne=>absurd iH hne
   Et:=fun s w hp hne=>absurd iH hne
   Oh:=fun x s w hp hne=>absurd iH hne
   Eu:=fun s w hp hne=>absurd iH hne
   Iz:=fun x h s w hp hne=>absurd iH hne
   Gl:=fun x h s w hp hne=>absurd iH hne
   Oi:=fun a s w hp hne=>absurd iH hne
   JO:=fun s w hp hne=>absurd iH hne
   Gm:=fun s w hp hne=>absurd iH hne
   Gn:=fun s w hp hne=>absurd iH hne
   Ld:=fun s w hp hne=>absurd iH hne
   Oj:=fun s w hp hne=>absurd iH hne
   Mr:=fun s w hp hne=>absurd iH hne
   CS:=fun s w hp hne=>absurd iH hne
   Gp:=fun s w hp hne=>absurd iH hne
   }
  |succ n=>
   have ih:∀m,m≤n→Wk E m:=fun m hm=>IH m η
   exact{
    SX:=fun s w hp hne=>akE hE ih s w hp hne
    K8:=fun s w hp hne=>aed hE ih s w hp hne
    K9:=fun s w hp hne=>aee hE ih s w hp hne
    Gi:=fun k s w hp hne=>adT hE ih k s w hp hne
    Mq:=fun s w hp hne=>akF hE ih s w hp hne
    La:=fun s w hp hne=>aef hE ih s w hp hne
    Ir:=fun h s w hp hne=>abS hE ih h s w hp hne
    Od:=fun s w hp hne=>ah0 hE ih s w hp hne
    SY:=fun v s w hp hne=>akG hE ih v s w hp hne
    S9:=fun s w hp hne=>akH hE ih s w hp hne
    Iu:=fun h s w hp hne=>abT hE ih h s w hp hne
    Ta:=fun s w hp hne=>akI hE ih s w hp hne
    Iw:=fun s w hp hne=>abU hE ih s w hp hne
    Iy:=fun s w hp hne=>abV hE ih s w hp hne
    Oe:=fun s w hp hne=>ah1 hE ih s w hp hne
    Bz:=fun s w hp hne=>Qx hE ih s w hp hne
    Lb:=fun s w hp hne=>aeg hE ih s w hp hne
    Tc:=fun s w hp hne=>akJ hE ih s w hp hne
    Og:=fun s w hp hne=>ah2 hE ih s w hp hne
    zi:=fun k s w hp hne=>TN hE ih k s w hp hne
    JM:=fun s w hp hne=>ah3 hE ih s w hp hne
    Gj:=fun s w hp hne=>aeb hE ih s w hp hne
    E8:=fun s w hp hne=>ah4 hE ih s w hp hne
    Ca:=fun s w hp hne=>Zt hE ih s w hp hne
    Td:=fun p y s w hd hp hne=>akn hE ih p y s w hd hp hne
    BA:=fun s w hp hne=>Qy hE ih s w hp hne
    Es:=fun t s w hp hne=>VA hE ih t s w hp hne
    Te:=fun t s w hp hne=>akK hE ih t s w hp hne
    CR:=fun h s w hp hne=>Ua hE ih h s w hp hne
    Lc:=fun s w hp hne=>aeh hE ih s w hp hne
    JN:=fun s w hp hne=>ah5 hE ih s w hp hne
    Tf:=fun s w hp hne=>akL hE ih s w hp hne
    Et:=fun s w hp hne=>VF hE ih s w hp hne
    Oh:=fun x s w hp hne=>ah6 hE ih x s w hp hne
    Eu:=fun s w hp hne=>VG hE ih s w hp hne
    Iz:=fun x h s w hp hne=>abW hE ih x h s w hp hne
    Gl:=fun x h s w hp hne=>Zu hE ih x h s w hp hne
    Oi:=fun a s w hp hne=>ahX hE ih a s w hp hne
    JO:=fun s w hp hne=>ah7 hE ih s w hp hne
    Gm:=fun s w hp hne=>aei hE ih s w hp hne
    Gn:=fun s w hp hne=>aej hE ih s w hp hne
    Ld:=fun s w hp hne=>aek hE ih s w hp hne
    Oj:=fun s w hp hne=>ah8 hE ih s w hp hne
    Mr:=fun s w hp hne=>akM hE ih s w hp hne
    CS:=fun s w hp hne=>Ub hE ih s w hp hne
    Gp:=fun s w hp hne=>Zv hE ih s w hp hne
   }
set_option maxRecDepth 100000
set_option maxHeartbeats 16000000
theorem akO{E:En}(hE:E.ok)(n B:Nat)(s:Ps)(w:World)(hs:s.af=0∧s.done=[])(hB:w.heap[B]? =some (.cells #[.pointer (some ⟨E.pb,0,none⟩)] 68 (0,0)))(hp:PW E w s)(hne:run E.L E.base n .unit s≠ .out):Calls Tryz.prog 31 #[.pointer (some ⟨B,0,none⟩)] w (eZ E gq w (run E.L E.base n .unit s)):=by
 obtain⟨r,hr⟩:∃r,run E.L E.base n .unit s=r:=⟨_,rfl⟩
 rw[hr]at hne⊢
 have hhd:fH s= .ok (0,0) s:=by show Rs.ok (s.af,s.done.length) s=_;rw[hs.1,hs.2];rfl
 have h0:=Ci hE s w hp
 rw[hhd]at h0
 have HN:=Hh hne
 have Bc:=Hh hr
 have HB0:=Hh hB
 have H0:=Hh h0
 have cB:w.cell? ⟨B,0,none⟩=some (.pointer (some ⟨E.pb,0,none⟩)):=by simp[World.cell?,hB]
 have MQ:=Hh (fun m=>YJ hE m)
 obtain⟨NL,hNL⟩:∃NL,E.L.length=NL:=⟨_,rfl⟩
 have zK:=Hh hNL
 clear hne hr hB hp h0 hhd hs hNL
 go_enter Tryz.func31,Tryz.ntmps31
 go_wp2_with fail
 refine H0.out.mono ?_
 rintro e w1 ⟨rfl,hp1,hk1⟩
 obtain⟨b1,hb1⟩:∃b,w1.heap.size=b:=⟨_,rfl⟩
 have qI:=Hh (hp1.ext hE (ag w1 (.cells #[.int .i64 0, .int .i64 0] 77)))
 have mF:=Hh (hk1.trans (KP.aT (ag w1 (.cells #[.int .i64 0, .int .i64 0] 77))))
 have HH1:=Hh (hb1▸lC.new w1 (0,0))
 have hB1:=(hk1.trans (KP.aT (ag w1 (.cells #[.int .i64 0, .int .i64 0] 77)))).2 _ _ 68 _ rfl HB0.out
 have HB1:=Hh hB1
 clear hp1 hk1 cB hB1
 simp only[tL]
 go_wp2_with fail
 go_loopg [] n (fun k wr=>∃s',k≤n∧run E.L E.base k .unit s'=r∧PW E wr s'∧KP w wr∧lC wr b1 (0,0)∧wr.heap[B]? =some (.cells #[.pointer (some ⟨E.pb,0,none⟩)] 68 (0,0)))
 case atStart=>exact⟨s,υ _,Bc.out,qI.out,mF.out,HH1.out,HB1.out⟩
 case round=>
  obtain⟨s',hgn,hr3,hp3,hk3,hh3,hb3⟩:=hrel
  cases gk with
  |zero=>rw[iH]at hr3;exact absurd hr3.symm HN.out
  |succ g=>
   rw[run]at hr3;have hr4:=uT (x:=sj) (v:=s') (s2:=s') hr3 rfl;have sW:=Hh hp3;have ji:=Hh hk3;have HH3:=Hh hh3;have HB3:=Hh hb3
   have cB:wr.cell? ⟨B,0,none⟩=some (.pointer (some ⟨E.pb,0,none⟩)):=by simp[World.cell?,hb3]
   obtain⟨vd,vc,vb,mb,hx⟩:=hp3;obtain⟨c0,c1, -, -, -, -, -⟩:=hx.cell;have hle:=hx.le;rw[zK.out]at c0 hle;obtain⟨a,ha⟩:∃a,s'.af=a:=⟨_,rfl⟩;rw[ha]at c1 hle
   rcases agi a NL with hlt|hge
   ·have yo:=QQ hr4 (by rw[ha,zK.out];exact hlt)
    have hl2:decide (a<NL)=true:=aa4 hlt;have zm:=Hh yo;clear hr3 hr4 yo hk3 hh3 hb3 hx hle hlt
    go_wp2_with fail
    go_quiet (fail)
    go_wp2_with fail
    have hpq:=sW.out.ext hE (gz wr.heap.size wr nq);have hkq:=KP.aT (gz wr.heap.size wr nq);refine((MQ.out g).Ca _ _ hpq (fP zm.out HN.out)).mono ?_;intro e w5 he
    rcases JL (x:=run E.L E.base g .j6) zm.out HN.out (ji.out.trans hkq) he with⟨v5,s5,y5,rQ, -,rfl,rfl,DX,hkk,hk5⟩|⟨rQ,⟨z,rfl⟩,hb5,hk5⟩
    case' inr=>exact⟨rfl,xm rQ hb5 hk5⟩
    have zo:=Hh rQ;have E9:=Hh DX;have IA:=Hh hk5;have HH5:=Hh (HH3.out.kp (hkq.trans hkk));have tV:=Hh ((hkq.trans hkk).2 _ _ 68 _ rfl HB3.out);clear he rQ DX hkk hk5 hpq hkq c0 c1 cB
    go_wp2_with fail
    go_roundg g
    case measure=>omega
    case rel=>exact⟨s5,by omega,zo.out,E9.out,IA.out,HH5.out,tV.out⟩
   ·have yo:=Mm hr4 (by rw[ha,zK.out];omega)
    have hl2:decide (a<NL)=false:=aa5 η;have zm:=Hh yo;clear hr3 hr4 yo hk3 hh3 hb3 hx hle hge;obtain⟨d0,d1⟩:=HH3.out.cells
    go_wp2_with fail
    go_quiet (fail)
    have hpq:=sW.out.ext hE (gz wr.heap.size wr nq);have hkq:=ji.out.trans (KP.aT (gz wr.heap.size wr nq));have HPQ:=Hh hpq;have HKQ:=Hh hkq;clear hpq hkq
    go_wp2_with fail
    refine(Af hE 1 (0,0) _ _ HPQ.out (fP zm.out HN.out)).mono ?_;intro e w6 he
    rcases CQ (x:=node E.L 1 (0,0)) zm.out HN.out HKQ.out he with⟨v6,s6,rQ, -,rfl,II,hkk,uA⟩|⟨rQ,⟨z,rfl⟩,hb6,uA⟩
    case' inr=>exact⟨rfl,xm rQ hb6 uA⟩
    have zo:=Hh (zh rQ);have Fa:=Hh II;have Ba:=Hh uA;clear he rQ II hkk uA c0 c1 cB d0 d1
    go_wp2_with fail
    exact⟨rfl, .tuple #[],by simp[results,Tryz.results31,go_sem],Iq zo.out rfl Fa.out Ba.out⟩
abbrev eB:Value:= .slice none 0 0
theorem VJ(sp:Value)(hsp:∃a,sp= .pointer a)(w:World):Calls Tryz.prog 30 #[sp] w fun e w'=>∃m,e= .returned (.agg #[sp, .map (some m),eB,eB])∧w.heap.size≤m∧w'.ownsMap Tryz.prog 9 xg m 0 (.map [])∧Below w.heap.size w w':=by
 obtain⟨a,rfl⟩:=hsp
 have hmm:=@run_makeMap Tryz.prog
 have hbt:∀m,(Tryz.prog.built 72 [(0,Value.pointer a),(1,Value.map (some m))])=some #[.pointer a, .map (some m),eB,eB]:=fun m=>by kernel_rfl
 go_enter Tryz.func30,Tryz.ntmps30
 go_wp2_with (refine wpList_build rfl 72 _ rfl (by simp[Act.eval,hbt]) ?_)
 have h0:((w.alloc (.cells #[.pointer a, .map (some (w.heap.size+1)),eB,eB] 72)).alloc (.map #[] 0)).heap[w.heap.size]? =some (.cells #[.pointer a, .map (some (w.heap.size+1)),eB,eB] 72 (0,0)):=by rw[Lib.alloc_old _ _ _ ν];exact dz _ _ _
 have c0:((w.alloc (.cells #[.pointer a, .map (some (w.heap.size+1)),eB,eB] 72)).alloc (.map #[] 0)).cell? ⟨w.heap.size,0,none⟩=some (.pointer a):=by simp[World.cell?,h0]
 have c1:((w.alloc (.cells #[.pointer a, .map (some (w.heap.size+1)),eB,eB] 72)).alloc (.map #[] 0)).cell? ⟨w.heap.size,1,none⟩=some (.map (some (w.heap.size+1))):=by simp[World.cell?,h0]
 have c2:((w.alloc (.cells #[.pointer a, .map (some (w.heap.size+1)),eB,eB] 72)).alloc (.map #[] 0)).cell? ⟨w.heap.size,2,none⟩=some eB:=by simp[World.cell?,h0]
 have c3:((w.alloc (.cells #[.pointer a, .map (some (w.heap.size+1)),eB,eB] 72)).alloc (.map #[] 0)).cell? ⟨w.heap.size,3,none⟩=some eB:=by simp[World.cell?,h0]
 have hm:=World.ownsMap_made (w.alloc (.cells #[.pointer a, .map (some (w.heap.size+1)),eB,eB] 72)) Tryz.prog 9 xg
 have hb:Below w.heap.size w ((w.alloc (.cells #[.pointer a, .map (some (w.heap.size+1)),eB,eB] 72)).alloc (.map #[] 0)):=((Below.refl _ w).alloc (υ _) _).alloc ν _
 rw[World.size_alloc]at hm
 obtain⟨W,hW⟩:∃W,W=(w.alloc (.cells #[.pointer a, .map (some (w.heap.size+1)),eB,eB] 72)).alloc (.map #[] 0):=⟨_,rfl⟩
 rw[←hW]at c0 c1 c2 c3 hm hb
 rw[←hW]
 clear hW h0
 refine abw (v:= .agg #[.pointer a, .map (some (w.heap.size+1)),eB,eB]) ?_ rfl ⟨w.heap.size+1,rfl,agD _ _,hm,hb⟩
 have hl:(loadVar 72 ⟨w.heap.size,0,none⟩).run Tryz.prog W= .ok (.agg #[.pointer a, .map (some (w.heap.size+1)),eB,eB]) W:=
  EG W w.heap.size 0 72 [.pointer a, .map (some (w.heap.size+1)),eB,eB] _ (fun j v hv=>by
   match j,hv with
   |0,hv=>cases hv;exact c0
   |1,hv=>cases hv;exact c1
   |2,hv=>cases hv;exact c2
   |3,hv=>cases hv;exact c3
   |j+4,hv=>simp at hv) Tryz.underlying72 rfl (by kernel_rfl)
 simp[results,Tryz.results30,go_sem,hl,c0,c1,c2,c3]
theorem Nm.xZ{w:World}{m:Nat}(h:w.ownsMap Tryz.prog 9 xg m 0 (.map [])):Nm w m []:=⟨0, .map [],h,fun x=>⟨fun z=>rfl,rfl⟩⟩
theorem PX.start{E:En}{w:World}{mb:Nat}(hE:E.ok)(hbel:Below E.X E.w0 w)(IC:w.heap[E.pb]? =some (.cells #[.slice E.la E.L.length E.lc, .int .i64 0,eB,E.sp, .map (some mb),eB,eB] 75 (0,0)))(hm:w.ownsMap Tryz.prog 9 xg mb 0 (.map []))(hmx:E.X≤mb):PX E w s0 eB eB eB mb where
 lu:=hbel
 box:=IC
 dn:=World.ownsRow_nil _ _ _ _
 ch:=World.ownsRow_nil _ _ _ _
 bl:=World.ownsRow_nil _ _ _ _
 mp:=Nm.xZ hm
 mx:=hmx
 le:=Ω _
 tx:=fun p h=>by simp[s0]at h
 cb:=Ω _
 bb:=Ω _
theorem PX.set{E:En}{w:World}{s:Ps}{vd vc vb:Value}{mb k i:Nat}{cs:Array Value}{t:TypeId}{fz:Nat×Nat}{v:Value}(h:PX E w s vd vc vb mb)(hX:E.X≤k)(hk:w.heap[k]? =some (.cells cs t fz))(ht:K5 t=false):PX E (w.setCell ⟨k,i,none⟩ v) s vd vc vb mb:=by
 have ho:∀(j:Nat) (o:Obj),w.heap[j]? =some o→(∀cs,o≠ .cells cs t fz)→(w.setCell ⟨k,i,none⟩ v).heap[j]? =some o:=fun j o hj hn=>by
  rw[Below.heap_setCell _ _ _ _ (fun e=>by subst e;rw[hk]at hj;cases hj;exact hn cs rfl)];exact hj
 have hne:∀(e:TypeId),K5 e=true→∀(j:Nat) (cur:Array Value),w.heap[j]? =some (.cells cur e (0,0))→(w.setCell ⟨k,i,none⟩ v).heap[j]? =some (.cells cur e (0,0)):=fun e he j cur hj=>ho j _ hj (fun cs hh=>by
  cases hh
  rw[ht]at he;cases he)
 exact⟨h.lu.setCell hX _,hne 75 rfl _ _ h.box,fq h.dn (fun g cur hg=>hne 38 rfl g cur hg),fq h.ch (fun g cur hg=>hne 132 rfl g cur hg),fq h.bl (fun g cur hg=>hne 3 rfl g cur hg),(by
  obtain⟨n,D,h1,h2⟩:=h.mp
  exact⟨n,D,pI h1 fun es c hg=>ho _ _ hg (fun cs hh=>by cases hh),h2⟩),h.mx,h.le,h.tx,h.cb,h.bb⟩
theorem PW.set{E:En}{w:World}{s:Ps}{k i:Nat}{cs:Array Value}{t:TypeId}{fz:Nat×Nat}{v:Value}(h:PW E w s)(hX:E.X≤k)(hk:w.heap[k]? =some (.cells cs t fz))(ht:K5 t=false):PW E (w.setCell ⟨k,i,none⟩ v) s:=by
 obtain⟨vd,vc,vb,mb,h⟩:=h
 exact⟨vd,vc,vb,mb,h.set hX hk ht⟩
def zw(L:List Ct)(base:Bs→Bool):Option (List Nd):=
 match run L base (fu L) .unit s0 with
 | .ok _ s=>some (qX s.done)
 |_=>none
def Xt(L:List Ct)(w:World)(e:Ending)(w':World):Prop:=
 ∃v z,e= .returned (.tuple #[v, .int .i64 z])∧Below w.heap.size w w'∧
  ((mg L 0=true∧v=eB∧z=111)∨(mg L 0=false∧zw L (fun _=>false)=none∧v=eB∧z=110)∨
   (∃P,mg L 0=false∧zw L (fun _=>false)=some P∧z=0∧w'.ownsRow w.heap.size 38 4 v P.length (P.flatMap jX)))
theorem aib{W w w':World}{A n:Nat}{F:List Sp.uF}(h:Sp.jr W A n F w)(hb:Below w.heap.size w w'):Sp.jr W A n F w':=by
 obtain⟨S,h1,h2,h3⟩:=h
 exact⟨S,Sp.PV.lL (T:=fun _=>False) h1 (iV.aT hb) (fun _ _ h=>h),h2,h3.trans (hb.mono h3.size)⟩
theorem Uk(L:List Ct)(la:Option Addr)(lc:Nat)(w:World)(hrow:oV 2 sV w la L)(hl:L.length≤100000)(htx:∀t∈L,t.t.length≤maxLen):Calls Tryz.prog 10 #[.slice la L.length lc] w (Xt L w):=by
 have htd:=Zy L la lc w hrow hl
 have HTD:=Hh htd
 have BB:=Hh hrow
 have Xu:=Hh htx
 have HL:=Hh hl
 obtain⟨NL,hN⟩:∃NL,L.length=NL:=⟨_,rfl⟩
 have HN:=Hh hN
 rw[hN]
 obtain⟨R,hR⟩:∃R,R=Xt L w:=⟨_,rfl⟩
 rw[←hR]
 have HR:=Hh hR
 clear htd hrow htx hl hN hR
 have hbt:∀(A m:Nat),(Tryz.prog.built 75 [(0,Value.slice la NL lc),(3, .agg #[.pointer (some ⟨A,0,none⟩), .map (some m),eB,eB])])=some #[.slice la NL lc, .int .i64 0,eB, .pointer (some ⟨A,0,none⟩), .map (some m),eB,eB]:=fun A m=>by kernel_rfl
 go_enter Tryz.func10,Tryz.ntmps10
 go_wp2_with fail
 rw[←HN.out]
 refine HTD.out.mono ?_
 rw[HN.out]
 rintro e w1 ⟨rfl,hb1⟩
 have HB1:=Hh hb1
 clear hb1
 obtain⟨D,hD⟩:∃D,mg L 0=D:=⟨_,rfl⟩
 rw[hD]
 have HD:=Hh hD
 clear hD
 cases D
 ·go_wp2_with fail
  refine(Sp.Ow.new w w1 HB1.out).mono ?_;rintro e w2 ⟨A,rfl,hown⟩;have HO:=Hh hown;clear hown
  go_wp2_with fail
  refine(VJ _ ⟨_,rfl⟩ w2).mono ?_;rintro e w3 ⟨m,rfl,hm1,hm2,hb3⟩;have HM1:=Hh hm1;have HM2:=Hh hm2;have HB3:=Hh hb3;clear hm1 hm2 hb3
  go_wp2_with (first|(refine wpList_build rfl 75 _ rfl (by simp[Act.eval,hbt]) ?_)|fail)
  obtain⟨pb,hpb⟩:∃b,w3.heap.size=b:=⟨_,rfl⟩;obtain⟨W5,tO⟩:∃W5,W5=(w3.alloc (.cells #[.slice la NL lc, .int .i64 0,eB, .pointer (some ⟨A,0,none⟩), .map (some m),eB,eB] 75)).alloc (.cells #[.pointer (some ⟨w3.heap.size,0,none⟩)] 68):=⟨_,rfl⟩
  have hb5:Below w3.heap.size w3 W5:=by rw[tO];exact((Below.refl _ w3).alloc (υ _) _).alloc ν _
  have h75:W5.heap[pb]? =some (.cells #[.slice la NL lc, .int .i64 0,eB, .pointer (some ⟨A,0,none⟩), .map (some m),eB,eB] 75 (0,0)):=by rw[tO,←hpb,Lib.alloc_old _ _ _ ν];exact dz _ _ _
  have h68:W5.heap[pb+1]? =some (.cells #[.pointer (some ⟨pb,0,none⟩)] 68 (0,0)):=by
   rw[tO,←hpb];have:=dz (w3.alloc (.cells #[.slice la NL lc, .int .i64 0,eB, .pointer (some ⟨A,0,none⟩), .map (some m),eB,eB] 75)) #[.pointer (some ⟨w3.heap.size,0,none⟩)] 68;simpa using this
  have hs5:W5.heap.size=pb+2:=by rw[tO,←hpb];simp
  rw[←tO,hpb];clear tO;obtain⟨W6,hW6⟩:∃W6,W6=W5.alloc (.cells #[.bool false] 4):=⟨_,rfl⟩
  have hb6:Below W5.heap.size W5 W6:=by rw[hW6];exact ag _ _
  have hb3:=HB3.out;have ho:=HO.out
  have hs3:w2.heap.size≤pb:=by rw[←hpb];exact hb3.size
  obtain⟨E,hE0⟩:∃E:En,E={X:=w2.heap.size,pb:=pb,la:=la,lc:=lc,L:=L,sp:= .pointer (some ⟨A,0,none⟩),base:=fun _=>false,w0:=w2}:=⟨_,rfl⟩
  have hX:E.X=w2.heap.size:=by rw[hE0]
  have hw0:E.w0=w2:=by rw[hE0]
  have ZG:E.pb=pb:=by rw[hE0]
  have hLE:E.L=L:=by rw[hE0]
  have hbE:E.base=fun _=>false:=by rw[hE0]
  have hE:E.ok:=by
   subst hE0;refine⟨rfl,hs3,BB.out.below ho.below (υ _) ho.below.size,HL.out,Xu.out,fun w' x hb hx=>?_⟩;refine(Sp.Ow.l8 w A 0 [[]] (au x) w' (aib ho hb) (by simpa using hx) ν).mono ?_;rintro e w'' ⟨rfl,rfl⟩;exact⟨rfl,Below.refl _ _⟩
  have ak7:Below w2.heap.size w2 W6:=(hb3.trans (hb5.mono hb3.size)).trans (hb6.mono η)
  have hpx:PW E W6 s0:=⟨eB,eB,eB,m,PX.start hE (by rw[hX,hw0];exact ak7) (by
   rw[ZG];subst hE0;rw[show L.length=NL from HN.out]
   exact aF hb6 h75 η) (pI HM2.out fun es c hg=>aF hb6 (aF hb5 hg (ψ.1 hg).1) (by have:=(ψ.1 hg).1;omega)) (by rw[hX];exact HM1.out)⟩
  obtain⟨hne,hun⟩:=OW L (fun _=>false);have NY:=akO hE (fu L) (pb+1) s0 W6 ⟨rfl,rfl⟩ (by rw[ZG];exact aF hb6 h68 η) hpx (by rw[hLE,hbE];exact hne);rw[hLE,hbE,hW6]at NY
  have hfit:=akN (pb+1) W5 (A:=fun W'=>∃v s',run L (fun _=>false) (fu L) .unit s0= .ok v s'∧PW E W' s') (Bd:=fun W'=>run L (fun _=>false) (fu L) .unit s0= .no∧Below E.X E.w0 W') (NY.mono fun e W' he=>by
   cases hr:run L (fun _=>false) (fu L) .unit s0 with
   |out=>exact absurd hr hne
   |ok v s'=>
    rw[hr]at he;obtain⟨y,rfl,rfl,h3,h4⟩:=he;exact⟨h4, .inl ⟨rfl,v,s',rfl,h3⟩⟩
   |no=>
    rw[hr]at he
    exact⟨he.2.2, .inr ⟨he.1,rfl,he.2.1⟩⟩)
  have asG:=Hh hfit;have HE:=Hh hE;have HXE:=Hh hX;have HW0:=Hh hw0;have asH:=Hh ZG;have HUN:=Hh hun;have HS3:=Hh hs3;have HS5:=Hh hs5;have H68:=Hh h68;have HW6:=Hh hW6;have HWX:=Hh (show w.heap.size≤E.X from by rw[hX];exact ho.below.size);have G7:=Hh (show Below w.heap.size w w2 from ho.below);clear hpb hb5 h75 h68 hs5 hb6 hb3 ho hs3 hE0 hX hw0 ZG hLE hbE hE ak7 hpx hne hun NY hfit hW6;refine asG.out.mono ?_;rintro e W7 (⟨W',⟨v,s',hrun,hpw⟩,hk,rfl,rfl⟩|⟨W',z,⟨hrun,hbel⟩,hk,rfl,rfl⟩)
  ·have hkW:W'.heap[W5.heap.size]? =some (.cells #[.bool false] 4 (0,0)):=hk.cells _ _ 4 _ rfl (dz _ _ _)
   have ak8:W'.heap[pb+1]? =some (.cells #[.pointer (some ⟨pb,0,none⟩)] 68 (0,0)):=hk.cells _ _ 68 _ rfl (by rw[Lib.alloc_old _ _ _ (by rw[HS5.out];omega)];exact H68.out);obtain⟨ht, -, -⟩:=HUN.out _ _ hrun;have asI:=hpw.set (k:=W5.heap.size) (i:=0) (v:= .bool true) (by have:=HS5.out;have:=HS3.out;have:=HXE.out;omega) hkW rfl;obtain⟨vd,vc,vb,mb,hx⟩:=asI;obtain⟨-, -,x2, -⟩:=hx.cell;rw[asH.out]at x2;obtain⟨ha,hpos,hfp,hlen, -⟩:=ht.oq;obtain⟨g,lc2,hvd,hg1,hg2,hg3⟩:=pV hx.dn hpos;have hdn:=hx.dn;have hbelW:=hx.lu;rw[hvd]at x2 hdn
   have y7:zw L (fun _=>false)=some (qX s'.done):=by unfold zw;rw[hrun]
   obtain⟨W8,Kc⟩:∃W8,W8=W'.setCell ⟨W5.heap.size,0,none⟩ (.bool true):=⟨_,rfl⟩;rw[←Kc]at x2 hdn hbelW hg2⊢
   have c68:W8.cell? ⟨pb+1,0,none⟩=some (.pointer (some ⟨pb,0,none⟩)):=by
    rw[Kc];have:(W'.setCell ⟨W5.heap.size,0,none⟩ (.bool true)).heap[pb+1]? =_:=(Below.heap_setCell _ _ _ _ (by show pb+1≠W5.heap.size;rw[HS5.out];omega)).trans ak8;simp[World.cell?,this]
   have hXW:E.X≤W8.heap.size:=by have:=hbelW.size;have:=HXE.out;have:=HW0.out;rw[HW0.out]at hbelW;have:=hbelW.size;omega
   have hah:=ael s'.done E.X g lc2 W8 hXW hdn hpos (by have:=ht.len;have:=HL.out;omega) ha;obtain⟨nd,hnd⟩:∃nd,s'.done.length=nd:=⟨_,rfl⟩;rw[hnd]at x2 hah;have HAH:=Hh hah;have IQ:=Hh y7;have TF:=Hh hbelW;have HLEN:=Hh hlen;have MV:=Hh hnd;have HXW:=Hh hXW;clear hkW ak8 ht hx ha hpos hfp hlen hg1 hg2 hg3 hdn hbelW hvd y7 Kc hah hrun hpw hk hXW hnd
   go_wp2_with fail
   refine HAH.out.mono ?_;rintro e w9 ⟨v9,rfl,hv9,j4⟩;have HV9:=Hh hv9;have HB9:=Hh j4;clear hv9 j4
   go_wp2_with fail
   rw[HR.out];have hbl:=TF.out;rw[HXE.out,HW0.out]at hbl;have hs1:=G7.out.size;have gW:Below w.heap.size w W8:=G7.out.trans (hbl.mono hs1);refine⟨v9,0,rfl,gW.trans (HB9.out.mono gW.size), .inr (.inr ⟨qX s'.done,HD.out,IQ.out,rfl,?_⟩)⟩;rw[HLEN.out,MV.out];have q:=HV9.out;exact aec q gW.size
  ·have y7:zw L (fun _=>false)=none:=by unfold zw;rw[hrun]
   have hkW:W'.heap[W5.heap.size]? =some (.cells #[.bool false] 4 (0,0)):=hk.cells _ _ 4 _ rfl (dz _ _ _);have IQ:=Hh y7;have TF:=Hh hbel;clear y7 hbel hrun hk hkW
   go_wp2_with fail
   rw[HR.out];have hbl:=TF.out;rw[HXE.out,HW0.out]at hbl;have hs1:=G7.out.size;have hs5:=HS5.out;have hs3:=HS3.out;have hbw:Below w.heap.size w W':=G7.out.trans (hbl.mono hs1);exact⟨eB,110,rfl,(hbw.setCell (p:=⟨W5.heap.size,0,none⟩) (by show w.heap.size≤W5.heap.size;omega) _).alloc (by simpa using hbw.size) _, .inr (.inl ⟨HD.out,IQ.out,rfl,rfl⟩)⟩
 ·go_wp2_with fail
  rw[HR.out];exact⟨_,_,rfl,HB1.out, .inl ⟨HD.out,rfl,rfl⟩⟩
theorem ag8{l:List Ct}{s:Ps}(h:XR l s):Bt 0 s.af s.done (qX s.done):=by
 obtain⟨k,K,hr⟩:=h.aiC
 obtain⟨P,hP⟩:=h.fo.ac2
 have e:qX s.done=P:=by
  rw[hr]at hP⊢;exact OU hP
 rw[e];exact hP
attribute [local go_sem] Oper.semAt_some
def xA:List Ct→Nat→Nat→Nat
 |[],_,m=>m
 |t::r,o,m=>
  if t.c≠7 then xA r o m
  else if t.t=[40]∨t.t=[91]∨t.t=[123]then xA r (o+1) (max m (o+1))
  else if t.t=[41]∨t.t=[93]∨t.t=[125]then xA r (o - 1) (max m (o - 1))
  else xA r o (max m o)
theorem EI:∀(l:List Ct) (o m:Nat),m≤xA l o m
 |[],o,m=>υ _
 |t::r,o,m=>by
  unfold xA
  split
  ·exact EI r o m
  ·split
   ·exact aaT (agK _ _) (EI r _ _)
   ·split
    ·exact aaT (agK _ _) (EI r _ _)
    ·exact aaT (agK _ _) (EI r _ _)
theorem zV:∀(l:List Ct) (o m:Nat),xA l o m≤256→mg l o=false
 |[],o,m,_=>rfl
 |t::r,o,m,h=>by
  unfold xA at h;unfold mg
  split at h
  ·rename_i c;rw[ω c];exact zV r o m h
  ·rename_i c
   rw[χ c]
   split at h
   ·rename_i c2
    rw[ω c2];have:=EI r (o+1) (max m (o+1));rw[χ η];exact zV r _ _ h
   ·rename_i c2
    rw[χ c2]
    split at h
    ·rename_i c3;rw[ω c3];exact zV r _ _ h
    ·rename_i c3;rw[χ c3];exact zV r _ _ h
set_option maxRecDepth 100000 in
set_option maxHeartbeats 8000000 in
theorem Xv(L:List Ct)(la:Option Addr)(lc:Nat)(w:World)(hrow:oV 2 sV w la L)(hl:L.length≤100000):Calls Tryz.prog 12 #[.slice la L.length lc] w fun e w'=>e= .returned (.int .i64 (xA L 0 0))∧Below w.heap.size w w':=by
 obtain⟨D,hD⟩:∃D,xA L 0 0=D:=⟨_,rfl⟩
 obtain⟨N,hN⟩:∃N,L.length=N:=⟨_,rfl⟩
 rw[hD,hN]
 rw[hN]at hl
 have HD:=π hD
 have HN:=π hN
 have BB:=π hrow
 clear hD hN hrow
 go_enter Tryz.func12,Tryz.ntmps12
 go_wp2_with fail
 go_loopg [3,4,5] N (fun gf q3 q4 q5 wr=>∃i o m:Nat,q5= .int .i64 i∧q3= .int .i64 o∧q4= .int .i64 m∧i+gf=N∧o≤i∧m≤i∧xA (L.drop i) o m=D∧Below w.heap.size w wr)
 case atStart=>exact⟨0,0,0,rfl,rfl,rfl,by omega,υ _,υ _,HD.out,Below.refl _ _⟩
 case round=>
  obtain⟨i,o,m,rfl,rfl,rfl,hig,hoi,hmi,hdp,hb⟩:=hrel;have HB:=π hb
  cases gk with
  |zero=>
   have hi:decide (i<N)=false:=aa5 η
   have hd:m=D:=by rw[←hdp,abY (by rw[HN.out];omega)];rfl
   have Ff:=π hd;clear hdp hb hd
   go_wp2_with fail
   go_ret;exact⟨by rw[Ff.out];rfl,HB.out⟩
  |succ g=>
   have hi0:i<L.length:=by rw[HN.out];omega
   have hi:i<N:=by omega
   obtain⟨b,off,hla,h2,h3⟩:=BB.out.at (by rintro e;rw[e]at hi0;simp at hi0);have hc:=(h3 i hi0).below hb h2;rw[abv hi0]at hdp;obtain⟨T,hT⟩:∃T,L[i]=T:=⟨_,rfl⟩;rw[hT]at hc hdp;obtain⟨c,t⟩:=T;have d0:wr.cell? ⟨b,off+i*2,none⟩=some (.int .i64 c):=hc 0 _ rfl;have d1:wr.cell? ⟨b,off+i*2+1,none⟩=some (.string (au t)):=hc 1 _ rfl;obtain⟨x,hx⟩:∃x:ByteArray,au t=x:=⟨_,rfl⟩;obtain⟨z,hz⟩:∃z:Int,(c:Int)=z:=⟨_,rfl⟩;rw[hx]at d1;rw[hz]at d0;have HX:=π hx;have HZ:=π hz
   have hun:xA (⟨c,t⟩::L.drop (i+1)) o m=if c≠7 then xA (L.drop (i+1)) o m else if t=[40]∨t=[91]∨t=[123]then xA (L.drop (i+1)) (o+1) (max m (o+1))else if t=[41]∨t=[93]∨t=[125]then xA (L.drop (i+1)) (o - 1) (max m (o - 1))else xA (L.drop (i+1)) o (max m o):=rfl
   rw[hun]at hdp;subst hla;have wC:=π hdp;clear hdp hb hc h2 h3 hT hx hz hun hi0;by_cases oU:c=7
   case neg=>
    have f7:(z !=7)=true:=by rw[←HZ.out,acm];omega
    go_wp2_with fail
    go_roundg g
    case measure=>omega
    case rel=>exact⟨i+1,o,m,by go_num,by go_num,by go_num,by omega,by omega,by omega,by have q:=wC.out;simp[oU]at q;exact q,HB.out⟩
   have f7:(z !=7)=false:=by rw[←HZ.out,oU];rfl
   by_cases t0:t=[40]
   case pos=>
    have x0:(x.toList==[40])=true:=HX.out▸gp t0
    go_wp2_with fail
    all_goals go_roundg g
    all_goals first
     |(case measure=>omega)
     |exact⟨i+1,o+1,max m (o+1),by go_num,by go_num,by go_num,by omega,by omega,by omega,by have q:=wC.out;simp[oU,t0]at q;exact q,HB.out⟩
   have x0:(x.toList==[40])=false:=HX.out▸lX t0;by_cases t1:t=[91]
   case pos=>
    have x1:(x.toList==[91])=true:=HX.out▸gp t1
    go_wp2_with fail
    all_goals go_roundg g
    all_goals first
     |(case measure=>omega)
     |exact⟨i+1,o+1,max m (o+1),by go_num,by go_num,by go_num,by omega,by omega,by omega,by have q:=wC.out;simp[oU,t0,t1]at q;exact q,HB.out⟩
   have x1:(x.toList==[91])=false:=HX.out▸lX t1;by_cases t2:t=[123]
   case pos=>
    have x2:(x.toList==[123])=true:=HX.out▸gp t2
    go_wp2_with fail
    all_goals go_roundg g
    all_goals first
     |(case measure=>omega)
     |exact⟨i+1,o+1,max m (o+1),by go_num,by go_num,by go_num,by omega,by omega,by omega,by have q:=wC.out;simp[oU,t0,t1,t2]at q;exact q,HB.out⟩
   have x2:(x.toList==[123])=false:=HX.out▸lX t2;by_cases t3:t=[41]
   case pos=>
    have x3:(x.toList==[41])=true:=HX.out▸gp t3
    go_wp2_with fail
    all_goals go_roundg g
    all_goals first
     |(case measure=>omega)
     |exact⟨i+1,o - 1,max m (o - 1),by go_num,by go_num,by go_num,by omega,by omega,by omega,by have q:=wC.out;simp[oU,t0,t1,t2,t3]at q;exact q,HB.out⟩
   have x3:(x.toList==[41])=false:=HX.out▸lX t3;by_cases t4:t=[93]
   case pos=>
    have x4:(x.toList==[93])=true:=HX.out▸gp t4
    go_wp2_with fail
    all_goals go_roundg g
    all_goals first
     |(case measure=>omega)
     |exact⟨i+1,o - 1,max m (o - 1),by go_num,by go_num,by go_num,by omega,by omega,by omega,by have q:=wC.out;simp[oU,t0,t1,t2,t3,t4]at q;exact q,HB.out⟩
   have x4:(x.toList==[93])=false:=HX.out▸lX t4;by_cases t5:t=[125]
   case pos=>
    have x5:(x.toList==[125])=true:=HX.out▸gp t5
    go_wp2_with fail
    all_goals go_roundg g
    all_goals first
     |(case measure=>omega)
     |exact⟨i+1,o - 1,max m (o - 1),by go_num,by go_num,by go_num,by omega,by omega,by omega,by have q:=wC.out;simp[oU,t0,t1,t2,t3,t4,t5]at q;exact q,HB.out⟩
   have x5:(x.toList==[125])=false:=HX.out▸lX t5
   go_wp2_with fail
   all_goals go_roundg g
   all_goals first
    |(case measure=>omega)
    |exact⟨i+1,o,max m o,by go_num,by go_num,by go_num,by omega,by omega,by omega,by have q:=wC.out;simp[oU,t0,t1,t2,t3,t4,t5]at q;exact q,HB.out⟩
theorem aid(a b c d:Int)(w:World):(binOp .neq 38 (.agg #[.int .i64 a, .int .i64 b, .int .i64 c, .int .i64 d]) (.agg #[.int .i64 a, .int .i64 b, .int .i64 c, .int .i64 d])).run Tryz.prog w= .ok (.bool false) w:=by
 simp[go_sem]
set_option maxRecDepth 100000 in
set_option maxHeartbeats 16000000 in
theorem Xx(P:List Nd)(X Y:Nat)(v v2:Value)(w:World)(h1:w.ownsRow X 38 4 v P.length (P.flatMap jX))(h2:w.ownsRow Y 38 4 v2 P.length (P.flatMap jX))(hl:P.length≤1000000000):
  Calls Tryz.prog 15 #[v,v2] w fun e w'=>e= .returned (.bool true)∧Below w.heap.size w w':=by
 have NE:=aid
 obtain⟨a,c,rfl⟩:=fF h1
 obtain⟨a2,c2,rfl⟩:=fF h2
 obtain⟨N,hN⟩:∃N,P.length=N:=⟨_,rfl⟩
 have H1:=π h1
 have H2:=π h2
 have HN:=π hN
 rw[hN]at hl⊢
 clear h1 h2 hN
 go_enter Tryz.func15,Tryz.ntmps15
 go_wp2_with fail
 go_loopw [5] (fun s5 wr=>∃i:Nat,s5= .int .i64 i∧i≤N∧Below w.heap.size w wr) (fun s5 _=>N - (intOf s5).toNat)
 case atStart=>exact⟨0,rfl,Ω _,Below.refl _ _⟩
 case round=>
  obtain⟨i,rfl,hi,hb⟩:=hrel;have HB:=π hb;by_cases hlt:i<N
  ·have hlt2:decide (i<N)=true:=aa4 hlt
   have hiP:i<P.length:=by rw[HN.out];exact hlt
   have r1:=gI H1.out hb;have r2:=gI H2.out hb;obtain⟨x,y,hxa,_,_,hxc⟩:=pV r1 η;cases hxa;obtain⟨x2,y2,asM,_,_,asN⟩:=pV r2 η;cases asM;obtain⟨a0,a1,a2',a3⟩:=Ah r1 hiP;obtain⟨b0,b1,b2,b3⟩:=Ah r2 hiP;obtain⟨nd,hnd⟩:∃nd,P.getD i n0=nd:=⟨_,rfl⟩;rw[hnd]at a0 a1 a2' a3 b0 b1 b2 b3;obtain⟨rk,rlo,rhi,rsz⟩:=nd;simp only at a0 a1 a2' a3 b0 b1 b2 b3;rw[HN.out]at hxc asN;clear hnd r1 r2 hb
   go_wp2_with fail
   go_quiet (fail)
   go_wp2_with fail
   go_roundw
   case rel=>exact⟨i+1,by go_num,by omega,HB.out.trans (gz _ _ _)⟩
   case measure=>simp[intOf];omega
  ·have hlt2:decide (i<N)=false:=aa5 hlt
   clear hb
   go_wp2_with fail
   go_ret;exact⟨rfl,HB.out⟩
end Go.Proofs.YtlboejdhmggjpaaGreat.Pp
