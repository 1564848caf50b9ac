import Derived.Test.YtlboejdhmggjpaaGreatWkS
set_option linter.all false
namespace Go.Proofs.YtlboejdhmggjpaaGreat.Pp
set_option maxRecDepth 100000
set_option maxHeartbeats 16000000
open Go.RowKit Go.BigFrame Go.Proofs.YtlboejdhmggjpaaGreat
theorem ahW:(Tryz.prog.info? 132).map (fun i=>(i.zero,i.size,i.bytes))=some (some (.agg #[.string ⟨#[]⟩, .int .i64 0, .int .i64 0]),3,32):=by kernel_rfl
theorem Nm.grown{w w3:World}{X e sz n mb:Nat}{v:Value}{xs:List Value}{ch:List (Bs×Bool)}(ho:w.ownsRow X e sz v n xs)(hg:w.grownBy w3 v.ownBlock)(h:Nm w mb ch):Nm w3 mb ch:=by
 obtain⟨n,D,h1,h2⟩:=h
 exact⟨n,D,pI h1 fun es c hq=>PG ho hg hq,h2⟩
theorem PX.V9{E:En}{w w3:World}{s:Ps}{vd vc vb Ms:Value}{mb:Nat}(h:PX E w s vd vc vb mb)(hE:E.ok)(x:Bs)(b:Bool)(hx:x.length≤maxLen)(hl:s.nm.ch.length≤1000000)(hcb:s.nm.ch.length≤2*E.L.length)(hg:w.grownBy w3 vc.ownBlock)
 (ho:w3.ownsRow E.X 132 3 Ms (s.nm.ch.length+1) (yn s.nm.ch.reverse++[.string (au x), .int .i64 (mE (jY s.nm.ch x)), .int .i64 (mE (some b))])):
 ∀nd:Nat,∃w4,(Instr.mapUpdate 69 (.map (some mb)) (.string (au x)) (.int .i64 (mE (some b)))).run Tryz.prog ((w3.setCell ⟨E.pb,5,none⟩ Ms).drewN nd)= .ok () w4∧PX E w4 {s with nm:={s.nm with ch:=s.nm.ch++[(x,b)]}} vd Ms vb mb∧KP w w4:=by
 have hb3:=pU h.ch hg _ _ 75 ζ h.box
 intro nd
 have CJ:Nm ((w3.setCell ⟨E.pb,5,none⟩ Ms).drewN nd) mb s.nm.ch:=(Nm.set hb3 (h.mp.grown h.ch hg)).ext (gz _ _ _)
 have hb4:=gJ (i:=5) (v:=Ms) hb3
 obtain⟨w4,hrun,hm4,hg4⟩:=CJ.store (ch':=s.nm.ch++[(x,b)]) x b hx hl (fun y=>Py _ _ _)
 have hst:∀(k:Nat) (cs:Array Value) (t:TypeId) (fz:Nat×Nat),((w3.setCell ⟨E.pb,5,none⟩ Ms).drewN nd).heap[k]? =some (.cells cs t fz)→w4.heap[k]? =some (.cells cs t fz):=fun k cs t fz hk=>by
  obtain⟨n,D,⟨es,c,hm,_⟩,_⟩:=CJ
  rw[hg4.block k (ψ.1 hk).1 (fun q=>by
   cases q;rw[hm]at hk
   cases hk)]
  exact hk
 have hXm:=h.mx
 refine⟨w4,hrun,{lu:=?_,box:=?_,dn:=?_,ch:=?_,bl:=?_,mp:=hm4,mx:=hXm,le:=h.le,tx:=?_,cb:=?_,bb:=h.bb},?_⟩
 ·refine(((h.lu.trans (PH h.ch hg (h.CU hE))).setCell hE.pb _).trans (gz _ _ nd)).trans ⟨hg4.os,hg4.tape,hg4.output,hg4.size,fun k hk=>hg4.block k ?_ (fun q=>by cases q;omega)⟩
  have:=h.CU hE;have:=hg.size;show k<(w3.setCell ⟨E.pb,5,none⟩ Ms).heap.size;simp;omega
 ·refine hst _ _ _ _ ?_
  simpa using hb4
 ·exact fq (iJ hb3 ζ (fq h.dn fun g cur hq=>pU h.ch hg _ _ _ ζ hq)) fun g cur hq=>hst _ _ _ _ hq
 ·have:=fq (iJ (x:=Ms) (i:=5) hb3 ζ ho) fun g cur hq=>hst _ _ _ _ hq
  have e:yn (s.nm.ch++[(x,b)]).reverse=yn s.nm.ch.reverse++[.string (au x), .int .i64 (mE (jY s.nm.ch x)), .int .i64 (mE (some b))]:=by
   rw[agm,List.reverse_singleton,afR];rfl
  rw[e];simpa using this
 ·exact fq (iJ hb3 ζ (fq h.bl fun g cur hq=>pU h.ch hg _ _ _ ζ hq)) fun g cur hq=>hst _ _ _ _ hq
 ·intro p hp
  rcases abr.1 hp with hp|hp
  ·exact h.tx p hp
  ·rw[Φ]at hp;rw[hp];exact hx
 ·simp only[Δ,aaJ,List.length_nil];omega
 ·exact((Tt h.ch hg rfl).trans (KP.set hb3 rfl)).trans ⟨hg4.size,fun k cs t fz _ hk=>hst _ _ _ _ hk,fun k x hk=>by
   have hk:((w3.setCell ⟨E.pb,5,none⟩ Ms).drewN nd).heap[k]? =some (.deferred x):=hk;obtain⟨n,D,⟨es,c,hm,_⟩,_⟩:=CJ
   rw[hg4.block k (ψ.1 hk).1 (fun q=>by
    cases q;rw[hm]at hk
    cases hk)]
   exact hk⟩
theorem Gq{E:En}(hE:E.ok)(x:Bs)(b:Bool)(s:Ps)(w:World)(hx:x.length≤maxLen)(hp:PW E w s)(hne:bS E.L x b s≠ .out):Calls Tryz.prog 49 #[.pointer (some ⟨E.pb,3,none⟩), .agg #[.string (au x), .bool b]] w (fO E Px w (bS E.L x b s)):=by
 have hg:s.nm.ch.length≤2*E.L.length:=by
  unfold bS at hne
  split at hne
  ·assumption
  ·exact absurd rfl hne
 have hr:bS E.L x b s= .ok () {s with nm:=s.nm.bS x b}:=by unfold bS;rw[ω hg]
 rw[hr]
 clear hne hr
 have hL:=hE.len
 by_cases h0:x=[]
 ·have hn:s.nm.bS x b=s.nm:=by unfold Ns.bS;rw[ω h0]
  rw[hn];have hs:=gp h0;obtain⟨st,hst⟩:∃st:ByteArray,au x=st:=⟨_,rfl⟩;rw[hst]at hs;have HP:=Hh hp;rw[hst];clear hp hst hn h0 hx
  go_enter Tryz.func49,Tryz.ntmps49
  go_wp2_with fail
  exact⟨rfl, .tuple #[],by simp[results,Tryz.results49,go_sem],rfl,HP.out.ext hE (ag _ _),KP.aT (ag _ _)⟩
 have hn:s.nm.bS x b={s.nm with ch:=s.nm.ch++[(x,b)]}:=by unfold Ns.bS;rw[χ h0]
 rw[hn]
 have hs:=lX h0
 obtain⟨i0,hi0,hz0,hz1,hz2⟩:=rJ ahW
 obtain⟨N,hN⟩:∃N,mE (some b)=N:=⟨_,rfl⟩
 obtain⟨Z,hZ⟩:∃Z,mE (jY s.nm.ch x)=Z:=⟨_,rfl⟩
 obtain⟨W1,hW1⟩:∃W1,W1=w.alloc (.cells #[.string (au x), .bool b] 95):=⟨_,rfl⟩
 have hb1:Below w.heap.size w W1:=by rw[hW1];exact ag _ _
 have hr1:W1.heap[w.heap.size]? =some (.cells #[.string (au x), .bool b] 95 (0,0)):=by rw[hW1];exact dz _ _ _
 obtain⟨vd,vc,vb,mb,hx1⟩:=hp.ext hE hb1
 obtain⟨ca,cc,rfl⟩:=fF hx1.ch
 obtain⟨n,hnl⟩:∃n,s.nm.ch.length=n:=⟨_,rfl⟩
 rw[hnl]at hg hx1
 have hch:=hx1.ch
 have hbx:=hx1.box
 rw[hnl]at hch
 obtain⟨V1,hV1⟩:∃V1,V1=W1.drew.alloc (.cells #[.string (au x), .int .i64 Z, .int .i64 N] 132):=⟨_,rfl⟩
 have wu:Below W1.heap.size W1 V1:=by rw[hV1];exact((Below.refl _ W1).drew).alloc (υ _) _
 have BK:=hx1.ext hE wu
 have hnr:V1.heap[W1.heap.size]? =some (.cells #[.string (au x), .int .i64 Z, .int .i64 N] 132 (0,0)):=by rw[hV1];exact dz W1.drew _ _
 have Tu:=BK.ch
 rw[hnl]at Tu
 obtain⟨v',w3,hrun,hown3,hgrow3, -⟩:=run_append_own_at (P:=Tryz.prog) (w:=V1) E.X 70 70 132 i0 (.agg #[.string ⟨#[]⟩, .int .i64 0, .int .i64 0]) 3 32 Tryz.underlying70 hi0 hz0 hz1 hz2 rfl ζ (.slice ca n cc) n (yn s.nm.ch.reverse) Tu
  ⟨W1.heap.size,0,none⟩ 1 1 [.string (au x), .int .i64 Z, .int .i64 N] rfl (fun j u hu=>by
   match j,hu with
   |0,hu=>simp at hu;subst hu;simp[World.cell?,Addr.add,hnr]
   |1,hu=>simp at hu;subst hu;simp[World.cell?,Addr.add,hnr]
   |2,hu=>simp at hu;subst hu;simp[World.cell?,Addr.add,hnr]
   |j+3,hu=>simp at hu) (fun u hu=>by simp at hu;rcases hu with rfl|rfl|rfl<;>rfl) (by unfold maxLen;omega) η (BK.CU hE)
 obtain⟨ca',cc',rfl⟩:=fF hown3
 have hup:=BK.V9 hE x b hx (by rw[hnl];omega) (by rw[hnl];exact hg) hgrow3 (by rw[hnl,hZ,hN];exact hown3)
 have hV:∃V:Nat→World,V 0=W1.drew∧V 1=V1∧∀j,2≤j→V j=w3:=⟨fun j=>match j with|0=>W1.drew|1=>V1|_=>w3,rfl,rfl,fun j hj=>by
  match j,hj with
  |j+2,_=>rfl⟩
 obtain⟨V,uy,Bw,hV2⟩:=hV
 have hst:∀(p:Nat) (cs:Array Value) (t:TypeId),¬t=132→W1.heap[p]? =some (.cells cs t (0,0))→∀j,(V j).heap[p]? =some (.cells cs t (0,0)):=fun p cs t ht hq j=>by
  have q1:=aF wu hq (ψ.1 hq).1
  match j with
  |0=>rw[uy];exact hq
  |1=>rw[Bw];exact q1
  |j+2=>rw[hV2 _ η];exact pU Tu hgrow3 _ _ _ ht q1
 have hB:=hst _ _ _ ζ hbx
 have hM:=hst _ _ _ ζ hr1
 have hlk:∀j,(Instr.lookup 69 (.map (some mb)) (.string (au x)) false).run Tryz.prog (V j)= .ok (.int .i64 Z) (V j):=fun j=>by
  rw[←hZ]
  match j with
  |0=>rw[uy];exact Nm.Er (w:=W1.drew) hx1.mp x hx
  |1=>rw[Bw];exact BK.mp.Er x hx
  |j+2=>rw[hV2 _ η];exact(BK.mp.grown Tu hgrow3).Er x hx
 obtain⟨m,hm⟩:∃m,w.heap.size=m:=⟨_,rfl⟩
 rw[hm]at hM
 obtain⟨st,YT⟩:∃st:ByteArray,au x=st:=⟨_,rfl⟩
 rw[YT]at hs hM hlk
 have c4:∀j,(V j).cell? ⟨E.pb,4,none⟩=some (.map (some mb)):=fun j=>by simp[World.cell?,hB j]
 have c5:∀j,(V j).cell? ⟨E.pb,5,none⟩=some (.slice ca n cc):=fun j=>by simp[World.cell?,hB j]
 have d0:∀j,(V j).cell? ⟨m,0,none⟩=some (.string st):=fun j=>by simp[World.cell?,hM j]
 have e5:w3.cell? ⟨E.pb,5,none⟩=some (.slice ca n cc):=by have:=c5 2;rwa[hV2 2 (υ _)]at this
 have f5:w3.frozen? ⟨E.pb,5,none⟩=false:=by have:=hB 2;rw[hV2 2 (υ _)]at this;exact ab7 this 5
 have hB3:=hB 2
 have hM3:=hM 2
 rw[hV2 2 (υ _)]at hB3 hM3
 obtain⟨W5,tO⟩:∃W5,W5=w3.setCell ⟨E.pb,5,none⟩ (.slice ca' (n+1) cc'):=⟨_,rfl⟩
 have g4:W5.cell? ⟨E.pb,4,none⟩=some (.map (some mb)):=by have q:=gJ (i:=5) (v:= .slice ca' (n+1) cc') hB3;rw[←tO]at q;simp[World.cell?,q]
 have gm:W5.cell? ⟨m,0,none⟩=some (.string st):=by
  have q:W5.heap[m]? =some (.cells #[.string st, .bool b] 95 (0,0)):=by
   rw[tO,heap_setCell_other _ _ _ _ (fun e=>by
    have e2:m=E.pb:=e;rw[e2,hB3]at hM3
    cases hM3)]
   exact hM3
  simp[World.cell?,q]
 rw[←tO,YT,hN]at hup
 have HUP:=Hh hup
 have HW5:=Hh tO
 have Gg:=Hh hrun
 have Im:=Hh hV1
 have K0:=Hh uy
 have K1:=Hh Bw
 have K2:=Hh hV2
 have HB1:=Hh hb1
 have SN:=Hh wu
 have J9:=Hh hN
 rw[YT]at hW1 hV1⊢
 have Im:=Hh hV1
 clear hp hx1 BK hrun hV1 uy Bw hV2 hb1 wu hnr Tu hch hbx hown3 hgrow3 hst hB hM hB3 hM3 hnl hr1 hi0 hz0 hz1 hz2 hup tO hn h0 hx hZ YT
 cases b
 all_goals
  simp only[mE]at hN;subst hN
  go_enter Tryz.func49,Tryz.ntmps49
  go_wp2_with fail
  rw[←hW1];refine oZ V [16,17] 20 K0.out (by kernel_rfl) (by kernel_rfl) ?_;simp only[List.take_succ_cons,List.take_zero,List.drop_succ_cons,List.drop_zero];refine nu 16 (by kernel_rfl) ?_;simp only[List.take_succ_cons,List.take_zero,List.drop_succ_cons,List.drop_zero]
  repeat(go_big_quiet_step (fail))
  refine abO ?_;refine xQ 0 (.slice (some ⟨W1.heap.size,0,none⟩) 1 1) (by kernel_rfl) rfl (.inl ?_) ?_
  ·rw[K0.out,K1.out,Im.out]
   kernel_rfl
  refine xQ 1 (.slice ca' (n+1) cc') (by kernel_rfl) rfl (.inl ?_) ?_
  ·rw[K1.out,K2.out _ (υ _)]
   exact Ed rfl rfl rfl Gg.out
  refine nu 2 (by kernel_rfl) ?_;simp only[List.take_succ_cons,List.take_zero,List.drop_succ_cons,List.drop_zero,Act.put,abu,abH,abG]
  repeat(go_big_quiet_step (fail))
  refine abO ?_;refine Du ?_;rw[show V ([16,17]:List Nat).length=w3 from K2.out _ (υ _)]
  go_wp2_with fail
  rw[←HW5.out];refine jq (C:=fun w'=>∃n,w'=W5.drewN n) 7 (by kernel_rfl) (by kernel_rfl) ⟨1,rfl⟩ ?_;simp only[List.take_succ_cons,List.take_zero,List.drop_succ_cons,List.drop_zero]
  repeat(go_big_quiet_step (fail))
  refine abO ?_;rintro w' ⟨nr,rfl⟩;obtain⟨w4,hu,ajI,ajJ⟩:=HUP.out nr;have HPX:=Hh ajI;have HKP:=Hh ajJ;clear ajI ajJ
  go_wp2_with fail
  exact⟨rfl, .tuple #[],by simp[results,Tryz.results49,go_sem],rfl,⟨_,_,_,_,HPX.out⟩,(KP.aT HB1.out).trans ((KP.aT SN.out).trans HKP.out)⟩
end Go.Proofs.YtlboejdhmggjpaaGreat.Pp
