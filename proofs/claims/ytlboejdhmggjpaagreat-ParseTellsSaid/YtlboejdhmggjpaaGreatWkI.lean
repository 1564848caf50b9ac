import Derived.Test.YtlboejdhmggjpaaGreatWkD
import Derived.Maps.AppendAt
set_option linter.all false
namespace Go.Proofs.YtlboejdhmggjpaaGreat.Pp
set_option maxRecDepth 100000
set_option maxHeartbeats 16000000
open Go.RowKit Go.BigFrame Go.Proofs.YtlboejdhmggjpaaGreat
theorem abp:(Tryz.prog.info? 38).map (fun i=>(i.zero,i.size,i.bytes))=some (some (.agg #[.int .i64 0, .int .i64 0, .int .i64 0, .int .i64 0]),4,32):=by kernel_rfl
theorem rJ{t:TypeId}{z:Value}{n b:Nat}(h:(Tryz.prog.info? t).map (fun i=>(i.zero,i.size,i.bytes))=some (some z,n,b)):∃i,Tryz.prog.info? t=some i∧i.zero=some z∧i.size=n∧i.bytes=b:=by
 cases hi:Tryz.prog.info? t with
 |none=>rw[hi]at h;cases h
 |some i=>
  rw[hi]at h;simp only[Option.map_some,aga,Prod.mk.injEq]at h;exact⟨i,rfl,h.1,h.2.1,h.2.2⟩
theorem PX.done{E:En}{w w3:World}{s:Ps}{vd vc vb Xb:Value}{mb:Nat}(h:PX E w s vd vc vb mb)(hE:E.ok)(x:Nd)(hg:w.grownBy w3 vd.ownBlock)(ho:w3.ownsRow E.X 38 4 Xb (s.done.length+1) (s.done.flatMap jX++jX x)):
 PX E (w3.setCell ⟨E.pb,2,none⟩ Xb) {s with done:=s.done++[x]} Xb vc vb mb∧KP w (w3.setCell ⟨E.pb,2,none⟩ Xb):=by
 have hne:∀(k:Nat) (cs:Array Value) (t:TypeId),¬t=38→w.heap[k]? =some (.cells cs t (0,0))→w3.heap[k]? =some (.cells cs t (0,0)):=fun k cs t ht hk=>by
  rw[hg.block k (ψ.1 hk).1 (fun e=>by
   obtain⟨_,cur,hc⟩:=jl h.dn e.symm;rw[hk]at hc;cases hc
   exact ht rfl)]
  exact hk
 have hb3:=hne _ _ 75 ζ h.box
 have hbel:Below E.X w w3:=⟨hg.os,hg.tape,hg.output,hg.size,fun k hk=>hg.block k (by have:=h.lu.size;have:=hE.X;omega) (fun e=>by
  obtain⟨hx,_⟩:=jl h.dn e.symm
  omega)⟩
 refine⟨{lu:=(h.lu.trans hbel).setCell hE.pb _,box:=?_,dn:=?_,ch:=?_,bl:=?_,mp:=?_,mx:=h.mx,le:=h.le,tx:=h.tx,cb:=h.cb,bb:=h.bb},?_⟩
 ·have:=gJ (i:=2) (v:=Xb) hb3;simpa using this
 ·have:=iJ (x:=Xb) (i:=2) hb3 ζ ho
  simpa using this
 ·exact iJ hb3 ζ (fq h.ch fun g cur hq=>hne _ _ _ ζ hq)
 ·exact iJ hb3 ζ (fq h.bl fun g cur hq=>hne _ _ _ ζ hq)
 ·refine Nm.set hb3 ?_
  obtain⟨n,D,h1,h2⟩:=h.mp;refine⟨n,D,pI h1 fun es c hq=>?_,h2⟩
  rw[hg.block _ (ψ.1 hq).1 (fun e=>by
   obtain⟨_,cur,hc⟩:=jl h.dn e.symm;rw[hq]at hc
   cases hc)]
  exact hq
 ·refine KP.trans ⟨hg.size,fun k cs t fz ht hk=>?_,fun k x hk=>by
   rw[hg.block k (ψ.1 hk).1 (fun q=>by
    obtain⟨_,cur,hc⟩:=jl h.dn q.symm;rw[hk]at hc
    cases hc)]
   exact hk⟩ (KP.set hb3 rfl)
  rw[hg.block k (ψ.1 hk).1 (fun e=>by
   obtain⟨_,cur,hc⟩:=jl h.dn e.symm;rw[hk]at hc;cases hc
   cases ht)]
  exact hk
theorem Af{E:En}(hE:E.ok)(k:Nat)(h:Nat×Nat)(s:Ps)(w:World)(hp:PW E w s)(hne:node E.L k h s≠ .out):Calls Tryz.prog 34 #[.pointer (some ⟨E.pb,0,none⟩), .int .i64 k,tL h] w (fO E Px w (node E.L k h s)):=by
 have hg:s.done.length≤4*E.L.length∧h.2≤s.done.length:=by
  unfold node at hne
  split at hne
  ·assumption
  ·exact absurd rfl hne
 have hr:node E.L k h s= .ok () {s with done:=s.done++[⟨k,h.1,s.af,s.done.length - h.2+1⟩]}:=by unfold node;rw[ω hg]
 rw[hr]
 clear hne hr
 obtain⟨h1,h2⟩:=h
 obtain⟨hg1,hg2⟩:=hg
 simp only at hg2
 have hL:=hE.len
 obtain⟨i0,hi0,hz0,hz1,hz2⟩:=rJ abp
 obtain⟨W1,hW1⟩:∃W1,W1=w.alloc (.cells #[.int .i64 h1, .int .i64 h2] 77):=⟨_,rfl⟩
 have hb1:Below w.heap.size w W1:=by rw[hW1];exact ag _ _
 have hr1:W1.heap[w.heap.size]? =some (.cells #[.int .i64 h1, .int .i64 h2] 77 (0,0)):=by rw[hW1];exact dz _ _ _
 obtain⟨vd,vc,vb,mb,hx⟩:=hp.ext hE hb1
 obtain⟨da,dc,rfl⟩:=fF hx.dn
 obtain⟨n,hn⟩:∃n,s.done.length=n:=⟨_,rfl⟩
 obtain⟨a,ha⟩:∃a,s.af=a:=⟨_,rfl⟩
 obtain⟨z,hz⟩:∃z:Nat,n - h2+1=z:=⟨_,rfl⟩
 rw[hn]at hg1 hg2 hx
 have hzi:(n:Int) - h2+1=z:=by omega
 obtain⟨V1,hV1⟩:∃V1,V1=W1.drew.alloc (.cells #[.int .i64 k, .int .i64 h1, .int .i64 a, .int .i64 z] 38):=⟨_,rfl⟩
 have wu:Below W1.heap.size W1 V1:=by rw[hV1];exact((Below.refl _ W1).drew).alloc (υ _) _
 have BK:=hx.ext hE wu
 have hnr:V1.heap[W1.heap.size]? =some (.cells #[.int .i64 k, .int .i64 h1, .int .i64 a, .int .i64 z] 38 (0,0)):=by rw[hV1];exact dz W1.drew _ _
 have hXV:E.X≤V1.heap.size:=by have:=BK.lu.size;rw[hE.X];exact this
 have YM:=BK.dn
 rw[hn]at YM
 obtain⟨v',w3,hrun,hown3,hgrow3, -⟩:=run_append_own_at (P:=Tryz.prog) (w:=V1) E.X 24 24 38 i0 (.agg #[.int .i64 0, .int .i64 0, .int .i64 0, .int .i64 0]) 4 32 Tryz.underlying24 hi0 hz0 hz1 hz2 rfl ζ (.slice da n dc) n (s.done.flatMap jX) YM
  ⟨W1.heap.size,0,none⟩ 1 1 [.int .i64 k, .int .i64 h1, .int .i64 a, .int .i64 z] rfl (fun j u hu=>by
   match j,hu with
   |0,hu=>simp at hu;subst hu;simp[World.cell?,Addr.add,hnr]
   |1,hu=>simp at hu;subst hu;simp[World.cell?,Addr.add,hnr]
   |2,hu=>simp at hu;subst hu;simp[World.cell?,Addr.add,hnr]
   |3,hu=>simp at hu;subst hu;simp[World.cell?,Addr.add,hnr]
   |j+4,hu=>simp at hu) (fun u hu=>by simp at hu;rcases hu with rfl|rfl|rfl|rfl<;>rfl) (by unfold maxLen;omega) η hXV
 obtain⟨da',dc',rfl⟩:=fF hown3
 have hV:∃V:Nat→World,V 0=W1.drew∧V 1=V1∧∀j,2≤j→V j=w3:=⟨fun j=>match j with|0=>W1.drew|1=>V1|_=>w3,rfl,rfl,fun j hj=>by
  match j,hj with
  |j+2,_=>rfl⟩
 obtain⟨V,uy,Bw,hV2⟩:=hV
 have hst:∀(p:Nat) (cs:Array Value) (t:TypeId),¬t=38→W1.heap[p]? =some (.cells cs t (0,0))→∀j,(V j).heap[p]? =some (.cells cs t (0,0)):=fun p cs t ht hq j=>by
  have q1:V1.heap[p]? =some (.cells cs t (0,0)):=aF wu hq (ψ.1 hq).1
  match j with
  |0=>rw[uy];exact hq
  |1=>rw[Bw];exact q1
  |j+2=>
   rw[hV2 _ η,hgrow3.block p (ψ.1 q1).1 (fun e=>by
    obtain⟨_,cur,hc⟩:=jl YM e.symm;rw[q1]at hc;cases hc
    exact ht rfl)]
   exact q1
 have hB:=hst _ _ _ ζ hx.box
 have hM:=hst _ _ _ ζ hr1
 rw[ha]at hB
 obtain⟨m,hm⟩:∃m,w.heap.size=m:=⟨_,rfl⟩
 rw[hm]at hM
 have c1:∀j,(V j).cell? ⟨E.pb,1,none⟩=some (.int .i64 a):=fun j=>by simp[World.cell?,hB j]
 have c2:∀j,(V j).cell? ⟨E.pb,2,none⟩=some (.slice da n dc):=fun j=>by simp[World.cell?,hB j]
 have d0:∀j,(V j).cell? ⟨m,0,none⟩=some (.int .i64 h1):=fun j=>by simp[World.cell?,hM j]
 have d1:∀j,(V j).cell? ⟨m,1,none⟩=some (.int .i64 h2):=fun j=>by simp[World.cell?,hM j]
 have e2:w3.cell? ⟨E.pb,2,none⟩=some (.slice da n dc):=by have:=c2 2;rwa[hV2 2 (υ _)]at this
 have f2:w3.frozen? ⟨E.pb,2,none⟩=false:=by have:=hB 2;rw[hV2 2 (υ _)]at this;exact ab7 this 2
 have hfin:=BK.done hE ⟨k,h1,a,z⟩ hgrow3 (by rw[hn];exact hown3)
 have SK:=Hh hfin
 have Gg:=Hh hrun
 have Im:=Hh hV1
 have K0:=Hh uy
 have K1:=Hh Bw
 have K2:=Hh hV2
 have HB1:=Hh hb1
 have SN:=Hh wu
 have HN:=Hh hn
 have HA:=Hh ha
 have HZ:=Hh hz
 clear hp hx BK hfin hrun hV1 uy Bw hV2 hb1 wu hnr hXV YM hown3 hgrow3 hst hB hM hn ha hz hr1 hi0 hz0 hz1 hz2
 go_enter Tryz.func34,Tryz.ntmps34
 simp only[tL]
 go_wp2_with fail
 rw[←hW1]
 clear hW1
 refine oZ V [22,23] 26 K0.out (by kernel_rfl) (by kernel_rfl) ?_
 simp only[List.take_succ_cons,List.take_zero,List.drop_succ_cons,List.drop_zero]
 refine nu 22 (by kernel_rfl) ?_
 simp only[List.take_succ_cons,List.take_zero,List.drop_succ_cons,List.drop_zero]
 repeat(go_big_quiet_step (fail))
 refine abO ?_
 refine xQ 0 (.slice (some ⟨W1.heap.size,0,none⟩) 1 1) (by kernel_rfl) rfl (.inl ?_) ?_
 ·rw[K0.out,K1.out,Im.out]
  kernel_rfl
 refine xQ 1 (.slice da' (n+1) dc') (by kernel_rfl) rfl (.inl ?_) ?_
 ·rw[K1.out,K2.out _ (υ _)]
  exact Ed rfl rfl rfl Gg.out
 refine nu 2 (by kernel_rfl) ?_
 simp only[List.take_succ_cons,List.take_zero,List.drop_succ_cons,List.drop_zero,Act.put,abu,abH,abG]
 repeat(go_big_quiet_step (fail))
 refine abO ?_
 refine Du ?_
 rw[show V ([22,23]:List Nat).length=w3 from K2.out _ (υ _)]
 go_wp2_with fail
 refine abw (v:= .tuple #[]) (by simp[results,Tryz.results34,go_sem]) rfl ?_
 refine⟨rfl,?_,?_⟩
 ·have q:=SK.out.1
  rw[←HZ.out,←HN.out,←HA.out]at q;rw[←HN.out];exact⟨_,_,_,_,q⟩
 ·exact(KP.aT HB1.out).trans ((KP.aT SN.out).trans SK.out.2)
end Go.Proofs.YtlboejdhmggjpaaGreat.Pp
namespace Go.Proofs.YtlboejdhmggjpaaGreat.Pp
open Go.RowKit Go.BigFrame Go.Proofs.YtlboejdhmggjpaaGreat Go.ChangeMaps Go.WideMaps
theorem Oc:Maps.Keyed Tryz.prog 9:=Maps.string_keyed Tryz.underlying9
theorem aoi(w:World):(zeroValue 3).run Tryz.prog w= .ok (.int .i64 0) w:=by kernel_rfl
theorem abq(x:Bs):WideAt.IsKeyLit (.string x):=by simp[WideAt.IsKeyLit]
theorem Mi{x y:Bs}(h:y≠x):Lit.string y≠Lit.string x:=fun e=>h (by simpa using e)
theorem SQ(x:Bs)(hx:x.length≤maxLen):keyOf Tryz.prog 9 (.string (au x))=some (.string x):=by
 have:=keyOf_string_mk Tryz.underlying9 (s:=au x) (by rw[ko];exact hx)
 rwa[nG]at this
theorem Py(ch:List (Bs×Bool))(p:Bs×Bool)(x:Bs):jY (ch++[p]) x=if p.1=x then some p.2 else jY ch x:=by
 unfold jY
 rw[agm,List.reverse_singleton,afR,List.find?_cons]
 by_cases h:p.1=x
 ·simp[h]
 ·rw[χ h,show(p.1==x)=false from aat.mpr h]
theorem adQ{ch:List (Bs×Bool)}{x:Bs}(h:(jY ch x).isSome=true):x∈ch.map (·.1):=by
 unfold jY at h
 cases hf:ch.reverse.find? (fun p=>p.1==x)with
 |none=>rw[hf]at h;cases h
 |some p=>
  have h1:=agf hf;have h2:=List.find?_some hf;rw[aaZ]at h2;exact abt.2 ⟨p,List.mem_reverse.1 h1,h2⟩
theorem Pz{α:Type}[DecidableEq α]:∀(a b:List α),a.Pairwise (·≠·)→(∀x∈a,x∈b)→a.length≤b.length
 |[],b,_,_=>Ω _
 |x::a,b,h,hs=>by
  have hx:=hs x ν;rw[List.pairwise_cons]at h
  have:=Pz a (b.erase x) h.2 fun y hy=>(List.mem_erase_of_ne (fun e=>h.1 y hy e.symm)).2 (hs y (by simp[hy]))
  rw[List.length_erase_of_mem hx]at this;have:=List.length_pos_of_mem hx;rw[aaJ];omega
def afQ:Lit→Bs
 | .string x=>x
 |_=>[]
theorem Nm.few{w:World}{mb:Nat}{ch:List (Bs×Bool)}(h:Nm w mb ch):∃D,w.ownsMap Tryz.prog 9 xg mb ch.length D∧∀x:Bs,(∀z,D.atKey (.string x) z=match jY ch x with|some b=> .held (.int .i64 (mE (some b)))|none=>z)∧Maps.has D (.string x)=(jY ch x).isSome:=by
 obtain⟨n,D,h1,h2⟩:=h
 refine⟨D,?_,h2⟩
 obtain⟨es,hD,hp,hk⟩:=h1.entries Oc
 obtain⟨es0,clock,hb,F,_,hD0⟩:=h1
 have hes:es=(es0.toList.map (WideElems.rg Tryz.prog 9 xg)).foldr DataW.insert []:=by
  rw[hD]at hD0;cases hD0;rfl
 have hstr:∀p∈es,p.1= .string (afQ p.1):=fun p hp=>by
  rw[hes]at hp;obtain⟨e0,he0,rfl⟩:=abt.1 (mem_sorted.1 hp);obtain⟨y,hy⟩:=F.reads e0 he0;rw[WideElems.rg_of hy];obtain⟨s,_,hs,_⟩:=string_of_keyOf Tryz.underlying9 (WideElems.rd_key hy);rw[hs];rfl
 have hsub:(es.map fun p=>afQ p.1).length≤(ch.map (·.1)).length:=by
  refine Pz _ _ ?_ fun x hx=>?_
  ·rw[List.pairwise_map]
   refine hp.imp_of_mem fun{a b} ha hb hne e=>hne ?_
   rw[hstr a ha,hstr b hb,e]
  ·obtain⟨p,hpm,rfl⟩:=abt.1 hx
   refine adQ ?_;rw[←(h2 _).2,hD];refine List.any_eq_true.2 ⟨p,hpm,?_⟩;rw[←hstr p hpm];exact WideAt.sameKey_self (hk p hpm)
 rw[abz,abz,hes,length_sorted,abz,Array.length_toList]at hsub
 exact⟨es0,clock,hb,F,hsub,hD0⟩
theorem ahU{v:Value}{d:DataW Value}{ps:List MemPlace}(h:xg v=some (d,ps)):d= .held v:=by
 unfold xg at h
 simp only[aga,Prod.mk.injEq]at h
 exact h.1.symm
theorem Nm.Er{w:World}{mb:Nat}{ch:List (Bs×Bool)}(h:Nm w mb ch)(x:Bs)(hx:x.length≤maxLen):(Instr.lookup 69 (.map (some mb)) (.string (au x)) false).run Tryz.prog w= .ok (.int .i64 (mE (jY ch x))) w:=by
 obtain⟨n,D,h1,h2⟩:=h
 obtain⟨v,ps,hrun,hv⟩:=h1.lookup Oc Tryz.underlying69 (aoi w) (zd:= .held (.int .i64 0)) (zp:=[]) rfl (SQ x hx)
 rw[hrun]
 have:=ahU hv
 rw[(h2 x).1]at this
 cases hq:jY ch x with
 |none=>rw[hq]at this;simp only[DataW.held.injEq]at this;rw[←this];rfl
 |some b=>rw[hq]at this;simp only[DataW.held.injEq]at this;rw[←this]
theorem Nm.store{w:World}{mb:Nat}{ch ch':List (Bs×Bool)}(h:Nm w mb ch)(x:Bs)(b:Bool)(hx:x.length≤maxLen)(hl:ch.length≤1000000)(hc:∀y,jY ch' y=if x=y then some b else jY ch y):
 ∃w',(Instr.mapUpdate 69 (.map (some mb)) (.string (au x)) (.int .i64 (mE (some b)))).run Tryz.prog w= .ok () w'∧Nm w' mb ch'∧w.grownBy w' (some mb):=by
 obtain⟨D,h1,h2⟩:=h.few
 obtain⟨w',hrun,hown,hg⟩:=h1.update Oc Tryz.underlying69 (by unfold maxLen;omega) (SQ x hx) (val:= .int .i64 (mE (some b))) (d:= .held (.int .i64 (mE (some b)))) (ps:=[]) rfl
 refine⟨w',hrun,⟨_,_,hown,fun y=>?_⟩,hg⟩
 rw[hc y]
 by_cases hxy:x=y
 ·subst hxy
  rw[ω rfl];exact⟨fun z=>Maps.atKey_put_same h1.isMap (abq _) _ _,Maps.has_put_same h1.isMap (abq _) _⟩
 ·rw[χ hxy]
  refine⟨fun z=>?_,?_⟩
  ·rw[Maps.atKey_put_other (Mi (fun e=>hxy e.symm)),(h2 y).1]
   cases jY ch y<;>rfl
  ·rw[Maps.has_put_other (Mi (fun e=>hxy e.symm)),(h2 y).2]
theorem Nm.drop{w:World}{mb:Nat}{ch ch':List (Bs×Bool)}(h:Nm w mb ch)(x:Bs)(hx:x.length≤maxLen)(ty:TypeId)(hc:∀y,jY ch' y=if x=y then none else jY ch y):
 ∃w',(Builtin.delete_ #[69,9] ty #[.map (some mb), .string (au x)]).run Tryz.prog w= .ok (.tuple #[]) w'∧Nm w' mb ch'∧w.grownBy w' (some mb):=by
 obtain⟨n,D,h1,h2⟩:=h
 obtain⟨w',hrun,hown,hg⟩:=h1.drop Oc Tryz.underlying69 (SQ x hx) ty
 refine⟨w',hrun,⟨_,_,hown,fun y=>?_⟩,hg.grown⟩
 rw[hc y]
 by_cases hxy:x=y
 ·subst hxy
  rw[ω rfl];exact⟨fun z=>Maps.atKey_del_same _,by rw[Maps.has_del_same];rfl⟩
 ·rw[χ hxy]
  refine⟨fun z=>?_,?_⟩
  ·rw[Maps.atKey_del_other (Mi (fun e=>hxy e.symm)),(h2 y).1]
  ·rw[Maps.has_del_other (Mi (fun e=>hxy e.symm)),(h2 y).2]
end Go.Proofs.YtlboejdhmggjpaaGreat.Pp
namespace Go.Proofs.YtlboejdhmggjpaaGreat.Pp
set_option maxRecDepth 100000
set_option maxHeartbeats 16000000
open Go.RowKit Go.BigFrame Go.Proofs.YtlboejdhmggjpaaGreat
variable {E : En}
theorem Io (hE:E.ok)(x:Bs)(s:Ps)(w:World)(hx:x.length≤maxLen)(h:PW E w s):Calls Tryz.prog 74 #[.pointer (some ⟨E.pb,3,none⟩), .string (au x)] w fun e w'=>e= .returned (.bool (s.nm.l8 E.base x))∧Below w.heap.size w w':=by
 have hb:=h.lu
 obtain⟨vd,vc,vb,mb,h⟩:=h
 have hq:s.nm.l8 E.base x=(jY s.nm.ch x).getD (E.base x):=rfl
 rw[hq]
 have hl:=h.mp.Er x hx
 obtain⟨-, -, -,c3,c4, -, -⟩:=h.cell
 have IST:=Hh (hE.ist w x hb hx)
 obtain⟨N,hN⟩:∃N,jY s.nm.ch x=N:=⟨_,rfl⟩
 rw[hN]at hl⊢
 clear hN hq h hb hx
 obtain⟨sp,hsp⟩:∃sp,E.sp=sp:=⟨_,rfl⟩
 rw[hsp]at c3 IST
 rcases N with _|⟨_|_⟩
 ·simp only[mE]at hl
  go_enter Tryz.func74,Tryz.ntmps74
  go_wp2_with fail
  refine IST.out.mono ?_;rintro e w1 ⟨rfl,hb1⟩;have HB:=Hh hb1;clear hb1
  go_wp2_with fail
  refine abw (v:= .bool (E.base x)) (by simp[results,Tryz.results74,go_sem]) rfl ⟨rfl,HB.out⟩
 ·simp only[mE]at hl
  go_enter Tryz.func74,Tryz.ntmps74
  go_wp2_with fail
  refine abw (v:= .bool false) (by simp[results,Tryz.results74,go_sem]) rfl ⟨rfl,Below.refl _ _⟩
 ·simp only[mE]at hl
  go_enter Tryz.func74,Tryz.ntmps74
  go_wp2_with fail
  refine abw (v:= .bool true) (by simp[results,Tryz.results74,go_sem]) rfl ⟨rfl,Below.refl _ _⟩
variable {l t : Bs}
theorem gp (h:t=l):((au t).toList==l)=true:=by
 subst h
 rw[aaZ,ByteArray.toList_eq]
 exact nG t
theorem lX (h:¬t=l):((au t).toList==l)=false:=by
 rw[aat,ByteArray.toList_eq]
 intro e
 exact h ((nG t).symm.trans e)
theorem mJ(t l:Bs):((au t).toList==l)=(t==l):=by
 by_cases h:t=l
 ·rw[gp h,aaZ.2 h]
 ·rw[lX h,aat.2 h]
theorem dw {b:Bool}(h:((au t).toList==l)=b):(t=l)=(b=true):=by rw[←h,mJ,aaZ]
def spB(b0 b1 b2 b3 b4 b5 b6 b7 b8 b9 b10 b11 b12 b13 b14 b15 b16 b17 b18 b19 b20 b21 b22 b23 b24 b25 b26:Bool):Nat:=if b0=true∨b1=true∨b2=true∨b3=true∨b4=true∨b5=true∨b6=true∨b7=true then 1 else if b8=true then 2 else if b9=true∨b10=true∨b11=true then 3 else if b12=true then 4 else if b13=true∨b14=true∨b15=true∨b16=true∨b17=true∨b18=true∨b19=true∨b20=true∨b21=true∨b22=true∨b23=true then 5 else if b24=true∨b25=true then 6 else if b26=true then 7 else 0
theorem oF(t:Bs)(w:World):Calls Tryz.prog 75 #[.string (au t)] w fun e w'=>e= .returned (.int .i64 (spec t))∧w'=w:=by
 obtain⟨b0,h0⟩:∃b,((au t).toList==[116,121,112,101,100,101,102])=b:=⟨_,rfl⟩
 obtain⟨b1,h1⟩:∃b,((au t).toList==[101,120,116,101,114,110])=b:=⟨_,rfl⟩
 obtain⟨b2,h2⟩:∃b,((au t).toList==[115,116,97,116,105,99])=b:=⟨_,rfl⟩
 obtain⟨b3,h3⟩:∃b,((au t).toList==[95,84,104,114,101,97,100,95,108,111,99,97,108])=b:=⟨_,rfl⟩
 obtain⟨b4,h4⟩:∃b,((au t).toList==[97,117,116,111])=b:=⟨_,rfl⟩
 obtain⟨b5,h5⟩:∃b,((au t).toList==[114,101,103,105,115,116,101,114])=b:=⟨_,rfl⟩
 obtain⟨b6,h6⟩:∃b,((au t).toList==[105,110,108,105,110,101])=b:=⟨_,rfl⟩
 obtain⟨b7,h7⟩:∃b,((au t).toList==[95,78,111,114,101,116,117,114,110])=b:=⟨_,rfl⟩
 obtain⟨b8,h8⟩:∃b,((au t).toList==[95,65,108,105,103,110,97,115])=b:=⟨_,rfl⟩
 obtain⟨b9,h9⟩:∃b,((au t).toList==[99,111,110,115,116])=b:=⟨_,rfl⟩
 obtain⟨b10,h10⟩:∃b,((au t).toList==[114,101,115,116,114,105,99,116])=b:=⟨_,rfl⟩
 obtain⟨b11,h11⟩:∃b,((au t).toList==[118,111,108,97,116,105,108,101])=b:=⟨_,rfl⟩
 obtain⟨b12,h12⟩:∃b,((au t).toList==[95,65,116,111,109,105,99])=b:=⟨_,rfl⟩
 obtain⟨b13,h13⟩:∃b,((au t).toList==[118,111,105,100])=b:=⟨_,rfl⟩
 obtain⟨b14,AZ⟩:∃b,((au t).toList==[99,104,97,114])=b:=⟨_,rfl⟩
 obtain⟨b15,h15⟩:∃b,((au t).toList==[115,104,111,114,116])=b:=⟨_,rfl⟩
 obtain⟨b16,h16⟩:∃b,((au t).toList==[105,110,116])=b:=⟨_,rfl⟩
 obtain⟨b17,h17⟩:∃b,((au t).toList==[108,111,110,103])=b:=⟨_,rfl⟩
 obtain⟨b18,h18⟩:∃b,((au t).toList==[102,108,111,97,116])=b:=⟨_,rfl⟩
 obtain⟨b19,h19⟩:∃b,((au t).toList==[100,111,117,98,108,101])=b:=⟨_,rfl⟩
 obtain⟨b20,h20⟩:∃b,((au t).toList==[115,105,103,110,101,100])=b:=⟨_,rfl⟩
 obtain⟨b21,h21⟩:∃b,((au t).toList==[117,110,115,105,103,110,101,100])=b:=⟨_,rfl⟩
 obtain⟨b22,h22⟩:∃b,((au t).toList==[95,66,111,111,108])=b:=⟨_,rfl⟩
 obtain⟨b23,h23⟩:∃b,((au t).toList==[95,67,111,109,112,108,101,120])=b:=⟨_,rfl⟩
 obtain⟨b24,h24⟩:∃b,((au t).toList==[115,116,114,117,99,116])=b:=⟨_,rfl⟩
 obtain⟨b25,h25⟩:∃b,((au t).toList==[117,110,105,111,110])=b:=⟨_,rfl⟩
 obtain⟨b26,h26⟩:∃b,((au t).toList==[101,110,117,109])=b:=⟨_,rfl⟩
 have hk:spec t=spB b0 b1 b2 b3 b4 b5 b6 b7 b8 b9 b10 b11 b12 b13 b14 b15 b16 b17 b18 b19 b20 b21 b22 b23 b24 b25 b26:=by
  unfold spec spB;simp only[abf,abZ,acz,dw h0,dw h1,dw h2,dw h3,dw h4,dw h5,dw h6,dw h7,dw h8,dw h9,dw h10,dw h11,dw h12,dw h13,dw AZ,dw h15,dw h16,dw h17,dw h18,dw h19,dw h20,dw h21,dw h22,dw h23,dw h24,dw h25,dw h26]
 obtain⟨st,hst⟩:∃st:ByteArray,au t=st:=⟨_,rfl⟩
 rw[hk,hst]
 simp only[hst]at h0 h1 h2 h3 h4 h5 h6 h7 h8 h9 h10 h11 h12 h13 AZ h15 h16 h17 h18 h19 h20 h21 h22 h23 h24 h25 h26
 clear hk hst
 cases b0;cases b1;cases b2;cases b3;cases b4;cases b5;cases b6;cases b7;cases b8;cases b9;cases b10;cases b11;cases b12;cases b13;cases b14;cases b15;cases b16;cases b17;cases b18;cases b19;cases b20;cases b21;cases b22;cases b23;cases b24;cases b25;cases b26
 all_goals
  go_enter Tryz.func75,Tryz.ntmps75
  go_wp2_with fail
  go_ret;exact⟨by simp[spB],rfl⟩
theorem Gh (hE:E.ok)(s:Ps)(k:Nat):(az E.L s k).t.length≤maxLen:=by
 unfold az
 rw[abN]
 cases h:E.L[s.af+k]? with
 |none=>exact Ω _
 |some t=>exact hE.bM t (agG h)
theorem fO.pure{E:En}{α:Type}{val:α→Value}{w w':World}{v:α}{s:Ps}(hE:E.ok)(h:PW E w s)(hb:Below w.heap.size w w'):fO E val w (.ok v s) (.returned (val v)) w':=fO.mk rfl hE h hb
theorem K6 (hE:E.ok)(k:Nat)(s:Ps)(w:World)(hk:k≤10)(h:PW E w s):Calls Tryz.prog 123 #[.pointer (some ⟨E.pb,0,none⟩), .int .i64 k] w (fO E .bool w (afi E.L E.base k s)):=by
 obtain⟨T,hT⟩:∃T,az E.L s k=T:=⟨_,rfl⟩
 have pk:=qg hE k s w hk h
 have hx:=Gh hE s k
 have hr:afi E.L E.base k s= .ok (if T.c=1 then decide (spec T.t≠0)else if T.c=2 then s.nm.l8 E.base T.t else false) s:=by show Rs.ok (jD E.L E.base s k) s=_;unfold jD;rw[hT]
 rw[hr]
 rw[hT]at pk hx
 unfold AX at pk
 have PK:=Hh pk
 have H:=Hh h
 clear pk h hr hT
 by_cases h1:T.c=1
 ·rw[ω h1]
  have hq:∀z:Bool,(((spec T.t:Int)!=0)=z)→decide (spec T.t≠0)=z:=fun z hz=>by
   rw[←hz];by_cases e:spec T.t=0
   ·rw[e];rfl
   ·rw[aa4 e];symm;rw[acm];omega
  go_enter Tryz.func123,Tryz.ntmps123
  go_wp2_with fail
  refine PK.out.mono ?_;rintro e w1 ⟨rfl,hb1⟩;have HB:=Hh hb1;clear hb1
  go_wp2_with fail
  refine(oF T.t _).mono ?_;rintro e w2 ⟨rfl,rfl⟩
  go_wp2_with fail
  refine abw (v:= .bool ((spec T.t:Int)!=0)) (by simp[results,Tryz.results123,go_sem]) rfl ?_;rw[hq _ rfl];exact fO.pure hE H.out (HB.out.trans ((ag _ _).mono HB.out.size))
 ·rw[χ h1]
  have h1':((T.c:Int)==1)=false:=by rw[aat];omega
  by_cases h2:T.c=2
  ·rw[ω h2]
   go_enter Tryz.func123,Tryz.ntmps123
   go_wp2_with fail
   refine PK.out.mono ?_;rintro e w1 ⟨rfl,hb1⟩;have HB:=Hh hb1;clear hb1
   go_wp2_with fail
   obtain⟨W2,hW2⟩:∃W2,W2=w1.alloc (.cells #[.int .i64 2, .string (au T.t)] 54):=⟨_,rfl⟩
   have hb2:Below w.heap.size w W2:=by rw[hW2];exact HB.out.trans ((ag _ _).mono HB.out.size)
   have hr2:W2.heap[w1.heap.size]? =some (.cells #[.int .i64 2, .string (au T.t)] 54 (0,0)):=by rw[hW2];exact dz _ _ _
   rw[←hW2];clear hW2;have hp2:=H.out.ext hE hb2;obtain⟨m,hm⟩:∃m,w1.heap.size=m:=⟨_,rfl⟩;rw[hm]at hr2⊢
   have g1:∀u:df W2,u.w.cell? ⟨m,1,none⟩=some (.string (au T.t)):=fun u=>u.cell (by simp[World.cell?,hr2])
   have IS:=Hh (fun u:df W2=>Io hE T.t s u.w hx (hp2.ext hE u.below));have HB2:=Hh hb2;clear hb2 hr2 hp2 hm;refine wp_region_quiet (C:=fun w'=>∃u:df W2,w'=u.w) (by kernel_rfl) (by kernel_rfl) (df.drew W2) ?_;dsimp only[]
   repeat(go_big_quiet_step ((go_at_call 74;rename_i u;refine(IS.out u).mono ?_;rintro e w2 ⟨rfl,b2⟩;exact⟨rfl,u.on b2⟩)))
   refine abO ?_;rintro w' ⟨u,rfl⟩
   go_wp2_with fail
   refine abw (v:= .bool (s.nm.l8 E.base T.t)) (by simp[results,Tryz.results123,go_sem]) rfl ?_;exact fO.pure hE H.out (HB2.out.trans (u.below.mono HB2.out.size))
  ·rw[χ h2]
   have h2':((T.c:Int)==2)=false:=by rw[aat];omega
   go_enter Tryz.func123,Tryz.ntmps123
   go_wp2_with fail
   refine PK.out.mono ?_;rintro e w1 ⟨rfl,hb1⟩;have HB:=Hh hb1;clear hb1
   go_wp2_with fail
   refine abw (v:= .bool false) (by simp[results,Tryz.results123,go_sem]) rfl ?_;exact fO.pure hE H.out (HB.out.trans ((ag _ _).mono HB.out.size))
theorem SS (hE:E.ok)(k:Nat)(s:Ps)(w:World)(hk:k≤10)(h:PW E w s):Calls Tryz.prog 118 #[.pointer (some ⟨E.pb,0,none⟩), .int .i64 k] w (fO E .bool w (wI E.L E.base k s)):=by
 obtain⟨T,hT⟩:∃T,az E.L s k=T:=⟨_,rfl⟩
 have pk:=qg hE k s w hk h
 have hr:wI E.L E.base k s= .ok (if T.c=1∧(spec T.t=1∨spec T.t=2)then false else jD E.L E.base s k) s:=by show Rs.ok (nO E.L E.base s k) s=_;unfold nO;rw[hT]
 rw[hr]
 rw[hT]at pk
 unfold AX at pk
 obtain⟨B,hB⟩:∃B,jD E.L E.base s k=B:=⟨_,rfl⟩
 have BS:=Hh (fun(W:World) (hW:PW E W s)=>(hB▸K6 hE k s W hk hW:Calls Tryz.prog 123 #[.pointer (some ⟨E.pb,0,none⟩), .int .i64 k] W (fO E .bool W (.ok B s))))
 rw[hB]
 have PK:=Hh pk
 have H:=Hh h
 clear pk h hr hT hB
 by_cases h1:T.c=1
 ·obtain⟨q,hq⟩:∃q,spec T.t=q:=⟨_,rfl⟩
  have SP:=Hh (fun W:World=>(hq▸oF T.t W:Calls Tryz.prog 75 #[.string (au T.t)] W fun e w'=>e= .returned (.int .i64 q)∧w'=W));rw[hq];clear hq
  have hc:(q=1∧(if T.c=1∧(q=1∨q=2)then false else B)=false)∨(((q:Int)==1)=false∧q=2∧(if T.c=1∧(q=1∨q=2)then false else B)=false)∨(((q:Int)==1)=false∧((q:Int)==2)=false∧(if T.c=1∧(q=1∨q=2)then false else B)=B):=by
   by_cases e1:q=1
   ·exact .inl ⟨e1,by rw[ω ⟨h1, .inl e1⟩]⟩
   ·by_cases e2:q=2
    ·exact .inr (.inl ⟨by rw[aat];omega,e2,by rw[ω ⟨h1, .inr e2⟩]⟩)
    ·exact .inr (.inr ⟨by rw[aat];omega,by rw[aat];omega,by rw[χ (fun x=>x.2.elim e1 e2)]⟩)
  rcases hc with⟨e1,hz⟩|⟨e1,e2,hz⟩|⟨e1,e2,hz⟩
  ·rw[hz]
   clear hz
   go_enter Tryz.func118,Tryz.ntmps118
   go_wp2_with fail
   refine PK.out.mono ?_;rintro e w1 ⟨rfl,hb1⟩;have HB:=Hh hb1;clear hb1
   go_wp2_with fail
   refine(SP.out _).mono ?_;rintro e w2 ⟨rfl,rfl⟩
   go_wp2_with fail
   refine abw (v:= .bool false) (by simp[results,Tryz.results118,go_sem]) rfl ?_;exact fO.pure hE H.out (HB.out.trans ((ag _ _).mono HB.out.size))
  ·rw[hz]
   clear hz
   go_enter Tryz.func118,Tryz.ntmps118
   go_wp2_with fail
   refine PK.out.mono ?_;rintro e w1 ⟨rfl,hb1⟩;have HB:=Hh hb1;clear hb1
   go_wp2_with fail
   refine(SP.out _).mono ?_;rintro e w2 ⟨rfl,rfl⟩
   go_wp2_with fail
   refine abw (v:= .bool false) (by simp[results,Tryz.results118,go_sem]) rfl ?_;exact fO.pure hE H.out (HB.out.trans ((ag _ _).mono HB.out.size))
  ·rw[hz]
   clear hz
   go_enter Tryz.func118,Tryz.ntmps118
   go_wp2_with fail
   refine PK.out.mono ?_;rintro e w1 ⟨rfl,hb1⟩;have HB:=Hh hb1;clear hb1
   go_wp2_with fail
   refine(SP.out _).mono ?_;rintro e w2 ⟨rfl,rfl⟩
   go_wp2_with fail
   have hb2:=HB.out.trans ((ag w1 (.cells #[.int .i64 1, .string (au T.t)] 54)).mono HB.out.size);refine(BS.out _ (H.out.ext hE hb2)).mono ?_;rintro e w3 ⟨rfl,hp3,hk3⟩;have sW:=Hh hp3;have ji:=Hh hk3;have HB2:=Hh hb2;clear hp3 hk3 hb2
   go_wp2_with fail
   refine abw (v:= .bool B) (by simp[results,Tryz.results118,go_sem]) rfl ?_;exact⟨rfl,sW.out,(KP.aT HB2.out).trans ji.out⟩
 ·rw[χ (fun x=>h1 x.1)]
  have h1':((T.c:Int)==1)=false:=by rw[aat];omega
  go_enter Tryz.func118,Tryz.ntmps118
  go_wp2_with fail
  refine PK.out.mono ?_;rintro e w1 ⟨rfl,hb1⟩;have HB:=Hh hb1;clear hb1
  go_wp2_with fail
  have hb2:=HB.out.trans ((ag w1 (.cells #[.int .i64 T.c, .string (au T.t)] 54)).mono HB.out.size);refine(BS.out _ (H.out.ext hE hb2)).mono ?_;rintro e w3 ⟨rfl,hp3,hk3⟩;have sW:=Hh hp3;have ji:=Hh hk3;have HB2:=Hh hb2;clear hp3 hk3 hb2
  go_wp2_with fail
  refine abw (v:= .bool B) (by simp[results,Tryz.results118,go_sem]) rfl ?_;exact⟨rfl,sW.out,(KP.aT HB2.out).trans ji.out⟩
theorem SV (hE:E.ok)(s:Ps)(w:World)(h:PW E w s):Calls Tryz.prog 179 #[.pointer (some ⟨E.pb,0,none⟩)] w (fO E .bool w (kP E.L E.base s)):=by
 have sg:=uO hE 0 [40] s w η h
 have hr:kP E.L E.base s= .ok (aX E.L s 0 [40]&&nO E.L E.base s 1) s:=rfl
 rw[hr]
 rw[show eu E.L 0 [40] s= .ok (aX E.L s 0 [40]) s from rfl]at sg
 obtain⟨A,hA⟩:∃A,aX E.L s 0 [40]=A:=⟨_,rfl⟩
 obtain⟨B,hB⟩:∃B,nO E.L E.base s 1=B:=⟨_,rfl⟩
 rw[hA]at sg⊢
 rw[hB]
 have SG:=Hh sg
 have BL:=Hh (fun(W:World) (hW:PW E W s)=>(hB▸SS hE 1 s W η hW:Calls Tryz.prog 118 #[.pointer (some ⟨E.pb,0,none⟩), .int .i64 1] W (fO E .bool W (.ok B s))))
 clear sg h hr hA hB
 cases A
 ·go_enter Tryz.func179,Tryz.ntmps179
  go_wp2_with fail
  refine SG.out.mono ?_;rintro e w1 ⟨rfl,hp,hk⟩;have HP:=Hh hp;have HK:=Hh hk;clear hp hk
  go_wp2_with fail
  refine abw (v:= .bool false) (by simp[results,Tryz.results179,go_sem]) rfl ?_;exact⟨rfl,HP.out,HK.out⟩
 ·go_enter Tryz.func179,Tryz.ntmps179
  go_wp2_with fail
  refine SG.out.mono ?_;rintro e w1 ⟨rfl,hp,hk⟩;have HP:=Hh hp;have HK:=Hh hk;clear hp hk
  go_wp2_with fail
  refine(BL.out _ HP.out).mono ?_;rintro e w2 ⟨rfl,hp2,hk2⟩;have nJ:=Hh hp2;have eQ:=Hh hk2;clear hp2 hk2
  go_wp2_with fail
  refine abw (v:= .bool B) (by simp[results,Tryz.results179,go_sem]) rfl ?_;exact⟨by simp,nJ.out,HK.out.trans eQ.out⟩
end Go.Proofs.YtlboejdhmggjpaaGreat.Pp
