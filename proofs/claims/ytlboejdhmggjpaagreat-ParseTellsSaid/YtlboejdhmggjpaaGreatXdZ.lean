import Derived.Test.YtlboejdhmggjpaaGreatXdY
set_option linter.all false
namespace Go.Proofs.YtlboejdhmggjpaaGreat.Pp.Dr
set_option maxRecDepth 100000
set_option maxHeartbeats 8000000
open Go.RowKit Go.BigFrame Go.Proofs.YtlboejdhmggjpaaGreat
theorem VX(L:List Ct)(hL:L.length≤90):(zw L (fun _=>false)=none∧∃N,Jo L N {af:=0,env:=[[]]} [])∨∃P N t,zw L (fun _=>false)=some P∧Jo L N {af:=0,env:=[[]]} [t]∧P=lY t∧P.length≤4*L.length+1:=by
 have hr:Rl L [] [] s0 {af:=0,env:=[[]]}:=⟨rfl,Ω _,rfl,rfl,trivial⟩
 have he:Eb L 1 {af:=0,env:=[[]]}:=⟨Ω _,(fun h=>(by cases h)),υ 1,fun d hd=>by rw[Φ.1 hd];exact Ω _,Ω _,trivial⟩
 have h:=Qo (base:=fun _=>false) (B:=[]) hL (fun x=>rfl) (fu L) s0 _ hr he
 obtain⟨h1,h2⟩:=OW L fun _=>false
 unfold zw
 cases e:run L (fun _=>false) (fu L) .unit s0 with
 |out=>exact absurd e h1
 |no=>rw[e]at h;exact .inl ⟨rfl,h⟩
 |ok v s=>
  rw[e]at h;obtain⟨N,t,h3,h4⟩:=h;refine .inr ⟨_,N,t,rfl,h3,?_,by rw[(h2 v s e).1.oq.2.2.2.1];exact(h2 v s e).1.len⟩;have:=adB (ag8 (h2 v s e).1) [t] h4;rw[this,iI,iI,List.append_nil]
theorem Dq:∀(l:List Ct) (o m:Nat),o≤256→m≤256→256<xA l o m→mg l o=true
 |[],o,m,_,hm,h=>absurd (show 256<m from h) η
 |t::r,o,m,ho,hm,h=>by
  unfold xA at h;unfold mg
  split at h
  ·rename_i c;rw[ω c];exact Dq r o m ho hm h
  ·rename_i c
   rw[χ c]
   split at h
   ·rename_i c2
    rw[ω c2];by_cases h9:256<o+1
    ·rw[ω h9]
    ·rw[χ h9]
     exact Dq r _ _ η (Nat.max_le.2 ⟨hm,by omega⟩) h
   ·rename_i c2
    rw[χ c2]
    split at h
    ·rename_i c3;rw[ω c3];exact Dq r _ _ η (Nat.max_le.2 ⟨hm,by omega⟩) h
    ·rename_i c3;rw[χ c3];exact Dq r _ _ ho (Nat.max_le.2 ⟨hm,ho⟩) h
theorem Rw.row{S:Nat→Prop}{w:World}{la:Option Addr}{k lc:Nat}{L:List Ct}(h:Rw S 2 w (.slice la k lc) (L.map sV)):oV 2 sV w la L:=by
 obtain⟨a,c,e,k1,k2, -⟩:=h
 obtain rfl:=(Value.slice.inj e).1
 rcases k2 with k2|⟨b,off,rfl, -,hl,hc⟩
 ·exact .inl (List.map_eq_nil_iff.1 k2)
 ·refine .inr ⟨b,off,rfl,hl,fun i hi=>?_⟩
  have:=hc i (by rw[abz];exact hi);rw[agk]at this;exact this
theorem acT(L:List Ct)(la la2:Option Addr)(lc lc2:Nat)(w:World)(h1:oV 2 sV w la L)(h2:oV 2 sV w la2 L)(hl:L.length≤100000):Calls Tryz.prog 11 #[.slice la L.length lc, .slice la2 L.length lc2] w fun e w'=>e= .returned (.bool true)∧Below w.heap.size w w':=by
 have NE:=anr
 obtain⟨N,hN⟩:∃N,L.length=N:=⟨_,rfl⟩
 have H1:=π h1
 have H2:=π h2
 have HN:=π hN
 rw[hN]at hl⊢
 clear h1 h2 hN
 go_enter Tryz.func11,Tryz.ntmps11
 go_wp2_with fail
 go_loopw [5] (fun s5 wr=>∃i:Nat,s5= .int .i64 i∧i≤N∧Below w.heap.size w wr) (fun s5 _=>N - (intOf s5).toNat)
 case atStart=>exact⟨0,rfl,Ω _,Below.refl _ _⟩
 case round=>
  obtain⟨i,rfl,hi,hb⟩:=hrel;have HB:=π hb;by_cases hlt:i<N
  ·have hlt2:decide (i<N)=true:=aa4 hlt
   have zM:i<L.length:=by rw[HN.out];exact hlt
   obtain⟨b1,o1,rfl,hl1,hc1⟩:=H1.out.at (by rintro rfl;simp at zM);obtain⟨b2,o2,rfl,hl2,hc2⟩:=H2.out.at (by rintro rfl;simp at zM);obtain⟨t,ht⟩:∃t,L[i]=t:=⟨_,rfl⟩;have q1:=(hc1 i zM).below hb hl1;have q2:=(hc2 i zM).below hb hl2;rw[ht]at q1 q2;have a0:wr.cell? ⟨b1,o1+i*2,none⟩=some (.int .i64 t.c):=q1 0 _ rfl;have a1:wr.cell? ⟨b1,o1+i*2+1,none⟩=some (.string (au t.t)):=q1 1 _ rfl;have b0:wr.cell? ⟨b2,o2+i*2,none⟩=some (.int .i64 t.c):=q2 0 _ rfl;have b1:wr.cell? ⟨b2,o2+i*2+1,none⟩=some (.string (au t.t)):=q2 1 _ rfl;clear q1 q2 hc1 hc2 ht hb
   go_wp2_with fail
   go_quiet (fail)
   go_wp2_with fail
   go_roundw
   case rel=>exact⟨i+1,by go_num,by omega,HB.out.trans (gz _ _ _)⟩
   case measure=>simp[intOf];omega
  ·have hlt2:decide (i<N)=false:=aa5 hlt
   clear hb
   go_wp2_with fail
   go_ret;exact⟨rfl,HB.out⟩
end Go.Proofs.YtlboejdhmggjpaaGreat.Pp.Dr
