/- ParseParts: the law. -/
import Derived.Test.YtlboejdhmggjpaaGreatWqB
import Derived.Test.YtlboejdhmggjpaaGreatPdE
import Derived.Test.YtlboejdhmggjpaaGreatWtE
set_option linter.all false
namespace Go.Proofs.YtlboejdhmggjpaaGreat.Pp
open Go.RowKit Go.BigFrame Go.Proofs.YtlboejdhmggjpaaGreat
set_option linter.unusedVariables false

/-- The law's loop: d tokens are behind it; C was declared, q are the nodes; out lies in v. -/
structure PtI (L : List Ct) (n A g : Nat) (W : World) (d : Nat) (v : Value) (w : World) (C : List (Bs × Bool)) (q : List Nd) (f : Nat) (S : Nat → Prop) : Prop where
  hd : d ≤ n
  hf : n + 1 ≤ f + d
  he : partsE L (fu L) 0 [] = (partsE L f d C).map (q ++ ·)
  hc : C.length ≤ 2 * d
  hq : q.length ≤ 4 * d
  sc : Sp.Sco w A C.length S (declF [[]] C)
  hs : ∀ k, S k → g ≤ k ∧ ¬ n38 w k
  hb : Below g W w
  hr : w.ownsRow g 38 4 v (q.length + 1) (((⟨1, 0, n, 0⟩ : Nd) :: q).flatMap ndC)
theorem declF_app (F : List Sp.Frm) (C D : List (Bs × Bool)) : declF (declF F C) D = declF F (C ++ D) := by unfold declF; rw [List.foldl_append]
theorem parts_start {L : List Ct} {n A g : Nat} {w3 w4 : World} {S S' : Nat → Prop} (hn : L.length = n) (hb4 : Below g w3 w4) (hb : Below w4.heap.size w4 (w4.alloc (.cells #[.int .i64 1, .int .i64 0, .int .i64 n, .int .i64 0] 38)))
    (f1 : Sp.Sco (w4.alloc (.cells #[.int .i64 1, .int .i64 0, .int .i64 n, .int .i64 0] 38)) A 0 S' [[]]) (f2 : ∀ k, S' k → S k) (f3 : ∀ k, S' k → ¬ n38 (w4.alloc (.cells #[.int .i64 1, .int .i64 0, .int .i64 n, .int .i64 0] 38)) k) (hS : ∀ k, S k → g ≤ k) (hg : g ≤ w4.heap.size) :
    PtI L n A g w3 0 (.slice (some ⟨w4.heap.size, 0, none⟩) 1 1) (w4.alloc (.cells #[.int .i64 1, .int .i64 0, .int .i64 n, .int .i64 0] 38)) [] [] (fu L) S' where
  hd := Nat.zero_le _
  hf := by unfold fu; omega
  he := by cases partsE L (fu L) 0 [] <;> rfl
  hc := Nat.zero_le _
  hq := Nat.zero_le _
  sc := f1
  hs k hk := ⟨hS k (f2 k hk), f3 k hk⟩
  hb := hb4.trans (hb.mono hg)
  hr := ⟨rfl, .inr ⟨w4.heap.size, 1, _, rfl, hg, new_cells _ _ _, Nat.le_refl _, by decide, rfl, rfl⟩⟩
theorem parts_ext {L : List Ct} {n A g gb off d f : Nat} {w w3 wr : World} {v : Value} {C : List (Bs × Bool)} {q : List Nd} {S : Nat → Prop} (hn : L.length = n) (hrow : RowAt 2 ctC w (some ⟨gb, off, none⟩) L) (htx : ∀ t ∈ L, t.t.length ≤ maxLen) (h3 : n ≤ 3000) (I : PtI L n A g w3 d v wr C q f S) (hb : Below w.heap.size w wr) (lc : Nat) :
    Calls Tryz.prog 19 #[.slice (some ⟨gb, off + d * 2, none⟩) (n - d) (lc - d), .pointer (some ⟨A, 0, none⟩)] wr (ExtPost (L.drop d) A C.length S (declF [[]] C) wr) := by
  have hd := I.hd
  have hc := I.hc
  obtain ⟨q1, q2⟩ := declF_ok C [[]] 0 (by simp) (fun f hf => by rw [List.mem_singleton.1 hf]; exact Nat.le_refl _)
  have h := wk_External (L.drop d) (some ⟨gb, off + d * 2, none⟩) (lc - d) A C.length S (declF [[]] C) wr (row_drop (hrow.below hb (Nat.le_refl _) hb.size) d) (by rw [List.length_drop]; omega) (fun t ht => htx t (List.mem_of_mem_drop ht)) I.sc (by rw [q1]; decide) (fun f hf => by have := q2 f hf; omega) (by omega)
  rw [List.length_drop, hn] at h
  exact h
theorem parts_none {L : List Ct} {n A g d f : Nat} {w3 wr : World} {v : Value} {C : List (Bs × Bool)} {q : List Nd} {S : Nat → Prop} (hn : L.length = n) (hlt : d < n) (I : PtI L n A g w3 d v wr C q f S) (h : extP (L.drop d) (baseF (declF [[]] C)) = none) : parseP L (fun _ => false) = none := by
  have hf := I.hf
  obtain ⟨f', rfl⟩ : ∃ f', f = f' + 1 := ⟨f - 1, by omega⟩
  rw [parse_partsE, I.he]
  unfold partsE
  rw [if_pos (by omega), h]
  rfl
theorem parts_done {L : List Ct} {n A g d f : Nat} {w3 wr : World} {v : Value} {C : List (Bs × Bool)} {q : List Nd} {S : Nat → Prop} (hn : L.length = n) (hlt : ¬ d < n) (I : PtI L n A g w3 d v wr C q f S) : parseP L (fun _ => false) = some (⟨1, 0, n, q.length + 1⟩ :: q) := by
  have hf := I.hf
  have hd := I.hd
  obtain ⟨f', rfl⟩ : ∃ f', f = f' + 1 := ⟨f - 1, by omega⟩
  rw [parse_partsE, I.he]
  unfold partsE
  rw [if_neg (by omega), hn]
  simp
theorem mix_cell {w : World} {B g cap d i : Nat} {P : List Nd} (h : w.ownsRow B 38 4 (.slice (some ⟨g, 0, none⟩) P.length cap) P.length ((mixL d P i).flatMap ndC)) (hi : i < P.length) :
    w.cell? ⟨g, i * 4 + 1, none⟩ = some (.int .i64 P[i].lo) ∧ w.cell? ⟨g, i * 4 + 2, none⟩ = some (.int .i64 P[i].hi) := by
  have e := mix_len d P i (by omega)
  rw [← e] at h
  obtain ⟨-, a, b, -⟩ := nd_cell h (i := i) (by omega)
  rw [mix_at d P i hi] at a b
  exact ⟨a, b⟩
theorem row_fr {w : World} {base e size n g cap : Nat} {xs : List Value} (h : w.ownsRow base e size (.slice (some ⟨g, 0, none⟩) n cap) n xs) (i : Nat) : w.frozen? ⟨g, i, none⟩ = false := by
  obtain ⟨-, cur, hg⟩ := row_cells h (k := g) rfl
  exact Lib.frozen_of_heap hg i
theorem mix_next {w w5 : World} {B g cap d i PL lo hj : Nat} {P : List Nd} (hi : i < P.length) (hP : P.length = PL) (hlo : P[i].lo = lo) (hhj : P[i].hi = hj) (hm : Mod (fun k => k = g) w5 w) (h : w.ownsRow B 38 4 (.slice (some ⟨g, 0, none⟩) PL cap) PL ((mixL d P i).flatMap ndC)) :
    Mod (fun k => k = g) w5 ((w.setCell ⟨g, i * 4 + 1, none⟩ (.int .i64 ((lo : Int) + (d : Int)))).setCell ⟨g, i * 4 + 2, none⟩ (.int .i64 ((hj : Int) + (d : Int)))) ∧
    ((w.setCell ⟨g, i * 4 + 1, none⟩ (.int .i64 ((lo : Int) + (d : Int)))).setCell ⟨g, i * 4 + 2, none⟩ (.int .i64 ((hj : Int) + (d : Int)))).ownsRow B 38 4 (.slice (some ⟨g, 0, none⟩) PL cap) PL ((mixL d P (i + 1)).flatMap ndC) := by
  subst hP hlo hhj
  refine ⟨(hm.setCell _ (.inr rfl) _).setCell _ (.inr rfl) _, ?_⟩
  have q := mix_step hi h
  simpa only [Int.natCast_add] using q
theorem mod_grown {w w' : World} {g : Nat} (h : w.grownBy w' (some g)) : Mod (fun k => k = g) w w' := ⟨h.os, h.tape, h.output, h.size, fun k hk hs => h.block k hk (fun e => hs (Option.some.inj e))⟩
theorem parts_next {L : List Ct} {n A g d f k m go co gp cp : Nat} {w3 wo w5 wi : World} {C ds : List (Bs × Bool)} {q P : List Nd} {S : Nat → Prop} (hn : L.length = n) (hlt : d < n) (I : PtI L n A g w3 d (.slice (some ⟨go, 0, none⟩) m co) wo C q f S) (hmq : q.length + 1 = m)
    (h1 : extP (L.drop d) (baseF (declF [[]] C)) = some (P, k, ds)) (hlv : Sp.Leaves A (C.length + ds.length) S (declF (declF [[]] C) ds) wo w5) (hb : w5.ownsRow wo.heap.size 38 4 (.slice (some ⟨gp, 0, none⟩) P.length cp) P.length (P.flatMap ndC))
    (hm : Mod (fun k => k = gp) w5 wi) : (wi.ownsRow g 38 4 (.slice (some ⟨go, 0, none⟩) m co) m (((⟨1, 0, n, 0⟩ : Nd) :: q).flatMap ndC) ∧ g ≤ wi.heap.size) ∧ ∀ w6 v', wi.grownBy w6 (some go) → w6.ownsRow g 38 4 v' (m + P.length) ((((⟨1, 0, n, 0⟩ : Nd) :: q).flatMap ndC) ++ (P.map (shN d)).flatMap ndC) →
    ∃ C' q' f' S', PtI L n A g w3 (d + k) v' w6 C' q' f' S' := by
  subst hmq
  obtain ⟨k1, k2, k3, k4, k5, -⟩ := ext_facts h1
  rw [List.length_drop, hn] at k2
  obtain ⟨S', s1, s2, s3⟩ := hlv
  obtain ⟨S2, t1, t2, t3⟩ := Sco.free s1
  obtain ⟨go1, cur, hgo⟩ := row_cells I.hr (k := go) rfl
  obtain ⟨gp1, cup, hgp⟩ := row_cells hb (k := gp) rfl
  have go2 := (Array.getElem?_eq_some_iff.1 hgo).1
  have goS : ¬ S go := fun h => (I.hs go h).2 ⟨_, _, hgo⟩
  have hgo5 := s3.keep hgo goS
  have n1 : ∀ k, S2 k → ¬ k = gp := fun k hk e => t3 k hk (e ▸ ⟨_, _, hgp⟩)
  have n2 : ∀ k, S2 k → ¬ k = go := fun k hk e => t3 k hk (e ▸ ⟨_, _, hgo5⟩)
  have hne : ¬ go = gp := by omega
  have r5 := Sp.ownsRow_mod I.hr s3 (fun k hk => by simp [Value.ownBlock] at hk; subst hk; exact goS)
  have ri := Sp.ownsRow_mod r5 hm (fun k hk => by simp [Value.ownBlock] at hk; subst hk; exact hne)
  have hgi : g ≤ wi.heap.size := by have a := s3.size; have b := hm.size; omega
  refine ⟨⟨ri, hgi⟩, fun w6 v' hgr hown => ?_⟩
  have hm6 := mod_grown hgr
  have hf := I.hf
  have hc := I.hc
  have hq := I.hq
  obtain ⟨f', rfl⟩ : ∃ f', f = f' + 1 := ⟨f - 1, by omega⟩
  have lt2 : ∀ k, S2 k → k < w5.heap.size := by obtain ⟨M, vB, vs, mv, D, -, -, hl⟩ := t1; exact hl
  have hcl : (C ++ ds).length = C.length + ds.length := List.length_append
  refine ⟨C ++ ds, q ++ P.map (shN d), f', S2, ?_, ?_, ?_, ?_, ?_, ?_, ?_, ?_, ?_⟩
  · omega
  · omega
  · rw [I.he]
    have e : partsE L (f' + 1) d C = (partsE L f' (d + k) (C ++ ds)).map fun r => P.map (shN d) ++ r := by
      conv => lhs; unfold partsE
      rw [if_pos (by omega), h1]
    rw [e, Option.map_map]
    congr 1
    funext r
    simp
  · omega
  · rw [List.length_append, List.length_map]; omega
  · rw [hcl, ← declF_app]
    exact (t1.keep hm n1).keep hm6 n2
  · intro k hk
    refine ⟨?_, ?_⟩
    · rcases s2 k (t2 k hk) with h | h
      · exact (I.hs k h).1
      · omega
    · rintro ⟨cs, fz, h⟩
      rw [hm6.block k (Nat.lt_of_lt_of_le (lt2 k hk) hm.size) (n2 k hk), hm.block k (lt2 k hk) (n1 k hk)] at h
      exact t3 k hk ⟨cs, fz, h⟩
  · have b5 := s3.below (by omega : g ≤ wo.heap.size) (fun k hk => (I.hs k hk).1)
    have bi := hm.below (by have := s3.size; omega : g ≤ w5.heap.size) (fun k hk => by subst hk; omega)
    have b6 := hm6.below hgi (fun k hk => by subst hk; exact go1)
    exact ((I.hb.trans b5).trans bi).trans b6
  · rw [show (q ++ P.map (shN d)).length + 1 = q.length + 1 + P.length by rw [List.length_append, List.length_map]; omega, show ((⟨1, 0, n, 0⟩ : Nd) :: (q ++ P.map (shN d))).flatMap ndC = ((⟨1, 0, n, 0⟩ : Nd) :: q).flatMap ndC ++ (P.map (shN d)).flatMap ndC by rw [← List.flatMap_append]; rfl]
    exact hown
theorem parts_same {L : List Ct} {n A g d f m go co B : Nat} {w w3 wo : World} {v : Value} {C : List (Bs × Bool)} {q : List Nd} {S : Nat → Prop} (I : PtI L n A g w3 d (.slice (some ⟨go, 0, none⟩) m co) wo C q f S) (hmq : q.length + 1 = m) (hg : w3.heap.size = g) (hb3 : Below w.heap.size w w3)
    (hown : w3.ownsRow B 38 4 v ((⟨1, 0, n, q.length + 1⟩ : Nd) :: q).length (((⟨1, 0, n, q.length + 1⟩ : Nd) :: q).flatMap ndC)) :
    Below w.heap.size w (wo.setCell ⟨go, 3, none⟩ (.int .i64 m)) ∧
    (wo.setCell ⟨go, 3, none⟩ (.int .i64 m)).ownsRow B 38 4 v ((⟨1, 0, n, m⟩ : Nd) :: q).length (((⟨1, 0, n, m⟩ : Nd) :: q).flatMap ndC) ∧
    (wo.setCell ⟨go, 3, none⟩ (.int .i64 m)).ownsRow g 38 4 (.slice (some ⟨go, 0, none⟩) m co) ((⟨1, 0, n, m⟩ : Nd) :: q).length (((⟨1, 0, n, m⟩ : Nd) :: q).flatMap ndC) := by
  subst hmq hg
  obtain ⟨go1, cur, hgo⟩ := row_cells I.hr (k := go) rfl
  have h1 := (Mod.refl (fun k => k = go) wo).setCell ⟨go, 3, none⟩ (.inr rfl) (.int .i64 ((q.length + 1 : Nat) : Int))
  have hb := I.hb.trans (h1.below I.hb.size (fun k hk => by subst hk; exact go1))
  refine ⟨hb3.trans (hb.mono hb3.size), ownsRow_ext hown hb, ?_⟩
  have r := own_cell (.int .i64 ((q.length + 1 : Nat) : Int)) I.hr (j := 3) (by omega)
  rw [nd_set1] at r
  exact r
set_option maxRecDepth 100000 in
set_option maxHeartbeats 16000000 in
theorem law_parts (L : List Ct) (la : Option Addr) (lc : Nat) (w : World) (hm : Ww.Mx w) (hrow : RowAt 2 ctC w la L) (hcap : L.length ≤ lc) (hlc : lc ≤ maxLen) (htx : ∀ t ∈ L, t.t.length ≤ maxLen) (hbig : L.length ≤ 9223372036854775807) :
    Calls Tryz.prog 8 #[.slice la L.length lc] w fun e w' => e = .returned (.bool true) ∧ Below w.heap.size w w' := by
  obtain ⟨n, hn⟩ : ∃ n, L.length = n := ⟨_, rfl⟩
  have HM := Lib.hid hm
  have HROW := Lib.hid hrow
  have HTX := Lib.hid htx
  have HN := Lib.hid hn
  rw [hn] at hbig hcap ⊢
  clear hm hrow htx hn
  obtain ⟨i0, hi, hz0, hz1, hz2⟩ := info_parts3 info38
  have HI := Lib.hid hi
  have HZ0 := Lib.hid hz0
  have HZ1 := Lib.hid hz1
  have HZ2 := Lib.hid hz2
  clear hi hz0 hz1 hz2
  go_enter Tryz.func8, Tryz.ntmps8
  go_wp2_with fail
  refine (wk_alive w HM.out).mono ?_
  rintro e w1 ⟨rfl, hb1⟩
  have HB1 := Lib.hid hb1
  clear hb1
  by_cases h3 : 3000 < n
  · have h3d : decide ((3000 : Int) < n) = true := decide_eq_true (by omega)
    go_wp2_with fail
    go_ret
    exact ⟨rfl, HB1.out⟩
  have h3d : decide ((3000 : Int) < n) = false := decide_eq_false (by omega)
  have DP := Lib.hid (wk_Deep L la lc w1 (HROW.out.below HB1.out (Nat.le_refl _) HB1.out.size) (by rw [HN.out]; omega))
  obtain ⟨dp, hdp⟩ : ∃ k, dpN L 0 0 = k := ⟨_, rfl⟩
  have HDP := Lib.hid hdp
  clear hdp
  go_wp2_with fail
  rw [← HN.out]
  refine DP.out.mono ?_
  rintro e w2 ⟨rfl, hb2⟩
  rw [HN.out, HDP.out]
  clear DP
  have HB2 := Lib.hid (HB1.out.trans (hb2.mono HB1.out.size))
  clear hb2
  by_cases h256 : 256 < dp
  · have h256d : decide ((256 : Int) < dp) = true := decide_eq_true (by omega)
    go_wp2_with fail
    go_ret
    exact ⟨rfl, HB2.out⟩
  have h256d : decide ((256 : Int) < dp) = false := decide_eq_false (by omega)
  have HDEEP := Lib.hid (dpN_deep L 0 0 (by rw [HDP.out]; omega))
  clear HDP
  have PR := Lib.hid (wk_Parse L la lc w2 (HROW.out.below HB2.out (Nat.le_refl _) HB2.out.size) (by rw [HN.out]; omega) HTX.out)
  go_wp2_with fail
  rw [← HN.out]
  refine PR.out.mono ?_
  rintro e w3 ⟨v, z, rfl, hb3, hP⟩
  rw [HN.out]
  clear PR
  have HP := Lib.hid (show (parseP L (fun _ => false) = none ∧ v = nilS ∧ z = 110) ∨ ∃ P, parseP L (fun _ => false) = some P ∧ z = 0 ∧ w3.ownsRow w2.heap.size 38 4 v P.length (P.flatMap ndC) by
    rcases hP with ⟨h, -⟩ | ⟨-, h1, h2, h3⟩ | ⟨P, -, h1, h2, h3⟩
    · rw [HDEEP.out] at h; cases h
    · exact .inl ⟨h1, h2, h3⟩
    · exact .inr ⟨P, h1, h2, h3⟩)
  have HB3 := Lib.hid (HB2.out.trans (hb3.mono HB2.out.size))
  clear hb3 hP
  go_wp2_with fail
  refine (Sp.Ow.new w3 w3 (Below.refl _ _)).mono ?_
  rintro e w4 ⟨A, rfl, S, hsc, hS, hb4⟩
  obtain ⟨g3, hg3⟩ : ∃ g, w3.heap.size = g := ⟨_, rfl⟩
  rw [hg3] at hb4 hS
  have HG3 := Lib.hid hg3
  have HSC := Lib.hid hsc
  have HS := Lib.hid hS
  have HB4 := Lib.hid hb4
  clear hsc hS hb4 hg3
  go_wp2_with fail
  go_loopw [7, 8] (fun s7 s8 wr => ∃ (d : Nat) (C : List (Bs × Bool)) (q : List Nd) (f : Nat) (S : Nat → Prop), s7 = .int .i64 d ∧ PtI L n A g3 w3 d s8 wr C q f S) (fun s7 s8 _ => n - (intOf s7).toNat)
  case atStart =>
    have hbn := below_alloc w4 (.cells #[.int .i64 1, .int .i64 0, .int .i64 n, .int .i64 0] 38)
    obtain ⟨S', f1, f2, f3⟩ := Sco.free (sco_ext HSC.out hbn)
    have hg34 : g3 ≤ w4.heap.size := by rw [← HG3.out]; exact HB4.out.size
    exact ⟨0, [], [], fu L, S', rfl, parts_start HN.out HB4.out hbn f1 f2 f3 HS.out hg34⟩
  case round =>
    obtain ⟨d, C, q, f, S1, rfl, hI⟩ := hrel
    obtain ⟨wo, rfl⟩ : ∃ W, W = wr := ⟨wr, rfl⟩
    obtain ⟨go, co, rfl, -⟩ := row_block hI.hr (Nat.succ_pos _)
    obtain ⟨m, hmq⟩ : ∃ m, q.length + 1 = m := ⟨_, rfl⟩
    rw [hmq] at hI ⊢
    have HMQ := Lib.hid hmq
    have HIv := Lib.hid hI
    clear hI hmq
    by_cases hlt : d < n
    · have hlt2 : decide (d < n) = true := decide_eq_true hlt
      have hi0 : d < L.length := by rw [HN.out]; exact hlt
      have HBW := Lib.hid (HB3.out.trans ((by rw [HG3.out]; exact HIv.out.hb : Below w3.heap.size w3 wo).mono HB3.out.size))
      obtain ⟨gb, off, hla, h2, h3'⟩ := HROW.out.at (by rintro e; rw [e] at hi0; simp at hi0)
      clear h2 h3'
      subst hla
      have EXT := Lib.hid (parts_ext HN.out HROW.out HTX.out (by omega : n ≤ 3000) HIv.out HBW.out lc)
      go_wp2_with fail
      refine EXT.out.mono ?_
      rintro e w5 ⟨v9, z10, z11, rfl, hE⟩
      clear EXT
      rcases hE with ⟨h, -⟩ | ⟨-, h1, rfl, rfl, rfl, hb5⟩ | ⟨P, k, ds, -, h1, rfl, rfl, hown, hlv⟩
      · rw [deep_drop d L 0 HDEEP.out] at h; cases h
      · have hz := parts_none HN.out hlt HIv.out h1
        rcases HP.out with ⟨-, rfl, rfl⟩ | ⟨P, hP, -⟩
        · have HB5 := Lib.hid (HBW.out.trans (hb5.mono HBW.out.size))
          clear hb5 h1 hz HP
          go_wp2_with fail
          go_ret
          exact ⟨rfl, HB5.out⟩
        · rw [hz] at hP; cases hP
      · obtain ⟨k1, k2, k3, k4, k5, k6⟩ := ext_facts h1
        rw [List.length_drop, HN.out] at k2
        have e1 : decide ((k : Int) < 1) = false := decide_eq_false (by omega)
        have e2 : decide ((n : Int) - (d : Int) < (k : Int)) = false := decide_eq_false (by omega)
        obtain ⟨gp, cp, rfl, gp1, gp2, gp3⟩ := row_block hown k5
        obtain ⟨gw, hgw⟩ : ∃ g, wo.heap.size = g := ⟨_, rfl⟩
        obtain ⟨PL, hPL⟩ : ∃ m, P.length = m := ⟨_, rfl⟩
        have HPL := Lib.hid hPL
        have HGW := Lib.hid hgw
        have H1 := Lib.hid h1
        have HLV := Lib.hid hlv
        have NX := Lib.hid (fun wi (hm : Mod (fun k => k = gp) w5 wi) => parts_next HN.out hlt HIv.out HMQ.out h1 hlv hown hm)
        have hown0 : w5.ownsRow gw 38 4 (.slice (some ⟨gp, 0, none⟩) PL cp) PL ((mixL d P 0).flatMap ndC) := by
          rw [← hgw, ← hPL]; simpa [mixL] using hown
        have HOWN := Lib.hid hown0
        have K6 := Lib.hid k6
        rw [hPL] at k4 k5 gp3 ⊢
        clear h1 hown hlv hown0 k6 hgw
        go_wp2_with fail
        go_loopw [12] (fun s12 wi => ∃ i : Nat, s12 = .int .i64 i ∧ i ≤ PL ∧ Mod (fun k => k = gp) w5 wi ∧ wi.ownsRow gw 38 4 (.slice (some ⟨gp, 0, none⟩) PL cp) PL ((mixL d P i).flatMap ndC)) (fun s12 _ => PL - (intOf s12).toNat)
        case atStart => exact ⟨0, rfl, Nat.zero_le _, Mod.refl _ _, HOWN.out⟩
        case round =>
          obtain ⟨i, rfl, hi, hmd, hri⟩ := hrel
          have HMD := Lib.hid hmd
          have HRI := Lib.hid hri
          clear hmd hri
          by_cases hlt : i < PL
          · have hlt3 : decide (i < PL) = true := decide_eq_true hlt
            have hip : i < P.length := by rw [hPL]; exact hlt
            obtain ⟨c1, c2⟩ := mix_cell (by rw [hPL]; exact HRI.out : wr.ownsRow gw 38 4 (.slice (some ⟨gp, 0, none⟩) P.length cp) P.length ((mixL d P i).flatMap ndC)) hip
            obtain ⟨b1, b2⟩ := K6.out _ (List.getElem_mem hip)
            obtain ⟨lo, hlo⟩ : ∃ x, P[i].lo = x := ⟨_, rfl⟩
            obtain ⟨hj, hhj⟩ : ∃ x, P[i].hi = x := ⟨_, rfl⟩
            rw [hlo] at c1 b1
            rw [hhj] at c2 b2
            have HLO := Lib.hid hlo
            have HHI := Lib.hid hhj
            clear hlo hhj
            have z1 := row_fr HRI.out (i * 4 + 1)
            have z2 := row_fr HRI.out (i * 4 + 2)
            go_wp2_with fail
            go_roundw
            case rel =>
              obtain ⟨m1, m2⟩ := mix_next hip HPL.out HLO.out HHI.out HMD.out HRI.out
              exact ⟨i + 1, by go_num, by omega, m1, m2⟩
            case measure => simp [intOf]; omega
          · have hlt3 : decide (i < PL) = false := decide_eq_false hlt
            obtain rfl : i = PL := by omega
            obtain ⟨⟨x1, x2⟩, x3⟩ := NX.out wr HMD.out
            have hre := HRI.out
            rw [← HPL.out, mix_end] at hre
            have x4 := Ct.own_rowAt (f := ndC) (fun _ => rfl) (by rw [List.length_map]; exact hre : wr.ownsRow gw 38 4 (.slice (some ⟨gp, 0, none⟩) (P.map (shN d)).length cp) (P.map (shN d)).length ((P.map (shN d)).flatMap ndC))
            have X1 := Lib.hid x1
            have X2 := Lib.hid x2
            have X3 := Lib.hid x3
            have X4 := Lib.hid x4
            have hm9 : m ≤ 20000 := by have := HMQ.out; have := HIv.out.hq; omega
            clear x1 x2 x3 x4 hre NX
            go_wp2_with (first | (at_builtin; refine wpList_append_rows ndC rfl _ _ 24 rfl g3 38 i0 (.agg #[.int .i64 0, .int .i64 0, .int .i64 0, .int .i64 0]) 4 32 Tryz.underlying24 HI.out HZ0.out HZ1.out HZ2.out rfl (by decide) (fun _ => rfl) (fun x u hu => by simp [ndC] at hu; rcases hu with rfl | rfl | rfl | rfl <;> rfl) _ m _ rfl X1.out (some ⟨gp, 0, none⟩) (P.map (shN d)) cp (by rw [List.length_map, HPL.out]; rfl) (fun h => by cases h) X4.out (by rw [List.length_map, HPL.out]; unfold maxLen; omega) (by rw [List.length_map, HPL.out]; omega) X2.out ?_; intro v' w6 hown' hgrow) | fail)
            obtain ⟨C', q', f', S', hI'⟩ := X3.out w6 v' hgrow (by rw [← List.length_map (f := shN d)]; exact hown')
            have HI' := Lib.hid hI'
            clear hI' hown' hgrow
            go_wp2_with fail
            go_roundw
            case rel => exact ⟨d + k, C', q', f', S', by go_num, HI'.out⟩
            case measure => simp [intOf]; omega
    · have hlt2 : decide (d < n) = false := decide_eq_false hlt
      have z1 := row_fr (by have h := HIv.out.hr; rw [HMQ.out] at h; exact h : wo.ownsRow g3 38 4 (.slice (some ⟨go, 0, none⟩) m co) m _) 3
      have d3 : wo.cell? ⟨go, 3, none⟩ = some (.int .i64 (0 : Nat)) := (nd_cell (W := (⟨1, 0, n, 0⟩ : Nd) :: q) (by have h := HIv.out.hr; rw [← HMQ.out] at h; exact h) (i := 0) (by simp)).2.2.2
      have hm0 : 0 < m := by have := HMQ.out; omega
      have hz := parts_done HN.out hlt HIv.out
      rcases HP.out with ⟨h, -⟩ | ⟨P, hP, rfl, hown⟩
      · rw [hz] at h; cases h
      rw [hz] at hP
      obtain rfl := Option.some.inj hP
      have HBW := Lib.hid (HB3.out.trans ((by rw [HG3.out]; exact HIv.out.hb : Below w3.heap.size w3 wo).mono HB3.out.size))
      obtain ⟨y1, y2, y3⟩ := parts_same HIv.out HMQ.out HG3.out HB3.out hown
      have Y1 := Lib.hid y1
      have Y2 := Lib.hid y2
      have Y3 := Lib.hid y3
      clear y1 y2 y3 hown hz HP hP
      go_wp2_with fail
      have hm9 : m ≤ 20000 := by have := HMQ.out; have := HIv.out.hq; have := HIv.out.hd; omega
      refine (wk_Same _ _ _ v _ _ Y2.out Y3.out (by simp; have := HMQ.out; omega)).mono ?_
      rintro e w9 ⟨rfl, hb9⟩
      have HB9 := Lib.hid (Y1.out.trans (hb9.mono Y1.out.size))
      clear hb9
      go_wp2_with fail
      go_ret
      exact ⟨rfl, HB9.out⟩
end Go.Proofs.YtlboejdhmggjpaaGreat.Pp
