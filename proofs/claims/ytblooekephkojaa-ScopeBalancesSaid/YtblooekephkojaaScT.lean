/- scope: play, and what lies ahead of it stays. -/
import Derived.Test.YtblooekephkojaaScS
namespace Go.Proofs.Ytblooekephkojaa
open Go.RowKit Go.BigFrame Go.Shelf Go.ChangeMaps Go.WideMaps
set_option linter.unusedVariables false

/-- F begins with the blocks F0, and has more. -/
def Pre (F0 F : List Frm) : Prop := ∃ f R, F = F0 ++ f :: R
theorem Pre.len {F0 F : List Frm} (h : Pre F0 F) : F0.length + 1 ≤ F.length := by
  obtain ⟨f, R, rfl⟩ := h; simp
theorem Pre.opens {F0 F : List Frm} (h : Pre F0 F) : Pre F0 (opens F) := by
  unfold Ytblooekephkojaa.opens
  split
  · exact h
  · obtain ⟨f, R, rfl⟩ := h
    exact ⟨f, R ++ [[]], by simp⟩
theorem Pre.closed {F0 F : List Frm} (h : Pre F0 F) (hl : F0.length + 1 < F.length) : Pre F0 (closed F) := by
  obtain ⟨f, R, rfl⟩ := h
  obtain ⟨R', g, rfl⟩ := snoc_of_pos R (by simp at hl; exact hl)
  rw [show F0 ++ f :: (R' ++ [g]) = (F0 ++ f :: R') ++ [g] from by simp, closed_snoc _ _ (by simp; omega)]
  exact ⟨f, R', rfl⟩
theorem Pre.decl {F0 F : List Frm} (h : Pre F0 F) (x : ByteArray) (t : Bool) : Pre F0 (decl F x t) := by
  unfold Ytblooekephkojaa.decl
  split
  · exact h
  · obtain ⟨f, R, rfl⟩ := h
    by_cases hR : R = []
    · subst hR
      rw [declare_snoc]
      exact ⟨_, [], rfl⟩
    · obtain ⟨R', g, rfl⟩ := snoc_of_pos R (List.length_pos_iff.2 hR)
      rw [show F0 ++ f :: (R' ++ [g]) = (F0 ++ f :: R') ++ [g] from by simp, declare_snoc]
      exact ⟨f, R' ++ [setF g x t], by simp⟩
theorem Pre.one {F0 F : List Frm} (h : Pre F0 F) (hl : ¬ F0.length + 1 < F.length) : ∃ f, F = F0 ++ [f] := by
  obtain ⟨f, R, rfl⟩ := h
  have : R = [] := List.length_eq_zero_iff.1 (by simp at hl; exact List.length_eq_zero_iff.2 hl)
  exact ⟨f, by rw [this]⟩
def scLen (A : Nat) (w : World) : Nat := match w.cell? ⟨A, 2, none⟩ with | some (.slice _ n _) => n | _ => 0
theorem SO.scLen {N : Nat → Prop} {W w : World} {A m : Nat} {F : List Frm} (h : SO N W A m F w) : scLen A w = F.length := by
  obtain ⟨h1, h2, n, S, h3, ⟨M, vB, vs, mv, D, h4, _⟩, _⟩ := h
  obtain ⟨a, cap, rfl⟩ := row_shape h4.brow
  unfold Ytblooekephkojaa.scLen
  rw [h4.cells.2.2]

set_option maxRecDepth 100000 in
set_option maxHeartbeats 4000000 in
theorem So.play (a : Option Addr) (c : Nat) (l : List Stp) (N : Nat → Prop) (W : World) (A m : Nat) (F0 F : List Frm) (w : World) (h : SO N W A m F w) (hP : Pre F0 F) (hF : F.length = F0.length + 1) (hr : ∀ w', Mod N W w' → RowAt 3 Stp.f w' a l) (hl : ∀ s ∈ l, s.x.size ≤ maxLen) (hll : l.length ≤ 1000) (hm : m ≤ 100000) :
    Calls Try.prog 33 #[.pointer (some ⟨A, 0, none⟩), .slice a l.length c] w fun e w' => e = .returned (.tuple #[]) ∧ ∃ f, SO N W A (m + 2 * l.length) (F0 ++ [f]) w' := by
  have H := Lib.hid h
  have HP := Lib.hid hP
  have HR := Lib.hid hr
  have HL := Lib.hid hl
  have HFF := Lib.hid hF
  clear h hP hr hl hF
  go_enter Try.func33, Try.ntmps33
  go_wp2_with fail
  refine (So.blocks H.out).mono ?_
  rintro e w1 ⟨rfl, rfl⟩
  rw [HFF.out]
  go_wp2_with fail
  go_loopw [5] (fun s5 wr => ∃ (i : Nat) (G : List Frm), i ≤ l.length ∧ s5 = .int .i64 i ∧ SO N W A (m + 2 * i) G wr ∧ Pre F0 G) (fun s5 _ => l.length - (intOf s5).toNat)
  case atStart => exact ⟨0, F, by omega, rfl, H.out, HP.out⟩
  case round =>
    obtain ⟨i, G, hi, rfl, ow, hpre⟩ := hrel
    have HO := Lib.hid ow
    have HPR := Lib.hid hpre
    by_cases hlt : i < l.length
    · obtain ⟨b, off, rfl, hbw, hc⟩ := (HR.out wr ow.mod).at (by intro e; simp [e] at hlt)
      obtain ⟨g0, g1, g2⟩ := Stp.at (w := wr) (b := b) (o := off + i * 3) (s := l[i]) (hc i hlt)
      have hx := HL.out l[i] (List.getElem_mem hlt)
      have HX := Lib.hid hx
      clear hc hx ow hpre HL HR
      generalize l[i] = s at *
      by_cases k0 : s.k = 0
      · rw [k0] at g0
        clear k0
        go_wp2_with fail
        refine (So.opens HO.out).mono ?_
        rintro e w3 ⟨rfl, o3⟩
        have O3 := Lib.hid o3
        clear o3
        go_wp2_with fail
        go_roundw
        case rel => exact ⟨i + 1, _, by omega, by go_num, O3.out.mono (by omega), HPR.out.opens⟩
        case measure => simp [intOf]; omega
      · by_cases k1 : s.k = 1
        · rw [k1] at g0
          clear k0 k1
          by_cases hn : F0.length + 1 < G.length
          · have hn1 : ((F0.length : Int) + 1) < (G.length : Int) := by omega
            go_wp2_with fail
            refine (So.blocks HO.out).mono ?_
            rintro e w3 ⟨rfl, rfl⟩
            go_wp2_with fail
            refine (So.close HO.out (by omega)).mono ?_
            rintro e w3 ⟨rfl, o3⟩
            have O3 := Lib.hid o3
            clear o3
            go_wp2_with fail
            go_roundw
            case rel => exact ⟨i + 1, _, by omega, by go_num, O3.out.mono (by omega), HPR.out.closed hn⟩
            case measure => simp [intOf]; omega
          · have hn1 : ¬ ((F0.length : Int) + 1) < (G.length : Int) := by omega
            go_wp2_with fail
            refine (So.blocks HO.out).mono ?_
            rintro e w3 ⟨rfl, rfl⟩
            go_wp2_with fail
            go_roundw
            case rel => exact ⟨i + 1, _, by omega, by go_num, HO.out.mono (by omega), HPR.out⟩
            case measure => simp [intOf]; omega
        · have k1' : (s.k == 1) = false := by rw [beq_eq_false_iff_ne]; exact k1
          by_cases k2 : 1 < s.k
          · go_wp2_with fail
            refine wp_region_tail (C := fun w' => ∃ n, w' = wr.drewN n) 11 (by kernel_rfl) (by kernel_rfl) ⟨1, rfl⟩ ?_
            simp only [List.take_succ_cons, List.take_zero, List.drop_succ_cons, List.drop_zero]
            repeat (go_big_quiet_step (fail))
            refine wpQuiet_nil ?_
            rintro w' ⟨nq, rfl⟩
            go_wp2_with fail
            refine (So.declare s.x s.t (HO.out.drewN nq) HX.out (by omega)).mono ?_
            rintro e w3 ⟨rfl, o3⟩
            have O3 := Lib.hid o3
            clear o3
            go_wp2_with fail
            go_roundw
            case rel => exact ⟨i + 1, _, by omega, by go_num, O3.out.mono (by omega), HPR.out.decl _ _⟩
            case measure => simp [intOf]; omega
          · go_wp2_with fail
            go_roundw
            case rel => exact ⟨i + 1, _, by omega, by go_num, HO.out.mono (by omega), HPR.out⟩
            case measure => simp [intOf]; omega
    · obtain rfl : i = l.length := by omega
      clear ow hpre HL HR
      go_wp2_with fail
      go_loopw [57] (fun _ wq => ∃ G : List Frm, SO N W A (m + 2 * l.length) G wq ∧ Pre F0 G) (fun _ wq => scLen A wq)
      case atStart => exact ⟨G, HO.out, HPR.out⟩
      case round =>
        clear HO HPR
        obtain ⟨G, ow, hpre⟩ := hrel
        have HO := Lib.hid ow
        have HPR := Lib.hid hpre
        clear ow hpre
        by_cases hn : F0.length + 1 < G.length
        · have hn1 : ((F0.length : Int) + 1) < (G.length : Int) := by omega
          go_wp2_with fail
          refine (So.blocks HO.out).mono ?_
          rintro e w3 ⟨rfl, rfl⟩
          go_wp2_with fail
          refine (So.close HO.out (by omega)).mono ?_
          rintro e w4 ⟨rfl, o4⟩
          have O4 := Lib.hid o4
          clear o4
          go_wp2_with fail
          go_roundw
          case rel => exact ⟨_, O4.out, HPR.out.closed hn⟩
          case measure =>
            rw [O4.out.scLen, HO.out.scLen]
            unfold closed
            rw [if_neg (by omega), List.length_dropLast]
            omega
        · have hn1 : ¬ ((F0.length : Int) + 1) < (G.length : Int) := by omega
          go_wp2_with fail
          refine (So.blocks HO.out).mono ?_
          rintro e w3 ⟨rfl, rfl⟩
          go_wp2_with fail
          obtain ⟨f, hf⟩ := HPR.out.one hn
          have HQ := Lib.hid hf
          clear hf
          go_end0
          exact ⟨rfl, f, by rw [← HQ.out]; exact HO.out⟩
end Go.Proofs.Ytblooekephkojaa
