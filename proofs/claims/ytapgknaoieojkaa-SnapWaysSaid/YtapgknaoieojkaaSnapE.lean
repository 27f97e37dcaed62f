/- Walk: snap.Put, its errors. -/
import Derived.Test.YtapgknaoieojkaaSnapP
set_option linter.unusedVariables false
set_option linter.unusedSimpArgs false
set_option maxRecDepth 100000
namespace Go.Proofs.Ytapgknaoieojkaa.Toll
open Go.RowKit
set_option maxHeartbeats 2000000 in
theorem SPut_err (A1 A2 A3 : Option Addr) (c1 c2 c3 : Nat) (s : SnapV) (k : Int) (w : World) (hs : SnapAt w A1 A2 A3 s) (h : sputF s = .error k) :
    Calls Try.prog 9 #[snapVal A1 A2 A3 c1 c2 c3 s] w fun e w' => e = .returned (.tuple #[.slice none 0 0, .int .i64 k]) ∧ Below w.heap.size w w' := by
  obtain ⟨idx, term, V, L, data⟩ := s
  obtain ⟨hm, hdat, hdl⟩ := hs
  simp only [sputF] at *
  have HM := Lib.hid hm
  clear hm hdat
  cases hr : rightB V L with
  | false =>
    obtain rfl : k = 2 := by rw [if_pos (by simp [hr])] at h; injection h with h; exact h.symm
    have HR := Lib.hid hr
    clear h hr
    by_cases t1 : idx < 1
    · have k1 : decide (idx < 1) = true := by simp; omega
      go_enter Try.func9, Try.ntmps9
      go_wp2_with fail
      refine (MPut_err A1 A2 c1 c2 V L _ (HM.out.below ((Below.refl _ _).alloc (Nat.le_refl _) _)) HR.out).mono ?_
      rintro e w1 ⟨rfl, b1⟩
      have kb := (Blk.new w #[.int .i64 idx, .int .i64 term, .slice A1 V.length c1, .slice A2 L.length c2, .slice A3 data.length c3] 29).below b1
      have q1 := kb.cell
      have HB1 : Hid (Below w.heap.size w w1) := ((Below.refl _ _).alloc (Nat.le_refl _) _).trans (b1.mono (by simp))
      clear kb b1
      go_wp2_with fail
      go_ret2
      exact ⟨rfl, HB1.out⟩
    have k1 : decide (idx < 1) = false := by simp; omega
    by_cases t2 : 1099511627776 < idx
    · have k2 : decide (1099511627776 < idx) = true := by simp; omega
      go_enter Try.func9, Try.ntmps9
      go_wp2_with fail
      refine (MPut_err A1 A2 c1 c2 V L _ (HM.out.below ((Below.refl _ _).alloc (Nat.le_refl _) _)) HR.out).mono ?_
      rintro e w1 ⟨rfl, b1⟩
      have kb := (Blk.new w #[.int .i64 idx, .int .i64 term, .slice A1 V.length c1, .slice A2 L.length c2, .slice A3 data.length c3] 29).below b1
      have q1 := kb.cell
      have HB1 : Hid (Below w.heap.size w w1) := ((Below.refl _ _).alloc (Nat.le_refl _) _).trans (b1.mono (by simp))
      clear kb b1
      go_wp2_with fail
      go_ret2
      exact ⟨rfl, HB1.out⟩
    have k2 : decide (1099511627776 < idx) = false := by simp; omega
    by_cases t3 : term < 1
    · have k3 : decide (term < 1) = true := by simp; omega
      go_enter Try.func9, Try.ntmps9
      go_wp2_with fail
      refine (MPut_err A1 A2 c1 c2 V L _ (HM.out.below ((Below.refl _ _).alloc (Nat.le_refl _) _)) HR.out).mono ?_
      rintro e w1 ⟨rfl, b1⟩
      have kb := (Blk.new w #[.int .i64 idx, .int .i64 term, .slice A1 V.length c1, .slice A2 L.length c2, .slice A3 data.length c3] 29).below b1
      have q1 := kb.cell
      have HB1 : Hid (Below w.heap.size w w1) := ((Below.refl _ _).alloc (Nat.le_refl _) _).trans (b1.mono (by simp))
      clear kb b1
      go_wp2_with fail
      go_ret2
      exact ⟨rfl, HB1.out⟩
    have k3 : decide (term < 1) = false := by simp; omega
    by_cases t4 : 1099511627776 < term
    all_goals
      have k4 : decide (1099511627776 < term) = decide (1099511627776 < term) := rfl
      clear k4
      go_enter Try.func9, Try.ntmps9
      go_wp2_with fail
      refine (MPut_err A1 A2 c1 c2 V L _ (HM.out.below ((Below.refl _ _).alloc (Nat.le_refl _) _)) HR.out).mono ?_
      rintro e w1 ⟨rfl, b1⟩
      have kb := (Blk.new w #[.int .i64 idx, .int .i64 term, .slice A1 V.length c1, .slice A2 L.length c2, .slice A3 data.length c3] 29).below b1
      have q1 := kb.cell
      have HB1 : Hid (Below w.heap.size w w1) := ((Below.refl _ _).alloc (Nat.le_refl _) _).trans (b1.mono (by simp))
      clear kb b1
      go_wp2_with fail
      go_ret2
      exact ⟨rfl, HB1.out⟩
  | true =>
    have HR := Lib.hid hr
    by_cases hbad : idx < 1 ∨ 1099511627776 < idx ∨ term < 1 ∨ 1099511627776 < term
    · obtain rfl : k = 2 := by rw [if_pos (by simp only [hr]; omega)] at h; injection h with h; exact h.symm
      clear h hr
      by_cases t1 : idx < 1
      · have k1 : decide (idx < 1) = true := by simp; omega
        clear hbad
        go_enter Try.func9, Try.ntmps9
        go_wp2_with fail
        refine (MPut_ok A1 A2 c1 c2 V L _ (HM.out.below ((Below.refl _ _).alloc (Nat.le_refl _) _)) HR.out).mono ?_
        rintro e w1 ⟨v1, rfl, _, b1⟩
        have kb := (Blk.new w #[.int .i64 idx, .int .i64 term, .slice A1 V.length c1, .slice A2 L.length c2, .slice A3 data.length c3] 29).below b1
        have q1 := kb.cell
        have HB1 : Hid (Below w.heap.size w w1) := ((Below.refl _ _).alloc (Nat.le_refl _) _).trans (b1.mono (by simp))
        clear kb b1
        go_wp2_with fail
        go_ret2
        exact ⟨rfl, HB1.out⟩
      have k1 : decide (idx < 1) = false := by simp; omega
      by_cases t2 : 1099511627776 < idx
      · have k2 : decide (1099511627776 < idx) = true := by simp; omega
        clear hbad
        go_enter Try.func9, Try.ntmps9
        go_wp2_with fail
        refine (MPut_ok A1 A2 c1 c2 V L _ (HM.out.below ((Below.refl _ _).alloc (Nat.le_refl _) _)) HR.out).mono ?_
        rintro e w1 ⟨v1, rfl, _, b1⟩
        have kb := (Blk.new w #[.int .i64 idx, .int .i64 term, .slice A1 V.length c1, .slice A2 L.length c2, .slice A3 data.length c3] 29).below b1
        have q1 := kb.cell
        have HB1 : Hid (Below w.heap.size w w1) := ((Below.refl _ _).alloc (Nat.le_refl _) _).trans (b1.mono (by simp))
        clear kb b1
        go_wp2_with fail
        go_ret2
        exact ⟨rfl, HB1.out⟩
      have k2 : decide (1099511627776 < idx) = false := by simp; omega
      by_cases t3 : term < 1
      · have k3 : decide (term < 1) = true := by simp; omega
        clear hbad
        go_enter Try.func9, Try.ntmps9
        go_wp2_with fail
        refine (MPut_ok A1 A2 c1 c2 V L _ (HM.out.below ((Below.refl _ _).alloc (Nat.le_refl _) _)) HR.out).mono ?_
        rintro e w1 ⟨v1, rfl, _, b1⟩
        have kb := (Blk.new w #[.int .i64 idx, .int .i64 term, .slice A1 V.length c1, .slice A2 L.length c2, .slice A3 data.length c3] 29).below b1
        have q1 := kb.cell
        have HB1 : Hid (Below w.heap.size w w1) := ((Below.refl _ _).alloc (Nat.le_refl _) _).trans (b1.mono (by simp))
        clear kb b1
        go_wp2_with fail
        go_ret2
        exact ⟨rfl, HB1.out⟩
      have k3 : decide (term < 1) = false := by simp; omega
      have t4 : 1099511627776 < term := by omega
      have k4 : decide (1099511627776 < term) = true := by simp; omega
      clear hbad
      go_enter Try.func9, Try.ntmps9
      go_wp2_with fail
      refine (MPut_ok A1 A2 c1 c2 V L _ (HM.out.below ((Below.refl _ _).alloc (Nat.le_refl _) _)) HR.out).mono ?_
      rintro e w1 ⟨v1, rfl, _, b1⟩
      have kb := (Blk.new w #[.int .i64 idx, .int .i64 term, .slice A1 V.length c1, .slice A2 L.length c2, .slice A3 data.length c3] 29).below b1
      have q1 := kb.cell
      have HB1 : Hid (Below w.heap.size w w1) := ((Below.refl _ _).alloc (Nat.le_refl _) _).trans (b1.mono (by simp))
      clear kb b1
      go_wp2_with fail
      go_ret2
      exact ⟨rfl, HB1.out⟩
    · have hd : 16384 < data.length ∧ k = 6 := by
        rw [if_neg (by simp only [hr]; simp; omega)] at h
        split at h
        · injection h with h; exact ⟨‹_›, h.symm⟩
        · cases h
      obtain ⟨hd, rfl⟩ := hd
      have k1 : decide (idx < 1) = false := by simp; omega
      have k2 : decide (1099511627776 < idx) = false := by simp; omega
      have k3 : decide (term < 1) = false := by simp; omega
      have k4 : decide (1099511627776 < term) = false := by simp; omega
      have k5 : decide (16384 < (data.length : Int)) = true := by simp; omega
      have t1 : ¬ idx < 1 := by omega
      have t2 : ¬ 1099511627776 < idx := by omega
      have t3 : ¬ term < 1 := by omega
      have t4 : ¬ 1099511627776 < term := by omega
      clear hbad h hr
      go_enter Try.func9, Try.ntmps9
      go_wp2_with fail
      refine (MPut_ok A1 A2 c1 c2 V L _ (HM.out.below ((Below.refl _ _).alloc (Nat.le_refl _) _)) HR.out).mono ?_
      rintro e w1 ⟨v1, rfl, _, b1⟩
      have kb := (Blk.new w #[.int .i64 idx, .int .i64 term, .slice A1 V.length c1, .slice A2 L.length c2, .slice A3 data.length c3] 29).below b1
      have q1 := kb.cell
      have HB1 : Hid (Below w.heap.size w w1) := ((Below.refl _ _).alloc (Nat.le_refl _) _).trans (b1.mono (by simp))
      clear kb b1
      go_wp2_with fail
      go_ret2
      exact ⟨rfl, HB1.out⟩
end Go.Proofs.Ytapgknaoieojkaa.Toll
