/- Walks of package member: rises, Right. -/
import Derived.Test.YtapgknaoieojkaaVals
import Derived.Test.YtapgknaoieojkaaNumN
set_option linter.unusedVariables false
set_option linter.unusedSimpArgs false
set_option maxRecDepth 100000
namespace Go.Proofs.Ytapgknaoieojkaa.Toll
open Go.RowKit
def risesG : Int → List Int → Bool
  | _, [] => true
  | p, x :: t => decide (1 ≤ x) && (decide (x ≤ 9) && (decide (p < x) && risesG x t))
def prevI (xs : List Int) (k : Nat) : Int := if k = 0 then 0 else xs.getD (k - 1) 0
theorem rises_any (A : Option Addr) (c : Nat) (xs : List Int) (w : World) (hs : xs.length ≤ 9223372036854775807) (hx : RdI w A xs) :
    Calls Try.prog 70 #[.slice A xs.length c] w fun e w' => e = .returned (.bool (risesG 0 xs)) ∧ w = w' := by
  have HX := Lib.hid hx
  clear hx
  go_enter Try.func70, Try.ntmps70
  go_wp2
  go_loop [7] (fun i => ∃ k : Nat, k ≤ xs.length ∧ i = .int .i64 k ∧ Hid (risesG 0 xs = risesG (prevI xs k) (xs.drop k))) (fun i => xs.length - (intOf i).toNat)
  case atStart => exact ⟨0, Nat.zero_le _, rfl, rfl⟩
  case round =>
    obtain ⟨k, hk, rfl, he⟩ := hrel
    by_cases hlt : k < xs.length
    · obtain ⟨b, off, sp, rfl, hc⟩ := HX.out.at k hlt
      have HD : Hid (xs.drop k = xs[k] :: xs.drop (k + 1)) := List.drop_eq_getElem_cons hlt
      have HP : Hid (prevI xs (k + 1) = xs[k]) := by
        show _ = _
        unfold prevI
        simp [List.getElem?_eq_getElem hlt]
      generalize hy : xs[k] = y at *
      have HY := Lib.hid hy
      clear hy
      by_cases h1 : y < 1
      · have h1' : decide (y < 1) = true := by simp; omega
        have HF : Hid (risesG 0 xs = false) := by
          show _ = _
          rw [he.out, HD.out]
          simp [risesG]
          intro h; omega
        go_wp2
        go_ret
        rw [HF.out]
        exact ⟨rfl, rfl⟩
      have h1' : decide (y < 1) = false := by simp; omega
      by_cases h9 : 9 < y
      · have h9' : decide (9 < y) = true := by simp; omega
        have HF : Hid (risesG 0 xs = false) := by
          show _ = _
          rw [he.out, HD.out]
          simp [risesG]
          intro _ h; omega
        go_wp2
        go_ret
        rw [HF.out]
        exact ⟨rfl, rfl⟩
      have h9' : decide (9 < y) = false := by simp; omega
      by_cases hk0 : 0 < k
      · have hk0' : decide (0 < k) = true := by simp; omega
        obtain ⟨b1, off1, sp1, e1, hc1⟩ := HX.out.at (k - 1) (by omega)
        cases e1
        have HQ : Hid (prevI xs k = xs[k - 1]) := by
          show _ = _
          unfold prevI
          rw [if_neg (by omega)]
          simp [List.getElem?_eq_getElem (show k - 1 < xs.length by omega)]
        generalize hz : xs[k - 1] = z at *
        have HZ := Lib.hid hz
        clear hz
        by_cases hle : y ≤ z
        · have hle' : decide (y ≤ z) = true := by simp; omega
          have HF : Hid (risesG 0 xs = false) := by
            show _ = _
            rw [he.out, HD.out, HQ.out]
            simp [risesG]
            intro _ _ h; omega
          go_wp2
          go_ret
          rw [HF.out]
          exact ⟨rfl, rfl⟩
        · have hle' : decide (y ≤ z) = false := by simp; omega
          have HF : Hid (risesG 0 xs = risesG (prevI xs (k + 1)) (xs.drop (k + 1))) := by
            show _ = _
            rw [he.out, HD.out, HQ.out, HP.out, risesG, decide_eq_true (show 1 ≤ y by omega), decide_eq_true (show y ≤ 9 by omega), decide_eq_true (show z < y by omega), Bool.true_and, Bool.true_and, Bool.true_and]
          go_wp2
          go_round
          case rel => exact ⟨k + 1, by omega, by go_num, HF⟩
          case measure => simp [intOf]; omega
      · obtain rfl : k = 0 := by omega
        have HF : Hid (risesG 0 xs = risesG (prevI xs 1) (xs.drop 1)) := by
            show _ = _
            rw [he.out, HD.out, HP.out, risesG, decide_eq_true (show 1 ≤ y by omega), decide_eq_true (show y ≤ 9 by omega), decide_eq_true (show prevI xs 0 < y by simp [prevI]; omega), Bool.true_and, Bool.true_and, Bool.true_and]
        have hc0 : w.cell? ⟨b, off, sp⟩ = some (.int .i64 y) := by simpa [Addr.add] using hc
        go_wp2
        go_round
        case rel => exact ⟨1, by omega, rfl, HF⟩
        case measure => simp [intOf]; omega
    · obtain rfl : k = xs.length := by omega
      have HF : Hid (risesG 0 xs = true) := by
        show _ = _
        rw [he.out, List.drop_length]
        rfl
      go_wp2
      go_ret
      rw [HF.out]
      exact ⟨rfl, rfl⟩
end Go.Proofs.Ytapgknaoieojkaa.Toll
