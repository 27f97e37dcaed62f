/- Walks: wire.Number, snap.num, member.put. -/
import Derived.Test.YtapgknaoieojkaaNumW
set_option linter.unusedVariables false
set_option linter.unusedSimpArgs false
set_option maxRecDepth 100000
namespace Go.Proofs.Ytapgknaoieojkaa.Toll
open Go.RowKit
theorem Number_ok (n : Nat) (w : World) (hn : n ≤ 1099511627776) :
    Calls Try.prog 55 #[.int .i64 n] w fun e w' => ∃ v', e = .returned (.tuple #[v', .int .i64 0]) ∧ OwB w.heap.size w' v' (numB n) ∧ Below w.heap.size w w' := by
  have h0 : decide ((n : Int) < 0) = false := by simp
  have h1 : decide (1099511627776 < (n : Int)) = false := by simp; omega
  go_enter Try.func55, Try.ntmps55
  go_wp2_with fail
  refine (number_any w.heap.size _ [] n _ (OwB.nil _ _) (by omega) (by simp) (Nat.le_refl _)).mono ?_
  rintro e w1 ⟨v1, rfl, h1', g1⟩
  have H1 := Lib.hid h1'
  have G1 := Lib.hid g1.below
  clear h1' g1
  go_wp2_with fail
  go_ret2
  exact ⟨v1, rfl, H1.out, G1.out⟩
theorem Number_err (n : Int) (w : World) (hn : n < 0 ∨ 1099511627776 < n) :
    Calls Try.prog 55 #[.int .i64 n] w fun e w' => e = .returned (.tuple #[.slice none 0 0, .int .i64 2]) ∧ w = w' := by
  rcases hn with h | h
  · go_enter Try.func55, Try.ntmps55
    go_wp2_with fail
    go_ret2
    exact ⟨rfl, rfl⟩
  · have h0 : decide (n < 0) = false := by simp; omega
    go_enter Try.func55, Try.ntmps55
    go_wp2_with fail
    go_ret2
    exact ⟨rfl, rfl⟩
theorem OwB.val {base : Nat} {w : World} {v : Value} {xs : List UInt8} (h : OwB base w v xs) : ∃ A c, v = .slice A xs.length c ∧ RdB w A xs := by
  obtain ⟨A, c, e, r, _⟩ := h.form
  exact ⟨A, c, e, r⟩
theorem num_any (base : Nat) (v : Value) (xs : List UInt8) (n : Nat) (w : World) (hv : OwB base w v xs) (hn : n ≤ 1099511627776) (hl : xs.length ≤ 1000000) (hb : base ≤ w.heap.size) :
    Calls Try.prog 29 #[v, .int .i64 n] w fun e w' => ∃ v', e = .returned v' ∧ OwB base w' v' (xs ++ numB n) ∧ Grow base w v w' v' := by
  have HV := Lib.hid hv
  clear hv
  have hlen := numB_length n hn
  go_enter Try.func29, Try.ntmps29
  go_wp2_with fail
  refine (Number_ok n _ hn).mono ?_
  rintro e w1 ⟨v1, rfl, h1, b1⟩
  obtain ⟨X, cx, rfl, hr⟩ := h1.val
  have H1 := Lib.hid hr
  have B1 := Lib.hid b1
  have hsz := b1.size
  clear h1 b1 hr
  go_wp2_with (at_builtin; refine wpList_appB base rfl (.tmp 12) (.tmp 13) rfl _ xs (numB n) _ _ _ rfl rfl rfl (HV.out.below B1.out) H1.out ?c3 ?c4 ?c5)
  case c3 => omega
  case c4 => omega
  case c5 =>
    intro v2 w2 h2 g2
    have H2 := Lib.hid h2
    have G2 := Lib.hid (Grow.first B1.out g2)
    clear h2 g2
    go_wp2_with fail
    go_ret
    exact ⟨v2, rfl, H2.out, G2.out⟩
end Go.Proofs.Ytapgknaoieojkaa.Toll
