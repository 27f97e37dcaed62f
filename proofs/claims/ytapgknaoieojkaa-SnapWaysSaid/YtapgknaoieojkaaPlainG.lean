/- Pieces gathered one behind the other. Plain. -/
import Derived.Test.YtapgknaoieojkaaGathP
import Derived.Test.YtapgknaoieojkaaPlainS
set_option linter.unusedVariables false
set_option linter.unusedSimpArgs false
namespace Go.Proofs.Ytapgknaoieojkaa.Toll
open Go.RowKit
theorem piece_takes {x : List UInt8} {p m : Nat} (hx : x.length ≤ 32768) (hpm : p + m ≤ x.length) :
    takeF (pieceF x p m) = .ok (x.length, (numB x.length).length) ∧ takeF ((pieceF x p m).drop (numB x.length).length) = .ok (p, (numB p).length) ∧ (pieceF x p m).drop ((numB x.length).length + (numB p).length) = (x.drop p).take m := by
  have e : pieceF x p m = numB x.length ++ (numB p ++ (x.drop p).take m) := by simp [pieceF]
  refine ⟨?_, ?_, ?_⟩
  · rw [e]; exact takeF_numB _ _ (by omega)
  · rw [e, List.drop_left]; exact takeF_numB _ _ (by omega)
  · rw [e, ← List.drop_drop, List.drop_left, List.drop_left]
theorem addF_piece {gv : GatV} {x : List UInt8} {p m : Nat} (hx : x.length ≤ 32768) (hm : 0 < m) (hpm : p + m ≤ x.length) (hg : p = 0 ∨ (gv.begun = true ∧ gv.total = x.length ∧ gv.b = x.take p)) :
    addF gv (pieceF x p m) = if p + m < x.length then (.ok none, ⟨true, x.length, x.take (p + m)⟩) else (match sgetF x with | .error k => (.error k, ⟨false, 0, []⟩) | .ok s => (.ok (some s), ⟨false, 0, []⟩)) := by
  obtain ⟨h1, h2, h3⟩ := piece_takes hx hpm
  have hl : ((x.drop p).take m).length = m := by rw [List.length_take, List.length_drop]; omega
  have hb : (if p = 0 then [] else gv.b) ++ (x.drop p).take m = x.take (p + m) := by
    by_cases h0 : p = 0
    · subst h0
      simp
    · rw [if_neg h0, (hg.resolve_left h0).2.2, List.take_add]
  have hbl : (x.take (p + m)).length = p + m := by rw [List.length_take]; omega
  unfold addF
  rw [h1]
  simp only
  rw [h2]
  simp only
  rw [h3, hl, if_neg (by omega), if_neg (by omega), if_neg (by
    rintro ⟨q0, q1⟩
    obtain ⟨g1, g2, g3⟩ := hg.resolve_left (by omega)
    rcases q1 with q1 | q1 | q1
    · rw [g1] at q1; cases q1
    · exact q1 g2
    · rw [g3, List.length_take] at q1; omega), hb, hbl]
  by_cases h : p + m < x.length
  · rw [if_pos h, if_pos h]
  · rw [if_neg h, if_neg h, List.take_of_length_le (by omega)]
    rfl
theorem addF_stale {gv : GatV} {x : List UInt8} {p m : Nat} (hx : x.length ≤ 32768) (hm : 0 < m) (hpm : p + m ≤ x.length) (h0 : 0 < p) (hb : gv.b.length ≠ p) : addF gv (pieceF x p m) = (.error 12, gv) := by
  obtain ⟨h1, h2, h3⟩ := piece_takes hx hpm
  have hl : ((x.drop p).take m).length = m := by rw [List.length_take, List.length_drop]; omega
  unfold addF
  rw [h1]
  simp only
  rw [h2]
  simp only
  rw [h3, hl, if_neg (by omega), if_neg (by omega), if_pos ⟨h0, .inr (.inr hb)⟩]
/-- What a gather holds behind j pieces of k. -/
def stF (x : List UInt8) (n k j : Nat) : GatV := if 0 < j ∧ j < k then ⟨true, x.length, x.take (j * n)⟩ else ⟨false, 0, []⟩
theorem piece_at {x : List UInt8} {n k j : Nat} (hn : 0 < n) (h0 : 0 < x.length) (h1 : k = 1 ∨ (k - 1) * n < x.length) (hj : j < k) : j * n < x.length ∧ 0 < min n (x.length - j * n) ∧ j * n + min n (x.length - j * n) ≤ x.length := by
  have h2 : j * n < x.length := by
    rcases h1 with h1 | h1
    · have : j = 0 := by omega
      subst this
      simpa using h0
    · exact Nat.lt_of_le_of_lt (Nat.mul_le_mul_right n (by omega)) h1
  exact ⟨h2, by omega, by omega⟩
theorem st_next {x : List UInt8} {n k j : Nat} (hx : x.length ≤ 32768) (hn : 0 < n) (h0 : 0 < x.length) (h1 : k = 1 ∨ (k - 1) * n < x.length) (hj : j + 1 < k) : addF (stF x n k j) (pieceF x (j * n) (min n (x.length - j * n))) = (.ok none, stF x n k (j + 1)) := by
  obtain ⟨p1, p2, p3⟩ := piece_at hn h0 h1 (show j < k by omega)
  obtain ⟨q1, q2, q3⟩ := piece_at hn h0 h1 hj
  have e : j * n + min n (x.length - j * n) = (j + 1) * n := by
    have := Nat.succ_mul j n
    simp only [Nat.succ_eq_add_one] at this
    omega
  rw [addF_piece hx p2 p3 (by
    by_cases h : 0 < j
    · exact .inr (by unfold stF; rw [if_pos ⟨h, by omega⟩]; exact ⟨rfl, rfl, rfl⟩)
    · have : j = 0 := by omega
      subst this
      exact .inl (by simp)), e, if_pos q1]
  unfold stF
  rw [if_pos ⟨by omega, hj⟩]
theorem st_last {x : List UInt8} {n k j : Nat} {s : SnapV} (hx : x.length ≤ 32768) (hn : 0 < n) (h0 : 0 < x.length) (h1 : k = 1 ∨ (k - 1) * n < x.length) (hk : x.length ≤ k * n) (hj : j + 1 = k) (hs : sgetF x = .ok s) : addF (stF x n k j) (pieceF x (j * n) (min n (x.length - j * n))) = (.ok (some s), stF x n k (j + 1)) := by
  obtain ⟨p1, p2, p3⟩ := piece_at hn h0 h1 (show j < k by omega)
  have e : ¬ j * n + min n (x.length - j * n) < x.length := by
    have := Nat.succ_mul j n
    simp only [Nat.succ_eq_add_one, hj] at this
    omega
  rw [addF_piece hx p2 p3 (by
    by_cases h : 0 < j
    · exact .inr (by unfold stF; rw [if_pos ⟨h, by omega⟩]; exact ⟨rfl, rfl, rfl⟩)
    · have : j = 0 := by omega
      subst this
      exact .inl (by simp)), if_neg e, hs]
  unfold stF
  rw [if_neg (by omega)]
theorem st_stale {x : List UInt8} {n k j i : Nat} (hx : x.length ≤ 32768) (hn : 0 < n) (h0 : 0 < x.length) (h1 : k = 1 ∨ (k - 1) * n < x.length) (hj : j < k) (hj0 : 0 < j) (hi : i < k) (hi0 : i ≠ 0) (hij : i ≠ j) : addF (stF x n k j) (pieceF x (i * n) (min n (x.length - i * n))) = (.error 12, stF x n k j) := by
  obtain ⟨p1, p2, p3⟩ := piece_at hn h0 h1 hi
  obtain ⟨q1, q2, q3⟩ := piece_at hn h0 h1 hj
  refine addF_stale hx p2 p3 (Nat.mul_pos (by omega) hn) ?_
  unfold stF
  rw [if_pos ⟨hj0, hj⟩]
  simp only [List.length_take]
  intro e
  have : j * n = i * n := by omega
  exact hij (Nat.eq_of_mul_eq_mul_right hn this).symm
theorem st_len {x : List UInt8} {n k : Nat} : (stF x n k k).b.length = 0 := by
  unfold stF
  rw [if_neg (by omega)]
  rfl
end Go.Proofs.Ytapgknaoieojkaa.Toll
