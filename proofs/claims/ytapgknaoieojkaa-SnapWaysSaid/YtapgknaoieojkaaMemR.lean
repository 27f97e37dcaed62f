/- Walks: slices.Index, Contains, ContainsFunc; member.Right. -/
import Derived.Test.YtapgknaoieojkaaMemW
set_option linter.unusedVariables false
set_option linter.unusedSimpArgs false
set_option maxRecDepth 100000
namespace Go.Proofs.Ytapgknaoieojkaa.Toll
open Go.RowKit
def memB (V : List Int) (n : Int) : Bool := V.contains n
def idxG (p : Int → Bool) : Nat → List Int → Int
  | _, [] => -1
  | k, x :: t => if p x then k else idxG p (k + 1) t
theorem idxG_range (p : Int → Bool) : ∀ (xs : List Int) (k : Nat), -1 ≤ idxG p k xs ∧ idxG p k xs < k + xs.length + 1 ∧ (0 ≤ idxG p k xs ↔ xs.any p = true)
  | [], k => by simp [idxG]; omega
  | x :: t, k => by
    have ih := idxG_range p t (k + 1)
    unfold idxG
    by_cases h : p x = true
    · simp [h]; omega
    · rw [if_neg h]
      simp at ih ⊢
      simp [h]
      refine ⟨by omega, by omega, ih.2.2⟩
theorem Index_any (A : Option Addr) (c : Nat) (xs : List Int) (v : Int) (w : World) (hs : xs.length ≤ 9223372036854775807) (hx : RdI w A xs) :
    Calls Try.prog 80 #[.slice A xs.length c, .int .i64 v] w fun e w' => e = .returned (.int .i64 (idxG (fun x => v == x) 0 xs)) ∧ w = w' := by
  have HX := Lib.hid hx
  clear hx
  go_enter Try.func80, Try.ntmps80
  go_wp2
  go_loop [8] (fun i => ∃ k : Nat, k ≤ xs.length ∧ i = .int .i64 k ∧ Hid (idxG (fun x => v == x) 0 xs = idxG (fun x => v == x) k (xs.drop k))) (fun i => xs.length - (intOf i).toNat)
  case atStart => exact ⟨0, Nat.zero_le _, rfl, rfl⟩
  case round =>
    obtain ⟨k, hk, rfl, he⟩ := hrel
    by_cases hlt : k < xs.length
    · obtain ⟨b, off, sp, rfl, hc⟩ := HX.out.at k hlt
      have HD : Hid (xs.drop k = xs[k] :: xs.drop (k + 1)) := List.drop_eq_getElem_cons hlt
      generalize hy : xs[k] = y at *
      clear hy
      by_cases h1 : v = y
      · have h1' : (v == y) = true := by simp [h1]
        have HF : Hid (idxG (fun x => v == x) 0 xs = k) := by
          show _ = _
          rw [he.out, HD.out, idxG, if_pos h1']
        clear h1
        go_wp2
        go_ret
        rw [HF.out]
        exact ⟨rfl, rfl⟩
      · have h1' : (v == y) = false := by simp [h1]
        have HF : Hid (idxG (fun x => v == x) 0 xs = idxG (fun x => v == x) (k + 1) (xs.drop (k + 1))) := by
          show _ = _
          rw [he.out, HD.out, idxG, if_neg (by simp [h1'])]
        clear h1
        go_wp2
        go_round
        case rel => exact ⟨k + 1, by omega, by go_num, HF⟩
        case measure => simp [intOf]; omega
    · obtain rfl : k = xs.length := by omega
      have HF : Hid (idxG (fun x => v == x) 0 xs = -1) := by
        show _ = _
        rw [he.out, List.drop_length]
        rfl
      go_wp2
      go_ret
      rw [HF.out]
      exact ⟨rfl, rfl⟩
theorem Contains_any (A : Option Addr) (c : Nat) (xs : List Int) (v : Int) (w : World) (hs : xs.length ≤ 9223372036854775807) (hx : RdI w A xs) :
    Calls Try.prog 73 #[.slice A xs.length c, .int .i64 v] w fun e w' => e = .returned (.bool (memB xs v)) ∧ w = w' := by
  have HX := Lib.hid hx
  clear hx
  have HR := Lib.hid (idxG_range (fun x => v == x) xs 0)
  go_enter Try.func73, Try.ntmps73
  go_wp2_with fail
  refine (Index_any A c xs v _ hs HX.out).mono ?_
  rintro e w' ⟨rfl, rfl⟩
  generalize hi : idxG (fun x => v == x) 0 xs = i at *
  have HI := Lib.hid hi
  clear hi
  go_wp2_with fail
  go_ret
  refine ⟨?_, rfl⟩
  have h := HR.out.2.2
  have : decide (0 ≤ i) = memB xs v := by
    rw [Bool.eq_iff_iff, decide_eq_true_eq, h]
    simp [memB, List.contains_iff_exists_mem_beq]
  simpa using this
def inV (w : World) (mb : Nat) (V : List Int) : Prop := ∃ A c, w.cell? ⟨mb, 0, none⟩ = some (.slice A V.length c) ∧ RdI w A V ∧ V.length ≤ 9223372036854775807
theorem closure_any (mb : Nat) (V : List Int) (n : Int) (w : World) (h : inV w mb V) :
    Calls Try.prog 72 #[.int .i64 n, .pointer (some ⟨mb, 0, none⟩)] w fun e w' => e = .returned (.bool (memB V n)) ∧ w = w' := by
  obtain ⟨A, c, hc, hr, hl⟩ := h
  have HR := Lib.hid hr
  clear hr
  go_enter Try.func72, Try.ntmps72
  go_wp2_with fail
  refine (Contains_any A c V n _ hl HR.out).mono ?_
  rintro e w' ⟨rfl, rfl⟩
  go_wp2_with fail
  go_ret
  exact ⟨rfl, rfl⟩
theorem IndexFunc_any (A : Option Addr) (c : Nat) (xs : List Int) (mb : Nat) (V : List Int) (w : World) (hs : xs.length ≤ 9223372036854775807) (hx : RdI w A xs) (hV : inV w mb V) :
    Calls Try.prog 79 #[.slice A xs.length c, .func (.func 72) #[] #[.pointer (some ⟨mb, 0, none⟩)]] w fun e w' => e = .returned (.int .i64 (idxG (fun x => memB V x) 0 xs)) ∧ w = w' := by
  have HX := Lib.hid hx
  have HV := Lib.hid hV
  clear hx hV
  go_enter Try.func79, Try.ntmps79
  go_wp2
  go_loop [8] (fun i => ∃ k : Nat, k ≤ xs.length ∧ i = .int .i64 k ∧ Hid (idxG (fun x => memB V x) 0 xs = idxG (fun x => memB V x) k (xs.drop k))) (fun i => xs.length - (intOf i).toNat)
  case atStart => exact ⟨0, Nat.zero_le _, rfl, rfl⟩
  case round =>
    obtain ⟨k, hk, rfl, he⟩ := hrel
    by_cases hlt : k < xs.length
    · obtain ⟨b, off, sp, rfl, hc⟩ := HX.out.at k hlt
      have HD : Hid (xs.drop k = xs[k] :: xs.drop (k + 1)) := List.drop_eq_getElem_cons hlt
      generalize hy : xs[k] = y at *
      clear hy
      go_wp2_with fail
      refine (closure_any mb V y _ HV.out).mono ?_
      rintro e w' ⟨rfl, rfl⟩
      by_cases h1 : memB V y = true
      · have HF : Hid (idxG (fun x => memB V x) 0 xs = k) := by
          show _ = _
          rw [he.out, HD.out, idxG, if_pos h1]
        rw [h1]
        clear h1
        go_wp2
        go_ret
        rw [HF.out]
        exact ⟨rfl, rfl⟩
      · have HF : Hid (idxG (fun x => memB V x) 0 xs = idxG (fun x => memB V x) (k + 1) (xs.drop (k + 1))) := by
          show _ = _
          rw [he.out, HD.out, idxG, if_neg h1]
        rw [Bool.not_eq_true _ |>.mp h1]
        clear h1
        go_wp2
        go_round
        case rel => exact ⟨k + 1, by omega, by go_num, HF⟩
        case measure => simp [intOf]; omega
    · obtain rfl : k = xs.length := by omega
      have HF : Hid (idxG (fun x => memB V x) 0 xs = -1) := by
        show _ = _
        rw [he.out, List.drop_length]
        rfl
      go_wp2
      go_ret
      rw [HF.out]
      exact ⟨rfl, rfl⟩
theorem ContainsFunc_any (A : Option Addr) (c : Nat) (xs : List Int) (mb : Nat) (V : List Int) (w : World) (hs : xs.length ≤ 9223372036854775807) (hx : RdI w A xs) (hV : inV w mb V) :
    Calls Try.prog 71 #[.slice A xs.length c, .func (.func 72) #[] #[.pointer (some ⟨mb, 0, none⟩)]] w fun e w' => e = .returned (.bool (xs.any (fun x => memB V x))) ∧ w = w' := by
  have HX := Lib.hid hx
  have HV := Lib.hid hV
  clear hx hV
  have HR := Lib.hid (idxG_range (fun x => memB V x) xs 0)
  go_enter Try.func71, Try.ntmps71
  go_wp2_with fail
  refine (IndexFunc_any A c xs mb V _ hs HX.out HV.out).mono ?_
  rintro e w' ⟨rfl, rfl⟩
  generalize hi : idxG (fun x => memB V x) 0 xs = i at *
  have HI := Lib.hid hi
  clear hi
  go_wp2_with fail
  go_ret
  refine ⟨?_, rfl⟩
  have h := HR.out.2.2
  have : decide (0 ≤ i) = xs.any (fun x => memB V x) := by
    rw [Bool.eq_iff_iff, decide_eq_true_eq, h]
  simpa using this
end Go.Proofs.Ytapgknaoieojkaa.Toll
