/- Walks: snap.mark, snap.row. -/
import Derived.Test.YtapgknaoieojkaaMemG
set_option linter.unusedVariables false
set_option linter.unusedSimpArgs false
set_option maxRecDepth 100000
namespace Go.Proofs.Ytapgknaoieojkaa.Toll
open Go.RowKit
/-- snap.mark of the bytes from a place on. -/
def markF (ys : List UInt8) : Except Int (Nat × Nat) := match takeF ys with
  | .error e => .error e
  | .ok (n, m) => if n = 0 then .error 4 else .ok (n, m)
theorem mark_ok (A : Option Addr) (c : Nat) (xs : List UInt8) (q : Int) (p n m : Nat) (w : World) (hs : xs.length ≤ 9223372036854775807) (hq : q = (p : Int)) (hat : p ≤ xs.length) (hx : RdB w A xs) (h : markF (xs.drop p) = .ok (n, m)) :
    Calls Try.prog 32 #[.slice A xs.length c, .int .i64 q] w fun e w' => e = .returned (.tuple #[.int .i64 (n : Int), .int .i64 (q + (m : Int)), .int .i64 0]) ∧ w = w' := by
  obtain ⟨h1, h0⟩ : takeF (xs.drop p) = .ok (n, m) ∧ n ≠ 0 := by
    unfold markF at h
    split at h
    · cases h
    · split at h
      · cases h
      · injection h with h; injection h with e1 e2; subst e1; subst e2
        exact ⟨‹_›, ‹_›⟩
  subst hq
  have HX := Lib.hid hx
  have H1 := Lib.hid h1
  have h0' : ((n : Int) == 0) = false := by simp; omega
  clear hx h1 h h0
  go_enter Try.func32, Try.ntmps32
  go_wp2_with fail
  refine (take_ok A c xs _ p n m _ hs rfl hat HX.out H1.out).mono ?_
  rintro e w' ⟨rfl, rfl⟩
  go_wp2_with fail
  go_ret3
  exact ⟨rfl, rfl⟩
theorem mark_err (A : Option Addr) (c : Nat) (xs : List UInt8) (q : Int) (p : Nat) (k : Int) (w : World) (hs : xs.length ≤ 9223372036854775807) (hq : q = (p : Int)) (hat : p ≤ xs.length) (hx : RdB w A xs) (h : markF (xs.drop p) = .error k) :
    Calls Try.prog 32 #[.slice A xs.length c, .int .i64 q] w fun e w' => ∃ a b, e = .returned (.tuple #[.int .i64 a, .int .i64 b, .int .i64 k]) ∧ w = w' := by
  subst hq
  have HX := Lib.hid hx
  clear hx
  cases h1 : takeF (xs.drop p) with
  | error e1 =>
    have hk : k = e1 := by simp only [markF, h1] at h; injection h with h; exact h.symm
    subst hk
    have hne := takeF_err h1
    have H1 := Lib.hid h1
    have h0' : (k == 0) = false := by simp; omega
    clear h1 h
    go_enter Try.func32, Try.ntmps32
    go_wp2_with fail
    refine (take_err A c xs _ p k _ hs rfl hat HX.out H1.out).mono ?_
    rintro e w' ⟨rfl, rfl⟩
    go_wp2_with fail
    go_ret3
    exact ⟨_, _, rfl, rfl⟩
  | ok r =>
    obtain ⟨n, m⟩ := r
    obtain ⟨rfl, rfl⟩ : n = 0 ∧ k = 4 := by
      simp only [markF, h1] at h
      split at h
      · injection h with h; exact ⟨‹_›, h.symm⟩
      · cases h
    have H1 := Lib.hid h1
    clear h1 h
    go_enter Try.func32, Try.ntmps32
    go_wp2_with fail
    refine (take_ok A c xs _ p 0 m _ hs rfl hat HX.out H1.out).mono ?_
    rintro e w' ⟨rfl, rfl⟩
    go_wp2_with fail
    go_ret3
    exact ⟨_, _, rfl, rfl⟩
theorem markF_le {ys : List UInt8} {n m : Nat} (h : markF ys = .ok (n, m)) : 0 < n ∧ takeF ys = .ok (n, m) := by
  unfold markF at h
  split at h
  · cases h
  · split at h
    · cases h
    · injection h with h; injection h with e1 e2; subst e1; subst e2
      exact ⟨by omega, ‹_›⟩
theorem markF_err {ys : List UInt8} {e : Int} (h : markF ys = .error e) : e = 3 ∨ e = 4 ∨ e = 6 := by
  unfold markF at h
  split at h
  · injection h with h; subst h; exact takeF_err ‹_›
  · split at h
    · injection h with h; omega
    · cases h
/-- snap.row of the bytes from a place on, at a limit: its bytes' place and number. -/
def rowF (ys : List UInt8) (lim : Nat) : Except Int (Nat × Nat) := match takeF ys with
  | .error e => .error e
  | .ok (n, m) => if lim < n then .error 6 else if ys.length - m < n then .error 3 else .ok (m, n)
theorem rowF_le {ys : List UInt8} {lim m n : Nat} (h : rowF ys lim = .ok (m, n)) : takeF ys = .ok (n, m) ∧ n ≤ lim ∧ m + n ≤ ys.length := by
  unfold rowF at h
  split at h
  · cases h
  · rename_i n' m' hn
    have := takeF_le hn
    split at h
    · cases h
    · split at h
      · cases h
      · injection h with h; injection h with e1 e2; subst e1; subst e2
        exact ⟨hn, by omega, by omega⟩
theorem rowF_err {ys : List UInt8} {lim : Nat} {e : Int} (h : rowF ys lim = .error e) : e = 3 ∨ e = 4 ∨ e = 6 := by
  unfold rowF at h
  split at h
  · injection h with h; subst h; exact takeF_err ‹_›
  · split at h
    · injection h with h; omega
    · split at h
      · injection h with h; omega
      · cases h
theorem row_ok (A : Option Addr) (c : Nat) (xs : List UInt8) (q : Int) (p : Nat) (L : Int) (lim n m : Nat) (w : World) (hs : xs.length ≤ 9223372036854775807) (hcap : xs.length ≤ c) (hq : q = (p : Int)) (hL : L = (lim : Int)) (hat : p ≤ xs.length) (hx : RdB w A xs) (h : rowF (xs.drop p) lim = .ok (m, n)) :
    Calls Try.prog 33 #[.slice A xs.length c, .int .i64 q, .int .i64 L] w fun e w' => e = .returned (.tuple #[.slice (offA A (p + m) (p + m + n)) n n, .int .i64 (q + (m : Int) + (n : Int)), .int .i64 0]) ∧ w = w' := by
  obtain ⟨h1, h2, h3⟩ := rowF_le h
  rw [List.length_drop] at h3
  have HX := Lib.hid hx
  have H1 := Lib.hid h1
  have hsl := slice_lhm A xs.length c (p + m) (p + m + n) (p + m + n) (by omega) (by omega) (by omega)
  rw [show p + m + n - (p + m) = n by omega] at hsl
  subst hq
  subst hL
  rw [show (((p + m + n : Nat)) : Int) = (p : Int) + (m : Int) + (n : Int) by omega, show (((p + m : Nat)) : Int) = (p : Int) + (m : Int) by omega] at hsl
  clear hx h1 h
  go_enter Try.func33, Try.ntmps33
  go_wp2_with fail
  refine (take_ok A c xs _ p n m _ hs rfl hat HX.out H1.out).mono ?_
  rintro e w' ⟨rfl, rfl⟩
  go_wp2_with fail
  go_ret3
  exact ⟨rfl, rfl⟩
theorem row_err (A : Option Addr) (c : Nat) (xs : List UInt8) (q : Int) (p : Nat) (L : Int) (lim : Nat) (k : Int) (w : World) (hs : xs.length ≤ 9223372036854775807) (hq : q = (p : Int)) (hL : L = (lim : Int)) (hat : p ≤ xs.length) (hx : RdB w A xs) (h : rowF (xs.drop p) lim = .error k) :
    Calls Try.prog 33 #[.slice A xs.length c, .int .i64 q, .int .i64 L] w fun e w' => e = .returned (.tuple #[.slice none 0 0, .int .i64 0, .int .i64 k]) ∧ w = w' := by
  have HX := Lib.hid hx
  subst hq
  subst hL
  clear hx
  cases h1 : takeF (xs.drop p) with
  | error e1 =>
    have hk : k = e1 := by simp only [rowF, h1] at h; injection h with h; exact h.symm
    subst hk
    have hne := takeF_err h1
    have H1 := Lib.hid h1
    have h0' : (k != 0) = true := by simp; omega
    clear h1 h
    go_enter Try.func33, Try.ntmps33
    go_wp2_with fail
    refine (take_err A c xs _ p k _ hs rfl hat HX.out H1.out).mono ?_
    rintro e w' ⟨rfl, rfl⟩
    go_wp2_with fail
    go_ret3
    exact ⟨rfl, rfl⟩
  | ok r =>
    obtain ⟨n, m⟩ := r
    have hm := takeF_le h1
    have hml : p + m ≤ xs.length := by have := hm.2.1; simp at this; omega
    have H1 := Lib.hid h1
    simp only [rowF, h1] at h
    by_cases hl : lim < n
    · obtain rfl : k = 6 := by rw [if_pos hl] at h; injection h with h; exact h.symm
      clear h1 h
      go_enter Try.func33, Try.ntmps33
      go_wp2_with fail
      refine (take_ok A c xs _ p n m _ hs rfl hat HX.out H1.out).mono ?_
      rintro e w' ⟨rfl, rfl⟩
      go_wp2_with fail
      go_ret3
      exact ⟨rfl, rfl⟩
    · rw [if_neg hl, List.length_drop] at h
      have hsh : xs.length - p - m < n := by
        by_cases hsh : xs.length - p - m < n
        · exact hsh
        · rw [if_neg hsh] at h; cases h
      obtain rfl : k = 3 := by rw [if_pos hsh] at h; injection h with h; exact h.symm
      clear h1 h
      go_enter Try.func33, Try.ntmps33
      go_wp2_with fail
      refine (take_ok A c xs _ p n m _ hs rfl hat HX.out H1.out).mono ?_
      rintro e w' ⟨rfl, rfl⟩
      go_wp2_with fail
      go_ret3
      exact ⟨rfl, rfl⟩
end Go.Proofs.Ytapgknaoieojkaa.Toll
