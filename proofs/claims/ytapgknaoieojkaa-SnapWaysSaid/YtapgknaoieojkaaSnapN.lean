/- Walk: snap.name. -/
import Derived.Test.YtapgknaoieojkaaNames
set_option linter.unusedVariables false
set_option linter.unusedSimpArgs false
set_option maxRecDepth 100000
namespace Go.Proofs.Ytapgknaoieojkaa.Toll
open Go.RowKit
/-- The digits of a number, none of 0. -/
def digs : Nat → Nat → List UInt8
  | 0, _ => []
  | k + 1, n => if n = 0 then [] else digs k (n / 10) ++ [UInt8.ofNat (48 + n % 10)]
theorem digs_more : ∀ (k n m : Nat), n < 10 ^ k → digs (k + m) n = digs k n
  | 0, n, m, h => by
    have : n = 0 := by omega
    subst this
    cases m <;> simp [digs]
  | k + 1, n, m, h => by
    rw [show k + 1 + m = (k + m) + 1 by omega]
    unfold digs
    split
    · rfl
    · rw [digs_more k (n / 10) m (by rw [Nat.pow_succ] at h; omega)]
def snapB : List UInt8 := [115, 110, 97, 112, 45]
/-- snap.name. -/
def nameF (n : Nat) : List UInt8 := snapB ++ digs 13 n
theorem digs_len : ∀ k n, (digs k n).length ≤ k
  | 0, _ => Nat.le_refl _
  | k + 1, n => by
    unfold digs
    split
    · simp
    · have := digs_len k (n / 10)
      simp
      omega
theorem enc_digit (x : Int) (h0 : 0 ≤ x) (h1 : x < 10) : Utf8.encode (48 + x) = ⟨#[UInt8.ofNat (48 + x.toNat)]⟩ := by
  obtain ⟨k, rfl⟩ := Int.eq_ofNat_of_zero_le h0
  have hk : k < 10 := by omega
  match k, hk with
  | 0, _ => rfl | 1, _ => rfl | 2, _ => rfl | 3, _ => rfl | 4, _ => rfl | 5, _ => rfl | 6, _ => rfl | 7, _ => rfl | 8, _ => rfl | 9, _ => rfl
theorem ba_append (a b : List UInt8) : (⟨a.toArray⟩ : ByteArray) ++ (⟨b.toArray⟩ : ByteArray) = ⟨(a ++ b).toArray⟩ := by
  apply ByteArray.ext
  simp
theorem enc_nat (m : Nat) : Utf8.encode (48 + (m : Int) % 10) = ⟨[UInt8.ofNat (48 + m % 10)].toArray⟩ := by
  have hen := enc_digit ((m : Int) % 10) (by omega) (by omega)
  rw [hen, show ((m : Int) % 10).toNat = m % 10 by omega]
theorem enc_size (m : Nat) : (Utf8.encode (48 + (m : Int) % 10)).size = 1 := by
  rw [enc_nat]
  rfl
structure DigEq (m : Nat) (l : List UInt8) (n : Nat) : Prop where
  eq : digs 13 m ++ l = digs 13 n
theorem DigEq.len {m : Nat} {l : List UInt8} {n : Nat} (h : DigEq m l n) : l.length ≤ 13 := by
  have := digs_len 13 n
  rw [← h.eq] at this
  simp at this
  omega
theorem DigEq.fin {l : List UInt8} {n : Nat} (h : DigEq 0 l n) : (⟨snapB.toArray⟩ : ByteArray) ++ ⟨l.toArray⟩ = ⟨(nameF n).toArray⟩ := by
  have : digs 13 n = l := by rw [← h.eq]; simp [digs]
  rw [ba_append, nameF, this]
theorem name_step (m : Nat) (l : List UInt8) (n : Nat) (hm : m ≤ 1099511627776) (h0 : ¬ m = 0) (hd : DigEq m l n) : DigEq (m / 10) (UInt8.ofNat (48 + m % 10) :: l) n := by
  constructor
  rw [← hd.eq]
  have h1 : digs 13 m = digs 14 m := (digs_more 13 m 1 (by omega)).symm
  rw [h1]
  show _ = digs (13 + 1) m ++ l
  conv => rhs; unfold digs
  rw [if_neg h0]
  simp
theorem name_any (n : Nat) (w : World) (hn : n ≤ 1099511627776) :
    Calls Try.prog 39 #[.int .i64 (n : Int)] w fun e w' => e = .returned (.string ⟨(nameF n).toArray⟩) ∧ w = w' := by
  go_enter Try.func39, Try.ntmps39
  go_wp2
  go_loop [0, 3] (fun a s => ∃ (m : Nat) (l : List UInt8), a = .int .i64 (m : Int) ∧ m ≤ 1099511627776 ∧ s = .string ⟨l.toArray⟩ ∧ DigEq m l n) (fun a _ => (intOf a).toNat)
  case atStart => exact ⟨n, [], rfl, hn, rfl, ⟨List.append_nil _⟩⟩
  case round =>
    obtain ⟨m, l, rfl, hm, rfl, hd⟩ := hrel
    have hl := hd.len
    have HD := Lib.hid hd
    clear hd
    by_cases h0 : m = 0
    · subst h0
      go_wp2
      go_ret
      refine ⟨?_, rfl⟩
      exact congrArg (fun b => Ending.returned (Value.string b)) HD.out.fin
    · have h0' : decide (0 < (m : Int)) = true := by simp; omega
      go_wp2
      · exfalso
        have := enc_size m
        omega
      refine ⟨⟨m / 10, UInt8.ofNat (48 + m % 10) :: l, rfl, by omega, ?_, name_step m l n hm h0 HD.out⟩, ?_⟩
      · rw [enc_nat]
        exact congrArg Value.string (ba_append [_] l)
      · show ((m : Int) / 10).toNat < ((m : Int)).toNat
        omega
end Go.Proofs.Ytapgknaoieojkaa.Toll
