/- CRC and frames: what is framed is told back; a byte that turns, and a cut, is told. Plain. -/
import Derived.Test.YtapgknaoieojkaaFrameN
import Derived.Laws.BitsAllLaws
import Derived.Laws.BitsLemmas
set_option linter.unusedVariables false
set_option linter.unusedSimpArgs false
namespace Go.Proofs.Ytapgknaoieojkaa.Toll
open Go.RowKit
def R32 (r : Int) : Prop := 0 ≤ r ∧ r < 4294967296
theorem R32.nat {r : Int} (h : R32 r) : ∃ n : Nat, r = n ∧ n < 4294967296 := ⟨r.toNat, by have := h.1; omega, by have := h.2; omega⟩
theorem bits_R32 (op : BinOp) (a b : Int) : R32 (bits op .u32 a b) := bits32_range op a b
theorem R32.ofNat {n : Nat} (h : n < 4294967296) : R32 (n : Int) := ⟨by omega, by omega⟩
theorem xor_cancel (a b c : Nat) (h : a ^^^ c = b ^^^ c) : a = b := by
  have := congrArg (· ^^^ c) h
  simpa [Nat.xor_assoc] using this
def nb (n : Nat) : Nat := if n % 2 = 1 then n / 2 ^^^ 3988292384 else n / 2
theorem crcBit_nat (n : Nat) (h : n < 4294967296) : crcBit (n : Int) = (nb n : Int) := by
  have h1 : bits .and .u32 (n : Int) 1 = ((n % 2 : Nat) : Int) := by
    have := u32_and_nat n 1 h (by omega)
    rw [Nat.and_one_is_mod] at this
    exact this
  unfold crcBit nb
  rw [h1]
  by_cases h2 : n % 2 = 1
  · rw [if_pos (by omega), if_pos h2]
    exact u32_xor_nat (n / 2) 3988292384 (by omega) (by omega)
  · rw [if_neg (by omega), if_neg h2]
    omega
theorem nb_lt (n : Nat) (h : n < 4294967296) : nb n < 4294967296 := by
  unfold nb
  split
  · exact Nat.xor_lt_two_pow (n := 32) (by omega) (by omega)
  · omega
theorem nb_top (n : Nat) (h : n < 4294967296) : (nb n).testBit 31 = decide (n % 2 = 1) := by
  have h1 : (n / 2).testBit 31 = false := Nat.testBit_lt_two_pow (by omega)
  unfold nb
  by_cases h2 : n % 2 = 1
  · rw [if_pos h2, Nat.testBit_xor, h1, decide_eq_true h2]
    decide
  · rw [if_neg h2, h1, decide_eq_false h2]
theorem nb_inj (a b : Nat) (ha : a < 4294967296) (hb : b < 4294967296) (h : nb a = nb b) : a = b := by
  have ht := nb_top a ha
  rw [h, nb_top b hb] at ht
  have hp : a % 2 = b % 2 := by
    by_cases h1 : a % 2 = 1
    · rw [decide_eq_true h1] at ht
      have := of_decide_eq_true ht
      omega
    · rw [decide_eq_false h1] at ht
      have := of_decide_eq_false ht
      omega
  unfold nb at h
  by_cases h1 : a % 2 = 1
  · rw [if_pos h1, if_pos (by omega)] at h
    have := xor_cancel _ _ _ h
    omega
  · rw [if_neg h1, if_neg (by omega)] at h
    omega
theorem crcBit_R32 {r : Int} (h : R32 r) : R32 (crcBit r) := by
  obtain ⟨n, rfl, hn⟩ := h.nat
  rw [crcBit_nat n hn]
  exact R32.ofNat (nb_lt n hn)
theorem crcBit_inj {r s : Int} (hr : R32 r) (hs : R32 s) (h : crcBit r = crcBit s) : r = s := by
  obtain ⟨n, rfl, hn⟩ := hr.nat
  obtain ⟨m, rfl, hm⟩ := hs.nat
  rw [crcBit_nat n hn, crcBit_nat m hm] at h
  rw [nb_inj n m hn hm (by omega)]
theorem crcBits_R32 : ∀ (k : Nat) {r : Int}, R32 r → R32 (crcBits k r)
  | 0, _, h => h
  | k + 1, _, h => crcBit_R32 (crcBits_R32 k h)
theorem crcBits_inj : ∀ (k : Nat) {r s : Int}, R32 r → R32 s → crcBits k r = crcBits k s → r = s
  | 0, _, _, _, _, h => h
  | k + 1, _, _, hr, hs, h => crcBits_inj k hr hs (crcBit_inj (crcBits_R32 k hr) (crcBits_R32 k hs) h)
theorem xor_inj_r {a b c : Int} (ha : R32 a) (hb : R32 b) (hc : R32 c) (h : bits .xor .u32 a c = bits .xor .u32 b c) : a = b := by
  obtain ⟨x, rfl, hx⟩ := ha.nat
  obtain ⟨y, rfl, hy⟩ := hb.nat
  obtain ⟨z, rfl, hz⟩ := hc.nat
  rw [u32_xor_nat x z hx hz, u32_xor_nat y z hy hz] at h
  rw [xor_cancel x y z (by omega)]
theorem xor_inj_l {a b c : Int} (ha : R32 a) (hb : R32 b) (hc : R32 c) (h : bits .xor .u32 c a = bits .xor .u32 c b) : a = b := by
  obtain ⟨x, rfl, hx⟩ := ha.nat
  obtain ⟨y, rfl, hy⟩ := hb.nat
  obtain ⟨z, rfl, hz⟩ := hc.nat
  rw [u32_xor_nat z x hz hx, u32_xor_nat z y hz hy, Nat.xor_comm z x, Nat.xor_comm z y] at h
  rw [xor_cancel x y z (by omega)]
theorem byte_R32 (c : UInt8) : R32 ((c.toNat : Int) % 4294967296) := ⟨by omega, by omega⟩
theorem crcByte_R32 (r : Int) (c : UInt8) : R32 (crcByte r c) := crcBits_R32 8 (bits_R32 _ _ _)
theorem crcByte_inj_r {r s : Int} {c : UInt8} (hr : R32 r) (hs : R32 s) (h : crcByte r c = crcByte s c) : r = s :=
  xor_inj_r hr hs (byte_R32 c) (crcBits_inj 8 (bits_R32 _ _ _) (bits_R32 _ _ _) h)
theorem crcByte_inj_c {r : Int} {c d : UInt8} (hr : R32 r) (h : crcByte r c = crcByte r d) : c = d := by
  have h1 := xor_inj_l (byte_R32 c) (byte_R32 d) hr (crcBits_inj 8 (bits_R32 _ _ _) (bits_R32 _ _ _) h)
  have hc := c.toNat_lt
  have hd := d.toNat_lt
  exact UInt8.toNat_inj.1 (by omega)
theorem crcAll_R32 (xs : List UInt8) : ∀ {r : Int}, R32 r → R32 (crcAll r xs) := by
  induction xs with
  | nil => intro r h; exact h
  | cons c t ih => intro r h; exact ih (crcByte_R32 r c)
theorem crcAll_inj (xs : List UInt8) : ∀ {r s : Int}, R32 r → R32 s → crcAll r xs = crcAll s xs → r = s := by
  induction xs with
  | nil => intro r s _ _ h; exact h
  | cons c t ih => intro r s hr hs h; exact crcByte_inj_r hr hs (ih (crcByte_R32 r c) (crcByte_R32 s c) h)
theorem crcAll_turn (a b : List UInt8) (c d : UInt8) : ∀ {r : Int}, R32 r → crcAll r (a ++ c :: b) = crcAll r (a ++ d :: b) → c = d := by
  induction a with
  | nil => intro r hr h; exact crcByte_inj_c hr (crcAll_inj b (crcByte_R32 r c) (crcByte_R32 r d) h)
  | cons x a ih => intro r hr h; exact ih (crcByte_R32 r x) h
theorem max_R32 : R32 IntKind.u32.max := by
  have e : IntKind.u32.max = 4294967295 := by decide
  rw [e]
  exact ⟨by omega, by omega⟩
theorem crc_turn (s : Int) (a b : List UInt8) (c d : UInt8) (h : crc s (a ++ c :: b) = crc s (a ++ d :: b)) : c = d := by
  unfold crc at h
  have hs := bits_R32 .xor IntKind.u32.max s
  exact crcAll_turn a b c d hs (xor_inj_l (crcAll_R32 _ hs) (crcAll_R32 _ hs) max_R32 h)
theorem getStep_eq (n : Int) (c : UInt8) (h0 : 0 ≤ n) (h1 : n < 16777216) : getStep n c = n * 256 + c.toNat := by
  have hc := c.toNat_lt
  unfold getStep
  rw [IntKind.wrap_u32', show (c.toNat : Int) % 4294967296 = c.toNat by omega, show n * 256 % 4294967296 = n * 256 by omega]
  exact bits_join .u32 32 (by decide) (fun n h0 h1 => by rw [IntKind.wrap_u32']; omega) 8 (n * 256) c.toNat (by omega) (by omega) (by omega) (by omega) (by omega) (by omega)
theorem get4_four (a b c d : UInt8) (t : List UInt8) : get4 (a :: b :: c :: d :: t) = a.toNat * 16777216 + b.toNat * 65536 + c.toNat * 256 + d.toNat := by
  have ha := a.toNat_lt
  have hb := b.toNat_lt
  have hc := c.toNat_lt
  have hd := d.toNat_lt
  unfold get4
  simp only [List.take_succ_cons, List.take_zero, List.foldl_cons, List.foldl_nil]
  rw [getStep_eq 0 a (by omega) (by omega), getStep_eq _ b (by omega) (by omega), getStep_eq _ c (by omega) (by omega), getStep_eq _ d (by omega) (by omega)]
  omega
theorem get4_be4 (x : Int) (h : R32 x) (t : List UInt8) : get4 (be4 x ++ t) = x := by
  obtain ⟨h0, h1⟩ := h
  unfold be4
  rw [List.cons_append, List.cons_append, List.cons_append, List.cons_append, get4_four, ofNat_mod, ofNat_mod, ofNat_mod, ofNat_mod]
  omega
theorem be4_four (a b c d : UInt8) : be4 (a.toNat * 16777216 + b.toNat * 65536 + c.toNat * 256 + d.toNat) = [a, b, c, d] := by
  have ha := a.toNat_lt
  have hb := b.toNat_lt
  have hc := c.toNat_lt
  have hd := d.toNat_lt
  have e : ∀ (y : Int) (z : UInt8), (y % 256).toNat = z.toNat → UInt8.ofNat (y % 256).toNat = z := fun y z h => by rw [h]; simp
  unfold be4
  rw [e _ a (by omega), e _ b (by omega), e _ c (by omega), e _ d (by omega)]
theorem be4_length (x : Int) : (be4 x).length = 4 := rfl
/-- What is framed is told back. -/
theorem nextF_frame (b : List UInt8) (hb : b.length ≤ 65536) : nextF (frameOf b) = .ok b := by
  have hlen : (frameOf b).length = 8 + b.length := by simp [frameOf, be4_length]; omega
  have hg : get4 (frameOf b) = b.length := by unfold frameOf; rw [List.append_assoc]; exact get4_be4 _ ⟨by omega, by omega⟩ _
  have h4 : (frameOf b).take 4 = be4 b.length := by unfold frameOf; rw [List.append_assoc]; exact List.take_left' rfl
  have hd4 : (frameOf b).drop 4 = be4 (crc (crc 0 (be4 b.length)) b) ++ b := by unfold frameOf; rw [List.append_assoc]; exact List.drop_left' rfl
  have hd8 : (frameOf b).drop 8 = b := by unfold frameOf; exact List.drop_left' rfl
  unfold nextF
  rw [hg, h4, hd4, hd8, hlen, get4_be4 _ (crc_range _ _), if_neg (by omega), if_neg (by omega), if_neg (by omega), show ((b.length : Int)).toNat = b.length by omega, List.take_of_length_le (Nat.le_refl _), if_pos rfl]
theorem eight (xs : List UInt8) (h : 8 ≤ xs.length) : ∃ a b c d e f g i t, xs = a :: b :: c :: d :: e :: f :: g :: i :: t := by
  match xs, h with
  | a :: b :: c :: d :: e :: f :: g :: i :: t, _ => exact ⟨a, b, c, d, e, f, g, i, t, rfl⟩
theorem frame_eight (a b c d e f g i : UInt8) (t : List UInt8) (h1 : (a.toNat * 16777216 + b.toNat * 65536 + c.toNat * 256 + d.toNat : Int) = t.length)
    (h2 : crc (crc 0 [a, b, c, d]) t = e.toNat * 16777216 + f.toNat * 65536 + g.toNat * 256 + i.toNat) : a :: b :: c :: d :: e :: f :: g :: i :: t = frameOf t := by
  unfold frameOf
  rw [← h1, be4_four, h2, be4_four]
  rfl
/-- Nothing else is a frame. -/
theorem frame_nextF (xs p : List UInt8) (h : nextF xs = .ok p) (hl : ¬ 8 + p.length < xs.length) : xs = frameOf p := by
  unfold nextF at h
  split at h
  · cases h
  rename_i h8
  split at h
  · cases h
  split at h
  · cases h
  rename_i hs
  split at h
  · rename_i hc
    injection h with h
    obtain ⟨a, b, c, d, e, f, g, i, t, rfl⟩ := eight xs (by omega)
    rw [h] at hc
    have d8 : (a :: b :: c :: d :: e :: f :: g :: i :: t).drop 8 = t := rfl
    have d4 : (a :: b :: c :: d :: e :: f :: g :: i :: t).drop 4 = e :: f :: g :: i :: t := rfl
    have t4 : (a :: b :: c :: d :: e :: f :: g :: i :: t).take 4 = [a, b, c, d] := rfl
    have hg := get4_four a b c d (e :: f :: g :: i :: t)
    rw [d8] at h
    rw [d4, t4, get4_four] at hc
    rw [hg] at h hs
    have hL : (a :: b :: c :: d :: e :: f :: g :: i :: t).length = t.length + 8 := rfl
    rw [hL] at hs hl
    clear h8 hg d8 d4 t4 hL
    have ha := a.toNat_lt
    have hb := b.toNat_lt
    have hcc := c.toNat_lt
    have hd := d.toNat_lt
    generalize hN : (a.toNat * 16777216 + b.toNat * 65536 + c.toNat * 256 + d.toNat : Int) = N at *
    have h2 := congrArg List.length h
    rw [List.length_take] at h2
    have hp : p = t := by
      rw [← h]
      exact List.take_of_length_le (by omega)
    subst hp
    refine frame_eight a b c d e f g i p ?_ hc
    rw [hN]
    omega
  · cases h
/-- A byte behind the first four that turns is told. -/
theorem nextF_turn (b : List UInt8) (hb : b.length ≤ 65536) (j : Nat) (hj : 4 ≤ j) (hl : j < (frameOf b).length) (c : UInt8) (hc : c ≠ (frameOf b)[j]) : nextF ((frameOf b).set j c) = .error 5 := by
  obtain ⟨s, hs⟩ : ∃ s, s = crc (crc 0 (be4 b.length)) b := ⟨_, rfl⟩
  have hsr : R32 s := by rw [hs]; exact crc_range _ _
  have hF : frameOf b = be4 b.length ++ (be4 s ++ b) := by unfold frameOf; rw [← hs, List.append_assoc]
  have hL : (frameOf b).length = 8 + b.length := by rw [hF]; simp [be4_length]; omega
  obtain ⟨i, rfl⟩ : ∃ i, j = 4 + i := ⟨j - 4, by omega⟩
  have hset : (frameOf b).set (4 + i) c = be4 b.length ++ (be4 s ++ b).set i c := by
    rw [hF, List.set_append_right _ _ (by rw [be4_length]; omega), be4_length, show 4 + i - 4 = i by omega]
  have hget : (frameOf b)[4 + i] = (be4 s ++ b)[i]'(by simp [be4_length]; omega) := by
    simp only [hF]
    rw [List.getElem_append_right (by rw [be4_length]; omega)]
    simp only [be4_length, show 4 + i - 4 = i by omega]
  rw [hget] at hc
  rw [hset]
  have hg : get4 (be4 (b.length : Int) ++ (be4 s ++ b).set i c) = b.length := get4_be4 _ ⟨by omega, by omega⟩ _
  have h4 : (be4 (b.length : Int) ++ (be4 s ++ b).set i c).take 4 = be4 b.length := List.take_left' rfl
  have hd4 : (be4 (b.length : Int) ++ (be4 s ++ b).set i c).drop 4 = (be4 s ++ b).set i c := List.drop_left' rfl
  have hd8 : (be4 (b.length : Int) ++ (be4 s ++ b).set i c).drop 8 = ((be4 s ++ b).set i c).drop 4 := by
    have := congrArg (List.drop 4) hd4
    rwa [List.drop_drop] at this
  have hl8 : (be4 (b.length : Int) ++ (be4 s ++ b).set i c).length = 8 + b.length := by simp [be4_length]; omega
  unfold nextF
  rw [hg, h4, hd4, hd8, hl8, if_neg (by omega), if_neg (by omega), if_neg (by omega), show ((b.length : Int)).toNat = b.length by omega]
  refine if_neg (fun he => ?_)
  by_cases hi : i < 4
  · rw [List.set_append_left _ _ (by rw [be4_length]; omega)] at he
    have hdb : ((be4 s).set i c ++ b).drop 4 = b := List.drop_left' (by simp [be4_length])
    rw [hdb, List.take_of_length_le (Nat.le_refl _), ← hs] at he
    rw [List.getElem_append_left (by rw [be4_length]; omega)] at hc
    obtain ⟨p, q, r, t, e⟩ : ∃ p q r t, be4 s = [p, q, r, t] := ⟨_, _, _, _, rfl⟩
    have hse := get4_be4 s hsr []
    simp only [e] at he hc hse
    have hq := c.toNat_lt
    have hp' := p.toNat_lt
    have hq' := q.toNat_lt
    have hr' := r.toNat_lt
    have ht' := t.toNat_lt
    rw [List.append_nil, get4_four] at hse
    obtain rfl | rfl | rfl | rfl : i = 0 ∨ i = 1 ∨ i = 2 ∨ i = 3 := by omega
    · simp only [List.set_cons_zero, List.cons_append, get4_four, List.getElem_cons_zero] at he hc
      exact hc (UInt8.toNat_inj.1 (by omega))
    · simp only [List.set_cons_succ, List.set_cons_zero, List.cons_append, get4_four, List.getElem_cons_succ, List.getElem_cons_zero] at he hc
      exact hc (UInt8.toNat_inj.1 (by omega))
    · simp only [List.set_cons_succ, List.set_cons_zero, List.cons_append, get4_four, List.getElem_cons_succ, List.getElem_cons_zero] at he hc
      exact hc (UInt8.toNat_inj.1 (by omega))
    · simp only [List.set_cons_succ, List.set_cons_zero, List.cons_append, get4_four, List.getElem_cons_succ, List.getElem_cons_zero] at he hc
      exact hc (UInt8.toNat_inj.1 (by omega))
  · obtain ⟨m, rfl⟩ : ∃ m, i = 4 + m := ⟨i - 4, by omega⟩
    have hm : m < b.length := by omega
    rw [List.set_append_right _ _ (by rw [be4_length]; omega), be4_length, show 4 + m - 4 = m by omega, get4_be4 s hsr] at he
    have hdb : (be4 s ++ b.set m c).drop 4 = b.set m c := List.drop_left' rfl
    rw [hdb, List.take_of_length_le (by simp), hs] at he
    rw [List.getElem_append_right (by rw [be4_length]; omega)] at hc
    simp only [be4_length, show 4 + m - 4 = m by omega] at hc
    have e1 : b.set m c = b.take m ++ c :: b.drop (m + 1) := by rw [List.set_eq_take_append_cons_drop, if_pos hm]
    have e2 : b = b.take m ++ b[m] :: b.drop (m + 1) := by simp
    rw [e1] at he
    conv at he => rhs; rw [e2]
    have e3 : ∀ l : List UInt8, l = b → crc (crc 0 (be4 (b.length : Int))) l = crc (crc 0 (be4 (l.length : Int))) l := fun l h => by rw [h]
    refine hc (crc_turn (crc 0 (be4 (b.length : Int))) (b.take m) (b.drop (m + 1)) c b[m] ?_)
    rw [he]
    have := e2.symm
    rw [this]
/-- A cut is told. -/
theorem nextF_cut (b : List UInt8) (hb : b.length ≤ 65536) (j : Nat) (hj : 4 ≤ j) (hl : j < (frameOf b).length) : nextF ((frameOf b).take j) = .error 3 := by
  have hlen : (frameOf b).length = 8 + b.length := by simp [frameOf, be4_length]; omega
  have hl2 : ((frameOf b).take j).length = j := by rw [List.length_take]; omega
  unfold nextF
  rw [hl2]
  by_cases h8 : j < 8
  · rw [if_pos h8]
  · have hg : get4 ((frameOf b).take j) = b.length := by
      unfold frameOf
      rw [List.append_assoc, List.take_append, be4_length]
      rw [List.take_of_length_le (by rw [be4_length]; omega)]
      exact get4_be4 _ ⟨by omega, by omega⟩ _
    rw [hg, if_neg h8, if_neg (by omega), if_pos (by omega)]
end Go.Proofs.Ytapgknaoieojkaa.Toll
