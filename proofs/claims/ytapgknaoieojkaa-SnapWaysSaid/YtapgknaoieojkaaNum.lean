/- Numbers as bytes: plain. -/
set_option linter.unusedVariables false
namespace Go.Proofs.Ytapgknaoieojkaa.Toll
/-- wire.number's bytes. -/
def numB (n : Nat) : List UInt8 := if h : n < 128 then [UInt8.ofNat n] else UInt8.ofNat (n % 128 + 128) :: numB (n / 128)
termination_by n
theorem numB_lt {n : Nat} (h : n < 128) : numB n = [UInt8.ofNat n] := by rw [numB, dif_pos h]
theorem numB_ge {n : Nat} (h : 128 ≤ n) : numB n = UInt8.ofNat (n % 128 + 128) :: numB (n / 128) := by rw [numB, dif_neg (by omega)]
/-- wire.TakeNumber from its k-th byte on. -/
def takeG : Nat → Nat → List UInt8 → Except Int (Nat × Nat)
  | _, _, [] => .error 3
  | k, acc, c :: t =>
    if 128 ≤ c.toNat then (if k + 1 = 6 then .error 6 else takeG (k + 1) (acc + (c.toNat % 128) * 2 ^ (7 * k)) t)
    else if c.toNat = 0 ∧ 0 < k then .error 4
    else if 1099511627776 < acc + (c.toNat % 128) * 2 ^ (7 * k) then .error 6
    else .ok (acc + (c.toNat % 128) * 2 ^ (7 * k), k + 1)
def takeF (ys : List UInt8) : Except Int (Nat × Nat) := takeG 0 0 ys
theorem takeG_nil (k acc : Nat) : takeG k acc [] = .error 3 := rfl
theorem takeG_big {k acc : Nat} {c : UInt8} {t : List UInt8} (h : 128 ≤ c.toNat) (hk : k = 5) : takeG k acc (c :: t) = .error 6 := by rw [takeG, if_pos h, if_pos (by omega)]
theorem takeG_more {k acc : Nat} {c : UInt8} {t : List UInt8} (h : 128 ≤ c.toNat) (hk : k ≠ 5) : takeG k acc (c :: t) = takeG (k + 1) (acc + (c.toNat % 128) * 2 ^ (7 * k)) t := by rw [takeG, if_pos h, if_neg (by omega)]
theorem takeG_form {k acc : Nat} {c : UInt8} {t : List UInt8} (h : c.toNat = 0) (hk : 0 < k) : takeG k acc (c :: t) = .error 4 := by rw [takeG, if_neg (by omega), if_pos ⟨h, hk⟩]
theorem takeG_limit {k acc : Nat} {c : UInt8} {t : List UInt8} (h : c.toNat < 128) (h0 : ¬ (c.toNat = 0 ∧ 0 < k)) (hl : 1099511627776 < acc + c.toNat * 2 ^ (7 * k)) : takeG k acc (c :: t) = .error 6 := by
  rw [takeG, if_neg (by omega), if_neg h0, Nat.mod_eq_of_lt h, if_pos hl]
theorem takeG_ok {k acc : Nat} {c : UInt8} {t : List UInt8} (h : c.toNat < 128) (h0 : ¬ (c.toNat = 0 ∧ 0 < k)) (hl : ¬ 1099511627776 < acc + c.toNat * 2 ^ (7 * k)) : takeG k acc (c :: t) = .ok (acc + c.toNat * 2 ^ (7 * k), k + 1) := by
  rw [takeG, if_neg (by omega), if_neg h0, Nat.mod_eq_of_lt h, if_neg hl]
theorem takeG_le : ∀ (ys : List UInt8) (k acc n m : Nat), takeG k acc ys = .ok (n, m) → k < m ∧ m ≤ k + ys.length ∧ n ≤ 1099511627776 ∧ (k ≤ 5 → m ≤ 6)
  | [], k, acc, n, m, h => by simp [takeG] at h
  | c :: t, k, acc, n, m, h => by
    unfold takeG at h
    split at h
    · split at h
      · cases h
      · have := takeG_le t (k + 1) _ n m h
        simp
        omega
    · split at h
      · cases h
      · split at h
        · cases h
        · simp only [Except.ok.injEq, Prod.mk.injEq] at h
          simp
          omega
theorem takeF_le {ys : List UInt8} {n m : Nat} (h : takeF ys = .ok (n, m)) : 0 < m ∧ m ≤ ys.length ∧ n ≤ 1099511627776 ∧ m ≤ 6 := by
  have := takeG_le ys 0 0 n m h
  omega
/-- What is put is taken. -/
theorem takeG_numB (n : Nat) : ∀ (k acc : Nat) (t : List UInt8), (0 < k → 0 < n) → k ≤ 5 → n < 128 ^ (6 - k) → acc < 128 ^ k → acc + n * 128 ^ k ≤ 1099511627776 → takeG k acc (numB n ++ t) = .ok (acc + n * 128 ^ k, k + (numB n).length) := by
  induction n using Nat.strongRecOn with
  | _ n ih =>
    intro k acc t h0 hk hn ha hl
    have hp : (2 : Nat) ^ (7 * k) = 128 ^ k := by rw [Nat.pow_mul]
    by_cases h : n < 128
    · rw [numB_lt h]
      have e : (UInt8.ofNat n).toNat = n := by rw [UInt8.toNat_ofNat']; omega
      rw [List.singleton_append, takeG_ok (by omega) (by omega) (by rw [e, hp]; omega), e, hp]
      rfl
    · rw [numB_ge (by omega)]
      have e : (UInt8.ofNat (n % 128 + 128)).toNat = n % 128 + 128 := by rw [UInt8.toNat_ofNat']; omega
      have hk5 : k ≠ 5 := by
        rintro rfl
        simp at hn
        omega
      have hs : 128 ^ (6 - k) = 128 * 128 ^ (6 - (k + 1)) := by
        rw [show 6 - k = (6 - (k + 1)) + 1 by omega, Nat.pow_succ, Nat.mul_comm]
      have hq : 128 ^ (k + 1) = 128 * 128 ^ k := by rw [Nat.pow_succ, Nat.mul_comm]
      have hdm : n = 128 * (n / 128) + n % 128 := by omega
      have hval : acc + n % 128 * 128 ^ k + n / 128 * 128 ^ (k + 1) = acc + n * 128 ^ k := by
        have h2 : n * 128 ^ k = 128 * (n / 128) * 128 ^ k + n % 128 * 128 ^ k := by rw [← Nat.add_mul, ← hdm]
        have h3 : n / 128 * 128 ^ (k + 1) = 128 * (n / 128) * 128 ^ k := by rw [hq, Nat.mul_comm 128 (n / 128), Nat.mul_assoc]
        omega
      have hm128 : n % 128 * 128 ^ k ≤ 127 * 128 ^ k := Nat.mul_le_mul_right _ (by omega)
      rw [List.cons_append, takeG_more (by omega) hk5, e, hp, show (n % 128 + 128) % 128 = n % 128 by omega]
      rw [ih (n / 128) (by omega) (k + 1) _ t (by omega) (by omega) ?_ (by omega) (by omega), hval]
      · simp only [List.length_cons]
        congr 2
        omega
      · rw [hs] at hn
        exact Nat.div_lt_of_lt_mul hn
theorem takeF_numB (n : Nat) (t : List UInt8) (h : n ≤ 1099511627776) : takeF (numB n ++ t) = .ok (n, (numB n).length) := by
  have := takeG_numB n 0 0 t (by omega) (by omega) (by simp; omega) (by simp) (by simpa using h)
  simpa [takeF] using this
theorem numB_length (n : Nat) (h : n ≤ 1099511627776) : (numB n).length ≤ 6 := by
  have h1 := takeF_le (takeF_numB n [] h)
  omega
theorem numB_pos (n : Nat) : 0 < (numB n).length := by
  rw [numB]
  split <;> simp
/-- Nothing else is taken for a number. -/
theorem numB_takeG : ∀ (ys : List UInt8) (k acc n m : Nat), acc < 128 ^ k → takeG k acc ys = .ok (n, m) → ∃ q, n = acc + q * 128 ^ k ∧ (0 < k → 0 < q) ∧ ∃ t, ys = numB q ++ t ∧ m = k + (numB q).length
  | [], k, acc, n, m, _, h => by simp [takeG] at h
  | c :: t, k, acc, n, m, ha, h => by
    have hp : (2 : Nat) ^ (7 * k) = 128 ^ k := by rw [Nat.pow_mul]
    have hlt := c.toNat_lt
    unfold takeG at h
    split at h
    · rename_i hc
      split at h
      · cases h
      · have hm128 : c.toNat % 128 * 128 ^ k ≤ 127 * 128 ^ k := Nat.mul_le_mul_right _ (by omega)
        have hq : 128 ^ (k + 1) = 128 * 128 ^ k := by rw [Nat.pow_succ, Nat.mul_comm]
        rw [hp] at h
        obtain ⟨q, e1, e2, t', e3, e4⟩ := numB_takeG t (k + 1) _ n m (by omega) h
        have hq0 := e2 (by omega)
        have hdiv : (c.toNat % 128 + 128 * q) / 128 = q := by omega
        have hmod : (c.toNat % 128 + 128 * q) % 128 = c.toNat % 128 := by omega
        refine ⟨c.toNat % 128 + 128 * q, ?_, by omega, t', ?_, ?_⟩
        · rw [e1, hq, Nat.add_mul]
          have : q * (128 * 128 ^ k) = 128 * q * 128 ^ k := by rw [← Nat.mul_assoc, Nat.mul_comm q 128]
          omega
        · rw [numB_ge (by omega), hdiv, hmod, e3]
          have : UInt8.ofNat (c.toNat % 128 + 128) = c := by
            apply UInt8.toNat_inj.1
            rw [UInt8.toNat_ofNat']
            omega
          rw [this]
          rfl
        · rw [numB_ge (by omega), hdiv, e4]
          simp
          omega
    · rename_i hc
      split at h
      · cases h
      · rename_i h0
        split at h
        · cases h
        · simp only [Except.ok.injEq, Prod.mk.injEq] at h
          rw [hp, Nat.mod_eq_of_lt (by omega)] at h
          refine ⟨c.toNat, h.1.symm, by omega, t, ?_, ?_⟩
          · rw [numB_lt (by omega)]
            simp
          · rw [numB_lt (by omega)]
            simp
            omega
theorem numB_takeF {ys : List UInt8} {n m : Nat} (h : takeF ys = .ok (n, m)) : ∃ t, ys = numB n ++ t ∧ m = (numB n).length := by
  obtain ⟨q, e1, _, t, e3, e4⟩ := numB_takeG ys 0 0 n m (by simp) h
  simp at e1 e4
  subst e1
  exact ⟨t, e3, e4⟩
theorem numB_len : ∀ (k n : Nat), n < 128 ^ (k + 1) → (numB n).length ≤ k + 1
  | 0, n, h => by rw [numB_lt (by simpa using h)]; simp
  | k + 1, n, h => by
    by_cases hn : n < 128
    · rw [numB_lt hn]; simp
    · rw [numB_ge (by omega)]
      have := numB_len k (n / 128) (Nat.div_lt_of_lt_mul (by rw [Nat.pow_succ, Nat.mul_comm] at h; exact h))
      simp
      omega
theorem takeG_err : ∀ (ys : List UInt8) (k acc : Nat) (e : Int), takeG k acc ys = .error e → e = 3 ∨ e = 4 ∨ e = 6
  | [], k, acc, e, h => by simp [takeG] at h; omega
  | c :: t, k, acc, e, h => by
    unfold takeG at h
    split at h
    · split at h
      · simp at h; omega
      · exact takeG_err t _ _ e h
    · split at h
      · simp at h; omega
      · split at h
        · simp at h; omega
        · cases h
theorem takeF_err {ys : List UInt8} {e : Int} (h : takeF ys = .error e) : e = 3 ∨ e = 4 ∨ e = 6 := takeG_err ys 0 0 e h
/-- r numbers, one behind the other; p bytes are taken already. -/
def listG : Nat → Nat → List UInt8 → Except Int (List Int × Nat)
  | 0, p, _ => .ok ([], p)
  | r + 1, p, ys => match takeF (ys.drop p) with
    | .error e => .error e
    | .ok (n, m) => match listG r (p + m) ys with
      | .error e => .error e
      | .ok (l, q) => .ok ((n : Int) :: l, q)
/-- member.list. -/
def listF (ys : List UInt8) : Except Int (List Int × Nat) := match takeF ys with
  | .error e => .error e
  | .ok (n, m) => if 9 < n then .error 4 else listG n m ys
theorem listG_err {ys : List UInt8} {r p : Nat} {e : Int} (h : takeF (ys.drop p) = .error e) : listG (r + 1) p ys = .error e := by rw [listG, h]
theorem listG_ok {ys : List UInt8} {r p n m : Nat} (h : takeF (ys.drop p) = .ok (n, m)) : listG (r + 1) p ys = (match listG r (p + m) ys with | .error e => .error e | .ok (l, q) => .ok ((n : Int) :: l, q)) := by rw [listG, h]
def after (l : List Int) (x : Except Int (List Int × Nat)) : Except Int (List Int × Nat) := match x with
  | .error e => .error e
  | .ok (t, q) => .ok (l ++ t, q)
theorem after_nil (x : Except Int (List Int × Nat)) : after [] x = x := by unfold after; split <;> simp
theorem after_step {ys : List UInt8} {r p n m : Nat} (l : List Int) (h : takeF (ys.drop p) = .ok (n, m)) : after l (listG (r + 1) p ys) = after (l ++ [(n : Int)]) (listG r (p + m) ys) := by
  rw [listG_ok h]
  unfold after
  cases listG r (p + m) ys <;> simp
theorem listG_le : ∀ (r p : Nat) (ys : List UInt8) (l : List Int) (q : Nat), p ≤ ys.length → listG r p ys = .ok (l, q) → l.length = r ∧ p ≤ q ∧ q ≤ ys.length ∧ ∀ x ∈ l, 0 ≤ x ∧ x ≤ 1099511627776
  | 0, p, ys, l, q, hp, h => by simp [listG] at h; obtain ⟨rfl, rfl⟩ := h; simp [hp]
  | r + 1, p, ys, l, q, hp, h => by
    unfold listG at h
    split at h
    · cases h
    · rename_i n m hn
      have hm := takeF_le hn
      simp at hm
      split at h
      · cases h
      · rename_i l' q' hl
        simp only [Except.ok.injEq, Prod.mk.injEq] at h
        obtain ⟨rfl, rfl⟩ := h
        have ih := listG_le r (p + m) ys l' q' (by omega) hl
        refine ⟨by simp [ih.1], by omega, ih.2.2.1, ?_⟩
        intro x hx
        rcases List.mem_cons.1 hx with rfl | hx
        · omega
        · exact ih.2.2.2 x hx
theorem listF_le {ys : List UInt8} {l : List Int} {q : Nat} (h : listF ys = .ok (l, q)) : q ≤ ys.length ∧ l.length ≤ 9 ∧ ∀ x ∈ l, 0 ≤ x ∧ x ≤ 1099511627776 := by
  unfold listF at h
  split at h
  · cases h
  · rename_i n m hn
    have hm := takeF_le hn
    split at h
    · cases h
    · have := listG_le _ _ _ _ _ (by omega) h
      exact ⟨this.2.2.1, by omega, this.2.2.2⟩
theorem listG_errs : ∀ (r p : Nat) (ys : List UInt8) (e : Int), listG r p ys = .error e → e = 3 ∨ e = 4 ∨ e = 6
  | 0, p, ys, e, h => by simp [listG] at h
  | r + 1, p, ys, e, h => by
    unfold listG at h
    split at h
    · rename_i e' he
      simp at h
      subst h
      exact takeF_err he
    · split at h
      · rename_i e' he
        simp at h
        subst h
        exact listG_errs _ _ _ _ he
      · cases h
theorem listF_errs {ys : List UInt8} {e : Int} (h : listF ys = .error e) : e = 3 ∨ e = 4 ∨ e = 6 := by
  unfold listF at h
  split at h
  · rename_i e' he
    simp at h
    subst h
    exact takeF_err he
  · split at h
    · simp at h; omega
    · exact listG_errs _ _ _ _ h
end Go.Proofs.Ytapgknaoieojkaa.Toll
