/- Saves one behind the other; a crash of what lasts. Plain. -/
import Derived.Test.YtapgknaoieojkaaDiskK
import Derived.Test.YtapgknaoieojkaaLive
set_option linter.unusedVariables false
set_option linter.unusedSimpArgs false
namespace Go.Proofs.Ytapgknaoieojkaa.Toll
open Go.RowKit
/-- All of it lasts. -/
def WholeF (f : FileP) : Prop := f.lasts = true ∧ f.chs = [] ∧ f.sure = f.now
theorem WholeF.mk' (x : List UInt8) : WholeF ⟨x, x, true, []⟩ := ⟨rfl, rfl, rfl⟩
theorem crashOne_whole {f : FileP} (h : WholeF f) (k : Nat) : crashOne k f = some f := by
  obtain ⟨now, sure, lasts, chs⟩ := f
  obtain ⟨h1, h2, h3⟩ := h
  simp only at h1 h2 h3
  subst h1 h2 h3
  rfl
theorem putF_same {D : Dk} (hk : KeysN D) {k : ByteArray} {f : FileP} (h : getF D k = some f) : putF D k f = D := by
  unfold putF
  rw [h]
  simp only [Option.isSome_some, if_true]
  conv => rhs; rw [← List.map_id D]
  refine List.map_congr_left (fun p hp => ?_)
  split
  · rename_i e
    have := keys_same hk (getF_mem h) hp e.symm
    rw [this]
    rfl
  · rfl
theorem crashL_whole {D : Dk} (hk : KeysN D) (hw : ∀ p ∈ D, WholeF p.2) (keep : List Int) : ∀ (N : List (List UInt8)) (i : Nat), crashL keep i N D = D
  | [], _ => rfl
  | nm :: rest, i => by
    rw [crashL_cons]
    cases hg : getF D (keyL nm) with
    | none => exact crashL_whole hk hw keep rest _
    | some f =>
      simp only
      rw [crashOne_whole (hw _ (getF_mem hg))]
      simp only
      rw [putF_same hk hg]
      exact crashL_whole hk hw keep rest _
theorem crashF_whole {D : Dk} (hk : KeysN D) (hw : ∀ p ∈ D, WholeF p.2) (keep : List Int) : crashF D keep = D := crashL_whole hk hw keep _ 0
/-- The i-th snapshot that is saved. -/
def newS (k i : Nat) : SnapV := ⟨k, 1, [1], [], [UInt8.ofNat i]⟩
def newX (k i : Nat) : List UInt8 := frameOf (snapBody (newS k i))
theorem new_put (k i : Nat) (h0 : 1 ≤ k) (h : k ≤ 1099511627776) : sputF (newS k i) = .ok (newX k i) := by
  unfold sputF
  rw [if_neg, if_neg (by simp [newS])]
  · rfl
  · have hr : rightB [1] [] = true := by decide
    simp only [newS, hr]
    simp
    omega
theorem newX_len (k i : Nat) (h : k ≤ 1099511627776) : (newX k i).length ≤ 60 := by
  have h1 := numB_length k h
  have h2 : (memBytes [1] []).length ≤ 20 := by
    have h3 := numB_length 1 (by omega)
    have h4 := numB_length 0 (by omega)
    simp [memBytes, numsB]
    omega
  have h3 := numB_length 1 (by omega)
  have h5 := numB_length (memBytes [1] []).length (by omega)
  unfold newX
  rw [frameOf_length]
  simp [snapBody, newS]
  omega
def newF (k i : Nat) : FileP := ⟨newX k i, newX k i, true, []⟩
def bestOf (ks : List Nat) : Nat → Nat
  | 0 => 0
  | j + 1 => max (bestOf ks j) (ks.getD j 0)
def lastOf (ks : List Nat) (b : Nat) : Nat → Nat
  | 0 => 0
  | j + 1 => if ks.getD j 0 = b then j else lastOf ks b j
theorem bestOf_le (ks : List Nat) (h : ∀ k ∈ ks, 1 ≤ k ∧ k ≤ 65536) : ∀ j, bestOf ks j ≤ 65536
  | 0 => by simp [bestOf]
  | j + 1 => by
    have := bestOf_le ks h j
    unfold bestOf
    by_cases hj : j < ks.length
    · have h2 := h _ (List.getElem_mem hj)
      rw [List.getD_eq_getElem?_getD, List.getElem?_eq_getElem hj, Option.getD_some]
      omega
    · rw [List.getD_eq_getElem?_getD, List.getElem?_eq_none (by omega)]
      simp
      omega
theorem lastOf_lt (ks : List Nat) (b : Nat) : ∀ j, lastOf ks b j ≤ j
  | 0 => Nat.le_refl _
  | j + 1 => by
    have := lastOf_lt ks b j
    unfold lastOf
    split <;> omega
structure NInv (ks : List Nat) (i : Nat) (D : Dk) : Prop where
  keys : KeysN D
  len : D.length ≤ i
  all : ∀ p ∈ D, ∃ n : NIdx, n.val ≠ 0 ∧ n.val ≤ bestOf ks i ∧ p.1 = nameK n.val
  size : ∀ p ∈ D, p.2.now.length ≤ 60
  whole : ∀ p ∈ D, WholeF p.2
  best : 0 < i → (nameK (bestOf ks i), newF (bestOf ks i) (lastOf ks (bestOf ks i) i)) ∈ D
  pos : 0 < i → 1 ≤ bestOf ks i
theorem NInv.zero (ks : List Nat) : NInv ks 0 [] := ⟨.nil, Nat.le_refl _, by simp, by simp, by simp, fun h => absurd h (by omega), fun h => absurd h (by omega)⟩
theorem usedF_le {D : Dk} {m : Nat} (h : ∀ p ∈ D, p.2.now.length ≤ m) : usedF D ≤ m * D.length := by
  unfold usedF
  induction D with
  | nil => simp
  | cons p D ih =>
    have h1 := h p List.mem_cons_self
    have h2 := ih (fun q hq => h q (List.mem_cons_of_mem _ hq))
    simp only [List.map_cons, List.sum_cons, List.length_cons, Nat.mul_add, Nat.mul_one]
    omega
theorem NInv.noTmp {ks : List Nat} {i : Nat} {D : Dk} (h : NInv ks i D) : delF D tmpK = D := delF_none (fun p hp e => by
  obtain ⟨n, h0, _, h2⟩ := h.all p hp
  exact tmpK_ne n h0 (e.symm.trans h2))
theorem NInv.save {ks : List Nat} (hks : ∀ k ∈ ks, 1 ≤ k ∧ k ≤ 65536) {i : Nat} (hi : i < ks.length) (h12 : i < 12) {D : Dk} (h : NInv ks i D) :
    (saveD 65536 D (newS (ks.getD i 0) i)).1 = 0 ∧ NInv ks (i + 1) (saveD 65536 D (newS (ks.getD i 0) i)).2 := by
  have hk : 1 ≤ ks.getD i 0 ∧ ks.getD i 0 ≤ 65536 := by
    rw [List.getD_eq_getElem?_getD, List.getElem?_eq_getElem hi, Option.getD_some]
    exact hks _ (List.getElem_mem hi)
  have hb : bestOf ks (i + 1) = max (bestOf ks i) (ks.getD i 0) := rfl
  have hl : ∀ b, lastOf ks b (i + 1) = if ks.getD i 0 = b then i else lastOf ks b i := fun b => rfl
  generalize ks.getD i 0 = k at *
  have hu := usedF_le h.size
  have hlen := h.len
  have hxl := newX_len k i (by omega)
  have hs := saveD_ok 65536 D (newS k i) (newX k i) (new_put k i hk.1 (by omega)) (by rw [h.noTmp]; omega) (by
    rw [h.noTmp]
    have h2 : 60 * D.length ≤ 60 * 12 := Nat.mul_le_mul_left _ (by omega)
    omega)
  rw [h.noTmp] at hs
  have hidx : (newS k i).idx.toNat = k := by simp [newS]
  have hidx2 : (newS k i).idx = (k : Int) := rfl
  rw [hidx, hidx2] at hs
  rw [hs]
  obtain ⟨n, hn⟩ : ∃ n : NIdx, n.val = k := ⟨⟨k, by omega⟩, rfl⟩
  have hfk : fileOf (nameK k).data.toList = some n := by rw [← hn]; exact fileOf_nameF n (by omega)
  refine ⟨rfl, (putF_keys h.keys _ _).filter _, ?_, ?_, ?_, ?_, ?_, fun _ => by omega⟩
  · have h1 := List.length_filter_le (keepB (k : Int)) (putF D (nameK k) ⟨newX k i, newX k i, true, []⟩)
    have h2 := putF_len D (nameK k) ⟨newX k i, newX k i, true, []⟩
    show (List.filter (keepB (k : Int)) (putF D (nameK k) ⟨newX k i, newX k i, true, []⟩)).length ≤ i + 1
    omega
  · intro p hp
    rcases mem_putF (List.mem_filter.1 hp).1 with e | ⟨h1, h2⟩
    · subst e
      exact ⟨n, by omega, by omega, by rw [hn]⟩
    · obtain ⟨m, m0, m1, m2⟩ := h.all p h1
      exact ⟨m, m0, by omega, m2⟩
  · intro p hp
    rcases mem_putF (List.mem_filter.1 hp).1 with e | ⟨h1, h2⟩
    · subst e
      exact hxl
    · exact h.size p h1
  · intro p hp
    rcases mem_putF (List.mem_filter.1 hp).1 with e | ⟨h1, h2⟩
    · subst e
      exact WholeF.mk' _
    · exact h.whole p h1
  · intro _
    by_cases hge : bestOf ks i ≤ k
    · have hbe : bestOf ks (i + 1) = k := by omega
      rw [hbe, hl k, if_pos rfl]
      refine List.mem_filter.2 ⟨putF_mem_self, ?_⟩
      unfold keepB
      rw [hfk]
      simp [hn]
    · have hbe : bestOf ks (i + 1) = bestOf ks i := by omega
      have hi0 : 0 < i := by
        rcases Nat.eq_zero_or_pos i with h0 | h0
        · subst h0
          simp [bestOf] at hge
        · exact h0
      have hbi := h.best hi0
      have hbl : bestOf ks i ≤ 65536 := bestOf_le ks hks i
      rw [hbe, hl (bestOf ks i), if_neg (by omega)]
      obtain ⟨m, hm⟩ : ∃ m : NIdx, m.val = bestOf ks i := ⟨⟨bestOf ks i, by omega⟩, rfl⟩
      have hfm : fileOf (nameK (bestOf ks i)).data.toList = some m := by rw [← hm]; exact fileOf_nameF m (by omega)
      refine List.mem_filter.2 ⟨putF_mem_other hbi ?_, ?_⟩
      · intro e
        simp only at e
        rw [← hm, ← hn] at e
        have := nameK_inj (by omega) (by omega) e
        rw [this] at hm
        omega
      · unfold keepB
        simp only [hfm]
        simp
        omega
theorem NInv.load {ks : List Nat} (hks : ∀ k ∈ ks, 1 ≤ k ∧ k ≤ 65536) {i : Nat} {D : Dk} (h : NInv ks i D) (hi : 0 < i) : loadF D = .ok (newS (bestOf ks i) (lastOf ks (bestOf ks i) i)) := by
  have hbl := bestOf_le ks hks i
  have hbp := h.pos hi
  obtain ⟨m, hm⟩ : ∃ m : NIdx, m.val = bestOf ks i := ⟨⟨bestOf ks i, by omega⟩, rfl⟩
  have hb := h.best hi
  rw [← hm] at hb ⊢
  refine loadF_best h.keys (n := m) (by omega) hb (sgetF_sputF (new_put _ _ (by omega) (by omega))) rfl ?_
  intro p hp n hn
  obtain ⟨q, q0, q1, q2⟩ := h.all p hp
  rw [q2, nameK_list, fileOf_nameF q q0] at hn
  injection hn with hn
  subst hn
  omega
end Go.Proofs.Ytapgknaoieojkaa.Toll
