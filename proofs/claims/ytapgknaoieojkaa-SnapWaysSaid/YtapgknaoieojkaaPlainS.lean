/- A snapshot's bytes: what is put is got; nothing else is taken. Plain. -/
import Derived.Test.YtapgknaoieojkaaSnapG
import Derived.Test.YtapgknaoieojkaaPlainC
set_option linter.unusedVariables false
set_option linter.unusedSimpArgs false
namespace Go.Proofs.Ytapgknaoieojkaa.Toll
open Go.RowKit
def NumOk (l : List Int) : Prop := ∀ x ∈ l, 0 ≤ x ∧ x ≤ 1099511627776
theorem listG_numsB : ∀ (l : List Int) (p : Nat) (ys t : List UInt8), NumOk l → ys.drop p = numsB l ++ t → listG l.length p ys = .ok (l, p + (numsB l).length)
  | [], p, ys, t, _, _ => by simp [listG, numsB]
  | x :: l, p, ys, t, hn, h => by
    have hx := hn x List.mem_cons_self
    have e : numsB (x :: l) = numB x.toNat ++ numsB l := by simp [numsB]
    rw [e, List.append_assoc] at h
    have h1 : takeF (ys.drop p) = .ok (x.toNat, (numB x.toNat).length) := by rw [h]; exact takeF_numB _ _ (by omega)
    have h2 : ys.drop (p + (numB x.toNat).length) = numsB l ++ t := by rw [← List.drop_drop, h]; exact List.drop_left' rfl
    rw [List.length_cons, listG_ok h1, listG_numsB l _ ys t (fun y hy => hn y (List.mem_cons_of_mem _ hy)) h2]
    simp only [e, List.length_append]
    rw [show ((x.toNat : Nat) : Int) = x by omega, Nat.add_assoc]
theorem listF_numsB (l : List Int) (t : List UInt8) (hl : l.length ≤ 9) (hn : NumOk l) : listF (numB l.length ++ numsB l ++ t) = .ok (l, (numB l.length).length + (numsB l).length) := by
  unfold listF
  rw [List.append_assoc, takeF_numB _ _ (by omega)]
  simp only
  rw [if_neg (by omega), listG_numsB l _ _ t hn (List.drop_left' rfl)]
theorem numsB_listG : ∀ (r p : Nat) (ys : List UInt8) (l : List Int) (q : Nat), listG r p ys = .ok (l, q) → l.length = r ∧ ∃ t, ys.drop p = numsB l ++ t ∧ q = p + (numsB l).length
  | 0, p, ys, l, q, h => by
    simp only [listG, Except.ok.injEq, Prod.mk.injEq] at h
    obtain ⟨rfl, rfl⟩ := h
    exact ⟨rfl, _, by simp [numsB]; rfl, by simp [numsB]⟩
  | r + 1, p, ys, l, q, h => by
    unfold listG at h
    split at h
    · cases h
    · rename_i n m hn
      obtain ⟨t, e1, rfl⟩ := numB_takeF hn
      split at h
      · cases h
      · rename_i l' q' hl
        simp only [Except.ok.injEq, Prod.mk.injEq] at h
        obtain ⟨rfl, rfl⟩ := h
        obtain ⟨h1, t', e2, e3⟩ := numsB_listG r _ ys l' q' hl
        refine ⟨by simp [h1], t', ?_, ?_⟩
        · rw [← List.drop_drop, e1, List.drop_left' rfl] at e2
          rw [e1, e2]
          simp [numsB]
        · rw [e3]
          simp [numsB]
          omega
theorem numsB_listF {ys : List UInt8} {l : List Int} {q : Nat} (h : listF ys = .ok (l, q)) : ∃ t, ys = numB l.length ++ numsB l ++ t ∧ q = (numB l.length).length + (numsB l).length := by
  unfold listF at h
  split at h
  · cases h
  · rename_i n m hn
    obtain ⟨t, e1, rfl⟩ := numB_takeF hn
    split at h
    · cases h
    · obtain ⟨rfl, t', e2, e3⟩ := numsB_listG _ _ _ _ _ h
      rw [e1, List.drop_left' rfl] at e2
      exact ⟨t', by rw [List.append_assoc, ← e2]; exact e1, e3⟩
theorem memF_memBytes {V L : List Int} (h : rightB V L = true) : memF (memBytes V L) = .ok (V, L) := by
  have hs := rightB_spec h
  have h1 : NumOk V := fun x hx => by have := hs.1 x hx; omega
  have h2 : NumOk L := fun x hx => by have := hs.2.1 x hx; omega
  have e : memBytes V L = numB V.length ++ numsB V ++ (numB L.length ++ numsB L ++ []) := by simp [memBytes]
  unfold memF
  rw [e, listF_numsB V _ hs.2.2.1 h1]
  simp only
  have hd : (numB V.length ++ numsB V ++ (numB L.length ++ numsB L ++ [])).drop ((numB V.length).length + (numsB V).length) = numB L.length ++ numsB L ++ [] := List.drop_left' (by simp)
  rw [hd, listF_numsB L _ hs.2.2.2.1 h2]
  simp only [h]
  simp
  omega
theorem memBytes_memF {bs : List UInt8} {V L : List Int} (h : memF bs = .ok (V, L)) : bs = memBytes V L ∧ rightB V L = true := by
  unfold memF at h
  split at h
  · cases h
  · rename_i V' p hV
    split at h
    · cases h
    · rename_i L' q hL
      split at h
      · cases h
      · rename_i hlt
        split at h
        · rename_i hr
          simp only [Except.ok.injEq, Prod.mk.injEq] at h
          obtain ⟨rfl, rfl⟩ := h
          obtain ⟨t, e1, rfl⟩ := numsB_listF hV
          have hd : bs.drop ((numB V'.length).length + (numsB V').length) = t := by rw [e1]; exact List.drop_left' (by simp)
          rw [hd] at hL
          obtain ⟨t2, e2, rfl⟩ := numsB_listF hL
          have hb : bs.length = (numB V'.length).length + (numsB V').length + t.length := by rw [e1]; simp; omega
          have ht : t.length = (numB L'.length).length + (numsB L').length + t2.length := by rw [e2]; simp; omega
          obtain rfl : t2 = [] := List.eq_nil_of_length_eq_zero (by omega)
          exact ⟨by rw [e1, e2]; simp [memBytes], by simpa using hr⟩
        · cases h
theorem markF_numB (n : Nat) (t : List UInt8) (h0 : 1 ≤ n) (h : n ≤ 1099511627776) : markF (numB n ++ t) = .ok (n, (numB n).length) := by
  unfold markF
  rw [takeF_numB _ _ h]
  simp only
  rw [if_neg (by omega)]
theorem rowF_numB (a t : List UInt8) (lim : Nat) (h : a.length ≤ 1099511627776) (hl : a.length ≤ lim) : rowF (numB a.length ++ (a ++ t)) lim = .ok ((numB a.length).length, a.length) := by
  unfold rowF
  rw [takeF_numB _ _ h]
  simp only
  rw [if_neg (by omega), if_neg (by simp)]
theorem numB_markF {ys : List UInt8} {n m : Nat} (h : markF ys = .ok (n, m)) : 1 ≤ n ∧ n ≤ 1099511627776 ∧ m = (numB n).length ∧ ∃ t, ys = numB n ++ t := by
  obtain ⟨h0, h1⟩ := markF_le h
  obtain ⟨t, e, rfl⟩ := numB_takeF h1
  exact ⟨h0, (takeF_le h1).2.2.1, rfl, t, e⟩
theorem numB_rowF {ys : List UInt8} {lim m n : Nat} (h : rowF ys lim = .ok (m, n)) : n ≤ lim ∧ n ≤ 1099511627776 ∧ m = (numB n).length ∧ ∃ a t, ys = numB n ++ (a ++ t) ∧ a.length = n := by
  obtain ⟨h1, h2, h3⟩ := rowF_le h
  obtain ⟨t, e, rfl⟩ := numB_takeF h1
  refine ⟨h2, (takeF_le h1).2.2.1, rfl, t.take n, t.drop n, by rw [List.take_append_drop]; exact e, ?_⟩
  rw [e, List.length_append] at h3
  rw [List.length_take]
  omega
theorem snapBody_parts (s : SnapV) : snapBody s = numB s.idx.toNat ++ (numB s.term.toNat ++ (numB (memBytes s.V s.L).length ++ (memBytes s.V s.L ++ (numB s.data.length ++ (s.data ++ []))))) := by simp [snapBody]
/-- What is put is got. -/
theorem sgetF_sputF {s : SnapV} {x : List UInt8} (h : sputF s = .ok x) : sgetF x = .ok s := by
  unfold sputF at h
  split at h
  · cases h
  rename_i h1
  split at h
  · cases h
  rename_i h2
  injection h with h
  have hr : rightB s.V s.L = true := by
    cases hr : rightB s.V s.L with
    | true => rfl
    | false => exact absurd (.inr (.inr (.inr (.inr hr)))) h1
  have hm := memBytes_length hr
  have hbl : (snapBody s).length ≤ 65536 := by
    have h4 := numB_length s.idx.toNat (by omega)
    have h5 := numB_length s.term.toNat (by omega)
    have h6 := numB_length (memBytes s.V s.L).length (by omega)
    have h7 := numB_length s.data.length (by omega)
    simp [snapBody]
    omega
  subst h
  unfold sgetF
  rw [nextF_frame _ hbl]
  simp only
  rw [if_neg (by rw [frameOf_length]; omega)]
  have e0 := snapBody_parts s
  have d1 : (snapBody s).drop (numB s.idx.toNat).length = numB s.term.toNat ++ (numB (memBytes s.V s.L).length ++ (memBytes s.V s.L ++ (numB s.data.length ++ (s.data ++ [])))) := by rw [e0]; exact List.drop_left' rfl
  have d2 : (snapBody s).drop ((numB s.idx.toNat).length + (numB s.term.toNat).length) = numB (memBytes s.V s.L).length ++ (memBytes s.V s.L ++ (numB s.data.length ++ (s.data ++ []))) := by rw [← List.drop_drop, d1]; exact List.drop_left' rfl
  have d3 : (snapBody s).drop ((numB s.idx.toNat).length + (numB s.term.toNat).length + (numB (memBytes s.V s.L).length).length) = memBytes s.V s.L ++ (numB s.data.length ++ (s.data ++ [])) := by rw [← List.drop_drop, d2]; exact List.drop_left' rfl
  have d4 : (snapBody s).drop ((numB s.idx.toNat).length + (numB s.term.toNat).length + (numB (memBytes s.V s.L).length).length + (memBytes s.V s.L).length) = numB s.data.length ++ (s.data ++ []) := by rw [← List.drop_drop, d3]; exact List.drop_left' rfl
  have d5 : (snapBody s).drop ((numB s.idx.toNat).length + (numB s.term.toNat).length + (numB (memBytes s.V s.L).length).length + (memBytes s.V s.L).length + (numB s.data.length).length) = s.data ++ [] := by rw [← List.drop_drop, d4]; exact List.drop_left' rfl
  have m1 : markF (snapBody s) = .ok (s.idx.toNat, (numB s.idx.toNat).length) := by rw [e0]; exact markF_numB _ _ (by omega) (by omega)
  have hlen : (snapBody s).length = (numB s.idx.toNat).length + (numB s.term.toNat).length + (numB (memBytes s.V s.L).length).length + (memBytes s.V s.L).length + (numB s.data.length).length + s.data.length := by simp [snapBody]; omega
  unfold inF
  rw [m1]
  simp only
  rw [d1, markF_numB _ _ (by omega) (by omega)]
  simp only
  rw [d2, rowF_numB _ _ _ (by omega) (by omega)]
  simp only
  rw [d3, List.take_left' rfl, memF_memBytes hr]
  simp only
  rw [d4, rowF_numB _ _ _ (by omega) (by omega)]
  simp only
  rw [if_neg (by omega), d5, List.take_left' rfl]
  obtain ⟨idx, term, V, L, data⟩ := s
  simp only at *
  rw [show ((idx.toNat : Nat) : Int) = idx by omega, show ((term.toNat : Nat) : Int) = term by omega]
/-- Nothing else is taken for a snapshot. -/
theorem sputF_sgetF {s : SnapV} {x : List UInt8} (h : sgetF x = .ok s) : sputF s = .ok x := by
  unfold sgetF at h
  split at h
  · cases h
  rename_i b hb
  split at h
  · cases h
  rename_i hl
  have hx := frame_nextF x b hb hl
  subst hx
  unfold inF at h
  split at h
  · cases h
  rename_i i p1 hm1
  obtain ⟨i0, i1, rfl, t1, e1⟩ := numB_markF hm1
  split at h
  · cases h
  rename_i t p2 hm2
  rw [e1, List.drop_left' rfl] at hm2
  obtain ⟨j0, j1, rfl, t2, e2⟩ := numB_markF hm2
  split at h
  · cases h
  rename_i m n hr1
  rw [← List.drop_drop, e1, List.drop_left' rfl, e2, List.drop_left' rfl] at hr1
  obtain ⟨_, n1, rfl, a3, t3, e3, l3⟩ := numB_rowF hr1
  split at h
  · cases h
  rename_i V L hg
  have hd3 : b.drop ((numB i).length + (numB t).length + (numB n).length) = a3 ++ t3 := by
    rw [← List.drop_drop, ← List.drop_drop, e1, List.drop_left' rfl, e2, List.drop_left' rfl, e3, List.drop_left' rfl]
  rw [hd3, List.take_left' l3] at hg
  obtain ⟨rfl, hr⟩ := memBytes_memF hg
  split at h
  · cases h
  rename_i m2 n2 hr2
  have hd4 : b.drop ((numB i).length + (numB t).length + (numB n).length + n) = t3 := by
    rw [← List.drop_drop, hd3, List.drop_left' l3]
  rw [hd4] at hr2
  obtain ⟨lim, n3, rfl, a5, t5, e5, l5⟩ := numB_rowF hr2
  split at h
  · cases h
  rename_i hend
  have hd5 : b.drop ((numB i).length + (numB t).length + (numB n).length + n + (numB n2).length) = a5 ++ t5 := by
    rw [← List.drop_drop, hd4, e5, List.drop_left' rfl]
  rw [hd5, List.take_left' l5] at h
  injection h with h
  subst h
  subst l3
  subst l5
  have hbe : b = numB i ++ (numB t ++ (numB (memBytes V L).length ++ (memBytes V L ++ (numB a5.length ++ (a5 ++ t5))))) := by
    conv => lhs; rw [e1, e2, e3, e5]
  have hbl : b.length = (numB i).length + (numB t).length + (numB (memBytes V L).length).length + (memBytes V L).length + (numB a5.length).length + a5.length + t5.length := by rw [hbe]; simp; omega
  obtain rfl : t5 = [] := List.eq_nil_of_length_eq_zero (by omega)
  unfold sputF
  rw [if_neg (by simp only [hr]; simp; omega), if_neg (by simp only; omega), snapBody_parts]
  simp only [Int.toNat_natCast]
  rw [← hbe]
end Go.Proofs.Ytapgknaoieojkaa.Toll
