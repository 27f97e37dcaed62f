/- A crash anywhere in a save. Plain. -/
import Derived.Test.YtapgknaoieojkaaPlainN
set_option linter.unusedVariables false
set_option linter.unusedSimpArgs false
namespace Go.Proofs.Ytapgknaoieojkaa.Toll
open Go.RowKit
theorem crashL_keys {keep : List Int} : ∀ (N : List (List UInt8)) (i : Nat) (D : Dk), KeysN D → KeysN (crashL keep i N D)
  | [], _, _, h => h
  | nm :: rest, i, D, h => by
    rw [crashL_cons]
    cases getF D (keyL nm) with
    | none => exact crashL_keys rest _ D h
    | some f =>
      simp only
      cases crashOne (kOf keep i) f with
      | none => exact crashL_keys rest _ _ (delF_keys h _)
      | some f' => exact crashL_keys rest _ _ (putF_keys h _ _)
theorem crashL_from {keep : List Int} : ∀ (N : List (List UInt8)) (i : Nat) (D : Dk), ∀ q ∈ crashL keep i N D, ∃ p ∈ D, p.1 = q.1
  | [], _, D, q, hq => ⟨q, hq, rfl⟩
  | nm :: rest, i, D, q, hq => by
    rw [crashL_cons] at hq
    cases hg : getF D (keyL nm) with
    | none => rw [hg] at hq; exact crashL_from rest _ D q hq
    | some f =>
      rw [hg] at hq
      simp only at hq
      cases hc : crashOne (kOf keep i) f with
      | none =>
        rw [hc] at hq
        obtain ⟨p, hp, e⟩ := crashL_from rest _ _ q hq
        exact ⟨p, (mem_delF.1 hp).1, e⟩
      | some f' =>
        rw [hc] at hq
        obtain ⟨p, hp, e⟩ := crashL_from rest _ _ q hq
        rcases mem_putF hp with h1 | h1
        · exact ⟨_, getF_mem hg, by rw [← e, h1]⟩
        · exact ⟨p, h1.1, e⟩
theorem crashL_mem {keep : List Int} {p : ByteArray × FileP} (hw : WholeF p.2) : ∀ (N : List (List UInt8)) (i : Nat) (D : Dk), KeysN D → p ∈ D → p ∈ crashL keep i N D
  | [], _, _, _, h => h
  | nm :: rest, i, D, hk, h => by
    rw [crashL_cons]
    by_cases e : keyL nm = p.1
    · have hg : getF D (keyL nm) = some p.2 := by rw [e]; exact getF_of_mem hk h
      rw [hg]
      simp only
      rw [crashOne_whole hw]
      simp only
      rw [putF_same hk hg]
      exact crashL_mem hw rest _ D hk h
    · cases hg : getF D (keyL nm) with
      | none => exact crashL_mem hw rest _ D hk h
      | some f =>
        simp only
        cases crashOne (kOf keep i) f with
        | none => exact crashL_mem hw rest _ _ (delF_keys hk _) (mem_delF.2 ⟨h, fun x => e x.symm⟩)
        | some f' => exact crashL_mem hw rest _ _ (putF_keys hk _ _) (putF_mem_other h (fun x => e x.symm))
/-- The elder snapshot is there; what else there is may be snap.tmp alone. -/
structure TInv (q : ByteArray × FileP) (D : Dk) : Prop where
  keys : KeysN D
  mem : q ∈ D
  rest : ∀ p ∈ D, p.1 = q.1 ∨ p.1 = tmpK
theorem TInv.crash {q : ByteArray × FileP} {D : Dk} (h : TInv q D) (hw : WholeF q.2) (keep : List Int) : TInv q (crashF D keep) :=
  ⟨crashL_keys _ _ _ h.keys, crashL_mem hw _ _ _ h.keys h.mem, fun p hp => by
    obtain ⟨p', hp', e⟩ := crashL_from _ _ _ p hp
    rw [← e]
    exact h.rest p' hp'⟩
theorem only_one {q : ByteArray × FileP} {E : Dk} (hk : KeysN E) (hq : q ∈ E) (h : ∀ p ∈ E, p.1 = q.1) : E = [q] := by
  cases E with
  | nil => cases hq
  | cons x t =>
    have hx : x = q := keys_same hk List.mem_cons_self hq (h x List.mem_cons_self)
    subst hx
    congr 1
    refine List.eq_nil_iff_forall_not_mem.2 (fun y hy => ?_)
    exact (List.pairwise_cons.1 hk).1 y hy (h y (List.mem_cons_of_mem _ hy)).symm
def wholeP (n : Nat) (x : List UInt8) : ByteArray × FileP := (nameK n, ⟨x, x, true, []⟩)
theorem TInv.del {n : NIdx} (h0 : n.val ≠ 0) {x : List UInt8} {D : Dk} (h : TInv (wholeP n.val x) D) : delF D tmpK = [wholeP n.val x] := by
  refine only_one (delF_keys h.keys _) (mem_delF.2 ⟨h.mem, fun e => tmpK_ne n h0 e.symm⟩) (fun p hp => ?_)
  obtain ⟨h1, h2⟩ := mem_delF.1 hp
  exact (h.rest p h1).resolve_right h2
theorem TInv.load {n : NIdx} (h0 : n.val ≠ 0) {s : SnapV} {x : List UInt8} {D : Dk} (h : TInv (wholeP n.val x) D) (hx : sputF s = .ok x) (hi : s.idx = (n.val : Int)) : loadF D = .ok s := by
  refine loadF_best h.keys h0 h.mem (sgetF_sputF hx) hi ?_
  intro p hp m hm
  rcases h.rest p hp with e | e
  · rw [e] at hm
    have := fileOf_nameF n h0
    unfold wholeP at hm
    rw [nameK_list, this] at hm
    injection hm with hm
    rw [hm]
    exact Nat.le_refl _
  · rw [e, tmpK_file] at hm
    cases hm
structure Two (na nb : NIdx) (b : SnapV) (xa xb : List UInt8) : Prop where
  ha0 : na.val ≠ 0
  hb0 : nb.val ≠ 0
  hlt : na.val < nb.val
  hib : b.idx = (nb.val : Int)
  hxb : sputF b = .ok xb
  hla : xa.length ≤ 5000
  hlb : xb.length ≤ 5000
section
variable {na nb : NIdx} {b : SnapV} {xa xb : List UInt8}
theorem keep_two (T : Two na nb b xa xb) : [wholeP na.val xa, wholeP nb.val xb].filter (keepB b.idx) = [wholeP nb.val xb] := by
  obtain ⟨ha0, hb0, hlt, hib, hxb, hla, hlb⟩ := id T
  have ha : fileOf (nameK na.val).data.toList = some na := fileOf_nameF na ha0
  have hb : fileOf (nameK nb.val).data.toList = some nb := fileOf_nameF nb hb0
  have k1 : keepB b.idx (wholeP na.val xa) = false := by
    unfold keepB wholeP
    simp only [ha, hib]
    simp
    omega
  have k2 : keepB b.idx (wholeP nb.val xb) = true := by
    unfold keepB wholeP
    simp only [hb, hib]
    simp
  simp only [List.filter_cons, k1, k2, List.filter_nil]
  rfl
theorem ne_ab (T : Two na nb b xa xb) : nameK na.val ≠ nameK nb.val := fun e => by
  obtain ⟨ha0, hb0, hlt, hib, hxb, hla, hlb⟩ := id T
  have := nameK_inj ha0 hb0 e
  rw [this] at hlt
  omega
theorem two_put (T : Two na nb b xa xb) : putF [wholeP na.val xa] (nameK nb.val) ⟨xb, xb, true, []⟩ = [wholeP na.val xa, wholeP nb.val xb] :=
  putF_new (D := [wholeP na.val xa]) (fun p hp => by
    have : p = wholeP na.val xa := by simpa using hp
    rw [this]
    exact ne_ab T)
theorem TInv.save (T : Two na nb b xa xb) {D : Dk} (h : TInv (wholeP na.val xa) D) : saveD 65536 D b = (0, [wholeP nb.val xb]) := by
  obtain ⟨ha0, hb0, hlt, hib, hxb, hla, hlb⟩ := id T
  have hd := h.del ha0
  have hidx : b.idx.toNat = nb.val := by omega
  rw [saveD_ok 65536 D b xb hxb (by rw [hd]; simp) (by rw [hd]; simp [usedF, wholeP]; omega), hd, hidx, two_put T, keep_two T]
theorem two_keys (T : Two na nb b xa xb) : KeysN [wholeP na.val xa, wholeP nb.val xb] := by
  obtain ⟨ha0, hb0, hlt, hib, hxb, hla, hlb⟩ := id T
  refine List.pairwise_cons.2 ⟨fun p hp => ?_, List.pairwise_singleton _ _⟩
  have : p = wholeP nb.val xb := by simpa using hp
  rw [this]
  exact ne_ab T
theorem two_whole (T : Two na nb b xa xb) : ∀ p ∈ [wholeP na.val xa, wholeP nb.val xb], WholeF p.2 := by
  obtain ⟨ha0, hb0, hlt, hib, hxb, hla, hlb⟩ := id T
  intro p hp
  simp at hp
  rcases hp with rfl | rfl <;> exact WholeF.mk' _
theorem two_crash (T : Two na nb b xa xb) (keep : List Int) : crashF [wholeP na.val xa, wholeP nb.val xb] keep = [wholeP na.val xa, wholeP nb.val xb] :=
  crashF_whole (two_keys T) (two_whole T) keep
theorem two_load (T : Two na nb b xa xb) : loadF [wholeP na.val xa, wholeP nb.val xb] = .ok b := by
  obtain ⟨ha0, hb0, hlt, hib, hxb, hla, hlb⟩ := id T
  refine loadF_best (two_keys T) (n := nb) (f := ⟨xb, xb, true, []⟩) hb0 (by simp [wholeP]) (sgetF_sputF hxb) hib ?_
  intro p hp m hm
  simp at hp
  rcases hp with rfl | rfl
  · have := fileOf_nameF na ha0
    unfold wholeP at hm
    rw [nameK_list, this] at hm
    injection hm with hm
    rw [← hm]
    omega
  · have := fileOf_nameF nb hb0
    unfold wholeP at hm
    rw [nameK_list, this] at hm
    injection hm with hm
    rw [← hm]
    exact Nat.le_refl _
theorem two_save (T : Two na nb b xa xb) : saveD 65536 [wholeP na.val xa, wholeP nb.val xb] b = (0, [wholeP nb.val xb]) := by
  obtain ⟨ha0, hb0, hlt, hib, hxb, hla, hlb⟩ := id T
  have hd : delF [wholeP na.val xa, wholeP nb.val xb] tmpK = [wholeP na.val xa, wholeP nb.val xb] := delF_none (fun p hp => by
    simp at hp
    rcases hp with rfl | rfl
    · exact fun e => tmpK_ne na ha0 e.symm
    · exact fun e => tmpK_ne nb hb0 e.symm)
  have hidx : b.idx.toNat = nb.val := by omega
  have hput : putF [wholeP na.val xa, wholeP nb.val xb] (nameK nb.val) ⟨xb, xb, true, []⟩ = [wholeP na.val xa, wholeP nb.val xb] :=
    putF_same (two_keys T) (getF_of_mem (two_keys T) (by simp [wholeP]))
  rw [saveD_ok 65536 _ b xb hxb (by rw [hd]; simp) (by rw [hd]; simp [usedF, wholeP]; omega), hd, hidx, hput, keep_two T]
theorem one_load (T : Two na nb b xa xb) : loadF [wholeP nb.val xb] = .ok b := by
  obtain ⟨ha0, hb0, hlt, hib, hxb, hla, hlb⟩ := id T
  refine loadF_best (List.pairwise_singleton _ _) (n := nb) (f := ⟨xb, xb, true, []⟩) hb0 (by simp [wholeP]) (sgetF_sputF hxb) hib ?_
  intro p hp m hm
  have : p = wholeP nb.val xb := by simpa using hp
  subst this
  have := fileOf_nameF nb hb0
  unfold wholeP at hm
  rw [nameK_list, this] at hm
  injection hm with hm
  rw [← hm]
  exact Nat.le_refl _
end
theorem first_save {n : NIdx} (h0 : n.val ≠ 0) {s : SnapV} {x : List UInt8} (hi : s.idx = (n.val : Int)) (hx : sputF s = .ok x) (hl : x.length ≤ 5000) : saveD 65536 [] s = (0, [wholeP n.val x]) := by
  have hidx : s.idx.toNat = n.val := by omega
  have hf : fileOf (nameK n.val).data.toList = some n := fileOf_nameF n h0
  have k : keepB s.idx (wholeP n.val x) = true := by
    unfold keepB wholeP
    simp only [hf, hi]
    simp
  have e : putF (delF [] tmpK) (nameK n.val) ⟨x, x, true, []⟩ = [wholeP n.val x] := rfl
  rw [saveD_ok 65536 [] s x hx (by decide) (by simp [delF, usedF]; omega), hidx, e]
  simp only [List.filter_cons, k, List.filter_nil]
  rfl
theorem write_tmp {n : NIdx} (h0 : n.val ≠ 0) {x y : List UInt8} (hx : x.length ≤ 5000) (hy : y.length ≤ 5000) : writeF 65536 [wholeP n.val x] tmpK 0 y = (0, [wholeP n.val x, (tmpK, ⟨y, [], false, [⟨false, 0, 0, y⟩]⟩)]) := by
  have hno : ∀ p ∈ [wholeP n.val x], p.1 ≠ tmpK := fun p hp => by
    have : p = wholeP n.val x := by simpa using hp
    rw [this]
    exact fun e => tmpK_ne n h0 e.symm
  have hget : (getF [wholeP n.val x] tmpK).getD noFile = noFile := by rw [getF_none_of hno]; rfl
  have hl0 : noFile.now.length = 0 := rfl
  have hz : (0 : Int).toNat = 0 := rfl
  have hu : usedF [wholeP n.val x] = x.length := by simp [usedF, wholeP]
  unfold writeF
  rw [if_neg (by decide), hget, if_neg (by rw [hl0]; omega), if_neg (by rw [hl0, hz]; simp; omega), if_neg (by rw [hl0, hz, hu]; omega), putF_new hno]
  simp [wroteF, layF, noFile]
theorem sync_tmp {n : NIdx} (h0 : n.val ≠ 0) {x y : List UInt8} (c : List Chg) : syncD [wholeP n.val x, (tmpK, ⟨y, [], false, c⟩)] tmpK = (0, [wholeP n.val x, (tmpK, ⟨y, y, true, []⟩)]) := by
  have hno : ∀ p ∈ [wholeP n.val x], p.1 ≠ tmpK := fun p hp => by
    have : p = wholeP n.val x := by simpa using hp
    rw [this]
    exact fun e => tmpK_ne n h0 e.symm
  have e : [wholeP n.val x, (tmpK, (⟨y, [], false, c⟩ : FileP))] = [wholeP n.val x] ++ [(tmpK, ⟨y, [], false, c⟩)] := rfl
  unfold syncD
  rw [e, getF_snoc_self hno]
  simp only [syncF]
  rw [putF_snoc_self hno]
  rfl
theorem rename_tmp {na nb : NIdx} (ha0 : na.val ≠ 0) (hb0 : nb.val ≠ 0) (hlt : na.val < nb.val) {x y : List UInt8} : renameD [wholeP na.val x, (tmpK, ⟨y, y, true, []⟩)] tmpK (nameK nb.val) = (0, [wholeP na.val x, wholeP nb.val y]) := by
  have hno : ∀ p ∈ [wholeP na.val x], p.1 ≠ tmpK := fun p hp => by
    have : p = wholeP na.val x := by simpa using hp
    rw [this]
    exact fun e => tmpK_ne na ha0 e.symm
  have e : [wholeP na.val x, (tmpK, (⟨y, y, true, []⟩ : FileP))] = [wholeP na.val x] ++ [(tmpK, ⟨y, y, true, []⟩)] := rfl
  unfold renameD
  rw [e, getF_snoc_self hno]
  simp only
  rw [if_neg (by rw [namedF_nameK]; decide), if_neg (tmpK_ne nb hb0), delF_put hno (tmpK_ne nb hb0)]
  rw [putF_new (D := [wholeP na.val x]) (fun p hp => by
    have : p = wholeP na.val x := by simpa using hp
    rw [this]
    intro e
    have := nameK_inj ha0 hb0 e
    rw [this] at hlt
    omega)]
  rfl
theorem tinv_one {n : NIdx} (x : List UInt8) : TInv (wholeP n.val x) [wholeP n.val x] := ⟨List.pairwise_singleton _ _, List.mem_singleton.2 rfl, fun p hp => .inl (by rw [List.mem_singleton.1 hp])⟩
theorem tinv_two {n : NIdx} (h0 : n.val ≠ 0) (x : List UInt8) (f : FileP) : TInv (wholeP n.val x) [wholeP n.val x, (tmpK, f)] := by
  refine ⟨List.pairwise_cons.2 ⟨fun p hp => ?_, List.pairwise_singleton _ _⟩, List.mem_cons_self, fun p hp => ?_⟩
  · have : p = (tmpK, f) := by simpa using hp
    rw [this]
    exact fun e => tmpK_ne n h0 e.symm
  · simp at hp
    rcases hp with rfl | rfl
    · exact .inl rfl
    · exact .inr rfl
theorem put_len {s : SnapV} {x : List UInt8} (h : sputF s = .ok x) (hd : s.data.length ≤ 4000) : x.length ≤ 5000 := by
  obtain ⟨i1, i2, t1, t2, hr, hd2, rfl⟩ := sputF_ok h
  have h3 := memBytes_length hr
  have h4 := numB_length s.idx.toNat (by omega)
  have h5 := numB_length s.term.toNat (by omega)
  have h6 := numB_length (memBytes s.V s.L).length (by omega)
  have h7 := numB_length s.data.length (by omega)
  rw [frameOf_length]
  simp [snapBody]
  omega
end Go.Proofs.Ytapgknaoieojkaa.Toll
