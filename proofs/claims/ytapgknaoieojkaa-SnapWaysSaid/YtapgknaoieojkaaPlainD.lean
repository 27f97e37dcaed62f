/- Save and Load in plain words: what a save leaves, and what is loaded of it. Plain. -/
import Derived.Test.YtapgknaoieojkaaSnapL
import Derived.Test.YtapgknaoieojkaaPlainS
set_option linter.unusedVariables false
set_option linter.unusedSimpArgs false
namespace Go.Proofs.Ytapgknaoieojkaa.Toll
open Go.RowKit
abbrev Dk := List (ByteArray × FileP)
def KeysN (D : Dk) : Prop := D.Pairwise (fun a b => a.1 ≠ b.1)
theorem getF_none_all {D : Dk} {k : ByteArray} (h : getF D k = none) : ∀ p ∈ D, p.1 ≠ k := by
  intro p hp
  unfold getF at h
  rw [Option.map_eq_none_iff, List.find?_eq_none] at h
  simpa using h p hp
theorem getF_none_of {D : Dk} {k : ByteArray} (h : ∀ p ∈ D, p.1 ≠ k) : getF D k = none := by
  unfold getF
  rw [Option.map_eq_none_iff, List.find?_eq_none]
  intro p hp
  simpa using h p hp
theorem getF_mem {D : Dk} {k : ByteArray} {f : FileP} (h : getF D k = some f) : (k, f) ∈ D := by
  unfold getF at h
  rw [Option.map_eq_some_iff] at h
  obtain ⟨p, hp, rfl⟩ := h
  have h1 := List.mem_of_find?_eq_some hp
  have h2 := List.find?_some hp
  simp only [decide_eq_true_eq] at h2
  rw [← h2]
  exact h1
theorem keys_same {D : Dk} (hk : KeysN D) {a b : ByteArray × FileP} (ha : a ∈ D) (hb : b ∈ D) (e : a.1 = b.1) : a = b := by
  induction D with
  | nil => cases ha
  | cons x l ih =>
    have h' := List.pairwise_cons.1 hk
    rcases List.mem_cons.1 ha with rfl | ha
    · rcases List.mem_cons.1 hb with rfl | hb
      · rfl
      · exact absurd e (h'.1 b hb)
    · rcases List.mem_cons.1 hb with e2 | hb
      · exact absurd (e2 ▸ e.symm) (h'.1 a ha)
      · exact ih h'.2 ha hb
theorem getF_of_mem {D : Dk} (hk : KeysN D) {k : ByteArray} {f : FileP} (h : (k, f) ∈ D) : getF D k = some f := by
  cases hg : getF D k with
  | none => exact absurd rfl (getF_none_all hg _ h)
  | some f' =>
    have := keys_same hk (getF_mem hg) h rfl
    injection this with _ e
    rw [e]
theorem delF_none {D : Dk} {k : ByteArray} (h : ∀ p ∈ D, p.1 ≠ k) : delF D k = D := List.filter_eq_self.2 (fun p hp => by simpa using h p hp)
theorem removeD_snd (D : Dk) (k : ByteArray) : (removeD D k).2 = delF D k := by
  unfold removeD
  split
  · rename_i h
    exact (delF_none (getF_none_all h)).symm
  · rfl
theorem mem_delF {D : Dk} {k : ByteArray} {p : ByteArray × FileP} : p ∈ delF D k ↔ p ∈ D ∧ p.1 ≠ k := by
  unfold delF
  rw [List.mem_filter]
  simp
theorem delF_keys {D : Dk} (h : KeysN D) (k : ByteArray) : KeysN (delF D k) := h.filter _
theorem getF_snoc {D : Dk} {t k : ByteArray} {f : FileP} (h : t ≠ k) : getF (D ++ [(t, f)]) k = getF D k := by
  unfold getF
  rw [List.find?_append]
  simp [h]
theorem getF_snoc_self {D : Dk} {k : ByteArray} {f : FileP} (h : ∀ p ∈ D, p.1 ≠ k) : getF (D ++ [(k, f)]) k = some f := by
  unfold getF
  rw [List.find?_append, List.find?_eq_none.2 (fun p hp => by simpa using h p hp)]
  simp
theorem putF_new {D : Dk} {k : ByteArray} {f : FileP} (h : ∀ p ∈ D, p.1 ≠ k) : putF D k f = D ++ [(k, f)] := by
  unfold putF
  rw [getF_none_of h]
  rfl
theorem map_same {D : Dk} {k : ByteArray} {f : FileP} (h : ∀ p ∈ D, p.1 ≠ k) : D.map (fun p => if p.1 = k then (k, f) else p) = D := by
  conv => rhs; rw [← List.map_id D]
  refine List.map_congr_left (fun p hp => ?_)
  rw [if_neg (h p hp)]
  rfl
theorem putF_snoc_self {D : Dk} {k : ByteArray} {f g : FileP} (h : ∀ p ∈ D, p.1 ≠ k) : putF (D ++ [(k, f)]) k g = D ++ [(k, g)] := by
  unfold putF
  rw [getF_snoc_self h]
  simp only [Option.isSome_some, if_true, List.map_append, map_same h, List.map_cons, List.map_nil]
theorem mem_putF {D : Dk} {k : ByteArray} {f : FileP} {p : ByteArray × FileP} (h : p ∈ putF D k f) : p = (k, f) ∨ (p ∈ D ∧ p.1 ≠ k) := by
  unfold putF at h
  split at h
  · obtain ⟨q, hq, rfl⟩ := List.mem_map.1 h
    by_cases e : q.1 = k
    · rw [if_pos e]; exact .inl rfl
    · rw [if_neg e]; exact .inr ⟨hq, e⟩
  · rename_i hn
    rcases List.mem_append.1 h with h | h
    · refine .inr ⟨h, getF_none_all ?_ p h⟩
      simpa using hn
    · exact .inl (by simpa using h)
theorem putF_mem_self {D : Dk} {k : ByteArray} {f : FileP} : (k, f) ∈ putF D k f := by
  unfold putF
  split
  · rename_i h
    obtain ⟨g, hg⟩ := Option.isSome_iff_exists.1 h
    exact List.mem_map.2 ⟨_, getF_mem hg, if_pos rfl⟩
  · simp
theorem putF_mem_other {D : Dk} {k : ByteArray} {f : FileP} {p : ByteArray × FileP} (h : p ∈ D) (hp : p.1 ≠ k) : p ∈ putF D k f := by
  unfold putF
  split
  · exact List.mem_map.2 ⟨p, h, if_neg hp⟩
  · exact List.mem_append_left _ h
theorem putF_keys {D : Dk} (h : KeysN D) (k : ByteArray) (f : FileP) : KeysN (putF D k f) := by
  unfold putF
  split
  · refine List.pairwise_map.2 (h.imp ?_)
    intro a b hab
    by_cases ea : a.1 = k <;> by_cases eb : b.1 = k <;> simp only [ea, eb, if_true, if_false]
    · exact absurd (ea.trans eb.symm) hab
    · exact fun e => eb e.symm
    · exact fun e => ea e
    · exact hab
  · rename_i hn
    refine List.pairwise_append.2 ⟨h, List.pairwise_singleton _ _, ?_⟩
    intro a ha b hb
    have : b = (k, f) := by simpa using hb
    rw [this]
    exact getF_none_all (by simpa using hn) a ha
theorem putF_len (D : Dk) (k : ByteArray) (f : FileP) : (putF D k f).length ≤ D.length + 1 := by
  unfold putF
  split <;> simp
theorem delF_put {D : Dk} {k t : ByteArray} {f g : FileP} (ht : ∀ p ∈ D, p.1 ≠ t) (hk : t ≠ k) : delF (putF (D ++ [(t, g)]) k f) t = putF D k f := by
  unfold putF
  rw [getF_snoc hk]
  split
  · rw [List.map_append]
    have e1 : ∀ p ∈ D.map (fun p => if p.1 = k then (k, f) else p), p.1 ≠ t := by
      intro p hp
      obtain ⟨q, hq, rfl⟩ := List.mem_map.1 hp
      by_cases e : q.1 = k
      · rw [if_pos e]; exact fun h => hk h.symm
      · rw [if_neg e]; exact ht q hq
    have := delF_none e1
    unfold delF at *
    rw [List.filter_append, this]
    simp [hk]
  · have e1 : ∀ p ∈ D, p.1 ≠ t := ht
    have := delF_none e1
    unfold delF at *
    rw [List.filter_append, List.filter_append, this]
    have hk' : ¬ k = t := fun h => hk h.symm
    simp [hk']
/-! names -/
theorem digs_all : ∀ (k n : Nat), (digs k n).all isDig = true
  | 0, _ => rfl
  | k + 1, n => by
    unfold digs
    split
    · rfl
    · rw [List.all_append, digs_all k]
      have : (UInt8.ofNat (48 + n % 10)).toNat = 48 + n % 10 := by rw [UInt8.toNat_ofNat']; omega
      simp [isDig, this]
      omega
theorem digs_pos (k n : Nat) (h : n ≠ 0) : 1 ≤ (digs (k + 1) n).length := by
  unfold digs
  rw [if_neg h]
  simp
theorem digVal_digs : ∀ (k n : Nat), n < 10 ^ k → digVal 0 (digs k n) = n
  | 0, n, h => by
    have : n = 0 := by omega
    subst this
    rfl
  | k + 1, n, h => by
    unfold digs
    split
    · rename_i h0; subst h0; rfl
    · have : (UInt8.ofNat (48 + n % 10)).toNat = 48 + n % 10 := by rw [UInt8.toNat_ofNat']; omega
      rw [digVal_snoc, digVal_digs k (n / 10) (by rw [Nat.pow_succ] at h; omega), this]
      omega
theorem nameF_drop (n : Nat) : (nameF n).drop 5 = digs 13 n := rfl
theorem fileOf_nameF (n : NIdx) (h : n.val ≠ 0) : fileOf (nameF n.val) = some n := by
  have hl := digs_len 13 n.val
  have hp : 1 ≤ (digs 13 n.val).length := digs_pos 12 n.val h
  have hn : (nameF n.val).length = 5 + (digs 13 n.val).length := by simp [nameF, snapB]; omega
  have hv : digVal 0 (digs 13 n.val) = n.val := digVal_digs 13 n.val (by have := n.isLt; omega)
  unfold fileOf
  rw [if_pos ⟨by omega, by omega, rfl, digs_all 13 n.val⟩, dif_pos ⟨by rw [nameF_drop, hv]; have := n.isLt; omega, by rw [nameF_drop, hv]⟩]
  congr 1
  exact Fin.ext hv
theorem fileOf_some {s : List UInt8} {n : NIdx} (h : fileOf s = some n) : s = nameF n.val ∧ n.val ≠ 0 := by
  unfold fileOf at h
  split at h
  · rename_i h1
    split at h
    · rename_i h2
      injection h with h
      subst h
      refine ⟨h2.2, fun h0 => ?_⟩
      have e := h2.2
      simp only at h0
      rw [h0] at e
      have := congrArg List.length e
      simp [nameF, snapB, digs] at this
      omega
    · cases h
  · cases h
theorem nameK_list (n : Nat) : (nameK n).data.toList = nameF n := rfl
theorem nameK_inj {a b : NIdx} (ha : a.val ≠ 0) (hb : b.val ≠ 0) (h : nameK a.val = nameK b.val) : a = b := by
  have h1 := fileOf_nameF a ha
  have h2 := fileOf_nameF b hb
  rw [← nameK_list, h, nameK_list, h2] at h1
  injection h1 with h1
  exact h1.symm
theorem key_of_list {k : ByteArray} {l : List UInt8} (h : k.data.toList = l) : k = ⟨l.toArray⟩ := by
  apply ByteArray.ext
  rw [← h]
theorem tmpK_file : fileOf tmpK.data.toList = none := by
  refine fileOf_short (fun h => ?_)
  have := h.2.2.1
  revert this
  decide
theorem tmpK_ne (n : NIdx) (h : n.val ≠ 0) : tmpK ≠ nameK n.val := fun e => by
  have h1 := fileOf_nameF n h
  rw [← nameK_list, ← e, tmpK_file] at h1
  cases h1
theorem nameC_dig (c : UInt8) (h : isDig c = true) : nameC c = true := by
  simp only [isDig, decide_eq_true_eq] at h
  unfold nameC
  simp
  omega
theorem namedF_nameK (n : Nat) : namedF (nameK n) = true := by
  have hl := nameF_size n
  have h5 : 5 ≤ (nameK n).size := by show 5 ≤ (nameF n).toArray.size; simp [nameF, snapB]
  unfold namedF
  rw [decide_eq_true (by omega), decide_eq_true (by omega), nameK_list]
  simp only [Bool.true_and, nameF, List.all_append, Bool.and_eq_true]
  refine ⟨by decide, ?_⟩
  rw [List.all_eq_true]
  intro c hc
  exact nameC_dig c (List.all_eq_true.1 (digs_all 13 n) c hc)
/-! the files of snapshots -/
theorem mem_filesF {D : Dk} {n : NIdx} : n ∈ filesF D ↔ ∃ p ∈ D, fileOf p.1.data.toList = some n := by
  unfold filesF sortF namesF
  rw [List.mem_mergeSort, List.mem_filterMap]
  constructor
  · rintro ⟨s, hs, h⟩
    rw [List.mem_mergeSort] at hs
    obtain ⟨p, hp, rfl⟩ := List.mem_map.1 hs
    exact ⟨p, hp, h⟩
  · rintro ⟨p, hp, h⟩
    exact ⟨_, List.mem_mergeSort.2 (List.mem_map.2 ⟨p, hp, rfl⟩), h⟩
theorem filesF_sorted (D : Dk) : (filesF D).Pairwise (fun a b => b.val ≤ a.val) := by
  unfold filesF sortF
  refine (List.pairwise_mergeSort (le := fun x y => !(ltOf cfF) y x) ?_ ?_ _).imp ?_
  · intro a b c h1 h2
    rw [ltF] at *
    simp at *
    omega
  · intro a b
    rw [ltF, ltF]
    simp
    omega
  · intro a b h
    rw [ltF] at h
    simpa using h
/-- The files that a save of an index leaves. -/
def keepB (idx : Int) (p : ByteArray × FileP) : Bool := match fileOf p.1.data.toList with
  | some n => decide (idx ≤ (n.val : Int))
  | none => true
theorem purge_fold (idx : Int) : ∀ (L : List NIdx) (D : Dk), purgeF idx D L = D.filter (fun p => L.all fun n => !decide ((n.val : Int) < idx) || decide (p.1 ≠ nameK n.val))
  | [], D => by
    symm
    exact List.filter_eq_self.2 (fun p _ => rfl)
  | n :: L, D => by
    have e : purgeF idx D (n :: L) = purgeF idx (if (n.val : Int) < idx then (removeD D (nameK n.val)).2 else D) L := rfl
    rw [e, purge_fold idx L]
    split
    · rename_i h
      rw [removeD_snd]
      unfold delF
      rw [List.filter_filter]
      refine List.filter_congr (fun p _ => ?_)
      simp only [List.all_cons, decide_eq_true h, Bool.not_true, Bool.false_or]
      rw [Bool.and_comm]
    · rename_i h
      refine List.filter_congr (fun p _ => ?_)
      simp only [List.all_cons, decide_eq_false h, Bool.not_false, Bool.true_or, Bool.true_and]
theorem purge_eq (idx : Int) (D : Dk) : purgeF idx D (filesF D) = D.filter (keepB idx) := by
  rw [purge_fold]
  refine List.filter_congr (fun p hp => ?_)
  rw [Bool.eq_iff_iff, List.all_eq_true]
  unfold keepB
  constructor
  · intro h
    split
    · rename_i n hn
      have h1 := h n (mem_filesF.2 ⟨p, hp, hn⟩)
      have h2 : p.1 = nameK n.val := key_of_list (fileOf_some hn).1
      simp only [decide_eq_true_eq]
      rw [h2] at h1
      simp at h1
      omega
    · rfl
  · intro h n hn
    obtain ⟨q, hq, hqn⟩ := mem_filesF.1 hn
    by_cases e : p.1 = nameK n.val
    · have h2 : fileOf p.1.data.toList = some n := by
        rw [e, nameK_list]
        exact fileOf_nameF n (fileOf_some hqn).2
      rw [h2] at h
      simp only [decide_eq_true_eq] at h
      have : ¬ (n.val : Int) < idx := by omega
      simp [this]
    · simp [e]
/-- A save that has room. -/
theorem saveD_ok (room : Int) (D : Dk) (s : SnapV) (x : List UInt8) (hs : sputF s = .ok x) (h16 : (delF D tmpK).length < 16) (hroom : (usedF (delF D tmpK) : Int) + x.length ≤ room) :
    saveD room D s = (0, (putF (delF D tmpK) (nameK s.idx.toNat) ⟨x, x, true, []⟩).filter (keepB s.idx)) := by
  obtain ⟨i1, i2, t1, t2, hr, hd, hx⟩ := sputF_ok hs
  have hbl := snapBody_length hr i2 t2 hd
  have hxl : x.length ≤ 20008 := by rw [hx, frameOf_length]; omega
  obtain ⟨n, hn⟩ : ∃ n : NIdx, n.val = s.idx.toNat := ⟨⟨s.idx.toNat, by omega⟩, rfl⟩
  have hn0 : n.val ≠ 0 := by omega
  have hD1 : ∀ p ∈ delF D tmpK, p.1 ≠ tmpK := fun p hp => (mem_delF.1 hp).2
  generalize hDD : delF D tmpK = D1 at *
  have hW : writeF room D1 tmpK 0 x = (0, D1 ++ [(tmpK, ⟨x, [], false, [⟨false, 0, 0, x⟩]⟩)]) := by
    have hget : (getF D1 tmpK).getD noFile = noFile := by rw [getF_none_of hD1]; rfl
    have h0 : noFile.now.length = 0 := rfl
    have hz : (0 : Int).toNat = 0 := rfl
    unfold writeF
    rw [if_neg (by decide), hget, if_neg (by rw [h0]; omega), if_neg (by rw [h0, hz]; omega), if_neg (by rw [h0, hz]; omega), putF_new hD1]
    simp [wroteF, layF, noFile]
  have hS : (syncD (D1 ++ [(tmpK, ⟨x, [], false, [⟨false, 0, 0, x⟩]⟩)]) tmpK).2 = D1 ++ [(tmpK, ⟨x, x, true, []⟩)] := by
    unfold syncD
    rw [getF_snoc_self hD1]
    simp only [syncF]
    exact putF_snoc_self hD1
  have hR : renameD (D1 ++ [(tmpK, ⟨x, x, true, []⟩)]) tmpK (nameK s.idx.toNat) = (0, putF D1 (nameK s.idx.toNat) ⟨x, x, true, []⟩) := by
    have hne := tmpK_ne n hn0
    rw [hn] at hne
    unfold renameD
    rw [getF_snoc_self hD1]
    simp only
    rw [if_neg (by rw [namedF_nameK]; decide), if_neg hne, delF_put hD1 hne]
  unfold saveD
  rw [hs]
  simp only
  rw [removeD_snd, hDD, hW]
  simp only [if_true]
  rw [hS, hR]
  simp only [if_true]
  rw [purge_eq]
/-- The greatest whole file is loaded. -/
theorem loadF_best {D : Dk} (hk : KeysN D) {n : NIdx} {s : SnapV} {f : FileP} (h0 : n.val ≠ 0) (hm : (nameK n.val, f) ∈ D) (hg : sgetF f.now = .ok s) (hi : s.idx = (n.val : Int)) (hb : ∀ p ∈ D, ∀ m, fileOf p.1.data.toList = some m → m.val ≤ n.val) : loadF D = .ok s := by
  have hmem : n ∈ filesF D := mem_filesF.2 ⟨_, hm, fileOf_nameF n h0⟩
  have hs := filesF_sorted D
  have hall : ∀ m ∈ filesF D, m.val ≤ n.val := fun m hm' => by
    obtain ⟨p, hp, h⟩ := mem_filesF.1 hm'
    exact hb p hp m h
  unfold loadF
  generalize filesF D = L at *
  cases L with
  | nil => cases hmem
  | cons y t =>
    have hy : y = n := by
      refine Fin.ext (Nat.le_antisymm (hall y List.mem_cons_self) ?_)
      rcases List.mem_cons.1 hmem with e | e
      · rw [e]; exact Nat.le_refl _
      · exact (List.pairwise_cons.1 hs).1 n e
    subst hy
    refine loadL_this ?_ hi
    unfold readR
    rw [getF_of_mem hk hm]
    exact hg
theorem loadF_none {D : Dk} (h : ∀ p ∈ D, fileOf p.1.data.toList = none) : loadF D = .error 8 := by
  have : filesF D = [] := by
    refine List.eq_nil_iff_forall_not_mem.2 (fun n hn => ?_)
    obtain ⟨p, hp, e⟩ := mem_filesF.1 hn
    rw [h p hp] at e
    cases e
  unfold loadF
  rw [this]
  rfl
end Go.Proofs.Ytapgknaoieojkaa.Toll
