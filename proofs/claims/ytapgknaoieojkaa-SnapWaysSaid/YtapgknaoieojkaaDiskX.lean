/- The disk's changes, in plain words: an entry replaced, added, taken away, renamed. -/
import Derived.Test.YtapgknaoieojkaaDiskU
set_option linter.unusedVariables false
set_option linter.unusedSimpArgs false
set_option maxRecDepth 100000
namespace Go.Proofs.Ytapgknaoieojkaa.Toll
open Go.RowKit
open Go.ChangeMaps (setBlock)
def getF (D : List (ByteArray × FileP)) (k : ByteArray) : Option FileP := (D.find? fun p => decide (p.1 = k)).map (·.2)
def putF (D : List (ByteArray × FileP)) (k : ByteArray) (f : FileP) : List (ByteArray × FileP) := if (getF D k).isSome then D.map (fun p => if p.1 = k then (k, f) else p) else D ++ [(k, f)]
def delF (D : List (ByteArray × FileP)) (k : ByteArray) : List (ByteArray × FileP) := D.filter fun p => decide (p.1 ≠ k)
theorem getF_none {ents : List Ent} {k : ByteArray} (h : getF (ents.map Ent.abs) k = none) : ∀ e ∈ ents, e.key ≠ k := by
  intro e he hk
  unfold getF at h
  rw [Option.map_eq_none_iff, List.find?_eq_none] at h
  exact h e.abs (List.mem_map.2 ⟨e, he, rfl⟩) (by simpa using hk)
theorem getF_some {ents : List Ent} {k : ByteArray} {f : FileP} (h : getF (ents.map Ent.abs) k = some f) : ∃ e ∈ ents, e.key = k ∧ e.f = f := by
  unfold getF at h
  obtain ⟨p, hp, rfl⟩ := Option.map_eq_some_iff.1 h
  obtain ⟨e, he, rfl⟩ := List.mem_map.1 (List.mem_of_find?_eq_some hp)
  have := List.find?_some hp
  exact ⟨e, he, by simpa using this, rfl⟩
theorem getF_of {ents : List Ent} (hd : Diff ents) {e : Ent} (he : e ∈ ents) : getF (ents.map Ent.abs) e.key = some e.f := by
  cases h : getF (ents.map Ent.abs) e.key with
  | none => exact absurd rfl (getF_none h e he)
  | some f =>
    obtain ⟨x, hx, hk, rfl⟩ := getF_some h
    rw [diff_mem hd hx he hk]
theorem getF_no {ents : List Ent} {k : ByteArray} (h : ∀ e ∈ ents, e.key ≠ k) : getF (ents.map Ent.abs) k = none := by
  cases h' : getF (ents.map Ent.abs) k with
  | none => rfl
  | some f =>
    obtain ⟨x, hx, hk, rfl⟩ := getF_some h'
    exact absurd hk (h x hx)
theorem delF_abs (ents : List Ent) (k : ByteArray) : (ents.filter fun x => decide (x.key ≠ k)).map Ent.abs = delF (ents.map Ent.abs) k := by
  unfold delF
  rw [List.filter_map]
  rfl
theorem putF_some {ents : List Ent} (hd : Diff ents) {e0 e1 : Ent} (he : e0 ∈ ents) (hk : e1.key = e0.key) : (putE ents e0.key fun _ => e1).map Ent.abs = putF (ents.map Ent.abs) e0.key e1.f := by
  unfold putF
  rw [getF_of hd he]
  simp only [Option.isSome_some, if_true, putE, List.map_map]
  refine List.map_congr_left (fun x _ => ?_)
  simp only [Function.comp, Ent.abs]
  split
  · rw [hk]
  · rfl
theorem putF_none {ents : List Ent} {x : Ent} (h : ∀ e ∈ ents, e.key ≠ x.key) : (ents ++ [x]).map Ent.abs = putF (ents.map Ent.abs) x.key x.f := by
  unfold putF
  rw [getF_no h]
  simp [Ent.abs]
theorem owns_type {w : World} {v : Value} {n : Nat} {vs : List Value} {e : TypeId} {size : Nat} (h : w.ownsRow 0 e size v n vs) {i : Nat} (hi : v.ownBlock = some i) : ∃ cur, Blk w i cur e := by
  rcases h.2 with ⟨rfl, _⟩ | ⟨g, cap, cur, rfl, _, hg, _⟩
  · simp [Value.ownBlock] at hi
  · simp [Value.ownBlock] at hi
    subst hi
    exact ⟨cur, hg⟩
theorem Blk.type {w : World} {i j : Nat} {cs cs' : Array Value} {t t' : TypeId} (h : Blk w i cs t) (h' : Blk w j cs' t') (ht : t ≠ t') : i ≠ j := by
  rintro rfl
  unfold Blk at h h'
  rw [h] at h'
  simp only [Option.some.injEq, Obj.cells.injEq] at h'
  exact ht h'.2.1
theorem Blk.not_map {w : World} {i j : Nat} {cs : Array Value} {t : TypeId} {es : Array MapEntry} {c : Nat} (h : Blk w i cs t) (h' : w.heap[j]? = some (.map es c)) : j ≠ i := by
  rintro rfl
  unfold Blk at h
  rw [h] at h'
  cases h'
section
variable {F : Nat → Prop} {w w' : World} {d M clock : Nat} {room : Int} {ents : List Ent}
/-- F with all that is new. -/
def FNew (F : Nat → Prop) (w w' : World) : Nat → Prop := fun i => F i ∨ (w.heap.size ≤ i ∧ i < w'.heap.size)
theorem FileAt.kept (h : DiskAt F w d M clock room ents) {e0 x : Ent} (he : e0 ∈ ents) (hx : x ∈ ents) (hne : x ≠ e0) (k : Keeps (fun i => i = e0.blk ∨ e0.chgV.ownBlock = some i ∨ i = M) w w') : FileAt F w' x := by
  have hx' := h.file x hx
  have he' := h.file e0 he
  have hkne : x.key ≠ e0.key := fun e => hne (diff_mem h.diff hx he e)
  have hap : Apart x e0 := by
    have hp := h.apart
    have : ∀ l : List Ent, l.Pairwise Apart → x ∈ l → e0 ∈ l → Apart x e0 := by
      intro l
      induction l with
      | nil => intro _ h _; cases h
      | cons y l ih =>
        intro hp h1 h2
        have h' := List.pairwise_cons.1 hp
        rcases List.mem_cons.1 h1 with e1 | h1
        · rcases List.mem_cons.1 h2 with e2 | h2
          · exact absurd (e1.trans e2.symm) hne
          · exact e1 ▸ h'.1 e0 h2
        · rcases List.mem_cons.1 h2 with e2 | h2
          · exact (e2 ▸ h'.1 x h1).symm
          · exact ih h'.2 h1 h2
    exact this ents hp hx he
  obtain ⟨vs, ho, _⟩ := he'.chg
  obtain ⟨vs', ho', _⟩ := hx'.chg
  refine hx'.keeps k ?_ ?_ ?_
  · rintro (h1 | h1 | h1)
    · exact hap.blk h1
    · obtain ⟨cur, hb⟩ := owns_type ho h1
      exact (hx'.blk.type hb (by decide)) rfl
    · exact hx'.blk.not_map h.map h1.symm
  · intro i hi
    obtain ⟨cur, hb⟩ := owns_type ho' hi
    rintro (h1 | h1 | h1)
    · exact (hb.type he'.blk (by decide)) h1
    · exact hap.chg i hi h1
    · exact hb.not_map h.map h1.symm
  · intro i _ hu
    rintro (h1 | h1 | h1)
    · exact hu.ne he'.blk (by decide) h1
    · obtain ⟨cur, hb⟩ := owns_type ho h1
      exact hu.ne hb (by decide) rfl
    · exact hu.ne_map h.map h1
theorem FNew.mono (F : Nat → Prop) (w w' : World) : ∀ i, F i → FNew F w w' i := fun i h => .inl h
theorem entry_putE {e0 e1 : Ent} (hd : Diff ents) (he : e0 ∈ ents) (hk : e1.key = e0.key) (hb : e1.blk = e0.blk) (hn : e1.born = e0.born) : esOf (putE ents e0.key fun _ => e1) = esOf ents := by
  unfold esOf putE
  rw [List.map_map]
  congr 1
  refine List.map_congr_left (fun x hx => ?_)
  simp only [Function.comp]
  split
  · rename_i hxk
    have := diff_mem hd hx he hxk
    subst this
    simp only [Ent.entry, hk, hb, hn]
  · rfl
theorem put_apart {e0 e1 : Ent} (h : ents.Pairwise Apart) (he : e0 ∈ ents) (hA : ∀ x ∈ ents, x.key ≠ e0.key → Apart x e1) : (putE ents e0.key fun _ => e1).Pairwise Apart := by
  unfold putE
  rw [List.pairwise_map]
  refine List.Pairwise.imp_of_mem ?_ h
  intro a b ha hb hab
  by_cases h1 : a.key = e0.key
  · have h2 : ¬ b.key = e0.key := fun e => hab.key (h1.trans e.symm)
    rw [if_pos h1, if_neg h2]
    exact (hA b hb h2).symm
  · rw [if_neg h1]
    by_cases h2 : b.key = e0.key
    · rw [if_pos h2]; exact hA a ha h1
    · rw [if_neg h2]; exact hab
theorem mem_putE {k : ByteArray} {e1 x : Ent} (h : x ∈ putE ents k fun _ => e1) : x = e1 ∨ (x ∈ ents ∧ x.key ≠ k) := by
  unfold putE at h
  obtain ⟨y, hy, e⟩ := List.mem_map.1 h
  split at e
  · exact .inl e.symm
  · rename_i hk; exact .inr ⟨e ▸ hy, e ▸ hk⟩
/-- One entry's file has turned. -/
theorem DiskAt.replace (h : DiskAt F w d M clock room ents) {e0 e1 : Ent} (he : e0 ∈ ents) (k : Keeps (fun i => i = e0.blk ∨ e0.chgV.ownBlock = some i) w w') (hk : e1.key = e0.key) (hb : e1.blk = e0.blk) (hn : e1.born = e0.born)
    (hf : FileAt (FNew F w w') w' e1) (hc : ∀ i, e1.chgV.ownBlock = some i → e0.chgV.ownBlock = some i ∨ w.heap.size ≤ i) : DiskAt (FNew F w w') w' d M clock room (putE ents e0.key fun _ => e1) := by
  have he' := h.file e0 he
  obtain ⟨vs, ho, _⟩ := he'.chg
  have hM : ¬ (M = e0.blk ∨ e0.chgV.ownBlock = some M) := by
    rintro (h1 | h1)
    · exact he'.blk.not_map h.map h1
    · obtain ⟨cur, hb⟩ := owns_type ho h1
      exact hb.not_map h.map rfl
  have hd : ¬ (d = e0.blk ∨ e0.chgV.ownBlock = some d) := by
    rintro (h1 | h1)
    · exact h.disk.type he'.blk (by decide) h1
    · obtain ⟨cur, hb⟩ := owns_type ho h1
      exact h.disk.type hb (by decide) rfl
  refine ⟨h.disk.keeps k hd, .inl h.dF, .inl h.mF, ?_, ?_, ?_, ?_, ?_, ?_, ?_, h.room0, h.roomM⟩
  · rintro i (h1 | h1)
    · exact Nat.lt_of_lt_of_le (h.lt i h1) k.size
    · exact h1.2
  · rw [entry_putE h.diff he hk hb hn]
    exact (k.block M (h.lt M h.mF) hM).trans h.map
  · intro x hx
    rcases mem_putE hx with rfl | ⟨hx, _⟩
    · rw [hn]; exact h.born e0 he
    · exact h.born x hx
  · intro x hx
    rcases mem_putE hx with rfl | ⟨hx, _⟩
    · rw [hk]; exact h.keys e0 he
    · exact h.keys x hx
  · unfold putE; rw [List.length_map]; exact h.small
  · refine put_apart h.apart he fun x hx hxk => ?_
    have hne : x ≠ e0 := fun e => hxk (e ▸ rfl)
    have hap : Apart x e0 := by
      have hp := h.apart
      have : ∀ l : List Ent, l.Pairwise Apart → x ∈ l → e0 ∈ l → Apart x e0 := by
        intro l
        induction l with
        | nil => intro _ h _; cases h
        | cons y l ih =>
          intro hp h1 h2
          have h' := List.pairwise_cons.1 hp
          rcases List.mem_cons.1 h1 with e1 | h1
          · rcases List.mem_cons.1 h2 with e2 | h2
            · exact absurd (e1.trans e2.symm) hne
            · exact e1 ▸ h'.1 e0 h2
          · rcases List.mem_cons.1 h2 with e2 | h2
            · exact (e2 ▸ h'.1 x h1).symm
            · exact ih h'.2 h1 h2
      exact this ents hp hx he
    refine ⟨hk ▸ hxk, hn ▸ hap.born, hb ▸ hap.blk, fun i h1 h2 => ?_⟩
    rcases hc i h2 with h3 | h3
    · exact hap.chg i h1 h3
    · have := h.lt i ((h.file x hx).chgF i h1)
      omega
  · intro x hx
    rcases mem_putE hx with rfl | ⟨hx, hxk⟩
    · exact hf
    · exact (FileAt.kept h he hx (fun e => hxk (e ▸ rfl)) (k.mono fun i _ hi => hi.elim .inl (fun h => .inr (.inl h)))).mono (FNew.mono F w w')
/-- A new entry. -/
theorem DiskAt.add (h : DiskAt F w d M clock room ents) {x : Ent} (k : Keeps (· = M) w w') (hm : w'.heap[M]? = some (.map (esOf (ents ++ [x])) (clock + 1))) (hk : ∀ e ∈ ents, e.key ≠ x.key) (hks : x.key.size ≤ 64) (hl : ents.length < 16) (hn : x.born = clock)
    (hb : w.heap.size ≤ x.blk) (hf : FileAt (FNew F w w') w' x) (hc : ∀ i, x.chgV.ownBlock = some i → w.heap.size ≤ i) : DiskAt (FNew F w w') w' d M (clock + 1) room (ents ++ [x]) := by
  have keep : ∀ y ∈ ents, FileAt F w' y := fun y hy => by
    have hy' := h.file y hy
    obtain ⟨vs, ho, _⟩ := hy'.chg
    refine hy'.keeps k (fun e => hy'.blk.not_map h.map e.symm) (fun i hi e => ?_) (fun i _ hu e => hu.ne_map h.map e)
    obtain ⟨cur, hb⟩ := owns_type ho hi
    exact hb.not_map h.map e.symm
  refine ⟨h.disk.keeps k (fun e => h.disk.not_map h.map e.symm), .inl h.dF, .inl h.mF, ?_, hm, ?_, ?_, ?_, ?_, ?_, h.room0, h.roomM⟩
  · rintro i (h1 | h1)
    · exact Nat.lt_of_lt_of_le (h.lt i h1) k.size
    · exact h1.2
  · intro y hy
    rcases List.mem_append.1 hy with hy | hy
    · have := h.born y hy; omega
    · rw [List.mem_singleton.1 hy]; omega
  · intro y hy
    rcases List.mem_append.1 hy with hy | hy
    · exact h.keys y hy
    · rw [List.mem_singleton.1 hy]; exact hks
  · simp; omega
  · refine List.pairwise_append.2 ⟨h.apart, List.pairwise_singleton _ _, ?_⟩
    intro a ha b hb'
    rw [List.mem_singleton.1 hb']
    refine ⟨hk a ha, ?_, ?_, ?_⟩
    · have := h.born a ha; omega
    · have := (h.file a ha).blk.lt; omega
    · intro i h1 h2
      have := hc i h2
      have := h.lt i ((h.file a ha).chgF i h1)
      omega
  · intro y hy
    rcases List.mem_append.1 hy with hy | hy
    · exact (keep y hy).mono (FNew.mono F w w')
    · rw [List.mem_singleton.1 hy]; exact hf
/-- An entry taken away. -/
theorem DiskAt.drop (h : DiskAt F w d M clock room ents) (k : Keeps (· = M) w w') (key : ByteArray) (hm : w'.heap[M]? = some (.map (esOf (ents.filter fun x => decide (x.key ≠ key))) clock)) : DiskAt F w' d M clock room (ents.filter fun x => decide (x.key ≠ key)) := by
  have sub : ∀ y, y ∈ ents.filter (fun x => decide (x.key ≠ key)) → y ∈ ents := fun y hy => (List.mem_filter.1 hy).1
  refine ⟨h.disk.keeps k (fun e => h.disk.not_map h.map e.symm), h.dF, h.mF, fun i hi => Nat.lt_of_lt_of_le (h.lt i hi) k.size, hm, fun y hy => h.born y (sub y hy), fun y hy => h.keys y (sub y hy), Nat.le_trans (List.length_filter_le _ _) h.small, h.apart.filter _, ?_, h.room0, h.roomM⟩
  intro y hy
  have hy' := h.file y (sub y hy)
  obtain ⟨vs, ho, _⟩ := hy'.chg
  refine hy'.keeps k (fun e => hy'.blk.not_map h.map e.symm) (fun i hi e => ?_) (fun i _ hu e => hu.ne_map h.map e)
  obtain ⟨cur, hb⟩ := owns_type ho hi
  exact hb.not_map h.map e.symm
end
end Go.Proofs.Ytapgknaoieojkaa.Toll
