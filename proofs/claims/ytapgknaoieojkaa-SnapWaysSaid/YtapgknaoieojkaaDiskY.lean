/- Write, in plain words. -/
import Derived.Test.YtapgknaoieojkaaDiskX
set_option linter.unusedVariables false
set_option linter.unusedSimpArgs false
set_option maxRecDepth 100000
namespace Go.Proofs.Ytapgknaoieojkaa.Toll
open Go.RowKit
open Go.ChangeMaps (setBlock)
def noFile : FileP := ⟨[], [], false, []⟩
def wroteF (f : FileP) (n : Nat) (b : List UInt8) : FileP := ⟨layF f.now n b, f.sure, f.lasts, f.chs ++ [⟨false, 0, n, b⟩]⟩
def writeF (room : Int) (D : List (ByteArray × FileP)) (k : ByteArray) (at_ : Int) (b : List UInt8) : Int × List (ByteArray × FileP) :=
  if namedF k = false then (14, D)
  else if at_ < 0 ∨ (((getF D k).getD noFile).now.length : Int) < at_ then (2, D)
  else if ((getF D k).isNone ∧ 16 ≤ D.length) ∨ 262144 < ((getF D k).getD noFile).now.length + (at_.toNat + b.length - ((getF D k).getD noFile).now.length) then (6, D)
  else if room < (usedF D : Int) + ((at_.toNat + b.length - ((getF D k).getD noFile).now.length : Nat) : Int) then (9, D)
  else (0, putF D k (wroteF ((getF D k).getD noFile) at_.toNat b))
theorem tyChg : SlTy Try.prog tChgs tChg 4 48 (.agg #[.bool false, .int .i64 0, .int .i64 0, .slice none 0 0]) := ⟨Try.underlying90, by kernel_rfl, rfl, by omega⟩
/-- What a deed on a disk leaves. -/
def DiskPost (F : Nat → Prop) (w : World) (d : Nat) (room : Int) (v : Value) (D : List (ByteArray × FileP)) (e : Ending) (w' : World) : Prop :=
  ∃ F', e = .returned v ∧ DiskIn F' w' d room D ∧ Keeps F w w' ∧ ∀ i, F' i → F i ∨ w.heap.size ≤ i
section
variable {F : Nat → Prop} {d M clock : Nat} {room : Int} {ents : List Ent}
theorem DiskAt.post {w w' : World} (h : DiskAt F w d M clock room ents) (k : Below w.heap.size w w') (v : Value) : DiskPost F w d room v (ents.map Ent.abs) (.returned v) w' :=
  ⟨F, rfl, ⟨M, clock, ents, h.out (Keeps.of_new (S := fun _ => False) k) (fun _ _ => id), rfl⟩, Keeps.of_new k, fun i hi => .inl hi⟩
theorem layF_length (old b : List UInt8) (n : Nat) (h : n ≤ old.length) : (layF old n b).length = old.length + (n + b.length - old.length) := by
  simp [layF]
  omega
theorem OwV.row {e : TypeId} {size base : Nat} {w : World} {v : Value} {n : Nat} {vs : List Value} (h : OwV e size base w v n vs) (hn : 0 < n) : w.ownsRow base e size v n vs := by
  rcases h with h | ⟨rfl, _⟩
  · exact h
  · omega
/-- What Write leaves of a file that was there, in plain words. -/
theorem wrote_some {w w2 w3 w4 w5 : World} (H : DiskAt F w d M clock room ents) {e0 : Ent} (he : e0 ∈ ents) {B0 n : Nat} {b : List UInt8} {v2 v4 v5 : Value} {vs : List Value} {o : Obj} (hB0 : w.heap.size ≤ B0) (B2 : Below w.heap.size w w2) (O2 : OwB B0 w2 v2 (layF e0.f.now n b))
    (K3 : Keeps (· = e0.blk) w2 w3) (hb3 : ∃ cs, Blk w3 e0.blk cs tFile) (b4 : Below w3.heap.size w3 w4) (o4 : OwB w3.heap.size w4 v4 b) (hcr : ChgR F w vs e0.f.chs) (hrow : w.ownsRow 0 tChg 4 e0.chgV e0.f.chs.length vs)
    (o5 : OwV tChg 4 0 w5 v5 (e0.f.chs.length + 1) (vs ++ [.bool false, .int .i64 0, .int .i64 (n : Int), v4])) (g5 : Grow 0 (w4.alloc o) e0.chgV w5 v5) (hb5 : Blk w5 e0.blk #[v2, e0.sureV, .bool e0.f.lasts, e0.chgV] tFile) (hn : n ≤ e0.f.now.length) (hl : (layF e0.f.now n b).length ≤ 262144) :
    DiskAt (FNew F w (w5.setCell ⟨e0.blk, 3, none⟩ v5)) (w5.setCell ⟨e0.blk, 3, none⟩ v5) d M clock room (putE ents e0.key fun _ => { e0 with nowV := v2, chgV := v5, f := wroteF e0.f n b }) ∧ Keeps F w (w5.setCell ⟨e0.blk, 3, none⟩ v5) ∧ (w5.setCell ⟨e0.blk, 3, none⟩ v5).heap[M]? = some (.map (esOf ents) clock) ∧
      (putE ents e0.key fun _ => { e0 with nowV := v2, chgV := v5, f := wroteF e0.f n b }).map Ent.abs = putF (ents.map Ent.abs) e0.key (wroteF e0.f n b) := by
  have he' := H.file e0 he
  have hb0 := he'.blk
  have hrow2 := ownsRow_keeps (S := fun _ => False) hrow (Keeps.of_new B2) (fun _ _ => id)
  have hb2 := hb0.below B2
  have ne2 : ∀ i, e0.chgV.ownBlock = some i → i ≠ e0.blk := fun i hi => by
    obtain ⟨cur, hc⟩ := owns_type hrow hi
    exact hc.type hb0 (by decide)
  have hrow4 : w4.ownsRow 0 tChg 4 e0.chgV e0.f.chs.length vs := ownsRow_keeps (S := fun _ => False) (ownsRow_keeps hrow2 K3 ne2) (Keeps.of_new b4) (fun _ _ => id)
  have k25 : Keeps (fun i => i = e0.blk ∨ e0.chgV.ownBlock = some i) w2 (w5.setCell ⟨e0.blk, 3, none⟩ v5) :=
    (((K3.mono (fun i _ h => .inl h)).trans (Keeps.of_new b4)).trans ((Keeps.alloc _ _ _).trans (g5.keeps.mono (fun i _ h => .inr h.2)))).trans (Keeps.setCell w5 ⟨e0.blk, 3, none⟩ v5 (.inl (.inl rfl)))
  have k45 : Keeps (fun i => i = e0.blk ∨ e0.chgV.ownBlock = some i) w4 (w5.setCell ⟨e0.blk, 3, none⟩ v5) :=
    ((Keeps.alloc _ _ _).trans (g5.keeps.mono (fun i _ h => .inr h.2))).trans (Keeps.setCell w5 ⟨e0.blk, 3, none⟩ v5 (.inl (.inl rfl)))
  have k05 : Keeps (fun i => i = e0.blk ∨ e0.chgV.ownBlock = some i) w (w5.setCell ⟨e0.blk, 3, none⟩ v5) := (Keeps.of_new B2).trans k25
  have hu : ∀ W, Keeps (fun i => i = e0.blk ∨ e0.chgV.ownBlock = some i) W (w5.setCell ⟨e0.blk, 3, none⟩ v5) → (∃ cs, Blk W e0.blk cs tFile) → W.ownsRow 0 tChg 4 e0.chgV e0.f.chs.length vs → ∀ i, U8 W i → ¬ (i = e0.blk ∨ e0.chgV.ownBlock = some i) := by
    intro W _ hbw hr i hi hS
    obtain ⟨cs, hbw⟩ := hbw
    rcases hS with h | h
    · exact hi.ne hbw (by decide) h
    · obtain ⟨cur, hc⟩ := owns_type hr h
      exact hi.ne hc (by decide) rfl
  have hb4 : ∃ cs, Blk w4 e0.blk cs tFile := by
    -- the block has its type in w5; what was done between keeps a block's type
    have h3 : ∃ cs, Blk w3 e0.blk cs tFile := hb3
    obtain ⟨cs, h3⟩ := h3
    exact ⟨cs, h3.below b4⟩
  have hM : (w5.setCell ⟨e0.blk, 3, none⟩ v5).heap[M]? = some (.map (esOf ents) clock) := by
    refine (k05.block M (H.lt M H.mF) ?_).trans H.map
    rintro (h1 | h1)
    · exact hb0.not_map H.map h1
    · obtain ⟨cur, hc⟩ := owns_type hrow h1
      exact hc.not_map H.map rfl
  refine ⟨H.replace he k05 rfl rfl rfl ?_ ?_, ?_, hM, putF_some (e1 := { e0 with nowV := v2, chgV := v5, f := wroteF e0.f n b }) H.diff he rfl⟩
  · have hb6 := hb5.set 3 v5
    simp only [List.setIfInBounds_toArray, List.set_cons_zero, List.set_cons_succ] at hb6
    have hro5 := o5.row (by omega)
    refine ⟨hb6, .inl he'.inF, ?_, ?_, ?_, ⟨vs ++ [.bool false, .int .i64 0, .int .i64 (n : Int), v4], ?_, ?_⟩, ?_⟩
    · refine (SlF.of_own (F := FNew F w (w5.setCell ⟨e0.blk, 3, none⟩ v5)) O2 (fun i h1 h2 => .inr ⟨Nat.le_trans hB0 h1, Nat.lt_of_lt_of_le h2 k25.size⟩)).keeps k25 (fun i _ hi => hu w2 k25 ⟨_, hb2⟩ hrow2 i hi)
    · exact (he'.sure.keeps k05 (fun i _ hi => hu w k05 ⟨_, hb0⟩ hrow i hi)).mono (FNew.mono F w _)
    · intro i hi
      rcases g5.fresh i hi (Nat.zero_le _) with h | h
      · exact .inl (he'.chgF i h)
      · obtain ⟨cur, hc⟩ := owns_type hro5 hi
        have := hc.lt
        refine .inr ⟨?_, by simp [World.setCell]; exact this⟩
        have h1 := B2.size
        have h2 := K3.size
        have h3 := b4.size
        have h4 : (w4.alloc o).heap.size = w4.heap.size + 1 := by simp
        omega
    · have := ownsRow_keeps hro5 (Keeps.setCell (S := (· = e0.blk)) w5 ⟨e0.blk, 3, none⟩ v5 (.inl rfl)) (fun i hi => by
        obtain ⟨cur, hc⟩ := owns_type hro5 hi
        exact hc.type hb5 (by decide))
      simpa [wroteF] using this
    · have h4 : SlF (FNew F w (w5.setCell ⟨e0.blk, 3, none⟩ v5)) (w5.setCell ⟨e0.blk, 3, none⟩ v5) v4 b :=
        (SlF.of_own (F := FNew F w (w5.setCell ⟨e0.blk, 3, none⟩ v5)) o4 (fun i h1 h2 => .inr ⟨by have := B2.size; have := K3.size; omega, Nat.lt_of_lt_of_le h2 k45.size⟩)).keeps k45 (fun i _ hi => hu w4 k45 hb4 hrow4 i hi)
      exact ChgR.snoc (c := ⟨false, 0, n, b⟩) h4 ((hcr.keeps k05 (fun i _ hi => hu w k05 ⟨_, hb0⟩ hrow i hi)).mono (FNew.mono F w _))
    · exact Chain.snoc (c := ⟨false, 0, n, b⟩) (fun h => by cases h) (fun _ => hn) hl he'.ok
  · intro i hi
    rcases g5.fresh i hi (Nat.zero_le _) with h | h
    · exact .inl h
    · have h1 := B2.size
      have h2 := K3.size
      have h3 := b4.size
      have h4 : (w4.alloc o).heap.size = w4.heap.size + 1 := by simp
      right
      omega
  · exact k05.mono (fun i _ h => by
      rcases h with h | h
      · exact h ▸ he'.inF
      · exact he'.chgF i h)
/-- What Write leaves of a new file, in plain words. -/
theorem wrote_none {w w2 w3 w4 w5 : World} (H : DiskAt F w d M clock room ents) {k : ByteArray} (hk : ∀ e ∈ ents, e.key ≠ k) (hks : k.size ≤ 64) (hlen : ents.length < 16) {B0 g : Nat} {b : List UInt8} {v2 v4 v5 : Value} {o : Obj} (hg : w.heap.size ≤ g) (hB0 : w.heap.size ≤ B0) (B2 : Below w.heap.size w w2)
    (hb2 : ∃ cs, Blk w2 g cs tFile) (O2 : OwB B0 w2 v2 b) (K3 : Keeps (· = g) w2 w3) (hb3 : ∃ cs, Blk w3 g cs tFile) (b4 : Below w3.heap.size w3 w4) (o4 : OwB w3.heap.size w4 v4 b)
    (o5 : OwV tChg 4 0 w5 v5 1 [.bool false, .int .i64 0, .int .i64 0, v4]) (g5 : Grow 0 (w4.alloc o) (.slice none 0 0) w5 v5) (hb5 : Blk w5 g #[v2, .slice none 0 0, .bool false, .slice none 0 0] tFile) (hl : b.length ≤ 262144) :
    ∃ x : Ent, x.key = k ∧ x.blk = g ∧ x.born = clock ∧ (w5.setCell ⟨g, 3, none⟩ v5).heap[M]? = some (.map (esOf ents) clock) ∧ (ents ++ [x]).map Ent.abs = putF (ents.map Ent.abs) k (wroteF noFile 0 b) ∧
      Keeps F w (setBlock (w5.setCell ⟨g, 3, none⟩ v5) M (.map (esOf (ents ++ [x])) (clock + 1))) ∧
      DiskAt (FNew F w (setBlock (w5.setCell ⟨g, 3, none⟩ v5) M (.map (esOf (ents ++ [x])) (clock + 1)))) (setBlock (w5.setCell ⟨g, 3, none⟩ v5) M (.map (esOf (ents ++ [x])) (clock + 1))) d M (clock + 1) room (ents ++ [x]) := by
  have k25 : Keeps (· = g) w2 (w5.setCell ⟨g, 3, none⟩ v5) := ((K3.trans (Keeps.of_new b4)).trans ((Keeps.alloc _ _ _).trans (g5.keeps.mono (fun i _ h => by simp [Value.ownBlock] at h)))).trans (Keeps.setCell w5 ⟨g, 3, none⟩ v5 (.inl rfl))
  have k45 : Keeps (· = g) w4 (w5.setCell ⟨g, 3, none⟩ v5) := ((Keeps.alloc _ _ _).trans (g5.keeps.mono (fun i _ h => by simp [Value.ownBlock] at h))).trans (Keeps.setCell w5 ⟨g, 3, none⟩ v5 (.inl rfl))
  have k06 : Keeps (fun i => w.heap.size ≤ i) w (w5.setCell ⟨g, 3, none⟩ v5) := (Keeps.of_new B2).trans (k25.mono (fun i _ h => h ▸ hg))
  have hMlt := H.lt M H.mF
  have hM : (w5.setCell ⟨g, 3, none⟩ v5).heap[M]? = some (.map (esOf ents) clock) := (k06.block M hMlt (by omega)).trans H.map
  refine ⟨⟨k, g, clock, v2, .slice none 0 0, v5, wroteF noFile 0 b⟩, rfl, rfl, rfl, hM, putF_none (x := ⟨k, g, clock, v2, .slice none 0 0, v5, wroteF noFile 0 b⟩) hk, ?_, ?_⟩
  · exact (k06.mono (fun i hi h => by omega)).trans (setBlock_keeps _ H.mF)
  generalize hx : (⟨k, g, clock, v2, .slice none 0 0, v5, wroteF noFile 0 b⟩ : Ent) = x
  have hw7 : Keeps (· = M) (w5.setCell ⟨g, 3, none⟩ v5) (setBlock (w5.setCell ⟨g, 3, none⟩ v5) M (.map (esOf (ents ++ [x])) (clock + 1))) := setBlock_keeps _ rfl
  have hm7 := setBlock_at (o' := .map (esOf (ents ++ [x])) (clock + 1)) hM
  generalize setBlock (w5.setCell ⟨g, 3, none⟩ v5) M (.map (esOf (ents ++ [x])) (clock + 1)) = w7 at *
  have hro5 := o5.row (by omega)
  have hb6 := hb5.set 3 v5
  simp only [List.setIfInBounds_toArray, List.set_cons_zero, List.set_cons_succ] at hb6
  have hro6 := ownsRow_keeps hro5 (Keeps.setCell (S := (· = g)) w5 ⟨g, 3, none⟩ v5 (.inl rfl)) (fun i hi => by
    obtain ⟨cur, hc⟩ := owns_type hro5 hi
    exact hc.type hb5 (by decide))
  have hgM : g ≠ M := by omega
  have hro7 := ownsRow_keeps hro6 hw7 (fun i hi e => by
    obtain ⟨cur, hc⟩ := owns_type hro6 hi
    exact hc.not_map hM e.symm)
  have hsz : w.heap.size ≤ w5.heap.size := by
    have h1 := B2.size
    have h2 := K3.size
    have h3 := b4.size
    have h4 : (w4.alloc o).heap.size = w4.heap.size + 1 := by simp
    have h5 := g5.keeps.size
    omega
  have hv5 : ∀ i, v5.ownBlock = some i → w.heap.size ≤ i := fun i hi => by
    rcases g5.fresh i hi (Nat.zero_le _) with h | h
    · simp [Value.ownBlock] at h
    · have h1 := B2.size
      have h2 := K3.size
      have h3 := b4.size
      have h4 : (w4.alloc o).heap.size = w4.heap.size + 1 := by simp
      omega
  have hu : ∀ W, (∃ cs, Blk W g cs tFile) → Keeps (· = g) W (w5.setCell ⟨g, 3, none⟩ v5) → W.heap[M]? = some (.map (esOf ents) clock) → ∀ {v : Value} {ys : List UInt8} {B1 : Nat}, OwB B1 W v ys → w.heap.size ≤ B1 → SlF (FNew F w w7) w7 v ys := by
    intro W ⟨cs, hb⟩ kk hWM v ys B1 ho hB1
    have kW : Keeps (fun i => i = g ∨ i = M) W w7 := (kk.mono (fun i _ h => .inl h)).trans (hw7.mono (fun i _ h => .inr h))
    refine (SlF.of_own (F := FNew F w w7) ho (fun i h1 h2 => .inr ⟨by omega, Nat.lt_of_lt_of_le h2 kW.size⟩)).keeps kW ?_
    rintro i _ hi (h | h)
    · exact hi.ne hb (by decide) h
    · exact hi.ne_map hWM h
  have hM2 : w2.heap[M]? = some (.map (esOf ents) clock) := (B2.block M hMlt).trans H.map
  have hM4 : w4.heap[M]? = some (.map (esOf ents) clock) := ((b4.block M (Nat.lt_of_lt_of_le (Nat.lt_of_lt_of_le hMlt B2.size) K3.size)).trans (K3.block M (Nat.lt_of_lt_of_le hMlt B2.size) (fun e => hgM e.symm))).trans hM2
  have hb4 : ∃ cs, Blk w4 g cs tFile := by
    obtain ⟨cs, h⟩ := hb3
    exact ⟨cs, h.below b4⟩
  have hfile : FileAt (FNew F w w7) w7 x := by
    subst hx
    refine ⟨hb6.keeps hw7 hgM, .inr ⟨hg, Nat.lt_of_lt_of_le hb6.lt hw7.size⟩, hu w2 hb2 k25 hM2 (by simpa [wroteF, noFile, layF] using O2) hB0, SlF.nil _ _, ?_, ⟨[] ++ [.bool false, .int .i64 0, .int .i64 0, v4], ?_, ?_⟩, ?_⟩
    · intro i hi
      obtain ⟨cur, hc⟩ := owns_type hro7 hi
      exact .inr ⟨hv5 i hi, hc.lt⟩
    · simpa [wroteF, noFile] using hro7
    · exact ChgR.snoc (c := ⟨false, 0, 0, b⟩) (cs := []) (hu w4 hb4 k45 hM4 o4 (by have := B2.size; have := K3.size; omega)) rfl
    · exact Chain.snoc (c := ⟨false, 0, 0, b⟩) (cs := []) (now := []) (fun h => by cases h) (fun _ => Nat.le_refl _) (by simpa [applyF, layF] using hl) ⟨rfl, Nat.zero_le _⟩
  subst hx
  exact H.add ((k06.mono (fun i hi h => by omega)).trans hw7) hm7 hk hks hlen rfl hg hfile hv5
theorem wrote_disk {w w2 w3 w4 w5 : World} (H : DiskAt F w d M clock room ents) {v5 : Value} {o : Obj} (B2 : Below w.heap.size w w2) (K3 : Keeps (· = w.heap.size) w2 w3) (b4 : Below w3.heap.size w3 w4) (g5 : Grow 0 (w4.alloc o) (.slice none 0 0) w5 v5) (u : Value) :
    Blk (w5.setCell ⟨w.heap.size, 3, none⟩ u) d #[.int .i64 room, .map (some M)] tDisk := by
  have hd : d ≠ w.heap.size := by have := H.lt d H.dF; omega
  have h4 := (((H.disk.below B2).keeps K3 hd).below b4).alloc o
  have h5 := h4.keeps g5.keeps (fun h => by simp [Value.ownBlock] at h)
  exact h5.other ⟨w.heap.size, 3, none⟩ u (fun e => hd e.symm)
theorem store_same {w : World} (hb : w.heap[M]? = some (.map (esOf ents) clock)) (hd : Diff ents) (hks : ∀ e ∈ ents, e.key.size ≤ maxLen) {e : Ent} (he : e ∈ ents) :
    (Instr.mapUpdate tMap (.map (some M)) (.string e.key) (.pointer (some ⟨e.blk, 0, none⟩))).run Try.prog w = .ok () w := by
  rw [store_some hb hd hks (hks e he) he rfl e.blk]
  have : putE ents e.key (fun x => { x with blk := e.blk }) = ents := by
    unfold putE
    conv => rhs; rw [← List.map_id ents]
    refine List.map_congr_left (fun x hx => ?_)
    split
    · rename_i hk
      have := diff_mem hd hx he hk
      subst this
      rfl
    · rfl
  rw [this, setBlock_same hb]
end
end Go.Proofs.Ytapgknaoieojkaa.Toll
