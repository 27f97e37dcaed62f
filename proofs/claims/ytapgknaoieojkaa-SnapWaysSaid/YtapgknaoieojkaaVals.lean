/- Rows of any element type: what is read, what is appended to. -/
import Derived.Test.YtapgknaoieojkaaBytes
set_option linter.unusedVariables false
set_option linter.unusedSimpArgs false
namespace Go.Proofs.Ytapgknaoieojkaa.Toll
open Go.RowKit

/-- The cells vs lie behind A. -/
def RdV (w : World) (A : Option Addr) (vs : List Value) : Prop := ∀ j (h : j < vs.length), ∃ ad, A = some ad ∧ w.cell? (ad.add j) = some vs[j]
theorem RdV.nil (w : World) (A : Option Addr) : RdV w A [] := fun j h => by simp at h
theorem RdV.at {w : World} {A : Option Addr} {vs : List Value} (h : RdV w A vs) (j : Nat) (hj : j < vs.length) : ∃ b off sp, A = some ⟨b, off, sp⟩ ∧ w.cell? ((⟨b, off, sp⟩ : Addr).add j) = some vs[j] := by
  obtain ⟨⟨b, off, sp⟩, e, hc⟩ := h j hj
  exact ⟨b, off, sp, e, hc⟩
theorem RdV.lt {w : World} {A : Option Addr} {vs : List Value} (h : RdV w A vs) (h0 : 0 < vs.length) {ad : Addr} (e : A = some ad) : ad.block < w.heap.size := by
  obtain ⟨ad', e', hc⟩ := h 0 h0
  rw [e] at e'
  cases e'
  have := World.block_lt_of_cell? w _ hc
  rwa [Addr.add_block] at this
theorem RdV.keeps {S : Nat → Prop} {w w' : World} {A : Option Addr} {vs : List Value} (h : RdV w A vs) (k : Keeps S w w') (hA : 0 < vs.length → ∀ ad, A = some ad → ¬ S ad.block) : RdV w' A vs := fun j hj => by
  obtain ⟨ad, e, hc⟩ := h j hj
  exact ⟨ad, e, k.cell hc (by rw [Addr.add_block]; exact hA (by omega) ad e)⟩
theorem RdV.below {w w' : World} {A : Option Addr} {vs : List Value} (h : RdV w A vs) (k : Below w.heap.size w w') : RdV w' A vs := h.keeps (Keeps.of_new (S := fun _ => False) k) (fun _ _ _ => id)
theorem RdV.cells {w : World} {A : Option Addr} {vs : List Value} (h : RdV w A vs) (h0 : 0 < vs.length) : ∃ ad, A = some ad ∧ ∀ j v, vs[j]? = some v → w.cell? (ad.add j) = some v := by
  obtain ⟨ad, e, _⟩ := h 0 h0
  refine ⟨ad, e, fun j v hv => ?_⟩
  obtain ⟨hj, rfl⟩ := List.getElem?_eq_some_iff.1 hv
  obtain ⟨ad', e', hc⟩ := h j hj
  rw [e] at e'
  cases e'
  exact hc
theorem RdV.of_cells {w : World} {ad : Addr} {vs : List Value} (h : ∀ j v, vs[j]? = some v → w.cell? (ad.add j) = some v) : RdV w (some ad) vs := fun j hj => ⟨ad, rfl, h j _ (by simp [List.getElem?_eq_getElem hj])⟩
theorem RdV.take {w : World} {A : Option Addr} {vs : List Value} (h : RdV w A vs) (n : Nat) : RdV w A (vs.take n) := fun j hj => by
  simp at hj
  obtain ⟨ad, e, hc⟩ := h j (by omega)
  exact ⟨ad, e, by rw [hc]; simp⟩
theorem RdB.rdV {w : World} {A : Option Addr} {xs : List UInt8} : RdB w A xs ↔ RdV w A (u8s xs) := by
  constructor
  · intro h j hj
    rw [u8s_length] at hj
    obtain ⟨ad, e, hc⟩ := h j hj
    exact ⟨ad, e, by rw [hc]; simp [u8s]⟩
  · intro h j hj
    obtain ⟨ad, e, hc⟩ := h j (by rw [u8s_length]; exact hj)
    exact ⟨ad, e, by rw [hc]; simp [u8s]⟩
/-- A row of its own, of elements of type e. -/
def OwV (e : TypeId) (size base : Nat) (w : World) (v : Value) (n : Nat) (vs : List Value) : Prop := w.ownsRow base e size v n vs ∨ (n = 0 ∧ vs = [] ∧ ∃ A, v = .slice A 0 0)
section
variable {e : TypeId} {size base : Nat} {w : World} {v : Value} {n : Nat} {vs : List Value}
theorem OwV.nil (e : TypeId) (size base : Nat) (w : World) : OwV e size base w (.slice none 0 0) 0 [] := .inr ⟨rfl, rfl, _, rfl⟩
theorem OwV.zero (e : TypeId) (size base : Nat) (w : World) (A : Option Addr) : OwV e size base w (.slice A 0 0) 0 [] := .inr ⟨rfl, rfl, _, rfl⟩
theorem OwV.form (h : OwV e size base w v n vs) : ∃ A c, v = .slice A n c ∧ RdV w A vs ∧ vs.length = n * size ∧ n ≤ c ∧ c ≤ 9223372036854775807 ∧ (0 < n → ∀ ad, A = some ad → base ≤ ad.block) := by
  rcases h with h | ⟨rfl, rfl, A, rfl⟩
  · rcases h.2 with ⟨rfl, rfl⟩ | ⟨g, cap, cur, rfl, hb, hg, hnc, hcm, hcs, htake⟩
    · have := h.1
      obtain rfl : vs = [] := List.eq_nil_of_length_eq_zero (by simpa using this)
      exact ⟨none, 0, rfl, RdV.nil _ _, by simp, Nat.le_refl _, by omega, fun h => absurd h (by simp)⟩
    · refine ⟨_, cap, rfl, RdV.of_cells fun j u hu => h.cells (g := g) rfl j u hu, h.1, hnc, by simpa [maxLen] using hcm, ?_⟩
      intro _ ad e
      cases e
      exact hb
  · exact ⟨A, 0, rfl, RdV.nil _ _, by simp, Nat.le_refl _, by omega, fun h => absurd h (by simp)⟩
theorem OwV.keeps {S : Nat → Prop} {w' : World} (h : OwV e size base w v n vs) (k : Keeps S w w') (hS : ∀ i, v.ownBlock = some i → base ≤ i → ¬ S i) : OwV e size base w' v n vs := by
  rcases h with h | h
  · refine .inl ⟨h.1, ?_⟩
    rcases h.2 with hn | ⟨g, cap, cur, rfl, hb, hg, rest⟩
    · exact .inl hn
    · refine .inr ⟨g, cap, cur, rfl, hb, ?_, rest⟩
      rw [k.block g (Array.getElem?_eq_some_iff.1 hg).1 (hS g rfl hb)]
      exact hg
  · exact .inr h
theorem OwV.below {w' : World} (h : OwV e size base w v n vs) (k : Below w.heap.size w w') : OwV e size base w' v n vs := h.keeps (Keeps.of_new (S := fun _ => False) k) (fun _ _ _ => id)
theorem OwV.mono {b' : Nat} (h : OwV e size base w v n vs) (hb : b' ≤ base) : OwV e size b' w v n vs := by
  rcases h with h | h
  · refine .inl ⟨h.1, ?_⟩
    rcases h.2 with hn | ⟨g, cap, cur, e, hg, rest⟩
    · exact .inl hn
    · exact .inr ⟨g, cap, cur, e, by omega, rest⟩
  · exact .inr h
end
/-- What the append's law asks of an element's type. -/
structure SlTy (P : Program) (t e : TypeId) (size bytes : Nat) (z : Value) : Prop where
  under : P.underlying t = some (.slice e)
  info : (P.info? e).map (fun i => (i.zero, i.size, i.bytes)) = some (some z, size, bytes)
  zero : z.cells.size = size
  pos : 0 < size
section
variable {P : Program} {t e : TypeId} {size bytes : Nat} {z : Value} (T : SlTy P t e size bytes z)
include T
theorem run_appV (base : Nat) (ty : TypeId) (w : World) (v : Value) (n m : Nat) (vs us : List Value) (X : Option Addr) (cx : Nat) (h : OwV e size base w v n vs) (hy : RdV w X us) (hum : us.length = m * size) (h1 : ∀ u ∈ us, u.oneCell' = true)
    (hl : (n + m) * bytes ≤ 140737488355328) (hl2 : n + m ≤ 140737488355328) (hbase : base ≤ w.heap.size) :
    ∃ v1 w1, (Builtin.append_ #[t, t] ty #[v, .slice X m cx]).run P w = .ok v1 w1 ∧ OwV e size base w1 v1 (n + m) (vs ++ us) ∧ Grow base w v w1 v1 := by
  obtain ⟨i0, hi, hz0, hz1, hz2⟩ := info_parts T.info
  have ht := T.under
  rcases Nat.eq_zero_or_pos m with h0 | h0
  · subst h0
    obtain rfl : us = [] := List.eq_nil_of_length_eq_zero (by simpa using hum)
    refine ⟨v, w, ?_, by simpa using h, Grow.refl _ _ _⟩
    obtain ⟨A, c, rfl, hA, _, hc, _⟩ := h.form
    rcases X with _ | ⟨ad⟩ <;> rcases A with _ | a <;>
    simp [Builtin.append_, run_underlying ht, sizeOf, typeInfo, hi, Builtin.lenOf, Builtin.firstCells, loadCells, loadCellsFrom, hc, storeCells]
  · have hus : 0 < us.length := by rw [hum]; exact Nat.mul_pos h0 T.pos
    obtain ⟨ad, rfl, hcells⟩ := hy.cells hus
    rcases h with h | ⟨rfl, rfl, A, rfl⟩
    · obtain ⟨v1, w1, hr, h2, h3, _, h5⟩ := run_append_own_at (P := P) w base t ty e i0 z size bytes ht hi hz0 hz1 hz2 T.zero T.pos v n vs h ad m cx us hum hcells
        h1 (by simp only [maxLen]; omega) hl hbase
      refine ⟨v1, w1, hr, .inl h2, ?_, ?_⟩
      · exact ⟨h3.os, h3.tape, h3.output, h3.size, fun i hi' hs => h3.block i hi' (fun e => hs ⟨(h.lt i e.symm).1, e.symm⟩)⟩
      · intro i e _
        rcases h5 with h5 | h5
        · exact .inl (h5 ▸ e)
        · rw [h5] at e; cases e; exact .inr (Nat.le_refl _)
    · have fin : ∀ cap, m ≤ cap → cap ≤ maxLen → OwV e size base (w.drew.alloc (.cells (us.toArray ++ Builtin.zeroCells z.cells (cap - m)) e)) (.slice (some ⟨w.heap.size, 0, none⟩) m cap) (0 + m) ([] ++ us) := by
        intro cap h1 h2
        refine .inl ⟨by simpa using hum, .inr ⟨w.heap.size, cap, _, by simp, hbase, heap_alloc_new w.drew _, by simpa using h1, h2, ?_, ?_⟩⟩
        · rw [Array.size_append, size_zeroCells, T.zero, List.size_toArray, hum, ← Nat.add_mul]
          congr 1
          omega
        · rw [Nat.zero_add, Array.toList_append, ← hum, List.nil_append]
          exact List.take_left
      simp only [Nat.zero_add] at hl hl2
      rcases A with _ | a
      · have hr := run_append_nil (P := P) w t ty e i0 z ht hi hz0 ad m cx us (by rw [hum, hz1]) hcells h0 (by omega) (by rw [hz2]; omega)
        exact ⟨_, _, hr, fin _ (grownCap_ge _ _ _ _) (grownCap_le_maxLen _ _ _ _ (by simp only [maxLen]; omega)), (Keeps.drew _ _).trans (Keeps.alloc _ _ _), fun i e _ => by simp [Value.ownBlock] at e; omega⟩
      · have hr := run_append_grow (P := P) w t ty e i0 z ht hi hz0 a 0 0 [] (by simp) (by simp) ad m cx us (by rw [hum, hz1]) hcells (by omega) (by omega) (growslice_fits (by omega) (by rw [hz2, Nat.zero_add]; exact hl))
        simp only [Nat.zero_add, List.nil_append, Array.empty_append] at hr
        exact ⟨_, _, hr, fin _ (grownCap_ge _ _ _ _) (grownCap_le_maxLen _ _ _ _ (by simp only [maxLen]; omega)), (Keeps.drew _ _).trans (Keeps.alloc _ _ _), fun i e _ => by simp [Value.ownBlock] at e; omega⟩
theorem wpList_appV {ops : Array Oper} {rest : List Oper} {o : Oper} {a : Act} {Q : Exit → Act → World → Prop} {w : World} (base : Nat) (hgd : o.guard = none) (s x : Operand) (ho : o.op = .call { callee := .builtin .append, args := #[s, x], argTypes := #[t, t] })
    (v : Value) (n m : Nat) (vs us : List Value) (X : Option Addr) (cx : Nat) (hs : a.eval s = v) (hx : a.eval x = .slice X m cx) (h : OwV e size base w v n vs) (hy : RdV w X us) (hum : us.length = m * size) (h1 : ∀ u ∈ us, u.oneCell' = true)
    (hl : (n + m) * bytes ≤ 140737488355328) (hl2 : n + m ≤ 140737488355328) (hbase : base ≤ w.heap.size)
    (hK : ∀ v1 w1, OwV e size base w1 v1 (n + m) (vs ++ us) → Grow base w v w1 v1 → wpList P ops Q rest (a.put o.dst v1) w1) :
    wpList P ops Q (o :: rest) a w := by
  obtain ⟨v1, w1, hr, h2, h3⟩ := run_appV T base o.type w v n m vs us X cx h hy hum h1 hl hl2 hbase
  refine wpList_plain hgd fun K hK' => ?_
  unfold Oper.wp execOp
  simp only [ho, resolve, invoke, builtin, Sem.run_bind, Sem.run_pure, Result.andThen_ok, List.map_toArray, List.map_cons, List.map_nil, hs, hx, hr]
  exact hK' _ _ (hK v1 w1 h2 h3)
end
section
variable {P : Program} {t e : TypeId} {size bytes : Nat} {z : Value} (T : SlTy P t e size bytes z)
include T
theorem step_appV {ops : Array Oper} {o : Oper} {a : Act} {Q : Exit → Act → World → Prop} {w : World} {K : Act → World → Prop} {E : Prop} (base : Nat) (hgd : o.guard = none) (s x : Operand) (ho : o.op = .call { callee := .builtin .append, args := #[s, x], argTypes := #[t, t] })
    (v : Value) (n m : Nat) (vs us : List Value) (X : Option Addr) (cx : Nat) (hs : a.eval s = v) (hx : a.eval x = .slice X m cx) (h : OwV e size base w v n vs) (hy : RdV w X us) (hum : us.length = m * size) (h1 : ∀ u ∈ us, u.oneCell' = true)
    (hl : (n + m) * bytes ≤ 140737488355328) (hl2 : n + m ≤ 140737488355328) (hbase : base ≤ w.heap.size)
    (hK : ∀ v1 w1, OwV e size base w1 v1 (n + m) (vs ++ us) → Grow base w v w1 v1 → K (a.put o.dst v1) w1) :
    if Region.wanted o (yielded ops a.tmps) = true then Oper.wp P o a w K Q else E := by
  have hw : Region.wanted o (yielded ops a.tmps) = true := by simp [Region.wanted, hgd]
  rw [if_pos hw]
  obtain ⟨v1, w1, hr, h2, h3⟩ := run_appV T base o.type w v n m vs us X cx h hy hum h1 hl hl2 hbase
  unfold Oper.wp execOp
  simp only [ho, resolve, invoke, builtin, Sem.run_bind, Sem.run_pure, Result.andThen_ok, List.map_toArray, List.map_cons, List.map_nil, hs, hx, hr]
  exact hK v1 w1 h2 h3
end
/-! whole numbers -/
def i64s (xs : List Int) : List Value := xs.map (Value.int .i64)
theorem i64s_length (xs : List Int) : (i64s xs).length = xs.length := by simp [i64s]
theorem i64s_one (xs : List Int) : ∀ v ∈ i64s xs, v.oneCell' = true := by
  intro v hv
  simp only [i64s, List.mem_map] at hv
  obtain ⟨b, _, rfl⟩ := hv
  rfl
abbrev tI : TypeId := 24
theorem tyI : SlTy Try.prog 24 3 1 8 (.int .i64 0) := ⟨Try.underlying24, by kernel_rfl, rfl, by omega⟩
def RdI (w : World) (A : Option Addr) (xs : List Int) : Prop := RdV w A (i64s xs)
theorem RdI.at {w : World} {A : Option Addr} {xs : List Int} (h : RdI w A xs) (j : Nat) (hj : j < xs.length) : ∃ b off sp, A = some ⟨b, off, sp⟩ ∧ w.cell? ((⟨b, off, sp⟩ : Addr).add j) = some (.int .i64 xs[j]) := by
  obtain ⟨b, off, sp, e, hc⟩ := RdV.at h j (by rw [i64s_length]; exact hj)
  exact ⟨b, off, sp, e, by rw [hc]; simp [i64s]⟩
theorem RdI.below {w w' : World} {A : Option Addr} {xs : List Int} (h : RdI w A xs) (k : Below w.heap.size w w') : RdI w' A xs := RdV.below h k
theorem rdI_one (w : World) (x : Int) (t : TypeId) : RdI (w.alloc (.cells #[.int .i64 x] t)) (some ⟨w.heap.size, 0, none⟩) [x] := fun j hj => by
  simp [i64s] at hj
  subst hj
  exact ⟨_, rfl, by rw [own_zero_add]; simp [i64s]⟩
/-! a block of cells known whole -/
def Blk (w : World) (g : Nat) (cs : Array Value) (t : TypeId) : Prop := w.heap[g]? = some (.cells cs t (0, 0))
theorem Blk.cell {w : World} {g : Nat} {cs : Array Value} {t : TypeId} (h : Blk w g cs t) (j : Nat) : w.cell? ⟨g, j, none⟩ = cs[j]? := by
  unfold Blk at h
  simp [World.cell?, h]
theorem Blk.frozen {w : World} {g : Nat} {cs : Array Value} {t : TypeId} (h : Blk w g cs t) (j : Nat) : w.frozen? ⟨g, j, none⟩ = false := by
  unfold Blk at h
  simp [World.frozen?, h]
theorem Blk.lt {w : World} {g : Nat} {cs : Array Value} {t : TypeId} (h : Blk w g cs t) : g < w.heap.size := (Array.getElem?_eq_some_iff.1 h).1
theorem Blk.keeps {S : Nat → Prop} {w w' : World} {g : Nat} {cs : Array Value} {t : TypeId} (h : Blk w g cs t) (k : Keeps S w w') (hg : ¬ S g) : Blk w' g cs t := (k.block g h.lt hg).trans h
theorem Blk.below {w w' : World} {g : Nat} {cs : Array Value} {t : TypeId} (h : Blk w g cs t) (k : Below w.heap.size w w') : Blk w' g cs t := (k.block g h.lt).trans h
theorem Blk.below' {B : Nat} {w w' : World} {g : Nat} {cs : Array Value} {t : TypeId} (h : Blk w g cs t) (k : Below B w w') (hg : g < B) : Blk w' g cs t := (k.block g hg).trans h
theorem Blk.new (w : World) (cs : Array Value) (t : TypeId) : Blk (w.alloc (.cells cs t)) w.heap.size cs t := heap_alloc_new _ _
theorem Blk.alloc {w : World} {g : Nat} {cs : Array Value} {t : TypeId} (h : Blk w g cs t) (o : Obj) : Blk (w.alloc o) g cs t := (Below.heap_alloc _ _ _ h.lt).trans h
theorem Blk.drew {w : World} {g : Nat} {cs : Array Value} {t : TypeId} (h : Blk w g cs t) : Blk w.drew g cs t := h
theorem Blk.set {w : World} {g : Nat} {cs : Array Value} {t : TypeId} (h : Blk w g cs t) (j : Nat) (v : Value) : Blk (w.setCell ⟨g, j, none⟩ v) g (cs.setIfInBounds j v) t := by
  unfold Blk at *
  simp [World.setCell, Array.getElem?_modify, h]
theorem Blk.other {w : World} {g : Nat} {cs : Array Value} {t : TypeId} (h : Blk w g cs t) (p : Addr) (v : Value) (hp : p.block ≠ g) : Blk (w.setCell p v) g cs t := (Below.heap_setCell _ _ _ _ (Ne.symm hp)).trans h
end Go.Proofs.Ytapgknaoieojkaa.Toll
