/- Rows of bytes: slices, make, copy, append, by this program's types. -/
import Derived.Test.YtapgknaoieojkaaProg
import Derived.Test.YtapgknaoieojkaaBase
import Derived.Laws.CopyOwn
import Derived.Deep.OwnRows
import Derived.KernelRfl
import Derived.Maps.AppendAt
set_option linter.unusedVariables false
set_option linter.unusedSimpArgs false
namespace Go.Proofs.Ytapgknaoieojkaa.Toll
open Go.RowKit

abbrev tB : TypeId := 27
abbrev uB : TypeId := 5
theorem infoB : (Try.prog.info? 5).map (fun i => (i.zero, i.size, i.bytes)) = some (some (.int .u8 0), 1, 1) := by kernel_rfl
def u8s (xs : List UInt8) : List Value := xs.map fun b => Value.int .u8 (b.toNat : Int)
theorem u8s_length (xs : List UInt8) : (u8s xs).length = xs.length := by simp [u8s]
theorem u8s_append (xs ys : List UInt8) : u8s (xs ++ ys) = u8s xs ++ u8s ys := by simp [u8s]
theorem u8s_take (xs : List UInt8) (n : Nat) : (u8s xs).take n = u8s (xs.take n) := by simp [u8s, List.map_take]
theorem u8s_get {xs : List UInt8} {j : Nat} {v : Value} (h : (u8s xs)[j]? = some v) : ∃ hj : j < xs.length, v = .int .u8 (xs[j].toNat : Int) := by
  unfold u8s at h
  rw [List.getElem?_map, Option.map_eq_some_iff] at h
  obtain ⟨b, hb, rfl⟩ := h
  obtain ⟨hj, rfl⟩ := List.getElem?_eq_some_iff.1 hb
  exact ⟨hj, rfl⟩
theorem u8s_one (xs : List UInt8) : ∀ v ∈ u8s xs, v.oneCell' = true := by
  intro v hv
  simp only [u8s, List.mem_map] at hv
  obtain ⟨b, _, rfl⟩ := hv
  rfl
theorem u8s_inj {xs ys : List UInt8} (h : u8s xs = u8s ys) : xs = ys := by
  refine List.map_inj_right (f := fun b : UInt8 => Value.int .u8 (b.toNat : Int)) ?_ |>.1 h
  intro a b e
  simp at e
  exact UInt8.toNat_inj.1 (by omega)
theorem RdB.cells {w : World} {A : Option Addr} {xs : List UInt8} (h : RdB w A xs) (h0 : 0 < xs.length) : ∃ ad, A = some ad ∧ ∀ j v, (u8s xs)[j]? = some v → w.cell? (ad.add j) = some v := by
  obtain ⟨ad, e, _⟩ := h 0 h0
  refine ⟨ad, e, fun j v hv => ?_⟩
  obtain ⟨hj, rfl⟩ := u8s_get hv
  obtain ⟨ad', e', hc⟩ := h j hj
  rw [e] at e'
  cases e'
  exact hc
theorem RdB.of_cells {w : World} {ad : Addr} {xs : List UInt8} (h : ∀ j v, (u8s xs)[j]? = some v → w.cell? (ad.add j) = some v) : RdB w (some ad) xs := fun j hj => ⟨ad, rfl, h j _ (by simp [u8s, List.getElem?_eq_getElem hj])⟩

/-! cuts -/
def offA (A : Option Addr) (l c : Nat) : Option Addr := if c = l then A else A.map (·.add l)
theorem RdB.off {w : World} {A : Option Addr} {xs : List UInt8} (h : RdB w A xs) (l c : Nat) (hc : xs.length ≤ c) : RdB w (offA A l c) (xs.drop l) := fun j hj => by
  simp at hj
  obtain ⟨ad, e, hcell⟩ := h (l + j) (by omega)
  unfold offA
  rw [if_neg (by omega), e]
  refine ⟨_, rfl, ?_⟩
  rw [Addr.add_add, hcell]
  simp
theorem offA_block {A : Option Addr} {l c : Nat} {ad : Addr} (h : offA A l c = some ad) : ∃ a0, A = some a0 ∧ a0.block = ad.block := by
  unfold offA at h
  split at h
  · exact ⟨ad, h, rfl⟩
  · rw [Option.map_eq_some_iff] at h
    obtain ⟨a0, e, rfl⟩ := h
    exact ⟨a0, e, (Addr.add_block _ _).symm⟩
theorem underB : Try.prog.underlying 27 = some (.slice (Try.prog.elem 27)) := by kernel_rfl
theorem elemB : Try.prog.elem 27 = 5 := by kernel_rfl
theorem sizeB (w : World) : (sizeOf 5).run Try.prog w = .ok 1 w := by kernel_rfl
theorem slice_l (A : Option Addr) (n c l : Nat) (h : l ≤ n) (w : World) : (Instr.slice tB (.slice A n c) (some (.int .i64 (l : Int))) none none).run Try.prog w = .ok (.slice (offA A l c) (n - l) (c - l)) w := by
  rw [run_slice_l w tB A n c underB .i64 (l : Int) (by omega) (by omega)]
  rw [elemB, sizeB]
  simp [Result.andThen, sliced, offA]
theorem slice_h (A : Option Addr) (n c h : Nat) (hh : h ≤ c) (w : World) : (Instr.slice tB (.slice A n c) none (some (.int .i64 (h : Int))) none).run Try.prog w = .ok (.slice A h c) w := by
  rw [run_slice_h w tB A n c underB .i64 (h : Int) (by omega) (by omega)]
  rw [elemB, sizeB]
  simp [Result.andThen, sliced]
  intro e
  cases A <;> simp [Addr.add]
theorem slice_lh (A : Option Addr) (n c l h : Nat) (h1 : l ≤ h) (hh : h ≤ c) (w : World) : (Instr.slice tB (.slice A n c) (some (.int .i64 (l : Int))) (some (.int .i64 (h : Int))) none).run Try.prog w = .ok (.slice (offA A l c) (h - l) (c - l)) w := by
  rw [run_slice_lh w tB A n c underB .i64 .i64 (l : Int) (h : Int) (by omega) (by omega) (by omega)]
  rw [elemB, sizeB]
  simp [Result.andThen, sliced, offA]
theorem slice_lhm (A : Option Addr) (n c l h m : Nat) (h1 : l ≤ h) (h2 : h ≤ m) (hh : m ≤ c) (w : World) : (Instr.slice tB (.slice A n c) (some (.int .i64 (l : Int))) (some (.int .i64 (h : Int))) (some (.int .i64 (m : Int)))).run Try.prog w = .ok (.slice (offA A l m) (h - l) (m - l)) w := by
  rw [run_slice_lhm w tB A n c underB .i64 .i64 .i64 (l : Int) (h : Int) (m : Int) (by omega) (by omega) (by omega) (by omega)]
  rw [elemB, sizeB]
  simp [Result.andThen, sliced, offA]

/-! a block that is a row of bytes -/
def rowB (ys : List UInt8) : Obj := .cells (u8s ys).toArray 5
theorem rowB_cell {w : World} {g : Nat} {ys : List UInt8} (hy : w.heap[g]? = some (rowB ys)) (j : Nat) (hj : j < ys.length) : w.cell? ⟨g, j, none⟩ = some (.int .u8 (ys[j].toNat : Int)) := by
  simp [World.cell?, hy, rowB, u8s, List.getElem?_eq_getElem hj]
theorem rowB_frozen {w : World} {g : Nat} {ys : List UInt8} (hy : w.heap[g]? = some (rowB ys)) (j : Nat) : w.frozen? ⟨g, j, none⟩ = false := by
  simp [World.frozen?, hy, rowB]
theorem add_plain' (g o j : Nat) : (⟨g, o, none⟩ : Addr).add j = ⟨g, o + j, none⟩ := by unfold Addr.add; split <;> simp_all
theorem rowB_rd {w : World} {g : Nat} {ys : List UInt8} (hy : w.heap[g]? = some (rowB ys)) (o : Nat) : RdB w (some ⟨g, o, none⟩) (ys.drop o) := fun j hj => by
  simp at hj
  refine ⟨_, rfl, ?_⟩
  rw [add_plain', rowB_cell hy _ (by omega)]
  simp
def putAt (o : Nat) (zs ys : List UInt8) : List UInt8 := ys.take o ++ zs ++ ys.drop (o + zs.length)
theorem putAt_length (o : Nat) (zs ys : List UInt8) (h : o + zs.length ≤ ys.length) : (putAt o zs ys).length = ys.length := by simp [putAt]; omega
theorem rowB_set {w : World} {g : Nat} {ys : List UInt8} (hy : w.heap[g]? = some (rowB ys)) (j : Nat) (b : UInt8) : (w.setCell ⟨g, j, none⟩ (.int .u8 (b.toNat : Int))).heap[g]? = some (rowB (ys.set j b)) := by
  simp only [World.setCell, Array.getElem?_modify, if_true, hy, Option.map_some, rowB, u8s]
  simp [List.map_set]
/-- make([]byte, n) -/
theorem make_rowB (n : Nat) (hn : n ≤ 140737488355328) (w : World) : (Instr.makeSlice tB (.int .i64 (n : Int)) (.int .i64 (n : Int))).run Try.prog w = .ok (.slice (some ⟨w.heap.size, 0, none⟩) n n) (w.alloc (rowB (List.replicate n 0))) := by
  rw [run_make_row' tB uB (.int .u8 0) 1 Try.underlying27 infoB rfl .i64 .i64 n (by omega) (by omega) w]
  have : madeCells #[Value.int .u8 0] n = (u8s (List.replicate n 0)).toArray := by
    apply Array.ext'
    apply List.ext_getElem
    · simp [madeCells, u8s]
    · intro i h1 h2
      simp [madeCells, u8s, Nat.mod_one]
  rw [this]
  rfl

/-! append -/
/-- v may be appended to: what lies behind its end is its own. -/
def OwB (base : Nat) (w : World) (v : Value) (xs : List UInt8) : Prop := w.ownsRow base uB 1 v xs.length (u8s xs) ∨ (xs = [] ∧ ∃ A, v = .slice A 0 0)
theorem OwB.nil (base : Nat) (w : World) : OwB base w (.slice none 0 0) [] := .inr ⟨rfl, _, rfl⟩
theorem OwB.zero (base : Nat) (w : World) (A : Option Addr) : OwB base w (.slice A 0 0) [] := .inr ⟨rfl, _, rfl⟩
theorem own_zero_add (g j : Nat) : (⟨g, 0, none⟩ : Addr).add j = ⟨g, j, none⟩ := by unfold Addr.add; split <;> simp_all
theorem OwB.form {base : Nat} {w : World} {v : Value} {xs : List UInt8} (h : OwB base w v xs) : ∃ A c, v = .slice A xs.length c ∧ RdB w A xs ∧ xs.length ≤ c ∧ c ≤ 9223372036854775807 ∧ (0 < xs.length → ∀ ad, A = some ad → base ≤ ad.block) := by
  rcases h with h | ⟨rfl, A, rfl⟩
  · rcases h.2 with ⟨rfl, h0⟩ | ⟨g, cap, cur, rfl, hb, hg, hnc, hcm, hcs, htake⟩
    · obtain rfl : xs = [] := List.eq_nil_of_length_eq_zero h0
      exact ⟨none, 0, rfl, RdB.nil _ _, Nat.le_refl _, by omega, fun h => absurd h (by simp)⟩
    · refine ⟨_, cap, rfl, RdB.of_cells fun j u hu => h.cells (g := g) rfl j u hu, hnc, by simpa [maxLen] using hcm, ?_⟩
      intro _ ad e
      cases e
      exact hb
  · exact ⟨A, 0, rfl, RdB.nil _ _, Nat.le_refl _, by omega, fun h => absurd h (by simp)⟩
theorem OwB.keeps {S : Nat → Prop} {base : Nat} {w w' : World} {v : Value} {xs : List UInt8} (h : OwB base w v xs) (k : Keeps S w w') (hS : ∀ i, v.ownBlock = some i → base ≤ i → ¬ S i) : OwB base w' v xs := by
  rcases h with h | ⟨rfl, A, rfl⟩
  · refine .inl ⟨h.1, ?_⟩
    rcases h.2 with hn | ⟨g, cap, cur, rfl, hb, hg, rest⟩
    · exact .inl hn
    · refine .inr ⟨g, cap, cur, rfl, hb, ?_, rest⟩
      rw [k.block g (Array.getElem?_eq_some_iff.1 hg).1 (hS g rfl hb)]
      exact hg
  · exact .inr ⟨rfl, A, rfl⟩
theorem OwB.below {base : Nat} {w w' : World} {v : Value} {xs : List UInt8} (h : OwB base w v xs) (k : Below w.heap.size w w') : OwB base w' v xs := h.keeps (Keeps.of_new (S := fun _ => False) k) (fun _ _ _ => id)
theorem OwB.mono {base b' : Nat} {w : World} {v : Value} {xs : List UInt8} (h : OwB base w v xs) (hb : b' ≤ base) : OwB b' w v xs := by
  rcases h with h | h
  · refine .inl ⟨h.1, ?_⟩
    rcases h.2 with hn | ⟨g, cap, cur, e, hg, rest⟩
    · exact .inl hn
    · exact .inr ⟨g, cap, cur, e, by omega, rest⟩
  · exact .inr h
theorem OwB.of_row {w : World} {g : Nat} {ys : List UInt8} (base : Nat) (hy : w.heap[g]? = some (rowB ys)) (hb : base ≤ g) (hl : ys.length ≤ 9223372036854775807) : OwB base w (.slice (some ⟨g, 0, none⟩) ys.length ys.length) ys :=
  .inl ⟨by simp [u8s_length], .inr ⟨g, ys.length, (u8s ys).toArray, rfl, hb, hy, Nat.le_refl _, by simpa [maxLen] using hl, by simp [u8s_length], by simp only [Nat.mul_one]; exact List.take_of_length_le (by simp [u8s_length])⟩⟩
theorem u8s_mem_one {xs : List UInt8} : ∀ u ∈ u8s xs, u.oneCell' = true := u8s_one xs
theorem run_appB (base : Nat) (ty : TypeId) (w : World) (v : Value) (xs ys : List UInt8) (X : Option Addr) (cx : Nat) (h : OwB base w v xs) (hy : RdB w X ys) (hl : xs.length + ys.length ≤ 140737488355328) (hbase : base ≤ w.heap.size) :
    ∃ v1 w1, (Builtin.append_ #[tB, tB] ty #[v, .slice X ys.length cx]).run Try.prog w = .ok v1 w1 ∧ OwB base w1 v1 (xs ++ ys) ∧ Keeps (fun i => base ≤ i ∧ v.ownBlock = some i) w w1 ∧ (∀ i, v1.ownBlock = some i → base ≤ i → v.ownBlock = some i ∨ w.heap.size ≤ i) := by
  obtain ⟨i0, hi, hz0, hz1, hz2⟩ := info_parts infoB
  rcases Nat.eq_zero_or_pos ys.length with h0 | h0
  · obtain rfl : ys = [] := List.eq_nil_of_length_eq_zero h0
    refine ⟨v, w, ?_, by simpa using h, Keeps.refl _ _, fun i e _ => .inl e⟩
    obtain ⟨A, c, rfl, hA, hc, _⟩ := h.form
    rcases X with _ | ⟨ad⟩ <;> rcases A with _ | a <;>
    simp [Builtin.append_, run_underlying Try.underlying27, sizeOf, typeInfo, hi, Builtin.lenOf, Builtin.firstCells, loadCells, loadCellsFrom, hc, storeCells]
  · obtain ⟨ad, rfl, hcells⟩ := hy.cells h0
    rcases h with h | ⟨rfl, A, rfl⟩
    · obtain ⟨v1, w1, hr, h2, h3, _, h5⟩ := run_append_own_at (P := Try.prog) w base tB ty uB i0 (.int .u8 0) 1 1 Try.underlying27 hi hz0 hz1 hz2 rfl (by omega) v xs.length (u8s xs) h ad ys.length cx (u8s ys) (by simp [u8s_length]) hcells
        (u8s_one ys) (by simp only [maxLen]; omega) (by omega) hbase
      refine ⟨v1, w1, hr, .inl (by rw [List.length_append, u8s_append]; exact h2), ?_, ?_⟩
      · refine ⟨h3.os, h3.tape, h3.output, h3.size, fun i hi' hs => h3.block i hi' (fun e => hs ⟨?_, e.symm⟩)⟩
        exact (h.lt i e.symm).1
      · intro i e _
        rcases h5 with h5 | h5
        · exact .inl (h5 ▸ e)
        · rw [h5] at e; cases e; exact .inr (Nat.le_refl _)
    · have hcap : ∀ (n : Nat), n = ys.length → n ≤ 140737488355328 := fun n e => by simp at hl; omega
      have fin : ∀ cap, ys.length ≤ cap → cap ≤ maxLen → OwB base (w.drew.alloc (.cells ((u8s ys).toArray ++ Builtin.zeroCells (Value.int .u8 0).cells (cap - ys.length)) uB)) (.slice (some ⟨w.heap.size, 0, none⟩) ys.length cap) ([] ++ ys) := by
        intro cap h1 h2
        refine .inl ⟨by simp [u8s_length], .inr ⟨w.heap.size, cap, _, rfl, hbase, heap_alloc_new w.drew _, by simpa using h1, h2, ?_, ?_⟩⟩
        · simp [u8s_length, size_zeroCells, Value.cells]; omega
        · simp [u8s_length]
      rcases A with _ | a
      · have hr := run_append_nil (P := Try.prog) w tB ty uB i0 (.int .u8 0) Try.underlying27 hi hz0 ad ys.length cx (u8s ys) (by simp [u8s_length, hz1]) hcells h0 (by have := hcap _ rfl; omega) (by have := hcap _ rfl; rw [hz2]; omega)
        exact ⟨_, _, hr, fin _ (grownCap_ge _ _ _ _) (grownCap_le_maxLen _ _ _ _ (by have := hcap _ rfl; simp only [maxLen]; omega)), (Keeps.drew _ _).trans (Keeps.alloc _ _ _), fun i e _ => by simp [Value.ownBlock] at e; omega⟩
      · have hr := run_append_grow (P := Try.prog) w tB ty uB i0 (.int .u8 0) Try.underlying27 hi hz0 a 0 0 [] (by simp) (by simp) ad ys.length cx (u8s ys) (by simp [u8s_length, hz1]) hcells (by omega) (by have := hcap _ rfl; omega) (growslice_fits (by omega) (by have := hcap _ rfl; rw [hz2]; omega))
        simp only [Nat.zero_add, List.nil_append, Array.empty_append] at hr
        exact ⟨_, _, hr, fin _ (grownCap_ge _ _ _ _) (grownCap_le_maxLen _ _ _ _ (by have := hcap _ rfl; simp only [maxLen]; omega)), (Keeps.drew _ _).trans (Keeps.alloc _ _ _), fun i e _ => by simp [Value.ownBlock] at e; omega⟩

/-- From v in w the row v' in w' has grown. -/
structure Grow (base : Nat) (w : World) (v : Value) (w' : World) (v' : Value) : Prop where
  keeps : Keeps (fun i => base ≤ i ∧ v.ownBlock = some i) w w'
  fresh : ∀ i, v'.ownBlock = some i → base ≤ i → v.ownBlock = some i ∨ w.heap.size ≤ i
theorem Grow.refl (base : Nat) (w : World) (v : Value) : Grow base w v w v := ⟨Keeps.refl _ _, fun i h _ => .inl h⟩
theorem Grow.trans {base : Nat} {w w1 w2 : World} {v v1 v2 : Value} (h : Grow base w v w1 v1) (k : Grow base w1 v1 w2 v2) : Grow base w v w2 v2 :=
  ⟨h.keeps.trans' k.keeps fun i hi hs => by
    rcases h.fresh i hs.2 hs.1 with e | e
    · exact ⟨hs.1, e⟩
    · omega,
   fun i e hb => by
    rcases k.fresh i e hb with e1 | e1
    · exact h.fresh i e1 hb
    · exact .inr (Nat.le_trans h.keeps.size e1)⟩
theorem Grow.new {base : Nat} {w w1 w2 : World} {v v1 : Value} (h : Grow base w v w1 v1) (k : Below w1.heap.size w1 w2) : Grow base w v w2 v1 := ⟨h.keeps.trans (Keeps.of_new k), h.fresh⟩
theorem Grow.first {base : Nat} {w w1 w2 : World} {v v2 : Value} (k : Below w.heap.size w w1) (h : Grow base w1 v w2 v2) : Grow base w v w2 v2 :=
  ⟨(Keeps.of_new k).trans h.keeps, fun i e hb => by
    rcases h.fresh i e hb with e1 | e1
    · exact .inl e1
    · exact .inr (Nat.le_trans k.size e1)⟩
theorem Grow.below {base : Nat} {w w' : World} {v' : Value} (h : Grow base w (.slice none 0 0) w' v') : Below w.heap.size w w' := h.keeps.below (fun i _ hs => by simp [Value.ownBlock] at hs) (Nat.le_refl _)
theorem Grow.base {base B : Nat} {w w' : World} {v v' : Value} (h : Grow base w v w' v') (hB : B ≤ w.heap.size) (hb : B ≤ base) : Below B w w' := h.keeps.below (fun i _ hs => by omega) hB
theorem OwB.grow {base : Nat} {w w' : World} {v : Value} {xs : List UInt8} (h : OwB base w v xs) (k : Below w.heap.size w w') : OwB base w' v xs := h.below k

section
variable {ops : Array Oper} {rest : List Oper} {o : Oper} {a : Act} {Q : Exit → Act → World → Prop}
theorem wpList_appB {w : World} (base : Nat) (hgd : o.guard = none) (s x : Operand) (ho : o.op = .call { callee := .builtin .append, args := #[s, x], argTypes := #[tB, tB] })
    (v : Value) (xs ys : List UInt8) (X : Option Addr) (m cx : Nat) (hs : a.eval s = v) (hx : a.eval x = .slice X m cx) (hm : ys.length = m) (h : OwB base w v xs) (hy : RdB w X ys) (hl : xs.length + ys.length ≤ 140737488355328) (hbase : base ≤ w.heap.size)
    (hK : ∀ v1 w1, OwB base w1 v1 (xs ++ ys) → Grow base w v w1 v1 → wpList Try.prog ops Q rest (a.put o.dst v1) w1) :
    wpList Try.prog ops Q (o :: rest) a w := by
  subst hm
  obtain ⟨v1, w1, hr, h1, h2, h3⟩ := run_appB base o.type w v xs ys X cx h hy hl hbase
  refine wpList_plain hgd fun K hK' => ?_
  unfold Oper.wp execOp
  simp only [ho, resolve, invoke, builtin, Sem.run_bind, Sem.run_pure, Result.andThen_ok, List.map_toArray, List.map_cons, List.map_nil, hs, hx, hr]
  exact hK' _ _ (hK v1 w1 h1 ⟨h2, h3⟩)
theorem step_appB {w : World} {K : Act → World → Prop} {E : Prop} (base : Nat) (hgd : o.guard = none) (s x : Operand) (ho : o.op = .call { callee := .builtin .append, args := #[s, x], argTypes := #[tB, tB] })
    (v : Value) (xs ys : List UInt8) (X : Option Addr) (m cx : Nat) (hs : a.eval s = v) (hx : a.eval x = .slice X m cx) (hm : ys.length = m) (h : OwB base w v xs) (hy : RdB w X ys) (hl : xs.length + ys.length ≤ 140737488355328) (hbase : base ≤ w.heap.size)
    (hK : ∀ v1 w1, OwB base w1 v1 (xs ++ ys) → Grow base w v w1 v1 → K (a.put o.dst v1) w1) :
    if Region.wanted o (yielded ops a.tmps) = true then Oper.wp Try.prog o a w K Q else E := by
  have hw : Region.wanted o (yielded ops a.tmps) = true := by simp [Region.wanted, hgd]
  rw [if_pos hw]
  subst hm
  obtain ⟨v1, w1, hr, h1, h2, h3⟩ := run_appB base o.type w v xs ys X cx h hy hl hbase
  unfold Oper.wp execOp
  simp only [ho, resolve, invoke, builtin, Sem.run_bind, Sem.run_pure, Result.andThen_ok, List.map_toArray, List.map_cons, List.map_nil, hs, hx, hr]
  exact hK v1 w1 h1 ⟨h2, h3⟩
theorem size1B : (Try.prog.info? uB).map (·.size) = some 1 := by kernel_rfl
theorem wpList_copyB {w : World} (hgd : o.guard = none) (d s : Operand) (ho : o.op = .call { callee := .builtin .copy, args := #[d, s], argTypes := #[tB, tB] })
    (dp sp : Option Addr) (dLen dCap sLen sCap : Nat) (hd : a.eval d = .slice dp dLen dCap) (hs : a.eval s = .slice sp sLen sCap) (g off : Nat) (ys xs : List UInt8) (hg : w.heap[g]? = some (rowB ys))
    (hx : RdB w sp xs) (hxl : xs.length = sLen) (hpos : 0 < Nat.min sLen dLen → dp = some ⟨g, off, none⟩) (hfit : off + Nat.min sLen dLen ≤ ys.length)
    (h : ∀ w', w'.heap[g]? = some (rowB (putAt off (xs.take (Nat.min sLen dLen)) ys)) → Keeps (· = g) w w' → wpList Try.prog ops Q rest (a.put o.dst (.int .i64 (Nat.min sLen dLen : Nat))) w') :
    wpList Try.prog ops Q (o :: rest) a w := by
  have hlen : (u8s (xs.take (Nat.min sLen dLen))).length = Nat.min sLen dLen := by
    rw [u8s_length, List.length_take]
    have : sLen.min dLen ≤ sLen := Nat.min_le_left sLen dLen
    exact Nat.min_eq_left (by omega)
  by_cases h0 : Nat.min sLen dLen = 0
  · refine wpList_copy_nothing hgd d s tB tB ho uB Try.underlying27 size1B dp sp dLen dCap sLen sCap hd hs h0 ?_
    have := h w (by rw [h0]; simpa [putAt] using hg) (Keeps.refl _ _)
    rw [h0] at this
    exact this
  · have hp := hpos (by omega)
    subst hp
    have hsp : 0 < (xs.take (Nat.min sLen dLen)).length := by rw [u8s_length] at hlen; omega
    obtain ⟨ad, rfl, hc⟩ := (hx.take (Nat.min sLen dLen)).cells hsp
    refine wpList_copy_own hgd d s tB tB ho uB Try.underlying27 size1B g off dLen dCap ad sLen sCap hd hs (u8s ys).toArray uB hg (u8s (xs.take (Nat.min sLen dLen))) hlen hc (by simp only [hlen, List.size_toArray, u8s_length]; exact hfit) (u8s_one _) ?_
    rw [hlen]
    refine h _ ?_ ⟨rfl, rfl, rfl, by simp [World.setRow], fun k _ hk => setRow_other w g k _ hk⟩
    rw [setRow_heap w g (u8s ys).toArray _ uB _ hg]
    simp only [rowB, putAt, u8s, List.map_append, List.map_take, List.map_drop, List.append_assoc]
    rw [u8s_length] at hlen
    rw [hlen]
end

theorem rd_one (w : World) (b : UInt8) : RdB (w.alloc (.cells #[.int .u8 (b.toNat : Int)] uB)) (some ⟨w.heap.size, 0, none⟩) [b] := fun j hj => by
  simp at hj
  subst hj
  exact ⟨_, rfl, by rw [own_zero_add]; simp⟩
theorem rd_one' (w : World) (b : UInt8) (x : Int) (h : (b.toNat : Int) = x) : RdB (w.alloc (.cells #[.int .u8 x] uB)) (some ⟨w.heap.size, 0, none⟩) [b] := by subst h; exact rd_one w b
theorem byte_of (n : Nat) (h : n < 256) : ((UInt8.ofNat n).toNat : Int) = (n : Int) := by rw [UInt8.toNat_ofNat']; omega
theorem OwB.lt {base : Nat} {w : World} {v : Value} {xs : List UInt8} (h : OwB base w v xs) (h0 : 0 < xs.length) : ∀ i, v.ownBlock = some i → base ≤ i → i < w.heap.size := by
  intro i hi _
  rcases h with h | ⟨rfl, _⟩
  · exact (h.lt i hi).2
  · simp at h0
theorem nil_lt (base : Nat) (w : World) : ∀ i, (Value.slice none 0 0).ownBlock = some i → base ≤ i → i < w.heap.size := fun i h => by simp [Value.ownBlock] at h
end Go.Proofs.Ytapgknaoieojkaa.Toll
