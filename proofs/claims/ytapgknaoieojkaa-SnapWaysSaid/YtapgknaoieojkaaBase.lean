/- Plain words on worlds: what keeps, bytes that are read. No program. -/
import Derived.WalkKit
import Derived.Below
import Derived.OwnWalk
import Derived.RowKit
import Derived.Deep.Draws
import Derived.Lib.Hide
set_option linter.unusedVariables false
set_option linter.unusedSimpArgs false
namespace Go.Proofs.Ytapgknaoieojkaa.Toll
open Go.RowKit

/-- The world turned in blocks of S alone, and by new blocks. -/
structure Keeps (S : Nat → Prop) (w w' : World) : Prop where
  os : w'.os = w.os
  tape : w'.tape = w.tape
  output : w'.output = w.output
  size : w.heap.size ≤ w'.heap.size
  block : ∀ i, i < w.heap.size → ¬ S i → w'.heap[i]? = w.heap[i]?
theorem Keeps.refl (S : Nat → Prop) (w : World) : Keeps S w w := ⟨rfl, rfl, rfl, Nat.le_refl _, fun _ _ _ => rfl⟩
theorem Keeps.trans {S : Nat → Prop} {a b c : World} (h : Keeps S a b) (k : Keeps S b c) : Keeps S a c :=
  ⟨k.os.trans h.os, k.tape.trans h.tape, k.output.trans h.output, Nat.le_trans h.size k.size, fun i hi hs => (k.block i (Nat.lt_of_lt_of_le hi h.size) hs).trans (h.block i hi hs)⟩
/-- The second step may also turn what the first one made. -/
theorem Keeps.trans' {S T : Nat → Prop} {a b c : World} (h : Keeps S a b) (k : Keeps T b c) (hT : ∀ i, i < a.heap.size → T i → S i) : Keeps S a c :=
  ⟨k.os.trans h.os, k.tape.trans h.tape, k.output.trans h.output, Nat.le_trans h.size k.size, fun i hi hs => (k.block i (Nat.lt_of_lt_of_le hi h.size) (fun ht => hs (hT i hi ht))).trans (h.block i hi hs)⟩
theorem Keeps.mono {S T : Nat → Prop} {a b : World} (h : Keeps S a b) (hT : ∀ i, i < a.heap.size → S i → T i) : Keeps T a b :=
  ⟨h.os, h.tape, h.output, h.size, fun i hi hs => h.block i hi (fun k => hs (hT i hi k))⟩
theorem Keeps.of_below {B : Nat} {w w' : World} (h : Below B w w') : Keeps (fun i => B ≤ i) w w' := ⟨h.os, h.tape, h.output, h.size, fun i _ hs => h.block i (by omega)⟩
theorem Keeps.of_new {S : Nat → Prop} {w w' : World} (h : Below w.heap.size w w') : Keeps S w w' := ⟨h.os, h.tape, h.output, h.size, fun i hi _ => h.block i hi⟩
theorem Keeps.below {S : Nat → Prop} {B : Nat} {w w' : World} (h : Keeps S w w') (hS : ∀ i, i < w.heap.size → S i → B ≤ i) (hB : B ≤ w.heap.size) : Below B w w' :=
  ⟨h.os, h.tape, h.output, h.size, fun i hi => h.block i (by omega) (fun k => by have := hS i (by omega) k; omega)⟩
theorem Keeps.alloc (S : Nat → Prop) (w : World) (o : Obj) : Keeps S w (w.alloc o) := ⟨rfl, rfl, rfl, by simp, fun i hi _ => Below.heap_alloc w o i hi⟩
theorem Keeps.drew (S : Nat → Prop) (w : World) : Keeps S w w.drew := ⟨rfl, rfl, rfl, Nat.le_refl _, fun _ _ _ => rfl⟩
theorem Keeps.drewN (S : Nat → Prop) (w : World) (n : Nat) : Keeps S w (w.drewN n) := ⟨rfl, rfl, rfl, Nat.le_refl _, fun _ _ _ => rfl⟩
theorem Keeps.setCell {S : Nat → Prop} (w : World) (p : Addr) (u : Value) (hp : S p.block ∨ w.heap.size ≤ p.block) : Keeps S w (w.setCell p u) :=
  ⟨rfl, rfl, rfl, by simp [World.setCell], fun i hi hs => Below.heap_setCell _ _ _ _ (by rintro rfl; rcases hp with h | h; exact hs h; omega)⟩
theorem Keeps.grown {S : Nat → Prop} {w w' : World} {row : Option Nat} (h : w.grownBy w' row) (hr : ∀ k, row = some k → S k ∨ w.heap.size ≤ k) : Keeps S w w' :=
  ⟨h.os, h.tape, h.output, h.size, fun i hi hs => h.block i hi (fun e => by rcases hr i e.symm with k | k; exact hs k; omega)⟩
theorem Keeps.cell {S : Nat → Prop} {w w' : World} (h : Keeps S w w') {p : Addr} {v : Value} (hc : w.cell? p = some v) (hp : ¬ S p.block) : w'.cell? p = some v :=
  (World.cell?_of_block (w := w) (h.block p.block (World.block_lt_of_cell? w p hc) hp)).trans hc
theorem Keeps.frozen {S : Nat → Prop} {w w' : World} (h : Keeps S w w') {p : Addr} (hl : p.block < w.heap.size) (hp : ¬ S p.block) : w'.frozen? p = w.frozen? p :=
  World.frozen?_of_block (w := w) (h.block p.block hl hp)

theorem calls_flip {P : Program} {f : FuncId} {args : Array Value} {w : World} {v : Value} (h : Calls P f args w fun e w' => e = .returned v ∧ w = w') : Calls P f args w fun e w' => e = .returned v ∧ w' = w := h.mono fun _ _ ⟨a, b⟩ => ⟨a, b.symm⟩
theorem calls_quiet {P : Program} {f : FuncId} {args : Array Value} {w : World} {n : Nat} {v : Value} (h : Calls P f args (w.drewN n) fun e w' => e = .returned v ∧ w.drewN n = w') : Calls P f args (w.drewN n) fun e w'' => e = .returned v ∧ ∃ m, w'' = w.drewN m := h.mono fun _ _ ⟨a, b⟩ => ⟨a, n, b.symm⟩
/-- The bytes xs lie behind A. -/
def RdB (w : World) (A : Option Addr) (xs : List UInt8) : Prop := ∀ j (h : j < xs.length), ∃ ad, A = some ad ∧ w.cell? (ad.add j) = some (.int .u8 (xs[j].toNat : Int))
theorem RdB.nil (w : World) (A : Option Addr) : RdB w A [] := fun j h => by simp at h
theorem RdB.at {w : World} {A : Option Addr} {xs : List UInt8} (h : RdB w A xs) (j : Nat) (hj : j < xs.length) : ∃ b off sp, A = some ⟨b, off, sp⟩ ∧ w.cell? ((⟨b, off, sp⟩ : Addr).add j) = some (.int .u8 (xs[j].toNat : Int)) := by
  obtain ⟨⟨b, off, sp⟩, e, hc⟩ := h j hj
  exact ⟨b, off, sp, e, hc⟩
theorem Addr.add_block (a : Addr) (n : Nat) : (a.add n).block = a.block := by unfold Addr.add; split <;> rfl
theorem Addr.add_add (a : Addr) (m n : Nat) : (a.add m).add n = a.add (m + n) := by
  unfold Addr.add
  by_cases h1 : m = 0
  · subst h1; simp
  · by_cases h2 : n = 0
    · subst h2; simp [h1]
    · simp only [h1, h2, if_false]
      rw [if_neg (by omega)]
      simp [Nat.add_assoc]
theorem RdB.lt {w : World} {A : Option Addr} {xs : List UInt8} (h : RdB w A xs) (h0 : 0 < xs.length) {ad : Addr} (e : A = some ad) : ad.block < w.heap.size := by
  obtain ⟨ad', e', hc⟩ := h 0 h0
  rw [e] at e'
  cases e'
  have := World.block_lt_of_cell? w _ hc
  rwa [Addr.add_block] at this
theorem RdB.keeps {S : Nat → Prop} {w w' : World} {A : Option Addr} {xs : List UInt8} (h : RdB w A xs) (k : Keeps S w w') (hA : 0 < xs.length → ∀ ad, A = some ad → ¬ S ad.block) : RdB w' A xs := fun j hj => by
  obtain ⟨ad, e, hc⟩ := h j hj
  exact ⟨ad, e, k.cell hc (by rw [Addr.add_block]; exact hA (by omega) ad e)⟩
theorem below_keeps {S : Nat → Prop} {B : Nat} {w w1 w2 : World} (h : Below B w w1) (k : Keeps S w1 w2) (hS : ∀ i, i < w1.heap.size → S i → B ≤ i) (hB : B ≤ w1.heap.size) : Below B w w2 := h.trans (k.below hS hB)
theorem RdB.below {w w' : World} {A : Option Addr} {xs : List UInt8} (h : RdB w A xs) (k : Below w.heap.size w w') : RdB w' A xs := h.keeps (Keeps.of_new (S := fun _ => False) k) (fun _ _ _ => id)
/-- A part of them. -/
theorem RdB.drop {w : World} {A : Option Addr} {xs : List UInt8} (h : RdB w A xs) (n : Nat) (hn : n < xs.length) : ∃ ad, A = some ad ∧ RdB w (some (ad.add n)) (xs.drop n) := by
  obtain ⟨ad, e, _⟩ := h n hn
  refine ⟨ad, e, fun j hj => ⟨_, rfl, ?_⟩⟩
  simp at hj
  obtain ⟨ad', e', hc⟩ := h (n + j) (by omega)
  rw [e] at e'
  cases e'
  rw [Addr.add_add, hc]
  simp
theorem RdB.take {w : World} {A : Option Addr} {xs : List UInt8} (h : RdB w A xs) (n : Nat) : RdB w A (xs.take n) := fun j hj => by
  simp at hj
  obtain ⟨ad, e, hc⟩ := h j (by omega)
  exact ⟨ad, e, by rw [hc]; simp⟩
end Go.Proofs.Ytapgknaoieojkaa.Toll
