/- Steps on a disk, one behind the other; what snap.Save and snap.Load make, in plain words. -/
import Derived.Test.YtapgknaoieojkaaSnapF
import Derived.Test.YtapgknaoieojkaaSnapG
import Derived.Test.YtapgknaoieojkaaSnapE
set_option linter.unusedVariables false
set_option linter.unusedSimpArgs false
set_option maxRecDepth 100000
namespace Go.Proofs.Ytapgknaoieojkaa.Toll
open Go.RowKit
/-- From (F, w) to (F', w'): the disk has turned in its own blocks and in new ones alone. -/
structure DS (F : Nat → Prop) (w : World) (F' : Nat → Prop) (w' : World) (d : Nat) (room : Int) (D : List (ByteArray × FileP)) : Prop where
  din : DiskIn F' w' d room D
  keep : Keeps F w w'
  new : ∀ i, F' i → F i ∨ w.heap.size ≤ i
theorem DS.refl {F : Nat → Prop} {w : World} {d : Nat} {room : Int} {D : List (ByteArray × FileP)} (h : DiskIn F w d room D) : DS F w F w d room D := ⟨h, Keeps.refl _ _, fun i hi => .inl hi⟩
theorem DS.trans {F F1 F2 : Nat → Prop} {w w1 w2 : World} {d : Nat} {room : Int} {D1 D2 : List (ByteArray × FileP)} (h : DS F w F1 w1 d room D1) (k : DS F1 w1 F2 w2 d room D2) : DS F w F2 w2 d room D2 :=
  ⟨k.din, h.keep.trans' k.keep (fun i hi h1 => (h.new i h1).resolve_right (by omega)), fun i hi => by
    rcases k.new i hi with h1 | h1
    · exact h.new i h1
    · exact .inr (Nat.le_trans h.keep.size h1)⟩
theorem DS.below {F F1 : Nat → Prop} {w w1 w2 : World} {d : Nat} {room : Int} {D1 : List (ByteArray × FileP)} (h : DS F w F1 w1 d room D1) (b : Below w1.heap.size w1 w2) : DS F w F1 w2 d room D1 :=
  ⟨h.din.below b, h.keep.trans (Keeps.of_new b), h.new⟩
theorem DiskPost.ds {F : Nat → Prop} {w : World} {d : Nat} {room : Int} {v : Value} {D : List (ByteArray × FileP)} {e : Ending} {w' : World} (h : DiskPost F w d room v D e w') : ∃ F', e = .returned v ∧ DS F w F' w' d room D := by
  obtain ⟨F', h1, h2, h3, h4⟩ := h
  exact ⟨F', h1, h2, h3, h4⟩
theorem DS.post {F F' : Nat → Prop} {w : World} {d : Nat} {room : Int} {D : List (ByteArray × FileP)} {w' : World} (h : DS F w F' w' d room D) (v : Value) : DiskPost F w d room v D (.returned v) w' := ⟨F', rfl, h.din, h.keep, h.new⟩
def tmpK : ByteArray := ⟨#[115, 110, 97, 112, 46, 116, 109, 112]⟩
def nameK (n : Nat) : ByteArray := ⟨(nameF n).toArray⟩
/-- The elder ones go. -/
def purgeF (idx : Int) (D : List (ByteArray × FileP)) (l : List NIdx) : List (ByteArray × FileP) := l.foldl (fun D n => if (n.val : Int) < idx then (removeD D (nameK n.val)).2 else D) D
/-- snap.Save. -/
def saveD (room : Int) (D : List (ByteArray × FileP)) (s : SnapV) : Int × List (ByteArray × FileP) := match sputF s with
  | .error k => (k, D)
  | .ok x =>
    if (writeF room (removeD D tmpK).2 tmpK 0 x).1 = 0 then
      if (renameD (syncD (writeF room (removeD D tmpK).2 tmpK 0 x).2 tmpK).2 tmpK (nameK s.idx.toNat)).1 = 0 then
        (0, purgeF s.idx (renameD (syncD (writeF room (removeD D tmpK).2 tmpK 0 x).2 tmpK).2 tmpK (nameK s.idx.toNat)).2 (filesF (renameD (syncD (writeF room (removeD D tmpK).2 tmpK 0 x).2 tmpK).2 tmpK (nameK s.idx.toNat)).2))
      else ((renameD (syncD (writeF room (removeD D tmpK).2 tmpK 0 x).2 tmpK).2 tmpK (nameK s.idx.toNat)).1, (removeD (renameD (syncD (writeF room (removeD D tmpK).2 tmpK 0 x).2 tmpK).2 tmpK (nameK s.idx.toNat)).2 tmpK).2)
    else ((writeF room (removeD D tmpK).2 tmpK 0 x).1, (removeD (writeF room (removeD D tmpK).2 tmpK 0 x).2 tmpK).2)
/-- snap.Load. -/
def loadL (D : List (ByteArray × FileP)) : List NIdx → Except Int SnapV
  | [] => .error 8
  | n :: l => match sgetF ((match readR D (nameK n.val) with | .ok b => b | .error _ => [])) with
    | .error _ => loadL D l
    | .ok s => if s.idx = (n.val : Int) then .ok s else loadL D l
def loadF (D : List (ByteArray × FileP)) : Except Int SnapV := loadL D (filesF D)
theorem getF_del (D : List (ByteArray × FileP)) (k : ByteArray) : getF (delF D k) k = none := by
  unfold getF delF
  rw [Option.map_eq_none_iff, List.find?_eq_none]
  intro p hp
  have := (List.mem_filter.1 hp).2
  simpa using this
theorem getF_remove (D : List (ByteArray × FileP)) (k : ByteArray) : getF (removeD D k).2 k = none := by
  unfold removeD
  split
  · assumption
  · exact getF_del D k
end Go.Proofs.Ytapgknaoieojkaa.Toll
