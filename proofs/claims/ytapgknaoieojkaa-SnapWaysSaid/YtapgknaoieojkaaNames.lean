/- Walk: disk.Names. -/
import Derived.Test.YtapgknaoieojkaaSorted
import Derived.Test.YtapgknaoieojkaaDiskU
set_option linter.unusedVariables false
set_option linter.unusedSimpArgs false
set_option maxRecDepth 100000
namespace Go.Proofs.Ytapgknaoieojkaa.Toll
open Go.RowKit
open Go.ChangeMaps (setBlock)
/-- The names, in order. -/
def namesF (D : List (ByteArray × FileP)) : List (List UInt8) := (D.map fun p => p.1.data.toList).mergeSort leB
def strs (l : List (List UInt8)) : List Value := l.map Go.Proofs.encStr
def NamesPost (w : World) (l : List (List UInt8)) (e : Ending) (w' : World) : Prop := ∃ v, e = .returned v ∧ w'.ownsRow w.heap.size tStr 1 v l.length (strs l) ∧ Below w.heap.size w w'
abbrev anyR : Value → Option (DataW Unit × List MemPlace) := fun _ => some (.lit (.bool false), [])
section
variable {F : Nat → Prop} {d M clock : Nat} {room : Int} {ents : List Ent}
theorem DiskAt.owns {w : World} (h : DiskAt F w d M clock room ents) : w.ownsMap Try.prog tStr anyR M 16 (.map (((esOf ents).toList.map (Go.WideElems.rg Try.prog tStr anyR)).foldr DataW.insert [])) := by
  refine ⟨esOf ents, clock, h.map, ⟨?_, ?_, ?_⟩, ?_, rfl⟩
  · have := h.small
    simp only [esOf, List.size_toArray, List.length_map]
    exact Nat.le_trans this (by decide)
  · refine (MapKept.stamped_iff _ _).2 ⟨?_, ?_, ?_⟩
    · intro x hx
      simp only [esOf, List.mem_map] at hx
      obtain ⟨e, he, rfl⟩ := hx
      exact h.born e he
    · have : (esOf ents).toList.map (·.born) = ents.map (·.born) := by simp [esOf, Ent.entry]
      rw [this]
      exact List.pairwise_map.2 (h.apart.imp Apart.born)
    · simp only [esOf, List.pairwise_map]
      refine h.apart.imp (fun {a b} hab e => hab.key ?_)
      injection e
  · intro x hx
    simp only [esOf, List.mem_map] at hx
    obtain ⟨e, he, rfl⟩ := hx
    exact ⟨_, Go.WideElems.rd_mk (keyS e.key (Nat.le_trans (h.keys e he) (by decide))) rfl⟩
  · simp only [esOf, List.size_toArray, List.length_map]
    exact h.small
theorem keys_owns {w : World} (h : DiskAt F w d M clock room ents) : (strKeys (.map (((esOf ents).toList.map (Go.WideElems.rg Try.prog tStr anyR)).foldr DataW.insert []) : DataW Unit)).Perm ((ents.map Ent.abs).map fun p => p.1.data.toList) := by
  unfold strKeys
  refine ((Go.WideShapes.sorted_perm _).map _).trans ?_
  refine List.Perm.of_eq ?_
  simp only [esOf, List.map_map]
  refine List.map_congr_left (fun e he => ?_)
  simp only [Function.comp]
  rw [show e.entry = ⟨.string e.key, .pointer (some ⟨e.blk, 0, none⟩), e.born⟩ from rfl, Go.WideElems.rg_of (Go.WideElems.rd_mk (R := anyR) (keyS e.key (Nat.le_trans (h.keys e he) (by decide))) rfl)]
  rfl
theorem Names_at (w : World) (h : DiskAt F w d M clock room ents) :
    Calls Try.prog 20 #[.pointer (some ⟨d, 0, none⟩)] w (NamesPost w (namesF (ents.map Ent.abs))) := by
  have H := Lib.hid h
  have cD := h.disk.cell 1
  simp only [List.getElem?_toArray, List.getElem?_cons_succ, List.getElem?_cons_zero] at cD
  have hown := h.owns
  have hkeys := keys_owns h
  have hsm : Maps.size (.map (((esOf ents).toList.map (Go.WideElems.rg Try.prog tStr anyR)).foldr DataW.insert []) : DataW Unit) ≤ 16 := by
    have := h.small
    simp only [Maps.size]
    rw [(Go.WideShapes.sorted_perm _).length_eq]
    simp only [esOf, List.length_map]
    exact this
  have c1 := callsIn_wide.1 (maps_Keys (some M) w)
  have c2 := callsIn_wide.1 (sorted_keys M 16 _ anyR w hown (Nat.le_trans hsm (by decide)) (by omega))
  clear h
  go_enter Try.func20, Try.ntmps20
  go_wp2_with fail
  refine c1.mono ?_
  rintro e w' ⟨rfl, rfl⟩
  go_wp2_with fail
  refine c2.mono ?_
  rintro e w' ⟨v, ss, rfl, hp, hrow, _, hb⟩
  have hl : ss.mergeSort (fun x y => decide (x ≤ y)) = namesF (ents.map Ent.abs) := mergeSort_of_perm (hp.trans hkeys)
  have hlen : ss.length = (namesF (ents.map Ent.abs)).length := by rw [← hl, List.length_mergeSort]
  rw [hl, hlen] at hrow
  have HROW := Lib.hid hrow
  have HB := Lib.hid hb
  clear hl hlen hrow hb hp c1 c2 hown hkeys
  go_wp2
  go_ret
  have hb0 : Below w.heap.size w (w.alloc (.cells #[.map (some M)] tMap)) := (Below.refl _ _).alloc (Nat.le_refl _) _
  refine ⟨v, rfl, ?_, hb0.trans (HB.out.mono (by simp))⟩
  have h1 := HROW.out
  refine ⟨h1.1, h1.2.imp id ?_⟩
  rintro ⟨g, cap, cur, a, b, c⟩
  exact ⟨g, cap, cur, a, Nat.le_trans (by simp) b, c⟩
end
theorem Names_any {F : Nat → Prop} {d : Nat} {room : Int} {D : List (ByteArray × FileP)} (w : World) (h : DiskIn F w d room D) :
    Calls Try.prog 20 #[.pointer (some ⟨d, 0, none⟩)] w (NamesPost w (namesF D)) := by
  obtain ⟨M, clock, ents, h, rfl⟩ := h
  exact Names_at w h
theorem Used_in {F : Nat → Prop} {d : Nat} {room : Int} {D : List (ByteArray × FileP)} (w : World) (h : DiskIn F w d room D) :
    Calls Try.prog 42 #[.pointer (some ⟨d, 0, none⟩)] w fun e w' => e = .returned (.int .i64 (usedF D : Int)) ∧ Below w.heap.size w w' := by
  obtain ⟨M, clock, ents, h, rfl⟩ := h
  rw [usedE_abs]
  exact Used_any w h
end Go.Proofs.Ytapgknaoieojkaa.Toll
