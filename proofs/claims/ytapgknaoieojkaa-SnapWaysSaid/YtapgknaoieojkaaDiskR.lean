/- Walks: disk.Remove, Read. -/
import Derived.Test.YtapgknaoieojkaaDiskS
import Derived.StillTailTactics
set_option linter.unusedVariables false
set_option linter.unusedSimpArgs false
set_option maxRecDepth 100000
namespace Go.Proofs.Ytapgknaoieojkaa.Toll
open Go.RowKit
open Go.ChangeMaps (setBlock)
def removeD (D : List (ByteArray × FileP)) (k : ByteArray) : Int × List (ByteArray × FileP) := match getF D k with
  | none => (8, D)
  | some _ => (0, delF D k)
theorem DiskPost.drew {F : Nat → Prop} {w : World} {d : Nat} {room : Int} {v : Value} {D : List (ByteArray × FileP)} {e : Ending} {w' : World} (h : DiskPost F w.drew d room v D e w') : DiskPost F w d room v D e w' := by
  obtain ⟨F', h1, h2, h3, h4⟩ := h
  exact ⟨F', h1, h2, (Keeps.drew F w).trans h3, h4⟩
section
variable {F : Nat → Prop} {d M clock : Nat} {room : Int} {ents : List Ent}
theorem dropped {w : World} (H : DiskAt F w d M clock room ents) (k : ByteArray) (v : Value) :
    DiskPost F w d room v (delF (ents.map Ent.abs) k) (.returned v) (setBlock w M (.map (esOf (ents.filter fun x => decide (x.key ≠ k))) clock)) :=
  ⟨F, rfl, ⟨M, clock, _, H.drop (setBlock_keeps _ rfl) k (setBlock_at H.map), (delF_abs ents k).symm⟩, setBlock_keeps _ H.mF, fun i hi => .inl hi⟩
theorem Remove1_any (w : World) (h : DiskAt F w d M clock room ents) (k : ByteArray) (hk : k.size ≤ maxLen) (g1 g2 : Nat) (p : Value) (hc1 : w.cell? ⟨g1, 0, none⟩ = some (.pointer (some ⟨d, 0, none⟩))) (hc2 : w.cell? ⟨g2, 0, none⟩ = some (.string k)) :
    Calls Try.prog 63 #[p, .pointer (some ⟨g1, 0, none⟩), .pointer (some ⟨g2, 0, none⟩)] w (DiskPost F w d room (.int .i64 0) (delF (ents.map Ent.abs) k)) := by
  have h' : DiskAt F w.drew d M clock room ents := h.out (Keeps.drew (fun _ => False) w) (fun _ _ => id)
  have hks : ∀ e ∈ ents, e.key.size ≤ maxLen := fun e he => Nat.le_trans (h.keys e he) (by decide)
  have hdr : ∀ ty, (Builtin.delete_ #[tMap, tStr] ty #[.map (some M), .string k]).run Try.prog w.drew = .ok (.tuple #[]) (setBlock w.drew M (.map (esOf (ents.filter fun x => decide (x.key ≠ k))) clock)) := fun ty => drop_any h'.map h'.diff hks hk ty
  have hp := (dropped h' k (.int .i64 0)).drew
  generalize setBlock w.drew M (.map (esOf (ents.filter fun x => decide (x.key ≠ k))) clock) = w2 at *
  have HP := Lib.hid hp
  clear hp
  have cD := h.disk.cell 1
  simp only [List.getElem?_toArray, List.getElem?_cons_succ, List.getElem?_cons_zero] at cD
  clear h h'
  go_enter Try.func63, Try.ntmps63
  go_wp2_with fail
  go_still_tail 5, (by kernel_rfl)
  change wpList _ _ _ _ _ w.drew
  refine wpList_dropE rfl _ _ tMap tStr rfl _ _ _ rfl rfl (hdr _) ?_
  go_wp2
  go_ret
  exact HP.out
end
theorem with_remove {F : Nat → Prop} {d : Nat} {room : Int} {D : List (ByteArray × FileP)} (w : World) (h : DiskIn F w d room D) (k : ByteArray) (hk : k.size ≤ maxLen) (g1 g2 : Nat) (hc1 : w.cell? ⟨g1, 0, none⟩ = some (.pointer (some ⟨d, 0, none⟩))) (hc2 : w.cell? ⟨g2, 0, none⟩ = some (.string k)) :
    Calls Try.prog 45 #[.pointer (some ⟨d, 0, none⟩), .string k, .func (.func 63) #[] #[.pointer (some ⟨g1, 0, none⟩), .pointer (some ⟨g2, 0, none⟩)]] w (DiskPost F w d room (.int .i64 (removeD D k).1) (removeD D k).2) := by
  obtain ⟨M, clock, ents, h, rfl⟩ := h
  have H := Lib.hid h
  have hks : ∀ e ∈ ents, e.key.size ≤ maxLen := fun e he => Nat.le_trans (h.keys e he) (by decide)
  have cD := h.disk.cell 1
  simp only [List.getElem?_toArray, List.getElem?_cons_succ, List.getElem?_cons_zero] at cD
  cases hg : getF (ents.map Ent.abs) k with
  | none =>
    have hR : removeD (ents.map Ent.abs) k = (8, ents.map Ent.abs) := by unfold removeD; rw [hg]
    have hlk := look_none h.map hks hk (getF_none hg)
    rw [hR]
    clear h hg
    go_enter Try.func45, Try.ntmps45
    go_wp2_with (at_lookup; refine wpList_lookE rfl _ _ tMap true rfl _ _ _ rfl rfl hlk ?_)
    go_ret
    exact H.out.post (Below.refl _ _) _
  | some f =>
    obtain ⟨e0, he, rfl, rfl⟩ := getF_some hg
    have hR : removeD (ents.map Ent.abs) e0.key = (0, delF (ents.map Ent.abs) e0.key) := by unfold removeD; rw [hg]
    have hlk := look_some h.map h.diff hks hk he rfl
    rw [hR]
    clear h hg
    go_enter Try.func45, Try.ntmps45
    go_wp2_with (at_lookup; refine wpList_lookE rfl _ _ tMap true rfl _ _ _ rfl rfl hlk ?_)
    refine (Remove1_any w H.out e0.key hk g1 g2 _ hc1 hc2).mono ?_
    intro e w' hp
    have HP := Lib.hid hp
    obtain ⟨F', rfl, _⟩ := hp
    go_wp2
    go_ret
    exact HP.out
/-- A deed after blocks were laid that are not the disk's. -/
theorem DiskPost.first {F : Nat → Prop} {w w1 : World} {d : Nat} {room : Int} {v : Value} {D : List (ByteArray × FileP)} {e : Ending} {w' : World} (b : Below w.heap.size w w1) (h : DiskPost F w1 d room v D e w') : DiskPost F w d room v D e w' := by
  obtain ⟨F', h1, h2, h3, h4⟩ := h
  exact ⟨F', h1, h2, (Keeps.of_new b).trans h3, fun i hi => (h4 i hi).imp id (fun h => Nat.le_trans b.size h)⟩
theorem Remove_any {F : Nat → Prop} {d : Nat} {room : Int} {D : List (ByteArray × FileP)} (w : World) (h : DiskIn F w d room D) (k : ByteArray) (hk : k.size ≤ maxLen) :
    Calls Try.prog 38 #[.pointer (some ⟨d, 0, none⟩), .string k] w (DiskPost F w d room (.int .i64 (removeD D k).1) (removeD D k).2) := by
  have H := Lib.hid h
  clear h
  go_enter Try.func38, Try.ntmps38
  go_wp2_with fail
  have hb : Below w.heap.size w ((w.alloc (.cells #[.pointer (some ⟨d, 0, none⟩)] 46)).alloc (.cells #[.string k] 9)) := ((Below.refl _ _).alloc (Nat.le_refl _) _).alloc (by simp) _
  have c1 : ((w.alloc (.cells #[.pointer (some ⟨d, 0, none⟩)] 46)).alloc (.cells #[.string k] 9)).cell? ⟨w.heap.size, 0, none⟩ = some (.pointer (some ⟨d, 0, none⟩)) := (((Blk.new w #[.pointer (some ⟨d, 0, none⟩)] 46).alloc (.cells #[.string k] 9)).cell 0).trans rfl
  have c2 : ((w.alloc (.cells #[.pointer (some ⟨d, 0, none⟩)] 46)).alloc (.cells #[.string k] 9)).cell? ⟨w.heap.size + 1, 0, none⟩ = some (.string k) := by
    simp
  refine (with_remove _ (H.out.below hb) k hk _ _ c1 c2).mono ?_
  intro e w' hp
  have HP := Lib.hid (hp.first hb)
  obtain ⟨F', rfl, _⟩ := hp
  clear c1 c2 hb
  go_wp2
  go_ret
  exact HP.out
end Go.Proofs.Ytapgknaoieojkaa.Toll
