/- Walk: member.Put. -/
import Derived.Test.YtapgknaoieojkaaMemP
set_option linter.unusedVariables false
set_option linter.unusedSimpArgs false
set_option maxRecDepth 100000
namespace Go.Proofs.Ytapgknaoieojkaa.Toll
open Go.RowKit
theorem risesG_spec : ∀ (xs : List Int) (p : Int), 0 ≤ p → p ≤ 9 → risesG p xs = true → (∀ x ∈ xs, 1 ≤ x ∧ x ≤ 9) ∧ (xs.length : Int) ≤ 9 - p
  | [], p, h0, h9, _ => ⟨by simp, by simp; omega⟩
  | x :: t, p, h0, h9, h => by
    simp only [risesG, Bool.and_eq_true, decide_eq_true_eq] at h
    obtain ⟨h1, h2, h3, h4⟩ := h
    have ih := risesG_spec t x (by omega) (by omega) h4
    refine ⟨?_, ?_⟩
    · intro y hy
      rcases List.mem_cons.1 hy with rfl | hy
      · exact ⟨h1, h2⟩
      · exact ih.1 y hy
    · simp
      omega
theorem rightB_spec {V L : List Int} (h : rightB V L = true) : (∀ x ∈ V, 1 ≤ x ∧ x ≤ 9) ∧ (∀ x ∈ L, 1 ≤ x ∧ x ≤ 9) ∧ V.length ≤ 9 ∧ L.length ≤ 9 ∧ V ≠ [] ∧ risesG 0 V = true ∧ risesG 0 L = true := by
  simp only [rightB, Bool.and_eq_true] at h
  obtain ⟨h0, h1, h2, h3⟩ := h
  have a := risesG_spec V 0 (by omega) (by omega) h1
  have b := risesG_spec L 0 (by omega) (by omega) h2
  refine ⟨a.1, b.1, by omega, by omega, ?_, h1, h2⟩
  rintro rfl
  simp at h0
def memBytes (V L : List Int) : List UInt8 := numB V.length ++ numsB V ++ numB L.length ++ numsB L
theorem MPut_err (A1 A2 : Option Addr) (c1 c2 : Nat) (V L : List Int) (w : World) (h : MemAt w A1 A2 V L) (hr : rightB V L = false) :
    Calls Try.prog 28 #[.agg #[.slice A1 V.length c1, .slice A2 L.length c2]] w fun e w' => e = .returned (.tuple #[.slice none 0 0, .int .i64 2]) ∧ Below w.heap.size w w' := by
  have HM := Lib.hid h
  have HR := Lib.hid hr
  clear h hr
  have HB : Hid (Below w.heap.size w (w.alloc (.cells #[.slice A1 V.length c1, .slice A2 L.length c2] 26))) := (Below.refl _ _).alloc (Nat.le_refl _) _
  go_enter Try.func28, Try.ntmps28
  go_wp2_with fail
  refine (Right_any A1 A2 c1 c2 V L _ (HM.out.below HB.out)).mono ?_
  rintro e w1 ⟨rfl, rfl⟩
  rw [HR.out]
  go_wp2_with fail
  go_ret2
  exact ⟨rfl, HB.out.alloc (by simp) _⟩
theorem mput_one (base : Nat) (v : Value) (bs : List UInt8) (n : Nat) (W : World) (g : Nat) (hg : g = W.heap.size) (t : TypeId) (hv : OwB base W v bs) (hn : n ≤ 9) (hl : bs.length ≤ 1000) (hb : base ≤ W.heap.size) (hne : ∀ i, v.ownBlock = some i → base ≤ i → i < W.heap.size) :
    Calls Try.prog 54 #[v, .slice (some ⟨g, 0, none⟩) 1 1] (W.alloc (.cells #[.int .i64 (n : Int)] t)) fun e w' => ∃ v', e = .returned v' ∧ OwB base w' v' (bs ++ numB n) ∧ Grow base W v w' v' := by
  subst hg
  have hbl : Below W.heap.size W (W.alloc (.cells #[.int .i64 (n : Int)] t)) := (Below.refl _ _).alloc (Nat.le_refl _) _
  refine (mput_any base v bs (some ⟨W.heap.size, 0, none⟩) 1 [(n : Int)] _ (hv.below hbl) (rdI_one _ _ _) (fun x hx => by simp at hx; omega) hl (by simp) (by simp; omega) ?_).mono ?_
  · intro _ ad e h hb2
    cases e
    have := hne _ h hb2
    simp at this
  · rintro e w' ⟨v', rfl, h1, g1⟩
    refine ⟨v', rfl, ?_, Grow.first hbl g1⟩
    simpa [numsB] using h1
set_option maxHeartbeats 1000000 in
theorem MPut_ok (A1 A2 : Option Addr) (c1 c2 : Nat) (V L : List Int) (w : World) (h : MemAt w A1 A2 V L) (hr : rightB V L = true) :
    Calls Try.prog 28 #[.agg #[.slice A1 V.length c1, .slice A2 L.length c2]] w fun e w' => ∃ v', e = .returned (.tuple #[v', .int .i64 0]) ∧ OwB w.heap.size w' v' (memBytes V L) ∧ Below w.heap.size w w' := by
  have HM := Lib.hid h
  have HS := Lib.hid (rightB_spec hr)
  have HR := Lib.hid hr
  clear h hr
  have HB : Hid (Below w.heap.size w (w.alloc (.cells #[.slice A1 V.length c1, .slice A2 L.length c2] 26))) := (Below.refl _ _).alloc (Nat.le_refl _) _
  have hv9 := HS.out.2.2.1
  have hl9 := HS.out.2.2.2.1
  have hnv : (numsB V).length ≤ 54 := by have := numsB_length V (fun x hx => by have := HS.out.1 x hx; omega); omega
  have hnl : (numsB L).length ≤ 54 := by have := numsB_length L (fun x hx => by have := HS.out.2.1 x hx; omega); omega
  have hn1 := numB_length V.length (by omega)
  have hn2 := numB_length L.length (by omega)
  have one : ∀ n : Nat, n ≤ 9 → ∀ x ∈ [(n : Int)], 0 ≤ x ∧ x ≤ 1099511627776 := fun n hn x hx => by simp at hx; omega
  have HONE := Lib.hid one
  clear one
  go_enter Try.func28, Try.ntmps28
  go_wp2_with fail
  refine (Right_any A1 A2 c1 c2 V L _ (HM.out.below HB.out)).mono ?_
  rintro e w1 ⟨rfl, rfl⟩
  rw [HR.out]
  go_wp2_with fail
  have hb2 : Below w.heap.size w ((w.alloc (.cells #[.slice A1 V.length c1, .slice A2 L.length c2] 26)).alloc (.cells #[.slice A1 V.length c1, .slice A2 L.length c2] 26)) := HB.out.alloc (by simp) _
  have HB2 := Lib.hid hb2
  refine (mput_one w.heap.size _ [] V.length _ _ (by simp) _ (OwB.nil _ _) hv9 (by simp) (by simp; omega) (nil_lt _ _)).mono ?_
  rintro e w1 ⟨v1, rfl, h1, g1⟩
  have hb3 : Below w.heap.size w w1 := hb2.trans (g1.base (by simp; omega) (Nat.le_refl _))
  have q0 : ((w.alloc (.cells #[.slice A1 V.length c1, .slice A2 L.length c2] 26)).alloc (.cells #[.slice A1 V.length c1, .slice A2 L.length c2] 26)).cell? ⟨w.heap.size, 0, none⟩ = some (.slice A1 V.length c1) := by
    rw [World.cell?_alloc_lt _ _ _ (by simp), World.cell?_alloc_new]; rfl
  have q1 : ((w.alloc (.cells #[.slice A1 V.length c1, .slice A2 L.length c2] 26)).alloc (.cells #[.slice A1 V.length c1, .slice A2 L.length c2] 26)).cell? ⟨w.heap.size, 1, none⟩ = some (.slice A2 L.length c2) := by
    rw [World.cell?_alloc_lt _ _ _ (by simp), World.cell?_alloc_new]; rfl
  have r0 := g1.keeps.cell q0 (by simp [Value.ownBlock])
  have r1 := g1.keeps.cell q1 (by simp [Value.ownBlock])
  have hown : ∀ i, v1.ownBlock = some i → w.heap.size ≤ i → w.heap.size + 1 < i := fun i hi hb => by
    rcases g1.fresh i hi hb with h | h
    · simp [Value.ownBlock] at h
    · simp at h; omega
  rw [List.nil_append] at h1
  have H1 := Lib.hid h1
  have HB3 := Lib.hid hb3
  have HOWN := Lib.hid hown
  have hA1 : Hid (0 < V.length → ∀ ad, A1 = some ad → v1.ownBlock = some ad.block → ¬ w.heap.size ≤ ad.block) := fun h0 ad e _ => by have := HM.out.v.lt (by rw [i64s_length]; exact h0) e; omega
  have hsz3 := hb3.size
  have hsz3' : w.heap.size + 1 < w1.heap.size := by have := g1.keeps.size; simp at this; omega
  clear h1 hb2 hb3 g1 q0 q1 hown
  go_wp2_with fail
  refine (mput_any w.heap.size v1 (numB V.length) A1 c1 V w1 H1.out (HM.out.v.below HB3.out) (fun x hx => by have := HS.out.1 x hx; omega) (by omega) (by omega) hsz3 hA1.out).mono ?_
  rintro e w2 ⟨v2, rfl, h2, g2⟩
  have s0 := g2.keeps.cell r0 (by rintro ⟨_, h⟩; have : w.heap.size + 1 < w.heap.size := HOWN.out _ h (Nat.le_refl _); omega)
  have s1 := g2.keeps.cell r1 (by rintro ⟨_, h⟩; have : w.heap.size + 1 < w.heap.size := HOWN.out _ h (Nat.le_refl _); omega)
  have HB4 := Lib.hid (HB3.out.trans (g2.base hsz3 (Nat.le_refl _)))
  have hown2 : ∀ i, v2.ownBlock = some i → w.heap.size ≤ i → w.heap.size < i := fun i hi hb => by
    rcases g2.fresh i hi hb with h | h
    · have := HOWN.out i h hb; omega
    · omega
  have HOWN2 := Lib.hid hown2
  have H2 := Lib.hid h2
  have hsz4 := HB4.out.size
  clear h2 g2 r0 r1 hown2 HOWN
  go_wp2_with fail
  refine (mput_one w.heap.size v2 _ L.length w2 _ rfl _ H2.out hl9 (by simp; omega) hsz4 (H2.out.lt (by have := numB_pos V.length; simp; omega))).mono ?_
  rintro e w3 ⟨v3, rfl, h3, g3⟩
  have t1 := g3.keeps.cell s1 (by rintro ⟨_, h⟩; have : w.heap.size < w.heap.size := HOWN2.out _ h (Nat.le_refl _); omega)
  have HB5 := Lib.hid (HB4.out.trans (g3.base hsz4 (Nat.le_refl _)))
  have H3 := Lib.hid h3
  have hsz5 := HB5.out.size
  have hA2 : Hid (0 < L.length → ∀ ad, A2 = some ad → v3.ownBlock = some ad.block → ¬ w.heap.size ≤ ad.block) := fun h0 ad e _ => by have := HM.out.l.lt (by rw [i64s_length]; exact h0) e; omega
  clear h3 g3 s0 s1 HOWN2
  go_wp2_with fail
  refine (mput_any w.heap.size v3 _ A2 c2 L w3 H3.out (HM.out.l.below HB5.out) (fun x hx => by have := HS.out.2.1 x hx; omega) (by simp; omega) (by omega) hsz5 hA2.out).mono ?_
  rintro e w4 ⟨v4, rfl, h4, g4⟩
  have HB6 := Lib.hid (HB5.out.trans (g4.base hsz5 (Nat.le_refl _)))
  have H4 := Lib.hid h4
  clear h4 g4
  go_wp2_with fail
  go_ret2
  exact ⟨v4, rfl, H4.out, HB6.out⟩
end Go.Proofs.Ytapgknaoieojkaa.Toll
