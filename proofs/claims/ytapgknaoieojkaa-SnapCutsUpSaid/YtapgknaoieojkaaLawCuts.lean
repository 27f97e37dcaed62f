/- SnapCutsUp: bytes are cut in pieces just as the document's reference cuts them, or both tell the same error: for every bytes and every size. Conditions: none. -/
import Derived.Test.YtapgknaoieojkaaLawK
import Derived.Test.YtapgknaoieojkaaRefN
set_option linter.unusedVariables false
set_option linter.unusedSimpArgs false
set_option maxRecDepth 100000
namespace Go.Proofs.Ytapgknaoieojkaa.Toll
open Go.RowKit Go.ChangeShapes Go.WideShapes Go.ChangeAt
theorem cut_unique {b : List UInt8} {size k1 k2 : Nat} (a1 : 1 ≤ k1) (a2 : k1 = 1 ∨ (k1 - 1) * size < b.length) (a3 : b.length ≤ k1 * size) (b1 : 1 ≤ k2) (b2 : k2 = 1 ∨ (k2 - 1) * size < b.length) (b3 : b.length ≤ k2 * size) : k1 = k2 := by
  rcases Nat.lt_trichotomy k1 k2 with h | h | h
  · rcases b2 with e | e
    · omega
    · have : k1 * size ≤ (k2 - 1) * size := Nat.mul_le_mul_right _ (by omega)
      omega
  · exact h
  · rcases a2 with e | e
    · omega
    · have : k2 * size ≤ (k1 - 1) * size := Nat.mul_le_mul_right _ (by omega)
      omega
theorem cuts_same {b : List UInt8} {size : Nat} {w w1 w2 : World} {e1 e2 : Ending} (h1 : PcsPost b size w e1 w1) (h2 : PcsPost b size w1 e2 w2) : ∃ n A1 c1 A2 c2 vs1 vs2, e1 = .returned (.tuple #[.slice A1 n c1, .int .i64 0]) ∧ e2 = .returned (.tuple #[.slice A2 n c2, .int .i64 0]) ∧ n ≤ 9223372036854775807 ∧
    (pcs b size n).length = n ∧ Below w.heap.size w w1 ∧ Below w1.heap.size w1 w2 ∧ RdV w2 A1 vs1 ∧ RdV w2 A2 vs2 ∧ RowsF (fun i => w.heap.size ≤ i) w2 vs1 (pcs b size n) ∧ RowsF (fun i => w1.heap.size ≤ i) w2 vs2 (pcs b size n) := by
  obtain ⟨k1, v1, a1, a2, a3, rfl, vs1, o1, r1, B1⟩ := h1
  obtain ⟨k2, v2, b1, b2, b3, rfl, vs2, o2, r2, B2⟩ := h2
  obtain rfl := cut_unique a1 a2 a3 b1 b2 b3
  obtain ⟨A1, c1, rfl, hr1, _, hc1, hm1, _⟩ := o1.form
  obtain ⟨A2, c2, rfl, hr2, _⟩ := o2.form
  exact ⟨k1, A1, c1, A2, c2, vs1, vs2, rfl, rfl, by omega, pcs_length _ _ _, B1, B2, hr1.below B2, hr2, r1.below B2, r2⟩
set_option maxHeartbeats 1000000 in
theorem cuts_walk (A : Option Addr) (c : Nat) (b : List UInt8) (size : Int) (w : World) (hs0 : -9223372036854775808 ≤ size) (hs1 : size ≤ 9223372036854775807) (hc : b.length ≤ c) (hcm : c ≤ 9223372036854775807) (hx : RdB w A b) :
    Calls Try.prog 5 #[.slice A b.length c, .int .i64 size] w (LawEnd w) := by
  have HX := Lib.hid hx
  clear hx
  by_cases h1 : 2000 < b.length ∧ size < 16 ∧ 0 < size
  · have t1 : decide (2000 < (b.length : Int)) = true := by simp; omega
    have t2 : decide (size < 16) = true := by simp; omega
    have t3 : decide (0 < size) = true := by simp; omega
    clear h1
    go_enter Try.func5, Try.ntmps5
    go_wp2_with fail
    refine (live_any _).mono ?_
    rintro e w1 ⟨rfl, b1⟩
    have B1 := Lib.hid b1
    clear b1
    go_wp2_with fail
    go_ret
    exact ⟨rfl, B1.out⟩
  · have tt : (decide (2000 < (b.length : Int)) = false) ∨ (decide (2000 < (b.length : Int)) = true ∧ decide (size < 16) = false) ∨ (decide (2000 < (b.length : Int)) = true ∧ decide (size < 16) = true ∧ decide (0 < size) = false) := by
      by_cases x1 : 2000 < b.length
      · by_cases x2 : size < 16
        · refine .inr (.inr ⟨by simp; omega, by simp; omega, by simp; omega⟩)
        · refine .inr (.inl ⟨by simp; omega, by simp; omega⟩)
      · exact .inl (by simp; omega)
    clear h1
    by_cases hs : size < 1
    · rcases tt with t1 | ⟨t1, t2⟩ | ⟨t1, t2, t3⟩
      all_goals
        go_enter Try.func5, Try.ntmps5
        go_wp2_with fail
        refine (Pieces_arg A c b size _ hs).mono ?_
        rintro e w' ⟨rfl, rfl⟩
        go_wp2_with fail
        refine (RPieces_arg A c b size _ hs).mono ?_
        rintro e w' ⟨rfl, rfl⟩
        go_wp2_with fail
        refine (live_any _).mono ?_
        rintro e w1 ⟨rfl, b1⟩
        have B1 := Lib.hid b1
        clear b1
        go_wp2_with fail
        refine (SameRows_eq (F1 := fun _ => True) (F2 := fun _ => True) none none 0 0 0 [] [] [] _ rfl (by decide) (RdV.nil _ _) (RdV.nil _ _) rfl rfl).mono ?_
        intro e w2 hq
        obtain ⟨rfl, b2⟩ := hq.below
        have B2 := Lib.hid (B1.out.trans (b2.mono B1.out.size))
        clear hq b2
        go_wp2_with fail
        go_ret
        exact ⟨rfl, B2.out⟩
    · by_cases hb : 32768 < b.length
      · have hs' : 1 ≤ size := by omega
        rcases tt with t1 | ⟨t1, t2⟩ | ⟨t1, t2, t3⟩
        · simp at t1; omega
        rotate_left
        · simp at t3; omega
        go_enter Try.func5, Try.ntmps5
        go_wp2_with fail
        refine (Pieces_big A c b size _ hs' hb).mono ?_
        rintro e w' ⟨rfl, rfl⟩
        go_wp2_with fail
        refine (RPieces_big A c b size _ hs' hb).mono ?_
        rintro e w' ⟨rfl, rfl⟩
        go_wp2_with fail
        refine (live_any _).mono ?_
        rintro e w1 ⟨rfl, b1⟩
        have B1 := Lib.hid b1
        clear b1
        go_wp2_with fail
        refine (SameRows_eq (F1 := fun _ => True) (F2 := fun _ => True) none none 0 0 0 [] [] [] _ rfl (by decide) (RdV.nil _ _) (RdV.nil _ _) rfl rfl).mono ?_
        intro e w2 hq
        obtain ⟨rfl, b2⟩ := hq.below
        have B2 := Lib.hid (B1.out.trans (b2.mono B1.out.size))
        clear hq b2
        go_wp2_with fail
        go_ret
        exact ⟨rfl, B2.out⟩
      · obtain ⟨m, rfl⟩ := Int.eq_ofNat_of_zero_le (show 0 ≤ size by omega)
        have hm1 : 1 ≤ m := by omega
        have hm2 : m ≤ 9223372036854775807 := by omega
        have hbl : b.length ≤ 32768 := by omega
        rcases tt with t1 | ⟨t1, t2⟩ | ⟨t1, t2, t3⟩
        rotate_left 2
        · simp at t3; omega
        all_goals
          go_enter Try.func5, Try.ntmps5
          go_wp2_with fail
          refine (Pieces_ok A c b m _ hbl hm1 hm2 hc hcm HX.out).mono ?_
          intro e1 w1 h1
          have H1 := Lib.hid h1
          obtain ⟨k1, v1, _, _, _, rfl, _, _, _, B1⟩ := h1
          have HB1 := Lib.hid B1
          clear B1
          go_wp2_with fail
          refine (RPieces_ok A c b m _ hbl hm1 hm2 hc hcm (HX.out.below HB1.out)).mono ?_
          intro e2 w2 h2
          obtain ⟨n, A1, c1, A2, c2, vs1, vs2, e1', rfl, hn, hpl, _, B2, r1, r2, f1, f2⟩ := cuts_same H1.out h2
          simp only [Ending.returned.injEq, Value.tuple.injEq] at e1'
          obtain rfl : v1 = .slice A1 n c1 := by simpa using e1'
          have HB2 := Lib.hid (HB1.out.trans (B2.mono HB1.out.size))
          have R1 := Lib.hid r1
          have R2 := Lib.hid r2
          have F1 := Lib.hid f1
          have F2 := Lib.hid f2
          clear h2 e1' B2 r1 r2 f1 f2 H1
          go_wp2_with fail
          refine (live_any _).mono ?_
          rintro e w3 ⟨rfl, b3⟩
          have B3 := Lib.hid (HB2.out.trans (b3.mono HB2.out.size))
          have R1' := Lib.hid (R1.out.below b3)
          have R2' := Lib.hid (R2.out.below b3)
          have F1' := Lib.hid (F1.out.below b3)
          have F2' := Lib.hid (F2.out.below b3)
          clear b3
          go_wp2_with fail
          refine (SameRows_eq A1 A2 c1 c2 n vs1 vs2 (pcs b m n) _ hpl hn R1'.out R2'.out F1'.out F2'.out).mono ?_
          intro e w4 hq
          obtain ⟨rfl, b4⟩ := hq.below
          have B4 := Lib.hid (B3.out.trans (b4.mono B3.out.size))
          clear hq b4
          go_wp2_with fail
          go_ret
          exact ⟨rfl, B4.out⟩
theorem rd5 : Readable Try.f5.params.toList := by
  rw [Try.params5]
  intro t ht
  simp at ht
  rcases ht with rfl | rfl
  · exact ⟨by kernel_rfl, of_decide_eq_true (by kernel_rfl)⟩
  · exact ⟨by kernel_rfl, of_decide_eq_true (by kernel_rfl)⟩
theorem cuts_lifted (os : Os) (started : os.Started) (H : Type) (enc : TypeId × Value → H) :
    ReturnsInHanded {} Try.checked os 5 .any (Rows.snapCutsUpSpec.pre6 enc Try.prog Try.f5 Rows.snapCutsUpRow.domain false) (Rows.snapCutsUpSpec.post enc Try.prog Try.f5 false true false false) := by
  refine returnsInHanded_of_change (C := Try.checked) own0 started (by kernel_rfl) Try.func5
    (ChangeSpec.witness6 (enc := enc) (C := Try.checked) false ⟨#[], #[.slice none 0 0, .int .i64 0], []⟩ 8 (by kernel_rfl) (by kernel_rfl) (by kernel_rfl) (by kernel_rfl)) ?_
  intro W base args ds gs before hval hW _ _
  have hW' := hW
  obtain ⟨p, q, hA0, hV, rfl, _, _⟩ := hW
  have hA : DataW.TrodAll enc Try.prog W 0 (fun _ => true) true Try.f5.params.toList args.toList ds p := hA0
  rw [Try.params5] at hA hval
  obtain ⟨v0, v1, d0, d1, p0, p1, rfl, rfl, rfl, h0, h1⟩ := trodAll_two hA
  obtain ⟨A, c, b, rfl, hx, hc, hcm⟩ := open_bytes (hval 0 tB v0 rfl rfl) h0
  obtain ⟨n, rfl, _, _, wn⟩ := open_int Try.underlying3 (hval 1 3 v1 rfl rfl) h1
  have hn : -9223372036854775808 ≤ n ∧ n ≤ 9223372036854775807 := by simpa [Lit.wf, IntKind.min, IntKind.max, IntKind.signed, IntKind.bits] using wn
  refine law_contract (K := 5) (spec := Rows.snapCutsUpSpec) rfl (by kernel_rfl) rd5 ?_ hW' (cuts_walk A c b n W hn.1 hn.2 hc hcm hx)
  intro ds hl
  rw [Try.params5] at hl
  match ds, hl with
  | [a, b], _ => exact ⟨rfl, rfl, rfl⟩
end Go.Proofs.Ytapgknaoieojkaa.Toll
namespace Go.Proofs.Ytapgknaoieojkaa
open Go.RowKit Go.ChangeShapes Go.WideShapes Go.ChangeAt
theorem snapCutsUp_holds : Rows.SnapCutsUpSaid :=
  OpenClaim.holds_of_wide 5 Try.f5 rfl rfl rfl rfl rfl rfl rfl ⟨rfl, rfl, rfl, rfl, rfl⟩ rfl rfl rfl rfl rfl (by kernel_rfl) Try.func5 (by kernel_rfl)
    (of_decide_eq_true (by kernel_rfl)) (by unfold Func.isWrapper; first | (rw [if_pos (by decide +kernel)]; kernel_rfl) | (rw [if_neg (by decide +kernel)]; exact ⟨rfl, rfl⟩))
    (fun os started H enc _ => Toll.cuts_lifted os started H enc)
#print axioms snapCutsUp_holds
end Go.Proofs.Ytapgknaoieojkaa
