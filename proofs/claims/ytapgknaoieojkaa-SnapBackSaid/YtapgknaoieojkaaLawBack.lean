/- SnapBack: what is put is got as it was, and no other bytes are taken for a snapshot: for every snapshot and every bytes. Conditions: none. -/
import Derived.Test.YtapgknaoieojkaaLawK
import Derived.Test.YtapgknaoieojkaaLive
set_option linter.unusedVariables false
set_option linter.unusedSimpArgs false
set_option maxRecDepth 100000
namespace Go.Proofs.Ytapgknaoieojkaa.Toll
open Go.RowKit Go.ChangeShapes Go.WideShapes Go.ChangeAt
set_option maxHeartbeats 2000000 in
theorem back_walk (A1 A2 A3 : Option Addr) (c1 c2 c3 : Nat) (s : SnapV) (A : Option Addr) (c : Nat) (b : List UInt8) (w : World) (hs : SnapAt w A1 A2 A3 s) (hc : b.length ≤ c) (hcm : c ≤ 9223372036854775807) (hx : RdB w A b) :
    Calls Try.prog 3 #[snapVal A1 A2 A3 c1 c2 c3 s, .slice A b.length c] w (LawEnd w) := by
  have HX := Lib.hid hx
  have HS := Lib.hid hs
  have hbl : b.length ≤ 9223372036854775807 := Nat.le_trans hc hcm
  have hb0 : Below w.heap.size w (w.alloc (.cells #[.int .i64 s.idx, .int .i64 s.term, .slice A1 s.V.length c1, .slice A2 s.L.length c2, .slice A3 s.data.length c3] 29)) := (Below.refl _ _).alloc (Nat.le_refl _) _
  have kb0 := Blk.new w #[.int .i64 s.idx, .int .i64 s.term, .slice A1 s.V.length c1, .slice A2 s.L.length c2, .slice A3 s.data.length c3] 29
  have hsz0 : (w.alloc (.cells #[.int .i64 s.idx, .int .i64 s.term, .slice A1 s.V.length c1, .slice A2 s.L.length c2, .slice A3 s.data.length c3] 29)).heap.size = w.heap.size + 1 := by simp
  have HB0 := Lib.hid hb0
  have KB0 := Lib.hid kb0
  have HSZ0 := Lib.hid hsz0
  clear hx hs hb0 kb0 hsz0
  cases hp : sputF s with
  | error k =>
    have hk := sputF_err hp
    have hk0 : (k == 0) = false := by simp; omega
    have HP := Lib.hid hp
    clear hp hk
    go_enter Try.func3, Try.ntmps3
    go_wp2_with fail
    refine (SPut_err A1 A2 A3 c1 c2 c3 s k _ (HS.out.below HB0.out) HP.out).mono ?_
    rintro e w1 ⟨rfl, b1⟩
    have HB := Lib.hid (HB0.out.trans (b1.mono (by rw [HSZ0.out]; omega)))
    clear b1
    go_wp2_with fail
    refine (SGet_res A c b _ hbl hc hcm (HX.out.below HB.out)).mono ?_
    intro e w5 hp
    obtain ⟨b5, hp⟩ := hp
    have HB5 := Lib.hid (HB.out.trans (b5.mono HB.out.size))
    clear b5
    cases hg : sgetF b with
    | error k5 =>
      rw [hg] at hp
      subst hp
      have h1 := sgetF_errs hg
      have hk5 : (k5 == 0) = false := by simp; omega
      clear hg h1
      go_wp2_with fail
      refine (live_any _).mono ?_
      rintro e w6 ⟨rfl, b6⟩
      have HB6 := Lib.hid ((HB5.out.alloc HB5.out.size _).trans (b6.mono (by have := HB5.out.size; simp; omega)))
      clear b6
      go_wp2_with fail
      go_ret
      exact ⟨rfl, HB6.out⟩
    | ok t =>
      rw [hg] at hp
      obtain ⟨T1, T2, T3, t1, t2, t3, rfl, hat, hfr⟩ := hp
      have hput := sputF_sgetF hg
      have HPT := Lib.hid hput
      have HAT := Lib.hid hat
      clear hg hput hat hfr
      go_wp2_with fail
      refine (SPut_okx T1 T2 T3 t1 t2 t3 t b _ (HAT.out.below ((Below.refl _ _).alloc (Nat.le_refl _) _)) HPT.out).mono ?_
      rintro e w6 ⟨g, hg, rfl, hrow, b6⟩
      have hr6 : RdB w6 (some ⟨g, 0, none⟩) b := by have := rowB_rd hrow 0; simpa using this
      have HR6 := Lib.hid hr6
      have HB6 := Lib.hid ((HB5.out.alloc HB5.out.size _).trans (b6.mono (by have := HB5.out.size; simp; omega)))
      clear hrow b6 hr6
      go_wp2_with fail
      refine (live_any _).mono ?_
      rintro e w7 ⟨rfl, b7⟩
      have HB7 := Lib.hid (HB6.out.trans (b7.mono HB6.out.size))
      have v1' := conv_str (some ⟨g, 0, none⟩) b.length b w7 (HR6.out.below b7)
      have v2' := conv_str A c b w7 (HX.out.below HB7.out)
      generalize (⟨b.toArray⟩ : ByteArray) = y at *
      have hne : (y.toList == y.toList) = true := by simp
      clear b7
      go_wp2_with fail
      go_ret
      exact ⟨rfl, HB7.out⟩
  | ok x =>
    obtain ⟨i1, i2, t1, t2, hr, hd, hxe⟩ := sputF_ok hp
    have hsb := snapBody_length hr i2 t2 hd
    have hxl : x.length ≤ 20008 := by rw [hxe, frameOf_length]; omega
    have hgs := sgetF_sputF hp
    have HGS := Lib.hid hgs
    have HP := Lib.hid hp
    clear hp hgs hxe hsb hr
    go_enter Try.func3, Try.ntmps3
    go_wp2_with fail
    refine (SPut_okx A1 A2 A3 c1 c2 c3 s x _ (HS.out.below HB0.out) HP.out).mono ?_
    rintro e w1 ⟨g, hg, rfl, hrow, b1⟩
    have hr1 : RdB w1 (some ⟨g, 0, none⟩) x := by have := rowB_rd hrow 0; simpa using this
    have HR1 := Lib.hid hr1
    have k1 := KB0.out.below b1
    have hsz1 : w.heap.size < w1.heap.size := k1.lt
    have HB1 := Lib.hid (HB0.out.trans (b1.mono (by rw [HSZ0.out]; omega)))
    have K1 := Lib.hid k1
    clear hrow b1 hr1 k1
    go_wp2_with fail
    refine (SGet_res (some ⟨g, 0, none⟩) x.length x _ (by omega) (Nat.le_refl _) (by omega) HR1.out).mono ?_
    rw [HGS.out]
    rintro e w2 ⟨b2, T1, T2, T3, u1, u2, u3, rfl, hat, hfr⟩
    have k2 := K1.out.below b2
    have HB2 := Lib.hid (HB1.out.trans (b2.mono HB1.out.size))
    have hsz2 : w.heap.size < w2.heap.size := k2.lt
    have HAT := Lib.hid hat
    have K2 := Lib.hid k2
    have k2c := (k2.alloc (.cells #[.int .i64 s.idx, .int .i64 s.term, .slice T1 s.V.length u1, .slice T2 s.L.length u2, .slice T3 s.data.length u3] 29)).cell
    have q2 := k2.cell
    clear b2 hat hfr k2
    clear k2c
    go_wp2_with fail
    refine (Same_eq A1 A2 A3 T1 T2 T3 c1 c2 c3 u1 u2 u3 s _ ((HS.out.below HB2.out).below ((Below.refl _ _).alloc (Nat.le_refl _) _)) (HAT.out.below ((Below.refl _ _).alloc (Nat.le_refl _) _))).mono ?_
    rintro e w3 ⟨rfl, b3⟩
    have HB := Lib.hid ((HB2.out.alloc HB2.out.size _).trans (b3.mono (by have := HB2.out.size; simp; omega)))
    clear b3 q2
    go_wp2_with fail
    refine (SGet_res A c b _ hbl hc hcm (HX.out.below HB.out)).mono ?_
    intro e w5 hp
    obtain ⟨b5, hp⟩ := hp
    have HB5 := Lib.hid (HB.out.trans (b5.mono HB.out.size))
    clear b5
    cases hg : sgetF b with
    | error k5 =>
      rw [hg] at hp
      subst hp
      have h1 := sgetF_errs hg
      have hk5 : (k5 == 0) = false := by simp; omega
      clear hg h1
      go_wp2_with fail
      refine (live_any _).mono ?_
      rintro e w6 ⟨rfl, b6⟩
      have HB6 := Lib.hid ((HB5.out.alloc HB5.out.size _).trans (b6.mono (by have := HB5.out.size; simp; omega)))
      clear b6
      go_wp2_with fail
      go_ret
      exact ⟨rfl, HB6.out⟩
    | ok t =>
      rw [hg] at hp
      obtain ⟨R1, R2, R3, r1, r2, r3, rfl, hat, hfr⟩ := hp
      have hput := sputF_sgetF hg
      have HPT := Lib.hid hput
      have HAT2 := Lib.hid hat
      clear hg hput hat hfr
      go_wp2_with fail
      refine (SPut_okx R1 R2 R3 r1 r2 r3 t b _ (HAT2.out.below ((Below.refl _ _).alloc (Nat.le_refl _) _)) HPT.out).mono ?_
      rintro e w6 ⟨g6, hg, rfl, hrow, b6⟩
      have hr6 : RdB w6 (some ⟨g6, 0, none⟩) b := by have := rowB_rd hrow 0; simpa using this
      have HR6 := Lib.hid hr6
      have HB6 := Lib.hid ((HB5.out.alloc HB5.out.size _).trans (b6.mono (by have := HB5.out.size; simp; omega)))
      clear hrow b6 hr6
      go_wp2_with fail
      refine (live_any _).mono ?_
      rintro e w7 ⟨rfl, b7⟩
      have HB7 := Lib.hid (HB6.out.trans (b7.mono HB6.out.size))
      have v1' := conv_str (some ⟨g6, 0, none⟩) b.length b w7 (HR6.out.below b7)
      have v2' := conv_str A c b w7 (HX.out.below HB7.out)
      generalize (⟨b.toArray⟩ : ByteArray) = y at *
      have hne : (y.toList == y.toList) = true := by simp
      clear b7
      go_wp2_with fail
      go_ret
      exact ⟨rfl, HB7.out⟩
theorem rd3 : Readable Try.f3.params.toList := by
  rw [Try.params3]
  intro t ht
  simp at ht
  rcases ht with rfl | rfl
  · exact ⟨by kernel_rfl, of_decide_eq_true (by kernel_rfl)⟩
  · exact ⟨by kernel_rfl, of_decide_eq_true (by kernel_rfl)⟩
theorem back_lifted (os : Os) (started : os.Started) (H : Type) (enc : TypeId × Value → H) :
    ReturnsInHanded {} Try.checked os 3 .any (Rows.snapBackSpec.pre6 enc Try.prog Try.f3 Rows.snapBackRow.domain false) (Rows.snapBackSpec.post enc Try.prog Try.f3 false true false false) := by
  refine returnsInHanded_of_change (C := Try.checked) own0 started (by kernel_rfl) Try.func3
    (ChangeSpec.witness6 (enc := enc) (C := Try.checked) false ⟨#[], #[.agg #[.int .i64 0, .int .i64 0, .slice none 0 0, .slice none 0 0, .slice none 0 0], .slice none 0 0], []⟩ 8 (by kernel_rfl) (by kernel_rfl) (by kernel_rfl) (by kernel_rfl)) ?_
  intro W base args ds gs before hval hW _ _
  have hW' := hW
  obtain ⟨p, q, hA0, hV, rfl, _, _⟩ := hW
  have hA : DataW.TrodAll enc Try.prog W 0 (fun _ => true) true Try.f3.params.toList args.toList ds p := hA0
  rw [Try.params3] at hA hval
  obtain ⟨v0, v1, d0, d1, p0, p1, rfl, rfl, rfl, h0, h1⟩ := trodAll_two hA
  obtain ⟨A1, A2, A3, c1, c2, c3, s, rfl, hs, _⟩ := open_snap (hval 0 29 v0 rfl rfl) h0
  obtain ⟨A, c, b, rfl, hx, hc, hcm⟩ := open_bytes (hval 1 tB v1 rfl rfl) h1
  refine law_contract (K := 3) (spec := Rows.snapBackSpec) rfl (by kernel_rfl) rd3 ?_ hW' (back_walk A1 A2 A3 c1 c2 c3 s A c b W hs hc hcm hx)
  intro ds hl
  rw [Try.params3] at hl
  match ds, hl with
  | [a, b], _ => exact ⟨rfl, rfl, rfl⟩
end Go.Proofs.Ytapgknaoieojkaa.Toll
namespace Go.Proofs.Ytapgknaoieojkaa
open Go.RowKit Go.ChangeShapes Go.WideShapes Go.ChangeAt
theorem snapBack_holds : Rows.SnapBackSaid :=
  OpenClaim.holds_of_wide 3 Try.f3 rfl rfl rfl rfl rfl rfl rfl ⟨rfl, rfl, rfl, rfl, rfl⟩ rfl rfl rfl rfl rfl (by kernel_rfl) Try.func3 (by kernel_rfl)
    (of_decide_eq_true (by kernel_rfl)) (by unfold Func.isWrapper; first | (rw [if_pos (by decide +kernel)]; kernel_rfl) | (rw [if_neg (by decide +kernel)]; exact ⟨rfl, rfl⟩))
    (fun os started H enc _ => Toll.back_lifted os started H enc)
#print axioms snapBack_holds
end Go.Proofs.Ytapgknaoieojkaa
