/- SnapTurned: one bit turned in a snapshot's bytes, behind the first four, is told; so is one that is cut short: for every snapshot and every bit. Conditions: none. -/
import Derived.Test.YtapgknaoieojkaaLawK
import Derived.Test.YtapgknaoieojkaaLive
import Derived.StillTailTactics
import Derived.Lib.EndianBits
set_option linter.unusedVariables false
set_option linter.unusedSimpArgs false
set_option maxRecDepth 100000
namespace Go.Proofs.Ytapgknaoieojkaa.Toll
open Go.RowKit Go.ChangeShapes Go.WideShapes Go.ChangeAt
theorem mask_byte (m : Nat) (h : m < 8) : IntKind.u8.wrap (2 ^ m) = ((2 ^ m : Nat) : Int) ∧ (2 ^ m : Nat) < 256 ∧ (2 ^ m : Nat) ≠ 0 := by
  have h1 : ∀ m : Fin 8, IntKind.u8.wrap (2 ^ m.val) = ((2 ^ m.val : Nat) : Int) ∧ (2 ^ m.val : Nat) < 256 ∧ (2 ^ m.val : Nat) ≠ 0 := by decide
  exact h1 ⟨m, h⟩
def turnB (c : UInt8) (m : Nat) : UInt8 := UInt8.ofNat (c.toNat ^^^ 2 ^ m)
theorem turnB_nat (c : UInt8) (m : Nat) (h : m < 8) : (turnB c m).toNat = c.toNat ^^^ 2 ^ m := by
  have hx : c.toNat ^^^ 2 ^ m < 2 ^ 8 := Nat.xor_lt_two_pow c.toNat_lt (mask_byte m h).2.1
  unfold turnB
  rw [UInt8.toNat_ofNat']
  exact Nat.mod_eq_of_lt hx
theorem turnB_xor (c : UInt8) (m : Nat) (h : m < 8) : bits .xor .u8 (c.toNat : Int) (IntKind.u8.wrap (2 ^ m)) = ((turnB c m).toNat : Int) := by
  rw [(mask_byte m h).1, u8_xor_nat _ _ c.toNat_lt (mask_byte m h).2.1, turnB_nat c m h]
theorem turnB_ne (c : UInt8) (m : Nat) (h : m < 8) : turnB c m ≠ c := fun e => by
  have h1 := turnB_nat c m h
  rw [e] at h1
  have h2 : (2 ^ m : Nat) = 0 := by
    have := congrArg (c.toNat ^^^ ·) h1
    simpa [← Nat.xor_assoc] using this.symm
  exact (mask_byte m h).2.2 h2
theorem turnB_back (c : UInt8) (m : Nat) (h : m < 8) : turnB (turnB c m) m = c := by
  apply UInt8.toNat_inj.1
  rw [turnB_nat _ m h, turnB_nat c m h, Nat.xor_assoc, Nat.xor_self, Nat.xor_zero]
theorem SGet_n (A : Option Addr) (n c : Nat) (xs : List UInt8) (w : World) (hn : xs.length = n) (hs : n ≤ 9223372036854775807) (hc : n ≤ c) (hcm : c ≤ 9223372036854775807) (hx : RdB w A xs) :
    Calls Try.prog 10 #[.slice A n c] w (SRes (sgetF xs) w) := by subst hn; exact SGet_res A c xs w hs hc hcm hx
theorem SGet_e (A : Option Addr) (n c : Nat) (xs : List UInt8) (k : Int) (w : World) (hn : xs.length = n) (hs : n ≤ 9223372036854775807) (hc : n ≤ c) (hcm : c ≤ 9223372036854775807) (hx : RdB w A xs) (h : sgetF xs = .error k) :
    Calls Try.prog 10 #[.slice A n c] w fun e w' => e = .returned (.tuple #[nilS, .int .i64 k]) ∧ Below w.heap.size w w' := by
  refine (SGet_n A n c xs w hn hs hc hcm hx).mono ?_
  rw [h]
  rintro e w' ⟨h1, h2⟩
  exact ⟨h2, h1⟩
theorem sget_turn {b : List UInt8} (hb : b.length ≤ 65536) (j : Nat) (hj : 4 ≤ j) (hl : j < (frameOf b).length) (c : UInt8) (hc : c ≠ (frameOf b)[j]) : sgetF ((frameOf b).set j c) = .error 5 := by
  unfold sgetF
  rw [nextF_turn b hb j hj hl c hc]
theorem sget_cut {b : List UInt8} (hb : b.length ≤ 65536) (j : Nat) (hj : 4 ≤ j) (hl : j < (frameOf b).length) : sgetF ((frameOf b).take j) = .error 3 := by
  unfold sgetF
  rw [nextF_cut b hb j hj hl]
set_option maxHeartbeats 2000000 in
theorem turn_walk (A1 A2 A3 : Option Addr) (c1 c2 c3 : Nat) (s : SnapV) (k : Int) (w : World) (hs : SnapAt w A1 A2 A3 s) (hk0 : -9223372036854775808 ≤ k) (hk1 : k ≤ 9223372036854775807) :
    Calls Try.prog 4 #[snapVal A1 A2 A3 c1 c2 c3 s, .int .i64 k] w (LawEnd w) := by
  have HS := Lib.hid hs
  have hb0 : Below w.heap.size w (w.alloc (.cells #[.int .i64 s.idx, .int .i64 s.term, .slice A1 s.V.length c1, .slice A2 s.L.length c2, .slice A3 s.data.length c3] 29)) := (Below.refl _ _).alloc (Nat.le_refl _) _
  have hsz0 : (w.alloc (.cells #[.int .i64 s.idx, .int .i64 s.term, .slice A1 s.V.length c1, .slice A2 s.L.length c2, .slice A3 s.data.length c3] 29)).heap.size = w.heap.size + 1 := by simp
  have HB0 := Lib.hid hb0
  have HSZ0 := Lib.hid hsz0
  clear hs hb0 hsz0
  cases hp : sputF s with
  | error e0 =>
    have hk := sputF_err hp
    have hk0 : (e0 != 0) = true := by simp; omega
    have HP := Lib.hid hp
    clear hp hk
    go_enter Try.func4, Try.ntmps4
    go_wp2_with fail
    refine (SPut_err A1 A2 A3 c1 c2 c3 s e0 _ (HS.out.below HB0.out) HP.out).mono ?_
    rintro e w1 ⟨rfl, b1⟩
    have HB := Lib.hid (HB0.out.trans (b1.mono (by rw [HSZ0.out]; omega)))
    clear b1
    go_wp2_with fail
    refine (live_any _).mono ?_
    rintro e w6 ⟨rfl, b6⟩
    have HB6 := Lib.hid (HB.out.trans (b6.mono HB.out.size))
    clear b6
    go_wp2_with fail
    go_ret
    exact ⟨rfl, HB6.out⟩
  | ok x =>
    obtain ⟨i1, i2, t1, t2, hr, hd, hxe⟩ := sputF_ok hp
    have hsb := snapBody_length hr i2 t2 hd
    have hxl : x.length ≤ 20008 := by rw [hxe, frameOf_length]; omega
    have hxm : 9 ≤ x.length := by
      rw [hxe, frameOf_length]
      have := numB_pos s.idx.toNat
      simp [snapBody]
      omega
    have hx9 : decide ((x.length : Int) < 9) = false := by simp; omega
    have HXE := Lib.hid hxe
    have HP := Lib.hid hp
    clear hp hxe hsb hr
    go_enter Try.func4, Try.ntmps4
    go_wp2_with fail
    refine (SPut_okx A1 A2 A3 c1 c2 c3 s x _ (HS.out.below HB0.out) HP.out).mono ?_
    rintro e w1 ⟨g, hg, rfl, hrow, b1⟩
    have HROW := Lib.hid hrow
    have HB1 := Lib.hid (HB0.out.trans (b1.mono (by rw [HSZ0.out]; omega)))
    clear hrow b1
    obtain ⟨n, hn, hnl⟩ : ∃ n : Nat, wrap64 ((IntKind.u64.wrap k).tmod (8 * ((x.length : Int) - 4))) = (n : Int) ∧ n < 8 * (x.length - 4) := by
      have h1 := IntKind.wrap_u64 k
      have h2 : 0 ≤ IntKind.u64.wrap k := by rw [h1]; omega
      have h3 : (IntKind.u64.wrap k).tmod (8 * ((x.length : Int) - 4)) = IntKind.u64.wrap k % (8 * ((x.length : Int) - 4)) := Int.tmod_eq_emod_of_nonneg h2
      have h4 := Int.emod_nonneg (IntKind.u64.wrap k) (show (8 * ((x.length : Int) - 4)) ≠ 0 by omega)
      have h5 := Int.emod_lt_of_pos (IntKind.u64.wrap k) (show 0 < (8 * ((x.length : Int) - 4)) by omega)
      rw [h3]
      generalize IntKind.u64.wrap k % (8 * ((x.length : Int) - 4)) = q at *
      refine ⟨q.toNat, ?_, by omega⟩
      unfold wrap64
      omega
    have HN := Lib.hid hn
    clear hn
    go_wp2_with fail
    rw [HN.out]
    obtain ⟨j, hj⟩ : ∃ j, j = n / 8 := ⟨_, rfl⟩
    have hjl : 4 + j < x.length := by omega
    have hc := rowB_cell HROW.out (4 + j) hjl
    have hf := rowB_frozen HROW.out (4 + j)
    obtain ⟨m, hm⟩ : ∃ m, m = n % 8 := ⟨_, rfl⟩
    have hm8 : m < 8 := by omega
    have hq0 : (n : Int).tdiv 8 = (j : Int) := by rw [Int.tdiv_eq_ediv_of_nonneg (by omega)]; omega
    have hr0 : (n : Int).tmod 8 = (m : Int) := by rw [Int.tmod_eq_emod_of_nonneg (by omega)]; omega
    have hq1 : (n : Int) / 8 = (j : Int) := by omega
    have hq0w : IntKind.i64.wrap (j : Int) = (j : Int) := wrap_in _ (by omega) (by omega)
    have hm0 : (0 : Int) ≤ (m : Int) := by omega
    have hm1 : (m : Int) ≤ 8 := by omega
    have hw1 : IntKind.i64.wrap (4 + (j : Int)) = 4 + (j : Int) := wrap_in _ (by omega) (by omega)
    have hw2 : (4 + (j : Int)).toNat = 4 + j := by omega
    have hw3 : (0 : Int) ≤ 4 + (j : Int) := by omega
    have hw4 : 4 + (j : Int) < (x.length : Int) := by omega
    have hbl : (snapBody s).length ≤ 65536 := by
      have h1 := congrArg List.length HXE.out
      rw [frameOf_length] at h1
      omega
    have hturn : sgetF (x.set (4 + j) (turnB (x[4 + j]) m)) = .error 5 := by
      have hxe := HXE.out
      subst hxe
      exact sget_turn hbl (4 + j) (by omega) hjl _ (turnB_ne _ m hm8)
    have hcut : sgetF (x.take (4 + j)) = .error 3 := by
      have hxe := HXE.out
      subst hxe
      exact sget_cut hbl (4 + j) (by omega) hjl
    have hback : (x.set (4 + j) (turnB (x[4 + j]) m)).set (4 + j) x[4 + j] = x := by
      rw [List.set_set, List.set_getElem_self]
    have hslen : (x.set (4 + j) (turnB (x[4 + j]) m)).length = x.length := List.length_set
    have htlen : (x.take (4 + j)).length = 4 + j := by rw [List.length_take]; omega
    have hsl := slice_h (some ⟨g, 0, none⟩) x.length x.length (4 + j) (by omega)
    rw [show (((4 + j : Nat)) : Int) = 4 + (j : Int) by omega] at hsl
    have hxor := turnB_xor x[4 + j] m hm8
    have hxor2 := turnB_xor (turnB x[4 + j] m) m hm8
    rw [turnB_back _ m hm8] at hxor2
    have hrow2 := rowB_set HROW.out (4 + j) (turnB x[4 + j] m)
    have hbk : ∀ (w' : World) (v : Value), w.heap.size ≤ g := fun _ _ => by have := HSZ0.out; omega
    have hgb : w.heap.size < g := by have := HSZ0.out; omega
    have HTURN := Lib.hid hturn
    have HCUT := Lib.hid hcut
    have HBACK := Lib.hid hback
    have HSL := Lib.hid hslen
    have HTL := Lib.hid htlen
    have HROW2 := Lib.hid hrow2
    clear hj hm hturn hcut hback hslen htlen hrow2 hbk hbl
    generalize hy : x[4 + j] = y at *
    have HY := Lib.hid hy
    generalize hd : turnB y m = d at *
    have HD := Lib.hid hd
    clear hy hd
    go_still_tail 11, (by kernel_rfl)
    change wpList _ _ _ _ _ w1.drew
    go_wp2_with fail
    have hgl1 : g < w1.heap.size := (Array.getElem?_eq_some_iff.1 HROW.out).1
    have kp2 : Keeps (· = g) w1 (w1.setCell ⟨g, 4 + j, none⟩ (.int .u8 (d.toNat : Int))).drew := (Keeps.setCell (S := (· = g)) w1 ⟨g, 4 + j, none⟩ _ (.inl rfl)).trans (Keeps.drew _ _)
    have hb2 : Below w.heap.size w (w1.setCell ⟨g, 4 + j, none⟩ (.int .u8 (d.toNat : Int))).drew := HB1.out.trans (kp2.below (fun i _ e => by omega) HB1.out.size)
    have hrow2' : (w1.setCell ⟨g, 4 + j, none⟩ (.int .u8 (d.toNat : Int))).drew.heap[g]? = some (rowB (x.set (4 + j) d)) := HROW2.out
    have HB2 := Lib.hid hb2
    have HR2 := Lib.hid hrow2'
    clear kp2 hb2 hrow2' hf hc
    refine (SGet_e (some ⟨g, 0, none⟩) x.length x.length (x.set (4 + j) d) 5 _ HSL.out (by omega) (Nat.le_refl _) (by omega) (by have := rowB_rd HR2.out 0; simpa using this) HTURN.out).mono ?_
    rintro e w3 ⟨rfl, b3⟩
    have hgl2 : g < (w1.setCell ⟨g, 4 + j, none⟩ (.int .u8 (d.toNat : Int))).drew.heap.size := (Array.getElem?_eq_some_iff.1 HR2.out).1
    have hr3 : w3.heap[g]? = some (rowB (x.set (4 + j) d)) := (b3.block g hgl2).trans HR2.out
    have HB3 := Lib.hid (HB2.out.trans (b3.mono HB2.out.size))
    have hgl3 : g < w3.heap.size := (Array.getElem?_eq_some_iff.1 hr3).1
    have hb4 : Below w.heap.size w (w3.alloc (.cells #[.int .i64 0, .int .i64 0, .slice none 0 0, .slice none 0 0, .slice none 0 0] 29)) := HB3.out.alloc HB3.out.size _
    have hr4 : (w3.alloc (.cells #[.int .i64 0, .int .i64 0, .slice none 0 0, .slice none 0 0, .slice none 0 0] 29)).heap[g]? = some (rowB (x.set (4 + j) d)) := (Below.heap_alloc _ _ _ hgl3).trans hr3
    clear b3 hgl2 hr3
    go_wp2_with fail
    generalize w3.alloc (.cells #[.int .i64 0, .int .i64 0, .slice none 0 0, .slice none 0 0, .slice none 0 0] 29) = w4 at *
    have hc4 := rowB_cell hr4 (4 + j) (by rw [HSL.out]; exact hjl)
    rw [List.getElem_set_self] at hc4
    have hf4 := rowB_frozen hr4 (4 + j)
    have hr5 := rowB_set hr4 (4 + j) y
    rw [HBACK.out] at hr5
    have HB4 := Lib.hid hb4
    have HR5 := Lib.hid hr5
    clear hr4 hr5 hb4
    go_still_tail 11, (by kernel_rfl)
    change wpList _ _ _ _ _ w4.drew
    go_wp2_with fail
    have kp5 : Keeps (· = g) w4 (w4.setCell ⟨g, 4 + j, none⟩ (.int .u8 (y.toNat : Int))).drew := (Keeps.setCell (S := (· = g)) w4 ⟨g, 4 + j, none⟩ _ (.inl rfl)).trans (Keeps.drew _ _)
    have hb5 : Below w.heap.size w (w4.setCell ⟨g, 4 + j, none⟩ (.int .u8 (y.toNat : Int))).drew := HB4.out.trans (kp5.below (fun i _ e => by omega) HB4.out.size)
    have hr5' : (w4.setCell ⟨g, 4 + j, none⟩ (.int .u8 (y.toNat : Int))).drew.heap[g]? = some (rowB x) := HR5.out
    have HB5 := Lib.hid hb5
    have HR5' := Lib.hid hr5'
    clear kp5 hb5 hr5' hc4 hf4
    refine (SGet_e (some ⟨g, 0, none⟩) (4 + j) x.length (x.take (4 + j)) 3 _ HTL.out (by omega) (by omega) (by omega) (by have := (rowB_rd HR5'.out 0); simp only [List.drop_zero] at this; exact this.take _) HCUT.out).mono ?_
    rintro e w6 ⟨rfl, b6⟩
    have HB6 := Lib.hid (HB5.out.trans (b6.mono HB5.out.size))
    clear b6
    go_wp2_with fail
    refine (live_any _).mono ?_
    rintro e w7 ⟨rfl, b7⟩
    have HB7 := Lib.hid ((HB6.out.alloc HB6.out.size _).trans (b7.mono (by have := HB6.out.size; simp; omega)))
    clear b7
    go_wp2_with fail
    go_ret
    exact ⟨rfl, HB7.out⟩
theorem rd4 : Readable Try.f4.params.toList := by
  rw [Try.params4]
  intro t ht
  simp at ht
  rcases ht with rfl | rfl
  · exact ⟨by kernel_rfl, of_decide_eq_true (by kernel_rfl)⟩
  · exact ⟨by kernel_rfl, of_decide_eq_true (by kernel_rfl)⟩
theorem turn_lifted (os : Os) (started : os.Started) (H : Type) (enc : TypeId × Value → H) :
    ReturnsInHanded {} Try.checked os 4 .any (Rows.snapTurnedSpec.pre6 enc Try.prog Try.f4 Rows.snapTurnedRow.domain false) (Rows.snapTurnedSpec.post enc Try.prog Try.f4 false true false false) := by
  refine returnsInHanded_of_change (C := Try.checked) own0 started (by kernel_rfl) Try.func4
    (ChangeSpec.witness6 (enc := enc) (C := Try.checked) false ⟨#[], #[.agg #[.int .i64 0, .int .i64 0, .slice none 0 0, .slice none 0 0, .slice none 0 0], .int .i64 0], []⟩ 8 (by kernel_rfl) (by kernel_rfl) (by kernel_rfl) (by kernel_rfl)) ?_
  intro W base args ds gs before hval hW _ _
  have hW' := hW
  obtain ⟨p, q, hA0, hV, rfl, _, _⟩ := hW
  have hA : DataW.TrodAll enc Try.prog W 0 (fun _ => true) true Try.f4.params.toList args.toList ds p := hA0
  rw [Try.params4] at hA hval
  obtain ⟨v0, v1, d0, d1, p0, p1, rfl, rfl, rfl, h0, h1⟩ := trodAll_two hA
  obtain ⟨A1, A2, A3, c1, c2, c3, s, rfl, hs, _⟩ := open_snap (hval 0 29 v0 rfl rfl) h0
  obtain ⟨n, rfl, _, _, wn⟩ := open_int Try.underlying3 (hval 1 3 v1 rfl rfl) h1
  have hn : -9223372036854775808 ≤ n ∧ n ≤ 9223372036854775807 := by simpa [Lit.wf, IntKind.min, IntKind.max, IntKind.signed, IntKind.bits] using wn
  refine law_contract (K := 4) (spec := Rows.snapTurnedSpec) rfl (by kernel_rfl) rd4 ?_ hW' (turn_walk A1 A2 A3 c1 c2 c3 s n W hs hn.1 hn.2)
  intro ds hl
  rw [Try.params4] at hl
  match ds, hl with
  | [a, b], _ => exact ⟨rfl, rfl, rfl⟩
end Go.Proofs.Ytapgknaoieojkaa.Toll
namespace Go.Proofs.Ytapgknaoieojkaa
open Go.RowKit Go.ChangeShapes Go.WideShapes Go.ChangeAt
theorem snapTurned_holds : Rows.SnapTurnedSaid :=
  OpenClaim.holds_of_wide 4 Try.f4 rfl rfl rfl rfl rfl rfl rfl ⟨rfl, rfl, rfl, rfl, rfl⟩ rfl rfl rfl rfl rfl (by kernel_rfl) Try.func4 (by kernel_rfl)
    (of_decide_eq_true (by kernel_rfl)) (by unfold Func.isWrapper; first | (rw [if_pos (by decide +kernel)]; kernel_rfl) | (rw [if_neg (by decide +kernel)]; exact ⟨rfl, rfl⟩))
    (fun os started H enc _ => Toll.turn_lifted os started H enc)
#print axioms snapTurned_holds
end Go.Proofs.Ytapgknaoieojkaa
