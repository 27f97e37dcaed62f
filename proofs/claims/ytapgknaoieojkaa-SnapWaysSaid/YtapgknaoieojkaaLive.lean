/- Walk: of, live. -/
import Derived.Test.YtapgknaoieojkaaSame
import Derived.Test.YtapgknaoieojkaaPlainD
import Derived.Lib.SlBytesConst
set_option linter.unusedVariables false
set_option linter.unusedSimpArgs false
set_option maxRecDepth 100000
namespace Go.Proofs.Ytapgknaoieojkaa.Toll
open Go.RowKit
/-- A small snapshot. -/
def ofS (n : Nat) : SnapV := ⟨n, 1, [1], [], [120]⟩
def OfPost (s : SnapV) (w : World) (e : Ending) (w' : World) : Prop := ∃ A1 A2 A3 c1 c2 c3, e = .returned (snapVal A1 A2 A3 c1 c2 c3 s) ∧ SnapAt w' A1 A2 A3 s ∧ SnapFr w.heap.size A1 A2 A3 s ∧ Below w.heap.size w w'
theorem rd_b1 (w : World) (b : UInt8) (x : Int) (h : (b.toNat : Int) = x) (t : TypeId) : RdB (w.alloc (.cells #[.int .u8 x] t)) (some ⟨w.heap.size, 0, none⟩) [b] := fun j hj => by
  subst h
  simp at hj
  subst hj
  exact ⟨_, rfl, by rw [own_zero_add]; simp⟩
theorem conv_const (W : World) (g : Nat) (C : Array Value) (n c : Nat) (hg : g = W.heap.size) : (convert tB tB (.slice (some ⟨g, 0, none⟩) n c)).run Try.prog (W.alloc (.cells C uB)) = .ok (.slice (some ⟨g, 0, none⟩) n c) (W.alloc (.cells C uB (C.size, C.size + 1))) := by
  subst hg
  exact Lib.run_convert_bytes_const W tB uB C n c Try.underlying27 Try.underlying5
theorem rd_mark (W : World) (C : Array Value) (t : TypeId) (fr : Nat × Nat) (xs : List UInt8) (h : C.toList = u8s xs) : RdB (W.alloc (.cells C t fr)) (some ⟨W.heap.size, 0, none⟩) xs := by
  refine RdB.of_cells (fun j v hv => ?_)
  rw [own_zero_add]
  simp only [World.cell?, heap_alloc_new, Option.bind_some]
  rw [← h] at hv
  simpa using hv
theorem of_any (n : Nat) (w : World) :
    Calls Try.prog 24 #[.int .i64 (n : Int)] w (OfPost (ofS n) w) := by
  have kc := conv_const ((w.alloc (.cells #[.int .i64 0, .int .i64 0, .slice none 0 0, .slice none 0 0, .slice none 0 0] 29)).alloc (.cells #[.int .i64 1] 3)) (w.heap.size + 1 + 1) #[.int .u8 120] 1 1 (by simp)
  go_enter Try.func24, Try.ntmps24
  go_wp2_with fail
  refine bodyPost_ret (v := snapVal (some ⟨w.heap.size + 1, 0, none⟩) none (some ⟨w.heap.size + 1 + 1, 0, none⟩) 1 0 1 (ofS n)) (by simp [results, Try.results24, go_sem, ofS]) rfl ?_
  refine ⟨_, _, _, _, _, _, rfl, ⟨⟨?_, RdV.nil _ _, by simp [ofS], by simp [ofS]⟩, ?_, by simp [ofS]⟩, ⟨fun _ ad e => by cases e; simp, fun h => by simp [ofS] at h, fun _ ad e => by cases e; simp; omega⟩, ?_⟩
  · have h1 := rdI_one (w.alloc (.cells #[.int .i64 (n : Int), .int .i64 1, .slice (some ⟨w.heap.size + 1, 0, none⟩) 1 1, .slice none 0 0, .slice (some ⟨w.heap.size + 1 + 1, 0, none⟩) 1 1] 29)) 1 3
    rw [show (w.alloc (.cells #[.int .i64 (n : Int), .int .i64 1, .slice (some ⟨w.heap.size + 1, 0, none⟩) 1 1, .slice none 0 0, .slice (some ⟨w.heap.size + 1 + 1, 0, none⟩) 1 1] 29)).heap.size = w.heap.size + 1 by simp] at h1
    exact h1.below ((Below.refl _ _).alloc (Nat.le_refl _) _)
  · have h1 := rd_mark ((w.alloc (.cells #[.int .i64 (n : Int), .int .i64 1, .slice (some ⟨w.heap.size + 1, 0, none⟩) 1 1, .slice none 0 0, .slice (some ⟨w.heap.size + 1 + 1, 0, none⟩) 1 1] 29)).alloc (.cells #[.int .i64 1] 3)) #[.int .u8 120] uB (1, 2) [120] rfl
    rw [show ((w.alloc (.cells #[.int .i64 (n : Int), .int .i64 1, .slice (some ⟨w.heap.size + 1, 0, none⟩) 1 1, .slice none 0 0, .slice (some ⟨w.heap.size + 1 + 1, 0, none⟩) 1 1] 29)).alloc (.cells #[.int .i64 1] 3)).heap.size = w.heap.size + 1 + 1 by simp] at h1
    exact h1
  · exact (((Below.refl _ _).alloc (Nat.le_refl _) _).alloc (by simp) _).alloc (by simp; omega) _
/-! what live's disk is -/
def liveX (n : Nat) : List UInt8 := frameOf (snapBody (ofS n))
theorem of_put (n : Nat) (h0 : 1 ≤ n) (h : n ≤ 1099511627776) : sputF (ofS n) = .ok (liveX n) := by
  unfold sputF
  rw [if_neg, if_neg (by simp [ofS])]
  · rfl
  · have hr : rightB [1] [] = true := by decide
    simp only [ofS, hr]
    simp
    omega
theorem liveX_len (n : Nat) (h : n ≤ 1099511627776) : (liveX n).length ≤ 60 := by
  have h1 := numB_length n h
  have h2 : (memBytes [1] []).length ≤ 20 := by
    have h3 := numB_length 1 (by omega)
    have h4 := numB_length 0 (by omega)
    simp [memBytes, numsB]
    omega
  have h3 := numB_length 1 (by omega)
  have h5 := numB_length (memBytes [1] []).length (by omega)
  unfold liveX
  rw [frameOf_length]
  simp [snapBody, ofS]
  omega
def liveF (n : Nat) : ByteArray × FileP := (nameK n, ⟨liveX n, liveX n, true, []⟩)
def n3 : NIdx := ⟨3, by decide⟩
def n12 : NIdx := ⟨12, by decide⟩
theorem live1 : saveD 1000 [] (ofS 3) = (0, [liveF 3]) := by
  have hl := liveX_len 3 (by omega)
  rw [saveD_ok 1000 [] (ofS 3) (liveX 3) (of_put 3 (by omega) (by omega)) (by decide) (by simp [delF, usedF]; omega)]
  have e : putF (delF [] tmpK) (nameK (ofS 3).idx.toNat) ⟨liveX 3, liveX 3, true, []⟩ = [liveF 3] := rfl
  have hf : fileOf (nameK 3).data.toList = some n3 := fileOf_nameF n3 (by decide)
  rw [e]
  simp only [List.filter_cons, List.filter_nil, liveF, keepB, hf]
  rfl
theorem live2 : saveD 1000 [liveF 3] (ofS 12) = (0, [liveF 12]) := by
  have hl := liveX_len 3 (by omega)
  have hl2 := liveX_len 12 (by omega)
  have hd : delF [liveF 3] tmpK = [liveF 3] := delF_none (fun p hp => by
    have : p = liveF 3 := by simpa using hp
    rw [this]
    exact fun e => tmpK_ne n3 (by decide) e.symm)
  rw [saveD_ok 1000 [liveF 3] (ofS 12) (liveX 12) (of_put 12 (by omega) (by omega)) (by rw [hd]; simp) (by rw [hd]; simp [usedF, liveF]; omega), hd]
  have e : putF [liveF 3] (nameK (ofS 12).idx.toNat) ⟨liveX 12, liveX 12, true, []⟩ = [liveF 3, liveF 12] := putF_new (D := [liveF 3]) (fun p hp => by
    have : p = liveF 3 := by simpa using hp
    rw [this]
    intro e
    have := nameK_inj (a := n3) (b := n12) (by decide) (by decide) e
    revert this
    decide)
  have hf3 : fileOf (nameK 3).data.toList = some n3 := fileOf_nameF n3 (by decide)
  have hf12 : fileOf (nameK 12).data.toList = some n12 := fileOf_nameF n12 (by decide)
  rw [e]
  simp only [List.filter_cons, List.filter_nil, liveF, keepB, hf3, hf12]
  rfl
theorem live3 : loadF [liveF 12] = .ok (ofS 12) := by
  refine loadF_best (n := n12) (List.pairwise_singleton _ _) (by decide) (List.mem_singleton.2 rfl) (sgetF_sputF (of_put 12 (by omega) (by omega))) rfl ?_
  intro p hp m hm
  have : p = liveF 12 := by simpa using hp
  rw [this] at hm
  have hf12 : fileOf (nameK 12).data.toList = some n12 := fileOf_nameF n12 (by decide)
  simp only [liveF, hf12] at hm
  injection hm with hm
  rw [← hm]
  exact Nat.le_refl _
theorem live4 : namesF [liveF 12] = [[115, 110, 97, 112, 45, 49, 50]] := by
  unfold namesF
  rw [List.map_singleton, List.mergeSort_singleton]
  decide
theorem live5 : pcs [97, 98, 99] 2 2 = [pieceF [97, 98, 99] 0 2, [3, 2, 99]] := by
  simp [pcs, List.range_succ, pieceF, numB_lt]
def bx : List UInt8 := [97, 98, 99]
theorem pcs_two {b : List UInt8} {k : Nat} (hb : b.length = 3) (h1 : 1 ≤ k) (h2 : k = 1 ∨ (k - 1) * 2 < b.length) (h3 : b.length ≤ k * 2) : k = 2 := by
  rw [hb] at h2 h3
  omega
set_option maxHeartbeats 1000000 in
theorem live_any (w : World) :
    Calls Try.prog 12 #[] w fun e w' => e = .returned (.bool true) ∧ Below w.heap.size w w' := by
  go_enter Try.func12, Try.ntmps12
  go_wp2_with fail
  refine (New_any 1000 w (by decide) (by decide)).mono ?_
  rintro e w1 ⟨d, F, rfl, din, b1, hF⟩
  have DIN := Lib.hid (show DiskIn F w1 d 1000 [] from din)
  have B1 := Lib.hid b1
  have HF := Lib.hid hF
  clear din b1 hF
  go_wp2_with fail
  refine (of_any 3 w1).mono ?_
  rintro e w2 ⟨A1, A2, A3, c1, c2, c3, rfl, sat, sfr, b2⟩
  have SAT := Lib.hid sat
  have B2 := Lib.hid b2
  clear sat sfr b2
  go_wp2_with fail
  refine (Save_any w2 (DIN.out.below B2.out) A1 A2 A3 c1 c2 c3 (ofS 3) SAT.out).mono ?_
  rw [live1]
  intro e w3 hp
  obtain ⟨F3, rfl, ds3⟩ := hp.ds
  have DS3 := Lib.hid ds3
  clear hp ds3
  go_wp2_with fail
  refine (of_any 12 w3).mono ?_
  rintro e w4 ⟨E1, E2, E3, e1, e2, e3, rfl, sat, sfr, b4⟩
  have SAT4 := Lib.hid sat
  have B4 := Lib.hid b4
  clear sat sfr b4
  go_wp2_with fail
  refine (Save_any w4 (DS3.out.din.below B4.out) E1 E2 E3 e1 e2 e3 (ofS 12) SAT4.out).mono ?_
  rw [live2]
  intro e w5 hp
  obtain ⟨F5, rfl, ds5⟩ := hp.ds
  have DS5 := Lib.hid ((DS3.out.below B4.out).trans ds5)
  have hb5 : Below w.heap.size w w5 := (B1.out.trans (B2.out.mono B1.out.size)).trans (DS5.out.keep.below (fun i _ hi => HF.out i hi) (Nat.le_trans B1.out.size B2.out.size))
  have HB5 := Lib.hid hb5
  clear hp ds5 hb5
  go_wp2_with fail
  refine (Load_any w5 DS5.out.din).mono ?_
  rw [live3]
  rintro e w6 ⟨b6, G1, G2, G3, g1, g2, g3, rfl, sat6, -⟩
  have B6 := Lib.hid b6
  have HB6 := Lib.hid (HB5.out.trans (b6.mono HB5.out.size))
  have DIN6 := Lib.hid (DS5.out.din.below b6)
  clear sat6 b6
  have kc := conv_const (w6.alloc (.cells #[.int .i64 (ofS 12).idx, .int .i64 (ofS 12).term, .slice G1 (ofS 12).V.length g1, .slice G2 (ofS 12).L.length g2, .slice G3 (ofS 12).data.length g3] 29)) (w6.heap.size + 1) #[.int .u8 97, .int .u8 98, .int .u8 99] 3 3 (by simp)
  have kS := Blk.new w6 #[.int .i64 (ofS 12).idx, .int .i64 (ofS 12).term, .slice G1 (ofS 12).V.length g1, .slice G2 (ofS 12).L.length g2, .slice G3 (ofS 12).data.length g3] 29
  have hrd := rd_mark (w6.alloc (.cells #[.int .i64 (ofS 12).idx, .int .i64 (ofS 12).term, .slice G1 (ofS 12).V.length g1, .slice G2 (ofS 12).L.length g2, .slice G3 (ofS 12).data.length g3] 29)) #[.int .u8 97, .int .u8 98, .int .u8 99] uB (3, 4) bx rfl
  have b7 : Below w6.heap.size w6 ((w6.alloc (.cells #[.int .i64 (ofS 12).idx, .int .i64 (ofS 12).term, .slice G1 (ofS 12).V.length g1, .slice G2 (ofS 12).L.length g2, .slice G3 (ofS 12).data.length g3] 29)).alloc (.cells #[.int .u8 97, .int .u8 98, .int .u8 99] uB (3, 4))) := ((Below.refl _ _).alloc (Nat.le_refl _) _).alloc (by simp) _
  rw [show (w6.alloc (.cells #[.int .i64 (ofS 12).idx, .int .i64 (ofS 12).term, .slice G1 (ofS 12).V.length g1, .slice G2 (ofS 12).L.length g2, .slice G3 (ofS 12).data.length g3] 29)).heap.size = w6.heap.size + 1 by simp] at hrd
  have K7 := Lib.hid (kS.alloc (.cells #[.int .u8 97, .int .u8 98, .int .u8 99] uB (3, 4)))
  have HRD := Lib.hid hrd
  have B7 := Lib.hid b7
  clear hrd kS b7
  go_wp2_with fail
  refine (Pieces_ok (some ⟨w6.heap.size + 1, 0, none⟩) 3 bx 2 _ (by decide) (by decide) (by decide) (by decide) (by decide) HRD.out).mono ?_
  rintro e w8 ⟨k, v, k1, k2, k3, rfl, ⟨vs, ho, hr, b8⟩⟩
  obtain rfl := pcs_two rfl k1 k2 k3
  have K8 := Lib.hid (K7.out.below b8)
  have b68 : Below w6.heap.size w6 w8 := B7.out.trans (b8.mono B7.out.size)
  have B68 := Lib.hid b68
  rw [show pcs bx 2 2 = [pieceF bx 0 2, [3, 2, 99]] from live5] at hr
  obtain ⟨v0, vs1, rfl, _, v1, vs2, rfl, h1, rfl⟩ := hr
  obtain ⟨P1, p1, rfl, hp1, _⟩ := h1
  obtain ⟨V1, q1, rfl, hv1, _⟩ := ho.form
  obtain ⟨ad, rfl, hc1⟩ := hv1 1 (by simp)
  have HC1 := Lib.hid hc1
  have HP1 := Lib.hid hp1
  clear k1 k2 k3 b8 b68 ho hv1 hc1 hp1 kc
  have hk0 := (K8.out.cell 0)
  simp only [List.getElem?_toArray, List.getElem?_cons_zero] at hk0
  have hi : ((ofS 12).idx == 12) = true := by decide
  go_wp2_with fail
  refine (Names_any w8 (DIN6.out.below B68.out)).mono ?_
  rw [live4]
  rintro e w9 ⟨v9, rfl, ho9, b9⟩
  obtain ⟨A9, c9, rfl, h9, _⟩ := (OwV.form (e := tStr) (size := 1) (.inl ho9))
  have h9a := h9.below ((Below.refl _ _).alloc (Nat.le_refl _) (.cells #[.string ⟨#[115, 110, 97, 112, 45, 49, 50]⟩] tStr))
  have h9b : RdV (w9.alloc (.cells #[.string ⟨#[115, 110, 97, 112, 45, 49, 50]⟩] tStr)) (some ⟨w9.heap.size, 0, none⟩) (strs [[115, 110, 97, 112, 45, 49, 50]]) := rd_oneV w9 (.string ⟨#[115, 110, 97, 112, 45, 49, 50]⟩) tStr
  have H9A := Lib.hid h9a
  have H9B := Lib.hid h9b
  have B9 := Lib.hid (B68.out.trans (b9.mono B68.out.size))
  have B89 := Lib.hid b9
  clear ho9 h9 h9a h9b b9 hk0
  go_wp2_with fail
  refine (SameTexts_eq A9 (some ⟨w9.heap.size, 0, none⟩) c9 1 [[115, 110, 97, 112, 45, 49, 50]] _ (by decide) H9A.out H9B.out).mono ?_
  intro e w10 hq
  obtain ⟨rfl, b10⟩ := hq.below
  have b610 : Below w6.heap.size w6 w10 := (B9.out.alloc B9.out.size _).trans (b10.mono (by have := B9.out.size; simp; omega))
  have b810 : Below w8.heap.size w8 w10 := (B89.out.alloc B89.out.size _).trans (b10.mono (by have := B89.out.size; simp; omega))
  have HC2 := Lib.hid ((Keeps.of_new (S := fun _ => False) b810).cell HC1.out id)
  have HP2 := Lib.hid (HP1.out.below b810)
  have BF := Lib.hid (HB6.out.trans (b610.mono HB6.out.size))
  obtain ⟨ab, ao, asp⟩ := ad
  have hcl : w10.cell? ((⟨ab, ao, asp⟩ : Addr).add 1) = some (.slice P1 3 p1) := HC2.out
  have hcv := conv_str P1 p1 [3, 2, 99] w10 HP2.out
  have hcv' : (convert tB tStr (.slice P1 3 p1)).run Try.prog w10 = .ok (.string ⟨#[3, 2, 99]⟩) w10 := hcv
  have hcl2 : w10.cell? ⟨ab, ao + 1, none⟩ = some (.slice P1 3 p1) := by simpa [Addr.add] using hcl
  clear hq b10 b610 b810 hcv hcl
  go_wp2_with fail
  go_ret
  exact ⟨rfl, BF.out⟩
end Go.Proofs.Ytapgknaoieojkaa.Toll
