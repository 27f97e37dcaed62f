/- Walk: snap.Put. -/
import Derived.Test.YtapgknaoieojkaaSnapR
import Derived.Test.YtapgknaoieojkaaFrameN
import Derived.Deep.RegionHeld3
import Derived.Deep.DeepCutAuto
set_option linter.unusedVariables false
set_option linter.unusedSimpArgs false
set_option maxRecDepth 100000
namespace Go.Proofs.Ytapgknaoieojkaa.Toll
open Go.RowKit
/-- A snapshot as it lies. -/
structure SnapV where
  idx : Int
  term : Int
  V : List Int
  L : List Int
  data : List UInt8
def snapBody (s : SnapV) : List UInt8 := numB s.idx.toNat ++ numB s.term.toNat ++ numB (memBytes s.V s.L).length ++ memBytes s.V s.L ++ numB s.data.length ++ s.data
/-- snap.Put. -/
def sputF (s : SnapV) : Except Int (List UInt8) :=
  if s.idx < 1 ∨ 1099511627776 < s.idx ∨ s.term < 1 ∨ 1099511627776 < s.term ∨ rightB s.V s.L = false then .error 2
  else if 16384 < s.data.length then .error 6
  else .ok (frameOf (snapBody s))
structure SnapAt (w : World) (A1 A2 A3 : Option Addr) (s : SnapV) : Prop where
  mem : MemAt w A1 A2 s.V s.L
  data : RdB w A3 s.data
  dl : s.data.length ≤ 9223372036854775807
theorem SnapAt.below {w w' : World} {A1 A2 A3 : Option Addr} {s : SnapV} (h : SnapAt w A1 A2 A3 s) (k : Below w.heap.size w w') : SnapAt w' A1 A2 A3 s := ⟨h.mem.below k, h.data.below k, h.dl⟩
abbrev snapVal (A1 A2 A3 : Option Addr) (c1 c2 c3 : Nat) (s : SnapV) : Value := .agg #[.int .i64 s.idx, .int .i64 s.term, .slice A1 s.V.length c1, .slice A2 s.L.length c2, .slice A3 s.data.length c3]
theorem memBytes_length {V L : List Int} (h : rightB V L = true) : (memBytes V L).length ≤ 120 := by
  have hs := rightB_spec h
  have h1 := numsB_length V (fun x hx => by have := hs.1 x hx; omega)
  have h2 := numsB_length L (fun x hx => by have := hs.2.1 x hx; omega)
  have h3 := numB_length V.length (by omega)
  have h4 := numB_length L.length (by omega)
  simp [memBytes]
  omega
theorem frameOf_length (b : List UInt8) : (frameOf b).length = 8 + b.length := by
  unfold frameOf be4
  simp
  omega
set_option maxHeartbeats 2000000 in
theorem SPut_ok (A1 A2 A3 : Option Addr) (c1 c2 c3 : Nat) (s : SnapV) (w : World) (hs : SnapAt w A1 A2 A3 s) (h1 : 1 ≤ s.idx) (h2 : s.idx ≤ 1099511627776) (h3 : 1 ≤ s.term) (h4 : s.term ≤ 1099511627776) (hr : rightB s.V s.L = true) (hd : s.data.length ≤ 16384) :
    Calls Try.prog 9 #[snapVal A1 A2 A3 c1 c2 c3 s] w fun e w' => ∃ g, w.heap.size ≤ g ∧ e = .returned (.tuple #[.slice (some ⟨g, 0, none⟩) (frameOf (snapBody s)).length (frameOf (snapBody s)).length, .int .i64 0]) ∧ w'.heap[g]? = some (rowB (frameOf (snapBody s))) ∧ Below w.heap.size w w' := by
  obtain ⟨idx, term, V, L, data⟩ := s
  simp only at *
  obtain ⟨hm, hdat, hdl⟩ := hs
  have HM := Lib.hid hm
  have HD := Lib.hid hdat
  have HR := Lib.hid hr
  have hml := memBytes_length hr
  simp only at hml hdl
  clear hm hdat hr
  obtain ⟨i, rfl⟩ := Int.eq_ofNat_of_zero_le (show 0 ≤ idx by omega)
  obtain ⟨t, rfl⟩ := Int.eq_ofNat_of_zero_le (show 0 ≤ term by omega)
  have k1 : decide ((i : Int) < 1) = false := by simp; omega
  have k2 : decide (1099511627776 < (i : Int)) = false := by simp; omega
  have k3 : decide ((t : Int) < 1) = false := by simp; omega
  have k4 : decide (1099511627776 < (t : Int)) = false := by simp; omega
  go_enter Try.func9, Try.ntmps9
  go_wp2_with fail
  refine (MPut_ok A1 A2 c1 c2 V L _ (HM.out.below ((Below.refl _ _).alloc (Nat.le_refl _) _)) HR.out).mono ?_
  rintro e w1 ⟨v1, rfl, o1, b1⟩
  obtain ⟨X1, cx1, rfl, hx1⟩ := o1.val
  have kb : Blk w1 w.heap.size #[.int .i64 i, .int .i64 t, .slice A1 V.length c1, .slice A2 L.length c2, .slice A3 data.length c3] 29 := (Blk.new _ _ _).below b1
  have q1 := kb.cell
  have hb1 : Below w.heap.size w w1 := ((Below.refl _ _).alloc (Nat.le_refl _) _).trans (b1.mono (by simp))
  have hsz1 : w.heap.size < w1.heap.size := by have := b1.size; simp at this; omega
  have KB := Lib.hid kb
  have HB1 := Lib.hid hb1
  have O1 := Lib.hid o1
  have HX1 := Lib.hid hx1
  clear kb hb1 o1 hx1 b1
  go_wp2_with fail
  have c0 : w1.cell? ⟨w.heap.size, 0, none⟩ = some (.int .i64 (i : Int)) := q1 0
  have c1' : w1.cell? ⟨w.heap.size, 1, none⟩ = some (.int .i64 (t : Int)) := q1 1
  have hn1 := numB_length i (by omega)
  have hn2 := numB_length t (by omega)
  have hn3 := numB_length (memBytes V L).length (by omega)
  have hn4 := numB_length data.length (by omega)
  have h2' : i ≤ 1099511627776 := by omega
  have h4' : t ≤ 1099511627776 := by omega
  have arm1 := num_any w1.heap.size (.slice none 0 0) [] i w1.drew (OwB.nil _ _) h2' (Nat.zero_le _) (Nat.le_refl _)
  go_region_held3 (fun W => W.cell? ⟨w.heap.size, 0, none⟩ = some (.int .i64 (i : Int)) ∧ W.cell? ⟨w.heap.size, 1, none⟩ = some (.int .i64 (t : Int)))
    (first | (refine ⟨?_, ?_⟩ <;> assumption))
    (first
      | (go_at_call_of 29 (Value.slice none 0 0); refine arm1.mono ?_; rintro e w2 ⟨v2, rfl, o2, g2⟩; have d0 := g2.keeps.cell c0 (fun h => Nat.not_le.2 hsz1 h.1); have d1 := g2.keeps.cell c1' (fun h => Nat.not_le.2 hsz1 h.1))
      | (go_at_call 29; refine (num_any w1.heap.size v2 _ t _ o2 h4' (Nat.le_trans hn1 (by decide)) (g2.keeps.size)).mono ?_; rintro e w3 ⟨v3, rfl, o3, g3⟩; have d0' := g3.keeps.cell d0 (fun h => Nat.not_le.2 hsz1 h.1); have d1' := g3.keeps.cell d1 (fun h => Nat.not_le.2 hsz1 h.1)))
  have hb3 : Below w1.heap.size w1 w3 := ((Below.refl w1.heap.size w1).drew.trans (g2.base (Nat.le_refl _) (Nat.le_refl _))).trans (g3.base g2.keeps.size (Nat.le_refl _))
  have k3 : Blk w3 w.heap.size #[.int .i64 i, .int .i64 t, .slice A1 V.length c1, .slice A2 L.length c2, .slice A3 data.length c3] 29 := KB.out.below hb3
  rw [List.nil_append] at o3
  have O3 := Lib.hid o3
  have HB3 := Lib.hid hb3
  have hsz3 := hb3.size
  have K3 := Lib.hid k3
  clear d0 d1 d0' d1' c0 c1' o2 g2 g3 o3 hb3 q1 k3
  go_wp2_with fail
  refine (num_any w1.heap.size v3 _ (memBytes V L).length _ O3.out (by omega) (by simp; omega) hsz3).mono ?_
  rintro e w4 ⟨v4, rfl, o4, g4⟩
  have HB4 := Lib.hid (HB3.out.trans (g4.base hsz3 (Nat.le_refl _)))
  have O4 := Lib.hid o4
  have hsz4 := HB4.out.size
  clear o4 g4
  go_wp2_with (at_builtin; refine wpList_appB w1.heap.size rfl (.tmp 56) (.tmp 57) rfl _ _ (memBytes V L) _ _ _ rfl rfl rfl O4.out (HX1.out.below HB4.out) ?c3 hsz4 ?c5)
  case c3 => simp; omega
  case c5 =>
    intro v5 w5 o5 g5
    obtain ⟨bs5, hbs5⟩ : ∃ b, b = numB i ++ numB t ++ numB (memBytes V L).length ++ memBytes V L := ⟨_, rfl⟩
    have e5 : OwB w1.heap.size w5 v5 bs5 := by rw [hbs5]; simpa using o5
    have hl5 : bs5.length ≤ 200 := by rw [hbs5]; simp; omega
    have HBS5 := Lib.hid hbs5
    clear hbs5 o5
    have o5 := e5
    clear e5
    have hb5 := HB4.out.trans (g5.base hsz4 (Nat.le_refl _))
    have HB5 := Lib.hid hb5
    have O5 := Lib.hid o5
    have hsz5 := hb5.size
    have k5 := KB.out.below hb5
    have c4 : w5.cell? ⟨w.heap.size, 4, none⟩ = some (.slice A3 data.length c3) := k5.cell 4
    clear o5 g5 hb5
    have K5 := Lib.hid k5
    clear k5
    go_wp2_with fail
    have hdl' : data.length ≤ 1099511627776 := by omega
    have hlen5 : bs5.length ≤ 1000000 := by omega
    have hlen6 : (bs5 ++ numB data.length).length + data.length ≤ 140737488355328 := by simp; omega
    have armA := num_any w1.heap.size v5 _ data.length w5.drew O5.out hdl' hlen5 hsz5
    have hB6 : ∀ (w6 : World) (v6 : Value), Grow w1.heap.size w5.drew v5 w6 v6 → RdB w6 A3 data ∧ w1.heap.size ≤ w6.heap.size ∧ w6.cell? ⟨w.heap.size, 4, none⟩ = some (.slice A3 data.length c3) := fun w6 v6 g6 =>
      ⟨HD.out.below (HB1.out.trans ((HB5.out.drew.trans (g6.base hsz5 (Nat.le_refl _))).mono (Nat.le_of_lt hsz1))), Nat.le_trans hsz5 g6.keeps.size, g6.keeps.cell c4 (fun h => Nat.not_le.2 hsz1 h.1)⟩
    have HB6 := Lib.hid hB6
    have hB7 : ∀ (w6 w7 : World) (v6 v7 : Value), w6.cell? ⟨w.heap.size, 4, none⟩ = some (.slice A3 data.length c3) → Grow w1.heap.size w6 v6 w7 v7 → w7.cell? ⟨w.heap.size, 4, none⟩ = some (.slice A3 data.length c3) := fun w6 w7 v6 v7 d4 g7 => g7.keeps.cell d4 (fun h => Nat.not_le.2 hsz1 h.1)
    have HB7 := Lib.hid hB7
    clear hB6 hB7
    go_region_held3 (fun W => W.cell? ⟨w.heap.size, 4, none⟩ = some (.slice A3 data.length c3))
      (first | assumption)
      (first
        | (go_at_call 29; refine armA.mono ?_; rintro e w6 ⟨v6, rfl, o6, g6⟩; have d4 := (HB6.out w6 v6 g6).2.2)
        | (refine step_appB w1.heap.size rfl (.tmp 63) (.tmp 65) rfl v6 _ data A3 data.length c3 rfl rfl rfl o6 (HB6.out w6 v6 g6).1 hlen6 (HB6.out w6 v6 g6).2.1 ?_; intro v7 w7 o7 g7; have d4' := HB7.out w6 w7 v6 v7 d4 g7))
    have hb7 : Below w.heap.size w w7 := HB1.out.trans (((HB5.out.drew.trans (g6.base hsz5 (Nat.le_refl _))).trans (g7.base (Nat.le_trans hsz5 g6.keeps.size) (Nat.le_refl _))).mono (Nat.le_of_lt hsz1))
    have HB8 := Lib.hid hb7
    have he : bs5 ++ numB data.length ++ data = snapBody ⟨i, t, V, L, data⟩ := by
      rw [HBS5.out]
      simp [snapBody]
    have hbl : (snapBody ⟨i, t, V, L, data⟩).length ≤ 65536 := by rw [← he]; simp; omega
    rw [he] at o7
    obtain ⟨A7, c7, rfl, r7⟩ := o7.val
    have R7 := Lib.hid r7
    have hsz7 := hb7.size
    clear o7 g7 r7 hb7 o6 g6 d4 d4' c4 he
    generalize hbody : snapBody ⟨i, t, V, L, data⟩ = body at *
    have HBODY := Lib.hid hbody
    clear hbody
    go_wp2_with fail
    refine (frame_ok A7 c7 body w7 hbl R7.out).mono ?_
    rintro e w8 ⟨rfl, h8, b8⟩
    have H8 := Lib.hid h8
    have B8 := Lib.hid b8
    clear h8 b8
    go_wp2_with fail
    go_ret2
    rw [HBODY.out, frameOf_length]
    exact ⟨w7.heap.size, hsz7, rfl, H8.out, HB8.out.trans (B8.out.mono hsz7)⟩
end Go.Proofs.Ytapgknaoieojkaa.Toll
