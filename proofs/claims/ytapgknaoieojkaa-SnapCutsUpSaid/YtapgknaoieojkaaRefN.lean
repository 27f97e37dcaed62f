/- Walks: tollgateref02.Number, tollgateref07.add, tollgateref07.Pieces. -/
import Derived.Test.YtapgknaoieojkaaLive
set_option linter.unusedVariables false
set_option linter.unusedSimpArgs false
set_option maxRecDepth 100000
namespace Go.Proofs.Ytapgknaoieojkaa.Toll
open Go.RowKit
theorem zero_own (w : World) (t : TypeId) : OwB w.heap.size (w.alloc (.cells #[] t)) (.slice (some ⟨w.heap.size, 0, none⟩) 0 0) [] := OwB.zero _ _ _
set_option maxHeartbeats 1000000 in
theorem Number02_ok (n : Nat) (w : World) (hn : n ≤ 1099511627776) :
    Calls Try.prog 62 #[.int .i64 (n : Int)] w fun e w' => ∃ v', e = .returned (.tuple #[v', .int .i64 0]) ∧ OwB w.heap.size w' v' (numB n) ∧ Below w.heap.size w w' := by
  have h0 : decide ((n : Int) < 0) = false := by simp
  have h1 : decide (1099511627776 < (n : Int)) = false := by simp; omega
  go_enter Try.func62, Try.ntmps62
  go_wp2_with fail
  go_loopw [0, 4] (fun i q wr => ∃ (m : Nat) (ys : List UInt8), i = .int .i64 (m : Int) ∧ m ≤ 1099511627776 ∧ OwB w.heap.size wr q ys ∧ Hid (numB n = ys ++ numB m) ∧ ys.length ≤ 10 ∧ Hid (Below w.heap.size w wr)) (fun i _ _ => (intOf i).toNat)
  case atStart => exact ⟨n, [], rfl, hn, OwB.zero _ _ _, rfl, by simp, (Below.refl _ _).alloc (Nat.le_refl _) _⟩
  case round =>
    obtain ⟨m, ys, rfl, hm, hq, he, hyl, HB⟩ := hrel
    have HQ := Lib.hid hq
    obtain ⟨A1, c1, rfl, _⟩ := hq.form
    clear hq
    have hsz := HB.out.size
    by_cases h : 128 ≤ m
    · have hd : ((m : Int) / 128 == 0) = false := by simp; omega
      have hb1 : (((UInt8.ofNat (m % 128 + 128)).toNat : Nat) : Int) = (m : Int) % 128 + 128 := by rw [byte_of _ (by omega)]; omega
      have HB1 := Lib.hid hb1
      have hyl2 : ys.length + 1 ≤ 10 := by
        have h1 := numB_length n hn
        have h2 := numB_pos m
        rw [he.out, List.length_append] at h1
        omega
      clear hb1
      go_wp2_with (at_builtin; refine wpList_appB w.heap.size rfl (.tmp 24) (.tmp 28) rfl _ ys [UInt8.ofNat (m % 128 + 128)] _ 1 1 rfl rfl rfl ?c1 ?c2 ?c3 ?c4 ?c5)
      case c1 => exact HQ.out.below ((Below.refl _ _).alloc (Nat.le_refl _) _)
      case c2 => exact rd_one' _ _ _ HB1.out
      case c3 => simp; omega
      case c4 => simp; omega
      case c5 =>
        intro v1 w1 h1 g1
        have HG1 : Hid (Below w.heap.size w w1) := (HB.out.alloc hsz _).trans (g1.base (by simp; omega) (Nat.le_refl _))
        have H1 := Lib.hid h1
        clear h1 g1
        go_wp2_with fail
        go_roundw
        case rel =>
          refine ⟨m / 128, _, by go_num, by omega, H1.out, ?_, by simp; omega, HG1⟩
          show _ = _
          rw [he.out, numB_ge h]
          simp
        case measure => simp [intOf]; omega
    · have hd : ((m : Int) / 128 == 0) = true := by simp; omega
      have hb1 : (((UInt8.ofNat m).toNat : Nat) : Int) = (m : Int) % 128 := by rw [byte_of _ (by omega)]; omega
      have HB1 := Lib.hid hb1
      clear hb1
      go_wp2_with (at_builtin; refine wpList_appB w.heap.size rfl (.tmp 19) (.tmp 22) rfl _ ys [UInt8.ofNat m] _ 1 1 rfl rfl rfl ?c1 ?c2 ?c3 ?c4 ?c5)
      case c1 => exact HQ.out.below ((Below.refl _ _).alloc (Nat.le_refl _) _)
      case c2 => exact rd_one' _ _ _ HB1.out
      case c3 => simp; omega
      case c4 => simp; omega
      case c5 =>
        intro v1 w1 h1 g1
        have HG1 : Hid (Below w.heap.size w w1) := (HB.out.alloc hsz _).trans (g1.base (by simp; omega) (Nat.le_refl _))
        rw [← numB_lt (by omega), ← he.out] at h1
        have H1 := Lib.hid h1
        clear h1 g1
        go_wp2_with fail
        go_ret2
        exact ⟨v1, rfl, H1.out, HG1.out⟩
theorem add_any (base : Nat) (v : Value) (xs : List UInt8) (n : Nat) (w : World) (hv : OwB base w v xs) (hn : n ≤ 1099511627776) (hl : xs.length ≤ 1000000) (hb : base ≤ w.heap.size) :
    Calls Try.prog 37 #[v, .int .i64 (n : Int)] w fun e w' => ∃ v', e = .returned v' ∧ OwB base w' v' (xs ++ numB n) ∧ Grow base w v w' v' := by
  have HV := Lib.hid hv
  obtain ⟨A, c, rfl, _⟩ := hv.form
  clear hv
  have hlen := numB_length n hn
  go_enter Try.func37, Try.ntmps37
  go_wp2_with fail
  refine (Number02_ok n _ hn).mono ?_
  rintro e w1 ⟨v1, rfl, h1, b1⟩
  obtain ⟨X, cx, rfl, hr⟩ := h1.val
  have H1 := Lib.hid hr
  have B1 := Lib.hid b1
  have hsz := b1.size
  clear h1 b1 hr
  go_wp2_with (at_builtin; refine wpList_appB base rfl (.tmp 12) (.tmp 13) rfl _ xs (numB n) _ _ _ rfl rfl rfl (HV.out.below B1.out) H1.out ?c3 ?c4 ?c5)
  case c3 => omega
  case c4 => omega
  case c5 =>
    intro v2 w2 h2 g2
    have H2 := Lib.hid h2
    have G2 := Lib.hid (Grow.first B1.out g2)
    clear h2 g2
    go_wp2_with fail
    go_ret
    exact ⟨v2, rfl, H2.out, G2.out⟩
theorem RPieces_arg (A : Option Addr) (c : Nat) (b : List UInt8) (size : Int) (w : World) (hs : size < 1) :
    Calls Try.prog 14 #[.slice A b.length c, .int .i64 size] w fun e w' => e = .returned (.tuple #[.slice none 0 0, .int .i64 2]) ∧ w = w' := by
  have k1 : decide (size < 1) = true := by simp; omega
  go_enter Try.func14, Try.ntmps14
  go_wp2_with fail
  go_ret2
  exact ⟨rfl, rfl⟩
theorem RPieces_big (A : Option Addr) (c : Nat) (b : List UInt8) (size : Int) (w : World) (hs : 1 ≤ size) (hb : 32768 < b.length) :
    Calls Try.prog 14 #[.slice A b.length c, .int .i64 size] w fun e w' => e = .returned (.tuple #[.slice none 0 0, .int .i64 6]) ∧ w = w' := by
  have k1 : decide (size < 1) = false := by simp; omega
  have k2 : decide (32768 < (b.length : Int)) = true := by simp; omega
  go_enter Try.func14, Try.ntmps14
  go_wp2_with fail
  go_ret2
  exact ⟨rfl, rfl⟩
/-- One piece more, whether there are some or none. -/
theorem PcsW.more {b : List UInt8} {size k base : Nat} {w wr w4 w5 : World} {v v4 v5 : Value} {vs : List Value} {o : Obj} (hk : k = 0 → ∀ i, v.ownBlock = some i → i < wr.heap.size) (hb : base ≤ wr.heap.size) (ho : OwV tB 1 base wr v k vs) (hr : RowsF (fun i => base ≤ i) wr vs (pcs b size k)) (B0 : Below base w wr)
    (B : Below wr.heap.size wr w4) (o4 : OwB wr.heap.size w4 v4 (pieceF b (k * size) (min size (b.length - k * size)))) (o5 : OwV tB 1 base w5 v5 (k + 1) (vs ++ [v4])) (g5 : Grow base (w4.alloc o) v w5 v5) : PcsW b size (k + 1) base w v5 w5 := by
  by_cases h0 : 0 < k
  · exact PcsW.next h0 hb ho hr B0 B o4 o5 g5
  · obtain rfl : k = 0 := by omega
    have hs : SlF (fun i => wr.heap.size ≤ i) w4 v4 (pieceF b (0 * size) (min size (b.length - 0 * size))) := SlF.of_own o4 (fun i h _ => h)
    have ba : Below w4.heap.size w4 (w4.alloc o) := (Below.refl _ _).alloc (Nat.le_refl _) _
    have hvs : vs = [] := by
      have := hr.length
      rw [pcs_length] at this
      exact List.eq_nil_of_length_eq_zero this
    subst hvs
    have hs2 : SlF (fun i => wr.heap.size ≤ i) w5 v4 (pieceF b (0 * size) (min size (b.length - 0 * size))) :=
      (hs.keeps (Keeps.of_new (S := fun _ => False) ba) (fun _ _ _ => id)).keeps g5.keeps (fun i hi _ e => by have := hk rfl i e.2; omega)
    refine ⟨[v4], o5, ⟨v4, [], rfl, hs2.mono (fun i h => Nat.le_trans hb h), rfl⟩, (B0.trans ((B.trans (ba.mono B.size)).mono hb)).trans (g5.base (Nat.le_trans hb (Nat.le_trans B.size ba.size)) (Nat.le_refl _))⟩
structure PcsR (b : List UInt8) (size base : Nat) (w : World) (v i : Value) (wr : World) : Prop where
  ex : ∃ k : Nat, (k = 0 ∨ 0 < b.length) ∧ (k = 0 ∨ (k - 1) * size < b.length) ∧ i = .int .i64 ((min (k * size) b.length : Nat) : Int) ∧ PcsW b size k base w v wr ∧ (k = 0 → ∀ i, v.ownBlock = some i → i < wr.heap.size)
set_option maxHeartbeats 3000000 in
theorem RPieces_ok (A : Option Addr) (c : Nat) (b : List UInt8) (size : Nat) (w : World) (hb : b.length ≤ 32768) (hs : 1 ≤ size) (hsm : size ≤ 9223372036854775807) (hc : b.length ≤ c) (hcm : c ≤ 9223372036854775807) (hx : RdB w A b) :
    Calls Try.prog 14 #[.slice A b.length c, .int .i64 (size : Int)] w (PcsPost b size w) := by
  have HX := Lib.hid hx
  clear hx
  have k1 : decide ((size : Int) < 1) = false := by simp; omega
  have k2 : decide (32768 < (b.length : Int)) = false := by simp; omega
  go_enter Try.func14, Try.ntmps14
  go_wp2_with fail
  go_loopw [6, 7] (fun v i wr => PcsR b size w.heap.size w v i wr) (fun _ i _ => b.length + 1 - (intOf i).toNat)
  case atStart =>
    refine ⟨0, .inl rfl, .inl rfl, by simp, ⟨[], OwV.zero _ _ _ _ _, rfl, (Below.refl _ _).alloc (Nat.le_refl _) _⟩, fun _ i h => ?_⟩
    simp [Value.ownBlock] at h
    subst h
    simp
  case round =>
    obtain ⟨k, hk0, hk2, rfl, ⟨vs, ho, hr, hB⟩, hown⟩ := hrel
    have HO := Lib.hid ho
    have HR := Lib.hid hr
    have HBB := Lib.hid hB
    have HK0 := Lib.hid hk0
    have HK2 := Lib.hid hk2
    have HOWN := Lib.hid hown
    have hvl := hr.length
    rw [pcs_length] at hvl
    obtain ⟨PA, pc, rfl, _, _, _, hpm, _⟩ := ho.form
    clear ho hr hB hk0 hk2 hown
    by_cases hgo : k = 0 ∨ k * size < b.length
    · obtain ⟨p, hp⟩ : ∃ p, p = min (k * size) b.length := ⟨_, rfl⟩
      rw [← hp]
      have hpl : p ≤ b.length := by omega
      have hpk : p = k * size := by
        rcases hgo with rfl | h
        · simp at hp; omega
        · omega
      obtain ⟨q, hq⟩ : ∃ q, q = b.length - p := ⟨_, rfl⟩
      have hsub : (b.length : Int) - (p : Int) = (q : Int) := by omega
      obtain ⟨m2, hm2⟩ : ∃ m2, m2 = min size q := ⟨_, rfl⟩
      have hpm2 : p + m2 ≤ b.length := by omega
      have hkp : k ≤ 32769 := by
        rcases HK2.out with rfl | h1
        · omega
        · have h2 : (k - 1) * 1 ≤ (k - 1) * size := Nat.mul_le_mul_left _ hs
          omega
      have hsl2 := slice_lh A b.length c p (p + m2) (by omega) (by omega)
      rw [show p + m2 - p = m2 by omega, show (((p + m2 : Nat)) : Int) = (p : Int) + (m2 : Int) by omega] at hsl2
      have hn1 := numB_length b.length (by omega)
      have hn0 := numB_length p (by omega)
      have htl : ((b.drop p).take m2).length = m2 := by rw [List.length_take, List.length_drop]; omega
      have HTL := Lib.hid htl
      have HPK := Lib.hid hpk
      have HM2 := Lib.hid (show m2 = min size (b.length - p) by omega)
      have HQ := Lib.hid hq
      have hl2 : ([] ++ numB b.length ++ numB p).length + ((b.drop p).take m2).length ≤ 140737488355328 := by rw [htl]; simp; omega
      have HE4 : Hid (numB b.length ++ (numB p ++ (b.drop p).take m2) = pieceF b (k * size) (min size (b.length - k * size))) := by
        show _ = _
        rw [← hpk, ← hq, ← hm2]
        unfold pieceF
        rw [List.append_assoc]
      have HNX : Hid ((p : Int) + (m2 : Int) = ((min ((k + 1) * size) b.length : Nat) : Int)) := by
        show _ = _
        rw [Nat.succ_mul]
        omega
      have HL2 := Lib.hid hl2
      clear htl hpk hp hq hl2
      have hgo2 : (((p : Int) == 0) = true) ∨ (((p : Int) == 0) = false ∧ decide (p < b.length) = true ∧ decide ((p : Int) < (b.length : Int)) = true) := by
        rcases hgo with rfl | h
        · have : p = 0 := by rw [HPK.out]; simp
          exact .inl (by simp [this])
        · have h1 := HPK.out
          by_cases h0 : p = 0
          · exact .inl (by simp [h0])
          · refine .inr ⟨by simp; omega, by simp; omega, by simp; omega⟩
      have HGO := Lib.hid hgo
      clear hgo
      have hcase : (decide (size < q) = true ∧ size = m2 ∧ ((m2 : Int) == 0) = false ∧ 0 < m2) ∨ (decide (size < q) = false ∧ q = m2 ∧ ((m2 : Int) == 0) = false ∧ 0 < m2) ∨ (decide (size < q) = false ∧ q = m2 ∧ ((m2 : Int) == 0) = true ∧ m2 = 0 ∧ p = b.length) := by
        by_cases h : size < q
        · exact .inl ⟨by simp; omega, by omega, by simp; omega, by omega⟩
        · by_cases h0 : q = 0
          · exact .inr (.inr ⟨by simp; omega, by omega, by simp; omega, by omega, by have := HQ.out; omega⟩)
          · exact .inr (.inl ⟨by simp; omega, by omega, by simp; omega, by omega⟩)
      have hm16 : m2 ≤ 32768 := by omega
      clear hm2
      rcases hgo2 with hg1 | ⟨hg1, hg2, hg3⟩ <;> rcases hcase with ⟨hs1, rfl, hz, hzp⟩ | ⟨hs1, rfl, hz, hzp⟩ | ⟨hs1, rfl, hz, hzp⟩
      all_goals try (exfalso; simp at hg2; omega)
      all_goals
        have HZP := Lib.hid hzp
        clear hzp
        go_wp2_with fail
        have hba : Below wr.heap.size wr (wr.alloc (.cells #[] uB)) := (Below.refl _ _).alloc (Nat.le_refl _) _
        have HBA := Lib.hid hba
        clear hba
        refine (add_any wr.heap.size _ [] b.length _ (OwB.zero _ _ _) (by omega) (by simp) (by simp)).mono ?_
        rintro e w2 ⟨v2, rfl, o2, g2⟩
        have B2 := Lib.hid (HBA.out.trans (g2.base HBA.out.size (Nat.le_refl _)))
        have O2 := Lib.hid o2
        clear o2 g2
        go_wp2_with fail
        refine (add_any wr.heap.size _ _ p _ O2.out (by omega) (by simp; omega) B2.out.size).mono ?_
        rintro e w3 ⟨v3, rfl, o3, g3⟩
        have B3 := Lib.hid (B2.out.trans (g3.base B2.out.size (Nat.le_refl _)))
        have O3 := Lib.hid o3
        clear o3 g3
        go_wp2_with (at_builtin; refine wpList_appB wr.heap.size rfl (.tmp 39) (.tmp 45) rfl _ _ _ (offA A p c) _ (c - p) rfl rfl HTL.out O3.out ((((HX.out.below HBB.out).below B3.out).off p c hc).take _) HL2.out B3.out.size ?_)
        intro v4 w4 o4 g4
        have B4 := Lib.hid (B3.out.trans (g4.base B3.out.size (Nat.le_refl _)))
        try simp only [List.nil_append, List.append_assoc] at o4
        rw [HE4.out] at o4
        generalize hR4 : pieceF b (k * size) (min size (b.length - k * size)) = R4 at o4
        obtain ⟨A4, c4, rfl, _, _, hm4, _⟩ := o4.form
        have O4 := Lib.hid o4
        have HR4 := Lib.hid hR4
        have h5 : OwV tB 1 w.heap.size (w4.alloc (.cells #[.slice A4 R4.length c4] tB)) (.slice PA k pc) k vs := (HO.out.below B4.out).below ((Below.refl _ _).alloc (Nat.le_refl _) _)
        have H5 := Lib.hid h5
        have hs5 : w.heap.size ≤ (w4.alloc (.cells #[.slice A4 R4.length c4] tB)).heap.size := Nat.le_trans HBB.out.size (Nat.le_trans B4.out.size (by simp))
        have HS5 := Lib.hid hs5
        clear o4 g4 hR4 h5 hs5
        go_wp2_with (at_builtin; refine wpList_appV tyBB w.heap.size rfl (.tmp 38) (.tmp 47) rfl _ k 1 vs [_] (some ⟨w4.heap.size, 0, none⟩) 1 rfl rfl H5.out (rd_oneV _ _ _) rfl (by simp [Value.oneCell']) (by omega) (by omega) HS5.out ?_)
        intro v5 w5 o5 g5
        have HW := PcsW.more HOWN.out HBB.out.size HO.out HR.out HBB.out B4.out (HR4.out ▸ O4.out) o5 g5
        have HF : Hid ((0 < b.length → k * size < b.length → PcsR b size w.heap.size w v5 (.int .i64 ((min ((k + 1) * size) b.length : Nat) : Int)) w5) ∧ (b.length ≤ (k + 1) * size → PcsPost b size w (.returned (.tuple #[v5, .int .i64 0])) w5)) := by
          refine ⟨fun h0 h1 => ⟨k + 1, .inr h0, .inr (by rw [Nat.add_sub_cancel]; exact h1), rfl, HW, fun h => by omega⟩, fun h => ⟨k + 1, v5, by omega, ?_, h, rfl, HW⟩⟩
          rw [Nat.add_sub_cancel]
          rcases HGO.out with h1 | h1
          · exact .inl (by omega)
          · exact .inr h1
        rw [← HNX.out] at HF
        clear HW o5 g5
        have hpk := HPK.out
        have hzp := HZP.out
        have hsm : (k + 1) * size = k * size + size := Nat.succ_mul _ _
        have HPK2 := Lib.hid hpk
        have HSM := Lib.hid hsm
        clear hpk hzp hsm
        go_wp2_with fail
        first
          | exact ⟨HF.out.1 (by have := HZP.out; omega) (by have := HPK2.out; have := HZP.out; omega), by have := HZP.out; simp [intOf]; omega⟩
          | (go_ret2
             exact HF.out.2 (by have h1 := HPK2.out; have h2 := HZP.out; have h3 := HSM.out; omega))
    · have hl : min (k * size) b.length = b.length := by omega
      rw [hl]
      have hk1 : 1 ≤ k := by omega
      have hlen : 0 < b.length := HK0.out.elim (fun h => absurd h (by omega)) id
      have hg1 : ((b.length : Int) == 0) = false := beq_eq_false_iff_ne.2 (by omega)
      have HPO : Hid (PcsPost b size w (.returned (.tuple #[.slice PA k pc, .int .i64 0])) wr) := ⟨k, _, hk1, HK2.out.elim (fun h => absurd h (by omega)) .inr, by omega, rfl, vs, HO.out, HR.out, HBB.out⟩
      go_wp2_with fail
      go_ret2
      exact HPO.out
end Go.Proofs.Ytapgknaoieojkaa.Toll
