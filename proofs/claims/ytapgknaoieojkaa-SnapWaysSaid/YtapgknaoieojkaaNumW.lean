/- Walks of package wire's numbers. -/
import Derived.Test.YtapgknaoieojkaaBytes
import Derived.Test.YtapgknaoieojkaaNum
import Derived.Deep.LoopGhost
import Derived.Deep.QuietTactic
import Derived.BigQuiet
import Derived.Outline
import Derived.WalkMore
import Derived.ScopeJumps
set_option linter.unusedVariables false
set_option linter.unusedSimpArgs false
set_option maxRecDepth 100000
namespace Go.Proofs.Ytapgknaoieojkaa.Toll
open Go.RowKit
def TakeR (ys : List UInt8) (at_ : Nat) (e : Ending) : Prop := match takeF ys with
  | .error k => e = .returned (.tuple #[.int .i64 0, .int .i64 0, .int .i64 k])
  | .ok (n, m) => e = .returned (.tuple #[.int .i64 (n : Nat), .int .i64 ((at_ + m : Nat) : Int), .int .i64 0])
theorem TakeR.err {ys : List UInt8} {at_ : Nat} {k : Int} (h : takeF ys = .error k) : TakeR ys at_ (.returned (.tuple #[.int .i64 0, .int .i64 0, .int .i64 k])) := by
  unfold TakeR; rw [h]
theorem TakeR.ok {ys : List UInt8} {at_ n m : Nat} (h : takeF ys = .ok (n, m)) : TakeR ys at_ (.returned (.tuple #[.int .i64 (n : Nat), .int .i64 ((at_ + m : Nat) : Int), .int .i64 0])) := by
  unfold TakeR; rw [h]
theorem i64_or_nat (a b : Nat) (ha : a < 9223372036854775808) (hb : b < 9223372036854775808) : bits .or .i64 (a : Int) (b : Int) = ((a ||| b : Nat) : Int) := by
  have h : a ||| b < 2 ^ 63 := Nat.or_lt_two_pow (by omega) (by omega)
  have h1 : (BitVec.ofInt 64 (a : Int)).toNat = a := by
    rw [BitVec.ofInt_natCast, BitVec.toNat_ofNat]; exact Nat.mod_eq_of_lt (by omega)
  have h2 : (BitVec.ofInt 64 (b : Int)).toNat = b := by
    rw [BitVec.ofInt_natCast, BitVec.toNat_ofNat]; exact Nat.mod_eq_of_lt (by omega)
  show IntKind.i64.wrap ((BitVec.ofInt 64 (a : Int) ||| BitVec.ofInt 64 (b : Int)).toNat : Int) = _
  rw [BitVec.toNat_or, h1, h2, IntKind.wrap_i64]
  omega
theorem acc_step (acc cv k : Nat) (hk : k ≤ 5) (hacc : acc < 2 ^ (7 * k)) : bits .or .i64 (acc : Int) (wrap64 (bits .and .i64 (cv : Int) 127 * 2 ^ (7 * k))) = ((acc + cv % 128 * 2 ^ (7 * k) : Nat) : Int) := by
  rw [i64_and127]
  have hp : (2 : Nat) ^ (7 * k) ≤ 2 ^ 35 := Nat.pow_le_pow_right (by decide) (by omega)
  have hm : cv % 128 * 2 ^ (7 * k) ≤ 127 * 2 ^ 35 := Nat.mul_le_mul (by omega) hp
  have hc : ((cv : Int) % 128 * 2 ^ (7 * k)) = ((cv % 128 * 2 ^ (7 * k) : Nat) : Int) := by simp
  rw [hc]
  have hw : wrap64 ((cv % 128 * 2 ^ (7 * k) : Nat) : Int) = ((cv % 128 * 2 ^ (7 * k) : Nat) : Int) := by
    generalize cv % 128 * 2 ^ (7 * k) = y at *
    unfold wrap64
    omega
  rw [hw, i64_or_nat _ _ (by omega) (by omega)]
  congr 1
  rw [Nat.or_comm, Nat.mul_comm, ← Nat.two_pow_add_eq_or_of_lt hacc]
  omega
theorem acc_first (cv : Nat) (h : cv < 256) : bits .or .i64 0 (wrap64 (bits .and .i64 (cv : Int) 127)) = ((cv % 128 : Nat) : Int) := by
  have := acc_step 0 cv 0 (by omega) (by simp)
  simpa using this
def TakeJ (A : Option Addr) (c : Nat) (xs : List UInt8) (at_ : Nat) (w : World) (a' : Act) (w' : World) : Prop := w' = w ∧ ∃ (k acc : Nat) (u9 u10 u11 u12 u13 u14 u15 u16 u17 u18 u19 u20 u21 u22 u23 u24 u25 u26 u27 u28 u29 u30 u31 u32 u33 u34 u35 u36 u37 u38 u39 u40 u41 u42 u43 : Value), a' = { tmps := #[.slice A xs.length c, .int .i64 at_, undef, undef, .int .i64 0, .int .i64 0, .int .i64 0, .int .i64 (acc : Nat), .int .i64 (k : Nat), u9, u10, u11, u12, u13, u14, u15, u16, u17, u18, u19, u20, u21, u22, u23, u24, u25, u26, u27, u28, u29, u30, u31, u32, u33, u34, u35, u36, u37, u38, u39, u40, u41, u42, u43, undef, undef, undef, undef, undef, undef, undef, undef, undef, undef, undef, undef, undef, undef], defers := [] } ∧ 0 < k ∧ k ≤ 5 ∧ at_ + k ≤ xs.length ∧ acc < 2 ^ (7 * k) ∧ takeG k acc (xs.drop (at_ + k)) = takeF (xs.drop at_)
set_option maxHeartbeats 4000000 in
theorem take_any (A : Option Addr) (c : Nat) (xs : List UInt8) (at_ : Nat) (w : World) (hs : xs.length ≤ 9223372036854775807) (hat : at_ ≤ xs.length) (hx : RdB w A xs) :
    Calls Try.prog 52 #[.slice A xs.length c, .int .i64 at_] w fun e w' => TakeR (xs.drop at_) at_ e ∧ w = w' := by
  have h0 : decide ((at_ : Int) < 0) = false := by simp
  have h1 : decide ((xs.length : Int) < (at_ : Int)) = false := by simp; omega
  have HX := Lib.hid hx
  clear hx
  go_enter Try.func52, Try.ntmps52
  go_wp2
  refine wp_scope_jumps 0 (TakeJ A c xs at_ w) (fun a' _ => (6 - (intOf (a'.tmps.getD 8 undef)).toNat)) rfl ?_ ?_
  · go_wp2
    go_step3
    by_cases hk : at_ < xs.length
    · obtain ⟨b, off, sp, rfl, hc⟩ := HX.out.at at_ hk
      have hb : ((at_ : Int) == (xs.length : Int)) = false := by simp; omega
      have hdrop : xs.drop (at_) = xs[at_] :: xs.drop (at_ + 1) := List.drop_eq_getElem_cons hk
      have HD := Lib.hid hdrop
      clear hdrop
      have hcv2 : xs[at_].toNat < 256 := UInt8.toNat_lt _
      generalize hcc : xs[at_] = cc at *
      clear hcc
      generalize hcv : cc.toNat = cv at *
      have HCV := Lib.hid hcv
      clear hcv
      have hV := acc_first cv hcv2
      obtain ⟨an, han⟩ : ∃ an : Nat, an = cv % 128 := ⟨_, rfl⟩
      rw [← han] at hV
      have HAN := Lib.hid han
      clear han
      by_cases h128 : 128 ≤ cv
      · have h128' : decide (128 ≤ (cv : Int)) = true := by simp; omega
        · have hk6' : True := trivial
          go_wp2
          go_step3
          have hrel2 : takeG (1) an (xs.drop (at_ + (1))) = takeF (xs.drop at_) := by
            unfold takeF
            rw [HD.out, takeG_more (by rw [HCV.out]; exact h128) (by omega), HCV.out, HAN.out]
            simp
          have hacc2 : an < 2 ^ (7 * (1)) := by
            rw [HAN.out]; simp; omega
          refine ⟨rfl, ?_⟩
          unfold TakeJ
          exact ⟨rfl, 1, an, _, _, _, _, _, _, _, _, _, _, _, _, _, _, _, _, _, _, _, _, _, _, _, _, _, _, _, _, _, _, _, _, _, _, _, rfl, by omega, by omega, by omega, hacc2, hrel2⟩
      · have h128' : decide (128 ≤ (cv : Int)) = false := by simp; omega
        have hz1 : True := trivial
        by_cases hlim : 1099511627776 < an
        · have hlim' : decide (1099511627776 < (an : Int)) = true := by simp; omega
          have HF : Hid (takeF (xs.drop at_) = .error 6) := (by show takeF _ = _; unfold takeF; rw [HD.out]; exact takeG_limit (by rw [HCV.out]; omega) (by omega) (by have := HAN.out; rw [HCV.out]; omega))
          by_cases hz : cv = 0
          · have hz' : ((cv : Int) == 0) = true := by simp; omega
            clear hz
            go_wp2
            simp only [Exit.jump]
            go_ret3
            exact ⟨TakeR.err HF.out, rfl⟩
          · have hz' : ((cv : Int) == 0) = false := by simp; omega
            clear hz
            go_wp2
            simp only [Exit.jump]
            go_ret3
            exact ⟨TakeR.err HF.out, rfl⟩
        · have hlim' : decide (1099511627776 < (an : Int)) = false := by simp; omega
          have HF : Hid (takeF (xs.drop at_) = .ok (an, 0 + 1)) := (by show takeF _ = _; unfold takeF; rw [HD.out]; exact (takeG_ok (by rw [HCV.out]; omega) (by omega) (by have := HAN.out; rw [HCV.out]; omega)).trans (by have := HAN.out; rw [HCV.out, show cv * 2 ^ (7 * 0) = cv % 128 * 2 ^ (7 * 0) by rw [Nat.mod_eq_of_lt (by omega)]]; rw [HAN.out]; simp))
          by_cases hz : cv = 0
          · have hz' : ((cv : Int) == 0) = true := by simp; omega
            clear hz
            go_wp2
            simp only [Exit.jump]
            go_ret3
            exact ⟨TakeR.ok HF.out, rfl⟩
          · have hz' : ((cv : Int) == 0) = false := by simp; omega
            clear hz
            go_wp2
            simp only [Exit.jump]
            go_ret3
            exact ⟨TakeR.ok HF.out, rfl⟩
    · have hb : ((at_ : Int) == (xs.length : Int)) = true := by simp; omega
      have hd0 : xs.drop (at_) = [] := List.drop_eq_nil_of_le (by omega)
      have HF : Hid (takeF (xs.drop at_) = .error 3) := by show _ = _; rw [hd0]; rfl
      clear hd0
      go_wp2
      simp only [Exit.jump]
      go_ret3
      exact ⟨TakeR.err HF.out, rfl⟩
  · intro a' w' hJ
    unfold TakeJ at hJ
    obtain ⟨rfl, k, acc, u9, u10, u11, u12, u13, u14, u15, u16, u17, u18, u19, u20, u21, u22, u23, u24, u25, u26, u27, u28, u29, u30, u31, u32, u33, u34, u35, u36, u37, u38, u39, u40, u41, u42, u43, rfl, hk0, hk5, hkl, hacc, hrel⟩ := hJ
    have HR := Lib.hid hrel
    have HACC := Lib.hid hacc
    clear hrel hacc
    by_cases hk : at_ + k < xs.length
    · obtain ⟨b, off, sp, rfl, hc⟩ := HX.out.at (at_ + k) hk
      have hb : ((at_ : Int) + (k : Int) == (xs.length : Int)) = false := by simp; omega
      have hdrop : xs.drop (at_ + k) = xs[at_ + k] :: xs.drop (at_ + k + 1) := List.drop_eq_getElem_cons hk
      have HD := Lib.hid hdrop
      clear hdrop
      have hcv2 : xs[at_ + k].toNat < 256 := UInt8.toNat_lt _
      generalize hcc : xs[at_ + k] = cc at *
      clear hcc
      generalize hcv : cc.toNat = cv at *
      have HCV := Lib.hid hcv
      clear hcv
      have hV := acc_step acc cv k hk5 HACC.out
      obtain ⟨an, han⟩ : ∃ an : Nat, an = acc + cv % 128 * 2 ^ (7 * k) := ⟨_, rfl⟩
      rw [← han] at hV
      have HAN := Lib.hid han
      clear han
      by_cases h128 : 128 ≤ cv
      · have h128' : decide (128 ≤ (cv : Int)) = true := by simp; omega
        by_cases hk6 : k = 5
        · have hk6' : ((k : Int) + 1 == 6) = true := by simp; omega
          have HF : Hid (takeF (xs.drop at_) = .error 6) := (by rw [← HR.out, HD.out]; exact takeG_big (by rw [HCV.out]; exact h128) hk6)
          have hk6b : ¬ k < 5 := by omega
          clear hk6 hV
          go_wp2
          simp only [Exit.jump]
          go_ret3
          exact ⟨TakeR.err HF.out, rfl⟩
        · have hk6' : ((k : Int) + 1 == 6) = false := by simp; omega
          go_wp2
          go_step3
          have hrel2 : takeG (k + 1) an (xs.drop (at_ + (k + 1))) = takeF (xs.drop at_) := by
            rw [← HR.out, HD.out, takeG_more (by rw [HCV.out]; exact h128) hk6, HCV.out, HAN.out]
            rfl
          have hacc2 : an < 2 ^ (7 * (k + 1)) := by
            have := HACC.out
            rw [HAN.out, show 7 * (k + 1) = 7 * k + 7 by omega, Nat.pow_add]
            have hm : cv % 128 * 2 ^ (7 * k) ≤ 127 * 2 ^ (7 * k) := Nat.mul_le_mul_right _ (by omega)
            omega
          refine ⟨rfl, ?_, ?_⟩
          · unfold TakeJ
            exact ⟨rfl, k + 1, an, _, _, _, _, _, _, _, _, _, _, _, _, _, _, _, _, _, _, _, _, _, _, _, _, _, _, _, _, _, _, _, _, _, _, _, rfl, by omega, by omega, by omega, hacc2, hrel2⟩
          · simp [intOf]; omega
      · have h128' : decide (128 ≤ (cv : Int)) = false := by simp; omega
        by_cases hz : cv = 0
        · have hz' : ((cv : Int) == 0) = true := by simp; omega
          have HF : Hid (takeF (xs.drop at_) = .error 4) := (by rw [← HR.out, HD.out]; exact takeG_form (by rw [HCV.out]; exact hz) hk0)
          have hk1 : decide (1 < (k : Int) + 1) = true := by simp; omega
          have hz2 : cv ≤ 0 := by omega
          clear hz hV
          go_wp2
          simp only [Exit.jump]
          go_ret3
          exact ⟨TakeR.err HF.out, rfl⟩
        have hz' : ((cv : Int) == 0) = false := by simp; omega
        by_cases hlim : 1099511627776 < an
        · have hlim' : decide (1099511627776 < (an : Int)) = true := by simp; omega
          have HF : Hid (takeF (xs.drop at_) = .error 6) := (by rw [← HR.out, HD.out]; exact takeG_limit (by rw [HCV.out]; omega) (by rw [HCV.out]; omega) (by have := HAN.out; rw [HCV.out]; rw [Nat.mod_eq_of_lt (by omega)] at this; omega))
          clear hz
          go_wp2
          simp only [Exit.jump]
          go_ret3
          exact ⟨TakeR.err HF.out, rfl⟩
        · have hlim' : decide (1099511627776 < (an : Int)) = false := by simp; omega
          have HF : Hid (takeF (xs.drop at_) = .ok (an, k + 1)) := (by rw [← HR.out, HD.out]; exact (takeG_ok (by rw [HCV.out]; omega) (by rw [HCV.out]; omega) (by have := HAN.out; rw [HCV.out]; rw [Nat.mod_eq_of_lt (by omega)] at this; omega)).trans (by have := HAN.out; rw [HCV.out, show cv * 2 ^ (7 * k) = cv % 128 * 2 ^ (7 * k) by rw [Nat.mod_eq_of_lt (by omega)]]; rw [← HAN.out]))
          clear hz
          go_wp2
          simp only [Exit.jump]
          go_ret3
          have hfin := TakeR.ok (at_ := at_) HF.out
          rw [show ((at_ + (k + 1) : Nat) : Int) = (at_ : Int) + ((k : Int) + 1) by omega] at hfin
          exact ⟨hfin, rfl⟩
    · have hb : ((at_ : Int) + (k : Int) == (xs.length : Int)) = true := by simp; omega
      have hd0 : xs.drop (at_ + k) = [] := List.drop_eq_nil_of_le (by omega)
      have HF : Hid (takeF (xs.drop at_) = .error 3) := by show _ = _; rw [← HR.out, hd0]; rfl
      clear hd0
      go_wp2
      simp only [Exit.jump]
      go_ret3
      exact ⟨TakeR.err HF.out, rfl⟩

theorem i64_or128 (m : Nat) : bits .or .i64 (bits .and .i64 (m : Int) 127) 128 = ((m % 128 + 128 : Nat) : Int) := by
  rw [i64_and127]
  have := i64_or_nat (m % 128) 128 (by omega) (by omega)
  rw [show ((m : Int) % 128) = ((m % 128 : Nat) : Int) by omega]
  refine this.trans ?_
  congr 1
  have h := Nat.two_pow_add_eq_or_of_lt (i := 7) (b := m % 128) (by omega) 1
  rw [Nat.or_comm]
  simp at h
  omega
set_option maxHeartbeats 1000000 in
theorem number_any (base : Nat) (v : Value) (xs : List UInt8) (n : Nat) (w : World) (hv : OwB base w v xs) (hn : n < 9223372036854775808) (hl : xs.length + 10 ≤ 140737488355328) (hb : base ≤ w.heap.size) :
    Calls Try.prog 74 #[v, .int .i64 n] w fun e w' => ∃ v', e = .returned v' ∧ OwB base w' v' (xs ++ numB n) ∧ Grow base w v w' v' := by
  have HV := Lib.hid hv
  obtain ⟨A, c, rfl, _⟩ := hv.form
  clear hv
  go_enter Try.func74, Try.ntmps74
  go_wp2
  go_loopw [0, 1] (fun q i wr => ∃ (m : Nat) (ys : List UInt8), i = .int .i64 m ∧ m < 9223372036854775808 ∧ OwB base wr q ys ∧ Hid (xs ++ numB n = ys ++ numB m) ∧ Hid (ys.length + (numB m).length ≤ xs.length + (numB n).length) ∧ Grow base w (.slice A xs.length c) wr q) (fun _ i _ => (intOf i).toNat)
  case atStart => exact ⟨n, xs, rfl, hn, HV.out, rfl, Nat.le_refl _, Grow.refl _ _ _⟩
  case round =>
    obtain ⟨m, ys, rfl, hm, hq, he, hle, hg⟩ := hrel
    have HQ := Lib.hid hq
    obtain ⟨A1, c1, rfl, _⟩ := hq.form
    clear hq
    have HG := Lib.hid hg
    clear hg
    by_cases h : 128 ≤ m
    · have hor := i64_or128 m
      have hb1 : (((UInt8.ofNat (m % 128 + 128)).toNat : Nat) : Int) = (m : Int) % 128 + 128 := by rw [byte_of _ (by omega)]; omega
      have HB1 := Lib.hid hb1
      clear hb1
      have hle' := hle.out
      have hlm : 0 < (numB m).length := numB_pos m
      have hln : (numB n).length ≤ 10 := numB_len 9 n (by omega)
      go_wp2_with (at_builtin; refine wpList_appB base rfl (.tmp 7) (.tmp 12) rfl _ ys [UInt8.ofNat (m % 128 + 128)] _ 1 1 rfl rfl rfl ?c1 ?c2 ?c3 ?c4 ?c5)
      case c1 => exact HQ.out.below ((Below.refl _ _).alloc (Nat.le_refl _) _)
      case c2 => exact rd_one' _ _ _ HB1.out
      case c3 => simp; omega
      case c4 => have := HG.out.keeps.size; simp; omega
      case c5 =>
        intro v1 w1 h1 g1
        have HG1 : Hid (Grow base w (.slice A xs.length c) w1 v1) := HG.out.trans (Grow.first ((Below.refl _ _).alloc (Nat.le_refl _) _) g1)
        have H1 := Lib.hid h1
        clear h1 g1
        go_wp2_with fail
        go_roundw
        case rel =>
          refine ⟨m / 128, _, by go_num, by omega, H1.out, ?_, ?_, HG1.out⟩
          · show _ = _
            rw [he.out, numB_ge h]
            simp
          · show _ ≤ _
            rw [numB_ge h] at hle'
            simp at hle' ⊢
            omega
        case measure => simp [intOf]; omega
    · have hle' := hle.out
      rw [numB_lt (by omega)] at hle'
      have hln : (numB n).length ≤ 10 := numB_len 9 n (by omega)
      have hb1 : (((UInt8.ofNat m).toNat : Nat) : Int) = (m : Int) := byte_of _ (by omega)
      have HB1 := Lib.hid hb1
      clear hb1
      go_wp2_with (at_builtin; refine wpList_appB base rfl (.tmp 16) (.tmp 19) rfl _ ys [UInt8.ofNat m] _ 1 1 rfl rfl rfl ?c1 ?c2 ?c3 ?c4 ?c5)
      case c1 => exact HQ.out.below ((Below.refl _ _).alloc (Nat.le_refl _) _)
      case c2 => exact rd_one' _ _ _ HB1.out
      case c3 => simp at hle' ⊢; omega
      case c4 => have := HG.out.keeps.size; simp; omega
      case c5 =>
        intro v1 w1 h1 g1
        have HG1 : Hid (Grow base w (.slice A xs.length c) w1 v1) := HG.out.trans (Grow.first ((Below.refl _ _).alloc (Nat.le_refl _) _) g1)
        rw [← numB_lt (by omega), ← he.out] at h1
        have H1 := Lib.hid h1
        clear h1 g1
        go_wp2_with fail
        go_ret
        exact ⟨v1, rfl, H1.out, HG1.out⟩
end Go.Proofs.Ytapgknaoieojkaa.Toll
