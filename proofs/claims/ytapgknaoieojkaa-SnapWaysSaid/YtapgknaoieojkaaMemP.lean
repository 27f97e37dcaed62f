/- Walks: member.Right, put, Put. -/
import Derived.Test.YtapgknaoieojkaaMemR
set_option linter.unusedVariables false
set_option linter.unusedSimpArgs false
set_option maxRecDepth 100000
namespace Go.Proofs.Ytapgknaoieojkaa.Toll
open Go.RowKit
/-- Members as they lie. -/
structure MemAt (w : World) (A1 A2 : Option Addr) (V L : List Int) : Prop where
  v : RdI w A1 V
  l : RdI w A2 L
  vl : V.length ≤ 9223372036854775807
  ll : L.length ≤ 9223372036854775807
theorem MemAt.below {w w' : World} {A1 A2 : Option Addr} {V L : List Int} (h : MemAt w A1 A2 V L) (k : Below w.heap.size w w') : MemAt w' A1 A2 V L := ⟨h.v.below k, h.l.below k, h.vl, h.ll⟩
def rightB (V L : List Int) : Bool := !V.isEmpty && (risesG 0 V && (risesG 0 L && !L.any (fun x => memB V x)))
theorem Right_any (A1 A2 : Option Addr) (c1 c2 : Nat) (V L : List Int) (w : World) (h : MemAt w A1 A2 V L) :
    Calls Try.prog 53 #[.agg #[.slice A1 V.length c1, .slice A2 L.length c2]] w fun e w' => e = .returned (.bool (rightB V L)) ∧ w.alloc (.cells #[.slice A1 V.length c1, .slice A2 L.length c2] 26) = w' := by
  have HM := Lib.hid h
  have hvl := h.vl
  have hll := h.ll
  clear h
  have HB : Hid (Below w.heap.size w (w.alloc (.cells #[.slice A1 V.length c1, .slice A2 L.length c2] 26))) := (Below.refl _ _).alloc (Nat.le_refl _) _
  by_cases h0 : V.length = 0
  · have HF : Hid (rightB V L = false) := by
      show _ = _
      rw [List.eq_nil_of_length_eq_zero h0]; rfl
    have h0' : (((V.length : Nat) : Int) == 0) = true := by simp; exact List.eq_nil_of_length_eq_zero h0
    clear h0
    go_enter Try.func53, Try.ntmps53
    go_wp2_with fail
    go_ret
    rw [HF.out]
    exact ⟨rfl, rfl⟩
  have h0' : (((V.length : Nat) : Int) == 0) = false := by simp; intro e; exact h0 (by rw [e]; rfl)
  have hem : V.isEmpty = false := by
    cases V with
    | nil => exact absurd rfl h0
    | cons _ _ => rfl
  by_cases hv : risesG 0 V = true
  case neg =>
    rw [Bool.not_eq_true] at hv
    have HF : Hid (rightB V L = false) := by show _ = _; simp [rightB, hv]
    have HV := Lib.hid hv
    clear hv hem h0
    go_enter Try.func53, Try.ntmps53
    go_wp2_with fail
    refine (rises_any A1 c1 V _ hvl (HM.out.v.below HB.out)).mono ?_
    rintro e w' ⟨rfl, rfl⟩
    rw [HV.out]
    go_wp2_with fail
    go_ret
    rw [HF.out]
    exact ⟨rfl, rfl⟩
  have HV := Lib.hid hv
  by_cases hl : risesG 0 L = true
  case neg =>
    rw [Bool.not_eq_true] at hl
    have HF : Hid (rightB V L = false) := by show _ = _; simp [rightB, hl]
    have HL := Lib.hid hl
    clear hv hl hem h0
    go_enter Try.func53, Try.ntmps53
    go_wp2_with fail
    refine (rises_any A1 c1 V _ hvl (HM.out.v.below HB.out)).mono ?_
    rintro e w' ⟨rfl, rfl⟩
    rw [HV.out]
    go_wp2_with fail
    refine (rises_any A2 c2 L _ hll (HM.out.l.below HB.out)).mono ?_
    rintro e w' ⟨rfl, rfl⟩
    rw [HL.out]
    go_wp2_with fail
    go_ret
    rw [HF.out]
    exact ⟨rfl, rfl⟩
  have HL := Lib.hid hl
  have HF : Hid (rightB V L = !L.any (fun x => memB V x)) := by show _ = _; simp [rightB, hv, hl, hem]
  clear hv hl hem h0
  go_enter Try.func53, Try.ntmps53
  go_wp2_with fail
  refine (rises_any A1 c1 V _ hvl (HM.out.v.below HB.out)).mono ?_
  rintro e w' ⟨rfl, rfl⟩
  rw [HV.out]
  go_wp2_with fail
  refine (rises_any A2 c2 L _ hll (HM.out.l.below HB.out)).mono ?_
  rintro e w' ⟨rfl, rfl⟩
  rw [HL.out]
  go_wp2_with fail
  refine (ContainsFunc_any A2 c2 L w.heap.size V _ hll (HM.out.l.below HB.out) ⟨A1, c1, by simp, HM.out.v.below HB.out, hvl⟩).mono ?_
  rintro e w' ⟨rfl, rfl⟩
  go_wp2_with fail
  go_ret
  rw [HF.out]
  exact ⟨rfl, rfl⟩

def numsB (xs : List Int) : List UInt8 := xs.flatMap fun x => numB x.toNat
theorem numsB_length (xs : List Int) (h : ∀ x ∈ xs, 0 ≤ x ∧ x ≤ 1099511627776) : (numsB xs).length ≤ 6 * xs.length := by
  induction xs with
  | nil => simp [numsB]
  | cons x t ih =>
    have h1 := ih (fun y hy => h y (by simp [hy]))
    have h2 := h x (by simp)
    have h3 := numB_length x.toNat (by omega)
    unfold numsB at *
    simp at h1 ⊢
    omega
theorem mput_any (base : Nat) (v : Value) (bs : List UInt8) (A : Option Addr) (c : Nat) (xs : List Int) (w : World) (hv : OwB base w v bs) (hx : RdI w A xs) (hxs : ∀ x ∈ xs, 0 ≤ x ∧ x ≤ 1099511627776) (hl : bs.length ≤ 1000) (hn : xs.length ≤ 100) (hb : base ≤ w.heap.size)
    (hA : 0 < xs.length → ∀ ad, A = some ad → v.ownBlock = some ad.block → ¬ base ≤ ad.block) :
    Calls Try.prog 54 #[v, .slice A xs.length c] w fun e w' => ∃ v', e = .returned v' ∧ OwB base w' v' (bs ++ numsB xs) ∧ Grow base w v w' v' := by
  have HV := Lib.hid hv
  have HX := Lib.hid hx
  have HXS := Lib.hid hxs
  have HA := Lib.hid hA
  obtain ⟨A0, c0, rfl, _⟩ := hv.val
  clear hv hx hxs hA
  have HNL := Lib.hid (numsB_length xs HXS.out)
  go_enter Try.func54, Try.ntmps54
  go_wp2
  go_loopw [0, 11] (fun q i wr => ∃ (k : Nat) (ys : List UInt8), i = .int .i64 k ∧ k ≤ xs.length ∧ OwB base wr q ys ∧ Hid (bs ++ numsB xs = ys ++ numsB (xs.drop k)) ∧ Grow base w (.slice A0 bs.length c0) wr q) (fun _ i _ => xs.length - (intOf i).toNat)
  case atStart => exact ⟨0, bs, rfl, Nat.zero_le _, HV.out, rfl, Grow.refl _ _ _⟩
  case round =>
    obtain ⟨k, ys, rfl, hk, hq, he, hg⟩ := hrel
    have HQ := Lib.hid hq
    have HG := Lib.hid hg
    obtain ⟨A1, c1, rfl, _⟩ := hq.val
    have hsz := hg.keeps.size
    clear hq hg
    by_cases hlt : k < xs.length
    · obtain ⟨b, off, sp, rfl, hc⟩ := HX.out.at k hlt
      have hc2 : wr.cell? ((⟨b, off, sp⟩ : Addr).add k) = some (.int .i64 xs[k]) := HG.out.keeps.cell hc (by rw [Addr.add_block]; intro hs; exact HA.out (by omega) _ rfl hs.2 hs.1)
      clear hc
      have HD : Hid (xs.drop k = xs[k] :: xs.drop (k + 1)) := List.drop_eq_getElem_cons hlt
      have hyr := HXS.out xs[k] (by simp)
      generalize hy : xs[k] = y at *
      clear hy
      obtain ⟨n, rfl⟩ := Int.eq_ofNat_of_zero_le hyr.1
      have hle : ys.length + 6 * (xs.drop k).length ≤ 1000 + 6 * xs.length + ys.length := by simp; omega
      have hyl : ys.length ≤ bs.length + (numsB xs).length := by
        have := congrArg List.length he.out
        simp at this
        omega
      have hnl := HNL.out
      have hn6 := numB_length n (by omega)
      clear hle
      go_wp2_with fail
      refine (Number_ok n _ (by omega)).mono ?_
      rintro e w1 ⟨v1, rfl, h1, b1⟩
      obtain ⟨X, cx, rfl, hr⟩ := h1.val
      have H1 := Lib.hid hr
      have B1 := Lib.hid b1
      have hsz1 := b1.size
      clear h1 b1 hr
      go_wp2_with (at_builtin; refine wpList_appB base rfl (.tmp 20) (.tmp 21) rfl _ ys (numB n) _ _ _ rfl rfl rfl (HQ.out.below B1.out) H1.out ?c3 ?c4 ?c5)
      case c3 => omega
      case c4 => omega
      case c5 =>
        intro v2 w2 h2 g2
        have H2 := Lib.hid h2
        have G2 := Lib.hid (HG.out.trans (Grow.first B1.out g2))
        clear h2 g2
        go_wp2_with fail
        go_roundw
        case rel =>
          refine ⟨k + 1, _, by go_num, by omega, H2.out, ?_, G2.out⟩
          show _ = _
          rw [he.out, HD.out]
          simp [numsB]
        case measure => simp [intOf]; omega
    · obtain rfl : k = xs.length := by omega
      have he' := he.out
      rw [List.drop_length] at he'
      have hq2 : OwB base wr (.slice A1 ys.length c1) (bs ++ numsB xs) := by
        rw [he']
        simpa [numsB] using HQ.out
      have HQ2 := Lib.hid hq2
      clear hq2 he'
      go_wp2_with fail
      go_ret
      exact ⟨_, rfl, HQ2.out, HG.out⟩
end Go.Proofs.Ytapgknaoieojkaa.Toll
