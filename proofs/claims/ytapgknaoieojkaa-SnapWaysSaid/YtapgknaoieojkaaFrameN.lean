/- Walk of frame.Next. -/
import Derived.Test.YtapgknaoieojkaaFrameW
import Derived.StillTailTactics
set_option linter.unusedVariables false
set_option linter.unusedSimpArgs false
set_option maxRecDepth 100000
namespace Go.Proofs.Ytapgknaoieojkaa.Toll
open Go.RowKit
theorem nmin_self (n : Nat) : n.min n = n := Nat.min_self n
theorem getStep_range (r : Int) (c : UInt8) : 0 ≤ getStep r c ∧ getStep r c < 4294967296 := bits32_range _ _ _
theorem get4_range (xs : List UInt8) : 0 ≤ get4 xs ∧ get4 xs < 4294967296 := by
  unfold get4
  generalize xs.take 4 = l
  rcases List.eq_nil_or_concat l with rfl | ⟨l, c, rfl⟩
  · simp
  · rw [List.concat_eq_append, List.foldl_append]
    exact getStep_range _ _
theorem ext_n (s : Int) (A : Option Addr) (n c : Nat) (xs : List UInt8) (w : World) (hn : xs.length = n) (hs : n ≤ 9223372036854775807) (hx : RdB w A xs) :
    Calls Try.prog 57 #[.int .u32 s, .slice A n c] w fun e w' => e = .returned (.int .u32 (crc s xs)) ∧ w' = w := by subst hn; exact calls_flip (ext_any s A c xs w hs hx)
theorem sum_n (A : Option Addr) (n c : Nat) (xs : List UInt8) (w : World) (hn : xs.length = n) (hs : n ≤ 9223372036854775807) (hx : RdB w A xs) :
    Calls Try.prog 58 #[.slice A n c] w fun e w' => e = .returned (.int .u32 (crc 0 xs)) ∧ w' = w := by subst hn; exact calls_flip (sum_any A c xs w hs hx)
theorem get4_n (A : Option Addr) (n c : Nat) (xs : List UInt8) (w : World) (hn : xs.length = n) (hs : n ≤ 9223372036854775807) (hc : n ≤ c) (hcm : c ≤ 9223372036854775807) (h4 : 4 ≤ n) (hx : RdB w A xs) :
    Calls Try.prog 59 #[.slice A n c] w fun e w' => e = .returned (.int .u32 (get4 xs)) ∧ w' = w := by subst hn; exact calls_flip (get4_any A c xs w hs hc hcm h4 hx)
/-- frame.Next of the bytes behind the place. -/
def nextF (xs : List UInt8) : Except Int (List UInt8) :=
  if xs.length < 8 then .error 3
  else if 65536 < get4 xs then .error 6
  else if (xs.length : Int) - 8 < get4 xs then .error 3
  else if crc (crc 0 (xs.take 4)) ((xs.drop 8).take (get4 xs).toNat) = get4 (xs.drop 4) then .ok ((xs.drop 8).take (get4 xs).toNat) else .error 5
theorem next_arg (A : Option Addr) (c : Nat) (xs : List UInt8) (at_ : Int) (w : World) (hs : xs.length ≤ 9223372036854775807) (h : at_ < 0 ∨ xs.length < at_) :
    Calls Try.prog 31 #[.slice A xs.length c, .int .i64 at_] w fun e w' => e = .returned (.tuple #[.slice none 0 0, .int .i64 0, .int .i64 2]) ∧ w = w' := by
  rcases h with h | h
  · go_enter Try.func31, Try.ntmps31
    go_wp2_with fail
    go_ret3
    exact ⟨rfl, rfl⟩
  · have h0 : decide (at_ < 0) = false := by simp; omega
    go_enter Try.func31, Try.ntmps31
    go_wp2_with fail
    go_ret3
    exact ⟨rfl, rfl⟩
def NextR (ys : List UInt8) (at_ : Nat) (w : World) (e : Ending) (w' : World) : Prop := Below w.heap.size w w' ∧ (match nextF ys with
      | .error k => e = .returned (.tuple #[.slice none 0 0, .int .i64 0, .int .i64 k])
      | .ok p => ∃ g, w.heap.size ≤ g ∧ e = .returned (.tuple #[.slice (some ⟨g, 0, none⟩) p.length p.length, .int .i64 (at_ + 8 + p.length : Nat), .int .i64 0]) ∧ w'.heap[g]? = some (rowB p))
theorem NextR.err {ys : List UInt8} {at_ : Nat} {w : World} {k : Int} (h : nextF ys = .error k) : NextR ys at_ w (.returned (.tuple #[.slice none 0 0, .int .i64 0, .int .i64 k])) w := by
  unfold NextR
  rw [h]
  exact ⟨Below.refl _ _, rfl⟩
theorem NextR.ok {ys p : List UInt8} {at_ g : Nat} {w w' : World} (h : nextF ys = .ok p) (hb : Below w.heap.size w w') (hg : w.heap.size ≤ g) (hr : w'.heap[g]? = some (rowB p)) : NextR ys at_ w (.returned (.tuple #[.slice (some ⟨g, 0, none⟩) p.length p.length, .int .i64 (at_ + 8 + p.length : Nat), .int .i64 0])) w' := by
  unfold NextR
  rw [h]
  exact ⟨hb, g, hg, rfl, hr⟩
set_option maxHeartbeats 1000000 in
theorem next_any (A : Option Addr) (c : Nat) (xs : List UInt8) (at_ : Nat) (w : World) (hs : xs.length ≤ 9223372036854775807) (hc : xs.length ≤ c) (hcm : c ≤ 9223372036854775807) (hat : at_ ≤ xs.length) (hx : RdB w A xs) :
    Calls Try.prog 31 #[.slice A xs.length c, .int .i64 at_] w (NextR (xs.drop at_) at_ w) := by
  have hsl := slice_l A xs.length c at_ hat
  have HX := Lib.hid (hx.off at_ c hc)
  clear hx
  have h0 : decide ((at_ : Int) < 0) = false := by simp
  have h1 : decide ((xs.length : Int) < (at_ : Int)) = false := by simp; omega
  have hlen : (xs.drop at_).length = xs.length - at_ := List.length_drop
  generalize hys : xs.drop at_ = ys at *
  have HY := Lib.hid hys
  clear hys
  rw [← hlen] at hsl
  have hcy : ys.length ≤ c - at_ := by omega
  have hcym : c - at_ ≤ 9223372036854775807 := by omega
  have HL := Lib.hid hlen
  clear hlen
  generalize hB : offA A at_ c = B at *
  generalize hcc : c - at_ = cc at *
  clear hB hcc
  by_cases a1 : ys.length < 8
  · have HN : Hid (nextF ys = .error 3) := by show _ = _; unfold nextF; rw [if_pos a1]
    have a1' : decide ((ys.length : Int) < 8) = true := by simp; omega
    go_enter Try.func31, Try.ntmps31
    go_wp2_with fail
    go_ret3
    exact NextR.err HN.out
  have a1' : decide ((ys.length : Int) < 8) = false := by simp; omega
  have hg := get4_range ys
  by_cases a2 : 65536 < get4 ys
  · have HN : Hid (nextF ys = .error 6) := by show _ = _; unfold nextF; rw [if_neg a1, if_pos a2]
    go_enter Try.func31, Try.ntmps31
    go_wp2_with fail
    refine (get4_any _ _ _ _ ?_ hcy hcym (by omega) HX.out).mono ?_
    · omega
    rintro e w' ⟨rfl, rfl⟩
    go_wp2_with fail
    go_ret3
    exact NextR.err HN.out
  by_cases a3 : (ys.length : Int) - 8 < get4 ys
  · have HN : Hid (nextF ys = .error 3) := by show _ = _; unfold nextF; rw [if_neg a1, if_neg a2, if_pos a3]
    go_enter Try.func31, Try.ntmps31
    go_wp2_with fail
    refine (get4_any _ _ _ _ ?_ hcy hcym (by omega) HX.out).mono ?_
    · omega
    rintro e w' ⟨rfl, rfl⟩
    go_wp2_with fail
    go_ret3
    exact NextR.err HN.out
  have h8 : decide ((ys.length : Int) - 8 < get4 ys) = false := by simp; omega
  obtain ⟨n, hn⟩ : ∃ n : Nat, get4 ys = n := ⟨(get4 ys).toNat, by omega⟩
  have HN := Lib.hid hn
  have hn1 : n ≤ 65536 := by omega
  have hn2 : 8 + n ≤ ys.length := by omega
  have hsum : at_ + 8 + n ≤ xs.length := by have := HL.out; omega
  have hin := slice_lh B ys.length cc 8 (8 + n) (by omega) (by omega)
  rw [show 8 + n - 8 = n by omega] at hin
  simp only [show ((8 : Nat) : Int) = 8 from rfl, show ((8 + n : Nat) : Int) = 8 + (n : Int) by omega] at hin
  have hs4 := slice_h B ys.length cc 4 (by omega)
  have hl4 := slice_l B ys.length cc 4 (by omega)
  simp only [show ((4 : Nat) : Int) = 4 from rfl] at hs4 hl4
  have HIN : Hid (RdB w (offA B 8 cc) ((ys.drop 8).take n)) := (HX.out.off 8 cc hcy).take n
  have HS4 : Hid (RdB w B (ys.take 4)) := HX.out.take 4
  have HL4 : Hid (RdB w (offA B 4 cc) (ys.drop 4)) := HX.out.off 4 cc hcy
  clear a2 a3 hn h8 hg
  go_enter Try.func31, Try.ntmps31
  go_wp2_with fail
  refine (get4_any _ _ _ _ ?_ hcy hcym (by omega) HX.out).mono ?_
  · omega
  rintro e w' ⟨rfl, rfl⟩
  rw [HN.out]
  go_wp2_with fail
  by_cases hcrc : crc (crc 0 (ys.take 4)) ((ys.drop 8).take n) = get4 (ys.drop 4)
  · have HF : Hid (nextF ys = .ok ((ys.drop 8).take n)) := by
      show _ = _
      unfold nextF
      rw [if_neg a1, HN.out, if_neg (by omega), if_neg (by omega), Int.toNat_natCast, if_pos hcrc]
    have HC := Lib.hid hcrc
    clear hcrc
    refine wp_region_still_lit (by kernel_rfl) (by kernel_rfl) ?_
    iterate 2 still_step
    still_call (sum_n _ _ _ (ys.take 4) _ (by simp; omega) (by omega) HS4.out)
    still_step
    still_call (ext_n _ _ _ _ ((ys.drop 8).take n) _ (by simp; omega) (by omega) HIN.out)
    iterate 2 still_step
    still_call (get4_n _ _ _ (ys.drop 4) _ (by simp) (by omega) (by omega) (by omega) (by omega) HL4.out)
    rw [HC.out]
    still_step
    refine wpStill_nil ?_
    have hmk := make_rowB n (by omega)
    have hbn : Below w.heap.size w (w.alloc (rowB (List.replicate n 0))).drew := ((Below.refl _ _).alloc (Nat.le_refl _) _).drew
    go_wp2_with (refine wpList_copyB (o := ⟨some 56, _, _, _, _, _⟩) rfl (.tmp 54) (.tmp 55) rfl _ _ _ _ _ _ rfl rfl w.heap.size 0 (List.replicate n 0) ((ys.drop 8).take n) ?c1 ?c2 ?c3 ?c4 ?c5 ?c6)
    case c1 => exact heap_alloc_new _ _
    case c2 => exact HIN.out.below hbn
    case c3 => simp; omega
    case c5 => rw [nmin_self, List.length_replicate]; omega
    case c6 =>
      intro w2 hr2 hk2
      have hb2 := below_keeps hbn hk2 (fun i _ h => by omega) hbn.size
      rw [List.take_take, Nat.min_self] at hr2
      have he : putAt 0 ((ys.drop 8).take n) (List.replicate n 0) = (ys.drop 8).take n := by
        unfold putAt
        simp
        omega
      rw [he] at hr2
      have HR2 := Lib.hid hr2
      clear hr2 he
      have hpl : ((ys.drop 8).take n).length = n := by simp; omega
      have HP := Lib.hid hpl
      clear hpl
      go_wp2_with fail
      go_ret3
      have hfin := NextR.ok (at_ := at_) HF.out hb2 (Nat.le_refl _) HR2.out
      rw [HP.out, show ((at_ + 8 + n : Nat) : Int) = (at_ : Int) + 8 + (n : Int) by omega] at hfin
      exact hfin
  · have HF : Hid (nextF ys = .error 5) := by
      show _ = _
      unfold nextF
      rw [if_neg a1, HN.out, if_neg (by omega), if_neg (by omega), Int.toNat_natCast, if_neg hcrc]
    have hc1 : (crc (crc 0 (ys.take 4)) ((ys.drop 8).take n) != get4 (ys.drop 4)) = true := by rw [bne_iff_ne]; exact hcrc
    clear hcrc
    refine wp_region_still_lit (by kernel_rfl) (by kernel_rfl) ?_
    iterate 2 still_step
    still_call (sum_n _ _ _ (ys.take 4) _ (by simp; omega) (by omega) HS4.out)
    still_step
    still_call (ext_n _ _ _ _ ((ys.drop 8).take n) _ (by simp; omega) (by omega) HIN.out)
    iterate 2 still_step
    still_call (get4_n _ _ _ (ys.drop 4) _ (by simp) (by omega) (by omega) (by omega) (by omega) HL4.out)
    still_step
    refine wpStill_nil ?_
    go_wp2_with fail
    go_ret3
    have hfin := NextR.err (at_ := at_) (w := w) HF.out
    exact ⟨(Below.refl _ _).drew, hfin.2⟩
end Go.Proofs.Ytapgknaoieojkaa.Toll
