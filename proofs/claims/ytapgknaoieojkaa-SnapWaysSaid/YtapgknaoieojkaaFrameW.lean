/- Walks of package frame. -/
import Derived.Test.YtapgknaoieojkaaProg
import Derived.Test.YtapgknaoieojkaaBytes
import Derived.Deep.LoopGhost
import Derived.Deep.QuietTactic
import Derived.BigQuiet
import Derived.Outline
import Derived.StillTailTactics
set_option linter.unusedVariables false
set_option linter.unusedSimpArgs false
namespace Go.Proofs.Ytapgknaoieojkaa.Toll
open Go.RowKit

def crcBit (r : Int) : Int := if bits .and .u32 r 1 = 1 then bits .xor .u32 (r / 2) 3988292384 else r / 2
def crcBits : Nat → Int → Int
  | 0, r => r
  | k + 1, r => crcBit (crcBits k r)
def crcByte (r : Int) (c : UInt8) : Int := crcBits 8 (bits .xor .u32 r ((c.toNat : Int) % 4294967296))
def crcAll (r : Int) (xs : List UInt8) : Int := xs.foldl crcByte r
def crc (s : Int) (xs : List UInt8) : Int := bits .xor .u32 IntKind.u32.max (crcAll (bits .xor .u32 IntKind.u32.max s) xs)
theorem crcAll_succ (r : Int) (xs : List UInt8) (k : Nat) (h : k < xs.length) : crcAll r (xs.take (k + 1)) = crcBits 8 (bits .xor .u32 (crcAll r (xs.take k)) ((xs[k].toNat : Int) % 4294967296)) := by
  rw [List.take_succ_eq_append_getElem h]; unfold crcAll; rw [List.foldl_append]; rfl
theorem ext_any (s : Int) (A : Option Addr) (c : Nat) (xs : List UInt8) (w : World) (hs : xs.length ≤ 9223372036854775807) (hx : RdB w A xs) :
    Calls Try.prog 57 #[.int .u32 s, .slice A xs.length c] w fun e w' => e = .returned (.int .u32 (crc s xs)) ∧ w = w' := by
  have HX := Lib.hid hx
  clear hx
  go_enter Try.func57, Try.ntmps57
  go_wp2
  go_loop [5, 13] (fun r i => ∃ k : Nat, k ≤ xs.length ∧ i = .int .i64 k ∧ r = .int .u32 (crcAll (bits .xor .u32 IntKind.u32.max s) (xs.take k))) (fun _ i => xs.length - (intOf i).toNat)
  case atStart => exact ⟨0, Nat.zero_le _, rfl, rfl⟩
  case round =>
    obtain ⟨k, hk, rfl, rfl⟩ := hrel
    by_cases hlt : k < xs.length
    · obtain ⟨b, off, sp, rfl, hc⟩ := HX.out.at k hlt
      go_wp2
      go_loop [5, 21] (fun r i => ∃ j : Nat, j ≤ 8 ∧ i = .int .i64 j ∧ r = .int .u32 (crcBits j (bits .xor .u32 (crcAll (bits .xor .u32 IntKind.u32.max s) (xs.take k)) ((xs[k].toNat : Int) % 4294967296)))) (fun _ i => 8 - (intOf i).toNat)
      case atStart => exact ⟨0, by omega, rfl, rfl⟩
      case round =>
        obtain ⟨j, hj, rfl, rfl⟩ := hrel
        by_cases hl : j < 8
        · generalize hR : crcBits j (bits .xor .u32 (crcAll (bits .xor .u32 IntKind.u32.max s) (xs.take k)) ((xs[k].toNat : Int) % 4294967296)) = R
          have HR := Lib.hid hR
          clear hR
          by_cases hb : bits .and .u32 R 1 = 1
          · have hb' : (bits .and .u32 R 1 == 1) = true := by simp [hb]
            go_wp2
            go_round
            case rel => exact ⟨j + 1, by omega, by go_num, by rw [crcBits, HR.out, crcBit, if_pos hb]⟩
            case measure => simp [intOf]; omega
          · have hb' : (bits .and .u32 R 1 == 1) = false := by simp [hb]
            go_wp2
            go_round
            case rel => exact ⟨j + 1, by omega, by go_num, by rw [crcBits, HR.out, crcBit, if_neg hb]⟩
            case measure => simp [intOf]; omega
        · obtain rfl : j = 8 := by omega
          go_wp2
          go_round
          case rel => exact ⟨k + 1, by omega, by go_num, by rw [crcAll_succ _ _ _ hlt]⟩
          case measure => simp [intOf]; omega
    · obtain rfl : k = xs.length := by omega
      go_wp2
      go_ret
      exact ⟨rfl, rfl⟩

def getStep (n : Int) (c : UInt8) : Int := bits .or .u32 (IntKind.u32.wrap (n * 256)) ((c.toNat : Int) % 4294967296)
def get4 (xs : List UInt8) : Int := (xs.take 4).foldl getStep 0
theorem get4_any (A : Option Addr) (c : Nat) (xs : List UInt8) (w : World) (hs : xs.length ≤ 9223372036854775807) (hc : xs.length ≤ c) (hcm : c ≤ 9223372036854775807) (h4 : 4 ≤ xs.length) (hx : RdB w A xs) :
    Calls Try.prog 59 #[.slice A xs.length c] w fun e w' => e = .returned (.int .u32 (get4 xs)) ∧ w = w' := by
  have HX := Lib.hid hx
  obtain ⟨b, off, sp, rfl, _⟩ := hx.at 0 (by omega)
  clear hx
  go_enter Try.func59, Try.ntmps59
  go_wp2
  go_loop [3, 9] (fun r i => ∃ k : Nat, k ≤ 4 ∧ i = .int .i64 k ∧ r = .int .u32 ((xs.take k).foldl getStep 0)) (fun _ i => 4 - (intOf i).toNat)
  case atStart => exact ⟨0, Nat.zero_le _, rfl, rfl⟩
  case round =>
    obtain ⟨k, hk, rfl, rfl⟩ := hrel
    by_cases hlt : k < 4
    · obtain ⟨b', off', sp', e, hc⟩ := HX.out.at k (by omega)
      cases e
      have HS : Hid ((xs.take (k + 1)).foldl getStep 0 = getStep ((xs.take k).foldl getStep 0) xs[k]) := by
        show _ = _
        rw [List.take_succ_eq_append_getElem (by omega), List.foldl_append]; rfl
      go_wp2
      go_round
      case rel => exact ⟨k + 1, by omega, by go_num, by rw [HS.out]; rfl⟩
      case measure => simp [intOf]; omega
    · obtain rfl : k = 4 := by omega
      go_wp2
      go_ret
      exact ⟨rfl, rfl⟩
def be4 (x : Int) : List UInt8 := [UInt8.ofNat (x / 16777216 % 256).toNat, UInt8.ofNat (x / 65536 % 256).toNat, UInt8.ofNat (x / 256 % 256).toNat, UInt8.ofNat (x % 256).toNat]
theorem ofNat_mod (y : Int) : ((UInt8.ofNat (y % 256).toNat).toNat : Int) = y % 256 := by
  rw [UInt8.toNat_ofNat']
  omega
theorem set4 : ∀ (o : Nat) (ys : List UInt8) (p q r s : UInt8), o + 4 ≤ ys.length → (((ys.set o p).set (o + 1) q).set (o + 2) r).set (o + 3) s = ys.take o ++ [p, q, r, s] ++ ys.drop (o + 4)
  | 0, a :: b :: c :: d :: rest, p, q, r, s, _ => rfl
  | o + 1, a :: t, p, q, r, s, h => by
    have := set4 o t p q r s (by simpa using h)
    simp only [List.set_cons_succ, List.take_succ_cons, List.cons_append, List.drop_succ_cons, this]
  | 0, [], _, _, _, _, h => by simp at h
  | 0, [_], _, _, _, _, h => by simp at h
  | 0, [_, _], _, _, _, _, h => by simp at h
  | 0, [_, _, _], _, _, _, _, h => by simp at h
  | o + 1, [], _, _, _, _, h => by simp at h
theorem put_any (g o n c : Nat) (x : Int) (ys : List UInt8) (w : World) (h0 : 0 ≤ x) (hx : x < 4294967296) (h4 : 4 ≤ n) (hn : n ≤ 9223372036854775807) (ho : o + 4 ≤ ys.length) (hy : w.heap[g]? = some (rowB ys)) :
    Calls Try.prog 56 #[.slice (some ⟨g, o, none⟩) n c, .int .u32 x] w fun e w' => e = .returned (.tuple #[]) ∧
      (((w.setCell ⟨g, o, none⟩ (.int .u8 (x / 16777216))).setCell ⟨g, o + 1, none⟩ (.int .u8 (x / 65536 % 256))).setCell ⟨g, o + 2, none⟩ (.int .u8 (x / 256 % 256))).setCell ⟨g, o + 3, none⟩ (.int .u8 (x % 256)) = w' := by
  have c0 := rowB_cell hy o (by omega)
  have c1 := rowB_cell hy (o + 1) (by omega)
  have c2 := rowB_cell hy (o + 2) (by omega)
  have c3 := rowB_cell hy (o + 3) (by omega)
  have f0 := rowB_frozen hy o
  have f1 := rowB_frozen hy (o + 1)
  have f2 := rowB_frozen hy (o + 2)
  have f3 := rowB_frozen hy (o + 3)
  clear hy
  go_enter Try.func56, Try.ntmps56
  go_wp2
  refine wp_loop_rounds 5 ?_
  iterate 5 (rw [rounds_succ]; go_wp2)
  go_end0
  exact ⟨rfl, rfl⟩
theorem put_row (g o n c : Nat) (x : Int) (ys : List UInt8) (w : World) (h0 : 0 ≤ x) (hx : x < 4294967296) (h4 : 4 ≤ n) (hn : n ≤ 9223372036854775807) (ho : o + 4 ≤ ys.length) (hy : w.heap[g]? = some (rowB ys)) :
    Calls Try.prog 56 #[.slice (some ⟨g, o, none⟩) n c, .int .u32 x] w fun e w' => e = .returned (.tuple #[]) ∧ w'.heap[g]? = some (rowB (putAt o (be4 x) ys)) ∧ Keeps (· = g) w w' := by
  refine (put_any g o n c x ys w h0 hx h4 hn ho hy).mono ?_
  rintro e w' ⟨rfl, rfl⟩
  refine ⟨rfl, ?_, ?_⟩
  · rw [show x / 16777216 = x / 16777216 % 256 by omega, ← ofNat_mod (x / 16777216), ← ofNat_mod (x / 65536), ← ofNat_mod (x / 256), ← ofNat_mod x]
    rw [rowB_set (rowB_set (rowB_set (rowB_set hy o _) (o + 1) _) (o + 2) _) (o + 3) _, set4 _ _ _ _ _ _ ho]
    rfl
  · have k : ∀ (W : World) (p : Addr) (v : Value), p.block = g → Keeps (· = g) W (W.setCell p v) := fun W p v h => Keeps.setCell W p v (.inl h)
    exact (((k _ _ _ rfl).trans (k _ _ _ rfl)).trans (k _ _ _ rfl)).trans (k _ _ _ rfl)
theorem sum_any (A : Option Addr) (c : Nat) (xs : List UInt8) (w : World) (hs : xs.length ≤ 9223372036854775807) (hx : RdB w A xs) :
    Calls Try.prog 58 #[.slice A xs.length c] w fun e w' => e = .returned (.int .u32 (crc 0 xs)) ∧ w = w' := by
  have HX := Lib.hid hx
  clear hx
  go_enter Try.func58, Try.ntmps58
  go_wp2_with (go_at_call 57; refine (ext_any _ _ _ _ _ hs HX.out).mono ?_; rintro e w' ⟨rfl, rfl⟩)
  go_ret
  exact ⟨rfl, rfl⟩
theorem bits32_range (op : BinOp) (a b : Int) : 0 ≤ bits op .u32 a b ∧ bits op .u32 a b < 4294967296 := by
  have h : ∀ y : Int, 0 ≤ IntKind.u32.wrap y ∧ IntKind.u32.wrap y < 4294967296 := fun y => by
    unfold IntKind.wrap
    simp [IntKind.signed, IntKind.bits]
    omega
  unfold bits
  split <;> exact h _
theorem crc_range (s : Int) (xs : List UInt8) : 0 ≤ crc s xs ∧ crc s xs < 4294967296 := bits32_range _ _ _
theorem rows1 (a b : List UInt8) (ha : a.length = 4) (n : Nat) (hb : b.length = n) : putAt 8 b (putAt 0 a (List.replicate (8 + n) 0)) = a ++ ([0, 0, 0, 0] ++ b) := by
  match a, ha with
  | [p, q, r, s], _ =>
    have e : List.replicate (8 + n) (0 : UInt8) = [0, 0, 0, 0, 0, 0, 0, 0] ++ List.replicate n 0 := by
      exact (List.replicate_append_replicate (n := 8)).symm
    rw [e]
    unfold putAt
    simp [hb]
    rw [show 8 + n = n + 1 + 1 + 1 + 1 + 1 + 1 + 1 + 1 by omega]
    simp
theorem rows2 (a b c z : List UInt8) (ha : a.length = 4) (hb : b.length = 4) (hz : z.length = 4) : putAt 4 b (a ++ (z ++ c)) = a ++ b ++ c := by
  match a, ha, b, hb, z, hz with
  | [p, q, r, s], _, [p1, q1, r1, s1], _, [p2, q2, r2, s2], _ => simp [putAt]
def frameOf (b : List UInt8) : List UInt8 := be4 b.length ++ be4 (crc (crc 0 (be4 b.length)) b) ++ b
theorem frame_big (A : Option Addr) (c : Nat) (xs : List UInt8) (w : World) (hs : xs.length ≤ 9223372036854775807) (hb : 65536 < xs.length) :
    Calls Try.prog 30 #[.slice A xs.length c] w fun e w' => e = .returned (.tuple #[.slice none 0 0, .int .i64 6]) ∧ w = w' := by
  go_enter Try.func30, Try.ntmps30
  go_wp2
  go_ret2
  exact ⟨rfl, rfl⟩
set_option maxRecDepth 100000 in
theorem frame_ok (A : Option Addr) (c : Nat) (xs : List UInt8) (w : World) (hb : xs.length ≤ 65536) (hx : RdB w A xs) :
    Calls Try.prog 30 #[.slice A xs.length c] w fun e w' => e = .returned (.tuple #[.slice (some ⟨w.heap.size, 0, none⟩) (8 + xs.length) (8 + xs.length), .int .i64 0]) ∧ w'.heap[w.heap.size]? = some (rowB (frameOf xs)) ∧ Below w.heap.size w w' := by
  have HX := Lib.hid hx
  clear hx
  have hmk := make_rowB (8 + xs.length) (by omega)
  rw [show ((8 + xs.length : Nat) : Int) = 8 + (xs.length : Int) by omega] at hmk
  go_enter Try.func30, Try.ntmps30
  go_wp2_with fail
  refine (put_row w.heap.size 0 _ _ _ (List.replicate (8 + xs.length) 0) _ (by omega) (by omega) (by omega) (by omega) (by simp; omega) (heap_alloc_new _ _)).mono ?_
  rintro e w1 ⟨rfl, hr1, hk1⟩
  have HR1 := Lib.hid hr1
  clear hr1
  have hsl := slice_l (some ⟨w.heap.size, 0, none⟩) (8 + xs.length) (8 + xs.length) 8 (by omega)
  simp only [show ((8 : Nat) : Int) = 8 from rfl] at hsl
  have hb1 : Below w.heap.size w w1 := below_keeps ((Below.refl _ _).alloc (Nat.le_refl _) _) hk1 (fun i _ h => by omega) (by simp)
  have HX1 := Lib.hid (HX.out.below hb1)
  clear hmk
  go_wp2_with (refine wpList_copyB (o := ⟨some 20, _, _, _, _, _⟩) rfl (.tmp 18) (.tmp 19) rfl _ _ _ _ _ _ rfl rfl w.heap.size 8 _ xs HR1.out HX1.out rfl ?c1 ?c2 ?c3)
  case c1 =>
    intro h0
    rw [show xs.length.min xs.length = xs.length from Nat.min_self _] at h0
    unfold offA
    rw [if_neg (by omega), Option.map_some, own_zero_add]
  case c2 =>
    rw [putAt_length _ _ _ (by simp [be4]; omega), List.length_replicate]
    exact Nat.add_le_add_left (Nat.min_le_left _ _) _
  case c3 =>
    intro w2 hr2 hk2
    have hb2 := below_keeps hb1 hk2 (fun i _ h => by omega) hb1.size
    have HX2 := Lib.hid (HX.out.below hb2)
    have HR2 := Lib.hid hr2
    clear hr2
    have hsa := slice_l (some ⟨w.heap.size, 0, none⟩) (8 + xs.length) (8 + xs.length) 4 (by omega)
    have hsb := slice_h (some ⟨w.heap.size, 0, none⟩) (8 + xs.length) (8 + xs.length) 4 (by omega)
    simp only [show ((4 : Nat) : Int) = 4 from rfl] at hsa hsb
    go_wp2_with fail
    have hf4 : RdB w2.drew (some ⟨w.heap.size, 0, none⟩) (be4 xs.length) := by
      have h := rowB_rd HR2.out 0
      rw [rows1 _ _ rfl _ rfl] at h
      have h2 := h.take 4
      exact h2
    have HF4 := Lib.hid hf4
    clear hf4
    refine wp_region_still_tail 7 (by kernel_rfl) (by kernel_rfl) ?_
    simp only [List.take_succ_cons, List.take_zero, List.drop_succ_cons, List.drop_zero]
    iterate 4 still_step
    still_call (calls_flip (sum_any _ _ (be4 xs.length) _ (by simp [be4]) HF4.out))
    still_step
    still_call (calls_flip (ext_any _ _ _ xs _ (by omega) HX2.out))
    refine wpStill_nil ?_
    change wpList _ _ _ _ _ w2.drew
    go_wp2_with fail
    have ho4 : offA (some ⟨w.heap.size, 0, none⟩) 4 (8 + xs.length) = some ⟨w.heap.size, 4, none⟩ := by
      unfold offA
      rw [if_neg (by omega), Option.map_some, own_zero_add]
    rw [ho4]
    refine (put_row w.heap.size 4 (8 + xs.length - 4) (8 + xs.length - 4) (crc (crc 0 (be4 xs.length)) xs) _ w2.drew (crc_range _ _).1 (crc_range _ _).2 (by omega) (by omega) ?_ HR2.out).mono ?_
    · rw [putAt_length, putAt_length]
      · simp
      · simp [be4]; omega
      · rw [putAt_length _ _ _ (by simp [be4]; omega), List.length_replicate]
        exact Nat.le_refl _
    rintro e w3 ⟨rfl, hr3, hk3⟩
    have HR3 := Lib.hid hr3
    clear hr3
    have hb3 : Below w.heap.size w w3 := below_keeps hb2.drew hk3 (fun i _ h => by omega) hb2.size
    go_wp2
    go_ret2
    refine ⟨rfl, ?_, hb3⟩
    rw [HR3.out]
    rw [rows1 _ _ rfl _ rfl, rows2 _ _ _ _ rfl rfl rfl]
    rfl
end Go.Proofs.Ytapgknaoieojkaa.Toll
