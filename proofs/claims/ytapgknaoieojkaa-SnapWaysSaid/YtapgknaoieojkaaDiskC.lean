/- Walks: slices.Clone of bytes, disk.lay, disk.named. -/
import Derived.Test.YtapgknaoieojkaaFrameN
import Derived.Lib.BufferMore
set_option linter.unusedVariables false
set_option linter.unusedSimpArgs false
set_option maxRecDepth 100000
namespace Go.Proofs.Ytapgknaoieojkaa.Toll
open Go.RowKit
/-- slices.Clone of bytes. -/
theorem clone_any (A : Option Addr) (c : Nat) (xs : List UInt8) (w : World) (hs : xs.length ≤ 140737488355328) (hx : RdB w A xs) :
    Calls Try.prog 44 #[.slice A xs.length c] w fun e w' => ∃ v, e = .returned v ∧ OwB w.heap.size w' v xs ∧ Below w.heap.size w w' := by
  rcases A with _ | ad
  · obtain rfl : xs = [] := by
      rcases xs with _ | ⟨x, xs⟩
      · rfl
      · obtain ⟨_, e, _⟩ := hx 0 (by simp)
        cases e
    go_enter Try.func44, Try.ntmps44
    have hnil : ∀ W, (binOp .eql tB (.slice none 0 c) (.slice none 0 0)).run Try.prog W = .ok (.bool true) W := fun W => Lib.run_eql_slice_nil_nil W _ _ underB
    go_wp2
    go_ret
    exact ⟨_, rfl, OwB.nil _ _, Below.refl _ _⟩
  · have HX := Lib.hid hx
    clear hx
    have hnil : ∀ W, (binOp .eql tB (.slice (some ad) xs.length c) (.slice none 0 0)).run Try.prog W = .ok (.bool false) W := fun W => Lib.run_eql_slice_some_nil W _ _ _ underB
    go_enter Try.func44, Try.ntmps44
    go_wp2_with (at_builtin; refine wpList_appB w.heap.size rfl (.tmp 5) (.tmp 6) rfl _ [] xs _ _ _ rfl rfl rfl (OwB.zero _ _ _) (HX.out.below ((Below.refl _ _).alloc (Nat.le_refl _) _)) ?c3 ?c4 ?c5)
    case c3 => simpa using hs
    case c4 => simp
    case c5 =>
      intro v1 w1 o1 g1
      have hb : Below w.heap.size w w1 := ((Below.refl _ _).alloc (Nat.le_refl _) _).trans (g1.base (by simp) (Nat.le_refl _))
      have O1 := Lib.hid o1
      clear o1 g1
      go_wp2
      go_ret
      exact ⟨_, rfl, O1.out, hb⟩
section
variable {ops : Array Oper} {rest : List Oper} {o : Oper} {a : Act} {Q : Exit → Act → World → Prop}
/-- copy into a row of one's own. -/
theorem wpList_copyOw {w : World} (base : Nat) (hgd : o.guard = none) (d s : Operand) (ho : o.op = .call { callee := .builtin .copy, args := #[d, s], argTypes := #[tB, tB] })
    (A sp : Option Addr) (c at_ sCap : Nat) (old xs : List UInt8) (hat : at_ ≤ old.length) (hd : a.eval d = .slice (offA A at_ c) (old.length - at_) (c - at_)) (hs : a.eval s = .slice sp xs.length sCap)
    (h : OwB base w (.slice A old.length c) old) (hx : RdB w sp xs)
    (hK : ∀ w', OwB base w' (.slice A old.length c) (putAt at_ (xs.take (Nat.min xs.length (old.length - at_))) old) → Grow base w (.slice A old.length c) w' (.slice A old.length c) → wpList Try.prog ops Q rest (a.put o.dst (.int .i64 (Nat.min xs.length (old.length - at_) : Nat))) w') :
    wpList Try.prog ops Q (o :: rest) a w := by
  obtain ⟨m, hm⟩ : ∃ m, m = Nat.min xs.length (old.length - at_) := ⟨_, rfl⟩
  have hm1 : m ≤ xs.length := by rw [hm]; exact Nat.min_le_left _ _
  have hm2 : m ≤ old.length - at_ := by rw [hm]; exact Nat.min_le_right _ _
  rw [← hm] at hK
  by_cases h0 : m = 0
  · refine wpList_copy_nothing hgd d s tB tB ho uB Try.underlying27 size1B _ sp _ _ _ sCap hd hs (hm.symm.trans h0) ?_
    have := hK w (by rw [h0]; simpa [putAt] using h) (Grow.refl _ _ _)
    rw [h0] at this
    exact this
  · rcases h with h | ⟨rfl, _⟩
    · obtain ⟨hl, ⟨_, hn⟩ | ⟨g, cap, cur, e, hb, hg, hnc, hcm, hcs, htake⟩⟩ := h
      · omega
      · cases e
        have hoff : offA (some ⟨g, 0, none⟩) at_ c = some ⟨g, at_, none⟩ := by
          unfold offA
          rw [if_neg (by omega), Option.map_some, own_zero_add]
        rw [hoff] at hd
        have hsp : 0 < (xs.take m).length := by rw [List.length_take]; omega
        have hlen : (u8s (xs.take m)).length = m := by rw [u8s_length, List.length_take]; omega
        obtain ⟨ad, rfl, hc⟩ := (hx.take m).cells hsp
        have hrow : ((u8s old).take at_ ++ u8s (xs.take m) ++ (u8s old).drop (at_ + m)) = u8s (putAt at_ (xs.take m) old) := by
          simp only [putAt, u8s, List.map_append, List.map_take, List.map_drop, List.length_take]
          rw [show min m xs.length = m by omega]
        have hcur : cur.toList = u8s old ++ cur.toList.drop old.length := by
          rw [Nat.mul_one] at htake
          conv => lhs; rw [← List.take_append_drop old.length cur.toList, htake]
        refine wpList_copy_own hgd d s tB tB ho uB Try.underlying27 size1B g at_ _ _ ad _ sCap hd hs cur uB hg (u8s (xs.take m)) (hlen.trans hm) hc (by rw [hlen, hcs]; omega) (u8s_one _) ?_
        rw [hlen]
        have hpl : (putAt at_ (xs.take m) old).length = old.length := putAt_length _ _ _ (by rw [List.length_take]; omega)
        refine hK _ (.inl ⟨by rw [u8s_length, Nat.mul_one], .inr ⟨g, c, _, by rw [hpl], hb, setRow_heap w g cur _ uB _ hg, by rw [hpl]; exact hnc, hcm, ?_, ?_⟩⟩) ⟨⟨rfl, rfl, rfl, by simp [World.setRow], fun k _ hk => setRow_other w g k _ (fun e => hk ⟨e ▸ hb, by rw [e]; rfl⟩)⟩, fun i e _ => .inl e⟩
        · have := congrArg List.length hcur
          simp [u8s_length] at this ⊢
          omega
        · rw [hpl, Nat.mul_one]
          rw [← hrow]
          have hul : (u8s old).length = old.length := u8s_length _
          have ht : cur.toList.take at_ = (u8s old).take at_ := by
            rw [hcur, List.take_append_of_le_length (by omega)]
          have hdr : cur.toList.drop (at_ + m) = (u8s old).drop (at_ + m) ++ cur.toList.drop old.length := by
            rw [hcur, List.drop_append_of_le_length (by omega)]
            congr 1
            rw [← hcur]
          simp only [List.toList_toArray, ht, hdr, ← List.append_assoc]
          rw [List.take_append_of_le_length (by simp; omega)]
          refine List.take_of_length_le (by simp [hlen]; omega)
    · simp at hm2; omega
end
/-- disk.lay. -/
def layF (old : List UInt8) (at_ : Nat) (b : List UInt8) : List UInt8 := old.take at_ ++ b ++ old.drop (at_ + b.length)
theorem layF_cut (old b : List UInt8) (at_ m : Nat) (hat : at_ ≤ old.length) (hm : m = Nat.min b.length (old.length - at_)) : putAt at_ (b.take m) old ++ b.drop m = layF old at_ b := by
  have hm' : m = min b.length (old.length - at_) := hm
  unfold putAt layF
  rw [List.length_take, show min m b.length = m by omega]
  by_cases h : b.length ≤ old.length - at_
  · have : m = b.length := by omega
    subst this
    simp
  · have : m = old.length - at_ := by omega
    rw [this, show at_ + (old.length - at_) = old.length by omega]
    simp only [List.drop_length, List.append_nil, List.append_assoc, List.take_append_drop]
    rw [List.drop_of_length_le (by omega)]
    simp
set_option maxHeartbeats 2000000 in
theorem lay_any (A B : Option Addr) (c cb : Nat) (old b : List UInt8) (at_ : Nat) (w : World) (ho : old.length ≤ 4294967296) (hb : b.length ≤ 4294967296) (hcb : b.length ≤ cb) (hcm : cb ≤ 9223372036854775807) (hat : at_ ≤ old.length) (hA : RdB w A old) (hB : RdB w B b) :
    Calls Try.prog 43 #[.slice A old.length c, .int .i64 (at_ : Int), .slice B b.length cb] w fun e w' => ∃ v, e = .returned v ∧ OwB w.heap.size w' v (layF old at_ b) ∧ Below w.heap.size w w' := by
  have HA := Lib.hid hA
  have HB := Lib.hid hB
  clear hA hB
  go_enter Try.func43, Try.ntmps43
  go_wp2_with fail
  refine (clone_any A c old w (by omega) HA.out).mono ?_
  rintro e w1 ⟨v1, rfl, o1, b1⟩
  obtain ⟨A1, c1, rfl, _, hc1, hm1, _⟩ := o1.form
  have O1 := Lib.hid o1
  have B1 := Lib.hid b1
  have HB1 := Lib.hid (HB.out.below b1)
  clear o1 b1
  have hsl := slice_l A1 old.length c1 at_ hat
  go_wp2_with (refine wpList_copyOw (o := ⟨some 15, _, _, _, _, _⟩) w.heap.size rfl (.tmp 13) (.tmp 14) rfl A1 B c1 at_ cb old b hat rfl rfl O1.out HB1.out ?c3)
  case c3 =>
    intro w2 o2 g2
    obtain ⟨m, hm⟩ : ∃ m, m = Nat.min b.length (old.length - at_) := ⟨_, rfl⟩
    have hm1 : m ≤ b.length := by rw [hm]; exact Nat.min_le_left _ _
    rw [← hm] at o2 ⊢
    have HM := Lib.hid hm
    clear hm
    have hb2 : Below w.heap.size w w2 := B1.out.trans (g2.base B1.out.size (Nat.le_refl _))
    have O2 := Lib.hid o2
    have HB2 := Lib.hid hb2
    have HBo : RdB w2 (offA B m cb) (b.drop m) := (HB.out.below hb2).off m cb hcb
    have HBO := Lib.hid HBo
    have hlen := o2.form
    obtain ⟨_, _, e2, _⟩ := hlen
    injection e2 with _ el _
    have EL := Lib.hid el
    clear o2 g2 hb2 HBo el
    have hsl2 := slice_l B b.length cb m hm1
    go_wp2_with (at_builtin; refine wpList_appB w.heap.size rfl (.tmp 16) (.tmp 19) rfl _ _ (b.drop m) _ _ _ rfl rfl (by simp) O2.out HBO.out ?d3 HB2.out.size ?d5)
    case d3 => rw [← EL.out]; simp; omega
    case d5 =>
      intro v3 w3 o3 g3
      rw [layF_cut old b at_ m hat HM.out] at o3
      have O3 := Lib.hid o3
      have HB3 := Lib.hid (HB2.out.trans (g3.base HB2.out.size (Nat.le_refl _)))
      clear o3 g3
      go_wp2_with fail
      go_ret
      exact ⟨_, rfl, O3.out, HB3.out⟩
/-- a character of a name -/
def nameC (c : UInt8) : Bool := decide ((97 ≤ c.toNat ∧ c.toNat ≤ 122) ∨ (48 ≤ c.toNat ∧ c.toNat ≤ 57) ∨ c.toNat = 45 ∨ c.toNat = 46)
/-- disk.named. -/
def namedF (k : ByteArray) : Bool := decide (k.size ≠ 0) && decide (k.size ≤ 64) && k.data.toList.all nameC
theorem named_bad (k : ByteArray) (j : Nat) (hj : j < k.size) (h : nameC k[j] = false) : namedF k = false := by
  have : k.data.toList.all nameC = false := by
    rw [List.all_eq_false]
    refine ⟨k[j], ?_, by simp [h]⟩
    have : k[j] = k.data.toList[j]'(by simpa using hj) := rfl
    rw [this]
    exact List.getElem_mem _
  simp [namedF, this]
theorem named_good (k : ByteArray) (h0 : ¬ k.size = 0) (h1 : k.size ≤ 64) (h : (k.data.toList.take k.size).all nameC = true) : namedF k = true := by
  have e : k.data.toList.take k.size = k.data.toList := List.take_of_length_le (by rw [Array.length_toList]; exact Nat.le_refl _)
  rw [e] at h
  have h0' : decide (k.size ≠ 0) = true := decide_eq_true h0
  simp only [namedF, h0', decide_eq_true h1, h, Bool.and_self]
theorem named_any (k : ByteArray) (w : World) (hk : k.size ≤ 9223372036854775807) :
    Calls Try.prog 41 #[.string k] w fun e w' => e = .returned (.bool (namedF k)) ∧ w = w' := by
  by_cases h0 : k.size = 0
  · have h0' : ((k.size : Int) == 0) = true := by simp [h0]
    go_enter Try.func41, Try.ntmps41
    go_wp2
    go_ret
    exact ⟨by simp [namedF, h0], rfl⟩
  · have h0' : ((k.size : Int) == 0) = false := by simp only [beq_eq_false_iff_ne]; omega
    by_cases h1 : k.size ≤ 64
    · have h1' : decide (64 < (k.size : Int)) = false := by simp; omega
      go_enter Try.func41, Try.ntmps41
      go_wp2
      go_loop [15] (fun i => ∃ j : Nat, j ≤ k.size ∧ i = .int .i64 j ∧ (k.data.toList.take j).all nameC = true) (fun i => k.size - (intOf i).toNat)
      case atStart => exact ⟨0, Nat.zero_le _, rfl, rfl⟩
      case round =>
        obtain ⟨j, hj, rfl, hall⟩ := hrel
        by_cases hlt : j < k.size
        · have hget : k.data.toList.take (j + 1) = k.data.toList.take j ++ [k[j]] := by
            rw [List.take_succ_eq_append_getElem (by simpa using hlt)]; rfl
          have HG := Lib.hid hget
          have HALL := Lib.hid hall
          clear hget hall
          go_wp2
          all_goals first
            | (refine ⟨⟨j + 1, by omega, rfl, ?_⟩, ?_⟩
               · rw [HG.out, List.all_append, HALL.out]
                 simp_all [nameC]
                 try omega
               · simp [intOf]; omega)
            | (go_ret
               refine ⟨?_, rfl⟩
               rw [named_bad k j hlt (by simp_all [nameC]; try omega)]
               rfl)
        · obtain rfl : j = k.size := by omega
          go_wp2
          go_ret
          exact ⟨by rw [named_good k h0 h1 hall]; rfl, rfl⟩
    · have h1' : decide (64 < (k.size : Int)) = true := by simp; omega
      go_enter Try.func41, Try.ntmps41
      go_wp2
      go_ret
      exact ⟨by simp [namedF, h1], rfl⟩
end Go.Proofs.Ytapgknaoieojkaa.Toll
