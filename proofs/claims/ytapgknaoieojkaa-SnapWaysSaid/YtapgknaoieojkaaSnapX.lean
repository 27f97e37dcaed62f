/- Walk: snap.Pieces. -/
import Derived.Test.YtapgknaoieojkaaSnapL
import Derived.WalkLawsBesides
set_option linter.unusedVariables false
set_option linter.unusedSimpArgs false
set_option maxRecDepth 100000
namespace Go.Proofs.Ytapgknaoieojkaa.Toll
open Go.RowKit
abbrev tBB : TypeId := 40
theorem tyBB : SlTy Try.prog tBB tB 1 24 (.slice none 0 0) := ⟨Try.underlying40, by kernel_rfl, rfl, by omega⟩
/-- Rows of bytes that lie in F. -/
def RowsF (F : Nat → Prop) (w : World) : List Value → List (List UInt8) → Prop
  | vs, [] => vs = []
  | vs, r :: rs => ∃ v t, vs = v :: t ∧ SlF F w v r ∧ RowsF F w t rs
theorem RowsF.keeps {F S : Nat → Prop} {w w' : World} (k : Keeps S w w') (hS : ∀ i, F i → U8 w i → ¬ S i) : ∀ {rs : List (List UInt8)} {vs : List Value}, RowsF F w vs rs → RowsF F w' vs rs
  | [], _, h => h
  | _ :: _, _, ⟨v, t, e, h, h'⟩ => ⟨v, t, e, h.keeps k hS, RowsF.keeps k hS h'⟩
theorem RowsF.below {F : Nat → Prop} {w w' : World} (b : Below w.heap.size w w') {rs : List (List UInt8)} {vs : List Value} (h : RowsF F w vs rs) : RowsF F w' vs rs := h.keeps (Keeps.of_new (S := fun _ => False) b) (fun _ _ _ => id)
theorem RowsF.snoc {F : Nat → Prop} {w : World} {r : List UInt8} {v : Value} (hb : SlF F w v r) : ∀ {rs : List (List UInt8)} {vs : List Value}, RowsF F w vs rs → RowsF F w (vs ++ [v]) (rs ++ [r])
  | [], _, h => by cases h; exact ⟨v, [], rfl, hb, rfl⟩
  | _ :: _, _, ⟨v', t, e, h, h'⟩ => ⟨v', _, by rw [e]; rfl, h, RowsF.snoc hb h'⟩
theorem RowsF.length {F : Nat → Prop} {w : World} : ∀ {rs : List (List UInt8)} {vs : List Value}, RowsF F w vs rs → vs.length = rs.length
  | [], _, h => by cases h; rfl
  | _ :: rs, _, ⟨v', t, e, h, h'⟩ => by rw [e]; simp [RowsF.length h']
theorem RowsF.get {F : Nat → Prop} {w : World} : ∀ {rs : List (List UInt8)} {vs : List Value}, RowsF F w vs rs → ∀ j (hj : j < rs.length), ∃ v, vs[j]? = some v ∧ SlF F w v rs[j]
  | [], _, h, j, hj => by simp at hj
  | r :: rs, _, ⟨v', t, e, h, h'⟩, 0, hj => ⟨v', by rw [e]; rfl, h⟩
  | r :: rs, _, ⟨v', t, e, h, h'⟩, j + 1, hj => by
    obtain ⟨v, h1, h2⟩ := RowsF.get h' j (by simpa using hj)
    exact ⟨v, by rw [e]; simpa using h1, h2⟩
/-- A piece. -/
def pieceF (b : List UInt8) (p n : Nat) : List UInt8 := numB b.length ++ numB p ++ (b.drop p).take n
/-- The first k pieces. -/
def pcs (b : List UInt8) (size k : Nat) : List (List UInt8) := (List.range k).map fun i => pieceF b (i * size) (min size (b.length - i * size))
theorem pcs_length (b : List UInt8) (size k : Nat) : (pcs b size k).length = k := by simp [pcs]
theorem pcs_succ (b : List UInt8) (size k : Nat) : pcs b size (k + 1) = pcs b size k ++ [pieceF b (k * size) (min size (b.length - k * size))] := by simp [pcs, List.range_succ]
structure PcsW (b : List UInt8) (size k base : Nat) (w : World) (v : Value) (wx : World) : Prop where
  ex : ∃ vs, OwV tB 1 base wx v k vs ∧ RowsF (fun i => base ≤ i) wx vs (pcs b size k) ∧ Below base w wx
theorem OwV.not_u8 {base : Nat} {w : World} {v : Value} {n : Nat} {vs : List Value} (h : OwV tB 1 base w v n vs) (hn : 0 < n) {i : Nat} (hu : U8 w i) : v.ownBlock ≠ some i := fun e => by
  obtain ⟨cur, hb⟩ := owns_type ((h.mono (Nat.zero_le _)).row hn) e
  exact hu.ne hb (by decide) rfl
theorem PcsW.first {b : List UInt8} {size base : Nat} {w w4 : World} {v4 : Value} (hb : base ≤ w4.heap.size) (B : Below base w w4) (o : OwB base w4 v4 (pieceF b 0 (min size b.length))) :
    PcsW b size 1 base w (.slice (some ⟨w4.heap.size, 0, none⟩) 1 1) (w4.alloc (.cells #[v4] tB)) := by
  have hs : SlF (fun i => base ≤ i) w4 v4 (pieceF b 0 (min size b.length)) := SlF.of_own o (fun i h _ => h)
  refine ⟨[v4], .inl ⟨rfl, .inr ⟨w4.heap.size, 1, #[v4], rfl, hb, heap_alloc_new w4 _, Nat.le_refl _, by decide, rfl, rfl⟩⟩, ?_, B.alloc hb _⟩
  refine ⟨v4, [], rfl, ?_, rfl⟩
  simp only [Nat.zero_mul, Nat.sub_zero]
  exact hs.keeps (Keeps.of_new (S := fun _ => False) ((Below.refl _ _).alloc (Nat.le_refl _) _)) (fun _ _ _ => id)
theorem PcsW.next {b : List UInt8} {size k base : Nat} {w wr w4 w5 : World} {v v4 v5 : Value} {vs : List Value} {o : Obj} (hk : 0 < k) (hb : base ≤ wr.heap.size) (ho : OwV tB 1 base wr v k vs) (hr : RowsF (fun i => base ≤ i) wr vs (pcs b size k)) (B0 : Below base w wr)
    (B : Below wr.heap.size wr w4) (o4 : OwB wr.heap.size w4 v4 (pieceF b (k * size) (min size (b.length - k * size)))) (o5 : OwV tB 1 base w5 v5 (k + 1) (vs ++ [v4])) (g5 : Grow base (w4.alloc o) v w5 v5) : PcsW b size (k + 1) base w v5 w5 := by
  have hs : SlF (fun i => base ≤ i) w4 v4 (pieceF b (k * size) (min size (b.length - k * size))) := SlF.of_own o4 (fun i h _ => Nat.le_trans hb h)
  have ba : Below w4.heap.size w4 (w4.alloc o) := (Below.refl _ _).alloc (Nat.le_refl _) _
  have hr2 : RowsF (fun i => base ≤ i) (w4.alloc o) (vs ++ [v4]) (pcs b size (k + 1)) := by
    rw [pcs_succ]
    exact ((hr.below B).snoc hs).below ba
  have ho2 : OwV tB 1 base (w4.alloc o) v k vs := (ho.below B).below ba
  exact ⟨vs ++ [v4], o5, hr2.keeps g5.keeps (fun i _ hu e => ho2.not_u8 hk hu e.2), (B0.trans ((B.trans (ba.mono B.size)).mono hb)).trans (g5.base (Nat.le_trans hb (Nat.le_trans B.size ba.size)) (Nat.le_refl _))⟩
structure PcsL (b : List UInt8) (size base : Nat) (w : World) (v i : Value) (wr : World) : Prop where
  ex : ∃ k : Nat, 1 ≤ k ∧ (k = 1 ∨ (k - 1) * size < b.length) ∧ i = .int .i64 ((min (k * size) b.length : Nat) : Int) ∧ PcsW b size k base w v wr
def PcsPost (b : List UInt8) (size : Nat) (w : World) (e : Ending) (w' : World) : Prop := ∃ k v, 1 ≤ k ∧ (k = 1 ∨ (k - 1) * size < b.length) ∧ b.length ≤ k * size ∧ e = .returned (.tuple #[v, .int .i64 0]) ∧ PcsW b size k w.heap.size w v w'
theorem rd_oneV (w : World) (v : Value) (t : TypeId) : RdV (w.alloc (.cells #[v] t)) (some ⟨w.heap.size, 0, none⟩) [v] := fun j hj => by
  simp at hj
  subst hj
  exact ⟨_, rfl, by rw [own_zero_add]; simp⟩
theorem wrap_in (n : Int) (h0 : -9223372036854775808 ≤ n) (h1 : n ≤ 9223372036854775807) : IntKind.i64.wrap n = n := by
  unfold IntKind.wrap
  simp [IntKind.signed, IntKind.bits]
  omega
theorem num_z (base : Nat) (v : Value) (xs : List UInt8) (w : World) (hv : OwB base w v xs) (hl : xs.length ≤ 1000000) (hb : base ≤ w.heap.size) :
    Calls Try.prog 29 #[v, .int .i64 0] w fun e w' => ∃ v', e = .returned v' ∧ OwB base w' v' (xs ++ numB 0) ∧ Grow base w v w' v' := num_any base v xs 0 w hv (by omega) hl hb
theorem Pieces_arg (A : Option Addr) (c : Nat) (b : List UInt8) (size : Int) (w : World) (hs : size < 1) :
    Calls Try.prog 13 #[.slice A b.length c, .int .i64 size] w fun e w' => e = .returned (.tuple #[.slice none 0 0, .int .i64 2]) ∧ w = w' := by
  have k1 : decide (size < 1) = true := by simp; omega
  go_enter Try.func13, Try.ntmps13
  go_wp2_with fail
  go_ret2
  exact ⟨rfl, rfl⟩
theorem Pieces_big (A : Option Addr) (c : Nat) (b : List UInt8) (size : Int) (w : World) (hs : 1 ≤ size) (hb : 32768 < b.length) :
    Calls Try.prog 13 #[.slice A b.length c, .int .i64 size] w fun e w' => e = .returned (.tuple #[.slice none 0 0, .int .i64 6]) ∧ w = w' := by
  have k1 : decide (size < 1) = false := by simp; omega
  have k2 : decide (32768 < (b.length : Int)) = true := by simp; omega
  go_enter Try.func13, Try.ntmps13
  go_wp2_with fail
  go_ret2
  exact ⟨rfl, rfl⟩
set_option maxHeartbeats 1000000 in
theorem Pieces_ok (A : Option Addr) (c : Nat) (b : List UInt8) (size : Nat) (w : World) (hb : b.length ≤ 32768) (hs : 1 ≤ size) (hsm : size ≤ 9223372036854775807) (hc : b.length ≤ c) (hcm : c ≤ 9223372036854775807) (hx : RdB w A b) :
    Calls Try.prog 13 #[.slice A b.length c, .int .i64 (size : Int)] w (PcsPost b size w) := by
  have HX := Lib.hid hx
  clear hx
  have k1 : decide ((size : Int) < 1) = false := by simp; omega
  have k2 : decide (32768 < (b.length : Int)) = false := by simp; omega
  obtain ⟨m, hm⟩ : ∃ m, m = min size b.length := ⟨_, rfl⟩
  have hmin : min (size : Int) (b.length : Int) = (m : Int) := by omega
  have hml : m ≤ b.length := by omega
  have hsl := slice_h A b.length c m (by omega)
  have HM := Lib.hid hm
  clear hm
  go_enter Try.func13, Try.ntmps13
  go_upto_region 5 with fail
  go_cut [6] (fun s6 wx => PcsW b size 1 w.heap.size w s6 wx)
  case first =>
    have hn1 := numB_length b.length (by omega)
    have hn0 := numB_length 0 (by omega)
    have hbl : b.length ≤ 1099511627776 := by omega
    have arm1 := num_any w.heap.size (.slice none 0 0) [] b.length w.drew (OwB.nil _ _) hbl (by simp) (Nat.le_refl _)
    have hl1 : ([] ++ numB b.length).length ≤ 1000000 := by simp; omega
    have htl : (b.take m).length = m := by rw [List.length_take]; omega
    have hl2 : ([] ++ numB b.length ++ numB 0).length + (b.take m).length ≤ 140737488355328 := by simp; omega
    have HTL := Lib.hid htl
    clear htl
    go_region_held3 (fun _ => True)
      (first | trivial)
      (first
        | (go_at_call_of 29 (Value.slice none 0 0); refine arm1.mono ?_; rintro e w2 ⟨v2, rfl, o2, g2⟩)
        | (go_at_call 29; refine (num_z w.heap.size v2 _ _ o2 hl1 g2.keeps.size).mono ?_; rintro e w3 ⟨v3, rfl, o3, g3⟩)
        | (refine step_appB w.heap.size rfl (.tmp 18) (.tmp 24) rfl v3 _ (b.take m) A m c rfl rfl HTL.out o3 ((HX.out.below (((Below.refl w.heap.size w).drew.trans (g2.base (Nat.le_refl _) (Nat.le_refl _))).trans (g3.base g2.keeps.size (Nat.le_refl _)))).take m) hl2 (Nat.le_trans g2.keeps.size g3.keeps.size) ?_; intro v4 w4 o4 g4; obtain ⟨A4, c4, rfl, _, _, hm4, _⟩ := o4.form))
    all_goals
      have hb4 : Below w.heap.size w w4 := (((Below.refl _ _).drew.trans (g2.base (Nat.le_refl _) (Nat.le_refl _))).trans (g3.base g2.keeps.size (Nat.le_refl _))).trans (g4.base (Nat.le_trans g2.keeps.size g3.keeps.size) (Nat.le_refl _))
      have e4 : [] ++ numB b.length ++ numB 0 ++ b.take m = pieceF b 0 (min size b.length) := by rw [← HM.out]; rfl
      have hl4 : (pieceF b 0 (min size b.length)).length = (numB b.length).length + ((numB 0).length + m) := by rw [← e4]; simp; omega
      have hF := PcsW.first (size := size) hb4.size hb4 (e4 ▸ o4)
      rw [hl4] at hF
      have HF := Lib.hid hF
      clear hl4 hF o2 g2 o3 g3 o4 g4 e4 hb4 arm1 hsl hmin
      go_wp2_with fail
      go_meet
      exact HF.out
  case rest =>
    have HC := Lib.hid hcut
    clear hcut
    go_wp2_with fail
    go_loopw [6, 7] (fun v i wr => PcsL b size w.heap.size w v i wr) (fun _ i _ => b.length - (intOf i).toNat)
    case atStart => exact ⟨1, Nat.le_refl _, .inl rfl, by rw [Nat.one_mul, ← HM.out], HC.out⟩
    case round =>
      obtain ⟨k, hk1, hk2, rfl, hw⟩ := hrel
      have HW := Lib.hid hw
      have hk2' := Lib.hid hk2
      clear hw hk2
      by_cases hlt : k * size < b.length
      · obtain ⟨p, hp⟩ : ∃ p, p = k * size := ⟨_, rfl⟩
        rw [← hp] at hlt
        rw [show min (k * size) b.length = p by omega]
        obtain ⟨m2, hm2⟩ : ∃ m2, m2 = min size (b.length - p) := ⟨_, rfl⟩
        have hm2' : min (size : Int) ((b.length - p : Nat) : Int) = (m2 : Int) := by omega
        have hw1 : IntKind.i64.wrap ((b.length : Int) - (p : Int)) = ((b.length - p : Nat) : Int) := by rw [wrap_in _ (by omega) (by omega)]; omega
        have hw2 : IntKind.i64.wrap ((p : Int) + (m2 : Int)) = (p : Int) + (m2 : Int) := wrap_in _ (by omega) (by omega)
        have hsl2 := slice_lh A b.length c p (p + m2) (by omega) (by omega)
        rw [show p + m2 - p = m2 by omega, show (((p + m2 : Nat)) : Int) = (p : Int) + (m2 : Int) by omega] at hsl2
        have HP := Lib.hid hp
        have HM2 := Lib.hid hm2
        clear hp hm2
        have hkk : 0 < k := hk1
        obtain ⟨vs, ho, hr, hB⟩ := HW.out
        have HO := Lib.hid ho
        have HR := Lib.hid hr
        have HBB := Lib.hid hB
        have hvl := hr.length
        rw [pcs_length] at hvl
        obtain ⟨PA, pc, rfl, _, _, _, hpm, _⟩ := ho.form
        have hn1 := numB_length b.length (by omega)
        have hn0 := numB_length p (by omega)
        have hbl : b.length ≤ 1099511627776 := by omega
        have hpl : p ≤ 1099511627776 := by omega
        have hkp : k ≤ 32768 := by
          have h1 := hk2'.out
          have h2 : (k - 1) * 1 ≤ (k - 1) * size := Nat.mul_le_mul_left _ hs
          omega
        have arm1 := num_any wr.heap.size (.slice none 0 0) [] b.length wr.drew (OwB.nil _ _) hbl (by simp) (Nat.le_refl _)
        have hl1 : ([] ++ numB b.length).length ≤ 1000000 := by simp; omega
        have htl : ((b.drop p).take m2).length = m2 := by rw [List.length_take, List.length_drop]; omega
        have hl2 : ([] ++ numB b.length ++ numB p).length + ((b.drop p).take m2).length ≤ 140737488355328 := by simp; omega
        have HTL := Lib.hid htl
        have hxs : ∀ W, Below wr.heap.size wr W → RdB W (offA A p c) ((b.drop p).take m2) := fun W hW => (((HX.out.below HBB.out).below hW).off p c hc).take m2
        have HXS := Lib.hid hxs
        have hgr : ∀ (w4 : World) (v : Value), Below wr.heap.size wr w4 → OwV tB 1 w.heap.size (w4.alloc (.cells #[v] tB)) (.slice PA k pc) k vs ∧ w.heap.size ≤ (w4.alloc (.cells #[v] tB)).heap.size := fun w4 v b4 =>
          ⟨(HO.out.below b4).below ((Below.refl _ _).alloc (Nat.le_refl _) _), Nat.le_trans HBB.out.size (Nat.le_trans b4.size (by simp))⟩
        have HGR := Lib.hid hgr
        have hl5 : (k + 1) * 24 ≤ 140737488355328 := by omega
        have hl6 : k + 1 ≤ 140737488355328 := by omega
        clear htl hxs hgr ho hr hB
        go_wp2_with fail
        go_region_held3 (fun _ => True)
          (first | trivial)
          (first
            | (go_at_call_of 29 (Value.slice none 0 0); refine arm1.mono ?_; rintro e w2 ⟨v2, rfl, o2, g2⟩)
            | (go_at_call 29; refine (num_any wr.heap.size v2 _ p _ o2 hpl hl1 g2.keeps.size).mono ?_; rintro e w3 ⟨v3, rfl, o3, g3⟩)
            | (refine step_appB wr.heap.size rfl (.tmp 48) (.tmp 59) rfl v3 _ ((b.drop p).take m2) (offA A p c) m2 (c - p) rfl rfl HTL.out o3 (HXS.out _ (((Below.refl wr.heap.size wr).drew.trans (g2.base (Nat.le_refl _) (Nat.le_refl _))).trans (g3.base g2.keeps.size (Nat.le_refl _)))) hl2 (Nat.le_trans g2.keeps.size g3.keeps.size) ?_; intro v4 w4 o4 g4; obtain ⟨A4, c4, rfl, _, _, hm4, _⟩ := o4.form)
            | (refine step_appV tyBB w.heap.size rfl (.tmp 43) (.tmp 61) rfl _ k 1 vs [_] _ 1 rfl rfl (HGR.out w4 _ ((((Below.refl wr.heap.size wr).drew.trans (g2.base (Nat.le_refl _) (Nat.le_refl _))).trans (g3.base g2.keeps.size (Nat.le_refl _))).trans (g4.base (Nat.le_trans g2.keeps.size g3.keeps.size) (Nat.le_refl _)))).1 (rd_oneV _ _ _) rfl (by simp [Value.oneCell']) hl5 hl6 (HGR.out w4 _ ((((Below.refl wr.heap.size wr).drew.trans (g2.base (Nat.le_refl _) (Nat.le_refl _))).trans (g3.base g2.keeps.size (Nat.le_refl _))).trans (g4.base (Nat.le_trans g2.keeps.size g3.keeps.size) (Nat.le_refl _)))).2 ?_; intro v5 w5 o5 g5; obtain ⟨A5, c5, rfl, _, _, _, hm5, _⟩ := o5.form))
        all_goals
          have hb4 : Below wr.heap.size wr w4 := (((Below.refl wr.heap.size wr).drew.trans (g2.base (Nat.le_refl _) (Nat.le_refl _))).trans (g3.base g2.keeps.size (Nat.le_refl _))).trans (g4.base (Nat.le_trans g2.keeps.size g3.keeps.size) (Nat.le_refl _))
          have e4 : [] ++ numB b.length ++ numB p ++ (b.drop p).take m2 = pieceF b (k * size) (min size (b.length - k * size)) := by rw [← HP.out, ← HM2.out]; rfl
          have hl4 : ([] ++ numB b.length ++ numB p ++ (b.drop p).take m2).length = (numB b.length).length + ((numB p).length + min m2 (b.length - p)) := by simp
          have o4' := o4
          rw [hl4, e4] at o4'
          have hW := PcsW.next hkk HBB.out.size HO.out HR.out HBB.out hb4 o4' o5 g5
          have hF : PcsL b size w.heap.size w (.slice A5 (k + 1) c5) (.int .i64 ((p : Int) + (m2 : Int))) w5 := by
            refine ⟨k + 1, by omega, .inr (by rw [Nat.add_sub_cancel, ← HP.out]; exact hlt), ?_, hW⟩
            have h1 := HP.out
            have h2 := HM2.out
            rw [Nat.succ_mul]
            congr 1
            omega
          have HF := Lib.hid hF
          have hm2p : 0 < m2 := by have h2 := HM2.out; omega
          have hm3 : min (size : Int) ((b.length : Int) - (p : Int)) = (m2 : Int) := by have h2 := HM2.out; omega
          have hm4 : p + m2 ≤ b.length := by omega
          clear o2 g2 o3 g3 o4 o4' g4 o5 g5 e4 hl4 hW hF hb4 arm1 hsl hsl2
          go_wp2_with fail
          exact ⟨HF.out, by simp [intOf]; omega⟩
      · rw [show min (k * size) b.length = b.length by omega]
        have HPO : Hid (PcsPost b size w (.returned (.tuple #[u6, .int .i64 0])) wr) := ⟨k, _, hk1, hk2'.out, by omega, rfl, HW.out⟩
        go_wp2_with fail
        go_ret2
        exact HPO.out
end Go.Proofs.Ytapgknaoieojkaa.Toll
