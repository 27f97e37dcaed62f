/- Walks: member.list, member.Get. -/
import Derived.Test.YtapgknaoieojkaaMemB
set_option linter.unusedVariables false
set_option linter.unusedSimpArgs false
set_option maxRecDepth 100000
namespace Go.Proofs.Ytapgknaoieojkaa.Toll
open Go.RowKit
theorem take_ok (A : Option Addr) (c : Nat) (xs : List UInt8) (q : Int) (p n m : Nat) (w : World) (hs : xs.length ≤ 9223372036854775807) (hq : q = (p : Int)) (hat : p ≤ xs.length) (hx : RdB w A xs) (h : takeF (xs.drop p) = .ok (n, m)) :
    Calls Try.prog 52 #[.slice A xs.length c, .int .i64 q] w fun e w' => e = .returned (.tuple #[.int .i64 (n : Int), .int .i64 (q + (m : Int)), .int .i64 0]) ∧ w = w' := by
  subst hq
  refine (take_any A c xs p w hs (by omega) hx).mono ?_
  rintro e w' ⟨hr, rfl⟩
  unfold TakeR at hr
  rw [h] at hr
  exact ⟨hr, rfl⟩
theorem take_err (A : Option Addr) (c : Nat) (xs : List UInt8) (q : Int) (p : Nat) (k : Int) (w : World) (hs : xs.length ≤ 9223372036854775807) (hq : q = (p : Int)) (hat : p ≤ xs.length) (hx : RdB w A xs) (h : takeF (xs.drop p) = .error k) :
    Calls Try.prog 52 #[.slice A xs.length c, .int .i64 q] w fun e w' => e = .returned (.tuple #[.int .i64 0, .int .i64 0, .int .i64 k]) ∧ w = w' := by
  subst hq
  refine (take_any A c xs p w hs (by omega) hx).mono ?_
  rintro e w' ⟨hr, rfl⟩
  unfold TakeR at hr
  rw [h] at hr
  exact ⟨hr, rfl⟩
/-- What member.list answers. -/
def ListR (ys : List UInt8) (at_ : Nat) (w : World) (e : Ending) (w' : World) : Prop := Below w.heap.size w w' ∧ (match listF ys with
  | .error k => ∃ A n c q, e = .returned (.tuple #[.slice A n c, .int .i64 q, .int .i64 k])
  | .ok (l, q) => ∃ A c, e = .returned (.tuple #[.slice A l.length c, .int .i64 ((at_ + q : Nat) : Int), .int .i64 0]) ∧ OwV 3 1 w.heap.size w' (.slice A l.length c) l.length (i64s l))
theorem ListR.err {ys : List UInt8} {at_ : Nat} {w w' : World} {k q : Int} {A : Option Addr} {n c : Nat} (h : listF ys = .error k) (hb : Below w.heap.size w w') : ListR ys at_ w (.returned (.tuple #[.slice A n c, .int .i64 q, .int .i64 k])) w' := by
  unfold ListR; rw [h]; exact ⟨hb, A, n, c, q, rfl⟩
theorem ListR.ok {ys : List UInt8} {at_ q : Nat} {w w' : World} {l : List Int} {A : Option Addr} {c : Nat} (h : listF ys = .ok (l, q)) (hb : Below w.heap.size w w') (ho : OwV 3 1 w.heap.size w' (.slice A l.length c) l.length (i64s l)) : ListR ys at_ w (.returned (.tuple #[.slice A l.length c, .int .i64 ((at_ + q : Nat) : Int), .int .i64 0])) w' := by
  unfold ListR; rw [h]; exact ⟨hb, A, c, rfl, ho⟩
set_option maxHeartbeats 1000000 in
theorem list_any (A : Option Addr) (c : Nat) (xs : List UInt8) (at_ : Nat) (w : World) (hs : xs.length ≤ 9223372036854775807) (hat : at_ ≤ xs.length) (hx : RdB w A xs) :
    Calls Try.prog 60 #[.slice A xs.length c, .int .i64 at_] w (ListR (xs.drop at_) at_ w) := by
  have HX := Lib.hid hx
  clear hx
  cases ht : takeF (xs.drop at_) with
  | error k =>
    have hk := takeF_err ht
    have HF : Hid (listF (xs.drop at_) = .error k) := by show _ = _; unfold listF; rw [ht]
    have HT := Lib.hid ht
    have hk0 : (k == 0) = false := by simp; omega
    clear ht
    go_enter Try.func60, Try.ntmps60
    go_wp2_with fail
    refine (take_err A c xs _ at_ k _ hs rfl (by omega) HX.out HT.out).mono ?_
    rintro e w' ⟨rfl, rfl⟩
    go_wp2_with fail
    refine wp_loop_rounds 1 ?_
    rw [rounds_succ]
    go_wp2_with fail
    go_ret3
    exact ListR.err HF.out (Below.refl _ _)
  | ok r =>
    obtain ⟨n, m⟩ := r
    have hm := takeF_le ht
    have HT := Lib.hid ht
    by_cases h9 : 9 < n
    · have HF : Hid (listF (xs.drop at_) = .error 4) := by show _ = _; unfold listF; rw [ht]; exact if_pos h9
      have h9' : decide (9 < (n : Int)) = true := by simp; omega
      clear ht
      go_enter Try.func60, Try.ntmps60
      go_wp2_with fail
      refine (take_ok A c xs _ at_ n m _ hs rfl (by omega) HX.out HT.out).mono ?_
      rintro e w' ⟨rfl, rfl⟩
      go_wp2_with fail
      refine wp_loop_rounds 1 ?_
      rw [rounds_succ]
      go_wp2_with fail
      go_ret3
      exact ListR.err HF.out (Below.refl _ _)
    · have HF : Hid (listF (xs.drop at_) = listG n m (xs.drop at_)) := by show _ = _; unfold listF; rw [ht]; exact if_neg h9
      have h9' : decide (9 < (n : Int)) = false := by simp; omega
      have hml : at_ + m ≤ xs.length := by have := hm.2.1; simp at this; omega
      clear ht
      go_enter Try.func60, Try.ntmps60
      go_wp2_with fail
      refine (take_ok A c xs _ at_ n m _ hs rfl (by omega) HX.out HT.out).mono ?_
      rintro e w' ⟨rfl, rfl⟩
      go_wp2_with fail
      generalize hys : xs.drop at_ = ys at *
      have hyl : ys.length = xs.length - at_ := by rw [← hys]; exact List.length_drop
      have hyd : ∀ q, xs.drop (at_ + q) = ys.drop q := fun q => by rw [← hys, List.drop_drop]
      have HYD := Lib.hid hyd
      have HYL := Lib.hid hyl
      clear hys hyd hyl HT
      go_loopw [1, 8, 9, 10] (fun q er o i wr => ∃ (k : Nat) (en : Int), i = .int .i64 k ∧ k ≤ n ∧ er = .int .i64 en ∧ Below w.heap.size w wr ∧
          ((Hid (en = 0) ∧ ∃ (p : Nat) (l : List Int), q = .int .i64 (at_ + p : Nat) ∧ at_ + p ≤ xs.length ∧ OwV 3 1 w.heap.size wr o k (i64s l) ∧ Hid (l.length = k) ∧ Hid (listG n m ys = after l (listG (n - k) p ys))) ∨
           (Hid (en = 3 ∨ en = 4 ∨ en = 6) ∧ (∃ qq, q = .int .i64 qq) ∧ (∃ A n c, o = .slice A n c) ∧ Hid (listG n m ys = .error en)))) (fun _ _ _ i _ => n - (intOf i).toNat)
      case atStart => exact ⟨0, 0, rfl, Nat.zero_le _, rfl, Below.refl _ _, .inl ⟨rfl, m, [], by go_num, by omega, OwV.nil _ _ _ _, rfl, by show _ = _; rw [after_nil]; rfl⟩⟩
      case round =>
        obtain ⟨k, en, rfl, hk, rfl, hb, hcase⟩ := hrel
        have HB := Lib.hid hb
        have hsz := hb.size
        clear hb
        rcases hcase with ⟨hen, p, l, rfl, hp, ho, hlk, hl⟩ | ⟨hen, ⟨qq, rfl⟩, ⟨A1, n1, c1, rfl⟩, hl⟩
        · have hen' := hen.out
          subst hen'
          have HO := Lib.hid ho
          obtain ⟨A1, c1, rfl, _⟩ := ho.form
          clear ho hen
          by_cases hlt : k < n
          · have hsub : n - k = (n - (k + 1)) + 1 := by omega
            have HSUB := Lib.hid hsub
            clear hsub
            cases ht2 : takeF (ys.drop p) with
            | error e2 =>
              have he2 := takeF_err ht2
              have HE2 := Lib.hid he2
              have HG : Hid (listG n m ys = .error e2) := by
                show _ = _
                rw [hl.out, HSUB.out, listG_err ht2]; rfl
              have HT2 : Hid (takeF (xs.drop (at_ + p)) = .error e2) := by show _ = _; rw [HYD.out]; exact ht2
              clear ht2 he2
              go_wp2_with fail
              refine (take_err A c xs _ (at_ + p) e2 _ hs (by omega) (by omega) (HX.out.below HB.out) HT2.out).mono ?_
              rintro e w' ⟨rfl, rfl⟩
              go_wp2_with (at_builtin; refine wpList_appV tyI w.heap.size rfl (.tmp 41) (.tmp 43) rfl _ k 1 (i64s l) (i64s [0]) _ 1 rfl rfl ?c1 ?c2 rfl (i64s_one _) ?c3 ?c4 ?c5 ?c6)
              case c1 => exact HO.out.below ((Below.refl _ _).alloc (Nat.le_refl _) _)
              case c2 => exact rdI_one _ _ _
              case c3 => omega
              case c4 => omega
              case c5 => simp; omega
              case c6 =>
                intro v1 w1 h1 g1
                have HB1 : Hid (Below w.heap.size w w1) := (HB.out.alloc hsz _).trans (g1.base (by simp; omega) (Nat.le_refl _))
                obtain ⟨A2, c2, rfl, _⟩ := h1.form
                clear h1 g1
                go_wp2_with fail
                go_roundw
                case rel => exact ⟨k + 1, e2, by go_num, by omega, rfl, HB1.out, .inr ⟨HE2.out, ⟨_, rfl⟩, ⟨_, _, _, rfl⟩, HG⟩⟩
                case measure => simp [intOf]; omega
            | ok r2 =>
              obtain ⟨x, m2⟩ := r2
              have hm2 := takeF_le ht2
              have HG : Hid (listG n m ys = after (l ++ [(x : Int)]) (listG (n - (k + 1)) (p + m2) ys)) := by
                show _ = _
                rw [hl.out, HSUB.out, after_step l ht2]
              have HT2 : Hid (takeF (xs.drop (at_ + p)) = .ok (x, m2)) := by show _ = _; rw [HYD.out]; exact ht2
              have hml2 : at_ + p + m2 ≤ xs.length := by have h1 := hm2.2.1; have h2 := HYL.out; simp at h1; omega
              clear ht2
              go_wp2_with fail
              refine (take_ok A c xs _ (at_ + p) x m2 _ hs (by omega) (by omega) (HX.out.below HB.out) HT2.out).mono ?_
              rintro e w' ⟨rfl, rfl⟩
              go_wp2_with (at_builtin; refine wpList_appV tyI w.heap.size rfl (.tmp 41) (.tmp 43) rfl _ k 1 (i64s l) (i64s [(x : Int)]) _ 1 rfl rfl ?c1 ?c2 rfl (i64s_one _) ?c3 ?c4 ?c5 ?c6)
              case c1 => exact HO.out.below ((Below.refl _ _).alloc (Nat.le_refl _) _)
              case c2 => exact rdI_one _ _ _
              case c3 => omega
              case c4 => omega
              case c5 => simp; omega
              case c6 =>
                intro v1 w1 h1 g1
                have HB1 : Hid (Below w.heap.size w w1) := (HB.out.alloc hsz _).trans (g1.base (by simp; omega) (Nat.le_refl _))
                have H1 := Lib.hid h1
                obtain ⟨A2, c2, rfl, _⟩ := h1.form
                clear h1 g1
                go_wp2_with fail
                go_roundw
                case rel =>
                  refine ⟨k + 1, 0, by go_num, by omega, rfl, HB1.out, .inl ⟨rfl, p + m2, l ++ [(x : Int)], by go_num, by omega, ?_, ?_, HG⟩⟩
                  · have := H1.out
                    simpa [i64s] using this
                  · show _ = _
                    rw [List.length_append, hlk.out]; rfl
                case measure => simp [intOf]; omega
          · obtain rfl : k = n := by omega
            have HG : Hid (listF ys = .ok (l, p)) := by
              show _ = _
              rw [HF.out, hl.out, Nat.sub_self]
              simp [listG, after]
            go_wp2_with fail
            go_ret3
            have hfin := ListR.ok (at_ := at_) (A := A1) (c := c1) HG.out HB.out (by rw [hlk.out]; exact HO.out)
            rw [hlk.out, show ((at_ + p : Nat) : Int) = (at_ : Int) + (p : Int) by omega] at hfin
            exact hfin
        · have hen0 : (en == 0) = false := by have := hen.out; simp; omega
          have HG : Hid (listF ys = .error en) := by show _ = _; rw [HF.out]; exact hl.out
          go_wp2_with fail
          go_ret3
          exact ListR.err HG.out HB.out
end Go.Proofs.Ytapgknaoieojkaa.Toll
