/- Walk: member.Get. -/
import Derived.Test.YtapgknaoieojkaaMemL
set_option linter.unusedVariables false
set_option linter.unusedSimpArgs false
set_option maxRecDepth 100000
namespace Go.Proofs.Ytapgknaoieojkaa.Toll
open Go.RowKit
theorem list_err (A : Option Addr) (c : Nat) (xs : List UInt8) (q : Int) (p : Nat) (k : Int) (w : World) (hs : xs.length ≤ 9223372036854775807) (hq : q = (p : Int)) (hat : p ≤ xs.length) (hx : RdB w A xs) (h : listF (xs.drop p) = .error k) :
    Calls Try.prog 60 #[.slice A xs.length c, .int .i64 q] w fun e w' => ∃ A n c q, e = .returned (.tuple #[.slice A n c, .int .i64 q, .int .i64 k]) ∧ Below w.heap.size w w' := by
  subst hq
  refine (list_any A c xs p w hs hat hx).mono ?_
  rintro e w' ⟨hb, hr⟩
  rw [h] at hr
  obtain ⟨A1, n, c1, q, e1⟩ := hr
  exact ⟨A1, n, c1, q, e1, hb⟩
theorem list_ok (A : Option Addr) (c : Nat) (xs : List UInt8) (q : Int) (p : Nat) (l : List Int) (m : Nat) (w : World) (hs : xs.length ≤ 9223372036854775807) (hq : q = (p : Int)) (hat : p ≤ xs.length) (hx : RdB w A xs) (h : listF (xs.drop p) = .ok (l, m)) :
    Calls Try.prog 60 #[.slice A xs.length c, .int .i64 q] w fun e w' => ∃ A c, e = .returned (.tuple #[.slice A l.length c, .int .i64 (q + (m : Int)), .int .i64 0]) ∧ OwV 3 1 w.heap.size w' (.slice A l.length c) l.length (i64s l) ∧ Below w.heap.size w w' := by
  subst hq
  refine (list_any A c xs p w hs hat hx).mono ?_
  rintro e w' ⟨hb, hr⟩
  rw [h] at hr
  obtain ⟨A1, c1, e1, h1⟩ := hr
  exact ⟨A1, c1, e1, h1, hb⟩
/-- member.Get. -/
def memF (bs : List UInt8) : Except Int (List Int × List Int) := match listF bs with
  | .error e => .error e
  | .ok (V, p) => match listF (bs.drop p) with
    | .error e => .error e
    | .ok (L, q) => if p + q < bs.length then .error 4 else if rightB V L then .ok (V, L) else .error 4
abbrev nilM : Value := .agg #[.slice none 0 0, .slice none 0 0]
theorem two_blocks {w w1 : World} (z : Array Value) (t : TypeId) (b1 : Below ((w.alloc (.cells z t)).alloc (.cells z t)).heap.size ((w.alloc (.cells z t)).alloc (.cells z t)) w1) :
    Blk w1 w.heap.size z t ∧ Blk w1 (w.heap.size + 1) z t ∧ Below w.heap.size w w1 ∧ w.heap.size + 1 < w1.heap.size := by
  refine ⟨((Blk.new _ _ _).alloc _).below b1, ?_, (((Below.refl _ _).alloc (Nat.le_refl _) _).alloc (by simp) _).trans (b1.mono (by simp; omega)), ?_⟩
  · have := (Blk.new (w.alloc (.cells z t)) z t).below b1
    simpa using this
  · have := b1.size
    simp at this
    omega
theorem MGet_err (A : Option Addr) (c : Nat) (xs : List UInt8) (k : Int) (w : World) (hs : xs.length ≤ 9223372036854775807) (hx : RdB w A xs) (h : memF xs = .error k) :
    Calls Try.prog 34 #[.slice A xs.length c] w fun e w' => e = .returned (.tuple #[nilM, .int .i64 k]) ∧ Below w.heap.size w w' := by
  have HX := Lib.hid hx
  clear hx
  cases h1 : listF xs with
  | error e1 =>
    have hk : k = e1 := by simp only [memF, h1] at h; injection h with h; exact h.symm
    subst hk
    have hne := listF_errs h1
    have hk0 : (k != 0) = true := by simp; omega
    have H1 := Lib.hid h1
    clear h1 h
    go_enter Try.func34, Try.ntmps34
    go_wp2_with fail
    refine (list_err A c xs _ 0 k _ hs rfl (by omega) (HX.out.below (((Below.refl _ _).alloc (Nat.le_refl _) _).alloc (by simp) _)) H1.out).mono ?_
    rintro e w1 ⟨A1, n1, c1, q1, rfl, b1⟩
    have k0 : Blk w1 w.heap.size #[.slice none 0 0, .slice none 0 0] 26 := ((Blk.new _ _ _).alloc _).below b1
    have k1 : Blk w1 (w.heap.size + 1) #[.slice none 0 0, .slice none 0 0] 26 := by have := (Blk.new (w.alloc (.cells #[.slice none 0 0, .slice none 0 0] 26)) #[.slice none 0 0, .slice none 0 0] 26).below b1; simpa using this
    have q0 := k0.cell
    have q1 := k1.cell
    have f0 := k0.frozen
    have f1 := k1.frozen
    have K0 := Lib.hid k0
    have K1 := Lib.hid k1
    have HB : Hid (Below w.heap.size w w1) := (((Below.refl _ _).alloc (Nat.le_refl _) _).alloc (by simp) _).trans (b1.mono (by simp; omega))
    clear k0 k1 b1
    go_wp2_with fail
    refine bodyPost_ret (v := .tuple #[nilM, .int .i64 k]) (by simp [results, Try.results34, go_sem, q0]) rfl ⟨rfl, ?_⟩
    exact ((HB.out.setCell (by simp) _).setCell (by simp) _).setCell (by simp) _
  | ok r =>
    obtain ⟨V, p⟩ := r
    have hV := listF_le h1
    have H1 := Lib.hid h1
    have hp : p ≤ xs.length := hV.1
    cases h2 : listF (xs.drop p) with
    | error e2 =>
      have hk : k = e2 := by simp only [memF, h1, h2] at h; injection h with h; exact h.symm
      subst hk
      have hne := listF_errs h2
      have hk0 : (k != 0) = true := by simp; omega
      have H2 := Lib.hid h2
      clear h1 h2 h
      go_enter Try.func34, Try.ntmps34
      go_wp2_with fail
      refine (list_ok A c xs _ 0 V p _ hs rfl (by omega) (HX.out.below (((Below.refl _ _).alloc (Nat.le_refl _) _).alloc (by simp) _)) H1.out).mono ?_
      rintro e w1 ⟨A1, c1, rfl, o1, b1⟩
      obtain ⟨k0, k1, hb, hsz⟩ := two_blocks _ _ b1
      have q0 := k0.cell
      have q1 := k1.cell
      have f0 := k0.frozen
      have f1 := k1.frozen
      have K0 := Lib.hid k0
      have K1 := Lib.hid k1
      have HB := Lib.hid hb
      clear k0 k1 b1 hb o1
      go_wp2_with fail
      have hb2 : Below w.heap.size w (w1.setCell ⟨w.heap.size + 1, 0, none⟩ (.slice A1 V.length c1)) := HB.out.setCell (by simp) _
      refine (list_err A c xs _ p k _ hs (by omega) hp (HX.out.below hb2) H2.out).mono ?_
      rintro e w2 ⟨A2, n2, c2, q2, rfl, b2⟩
      have k0 : Blk w2 w.heap.size #[.slice none 0 0, .slice none 0 0] 26 := (K0.out.other _ _ (by simp)).below b2
      have k1 : Blk w2 (w.heap.size + 1) #[.slice A1 V.length c1, .slice none 0 0] 26 := (K1.out.set 0 _).below b2
      have q0' := k0.cell
      have q1' := k1.cell
      have f0' := k0.frozen
      have f1' := k1.frozen
      have HB2 : Hid (Below w.heap.size w w2) := hb2.trans (b2.mono (by simp; omega))
      clear k0 k1 q0 q1 f0 f1 b2 hb2
      go_wp2_with fail
      refine bodyPost_ret (v := .tuple #[nilM, .int .i64 k]) (by simp [results, Try.results34, go_sem, q0']) rfl ⟨rfl, ?_⟩
      exact ((HB2.out.setCell (by simp) _).setCell (by simp) _).setCell (by simp) _
    | ok r =>
      obtain ⟨L, q⟩ := r
      have hL := listF_le h2
      have H2 := Lib.hid h2
      have hq : p + q ≤ xs.length := by have := hL.1; simp at this; omega
      have hcase : k = 4 ∧ (p + q < xs.length ∨ (¬ p + q < xs.length ∧ rightB V L = false)) := by
        simp only [memF, h1, h2] at h
        split at h
        · injection h with h; exact ⟨h.symm, .inl ‹_›⟩
        · split at h
          · cases h
          · rename_i hr
            injection h with h
            exact ⟨h.symm, .inr ⟨‹_›, by simpa using hr⟩⟩
      obtain ⟨rfl, hcase⟩ := hcase
      clear h1 h2 h
      go_enter Try.func34, Try.ntmps34
      go_wp2_with fail
      refine (list_ok A c xs _ 0 V p _ hs rfl (by omega) (HX.out.below (((Below.refl _ _).alloc (Nat.le_refl _) _).alloc (by simp) _)) H1.out).mono ?_
      rintro e w1 ⟨A1, c1, rfl, o1, b1⟩
      obtain ⟨k0, k1, hb, hsz⟩ := two_blocks _ _ b1
      have q0 := k0.cell
      have q1 := k1.cell
      have f0 := k0.frozen
      have f1 := k1.frozen
      have K0 := Lib.hid k0
      have K1 := Lib.hid k1
      have HB := Lib.hid hb
      have O1 := Lib.hid o1
      clear k0 k1 b1 hb o1
      go_wp2_with fail
      have o1' : OwV 3 1 (w.heap.size + 2) (w1.setCell ⟨w.heap.size + 1, 0, none⟩ (.slice A1 V.length c1)) (.slice A1 V.length c1) V.length (i64s V) := (O1.out.mono (by simp)).keeps (S := (· = w.heap.size + 1)) (Keeps.setCell _ _ _ (.inl rfl)) (by intro i _ h1 h2; omega)
      have O1' := Lib.hid o1'
      clear o1'
      have hb2 : Below w.heap.size w (w1.setCell ⟨w.heap.size + 1, 0, none⟩ (.slice A1 V.length c1)) := HB.out.setCell (by simp) _
      refine (list_ok A c xs _ p L q _ hs (by omega) hp (HX.out.below hb2) H2.out).mono ?_
      rintro e w2 ⟨A2, c2, rfl, o2, b2⟩
      have k0 : Blk w2 w.heap.size #[.slice none 0 0, .slice none 0 0] 26 := (K0.out.other _ _ (by simp)).below b2
      have k1 : Blk w2 (w.heap.size + 1) #[.slice A1 V.length c1, .slice none 0 0] 26 := (K1.out.set 0 _).below b2
      have q0' := k0.cell
      have q1' := k1.cell
      have f0' := k0.frozen
      have f1' := k1.frozen
      have HB2 : Hid (Below w.heap.size w w2) := hb2.trans (b2.mono (by simp; omega))
      have K1' := Lib.hid k1
      have hsz2 : w.heap.size + 1 < w2.heap.size := by have := b2.size; simp at this; omega
      have K0' := Lib.hid k0
      have B2 := Lib.hid b2
      have O2 := Lib.hid o2
      clear k0 k1 q0 q1 f0 f1 b2 hb2 o2
      rcases hcase with hlt | ⟨hlt, hr⟩
      · go_wp2_with fail
        refine bodyPost_ret (v := .tuple #[nilM, .int .i64 4]) (by simp [results, Try.results34, go_sem, q0']) rfl ⟨rfl, ?_⟩
        exact ((HB2.out.setCell (by simp) _).setCell (by simp) _).setCell (by simp) _
      · have o1w2 : OwV 3 1 (w.heap.size + 2) (w2.setCell ⟨w.heap.size + 1, 1, none⟩ (.slice A2 L.length c2)) (.slice A1 V.length c1) V.length (i64s V) := (O1'.out.below B2.out).keeps (S := (· = w.heap.size + 1)) (Keeps.setCell _ _ _ (.inl rfl)) (by intro i _ h1 h2; omega)
        have o2w2 : OwV 3 1 (w.heap.size + 2) (w2.setCell ⟨w.heap.size + 1, 1, none⟩ (.slice A2 L.length c2)) (.slice A2 L.length c2) L.length (i64s L) := (O2.out.mono (by simp; omega)).keeps (S := (· = w.heap.size + 1)) (Keeps.setCell _ _ _ (.inl rfl)) (by intro i _ h1 h2; omega)
        have hmem : MemAt (w2.setCell ⟨w.heap.size + 1, 1, none⟩ (.slice A2 L.length c2)) A1 A2 V L := by
          obtain ⟨_, _, e1, r1, _⟩ := o1w2.form
          obtain ⟨_, _, e2, r2, _⟩ := o2w2.form
          cases e1
          cases e2
          exact ⟨r1, r2, by omega, by omega⟩
        have HMEM := Lib.hid hmem
        have OW1 := Lib.hid o1w2
        have OW2 := Lib.hid o2w2
        have HR := Lib.hid hr
        clear hmem o1w2 o2w2 hr
        go_wp2_with fail
        refine (Right_any A1 A2 c1 c2 V L _ HMEM.out).mono ?_
        rintro e w3 ⟨rfl, e3⟩
        have b3 : Below (w2.setCell ⟨w.heap.size + 1, 1, none⟩ (.slice A2 L.length c2)).heap.size (w2.setCell ⟨w.heap.size + 1, 1, none⟩ (.slice A2 L.length c2)) w3 := by rw [← e3]; exact (Below.refl _ _).alloc (Nat.le_refl _) _
        clear e3
        have k0 : Blk w3 w.heap.size #[.slice none 0 0, .slice none 0 0] 26 := (K0'.out.other _ _ (by simp)).below b3
        have k1 : Blk w3 (w.heap.size + 1) #[.slice A1 V.length c1, .slice A2 L.length c2] 26 := (K1'.out.set 1 _).below b3
        have q03 := k0.cell
        have q13 := k1.cell
        have f03 := k0.frozen
        have f13 := k1.frozen
        have HB3 : Hid (Below w.heap.size w w3) := (HB2.out.setCell (by simp) _).trans (b3.mono (by simp; omega))
        have B3 := Lib.hid b3
        clear k0 k1 q0' q1' f0' f1' b3
        rw [HR.out]
        go_wp2_with fail
        refine bodyPost_ret (v := .tuple #[nilM, .int .i64 4]) (by simp [results, Try.results34, go_sem, q03]) rfl ⟨rfl, ?_⟩
        exact (HB3.out.setCell (by simp) _).setCell (by simp) _
set_option maxHeartbeats 1000000 in
theorem MGet_ok (A : Option Addr) (c : Nat) (xs : List UInt8) (V L : List Int) (w : World) (hs : xs.length ≤ 9223372036854775807) (hx : RdB w A xs) (h : memF xs = .ok (V, L)) :
    Calls Try.prog 34 #[.slice A xs.length c] w fun e w' => ∃ A1 c1 A2 c2, e = .returned (.tuple #[.agg #[.slice A1 V.length c1, .slice A2 L.length c2], .int .i64 0]) ∧ OwV 3 1 w.heap.size w' (.slice A1 V.length c1) V.length (i64s V) ∧ OwV 3 1 w.heap.size w' (.slice A2 L.length c2) L.length (i64s L) ∧ Below w.heap.size w w' := by
  have HX := Lib.hid hx
  clear hx
  obtain ⟨p, q, h1, h2, hlt, hr⟩ : ∃ p q, listF xs = .ok (V, p) ∧ listF (xs.drop p) = .ok (L, q) ∧ ¬ p + q < xs.length ∧ rightB V L = true := by
    unfold memF at h
    split at h
    · cases h
    · rename_i V' p h1
      split at h
      · cases h
      · rename_i L' q h2
        split at h
        · cases h
        · split at h
          · injection h with h; injection h with e1 e2; subst e1; subst e2
            exact ⟨p, q, h1, h2, ‹_›, ‹_›⟩
          · cases h
  have hV := listF_le h1
  have H1 := Lib.hid h1
  have hp : p ≤ xs.length := hV.1
  have hL := listF_le h2
  have H2 := Lib.hid h2
  have hq : p + q ≤ xs.length := by have := hL.1; simp at this; omega
  clear h1 h2 h
  go_enter Try.func34, Try.ntmps34
  go_wp2_with fail
  refine (list_ok A c xs _ 0 V p _ hs rfl (by omega) (HX.out.below (((Below.refl _ _).alloc (Nat.le_refl _) _).alloc (by simp) _)) H1.out).mono ?_
  rintro e w1 ⟨A1, c1, rfl, o1, b1⟩
  obtain ⟨k0, k1, hb, hsz⟩ := two_blocks _ _ b1
  have q0 := k0.cell
  have q1 := k1.cell
  have f0 := k0.frozen
  have f1 := k1.frozen
  have K0 := Lib.hid k0
  have K1 := Lib.hid k1
  have HB := Lib.hid hb
  have O1 := Lib.hid o1
  clear k0 k1 b1 hb o1
  go_wp2_with fail
  have o1' : OwV 3 1 (w.heap.size + 2) (w1.setCell ⟨w.heap.size + 1, 0, none⟩ (.slice A1 V.length c1)) (.slice A1 V.length c1) V.length (i64s V) := (O1.out.mono (by simp)).keeps (S := (· = w.heap.size + 1)) (Keeps.setCell _ _ _ (.inl rfl)) (by intro i _ h1 h2; omega)
  have O1' := Lib.hid o1'
  clear o1'
  have hb2 : Below w.heap.size w (w1.setCell ⟨w.heap.size + 1, 0, none⟩ (.slice A1 V.length c1)) := HB.out.setCell (by simp) _
  refine (list_ok A c xs _ p L q _ hs (by omega) hp (HX.out.below hb2) H2.out).mono ?_
  rintro e w2 ⟨A2, c2, rfl, o2, b2⟩
  have k0 : Blk w2 w.heap.size #[.slice none 0 0, .slice none 0 0] 26 := (K0.out.other _ _ (by simp)).below b2
  have k1 : Blk w2 (w.heap.size + 1) #[.slice A1 V.length c1, .slice none 0 0] 26 := (K1.out.set 0 _).below b2
  have q0' := k0.cell
  have q1' := k1.cell
  have f0' := k0.frozen
  have f1' := k1.frozen
  have HB2 : Hid (Below w.heap.size w w2) := hb2.trans (b2.mono (by simp; omega))
  have K1' := Lib.hid k1
  have hsz2 : w.heap.size + 1 < w2.heap.size := by have := b2.size; simp at this; omega
  have K0' := Lib.hid k0
  have B2 := Lib.hid b2
  have O2 := Lib.hid o2
  clear k0 k1 q0 q1 f0 f1 b2 hb2 o2
  have o1w2 : OwV 3 1 (w.heap.size + 2) (w2.setCell ⟨w.heap.size + 1, 1, none⟩ (.slice A2 L.length c2)) (.slice A1 V.length c1) V.length (i64s V) := (O1'.out.below B2.out).keeps (S := (· = w.heap.size + 1)) (Keeps.setCell _ _ _ (.inl rfl)) (by intro i _ h1 h2; omega)
  have o2w2 : OwV 3 1 (w.heap.size + 2) (w2.setCell ⟨w.heap.size + 1, 1, none⟩ (.slice A2 L.length c2)) (.slice A2 L.length c2) L.length (i64s L) := (O2.out.mono (by simp; omega)).keeps (S := (· = w.heap.size + 1)) (Keeps.setCell _ _ _ (.inl rfl)) (by intro i _ h1 h2; omega)
  have hmem : MemAt (w2.setCell ⟨w.heap.size + 1, 1, none⟩ (.slice A2 L.length c2)) A1 A2 V L := by
    obtain ⟨_, _, e1, r1, _⟩ := o1w2.form
    obtain ⟨_, _, e2, r2, _⟩ := o2w2.form
    cases e1
    cases e2
    exact ⟨r1, r2, by omega, by omega⟩
  have HMEM := Lib.hid hmem
  have OW1 := Lib.hid o1w2
  have OW2 := Lib.hid o2w2
  have HR := Lib.hid hr
  clear hmem o1w2 o2w2 hr
  go_wp2_with fail
  refine (Right_any A1 A2 c1 c2 V L _ HMEM.out).mono ?_
  rintro e w3 ⟨rfl, e3⟩
  have b3 : Below (w2.setCell ⟨w.heap.size + 1, 1, none⟩ (.slice A2 L.length c2)).heap.size (w2.setCell ⟨w.heap.size + 1, 1, none⟩ (.slice A2 L.length c2)) w3 := by rw [← e3]; exact (Below.refl _ _).alloc (Nat.le_refl _) _
  clear e3
  have k0 : Blk w3 w.heap.size #[.slice none 0 0, .slice none 0 0] 26 := (K0'.out.other _ _ (by simp)).below b3
  have k1 : Blk w3 (w.heap.size + 1) #[.slice A1 V.length c1, .slice A2 L.length c2] 26 := (K1'.out.set 1 _).below b3
  have q03 := k0.cell
  have q13 := k1.cell
  have f03 := k0.frozen
  have f13 := k1.frozen
  have HB3 : Hid (Below w.heap.size w w3) := (HB2.out.setCell (by simp) _).trans (b3.mono (by simp; omega))
  have B3 := Lib.hid b3
  clear k0 k1 q0' q1' f0' f1' b3
  rw [HR.out]
  go_wp2_with fail
  refine bodyPost_ret (v := .tuple #[.agg #[.slice A1 V.length c1, .slice A2 L.length c2], .int .i64 0]) (by simp [results, Try.results34, go_sem, q03]) rfl ⟨A1, c1, A2, c2, rfl, ?_, ?_, (HB3.out.setCell (by simp) _).setCell (by simp) _⟩
  · refine OwV.mono (base := w.heap.size + 2) (((OW1.out.below B3.out).keeps (S := (· = w.heap.size)) (Keeps.setCell _ _ _ (.inl rfl)) (by intro i _ h1 h2; omega)).keeps (S := (· = w.heap.size)) (Keeps.setCell _ _ _ (.inl rfl)) (by intro i _ h1 h2; omega)) (by omega)
  · refine OwV.mono (base := w.heap.size + 2) (((OW2.out.below B3.out).keeps (S := (· = w.heap.size)) (Keeps.setCell _ _ _ (.inl rfl)) (by intro i _ h1 h2; omega)).keeps (S := (· = w.heap.size)) (Keeps.setCell _ _ _ (.inl rfl)) (by intro i _ h1 h2; omega)) (by omega)
end Go.Proofs.Ytapgknaoieojkaa.Toll
