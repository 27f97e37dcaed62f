/- Walk: snap.Get. -/
import Derived.Test.YtapgknaoieojkaaSnapE
set_option linter.unusedVariables false
set_option linter.unusedSimpArgs false
set_option maxRecDepth 100000
namespace Go.Proofs.Ytapgknaoieojkaa.Toll
open Go.RowKit
theorem next_n (A : Option Addr) (c : Nat) (xs : List UInt8) (w : World) (hs : xs.length ≤ 9223372036854775807) (hc : xs.length ≤ c) (hcm : c ≤ 9223372036854775807) (hx : RdB w A xs) :
    Calls Try.prog 31 #[.slice A xs.length c, .int .i64 0] w (NextR xs 0 w) := next_any A c xs 0 w hs hc hcm (Nat.zero_le _) hx
theorem next_err (A : Option Addr) (c : Nat) (xs : List UInt8) (k : Int) (w : World) (hs : xs.length ≤ 9223372036854775807) (hc : xs.length ≤ c) (hcm : c ≤ 9223372036854775807) (hx : RdB w A xs) (h : nextF xs = .error k) :
    Calls Try.prog 31 #[.slice A xs.length c, .int .i64 0] w fun e w' => e = .returned (.tuple #[.slice none 0 0, .int .i64 0, .int .i64 k]) ∧ Below w.heap.size w w' := by
  refine (next_n A c xs w hs hc hcm hx).mono ?_
  rintro e w' ⟨hb, hr⟩
  rw [h] at hr
  exact ⟨hr, hb⟩
theorem next_ok (A : Option Addr) (c : Nat) (xs p : List UInt8) (w : World) (hs : xs.length ≤ 9223372036854775807) (hc : xs.length ≤ c) (hcm : c ≤ 9223372036854775807) (hx : RdB w A xs) (h : nextF xs = .ok p) :
    Calls Try.prog 31 #[.slice A xs.length c, .int .i64 0] w fun e w' => ∃ g, w.heap.size ≤ g ∧ e = .returned (.tuple #[.slice (some ⟨g, 0, none⟩) p.length p.length, .int .i64 ((8 + p.length : Nat) : Int), .int .i64 0]) ∧ w'.heap[g]? = some (rowB p) ∧ Below w.heap.size w w' := by
  refine (next_n A c xs w hs hc hcm hx).mono ?_
  rintro e w' ⟨hb, hr⟩
  rw [h] at hr
  obtain ⟨g, h1, h2, h3⟩ := hr
  exact ⟨g, h1, by simpa using h2, h3, hb⟩
theorem nextF_errs {xs : List UInt8} {k : Int} (h : nextF xs = .error k) : k = 3 ∨ k = 5 ∨ k = 6 := by
  unfold nextF at h
  split at h
  · injection h with h; omega
  · split at h
    · injection h with h; omega
    · split at h
      · injection h with h; omega
      · split at h
        · cases h
        · injection h with h; omega
theorem nextF_le {xs p : List UInt8} (h : nextF xs = .ok p) : 8 + p.length ≤ xs.length ∧ p.length ≤ 65536 ∧ get4 xs = p.length ∧ p = (xs.drop 8).take p.length ∧ crc (crc 0 (xs.take 4)) p = get4 (xs.drop 4) := by
  have hg := get4_range xs
  unfold nextF at h
  split at h
  · cases h
  · split at h
    · cases h
    · split at h
      · cases h
      · split at h
        · rename_i h1 h2 h3 h4
          injection h with h
          have hl : p.length = (get4 xs).toNat := by rw [← h]; simp; omega
          subst h
          refine ⟨by omega, by omega, by omega, ?_, h4⟩
          rw [hl]
        · cases h
theorem memF_errs {xs : List UInt8} {k : Int} (h : memF xs = .error k) : k = 3 ∨ k = 4 ∨ k = 6 := by
  unfold memF at h
  split at h
  · injection h with h; subst h; exact listF_errs ‹_›
  · split at h
    · injection h with h; subst h; exact listF_errs ‹_›
    · split at h
      · injection h with h; omega
      · split at h
        · cases h
        · injection h with h; omega
/-- What a frame holds, as a snapshot. -/
def inF (b : List UInt8) : Except Int SnapV := match markF b with
  | .error e => .error e
  | .ok (i, p1) => match markF (b.drop p1) with
    | .error e => .error e
    | .ok (t, p2) => match rowF (b.drop (p1 + p2)) (b.length + 1099511627776) with
      | .error e => .error e
      | .ok (m, n) => match memF ((b.drop (p1 + p2 + m)).take n) with
        | .error e => .error e
        | .ok (V, L) => match rowF (b.drop (p1 + p2 + m + n)) 16384 with
          | .error e => .error e
          | .ok (m2, n2) => if p1 + p2 + m + n + m2 + n2 < b.length then .error 4 else .ok ⟨i, t, V, L, (b.drop (p1 + p2 + m + n + m2)).take n2⟩
/-- snap.Get. -/
def sgetF (xs : List UInt8) : Except Int SnapV := match nextF xs with
  | .error e => .error e
  | .ok b => if 8 + b.length < xs.length then .error 4 else inF b
abbrev nilS : Value := .agg #[.int .i64 0, .int .i64 0, .slice none 0 0, .slice none 0 0, .slice none 0 0]
theorem MGet_err_n (A : Option Addr) (n c : Nat) (xs : List UInt8) (k : Int) (w : World) (hn : xs.length = n) (hs : n ≤ 9223372036854775807) (hx : RdB w A xs) (h : memF xs = .error k) :
    Calls Try.prog 34 #[.slice A n c] w fun e w' => e = .returned (.tuple #[nilM, .int .i64 k]) ∧ Below w.heap.size w w' := by subst hn; exact MGet_err A c xs k w hs hx h
theorem MGet_ok_n (A : Option Addr) (n c : Nat) (xs : List UInt8) (V L : List Int) (w : World) (hn : xs.length = n) (hs : n ≤ 9223372036854775807) (hx : RdB w A xs) (h : memF xs = .ok (V, L)) :
    Calls Try.prog 34 #[.slice A n c] w fun e w' => ∃ A1 c1 A2 c2, e = .returned (.tuple #[.agg #[.slice A1 V.length c1, .slice A2 L.length c2], .int .i64 0]) ∧ OwV 3 1 w.heap.size w' (.slice A1 V.length c1) V.length (i64s V) ∧ OwV 3 1 w.heap.size w' (.slice A2 L.length c2) L.length (i64s L) ∧ Below w.heap.size w w' := by subst hn; exact MGet_ok A c xs V L w hs hx h
def GetR (xs : List UInt8) (w : World) (e : Ending) (w' : World) : Prop := Below w.heap.size w w' ∧ (match sgetF xs with
  | .error k => e = .returned (.tuple #[nilS, .int .i64 k])
  | .ok s => ∃ A1 A2 A3 c1 c2 c3, e = .returned (.tuple #[snapVal A1 A2 A3 c1 c2 c3 s, .int .i64 0]) ∧ OwV 3 1 w.heap.size w' (.slice A1 s.V.length c1) s.V.length (i64s s.V) ∧ OwV 3 1 w.heap.size w' (.slice A2 s.L.length c2) s.L.length (i64s s.L) ∧
      RdB w' A3 s.data ∧ (0 < s.data.length → ∀ ad, A3 = some ad → w.heap.size ≤ ad.block))
theorem GetR.err {xs : List UInt8} {w w' : World} {k : Int} (h : sgetF xs = .error k) (hb : Below w.heap.size w w') : GetR xs w (.returned (.tuple #[nilS, .int .i64 k])) w' := by
  unfold GetR
  rw [h]
  exact ⟨hb, rfl⟩
theorem GetR.ok {xs : List UInt8} {w w' : World} {s : SnapV} {n : Nat} {A1 A2 A3 : Option Addr} {c1 c2 c3 : Nat} (h : sgetF xs = .ok s) (hb : Below w.heap.size w w') (hn : s.data.length = n) (oV : OwV 3 1 w.heap.size w' (.slice A1 s.V.length c1) s.V.length (i64s s.V)) (oL : OwV 3 1 w.heap.size w' (.slice A2 s.L.length c2) s.L.length (i64s s.L))
    (hd : RdB w' A3 s.data) (hd2 : 0 < s.data.length → ∀ ad, A3 = some ad → w.heap.size ≤ ad.block) : GetR xs w (.returned (.tuple #[.agg #[.int .i64 s.idx, .int .i64 s.term, .slice A1 s.V.length c1, .slice A2 s.L.length c2, .slice A3 n c3], .int .i64 0])) w' := by
  unfold GetR
  rw [h]
  subst hn
  exact ⟨hb, A1, A2, A3, c1, c2, c3, rfl, oV, oL, hd, hd2⟩
theorem five_cells {w : World} {g : Nat} {t : TypeId} {a b c d e : Value} (h : Blk w g #[a, b, c, d, e] t) : w.cell? ⟨g, 0, none⟩ = some a ∧ w.cell? ⟨g, 1, none⟩ = some b ∧ w.cell? ⟨g, 2, none⟩ = some c ∧ w.cell? ⟨g, 3, none⟩ = some d ∧ w.cell? ⟨g, 4, none⟩ = some e :=
  ⟨h.cell 0, h.cell 1, h.cell 2, h.cell 3, h.cell 4⟩
theorem below_set5 {B g : Nat} {w w1 : World} {a b c d e : Value} (h : Below B w w1) (hg : B ≤ g) : Below B w (((((w1.setCell ⟨g, 0, none⟩ a).setCell ⟨g, 1, none⟩ b).setCell ⟨g, 2, none⟩ c).setCell ⟨g, 3, none⟩ d).setCell ⟨g, 4, none⟩ e) :=
  ((((h.setCell hg _).setCell hg _).setCell hg _).setCell hg _).setCell hg _
theorem keeps_set2 (w : World) (g i j : Nat) (a b : Value) : Keeps (· = g) w ((w.setCell ⟨g, i, none⟩ a).setCell ⟨g, j, none⟩ b) := (Keeps.setCell (S := (· = g)) w ⟨g, i, none⟩ a (.inl rfl)).trans (Keeps.setCell (S := (· = g)) _ ⟨g, j, none⟩ b (.inl rfl))
theorem rdB_mid {w : World} {g : Nat} {b : List UInt8} (h : w.heap[g]? = some (rowB b)) (o m n : Nat) (hm : m = o + n) : RdB w (offA (some ⟨g, 0, none⟩) o m) ((b.drop o).take n) := by
  unfold offA
  by_cases h0 : n = 0
  · subst h0
    rw [List.take_zero]
    exact RdB.nil _ _
  · rw [if_neg (by omega), Option.map_some, own_zero_add]
    exact (rowB_rd h o).take n
set_option maxHeartbeats 4000000 in
theorem SGet_any (A : Option Addr) (c : Nat) (xs : List UInt8) (w : World) (hs : xs.length ≤ 9223372036854775807) (hc : xs.length ≤ c) (hcm : c ≤ 9223372036854775807) (hx : RdB w A xs) :
    Calls Try.prog 10 #[.slice A xs.length c] w (GetR xs w) := by
  have HX := Lib.hid hx
  clear hx
  have z5 : Try.prog.info? 29 = Try.prog.info? 29 := rfl
  clear z5
  go_enter Try.func10, Try.ntmps10
  go_wp2_with fail
  have hb0 : Below w.heap.size w (w.alloc (.cells #[.int .i64 0, .int .i64 0, .slice none 0 0, .slice none 0 0, .slice none 0 0] 29)) := (Below.refl _ _).alloc (Nat.le_refl _) _
  cases hn : nextF xs with
  | error k =>
    have hk := nextF_errs hn
    have hk0 : (k != 0) = true := by simp; omega
    have HF : Hid (sgetF xs = .error k) := by show _ = _; unfold sgetF; rw [hn]
    have HN := Lib.hid hn
    clear hn
    refine (next_err A c xs k _ hs hc hcm (HX.out.below hb0) HN.out).mono ?_
    rintro e w1 ⟨rfl, b1⟩
    have kb := (Blk.new _ _ _).below b1
    have q0 := kb.cell
    have f0 := kb.frozen
    have HB1 : Hid (Below w.heap.size w w1) := hb0.trans (b1.mono (by simp))
    clear kb b1 hb0
    go_wp2_with fail
    refine bodyPost_ret (v := .tuple #[nilS, .int .i64 k]) (by simp [results, Try.results10, go_sem, q0]) rfl ?_
    refine GetR.err HF.out ?_
    exact below_set5 HB1.out (Nat.le_refl _)
  | ok b =>
    obtain ⟨hlen, hb16, -, -, -⟩ := nextF_le hn
    have HN := Lib.hid hn
    clear hn
    refine (next_ok A c xs b _ hs hc hcm (HX.out.below hb0) HN.out).mono ?_
    rintro e w1 ⟨g, hg, rfl, hrow, b1⟩
    have kb := (Blk.new _ _ _).below b1
    have q0 := kb.cell
    have f0 := kb.frozen
    have hsz : w.heap.size < w1.heap.size := by have := b1.size; simp at this; omega
    have hgw : w.heap.size < g := by simp at hg; omega
    have hgl : g < w1.heap.size := (Array.getElem?_eq_some_iff.1 hrow).1
    have HB1 : Hid (Below w.heap.size w w1) := hb0.trans (b1.mono (by simp))
    have HROW := Lib.hid hrow
    have K0 := Lib.hid kb
    clear kb b1 hb0 hrow hg
    by_cases hend : 8 + b.length < xs.length
    · have HF : Hid (sgetF xs = .error 4) := by show _ = _; unfold sgetF; rw [HN.out]; exact if_pos hend
      go_wp2_with fail
      refine bodyPost_ret (v := .tuple #[nilS, .int .i64 4]) (by simp [results, Try.results10, go_sem, q0]) rfl ?_
      refine GetR.err HF.out ?_
      exact below_set5 HB1.out (Nat.le_refl _)
    have HF0 : Hid (sgetF xs = inF b) := by show _ = _; unfold sgetF; rw [HN.out]; exact if_neg hend
    go_wp2_with fail
    have hbA : Below w1.heap.size w1 (w1.alloc (.cells #[.int .i64 0, .int .i64 0, .slice none 0 0, .slice none 0 0, .slice none 0 0] 29)) := (Below.refl _ _).alloc (Nat.le_refl _) _
    have hrA : RdB w1 (some ⟨g, 0, none⟩) b := by have := rowB_rd HROW.out 0; simpa using this
    have HRA := Lib.hid hrA
    clear hrA
    cases hm1 : markF b with
    | error k =>
      have hk := markF_err hm1
      have hk0 : (k != 0) = true := by simp; omega
      have HF : Hid (sgetF xs = .error k) := by show _ = _; rw [HF0.out]; unfold inF; rw [hm1]
      have HM1 := Lib.hid hm1
      clear hm1
      refine (mark_err _ _ b _ 0 k _ (by omega) rfl (by omega) (HRA.out.below hbA) (by rw [List.drop_zero]; exact HM1.out)).mono ?_
      rintro e w' ⟨ma, mb, rfl, rfl⟩
      go_wp2_with fail
      refine bodyPost_ret (v := .tuple #[nilS, .int .i64 k]) (by simp [results, Try.results10, go_sem, q0, hsz]) rfl ?_
      refine GetR.err HF.out ?_
      exact (below_set5 HB1.out (Nat.le_refl _)).alloc (by simp; omega) _
    | ok r1 =>
      obtain ⟨i, p1⟩ := r1
      have hl1 := takeF_le (markF_le hm1).2
      have hi0 := (markF_le hm1).1
      have HM1 := Lib.hid hm1
      clear hm1
      refine (mark_ok _ _ b _ 0 i p1 _ (by omega) rfl (by omega) (HRA.out.below hbA) (by rw [List.drop_zero]; exact HM1.out)).mono ?_
      rintro e w' ⟨rfl, rfl⟩
      clear hbA
      go_wp2_with fail
      have hbA : Below w1.heap.size w1 (w1.alloc (.cells #[.int .i64 i, .int .i64 0, .slice none 0 0, .slice none 0 0, .slice none 0 0] 29)) := (Below.refl _ _).alloc (Nat.le_refl _) _
      cases hm2 : markF (b.drop p1) with
      | error k =>
        have hk := markF_err hm2
        have hk0 : (k != 0) = true := by simp; omega
        have HF : Hid (sgetF xs = .error k) := by show _ = _; rw [HF0.out]; unfold inF; rw [HM1.out]; simp only; rw [hm2]
        have HM2 := Lib.hid hm2
        clear hm2
        refine (mark_err _ _ b _ p1 k _ (by omega) rfl (by omega) (HRA.out.below hbA) HM2.out).mono ?_
        rintro e w' ⟨ma, mb, rfl, rfl⟩
        go_wp2_with fail
        refine bodyPost_ret (v := .tuple #[nilS, .int .i64 k]) (by simp [results, Try.results10, go_sem, q0, hsz]) rfl ?_
        refine GetR.err HF.out ?_
        exact (below_set5 HB1.out (Nat.le_refl _)).alloc (by simp; omega) _
      | ok r2 =>
        obtain ⟨t, p2⟩ := r2
        have hl2 := takeF_le (markF_le hm2).2
        have ht0 := (markF_le hm2).1
        have hp12 : p1 + p2 ≤ b.length := by have := hl2.2.1; simp at this; omega
        have HM2 := Lib.hid hm2
        clear hm2
        refine (mark_ok _ _ b _ p1 t p2 _ (by omega) rfl (by omega) (HRA.out.below hbA) HM2.out).mono ?_
        rintro e w' ⟨rfl, rfl⟩
        clear hbA
        go_wp2_with fail
        have hbA : Below w1.heap.size w1 (w1.alloc (.cells #[.int .i64 i, .int .i64 t, .slice none 0 0, .slice none 0 0, .slice none 0 0] 29)) := (Below.refl _ _).alloc (Nat.le_refl _) _
        cases hr1 : rowF (b.drop (p1 + p2)) (b.length + 1099511627776) with
        | error k =>
          have hk := rowF_err hr1
          have hk0 : (k != 0) = true := by simp; omega
          have HF : Hid (sgetF xs = .error k) := by show _ = _; rw [HF0.out]; unfold inF; rw [HM1.out]; simp only; rw [HM2.out]; simp only; rw [hr1]
          have HR1 := Lib.hid hr1
          clear hr1
          refine (row_err _ _ b _ (p1 + p2) _ (b.length + 1099511627776) k _ (by omega) (by omega) (by omega) hp12 (HRA.out.below hbA) HR1.out).mono ?_
          rintro e w' ⟨rfl, rfl⟩
          go_wp2_with fail
          refine bodyPost_ret (v := .tuple #[nilS, .int .i64 k]) (by simp [results, Try.results10, go_sem, q0, hsz]) rfl ?_
          refine GetR.err HF.out ?_
          exact (below_set5 HB1.out (Nat.le_refl _)).alloc (by simp; omega) _
        | ok r3 =>
          obtain ⟨m, n⟩ := r3
          have hl3 := rowF_le hr1
          have hmn : p1 + p2 + m + n ≤ b.length := by have := hl3.2.2; simp at this; omega
          have HR1 := Lib.hid hr1
          clear hr1 hl3
          refine (row_ok _ _ b _ (p1 + p2) _ (b.length + 1099511627776) n m _ (by omega) (Nat.le_refl _) (by omega) (by omega) hp12 (HRA.out.below hbA) HR1.out).mono ?_
          rintro e w' ⟨rfl, rfl⟩
          go_wp2_with fail
          have hmid : RdB (w1.alloc (.cells #[.int .i64 i, .int .i64 t, .slice none 0 0, .slice none 0 0, .slice none 0 0] 29)) (offA (some ⟨g, 0, none⟩) (p1 + p2 + m) (p1 + p2 + m + n)) ((b.drop (p1 + p2 + m)).take n) := (rdB_mid HROW.out (p1 + p2 + m) (p1 + p2 + m + n) n rfl).below hbA
          have hmidl : ((b.drop (p1 + p2 + m)).take n).length = n := by simp; omega
          have HMID := Lib.hid hmid
          have HMIDL := Lib.hid hmidl
          clear hmid hmidl
          cases hg1 : memF ((b.drop (p1 + p2 + m)).take n) with
          | error k =>
            have hk := memF_errs hg1
            have hk0 : (k != 0) = true := by simp; omega
            have HF : Hid (sgetF xs = .error k) := by show _ = _; rw [HF0.out]; unfold inF; rw [HM1.out]; simp only; rw [HM2.out]; simp only; rw [HR1.out]; simp only; rw [hg1]
            have HG1 := Lib.hid hg1
            clear hg1 hbA
            refine (MGet_err_n _ n n _ k _ HMIDL.out (by omega) HMID.out HG1.out).mono ?_
            rintro e w2 ⟨rfl, b2⟩
            have k0 := (K0.out.alloc _).below b2
            have k1 := (Blk.new w1 #[.int .i64 (i : Int), .int .i64 (t : Int), .slice none 0 0, .slice none 0 0, .slice none 0 0] 29).below b2
            have q02 := k0.cell
            have q12 := k1.cell
            have f02 := k0.frozen
            have f12 := k1.frozen
            have HB2 : Hid (Below w.heap.size w w2) := (HB1.out.alloc (by omega) _).trans (b2.mono (by simp; omega))
            clear k0 k1 b2 q0 f0
            go_wp2_with fail
            refine bodyPost_ret (v := .tuple #[nilS, .int .i64 k]) (by simp [results, Try.results10, go_sem, q02, hsz]) rfl ?_
            refine GetR.err HF.out ?_
            exact below_set5 ((HB2.out.setCell (Nat.le_of_lt hsz) _).setCell (Nat.le_of_lt hsz) _) (Nat.le_refl _)
          | ok r4 =>
            obtain ⟨V, L⟩ := r4
            have HG1 := Lib.hid hg1
            clear hg1 hbA
            refine (MGet_ok_n _ n n _ V L _ HMIDL.out (by omega) HMID.out HG1.out).mono ?_
            rintro e w2 ⟨A1, c1, A2, c2, rfl, oV, oL, b2⟩
            have k0 := (K0.out.alloc _).below b2
            have k1 := (Blk.new w1 #[.int .i64 (i : Int), .int .i64 (t : Int), .slice none 0 0, .slice none 0 0, .slice none 0 0] 29).below b2
            have q02 := k0.cell
            have q12 := k1.cell
            have f02 := k0.frozen
            have f12 := k1.frozen
            have hsz2 : w1.heap.size < w2.heap.size := by have := b2.size; simp at this; omega
            have hB12 : Below w1.heap.size w1 w2 := ((Below.refl _ _).alloc (Nat.le_refl _) _).trans (b2.mono (by simp))
            have HB12 := Lib.hid hB12
            have HB2 : Hid (Below w.heap.size w w2) := HB1.out.trans (hB12.mono (Nat.le_of_lt hsz))
            have OV : Hid (OwV 3 1 (w1.heap.size + 1) w2 (.slice A1 V.length c1) V.length (i64s V)) := oV.mono (by simp)
            have OL : Hid (OwV 3 1 (w1.heap.size + 1) w2 (.slice A2 L.length c2) L.length (i64s L)) := oL.mono (by simp)
            clear k0 b2 q0 f0 oV oL hB12
            have K1 := Lib.hid k1
            clear k1
            go_wp2_with fail
            have hset : Keeps (· = w1.heap.size) w2 ((w2.setCell ⟨w1.heap.size, 2, none⟩ (.slice A1 V.length c1)).setCell ⟨w1.heap.size, 3, none⟩ (.slice A2 L.length c2)) := keeps_set2 _ _ _ _ _ _
            have HSET := Lib.hid hset
            have hrB : RdB ((w2.setCell ⟨w1.heap.size, 2, none⟩ (.slice A1 V.length c1)).setCell ⟨w1.heap.size, 3, none⟩ (.slice A2 L.length c2)) (some ⟨g, 0, none⟩) b := (HRA.out.below HB12.out).keeps hset (by intro _ ad e; cases e; show ¬ g = w1.heap.size; omega)
            have HRB := Lib.hid hrB
            clear hset hrB
            cases hr2 : rowF (b.drop (p1 + p2 + m + n)) 16384 with
            | error k =>
              have hk := rowF_err hr2
              have hk0 : (k != 0) = true := by simp; omega
              have HF : Hid (sgetF xs = .error k) := by show _ = _; rw [HF0.out]; unfold inF; rw [HM1.out]; simp only; rw [HM2.out]; simp only; rw [HR1.out]; simp only; rw [HG1.out]; simp only; rw [hr2]
              have HR2 := Lib.hid hr2
              clear hr2
              refine (row_err _ _ b _ (p1 + p2 + m + n) _ 16384 k _ (by omega) (by omega) rfl hmn HRB.out HR2.out).mono ?_
              rintro e w' ⟨rfl, rfl⟩
              go_wp2_with fail
              refine bodyPost_ret (v := .tuple #[nilS, .int .i64 k]) (by simp [results, Try.results10, go_sem, q02, hsz]) rfl ?_
              refine GetR.err HF.out ?_
              exact below_set5 (((HB2.out.setCell (Nat.le_of_lt hsz) _).setCell (Nat.le_of_lt hsz) _).setCell (Nat.le_of_lt hsz) _) (Nat.le_refl _)
            | ok r5 =>
              obtain ⟨m2, n2⟩ := r5
              have hl5 := rowF_le hr2
              have hmn2 : p1 + p2 + m + n + m2 + n2 ≤ b.length := by have := hl5.2.2; simp at this; omega
              have hn2 := hl5.2.1
              have HR2 := Lib.hid hr2
              clear hr2 hl5
              refine (row_ok _ _ b _ (p1 + p2 + m + n) _ 16384 n2 m2 _ (by omega) (Nat.le_refl _) (by omega) rfl hmn HRB.out HR2.out).mono ?_
              rintro e w' ⟨rfl, rfl⟩
              by_cases hmore : p1 + p2 + m + n + m2 + n2 < b.length
              · have HF : Hid (sgetF xs = .error 4) := by show _ = _; rw [HF0.out]; unfold inF; rw [HM1.out]; simp only; rw [HM2.out]; simp only; rw [HR1.out]; simp only; rw [HG1.out]; simp only; rw [HR2.out]; simp only; rw [if_pos hmore]
                go_wp2_with fail
                refine bodyPost_ret (v := .tuple #[nilS, .int .i64 4]) (by simp [results, Try.results10, go_sem, q02, hsz]) rfl ?_
                refine GetR.err HF.out ?_
                exact below_set5 (((HB2.out.setCell (Nat.le_of_lt hsz) _).setCell (Nat.le_of_lt hsz) _).setCell (Nat.le_of_lt hsz) _) (Nat.le_refl _)
              · have HF : Hid (sgetF xs = .ok ⟨i, t, V, L, (b.drop (p1 + p2 + m + n + m2)).take n2⟩) := by show _ = _; rw [HF0.out]; unfold inF; rw [HM1.out]; simp only; rw [HM2.out]; simp only; rw [HR1.out]; simp only; rw [HG1.out]; simp only; rw [HR2.out]; simp only; rw [if_neg hmore]
                go_wp2_with fail
                have hdl : ((b.drop (p1 + p2 + m + n + m2)).take n2).length = n2 := by simp; omega
                have k3 : Blk (((w2.setCell ⟨w1.heap.size, 2, none⟩ (.slice A1 V.length c1)).setCell ⟨w1.heap.size, 3, none⟩ (.slice A2 L.length c2)).setCell ⟨w1.heap.size, 4, none⟩ (.slice (offA (some ⟨g, 0, none⟩) (p1 + p2 + m + n + m2) (p1 + p2 + m + n + m2 + n2)) n2 n2)) w1.heap.size #[.int .i64 (i : Int), .int .i64 (t : Int), .slice A1 V.length c1, .slice A2 L.length c2, .slice (offA (some ⟨g, 0, none⟩) (p1 + p2 + m + n + m2) (p1 + p2 + m + n + m2 + n2)) n2 n2] 29 := ((K1.out.set 2 _).set 3 _).set 4 _
                have kf : Keeps (fun j => j = w.heap.size ∨ j = w1.heap.size) w2 (((((((((w2.setCell ⟨w1.heap.size, 2, none⟩ (.slice A1 V.length c1)).setCell ⟨w1.heap.size, 3, none⟩ (.slice A2 L.length c2)).setCell ⟨w1.heap.size, 4, none⟩ (.slice (offA (some ⟨g, 0, none⟩) (p1 + p2 + m + n + m2) (p1 + p2 + m + n + m2 + n2)) n2 n2)).setCell ⟨w.heap.size, 0, none⟩ (.int .i64 (i : Int))).setCell ⟨w.heap.size, 1, none⟩ (.int .i64 (t : Int))).setCell ⟨w.heap.size, 2, none⟩ (.slice A1 V.length c1)).setCell ⟨w.heap.size, 3, none⟩ (.slice A2 L.length c2)).setCell ⟨w.heap.size, 4, none⟩ (.slice (offA (some ⟨g, 0, none⟩) (p1 + p2 + m + n + m2) (p1 + p2 + m + n + m2 + n2)) n2 n2))) := by
                  have s : ∀ (W : World) (p : Addr) (v : Value), p.block = w.heap.size ∨ p.block = w1.heap.size → Keeps (fun j => j = w.heap.size ∨ j = w1.heap.size) W (W.setCell p v) := fun W p v h => Keeps.setCell W p v (.inl h)
                  exact (((((((s _ _ _ (.inr rfl)).trans (s _ _ _ (.inr rfl))).trans (s _ _ _ (.inr rfl))).trans (s _ _ _ (.inl rfl))).trans (s _ _ _ (.inl rfl))).trans (s _ _ _ (.inl rfl))).trans (s _ _ _ (.inl rfl))).trans (s _ _ _ (.inl rfl))
                have KF := Lib.hid kf
                clear kf k3
                have HDL := Lib.hid hdl
                clear hdl
                refine bodyPost_ret (v := .tuple #[.agg #[.int .i64 (i : Int), .int .i64 (t : Int), .slice A1 V.length c1, .slice A2 L.length c2, .slice (offA (some ⟨g, 0, none⟩) (p1 + p2 + m + n + m2) (p1 + p2 + m + n + m2 + n2)) n2 n2], .int .i64 0]) (by simp [results, Try.results10, go_sem, q02, hsz]) rfl ?_
                refine GetR.ok HF.out ?_ HDL.out ?_ ?_ ?_ ?_
                · exact below_set5 (((HB2.out.setCell (Nat.le_of_lt hsz) _).setCell (Nat.le_of_lt hsz) _).setCell (Nat.le_of_lt hsz) _) (Nat.le_refl _)
                · exact (OV.out.keeps KF.out (by intro j _ h1 h2; omega)).mono (by omega)
                · exact (OL.out.keeps KF.out (by intro j _ h1 h2; omega)).mono (by omega)
                · refine (rdB_mid ((KF.out.block g (by omega) (by omega)).trans ((HB12.out.block g (by omega)).trans HROW.out)) _ _ n2 rfl)
                · intro _ ad e
                  obtain ⟨a0, e0, h0⟩ := offA_block e
                  cases e0
                  have : g = ad.block := h0
                  omega
end Go.Proofs.Ytapgknaoieojkaa.Toll
