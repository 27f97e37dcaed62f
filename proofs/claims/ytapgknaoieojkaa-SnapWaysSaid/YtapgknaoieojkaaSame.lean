/- Walks: the references' comparisons, at what is the same. -/
import Derived.Test.YtapgknaoieojkaaSnapX
import Derived.Deep.QuietTactic
import Derived.BigQuiet
set_option linter.unusedVariables false
set_option linter.unusedSimpArgs false
set_option maxRecDepth 100000
namespace Go.Proofs.Ytapgknaoieojkaa.Toll
open Go.RowKit
structure QL (n : Nat) (w : World) (i : Value) (wr : World) : Prop where
  ex : ∃ k m : Nat, k ≤ n ∧ i = .int .i64 (k : Int) ∧ wr = w.drewN m
theorem drewN_drewN (w : World) (a b : Nat) : (w.drewN a).drewN b = w.drewN (a + b) := by
  unfold World.drewN
  simp [Nat.add_assoc]
def Quiet (w : World) (v : Value) (e : Ending) (w' : World) : Prop := e = .returned v ∧ ∃ m, w' = w.drewN m
theorem Quiet.below {w : World} {v : Value} {e : Ending} {w' : World} (h : Quiet w v e w') : e = .returned v ∧ Below w.heap.size w w' := by
  obtain ⟨h1, m, rfl⟩ := h
  exact ⟨h1, below_drewN (Below.refl _ _) m⟩
theorem SameInts_eq (A1 A2 : Option Addr) (c1 c2 : Nat) (xs : List Int) (w : World) (hs : xs.length ≤ 9223372036854775807) (h1 : RdI w A1 xs) (h2 : RdI w A2 xs) :
    Calls Try.prog 61 #[.slice A1 xs.length c1, .slice A2 xs.length c2] w (Quiet w (.bool true)) := by
  have H1 := Lib.hid h1
  have H2 := Lib.hid h2
  clear h1 h2
  go_enter Try.func61, Try.ntmps61
  go_wp2_with fail
  go_loopw [5] (fun i wr => QL xs.length w i wr) (fun i _ => xs.length - (intOf i).toNat)
  case atStart => exact ⟨0, 0, Nat.zero_le _, rfl, rfl⟩
  case round =>
    obtain ⟨k, m, hk, rfl, rfl⟩ := hrel
    by_cases hlt : k < xs.length
    · obtain ⟨b1, o1, s1, rfl, hc1⟩ := H1.out.at k hlt
      obtain ⟨b2, o2, s2, rfl, hc2⟩ := H2.out.at k hlt
      have hne : (xs[k] != xs[k]) = false := by simp
      generalize xs[k] = y at *
      go_wp2_with fail
      go_quiet (fail)
      have HF : Hid (QL xs.length w (.int .i64 ((k : Int) + 1)) (w.drewN (m + nq))) := ⟨k + 1, m + nq, hlt, rfl, rfl⟩
      go_wp2_with fail
      exact ⟨HF.out, by simp [intOf]; omega⟩
    · obtain rfl : k = xs.length := by omega
      go_wp2_with fail
      go_ret
      exact ⟨rfl, m, rfl⟩
theorem conv_str (A : Option Addr) (c : Nat) (xs : List UInt8) (w : World) (hx : RdB w A xs) : (convert tB tStr (.slice A xs.length c)).run Try.prog w = .ok (.string ⟨xs.toArray⟩) w := by
  rcases A with _ | ad
  · obtain rfl : xs = [] := by
      rcases xs with _ | ⟨x, xs⟩
      · rfl
      · obtain ⟨_, e, _⟩ := hx 0 (by simp)
        cases e
    rw [List.length_nil, run_convert_bytes_string w tB tStr uB none 0 c Try.underlying27 Try.underlying5 Try.underlying9]
    rfl
  · refine run_convert_bytes_back w tB tStr uB ad c xs Try.underlying27 Try.underlying5 Try.underlying9 (fun j hj => ?_)
    obtain ⟨ad', e, hc⟩ := hx j hj
    cases e
    exact hc
theorem SameTexts_eq (A1 A2 : Option Addr) (c1 c2 : Nat) (N : List (List UInt8)) (w : World) (hs : N.length ≤ 9223372036854775807) (h1 : RdV w A1 (strs N)) (h2 : RdV w A2 (strs N)) :
    Calls Try.prog 36 #[.slice A1 N.length c1, .slice A2 N.length c2] w (Quiet w (.bool true)) := by
  have H1 := Lib.hid h1
  have H2 := Lib.hid h2
  clear h1 h2
  go_enter Try.func36, Try.ntmps36
  go_wp2_with fail
  go_loopw [5] (fun i wr => QL N.length w i wr) (fun i _ => N.length - (intOf i).toNat)
  case atStart => exact ⟨0, 0, Nat.zero_le _, rfl, rfl⟩
  case round =>
    obtain ⟨k, m, hk, rfl, rfl⟩ := hrel
    by_cases hlt : k < N.length
    · obtain ⟨b1, o1, s1, rfl, hc1⟩ := H1.out.at k (by simpa [strs] using hlt)
      obtain ⟨b2, o2, s2, rfl, hc2⟩ := H2.out.at k (by simpa [strs] using hlt)
      have hsv : (strs N)[k]'(by simpa [strs] using hlt) = .string ⟨(N[k]).toArray⟩ := by simp [strs, Go.Proofs.encStr]
      rw [hsv] at hc1 hc2
      generalize (⟨(N[k]).toArray⟩ : ByteArray) = y at *
      have hne : (y.toList != y.toList) = false := by simp
      have hne2 : (!(y.toList == y.toList)) = false := by simp
      clear hsv
      go_wp2_with fail
      go_quiet (fail)
      have HF : Hid (QL N.length w (.int .i64 ((k : Int) + 1)) (w.drewN (m + nq))) := ⟨k + 1, m + nq, hlt, rfl, rfl⟩
      go_wp2_with fail
      exact ⟨HF.out, by simp [intOf]; omega⟩
    · obtain rfl : k = N.length := by omega
      go_wp2_with fail
      go_ret
      exact ⟨rfl, m, rfl⟩
theorem SameRows_eq {F1 F2 : Nat → Prop} (A1 A2 : Option Addr) (c1 c2 n : Nat) (vs1 vs2 : List Value) (rs : List (List UInt8)) (w : World) (hn : rs.length = n) (hs : n ≤ 9223372036854775807) (h1 : RdV w A1 vs1) (h2 : RdV w A2 vs2) (r1 : RowsF F1 w vs1 rs) (r2 : RowsF F2 w vs2 rs) :
    Calls Try.prog 15 #[.slice A1 n c1, .slice A2 n c2] w (Quiet w (.bool true)) := by
  subst hn
  have H1 := Lib.hid h1
  have H2 := Lib.hid h2
  have R1 := Lib.hid r1
  have R2 := Lib.hid r2
  clear h1 h2 r1 r2
  go_enter Try.func15, Try.ntmps15
  go_wp2_with fail
  go_loopw [5] (fun i wr => QL rs.length w i wr) (fun i _ => rs.length - (intOf i).toNat)
  case atStart => exact ⟨0, 0, Nat.zero_le _, rfl, rfl⟩
  case round =>
    obtain ⟨k, m, hk, rfl, rfl⟩ := hrel
    by_cases hlt : k < rs.length
    · obtain ⟨v1, e1, B1, d1, rfl, x1, l1, m1, _⟩ := R1.out.get k hlt
      obtain ⟨v2, e2, B2, d2, rfl, x2, l2, m2, _⟩ := R2.out.get k hlt
      obtain ⟨q1, e1'⟩ := List.getElem?_eq_some_iff.1 e1
      obtain ⟨q2, e2'⟩ := List.getElem?_eq_some_iff.1 e2
      obtain ⟨b1, o1, s1, rfl, hc1⟩ := H1.out.at k q1
      obtain ⟨b2, o2, s2, rfl, hc2⟩ := H2.out.at k q2
      rw [e1'] at hc1
      rw [e2'] at hc2
      clear e1 e2 q1 q2 e1' e2'
      generalize rs[k] = r at *
      have v1' : ∀ n, (convert tB tStr (.slice B1 r.length d1)).run Try.prog (w.drewN n) = .ok (.string ⟨r.toArray⟩) (w.drewN n) := fun n => conv_str B1 d1 r _ (x1.keeps (Keeps.drewN (fun _ => False) w n) (fun _ _ _ => id))
      have v2' : ∀ n, (convert tB tStr (.slice B2 r.length d2)).run Try.prog (w.drewN n) = .ok (.string ⟨r.toArray⟩) (w.drewN n) := fun n => conv_str B2 d2 r _ (x2.keeps (Keeps.drewN (fun _ => False) w n) (fun _ _ _ => id))
      generalize (⟨r.toArray⟩ : ByteArray) = y at *
      have hne : (y.toList != y.toList) = false := by simp
      have hne2 : (!(y.toList == y.toList)) = false := by simp
      clear x1 x2 l1 l2
      go_wp2_with fail
      go_quiet (fail)
      have HF : Hid (QL rs.length w (.int .i64 ((k : Int) + 1)) (w.drewN (m + nq))) := ⟨k + 1, m + nq, hlt, rfl, rfl⟩
      go_wp2_with fail
      exact ⟨HF.out, by simp [intOf]; omega⟩
    · obtain rfl : k = rs.length := by omega
      go_wp2_with fail
      go_ret
      exact ⟨rfl, m, rfl⟩
theorem eql_mark (i j : Int) (W : World) : (binOp .eql 23 (.agg #[.int .i64 i, .int .i64 j]) (.agg #[.int .i64 i, .int .i64 j])).run Try.prog W = .ok (.bool true) W := by
  have h : (Op.equalIn (9999 + 1) 23 (.agg #[.int .i64 i, .int .i64 j]) (.agg #[.int .i64 i, .int .i64 j])).run Try.prog W = .ok ((i == i) && ((j == j) && true)) W := by
    refine eqA_of Try.underlying23 (by kernel_rfl) ?_
    refine eqf_cons (by rfl) (by go_simp; rfl) (by go_simp; rfl) (by go_simp) ?_
    exact eqf_cons (by rfl) (by go_simp; rfl) (by go_simp; rfl) (by go_simp) eqf_nil
  rw [run_eql_struct, h]
  simp
theorem Same03_eq (A1 A2 B1 B2 : Option Addr) (c1 c2 d1 d2 : Nat) (V L : List Int) (w : World) (h1 : MemAt w A1 A2 V L) (h2 : MemAt w B1 B2 V L) :
    Calls Try.prog 35 #[.agg #[.slice A1 V.length c1, .slice A2 L.length c2], .agg #[.slice B1 V.length d1, .slice B2 L.length d2]] w fun e w' => e = .returned (.bool true) ∧ Below w.heap.size w w' := by
  have HA := Lib.hid h1
  have HB := Lib.hid h2
  have hb1 : Below w.heap.size w (w.alloc (.cells #[.slice A1 V.length c1, .slice A2 L.length c2] 26)) := (Below.refl _ _).alloc (Nat.le_refl _) _
  have hb2 : Below w.heap.size w ((w.alloc (.cells #[.slice A1 V.length c1, .slice A2 L.length c2] 26)).alloc (.cells #[.slice B1 V.length d1, .slice B2 L.length d2] 26)) := hb1.alloc (by simp) _
  have k1 := (Blk.new w #[.slice A1 V.length c1, .slice A2 L.length c2] 26).alloc (.cells #[.slice B1 V.length d1, .slice B2 L.length d2] 26)
  have k2 := Blk.new (w.alloc (.cells #[.slice A1 V.length c1, .slice A2 L.length c2] 26)) #[.slice B1 V.length d1, .slice B2 L.length d2] 26
  have H2 := Lib.hid hb2
  rw [show (w.alloc (.cells #[.slice A1 V.length c1, .slice A2 L.length c2] 26)).heap.size = w.heap.size + 1 by simp] at k2
  clear h1 h2 hb1 hb2
  go_enter Try.func35, Try.ntmps35
  go_wp2_with fail
  refine (SameInts_eq A1 B1 c1 d1 V _ HA.out.vl (HA.out.v.below H2.out) (HB.out.v.below H2.out)).mono ?_
  intro e w3 hq
  obtain ⟨rfl, b3⟩ := hq.below
  clear hq
  have q1 := (k1.below b3).cell
  have q2 := (k2.below b3).cell
  have H3 := Lib.hid (H2.out.trans (b3.mono (by simp; omega)))
  clear b3 k1 k2
  go_wp2_with fail
  refine (SameInts_eq A2 B2 c2 d2 L _ HA.out.ll (HA.out.l.below H3.out) (HB.out.l.below H3.out)).mono ?_
  intro e w4 hq
  obtain ⟨rfl, b4⟩ := hq.below
  have H4 := Lib.hid (H3.out.trans (b4.mono H3.out.size))
  clear hq b4
  go_wp2_with fail
  go_ret
  exact ⟨rfl, H4.out⟩
theorem Same_eq (A1 A2 A3 B1 B2 B3 : Option Addr) (c1 c2 c3 d1 d2 d3 : Nat) (s : SnapV) (w : World) (h1 : SnapAt w A1 A2 A3 s) (h2 : SnapAt w B1 B2 B3 s) :
    Calls Try.prog 11 #[snapVal A1 A2 A3 c1 c2 c3 s, snapVal B1 B2 B3 d1 d2 d3 s] w fun e w' => e = .returned (.bool true) ∧ Below w.heap.size w w' := by
  have HA := Lib.hid h1
  have HB := Lib.hid h2
  obtain ⟨idx, term, V, L, data⟩ := s
  have hm := eql_mark idx term
  have hb1 : Below w.heap.size w (w.alloc (.cells #[.int .i64 idx, .int .i64 term, .slice A1 V.length c1, .slice A2 L.length c2, .slice A3 data.length c3] 29)) := (Below.refl _ _).alloc (Nat.le_refl _) _
  have hb2 : Below w.heap.size w ((w.alloc (.cells #[.int .i64 idx, .int .i64 term, .slice A1 V.length c1, .slice A2 L.length c2, .slice A3 data.length c3] 29)).alloc (.cells #[.int .i64 idx, .int .i64 term, .slice B1 V.length d1, .slice B2 L.length d2, .slice B3 data.length d3] 29)) := hb1.alloc (by simp) _
  have k1 := (Blk.new w #[.int .i64 idx, .int .i64 term, .slice A1 V.length c1, .slice A2 L.length c2, .slice A3 data.length c3] 29).alloc (.cells #[.int .i64 idx, .int .i64 term, .slice B1 V.length d1, .slice B2 L.length d2, .slice B3 data.length d3] 29)
  have k2 := Blk.new (w.alloc (.cells #[.int .i64 idx, .int .i64 term, .slice A1 V.length c1, .slice A2 L.length c2, .slice A3 data.length c3] 29)) #[.int .i64 idx, .int .i64 term, .slice B1 V.length d1, .slice B2 L.length d2, .slice B3 data.length d3] 29
  rw [show (w.alloc (.cells #[.int .i64 idx, .int .i64 term, .slice A1 V.length c1, .slice A2 L.length c2, .slice A3 data.length c3] 29)).heap.size = w.heap.size + 1 by simp] at k2
  have H2 := Lib.hid hb2
  clear h1 h2 hb1 hb2
  go_enter Try.func11, Try.ntmps11
  go_wp2_with fail
  refine (Same03_eq A1 A2 B1 B2 c1 c2 d1 d2 V L _ (HA.out.mem.below H2.out) (HB.out.mem.below H2.out)).mono ?_
  rintro e w3 ⟨rfl, b3⟩
  have q1 := (k1.below b3).cell
  have q2 := (k2.below b3).cell
  have H3 := Lib.hid (H2.out.trans (b3.mono (by simp; omega)))
  have v1' := conv_str A3 c3 data w3 (HA.out.data.below H3.out)
  have v2' := conv_str B3 d3 data w3 (HB.out.data.below H3.out)
  generalize (⟨data.toArray⟩ : ByteArray) = y at *
  have hne : (y.toList == y.toList) = true := by simp
  clear b3 k1 k2
  go_wp2_with fail
  go_ret
  exact ⟨rfl, H3.out⟩
end Go.Proofs.Ytapgknaoieojkaa.Toll
