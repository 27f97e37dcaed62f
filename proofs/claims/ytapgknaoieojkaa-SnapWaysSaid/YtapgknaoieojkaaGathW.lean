/- Walk: Gather.Add. -/
import Derived.Test.YtapgknaoieojkaaGathP
set_option linter.unusedVariables false
set_option linter.unusedSimpArgs false
set_option maxRecDepth 100000
namespace Go.Proofs.Ytapgknaoieojkaa.Toll
open Go.RowKit
set_option maxHeartbeats 4000000 in
theorem Add_any (A : Option Addr) (c : Nat) (p : List UInt8) (w : World) {g base : Nat} {gv : GatV} (h : GatIn w g base gv) (hb : base ≤ w.heap.size) (hpc : p.length ≤ c) (hcm : c ≤ 9223372036854775807) (hx : RdB w A p) (hpg : 0 < p.length → ∀ ad, A = some ad → ad.block ≠ g) :
    Calls Try.prog 26 #[.pointer (some ⟨g, 0, none⟩), .slice A p.length c] w (AddPost w g base (addF gv p)) := by
  have HX := Lib.hid hx
  obtain ⟨v, h⟩ := h
  have H := Lib.hid h
  obtain ⟨V, vc, rfl, _, _, hvm, _⟩ := h.own.form
  have hgl := h.lt
  have hw1 : Below w.heap.size w (w.alloc (.cells #[.int .i64 0, .int .i64 0, .slice none 0 0, .slice none 0 0, .slice none 0 0] 29)) := (Below.refl _ _).alloc (Nat.le_refl _) _
  have HW1 := Lib.hid hw1
  have HGI : Hid (GatIn (w.alloc (.cells #[.int .i64 0, .int .i64 0, .slice none 0 0, .slice none 0 0, .slice none 0 0] 29)) g base gv) := ⟨_, h.below hw1⟩
  have HBB := Lib.hid (hw1.mono hb)
  clear h hx hw1
  cases ht1 : takeF p with
  | error k =>
    have hk := takeF_err ht1
    have hk0 : (k != 0) = true := by simp; omega
    have HR : Hid (addF gv p = (.error k, gv)) := by show _ = _; unfold addF; rw [ht1]
    have HT1 := Lib.hid (show takeF (p.drop 0) = .error k from ht1)
    clear hk ht1
    go_enter Try.func26, Try.ntmps26
    go_wp2_with fail
    refine (take_err A c p 0 0 k _ (by omega) rfl (Nat.zero_le _) (HX.out.below HW1.out) HT1.out).mono ?_
    rintro e w1 ⟨rfl, rfl⟩
    go_wp2_with fail
    refine bodyPost_ret (v := .tuple #[nilS, .bool false, .int .i64 k]) (by simp [results, Try.results26, go_sem]) rfl ?_
    exact AddPost.err HR.out HBB.out HGI.out
  | ok tm =>
    obtain ⟨t, m1⟩ := tm
    obtain ⟨hm0, hm1, ht40, hm6⟩ := takeF_le ht1
    have HT1 := Lib.hid (show takeF (p.drop 0) = .ok (t, m1) from ht1)
    cases ht2 : takeF (p.drop m1) with
    | error k =>
      have hk := takeF_err ht2
      have hk0 : (k != 0) = true := by simp; omega
      have HR : Hid (addF gv p = (.error k, gv)) := by show _ = _; unfold addF; rw [ht1]; simp only; rw [ht2]
      have HT2 := Lib.hid ht2
      have hsl0 : ∀ W, (Instr.slice tB (.slice A p.length c) (some (.int .i64 0)) none none).run Try.prog W = .ok (.slice (offA A 0 c) (p.length - 0) (c - 0)) W := slice_l A p.length c 0 (Nat.zero_le _)
      clear hk ht1 ht2
      go_enter Try.func26, Try.ntmps26
      go_wp2_with fail
      refine (take_ok A c p 0 0 t m1 _ (by omega) rfl (Nat.zero_le _) (HX.out.below HW1.out) HT1.out).mono ?_
      rintro e w1 ⟨rfl, rfl⟩
      go_wp2_with fail
      refine (take_err A c p _ m1 k _ (by omega) (by omega) hm1 (HX.out.below HW1.out) HT2.out).mono ?_
      rintro e w1 ⟨rfl, rfl⟩
      go_wp2_with fail
      refine bodyPost_ret (v := .tuple #[nilS, .bool false, .int .i64 k]) (by simp [results, Try.results26, go_sem]) rfl ?_
      exact AddPost.err HR.out HBB.out HGI.out
    | ok qm =>
      obtain ⟨q, m2⟩ := qm
      obtain ⟨hm20, hm21, hq40, hm26⟩ := takeF_le ht2
      have HT2 := Lib.hid ht2
      obtain ⟨x, hxd⟩ : ∃ x, x = p.drop (m1 + m2) := ⟨_, rfl⟩
      rw [List.length_drop] at hm21
      have hxl : x.length = p.length - (m1 + m2) := by rw [hxd, List.length_drop]
      have hA : addF gv p = if 32768 < t then (.error 6, gv) else if t < q ∨ t - q < x.length ∨ (x.length = 0 ∧ 0 < t) then (.error 4, gv) else if 0 < q ∧ (gv.begun = false ∨ gv.total ≠ t ∨ gv.b.length ≠ q) then (.error 12, gv) else if ((if q = 0 then [] else gv.b) ++ x).length < t then (.ok none, ⟨true, t, (if q = 0 then [] else gv.b) ++ x⟩) else (match sgetF ((if q = 0 then [] else gv.b) ++ x) with | .error k => (.error k, ⟨false, 0, []⟩) | .ok s => (.ok (some s), ⟨false, 0, []⟩)) := by
        rw [hxd]
        unfold addF
        rw [ht1]
        simp only
        rw [ht2]
        rfl
      have HA := Lib.hid hA
      have hsl : ∀ W, (Instr.slice tB (.slice A p.length c) (some (.int .i64 ((m1 : Int) + (m2 : Int)))) none none).run Try.prog W = .ok (.slice (offA A (m1 + m2) c) x.length (c - (m1 + m2))) W := by
        have := slice_l A p.length c (m1 + m2) (by omega)
        rw [hxl]
        simpa using this
      have HXD : Hid (∀ W, RdB W A p → RdB W (offA A (m1 + m2) c) x) := fun W h => by rw [hxd]; exact h.off _ _ hpc
      clear ht1 ht2 hxd hA
      generalize hL : x.length = L at *
      have HL := Lib.hid hL
      have HXL := Lib.hid hxl
      clear hL hxl
      have hcase : (decide (32768 < (t : Int)) = true ∧ addF gv p = (.error 6, gv)) ∨
          (decide (32768 < (t : Int)) = false ∧ decide (t < q) = true ∧ addF gv p = (.error 4, gv)) ∨
          (decide (32768 < (t : Int)) = false ∧ decide (t < q) = false ∧ q ≤ t ∧ t ≤ 32768 ∧ decide ((t : Int) - (q : Int) < (L : Int)) = true ∧ addF gv p = (.error 4, gv)) ∨
          (decide (32768 < (t : Int)) = false ∧ decide (t < q) = false ∧ q ≤ t ∧ t ≤ 32768 ∧ decide ((t : Int) - (q : Int) < (L : Int)) = false ∧ ((L : Int) == 0) = true ∧ decide (0 < t) = true ∧ addF gv p = (.error 4, gv)) ∨
          (decide (32768 < (t : Int)) = false ∧ decide (t < q) = false ∧ q ≤ t ∧ t ≤ 32768 ∧ L ≤ t - q ∧ ¬ (t < q ∨ t - q < L ∨ (L = 0 ∧ 0 < t)) ∧ ((((L : Int) == 0) = false ∧ decide ((t : Int) - (q : Int) < (L : Int)) = false) ∨ (((L : Int) == 0) = true ∧ decide ((t : Int) - (q : Int) < (L : Int)) = false ∧ decide (0 < t) = false))) := by
        by_cases x1 : 32768 < t
        · exact .inl ⟨by simp; omega, by rw [HA.out, if_pos x1]⟩
        · by_cases x2 : t < q
          · exact .inr (.inl ⟨by simp; omega, by simp; omega, by rw [HA.out, if_neg x1, if_pos (.inl x2)]⟩)
          · by_cases x3 : t - q < L
            · exact .inr (.inr (.inl ⟨by simp; omega, by simp; omega, by omega, by omega, by simp; omega, by rw [HA.out, if_neg x1, if_pos (.inr (.inl x3))]⟩))
            · by_cases x4 : L = 0 ∧ 0 < t
              · exact .inr (.inr (.inr (.inl ⟨by simp; omega, by simp; omega, by omega, by omega, by simp; omega, by simp; omega, by simp; omega, by rw [HA.out, if_neg x1, if_pos (.inr (.inr x4))]⟩)))
              · refine .inr (.inr (.inr (.inr ⟨by simp; omega, by simp; omega, by omega, by omega, by omega, by omega, ?_⟩)))
                by_cases x5 : L = 0
                · exact .inr ⟨by simp; omega, by simp; omega, by simp; omega⟩
                · exact .inl ⟨by simp; omega, by simp; omega⟩
      rcases hcase with ⟨k1, hr⟩ | ⟨k1, k2, hr⟩ | ⟨k1, k2, hqt, htb, k3, hr⟩ | ⟨k1, k2, hqt, htb, k3, k4, k5, hr⟩ | ⟨k1, k2, hqt, htb, hLt, hno, k4⟩
      rotate_left 4
      · obtain ⟨bg, tot, bs⟩ := gv
        simp only at *
        obtain ⟨q0, q1, q2⟩ := three_cells H.out.blk
        have f0 := H.out.blk.frozen 0
        have f1 := H.out.blk.frozen 1
        have f2 := H.out.blk.frozen 2
        have hgne : g ≠ w.heap.size := by omega
        have hstale : ((decide (0 < q) = true ∧ bg = false ∧ addF ⟨bg, tot, bs⟩ p = (.error 12, ⟨bg, tot, bs⟩)) ∨ (decide (0 < q) = true ∧ bg = true ∧ ((tot : Int) != (t : Int)) = true ∧ addF ⟨bg, tot, bs⟩ p = (.error 12, ⟨bg, tot, bs⟩)) ∨ (decide (0 < q) = true ∧ bg = true ∧ ((tot : Int) != (t : Int)) = false ∧ ((bs.length : Int) != (q : Int)) = true ∧ addF ⟨bg, tot, bs⟩ p = (.error 12, ⟨bg, tot, bs⟩))) ∨
            (decide (0 < q) = true ∧ bg = true ∧ ((tot : Int) != (t : Int)) = false ∧ tot = t ∧ ((bs.length : Int) != (q : Int)) = false ∧ bs.length = q ∧ ((q : Int) == 0) = false ∧ addF ⟨bg, tot, bs⟩ p = if (bs ++ x).length < t then (.ok none, ⟨true, t, bs ++ x⟩) else (match sgetF (bs ++ x) with | .error k => (.error k, ⟨false, 0, []⟩) | .ok s => (.ok (some s), ⟨false, 0, []⟩))) ∨
            (decide (0 < q) = false ∧ q = 0 ∧ ((q : Int) == 0) = true ∧ addF ⟨bg, tot, bs⟩ p = if ([] ++ x).length < t then (.ok none, ⟨true, t, [] ++ x⟩) else (match sgetF ([] ++ x) with | .error k => (.error k, ⟨false, 0, []⟩) | .ok s => (.ok (some s), ⟨false, 0, []⟩))) := by
          have ha := HA.out
          rw [if_neg (show ¬ 32768 < t by omega), if_neg hno] at ha
          by_cases y0 : 0 < q
          · have y0' : q ≠ 0 := by omega
            cases bg with
            | false => exact .inl (.inl ⟨by simpa using y0, rfl, by rw [ha, if_pos ⟨y0, .inl rfl⟩]⟩)
            | true =>
              by_cases y1 : tot = t
              · by_cases y2 : bs.length = q
                · refine .inr (.inl ⟨by simpa using y0, rfl, by simp; omega, y1, by simp; omega, y2, by simp; omega, ?_⟩)
                  rw [ha, if_neg (by simp [y1, y2]), if_neg y0']
                · exact .inl (.inr (.inr ⟨by simpa using y0, rfl, by simp; omega, by simp; omega, by rw [ha, if_pos ⟨y0, .inr (.inr y2)⟩]⟩))
              · exact .inl (.inr (.inl ⟨by simpa using y0, rfl, by simp; omega, by rw [ha, if_pos ⟨y0, .inr (.inl y1)⟩]⟩))
          · have y1 : q = 0 := by omega
            refine .inr (.inr ⟨by simp; omega, y1, by simp; omega, ?_⟩)
            rw [ha, if_neg (by omega), if_pos y1]
        have HNO := Lib.hid hno
        clear hno
        rcases hstale with hst | ⟨z0, z1, z2, z3, z4, z5, z6, hr⟩ | ⟨z0, z1, z2, hr⟩
        · have hst2 : decide (0 < q) = true ∧ addF ⟨bg, tot, bs⟩ p = (.error 12, ⟨bg, tot, bs⟩) := by
            rcases hst with ⟨z0, _, hr⟩ | ⟨z0, _, _, hr⟩ | ⟨z0, _, _, _, hr⟩ <;> exact ⟨z0, hr⟩
          have HR := Lib.hid hst2.2
          clear hst2
          rcases hst with ⟨z0, z1, _⟩ | ⟨z0, z1, z2, _⟩ | ⟨z0, z1, z2, z3, _⟩
          all_goals
            subst z1
            rcases k4 with ⟨k4, k5⟩ | ⟨k4, k5, k6⟩
          all_goals
            go_enter Try.func26, Try.ntmps26
            go_wp2_with fail
            refine (take_ok A c p 0 0 t m1 _ (by omega) rfl (Nat.zero_le _) (HX.out.below HW1.out) HT1.out).mono ?_
            rintro e w1 ⟨rfl, rfl⟩
            go_wp2_with fail
            refine (take_ok A c p _ m1 q m2 _ (by omega) (by omega) hm1 (HX.out.below HW1.out) HT2.out).mono ?_
            rintro e w1 ⟨rfl, rfl⟩
            go_wp2_with fail
            refine bodyPost_ret (v := .tuple #[nilS, .bool false, .int .i64 12]) (by simp [results, Try.results26, go_sem]) rfl ?_
            exact AddPost.err HR.out HBB.out HGI.out
        · have HR := Lib.hid hr
          have HZ3 := Lib.hid z3
          have HZ5 := Lib.hid z5
          subst z1
          clear hr z3 z5
          rcases k4 with ⟨k4, k5⟩ | ⟨k4, k5, k6⟩
          all_goals
            go_enter Try.func26, Try.ntmps26
            go_wp2_with fail
            refine (take_ok A c p 0 0 t m1 _ (by omega) rfl (Nat.zero_le _) (HX.out.below HW1.out) HT1.out).mono ?_
            rintro e w1 ⟨rfl, rfl⟩
            go_wp2_with fail
            refine (take_ok A c p _ m1 q m2 _ (by omega) (by omega) hm1 (HX.out.below HW1.out) HT2.out).mono ?_
            rintro e w1 ⟨rfl, rfl⟩
            go_wp2_with (at_builtin; refine wpList_appB 0 rfl (.tmp 107) (.tmp 108) rfl _ bs x _ _ _ rfl rfl HL.out (H.out.own.below HW1.out) (HXD.out _ (HX.out.below HW1.out)) ?c3 ?c4 ?c5)
            case c3 => have h1 := H.out.len; have h2 := HL.out; simp only at h1; omega
            case c4 => exact Nat.zero_le _
            case c5 =>
              intro v1 w1 o1 g1
              have hbk : Blk (w.alloc (.cells zero5 29)) g #[.bool true, .int .i64 (t : Int), .slice V bs.length vc] tG := by
                have := H.out.blk.below HW1.out
                simp only [HZ3.out] at this
                exact this
              have hga := GApp.of g1 o1 hbk (fun i e => ⟨(H.out.fr i e).1, (H.out.fr i e).2.1, by have := (H.out.fr i e).2.2; omega⟩) HBB.out (Blk.new _ _ _) H.out.at_ hgl hb
              have hyl : (bs ++ x).length ≤ 32768 := by rw [List.length_append, HL.out, HZ5.out]; omega
              have hy0 : (bs ++ x).length < t → 0 < (bs ++ x).length := fun h => by rw [List.length_append, HZ5.out]; simp at z0; omega
              clear hbk g1
              have HAT_ := Lib.hid H.out.at_
              obtain ⟨A1, cc1, rfl, hr1, hcl, hcm1, _⟩ := o1.form
              generalize bs ++ x = ys at *
              have HGA := Lib.hid hga
              obtain ⟨v0, hk0⟩ := hga.blk
              obtain ⟨p0, p1, p2⟩ := three_cells hk0
              have e0 := hk0.frozen 0
              have e1 := hk0.frozen 1
              have e2 := hk0.frozen 2
              have hg1 := hk0.lt
              have hs1 := hga.res.lt
              have r3 := hga.res.cell
              have r4 := hga.res.frozen
              clear o1 hga hk0 hr1
              by_cases hlt : ys.length < t
              · have d1 : decide (ys.length < t) = true := by simpa using hlt
                have HR2 : Hid (addF ⟨true, tot, bs⟩ p = (.ok none, ⟨true, t, ys⟩)) := by show _ = _; rw [HR.out, if_pos hlt]
                have hy0' := hy0 hlt
                clear hlt hy0
                go_wp2_with fail
                refine bodyPost_ret (v := .tuple #[nilS, .bool false, .int .i64 0]) (by simp [results, Try.results26, go_sem, r3, hs1, hgne]) rfl ?_
                exact HGA.out.fin hyl hy0' _ _ _ _ _ HR2.out
              · have d1 : decide (ys.length < t) = false := by simpa using hlt
                have HR2 : Hid (addF ⟨true, tot, bs⟩ p = (match sgetF ys with | .error k => (.error k, ⟨false, 0, []⟩) | .ok s => (.ok (some s), ⟨false, 0, []⟩))) := by show _ = _; rw [HR.out, if_neg hlt]
                clear hlt hy0
                go_wp2_with fail
                obtain ⟨hz1, hz2, hz3, hz4⟩ := HGA.out.reset
                have hzs : ((((w1.setCell ⟨g, 2, none⟩ (.slice A1 ys.length cc1)).setCell ⟨g, 0, none⟩ (.bool false)).setCell ⟨g, 1, none⟩ (.int .i64 0)).setCell ⟨g, 2, none⟩ (.slice none 0 0)).heap.size = w1.heap.size := by simp
                have HZS := Lib.hid hzs
                clear p0 p1 p2 e0 e1 e2 r3 r4 hzs
                generalize (((w1.setCell ⟨g, 2, none⟩ (.slice A1 ys.length cc1)).setCell ⟨g, 0, none⟩ (.bool false)).setCell ⟨g, 1, none⟩ (.int .i64 0)).setCell ⟨g, 2, none⟩ (.slice none 0 0) = w3 at *
                obtain ⟨A', c', ea, hr', _⟩ := hz2.form
                cases ea
                refine (SGet_res A1 cc1 ys w3 (by omega) hcl hcm1 hr').mono ?_
                intro e w4 hp
                obtain ⟨b4, hp⟩ := hp
                have hsz3 := hz4.lt
                have hk4 := hz4.below b4
                have HK4 := Lib.hid hk4
                have hg4 := hz1.below b4
                have HG4 := Lib.hid hg4
                have hs4 := hk4.lt
                have r3 := hk4.cell
                have r4 := hk4.frozen
                have HB4 := Lib.hid (hz3.trans (b4.mono (Nat.le_trans hb (Nat.le_of_lt hsz3))))
                clear hz1 hz2 hz3 hz4 hr' b4 hk4 hg4
                cases hsg : sgetF ys with
                | error k =>
                  rw [hsg] at hp
                  subst hp
                  have h1 := sgetF_errs hsg
                  have hk0 : (k == 0) = false := by simp; omega
                  have HR3 : Hid (addF ⟨true, tot, bs⟩ p = (.error k, ⟨false, 0, []⟩)) := by show _ = _; rw [HR2.out, hsg]
                  clear hsg h1
                  go_wp2_with fail
                  refine bodyPost_ret (v := .tuple #[nilS, .bool false, .int .i64 k]) (by simp [results, Try.results26, go_sem, r3, hs4, hgne]) rfl ?_
                  obtain ⟨z1, z2⟩ := reset_end HB4.out HG4.out hgl HAT_.out (.int .i64 0) (.int .i64 0) (.slice none 0 0) (.slice none 0 0) (.slice none 0 0) (.cells zero5 29)
                  exact AddPost.err HR3.out z1 z2
                | ok s =>
                  rw [hsg] at hp
                  obtain ⟨S1, S2, S3, s1, s2, s3, rfl, hat, hfr⟩ := hp
                  have HR3 : Hid (addF ⟨true, tot, bs⟩ p = (.ok (some s), ⟨false, 0, []⟩)) := by show _ = _; rw [HR2.out, hsg]
                  have HAT := Lib.hid hat
                  have HFR := Lib.hid hfr
                  clear hsg hat hfr
                  go_wp2_with fail
                  refine bodyPost_ret (v := .tuple #[snapVal S1 S2 S3 s1 s2 s3 s, .bool true, .int .i64 0]) (by simp [results, Try.results26, go_sem, r3, hs4, hgne]) rfl ?_
                  obtain ⟨z1, z2⟩ := reset_end HB4.out HG4.out hgl HAT_.out (.int .i64 s.idx) (.int .i64 s.term) (.slice S1 s.V.length s1) (.slice S2 s.L.length s2) (.slice S3 s.data.length s3) (.cells #[.int .i64 s.idx, .int .i64 s.term, .slice S1 s.V.length s1, .slice S2 s.L.length s2, .slice S3 s.data.length s3] 29)
                  exact AddPost.some HR3.out z1 z2 ((HAT.out.keeps (keeps_set5 w4 w.heap.size (.int .i64 s.idx) (.int .i64 s.term) (.slice S1 s.V.length s1) (.slice S2 s.L.length s2) (.slice S3 s.data.length s3)) HFR.out (fun i hi e => by omega)).below ((Below.refl _ _).alloc (Nat.le_refl _) _))
        · have HR : Hid (addF ⟨bg, tot, bs⟩ p = if x.length < t then (.ok none, ⟨true, t, x⟩) else (match sgetF x with | .error k => (.error k, ⟨false, 0, []⟩) | .ok s => (.ok (some s), ⟨false, 0, []⟩))) := hr
          clear hr
          obtain ⟨hkk, hkb⟩ := start_set H.out.blk (t : Int) (.cells zero5 29)
          have hres : Blk ((((w.setCell ⟨g, 0, none⟩ (.bool true)).setCell ⟨g, 1, none⟩ (.int .i64 (t : Int))).setCell ⟨g, 2, none⟩ (.slice none 0 0)).alloc (.cells zero5 29)) w.heap.size zero5 29 := by
            have := Blk.new (((w.setCell ⟨g, 0, none⟩ (.bool true)).setCell ⟨g, 1, none⟩ (.int .i64 (t : Int))).setCell ⟨g, 2, none⟩ (.slice none 0 0)) zero5 29
            simpa using this
          have HKK := Lib.hid hkk
          have HKB := Lib.hid hkb
          have HRES := Lib.hid hres
          have HPX := Lib.hid (HX.out.keeps hkk (fun h0 ad e => hpg h0 ad e))
          clear hkk hkb hres
          rcases k4 with ⟨k4, k5⟩ | ⟨k4, k5, k6⟩
          all_goals
            go_enter Try.func26, Try.ntmps26
            go_wp2_with fail
            refine (take_ok A c p 0 0 t m1 _ (by omega) rfl (Nat.zero_le _) (HX.out.below HW1.out) HT1.out).mono ?_
            rintro e w1 ⟨rfl, rfl⟩
            go_wp2_with fail
            refine (take_ok A c p _ m1 q m2 _ (by omega) (by omega) hm1 (HX.out.below HW1.out) HT2.out).mono ?_
            rintro e w1 ⟨rfl, rfl⟩
            go_wp2_with (at_builtin; refine wpList_appB 0 rfl (.tmp 107) (.tmp 108) rfl _ [] x _ _ _ rfl rfl HL.out (OwB.nil _ _) (HXD.out _ HPX.out) ?c3 ?c4 ?c5)
            case c3 => have h2 := HL.out; simp; omega
            case c4 => exact Nat.zero_le _
            case c5 =>
              intro v1 w1 o1 g1
              have hga := GApp.of (bs := []) g1 o1 HKB.out (fun i e => by simp [Value.ownBlock] at e) (HKK.out.below (fun i _ e => by rw [e]; exact H.out.at_) hb) HRES.out H.out.at_ hgl hb
              have hga : GApp w g base t v1 x w1 := hga
              have hyl : x.length ≤ 32768 := by rw [HL.out]; omega
              have hy0 : x.length < t → 0 < x.length := fun h => by have h1 := HL.out; have h2 := HNO.out; omega
              clear g1
              have HAT_ := Lib.hid H.out.at_
              obtain ⟨A1, cc1, rfl, hr1, hcl, hcm1, _⟩ := o1.form
              generalize x = ys at *
              have HGA := Lib.hid hga
              obtain ⟨v0, hk0⟩ := hga.blk
              obtain ⟨p0, p1, p2⟩ := three_cells hk0
              have e0 := hk0.frozen 0
              have e1 := hk0.frozen 1
              have e2 := hk0.frozen 2
              have hg1 := hk0.lt
              have hs1 := hga.res.lt
              have r3 := hga.res.cell
              have r4 := hga.res.frozen
              clear o1 hga hk0 hr1
              by_cases hlt : ys.length < t
              · have d1 : decide (ys.length < t) = true := by simpa using hlt
                have HR2 : Hid (addF ⟨bg, tot, bs⟩ p = (.ok none, ⟨true, t, ys⟩)) := by show _ = _; rw [HR.out, if_pos hlt]
                have hy0' := hy0 hlt
                clear hlt hy0
                go_wp2_with fail
                refine bodyPost_ret (v := .tuple #[nilS, .bool false, .int .i64 0]) (by simp [results, Try.results26, go_sem, r3, hs1, hgne]) rfl ?_
                exact HGA.out.fin hyl hy0' _ _ _ _ _ HR2.out
              · have d1 : decide (ys.length < t) = false := by simpa using hlt
                have HR2 : Hid (addF ⟨bg, tot, bs⟩ p = (match sgetF ys with | .error k => (.error k, ⟨false, 0, []⟩) | .ok s => (.ok (some s), ⟨false, 0, []⟩))) := by show _ = _; rw [HR.out, if_neg hlt]
                clear hlt hy0
                go_wp2_with fail
                obtain ⟨hz1, hz2, hz3, hz4⟩ := HGA.out.reset
                have hzs : ((((w1.setCell ⟨g, 2, none⟩ (.slice A1 ys.length cc1)).setCell ⟨g, 0, none⟩ (.bool false)).setCell ⟨g, 1, none⟩ (.int .i64 0)).setCell ⟨g, 2, none⟩ (.slice none 0 0)).heap.size = w1.heap.size := by simp
                have HZS := Lib.hid hzs
                clear p0 p1 p2 e0 e1 e2 r3 r4 hzs
                generalize (((w1.setCell ⟨g, 2, none⟩ (.slice A1 ys.length cc1)).setCell ⟨g, 0, none⟩ (.bool false)).setCell ⟨g, 1, none⟩ (.int .i64 0)).setCell ⟨g, 2, none⟩ (.slice none 0 0) = w3 at *
                obtain ⟨A', c', ea, hr', _⟩ := hz2.form
                cases ea
                refine (SGet_res A1 cc1 ys w3 (by omega) hcl hcm1 hr').mono ?_
                intro e w4 hp
                obtain ⟨b4, hp⟩ := hp
                have hsz3 := hz4.lt
                have hk4 := hz4.below b4
                have HK4 := Lib.hid hk4
                have hg4 := hz1.below b4
                have HG4 := Lib.hid hg4
                have hs4 := hk4.lt
                have r3 := hk4.cell
                have r4 := hk4.frozen
                have HB4 := Lib.hid (hz3.trans (b4.mono (Nat.le_trans hb (Nat.le_of_lt hsz3))))
                clear hz1 hz2 hz3 hz4 hr' b4 hk4 hg4
                cases hsg : sgetF ys with
                | error k =>
                  rw [hsg] at hp
                  subst hp
                  have h1 := sgetF_errs hsg
                  have hk0 : (k == 0) = false := by simp; omega
                  have HR3 : Hid (addF ⟨bg, tot, bs⟩ p = (.error k, ⟨false, 0, []⟩)) := by show _ = _; rw [HR2.out, hsg]
                  clear hsg h1
                  go_wp2_with fail
                  refine bodyPost_ret (v := .tuple #[nilS, .bool false, .int .i64 k]) (by simp [results, Try.results26, go_sem, r3, hs4, hgne]) rfl ?_
                  obtain ⟨z1, z2⟩ := reset_end HB4.out HG4.out hgl HAT_.out (.int .i64 0) (.int .i64 0) (.slice none 0 0) (.slice none 0 0) (.slice none 0 0) (.cells zero5 29)
                  exact AddPost.err HR3.out z1 z2
                | ok s =>
                  rw [hsg] at hp
                  obtain ⟨S1, S2, S3, s1, s2, s3, rfl, hat, hfr⟩ := hp
                  have HR3 : Hid (addF ⟨bg, tot, bs⟩ p = (.ok (some s), ⟨false, 0, []⟩)) := by show _ = _; rw [HR2.out, hsg]
                  have HAT := Lib.hid hat
                  have HFR := Lib.hid hfr
                  clear hsg hat hfr
                  go_wp2_with fail
                  refine bodyPost_ret (v := .tuple #[snapVal S1 S2 S3 s1 s2 s3 s, .bool true, .int .i64 0]) (by simp [results, Try.results26, go_sem, r3, hs4, hgne]) rfl ?_
                  obtain ⟨z1, z2⟩ := reset_end HB4.out HG4.out hgl HAT_.out (.int .i64 s.idx) (.int .i64 s.term) (.slice S1 s.V.length s1) (.slice S2 s.L.length s2) (.slice S3 s.data.length s3) (.cells #[.int .i64 s.idx, .int .i64 s.term, .slice S1 s.V.length s1, .slice S2 s.L.length s2, .slice S3 s.data.length s3] 29)
                  exact AddPost.some HR3.out z1 z2 ((HAT.out.keeps (keeps_set5 w4 w.heap.size (.int .i64 s.idx) (.int .i64 s.term) (.slice S1 s.V.length s1) (.slice S2 s.L.length s2) (.slice S3 s.data.length s3)) HFR.out (fun i hi e => by omega)).below ((Below.refl _ _).alloc (Nat.le_refl _) _))
      all_goals
        have HR := Lib.hid hr
        clear hr
        go_enter Try.func26, Try.ntmps26
        go_wp2_with fail
        refine (take_ok A c p 0 0 t m1 _ (by omega) rfl (Nat.zero_le _) (HX.out.below HW1.out) HT1.out).mono ?_
        rintro e w1 ⟨rfl, rfl⟩
        go_wp2_with fail
        refine (take_ok A c p _ m1 q m2 _ (by omega) (by omega) hm1 (HX.out.below HW1.out) HT2.out).mono ?_
        rintro e w1 ⟨rfl, rfl⟩
        go_wp2_with fail
        first
          | (refine bodyPost_ret (v := .tuple #[nilS, .bool false, .int .i64 6]) (by simp [results, Try.results26, go_sem]) rfl ?_; exact AddPost.err HR.out HBB.out HGI.out)
          | (refine bodyPost_ret (v := .tuple #[nilS, .bool false, .int .i64 4]) (by simp [results, Try.results26, go_sem]) rfl ?_; exact AddPost.err HR.out HBB.out HGI.out)
end Go.Proofs.Ytapgknaoieojkaa.Toll
