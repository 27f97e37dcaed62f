/- SnapWays: the pieces of a snapshot, one behind the other, are gathered to it; one that comes twice, or out of its turn, changes nothing: for every snapshot, size and piece. Conditions: none. -/
import Derived.Test.YtapgknaoieojkaaLawK
import Derived.Test.YtapgknaoieojkaaLive
import Derived.Test.YtapgknaoieojkaaGathW
import Derived.Test.YtapgknaoieojkaaPlainG
set_option linter.unusedVariables false
set_option linter.unusedSimpArgs false
set_option maxRecDepth 100000
namespace Go.Proofs.Ytapgknaoieojkaa.Toll
open Go.RowKit Go.ChangeShapes Go.WideShapes Go.ChangeAt
structure WaysR (wl : World) (x : List UInt8) (n k : Nat) (i : Value) (wr : World) : Prop where
  ex : ∃ j : Nat, j ≤ k ∧ i = .int .i64 (j : Int) ∧ GatIn wr wl.heap.size wl.heap.size (stF x n k j) ∧ Below wl.heap.size wl wr
theorem pcs_at (b : List UInt8) (size k j : Nat) (hj : j < (pcs b size k).length) : (pcs b size k)[j] = pieceF b (j * size) (min size (b.length - j * size)) := by simp [pcs]
set_option maxHeartbeats 4000000 in
theorem ways_walk (A1 A2 A3 : Option Addr) (c1 c2 c3 : Nat) (s : SnapV) (sz ag : Int) (w : World) (hs : SnapAt w A1 A2 A3 s) (hz0 : -9223372036854775808 ≤ sz) (hz1 : sz ≤ 9223372036854775807) (ha0 : -9223372036854775808 ≤ ag) (ha1 : ag ≤ 9223372036854775807) :
    Calls Try.prog 8 #[snapVal A1 A2 A3 c1 c2 c3 s, .int .i64 sz, .int .i64 ag] w (LawEnd w) := by
  have HS := Lib.hid hs
  have hb0 : Below w.heap.size w (w.alloc (.cells #[.int .i64 s.idx, .int .i64 s.term, .slice A1 s.V.length c1, .slice A2 s.L.length c2, .slice A3 s.data.length c3] 29)) := (Below.refl _ _).alloc (Nat.le_refl _) _
  have hsz0 : (w.alloc (.cells #[.int .i64 s.idx, .int .i64 s.term, .slice A1 s.V.length c1, .slice A2 s.L.length c2, .slice A3 s.data.length c3] 29)).heap.size = w.heap.size + 1 := by simp
  have HB0 := Lib.hid hb0
  have HSZ0 := Lib.hid hsz0
  have HK0 := Lib.hid (Blk.new w #[.int .i64 s.idx, .int .i64 s.term, .slice A1 s.V.length c1, .slice A2 s.L.length c2, .slice A3 s.data.length c3] 29)
  clear hs hb0 hsz0
  cases hp : sputF s with
  | error e0 =>
    have hk := sputF_err hp
    have hk0 : (e0 != 0) = true := by simp; omega
    have HP := Lib.hid hp
    clear hp hk
    go_enter Try.func8, Try.ntmps8
    go_wp2_with fail
    refine (SPut_err A1 A2 A3 c1 c2 c3 s e0 _ (HS.out.below HB0.out) HP.out).mono ?_
    rintro e w1 ⟨rfl, b1⟩
    have HB := Lib.hid (HB0.out.trans (b1.mono (by rw [HSZ0.out]; omega)))
    clear b1
    go_wp2_with fail
    refine (live_any _).mono ?_
    rintro e w6 ⟨rfl, b6⟩
    have HB6 := Lib.hid (HB.out.trans (b6.mono HB.out.size))
    clear b6
    go_wp2_with fail
    go_ret
    exact ⟨rfl, HB6.out⟩
  | ok x =>
    obtain ⟨i1, i2, t1, t2, hr, hd, hxe⟩ := sputF_ok hp
    have hsb := snapBody_length hr i2 t2 hd
    have hxl : x.length ≤ 20008 := by rw [hxe, frameOf_length]; omega
    have hxm : 9 ≤ x.length := by
      rw [hxe, frameOf_length]
      have := numB_pos s.idx.toNat
      simp [snapBody]
      omega
    have hget := sgetF_sputF hp
    have HGET := Lib.hid hget
    have HP := Lib.hid hp
    clear hp hxe hsb hr hget
    go_enter Try.func8, Try.ntmps8
    go_wp2_with fail
    refine (SPut_okx A1 A2 A3 c1 c2 c3 s x _ (HS.out.below HB0.out) HP.out).mono ?_
    rintro e w1 ⟨g, hg, rfl, hrow, b1⟩
    have HRB := Lib.hid (show RdB w1 (some ⟨g, 0, none⟩) x by have := rowB_rd hrow 0; simpa using this)
    have HB1 := Lib.hid (HB0.out.trans (b1.mono (by rw [HSZ0.out]; omega)))
    have hk1 := HK0.out.below b1
    obtain ⟨q0, q1, q2, q3, q4⟩ := five_cells hk1
    have HK1 := Lib.hid hk1
    clear hrow b1 hk1
    by_cases hdl : 3000 < s.data.length
    · have d1 : decide (3000 < (s.data.length : Int)) = true := by simp; omega
      go_wp2_with fail
      refine (live_any _).mono ?_
      rintro e w6 ⟨rfl, b6⟩
      have HB6 := Lib.hid (HB1.out.trans (b6.mono HB1.out.size))
      clear b6
      go_wp2_with fail
      go_ret
      exact ⟨rfl, HB6.out⟩
    · have d1 : decide (3000 < (s.data.length : Int)) = false := by simp; omega
      clear hdl
      obtain ⟨n, hn, hn0, hn200⟩ : ∃ n : Nat, wrap64 (1 + wrap64 ((IntKind.u64.wrap sz).tmod 200)) = (n : Int) ∧ 0 < n ∧ n ≤ 200 := by
        have h1 := IntKind.wrap_u64 sz
        have h2 : 0 ≤ IntKind.u64.wrap sz := by rw [h1]; omega
        rw [Int.tmod_eq_emod_of_nonneg h2]
        generalize IntKind.u64.wrap sz = q at *
        refine ⟨(1 + q % 200).toNat, ?_, by omega, by omega⟩
        unfold wrap64
        omega
      have HN := Lib.hid hn
      clear hn
      go_wp2_with fail
      rw [HN.out]
      refine (Pieces_ok (some ⟨g, 0, none⟩) x.length x n w1 (by omega) hn0 (by omega) (Nat.le_refl _) (by omega) HRB.out).mono ?_
      rintro e wl ⟨k, v, hk1, hk2, hk3, rfl, hpw⟩
      obtain ⟨vs, ho, hrows, bl⟩ := hpw.ex
      obtain ⟨LA, lc, rfl, hlr, hvl, hkc, hkm, _⟩ := ho.form
      rw [Nat.mul_one] at hvl
      have HLR := Lib.hid hlr
      have HRW := Lib.hid hrows
      have HVL := Lib.hid hvl
      have HBL := Lib.hid (HB1.out.trans (bl.mono HB1.out.size))
      have HKL := Lib.hid (HK1.out.below bl)
      have hk0 : ((k : Int) == 0) = false := by simp; omega
      have HK2 := Lib.hid hk2
      have HK3 := Lib.hid hk3
      have hkmax : k ≤ 9223372036854775807 := Nat.le_trans hkc hkm
      clear hpw ho hrows bl hlr hvl q0 q1 q2 q3 q4 hk2 hk3
      go_wp2_with fail
      refine (NewGather_any wl).mono ?_
      rintro e w2 ⟨rfl, hgi, b2⟩
      have HGI := Lib.hid hgi
      have HB2 := Lib.hid b2
      clear hgi b2
      go_upto_region 10 with fail
      obtain ⟨kk, hkk, hkl⟩ : ∃ kk : Nat, wrap64 ((IntKind.u64.wrap ag).tmod (k : Int)) = (kk : Int) ∧ kk < k := by
        have h1 := IntKind.wrap_u64 ag
        have h2 : 0 ≤ IntKind.u64.wrap ag := by rw [h1]; omega
        rw [Int.tmod_eq_emod_of_nonneg h2]
        have h3 := Int.emod_nonneg (IntKind.u64.wrap ag) (show (k : Int) ≠ 0 by omega)
        have h4 := Int.emod_lt_of_pos (IntKind.u64.wrap ag) (show 0 < (k : Int) by omega)
        generalize IntKind.u64.wrap ag % (k : Int) = q at *
        refine ⟨q.toNat, ?_, by omega⟩
        unfold wrap64
        omega
      rw [hkk]
      clear hkk
      go_wp2_with fail
      go_loopw [14] (fun i wr => WaysR wl x n k i wr) (fun i _ => k - (intOf i).toNat)
      case atStart => exact ⟨0, Nat.zero_le _, rfl, HGI.out, HB2.out⟩
      case round =>
        obtain ⟨j, hjk, rfl, hgi, hbr⟩ := hrel
        have HG := Lib.hid hgi
        have HBR := Lib.hid hbr
        clear hgi hbr
        by_cases hlt : j < k
        · have d2 : decide (j < k) = true := by simpa using hlt
          obtain ⟨vj, hvj, hsj⟩ := HRW.out.get j (by rw [pcs_length]; exact hlt)
          rw [pcs_at] at hsj
          obtain ⟨pa, pc, rfl, hpr, hpc, hpm, hpf⟩ := hsj
          obtain ⟨lb, lo, ls, rfl, hc⟩ := (RdV.below HLR.out HBR.out).at j (by rw [HVL.out]; exact hlt)
          have hve : vs[j]'(by rw [HVL.out]; exact hlt) = .slice pa (pieceF x (j * n) (min n (x.length - j * n))).length pc := by
            rw [List.getElem?_eq_getElem (by rw [HVL.out]; exact hlt)] at hvj
            exact Option.some.inj hvj
          rw [hve] at hc
          have HPR := Lib.hid hpr
          have HPF := Lib.hid hpf
          have hbox := HKL.out.below HBR.out
          have HBOX := Lib.hid hbox
          clear hvj hpr hpf hve hbox
          have hx0 : 0 < x.length := by omega
          have hx3 : x.length ≤ 32768 := by omega
          by_cases hlast : j + 1 = k
          · have hadd := st_last hx3 hn0 hx0 HK2.out HK3.out hlast HGET.out
            have HADD := Lib.hid hadd
            have d3 : ((j : Int) == (k : Int) - 1) = true := by simp; omega
            clear hadd
            generalize pieceF x (j * n) (min n (x.length - j * n)) = P at *
            go_wp2_with fail
            refine (Add_any pa pc P wr HG.out HBR.out.size hpc hpm (HPR.out.below HBR.out) (fun h0 ad e => Nat.ne_of_lt (HPR.out.lt h0 e))).mono ?_
            rw [HADD.out]
            rintro e w3 ⟨b3, hg3, he⟩
            obtain ⟨T1, T2, T3, t1', t2', t3', rfl, hat⟩ := he
            have hb3 := HBR.out.trans b3
            have hws : Below w3.heap.size w3 (w3.alloc (.cells #[.int .i64 s.idx, .int .i64 s.term, .slice T1 s.V.length t1', .slice T2 s.L.length t2', .slice T3 s.data.length t3'] 29)) := (Below.refl _ _).alloc (Nat.le_refl _) _
            obtain ⟨q0, q1, q2, q3, q4⟩ := five_cells (HKL.out.below hb3)
            obtain ⟨r0, r1, r2, r3, r4⟩ := five_cells ((HKL.out.below hb3).below hws)
            have hsz := (HKL.out.below hb3).lt
            have HB3 := Lib.hid (hb3.trans (hws.mono hb3.size))
            have HG3 := Lib.hid (hg3.below hws)
            have HAT := Lib.hid (hat.below hws)
            have HS3 := Lib.hid (HS.out.below (HBL.out.trans ((hb3.trans (hws.mono hb3.size)).mono HBL.out.size)))
            clear b3 hg3 hat hb3 hws
            go_wp2_with fail
            refine (Same_eq A1 A2 A3 T1 T2 T3 c1 c2 c3 t1' t2' t3' s _ HS3.out HAT.out).mono ?_
            rintro e w4 ⟨rfl, b4⟩
            have hF : Hid (WaysR wl x n k (.int .i64 ((j : Int) + 1)) w4) := ⟨j + 1, hlt, rfl, HG3.out.below b4, HB3.out.trans (b4.mono HB3.out.size)⟩
            clear b4 q0 q1 q2 q3 q4 r0 r1 r2 r3 r4 hsz
            go_wp2_with fail
            exact ⟨hF.out, by simp [intOf]; omega⟩
          · have hj1 : j + 1 < k := by omega
            have hadd := st_next hx3 hn0 hx0 HK2.out hj1
            have HADD := Lib.hid hadd
            have d3 : ((j : Int) == (k : Int) - 1) = false := by simp; omega
            clear hadd hlast
            generalize pieceF x (j * n) (min n (x.length - j * n)) = P at *
            go_wp2_with fail
            refine (Add_any pa pc P wr HG.out HBR.out.size hpc hpm (HPR.out.below HBR.out) (fun h0 ad e => Nat.ne_of_lt (HPR.out.lt h0 e))).mono ?_
            rw [HADD.out]
            rintro e w3 ⟨b3, hg3, he⟩
            simp only at he
            subst he
            have hb3 := HBR.out.trans b3
            have hws : Below w3.heap.size w3 (w3.alloc (.cells #[.int .i64 0, .int .i64 0, .slice none 0 0, .slice none 0 0, .slice none 0 0] 29)) := (Below.refl _ _).alloc (Nat.le_refl _) _
            have HB3 := Lib.hid (hb3.trans (hws.mono hb3.size))
            have HG3 := Lib.hid (hg3.below hws)
            clear b3 hg3 hb3 hws
            have hkc : ((kk : Int) == 0) = true ∨ (((kk : Int) == 0) = false ∧ ((kk : Int) == (j : Int) + 1) = true) ∨ (((kk : Int) == 0) = false ∧ ((kk : Int) == (j : Int) + 1) = false ∧ kk ≠ 0 ∧ kk ≠ j + 1) := by
              by_cases y0 : kk = 0
              · exact .inl (by simp; omega)
              · by_cases y1 : kk = j + 1
                · exact .inr (.inl ⟨by simp; omega, by simp; omega⟩)
                · exact .inr (.inr ⟨by simp; omega, by simp; omega, y0, y1⟩)
            rcases hkc with d4 | ⟨d4, d5⟩ | ⟨d4, d5, hkn0, hkn1⟩
            · have hF : Hid (WaysR wl x n k (.int .i64 ((j : Int) + 1)) (w3.alloc (.cells #[.int .i64 0, .int .i64 0, .slice none 0 0, .slice none 0 0, .slice none 0 0] 29))) := ⟨j + 1, hlt, rfl, HG3.out, HB3.out⟩
              go_wp2_with fail
              exact ⟨hF.out, by simp [intOf]; omega⟩
            · have hF : Hid (WaysR wl x n k (.int .i64 ((j : Int) + 1)) (w3.alloc (.cells #[.int .i64 0, .int .i64 0, .slice none 0 0, .slice none 0 0, .slice none 0 0] 29))) := ⟨j + 1, hlt, rfl, HG3.out, HB3.out⟩
              go_wp2_with fail
              exact ⟨hF.out, by simp [intOf]; omega⟩
            · go_wp2_with fail
              generalize (w3.alloc (.cells #[.int .i64 0, .int .i64 0, .slice none 0 0, .slice none 0 0, .slice none 0 0] 29)) = w4 at *
              obtain ⟨vk, hvk, hsk⟩ := HRW.out.get kk (by rw [pcs_length]; exact hkl)
              rw [pcs_at] at hsk
              obtain ⟨ka, kc, rfl, hpr', hpc', hpm', _⟩ := hsk
              obtain ⟨lb', lo', ls', ea, hc'⟩ := (RdV.below HLR.out HB3.out).at kk (by rw [HVL.out]; exact hkl)
              cases ea
              have hve' : vs[kk]'(by rw [HVL.out]; exact hkl) = .slice ka (pieceF x (kk * n) (min n (x.length - kk * n))).length kc := by
                rw [List.getElem?_eq_getElem (by rw [HVL.out]; exact hkl)] at hvk
                exact Option.some.inj hvk
              rw [hve'] at hc'
              have hadd := st_stale hx3 hn0 hx0 HK2.out hj1 (Nat.succ_pos j) hkl hkn0 hkn1
              have HADD2 := Lib.hid hadd
              have HPR' := Lib.hid hpr'
              clear hadd hpr' hve' hvk
              generalize pieceF x (kk * n) (min n (x.length - kk * n)) = P2 at *
              refine (GLen_any w4 HG3.out).mono ?_
              rintro e w5 ⟨rfl, rfl⟩
              generalize hLL : (stF x n k (j + 1)).b.length = LL at *
              have HLL := Lib.hid hLL
              clear hLL
              go_wp2_with fail
              refine (Add_any ka kc P2 w4 HG3.out HB3.out.size hpc' hpm' (HPR'.out.below HB3.out) (fun h0 ad e => Nat.ne_of_lt (HPR'.out.lt h0 e))).mono ?_
              rw [HADD2.out]
              rintro e w5 ⟨b5, hg5, he⟩
              simp only at he
              subst he
              have hb5 := HB3.out.trans b5
              have hws : Below w5.heap.size w5 (w5.alloc (.cells #[.int .i64 0, .int .i64 0, .slice none 0 0, .slice none 0 0, .slice none 0 0] 29)) := (Below.refl _ _).alloc (Nat.le_refl _) _
              have HB5 := Lib.hid (hb5.trans (hws.mono hb5.size))
              have HG5 := Lib.hid (hg5.below hws)
              clear b5 hg5 hb5 hws hc'
              go_wp2_with fail
              generalize (w5.alloc (.cells #[.int .i64 0, .int .i64 0, .slice none 0 0, .slice none 0 0, .slice none 0 0] 29)) = w6 at *
              refine (GLen_any w6 HG5.out).mono ?_
              rintro e w7 ⟨rfl, rfl⟩
              rw [HLL.out]
              have hF : Hid (WaysR wl x n k (.int .i64 ((j : Int) + 1)) w6) := ⟨j + 1, hlt, rfl, HG5.out, HB5.out⟩
              go_wp2_with fail
              exact ⟨hF.out, by simp [intOf]; omega⟩
        · have hjk' : j = k := by omega
          subst hjk'
          have d2 : decide (j < j) = false := by simp
          have HB6 := Lib.hid (HBL.out.trans (HBR.out.mono HBL.out.size))
          go_wp2_with fail
          refine (live_any _).mono ?_
          rintro e w6 ⟨rfl, b6⟩
          have HB7 := Lib.hid (HB6.out.trans (b6.mono HB6.out.size))
          have HG7 := Lib.hid (HG.out.below b6)
          clear b6
          go_wp2_with fail
          refine (GLen_any w6 HG7.out).mono ?_
          rintro e w7 ⟨rfl, rfl⟩
          rw [st_len]
          go_wp2_with fail
          go_ret
          exact ⟨rfl, HB7.out⟩
theorem rd8 : Readable Try.f8.params.toList := by
  rw [Try.params8]
  intro t ht
  simp at ht
  rcases ht with rfl | rfl
  · exact ⟨by kernel_rfl, of_decide_eq_true (by kernel_rfl)⟩
  · exact ⟨by kernel_rfl, of_decide_eq_true (by kernel_rfl)⟩
theorem ways_lifted (os : Os) (started : os.Started) (H : Type) (enc : TypeId × Value → H) :
    ReturnsInHanded {} Try.checked os 8 .any (Rows.snapWaysSpec.pre6 enc Try.prog Try.f8 Rows.snapWaysRow.domain false) (Rows.snapWaysSpec.post enc Try.prog Try.f8 false true false false) := by
  refine returnsInHanded_of_change (C := Try.checked) own0 started (by kernel_rfl) Try.func8
    (ChangeSpec.witness6 (enc := enc) (C := Try.checked) false ⟨#[], #[.agg #[.int .i64 0, .int .i64 0, .slice none 0 0, .slice none 0 0, .slice none 0 0], .int .i64 0, .int .i64 0], []⟩ 8 (by kernel_rfl) (by kernel_rfl) (by kernel_rfl) (by kernel_rfl)) ?_
  intro W base args ds gs before hval hW _ _
  have hW' := hW
  obtain ⟨p, q, hA0, hV, rfl, _, _⟩ := hW
  have hA : DataW.TrodAll enc Try.prog W 0 (fun _ => true) true Try.f8.params.toList args.toList ds p := hA0
  rw [Try.params8] at hA hval
  obtain ⟨v0, v1, v2, d0, d1, d2, p0, p1, p2, rfl, rfl, rfl, h0, h1, h2⟩ := trodAll_three hA
  obtain ⟨A1, A2, A3, c1, c2, c3, s, rfl, hs, _⟩ := open_snap (hval 0 29 v0 rfl rfl) h0
  obtain ⟨n, rfl, _, _, wn⟩ := open_int Try.underlying3 (hval 1 3 v1 rfl rfl) h1
  obtain ⟨m, rfl, _, _, wm⟩ := open_int Try.underlying3 (hval 2 3 v2 rfl rfl) h2
  have hn : -9223372036854775808 ≤ n ∧ n ≤ 9223372036854775807 := by simpa [Lit.wf, IntKind.min, IntKind.max, IntKind.signed, IntKind.bits] using wn
  have hm : -9223372036854775808 ≤ m ∧ m ≤ 9223372036854775807 := by simpa [Lit.wf, IntKind.min, IntKind.max, IntKind.signed, IntKind.bits] using wm
  refine law_contract (K := 8) (spec := Rows.snapWaysSpec) rfl (by kernel_rfl) rd8 ?_ hW' (ways_walk A1 A2 A3 c1 c2 c3 s n m W hs hn.1 hn.2 hm.1 hm.2)
  intro ds hl
  rw [Try.params8] at hl
  match ds, hl with
  | [a, b, c], _ => exact ⟨rfl, rfl, rfl⟩
end Go.Proofs.Ytapgknaoieojkaa.Toll
namespace Go.Proofs.Ytapgknaoieojkaa
open Go.RowKit Go.ChangeShapes Go.WideShapes Go.ChangeAt
theorem snapWays_holds : Rows.SnapWaysSaid :=
  OpenClaim.holds_of_wide 8 Try.f8 rfl rfl rfl rfl rfl rfl rfl ⟨rfl, rfl, rfl, rfl, rfl⟩ rfl rfl rfl rfl rfl (by kernel_rfl) Try.func8 (by kernel_rfl)
    (of_decide_eq_true (by kernel_rfl)) (by unfold Func.isWrapper; first | (rw [if_pos (by decide +kernel)]; kernel_rfl) | (rw [if_neg (by decide +kernel)]; exact ⟨rfl, rfl⟩))
    (fun os started H enc _ => Toll.ways_lifted os started H enc)
#print axioms snapWays_holds
end Go.Proofs.Ytapgknaoieojkaa
