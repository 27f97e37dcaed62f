/- SnapNewest: Load tells what was saved last of the greatest index, behind every crash too: for every row of indices (the first twelve are saved) and every row of what a crash keeps. Conditions: none. -/
import Derived.Test.YtapgknaoieojkaaLawK
import Derived.Test.YtapgknaoieojkaaPlainN
set_option linter.unusedVariables false
set_option linter.unusedSimpArgs false
set_option maxRecDepth 100000
namespace Go.Proofs.Ytapgknaoieojkaa.Toll
open Go.RowKit Go.ChangeShapes Go.WideShapes Go.ChangeAt
def u16s (xs : List Nat) : List Value := xs.map fun (x : Nat) => Value.int .u16 (x : Int)
theorem u16s_length (xs : List Nat) : (u16s xs).length = xs.length := by simp [u16s]
def ksOf (xs : List Nat) : List Nat := xs.map (· + 1)
theorem ksOf_getD (xs : List Nat) (j : Nat) (hj : j < xs.length) : (ksOf xs).getD j 0 = xs[j] + 1 := by
  unfold ksOf
  rw [List.getD_eq_getElem?_getD, List.getElem?_map, List.getElem?_eq_getElem hj]
  rfl
theorem ksOf_ok (xs : List Nat) (h : ∀ x ∈ xs, x < 65536) : ∀ k ∈ ksOf xs, 1 ≤ k ∧ k ≤ 65536 := by
  intro k hk
  obtain ⟨x, hx, rfl⟩ := List.mem_map.1 hk
  have := h x hx
  omega
theorem of_int (n : Nat) (k : Int) (hk : k = (n : Int)) (w : World) :
    Calls Try.prog 24 #[.int .i64 k] w (OfPost (ofS n) w) := by subst hk; exact of_any n w
structure NewR (w : World) (d : Nat) (xs : List Nat) (b i : Value) (wr : World) : Prop where
  ex : ∃ (j : Nat) (F : Nat → Prop) (D : Dk), j ≤ xs.length ∧ j ≤ 12 ∧ i = .int .i64 (j : Int) ∧ b = .int .i64 (bestOf (ksOf xs) j : Int) ∧ DiskIn F wr d 65536 D ∧ (∀ i, F i → w.heap.size ≤ i) ∧ Below w.heap.size w wr ∧ NInv (ksOf xs) j D
set_option maxHeartbeats 4000000 in
theorem new_walk (LA KA : Option Addr) (lc kc : Nat) (xs : List Nat) (keep : List Int) (w : World) (hL : RdV w LA (u16s xs)) (hxl : xs.length ≤ 9223372036854775807) (hxs : ∀ x ∈ xs, x < 65536) (hK : RdI w KA keep) (hkl : keep.length ≤ 9223372036854775807) (hkm : ∀ x ∈ keep, x ≤ 9223372036854775807) :
    Calls Try.prog 7 #[.slice LA xs.length lc, .slice KA keep.length kc] w (LawEnd w) := by
  have HL := Lib.hid hL
  have HK := Lib.hid hK
  have HKS := Lib.hid (ksOf_ok xs hxs)
  clear hL hK
  go_enter Try.func7, Try.ntmps7
  go_wp2_with fail
  refine (New_any 65536 w (by decide) (by decide)).mono ?_
  rintro e w1 ⟨d, F, rfl, din, b1, hF⟩
  have DIN := Lib.hid (show DiskIn F w1 d 65536 [] from din)
  have B1 := Lib.hid b1
  have HF := Lib.hid hF
  clear din b1 hF
  go_wp2_with fail
  go_loopw [6, 7] (fun b i wr => NewR w d xs b i wr) (fun _ i _ => 13 - (intOf i).toNat)
  case atStart => exact ⟨0, F, [], Nat.zero_le _, by omega, rfl, rfl, DIN.out, HF.out, B1.out, NInv.zero _⟩
  case round =>
    obtain ⟨j, F', D, hj, hj12, rfl, rfl, hdin, hF', hB, hinv⟩ := hrel
    have HD := Lib.hid hdin
    have HF' := Lib.hid hF'
    have HB := Lib.hid hB
    have HI := Lib.hid hinv
    clear hdin hF' hB hinv
    have hbest := bestOf_le (ksOf xs) HKS.out j
    by_cases hgo : j < xs.length ∧ j < 12
    · obtain ⟨hjl, hj2⟩ := hgo
      have t1 : decide (j < xs.length) = true := by simpa using hjl
      have t2 : decide ((j : Int) < 12) = true := by simp; omega
      obtain ⟨lb, lo, ls, rfl, hc⟩ := (HL.out.below HB.out).at j (by rw [u16s_length]; exact hjl)
      have hx := hxs _ (List.getElem_mem hjl)
      have hv : (u16s xs)[j]'(by rw [u16s_length]; exact hjl) = .int .u16 ((xs[j] : Nat) : Int) := by simp [u16s]
      rw [hv] at hc
      have hkj := ksOf_getD xs j hjl
      have hsv := HI.out.save HKS.out (by simpa [ksOf] using hjl) hj2
      rw [hkj] at hsv
      have hbs : bestOf (ksOf xs) (j + 1) = max (bestOf (ksOf xs) j) (xs[j] + 1) := by rw [← hkj]; rfl
      generalize hX : xs[j] = x at *
      have HX := Lib.hid hX
      have HSV := Lib.hid hsv
      have HBS := Lib.hid hbs
      clear hv hkj hsv hbs hX
      go_wp2_with fail
      refine (of_int (x + 1) _ (by omega) wr).mono ?_
      rintro e w2 ⟨A1, A2, A3, c1, c2, c3, rfl, sat, sfr, b2⟩
      have SAT := Lib.hid sat
      have B2 := Lib.hid b2
      clear sat sfr b2
      go_wp2_with fail
      have hba : Below w2.heap.size w2 ((w2.alloc (.cells #[.int .i64 (ofS (x + 1)).idx, .int .i64 (ofS (x + 1)).term, .slice A1 (ofS (x + 1)).V.length c1, .slice A2 (ofS (x + 1)).L.length c2, .slice (some ⟨w2.heap.size + 1, 0, none⟩) 1 1] 29)).alloc (.cells #[.int .u8 (j : Int)] uB)) := ((Below.refl _ _).alloc (Nat.le_refl _) _).alloc (by simp) _
      have hrd := rd_b1 (w2.alloc (.cells #[.int .i64 (ofS (x + 1)).idx, .int .i64 (ofS (x + 1)).term, .slice A1 (ofS (x + 1)).V.length c1, .slice A2 (ofS (x + 1)).L.length c2, .slice (some ⟨w2.heap.size + 1, 0, none⟩) 1 1] 29)) (UInt8.ofNat j) (j : Int) (byte_of j (by omega)) uB
      rw [show (w2.alloc (.cells #[.int .i64 (ofS (x + 1)).idx, .int .i64 (ofS (x + 1)).term, .slice A1 (ofS (x + 1)).V.length c1, .slice A2 (ofS (x + 1)).L.length c2, .slice (some ⟨w2.heap.size + 1, 0, none⟩) 1 1] 29)).heap.size = w2.heap.size + 1 by simp] at hrd
      generalize (w2.alloc (.cells #[.int .i64 (ofS (x + 1)).idx, .int .i64 (ofS (x + 1)).term, .slice A1 (ofS (x + 1)).V.length c1, .slice A2 (ofS (x + 1)).L.length c2, .slice (some ⟨w2.heap.size + 1, 0, none⟩) 1 1] 29)).alloc (.cells #[.int .u8 (j : Int)] uB) = w3 at *
      have hsa : SnapAt w3 A1 A2 (some ⟨w2.heap.size + 1, 0, none⟩) (newS (x + 1) j) := ⟨⟨SAT.out.mem.v.below hba, SAT.out.mem.l.below hba, SAT.out.mem.vl, SAT.out.mem.ll⟩, hrd, by simp [newS]⟩
      have HSA := Lib.hid hsa
      have B3 := Lib.hid (B2.out.trans (hba.mono B2.out.size))
      clear hrd hba hsa
      refine (Save_any w3 (HD.out.below B3.out) A1 A2 (some ⟨w2.heap.size + 1, 0, none⟩) c1 c2 1 (newS (x + 1) j) HSA.out).mono ?_
      rw [HSV.out.1]
      intro e w4 hp
      obtain ⟨F4, rfl, ds4⟩ := hp.ds
      have hF4 : ∀ i, F4 i → w.heap.size ≤ i := fun i hi => by
        rcases ds4.new i hi with h1 | h1
        · exact HF'.out i h1
        · exact Nat.le_trans HB.out.size (Nat.le_trans B3.out.size h1)
      have hB3 := HB.out.trans (B3.out.mono HB.out.size)
      have hB4 : Below w.heap.size w w4 := hB3.trans (ds4.keep.below (fun i _ hi => HF'.out i hi) hB3.size)
      have HFN : Hid (NewR w d xs (.int .i64 ((bestOf (ksOf xs) (j + 1) : Nat) : Int)) (.int .i64 ((j : Int) + 1)) w4) := ⟨j + 1, F4, _, hjl, by omega, rfl, rfl, ds4.din, hF4, hB4, HSV.out.2⟩
      have hmx : max ((bestOf (ksOf xs) j : Nat) : Int) ((x : Int) + 1) = ((bestOf (ksOf xs) (j + 1) : Nat) : Int) := by have := HBS.out; omega
      clear hp ds4 hF4 hB3 hB4
      go_wp2_with fail
      exact ⟨HFN.out, by simp [intOf]; omega⟩
    · have hend : (decide (j < xs.length) = false) ∨ (decide (j < xs.length) = true ∧ decide ((j : Int) < 12) = false) := by
        by_cases h1 : j < xs.length
        · exact .inr ⟨by simpa using h1, by simp; omega⟩
        · exact .inl (by simpa using h1)
      have HGO := Lib.hid hgo
      clear hgo
      by_cases h50 : 50 < keep.length
      · have t5 : decide (50 < (keep.length : Int)) = true := by simp; omega
        rcases hend with t1 | ⟨t1, t2⟩
        all_goals
          go_wp2_with fail
          refine (live_any _).mono ?_
          rintro e w2 ⟨rfl, b2⟩
          have HB2 := Lib.hid (HB.out.trans (b2.mono HB.out.size))
          clear b2
          go_wp2_with fail
          go_ret
          exact ⟨rfl, HB2.out⟩
      · have t5 : decide (50 < (keep.length : Int)) = false := by simp; omega
        have hcr := Crash_any wr HD.out KA kc keep (RdV.below (HK.out.below HB.out) (Below.refl _ _)) hkl hkm (fun h0 ad e hF => by
          have h1 := RdV.lt HK.out (by rw [i64s_length]; exact h0) e
          have h2 := HF'.out _ hF
          omega)
        rw [crashF_whole HI.out.keys HI.out.whole] at hcr
        have HCR := Lib.hid hcr
        clear hcr
        rcases hend with t1 | ⟨t1, t2⟩
        all_goals
          go_wp2_with fail
          refine HCR.out.mono ?_
          intro e w2 hp
          obtain ⟨F2, rfl, ds2⟩ := hp.ds
          have HB2 := Lib.hid (HB.out.trans (ds2.keep.below (fun i _ hi => HF'.out i hi) HB.out.size))
          have HD2 := Lib.hid ds2.din
          clear hp ds2
          go_wp2_with fail
          refine (Load_any w2 HD2.out).mono ?_
          intro e w3 hp
          obtain ⟨b3, hp⟩ := hp
          have HB3 := Lib.hid (HB2.out.trans (b3.mono HB2.out.size))
          clear b3
          rcases Nat.eq_zero_or_pos j with h0 | h0
          · subst h0
            have hD0 : D = [] := List.eq_nil_of_length_eq_zero (Nat.le_zero.1 HI.out.len)
            have hl0 : loadF D = .error 8 := by rw [hD0]; exact loadF_none (by simp)
            rw [hl0] at hp
            subst hp
            have hb0 : (((bestOf (ksOf xs) 0 : Nat) : Int) == 0) = true := rfl
            clear hD0 hl0
            go_wp2_with fail
            refine (live_any _).mono ?_
            rintro e w4 ⟨rfl, b4⟩
            have HB4 := Lib.hid ((HB3.out.alloc HB3.out.size _).trans (b4.mono (by have := HB3.out.size; simp; omega)))
            clear b4
            go_wp2_with fail
            go_ret
            exact ⟨rfl, HB4.out⟩
          · rw [HI.out.load HKS.out h0] at hp
            have hbp := HI.out.pos h0
            generalize hbe : bestOf (ksOf xs) j = be at *
            have HBE := Lib.hid hbe
            have hb0 : ((be : Int) == 0) = false := beq_eq_false_iff_ne.2 (by omega)
            have hla := lastOf_lt (ksOf xs) be j
            clear hbe
            generalize hLA : lastOf (ksOf xs) be j = la at *
            have HLA := Lib.hid hLA
            clear hLA
            obtain ⟨G1, G2, G3, g1, g2, g3, rfl, hat, hfr⟩ := hp
            have HAT := Lib.hid hat
            have kS := Blk.new w3 #[.int .i64 (newS be la).idx, .int .i64 (newS be la).term, .slice G1 (newS be la).V.length g1, .slice G2 (newS be la).L.length g2, .slice G3 (newS be la).data.length g3] 29
            have KS := Lib.hid kS
            have hBS : Below w.heap.size w (w3.alloc (.cells #[.int .i64 (newS be la).idx, .int .i64 (newS be la).term, .slice G1 (newS be la).V.length g1, .slice G2 (newS be la).L.length g2, .slice G3 (newS be la).data.length g3] 29)) := HB3.out.alloc HB3.out.size _
            have hAS := HAT.out.below (show Below w3.heap.size w3 (w3.alloc (.cells #[.int .i64 (newS be la).idx, .int .i64 (newS be la).term, .slice G1 (newS be la).V.length g1, .slice G2 (newS be la).L.length g2, .slice G3 (newS be la).data.length g3] 29)) from (Below.refl _ _).alloc (Nat.le_refl _) _)
            have HBS := Lib.hid hBS
            have HAS := Lib.hid hAS
            clear hat hfr kS hBS hAS
            go_wp2_with fail
            generalize (w3.alloc (.cells #[.int .i64 (newS be la).idx, .int .i64 (newS be la).term, .slice G1 (newS be la).V.length g1, .slice G2 (newS be la).L.length g2, .slice G3 (newS be la).data.length g3] 29)) = w4 at *
            go_loop [12, 13] (fun l i => ∃ m : Nat, m ≤ xs.length ∧ m ≤ 12 ∧ i = .int .i64 (m : Int) ∧ l = .int .i64 ((lastOf (ksOf xs) be m : Nat) : Int)) (fun _ i => 13 - (intOf i).toNat)
            case atStart => exact ⟨0, Nat.zero_le _, by omega, rfl, rfl⟩
            case round =>
              obtain ⟨m, hm, hm12, rfl, rfl⟩ := hrel
              by_cases hgo : m < xs.length ∧ m < 12
              · obtain ⟨hml, hm2⟩ := hgo
                have s1 : decide (m < xs.length) = true := by simpa using hml
                have s2 : decide ((m : Int) < 12) = true := by simp; omega
                obtain ⟨lb, lo, ls, rfl, hc⟩ := (HL.out.below HBS.out).at m (by rw [u16s_length]; exact hml)
                have hx := hxs _ (List.getElem_mem hml)
                have hv : (u16s xs)[m]'(by rw [u16s_length]; exact hml) = .int .u16 ((xs[m] : Nat) : Int) := by simp [u16s]
                rw [hv] at hc
                have hkj := ksOf_getD xs m hml
                have hls : lastOf (ksOf xs) be (m + 1) = if xs[m] + 1 = be then m else lastOf (ksOf xs) be m := by rw [← hkj]; rfl
                generalize hX : xs[m] = x at *
                have HX := Lib.hid hX
                have HLS := Lib.hid hls
                clear hv hkj hls hX t1
                by_cases hxe : x + 1 = be
                · have hxe' : ((x : Int) + 1 == (be : Int)) = true := by rw [beq_iff_eq]; omega
                  have HF : Hid (lastOf (ksOf xs) be (m + 1) = m) := by show _ = _; rw [HLS.out, if_pos hxe]
                  clear hxe
                  go_wp2_with fail
                  go_round
                  case rel => exact ⟨m + 1, by omega, by omega, by go_num, by rw [HF.out]⟩
                  case measure => simp [intOf]; omega
                · have hxe' : ((x : Int) + 1 == (be : Int)) = false := beq_eq_false_iff_ne.2 (by omega)
                  have HF : Hid (lastOf (ksOf xs) be (m + 1) = lastOf (ksOf xs) be m) := by show _ = _; rw [HLS.out, if_neg hxe]
                  clear hxe
                  go_wp2_with fail
                  go_round
                  case rel => exact ⟨m + 1, by omega, by omega, by go_num, by rw [HF.out]⟩
                  case measure => simp [intOf]; omega
              · have hmj : m = j := by have := HGO.out; omega
                subst hmj
                rw [HLA.out]
                have hend2 : (decide (m < xs.length) = false) ∨ (decide (m < xs.length) = true ∧ decide ((m : Int) < 12) = false) := by
                  by_cases h1 : m < xs.length
                  · exact .inr ⟨by simpa using h1, by simp; omega⟩
                  · exact .inl (by simpa using h1)
                clear t1 hgo
                rcases hend2 with t1 | ⟨t1, t2'⟩
                all_goals
                  go_wp2_with fail
                  refine (live_any _).mono ?_
                  rintro e w5 ⟨rfl, b5⟩
                  have HB5 := Lib.hid (HBS.out.trans (b5.mono HBS.out.size))
                  have kS5 := KS.out.below b5
                  have q0 := kS5.cell 0
                  have q4 := kS5.cell 4
                  simp only [List.getElem?_toArray, List.getElem?_cons_zero, List.getElem?_cons_succ] at q0 q4
                  have hidx : ((newS be la).idx == (be : Int)) = true := by simp [newS]
                  have hcv1 : (convert tB tStr (.slice G3 (newS be la).data.length g3)).run Try.prog w5 = .ok (.string ⟨[UInt8.ofNat la].toArray⟩) w5 := conv_str G3 g3 (newS be la).data w5 (HAS.out.data.below b5)
                  have hcv2 : (convert tB tStr (.slice (some ⟨w5.heap.size, 0, none⟩) 1 1)).run Try.prog (w5.alloc (.cells #[.int .u8 (la : Int)] uB)) = .ok (.string ⟨[UInt8.ofNat la].toArray⟩) (w5.alloc (.cells #[.int .u8 (la : Int)] uB)) :=
                    conv_str (some ⟨w5.heap.size, 0, none⟩) 1 [UInt8.ofNat la] _ (rd_b1 w5 (UInt8.ofNat la) (la : Int) (byte_of la (by omega)) uB)
                  generalize (⟨[UInt8.ofNat la].toArray⟩ : ByteArray) = y at *
                  have hye : (y.toList == y.toList) = true := by simp
                  have hla256 : (la : Int) < 256 := by omega
                  clear b5 kS5
                  go_wp2_with fail
                  go_ret
                  exact ⟨rfl, HB5.out.alloc HB5.out.size _⟩
theorem nats_of (zs : List Int) (h : ∀ n ∈ zs, (Lit.int .u16 n).wf = true) : ∃ xs : List Nat, xs.length = zs.length ∧ (∀ x ∈ xs, x < 65536) ∧ ∀ j (hj : j < xs.length), ((xs[j] : Nat) : Int) = zs.getD j 0 := by
  have hb : ∀ n ∈ zs, 0 ≤ n ∧ n ≤ 65535 := fun n hn => by simpa [Lit.wf, IntKind.min, IntKind.max, IntKind.signed, IntKind.bits] using h n hn
  refine ⟨zs.map Int.toNat, by simp, fun x hx => ?_, fun j hj => ?_⟩
  · obtain ⟨n, hn, rfl⟩ := List.mem_map.1 hx
    have := hb n hn
    omega
  · simp only [List.length_map] at hj
    have h2 := hb zs[j] (List.getElem_mem hj)
    simp only [List.getElem_map, List.getD_eq_getElem?_getD, List.getElem?_eq_getElem hj, Option.getD_some]
    omega
theorem cells16 : Try.prog.cellsOf 58 = 1 := by kernel_rfl
theorem open_u16s {H : Type} {enc : TypeId × Value → H} {w : World} {base : Nat} {sp : Nat → Bool} {held : Bool} {r : Reach} {b0 : Nat} {v : Value} {d : DataW H} {p : List MemPlace} (hv : Value.okWide Try.prog w r b0 57 v) (h : DataW.Trod enc Try.prog w base sp held 57 v d p) :
    ∃ A c xs, v = .slice A xs.length c ∧ RdV w A (u16s xs) ∧ xs.length ≤ c ∧ c ≤ 9223372036854775807 ∧ ∀ x ∈ xs, x < 65536 := by
  obtain ⟨a, l, c, rfl⟩ := okWide_slice Try.underlying57 hv
  obtain ⟨n, hn⟩ := h
  rcases open_ints Try.underlying57 Try.underlying58 cells16 hn with ⟨hcs, hx⟩ | ⟨a, len', cap', zs, hcs, _, hl, hm, hz, hx, hcell, hwz⟩
  · simp [Value.cells] at hcs
    obtain ⟨rfl, rfl, rfl⟩ := hcs
    exact ⟨none, 0, [], rfl, RdV.nil _ _, Nat.le_refl _, by omega, by simp⟩
  · simp [Value.cells] at hcs
    obtain ⟨rfl, rfl, rfl⟩ := hcs
    obtain ⟨xs, hxl, hxb, hxv⟩ := nats_of zs hwz
    have hll : l ≤ xs.length := by rw [hxl, hz]; split <;> omega
    refine ⟨some a, c, xs.take l, by rw [List.length_take, Nat.min_eq_left hll], fun j hj => ⟨a, rfl, ?_⟩, by rw [List.length_take]; omega, by simpa [maxLen] using hm, fun x hx => hxb x (List.mem_of_mem_take hx)⟩
    rw [u16s_length, List.length_take] at hj
    have := hcell j (by omega)
    rw [this]
    simp only [u16s, List.getElem_map, List.getElem_take]
    rw [hxv j (by omega)]
theorem open_intsl {H : Type} {enc : TypeId × Value → H} {w : World} {base : Nat} {sp : Nat → Bool} {held : Bool} {r : Reach} {b0 : Nat} {v : Value} {d : DataW H} {p : List MemPlace} (hv : Value.okWide Try.prog w r b0 tI v) (h : DataW.Trod enc Try.prog w base sp held tI v d p) :
    ∃ A c xs, v = .slice A xs.length c ∧ RdI w A xs ∧ xs.length ≤ c ∧ c ≤ 9223372036854775807 ∧ ∀ x ∈ xs, -9223372036854775808 ≤ x ∧ x ≤ 9223372036854775807 := by
  obtain ⟨a, l, c, rfl⟩ := okWide_slice Try.underlying24 hv
  obtain ⟨n, hn⟩ := h
  exact open_ints_cell hn
theorem rd7 : Readable Try.f7.params.toList := by
  rw [Try.params7]
  intro t ht
  simp at ht
  rcases ht with rfl | rfl
  · exact ⟨by kernel_rfl, of_decide_eq_true (by kernel_rfl)⟩
  · exact ⟨by kernel_rfl, of_decide_eq_true (by kernel_rfl)⟩
theorem new_lifted (os : Os) (started : os.Started) (H : Type) (enc : TypeId × Value → H) :
    ReturnsInHanded {} Try.checked os 7 .any (Rows.snapNewestSpec.pre6 enc Try.prog Try.f7 Rows.snapNewestRow.domain false) (Rows.snapNewestSpec.post enc Try.prog Try.f7 false true false false) := by
  refine returnsInHanded_of_change (C := Try.checked) own0 started (by kernel_rfl) Try.func7
    (ChangeSpec.witness6 (enc := enc) (C := Try.checked) false ⟨#[], #[.slice none 0 0, .slice none 0 0], []⟩ 8 (by kernel_rfl) (by kernel_rfl) (by kernel_rfl) (by kernel_rfl)) ?_
  intro W base args ds gs before hval hW _ _
  have hW' := hW
  obtain ⟨p, q, hA0, hV, rfl, _, _⟩ := hW
  have hA : DataW.TrodAll enc Try.prog W 0 (fun _ => true) true Try.f7.params.toList args.toList ds p := hA0
  rw [Try.params7] at hA hval
  obtain ⟨v0, v1, d0, d1, p0, p1, rfl, rfl, rfl, h0, h1⟩ := trodAll_two hA
  obtain ⟨LA, lc, xs, rfl, hL, hl1, hl2, hxs⟩ := open_u16s (hval 0 57 v0 rfl rfl) h0
  obtain ⟨KA, kc, keep, rfl, hK, hk1, hk2, hkm⟩ := open_intsl (hval 1 tI v1 rfl rfl) h1
  refine law_contract (K := 7) (spec := Rows.snapNewestSpec) rfl (by kernel_rfl) rd7 ?_ hW' (new_walk LA KA lc kc xs keep W hL (Nat.le_trans hl1 hl2) hxs hK (Nat.le_trans hk1 hk2) (fun x hx => (hkm x hx).2))
  intro ds hl
  rw [Try.params7] at hl
  match ds, hl with
  | [a, b], _ => exact ⟨rfl, rfl, rfl⟩
end Go.Proofs.Ytapgknaoieojkaa.Toll
namespace Go.Proofs.Ytapgknaoieojkaa
open Go.RowKit Go.ChangeShapes Go.WideShapes Go.ChangeAt
theorem snapNewest_holds : Rows.SnapNewestSaid :=
  OpenClaim.holds_of_wide 7 Try.f7 rfl rfl rfl rfl rfl rfl rfl ⟨rfl, rfl, rfl, rfl, rfl⟩ rfl rfl rfl rfl rfl (by kernel_rfl) Try.func7 (by kernel_rfl)
    (of_decide_eq_true (by kernel_rfl)) (by unfold Func.isWrapper; first | (rw [if_pos (by decide +kernel)]; kernel_rfl) | (rw [if_neg (by decide +kernel)]; exact ⟨rfl, rfl⟩))
    (fun os started H enc _ => Toll.new_lifted os started H enc)
#print axioms snapNewest_holds
end Go.Proofs.Ytapgknaoieojkaa
