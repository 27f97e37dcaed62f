/- Walk: (*disk.file).after. -/
import Derived.Test.YtapgknaoieojkaaSnapX
import Derived.StillTailTactics
set_option linter.unusedVariables false
set_option linter.unusedSimpArgs false
set_option maxRecDepth 100000
namespace Go.Proofs.Ytapgknaoieojkaa.Toll
open Go.RowKit
/-- What the first k units make of changes; u were used already. -/
def afterL (k : Nat) : List Chg → List UInt8 → Nat → List UInt8 × Nat
  | [], out, u => (out, u)
  | c :: cs, out, u => if min (if c.cut then 1 else c.b.length) (k - u) = 0 then afterL k cs out u
    else afterL k cs (if c.cut then out.take c.size else layF out c.at_ (c.b.take (min (if c.cut then 1 else c.b.length) (k - u)))) (u + min (if c.cut then 1 else c.b.length) (k - u))
theorem afterL_cons (k : Nat) (c : Chg) (cs : List Chg) (out : List UInt8) (u : Nat) : afterL k (c :: cs) out u = if min (if c.cut then 1 else c.b.length) (k - u) = 0 then afterL k cs out u
    else afterL k cs (if c.cut then out.take c.size else layF out c.at_ (c.b.take (min (if c.cut then 1 else c.b.length) (k - u)))) (u + min (if c.cut then 1 else c.b.length) (k - u)) := rfl
theorem ChgR.get {F : Nat → Prop} {w : World} : ∀ {cs : List Chg} {vs : List Value}, ChgR F w vs cs → ∀ j (hj : j < cs.length), vs[j * 4]? = some (.bool (cs[j]).cut) ∧ vs[j * 4 + 1]? = some (.int .i64 ((cs[j]).size : Int)) ∧ vs[j * 4 + 2]? = some (.int .i64 ((cs[j]).at_ : Int)) ∧ ∃ bv, vs[j * 4 + 3]? = some bv ∧ SlF F w bv (cs[j]).b
  | [], _, h, j, hj => by simp at hj
  | c :: cs, _, ⟨bv, rest, e, h, h'⟩, 0, hj => by
    subst e
    exact ⟨rfl, rfl, rfl, bv, rfl, h⟩
  | c :: cs, _, ⟨bv, rest, e, h, h'⟩, j + 1, hj => by
    subst e
    obtain ⟨h1, h2, h3, b2, h4, h5⟩ := ChgR.get h' j (by simpa using hj)
    refine ⟨?_, ?_, ?_, b2, ?_, h5⟩
    · rw [show (j + 1) * 4 = j * 4 + 4 by omega]; simpa using h1
    · rw [show (j + 1) * 4 + 1 = j * 4 + 1 + 4 by omega]; simpa using h2
    · rw [show (j + 1) * 4 + 2 = j * 4 + 2 + 4 by omega]; simpa using h3
    · rw [show (j + 1) * 4 + 3 = j * 4 + 3 + 4 by omega]; simpa using h4
theorem SlF.take {F : Nat → Prop} {w : World} {A : Option Addr} {c : Nat} {xs : List UInt8} (h : SlF F w (.slice A xs.length c) xs) (n : Nat) (hn : n ≤ xs.length) : SlF F w (.slice A n c) (xs.take n) := by
  obtain ⟨A', c', e, hr, h1, h2, h3⟩ := h
  simp only [Value.slice.injEq] at e
  obtain ⟨rfl, _, rfl⟩ := e
  have hl : (xs.take n).length = n := by rw [List.length_take]; omega
  exact ⟨A, c, by rw [hl], hr.take n, by omega, h2, fun h0 => h3 (by omega)⟩
theorem lay_n (A B : Option Addr) (l c n cb : Nat) (old b : List UInt8) (at_ : Nat) (w : World) (hl : old.length = l) (hn : b.length = n) (ho : l ≤ 4294967296) (hb : n ≤ 4294967296) (hcb : n ≤ cb) (hcm : cb ≤ 9223372036854775807) (hat : at_ ≤ l) (hA : RdB w A old) (hB : RdB w B b) :
    Calls Try.prog 43 #[.slice A l c, .int .i64 (at_ : Int), .slice B n cb] w fun e w' => ∃ v, e = .returned v ∧ OwB w.heap.size w' v (layF old at_ b) ∧ Below w.heap.size w w' := by
  subst hl
  subst hn
  exact lay_any A B c cb old b at_ w ho hb hcb hcm hat hA hB
structure AfterR (f : FileP) (k : Nat) (w : World) (out u i : Value) (wr : World) : Prop where
  ex : ∃ (j un : Nat) (o : List UInt8), j ≤ f.chs.length ∧ i = .int .i64 (j : Int) ∧ u = .int .i64 (un : Int) ∧ un ≤ k ∧ SlF (fun i => w.heap.size ≤ i) wr out o ∧ Below w.heap.size w wr ∧
    afterL k f.chs f.sure 0 = afterL k (f.chs.drop j) o un ∧ (un = k ∨ Chain o (f.chs.drop j) f.now) ∧ o.length ≤ 262144
def AfterPost (f : FileP) (k : Nat) (w : World) (e : Ending) (w' : World) : Prop := ∃ v, e = .returned (.tuple #[v, .int .i64 ((afterL k f.chs f.sure 0).2 : Int)]) ∧ SlF (fun i => w.heap.size ≤ i) w' v (afterL k f.chs f.sure 0).1 ∧ Below w.heap.size w w' ∧ (afterL k f.chs f.sure 0).1.length ≤ 262144
theorem applyF_len {o : List UInt8} {c : Chg} {cs : List Chg} {now : List UInt8} (h : Chain o (c :: cs) now) : (applyF o c).length ≤ 262144 := h.2.2.2.le0
theorem chain_skip {o : List UInt8} {c : Chg} {cs : List Chg} {now : List UInt8} (h : Chain o (c :: cs) now) (h0 : (if c.cut then 1 else c.b.length) = 0) : Chain o cs now := by
  obtain ⟨h1, h2, h3, h4⟩ := h
  cases hc : c.cut with
  | true => rw [hc] at h0; simp at h0
  | false =>
    rw [hc] at h0
    simp at h0
    have e : applyF o c = o := by
      unfold applyF layF
      rw [hc, h0]
      simp
    rwa [e] at h4
theorem lay_part_len (o b : List UInt8) (at_ n : Nat) (hat : at_ ≤ o.length) : (layF o at_ (b.take n)).length ≤ (layF o at_ b).length := by
  rw [layF_length _ _ _ hat, layF_length _ _ _ hat, List.length_take]
  omega
set_option maxHeartbeats 2000000 in
theorem after_any {F : Nat → Prop} (w : World) (e0 : Ent) (h : FileAt F w e0) (k : Nat) (hk : k ≤ 9223372036854775807) :
    Calls Try.prog 50 #[.pointer (some ⟨e0.blk, 0, none⟩), .int .i64 (k : Int)] w (AfterPost e0.f k w) := by
  have H := Lib.hid h
  obtain ⟨A, c, ev, hr, hlc, hcm, _⟩ := h.sure
  have hle := h.ok.le0
  have q1 := h.blk.cell 1
  simp only [List.getElem?_toArray, List.getElem?_cons_succ, List.getElem?_cons_zero, ev] at q1
  have HR := Lib.hid hr
  clear h hr ev
  go_enter Try.func50, Try.ntmps50
  go_wp2_with fail
  refine (clone_any A c e0.f.sure w (by omega) HR.out).mono ?_
  rintro e w1 ⟨v1, rfl, o1, b1⟩
  obtain ⟨vs, hrow, hchg⟩ := H.out.chg
  obtain ⟨A3, c3, ev3, hvs, hvl, hc3, hm3, hA3⟩ : ∃ A3 c3, e0.chgV = .slice A3 e0.f.chs.length c3 ∧ RdV w A3 vs ∧ vs.length = e0.f.chs.length * 4 ∧ e0.f.chs.length ≤ c3 ∧ c3 ≤ 9223372036854775807 ∧ (0 < e0.f.chs.length → ∃ g, A3 = some ⟨g, 0, none⟩) := by
    obtain ⟨X, c, e, h1, h2, h3, h4, _⟩ := OwV.form (e := tChg) (size := 4) (.inl hrow)
    refine ⟨X, c, e, h1, h2, h3, h4, fun h0 => ?_⟩
    rcases hrow.2 with ⟨_, h5⟩ | ⟨g, cap, cur, e', _⟩
    · omega
    · rw [e] at e'
      simp only [Value.slice.injEq] at e'
      exact ⟨g, e'.1⟩
  have hb1 := (H.out.blk.below b1).cell 3
  simp only [List.getElem?_toArray, List.getElem?_cons_succ, List.getElem?_cons_zero, ev3] at hb1
  have hs1 : SlF (fun i => w.heap.size ≤ i) w1 v1 e0.f.sure := SlF.of_own o1 (fun i h _ => h)
  have HS1 := Lib.hid hs1
  have B1 := Lib.hid b1
  have HVS := Lib.hid hvs
  have HCHG := Lib.hid hchg
  have hvl' : vs.length = e0.f.chs.length * 4 := hvl
  have HVL := Lib.hid hvl'
  have HA3 := Lib.hid hA3
  clear o1 b1 hrow hvs hchg hs1 ev3 hvl hvl' q1 hA3
  go_wp2_with fail
  generalize hf : e0.f = f at *
  have HFF := Lib.hid hf
  clear hf
  go_loopw [6, 7, 21] (fun out u i wr => AfterR f k w out u i wr) (fun _ _ i _ => f.chs.length - (intOf i).toNat)
  case atStart => exact ⟨0, 0, f.sure, Nat.zero_le _, rfl, rfl, Nat.zero_le _, HS1.out, B1.out, rfl, .inr (HFF.out ▸ H.out.ok), hle⟩
  case round =>
    obtain ⟨j, un, o, hj, rfl, rfl, hun, hs, hB, heq, hch, hol⟩ := hrel
    have HS := Lib.hid hs
    have HB := Lib.hid hB
    have HEQ := Lib.hid heq
    have HCH := Lib.hid hch
    obtain ⟨OA, oc, rfl, hor, hoc, hom, _⟩ := hs
    have HOR := Lib.hid hor
    clear hB heq hch hor
    by_cases hjl : j < f.chs.length
    · obtain ⟨g1, g2, g3, bv, g4, hbs⟩ := HCHG.out.get j hjl
      obtain ⟨B, cb, rfl, hbr, hbc, hbm, _⟩ := hbs
      obtain ⟨p1, g1'⟩ := List.getElem?_eq_some_iff.1 g1
      obtain ⟨p2, g2'⟩ := List.getElem?_eq_some_iff.1 g2
      obtain ⟨p3, g3'⟩ := List.getElem?_eq_some_iff.1 g3
      obtain ⟨p4, g4'⟩ := List.getElem?_eq_some_iff.1 g4
      obtain ⟨ab, rfl⟩ := HA3.out (by omega)
      obtain ⟨ad1, e1, hc1⟩ := (HVS.out.below HB.out) (j * 4) p1
      obtain ⟨ad2, e2, hc2⟩ := (HVS.out.below HB.out) (j * 4 + 1) p2
      obtain ⟨ad3, e3, hc3'⟩ := (HVS.out.below HB.out) (j * 4 + 2) p3
      obtain ⟨ad4, e4, hc4⟩ := (HVS.out.below HB.out) (j * 4 + 3) p4
      cases e1
      cases e2
      cases e3
      cases e4
      rw [own_zero_add] at hc1 hc2 hc3' hc4
      rw [g1'] at hc1
      rw [g2'] at hc2
      rw [g3'] at hc3'
      rw [g4'] at hc4
      have hdr : f.chs.drop j = f.chs[j] :: f.chs.drop (j + 1) := List.drop_eq_getElem_cons hjl
      generalize f.chs[j] = cg at *
      have HDR := Lib.hid hdr
      have HBR := Lib.hid (hbr.below HB.out)
      clear g1 g2 g3 g4 g1' g2' g3' g4' p1 p2 p3 p4 hdr hbr
      have hba : Below wr.heap.size wr (wr.alloc (.cells #[.bool cg.cut, .int .i64 (cg.size : Int), .int .i64 (cg.at_ : Int), .slice B cg.b.length cb] tChg)) := (Below.refl _ _).alloc (Nat.le_refl _) _
      have kba := Blk.new wr #[.bool cg.cut, .int .i64 (cg.size : Int), .int .i64 (cg.at_ : Int), .slice B cg.b.length cb] tChg
      have HBA := Lib.hid (HB.out.trans (hba.mono HB.out.size))
      have HS2 := Lib.hid (HS.out.keeps (Keeps.of_new (S := fun _ => False) hba) (fun _ _ _ => id))
      have HOR2 := Lib.hid (HOR.out.below hba)
      have HBR2 := Lib.hid (HBR.out.below hba)
      have KBA := Lib.hid kba
      clear hba kba
      obtain ⟨q, hq⟩ : ∃ q, q = k - un := ⟨_, rfl⟩
      have hsub : (k : Int) - (un : Int) = (q : Int) := by omega
      obtain ⟨nn, hnn⟩ : ∃ nn, nn = (if cg.cut then 1 else cg.b.length) := ⟨_, rfl⟩
      obtain ⟨n, hn⟩ : ∃ n, n = min nn q := ⟨_, rfl⟩
      have hmin : min (nn : Int) (q : Int) = (n : Int) := by omega
      have hstep : afterL k (f.chs.drop j) o un = (if n = 0 then afterL k (f.chs.drop (j + 1)) o un else afterL k (f.chs.drop (j + 1)) (if cg.cut then o.take cg.size else layF o cg.at_ (cg.b.take n)) (un + n)) := by
        rw [HDR.out, afterL_cons, ← hnn, ← hq, ← hn]
      have HSTEP := Lib.hid (HEQ.out.trans hstep)
      have HCH2 := Lib.hid (show un = k ∨ Chain o (cg :: f.chs.drop (j + 1)) f.now by rw [← HDR.out]; exact HCH.out)
      have HQ := Lib.hid hq
      have HN := Lib.hid hn
      have HNN := Lib.hid hnn
      clear hstep
      by_cases hn0 : n = 0
      · have HF : Hid (AfterR f k w (.slice OA o.length oc) (.int .i64 (un : Int)) (.int .i64 ((j : Int) + 1)) (wr.alloc (.cells #[.bool cg.cut, .int .i64 (cg.size : Int), .int .i64 (cg.at_ : Int), .slice B cg.b.length cb] tChg))) := by
          refine ⟨j + 1, un, o, hjl, rfl, rfl, hun, HS2.out, HBA.out, by rw [HSTEP.out, if_pos hn0], ?_, hol⟩
          rcases HCH2.out with h | h
          · exact .inl h
          · by_cases hkk : un = k
            · exact .inl hkk
            · exact .inr (chain_skip h (by rw [← hnn]; omega))
        have hz : ((n : Int) == 0) = true := by simp [hn0]
        clear hq hn hnn hn0
        cases hcut : cg.cut with
        | true =>
          rw [hcut] at hc1
          obtain rfl : nn = 1 := by have := HNN.out; rw [hcut] at this; simpa using this
          rw [hcut] at HF
          clear hcut
          go_wp2_with fail
          exact ⟨HF.out, by simp [intOf]; omega⟩
        | false =>
          rw [hcut] at hc1
          obtain rfl : nn = cg.b.length := by have := HNN.out; rw [hcut] at this; simpa using this
          rw [hcut] at HF
          clear hcut
          go_wp2_with fail
          exact ⟨HF.out, by simp [intOf]; omega⟩
      · have hz : ((n : Int) == 0) = false := by simp; omega
        have hukn : un ≠ k := by omega
        have hchn : Chain o (cg :: f.chs.drop (j + 1)) f.now := HCH2.out.resolve_left hukn
        have hunn : un + n ≤ k := by omega
        have hnfull : un + n = k ∨ n = nn := by omega
        cases hcut : cg.cut with
        | true =>
          rw [hcut] at hc1
          obtain rfl : nn = 1 := by rw [hcut] at hnn; simpa using hnn
          have hmin1 : min (1 : Int) (q : Int) = (n : Int) := by omega
          have hsz := (hchn.2.1 hcut).1
          have hsl := slice_h OA o.length oc cg.size (by omega)
          have hap : applyF o cg = o.take cg.size := by unfold applyF; rw [hcut]; rfl
          have hlt : (o.take cg.size).length = cg.size := by rw [List.length_take]; omega
          have HF : Hid (AfterR f k w (.slice OA cg.size oc) (.int .i64 ((un : Int) + (n : Int))) (.int .i64 ((j : Int) + 1)) (wr.alloc (.cells #[.bool true, .int .i64 (cg.size : Int), .int .i64 (cg.at_ : Int), .slice B cg.b.length cb] tChg))) := by
            refine ⟨j + 1, un + n, o.take cg.size, hjl, rfl, by simp, hunn, ?_, ?_, ?_, ?_, by rw [hlt]; omega⟩
            · have := HS2.out
              rw [hcut] at this
              exact this.take cg.size hsz
            · have := HBA.out
              rwa [hcut] at this
            · rw [HSTEP.out, if_neg hn0, hcut]; rfl
            · right
              rw [← hap]
              exact hchn.2.2.2
          have KB2 := KBA.out
          rw [hcut] at KB2
          clear hq hn hnn hn0 hcut hchn hap hlt hnfull KB2
          go_wp2_with fail
          exact ⟨HF.out, by simp [intOf]; omega⟩
        | false =>
          rw [hcut] at hc1
          obtain rfl : nn = cg.b.length := by rw [hcut] at hnn; simpa using hnn
          have hat := hchn.2.2.1 hcut
          have hsl := slice_h B cg.b.length cb n (by omega)
          have hap : applyF o cg = layF o cg.at_ cg.b := by unfold applyF; rw [hcut]; rfl
          have hbl : (applyF o cg).length ≤ 262144 := applyF_len hchn
          rw [hap] at hbl
          have hpl := lay_part_len o cg.b cg.at_ n hat
          have hcgb : cg.b.length ≤ 262144 := by rw [layF_length _ _ _ hat] at hbl; omega
          have htl : (cg.b.take n).length = n := by rw [List.length_take]; omega
          have hstep2 : afterL k f.chs f.sure 0 = afterL k (f.chs.drop (j + 1)) (layF o cg.at_ (cg.b.take n)) (un + n) := by rw [HSTEP.out, if_neg hn0, hcut]; rfl
          have hch2 : un + n = k ∨ Chain (layF o cg.at_ (cg.b.take n)) (f.chs.drop (j + 1)) f.now := by
            rcases hnfull with h | h
            · exact .inl h
            · right
              rw [h, List.take_of_length_le (Nat.le_refl _), ← hap]
              exact hchn.2.2.2
          have KB2 := KBA.out
          rw [hcut] at KB2
          have HB2 := HBA.out
          rw [hcut] at HB2
          have HO2 := HOR2.out
          rw [hcut] at HO2
          have HR2 := HBR2.out
          rw [hcut] at HR2
          have KB3 := Lib.hid KB2
          have HB3 := Lib.hid HB2
          have HO3 := Lib.hid HO2
          have HR3 := Lib.hid HR2
          have HTL := Lib.hid htl
          have HST2 := Lib.hid hstep2
          have HCH3 := Lib.hid hch2
          clear hq hn hnn hn0 hcut hchn hap hnfull KB2 HB2 HO2 HR2 htl hstep2 hch2
          go_wp2_with fail
          have q2 := KB3.out.cell 2
          have q3 := KB3.out.cell 3
          simp only [List.getElem?_toArray, List.getElem?_cons_succ, List.getElem?_cons_zero] at q2 q3
          generalize (wr.alloc (.cells #[.bool false, .int .i64 (cg.size : Int), .int .i64 (cg.at_ : Int), .slice B cg.b.length cb] tChg)) = wa at *
          go_still_tail 7, (by kernel_rfl)
          change wpList _ _ _ _ _ wa.drew
          have hda : Below wa.heap.size wa wa.drew := (Below.refl _ _).drew
          have HDA := Lib.hid hda
          clear hda q2 q3
          go_wp2_with fail
          refine (lay_n OA B o.length oc n cb o (cg.b.take n) cg.at_ _ rfl HTL.out (by omega) (by omega) (by omega) hbm hat (HO3.out.below HDA.out) ((HR3.out.below HDA.out).take n)).mono ?_
          rintro e w5 ⟨v5, rfl, o5, b5⟩
          obtain ⟨A5, c5, ev5, _⟩ := o5.form
          have hb5 : Below w.heap.size w w5 := HB3.out.trans ((HDA.out.trans b5).mono HB3.out.size)
          have hs5 : SlF (fun i => w.heap.size ≤ i) w5 v5 (layF o cg.at_ (cg.b.take n)) := SlF.of_own o5 (fun i h _ => Nat.le_trans HB3.out.size h)
          have HF : Hid (AfterR f k w v5 (.int .i64 ((un : Int) + (n : Int))) (.int .i64 ((j : Int) + 1)) w5) := ⟨j + 1, un + n, _, hjl, rfl, by simp, hunn, hs5, hb5, HST2.out, HCH3.out, by omega⟩
          clear o5 b5 ev5 hb5 hs5
          go_wp2_with fail
          exact ⟨HF.out, by simp [intOf]; omega⟩
    · obtain rfl : j = f.chs.length := by omega
      have hE : afterL k f.chs f.sure 0 = (o, un) := by rw [HEQ.out, List.drop_length]; rfl
      have HF : Hid (AfterPost f k w (.returned (.tuple #[.slice OA o.length oc, .int .i64 (un : Int)])) wr) := by
        show AfterPost _ _ _ _ _
        unfold AfterPost
        rw [hE]
        exact ⟨_, rfl, HS.out, HB.out, hol⟩
      clear hE
      go_wp2_with fail
      go_ret2
      exact HF.out
end Go.Proofs.Ytapgknaoieojkaa.Toll
