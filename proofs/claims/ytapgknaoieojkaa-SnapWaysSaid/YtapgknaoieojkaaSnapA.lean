/- Walk: snap.Save. -/
import Derived.Test.YtapgknaoieojkaaSnapD
set_option linter.unusedVariables false
set_option linter.unusedSimpArgs false
set_option maxRecDepth 100000
namespace Go.Proofs.Ytapgknaoieojkaa.Toll
open Go.RowKit
theorem sputF_ok {s : SnapV} {x : List UInt8} (h : sputF s = .ok x) : 1 ≤ s.idx ∧ s.idx ≤ 1099511627776 ∧ 1 ≤ s.term ∧ s.term ≤ 1099511627776 ∧ rightB s.V s.L = true ∧ s.data.length ≤ 16384 ∧ x = frameOf (snapBody s) := by
  unfold sputF at h
  split at h
  · cases h
  · rename_i h1
    split at h
    · cases h
    · rename_i h2
      injection h with h
      refine ⟨by omega, by omega, by omega, by omega, ?_, by omega, h.symm⟩
      cases hr : rightB s.V s.L with
      | true => rfl
      | false => exact absurd (.inr (.inr (.inr (.inr hr)))) h1
theorem sputF_err {s : SnapV} {k : Int} (h : sputF s = .error k) : k = 2 ∨ k = 6 := by
  unfold sputF at h
  split at h
  · injection h with h; exact .inl h.symm
  · split at h
    · injection h with h; exact .inr h.symm
    · cases h
theorem snapBody_length {s : SnapV} (h : rightB s.V s.L = true) (h1 : s.idx ≤ 1099511627776) (h2 : s.term ≤ 1099511627776) (hd : s.data.length ≤ 16384) : (snapBody s).length ≤ 20000 := by
  have h3 := memBytes_length h
  have h4 := numB_length s.idx.toNat (by omega)
  have h5 := numB_length s.term.toNat (by omega)
  have h6 := numB_length (memBytes s.V s.L).length (by omega)
  have h7 := numB_length s.data.length (by omega)
  simp [snapBody]
  omega
theorem nameF_size (n : Nat) : (nameK n).size ≤ 18 := by
  have := digs_len 13 n
  show (nameF n).toArray.size ≤ 18
  simp [nameF, snapB]
  omega
theorem SPut_okx (A1 A2 A3 : Option Addr) (c1 c2 c3 : Nat) (s : SnapV) (x : List UInt8) (w : World) (hs : SnapAt w A1 A2 A3 s) (h : sputF s = .ok x) :
    Calls Try.prog 9 #[snapVal A1 A2 A3 c1 c2 c3 s] w fun e w' => ∃ g, w.heap.size ≤ g ∧ e = .returned (.tuple #[.slice (some ⟨g, 0, none⟩) x.length x.length, .int .i64 0]) ∧ w'.heap[g]? = some (rowB x) ∧ Below w.heap.size w w' := by
  obtain ⟨i1, i2, t1, t2, hr, hd, rfl⟩ := sputF_ok h
  exact SPut_ok A1 A2 A3 c1 c2 c3 s w hs i1 i2 t1 t2 hr hd
theorem tmpK_size : tmpK.size ≤ maxLen := Nat.le_trans (show tmpK.size ≤ 8 from Nat.le_refl _) (by decide)
theorem Write_tmp {F : Nat → Prop} {d : Nat} {room : Int} {D : List (ByteArray × FileP)} (w : World) (h : DiskIn F w d room D) (g : Nat) (b : List UInt8) (hb : b.length ≤ 20008) (hB : RdB w (some ⟨g, 0, none⟩) b) (hBF : ¬ F g) (hn : getF D tmpK = none) :
    Calls Try.prog 18 #[.pointer (some ⟨d, 0, none⟩), .string tmpK, .int .i64 0, .slice (some ⟨g, 0, none⟩) b.length b.length] w (DiskPost F w d room (.int .i64 (writeF room D tmpK 0 b).1) (writeF room D tmpK 0 b).2) :=
  Write_any w h tmpK tmpK_size 0 (some ⟨g, 0, none⟩) b.length b (by decide) (by decide) (by omega) (Nat.le_refl _) (by omega) hB (fun _ ad ea => by cases ea; exact hBF) (fun f hf => by rw [hn] at hf; cases hf)
theorem round_less' {L : List NIdx} {k : Nat} (hlt : k < L.length) : L.length - (intOf (.int .i64 ((k : Int) + 1))).toNat < L.length - (intOf (.int .i64 (k : Int))).toNat := by
  simp [intOf]
  omega
/-- The loop of Save. -/
structure SaveR (F : Nat → Prop) (w1 : World) (d : Nat) (room idx : Int) (D : List (ByteArray × FileP)) (L : List NIdx) (A : Option Addr) (i : Value) (wr : World) : Prop where
  ex : ∃ (k : Nat) (F' : Nat → Prop), k ≤ L.length ∧ i = .int .i64 (k : Int) ∧ DS F w1 F' wr d room (purgeF idx D (L.take k)) ∧ RdV wr A (L.flatMap encF) ∧ (0 < L.length → ∃ g, A = some ⟨g, 0, none⟩ ∧ ¬ F' g)
set_option maxHeartbeats 400000 in
theorem Save_any {F : Nat → Prop} {d : Nat} {room : Int} {D : List (ByteArray × FileP)} (w : World) (h : DiskIn F w d room D) (A1 A2 A3 : Option Addr) (c1 c2 c3 : Nat) (s : SnapV) (hs : SnapAt w A1 A2 A3 s) :
    Calls Try.prog 17 #[.pointer (some ⟨d, 0, none⟩), snapVal A1 A2 A3 c1 c2 c3 s] w (DiskPost F w d room (.int .i64 (saveD room D s).1) (saveD room D s).2) := by
  have H := Lib.hid h
  have HS := Lib.hid hs
  have hlt := h.lt
  have hb0 : Below w.heap.size w (w.alloc (.cells #[.int .i64 s.idx, .int .i64 s.term, .slice A1 s.V.length c1, .slice A2 s.L.length c2, .slice A3 s.data.length c3] 29)) := (Below.refl _ _).alloc (Nat.le_refl _) _
  have kb0 := Blk.new w #[.int .i64 s.idx, .int .i64 s.term, .slice A1 s.V.length c1, .slice A2 s.L.length c2, .slice A3 s.data.length c3] 29
  have hsz0 : (w.alloc (.cells #[.int .i64 s.idx, .int .i64 s.term, .slice A1 s.V.length c1, .slice A2 s.L.length c2, .slice A3 s.data.length c3] 29)).heap.size = w.heap.size + 1 := by simp
  clear h hs
  cases hp : sputF s with
  | error k =>
    have hR : saveD room D s = (k, D) := by unfold saveD; rw [hp]
    rw [hR]
    have HP := Lib.hid hp
    have HB0 := Lib.hid hb0
    clear hp hR hb0 kb0 hsz0
    go_enter Try.func17, Try.ntmps17
    go_wp2_with fail
    refine (SPut_err A1 A2 A3 c1 c2 c3 s k _ (HS.out.below HB0.out) HP.out).mono ?_
    rintro e w1 ⟨rfl, b1⟩
    have B1 := Lib.hid (HB0.out.trans (b1.mono (by simp)))
    have hk : (k == 0) = false := by have := sputF_err HP.out; simp; omega
    clear b1
    go_wp2_with fail
    go_ret
    exact (DS.refl H.out).below B1.out |>.post _
  | ok x =>
    obtain ⟨i1, i2, t1, t2, hr, hd, hx⟩ := sputF_ok hp
    have hbl := snapBody_length hr i2 t2 hd
    have hxl : x.length ≤ 20008 := by rw [hx, frameOf_length]; omega
    obtain ⟨D1, hD1⟩ : ∃ D1, D1 = (removeD D tmpK).2 := ⟨_, rfl⟩
    obtain ⟨W, hW⟩ : ∃ W, W = writeF room D1 tmpK 0 x := ⟨_, rfl⟩
    obtain ⟨D3, hD3⟩ : ∃ D3, D3 = (syncD W.2 tmpK).2 := ⟨_, rfl⟩
    obtain ⟨R, hR⟩ : ∃ R, R = renameD D3 tmpK (nameK s.idx.toNat) := ⟨_, rfl⟩
    have hS : saveD room D s = (if W.1 = 0 then if R.1 = 0 then (0, purgeF s.idx R.2 (filesF R.2)) else (R.1, (removeD R.2 tmpK).2) else (W.1, (removeD W.2 tmpK).2)) := by
      unfold saveD
      rw [hp, hR, hD3, hW, hD1]
    generalize saveD room D s = S at *
    have HSS := Lib.hid hS
    have HD1 := Lib.hid hD1
    have HW := Lib.hid hW
    have HD3 := Lib.hid hD3
    have HRR := Lib.hid hR
    have HX := Lib.hid hx
    have HP := Lib.hid hp
    have HKB := Lib.hid kb0
    have HB0 := Lib.hid hb0
    have HSZ := Lib.hid hsz0
    clear hS hD1 hW hD3 hR hp hb0 kb0 hsz0 hx
    go_enter Try.func17, Try.ntmps17
    go_wp2_with fail
    refine (SPut_okx A1 A2 A3 c1 c2 c3 s x _ (HS.out.below HB0.out) HP.out).mono ?_
    rintro e w1 ⟨g, hg, rfl, hrow, b1⟩
    have kb1 := HKB.out.below b1
    have hsz1 : w.heap.size < w1.heap.size := kb1.lt
    have hgl : w.heap.size < g := by rw [HSZ.out] at hg; omega
    have hgw : g < w1.heap.size := (Array.getElem?_eq_some_iff.1 hrow).1
    have B1 := Lib.hid (HB0.out.trans (b1.mono (by rw [HSZ.out]; omega)))
    have KB1 := Lib.hid kb1
    have HROW := Lib.hid hrow
    clear b1 kb1 hrow
    go_wp2_with fail
    refine (Remove_any w1 (H.out.below B1.out) tmpK tmpK_size).mono ?_
    intro e w2 hp
    obtain ⟨F2, rfl, ds2⟩ := hp.ds
    rw [← HD1.out] at ds2
    have DS2 := Lib.hid ds2
    have hrb : RdB w2 (some ⟨g, 0, none⟩) x := by
      have hr1 : RdB w1 (some ⟨g, 0, none⟩) x := by have := rowB_rd HROW.out 0; simpa using this
      exact hr1.keeps ds2.keep (fun _ ad ea hF => by cases ea; have := hlt g hF; omega)
    have hnF : ¬ F2 g := fun hF => by
      rcases ds2.new g hF with h | h
      · have := hlt g h; omega
      · omega
    have HRB := Lib.hid hrb
    clear hp ds2 hrb
    go_wp2_with fail
    refine (Write_tmp w2 DS2.out.din g x hxl HRB.out hnF (by rw [HD1.out]; exact getF_remove D tmpK)).mono ?_
    rw [← HW.out]
    intro e w3 hp
    obtain ⟨F3, rfl, ds3⟩ := hp.ds
    have DS3 := Lib.hid (DS2.out.trans ds3)
    clear hp ds3
    by_cases hw : W.1 = 0
    · rw [hw]
      go_wp2_with fail
      refine (Sync_any w3 DS3.out.din tmpK tmpK_size).mono ?_
      intro e w4 hp
      obtain ⟨F4, rfl, ds4⟩ := hp.ds
      rw [← HD3.out] at ds4
      have DS4 := Lib.hid (DS3.out.trans ds4)
      have kb4 := KB1.out.keeps DS4.out.keep (fun hF => by have := hlt _ hF; omega)
      have q0 := kb4.cell 0
      simp only [List.getElem?_toArray, List.getElem?_cons_zero] at q0
      obtain ⟨n, hn⟩ := Int.eq_ofNat_of_zero_le (show 0 ≤ s.idx by omega)
      rw [hn] at q0
      have hni : n ≤ 1099511627776 := by omega
      have hnn : s.idx.toNat = n := by omega
      rw [hnn] at HRR
      have HN := Lib.hid hn
      clear hp ds4 kb4 hn hnn
      go_wp2_with fail
      refine (name_any n w4 hni).mono ?_
      rintro e w' ⟨rfl, rfl⟩
      go_wp2_with fail
      refine (Rename_any w4 DS4.out.din tmpK (nameK n) tmpK_size (Nat.le_trans (nameF_size n) (by decide))).mono ?_
      rw [← HRR.out]
      intro e w5 hp
      obtain ⟨F5, rfl, ds5⟩ := hp.ds
      have DS5 := Lib.hid (DS4.out.trans ds5)
      clear hp ds5
      by_cases hr0 : R.1 = 0
      · rw [hr0]
        go_wp2_with fail
        have hS2 : S = (0, purgeF s.idx R.2 (filesF R.2)) := by rw [HSS.out, if_pos hw, if_pos hr0]
        subst hS2
        refine (files_any w5 DS5.out.din).mono ?_
        rintro e w6 ⟨FA, fc, rfl, hrd, b6, hfb, hL16⟩
        generalize filesF R.2 = L at *
        have DS6 := Lib.hid (DS5.out.below b6)
        have HRD := Lib.hid hrd
        have hnf : 0 < L.length → ∃ g, FA = some ⟨g, 0, none⟩ ∧ ¬ F5 g := fun h0 => by
          obtain ⟨g, e, h1⟩ := hfb h0
          exact ⟨g, e, fun hF => by have := DS5.out.din.lt _ hF; omega⟩
        clear hrd b6 hfb
        go_wp2_with fail
        go_loopw [42] (fun i wr => SaveR F w1 d room s.idx R.2 L FA i wr) (fun i _ => L.length - (intOf i).toNat)
        case atStart => exact ⟨0, F5, Nat.zero_le _, rfl, DS6.out, HRD.out, hnf⟩
        case round =>
          obtain ⟨k, F6, hk, rfl, ds, hrd, hnf2⟩ := hrel
          have HDS := Lib.hid ds
          have HRD2 := Lib.hid hrd
          have kb5 := KB1.out.keeps ds.keep (fun hF => by have := hlt _ hF; omega)
          have qi := kb5.cell 0
          simp only [List.getElem?_toArray, List.getElem?_cons_zero, HN.out] at qi
          by_cases hkl : k < L.length
          · have hfl := flat_len L
            obtain ⟨b, rfl, hnb⟩ := hnf2 (by omega)
            obtain ⟨ad0, e0, hc0⟩ := hrd (k * 2) (by omega)
            obtain ⟨ad1, e1, hc1⟩ := hrd (k * 2 + 1) (by omega)
            cases e0
            cases e1
            rw [own_zero_add] at hc0 hc1
            have g0 : (L.flatMap encF)[k * 2]'(by omega) = .string (nameK (L[k]).val) := by
              have := flat_get L (k * 2) (by omega)
              rw [List.getElem?_eq_getElem (by omega)] at this
              have h2 := Option.some.inj this
              rw [h2, show k * 2 / 2 = k by omega, show k * 2 % 2 = 0 by omega]
              simp [hkl, encF, nameK]
            have g1 : (L.flatMap encF)[k * 2 + 1]'(by omega) = .int .i64 ((L[k]).val : Int) := by
              have := flat_get L (k * 2 + 1) (by omega)
              rw [List.getElem?_eq_getElem (by omega)] at this
              have h2 := Option.some.inj this
              rw [h2, show (k * 2 + 1) / 2 = k by omega, show (k * 2 + 1) % 2 = 1 by omega]
              simp [hkl, encF]
            rw [g0] at hc0
            rw [g1] at hc1
            generalize hx0 : L[k] = y at *
            have hst : purgeF s.idx R.2 (L.take (k + 1)) = (if (y.val : Int) < s.idx then (removeD (purgeF s.idx R.2 (L.take k)) (nameK y.val)).2 else purgeF s.idx R.2 (L.take k)) := by
              rw [List.take_succ_eq_append_getElem hkl, hx0]
              unfold purgeF
              rw [List.foldl_append]
              rfl
            have HST := Lib.hid hst
            have hba : Below wr.heap.size wr (wr.alloc (.cells #[.string (nameK y.val), .int .i64 (y.val : Int)] tSf)) := (Below.refl _ _).alloc (Nat.le_refl _) _
            have HBA := Lib.hid hba
            have hszr : w.heap.size < wr.heap.size := kb5.lt
            clear ds hrd kb5 g0 g1 hst hba
            by_cases hlt2 : y.val < n
            · have hl' : decide ((y.val : Int) < (n : Int)) = true := by simp; omega
              go_wp2_with fail
              refine (Remove_any _ (HDS.out.din.below HBA.out) (nameK y.val) (Nat.le_trans (nameF_size _) (by decide))).mono ?_
              intro e w7 hp
              obtain ⟨F7, rfl, ds7⟩ := hp.ds
              have hD7 := (HDS.out.below HBA.out).trans ds7
              have hbl := HRD2.out.lt (by omega) rfl
              have hb1 : wr.heap.size ≤ (wr.alloc (.cells #[.string (nameK y.val), .int .i64 (y.val : Int)] tSf)).heap.size := HBA.out.size
              have hF := SaveR.mk (i := .int .i64 ((k : Int) + 1)) (L := L) (idx := s.idx) (D := R.2) ⟨k + 1, F7, hkl, rfl, by rw [HST.out, if_pos (by rw [HN.out]; omega)]; exact hD7,
                (HRD2.out.below HBA.out).keeps ds7.keep (fun _ ad ea => by cases ea; exact hnb), fun _ => ⟨b, rfl, fun h7 => (ds7.new b h7).elim hnb (fun h => by simp only at hbl; omega)⟩⟩
              have HF := Lib.hid hF
              clear hp ds7 hD7 hF
              go_wp2_with fail
              exact ⟨HF.out, round_less' hkl⟩
            · have hl' : decide ((y.val : Int) < (n : Int)) = false := by simp; omega
              go_wp2_with fail
              have hF := SaveR.mk (i := .int .i64 ((k : Int) + 1)) (L := L) (idx := s.idx) (D := R.2) ⟨k + 1, F6, hkl, rfl, by rw [HST.out, if_neg (by rw [HN.out]; omega)]; exact HDS.out.below HBA.out, HRD2.out.below HBA.out, fun _ => ⟨b, rfl, hnb⟩⟩
              have HF := Lib.hid hF
              clear hF
              go_wp2_with fail
              exact ⟨HF.out, round_less' hkl⟩
          · obtain rfl : k = L.length := by omega
            rw [List.take_of_length_le (Nat.le_refl _)] at ds
            have HPO := Lib.hid ((ds.post (.int .i64 0)).first B1.out)
            clear ds hrd kb5
            go_wp2_with fail
            go_ret
            exact HPO.out
      · have hr1 : (R.1 == 0) = false := by simp [hr0]
        have hr2 : (R.1 != 0) = true := by simp [hr0]
        have hS2 : S = (R.1, (removeD R.2 tmpK).2) := by rw [HSS.out, if_pos hw, if_neg hr0]
        subst hS2
        go_wp2_with fail
        refine (Remove_any w5 DS5.out.din tmpK tmpK_size).mono ?_
        intro e w6 hp
        obtain ⟨F6, rfl, ds6⟩ := hp.ds
        have HPO := Lib.hid (((DS5.out.trans ds6).post (.int .i64 R.1)).first B1.out)
        clear hp ds6
        go_wp2_with fail
        go_ret
        exact HPO.out
    · have hw1 : (W.1 == 0) = false := by simp [hw]
      have hw2 : (W.1 != 0) = true := by simp [hw]
      have hS2 : S = (W.1, (removeD W.2 tmpK).2) := by rw [HSS.out, if_neg hw]
      subst hS2
      go_wp2_with fail
      refine (Remove_any w3 DS3.out.din tmpK tmpK_size).mono ?_
      intro e w4 hp
      obtain ⟨F4, rfl, ds4⟩ := hp.ds
      have HPO := Lib.hid (((DS3.out.trans ds4).post (.int .i64 W.1)).first B1.out)
      clear hp ds4
      go_wp2_with fail
      go_ret
      exact HPO.out
end Go.Proofs.Ytapgknaoieojkaa.Toll
