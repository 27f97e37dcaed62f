/- Walk: disk.Write. -/
import Derived.Test.YtapgknaoieojkaaDiskY
import Derived.Deep.RegionHeld3
import Derived.Deep.RegionLaw
import Derived.Deep.DeepCutAuto
set_option linter.unusedVariables false
set_option linter.unusedSimpArgs false
set_option maxRecDepth 100000
namespace Go.Proofs.Ytapgknaoieojkaa.Toll
open Go.RowKit
open Go.ChangeMaps (setBlock)
section
variable {F : Nat → Prop} {d M clock : Nat} {room : Int} {ents : List Ent}
set_option maxHeartbeats 4000000 in
theorem Write_some (w : World) (h : DiskAt F w d M clock room ents) (e0 : Ent) (he : e0 ∈ ents) (at_ : Int) (B : Option Addr) (cb : Nat) (b : List UInt8) (hat : at_ ≤ 9223372036854775807) (hat' : -9223372036854775808 ≤ at_)
    (hb : b.length ≤ 4294967296) (hcb : b.length ≤ cb) (hcm : cb ≤ 9223372036854775807) (hB : RdB w B b) (hBF : 0 < b.length → ∀ ad, B = some ad → ¬ F ad.block) (hch : e0.f.chs.length ≤ 1000000) (hn : namedF e0.key = true) :
    Calls Try.prog 18 #[.pointer (some ⟨d, 0, none⟩), .string e0.key, .int .i64 at_, .slice B b.length cb] w (DiskPost F w d room (.int .i64 (writeF room (ents.map Ent.abs) e0.key at_ b).1) (writeF room (ents.map Ent.abs) e0.key at_ b).2) := by
  have H := Lib.hid h
  have HB := Lib.hid hB
  have hsz := h.keys e0 he
  have hks : ∀ e ∈ ents, e.key.size ≤ maxLen := fun e he => Nat.le_trans (h.keys e he) (by decide)
  have cD := h.disk.cell 1
  have cD0 := h.disk.cell 0
  simp only [List.getElem?_toArray, List.getElem?_cons_succ, List.getElem?_cons_zero] at cD cD0
  have hf := (h.file e0 he).blk
  obtain ⟨A, c, ev, hr, hlc, hcm', _⟩ := (h.file e0 he).now
  have hc0 := hf.cell 0
  simp only [List.getElem?_toArray, List.getElem?_cons_zero, ev] at hc0
  have hlk := look_some h.map h.diff hks (hks e0 he) he rfl
  have hle := (h.file e0 he).ok.le
  have hget := getF_of h.diff he
  have hr0 := h.room0
  have hrM := h.roomM
  have hus : usedE ents ≤ 4194304 := by have := used_le h.file; have := h.small; omega
  have HR := Lib.hid hr
  have HF := Lib.hid hf
  clear h hB hr hf
  generalize hwr : writeF room (ents.map Ent.abs) e0.key at_ b = R
  have hwr' : writeF room (ents.map Ent.abs) e0.key at_ b = (if at_ < 0 ∨ (e0.f.now.length : Int) < at_ then (2, ents.map Ent.abs) else if 262144 < e0.f.now.length + (at_.toNat + b.length - e0.f.now.length) then (6, ents.map Ent.abs)
    else if room < (usedE ents : Int) + ((at_.toNat + b.length - e0.f.now.length : Nat) : Int) then (9, ents.map Ent.abs) else (0, putF (ents.map Ent.abs) e0.key (wroteF e0.f at_.toNat b))) := by
    unfold writeF
    rw [if_neg (by simp [hn]), hget, usedE_abs]
    simp only [Option.getD_some, Option.isNone_some, Bool.false_eq_true, false_and, false_or]
  rw [hwr] at hwr'
  have HW := Lib.hid hwr'
  clear hwr hwr' hget
  go_enter Try.func18, Try.ntmps18
  go_wp2_with fail
  refine (named_any e0.key _ (by omega)).mono ?_
  rintro e w' ⟨rfl, rfl⟩
  rw [hn]
  by_cases h0 : at_ < 0
  · have h0' : decide (at_ < 0) = true := by simp [h0]
    have hR : R = (2, ents.map Ent.abs) := by rw [HW.out, if_pos (.inl h0)]
    subst hR
    go_wp2_with (at_lookup; refine wpList_lookE rfl _ _ tMap true rfl _ _ _ rfl rfl hlk ?_)
    go_ret
    exact H.out.post (Below.refl _ _) _
  have h0' : decide (at_ < 0) = false := by simp; omega
  obtain ⟨n, rfl⟩ := Int.eq_ofNat_of_zero_le (show 0 ≤ at_ by omega)
  by_cases h1 : e0.f.now.length < n
  · have h1' : decide ((e0.f.now.length : Int) < (n : Int)) = true := by simp; omega
    have hR : R = (2, ents.map Ent.abs) := by rw [HW.out, if_pos (.inr (by omega))]
    subst hR
    go_wp2_with (at_lookup; refine wpList_lookE rfl _ _ tMap true rfl _ _ _ rfl rfl hlk ?_)
    go_ret
    exact H.out.post (Below.refl _ _) _
  have h1' : decide ((e0.f.now.length : Int) < (n : Int)) = false := by simp; omega
  have hR : R = (if 262144 < e0.f.now.length + (n + b.length - e0.f.now.length) then (6, ents.map Ent.abs)
    else if room < (usedE ents : Int) + ((n + b.length - e0.f.now.length : Nat) : Int) then (9, ents.map Ent.abs) else (0, putF (ents.map Ent.abs) e0.key (wroteF e0.f n b))) := by
    rw [HW.out, if_neg (by omega)]
    rfl
  clear HW h0
  by_cases hm : e0.f.now.length < n + b.length
  · have hm' : (e0.f.now.length : Int) < (n : Int) + (b.length : Int) := by omega
    by_cases hbig : 262144 < e0.f.now.length + (n + b.length - e0.f.now.length)
    · have hbig' : decide (262144 < (e0.f.now.length : Int) + ((n : Int) + (b.length : Int) - (e0.f.now.length : Int))) = true := by simp; omega
      rw [if_pos hbig] at hR
      subst hR
      go_wp2_with (at_lookup; refine wpList_lookE rfl _ _ tMap true rfl _ _ _ rfl rfl hlk ?_)
      go_ret
      exact H.out.post (Below.refl _ _) _
    have hbig' : decide (262144 < (e0.f.now.length : Int) + ((n : Int) + (b.length : Int) - (e0.f.now.length : Int))) = false := by simp; omega
    rw [if_neg hbig] at hR
    have HR' := Lib.hid hR
    clear hR
    go_wp2_with (at_lookup; refine wpList_lookE rfl _ _ tMap true rfl _ _ _ rfl rfl hlk ?_)
    have hwrp : IntKind.i64.wrap ((usedE ents : Int) + ((n : Int) + (b.length : Int) - (e0.f.now.length : Int))) = (usedE ents : Int) + ((n : Int) + (b.length : Int) - (e0.f.now.length : Int)) := by
      unfold IntKind.wrap
      simp [IntKind.signed, IntKind.bits]
      omega
    have hst : DiskAt F w.drew d M clock room ents := H.out.out (Keeps.drew (fun _ => False) w) (fun _ _ => id)
    have hst1 : ∀ w1, Below w.drew.heap.size w.drew w1 → w1.cell? ⟨d, 0, none⟩ = some (.int .i64 room) := fun w1 k => ((H.out.disk.drew.below k).cell 0).trans rfl
    go_region_held3 (fun W => W.cell? ⟨d, 0, none⟩ = some (.int .i64 room)) (first | assumption)
      (first | (go_at_call 42; refine (Used_any _ hst).mono ?_; rintro e w1 ⟨rfl, b1⟩; have cD1 := hst1 w1 b1))
    have B1 := Lib.hid ((Below.refl w.heap.size w).drew.trans b1)
    clear b1 hst hst1
    by_cases hfull : room < (usedE ents : Int) + ((n + b.length - e0.f.now.length : Nat) : Int)
    · have hfull' : decide (room < (usedE ents : Int) + ((n : Int) + (b.length : Int) - (e0.f.now.length : Int))) = true := by simp; omega
      have hR := HR'.out
      rw [if_pos hfull] at hR
      subst hR
      go_wp2
      go_ret
      exact H.out.post B1.out _
    have hfull' : decide (room < (usedE ents : Int) + ((n : Int) + (b.length : Int) - (e0.f.now.length : Int))) = false := by simp; omega
    have hR := HR'.out
    rw [if_neg hfull] at hR
    clear HR'
    subst hR
    have hcF : w1.cell? ⟨e0.blk, 0, none⟩ = some (.slice A e0.f.now.length c) := ((HF.out.below B1.out).cell 0).trans (by simp [ev])
    go_wp2_with fail
    refine (lay_any A B c cb e0.f.now b n w1 (by omega) hb hcb hcm (by omega) (HR.out.below B1.out) (HB.out.below B1.out)).mono ?_
    rintro e w2 ⟨v2, rfl, o2, b2⟩
    have B2 := Lib.hid (B1.out.trans (b2.mono B1.out.size))
    obtain ⟨A2, c2, rfl, _, hc2, hm2, _⟩ := o2.form
    have O2 := Lib.hid o2
    clear o2 b2 hcF cD1
    have hf2 : Blk w2 e0.blk #[e0.nowV, e0.sureV, .bool e0.f.lasts, e0.chgV] tFile := HF.out.below B2.out
    have hfz : w2.frozen? ⟨e0.blk, 0, none⟩ = false := hf2.frozen 0
    have hce : w2.cell? ⟨e0.blk, 0, none⟩ = some (.slice A e0.f.now.length c) := (hf2.cell 0).trans (by simp [ev])
    have HF2 := Lib.hid hf2
    clear hf2
    go_wp2_with fail
    have hf3 := HF2.out.set 0 (.slice A2 (layF e0.f.now n b).length c2)
    simp only [List.setIfInBounds_toArray, List.set_cons_zero] at hf3
    have hc33 := hf3.cell 3
    simp only [List.getElem?_toArray, List.getElem?_cons_succ, List.getElem?_cons_zero] at hc33
    have HF3 := Lib.hid hf3
    clear hf3
    have hk3 : Keeps (· = e0.blk) w2 (w2.setCell ⟨e0.blk, 0, none⟩ (.slice A2 (layF e0.f.now n b).length c2)) := Keeps.setCell w2 ⟨e0.blk, 0, none⟩ _ (.inl rfl)
    generalize hw3 : w2.setCell ⟨e0.blk, 0, none⟩ (.slice A2 (layF e0.f.now n b).length c2) = w3 at *
    have HK3 := Lib.hid hk3
    have hsz3 : w3.drew.heap.size = w2.heap.size := by rw [← hw3]; simp [World.setCell]
    have hB3 : RdB w3.drew B b := ((HB.out.below B2.out).keeps (HK3.out.trans (Keeps.drew _ _)) (fun h0 ad ea e => hBF h0 ad ea (e ▸ (H.out.file e0 he).inF)))
    have armC := clone_any B cb b w3.drew (by omega) hB3
    have hex := (H.out.file e0 he).chg
    obtain ⟨vs, ho, hcr⟩ := hex
    have ho3 : w3.drew.ownsRow 0 tChg 4 e0.chgV e0.f.chs.length vs := ownsRow_keeps (S := (· = e0.blk)) ((ownsRow_keeps (S := fun _ => False) ho (Keeps.of_new B2.out) (fun _ _ => id))) (HK3.out.trans (Keeps.drew _ _)) (fun i hi e => by
      obtain ⟨cur, hb⟩ := owns_type ho hi
      exact (hb.type (H.out.file e0 he).blk (by decide)) e)
    have HO3 := Lib.hid ho3
    have HCR := Lib.hid hcr
    have HO := Lib.hid ho
    clear hk3 hw3 hB3 ho3 hcr ho
    have hc3d : w3.drew.cell? ⟨e0.blk, 3, none⟩ = some e0.chgV := hc33
    have hC4 : ∀ w4 : World, Below w3.drew.heap.size w3.drew w4 → w4.cell? ⟨e0.blk, 3, none⟩ = some e0.chgV ∧ ∀ o, (w4.alloc o).cell? ⟨e0.blk, 3, none⟩ = some e0.chgV := fun w4 b4 =>
      ⟨((HF3.out.drew.below b4).cell 3).trans rfl, fun o => ((((HF3.out.drew.below b4).alloc o)).cell 3).trans rfl⟩
    obtain ⟨row, hrow⟩ : ∃ row : Option Addr → Nat → List Value, row = fun A4 c4 => [.bool false, .int .i64 0, .int .i64 (n : Int), .slice A4 b.length c4] := ⟨_, rfl⟩
    have hP : ∀ (w4 : World) (A4 : Option Addr) (c4 : Nat), Below w3.drew.heap.size w3.drew w4 → OwV tChg 4 0 (w4.alloc (.cells #[.bool false, .int .i64 0, .int .i64 (n : Int), .slice A4 b.length c4] tChg)) e0.chgV e0.f.chs.length vs ∧
        RdV (w4.alloc (.cells #[.bool false, .int .i64 0, .int .i64 (n : Int), .slice A4 b.length c4] tChg)) (some ⟨w4.heap.size, 0, none⟩) (row A4 c4) := fun w4 A4 c4 b4 =>
      ⟨.inl (ownsRow_keeps (S := fun _ => False) HO3.out (Keeps.of_new (b4.alloc b4.size _)) (fun _ _ => id)), RdV.of_cells fun j v hv => by
        rw [own_zero_add, (Blk.new w4 _ tChg).cell j]
        rw [hrow] at hv
        simpa using hv⟩
    have hone : ∀ A4 c4, (row A4 c4).length = 1 * 4 ∧ ∀ u ∈ row A4 c4, u.oneCell' = true := fun A4 c4 => by
      rw [hrow]
      refine ⟨rfl, fun u hu => ?_⟩
      simp at hu
      rcases hu with rfl | rfl | rfl | rfl <;> rfl
    have hl1 : (e0.f.chs.length + 1) * 48 ≤ 140737488355328 := by omega
    have hl2 : e0.f.chs.length + 1 ≤ 140737488355328 := by omega
    have hC5 : ∀ (w4 w5 : World) (v5 : Value) (o : Obj), Below w3.drew.heap.size w3.drew w4 → Grow 0 (w4.alloc o) e0.chgV w5 v5 → w5.cell? ⟨e0.blk, 3, none⟩ = some e0.chgV ∧ Blk w5 e0.blk #[.slice A2 (layF e0.f.now n b).length c2, e0.sureV, .bool e0.f.lasts, e0.chgV] tFile := fun w4 w5 v5 o b4 g5 => by
      have hb5 : Blk w5 e0.blk #[.slice A2 (layF e0.f.now n b).length c2, e0.sureV, .bool e0.f.lasts, e0.chgV] tFile := ((HF3.out.drew.below b4).alloc o).keeps g5.keeps (fun e => by
        obtain ⟨cur, hb⟩ := owns_type HO3.out e.2
        exact (hb.type HF3.out.drew (by decide)) rfl)
      exact ⟨(hb5.cell 3).trans rfl, hb5⟩
    go_region_law
      (first
        | (refine step_appV tyChg 0 rfl (.tmp 95) (.tmp 100) rfl e0.chgV _ 1 vs (row A4 c4) _ 1 rfl rfl (hP w4 A4 c4 b4).1 (hP w4 A4 c4 b4).2 (hone A4 c4).1 (hone A4 c4).2 hl1 hl2 (Nat.zero_le _) ?_; intro v5 w5 o5 g5; obtain ⟨A5, c5, rfl, _, _, _, hm5, _⟩ := o5.form; have hc5 := hC5 w4 w5 _ _ b4 g5; have hfz5 := hc5.2.frozen 3; have hc5' := hc5.1)
        | (go_simp; go_at_call 44; refine armC.mono ?_; rintro e w4 ⟨v4, rfl, o4, b4⟩; obtain ⟨A4, c4, rfl, hr4, _, hm4, _⟩ := o4.form; have hc4 := hC4 w4 b4; have hc4' := hc4.1; have hc4a := hc4.2; dsimp only))
    all_goals
      have o5' : OwV tChg 4 0 w5 (.slice A5 (e0.f.chs.length + 1) c5) (e0.f.chs.length + 1) (vs ++ [.bool false, .int .i64 0, .int .i64 (n : Int), .slice A4 b.length c4]) := by rw [hrow] at o5; exact o5
      have hfin := wrote_some H.out he B1.out.size B2.out O2.out (HK3.out.trans (Keeps.drew _ _)) ⟨_, HF3.out.drew⟩ b4 o4 HCR.out HO.out o5' g5 hc5.2 (by omega) (by rw [layF_length _ _ _ (by omega)]; omega)
      have hst := store_same hfin.2.2.1 H.out.diff hks he
      have cD6 := hfin.1.disk.cell 1
      simp only [List.getElem?_toArray, List.getElem?_cons_succ, List.getElem?_cons_zero] at cD6
      have HFIN := Lib.hid hfin
      clear hfin o5 o5' g5 hc5 hfz5 hc5' hc4 hc4' hc4a o4 b4 hP hC4 hC5 hone armC hc33 hc3d hfz hce
      go_wp2_with (at_mapUpdate; refine wpList_storeE rfl _ _ _ tMap rfl _ _ _ _ rfl rfl rfl hst ?_)
      go_ret
      exact ⟨_, rfl, ⟨M, clock, _, HFIN.out.1, HFIN.out.2.2.2.symm⟩, HFIN.out.2.1, fun i hi => hi.imp id (fun h => h.1)⟩
  · have hm' : ¬ (e0.f.now.length : Int) < (n : Int) + (b.length : Int) := by omega
    have hbig : ¬ 262144 < e0.f.now.length + (n + b.length - e0.f.now.length) := by omega
    have hbig' : decide (262144 < (e0.f.now.length : Int)) = false := by simp; omega
    rw [if_neg hbig] at hR
    have HR' := Lib.hid hR
    clear hR
    go_wp2_with (at_lookup; refine wpList_lookE rfl _ _ tMap true rfl _ _ _ rfl rfl hlk ?_)
    have hwrp : IntKind.i64.wrap (usedE ents : Int) = (usedE ents : Int) := by
      unfold IntKind.wrap
      simp [IntKind.signed, IntKind.bits]
      omega
    have hst : DiskAt F w.drew d M clock room ents := H.out.out (Keeps.drew (fun _ => False) w) (fun _ _ => id)
    have hst1 : ∀ w1, Below w.drew.heap.size w.drew w1 → w1.cell? ⟨d, 0, none⟩ = some (.int .i64 room) := fun w1 k => ((H.out.disk.drew.below k).cell 0).trans rfl
    go_region_held3 (fun W => W.cell? ⟨d, 0, none⟩ = some (.int .i64 room)) (first | assumption)
      (first | (go_at_call 42; refine (Used_any _ hst).mono ?_; rintro e w1 ⟨rfl, b1⟩; have cD1 := hst1 w1 b1))
    have B1 := Lib.hid ((Below.refl w.heap.size w).drew.trans b1)
    clear b1 hst hst1
    by_cases hfull : room < (usedE ents : Int) + ((n + b.length - e0.f.now.length : Nat) : Int)
    · have hfull' : decide (room < (usedE ents : Int)) = true := by simp; omega
      have hR := HR'.out
      rw [if_pos hfull] at hR
      subst hR
      go_wp2
      go_ret
      exact H.out.post B1.out _
    have hfull' : decide (room < (usedE ents : Int)) = false := by simp; omega
    have hR := HR'.out
    rw [if_neg hfull] at hR
    clear HR'
    subst hR
    have hcF : w1.cell? ⟨e0.blk, 0, none⟩ = some (.slice A e0.f.now.length c) := ((HF.out.below B1.out).cell 0).trans (by simp [ev])
    go_wp2_with fail
    refine (lay_any A B c cb e0.f.now b n w1 (by omega) hb hcb hcm (by omega) (HR.out.below B1.out) (HB.out.below B1.out)).mono ?_
    rintro e w2 ⟨v2, rfl, o2, b2⟩
    have B2 := Lib.hid (B1.out.trans (b2.mono B1.out.size))
    obtain ⟨A2, c2, rfl, _, hc2, hm2, _⟩ := o2.form
    have O2 := Lib.hid o2
    clear o2 b2 hcF cD1
    have hf2 : Blk w2 e0.blk #[e0.nowV, e0.sureV, .bool e0.f.lasts, e0.chgV] tFile := HF.out.below B2.out
    have hfz : w2.frozen? ⟨e0.blk, 0, none⟩ = false := hf2.frozen 0
    have hce : w2.cell? ⟨e0.blk, 0, none⟩ = some (.slice A e0.f.now.length c) := (hf2.cell 0).trans (by simp [ev])
    have HF2 := Lib.hid hf2
    clear hf2
    go_wp2_with fail
    have hf3 := HF2.out.set 0 (.slice A2 (layF e0.f.now n b).length c2)
    simp only [List.setIfInBounds_toArray, List.set_cons_zero] at hf3
    have hc33 := hf3.cell 3
    simp only [List.getElem?_toArray, List.getElem?_cons_succ, List.getElem?_cons_zero] at hc33
    have HF3 := Lib.hid hf3
    clear hf3
    have hk3 : Keeps (· = e0.blk) w2 (w2.setCell ⟨e0.blk, 0, none⟩ (.slice A2 (layF e0.f.now n b).length c2)) := Keeps.setCell w2 ⟨e0.blk, 0, none⟩ _ (.inl rfl)
    generalize hw3 : w2.setCell ⟨e0.blk, 0, none⟩ (.slice A2 (layF e0.f.now n b).length c2) = w3 at *
    have HK3 := Lib.hid hk3
    have hsz3 : w3.drew.heap.size = w2.heap.size := by rw [← hw3]; simp [World.setCell]
    have hB3 : RdB w3.drew B b := ((HB.out.below B2.out).keeps (HK3.out.trans (Keeps.drew _ _)) (fun h0 ad ea e => hBF h0 ad ea (e ▸ (H.out.file e0 he).inF)))
    have armC := clone_any B cb b w3.drew (by omega) hB3
    have hex := (H.out.file e0 he).chg
    obtain ⟨vs, ho, hcr⟩ := hex
    have ho3 : w3.drew.ownsRow 0 tChg 4 e0.chgV e0.f.chs.length vs := ownsRow_keeps (S := (· = e0.blk)) ((ownsRow_keeps (S := fun _ => False) ho (Keeps.of_new B2.out) (fun _ _ => id))) (HK3.out.trans (Keeps.drew _ _)) (fun i hi e => by
      obtain ⟨cur, hb⟩ := owns_type ho hi
      exact (hb.type (H.out.file e0 he).blk (by decide)) e)
    have HO3 := Lib.hid ho3
    have HCR := Lib.hid hcr
    have HO := Lib.hid ho
    clear hk3 hw3 hB3 ho3 hcr ho
    have hc3d : w3.drew.cell? ⟨e0.blk, 3, none⟩ = some e0.chgV := hc33
    have hC4 : ∀ w4 : World, Below w3.drew.heap.size w3.drew w4 → w4.cell? ⟨e0.blk, 3, none⟩ = some e0.chgV ∧ ∀ o, (w4.alloc o).cell? ⟨e0.blk, 3, none⟩ = some e0.chgV := fun w4 b4 =>
      ⟨((HF3.out.drew.below b4).cell 3).trans rfl, fun o => ((((HF3.out.drew.below b4).alloc o)).cell 3).trans rfl⟩
    obtain ⟨row, hrow⟩ : ∃ row : Option Addr → Nat → List Value, row = fun A4 c4 => [.bool false, .int .i64 0, .int .i64 (n : Int), .slice A4 b.length c4] := ⟨_, rfl⟩
    have hP : ∀ (w4 : World) (A4 : Option Addr) (c4 : Nat), Below w3.drew.heap.size w3.drew w4 → OwV tChg 4 0 (w4.alloc (.cells #[.bool false, .int .i64 0, .int .i64 (n : Int), .slice A4 b.length c4] tChg)) e0.chgV e0.f.chs.length vs ∧
        RdV (w4.alloc (.cells #[.bool false, .int .i64 0, .int .i64 (n : Int), .slice A4 b.length c4] tChg)) (some ⟨w4.heap.size, 0, none⟩) (row A4 c4) := fun w4 A4 c4 b4 =>
      ⟨.inl (ownsRow_keeps (S := fun _ => False) HO3.out (Keeps.of_new (b4.alloc b4.size _)) (fun _ _ => id)), RdV.of_cells fun j v hv => by
        rw [own_zero_add, (Blk.new w4 _ tChg).cell j]
        rw [hrow] at hv
        simpa using hv⟩
    have hone : ∀ A4 c4, (row A4 c4).length = 1 * 4 ∧ ∀ u ∈ row A4 c4, u.oneCell' = true := fun A4 c4 => by
      rw [hrow]
      refine ⟨rfl, fun u hu => ?_⟩
      simp at hu
      rcases hu with rfl | rfl | rfl | rfl <;> rfl
    have hl1 : (e0.f.chs.length + 1) * 48 ≤ 140737488355328 := by omega
    have hl2 : e0.f.chs.length + 1 ≤ 140737488355328 := by omega
    have hC5 : ∀ (w4 w5 : World) (v5 : Value) (o : Obj), Below w3.drew.heap.size w3.drew w4 → Grow 0 (w4.alloc o) e0.chgV w5 v5 → w5.cell? ⟨e0.blk, 3, none⟩ = some e0.chgV ∧ Blk w5 e0.blk #[.slice A2 (layF e0.f.now n b).length c2, e0.sureV, .bool e0.f.lasts, e0.chgV] tFile := fun w4 w5 v5 o b4 g5 => by
      have hb5 : Blk w5 e0.blk #[.slice A2 (layF e0.f.now n b).length c2, e0.sureV, .bool e0.f.lasts, e0.chgV] tFile := ((HF3.out.drew.below b4).alloc o).keeps g5.keeps (fun e => by
        obtain ⟨cur, hb⟩ := owns_type HO3.out e.2
        exact (hb.type HF3.out.drew (by decide)) rfl)
      exact ⟨(hb5.cell 3).trans rfl, hb5⟩
    go_region_law
      (first
        | (refine step_appV tyChg 0 rfl (.tmp 95) (.tmp 100) rfl e0.chgV _ 1 vs (row A4 c4) _ 1 rfl rfl (hP w4 A4 c4 b4).1 (hP w4 A4 c4 b4).2 (hone A4 c4).1 (hone A4 c4).2 hl1 hl2 (Nat.zero_le _) ?_; intro v5 w5 o5 g5; obtain ⟨A5, c5, rfl, _, _, _, hm5, _⟩ := o5.form; have hc5 := hC5 w4 w5 _ _ b4 g5; have hfz5 := hc5.2.frozen 3; have hc5' := hc5.1)
        | (go_simp; go_at_call 44; refine armC.mono ?_; rintro e w4 ⟨v4, rfl, o4, b4⟩; obtain ⟨A4, c4, rfl, hr4, _, hm4, _⟩ := o4.form; have hc4 := hC4 w4 b4; have hc4' := hc4.1; have hc4a := hc4.2; dsimp only))
    all_goals
      have o5' : OwV tChg 4 0 w5 (.slice A5 (e0.f.chs.length + 1) c5) (e0.f.chs.length + 1) (vs ++ [.bool false, .int .i64 0, .int .i64 (n : Int), .slice A4 b.length c4]) := by rw [hrow] at o5; exact o5
      have hfin := wrote_some H.out he B1.out.size B2.out O2.out (HK3.out.trans (Keeps.drew _ _)) ⟨_, HF3.out.drew⟩ b4 o4 HCR.out HO.out o5' g5 hc5.2 (by omega) (by rw [layF_length _ _ _ (by omega)]; omega)
      have hst := store_same hfin.2.2.1 H.out.diff hks he
      have cD6 := hfin.1.disk.cell 1
      simp only [List.getElem?_toArray, List.getElem?_cons_succ, List.getElem?_cons_zero] at cD6
      have HFIN := Lib.hid hfin
      clear hfin o5 o5' g5 hc5 hfz5 hc5' hc4 hc4' hc4a o4 b4 hP hC4 hC5 hone armC hc33 hc3d hfz hce
      go_wp2_with (at_mapUpdate; refine wpList_storeE rfl _ _ _ tMap rfl _ _ _ _ rfl rfl rfl hst ?_)
      go_ret
      exact ⟨_, rfl, ⟨M, clock, _, HFIN.out.1, HFIN.out.2.2.2.symm⟩, HFIN.out.2.1, fun i hi => hi.imp id (fun h => h.1)⟩
end
end Go.Proofs.Ytapgknaoieojkaa.Toll
