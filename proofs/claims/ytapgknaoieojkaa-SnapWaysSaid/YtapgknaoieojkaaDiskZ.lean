/- Walk: disk.Write of a new file. -/
import Derived.Test.YtapgknaoieojkaaDiskW
set_option linter.unusedVariables false
set_option linter.unusedSimpArgs false
set_option maxRecDepth 100000
namespace Go.Proofs.Ytapgknaoieojkaa.Toll
open Go.RowKit
open Go.ChangeMaps (setBlock)
section
variable {F : Nat → Prop} {d M clock : Nat} {room : Int} {ents : List Ent}
set_option maxHeartbeats 4000000 in
theorem Write_none (w : World) (h : DiskAt F w d M clock room ents) (k : ByteArray) (hnk : ∀ e ∈ ents, e.key ≠ k) (at_ : Int) (B : Option Addr) (cb : Nat) (b : List UInt8) (hat : at_ ≤ 9223372036854775807) (hat' : -9223372036854775808 ≤ at_)
    (hb : b.length ≤ 4294967296) (hcb : b.length ≤ cb) (hcm : cb ≤ 9223372036854775807) (hB : RdB w B b) (hn : namedF k = true) :
    Calls Try.prog 18 #[.pointer (some ⟨d, 0, none⟩), .string k, .int .i64 at_, .slice B b.length cb] w (DiskPost F w d room (.int .i64 (writeF room (ents.map Ent.abs) k at_ b).1) (writeF room (ents.map Ent.abs) k at_ b).2) := by
  have H := Lib.hid h
  have HB := Lib.hid hB
  have hsz : k.size ≤ 64 := by
    simp only [namedF, Bool.and_eq_true, decide_eq_true_eq] at hn
    exact hn.1.2
  have hks : ∀ e ∈ ents, e.key.size ≤ maxLen := fun e he => Nat.le_trans (h.keys e he) (by decide)
  have cD := h.disk.cell 1
  simp only [List.getElem?_toArray, List.getElem?_cons_succ, List.getElem?_cons_zero] at cD
  have hlk := look_none h.map hks (Nat.le_trans hsz (by decide)) hnk
  have hget := getF_no hnk
  have hr0 := h.room0
  have hrM := h.roomM
  have hsm := h.small
  have hus : usedE ents ≤ 4194304 := by have := used_le h.file; have := h.small; omega
  have hlen : ∀ ty o, (Builtin.len_ #[tMap] ty #[.map (some M)]).run Try.prog (w.alloc o) = .ok (.int .i64 (ents.length : Int)) (w.alloc o) := fun ty o => by
    have hm : (w.alloc o).heap[M]? = some (.map (esOf ents) clock) := (Below.heap_alloc w o M (h.lt M h.mF)).trans h.map
    simp [Builtin.len_, Builtin.lenOf, MapKept.run_getObj_map hm, esOf, Result.andThen]
    rfl
  clear h hB
  generalize hwr : writeF room (ents.map Ent.abs) k at_ b = R
  have hwr' : writeF room (ents.map Ent.abs) k at_ b = (if at_ < 0 ∨ 0 < at_ then (2, ents.map Ent.abs) else if 16 ≤ ents.length ∨ 262144 < at_.toNat + b.length then (6, ents.map Ent.abs)
    else if room < (usedE ents : Int) + ((at_.toNat + b.length : Nat) : Int) then (9, ents.map Ent.abs) else (0, putF (ents.map Ent.abs) k (wroteF noFile at_.toNat b))) := by
    unfold writeF
    rw [if_neg (by simp [hn]), hget, usedE_abs]
    simp [noFile]
  rw [hwr] at hwr'
  have HW := Lib.hid hwr'
  clear hwr hwr' hget
  go_enter Try.func18, Try.ntmps18
  go_wp2_with fail
  refine (named_any k _ (by omega)).mono ?_
  rintro e w' ⟨rfl, rfl⟩
  rw [hn]
  have cDa : ∀ o, (w.alloc o).cell? ⟨d, 1, none⟩ = some (.map (some M)) := fun o => ((H.out.disk.alloc o).cell 1).trans rfl
  by_cases h0 : at_ < 0
  · have h0' : decide (at_ < 0) = true := by simp [h0]
    have hR : R = (2, ents.map Ent.abs) := by rw [HW.out, if_pos (.inl h0)]
    subst hR
    go_wp2_with (at_lookup; refine wpList_lookE rfl _ _ tMap true rfl _ _ _ rfl rfl hlk ?_)
    go_ret
    exact H.out.post ((Below.refl _ _).alloc (Nat.le_refl _) _) _
  have h0' : decide (at_ < 0) = false := by simp; omega
  by_cases h1 : 0 < at_
  · have h1' : decide (0 < at_) = true := by simp; omega
    have hR : R = (2, ents.map Ent.abs) := by rw [HW.out, if_pos (.inr h1)]
    subst hR
    go_wp2_with (at_lookup; refine wpList_lookE rfl _ _ tMap true rfl _ _ _ rfl rfl hlk ?_)
    go_ret
    exact H.out.post ((Below.refl _ _).alloc (Nat.le_refl _) _) _
  obtain rfl : at_ = 0 := by omega
  clear h0 h1 h0' hat hat'
  by_cases hfl : 16 ≤ ents.length
  · have hfl' : decide (16 ≤ (ents.length : Int)) = true := by simp; omega
    have hR : R = (6, ents.map Ent.abs) := by rw [HW.out, if_neg (by omega), if_pos (.inl hfl)]
    subst hR
    by_cases hm : 0 < b.length
    · have hm' : (0 : Int) < (b.length : Int) := by omega
      go_wp2_with (at_lookup; refine wpList_lookE rfl _ _ tMap true rfl _ _ _ rfl rfl hlk ?_)
      go_ret
      exact H.out.post ((Below.refl _ _).alloc (Nat.le_refl _) _) _
    · have hm' : ¬ (0 : Int) < (b.length : Int) := by omega
      go_wp2_with (at_lookup; refine wpList_lookE rfl _ _ tMap true rfl _ _ _ rfl rfl hlk ?_)
      go_ret
      exact H.out.post ((Below.refl _ _).alloc (Nat.le_refl _) _) _
  have hfl' : decide (16 ≤ (ents.length : Int)) = false := by simp; omega
  by_cases hm : 0 < b.length
  · have hm' : (0 : Int) < (b.length : Int) := by omega
    by_cases hbig : 262144 < b.length
    · have hbig' : decide (262144 < (b.length : Int)) = true := by simp; omega
      have hR := HW.out
      rw [if_neg (by omega), if_pos (.inr (by simpa using hbig))] at hR
      subst hR
      go_wp2_with (at_lookup; refine wpList_lookE rfl _ _ tMap true rfl _ _ _ rfl rfl hlk ?_)
      go_ret
      exact H.out.post ((Below.refl _ _).alloc (Nat.le_refl _) _) _
    have hbig' : decide (262144 < (b.length : Int)) = false := by simp; omega
    have hR := HW.out
    rw [if_neg (by omega), if_neg (by simp; omega)] at hR
    simp only [Int.toNat_zero, Nat.zero_add, List.length_nil, Nat.sub_zero, noFile] at hR
    have HR' := Lib.hid hR
    clear hR
    go_wp2_with (at_lookup; refine wpList_lookE rfl _ _ tMap true rfl _ _ _ rfl rfl hlk ?_)
    have hwrp : IntKind.i64.wrap ((usedE ents : Int) + (b.length : Int)) = (usedE ents : Int) + (b.length : Int) := by
      unfold IntKind.wrap
      simp [IntKind.signed, IntKind.bits]
      omega
    have hf0 := Blk.new w #[.slice none 0 0, .slice none 0 0, .bool false, .slice none 0 0] tFile
    have hb0 : Below w.heap.size w (w.alloc (.cells #[.slice none 0 0, .slice none 0 0, .bool false, .slice none 0 0] tFile)) := (Below.refl _ _).alloc (Nat.le_refl _) _
    generalize w.alloc (.cells #[.slice none 0 0, .slice none 0 0, .bool false, .slice none 0 0] tFile) = w0 at *
    have HF := Lib.hid hf0
    have HB0 := Lib.hid hb0
    clear hf0 hb0 hlen cDa
    have cD0 : w0.drew.cell? ⟨d, 0, none⟩ = some (.int .i64 room) := ((H.out.disk.below HB0.out).cell 0).trans rfl
    have hst : DiskAt F w0.drew d M clock room ents := H.out.out ((Keeps.of_new (S := fun _ => False) HB0.out).trans (Keeps.drew _ _)) (fun _ _ => id)
    have hst1 : ∀ w1, Below w0.drew.heap.size w0.drew w1 → w1.cell? ⟨d, 0, none⟩ = some (.int .i64 room) := fun w1 k => (((H.out.disk.below HB0.out).drew.below k).cell 0).trans rfl
    go_region_held3 (fun W => W.cell? ⟨d, 0, none⟩ = some (.int .i64 room)) (first | assumption)
      (first | (go_at_call 42; refine (Used_any _ hst).mono ?_; rintro e w1 ⟨rfl, b1⟩; have cD1 := hst1 w1 b1))
    have B1' := Lib.hid ((Below.refl w0.heap.size w0).drew.trans b1)
    have B1 := Lib.hid ((HB0.out.drew).trans (b1.mono HB0.out.size))
    clear b1 hst hst1
    by_cases hfull : room < (usedE ents : Int) + (b.length : Int)
    · have hfull' : decide (room < (usedE ents : Int) + (b.length : Int)) = true := by simp; omega
      have hR := HR'.out
      rw [if_pos hfull] at hR
      subst hR
      go_wp2
      go_ret
      exact H.out.post B1.out _
    have hfull' : decide (room < (usedE ents : Int) + (b.length : Int)) = false := by simp; omega
    have hR := HR'.out
    rw [if_neg hfull] at hR
    clear HR'
    subst hR
    have hcF : w1.cell? ⟨w.heap.size, 0, none⟩ = some (.slice none 0 0) := ((HF.out.below B1'.out).cell 0).trans rfl
    go_wp2_with fail
    refine (lay_any none B 0 cb [] b 0 w1 (by simp) hb hcb hcm (by simp) (RdB.nil _ _) (HB.out.below B1.out)).mono ?_
    rintro e w2 ⟨v2, rfl, o2, b2⟩
    have B2 := Lib.hid (B1.out.trans (b2.mono B1.out.size))
    rw [show layF [] 0 b = b by simp [layF]] at o2
    obtain ⟨A2, c2, rfl, _, hc2, hm2, _⟩ := o2.form
    have B2' := Lib.hid (B1'.out.trans (b2.mono B1'.out.size))
    have O2 := Lib.hid o2
    clear o2 b2 hcF cD1
    have hf2 : Blk w2 w.heap.size #[.slice none 0 0, .slice none 0 0, .bool false, .slice none 0 0] tFile := HF.out.below B2'.out
    have hfz : w2.frozen? ⟨w.heap.size, 0, none⟩ = false := hf2.frozen 0
    have hce : w2.cell? ⟨w.heap.size, 0, none⟩ = some (.slice none 0 0) := (hf2.cell 0).trans rfl
    have HF2 := Lib.hid hf2
    clear hf2
    go_wp2_with fail
    have hf3 := HF2.out.set 0 (.slice A2 b.length c2)
    simp only [List.setIfInBounds_toArray, List.set_cons_zero] at hf3
    have hc33 := hf3.cell 3
    simp only [List.getElem?_toArray, List.getElem?_cons_succ, List.getElem?_cons_zero] at hc33
    have HF3 := Lib.hid hf3
    clear hf3
    have hk3 : Keeps (· = w.heap.size) w2 (w2.setCell ⟨w.heap.size, 0, none⟩ (.slice A2 b.length c2)) := Keeps.setCell w2 ⟨w.heap.size, 0, none⟩ _ (.inl rfl)
    generalize hw3 : w2.setCell ⟨w.heap.size, 0, none⟩ (.slice A2 b.length c2) = w3 at *
    have HK3 := Lib.hid hk3
    have hsz3 : w3.drew.heap.size = w2.heap.size := by rw [← hw3]; simp [World.setCell]
    have hB3 : RdB w3.drew B b := ((HB.out.below B2.out).keeps (HK3.out.trans (Keeps.drew _ _)) (fun h0 ad ea e => by have := HB.out.lt h0 ea; omega))
    have armC := clone_any B cb b w3.drew (by omega) hB3
    clear hk3 hw3 hB3
    have hc3d : w3.drew.cell? ⟨w.heap.size, 3, none⟩ = some (.slice none 0 0) := hc33
    have hC4 : ∀ w4 : World, Below w3.drew.heap.size w3.drew w4 → w4.cell? ⟨w.heap.size, 3, none⟩ = some (.slice none 0 0) ∧ ∀ o, (w4.alloc o).cell? ⟨w.heap.size, 3, none⟩ = some (.slice none 0 0) := fun w4 b4 =>
      ⟨((HF3.out.drew.below b4).cell 3).trans rfl, fun o => ((((HF3.out.drew.below b4).alloc o)).cell 3).trans rfl⟩
    obtain ⟨row, hrow⟩ : ∃ row : Option Addr → Nat → List Value, row = fun A4 c4 => [.bool false, .int .i64 0, .int .i64 0, .slice A4 b.length c4] := ⟨_, rfl⟩
    have hP : ∀ (w4 : World) (A4 : Option Addr) (c4 : Nat), Below w3.drew.heap.size w3.drew w4 → OwV tChg 4 0 (w4.alloc (.cells #[.bool false, .int .i64 0, .int .i64 0, .slice A4 b.length c4] tChg)) (.slice none 0 0) 0 [] ∧
        RdV (w4.alloc (.cells #[.bool false, .int .i64 0, .int .i64 0, .slice A4 b.length c4] tChg)) (some ⟨w4.heap.size, 0, none⟩) (row A4 c4) := fun w4 A4 c4 b4 =>
      ⟨OwV.nil _ _ _ _, RdV.of_cells fun j v hv => by
        rw [own_zero_add, (Blk.new w4 _ tChg).cell j]
        rw [hrow] at hv
        simpa using hv⟩
    have hone : ∀ A4 c4, (row A4 c4).length = 1 * 4 ∧ ∀ u ∈ row A4 c4, u.oneCell' = true := fun A4 c4 => by
      rw [hrow]
      refine ⟨rfl, fun u hu => ?_⟩
      simp at hu
      rcases hu with rfl | rfl | rfl | rfl <;> rfl
    have hl1 : (0 + 1) * 48 ≤ 140737488355328 := by omega
    have hl2 : 0 + 1 ≤ 140737488355328 := by omega
    have hC5 : ∀ (w4 w5 : World) (v5 : Value) (o : Obj), Below w3.drew.heap.size w3.drew w4 → Grow 0 (w4.alloc o) (.slice none 0 0) w5 v5 → w5.cell? ⟨w.heap.size, 3, none⟩ = some (.slice none 0 0) ∧ Blk w5 w.heap.size #[.slice A2 b.length c2, (.slice none 0 0), .bool false, (.slice none 0 0)] tFile := fun w4 w5 v5 o b4 g5 => by
      have hb5 : Blk w5 w.heap.size #[.slice A2 b.length c2, (.slice none 0 0), .bool false, (.slice none 0 0)] tFile := ((HF3.out.drew.below b4).alloc o).keeps g5.keeps (fun e => by simp [Value.ownBlock] at e)
      exact ⟨(hb5.cell 3).trans rfl, hb5⟩
    go_region_law
      (first
        | (refine step_appV tyChg 0 rfl (.tmp 95) (.tmp 100) rfl (.slice none 0 0) 0 1 [] (row A4 c4) _ 1 rfl rfl (hP w4 A4 c4 b4).1 (hP w4 A4 c4 b4).2 (hone A4 c4).1 (hone A4 c4).2 hl1 hl2 (Nat.zero_le _) ?_; intro v5 w5 o5 g5; obtain ⟨A5, c5, rfl, _, _, _, hm5, _⟩ := o5.form; have hc5 := hC5 w4 w5 _ _ b4 g5; have hfz5 := hc5.2.frozen 3; have hc5' := hc5.1)
        | (go_simp; go_at_call 44; refine armC.mono ?_; rintro e w4 ⟨v4, rfl, o4, b4⟩; obtain ⟨A4, c4, rfl, hr4, _, hm4, _⟩ := o4.form; have hc4 := hC4 w4 b4; have hc4' := hc4.1; have hc4a := hc4.2; dsimp only))
    all_goals
      have o5' : OwV tChg 4 0 w5 (.slice A5 1 c5) 1 ([.bool false, .int .i64 0, .int .i64 0, .slice A4 b.length c4]) := by rw [hrow] at o5; exact o5
      obtain ⟨x, hxk, hxb, hxn, hm6, hpf, hkf, hfin⟩ := wrote_none H.out hnk hsz (by omega) (Nat.le_refl _) B1.out.size B2.out ⟨_, HF2.out⟩ O2.out (HK3.out.trans (Keeps.drew _ _)) ⟨_, HF3.out.drew⟩ b4 o4 o5' g5 hc5.2 (by omega)
      have hst := store_none hm6 hks (Nat.le_trans hsz (by decide)) hnk x hxk hxn
      rw [hxb] at hst
      have HPF := Lib.hid hpf
      have HKF := Lib.hid hkf
      have cD6 : (w5.setCell ⟨w.heap.size, 3, none⟩ (.slice A5 1 c5)).cell? ⟨d, 1, none⟩ = some (.map (some M)) := ((wrote_disk H.out B2.out (HK3.out.trans (Keeps.drew _ _)) b4 g5 _).cell 1).trans rfl
      have HFIN := Lib.hid hfin
      clear hfin hpf hkf hm6 o5 o5' g5 hc5 hfz5 hc5' hc4 hc4' hc4a o4 b4 hP hC4 hC5 hone armC hc33 hc3d hfz hce hxk hxb hxn
      go_wp2_with (at_mapUpdate; refine wpList_storeE rfl _ _ _ tMap rfl _ _ _ _ rfl rfl rfl hst ?_)
      go_ret
      exact ⟨_, rfl, ⟨M, clock + 1, _, HFIN.out, HPF.out.symm⟩, HKF.out, fun i hi => hi.imp id (fun h => h.1)⟩
  · have hm' : ¬ (0 : Int) < (b.length : Int) := by omega
    have hR := HW.out
    rw [if_neg (by omega), if_neg (by simp; omega)] at hR
    simp only [Int.toNat_zero, Nat.zero_add, List.length_nil, Nat.sub_zero, noFile] at hR
    have HR' := Lib.hid hR
    clear hR
    go_wp2_with (at_lookup; refine wpList_lookE rfl _ _ tMap true rfl _ _ _ rfl rfl hlk ?_)
    have hwrp : IntKind.i64.wrap ((usedE ents : Int)) = (usedE ents : Int) := by
      unfold IntKind.wrap
      simp [IntKind.signed, IntKind.bits]
      omega
    have hf0 := Blk.new w #[.slice none 0 0, .slice none 0 0, .bool false, .slice none 0 0] tFile
    have hb0 : Below w.heap.size w (w.alloc (.cells #[.slice none 0 0, .slice none 0 0, .bool false, .slice none 0 0] tFile)) := (Below.refl _ _).alloc (Nat.le_refl _) _
    generalize w.alloc (.cells #[.slice none 0 0, .slice none 0 0, .bool false, .slice none 0 0] tFile) = w0 at *
    have HF := Lib.hid hf0
    have HB0 := Lib.hid hb0
    clear hf0 hb0 hlen cDa
    have cD0 : w0.drew.cell? ⟨d, 0, none⟩ = some (.int .i64 room) := ((H.out.disk.below HB0.out).cell 0).trans rfl
    have hst : DiskAt F w0.drew d M clock room ents := H.out.out ((Keeps.of_new (S := fun _ => False) HB0.out).trans (Keeps.drew _ _)) (fun _ _ => id)
    have hst1 : ∀ w1, Below w0.drew.heap.size w0.drew w1 → w1.cell? ⟨d, 0, none⟩ = some (.int .i64 room) := fun w1 k => (((H.out.disk.below HB0.out).drew.below k).cell 0).trans rfl
    go_region_held3 (fun W => W.cell? ⟨d, 0, none⟩ = some (.int .i64 room)) (first | assumption)
      (first | (go_at_call 42; refine (Used_any _ hst).mono ?_; rintro e w1 ⟨rfl, b1⟩; have cD1 := hst1 w1 b1))
    have B1' := Lib.hid ((Below.refl w0.heap.size w0).drew.trans b1)
    have B1 := Lib.hid ((HB0.out.drew).trans (b1.mono HB0.out.size))
    clear b1 hst hst1
    by_cases hfull : room < (usedE ents : Int) + (b.length : Int)
    · have hfull' : decide (room < (usedE ents : Int)) = true := by simp; omega
      have hR := HR'.out
      rw [if_pos hfull] at hR
      subst hR
      go_wp2
      go_ret
      exact H.out.post B1.out _
    have hfull' : decide (room < (usedE ents : Int)) = false := by simp; omega
    have hR := HR'.out
    rw [if_neg hfull] at hR
    clear HR'
    subst hR
    have hcF : w1.cell? ⟨w.heap.size, 0, none⟩ = some (.slice none 0 0) := ((HF.out.below B1'.out).cell 0).trans rfl
    go_wp2_with fail
    refine (lay_any none B 0 cb [] b 0 w1 (by simp) hb hcb hcm (by simp) (RdB.nil _ _) (HB.out.below B1.out)).mono ?_
    rintro e w2 ⟨v2, rfl, o2, b2⟩
    have B2 := Lib.hid (B1.out.trans (b2.mono B1.out.size))
    rw [show layF [] 0 b = b by simp [layF]] at o2
    obtain ⟨A2, c2, rfl, _, hc2, hm2, _⟩ := o2.form
    have B2' := Lib.hid (B1'.out.trans (b2.mono B1'.out.size))
    have O2 := Lib.hid o2
    clear o2 b2 hcF cD1
    have hf2 : Blk w2 w.heap.size #[.slice none 0 0, .slice none 0 0, .bool false, .slice none 0 0] tFile := HF.out.below B2'.out
    have hfz : w2.frozen? ⟨w.heap.size, 0, none⟩ = false := hf2.frozen 0
    have hce : w2.cell? ⟨w.heap.size, 0, none⟩ = some (.slice none 0 0) := (hf2.cell 0).trans rfl
    have HF2 := Lib.hid hf2
    clear hf2
    go_wp2_with fail
    have hf3 := HF2.out.set 0 (.slice A2 b.length c2)
    simp only [List.setIfInBounds_toArray, List.set_cons_zero] at hf3
    have hc33 := hf3.cell 3
    simp only [List.getElem?_toArray, List.getElem?_cons_succ, List.getElem?_cons_zero] at hc33
    have HF3 := Lib.hid hf3
    clear hf3
    have hk3 : Keeps (· = w.heap.size) w2 (w2.setCell ⟨w.heap.size, 0, none⟩ (.slice A2 b.length c2)) := Keeps.setCell w2 ⟨w.heap.size, 0, none⟩ _ (.inl rfl)
    generalize hw3 : w2.setCell ⟨w.heap.size, 0, none⟩ (.slice A2 b.length c2) = w3 at *
    have HK3 := Lib.hid hk3
    have hsz3 : w3.drew.heap.size = w2.heap.size := by rw [← hw3]; simp [World.setCell]
    have hB3 : RdB w3.drew B b := ((HB.out.below B2.out).keeps (HK3.out.trans (Keeps.drew _ _)) (fun h0 ad ea e => by have := HB.out.lt h0 ea; omega))
    have armC := clone_any B cb b w3.drew (by omega) hB3
    clear hk3 hw3 hB3
    have hc3d : w3.drew.cell? ⟨w.heap.size, 3, none⟩ = some (.slice none 0 0) := hc33
    have hC4 : ∀ w4 : World, Below w3.drew.heap.size w3.drew w4 → w4.cell? ⟨w.heap.size, 3, none⟩ = some (.slice none 0 0) ∧ ∀ o, (w4.alloc o).cell? ⟨w.heap.size, 3, none⟩ = some (.slice none 0 0) := fun w4 b4 =>
      ⟨((HF3.out.drew.below b4).cell 3).trans rfl, fun o => ((((HF3.out.drew.below b4).alloc o)).cell 3).trans rfl⟩
    obtain ⟨row, hrow⟩ : ∃ row : Option Addr → Nat → List Value, row = fun A4 c4 => [.bool false, .int .i64 0, .int .i64 0, .slice A4 b.length c4] := ⟨_, rfl⟩
    have hP : ∀ (w4 : World) (A4 : Option Addr) (c4 : Nat), Below w3.drew.heap.size w3.drew w4 → OwV tChg 4 0 (w4.alloc (.cells #[.bool false, .int .i64 0, .int .i64 0, .slice A4 b.length c4] tChg)) (.slice none 0 0) 0 [] ∧
        RdV (w4.alloc (.cells #[.bool false, .int .i64 0, .int .i64 0, .slice A4 b.length c4] tChg)) (some ⟨w4.heap.size, 0, none⟩) (row A4 c4) := fun w4 A4 c4 b4 =>
      ⟨OwV.nil _ _ _ _, RdV.of_cells fun j v hv => by
        rw [own_zero_add, (Blk.new w4 _ tChg).cell j]
        rw [hrow] at hv
        simpa using hv⟩
    have hone : ∀ A4 c4, (row A4 c4).length = 1 * 4 ∧ ∀ u ∈ row A4 c4, u.oneCell' = true := fun A4 c4 => by
      rw [hrow]
      refine ⟨rfl, fun u hu => ?_⟩
      simp at hu
      rcases hu with rfl | rfl | rfl | rfl <;> rfl
    have hl1 : (0 + 1) * 48 ≤ 140737488355328 := by omega
    have hl2 : 0 + 1 ≤ 140737488355328 := by omega
    have hC5 : ∀ (w4 w5 : World) (v5 : Value) (o : Obj), Below w3.drew.heap.size w3.drew w4 → Grow 0 (w4.alloc o) (.slice none 0 0) w5 v5 → w5.cell? ⟨w.heap.size, 3, none⟩ = some (.slice none 0 0) ∧ Blk w5 w.heap.size #[.slice A2 b.length c2, (.slice none 0 0), .bool false, (.slice none 0 0)] tFile := fun w4 w5 v5 o b4 g5 => by
      have hb5 : Blk w5 w.heap.size #[.slice A2 b.length c2, (.slice none 0 0), .bool false, (.slice none 0 0)] tFile := ((HF3.out.drew.below b4).alloc o).keeps g5.keeps (fun e => by simp [Value.ownBlock] at e)
      exact ⟨(hb5.cell 3).trans rfl, hb5⟩
    go_region_law
      (first
        | (refine step_appV tyChg 0 rfl (.tmp 95) (.tmp 100) rfl (.slice none 0 0) 0 1 [] (row A4 c4) _ 1 rfl rfl (hP w4 A4 c4 b4).1 (hP w4 A4 c4 b4).2 (hone A4 c4).1 (hone A4 c4).2 hl1 hl2 (Nat.zero_le _) ?_; intro v5 w5 o5 g5; obtain ⟨A5, c5, rfl, _, _, _, hm5, _⟩ := o5.form; have hc5 := hC5 w4 w5 _ _ b4 g5; have hfz5 := hc5.2.frozen 3; have hc5' := hc5.1)
        | (go_simp; go_at_call 44; refine armC.mono ?_; rintro e w4 ⟨v4, rfl, o4, b4⟩; obtain ⟨A4, c4, rfl, hr4, _, hm4, _⟩ := o4.form; have hc4 := hC4 w4 b4; have hc4' := hc4.1; have hc4a := hc4.2; dsimp only))
    all_goals
      have o5' : OwV tChg 4 0 w5 (.slice A5 1 c5) 1 ([.bool false, .int .i64 0, .int .i64 0, .slice A4 b.length c4]) := by rw [hrow] at o5; exact o5
      obtain ⟨x, hxk, hxb, hxn, hm6, hpf, hkf, hfin⟩ := wrote_none H.out hnk hsz (by omega) (Nat.le_refl _) B1.out.size B2.out ⟨_, HF2.out⟩ O2.out (HK3.out.trans (Keeps.drew _ _)) ⟨_, HF3.out.drew⟩ b4 o4 o5' g5 hc5.2 (by omega)
      have hst := store_none hm6 hks (Nat.le_trans hsz (by decide)) hnk x hxk hxn
      rw [hxb] at hst
      have HPF := Lib.hid hpf
      have HKF := Lib.hid hkf
      have cD6 : (w5.setCell ⟨w.heap.size, 3, none⟩ (.slice A5 1 c5)).cell? ⟨d, 1, none⟩ = some (.map (some M)) := ((wrote_disk H.out B2.out (HK3.out.trans (Keeps.drew _ _)) b4 g5 _).cell 1).trans rfl
      have HFIN := Lib.hid hfin
      clear hfin hpf hkf hm6 o5 o5' g5 hc5 hfz5 hc5' hc4 hc4' hc4a o4 b4 hP hC4 hC5 hone armC hc33 hc3d hfz hce hxk hxb hxn
      go_wp2_with (at_mapUpdate; refine wpList_storeE rfl _ _ _ tMap rfl _ _ _ _ rfl rfl rfl hst ?_)
      go_ret
      exact ⟨_, rfl, ⟨M, clock + 1, _, HFIN.out, HPF.out.symm⟩, HKF.out, fun i hi => hi.imp id (fun h => h.1)⟩
end
end Go.Proofs.Ytapgknaoieojkaa.Toll
