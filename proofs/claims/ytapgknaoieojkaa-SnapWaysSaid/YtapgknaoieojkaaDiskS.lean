/- Walks: disk.Write whole; Sync. -/
import Derived.Test.YtapgknaoieojkaaDiskZ
set_option linter.unusedVariables false
set_option linter.unusedSimpArgs false
set_option maxRecDepth 100000
namespace Go.Proofs.Ytapgknaoieojkaa.Toll
open Go.RowKit
open Go.ChangeMaps (setBlock)
theorem Write_any {F : Nat → Prop} {d : Nat} {room : Int} {D : List (ByteArray × FileP)} (w : World) (h : DiskIn F w d room D) (k : ByteArray) (hk : k.size ≤ maxLen) (at_ : Int) (B : Option Addr) (cb : Nat) (b : List UInt8) (hat : at_ ≤ 9223372036854775807) (hat' : -9223372036854775808 ≤ at_)
    (hb : b.length ≤ 4294967296) (hcb : b.length ≤ cb) (hcm : cb ≤ 9223372036854775807) (hB : RdB w B b) (hBF : 0 < b.length → ∀ ad, B = some ad → ¬ F ad.block) (hch : ∀ f, getF D k = some f → f.chs.length ≤ 1000000) :
    Calls Try.prog 18 #[.pointer (some ⟨d, 0, none⟩), .string k, .int .i64 at_, .slice B b.length cb] w (DiskPost F w d room (.int .i64 (writeF room D k at_ b).1) (writeF room D k at_ b).2) := by
  obtain ⟨M, clock, ents, h, rfl⟩ := h
  cases hn : namedF k with
  | false =>
    have H := Lib.hid h
    have hR : writeF room (ents.map Ent.abs) k at_ b = (14, ents.map Ent.abs) := by unfold writeF; rw [if_pos hn]
    rw [hR]
    clear h hB
    go_enter Try.func18, Try.ntmps18
    go_wp2_with fail
    refine (named_any k _ (by simpa [maxLen] using hk)).mono ?_
    rintro e w' ⟨rfl, rfl⟩
    rw [hn]
    go_wp2
    go_ret
    exact H.out.post (Below.refl _ _) _
  | true =>
    cases hg : getF (ents.map Ent.abs) k with
    | none => exact Write_none w h k (getF_none hg) at_ B cb b hat hat' hb hcb hcm hB hn
    | some f =>
      obtain ⟨e0, he, rfl, rfl⟩ := getF_some hg
      exact Write_some w h e0 he at_ B cb b hat hat' hb hcb hcm hB hBF (hch _ hg) hn
def syncF (f : FileP) : FileP := ⟨f.now, f.now, true, []⟩
section
variable {F : Nat → Prop} {d M clock : Nat} {room : Int} {ents : List Ent}
/-- The file's bytes last. -/
theorem synced {w w1 : World} (H : DiskAt F w d M clock room ents) {e0 : Ent} (he : e0 ∈ ents) {v : Value} (B1 : Below w.heap.size w w1) (O1 : OwB w.heap.size w1 v e0.f.now) :
    DiskPost F w d room (.int .i64 0) (putF (ents.map Ent.abs) e0.key (syncF e0.f)) (.returned (.int .i64 0)) (((w1.setCell ⟨e0.blk, 1, none⟩ v).setCell ⟨e0.blk, 2, none⟩ (.bool true)).setCell ⟨e0.blk, 3, none⟩ (.slice none 0 0)) := by
  have he' := H.file e0 he
  have hb1 := he'.blk.below B1
  obtain ⟨vs, hrow, _⟩ := he'.chg
  have k16 : Keeps (· = e0.blk) w1 (((w1.setCell ⟨e0.blk, 1, none⟩ v).setCell ⟨e0.blk, 2, none⟩ (.bool true)).setCell ⟨e0.blk, 3, none⟩ (.slice none 0 0)) :=
    ((Keeps.setCell (S := (· = e0.blk)) w1 ⟨e0.blk, 1, none⟩ v (.inl rfl)).trans (Keeps.setCell (S := (· = e0.blk)) _ ⟨e0.blk, 2, none⟩ (.bool true) (.inl rfl))).trans (Keeps.setCell (S := (· = e0.blk)) _ ⟨e0.blk, 3, none⟩ (.slice none 0 0) (.inl rfl))
  have hb6 := ((hb1.set 1 v).set 2 (.bool true)).set 3 (.slice none 0 0)
  simp only [List.setIfInBounds_toArray, List.set_cons_zero, List.set_cons_succ] at hb6
  generalize (((w1.setCell ⟨e0.blk, 1, none⟩ v).setCell ⟨e0.blk, 2, none⟩ (.bool true)).setCell ⟨e0.blk, 3, none⟩ (.slice none 0 0)) = w2 at *
  have k02 : Keeps (fun i => i = e0.blk ∨ e0.chgV.ownBlock = some i) w w2 := (Keeps.of_new B1).trans (k16.mono (fun i _ h => .inl h))
  refine ⟨FNew F w w2, rfl, ⟨M, clock, _, H.replace (e1 := { e0 with sureV := v, chgV := .slice none 0 0, f := syncF e0.f }) he k02 rfl rfl rfl ⟨hb6, .inl he'.inF, ?_, ?_, ?_, ⟨[], ⟨rfl, .inl ⟨rfl, rfl⟩⟩, rfl⟩, ?_⟩ ?_, (putF_some (e1 := { e0 with sureV := v, chgV := .slice none 0 0, f := syncF e0.f }) H.diff he rfl).symm⟩, k02.mono ?_, fun i hi => hi.imp id (fun h => h.1)⟩
  · refine (he'.now.keeps k02 ?_).mono (FNew.mono F w w2)
    rintro i _ hi (h | h)
    · exact hi.ne he'.blk (by decide) h
    · obtain ⟨cur, hc⟩ := owns_type hrow h
      exact hi.ne hc (by decide) rfl
  · refine (SlF.of_own (F := FNew F w w2) O1 (fun i h1 h2 => .inr ⟨h1, Nat.lt_of_lt_of_le h2 k16.size⟩)).keeps k16 ?_
    intro i _ hi h
    exact hi.ne hb1 (by decide) h
  · intro i hi
    simp [Value.ownBlock] at hi
  · exact ⟨rfl, he'.ok.le⟩
  · intro i hi
    simp [Value.ownBlock] at hi
  · intro i _ h
    rcases h with h | h
    · exact h ▸ he'.inF
    · exact he'.chgF i h
theorem Sync1_any (w : World) (h : DiskAt F w d M clock room ents) (e0 : Ent) (he : e0 ∈ ents) :
    Calls Try.prog 46 #[.pointer (some ⟨e0.blk, 0, none⟩)] w (DiskPost F w d room (.int .i64 0) (putF (ents.map Ent.abs) e0.key (syncF e0.f))) := by
  have H := Lib.hid h
  have hf := (h.file e0 he).blk
  obtain ⟨A, c, ev, hr, hlc, hcm', _⟩ := (h.file e0 he).now
  obtain ⟨A', c', ev', _, hlc', hcm'', _⟩ := (h.file e0 he).sure
  have hc0 := hf.cell 0
  simp only [List.getElem?_toArray, List.getElem?_cons_zero, ev] at hc0
  have hle := (h.file e0 he).ok.le
  have HF := Lib.hid hf
  have HR := Lib.hid hr
  clear h hf hr
  go_enter Try.func46, Try.ntmps46
  go_wp2_with fail
  refine (clone_any A c e0.f.now w (by omega) HR.out).mono ?_
  rintro e w1 ⟨v, rfl, o1, b1⟩
  have hp := synced H.out he b1 o1
  have HP := Lib.hid hp
  obtain ⟨A1, c1, rfl, _, _, hm1, _⟩ := o1.form
  have hb1 := HF.out.below b1
  obtain ⟨vs, hrow, _⟩ := (H.out.file e0 he).chg
  obtain ⟨A3, c3, ev3⟩ : ∃ A3 c3, e0.chgV = .slice A3 e0.f.chs.length c3 := by
    rcases hrow.2 with ⟨e, h0⟩ | ⟨g, cap, cur, e, _⟩
    · exact ⟨none, 0, by rw [e, h0]⟩
    · exact ⟨_, _, e⟩
  rw [ev', ev3] at hb1
  have q1 := hb1.cell 1
  have q2 := hb1.cell 2
  have q3 := hb1.cell 3
  simp only [List.getElem?_toArray, List.getElem?_cons_zero, List.getElem?_cons_succ] at q1 q2 q3
  have z1 := hb1.frozen 1
  have z2 := hb1.frozen 2
  have z3 := hb1.frozen 3
  clear o1 b1 hp hb1
  go_wp2_with fail
  go_ret
  exact HP.out
end
def syncD (D : List (ByteArray × FileP)) (k : ByteArray) : Int × List (ByteArray × FileP) := match getF D k with
  | none => (8, D)
  | some f => (0, putF D k (syncF f))
theorem DiskPost.with {F : Nat → Prop} {w : World} {d : Nat} {room : Int} {v : Value} {D : List (ByteArray × FileP)} {e : Ending} {w' : World} (h : DiskPost F w d room v D e w') : ∃ w2, e = .returned v ∧ w2 = w' := by
  obtain ⟨F', rfl, _⟩ := h
  exact ⟨_, rfl, rfl⟩
theorem with_sync {F : Nat → Prop} {d : Nat} {room : Int} {D : List (ByteArray × FileP)} (w : World) (h : DiskIn F w d room D) (k : ByteArray) (hk : k.size ≤ maxLen) :
    Calls Try.prog 45 #[.pointer (some ⟨d, 0, none⟩), .string k, .func (.func 46) #[] #[]] w (DiskPost F w d room (.int .i64 (syncD D k).1) (syncD D k).2) := by
  obtain ⟨M, clock, ents, h, rfl⟩ := h
  have H := Lib.hid h
  have hks : ∀ e ∈ ents, e.key.size ≤ maxLen := fun e he => Nat.le_trans (h.keys e he) (by decide)
  have cD := h.disk.cell 1
  simp only [List.getElem?_toArray, List.getElem?_cons_succ, List.getElem?_cons_zero] at cD
  cases hg : getF (ents.map Ent.abs) k with
  | none =>
    have hR : syncD (ents.map Ent.abs) k = (8, ents.map Ent.abs) := by unfold syncD; rw [hg]
    have hlk := look_none h.map hks hk (getF_none hg)
    rw [hR]
    clear h hg
    go_enter Try.func45, Try.ntmps45
    go_wp2_with (at_lookup; refine wpList_lookE rfl _ _ tMap true rfl _ _ _ rfl rfl hlk ?_)
    go_ret
    exact H.out.post (Below.refl _ _) _
  | some f =>
    obtain ⟨e0, he, rfl, rfl⟩ := getF_some hg
    have hR : syncD (ents.map Ent.abs) e0.key = (0, putF (ents.map Ent.abs) e0.key (syncF e0.f)) := by unfold syncD; rw [hg]
    have hlk := look_some h.map h.diff hks hk he rfl
    rw [hR]
    clear h hg
    go_enter Try.func45, Try.ntmps45
    go_wp2_with (at_lookup; refine wpList_lookE rfl _ _ tMap true rfl _ _ _ rfl rfl hlk ?_)
    refine (Sync1_any w H.out e0 he).mono ?_
    intro e w' hp
    have HP := Lib.hid hp
    obtain ⟨F', rfl, _⟩ := hp
    go_wp2
    go_ret
    exact HP.out
theorem Sync_any {F : Nat → Prop} {d : Nat} {room : Int} {D : List (ByteArray × FileP)} (w : World) (h : DiskIn F w d room D) (k : ByteArray) (hk : k.size ≤ maxLen) :
    Calls Try.prog 19 #[.pointer (some ⟨d, 0, none⟩), .string k] w (DiskPost F w d room (.int .i64 (syncD D k).1) (syncD D k).2) := by
  have H := Lib.hid h
  clear h
  go_enter Try.func19, Try.ntmps19
  go_wp2_with fail
  refine (with_sync w H.out k hk).mono ?_
  intro e w' hp
  have HP := Lib.hid hp
  obtain ⟨F', rfl, _⟩ := hp
  go_wp2
  go_ret
  exact HP.out
end Go.Proofs.Ytapgknaoieojkaa.Toll
