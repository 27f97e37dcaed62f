/- Walk: disk.Read. -/
import Derived.Test.YtapgknaoieojkaaDiskR
set_option linter.unusedVariables false
set_option linter.unusedSimpArgs false
set_option maxRecDepth 100000
namespace Go.Proofs.Ytapgknaoieojkaa.Toll
open Go.RowKit
open Go.ChangeMaps (setBlock)
section
variable {F : Nat → Prop} {d M clock : Nat} {room : Int} {ents : List Ent}
def Read1Post (w : World) (g : Nat) (xs : List UInt8) (e : Ending) (w' : World) : Prop := ∃ v w1, e = .returned (.int .i64 0) ∧ OwB w.heap.size w1 v xs ∧ Below w.heap.size w w1 ∧ w' = w1.setCell ⟨g, 0, none⟩ v
theorem Read1Post.ret {w : World} {g : Nat} {xs : List UInt8} {e : Ending} {w' : World} (h : Read1Post w g xs e w') : e = .returned (.int .i64 0) := by
  obtain ⟨v, w1, h, _⟩ := h
  exact h
theorem Read1_any (w : World) (h : DiskAt F w d M clock room ents) (e0 : Ent) (he : e0 ∈ ents) (g : Nat) (hg : Blk w g #[.slice none 0 0] tB) :
    Calls Try.prog 69 #[.pointer (some ⟨e0.blk, 0, none⟩), .pointer (some ⟨g, 0, none⟩)] w (Read1Post w g e0.f.now) := by
  have hf := (h.file e0 he).blk
  obtain ⟨A, c, ev, hr, hlc, hcm', _⟩ := (h.file e0 he).now
  have hc0 := hf.cell 0
  simp only [List.getElem?_toArray, List.getElem?_cons_zero, ev] at hc0
  have hle := (h.file e0 he).ok.le
  have hs3 := slice_lhm A e0.f.now.length c 0 e0.f.now.length e0.f.now.length (Nat.zero_le _) (Nat.le_refl _) hlc
  have HR := Lib.hid hr
  have HG := Lib.hid hg
  clear h hf hr hg
  go_enter Try.func69, Try.ntmps69
  go_wp2_with fail
  go_still_tail 15, (by kernel_rfl)
  change wpList _ _ _ _ _ w.drew
  go_wp2_with fail
  refine (clone_any A e0.f.now.length e0.f.now w.drew (by omega) HR.out).mono ?_
  rintro e w1 ⟨v, rfl, o1, b1⟩
  have O1 := Lib.hid o1
  have B1 := Lib.hid b1
  obtain ⟨A1, c1, rfl, _, _, hm1, _⟩ := o1.form
  have hg1 := HG.out.drew.below b1
  have q1 := hg1.cell 0
  simp only [List.getElem?_toArray, List.getElem?_cons_zero] at q1
  have z1 := hg1.frozen 0
  clear o1 b1 hg1
  go_wp2_with fail
  go_ret
  exact ⟨_, w1, rfl, O1.out, (Below.refl w.heap.size w).drew.trans B1.out, rfl⟩
end
/-- What is read. -/
def readR (D : List (ByteArray × FileP)) (k : ByteArray) : Except Int (List UInt8) := match getF D k with
  | none => .error 8
  | some f => .ok f.now
def ReadPost (w : World) (r : Except Int (List UInt8)) (e : Ending) (w' : World) : Prop := match r with
  | .error x => e = .returned (.tuple #[.slice none 0 0, .int .i64 x]) ∧ Below w.heap.size w w'
  | .ok xs => ∃ v, e = .returned (.tuple #[v, .int .i64 0]) ∧ OwB w.heap.size w' v xs ∧ Below w.heap.size w w'
def WithRead (w : World) (g : Nat) (r : Except Int (List UInt8)) (e : Ending) (w' : World) : Prop := match r with
  | .error x => e = .returned (.int .i64 x) ∧ w' = w
  | .ok xs => Read1Post w g xs e w'
theorem with_read {F : Nat → Prop} {d : Nat} {room : Int} {D : List (ByteArray × FileP)} (w : World) (h : DiskIn F w d room D) (k : ByteArray) (hk : k.size ≤ maxLen) (g : Nat) (hg : Blk w g #[.slice none 0 0] tB) :
    Calls Try.prog 45 #[.pointer (some ⟨d, 0, none⟩), .string k, .func (.func 69) #[] #[.pointer (some ⟨g, 0, none⟩)]] w (WithRead w g (readR D k)) := by
  obtain ⟨M, clock, ents, h, rfl⟩ := h
  have H := Lib.hid h
  have HG := Lib.hid hg
  have hks : ∀ e ∈ ents, e.key.size ≤ maxLen := fun e he => Nat.le_trans (h.keys e he) (by decide)
  have cD := h.disk.cell 1
  simp only [List.getElem?_toArray, List.getElem?_cons_succ, List.getElem?_cons_zero] at cD
  clear hg
  cases hg : getF (ents.map Ent.abs) k with
  | none =>
    have hR : readR (ents.map Ent.abs) k = .error 8 := by unfold readR; rw [hg]
    have hlk := look_none h.map hks hk (getF_none hg)
    rw [hR]
    clear h hg
    go_enter Try.func45, Try.ntmps45
    go_wp2_with (at_lookup; refine wpList_lookE rfl _ _ tMap true rfl _ _ _ rfl rfl hlk ?_)
    go_ret
    exact ⟨rfl, rfl⟩
  | some f =>
    obtain ⟨e0, he, rfl, rfl⟩ := getF_some hg
    have hR : readR (ents.map Ent.abs) e0.key = .ok e0.f.now := by unfold readR; rw [hg]
    have hlk := look_some h.map h.diff hks hk he rfl
    rw [hR]
    clear h hg
    go_enter Try.func45, Try.ntmps45
    go_wp2_with (at_lookup; refine wpList_lookE rfl _ _ tMap true rfl _ _ _ rfl rfl hlk ?_)
    refine (Read1_any w H.out e0 he g HG.out).mono ?_
    intro e w' hp
    have HP := Lib.hid hp
    have he := hp.ret
    subst he
    clear hp
    go_wp2
    go_ret
    exact HP.out
theorem Read_any {F : Nat → Prop} {d : Nat} {room : Int} {D : List (ByteArray × FileP)} (w : World) (h : DiskIn F w d room D) (k : ByteArray) (hk : k.size ≤ maxLen) :
    Calls Try.prog 51 #[.pointer (some ⟨d, 0, none⟩), .string k] w (ReadPost w (readR D k)) := by
  have H := Lib.hid h
  clear h
  go_enter Try.func51, Try.ntmps51
  go_wp2_with fail
  have hb : Below w.heap.size w (w.alloc (.cells #[.slice none 0 0] tB)) := (Below.refl _ _).alloc (Nat.le_refl _) _
  have hg := Blk.new w #[.slice none 0 0] tB
  have hsz : (w.alloc (.cells #[.slice none 0 0] tB)).heap.size = w.heap.size + 1 := by simp
  refine (with_read _ (H.out.below hb) k hk w.heap.size hg).mono ?_
  generalize w.alloc (.cells #[.slice none 0 0] tB) = wA at *
  have HG := Lib.hid hg
  have HBL := Lib.hid hb
  clear hg hb
  generalize readR D k = r at *
  cases r with
  | error x =>
    rintro e w' ⟨rfl, rfl⟩
    have q := HG.out.cell 0
    simp only [List.getElem?_toArray, List.getElem?_cons_zero] at q
    have z := HG.out.frozen 0
    go_wp2_with fail
    have hg2 := HG.out.set 0 (.slice none 0 0)
    simp only [List.setIfInBounds_toArray, List.set_cons_zero] at hg2
    have q2 := hg2.cell 0
    simp only [List.getElem?_toArray, List.getElem?_cons_zero] at q2
    refine bodyPost_ret (v := .tuple #[.slice none 0 0, .int .i64 x]) (by simp [results, Try.results51, go_sem, q2]) rfl ?_
    exact ⟨rfl, (Keeps.of_new (S := (· = w.heap.size)) HBL.out).trans (Keeps.setCell _ ⟨w.heap.size, 0, none⟩ _ (.inl rfl)) |>.below (fun i hi e => by omega) (Nat.le_refl _)⟩
  | ok xs =>
    rintro e w' ⟨v, w1, rfl, o1, b1, rfl⟩
    have O1 := Lib.hid o1
    have B1 := Lib.hid b1
    obtain ⟨A1, c1, rfl, _, _, hm1, _⟩ := o1.form
    have hg1 := (HG.out.below b1).set 0 (.slice A1 xs.length c1)
    simp only [List.setIfInBounds_toArray, List.set_cons_zero] at hg1
    have q := hg1.cell 0
    simp only [List.getElem?_toArray, List.getElem?_cons_zero] at q
    have z := hg1.frozen 0
    have z1 := (HG.out.below b1).frozen 0
    clear o1 b1 hg1
    go_wp2_with fail
    have hg2 := (((HG.out.below B1.out).set 0 (.slice A1 xs.length c1)).set 0 (.slice A1 xs.length c1))
    simp only [List.setIfInBounds_toArray, List.set_cons_zero] at hg2
    have q2 := hg2.cell 0
    simp only [List.getElem?_toArray, List.getElem?_cons_zero] at q2
    refine bodyPost_ret (v := .tuple #[.slice A1 xs.length c1, .int .i64 0]) (by simp [results, Try.results51, go_sem, q2]) rfl ?_
    have kk : Keeps (· = w.heap.size) w1 ((w1.setCell ⟨w.heap.size, 0, none⟩ (.slice A1 xs.length c1)).setCell ⟨w.heap.size, 0, none⟩ (.slice A1 xs.length c1)) :=
      (Keeps.setCell (S := (· = w.heap.size)) w1 ⟨w.heap.size, 0, none⟩ _ (.inl rfl)).trans (Keeps.setCell (S := (· = w.heap.size)) _ ⟨w.heap.size, 0, none⟩ _ (.inl rfl))
    refine ⟨_, rfl, ?_, ?_⟩
    · exact (O1.out.keeps kk (fun i _ hi e => by omega)).mono (by omega)
    · have h1 : Below w.heap.size w w1 := HBL.out.trans (B1.out.mono (by omega))
      exact h1.trans (kk.below (fun i _ e => by omega) h1.size)
end Go.Proofs.Ytapgknaoieojkaa.Toll
