/- Walk: disk.Crash. -/
import Derived.Test.YtapgknaoieojkaaDiskF
import Derived.Test.YtapgknaoieojkaaPlainD
set_option linter.unusedVariables false
set_option linter.unusedSimpArgs false
set_option maxRecDepth 100000
namespace Go.Proofs.Ytapgknaoieojkaa.Toll
open Go.RowKit
open Go.ChangeMaps (setBlock)
def keyL (nm : List UInt8) : ByteArray := ⟨nm.toArray⟩
def kOf (keep : List Int) (i : Nat) : Nat := (keep.getD i 0).toNat
def crashOne (k : Nat) (f : FileP) : Option FileP := if f.lasts = false ∧ (afterL k f.chs f.sure 0).2 = 0 then none else some ⟨(afterL k f.chs f.sure 0).1, (afterL k f.chs f.sure 0).1, true, []⟩
/-- What a crash leaves. -/
def crashL (keep : List Int) : Nat → List (List UInt8) → Dk → Dk
  | _, [], D => D
  | i, nm :: rest, D => match getF D (keyL nm) with
    | none => crashL keep (i + 1) rest D
    | some f => match crashOne (kOf keep i) f with
      | none => crashL keep (i + 1) rest (delF D (keyL nm))
      | some f' => crashL keep (i + 1) rest (putF D (keyL nm) f')
def crashF (D : Dk) (keep : List Int) : Dk := crashL keep 0 (namesF D) D
theorem crashL_cons (keep : List Int) (i : Nat) (nm : List UInt8) (rest : List (List UInt8)) (D : Dk) : crashL keep i (nm :: rest) D = (match getF D (keyL nm) with
    | none => crashL keep (i + 1) rest D
    | some f => match crashOne (kOf keep i) f with
      | none => crashL keep (i + 1) rest (delF D (keyL nm))
      | some f' => crashL keep (i + 1) rest (putF D (keyL nm) f')) := rfl
theorem crashL_none {keep : List Int} {i : Nat} {nm : List UInt8} {rest : List (List UInt8)} {D : Dk} {f : FileP} (h : getF D (keyL nm) = some f) (h2 : crashOne (kOf keep i) f = none) : crashL keep i (nm :: rest) D = crashL keep (i + 1) rest (delF D (keyL nm)) := by
  rw [crashL_cons, h]
  simp only
  rw [h2]
theorem crashL_some {keep : List Int} {i : Nat} {nm : List UInt8} {rest : List (List UInt8)} {D : Dk} {f f' : FileP} (h : getF D (keyL nm) = some f) (h2 : crashOne (kOf keep i) f = some f') : crashL keep i (nm :: rest) D = crashL keep (i + 1) rest (putF D (keyL nm) f') := by
  rw [crashL_cons, h]
  simp only
  rw [h2]
theorem getF_delF_ne {D : Dk} {k k' : ByteArray} (h : k' ≠ k) : getF (delF D k) k' = getF D k' := by
  unfold getF delF
  rw [List.find?_filter]
  congr 1
  refine congrArg (fun p => List.find? p D) (funext fun p => ?_)
  by_cases e : p.1 = k'
  · simp [e, h]
  · simp [e]
theorem getF_cons (p : ByteArray × FileP) (D : Dk) (k : ByteArray) : getF (p :: D) k = if p.1 = k then some p.2 else getF D k := by
  unfold getF
  rw [List.find?_cons]
  by_cases e : p.1 = k
  · simp [e]
  · simp [e]
theorem getF_map_ne {k k' : ByteArray} {f : FileP} (h : k' ≠ k) : ∀ (D : Dk), getF (D.map fun p => if p.1 = k then (k, f) else p) k' = getF D k'
  | [] => rfl
  | p :: D => by
    rw [List.map_cons, getF_cons, getF_cons, getF_map_ne h D]
    by_cases e : p.1 = k
    · rw [if_pos e]
      simp only
      rw [if_neg (fun x => h x.symm), if_neg (fun x => h (x.symm.trans e))]
    · rw [if_neg e]
theorem getF_putF_ne {D : Dk} {k k' : ByteArray} {f : FileP} (h : k' ≠ k) : getF (putF D k f) k' = getF D k' := by
  unfold putF
  split
  · exact getF_map_ne h D
  · exact getF_snoc (fun e => h e.symm)
theorem DiskIn.keysN {F : Nat → Prop} {w : World} {d : Nat} {room : Int} {D : Dk} (h : DiskIn F w d room D) : KeysN D := by
  obtain ⟨M, clock, ents, h, rfl⟩ := h
  exact List.pairwise_map.2 (h.apart.imp Apart.key)
theorem names_mem {D : Dk} {nm : List UInt8} (h : nm ∈ namesF D) : ∃ f, getF D (keyL nm) = some f := by
  unfold namesF at h
  rw [List.mem_mergeSort] at h
  obtain ⟨p, hp, rfl⟩ := List.mem_map.1 h
  have e : keyL p.1.data.toList = p.1 := by unfold keyL; apply ByteArray.ext; rfl
  rw [e]
  cases hg : getF D p.1 with
  | none => exact absurd rfl (getF_none_all hg p hp)
  | some f => exact ⟨f, rfl⟩
theorem keyL_inj {a b : List UInt8} (h : keyL a = keyL b) : a = b := by
  have := congrArg (fun x : ByteArray => x.data.toList) h
  exact this
theorem names_nodup {D : Dk} (h : KeysN D) : (namesF D).Nodup := by
  unfold namesF
  refine (List.mergeSort_perm _ _).nodup_iff.2 ?_
  refine List.pairwise_map.2 (h.imp ?_)
  intro a b hab e
  exact hab (ByteArray.ext (Array.toList_inj.1 e))
section
variable {F : Nat → Prop} {d M clock : Nat} {room : Int} {ents : List Ent}
/-- The file is what the crash leaves of it. -/
theorem crashed {w w1 w2 : World} (H : DiskAt F w d M clock room ents) {e0 : Ent} (he : e0 ∈ ents) {v v2 : Value} {xs : List UInt8} (B1 : Below w.heap.size w w1) (S1 : SlF (fun i => w.heap.size ≤ i) w1 v xs) (B2 : Below w1.heap.size w1 w2) (O2 : OwB w1.heap.size w2 v2 xs) (hl : xs.length ≤ 262144) :
    DiskPost F w d room (.tuple #[]) (putF (ents.map Ent.abs) e0.key ⟨xs, xs, true, []⟩) (.returned (.tuple #[])) ((((w2.setCell ⟨e0.blk, 0, none⟩ v).setCell ⟨e0.blk, 1, none⟩ v2).setCell ⟨e0.blk, 2, none⟩ (.bool true)).setCell ⟨e0.blk, 3, none⟩ (.slice none 0 0)) := by
  have he' := H.file e0 he
  have B12 : Below w.heap.size w w2 := B1.trans (B2.mono B1.size)
  have hb1 := he'.blk.below B12
  obtain ⟨vs, hrow, _⟩ := he'.chg
  have k16 : Keeps (· = e0.blk) w2 ((((w2.setCell ⟨e0.blk, 0, none⟩ v).setCell ⟨e0.blk, 1, none⟩ v2).setCell ⟨e0.blk, 2, none⟩ (.bool true)).setCell ⟨e0.blk, 3, none⟩ (.slice none 0 0)) :=
    (((Keeps.setCell (S := (· = e0.blk)) w2 ⟨e0.blk, 0, none⟩ v (.inl rfl)).trans (Keeps.setCell (S := (· = e0.blk)) _ ⟨e0.blk, 1, none⟩ v2 (.inl rfl))).trans (Keeps.setCell (S := (· = e0.blk)) _ ⟨e0.blk, 2, none⟩ (.bool true) (.inl rfl))).trans (Keeps.setCell (S := (· = e0.blk)) _ ⟨e0.blk, 3, none⟩ (.slice none 0 0) (.inl rfl))
  have hb6 := (((hb1.set 0 v).set 1 v2).set 2 (.bool true)).set 3 (.slice none 0 0)
  simp only [List.setIfInBounds_toArray, List.set_cons_zero, List.set_cons_succ] at hb6
  generalize ((((w2.setCell ⟨e0.blk, 0, none⟩ v).setCell ⟨e0.blk, 1, none⟩ v2).setCell ⟨e0.blk, 2, none⟩ (.bool true)).setCell ⟨e0.blk, 3, none⟩ (.slice none 0 0)) = w3 at *
  have k02 : Keeps (fun i => i = e0.blk ∨ e0.chgV.ownBlock = some i) w w3 := (Keeps.of_new B12).trans (k16.mono (fun i _ h => .inl h))
  have hlt0 : e0.blk < w.heap.size := he'.blk.lt
  refine ⟨FNew F w w3, rfl, ⟨M, clock, _, H.replace (e1 := { e0 with nowV := v, sureV := v2, chgV := .slice none 0 0, f := ⟨xs, xs, true, []⟩ }) he k02 rfl rfl rfl ⟨hb6, .inl he'.inF, ?_, ?_, ?_, ⟨[], ⟨rfl, .inl ⟨rfl, rfl⟩⟩, rfl⟩, ?_⟩ ?_, (putF_some (e1 := { e0 with nowV := v, sureV := v2, chgV := .slice none 0 0, f := ⟨xs, xs, true, []⟩ }) H.diff he rfl).symm⟩, k02.mono ?_, fun i hi => hi.imp id (fun h => h.1)⟩
  · have s2 := S1.keeps (Keeps.of_new (S := fun _ => False) B2) (fun _ _ _ => id)
    have s3 := s2.keeps k16 (fun i hi _ e => by omega)
    obtain ⟨A, c, e, hr, h1, h2, h3⟩ := s3
    exact ⟨A, c, e, hr, h1, h2, fun h0 ad ea => ⟨.inr ⟨(h3 h0 ad ea).1, hr.lt h0 ea⟩, (h3 h0 ad ea).2⟩⟩
  · refine (SlF.of_own (F := FNew F w w3) O2 (fun i h1 h2 => .inr ⟨Nat.le_trans B1.size h1, Nat.lt_of_lt_of_le h2 k16.size⟩)).keeps k16 ?_
    intro i _ hi h
    exact hi.ne hb1 (by decide) h
  · intro i hi
    simp [Value.ownBlock] at hi
  · exact ⟨rfl, hl⟩
  · intro i hi
    simp [Value.ownBlock] at hi
  · intro i _ h
    rcases h with h | h
    · exact h ▸ he'.inF
    · exact he'.chgF i h
end
structure CrashR (F : Nat → Prop) (w1 : World) (d : Nat) (room : Int) (D : Dk) (keep : List Int) (N : List (List UInt8)) (NA KA : Option Addr) (i : Value) (wr : World) : Prop where
  ex : ∃ (j : Nat) (F' : Nat → Prop) (D' : Dk), j ≤ N.length ∧ i = .int .i64 (j : Int) ∧ DS F w1 F' wr d room D' ∧ crashL keep 0 N D = crashL keep j (N.drop j) D' ∧ (∀ nm ∈ N.drop j, ∃ f, getF D' (keyL nm) = some f) ∧
    RdV wr NA (strs N) ∧ (∀ ad, NA = some ad → ¬ F' ad.block) ∧ RdI wr KA keep ∧ (0 < keep.length → ∀ ad, KA = some ad → ¬ F' ad.block)
theorem nodup_drop {N : List (List UInt8)} (h : N.Nodup) {j : Nat} (hj : j < N.length) : ∀ nm ∈ N.drop (j + 1), nm ≠ N[j] := by
  intro nm hn e
  have h2 : (N.drop j).Nodup := h.sublist (List.drop_sublist _ _)
  rw [List.drop_eq_getElem_cons hj] at h2
  exact (List.nodup_cons.1 h2).1 (e ▸ hn)
theorem CrashR.step {F : Nat → Prop} {w1 wr w3 : World} {d : Nat} {room : Int} {D D' D'' : Dk} {keep : List Int} {N : List (List UInt8)} {NA KA : Option Addr} {j : Nat} {F' F'' : Nat → Prop} (hj : j < N.length) (hnd : N.Nodup) (ds : DS F w1 F' wr d room D') (ds2 : DS F' wr F'' w3 d room D'')
    (hs : crashL keep 0 N D = crashL keep (j + 1) (N.drop (j + 1)) D'') (hl : ∀ nm ∈ N.drop j, ∃ f, getF D' (keyL nm) = some f) (hsame : ∀ k', k' ≠ keyL N[j] → getF D'' k' = getF D' k')
    (hN : RdV wr NA (strs N)) (hNF : ∀ ad, NA = some ad → ¬ F' ad.block) (hK : RdI wr KA keep) (hKF : 0 < keep.length → ∀ ad, KA = some ad → ¬ F' ad.block) : CrashR F w1 d room D keep N NA KA (.int .i64 ((j : Int) + 1)) w3 := by
  have hnl : 0 < (strs N).length := by simp [strs]; omega
  refine ⟨j + 1, F'', D'', hj, rfl, ds.trans ds2, hs, fun nm hn => ?_, hN.keeps ds2.keep (fun _ ad e => hNF ad e), fun ad e h => ?_, RdV.keeps hK ds2.keep (fun h0 ad e => hKF (by rwa [i64s_length] at h0) ad e), fun h0 ad e h => ?_⟩
  · rw [hsame _ (fun e => nodup_drop hnd hj nm hn (keyL_inj e))]
    refine hl nm ?_
    rw [List.drop_eq_getElem_cons hj]
    exact List.mem_cons_of_mem _ hn
  · rcases ds2.new _ h with h1 | h1
    · exact hNF ad e h1
    · have := hN.lt hnl e
      omega
  · rcases ds2.new _ h with h1 | h1
    · exact hKF h0 ad e h1
    · have := RdV.lt hK (by rw [i64s_length]; exact h0) e
      omega
set_option maxHeartbeats 4000000 in
theorem Crash_any {F : Nat → Prop} {d : Nat} {room : Int} {D : Dk} (w : World) (h : DiskIn F w d room D) (KA : Option Addr) (kc : Nat) (keep : List Int) (hk : RdI w KA keep) (hkl : keep.length ≤ 9223372036854775807) (hkm : ∀ x ∈ keep, x ≤ 9223372036854775807) (hKF : 0 < keep.length → ∀ ad, KA = some ad → ¬ F ad.block) :
    Calls Try.prog 22 #[.pointer (some ⟨d, 0, none⟩), .slice KA keep.length kc] w (DiskPost F w d room (.tuple #[]) (crashF D keep)) := by
  have H := Lib.hid h
  have hnd := names_nodup h.keysN
  have hmem : ∀ nm ∈ namesF D, ∃ f, getF D (keyL nm) = some f := fun nm hn => names_mem hn
  have hl16 : (namesF D).length ≤ 16 := by
    rw [namesF_len]
    obtain ⟨M, clock, ents, h, rfl⟩ := h
    rw [List.length_map]
    exact h.small
  have hlt := h.lt
  have HK := Lib.hid hk
  have hcf : crashF D keep = crashL keep 0 (namesF D) D := rfl
  rw [hcf]
  have HNM := Lib.hid (Names_any w h)
  generalize namesF D = N at *
  have HND := Lib.hid hnd
  have HMEM := Lib.hid hmem
  clear h hk hnd hmem hcf
  go_enter Try.func22, Try.ntmps22
  go_wp2_with fail
  refine HNM.out.mono ?_
  rintro e w1 ⟨v, rfl, ho, b1⟩
  obtain ⟨NA, nc, rfl, hn, _, hncl, hncm, hnf⟩ := (OwV.form (e := tStr) (size := 1) (.inl ho))
  have HN := Lib.hid hn
  have B1 := Lib.hid b1
  have hNF : ∀ ad, NA = some ad → ¬ F ad.block := fun ad e hF => by
    rcases Nat.eq_zero_or_pos N.length with h0 | h0
    · rcases ho.2 with ⟨e', _⟩ | ⟨g, cap, cur, e', hb, _⟩
      · rw [e] at e'; simp at e'
      · rw [e] at e'
        simp only [Value.slice.injEq, Option.some.injEq] at e'
        obtain ⟨rfl, _⟩ := e'
        have := hlt _ hF
        simp only at this
        omega
    · have := hnf h0 ad e
      have := hlt _ hF
      omega
  have DS1 := Lib.hid ((DS.refl H.out).below b1)
  clear ho hn hnf b1
  go_wp2_with fail
  go_loopw [13] (fun i wr => CrashR F w d room D keep N NA KA i wr) (fun i _ => N.length - (intOf i).toNat)
  case atStart => exact ⟨0, F, D, Nat.zero_le _, rfl, DS1.out, rfl, HMEM.out, HN.out, hNF, HK.out.below B1.out, hKF⟩
  case round =>
    obtain ⟨j, F', D', hj, rfl, ds, heq, hgs, hrn, hnF, hrk, hkF⟩ := hrel
    have HDS := Lib.hid ds
    have HEQ := Lib.hid heq
    have HGS := Lib.hid hgs
    have HRN := Lib.hid hrn
    have HNF := Lib.hid hnF
    have HRK := Lib.hid hrk
    have HKF := Lib.hid hkF
    clear ds heq hgs hrn hnF hrk hkF
    by_cases hjl : j < N.length
    · obtain ⟨f, hf⟩ := HGS.out N[j] (by rw [List.drop_eq_getElem_cons hjl]; exact List.mem_cons_self)
      obtain ⟨M, clock, ents, hD, hDe⟩ := HDS.out.din
      have hf2 := hf
      rw [hDe] at hf2
      obtain ⟨e0, he, hek, hef⟩ := getF_some hf2
      obtain ⟨b, off, sp, rfl, hc⟩ := HRN.out.at j (by simpa [strs] using hjl)
      have hsv : (strs N)[j]'(by simpa [strs] using hjl) = .string e0.key := by rw [hek]; simp [strs, keyL, Go.Proofs.encStr]
      rw [hsv] at hc
      have hks : ∀ e ∈ ents, e.key.size ≤ maxLen := fun e he => Nat.le_trans (hD.keys e he) (by decide)
      have hlk := look1_some (w := wr) hD.map hD.diff hks (hks e0 he) he rfl
      have cD := hD.disk.cell 1
      simp only [List.getElem?_toArray, List.getElem?_cons_succ, List.getElem?_cons_zero] at cD
      obtain ⟨k, hk⟩ : ∃ k, k = kOf keep j := ⟨_, rfl⟩
      have hstN : ∀ f', crashOne k f = some f' → crashL keep 0 N D = crashL keep (j + 1) (N.drop (j + 1)) (putF D' (keyL N[j]) f') := fun f' h1 => by
        rw [HEQ.out, List.drop_eq_getElem_cons hjl]
        exact crashL_some hf (hk ▸ h1)
      have hst0 : crashOne k f = none → crashL keep 0 N D = crashL keep (j + 1) (N.drop (j + 1)) (delF D' (keyL N[j])) := fun h1 => by
        rw [HEQ.out, List.drop_eq_getElem_cons hjl]
        exact crashL_none hf (hk ▸ h1)
      have HD := Lib.hid hD
      have HDE := Lib.hid hDe
      have HSTN := Lib.hid hstN
      have HST0 := Lib.hid hst0
      have HEK := Lib.hid hek
      have HEF := Lib.hid hef
      have HKK := Lib.hid hk
      have hafter := fun hk => after_any wr e0 (hD.file e0 he) k hk
      clear hf hf2 hD hDe hstN hst0 hek hef hsv hks hk
      have hkcase : ∃ kv : Int, kv = (k : Int) ∧ k ≤ 9223372036854775807 ∧ ((decide (j < keep.length) = false ∧ kv = 0) ∨ (decide (j < keep.length) = true ∧ j < keep.length ∧ ∃ x bk ok sk, KA = some ⟨bk, ok, sk⟩ ∧ wr.cell? ((⟨bk, ok, sk⟩ : Addr).add j) = some (.int .i64 x) ∧ max 0 x = kv)) := by
        by_cases h1 : j < keep.length
        · obtain ⟨bk, ok, sk, e, hc⟩ := RdI.at HRK.out j h1
          have hx := hkm _ (List.getElem_mem h1)
          have hkk : k = (keep[j]).toNat := by rw [HKK.out]; unfold kOf; simp [h1]
          exact ⟨k, rfl, by omega, .inr ⟨by simpa using h1, h1, keep[j], bk, ok, sk, e, hc, by omega⟩⟩
        · have hk0 : k = 0 := by
            rw [HKK.out]
            unfold kOf
            simp [List.getElem?_eq_none (by omega : keep.length ≤ j)]
          exact ⟨0, by omega, by omega, .inl ⟨by simpa using h1, rfl⟩⟩
      obtain ⟨kv, hkv, hkx, hcase⟩ := hkcase
      have haf : Calls Try.prog 50 #[.pointer (some ⟨e0.blk, 0, none⟩), .int .i64 kv] wr (AfterPost e0.f k wr) := by rw [hkv]; exact hafter hkx
      have HAF := Lib.hid haf
      clear hafter haf hkv
      rcases hcase with ⟨hjk, rfl⟩ | ⟨hjk, hjk2, x, bk, ok, sk, rfl, hcx, hmx⟩
      all_goals
        go_wp2_with (at_lookup; refine wpList_lookE rfl _ _ tMap false rfl _ _ _ rfl rfl hlk ?_)
        refine HAF.out.mono ?_
        rintro e w2 ⟨v, rfl, hs2, b2, hl2⟩
        rw [HEF.out] at hs2 hl2 ⊢
        obtain ⟨V, vc, rfl, hvr, hvc, hvm, hvf⟩ := hs2
        generalize hR : afterL k f.chs f.sure 0 = R at *
        obtain ⟨xs, units⟩ := R
        simp only at hl2 hvr hvc hvf ⊢
        have HRR := Lib.hid hR
        have hs2 : SlF (fun i => wr.heap.size ≤ i) w2 (.slice V xs.length vc) xs := ⟨V, vc, rfl, hvr, hvc, hvm, hvf⟩
        have HS2 := Lib.hid hs2
        have HVR := Lib.hid hvr
        have B2 := Lib.hid b2
        have hD2 := HD.out.out (Keeps.of_new (S := fun _ => False) b2) (fun _ _ => id)
        have HD2 := Lib.hid hD2
        have kf := (HD.out.file e0 he).blk.below b2
        have q2 := kf.cell 2
        simp only [List.getElem?_toArray, List.getElem?_cons_succ, List.getElem?_cons_zero, HEF.out] at q2
        have cD2 := hD2.disk.cell 1
        simp only [List.getElem?_toArray, List.getElem?_cons_succ, List.getElem?_cons_zero] at cD2
        have KF := Lib.hid kf
        clear hR hs2 hvr b2 hD2 hlk cD hvf kf
        by_cases hdel : f.lasts = false ∧ units = 0
        · obtain ⟨hl, rfl⟩ := hdel
          rw [hl] at q2
          have h1 : crashOne k f = none := by unfold crashOne; rw [HRR.out]; exact if_pos ⟨hl, rfl⟩
          have hst := HST0.out h1
          have hks : ∀ e ∈ ents, e.key.size ≤ maxLen := fun e he => Nat.le_trans (HD.out.keys e he) (by decide)
          have hdr : ∀ ty, (Builtin.delete_ #[tMap, tStr] ty #[.map (some M), .string e0.key]).run Try.prog w2 = .ok (.tuple #[]) (setBlock w2 M (.map (esOf (ents.filter fun x => decide (x.key ≠ e0.key))) clock)) := fun ty => drop_any HD2.out.map HD2.out.diff hks (hks e0 he) ty
          have hp := (dropped HD2.out e0.key (.tuple #[])).first B2.out
          generalize setBlock w2 M (.map (esOf (ents.filter fun x => decide (x.key ≠ e0.key))) clock) = w3 at *
          obtain ⟨F'', _, ds2⟩ := hp.ds
          rw [← HDE.out, HEK.out] at ds2
          have HF := Lib.hid (CrashR.step hjl HND.out HDS.out ds2 hst HGS.out (fun k' hk' => getF_delF_ne hk') HRN.out HNF.out HRK.out HKF.out)
          clear hp ds2 hst h1 hl hks
          go_wp2_with (at_delete; refine wpList_dropE rfl _ _ tMap tStr rfl _ _ _ rfl rfl (hdr _) ?_)
          exact ⟨HF.out, by simp [intOf]; omega⟩
        · have h1 : crashOne k f = some ⟨xs, xs, true, []⟩ := by unfold crashOne; rw [HRR.out]; exact if_neg hdel
          have HST := Lib.hid (HSTN.out _ h1)
          obtain ⟨Y0, y0, ev0, _, _, hym0, _⟩ := (HD.out.file e0 he).now
          obtain ⟨Y1, y1, ev1, _, _, hym1, _⟩ := (HD.out.file e0 he).sure
          obtain ⟨vs, hrow, _⟩ := (HD.out.file e0 he).chg
          obtain ⟨Y3, y3, ev3⟩ : ∃ A3 c3, e0.chgV = .slice A3 e0.f.chs.length c3 := by
            rcases hrow.2 with ⟨e, h0⟩ | ⟨g, cap, cur, e, _⟩
            · exact ⟨none, 0, by rw [e, h0]⟩
            · exact ⟨_, _, e⟩
          have EV0 := Lib.hid ev0
          have EV1 := Lib.hid ev1
          have EV3 := Lib.hid ev3
          clear hrow ev0 ev1 ev3
          have hcl := clone_any V vc xs w2 (by omega) HVR.out
          have HCL := Lib.hid hcl
          clear hcl
          have hq : (f.lasts = true) ∨ (f.lasts = false ∧ ((units : Int) == 0) = false) := by
            cases hl : f.lasts with
            | true => exact .inl rfl
            | false => exact .inr ⟨rfl, beq_eq_false_iff_ne.2 (by have : units ≠ 0 := fun h => hdel ⟨hl, h⟩; omega)⟩
          clear h1 hdel
          rcases hq with hl | ⟨hl, hu⟩
          all_goals
            rw [hl] at q2
            go_wp2_with fail
            refine HCL.out.mono ?_
            rintro e w3 ⟨v3, rfl, o3, b3⟩
            have hp := crashed HD.out he B2.out HS2.out b3 o3 hl2
            obtain ⟨F'', _, ds2⟩ := hp.ds
            rw [← HDE.out, HEK.out] at ds2
            have HF := Lib.hid (CrashR.step hjl HND.out HDS.out ds2 HST.out HGS.out (fun k' hk' => getF_putF_ne hk') HRN.out HNF.out HRK.out HKF.out)
            obtain ⟨X3, x3, rfl, _, _, hxm3, _⟩ := o3.form
            have kf3 := KF.out.below b3
            rw [EV0.out, EV1.out, EV3.out] at kf3
            have r0 := kf3.cell 0
            have r1 := kf3.cell 1
            have r2 := kf3.cell 2
            have r3 := kf3.cell 3
            simp only [List.getElem?_toArray, List.getElem?_cons_zero, List.getElem?_cons_succ] at r0 r1 r2 r3
            have z0 := kf3.frozen 0
            have z1 := kf3.frozen 1
            have z2 := kf3.frozen 2
            have z3 := kf3.frozen 3
            clear hp ds2 o3 b3 kf3 q2 hl
            go_wp2_with fail
            exact ⟨HF.out, by simp [intOf]; omega⟩
    · obtain rfl : j = N.length := by omega
      have hE : crashL keep 0 N D = D' := by rw [HEQ.out, List.drop_length]; rfl
      have HPO := Lib.hid (HDS.out.post (.tuple #[]))
      rw [hE]
      go_wp2_with fail
      go_end0
      exact HPO.out
end Go.Proofs.Ytapgknaoieojkaa.Toll
