/- Walk: disk.Rename. -/
import Derived.Test.YtapgknaoieojkaaDiskQ
set_option linter.unusedVariables false
set_option linter.unusedSimpArgs false
set_option maxRecDepth 100000
namespace Go.Proofs.Ytapgknaoieojkaa.Toll
open Go.RowKit
open Go.ChangeMaps (setBlock)
theorem apart_of {x e0 : Ent} {l : List Ent} (hp : l.Pairwise Apart) (h1 : x ∈ l) (h2 : e0 ∈ l) (hne : x ≠ e0) : Apart x e0 := by
  induction l with
  | nil => cases h1
  | cons y l ih =>
    have h' := List.pairwise_cons.1 hp
    rcases List.mem_cons.1 h1 with e1 | h1
    · rcases List.mem_cons.1 h2 with e2 | h2
      · exact absurd (e1.trans e2.symm) hne
      · exact e1 ▸ h'.1 e0 h2
    · rcases List.mem_cons.1 h2 with e2 | h2
      · exact (e2 ▸ h'.1 x h1).symm
      · exact ih h'.2 h1 h2
section
variable {F : Nat → Prop} {w w' : World} {d M clock : Nat} {room : Int} {ents : List Ent}
/-- An entry that got another key. -/
theorem DiskAt.moved (h : DiskAt F w d M clock room ents) (k : Keeps (· = M) w w') {e0 : Ent} (he : e0 ∈ ents) {tgt : ByteArray} {nb clock' : Nat} (hto : tgt.size ≤ 64) (hne : e0.key ≠ tgt) {ents2 : List Ent}
    (hin : ∀ x ∈ ents2, x = { e0 with key := tgt, born := nb } ∨ (x ∈ ents ∧ x.key ≠ tgt)) (hp : ents2.Pairwise (fun a b => a.key ≠ e0.key → b.key ≠ e0.key → Apart a b)) (hb : nb < clock') (hc : clock ≤ clock') (hl : (ents2.filter fun x => decide (x.key ≠ e0.key)).length ≤ 16)
    (hm : w'.heap[M]? = some (.map (esOf (ents2.filter fun x => decide (x.key ≠ e0.key))) clock')) : DiskAt F w' d M clock' room (ents2.filter fun x => decide (x.key ≠ e0.key)) := by
  have sub : ∀ y, y ∈ ents2.filter (fun x => decide (x.key ≠ e0.key)) → y ∈ ents2 ∧ y.key ≠ e0.key := fun y hy => by simpa using List.mem_filter.1 hy
  have keep : ∀ y ∈ ents, FileAt F w' y := fun y hy => by
    have hy' := h.file y hy
    obtain ⟨vs, ho, _⟩ := hy'.chg
    refine hy'.keeps k (fun e => hy'.blk.not_map h.map e.symm) (fun i hi e => ?_) (fun i _ hu e => hu.ne_map h.map e)
    obtain ⟨cur, hb⟩ := owns_type ho hi
    exact hb.not_map h.map e.symm
  refine ⟨h.disk.keeps k (fun e => h.disk.not_map h.map e.symm), h.dF, h.mF, fun i hi => Nat.lt_of_lt_of_le (h.lt i hi) k.size, hm, fun y hy => ?_, fun y hy => ?_, hl, ?_, fun y hy => ?_, h.room0, h.roomM⟩
  · rcases hin y (sub y hy).1 with rfl | ⟨h1, _⟩
    · exact hb
    · exact Nat.lt_of_lt_of_le (h.born y h1) hc
  · rcases hin y (sub y hy).1 with rfl | ⟨h1, _⟩
    · exact hto
    · exact h.keys y h1
  · refine (hp.filter _).imp_of_mem (fun {a b} ha hb hab => hab (sub a ha).2 (sub b hb).2)
  · rcases hin y (sub y hy).1 with rfl | ⟨h1, _⟩
    · obtain ⟨h1, h2, h3, h4, h5, h6, h7⟩ := keep e0 he
      exact ⟨h1, h2, h3, h4, h5, h6, h7⟩
    · exact keep y h1
theorem moved_apart {e0 : Ent} (h : ents.Pairwise Apart) (he : e0 ∈ ents) {x : Ent} (hx : x ∈ ents) {tgt : ByteArray} {nb : Nat} (h1 : x.key ≠ e0.key) (h2 : x.key ≠ tgt) (h3 : x.born ≠ nb) : Apart x { e0 with key := tgt, born := nb } := by
  have := apart_of h hx he (fun e => h1 (e ▸ rfl))
  exact ⟨h2, h3, this.blk, this.chg⟩
def renameD (D : List (ByteArray × FileP)) (frm tgt : ByteArray) : Int × List (ByteArray × FileP) := match getF D frm with
  | none => (8, D)
  | some f => if namedF tgt = false then (14, D) else if frm = tgt then (0, D) else (0, delF (putF D tgt f) frm)
theorem renamed_some (h : DiskAt F w d M clock room ents) {e0 e1 : Ent} (he : e0 ∈ ents) (he1 : e1 ∈ ents) (hne : e0.key ≠ e1.key) (v : Value) :
    esOf (putE ents e1.key fun x => { x with blk := e0.blk }) = esOf (putE ents e1.key fun _ => { e0 with key := e1.key, born := e1.born }) ∧ Diff (putE ents e1.key fun _ => { e0 with key := e1.key, born := e1.born }) ∧
    DiskPost F w d room v (delF (putF (ents.map Ent.abs) e1.key e0.f) e0.key) (.returned v) (setBlock (setBlock w M (.map (esOf (putE ents e1.key fun _ => { e0 with key := e1.key, born := e1.born })) clock)) M (.map (esOf ((putE ents e1.key fun _ => { e0 with key := e1.key, born := e1.born }).filter fun x => decide (x.key ≠ e0.key))) clock)) := by
  have hE : esOf (putE ents e1.key fun x => { x with blk := e0.blk }) = esOf (putE ents e1.key fun _ => { e0 with key := e1.key, born := e1.born }) := by
    unfold esOf putE
    rw [List.map_map, List.map_map]
    congr 1
    refine List.map_congr_left (fun x hx => ?_)
    simp only [Function.comp]
    split
    · rename_i hk
      have := diff_mem h.diff hx he1 hk
      subst this
      rfl
    · rfl
  have hin : ∀ x ∈ putE ents e1.key (fun _ => { e0 with key := e1.key, born := e1.born }), x = { e0 with key := e1.key, born := e1.born } ∨ (x ∈ ents ∧ x.key ≠ e1.key) := fun x hx => mem_putE hx
  have hD : Diff (putE ents e1.key fun _ => { e0 with key := e1.key, born := e1.born }) := by
    unfold Diff putE
    rw [List.pairwise_map]
    refine h.diff.imp (fun {a b} hab => ?_)
    split <;> split <;> rename_i h1 h2
    · exact absurd (h1.trans h2.symm) hab
    · exact fun e => h2 e.symm
    · exact h1
    · exact hab
  have hP : (putE ents e1.key fun _ => { e0 with key := e1.key, born := e1.born }).Pairwise (fun a b : Ent => a.key ≠ e0.key → b.key ≠ e0.key → Apart a b) := by
    unfold putE
    rw [List.pairwise_map]
    refine List.Pairwise.imp_of_mem ?_ h.apart
    intro a b ha hb hab
    by_cases h1 : a.key = e1.key
    · have h2 : ¬ b.key = e1.key := fun e => hab.key (h1.trans e.symm)
      rw [if_pos h1, if_neg h2]
      intro _ hb0
      refine (moved_apart h.apart he hb hb0 h2 ?_).symm
      exact (apart_of h.apart hb he1 (fun e => h2 (e ▸ rfl))).born
    · rw [if_neg h1]
      by_cases h2 : b.key = e1.key
      · rw [if_pos h2]
        intro ha0 _
        exact moved_apart h.apart he ha ha0 h1 (apart_of h.apart ha he1 (fun e => h1 (e ▸ rfl))).born
      · rw [if_neg h2]
        exact fun _ _ => hab
  refine ⟨hE, hD, F, rfl, ⟨M, clock, _, h.moved ((setBlock_keeps (S := (· = M)) _ rfl).trans (setBlock_keeps (S := (· = M)) _ rfl)) he (h.keys e1 he1) hne hin hP (h.born e1 he1) (Nat.le_refl _) ?_ (setBlock_at (setBlock_at h.map)), ?_⟩, (setBlock_keeps _ h.mF).trans (setBlock_keeps _ h.mF), fun i hi => .inl hi⟩
  · refine Nat.le_trans (List.length_filter_le _ _) ?_
    unfold putE
    rw [List.length_map]
    exact h.small
  · rw [delF_abs]
    congr 1
    exact (putF_some (e1 := { e0 with key := e1.key, born := e1.born }) h.diff he1 rfl).symm
theorem renamed_none (h : DiskAt F w d M clock room ents) {e0 : Ent} (he : e0 ∈ ents) {tgt : ByteArray} (hto : tgt.size ≤ 64) (hn : ∀ e ∈ ents, e.key ≠ tgt) (v : Value) :
    Diff (ents ++ [{ e0 with key := tgt, born := clock }]) ∧
    DiskPost F w d room v (delF (putF (ents.map Ent.abs) tgt e0.f) e0.key) (.returned v) (setBlock (setBlock w M (.map (esOf (ents ++ [{ e0 with key := tgt, born := clock }])) (clock + 1))) M (.map (esOf ((ents ++ [{ e0 with key := tgt, born := clock }]).filter fun x => decide (x.key ≠ e0.key))) (clock + 1))) := by
  have hne : e0.key ≠ tgt := hn e0 he
  have hD : Diff (ents ++ [{ e0 with key := tgt, born := clock }]) := by
    unfold Diff
    refine List.pairwise_append.2 ⟨h.diff, List.pairwise_singleton _ _, ?_⟩
    intro a ha b hb
    rw [List.mem_singleton.1 hb]
    exact hn a ha
  have hP : (ents ++ [{ e0 with key := tgt, born := clock }]).Pairwise (fun a b : Ent => a.key ≠ e0.key → b.key ≠ e0.key → Apart a b) := by
    refine List.pairwise_append.2 ⟨h.apart.imp (fun hab _ _ => hab), List.pairwise_singleton _ _, ?_⟩
    intro a ha b hb ha0 _
    rw [List.mem_singleton.1 hb]
    exact moved_apart h.apart he ha ha0 (hn a ha) (by have := h.born a ha; omega)
  refine ⟨hD, F, rfl, ⟨M, clock + 1, _, h.moved ((setBlock_keeps (S := (· = M)) _ rfl).trans (setBlock_keeps (S := (· = M)) _ rfl)) he hto hne ?_ hP (Nat.lt_succ_self _) (Nat.le_succ _) ?_ (setBlock_at (setBlock_at h.map)), ?_⟩, (setBlock_keeps _ h.mF).trans (setBlock_keeps _ h.mF), fun i hi => .inl hi⟩
  · intro x hx
    rcases List.mem_append.1 hx with hx | hx
    · exact .inr ⟨hx, hn x hx⟩
    · exact .inl (List.mem_singleton.1 hx)
  · rw [List.filter_append]
    have h1 : (ents.filter fun x => decide (x.key ≠ e0.key)).length < ents.length := by
      refine Nat.lt_of_le_of_ne (List.length_filter_le _ _) (fun e => ?_)
      have := List.length_filter_eq_length_iff.1 e e0 he
      simp at this
    have h2 := h.small
    have h3 := List.length_filter_le (fun x : Ent => decide (x.key ≠ e0.key)) [{ e0 with key := tgt, born := clock }]
    simp only [List.length_append, List.length_cons, List.length_nil] at h3 ⊢
    omega
  · rw [delF_abs]
    congr 1
    exact (putF_none (x := { e0 with key := tgt, born := clock }) hn).symm
end
theorem DiskPost.ended {F : Nat → Prop} {w : World} {d : Nat} {room : Int} {v : Value} {D : List (ByteArray × FileP)} {e : Ending} {w' : World} (h : DiskPost F w d room v D e w') : DiskPost F w d room v D e w'.drew := by
  obtain ⟨F', h1, h2, h3, h4⟩ := h
  exact ⟨F', h1, h2.out (Keeps.drew (fun _ => False) _) (fun _ _ => id), h3.trans (Keeps.drew F _), h4⟩
theorem beqL_false {a b : ByteArray} (h : a ≠ b) : (a.toList == b.toList) = false := by
  rw [beq_eq_false_iff_ne, ByteArray.toList_eq, ByteArray.toList_eq]
  intro e
  apply h
  obtain ⟨⟨x⟩⟩ := a
  obtain ⟨⟨y⟩⟩ := b
  simp at e
  rw [e]
theorem beqL_true {a b : ByteArray} (h : a = b) : (a.toList == b.toList) = true := by
  rw [h]
  simp
theorem namedF_size {k : ByteArray} (h : namedF k = true) : k.size ≤ 64 := by
  simp only [namedF, Bool.and_eq_true, decide_eq_true_eq] at h
  exact h.1.2
section
variable {F : Nat → Prop} {d M clock : Nat} {room : Int} {ents : List Ent}
set_option maxHeartbeats 1000000 in
theorem Rename1_any (w : World) (h : DiskAt F w d M clock room ents) (e0 : Ent) (he : e0 ∈ ents) (tgt : ByteArray) (hk : tgt.size ≤ maxLen) (g1 g2 g3 : Nat) (hc1 : w.cell? ⟨g1, 0, none⟩ = some (.string tgt)) (hc2 : w.cell? ⟨g2, 0, none⟩ = some (.string e0.key)) (hc3 : w.cell? ⟨g3, 0, none⟩ = some (.pointer (some ⟨d, 0, none⟩)))
    (n1 : ¬ F g1) (n2 : ¬ F g2) (n3 : ¬ F g3) :
    Calls Try.prog 49 #[.pointer (some ⟨e0.blk, 0, none⟩), .pointer (some ⟨g1, 0, none⟩), .pointer (some ⟨g2, 0, none⟩), .pointer (some ⟨g3, 0, none⟩)] w (DiskPost F w d room (.int .i64 (if namedF tgt = false then (14, ents.map Ent.abs) else if e0.key = tgt then (0, ents.map Ent.abs) else (0, delF (putF (ents.map Ent.abs) tgt e0.f) e0.key)).1) (if namedF tgt = false then (14, ents.map Ent.abs) else if e0.key = tgt then ((0 : Int), ents.map Ent.abs) else (0, delF (putF (ents.map Ent.abs) tgt e0.f) e0.key)).2) := by
  have H := Lib.hid h
  have hkk : tgt.size ≤ 9223372036854775807 := by simpa [maxLen] using hk
  cases hn : namedF tgt with
  | false =>
    rw [if_pos rfl]
    clear h
    go_enter Try.func49, Try.ntmps49
    go_wp2_with fail
    refine (named_any tgt _ hkk).mono ?_
    rintro e w' ⟨rfl, rfl⟩
    rw [hn]
    go_wp2
    go_ret
    exact H.out.post (Below.refl _ _) _
  | true =>
    rw [if_neg (by simp)]
    by_cases heq : e0.key = tgt
    · have hbq : (e0.key.toList == tgt.toList) = true := beqL_true heq
      rw [if_pos heq]
      clear h
      go_enter Try.func49, Try.ntmps49
      go_wp2_with fail
      refine (named_any tgt _ hkk).mono ?_
      rintro e w' ⟨rfl, rfl⟩
      rw [hn]
      go_wp2
      go_ret
      exact H.out.post (Below.refl _ _) _
    · have hbq : (e0.key.toList == tgt.toList) = false := beqL_false heq
      rw [if_neg heq]
      have h' : DiskAt F w.drew d M clock room ents := h.out (Keeps.drew (fun _ => False) w) (fun _ _ => id)
      have hks : ∀ e ∈ ents, e.key.size ≤ maxLen := fun e he => Nat.le_trans (h.keys e he) (by decide)
      obtain ⟨es2, c2, w2, w3, hst, hks2, hd2, hm2, hdr, hpost⟩ : ∃ (es2 : List Ent) (c2 : Nat) (w2 w3 : World),
          (Instr.mapUpdate tMap (.map (some M)) (.string tgt) (.pointer (some ⟨e0.blk, 0, none⟩))).run Try.prog w.drew = .ok () w2 ∧ (∀ e ∈ es2, e.key.size ≤ maxLen) ∧ Diff es2 ∧ w2 = setBlock w.drew M (.map (esOf es2) c2) ∧
          (∀ ty, (Builtin.delete_ #[tMap, tStr] ty #[.map (some M), .string e0.key]).run Try.prog w2.drew = .ok (.tuple #[]) w3) ∧ DiskPost F w d room (.int .i64 0) (delF (putF (ents.map Ent.abs) tgt e0.f) e0.key) (.returned (.int .i64 0)) w3 := by
        cases hg : getF (ents.map Ent.abs) tgt with
        | some f1 =>
          obtain ⟨e1, he1, hk1, _⟩ := getF_some hg
          subst hk1
          obtain ⟨hE, hD, hP⟩ := renamed_some h' he he1 heq (.int .i64 0)
          have hks2 : ∀ e ∈ putE ents e1.key (fun _ => { e0 with key := e1.key, born := e1.born }), e.key.size ≤ maxLen := by
            intro e hx
            rcases mem_putE hx with rfl | ⟨hx, _⟩
            · exact hk
            · exact hks e hx
          refine ⟨_, clock, _, _, ?_, hks2, hD, rfl, fun ty => drop_any (w := (setBlock w.drew M (.map (esOf (putE ents e1.key fun _ => { e0 with key := e1.key, born := e1.born })) clock)).drew) (setBlock_at h'.map) hD hks2 (hks e0 he) ty, ?_⟩
          · rw [← hE]
            exact store_some h'.map h'.diff hks hk he1 rfl e0.blk
          · exact hP.drew.ended
        | none =>
          have hno := getF_none hg
          obtain ⟨hD, hP⟩ := renamed_none h' he (namedF_size hn) hno (.int .i64 0)
          have hks2 : ∀ e ∈ ents ++ [{ e0 with key := tgt, born := clock }], e.key.size ≤ maxLen := by
            intro e hx
            rcases List.mem_append.1 hx with hx | hx
            · exact hks e hx
            · rw [List.mem_singleton.1 hx]; exact hk
          exact ⟨_, clock + 1, _, _, store_none h'.map hks hk hno { e0 with key := tgt, born := clock } rfl rfl, hks2, hD, rfl, fun ty => drop_any (w := (setBlock w.drew M (.map (esOf (ents ++ [{ e0 with key := tgt, born := clock }])) (clock + 1))).drew) (setBlock_at h'.map) hD hks2 (hks e0 he) ty, hP.drew.ended⟩
      have HP := Lib.hid hpost
      have cD := h'.disk.cell 1
      simp only [List.getElem?_toArray, List.getElem?_cons_succ, List.getElem?_cons_zero] at cD
      have kM : Keeps (· = M) w.drew w2 := by rw [hm2]; exact setBlock_keeps _ rfl
      have cD2 := kM.cell cD (h'.disk.not_map h'.map).symm
      have c22 := kM.cell (w := w.drew) hc2 (fun (e : g2 = M) => n2 (e ▸ h'.mF))
      have c32 := kM.cell (w := w.drew) hc3 (fun (e : g3 = M) => n3 (e ▸ h'.mF))
      clear h h' hpost hm2 kM
      go_enter Try.func49, Try.ntmps49
      go_wp2_with fail
      refine (named_any tgt _ hkk).mono ?_
      rintro e w' ⟨rfl, rfl⟩
      rw [hn]
      go_wp2_with fail
      go_still_tail 6, (by kernel_rfl)
      change wpList _ _ _ _ _ w.drew
      refine wpList_storeE rfl _ _ _ tMap rfl _ _ _ _ rfl rfl rfl hst ?_
      go_wp2_with fail
      go_still_tail 5, (by kernel_rfl)
      change wpList _ _ _ _ _ w2.drew
      refine wpList_dropE rfl _ _ tMap tStr rfl _ _ _ rfl rfl (hdr _) ?_
      go_wp2_with fail
      go_ret
      exact HP.out
end
theorem with_rename {F : Nat → Prop} {d : Nat} {room : Int} {D : List (ByteArray × FileP)} (w : World) (h : DiskIn F w d room D) (k tgt : ByteArray) (hk : k.size ≤ maxLen) (hk2 : tgt.size ≤ maxLen) (g1 g2 g3 : Nat) (hc1 : w.cell? ⟨g1, 0, none⟩ = some (.string tgt)) (hc2 : w.cell? ⟨g2, 0, none⟩ = some (.string k)) (hc3 : w.cell? ⟨g3, 0, none⟩ = some (.pointer (some ⟨d, 0, none⟩)))
    (n1 : ¬ F g1) (n2 : ¬ F g2) (n3 : ¬ F g3) :
    Calls Try.prog 45 #[.pointer (some ⟨d, 0, none⟩), .string k, .func (.func 49) #[] #[.pointer (some ⟨g1, 0, none⟩), .pointer (some ⟨g2, 0, none⟩), .pointer (some ⟨g3, 0, none⟩)]] w (DiskPost F w d room (.int .i64 (renameD D k tgt).1) (renameD D k tgt).2) := by
  obtain ⟨M, clock, ents, h, rfl⟩ := h
  have H := Lib.hid h
  have hks : ∀ e ∈ ents, e.key.size ≤ maxLen := fun e he => Nat.le_trans (h.keys e he) (by decide)
  have cD := h.disk.cell 1
  simp only [List.getElem?_toArray, List.getElem?_cons_succ, List.getElem?_cons_zero] at cD
  cases hg : getF (ents.map Ent.abs) k with
  | none =>
    have hR : renameD (ents.map Ent.abs) k tgt = (8, ents.map Ent.abs) := by unfold renameD; rw [hg]
    have hlk := look_none h.map hks hk (getF_none hg)
    rw [hR]
    clear h hg
    go_enter Try.func45, Try.ntmps45
    go_wp2_with (at_lookup; refine wpList_lookE rfl _ _ tMap true rfl _ _ _ rfl rfl hlk ?_)
    go_ret
    exact H.out.post (Below.refl _ _) _
  | some f =>
    obtain ⟨e0, he, rfl, rfl⟩ := getF_some hg
    have hR : renameD (ents.map Ent.abs) e0.key tgt = (if namedF tgt = false then (14, ents.map Ent.abs) else if e0.key = tgt then (0, ents.map Ent.abs) else (0, delF (putF (ents.map Ent.abs) tgt e0.f) e0.key)) := by unfold renameD; rw [hg]
    have hlk := look_some h.map h.diff hks hk he rfl
    have hcall := Rename1_any w H.out e0 he tgt hk2 g1 g2 g3 hc1 hc2 hc3 n1 n2 n3
    rw [← hR] at hcall
    generalize renameD (ents.map Ent.abs) e0.key tgt = R at *
    clear h hg hR
    go_enter Try.func45, Try.ntmps45
    go_wp2_with (at_lookup; refine wpList_lookE rfl _ _ tMap true rfl _ _ _ rfl rfl hlk ?_)
    refine hcall.mono ?_
    intro e w' hp
    have HP := Lib.hid hp
    obtain ⟨F', rfl, _⟩ := hp
    go_wp2
    go_ret
    exact HP.out
theorem Rename_any {F : Nat → Prop} {d : Nat} {room : Int} {D : List (ByteArray × FileP)} (w : World) (h : DiskIn F w d room D) (k tgt : ByteArray) (hk : k.size ≤ maxLen) (hk2 : tgt.size ≤ maxLen) :
    Calls Try.prog 21 #[.pointer (some ⟨d, 0, none⟩), .string k, .string tgt] w (DiskPost F w d room (.int .i64 (renameD D k tgt).1) (renameD D k tgt).2) := by
  have H := Lib.hid h
  clear h
  generalize hrr : renameD D k tgt = R
  have HRR := Lib.hid hrr
  clear hrr
  go_enter Try.func21, Try.ntmps21
  go_wp2_with fail
  have hb : Below w.heap.size w (((w.alloc (.cells #[.pointer (some ⟨d, 0, none⟩)] 46)).alloc (.cells #[.string k] 9)).alloc (.cells #[.string tgt] 9)) := (((Below.refl _ _).alloc (Nat.le_refl _) _).alloc (by simp) _).alloc (by simp; omega) _
  have c3 : (((w.alloc (.cells #[.pointer (some ⟨d, 0, none⟩)] 46)).alloc (.cells #[.string k] 9)).alloc (.cells #[.string tgt] 9)).cell? ⟨w.heap.size, 0, none⟩ = some (.pointer (some ⟨d, 0, none⟩)) := ((((Blk.new w #[.pointer (some ⟨d, 0, none⟩)] 46).alloc (.cells #[.string k] 9)).alloc (.cells #[.string tgt] 9)).cell 0).trans rfl
  have c2 : (((w.alloc (.cells #[.pointer (some ⟨d, 0, none⟩)] 46)).alloc (.cells #[.string k] 9)).alloc (.cells #[.string tgt] 9)).cell? ⟨w.heap.size + 1, 0, none⟩ = some (.string k) := by
    have := (((Blk.new (w.alloc (.cells #[.pointer (some ⟨d, 0, none⟩)] 46)) #[.string k] 9).alloc (.cells #[.string tgt] 9)).cell 0)
    rw [show (w.alloc (.cells #[.pointer (some ⟨d, 0, none⟩)] 46)).heap.size = w.heap.size + 1 by simp] at this
    exact this.trans rfl
  have c1 : (((w.alloc (.cells #[.pointer (some ⟨d, 0, none⟩)] 46)).alloc (.cells #[.string k] 9)).alloc (.cells #[.string tgt] 9)).cell? ⟨w.heap.size + 1 + 1, 0, none⟩ = some (.string tgt) := by
    have := ((Blk.new ((w.alloc (.cells #[.pointer (some ⟨d, 0, none⟩)] 46)).alloc (.cells #[.string k] 9)) #[.string tgt] 9).cell 0)
    rw [show ((w.alloc (.cells #[.pointer (some ⟨d, 0, none⟩)] 46)).alloc (.cells #[.string k] 9)).heap.size = w.heap.size + 1 + 1 by simp] at this
    exact this.trans rfl
  have hlt := H.out.lt
  refine (with_rename _ (H.out.below hb) k tgt hk hk2 _ _ _ c1 c2 c3 (fun h => by have := hlt _ h; omega) (fun h => by have := hlt _ h; omega) (fun h => by have := hlt _ h; omega)).mono ?_
  rw [HRR.out]
  intro e w' hp
  have HP := Lib.hid (hp.first hb)
  obtain ⟨F', rfl, _⟩ := hp
  clear c1 c2 c3 hb
  go_wp2
  go_ret
  exact HP.out
end Go.Proofs.Ytapgknaoieojkaa.Toll
