/- Walk: snap.Load. -/
import Derived.Test.YtapgknaoieojkaaSnapA
set_option linter.unusedVariables false
set_option linter.unusedSimpArgs false
set_option maxRecDepth 100000
namespace Go.Proofs.Ytapgknaoieojkaa.Toll
open Go.RowKit
def readL (r : Except Int (List UInt8)) : List UInt8 := match r with | .ok b => b | .error _ => []
theorem Read_u {F : Nat → Prop} {d : Nat} {room : Int} {D : List (ByteArray × FileP)} (w : World) (h : DiskIn F w d room D) (k : ByteArray) (hk : k.size ≤ maxLen) :
    Calls Try.prog 51 #[.pointer (some ⟨d, 0, none⟩), .string k] w fun e w' => ∃ A c x, e = .returned (.tuple #[.slice A (readL (readR D k)).length c, .int .i64 x]) ∧ RdB w' A (readL (readR D k)) ∧ (readL (readR D k)).length ≤ c ∧ c ≤ 9223372036854775807 ∧ Below w.heap.size w w' := by
  refine (Read_any w h k hk).mono ?_
  intro e w' hp
  unfold ReadPost at hp
  cases hr : readR D k with
  | error x =>
    rw [hr] at hp
    exact ⟨none, 0, x, hp.1, RdB.nil _ _, Nat.le_refl _, by omega, hp.2⟩
  | ok xs =>
    rw [hr] at hp
    obtain ⟨v, h1, h2, h3⟩ := hp
    obtain ⟨A, c, rfl, h4, h5, h6, _⟩ := h2.form
    exact ⟨A, c, 0, h1, h4, h5, h6, h3⟩
theorem inF_errs {xs : List UInt8} {k : Int} (h : inF xs = .error k) : 1 ≤ k := by
  unfold inF at h
  split at h
  · injection h with h; subst h; have := markF_err ‹_›; omega
  split at h
  · injection h with h; subst h; have := markF_err ‹_›; omega
  split at h
  · injection h with h; subst h; have := rowF_err ‹_›; omega
  split at h
  · injection h with h; subst h; have := memF_errs ‹_›; omega
  split at h
  · injection h with h; subst h; have := rowF_err ‹_›; omega
  split at h
  · injection h with h; omega
  · cases h
theorem sgetF_errs {xs : List UInt8} {k : Int} (h : sgetF xs = .error k) : 1 ≤ k := by
  unfold sgetF at h
  split at h
  · injection h with h; subst h; have := nextF_errs ‹_›; omega
  split at h
  · injection h with h; omega
  · exact inF_errs h
structure SnapFr (base : Nat) (A1 A2 A3 : Option Addr) (s : SnapV) : Prop where
  v : 0 < s.V.length → ∀ ad, A1 = some ad → base ≤ ad.block
  l : 0 < s.L.length → ∀ ad, A2 = some ad → base ≤ ad.block
  d : 0 < s.data.length → ∀ ad, A3 = some ad → base ≤ ad.block
theorem SnapFr.mono {b b' : Nat} {A1 A2 A3 : Option Addr} {s : SnapV} (h : SnapFr b A1 A2 A3 s) (hb : b' ≤ b) : SnapFr b' A1 A2 A3 s :=
  ⟨fun h0 ad e => Nat.le_trans hb (h.v h0 ad e), fun h0 ad e => Nat.le_trans hb (h.l h0 ad e), fun h0 ad e => Nat.le_trans hb (h.d h0 ad e)⟩
theorem SnapAt.keeps {S : Nat → Prop} {w w' : World} {A1 A2 A3 : Option Addr} {s : SnapV} (h : SnapAt w A1 A2 A3 s) (k : Keeps S w w') {base : Nat} (f : SnapFr base A1 A2 A3 s) (hS : ∀ i, base ≤ i → ¬ S i) : SnapAt w' A1 A2 A3 s :=
  ⟨⟨RdV.keeps h.mem.v k (fun h0 ad e => hS _ (f.v (by rwa [i64s_length] at h0) ad e)), RdV.keeps h.mem.l k (fun h0 ad e => hS _ (f.l (by rwa [i64s_length] at h0) ad e)), h.mem.vl, h.mem.ll⟩, h.data.keeps k (fun h0 ad e => hS _ (f.d h0 ad e)), h.dl⟩
def SRes (r : Except Int SnapV) (w : World) (e : Ending) (w' : World) : Prop := Below w.heap.size w w' ∧ (match r with
  | .error k => e = .returned (.tuple #[nilS, .int .i64 k])
  | .ok s => ∃ A1 A2 A3 c1 c2 c3, e = .returned (.tuple #[snapVal A1 A2 A3 c1 c2 c3 s, .int .i64 0]) ∧ SnapAt w' A1 A2 A3 s ∧ SnapFr w.heap.size A1 A2 A3 s)
theorem SRes.err {r : Except Int SnapV} {w w' : World} {k : Int} (h : r = .error k) (hb : Below w.heap.size w w') : SRes r w (.returned (.tuple #[nilS, .int .i64 k])) w' := by
  unfold SRes
  rw [h]
  exact ⟨hb, rfl⟩
theorem SRes.ok {r : Except Int SnapV} {w w' : World} {s : SnapV} {A1 A2 A3 : Option Addr} {c1 c2 c3 : Nat} (h : r = .ok s) (hb : Below w.heap.size w w') (ha : SnapAt w' A1 A2 A3 s) (hf : SnapFr w.heap.size A1 A2 A3 s) : SRes r w (.returned (.tuple #[snapVal A1 A2 A3 c1 c2 c3 s, .int .i64 0])) w' := by
  unfold SRes
  rw [h]
  exact ⟨hb, A1, A2, A3, c1, c2, c3, rfl, ha, hf⟩
theorem OwV.memAt {w : World} {b1 b2 : Nat} {A1 A2 : Option Addr} {c1 c2 : Nat} {V L : List Int} (h1 : OwV 3 1 b1 w (.slice A1 V.length c1) V.length (i64s V)) (h2 : OwV 3 1 b2 w (.slice A2 L.length c2) L.length (i64s L)) : MemAt w A1 A2 V L ∧ (0 < V.length → ∀ ad, A1 = some ad → b1 ≤ ad.block) ∧ (0 < L.length → ∀ ad, A2 = some ad → b2 ≤ ad.block) := by
  obtain ⟨X, c, e, hr, _, hl, hc, hf⟩ := h1.form
  obtain ⟨X', c', e', hr', _, hl', hc', hf'⟩ := h2.form
  cases e
  cases e'
  exact ⟨⟨hr, hr', by omega, by omega⟩, hf, hf'⟩
theorem inF_dl {xs : List UInt8} {s : SnapV} (h : inF xs = .ok s) : s.data.length ≤ 16384 := by
  unfold inF at h
  split at h
  · cases h
  split at h
  · cases h
  split at h
  · cases h
  split at h
  · cases h
  split at h
  · cases h
  rename_i hr
  split at h
  · cases h
  · injection h with h
    subst h
    have := (rowF_le hr).2.1
    simp only [List.length_take]
    omega
theorem sgetF_dl {xs : List UInt8} {s : SnapV} (h : sgetF xs = .ok s) : s.data.length ≤ 16384 := by
  unfold sgetF at h
  split at h
  · cases h
  split at h
  · cases h
  · exact inF_dl h
/-- snap.Get, told with SRes. -/
theorem SGet_res (A : Option Addr) (c : Nat) (xs : List UInt8) (w : World) (hs : xs.length ≤ 9223372036854775807) (hc : xs.length ≤ c) (hcm : c ≤ 9223372036854775807) (hx : RdB w A xs) :
    Calls Try.prog 10 #[.slice A xs.length c] w (SRes (sgetF xs) w) := by
  refine (SGet_any A c xs w hs hc hcm hx).mono ?_
  intro e w' ⟨hb, hr⟩
  refine ⟨hb, ?_⟩
  cases hg : sgetF xs with
  | error k => rw [hg] at hr; exact hr
  | ok s =>
    rw [hg] at hr
    obtain ⟨A1, A2, A3, c1, c2, c3, he, oV, oL, hd, hd2⟩ := hr
    have hm := oV.memAt oL
    have := sgetF_dl hg
    exact ⟨A1, A2, A3, c1, c2, c3, he, ⟨hm.1, hd, by omega⟩, hm.2.1, hm.2.2, hd2⟩
theorem keeps_set5 (w : World) (g : Nat) (a b c d e : Value) : Keeps (· = g) w (((((w.setCell ⟨g, 0, none⟩ a).setCell ⟨g, 1, none⟩ b).setCell ⟨g, 2, none⟩ c).setCell ⟨g, 3, none⟩ d).setCell ⟨g, 4, none⟩ e) := by
  have k : ∀ (W : World) (p : Addr) (v : Value), p.block = g → Keeps (· = g) W (W.setCell p v) := fun W p v h => Keeps.setCell W p v (.inl h)
  exact ((((k _ _ _ rfl).trans (k _ _ _ rfl)).trans (k _ _ _ rfl)).trans (k _ _ _ rfl)).trans (k _ _ _ rfl)
structure LoadQ (F : Nat → Prop) (w w1 : World) (d : Nat) (room : Int) (D : List (ByteArray × FileP)) (L : List NIdx) (A : Option Addr) (i : Value) (wr : World) : Prop where
  ex : ∃ k : Nat, k ≤ L.length ∧ i = .int .i64 (k : Int) ∧ Below w1.heap.size w1 wr ∧ loadF D = loadL D (L.drop k)
theorem loadL_cons (D : List (ByteArray × FileP)) (y : NIdx) (t : List NIdx) : loadL D (y :: t) = (match sgetF (readL (readR D (nameK y.val))) with | .error _ => loadL D t | .ok s => if s.idx = (y.val : Int) then .ok s else loadL D t) := rfl
theorem loadL_skip {D : List (ByteArray × FileP)} {y : NIdx} {t : List NIdx} {k : Int} (h : sgetF (readL (readR D (nameK y.val))) = .error k) : loadL D (y :: t) = loadL D t := by
  rw [loadL_cons, h]
theorem loadL_other {D : List (ByteArray × FileP)} {y : NIdx} {t : List NIdx} {s : SnapV} (h : sgetF (readL (readR D (nameK y.val))) = .ok s) (hn : ¬ s.idx = (y.val : Int)) : loadL D (y :: t) = loadL D t := by
  rw [loadL_cons, h]
  exact if_neg hn
theorem loadL_this {D : List (ByteArray × FileP)} {y : NIdx} {t : List NIdx} {s : SnapV} (h : sgetF (readL (readR D (nameK y.val))) = .ok s) (hn : s.idx = (y.val : Int)) : loadL D (y :: t) = .ok s := by
  rw [loadL_cons, h]
  exact if_pos hn
set_option maxHeartbeats 1000000 in
theorem Load_any {F : Nat → Prop} {d : Nat} {room : Int} {D : List (ByteArray × FileP)} (w : World) (h : DiskIn F w d room D) :
    Calls Try.prog 23 #[.pointer (some ⟨d, 0, none⟩)] w (SRes (loadF D) w) := by
  have H := Lib.hid h
  clear h
  have hb0 : Below w.heap.size w (w.alloc (.cells #[.int .i64 0, .int .i64 0, .slice none 0 0, .slice none 0 0, .slice none 0 0] 29)) := (Below.refl _ _).alloc (Nat.le_refl _) _
  have kb0 := Blk.new w #[.int .i64 0, .int .i64 0, .slice none 0 0, .slice none 0 0, .slice none 0 0] 29
  have hsz0 : (w.alloc (.cells #[.int .i64 0, .int .i64 0, .slice none 0 0, .slice none 0 0, .slice none 0 0] 29)).heap.size = w.heap.size + 1 := by simp
  have HB0 := Lib.hid hb0
  have KB0 := Lib.hid kb0
  have HSZ0 := Lib.hid hsz0
  clear hb0 kb0 hsz0
  go_enter Try.func23, Try.ntmps23
  go_wp2_with fail
  refine (files_any _ (H.out.below HB0.out)).mono ?_
  rintro e w1 ⟨FA, fc, rfl, hrd, b1, hfb, hL16⟩
  have hload : loadF D = loadL D (filesF D) := rfl
  generalize filesF D = L at *
  have k1 := KB0.out.below b1
  have B1 := Lib.hid (HB0.out.trans (b1.mono (by rw [HSZ0.out]; omega)))
  have hsz1 : w.heap.size < w1.heap.size := k1.lt
  have K1 := Lib.hid k1
  have HRD := Lib.hid hrd
  have HLOAD := Lib.hid hload
  have hfl := flat_len L
  have hnf : 0 < L.length → ∃ g, FA = some ⟨g, 0, none⟩ := fun h0 => by obtain ⟨g, e, _⟩ := hfb h0; exact ⟨g, e⟩
  have HFL := Lib.hid hfl
  have HNF := Lib.hid hnf
  clear k1 b1 hrd hload hfb hfl hnf
  go_wp2_with fail
  go_loopw [16] (fun i wr => LoadQ F w w1 d room D L FA i wr) (fun i _ => L.length - (intOf i).toNat)
  case atStart => exact ⟨0, Nat.zero_le _, rfl, Below.refl _ _, HLOAD.out⟩
  case round =>
    obtain ⟨k, hk, rfl, hb, hq⟩ := hrel
    have HB := Lib.hid hb
    have HQ := Lib.hid hq
    have hsr : w.heap.size < wr.heap.size := Nat.lt_of_lt_of_le hsz1 hb.size
    have kr := K1.out.below hb
    have KR := Lib.hid kr
    have BR := Lib.hid (B1.out.trans (hb.mono (Nat.le_of_lt hsz1)))
    clear hb hq kr
    by_cases hkl : k < L.length
    · obtain ⟨b, rfl⟩ := HNF.out (by omega)
      obtain ⟨ad0, e0, hc0⟩ := (HRD.out.below HB.out) (k * 2) (by rw [HFL.out]; omega)
      obtain ⟨ad1, e1, hc1⟩ := (HRD.out.below HB.out) (k * 2 + 1) (by rw [HFL.out]; omega)
      cases e0
      cases e1
      rw [own_zero_add] at hc0 hc1
      have g0 : (L.flatMap encF)[k * 2]'(by rw [HFL.out]; omega) = .string (nameK (L[k]).val) := by
        have := flat_get L (k * 2) (by omega)
        rw [List.getElem?_eq_getElem (by rw [HFL.out]; omega)] at this
        have h2 := Option.some.inj this
        rw [h2, show k * 2 / 2 = k by omega, show k * 2 % 2 = 0 by omega]
        simp [hkl, encF, nameK]
      have g1 : (L.flatMap encF)[k * 2 + 1]'(by rw [HFL.out]; omega) = .int .i64 ((L[k]).val : Int) := by
        have := flat_get L (k * 2 + 1) (by omega)
        rw [List.getElem?_eq_getElem (by rw [HFL.out]; omega)] at this
        have h2 := Option.some.inj this
        rw [h2, show (k * 2 + 1) / 2 = k by omega, show (k * 2 + 1) % 2 = 1 by omega]
        simp [hkl, encF]
      rw [g0] at hc0
      rw [g1] at hc1
      have hdr : L.drop k = L[k] :: L.drop (k + 1) := List.drop_eq_getElem_cons hkl
      generalize hx0 : L[k] = y at *
      have HDR := Lib.hid hdr
      have hba : Below wr.heap.size wr (wr.alloc (.cells #[.string (nameK y.val), .int .i64 (y.val : Int)] tSf)) := (Below.refl _ _).alloc (Nat.le_refl _) _
      have kf := Blk.new wr #[.string (nameK y.val), .int .i64 (y.val : Int)] tSf
      have HBA := Lib.hid hba
      have KF := Lib.hid kf
      clear g0 g1 hdr hba kf hx0
      go_wp2_with fail
      refine (Read_u _ (((H.out.below B1.out).below HB.out).below HBA.out) (nameK y.val) (Nat.le_trans (nameF_size _) (by decide))).mono ?_
      rintro e w2 ⟨A2, c2, x2, rfl, hr2, hl2, hm2, b2⟩
      generalize hxs : readL (readR D (nameK y.val)) = xs at *
      have HXS := Lib.hid hxs
      have HR2 := Lib.hid hr2
      have hba2 : Below wr.heap.size wr w2 := HBA.out.trans (b2.mono HBA.out.size)
      have kf2 := KF.out.below b2
      have HBA2 := Lib.hid hba2
      have KF2 := Lib.hid kf2
      clear hxs hr2 b2 hba2 kf2
      go_wp2_with fail
      refine (SGet_res A2 c2 xs w2 (by omega) hl2 hm2 HR2.out).mono ?_
      intro e w3 hp
      obtain ⟨b3, hp⟩ := hp
      have hba3 : Below wr.heap.size wr w3 := HBA2.out.trans (b3.mono HBA2.out.size)
      have kf3 := KF2.out.below b3
      have HBA3 := Lib.hid hba3
      have hB3 := HB.out.trans (hba3.mono HB.out.size)
      have HB3 := Lib.hid hB3
      have hsf3 : wr.heap.size < w3.heap.size := kf3.lt
      have q0 := (kf3.alloc (.cells #[.int .i64 0, .int .i64 0, .slice none 0 0, .slice none 0 0, .slice none 0 0] 29)).cell 1
      clear q0
      have KF3 := Lib.hid kf3
      clear b3 hba3 hB3
      cases hg : sgetF xs with
      | error k3 =>
        rw [hg] at hp
        subst hp
        have h1 := sgetF_errs hg
        have hk0 : (k3 == 0) = false := by simp; omega
        have hF : LoadQ F w w1 d room D L (some ⟨b, 0, none⟩) (.int .i64 ((k : Int) + 1)) (w3.alloc (.cells #[.int .i64 0, .int .i64 0, .slice none 0 0, .slice none 0 0, .slice none 0 0] 29)) :=
          ⟨k + 1, hkl, rfl, HB3.out.alloc HB3.out.size _, by rw [HQ.out, HDR.out]; exact loadL_skip (by rw [HXS.out]; exact hg)⟩
        have HF := Lib.hid hF
        clear hF hg h1 kf3
        go_wp2_with fail
        exact ⟨HF.out, round_less' hkl⟩
      | ok s =>
        rw [hg] at hp
        obtain ⟨A1, A2', A3, c1, c2', c3, rfl, hsn, hfr⟩ := hp
        have HFR := Lib.hid (hfr.mono (Nat.le_trans (Nat.le_of_lt (Nat.lt_of_lt_of_le hsr HBA2.out.size)) (Nat.le_refl _)))
        have HFR1 : Hid (SnapFr (w.heap.size + 1) A1 A2' A3 s) := hfr.mono (Nat.lt_of_lt_of_le hsr HBA2.out.size)
        have HSN := Lib.hid hsn
        have HG := Lib.hid hg
        have q1 := kf3.cell 1
        simp only [List.getElem?_toArray, List.getElem?_cons_succ, List.getElem?_cons_zero] at q1
        clear hg hsn kf3 hfr
        by_cases hi : s.idx = (y.val : Int)
        · have hi' : (s.idx == (y.val : Int)) = true := by simp [hi]
          have hF : loadF D = .ok s := by rw [HQ.out, HDR.out]; exact loadL_this (by rw [HXS.out]; exact HG.out) hi
          have HF := Lib.hid hF
          have HI := Lib.hid hi
          clear hF hi
          have k3 := KR.out.below HBA3.out
          have f3 := k3.frozen
          have q3 := k3.cell
          have K3 := Lib.hid k3
          clear k3
          have hs3 : w.heap.size < w3.heap.size := Nat.lt_trans hsr hsf3
          go_wp2_with fail
          refine bodyPost_ret (v := .tuple #[snapVal A1 A2' A3 c1 c2' c3 s, .int .i64 0]) (by simp [results, Try.results23, go_sem, q3, hs3]) rfl ?_
          have ks := keeps_set5 w3 w.heap.size (.int .i64 s.idx) (.int .i64 s.term) (.slice A1 s.V.length c1) (.slice A2' s.L.length c2') (.slice A3 s.data.length c3)
          refine SRes.ok HF.out ?_ ((HSN.out.keeps ks HFR1.out (fun i hi e => by omega)).below ((Below.refl _ _).alloc (Nat.le_refl _) _)) HFR.out
          exact (below_set5 (BR.out.trans (HBA3.out.mono (Nat.le_of_lt hsr))) (Nat.le_refl _)).alloc (by simp; omega) _
        · have hi' : (s.idx == (y.val : Int)) = false := by simp [hi]
          have hF : LoadQ F w w1 d room D L (some ⟨b, 0, none⟩) (.int .i64 ((k : Int) + 1)) (w3.alloc (.cells #[.int .i64 s.idx, .int .i64 s.term, .slice A1 s.V.length c1, .slice A2' s.L.length c2', .slice A3 s.data.length c3] 29)) :=
            ⟨k + 1, hkl, rfl, HB3.out.alloc HB3.out.size _, by rw [HQ.out, HDR.out]; exact loadL_other (by rw [HXS.out]; exact HG.out) hi⟩
          have HF := Lib.hid hF
          clear hF hi
          go_wp2_with fail
          exact ⟨HF.out, round_less' hkl⟩
    · obtain rfl : k = L.length := by omega
      have hF : loadF D = .error 8 := by rw [HQ.out, List.drop_length]; rfl
      have HF := Lib.hid hF
      have f0 := KR.out.frozen
      have q0 := KR.out.cell
      clear hF
      go_wp2_with fail
      refine bodyPost_ret (v := .tuple #[nilS, .int .i64 8]) (by simp [results, Try.results23, go_sem, q0]) rfl ?_
      exact SRes.err HF.out (below_set5 BR.out (Nat.le_refl _))
end Go.Proofs.Ytapgknaoieojkaa.Toll
