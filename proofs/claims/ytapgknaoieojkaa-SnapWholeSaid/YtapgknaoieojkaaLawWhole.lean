/- SnapWhole: behind a crash anywhere in a save the elder snapshot is there, or the new one: for every two snapshots, every place of the crash and every number that it keeps. Conditions: none. -/
import Derived.Test.YtapgknaoieojkaaLawK
import Derived.Test.YtapgknaoieojkaaPlainW
import Derived.Lib.EndianBits
import Derived.WideKeyPair
set_option linter.unusedVariables false
set_option linter.unusedSimpArgs false
set_option maxRecDepth 100000
namespace Go.Proofs.Ytapgknaoieojkaa.Toll
open Go.RowKit Go.ChangeShapes Go.WideShapes Go.ChangeAt
abbrev tS : TypeId := 29
abbrev tA2 : TypeId := 45
abbrev tInt : TypeId := 3
/-- The boxes of the three arguments. -/
structure Box3 (W : World) (g : Nat) (ca cb cl : Array Value) : Prop where
  a : Blk W g ca tS
  b : Blk W (g + 1) cb tS
  l : Blk W (g + 1 + 1) cl tA2
theorem Box3.below {W W' : World} {g : Nat} {ca cb cl : Array Value} (h : Box3 W g ca cb cl) (k : Below W.heap.size W W') : Box3 W' g ca cb cl := ⟨h.a.below k, h.b.below k, h.l.below k⟩
theorem Box3.keeps {S : Nat → Prop} {W W' : World} {g : Nat} {ca cb cl : Array Value} (h : Box3 W g ca cb cl) (k : Keeps S W W') (hS : ∀ i, S i → g + 1 + 1 < i) : Box3 W' g ca cb cl :=
  ⟨h.a.keeps k (fun x => by have := hS _ x; omega), h.b.keeps k (fun x => by have := hS _ x; omega), h.l.keeps k (fun x => by have := hS _ x; omega)⟩
theorem Box3.lt {W : World} {g : Nat} {ca cb cl : Array Value} (h : Box3 W g ca cb cl) : g + 1 + 1 < W.heap.size := h.l.lt
def cellsOfS (A1 A2 A3 : Option Addr) (c1 c2 c3 : Nat) (s : SnapV) : Array Value := #[.int .i64 s.idx, .int .i64 s.term, .slice A1 s.V.length c1, .slice A2 s.L.length c2, .slice A3 s.data.length c3]
theorem cells5 {W : World} {g : Nat} {A1 A2 A3 : Option Addr} {c1 c2 c3 : Nat} {s : SnapV} (h : Blk W g (cellsOfS A1 A2 A3 c1 c2 c3 s) tS) : W.cell? ⟨g, 0, none⟩ = some (.int .i64 s.idx) ∧ W.cell? ⟨g, 1, none⟩ = some (.int .i64 s.term) ∧ W.cell? ⟨g, 2, none⟩ = some (.slice A1 s.V.length c1) ∧ W.cell? ⟨g, 3, none⟩ = some (.slice A2 s.L.length c2) ∧ W.cell? ⟨g, 4, none⟩ = some (.slice A3 s.data.length c3) := five_cells h
theorem save_other {k : Int} {s : SnapV} (h : sputF s = .error k) (D : Dk) : saveD 65536 D s = (k, D) := by unfold saveD; rw [h]
theorem names_one (n : Nat) (x : List UInt8) : namesF [wholeP n x] = [nameF n] := by
  unfold namesF
  rw [List.map_singleton, List.mergeSort_singleton]
  rfl
theorem no_tmp {n : NIdx} (h0 : n.val ≠ 0) (x : List UInt8) : getF [wholeP n.val x] tmpK = none := getF_none_of (fun p hp => by
  have : p = wholeP n.val x := by simpa using hp
  rw [this]
  exact fun e => tmpK_ne n h0 e.symm)
/-- The state behind a step: the disk, the boxes, the framed bytes of b. -/
structure WSt (w : World) (d gx : Nat) (ca cb cl : Array Value) (xb : List UInt8) (F : Nat → Prop) (W : World) (D : Dk) : Prop where
  din : DiskIn F W d 65536 D
  box : Box3 W w.heap.size ca cb cl
  rb : RdB W (some ⟨gx, 0, none⟩) xb
  bel : Below w.heap.size w W
  hf : ∀ i, F i → w.heap.size + 1 + 1 < i ∧ i ≠ gx
  gl : gx < W.heap.size
theorem WSt.next {w W W' : World} {d gx : Nat} {ca cb cl : Array Value} {xb : List UInt8} {F F' : Nat → Prop} {D D' : Dk} (h : WSt w d gx ca cb cl xb F W D) (ds : DS F W F' W' d 65536 D') : WSt w d gx ca cb cl xb F' W' D' := by
  have hb := h.box.lt
  have hg := h.gl
  exact ⟨ds.din, h.box.keeps ds.keep (fun i hi => (h.hf i hi).1), h.rb.keeps ds.keep (fun _ ad e hF => by cases e; exact (h.hf _ hF).2 rfl), h.bel.trans (ds.keep.below (fun i _ hi => by have := (h.hf i hi).1; omega) h.bel.size), fun i hi => by
    rcases ds.new i hi with h1 | h1
    · exact h.hf i h1
    · exact ⟨by omega, by omega⟩, Nat.lt_of_lt_of_le hg ds.keep.size⟩
theorem WSt.out {w W W' : World} {d gx : Nat} {ca cb cl : Array Value} {xb : List UInt8} {F S : Nat → Prop} {D : Dk} (h : WSt w d gx ca cb cl xb F W D) (k : Keeps S W W') (hS : ∀ i, S i → w.heap.size + 1 + 1 < i ∧ i ≠ gx ∧ ¬ F i) : WSt w d gx ca cb cl xb F W' D :=
  ⟨h.din.out k (fun i hi hs => (hS i hs).2.2 hi), h.box.keeps k (fun i hi => (hS i hi).1), h.rb.keeps k (fun _ ad e hF => by cases e; exact (hS _ hF).2.1 rfl), h.bel.trans (k.below (fun i _ hi => by have := (hS i hi).1; omega) h.bel.size), h.hf, Nat.lt_of_lt_of_le h.gl k.size⟩
theorem WSt.below {w W W' : World} {d gx : Nat} {ca cb cl : Array Value} {xb : List UInt8} {F : Nat → Prop} {D : Dk} (h : WSt w d gx ca cb cl xb F W D) (b : Below W.heap.size W W') : WSt w d gx ca cb cl xb F W' D :=
  ⟨h.din.below b, h.box.below b, h.rb.below b, h.bel.trans (b.mono h.bel.size), h.hf, Nat.lt_of_lt_of_le h.gl b.size⟩
/-- The state behind the crash. -/
structure TSt (w : World) (d gx g11 : Nat) (ca cb cl : Array Value) (xb : List UInt8) (W1 W2 W3 : Option Addr) (e1 e2 e3 : Nat) (ws : SnapV) (F : Nat → Prop) (W : World) (D : Dk) : Prop where
  st : WSt w d gx ca cb cl xb F W D
  blk : Blk W g11 (cellsOfS W1 W2 W3 e1 e2 e3 ws) tS
  sat : SnapAt W W1 W2 W3 ws
  nf : ¬ F g11
theorem TSt.below {w W W' : World} {d gx g11 : Nat} {ca cb cl : Array Value} {xb : List UInt8} {W1 W2 W3 : Option Addr} {e1 e2 e3 : Nat} {ws : SnapV} {F : Nat → Prop} {D : Dk} (h : TSt w d gx g11 ca cb cl xb W1 W2 W3 e1 e2 e3 ws F W D) (b : Below W.heap.size W W') : TSt w d gx g11 ca cb cl xb W1 W2 W3 e1 e2 e3 ws F W' D :=
  ⟨h.st.below b, h.blk.below b, h.sat.below b, h.nf⟩
theorem TSt.next {w W W' : World} {d gx g11 : Nat} {ca cb cl : Array Value} {xb : List UInt8} {W1 W2 W3 : Option Addr} {e1 e2 e3 : Nat} {ws : SnapV} {F F' : Nat → Prop} {D D' : Dk} (h : TSt w d gx g11 ca cb cl xb W1 W2 W3 e1 e2 e3 ws F W D) (ds : DS F W F' W' d 65536 D') (h0 : SnapAt w W1 W2 W3 ws) : TSt w d gx g11 ca cb cl xb W1 W2 W3 e1 e2 e3 ws F' W' D' :=
  ⟨h.st.next ds, h.blk.keeps ds.keep h.nf, h0.below (h.st.next ds).bel, fun hf => by
    rcases ds.new _ hf with h1 | h1
    · exact h.nf h1
    · have := h.blk.lt
      omega⟩
theorem keep_rd (w : World) (l1 : Int) (t : TypeId) : RdI (w.alloc (.cells #[.int .i64 l1, .int .i64 l1, .int .i64 l1] t)) (some ⟨w.heap.size, 0, none⟩) [l1, l1, l1] := fun j hj => by
  refine ⟨_, rfl, ?_⟩
  rw [own_zero_add]
  simp only [World.cell?, heap_alloc_new, Option.bind_some]
  have : j < 3 := by simpa [i64s] using hj
  match j, this with
  | 0, _ => rfl
  | 1, _ => rfl
  | 2, _ => rfl
theorem names_single {w w' : World} {nm : List UInt8} {e : Ending} (h : NamesPost w [nm] e w') : ∃ g c, e = .returned (.slice (some ⟨g, 0, none⟩) 1 c) ∧ w'.cell? ⟨g, 0, none⟩ = some (.string (keyL nm)) ∧ Below w.heap.size w w' := by
  obtain ⟨v, rfl, ho, hb⟩ := h
  have ho' : w'.ownsRow w.heap.size tStr 1 v 1 (strs [nm]) := ho
  obtain ⟨g, c, rfl⟩ : ∃ g c, v = .slice (some ⟨g, 0, none⟩) 1 c := by
    rcases ho'.2 with ⟨_, h0⟩ | ⟨g, cap, cur, rfl, _⟩
    · omega
    · exact ⟨_, _, rfl⟩
  exact ⟨g, c, rfl, (World.ownsRow.cellAt ho' 0 (by decide)).trans (by simp [strs, keyL, Go.Proofs.encStr]), hb⟩
set_option maxHeartbeats 8000000 in
theorem whole_walk (A1 A2 A3 B1 B2 B3 : Option Addr) (c1 c2 c3 d1 d2 d3 : Nat) (a b : SnapV) (l0 l1 : Int) (w : World) (ha : SnapAt w A1 A2 A3 a) (hb : SnapAt w B1 B2 B3 b) (hl1 : l1 ≤ 9223372036854775807) :
    Calls Try.prog 6 #[snapVal A1 A2 A3 c1 c2 c3 a, snapVal B1 B2 B3 d1 d2 d3 b, .agg #[.int .i64 l0, .int .i64 l1]] w (LawEnd w) := by
  have HA := Lib.hid ha
  have HB := Lib.hid hb
  have hbw : Below w.heap.size w (((w.alloc (.cells (cellsOfS A1 A2 A3 c1 c2 c3 a) tS)).alloc (.cells (cellsOfS B1 B2 B3 d1 d2 d3 b) tS)).alloc (.cells #[.int .i64 l0, .int .i64 l1] tA2)) := (((Below.refl _ _).alloc (Nat.le_refl _) _).alloc (by simp) _).alloc (by simp; omega) _
  have hbx : Box3 (((w.alloc (.cells (cellsOfS A1 A2 A3 c1 c2 c3 a) tS)).alloc (.cells (cellsOfS B1 B2 B3 d1 d2 d3 b) tS)).alloc (.cells #[.int .i64 l0, .int .i64 l1] tA2)) w.heap.size (cellsOfS A1 A2 A3 c1 c2 c3 a) (cellsOfS B1 B2 B3 d1 d2 d3 b) #[.int .i64 l0, .int .i64 l1] := by
    refine ⟨((Blk.new w _ _).alloc _).alloc _, ?_, ?_⟩
    · have := (Blk.new (w.alloc (.cells (cellsOfS A1 A2 A3 c1 c2 c3 a) tS)) (cellsOfS B1 B2 B3 d1 d2 d3 b) tS).alloc (.cells #[.int .i64 l0, .int .i64 l1] tA2)
      simpa using this
    · have := Blk.new ((w.alloc (.cells (cellsOfS A1 A2 A3 c1 c2 c3 a) tS)).alloc (.cells (cellsOfS B1 B2 B3 d1 d2 d3 b) tS)) #[.int .i64 l0, .int .i64 l1] tA2
      simpa using this
  have HBW := Lib.hid hbw
  have HBX := Lib.hid hbx
  clear ha hb hbw hbx
  have hguard : (decide (4000 < (a.data.length : Int)) = true) ∨ (decide (4000 < (a.data.length : Int)) = false ∧ decide (4000 < (b.data.length : Int)) = true) ∨ (decide (4000 < (a.data.length : Int)) = false ∧ decide (4000 < (b.data.length : Int)) = false ∧ decide (b.idx ≤ a.idx) = true) ∨
      (decide (4000 < (a.data.length : Int)) = false ∧ decide (4000 < (b.data.length : Int)) = false ∧ decide (b.idx ≤ a.idx) = false ∧ a.data.length ≤ 4000 ∧ b.data.length ≤ 4000 ∧ a.idx < b.idx) := by
    by_cases x1 : 4000 < a.data.length
    · exact .inl (by simp; omega)
    · by_cases x2 : 4000 < b.data.length
      · exact .inr (.inl ⟨by simp; omega, by simp; omega⟩)
      · by_cases x3 : b.idx ≤ a.idx
        · exact .inr (.inr (.inl ⟨by simp; omega, by simp; omega, by simpa using x3⟩))
        · exact .inr (.inr (.inr ⟨by simp; omega, by simp; omega, by simpa using x3, by omega, by omega, by omega⟩))
  rcases hguard with g1 | ⟨g1, g2⟩ | ⟨g1, g2, g3⟩ | ⟨g1, g2, g3, had, hbd, hab⟩
  rotate_left 3
  · go_enter Try.func6, Try.ntmps6
    go_wp2_with fail
    refine (New_any 65536 _ (by decide) (by decide)).mono ?_
    rintro e w1 ⟨d, F, rfl, din, b1, hF⟩
    have hx1 := HBX.out.below b1
    have HX1 := Lib.hid hx1
    have hlt1 := hx1.lt
    have HD1 := Lib.hid (show DiskIn F w1 d 65536 [] from din)
    have hF1 : ∀ i, F i → w.heap.size + 1 + 1 < i := fun i hi => Nat.lt_of_lt_of_le HBX.out.lt (hF i hi)
    have HF1 := Lib.hid hF1
    have HB1 := Lib.hid (HBW.out.trans (b1.mono HBW.out.size))
    have qb := cells5 hx1.b
    obtain ⟨qb0, qb1, qb2, qb3, qb4⟩ := qb
    clear din b1 hF hx1 hF1
    go_wp2_with fail
    cases hpb : sputF b with
    | error kb =>
      have hkb := sputF_err hpb
      have hkb0 : (kb != 0) = true := by simp; omega
      have HPB := Lib.hid hpb
      clear hpb hkb
      refine (SPut_err B1 B2 B3 d1 d2 d3 b kb _ (HB.out.below HB1.out) HPB.out).mono ?_
      rintro e w2 ⟨rfl, b2⟩
      have hx2 := HX1.out.below b2
      obtain ⟨qa0, qa1, qa2, qa3, qa4⟩ := cells5 hx2.a
      have HB2 := Lib.hid (HB1.out.trans (b2.mono HB1.out.size))
      have HD2 := Lib.hid (HD1.out.below b2)
      clear b2 hx2
      go_wp2_with fail
      refine (Save_any w2 HD2.out A1 A2 A3 c1 c2 c3 a (HA.out.below HB2.out)).mono ?_
      generalize saveD 65536 [] a = SD at *
      intro e w3 hp
      obtain ⟨F3, rfl, ds3⟩ := hp.ds
      have HB3 := Lib.hid (HB2.out.trans (ds3.keep.below (fun i _ hi => by have := HF1.out i hi; omega) HB2.out.size))
      clear hp ds3
      by_cases hs0 : SD.1 = 0
      · have hsn : (SD.1 != 0) = false := by simp [hs0]
        clear hs0
        go_wp2_with fail
        refine (live_any _).mono ?_
        rintro e w4 ⟨rfl, b4⟩
        have HB4 := Lib.hid (HB3.out.trans (b4.mono HB3.out.size))
        clear b4
        go_wp2_with fail
        go_ret
        exact ⟨rfl, HB4.out⟩
      · have hsn : (SD.1 != 0) = true := by simp [hs0]
        clear hs0
        go_wp2_with fail
        refine (live_any _).mono ?_
        rintro e w4 ⟨rfl, b4⟩
        have HB4 := Lib.hid (HB3.out.trans (b4.mono HB3.out.size))
        clear b4
        go_wp2_with fail
        go_ret
        exact ⟨rfl, HB4.out⟩
    | ok xb =>
      obtain ⟨ib1, ib2, -⟩ := sputF_ok hpb
      have hlb := put_len hpb hbd
      have HPB := Lib.hid hpb
      clear hpb
      refine (SPut_okx B1 B2 B3 d1 d2 d3 b xb _ (HB.out.below HB1.out) HPB.out).mono ?_
      rintro e w2 ⟨gx, hgx, rfl, hrow, b2⟩
      have hx2 := HX1.out.below b2
      obtain ⟨qa0, qa1, qa2, qa3, qa4⟩ := cells5 hx2.a
      have hgl : gx < w2.heap.size := (Array.getElem?_eq_some_iff.1 hrow).1
      have hrb : RdB w2 (some ⟨gx, 0, none⟩) xb := by have := rowB_rd hrow 0; simpa using this
      have HRB := Lib.hid hrb
      have HX2 := Lib.hid hx2
      have HB2 := Lib.hid (HB1.out.trans (b2.mono HB1.out.size))
      have HD2 := Lib.hid (HD1.out.below b2)
      have HL1 := Lib.hid HD1.out.lt
      clear b2 hx2 hrow hrb qb0 qb1 qb2 qb3 qb4
      go_wp2_with fail
      refine (Save_any w2 HD2.out A1 A2 A3 c1 c2 c3 a (HA.out.below HB2.out)).mono ?_
      cases hpa : sputF a with
      | error ka =>
        have hka := sputF_err hpa
        have hka0 : (ka != 0) = true := by simp; omega
        rw [save_other hpa]
        intro e w3 hp
        obtain ⟨F3, rfl, ds3⟩ := hp.ds
        have HB3 := Lib.hid (HB2.out.trans (ds3.keep.below (fun i _ hi => by have := HF1.out i hi; omega) HB2.out.size))
        clear hp ds3 hpa hka
        go_wp2_with fail
        refine (live_any _).mono ?_
        rintro e w4 ⟨rfl, b4⟩
        have HB4 := Lib.hid (HB3.out.trans (b4.mono HB3.out.size))
        clear b4
        go_wp2_with fail
        go_ret
        exact ⟨rfl, HB4.out⟩
      | ok xa =>
        obtain ⟨ia1, ia2, -⟩ := sputF_ok hpa
        have hla := put_len hpa had
        obtain ⟨na, hna⟩ : ∃ n : NIdx, a.idx = (n.val : Int) := ⟨⟨a.idx.toNat, by omega⟩, by simp; omega⟩
        obtain ⟨nb, hnb⟩ : ∃ n : NIdx, b.idx = (n.val : Int) := ⟨⟨b.idx.toNat, by omega⟩, by simp; omega⟩
        have T : Two na nb b xa xb := ⟨by omega, by omega, by omega, hnb, HPB.out, hla, hlb⟩
        rw [first_save T.ha0 hna hpa hla]
        intro e wq hp
        obtain ⟨Fq, rfl, dsq⟩ := hp.ds
        have hst0 : WSt w d gx (cellsOfS A1 A2 A3 c1 c2 c3 a) (cellsOfS B1 B2 B3 d1 d2 d3 b) #[.int .i64 l0, .int .i64 l1] xb F w2 [] := ⟨HD2.out, HX2.out, HRB.out, HB2.out, fun i hi => ⟨HF1.out i hi, fun e => by have := HL1.out i hi; omega⟩, hgl⟩
        have hst := hst0.next dsq
        have ST := Lib.hid hst
        have hltq := hst.box.lt
        have ql := hst.box.l.cell 0
        have ql1 := hst.box.l.cell 1
        simp only [List.getElem?_toArray, List.getElem?_cons_zero, List.getElem?_cons_succ] at ql ql1
        obtain ⟨qa0', qa1', qa2', qa3', qa4'⟩ := cells5 hst.box.a
        have HT := Lib.hid T
        have HPA := Lib.hid hpa
        have HNA := Lib.hid hna
        have HNB := Lib.hid hnb
        have hwt := write_tmp (x := xa) (y := xb) T.ha0 hla hlb
        have HWT := Lib.hid hwt
        clear hp dsq hpa T hna hnb qa0 qa1 qa2 qa3 qa4 hst0 hst hwt
        have hstop : wrap64 ((IntKind.u64.wrap l0).tmod 4) = 0 ∨ wrap64 ((IntKind.u64.wrap l0).tmod 4) = 1 ∨ wrap64 ((IntKind.u64.wrap l0).tmod 4) = 2 ∨ wrap64 ((IntKind.u64.wrap l0).tmod 4) = 3 := by
          have h1 := IntKind.wrap_u64 l0
          have h2 : 0 ≤ IntKind.u64.wrap l0 := by rw [h1]; omega
          rw [Int.tmod_eq_emod_of_nonneg h2]
          generalize IntKind.u64.wrap l0 = q at *
          unfold wrap64
          omega
        obtain ⟨tw, htw⟩ : ∃ tw : Int → Int, tw = fun x => wrap64 ((IntKind.u64.wrap x).tmod 4) := ⟨_, rfl⟩
        clear tw htw
        rcases hstop with h4 | h4 | h4 | h4
        rotate_left 3
        · go_wp2_with fail
          refine (Write_tmp wq ST.out.din gx xb (by omega) ST.out.rb (fun h => (ST.out.hf _ h).2 rfl) (no_tmp HT.out.ha0 xa)).mono ?_
          rw [HWT.out]
          intro e wq1 hp
          obtain ⟨Fq1, rfl, dsn⟩ := hp.ds
          have STn := Lib.hid (ST.out.next dsn)
          clear hp dsn ST qa0' qa1' qa2' qa3' qa4' hltq ql ql1
          have ST := STn
          clear STn
          have hltq := ST.out.box.lt
          have ql := ST.out.box.l.cell 0
          have ql1 := ST.out.box.l.cell 1
          simp only [List.getElem?_toArray, List.getElem?_cons_zero, List.getElem?_cons_succ] at ql ql1
          obtain ⟨qa0', qa1', qa2', qa3', qa4'⟩ := cells5 ST.out.box.a
          go_wp2_with fail
          refine (Sync_any wq1 ST.out.din tmpK tmpK_size).mono ?_
          rw [sync_tmp HT.out.ha0]
          intro e wq2 hp
          obtain ⟨Fq2, rfl, dsn⟩ := hp.ds
          have STn := Lib.hid (ST.out.next dsn)
          clear hp dsn ST qa0' qa1' qa2' qa3' qa4' hltq ql ql1
          have ST := STn
          clear STn
          have hltq := ST.out.box.lt
          have ql := ST.out.box.l.cell 0
          have ql1 := ST.out.box.l.cell 1
          simp only [List.getElem?_toArray, List.getElem?_cons_zero, List.getElem?_cons_succ] at ql ql1
          obtain ⟨qa0', qa1', qa2', qa3', qa4'⟩ := cells5 ST.out.box.a
          go_wp2_with fail
          have b3 : Below wq2.heap.size wq2 (wq2.alloc (.cells #[.int .i64 a.idx, .int .i64 a.term, .slice A1 a.V.length c1, .slice A2 a.L.length c2, .slice A3 a.data.length c3] tS)) := (Below.refl _ _).alloc (Nat.le_refl _) _
          have k11 := Blk.new wq2 (cellsOfS A1 A2 A3 c1 c2 c3 a) tS
          have ST3 := Lib.hid (ST.out.below b3)
          have K11 := Lib.hid (show Blk (wq2.alloc (.cells #[.int .i64 a.idx, .int .i64 a.term, .slice A1 a.V.length c1, .slice A2 a.L.length c2, .slice A3 a.data.length c3] tS)) wq2.heap.size (cellsOfS A1 A2 A3 c1 c2 c3 a) tS from k11)
          have N11 := Lib.hid (show ¬ Fq2 wq2.heap.size from fun h => Nat.lt_irrefl _ (ST.out.din.lt _ h))
          have N0 := Lib.hid hltq
          have NG := Lib.hid (show gx < wq2.heap.size from ST.out.gl)
          clear b3 k11 ST qa0' qa1' qa2' qa3' qa4' hltq ql ql1
          generalize (wq2.alloc (.cells #[.int .i64 a.idx, .int .i64 a.term, .slice A1 a.V.length c1, .slice A2 a.L.length c2, .slice A3 a.data.length c3] tS)) = wa at *
          refine (New_any 65536 wa (by decide) (by decide)).mono ?_
          rintro e w4 ⟨f, Ff, rfl, dinf, bf, hFf⟩
          have DF := Lib.hid (show DiskIn Ff w4 f 65536 [] from dinf)
          have HFf := Lib.hid hFf
          have BA4 := Lib.hid bf
          obtain ⟨s0, s1, s2, s3, s4⟩ := cells5 (ST3.out.below bf).box.b
          clear dinf bf hFf
          go_wp2_with fail
          refine (Save_any w4 DF.out B1 B2 B3 d1 d2 d3 b (HB.out.below (ST3.out.below BA4.out).bel)).mono ?_
          rw [first_save HT.out.hb0 HNB.out HPB.out hlb]
          intro e w5 hp
          obtain ⟨F5, rfl, ds5⟩ := hp.ds
          have BA5 := Lib.hid (BA4.out.trans (ds5.keep.below (fun i _ hi => HFf.out i hi) BA4.out.size))
          have DF5 := Lib.hid ds5.din
          clear hp ds5 s0 s1 s2 s3 s4
          go_wp2_with fail
          have hnm := Names_any w5 DF5.out
          rw [names_one] at hnm
          refine hnm.mono ?_
          intro e w6 hp
          obtain ⟨gn, cn, rfl, hcn, b6⟩ := names_single hp
          have BA6 := Lib.hid (BA5.out.trans (b6.mono BA5.out.size))
          have DF6 := Lib.hid (DF5.out.below b6)
          clear b6 hnm hp hcn
          go_wp2_with fail
          have hnm := Names_any w6 DF6.out
          rw [names_one] at hnm
          refine hnm.mono ?_
          intro e w7 hp
          obtain ⟨gm, cm, rfl, hcm, b7⟩ := names_single hp
          have BA7 := Lib.hid (BA6.out.trans (b7.mono BA6.out.size))
          clear b7 hnm hp
          go_wp2_with fail
          have ST7 := Lib.hid (ST3.out.below BA7.out)
          refine (Rename_any w7 ST7.out.din tmpK (nameK nb.val) tmpK_size (Nat.le_trans (nameF_size nb.val) (by decide))).mono ?_
          rw [rename_tmp HT.out.ha0 HT.out.hb0 HT.out.hlt]
          intro e w8 hp
          obtain ⟨F8, rfl, ds8⟩ := hp.ds
          have ST8 := Lib.hid (ST7.out.next ds8)
          have K8 := Lib.hid ((K11.out.below BA7.out).keeps ds8.keep N11.out)
          obtain ⟨s0, s1, s2, s3, s4⟩ := cells5 ST8.out.box.b
          obtain ⟨q0, q1, q2, q3, q4⟩ := cells5 K8.out
          have f0 := K8.out.frozen 0
          have f1 := K8.out.frozen 1
          have f2 := K8.out.frozen 2
          have f3 := K8.out.frozen 3
          have f4 := K8.out.frozen 4
          have hlt8 := K8.out.lt
          have hltb := ST8.out.box.lt
          have n0 := N0.out
          have n1 : w.heap.size + 1 + 1 ≠ wq2.heap.size := by omega
          have n2 : wq2.heap.size ≠ w.heap.size + 1 + 1 := by omega
          have ql := ST8.out.box.l.cell 0
          have ql1 := ST8.out.box.l.cell 1
          simp only [List.getElem?_toArray, List.getElem?_cons_zero, List.getElem?_cons_succ] at ql ql1
          have n8 : ¬ F8 wq2.heap.size := fun h => by
            rcases ds8.new _ h with h1 | h1
            · exact N11.out h1
            · have := (K11.out.below BA7.out).lt
              omega
          have N8 := Lib.hid n8
          clear hp ds8 hcm n8
          go_wp2_with fail
          have hk5 := keeps_set5 w8 wq2.heap.size (.int .i64 b.idx) (.int .i64 b.term) (.slice B1 b.V.length d1) (.slice B2 b.L.length d2) (.slice B3 b.data.length d3)
          have hb5 := ((((K8.out.set 0 (.int .i64 b.idx)).set 1 (.int .i64 b.term)).set 2 (.slice B1 b.V.length d1)).set 3 (.slice B2 b.L.length d2)).set 4 (.slice B3 b.data.length d3)
          have K9 := Lib.hid (show Blk _ wq2.heap.size (cellsOfS B1 B2 B3 d1 d2 d3 b) tS from hb5)
          have hst9 := ST8.out.out hk5 (fun i e => by have := NG.out; subst e; exact ⟨n0, by omega, N8.out⟩)
          have ST9 := Lib.hid hst9
          have hsz : (((((w8.setCell ⟨wq2.heap.size, 0, none⟩ (.int .i64 b.idx)).setCell ⟨wq2.heap.size, 1, none⟩ (.int .i64 b.term)).setCell ⟨wq2.heap.size, 2, none⟩ (.slice B1 b.V.length d1)).setCell ⟨wq2.heap.size, 3, none⟩ (.slice B2 b.L.length d2)).setCell ⟨wq2.heap.size, 4, none⟩ (.slice B3 b.data.length d3)).heap.size = w8.heap.size := by simp
          have HSZ := Lib.hid hsz
          clear hk5 hb5 hst9 hsz s0 s1 s2 s3 s4 q0 q1 q2 q3 q4 f0 f1 f2 f3 f4 hlt8 hltb n1 n2
          generalize ((((w8.setCell ⟨wq2.heap.size, 0, none⟩ (.int .i64 b.idx)).setCell ⟨wq2.heap.size, 1, none⟩ (.int .i64 b.term)).setCell ⟨wq2.heap.size, 2, none⟩ (.slice B1 b.V.length d1)).setCell ⟨wq2.heap.size, 3, none⟩ (.slice B2 b.L.length d2)).setCell ⟨wq2.heap.size, 4, none⟩ (.slice B3 b.data.length d3) = w9 at *
          have hsz := HSZ.out
          rw [← hsz]
          have hts : TSt w d gx wq2.heap.size (cellsOfS A1 A2 A3 c1 c2 c3 a) (cellsOfS B1 B2 B3 d1 d2 d3 b) #[.int .i64 l0, .int .i64 l1] xb B1 B2 B3 d1 d2 d3 b F8 (w9.alloc (.cells #[.int .i64 l1, .int .i64 l1, .int .i64 l1] tInt)) [wholeP na.val xa, wholeP nb.val xb] := by
            have b1 : Below w9.heap.size w9 (w9.alloc (.cells #[.int .i64 l1, .int .i64 l1, .int .i64 l1] tInt)) := (Below.refl _ _).alloc (Nat.le_refl _) _
            exact ⟨ST9.out.below b1, K9.out.below b1, HB.out.below (ST9.out.below b1).bel, N8.out⟩
          have hkr := keep_rd w9 l1 tInt
          have hkf : ¬ F8 w9.heap.size := fun h => Nat.lt_irrefl _ (ST9.out.din.lt _ h)
          have TS := Lib.hid hts
          have HKR := Lib.hid hkr
          have HW0 := Lib.hid HB.out
          have hcrash := two_crash HT.out [l1, l1, l1]
          have HLO := Lib.hid (two_load HT.out)
          have HSV := Lib.hid (two_save HT.out)
          clear hts hkr hsz
          generalize (w9.alloc (.cells #[.int .i64 l1, .int .i64 l1, .int .i64 l1] tInt)) = wc at *
          refine (Crash_any wc TS.out.st.din (some ⟨w9.heap.size, 0, none⟩) 3 [l1, l1, l1] HKR.out (by simp) (fun x hx => by simp at hx; omega) (fun _ ad e => by cases e; exact hkf)).mono ?_
          rw [hcrash]
          intro e w5 hp
          obtain ⟨F5, rfl, ds5⟩ := hp.ds
          have T5 := Lib.hid (TS.out.next ds5 HW0.out)
          clear hp ds5 hcrash
          generalize [wholeP na.val xa, wholeP nb.val xb] = D5 at *
          go_wp2_with fail
          refine (Load_any w5 T5.out.st.din).mono ?_
          rw [HLO.out]
          intro e w6 hp
          obtain ⟨b6, hp⟩ := hp
          have T6 := Lib.hid (T5.out.below b6)
          obtain ⟨G1, G2, G3, g1, g2, g3, rfl, hat, hfr⟩ := hp
          have hbs : Below w6.heap.size w6 (w6.alloc (.cells #[.int .i64 b.idx, .int .i64 b.term, .slice G1 b.V.length g1, .slice G2 b.L.length g2, .slice G3 b.data.length g3] tS)) := (Below.refl _ _).alloc (Nat.le_refl _) _
          have hat7 := hat.below hbs
          have T7 := Lib.hid (T6.out.below hbs)
          obtain ⟨q0, q1, q2, q3, q4⟩ := cells5 T6.out.blk
          obtain ⟨r0, r1, r2, r3, r4⟩ := cells5 T7.out.blk
          have HAT := Lib.hid hat7
          have hlt6 := T6.out.blk.lt
          clear b6 hat hfr hbs hat7
          go_wp2_with fail
          generalize (w6.alloc (.cells #[.int .i64 b.idx, .int .i64 b.term, .slice G1 b.V.length g1, .slice G2 b.L.length g2, .slice G3 b.data.length g3] tS)) = w7 at *
          refine (Same_eq G1 G2 G3 B1 B2 B3 g1 g2 g3 d1 d2 d3 b w7 HAT.out T7.out.sat).mono ?_
          rintro e w8 ⟨rfl, b8⟩
          have T8 := Lib.hid (T7.out.below b8)
          obtain ⟨s0, s1, s2, s3, s4⟩ := cells5 T8.out.st.box.b
          clear b8 q0 q1 q2 q3 q4 r0 r1 r2 r3 r4
          go_wp2_with fail
          refine (Save_any w8 T8.out.st.din B1 B2 B3 d1 d2 d3 b (HB.out.below T8.out.st.bel)).mono ?_
          rw [HSV.out]
          intro e w9 hp
          obtain ⟨F9, rfl, ds9⟩ := hp.ds
          have T9 := Lib.hid (T8.out.st.next ds9)
          clear hp ds9 s0 s1 s2 s3 s4
          go_wp2_with fail
          refine (Load_any w9 T9.out.din).mono ?_
          rw [one_load HT.out]
          intro e w10 hp
          obtain ⟨b10, hp⟩ := hp
          have T10 := Lib.hid (T9.out.below b10)
          obtain ⟨H1, H2, H3, h1, h2, h3, rfl, hat, hfr⟩ := hp
          have hbs : Below w10.heap.size w10 (w10.alloc (.cells #[.int .i64 b.idx, .int .i64 b.term, .slice H1 b.V.length h1, .slice H2 b.L.length h2, .slice H3 b.data.length h3] tS)) := (Below.refl _ _).alloc (Nat.le_refl _) _
          have hat11 := hat.below hbs
          have T11 := Lib.hid (T10.out.below hbs)
          have hk11 := Blk.new w10 (cellsOfS H1 H2 H3 h1 h2 h3 b) tS
          have HAT11 := Lib.hid hat11
          have HK11 := Lib.hid hk11
          clear b10 hat hfr hbs hat11 hk11
          go_wp2_with fail
          refine (live_any _).mono ?_
          rintro e w12 ⟨rfl, b12⟩
          have T12 := Lib.hid (T11.out.below b12)
          have HAT12 := Lib.hid (HAT11.out.below b12)
          obtain ⟨u0, u1, u2, u3, u4⟩ := cells5 (HK11.out.below b12)
          obtain ⟨s0, s1, s2, s3, s4⟩ := cells5 T12.out.box.b
          clear b12
          go_wp2_with fail
          refine (Same_eq H1 H2 H3 B1 B2 B3 h1 h2 h3 d1 d2 d3 b w12 HAT12.out (HB.out.below T12.out.bel)).mono ?_
          rintro e w13 ⟨rfl, b13⟩
          have T13 := Lib.hid (T12.out.below b13)
          clear b13 u0 u1 u2 u3 u4 s0 s1 s2 s3 s4
          go_wp2_with fail
          have hnm := Names_any w13 T13.out.din
          rw [names_one] at hnm
          refine hnm.mono ?_
          intro e w14 hp
          obtain ⟨gn, cn, rfl, hcn, b14⟩ := names_single hp
          have T14 := Lib.hid (T13.out.below b14)
          clear b14 hnm hp
          go_wp2_with fail
          go_ret
          exact ⟨rfl, T14.out.bel⟩
        · go_wp2_with fail
          have TI : Hid (TInv (wholeP na.val xa) [wholeP na.val xa]) := tinv_one xa
          generalize ([wholeP na.val xa] : Dk) = D at *
          have hcr := TI.out.crash (WholeF.mk' xa) [l1, l1, l1]
          have hload := hcr.load HT.out.ha0 HPA.out HNA.out
          have hsave := hcr.save HT.out
          have hts : TSt w d gx wq.heap.size (cellsOfS A1 A2 A3 c1 c2 c3 a) (cellsOfS B1 B2 B3 d1 d2 d3 b) #[.int .i64 l0, .int .i64 l1] xb A1 A2 A3 c1 c2 c3 a Fq ((wq.alloc (.cells #[.int .i64 a.idx, .int .i64 a.term, .slice A1 a.V.length c1, .slice A2 a.L.length c2, .slice A3 a.data.length c3] tS)).alloc (.cells #[.int .i64 l1, .int .i64 l1, .int .i64 l1] tInt)) D := by
            have b1 : Below wq.heap.size wq ((wq.alloc (.cells #[.int .i64 a.idx, .int .i64 a.term, .slice A1 a.V.length c1, .slice A2 a.L.length c2, .slice A3 a.data.length c3] tS)).alloc (.cells #[.int .i64 l1, .int .i64 l1, .int .i64 l1] tInt)) := ((Below.refl _ _).alloc (Nat.le_refl _) _).alloc (by simp) _
            exact ⟨ST.out.below b1, (Blk.new wq _ _).alloc _, HA.out.below (ST.out.below b1).bel, fun h => Nat.lt_irrefl _ (ST.out.din.lt _ h)⟩
          have hkr := keep_rd (wq.alloc (.cells #[.int .i64 a.idx, .int .i64 a.term, .slice A1 a.V.length c1, .slice A2 a.L.length c2, .slice A3 a.data.length c3] tS)) l1 tInt
          rw [show (wq.alloc (.cells #[.int .i64 a.idx, .int .i64 a.term, .slice A1 a.V.length c1, .slice A2 a.L.length c2, .slice A3 a.data.length c3] tS)).heap.size = wq.heap.size + 1 by simp] at hkr
          have hkf : ¬ Fq (wq.heap.size + 1) := fun h => by have := ST.out.din.lt _ h; omega
          have TS := Lib.hid hts
          have HKR := Lib.hid hkr
          have HLO := Lib.hid hload
          have HSV := Lib.hid hsave
          have HW0 := Lib.hid HA.out
          clear hcr hload hsave hts hkr
          generalize ((wq.alloc (.cells #[.int .i64 a.idx, .int .i64 a.term, .slice A1 a.V.length c1, .slice A2 a.L.length c2, .slice A3 a.data.length c3] tS)).alloc (.cells #[.int .i64 l1, .int .i64 l1, .int .i64 l1] tInt)) = wc at *
          refine (Crash_any wc TS.out.st.din (some ⟨wq.heap.size + 1, 0, none⟩) 3 [l1, l1, l1] HKR.out (by simp) (fun x hx => by simp at hx; omega) (fun _ ad e => by cases e; exact hkf)).mono ?_
          intro e w5 hp
          obtain ⟨F5, rfl, ds5⟩ := hp.ds
          have T5 := Lib.hid (TS.out.next ds5 HW0.out)
          generalize crashF D [l1, l1, l1] = D5 at *
          clear hp ds5
          go_wp2_with fail
          refine (Load_any w5 T5.out.st.din).mono ?_
          rw [HLO.out]
          intro e w6 hp
          obtain ⟨b6, hp⟩ := hp
          have T6 := Lib.hid (T5.out.below b6)
          obtain ⟨G1, G2, G3, g1, g2, g3, rfl, hat, hfr⟩ := hp
          have hbs : Below w6.heap.size w6 (w6.alloc (.cells #[.int .i64 a.idx, .int .i64 a.term, .slice G1 a.V.length g1, .slice G2 a.L.length g2, .slice G3 a.data.length g3] tS)) := (Below.refl _ _).alloc (Nat.le_refl _) _
          have hat7 := hat.below hbs
          have T7 := Lib.hid (T6.out.below hbs)
          obtain ⟨q0, q1, q2, q3, q4⟩ := cells5 T6.out.blk
          obtain ⟨r0, r1, r2, r3, r4⟩ := cells5 T7.out.blk
          have HAT := Lib.hid hat7
          have hlt6 := T6.out.blk.lt
          clear b6 hat hfr hbs hat7
          go_wp2_with fail
          generalize (w6.alloc (.cells #[.int .i64 a.idx, .int .i64 a.term, .slice G1 a.V.length g1, .slice G2 a.L.length g2, .slice G3 a.data.length g3] tS)) = w7 at *
          refine (Same_eq G1 G2 G3 A1 A2 A3 g1 g2 g3 c1 c2 c3 a w7 HAT.out T7.out.sat).mono ?_
          rintro e w8 ⟨rfl, b8⟩
          have T8 := Lib.hid (T7.out.below b8)
          obtain ⟨s0, s1, s2, s3, s4⟩ := cells5 T8.out.st.box.b
          clear b8 q0 q1 q2 q3 q4 r0 r1 r2 r3 r4
          go_wp2_with fail
          refine (Save_any w8 T8.out.st.din B1 B2 B3 d1 d2 d3 b (HB.out.below T8.out.st.bel)).mono ?_
          rw [HSV.out]
          intro e w9 hp
          obtain ⟨F9, rfl, ds9⟩ := hp.ds
          have T9 := Lib.hid (T8.out.st.next ds9)
          clear hp ds9 s0 s1 s2 s3 s4
          go_wp2_with fail
          refine (Load_any w9 T9.out.din).mono ?_
          rw [one_load HT.out]
          intro e w10 hp
          obtain ⟨b10, hp⟩ := hp
          have T10 := Lib.hid (T9.out.below b10)
          obtain ⟨H1, H2, H3, h1, h2, h3, rfl, hat, hfr⟩ := hp
          have hbs : Below w10.heap.size w10 (w10.alloc (.cells #[.int .i64 b.idx, .int .i64 b.term, .slice H1 b.V.length h1, .slice H2 b.L.length h2, .slice H3 b.data.length h3] tS)) := (Below.refl _ _).alloc (Nat.le_refl _) _
          have hat11 := hat.below hbs
          have T11 := Lib.hid (T10.out.below hbs)
          have hk11 := Blk.new w10 (cellsOfS H1 H2 H3 h1 h2 h3 b) tS
          have HAT11 := Lib.hid hat11
          have HK11 := Lib.hid hk11
          clear b10 hat hfr hbs hat11 hk11
          go_wp2_with fail
          refine (live_any _).mono ?_
          rintro e w12 ⟨rfl, b12⟩
          have T12 := Lib.hid (T11.out.below b12)
          have HAT12 := Lib.hid (HAT11.out.below b12)
          obtain ⟨u0, u1, u2, u3, u4⟩ := cells5 (HK11.out.below b12)
          obtain ⟨s0, s1, s2, s3, s4⟩ := cells5 T12.out.box.b
          clear b12
          go_wp2_with fail
          refine (Same_eq H1 H2 H3 B1 B2 B3 h1 h2 h3 d1 d2 d3 b w12 HAT12.out (HB.out.below T12.out.bel)).mono ?_
          rintro e w13 ⟨rfl, b13⟩
          have T13 := Lib.hid (T12.out.below b13)
          clear b13 u0 u1 u2 u3 u4 s0 s1 s2 s3 s4
          go_wp2_with fail
          have hnm := Names_any w13 T13.out.din
          rw [names_one] at hnm
          refine hnm.mono ?_
          intro e w14 hp
          obtain ⟨gn, cn, rfl, hcn, b14⟩ := names_single hp
          have T14 := Lib.hid (T13.out.below b14)
          clear b14 hnm hp
          go_wp2_with fail
          go_ret
          exact ⟨rfl, T14.out.bel⟩
        · go_wp2_with fail
          refine (Write_tmp wq ST.out.din gx xb (by omega) ST.out.rb (fun h => (ST.out.hf _ h).2 rfl) (no_tmp HT.out.ha0 xa)).mono ?_
          rw [HWT.out]
          intro e wq1 hp
          obtain ⟨Fq1, rfl, dsn⟩ := hp.ds
          have STn := Lib.hid (ST.out.next dsn)
          clear hp dsn ST qa0' qa1' qa2' qa3' qa4' hltq ql ql1
          have ST := STn
          clear STn
          have hltq := ST.out.box.lt
          have ql := ST.out.box.l.cell 0
          have ql1 := ST.out.box.l.cell 1
          simp only [List.getElem?_toArray, List.getElem?_cons_zero, List.getElem?_cons_succ] at ql ql1
          obtain ⟨qa0', qa1', qa2', qa3', qa4'⟩ := cells5 ST.out.box.a
          go_wp2_with fail
          have TI : Hid (TInv (wholeP na.val xa) [wholeP na.val xa, (tmpK, ⟨xb, [], false, [⟨false, 0, 0, xb⟩]⟩)]) := tinv_two HT.out.ha0 xa _
          generalize ([wholeP na.val xa, (tmpK, ⟨xb, [], false, [⟨false, 0, 0, xb⟩]⟩)] : Dk) = D at *
          have hcr := TI.out.crash (WholeF.mk' xa) [l1, l1, l1]
          have hload := hcr.load HT.out.ha0 HPA.out HNA.out
          have hsave := hcr.save HT.out
          have hts : TSt w d gx wq1.heap.size (cellsOfS A1 A2 A3 c1 c2 c3 a) (cellsOfS B1 B2 B3 d1 d2 d3 b) #[.int .i64 l0, .int .i64 l1] xb A1 A2 A3 c1 c2 c3 a Fq1 ((wq1.alloc (.cells #[.int .i64 a.idx, .int .i64 a.term, .slice A1 a.V.length c1, .slice A2 a.L.length c2, .slice A3 a.data.length c3] tS)).alloc (.cells #[.int .i64 l1, .int .i64 l1, .int .i64 l1] tInt)) D := by
            have b1 : Below wq1.heap.size wq1 ((wq1.alloc (.cells #[.int .i64 a.idx, .int .i64 a.term, .slice A1 a.V.length c1, .slice A2 a.L.length c2, .slice A3 a.data.length c3] tS)).alloc (.cells #[.int .i64 l1, .int .i64 l1, .int .i64 l1] tInt)) := ((Below.refl _ _).alloc (Nat.le_refl _) _).alloc (by simp) _
            exact ⟨ST.out.below b1, (Blk.new wq1 _ _).alloc _, HA.out.below (ST.out.below b1).bel, fun h => Nat.lt_irrefl _ (ST.out.din.lt _ h)⟩
          have hkr := keep_rd (wq1.alloc (.cells #[.int .i64 a.idx, .int .i64 a.term, .slice A1 a.V.length c1, .slice A2 a.L.length c2, .slice A3 a.data.length c3] tS)) l1 tInt
          rw [show (wq1.alloc (.cells #[.int .i64 a.idx, .int .i64 a.term, .slice A1 a.V.length c1, .slice A2 a.L.length c2, .slice A3 a.data.length c3] tS)).heap.size = wq1.heap.size + 1 by simp] at hkr
          have hkf : ¬ Fq1 (wq1.heap.size + 1) := fun h => by have := ST.out.din.lt _ h; omega
          have TS := Lib.hid hts
          have HKR := Lib.hid hkr
          have HLO := Lib.hid hload
          have HSV := Lib.hid hsave
          have HW0 := Lib.hid HA.out
          clear hcr hload hsave hts hkr
          generalize ((wq1.alloc (.cells #[.int .i64 a.idx, .int .i64 a.term, .slice A1 a.V.length c1, .slice A2 a.L.length c2, .slice A3 a.data.length c3] tS)).alloc (.cells #[.int .i64 l1, .int .i64 l1, .int .i64 l1] tInt)) = wc at *
          refine (Crash_any wc TS.out.st.din (some ⟨wq1.heap.size + 1, 0, none⟩) 3 [l1, l1, l1] HKR.out (by simp) (fun x hx => by simp at hx; omega) (fun _ ad e => by cases e; exact hkf)).mono ?_
          intro e w5 hp
          obtain ⟨F5, rfl, ds5⟩ := hp.ds
          have T5 := Lib.hid (TS.out.next ds5 HW0.out)
          generalize crashF D [l1, l1, l1] = D5 at *
          clear hp ds5
          go_wp2_with fail
          refine (Load_any w5 T5.out.st.din).mono ?_
          rw [HLO.out]
          intro e w6 hp
          obtain ⟨b6, hp⟩ := hp
          have T6 := Lib.hid (T5.out.below b6)
          obtain ⟨G1, G2, G3, g1, g2, g3, rfl, hat, hfr⟩ := hp
          have hbs : Below w6.heap.size w6 (w6.alloc (.cells #[.int .i64 a.idx, .int .i64 a.term, .slice G1 a.V.length g1, .slice G2 a.L.length g2, .slice G3 a.data.length g3] tS)) := (Below.refl _ _).alloc (Nat.le_refl _) _
          have hat7 := hat.below hbs
          have T7 := Lib.hid (T6.out.below hbs)
          obtain ⟨q0, q1, q2, q3, q4⟩ := cells5 T6.out.blk
          obtain ⟨r0, r1, r2, r3, r4⟩ := cells5 T7.out.blk
          have HAT := Lib.hid hat7
          have hlt6 := T6.out.blk.lt
          clear b6 hat hfr hbs hat7
          go_wp2_with fail
          generalize (w6.alloc (.cells #[.int .i64 a.idx, .int .i64 a.term, .slice G1 a.V.length g1, .slice G2 a.L.length g2, .slice G3 a.data.length g3] tS)) = w7 at *
          refine (Same_eq G1 G2 G3 A1 A2 A3 g1 g2 g3 c1 c2 c3 a w7 HAT.out T7.out.sat).mono ?_
          rintro e w8 ⟨rfl, b8⟩
          have T8 := Lib.hid (T7.out.below b8)
          obtain ⟨s0, s1, s2, s3, s4⟩ := cells5 T8.out.st.box.b
          clear b8 q0 q1 q2 q3 q4 r0 r1 r2 r3 r4
          go_wp2_with fail
          refine (Save_any w8 T8.out.st.din B1 B2 B3 d1 d2 d3 b (HB.out.below T8.out.st.bel)).mono ?_
          rw [HSV.out]
          intro e w9 hp
          obtain ⟨F9, rfl, ds9⟩ := hp.ds
          have T9 := Lib.hid (T8.out.st.next ds9)
          clear hp ds9 s0 s1 s2 s3 s4
          go_wp2_with fail
          refine (Load_any w9 T9.out.din).mono ?_
          rw [one_load HT.out]
          intro e w10 hp
          obtain ⟨b10, hp⟩ := hp
          have T10 := Lib.hid (T9.out.below b10)
          obtain ⟨H1, H2, H3, h1, h2, h3, rfl, hat, hfr⟩ := hp
          have hbs : Below w10.heap.size w10 (w10.alloc (.cells #[.int .i64 b.idx, .int .i64 b.term, .slice H1 b.V.length h1, .slice H2 b.L.length h2, .slice H3 b.data.length h3] tS)) := (Below.refl _ _).alloc (Nat.le_refl _) _
          have hat11 := hat.below hbs
          have T11 := Lib.hid (T10.out.below hbs)
          have hk11 := Blk.new w10 (cellsOfS H1 H2 H3 h1 h2 h3 b) tS
          have HAT11 := Lib.hid hat11
          have HK11 := Lib.hid hk11
          clear b10 hat hfr hbs hat11 hk11
          go_wp2_with fail
          refine (live_any _).mono ?_
          rintro e w12 ⟨rfl, b12⟩
          have T12 := Lib.hid (T11.out.below b12)
          have HAT12 := Lib.hid (HAT11.out.below b12)
          obtain ⟨u0, u1, u2, u3, u4⟩ := cells5 (HK11.out.below b12)
          obtain ⟨s0, s1, s2, s3, s4⟩ := cells5 T12.out.box.b
          clear b12
          go_wp2_with fail
          refine (Same_eq H1 H2 H3 B1 B2 B3 h1 h2 h3 d1 d2 d3 b w12 HAT12.out (HB.out.below T12.out.bel)).mono ?_
          rintro e w13 ⟨rfl, b13⟩
          have T13 := Lib.hid (T12.out.below b13)
          clear b13 u0 u1 u2 u3 u4 s0 s1 s2 s3 s4
          go_wp2_with fail
          have hnm := Names_any w13 T13.out.din
          rw [names_one] at hnm
          refine hnm.mono ?_
          intro e w14 hp
          obtain ⟨gn, cn, rfl, hcn, b14⟩ := names_single hp
          have T14 := Lib.hid (T13.out.below b14)
          clear b14 hnm hp
          go_wp2_with fail
          go_ret
          exact ⟨rfl, T14.out.bel⟩
        · go_wp2_with fail
          refine (Write_tmp wq ST.out.din gx xb (by omega) ST.out.rb (fun h => (ST.out.hf _ h).2 rfl) (no_tmp HT.out.ha0 xa)).mono ?_
          rw [HWT.out]
          intro e wq1 hp
          obtain ⟨Fq1, rfl, dsn⟩ := hp.ds
          have STn := Lib.hid (ST.out.next dsn)
          clear hp dsn ST qa0' qa1' qa2' qa3' qa4' hltq ql ql1
          have ST := STn
          clear STn
          have hltq := ST.out.box.lt
          have ql := ST.out.box.l.cell 0
          have ql1 := ST.out.box.l.cell 1
          simp only [List.getElem?_toArray, List.getElem?_cons_zero, List.getElem?_cons_succ] at ql ql1
          obtain ⟨qa0', qa1', qa2', qa3', qa4'⟩ := cells5 ST.out.box.a
          go_wp2_with fail
          refine (Sync_any wq1 ST.out.din tmpK tmpK_size).mono ?_
          rw [sync_tmp HT.out.ha0]
          intro e wq2 hp
          obtain ⟨Fq2, rfl, dsn⟩ := hp.ds
          have STn := Lib.hid (ST.out.next dsn)
          clear hp dsn ST qa0' qa1' qa2' qa3' qa4' hltq ql ql1
          have ST := STn
          clear STn
          have hltq := ST.out.box.lt
          have ql := ST.out.box.l.cell 0
          have ql1 := ST.out.box.l.cell 1
          simp only [List.getElem?_toArray, List.getElem?_cons_zero, List.getElem?_cons_succ] at ql ql1
          obtain ⟨qa0', qa1', qa2', qa3', qa4'⟩ := cells5 ST.out.box.a
          go_wp2_with fail
          have TI : Hid (TInv (wholeP na.val xa) [wholeP na.val xa, (tmpK, ⟨xb, xb, true, []⟩)]) := tinv_two HT.out.ha0 xa _
          generalize ([wholeP na.val xa, (tmpK, ⟨xb, xb, true, []⟩)] : Dk) = D at *
          have hcr := TI.out.crash (WholeF.mk' xa) [l1, l1, l1]
          have hload := hcr.load HT.out.ha0 HPA.out HNA.out
          have hsave := hcr.save HT.out
          have hts : TSt w d gx wq2.heap.size (cellsOfS A1 A2 A3 c1 c2 c3 a) (cellsOfS B1 B2 B3 d1 d2 d3 b) #[.int .i64 l0, .int .i64 l1] xb A1 A2 A3 c1 c2 c3 a Fq2 ((wq2.alloc (.cells #[.int .i64 a.idx, .int .i64 a.term, .slice A1 a.V.length c1, .slice A2 a.L.length c2, .slice A3 a.data.length c3] tS)).alloc (.cells #[.int .i64 l1, .int .i64 l1, .int .i64 l1] tInt)) D := by
            have b1 : Below wq2.heap.size wq2 ((wq2.alloc (.cells #[.int .i64 a.idx, .int .i64 a.term, .slice A1 a.V.length c1, .slice A2 a.L.length c2, .slice A3 a.data.length c3] tS)).alloc (.cells #[.int .i64 l1, .int .i64 l1, .int .i64 l1] tInt)) := ((Below.refl _ _).alloc (Nat.le_refl _) _).alloc (by simp) _
            exact ⟨ST.out.below b1, (Blk.new wq2 _ _).alloc _, HA.out.below (ST.out.below b1).bel, fun h => Nat.lt_irrefl _ (ST.out.din.lt _ h)⟩
          have hkr := keep_rd (wq2.alloc (.cells #[.int .i64 a.idx, .int .i64 a.term, .slice A1 a.V.length c1, .slice A2 a.L.length c2, .slice A3 a.data.length c3] tS)) l1 tInt
          rw [show (wq2.alloc (.cells #[.int .i64 a.idx, .int .i64 a.term, .slice A1 a.V.length c1, .slice A2 a.L.length c2, .slice A3 a.data.length c3] tS)).heap.size = wq2.heap.size + 1 by simp] at hkr
          have hkf : ¬ Fq2 (wq2.heap.size + 1) := fun h => by have := ST.out.din.lt _ h; omega
          have TS := Lib.hid hts
          have HKR := Lib.hid hkr
          have HLO := Lib.hid hload
          have HSV := Lib.hid hsave
          have HW0 := Lib.hid HA.out
          clear hcr hload hsave hts hkr
          generalize ((wq2.alloc (.cells #[.int .i64 a.idx, .int .i64 a.term, .slice A1 a.V.length c1, .slice A2 a.L.length c2, .slice A3 a.data.length c3] tS)).alloc (.cells #[.int .i64 l1, .int .i64 l1, .int .i64 l1] tInt)) = wc at *
          refine (Crash_any wc TS.out.st.din (some ⟨wq2.heap.size + 1, 0, none⟩) 3 [l1, l1, l1] HKR.out (by simp) (fun x hx => by simp at hx; omega) (fun _ ad e => by cases e; exact hkf)).mono ?_
          intro e w5 hp
          obtain ⟨F5, rfl, ds5⟩ := hp.ds
          have T5 := Lib.hid (TS.out.next ds5 HW0.out)
          generalize crashF D [l1, l1, l1] = D5 at *
          clear hp ds5
          go_wp2_with fail
          refine (Load_any w5 T5.out.st.din).mono ?_
          rw [HLO.out]
          intro e w6 hp
          obtain ⟨b6, hp⟩ := hp
          have T6 := Lib.hid (T5.out.below b6)
          obtain ⟨G1, G2, G3, g1, g2, g3, rfl, hat, hfr⟩ := hp
          have hbs : Below w6.heap.size w6 (w6.alloc (.cells #[.int .i64 a.idx, .int .i64 a.term, .slice G1 a.V.length g1, .slice G2 a.L.length g2, .slice G3 a.data.length g3] tS)) := (Below.refl _ _).alloc (Nat.le_refl _) _
          have hat7 := hat.below hbs
          have T7 := Lib.hid (T6.out.below hbs)
          obtain ⟨q0, q1, q2, q3, q4⟩ := cells5 T6.out.blk
          obtain ⟨r0, r1, r2, r3, r4⟩ := cells5 T7.out.blk
          have HAT := Lib.hid hat7
          have hlt6 := T6.out.blk.lt
          clear b6 hat hfr hbs hat7
          go_wp2_with fail
          generalize (w6.alloc (.cells #[.int .i64 a.idx, .int .i64 a.term, .slice G1 a.V.length g1, .slice G2 a.L.length g2, .slice G3 a.data.length g3] tS)) = w7 at *
          refine (Same_eq G1 G2 G3 A1 A2 A3 g1 g2 g3 c1 c2 c3 a w7 HAT.out T7.out.sat).mono ?_
          rintro e w8 ⟨rfl, b8⟩
          have T8 := Lib.hid (T7.out.below b8)
          obtain ⟨s0, s1, s2, s3, s4⟩ := cells5 T8.out.st.box.b
          clear b8 q0 q1 q2 q3 q4 r0 r1 r2 r3 r4
          go_wp2_with fail
          refine (Save_any w8 T8.out.st.din B1 B2 B3 d1 d2 d3 b (HB.out.below T8.out.st.bel)).mono ?_
          rw [HSV.out]
          intro e w9 hp
          obtain ⟨F9, rfl, ds9⟩ := hp.ds
          have T9 := Lib.hid (T8.out.st.next ds9)
          clear hp ds9 s0 s1 s2 s3 s4
          go_wp2_with fail
          refine (Load_any w9 T9.out.din).mono ?_
          rw [one_load HT.out]
          intro e w10 hp
          obtain ⟨b10, hp⟩ := hp
          have T10 := Lib.hid (T9.out.below b10)
          obtain ⟨H1, H2, H3, h1, h2, h3, rfl, hat, hfr⟩ := hp
          have hbs : Below w10.heap.size w10 (w10.alloc (.cells #[.int .i64 b.idx, .int .i64 b.term, .slice H1 b.V.length h1, .slice H2 b.L.length h2, .slice H3 b.data.length h3] tS)) := (Below.refl _ _).alloc (Nat.le_refl _) _
          have hat11 := hat.below hbs
          have T11 := Lib.hid (T10.out.below hbs)
          have hk11 := Blk.new w10 (cellsOfS H1 H2 H3 h1 h2 h3 b) tS
          have HAT11 := Lib.hid hat11
          have HK11 := Lib.hid hk11
          clear b10 hat hfr hbs hat11 hk11
          go_wp2_with fail
          refine (live_any _).mono ?_
          rintro e w12 ⟨rfl, b12⟩
          have T12 := Lib.hid (T11.out.below b12)
          have HAT12 := Lib.hid (HAT11.out.below b12)
          obtain ⟨u0, u1, u2, u3, u4⟩ := cells5 (HK11.out.below b12)
          obtain ⟨s0, s1, s2, s3, s4⟩ := cells5 T12.out.box.b
          clear b12
          go_wp2_with fail
          refine (Same_eq H1 H2 H3 B1 B2 B3 h1 h2 h3 d1 d2 d3 b w12 HAT12.out (HB.out.below T12.out.bel)).mono ?_
          rintro e w13 ⟨rfl, b13⟩
          have T13 := Lib.hid (T12.out.below b13)
          clear b13 u0 u1 u2 u3 u4 s0 s1 s2 s3 s4
          go_wp2_with fail
          have hnm := Names_any w13 T13.out.din
          rw [names_one] at hnm
          refine hnm.mono ?_
          intro e w14 hp
          obtain ⟨gn, cn, rfl, hcn, b14⟩ := names_single hp
          have T14 := Lib.hid (T13.out.below b14)
          clear b14 hnm hp
          go_wp2_with fail
          go_ret
          exact ⟨rfl, T14.out.bel⟩
  all_goals
    go_enter Try.func6, Try.ntmps6
    go_wp2_with fail
    refine (live_any _).mono ?_
    rintro e w1 ⟨rfl, b1⟩
    have HB1 := Lib.hid (HBW.out.trans (b1.mono HBW.out.size))
    clear b1
    go_wp2_with fail
    go_ret
    exact ⟨rfl, HB1.out⟩
theorem arr2 : WideMaps.ArrKey Try.prog tA2 tInt 2 := ⟨Try.underlying45, by kernel_rfl, by kernel_rfl, by kernel_rfl⟩
theorem rd6 : Readable Try.f6.params.toList := by
  rw [Try.params6]
  intro t ht
  simp at ht
  rcases ht with rfl | rfl
  · exact ⟨by kernel_rfl, of_decide_eq_true (by kernel_rfl)⟩
  · exact ⟨by kernel_rfl, of_decide_eq_true (by kernel_rfl)⟩
theorem whole_lifted (os : Os) (started : os.Started) (H : Type) (enc : TypeId × Value → H) :
    ReturnsInHanded {} Try.checked os 6 .any (Rows.snapWholeSpec.pre6 enc Try.prog Try.f6 Rows.snapWholeRow.domain false) (Rows.snapWholeSpec.post enc Try.prog Try.f6 false true false false) := by
  refine returnsInHanded_of_change (C := Try.checked) own0 started (by kernel_rfl) Try.func6
    (ChangeSpec.witness6 (enc := enc) (C := Try.checked) false ⟨#[], #[.agg #[.int .i64 0, .int .i64 0, .slice none 0 0, .slice none 0 0, .slice none 0 0], .agg #[.int .i64 0, .int .i64 0, .slice none 0 0, .slice none 0 0, .slice none 0 0], .agg #[.int .i64 0, .int .i64 0]], []⟩ 8 (by kernel_rfl) (by kernel_rfl) (by kernel_rfl) (by kernel_rfl)) ?_
  intro W base args ds gs before hval hW _ _
  have hW' := hW
  obtain ⟨p, q, hA0, hV, rfl, _, _⟩ := hW
  have hA : DataW.TrodAll enc Try.prog W 0 (fun _ => true) true Try.f6.params.toList args.toList ds p := hA0
  rw [Try.params6] at hA hval
  obtain ⟨v0, v1, v2, d0, d1, d2, p0, p1, p2, rfl, rfl, rfl, h0, h1, h2⟩ := trodAll_three hA
  obtain ⟨A1, A2, A3, c1, c2, c3, a, rfl, ha, _⟩ := open_snap (hval 0 29 v0 rfl rfl) h0
  obtain ⟨B1, B2, B3, e1, e2, e3, b, rfl, hb, _⟩ := open_snap (hval 1 29 v1 rfl rfl) h1
  obtain ⟨l0, l1, rfl, _, _, _, wn⟩ := WideMaps.open_pair arr2 Try.underlying3 (hval 2 tA2 v2 rfl rfl) h2
  have hn : -9223372036854775808 ≤ l1 ∧ l1 ≤ 9223372036854775807 := by simpa [Lit.wf, IntKind.min, IntKind.max, IntKind.signed, IntKind.bits] using wn
  refine law_contract (K := 6) (spec := Rows.snapWholeSpec) rfl (by kernel_rfl) rd6 ?_ hW' (whole_walk A1 A2 A3 B1 B2 B3 c1 c2 c3 e1 e2 e3 a b l0 l1 W ha hb hn.2)
  intro ds hl
  rw [Try.params6] at hl
  match ds, hl with
  | [a, b, c], _ => exact ⟨rfl, rfl, rfl⟩
end Go.Proofs.Ytapgknaoieojkaa.Toll
namespace Go.Proofs.Ytapgknaoieojkaa
open Go.RowKit Go.ChangeShapes Go.WideShapes Go.ChangeAt
theorem snapWhole_holds : Rows.SnapWholeSaid :=
  OpenClaim.holds_of_wide 6 Try.f6 rfl rfl rfl rfl rfl rfl rfl ⟨rfl, rfl, rfl, rfl, rfl⟩ rfl rfl rfl rfl rfl (by kernel_rfl) Try.func6 (by kernel_rfl)
    (of_decide_eq_true (by kernel_rfl)) (by unfold Func.isWrapper; first | (rw [if_pos (by decide +kernel)]; kernel_rfl) | (rw [if_neg (by decide +kernel)]; exact ⟨rfl, rfl⟩))
    (fun os started H enc _ => Toll.whole_lifted os started H enc)
#print axioms snapWhole_holds
end Go.Proofs.Ytapgknaoieojkaa
