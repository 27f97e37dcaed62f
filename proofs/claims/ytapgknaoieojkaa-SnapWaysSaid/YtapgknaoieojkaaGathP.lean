/- Walks: snap.NewGather, Gather.Len; what Gather.Add's walk needs. -/
import Derived.Test.YtapgknaoieojkaaSnapX
set_option linter.unusedVariables false
set_option linter.unusedSimpArgs false
set_option maxRecDepth 100000
namespace Go.Proofs.Ytapgknaoieojkaa.Toll
open Go.RowKit
abbrev tG : TypeId := 107
/-- What a gather holds. -/
structure GatV where
  begun : Bool
  total : Nat
  b : List UInt8
/-- Adding a piece. -/
def addF (g : GatV) (p : List UInt8) : Except Int (Option SnapV) × GatV := match takeF p with
  | .error k => (.error k, g)
  | .ok (t, m1) => match takeF (p.drop m1) with
    | .error k => (.error k, g)
    | .ok (q, m2) =>
      if 32768 < t then (.error 6, g)
      else if t < q ∨ t - q < (p.drop (m1 + m2)).length ∨ ((p.drop (m1 + m2)).length = 0 ∧ 0 < t) then (.error 4, g)
      else if 0 < q ∧ (g.begun = false ∨ g.total ≠ t ∨ g.b.length ≠ q) then (.error 12, g)
      else if ((if q = 0 then [] else g.b) ++ p.drop (m1 + m2)).length < t then (.ok none, ⟨true, t, (if q = 0 then [] else g.b) ++ p.drop (m1 + m2)⟩)
      else match sgetF ((if q = 0 then [] else g.b) ++ p.drop (m1 + m2)) with
        | .error k => (.error k, ⟨false, 0, []⟩)
        | .ok s => (.ok (some s), ⟨false, 0, []⟩)
/-- A gather as it lies. -/
structure GatAt (w : World) (g base : Nat) (v : Value) (gv : GatV) : Prop where
  blk : Blk w g #[.bool gv.begun, .int .i64 (gv.total : Int), v] tG
  own : OwB 0 w v gv.b
  fr : ∀ i, v.ownBlock = some i → base ≤ i ∧ i ≠ g ∧ i < w.heap.size
  at_ : base ≤ g
  len : gv.b.length ≤ 32768
def GatIn (w : World) (g base : Nat) (gv : GatV) : Prop := ∃ v, GatAt w g base v gv
theorem GatAt.below {w w' : World} {g base : Nat} {v : Value} {gv : GatV} (h : GatAt w g base v gv) (k : Below w.heap.size w w') : GatAt w' g base v gv := ⟨h.blk.below k, h.own.below k, fun i e => ⟨(h.fr i e).1, (h.fr i e).2.1, Nat.lt_of_lt_of_le (h.fr i e).2.2 k.size⟩, h.at_, h.len⟩
theorem GatIn.below {w w' : World} {g base : Nat} {gv : GatV} (h : GatIn w g base gv) (k : Below w.heap.size w w') : GatIn w' g base gv := by
  obtain ⟨v, h⟩ := h
  exact ⟨v, h.below k⟩
theorem NewGather_any (w : World) :
    Calls Try.prog 25 #[] w fun e w' => e = .returned (.pointer (some ⟨w.heap.size, 0, none⟩)) ∧ GatIn w' w.heap.size w.heap.size ⟨false, 0, []⟩ ∧ Below w.heap.size w w' := by
  go_enter Try.func25, Try.ntmps25
  go_wp2_with fail
  go_ret
  exact ⟨rfl, ⟨.slice none 0 0, Blk.new w _ _, OwB.nil _ _, fun i h => by simp [Value.ownBlock] at h, Nat.le_refl _, by simp⟩, (Below.refl _ _).alloc (Nat.le_refl _) _⟩
theorem three_cells {w : World} {g : Nat} {t : TypeId} {a b c : Value} (h : Blk w g #[a, b, c] t) : w.cell? ⟨g, 0, none⟩ = some a ∧ w.cell? ⟨g, 1, none⟩ = some b ∧ w.cell? ⟨g, 2, none⟩ = some c := ⟨h.cell 0, h.cell 1, h.cell 2⟩
theorem GLen_any (w : World) {g base : Nat} {gv : GatV} (h : GatIn w g base gv) :
    Calls Try.prog 27 #[.pointer (some ⟨g, 0, none⟩)] w fun e w' => e = .returned (.int .i64 (gv.b.length : Int)) ∧ w = w' := by
  obtain ⟨v, h⟩ := h
  obtain ⟨A, c, rfl, _⟩ := h.own.form
  obtain ⟨q0, q1, q2⟩ := three_cells h.blk
  have H := Lib.hid h
  clear h
  go_enter Try.func27, Try.ntmps27
  go_wp2_with fail
  go_ret
  exact ⟨rfl, rfl⟩
def AddPost (w : World) (g base : Nat) (R : Except Int (Option SnapV) × GatV) (e : Ending) (w' : World) : Prop := Below base w w' ∧ GatIn w' g base R.2 ∧ (match R.1 with
  | .error k => e = .returned (.tuple #[nilS, .bool false, .int .i64 k])
  | .ok none => e = .returned (.tuple #[nilS, .bool false, .int .i64 0])
  | .ok (some s) => ∃ A1 A2 A3 c1 c2 c3, e = .returned (.tuple #[snapVal A1 A2 A3 c1 c2 c3 s, .bool true, .int .i64 0]) ∧ SnapAt w' A1 A2 A3 s)
theorem AddPost.err {w w' : World} {g base : Nat} {R : Except Int (Option SnapV) × GatV} {k : Int} {gv : GatV} (h : R = (.error k, gv)) (hb : Below base w w') (hg : GatIn w' g base gv) : AddPost w g base R (.returned (.tuple #[nilS, .bool false, .int .i64 k])) w' := by
  subst h
  exact ⟨hb, hg, rfl⟩
theorem AddPost.none {w w' : World} {g base : Nat} {R : Except Int (Option SnapV) × GatV} {gv : GatV} (h : R = (.ok none, gv)) (hb : Below base w w') (hg : GatIn w' g base gv) : AddPost w g base R (.returned (.tuple #[nilS, .bool false, .int .i64 0])) w' := by
  subst h
  exact ⟨hb, hg, rfl⟩
theorem AddPost.some {w w' : World} {g base : Nat} {R : Except Int (Option SnapV) × GatV} {gv : GatV} {s : SnapV} {A1 A2 A3 : Option Addr} {c1 c2 c3 : Nat} (h : R = (.ok (some s), gv)) (hb : Below base w w') (hg : GatIn w' g base gv) (hs : SnapAt w' A1 A2 A3 s) : AddPost w g base R (.returned (.tuple #[snapVal A1 A2 A3 c1 c2 c3 s, .bool true, .int .i64 0])) w' := by
  subst h
  exact ⟨hb, hg, A1, A2, A3, c1, c2, c3, rfl, hs⟩
theorem GatAt.lt {w : World} {g base : Nat} {v : Value} {gv : GatV} (h : GatAt w g base v gv) : g < w.heap.size := h.blk.lt
abbrev zero5 : Array Value := #[.int .i64 0, .int .i64 0, .slice none 0 0, .slice none 0 0, .slice none 0 0]
/-- Behind the append. -/
structure GApp (w : World) (g base t : Nat) (v1 : Value) (ys : List UInt8) (w1 : World) : Prop where
  blk : ∃ v0, Blk w1 g #[.bool true, .int .i64 (t : Int), v0] tG
  own : OwB 0 w1 v1 ys
  fr : ∀ i, v1.ownBlock = some i → base ≤ i ∧ i ≠ g ∧ i ≠ w.heap.size
  bel : Below base w w1
  res : Blk w1 w.heap.size zero5 29
  at_ : base ≤ g
  lt : g < w.heap.size
  hbw : base ≤ w.heap.size
theorem GApp.size {w w1 : World} {g base t : Nat} {v1 : Value} {ys : List UInt8} (h : GApp w g base t v1 ys w1) : base ≤ w1.heap.size := Nat.le_trans h.hbw h.bel.size
theorem GApp.of {w WS w1 : World} {g base t : Nat} {v0 v1 : Value} {bs x : List UInt8} (hg : Grow 0 WS v0 w1 v1) (ho : OwB 0 w1 v1 (bs ++ x)) (hb : Blk WS g #[.bool true, .int .i64 (t : Int), v0] tG) (hf : ∀ i, v0.ownBlock = some i → base ≤ i ∧ i ≠ g ∧ i ≠ w.heap.size) (hbel : Below base w WS) (hres : Blk WS w.heap.size zero5 29) (hat : base ≤ g) (hlt : g < w.heap.size) (hbw : base ≤ w.heap.size) : GApp w g base t v1 (bs ++ x) w1 :=
  ⟨⟨v0, hb.keeps hg.keeps (fun e => (hf _ e.2).2.1 rfl)⟩, ho, fun i e => by
    rcases hg.fresh i e (Nat.zero_le _) with h1 | h1
    · exact hf i h1
    · have := hb.lt
      have := hres.lt
      exact ⟨Nat.le_trans (Nat.le_trans hbw hbel.size) h1, by omega, by omega⟩, hbel.trans (hg.keeps.below (fun i _ e => (hf i e.2).1) (Nat.le_trans hbw hbel.size)), hres.keeps hg.keeps (fun e => (hf _ e.2).2.2 rfl), hat, hlt, hbw⟩
theorem GApp.store {w w1 : World} {g base t : Nat} {v1 : Value} {ys : List UInt8} (h : GApp w g base t v1 ys w1) : Blk (w1.setCell ⟨g, 2, none⟩ v1) g #[.bool true, .int .i64 (t : Int), v1] tG ∧ OwB 0 (w1.setCell ⟨g, 2, none⟩ v1) v1 ys ∧ Below base w (w1.setCell ⟨g, 2, none⟩ v1) ∧ Blk (w1.setCell ⟨g, 2, none⟩ v1) w.heap.size zero5 29 := by
  obtain ⟨v0, hb⟩ := h.blk
  have k : Keeps (· = g) w1 (w1.setCell ⟨g, 2, none⟩ v1) := Keeps.setCell w1 ⟨g, 2, none⟩ v1 (.inl rfl)
  exact ⟨hb.set 2 v1, h.own.keeps k (fun i e _ => (h.fr i e).2.1), h.bel.trans (k.below (fun i _ e => by rw [e]; exact h.at_) h.size), h.res.keeps k (fun e => by have := h.lt; omega)⟩
theorem GApp.reset {w w1 : World} {g base t : Nat} {v1 : Value} {ys : List UInt8} (h : GApp w g base t v1 ys w1) :
    Blk ((((w1.setCell ⟨g, 2, none⟩ v1).setCell ⟨g, 0, none⟩ (.bool false)).setCell ⟨g, 1, none⟩ (.int .i64 0)).setCell ⟨g, 2, none⟩ (.slice none 0 0)) g #[.bool false, .int .i64 ((0 : Nat) : Int), .slice none 0 0] tG ∧ OwB 0 ((((w1.setCell ⟨g, 2, none⟩ v1).setCell ⟨g, 0, none⟩ (.bool false)).setCell ⟨g, 1, none⟩ (.int .i64 0)).setCell ⟨g, 2, none⟩ (.slice none 0 0)) v1 ys ∧
      Below base w ((((w1.setCell ⟨g, 2, none⟩ v1).setCell ⟨g, 0, none⟩ (.bool false)).setCell ⟨g, 1, none⟩ (.int .i64 0)).setCell ⟨g, 2, none⟩ (.slice none 0 0)) ∧ Blk ((((w1.setCell ⟨g, 2, none⟩ v1).setCell ⟨g, 0, none⟩ (.bool false)).setCell ⟨g, 1, none⟩ (.int .i64 0)).setCell ⟨g, 2, none⟩ (.slice none 0 0)) w.heap.size zero5 29 := by
  obtain ⟨hb, ho, hl, hr⟩ := h.store
  have k : ∀ (W : World) (p : Addr) (v : Value), p.block = g → Keeps (· = g) W (W.setCell p v) := fun W p v h => Keeps.setCell W p v (.inl h)
  have kk := ((k (w1.setCell ⟨g, 2, none⟩ v1) ⟨g, 0, none⟩ (.bool false) rfl).trans (k _ ⟨g, 1, none⟩ (.int .i64 0) rfl)).trans (k _ ⟨g, 2, none⟩ (.slice none 0 0) rfl)
  exact ⟨((hb.set 0 (.bool false)).set 1 (.int .i64 0)).set 2 (.slice none 0 0), ho.keeps kk (fun i e _ => (h.fr i e).2.1), hl.trans (kk.below (fun i _ e => by rw [e]; exact h.at_) (Nat.le_trans h.hbw hl.size)), hr.keeps kk (fun e => by have := h.lt; omega)⟩
theorem GApp.fin {w w1 : World} {g base t : Nat} {v1 : Value} {ys : List UInt8} (h : GApp w g base t v1 ys w1) (hl : ys.length ≤ 32768) (h0 : 0 < ys.length) (a b c d e : Value) {R : Except Int (Option SnapV) × GatV} (hR : R = (.ok none, ⟨true, t, ys⟩)) :
    AddPost w g base R (.returned (.tuple #[nilS, .bool false, .int .i64 0])) ((((((w1.setCell ⟨g, 2, none⟩ v1).setCell ⟨w.heap.size, 0, none⟩ a).setCell ⟨w.heap.size, 1, none⟩ b).setCell ⟨w.heap.size, 2, none⟩ c).setCell ⟨w.heap.size, 3, none⟩ d).setCell ⟨w.heap.size, 4, none⟩ e) := by
  obtain ⟨hk, ho, hbl, hr⟩ := h.store
  have ks := keeps_set5 (w1.setCell ⟨g, 2, none⟩ v1) w.heap.size a b c d e
  exact AddPost.none hR (hbl.trans (ks.below (fun i _ e => by rw [e]; exact h.hbw) (Nat.le_trans h.hbw hbl.size))) ⟨v1, hk.keeps ks (fun e => by have := h.lt; omega), ho.keeps ks (fun i e _ => (h.fr i e).2.2), fun i e => ⟨(h.fr i e).1, (h.fr i e).2.1, Nat.lt_of_lt_of_le (ho.lt h0 i e (Nat.zero_le _)) ks.size⟩, h.at_, hl⟩
theorem reset_end {w w4 : World} {g base : Nat} (hb4 : Below base w w4) (hg4 : Blk w4 g #[.bool false, .int .i64 ((0 : Nat) : Int), .slice none 0 0] tG) (hlt : g < w.heap.size) (hat : base ≤ g) (a b c d e : Value) (o : Obj) :
    Below base w ((((((w4.setCell ⟨w.heap.size, 0, none⟩ a).setCell ⟨w.heap.size, 1, none⟩ b).setCell ⟨w.heap.size, 2, none⟩ c).setCell ⟨w.heap.size, 3, none⟩ d).setCell ⟨w.heap.size, 4, none⟩ e).alloc o) ∧ GatIn ((((((w4.setCell ⟨w.heap.size, 0, none⟩ a).setCell ⟨w.heap.size, 1, none⟩ b).setCell ⟨w.heap.size, 2, none⟩ c).setCell ⟨w.heap.size, 3, none⟩ d).setCell ⟨w.heap.size, 4, none⟩ e).alloc o) g base ⟨false, 0, []⟩ := by
  have ks := keeps_set5 w4 w.heap.size a b c d e
  have hbw : base ≤ w4.heap.size := Nat.le_trans (Nat.le_trans hat (Nat.le_of_lt hlt)) hb4.size
  exact ⟨(hb4.trans (ks.below (fun i _ e => by omega) hbw)).alloc (Nat.le_trans hbw ks.size) _, .slice none 0 0, (hg4.keeps ks (fun e => by omega)).alloc _, OwB.nil _ _, fun i h => by simp [Value.ownBlock] at h, hat, by simp⟩
theorem start_set {w : World} {g : Nat} {bg : Bool} {tot : Int} {v0 : Value} (hk : Blk w g #[.bool bg, .int .i64 tot, v0] tG) (t : Int) (o : Obj) :
    Keeps (· = g) w ((((w.setCell ⟨g, 0, none⟩ (.bool true)).setCell ⟨g, 1, none⟩ (.int .i64 t)).setCell ⟨g, 2, none⟩ (.slice none 0 0)).alloc o) ∧ Blk ((((w.setCell ⟨g, 0, none⟩ (.bool true)).setCell ⟨g, 1, none⟩ (.int .i64 t)).setCell ⟨g, 2, none⟩ (.slice none 0 0)).alloc o) g #[.bool true, .int .i64 t, .slice none 0 0] tG := by
  have k : ∀ (W : World) (p : Addr) (v : Value), p.block = g → Keeps (· = g) W (W.setCell p v) := fun W p v h => Keeps.setCell W p v (.inl h)
  exact ⟨(((k w ⟨g, 0, none⟩ (.bool true) rfl).trans (k _ ⟨g, 1, none⟩ (.int .i64 t) rfl)).trans (k _ ⟨g, 2, none⟩ (.slice none 0 0) rfl)).trans (Keeps.alloc _ _ _), (((hk.set 0 (.bool true)).set 1 (.int .i64 t)).set 2 (.slice none 0 0)).alloc _⟩
end Go.Proofs.Ytapgknaoieojkaa.Toll
