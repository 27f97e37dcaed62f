/- Map laws for the disk's map, on entries as they lie. -/
import Derived.Test.YtapgknaoieojkaaVals
import Derived.Maps.Keyed
import Derived.Maps.OwnOps
import Derived.Maps.OwnSet
set_option linter.unusedVariables false
set_option linter.unusedSimpArgs false
set_option maxRecDepth 100000
namespace Go.Proofs.Ytapgknaoieojkaa.Toll
open Go.RowKit
open Go.ChangeMaps (setBlock)
abbrev tMap : TypeId := 79
abbrev tFileP : TypeId := 88
abbrev tFile : TypeId := 92
abbrev tDisk : TypeId := 81
abbrev tChg : TypeId := 96
abbrev tChgs : TypeId := 90
abbrev tStr : TypeId := 9
structure Chg where
  cut : Bool
  size : Nat
  at_ : Nat
  b : List UInt8
structure FileP where
  now : List UInt8
  sure : List UInt8
  lasts : Bool
  chs : List Chg
structure Ent where
  key : ByteArray
  blk : Nat
  born : Nat
  nowV : Value
  sureV : Value
  chgV : Value
  f : FileP
def Ent.entry (e : Ent) : MapEntry := ⟨.string e.key, .pointer (some ⟨e.blk, 0, none⟩), e.born⟩
def esOf (ents : List Ent) : Array MapEntry := (ents.map Ent.entry).toArray
theorem underMap : Try.prog.underlying tMap = some (.map tStr tFileP) := by kernel_rfl
theorem keyedS : Go.Maps.Keyed Try.prog tStr := Go.Maps.string_keyed Try.underlying9
theorem keyS (k : ByteArray) (hk : k.size ≤ maxLen) : keyOf Try.prog tStr (.string k) = some (.string k.data.toList) := by
  simp [keyOf, mapKey, Try.underlying9, hk]
theorem zeroFileP (w : World) : (zeroValue tFileP).run Try.prog w = .ok (.pointer none) w := by kernel_rfl
def Diff (l : List Ent) : Prop := l.Pairwise (fun a b => a.key ≠ b.key)
theorem diff_mem {l : List Ent} (h : Diff l) {a b : Ent} (ha : a ∈ l) (hb : b ∈ l) (e : a.key = b.key) : a = b := by
  induction l with
  | nil => cases ha
  | cons x l ih =>
    have h' := List.pairwise_cons.1 h
    rcases List.mem_cons.1 ha with rfl | ha
    · rcases List.mem_cons.1 hb with rfl | hb
      · rfl
      · exact absurd e (h'.1 b hb)
    · rcases List.mem_cons.1 hb with e2 | hb
      · exact absurd (e2 ▸ e.symm) (h'.1 a ha)
      · exact ih h'.2 ha hb
theorem diff_modify {l : List Ent} (h : Diff l) (g : Ent → Ent) : ∀ {j : Nat} {a : Ent}, l[j]? = some a → l.modify j g = l.map (fun x => if x.key = a.key then g x else x) := by
  induction l with
  | nil => intro j a e; simp at e
  | cons x l ih =>
    intro j a e
    have h' := List.pairwise_cons.1 h
    rcases j with _ | j
    · simp at e
      subst e
      have : l.map (fun y => if y.key = x.key then g y else y) = l := by
        conv => rhs; rw [← List.map_id l]
        refine List.map_congr_left (fun y hy => ?_)
        rw [if_neg (fun e => h'.1 y hy e.symm)]
        rfl
      simp [this]
    · simp at e
      have hm := List.mem_of_getElem? e
      simp [ih h'.2 e, if_neg (h'.1 a hm)]
theorem diff_erase {l : List Ent} (h : Diff l) : ∀ {j : Nat} {a : Ent}, l[j]? = some a → l.eraseIdx j = l.filter (fun x => decide (x.key ≠ a.key)) := by
  induction l with
  | nil => intro j a e; simp at e
  | cons x l ih =>
    intro j a e
    have h' := List.pairwise_cons.1 h
    rcases j with _ | j
    · simp at e
      subst e
      have : l.filter (fun y => decide (y.key ≠ x.key)) = l := List.filter_eq_self.2 (fun y hy => by simpa using fun e => h'.1 y hy e.symm)
      simp only [List.eraseIdx_cons_zero, List.filter_cons]
      rw [this]
      simp
    · simp at e
      have hm := List.mem_of_getElem? e
      simp only [List.eraseIdx_cons_succ, List.filter_cons, ih h'.2 e]
      rw [decide_eq_true (h'.1 a hm)]
      simp
section
variable {w : World} {M clock : Nat} {ents : List Ent} {k : ByteArray}
theorem findS (hks : ∀ e ∈ ents, e.key.size ≤ maxLen) (hk : k.size ≤ maxLen) (w : World) :
    ((Instr.findKey tStr (.string k) (esOf ents).toList).run Try.prog w = .ok none w ∧ ∀ e ∈ ents, e.key ≠ k) ∨
    ∃ j e, (Instr.findKey tStr (.string k) (esOf ents).toList).run Try.prog w = .ok (some (j, .pointer (some ⟨e.blk, 0, none⟩))) w ∧ ents[j]? = some e ∧ e.key = k := by
  have hall : ∀ e ∈ (esOf ents).toList, ∃ l, keyOf Try.prog tStr e.key = some l := by
    intro e he
    simp only [esOf, List.mem_map] at he
    obtain ⟨x, hx, rfl⟩ := he
    exact ⟨_, keyS x.key (hks x hx)⟩
  rcases keyedS.find w (keyS k hk) (esOf ents).toList hall with ⟨h1, h2⟩ | ⟨j, e, h1, h2, h3⟩
  · refine .inl ⟨h1, fun e he ek => h2 e.entry (by simp [esOf]; exact ⟨e, he, rfl⟩) (by rw [Ent.entry, ek])⟩
  · simp only [esOf, List.getElem?_map] at h2
    obtain ⟨x, hx, rfl⟩ := Option.map_eq_some_iff.1 h2
    refine .inr ⟨j, x, h1, hx, ?_⟩
    injection h3
theorem look_none (hb : w.heap[M]? = some (.map (esOf ents) clock)) (hks : ∀ e ∈ ents, e.key.size ≤ maxLen) (hk : k.size ≤ maxLen) (hn : ∀ e ∈ ents, e.key ≠ k) :
    (Instr.lookup tMap (.map (some M)) (.string k) true).run Try.prog w = .ok (.tuple #[.pointer none, .bool false]) w := by
  rcases findS hks hk w with ⟨h1, h2⟩ | ⟨j, e, h1, h2, h3⟩
  · simp [Instr.lookup, run_underlying underMap, MapKept.run_getObj_map hb, keyedS.check w _ (keyS k hk), h1, zeroFileP, Result.andThen]
  · exact absurd h3 (hn e (List.mem_of_getElem? h2))
theorem look_some (hb : w.heap[M]? = some (.map (esOf ents) clock)) (hd : Diff ents) (hks : ∀ e ∈ ents, e.key.size ≤ maxLen) (hk : k.size ≤ maxLen) {e : Ent} (he : e ∈ ents) (hek : e.key = k) :
    (Instr.lookup tMap (.map (some M)) (.string k) true).run Try.prog w = .ok (.tuple #[.pointer (some ⟨e.blk, 0, none⟩), .bool true]) w := by
  rcases findS hks hk w with ⟨h1, h2⟩ | ⟨j, x, h1, h2, h3⟩
  · exact absurd hek (h2 e he)
  · obtain rfl := diff_mem hd (List.mem_of_getElem? h2) he (h3.trans hek.symm)
    simp [Instr.lookup, run_underlying underMap, MapKept.run_getObj_map hb, keyedS.check w _ (keyS k hk), h1, Result.andThen]
theorem look1_some (hb : w.heap[M]? = some (.map (esOf ents) clock)) (hd : Diff ents) (hks : ∀ e ∈ ents, e.key.size ≤ maxLen) (hk : k.size ≤ maxLen) {e : Ent} (he : e ∈ ents) (hek : e.key = k) :
    (Instr.lookup tMap (.map (some M)) (.string k) false).run Try.prog w = .ok (.pointer (some ⟨e.blk, 0, none⟩)) w := by
  rcases findS hks hk w with ⟨h1, h2⟩ | ⟨j, x, h1, h2, h3⟩
  · exact absurd hek (h2 e he)
  · obtain rfl := diff_mem hd (List.mem_of_getElem? h2) he (h3.trans hek.symm)
    simp [Instr.lookup, run_underlying underMap, MapKept.run_getObj_map hb, keyedS.check w _ (keyS k hk), h1, Result.andThen]
/-- the entries behind a store -/
def putE (ents : List Ent) (k : ByteArray) (f : Ent → Ent) : List Ent := ents.map fun x => if x.key = k then f x else x
theorem store_none (hb : w.heap[M]? = some (.map (esOf ents) clock)) (hks : ∀ e ∈ ents, e.key.size ≤ maxLen) (hk : k.size ≤ maxLen) (hn : ∀ e ∈ ents, e.key ≠ k) (x : Ent) (hxk : x.key = k) (hxb : x.born = clock) :
    (Instr.mapUpdate tMap (.map (some M)) (.string k) (.pointer (some ⟨x.blk, 0, none⟩))).run Try.prog w = .ok () (setBlock w M (.map (esOf (ents ++ [x])) (clock + 1))) := by
  rcases findS hks hk w with ⟨h1, h2⟩ | ⟨j, e, h1, h2, h3⟩
  · simp [Instr.mapUpdate, run_underlying underMap, MapKept.run_getObj_map hb, keyedS.check w false (keyS k hk), h1, MapKept.run_setObj_map _ hb, Result.andThen, setBlock]
    simp [esOf, Ent.entry, hxk, hxb]
  · exact absurd h3 (hn e (List.mem_of_getElem? h2))
theorem store_some (hb : w.heap[M]? = some (.map (esOf ents) clock)) (hd : Diff ents) (hks : ∀ e ∈ ents, e.key.size ≤ maxLen) (hk : k.size ≤ maxLen) {e : Ent} (he : e ∈ ents) (hek : e.key = k) (b : Nat) :
    (Instr.mapUpdate tMap (.map (some M)) (.string k) (.pointer (some ⟨b, 0, none⟩))).run Try.prog w = .ok () (setBlock w M (.map (esOf (putE ents k fun x => { x with blk := b })) clock)) := by
  rcases findS hks hk w with ⟨h1, h2⟩ | ⟨j, x, h1, h2, h3⟩
  · exact absurd hek (h2 e he)
  · obtain rfl := diff_mem hd (List.mem_of_getElem? h2) he (h3.trans hek.symm)
    have hj : (esOf ents)[j]? = some x.entry := by simp [esOf, h2]
    have hm : (esOf ents).modify j (fun e' => { e' with key := .string k, val := .pointer (some ⟨b, 0, none⟩) }) = esOf (putE ents k fun x => { x with blk := b }) := by
      have e1 := diff_modify hd (fun y => { y with key := k, blk := b }) h2
      rw [h3] at e1
      have e2 : putE ents k (fun x => { x with blk := b }) = ents.modify j (fun y => { y with key := k, blk := b }) := by
        rw [e1, putE]
        refine List.map_congr_left (fun y _ => ?_)
        split
        · rename_i hy; subst hy; rfl
        · rfl
      rw [e2]
      simp only [esOf]
      apply Array.ext'
      rw [Array.toList_modify]
      apply List.ext_getElem?
      intro i
      simp only [List.getElem?_modify, List.getElem?_map]
      split <;> cases ents[i]? <;> rfl
    simp [Instr.mapUpdate, run_underlying underMap, MapKept.run_getObj_map hb, keyedS.check w false (keyS k hk), h1, hj, Ent.entry, h3, keyedS.stays w (keyS k hk), MapKept.run_setObj_map _ hb, Result.andThen, setBlock]
    rw [← hm]
theorem drop_any (hb : w.heap[M]? = some (.map (esOf ents) clock)) (hd : Diff ents) (hks : ∀ e ∈ ents, e.key.size ≤ maxLen) (hk : k.size ≤ maxLen) (ty : TypeId) :
    (Builtin.delete_ #[tMap, tStr] ty #[.map (some M), .string k]).run Try.prog w = .ok (.tuple #[]) (setBlock w M (.map (esOf (ents.filter fun x => decide (x.key ≠ k))) clock)) := by
  rcases findS hks hk w with ⟨h1, h2⟩ | ⟨j, x, h1, h2, h3⟩
  · have : ents.filter (fun x => decide (x.key ≠ k)) = ents := List.filter_eq_self.2 (fun y hy => by simpa using h2 y hy)
    rw [this]
    simp [Builtin.delete_, run_underlying underMap, MapKept.run_getObj_map hb, keyedS.check w _ (keyS k hk), h1, MapKept.run_setObj_map _ hb, Result.andThen, setBlock]
  · have e1 := diff_erase hd h2
    rw [h3] at e1
    rw [← e1]
    have hj : j < ents.length := (List.getElem?_eq_some_iff.1 h2).1
    have hm : (esOf ents).eraseIdxIfInBounds j = esOf (ents.eraseIdx j) := by
      unfold Array.eraseIdxIfInBounds
      rw [dif_pos (by simpa [esOf] using hj)]
      simp only [esOf]
      apply Array.ext'
      simp [ChangeMaps.map_eraseIdx]
    simp [Builtin.delete_, run_underlying underMap, MapKept.run_getObj_map hb, keyedS.check w _ (keyS k hk), h1, MapKept.run_setObj_map _ hb, Result.andThen, setBlock]
    rw [← hm]
theorem setBlock_same {o : Obj} (hb : w.heap[M]? = some o) : setBlock w M o = w := by
  obtain ⟨h, e⟩ := Array.getElem?_eq_some_iff.1 hb
  unfold setBlock
  have : w.heap.setIfInBounds M o = w.heap := by
    apply Array.ext_getElem?
    intro i
    rw [Array.getElem?_setIfInBounds]
    split
    · rename_i hi; subst hi; exact hb.symm
    · rfl
  rw [this]
theorem setBlock_at {o o' : Obj} (hb : w.heap[M]? = some o) : (setBlock w M o').heap[M]? = some o' := (MapKept.heap_set hb).1
theorem setBlock_keeps (o' : Obj) {S : Nat → Prop} (hS : S M) : Keeps S w (setBlock w M o') :=
  ⟨rfl, rfl, rfl, by simp [setBlock], fun i _ hs => by
    simp only [setBlock]
    rw [Array.getElem?_setIfInBounds, if_neg (fun (e : M = i) => hs (e ▸ hS))]⟩
end
section
variable {P : Program} {ops : Array Oper} {rest : List Oper} {o : Oper} {a : Act} {Q : Exit → Act → World → Prop} {w : World}
theorem wpList_lookE (hg : o.guard = none) (m x : Operand) (t : TypeId) (c : Bool) (hop : o.op = Op.lookup t m x c) (mv kv r : Value) (hm : a.eval m = mv) (hx : a.eval x = kv) (hr : (Instr.lookup t mv kv c).run P w = .ok r w)
    (hK : wpList P ops Q rest (a.put o.dst r) w) : wpList P ops Q (o :: rest) a w := by
  refine wpList_plain hg fun K' hK' => ?_
  unfold Oper.wp
  simp [execOp, hop, hm, hx, hr, Result.andThen]
  exact hK' _ _ hK
theorem wpList_storeE (hg : o.guard = none) (m x v : Operand) (t : TypeId) (hop : o.op = Op.mapUpdate t m x v) (mv kv vv : Value) (w' : World) (hm : a.eval m = mv) (hx : a.eval x = kv) (hv : a.eval v = vv) (hr : (Instr.mapUpdate t mv kv vv).run P w = .ok () w')
    (hK : wpList P ops Q rest (a.put o.dst undef) w') : wpList P ops Q (o :: rest) a w := by
  refine wpList_plain hg fun K' hK' => ?_
  unfold Oper.wp
  simp [execOp, hop, hm, hx, hv, hr, Result.andThen]
  exact hK' _ _ hK
theorem wpList_dropE (hg : o.guard = none) (m x : Operand) (t k : TypeId) (hop : o.op = Op.call { callee := Callee.builtin Builtin.delete, args := #[m, x], argTypes := #[t, k] }) (mv kv : Value) (w' : World) (hm : a.eval m = mv) (hx : a.eval x = kv)
    (hr : (Builtin.delete_ #[t, k] o.type #[mv, kv]).run P w = .ok (.tuple #[]) w')
    (hK : wpList P ops Q rest (a.put o.dst (.tuple #[])) w') : wpList P ops Q (o :: rest) a w := by
  refine wpList_plain hg fun K' hK' => ?_
  unfold Oper.wp
  simp [execOp, hop, resolve, invoke, builtin, hm, hx, hr, Result.andThen]
  exact hK' _ _ hK
end
end Go.Proofs.Ytapgknaoieojkaa.Toll
