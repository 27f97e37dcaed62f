/- Walk: disk.Used. -/
import Derived.Test.YtapgknaoieojkaaDiskV
set_option linter.unusedVariables false
set_option linter.unusedSimpArgs false
set_option maxRecDepth 100000
namespace Go.Proofs.Ytapgknaoieojkaa.Toll
open Go.RowKit
open Go.ChangeMaps (setBlock)
def usedE (ents : List Ent) : Nat := (ents.map fun e => e.f.now.length).sum
def usedF (D : List (ByteArray × FileP)) : Nat := (D.map fun p => p.2.now.length).sum
def leftSum (ents : List Ent) (seen : Array Nat) : Nat := ((ents.filter fun e => !seen.contains e.born).map fun e => e.f.now.length).sum
theorem leftSum_le (ents : List Ent) (seen : Array Nat) : leftSum ents seen ≤ usedE ents := by
  unfold leftSum usedE
  induction ents with
  | nil => simp
  | cons x l ih =>
    simp only [List.filter_cons]
    split <;> simp only [List.map_cons, List.sum_cons] <;> omega
theorem contains_push (seen : Array Nat) (b y : Nat) : (seen.push b).contains y = (decide (y = b) || seen.contains y) := by
  rw [Bool.eq_iff_iff]
  simp only [Array.contains_iff_mem, Array.mem_push, Bool.or_eq_true, decide_eq_true_eq]
  exact or_comm
theorem leftSum_push {ents : List Ent} (hd : ents.Pairwise (fun a b => a.born ≠ b.born)) (seen : Array Nat) {e : Ent} (he : e ∈ ents) (hs : seen.contains e.born = false) : leftSum ents (seen.push e.born) + e.f.now.length = leftSum ents seen := by
  unfold leftSum
  have hf : (fun y : Ent => !(seen.push e.born).contains y.born) = fun y : Ent => !(decide (y.born = e.born) || seen.contains y.born) := by
    funext y
    rw [contains_push]
  rw [hf]
  clear hf
  induction ents with
  | nil => cases he
  | cons x l ih =>
    have h' := List.pairwise_cons.1 hd
    rcases List.mem_cons.1 he with e1 | he'
    · subst e1
      have hl : l.filter (fun y => !(decide (y.born = e.born) || seen.contains y.born)) = l.filter (fun y => !seen.contains y.born) := by
        refine List.filter_congr (fun y hy => ?_)
        rw [decide_eq_false (fun h => h'.1 y hy h.symm)]; rfl
      rw [List.filter_cons, List.filter_cons, hl, decide_eq_true rfl, hs]
      simp only [Bool.true_or, Bool.not_true, Bool.not_false, if_true, Bool.false_eq_true, if_false, List.map_cons, List.sum_cons]
      omega
    · have hne : decide (x.born = e.born) = false := decide_eq_false (h'.1 e he')
      rw [List.filter_cons, List.filter_cons, hne, Bool.false_or]
      have := ih h'.2 he'
      split
      · simp only [List.map_cons, List.sum_cons]; omega
      · exact this
theorem leftSum_all (ents : List Ent) : leftSum ents #[] = usedE ents := by
  have h : (ents.filter fun e => !(#[] : Array Nat).contains e.born) = ents := List.filter_eq_self.2 (fun e _ => by simp)
  unfold leftSum usedE
  rw [h]
theorem leftSum_none {ents : List Ent} {seen : Array Nat} (h : (leftOf (esOf ents) seen).size = 0) : leftSum ents seen = 0 := by
  have h' : leftOf (esOf ents) seen = #[] := Array.eq_empty_of_size_eq_zero h
  have : (ents.filter fun e => !seen.contains e.born) = [] := by
    rw [List.filter_eq_nil_iff]
    intro e he hc
    have : e.entry ∈ leftOf (esOf ents) seen := by
      unfold leftOf
      rw [Array.mem_filter]
      exact ⟨by simp [esOf]; exact ⟨e, he, rfl⟩, hc⟩
    rw [h'] at this
    simp at this
  unfold leftSum
  rw [this]
  rfl
/-- what is left of a walk through the map whose iterator lies at r -/
def leftN (ents : List Ent) (w : World) (r : Nat) : Nat := match w.heap[r]? with
  | some (.mapIter _ _ seen _) => (leftOf (esOf ents) seen).size
  | _ => 0
theorem leftN_of {ents : List Ent} {w : World} {r : Nat} {m : Option Nat} {s c : Nat} {seen : Array Nat} (h : w.heap[r]? = some (.mapIter m s seen c)) : leftN ents w r = (leftOf (esOf ents) seen).size := by
  unfold leftN
  rw [h]
section
variable {P : Program} {ops : Array Oper} {rest : List Oper} {o : Oper} {a : Act} {Q : Exit → Act → World → Prop} {w : World}
theorem wpList_rangeE (hg : o.guard = none) (m : Operand) (t : TypeId) (hop : o.op = Op.range t m) (mv r : Value) (w' : World) (hm : a.eval m = mv) (hr : (Instr.range t mv).run P w = .ok r w')
    (hK : wpList P ops Q rest (a.put o.dst r) w') : wpList P ops Q (o :: rest) a w := by
  refine wpList_plain hg fun K' hK' => ?_
  unfold Oper.wp
  simp [execOp, hop, hm, hr, Result.andThen]
  exact hK' _ _ hK
theorem wpList_nextE {ents : List Ent} {r M since c0 clock : Nat} {seen : Array Nat} (hg : o.guard = none) (it : Operand) (hop : o.op = Op.next it false) (hit : a.eval it = .pointer (some ⟨r, 0, none⟩))
    (hr : w.heap[r]? = some (.mapIter (some M) since seen c0)) (hb : w.heap[M]? = some (.map (esOf ents) clock)) (hold : ∀ e ∈ ents, e.born < since) (hsc : since ≤ c0)
    (hDone : (leftOf (esOf ents) seen).size = 0 → wpList P ops Q rest (a.put o.dst (.tuple #[.bool false])) w)
    (hMore : ∀ e ∈ ents, seen.contains e.born = false → (leftOf (esOf ents) (seen.push e.born)).size < (leftOf (esOf ents) seen).size → ∀ w', Keeps (· = r) w w' → w'.heap.size = w.heap.size → w'.heap[r]? = some (.mapIter (some M) since (seen.push e.born) clock) →
      wpList P ops Q rest (a.put o.dst (.tuple #[.bool true, .string e.key, .pointer (some ⟨e.blk, 0, none⟩)])) w') :
    wpList P ops Q (o :: rest) a w := by
  refine wpList_plain hg fun K' hK' => ?_
  unfold Oper.wp
  have hold' : ∀ x ∈ (esOf ents).toList, x.born < since := by
    intro x hx
    simp only [esOf, List.mem_map] at hx
    obtain ⟨e, he, rfl⟩ := hx
    exact hold e he
  rcases run_next_at (P := P) w o.type r M since c0 seen (esOf ents) clock hr hb hold' hsc with ⟨h0, hrun⟩ | ⟨x, hx, w1, hw1, hrun⟩
  · simp [execOp, hop, hit, hrun, Result.andThen]
    exact hK' _ _ (hDone h0)
  · have hsh := left_shrinks (esOf ents) seen x hx
    obtain ⟨hx1, hx2⟩ := mem_left hx
    simp only [esOf, List.mem_map] at hx1
    obtain ⟨e, he, rfl⟩ := hx1
    simp [execOp, hop, hit, hrun, Result.andThen]
    have hr1 : w1.heap[r]? = some (.mapIter (some M) since seen c0) := by rcases hw1 with rfl | rfl <;> exact hr
    have hk1 : Keeps (· = r) w w1 := by rcases hw1 with rfl | rfl; exact Keeps.refl _ _; exact Keeps.drew _ _
    have hs1 : w1.heap.size = w.heap.size := by rcases hw1 with rfl | rfl <;> rfl
    exact hK' _ _ (hMore e he hx2 hsh _ (hk1.trans (setBlock_keeps _ rfl)) (by simp [setBlock, hs1]) (setBlock_at hr1))
end
theorem entry_run {w : World} {ents : List Ent} {r M since clock : Nat} {seen : Array Nat} {e : Ent} (hr : w.heap[r]? = some (.mapIter (some M) since (seen.push e.born) clock)) (hb : w.heap[M]? = some (.map (esOf ents) clock)) (he : e ∈ ents)
    (hn : ents.Pairwise (fun a b => a.born ≠ b.born)) (P : Program) : (Instr.entry (.pointer (some ⟨r, 0, none⟩))).run P w = .ok (.tuple #[.string e.key, .pointer (some ⟨e.blk, 0, none⟩)]) w := by
  have h := run_entry_at (P := P) w r M since seen (esOf ents) clock e.entry hr hb (by simp [esOf]; exact ⟨e, he, rfl⟩) (by
    have : (esOf ents).toList.map (·.born) = ents.map (·.born) := by simp [esOf, Ent.entry]
    rw [this]
    exact List.pairwise_map.2 hn)
  exact h
theorem used_mem {ents : List Ent} {e : Ent} (he : e ∈ ents) : e.f.now.length ≤ usedE ents := by
  unfold usedE
  induction ents with
  | nil => cases he
  | cons x l ih =>
    simp only [List.map_cons, List.sum_cons]
    rcases List.mem_cons.1 he with rfl | h
    · omega
    · have := ih h; omega
theorem used_le {F : Nat → Prop} {w : World} : ∀ {ents : List Ent}, (∀ e ∈ ents, FileAt F w e) → usedE ents ≤ 262144 * ents.length
  | [], _ => by simp [usedE]
  | x :: l, h => by
    have h1 := used_le (ents := l) (fun e he => h e (List.mem_cons_of_mem _ he))
    have h2 := (h x (List.mem_cons_self ..)).ok.le
    unfold usedE at *
    simp only [List.map_cons, List.sum_cons, List.length_cons]
    omega
/-- disk.Used. -/
theorem Used_any {F : Nat → Prop} {d M clock : Nat} {room : Int} {ents : List Ent} (w : World) (h : DiskAt F w d M clock room ents) :
    Calls Try.prog 42 #[.pointer (some ⟨d, 0, none⟩)] w fun e w' => e = .returned (.int .i64 (usedE ents : Int)) ∧ Below w.heap.size w w' := by
  have H := Lib.hid h
  have hu : usedE ents ≤ 4194304 := by have := used_le h.file; have := h.small; omega
  have cD := h.disk.cell 1
  simp only [List.getElem?_toArray, List.getElem?_cons_succ, List.getElem?_cons_zero] at cD
  have hrg := run_range_map (P := Try.prog) w tMap _ _ M (esOf ents) clock underMap h.map
  go_enter Try.func42, Try.ntmps42
  go_wp2_with (at_range; refine wpList_rangeE rfl _ tMap rfl _ _ _ rfl hrg ?_)
  go_frame
  have hMlt : M < w.heap.size := h.lt M h.mF
  have hst : DiskAt F (w.alloc (.mapIter (some M) clock #[] clock)) d M clock room ents := h.out (Keeps.alloc (fun _ => False) w _) (fun _ _ => id)
  clear cD hrg h
  go_loopw [3] (fun n wr => ∃ (acc : Nat) (seen : Array Nat) (c0 : Nat), n = .int .i64 (acc : Int) ∧ acc + leftSum ents seen = usedE ents ∧ Below w.heap.size w wr ∧ clock ≤ c0 ∧ wr.heap[w.heap.size]? = some (.mapIter (some M) clock seen c0)) (fun _ wr => leftN ents wr w.heap.size)
  case atStart => exact ⟨0, #[], clock, rfl, by rw [leftSum_all]; omega, (Below.refl _ _).alloc (Nat.le_refl _) _, Nat.le_refl _, heap_alloc_new _ _⟩
  case round =>
    obtain ⟨acc, seen, c0, rfl, hacc, hb, hc0, hit⟩ := hrel
    have HI := Lib.hid hit
    have HB := Lib.hid hb
    have hmr : wr.heap[M]? = some (.map (esOf ents) clock) := (hb.block M hMlt).trans H.out.map
    clear hit hb hst
    go_wp2_with (at_next; refine wpList_nextE rfl _ rfl rfl HI.out hmr H.out.born hc0 ?done ?more)
    case done =>
      intro h0
      have hl := leftSum_none (by rw [h0]; rfl)
      obtain rfl : acc = usedE ents := by omega
      go_wp2
      go_ret
      exact ⟨rfl, HB.out⟩
    case more =>
      intro e he hse hlt w1 hk1 hsz1 hit1
      have hb1 : Below w.heap.size w w1 := HB.out.trans (hk1.below (fun i _ e => by omega) HB.out.size)
      have hen := entry_run hit1 ((hb1.block M hMlt).trans H.out.map) he (H.out.apart.imp Apart.born) Try.prog
      have hf := (H.out.file e he).blk.below hb1
      obtain ⟨A, c, ev, hr, hlc, hcm, _⟩ := (H.out.file e he).now
      have hc := hf.cell 0
      simp only [List.getElem?_toArray, List.getElem?_cons_zero, ev] at hc
      have hm := used_mem he
      have hp := leftSum_push (H.out.apart.imp Apart.born) seen he (by simpa using hse)
      have HI1 := Lib.hid hit1
      have HN : Hid (leftN ents w1 w.heap.size < leftN ents wr w.heap.size) := Lib.hid (by rw [leftN_of hit1, leftN_of HI.out]; exact hlt)
      clear hk1 hit1 hf ev hr hlt hmr
      go_wp2
      go_round
      case rel => exact ⟨acc + e.f.now.length, _, clock, by go_num, by omega, hb1, Nat.le_refl _, HI1.out⟩
      case measure => exact HN.out
theorem usedE_abs (ents : List Ent) : usedF (ents.map Ent.abs) = usedE ents := by
  simp [usedF, usedE, Ent.abs, Function.comp_def]
end Go.Proofs.Ytapgknaoieojkaa.Toll
