/- slices.SortFunc of snap's files. -/
import Derived.Test.YtapgknaoieojkaaSortF
import Derived.Test.YtapgknaoieojkaaSnapN
set_option linter.unusedVariables false
set_option linter.unusedSimpArgs false
set_option maxRecDepth 100000
namespace Go.Proofs.Ytapgknaoieojkaa.Toll
open Go.RowKit Go.Shelf Go.Lib Go.Sort
abbrev tSf : TypeId := 86
abbrev tSfs : TypeId := 83
abbrev NIdx := Fin 1099511627777
def encF (n : NIdx) : List Value := [.string ⟨(nameF n.val).toArray⟩, .int .i64 (n.val : Int)]
def cfF (x y : NIdx) : Int := (y.val : Int) - (x.val : Int)
theorem ltF (x y : NIdx) : ltOf cfF x y = decide (y.val < x.val) := by
  unfold ltOf cfF
  congr 1
  apply propext
  omega
theorem swoF : SWO (ltOf cfF) where
  irrefl x := by rw [ltF]; simp
  trans x y z h1 h2 := by rw [ltF] at *; simp at *; omega
  ntrans x y z h1 h2 := by rw [ltF] at *; simp at *; omega
theorem totF (x y : NIdx) (h1 : ltOf cfF x y = false) (h2 : ltOf cfF y x = false) : x = y := by
  rw [ltF] at *
  simp at *
  apply Fin.ext
  omega
/-- The greatest first. -/
def sortF (l : List NIdx) : List NIdx := l.mergeSort fun x y => !(ltOf cfF) y x
theorem closureF (x y : NIdx) (W : World) : Calls Try.prog 65 #[.agg (encF x).toArray, .agg (encF y).toArray] W fun e w' => e = .returned (.int .i64 (cfF x y)) ∧ ∃ q os', w' = grow (W.drewN q) os' := by
  obtain ⟨x, hx⟩ := x
  obtain ⟨y, hy⟩ := y
  have hw : IntKind.i64.wrap ((y : Int) - (x : Int)) = (y : Int) - (x : Int) := by
    unfold IntKind.wrap
    simp [IntKind.signed, IntKind.bits]
    omega
  unfold cfF encF
  generalize (⟨(nameF x).toArray⟩ : ByteArray) = bx
  generalize (⟨(nameF y).toArray⟩ : ByteArray) = by'
  go_enter Try.func65, Try.ntmps65
  go_wp2
  go_ret
  exact ⟨rfl, 0, _, by rw [alloc_eq_grow, alloc_eq_grow, grow_grow]; rfl⟩
theorem sortWorldK_keeps {α : Type} [Inhabited α] (enc : α → List Value) (k : Nat) (w : World) (g n : Nat) (d : Array α) (os : Array Obj) : Keeps (· = g) w (sortWorldK enc k w g 0 n d os) := by
  refine ⟨rfl, rfl, rfl, ?_, fun j hj hne => ?_⟩
  · unfold sortWorldK putRowK
    simp [grow, putRow, mapBlock, Sort.ahead]
  · unfold sortWorldK putRowK
    rw [heap_grow_old _ _ (by simpa using hj)]
    have : g ≠ j := fun e => hne e.symm
    simp [putRow, mapBlock, Sort.ahead, Array.getElem?_modify, this]
theorem flat_get (l : List NIdx) : ∀ t, t < l.length * 2 → (l.flatMap encF)[t]? = some ((encF l[t / 2]!)[t % 2]!) := by
  induction l with
  | nil => intro t h; simp at h
  | cons x l ih =>
    intro t h
    rw [List.flatMap_cons]
    match t with
    | 0 => rfl
    | 1 => rfl
    | t + 2 =>
      rw [show (encF x ++ l.flatMap encF)[t + 2]? = (l.flatMap encF)[t]? from rfl, ih t (by simp at h; omega)]
      rw [show (t + 2) / 2 = t / 2 + 1 by omega, show (t + 2) % 2 = t % 2 by omega]
      simp
theorem flat_len (l : List NIdx) : (l.flatMap encF).length = l.length * 2 := by
  induction l with
  | nil => rfl
  | cons x l ih => rw [List.flatMap_cons, List.length_append, ih]; simp [encF]; omega
theorem sort_any (w : World) (base : Nat) (v : Value) (l : List NIdx) (h : OwV tSf 2 base w v l.length (l.flatMap encF)) (hl : l.length ≤ 16) :
    Calls Try.prog 64 #[v, .func (.func 65) #[] #[]] w fun e w' => e = .returned (.tuple #[]) ∧ (∀ A c, v = .slice A l.length c → RdV w' A ((sortF l).flatMap encF)) ∧ Keeps (fun i => base ≤ i ∧ v.ownBlock = some i) w w' := by
  rcases l with _ | ⟨x, l⟩
  · obtain ⟨A, c, rfl, _⟩ := h.form
    exact (AnyF.slices_SortFunc_none lay_sortF A c _ w).mono fun e w' ⟨he, hw⟩ => ⟨he, fun A' c' _ => by
      have : sortF [] = [] := by simp [sortF]
      rw [this]
      exact RdV.nil _ _, by rw [hw]; exact Keeps.refl _ _⟩
  · rcases h with h | ⟨h, _⟩
    · generalize hL : x :: l = L at *
      have hpos : 0 < L.length := by rw [← hL]; simp
      obtain ⟨g, cap, cur, rfl, hb, hg, hnc, hcm, hcs, htake⟩ := h.2.resolve_left (fun e => by omega)
      have hB : Blk w g cur tSf := hg
      have hH : HoldsK encF 2 w g 0 L.toArray := by
        intro j hj
        rw [size_flatK] at hj
        have hj' : j < L.length * 2 := by simpa using hj
        refine ⟨?_, by rw [Nat.zero_add]; exact hB.frozen j⟩
        rw [Nat.zero_add, hB.cell j, get_flatK _ _ _ _ hj]
        have h1 : cur[j]? = (L.flatMap encF)[j]? := by
          rw [← htake, List.getElem?_take_of_lt hj']
          simp
        rw [h1, flat_get L j hj']
        simp
      have hcmp : CmpLays Try.prog 65 #[] encF 2 cfF g 0 L.toArray.size w := fun _ _ _ _ x y => closureF x y _
      have eg : ∀ args w, (callFunc 65 args).run Try.prog w = .ok (.enter 65 args) w := enters_of Try.func65 (by kernel_rfl) rfl
      have hcon := AnyQ.slices_SortFunc_total lay_sortF 2 Try.isAgg86 Try.sizeOf86 encF (fun _ => rfl) (fun x v hv => by simp [encF] at hv; rcases hv with rfl | rfl <;> rfl) cfF swoF _ #[] g 0 cap L.toArray w eg hcmp hH hB.lt (by simp; omega) totF
      refine hcon.mono ?_
      rintro e w' ⟨rfl, n, os, rfl⟩
      refine ⟨rfl, ?_, (sortWorldK_keeps encF 2 w g n _ os).mono (fun i _ (e : i = g) => by rw [e]; exact ⟨hb, rfl⟩)⟩
      intro A c e
      injection e with e1 e2 e3
      subst e1
      have hs : (L.toArray.toList.mergeSort fun x y => !(ltOf cfF) y x) = sortF L := rfl
      rw [hs]
      have hsl : (sortF L).length = L.length := List.length_mergeSort _
      have hH2 := holdsK_sortWorldK_c encF 2 w g 0 L.toArray (sortF L).toArray n os hH hB.lt (by simpa using hsl)
      refine RdV.of_cells fun j u hu => ?_
      have hj : j < (sortF L).length * 2 := by
        have := (List.getElem?_eq_some_iff.1 hu).1
        rwa [flat_len] at this
      have := (hH2 j (by rw [size_flatK]; simpa using hj)).1
      rw [own_zero_add]
      rw [Nat.zero_add] at this
      rw [this, get_flatK _ _ _ _ (by simpa using hj)]
      rw [flat_get _ j hj] at hu
      rw [← Option.some.inj hu]
      simp
    · simp at h
end Go.Proofs.Ytapgknaoieojkaa.Toll
