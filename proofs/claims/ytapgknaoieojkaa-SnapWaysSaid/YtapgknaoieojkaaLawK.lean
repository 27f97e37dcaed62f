/- A law's frame: its arguments are opened; behind the walk they read as they did. -/
import Derived.Test.YtapgknaoieojkaaRows
import Derived.Test.YtapgknaoieojkaaSame
import Derived.ProofKit
import Derived.OpenShut
import Derived.ChangeSame
import Derived.ChangeCalls
import Derived.ChangeSlices
import Derived.WideKeyArgs
import Derived.JoinedOf
import Derived.Deep.Strs
set_option linter.unusedVariables false
set_option linter.unusedSimpArgs false
set_option maxRecDepth 100000
namespace Go.Proofs.Ytapgknaoieojkaa.Toll
open Go.RowKit Go.ChangeShapes Go.WideShapes Go.ChangeAt
theorem own0 : ownKnob Try.prog.godebug = none := by kernel_rfl
theorem laid0 : laidOutB Try.prog = true := by kernel_rfl
section
variable {H : Type} {enc : TypeId × Value → H}
def Readable (ts : List TypeId) : Prop := ∀ t ∈ ts, Try.prog.readableRec t = true ∧ t < Try.prog.types.size
theorem trodAll_stays {W W' : World} {sp : Nat → Bool} : ∀ {ts : List TypeId} {vs : List Value} {ds : List (DataW H)} {ps : List MemPlace}, Readable ts →
    DataW.TrodAll enc Try.prog W 0 (fun _ => true) true ts vs ds ps → (∀ p ∈ ps, W.sameAt W' p) → (∀ p ∈ ps, sp p.block = true) → DataW.TrodAll enc Try.prog W' 0 sp true ts vs ds ps
  | [], vs, ds, ps, _, h, _, _ => by
    obtain ⟨rfl, rfl, rfl⟩ := trodAll_nil h
    exact trodAll_mk0
  | t :: ts, vs, ds, ps, hr, h, hs, hp => by
    obtain ⟨v, vs', d, ds', p, q, rfl, rfl, rfl, h1, h2⟩ := trodAll_cons h
    have hr1 := hr t List.mem_cons_self
    exact trodAll_cons_mk (Go.WideElems.Trod_stays laid0 hr1.1 hr1.2 h1 (fun x hx => hs x (List.mem_append_left _ hx)) (fun x hx => hp x (List.mem_append_left _ hx)))
      (trodAll_stays (fun x hx => hr x (List.mem_cons_of_mem _ hx)) h2 (fun x hx => hs x (List.mem_append_right _ hx)) (fun x hx => hp x (List.mem_append_right _ hx)))
theorem post_of_below {P : Program} {f : Func} {s : ChangeSpec} {apart fresh handsOn again : Bool} {W W' : World} {args : Array Value} {v : Value} {ds gs : List (DataW H)} {before pa pv : List MemPlace}
    (hW : DataW.Whole enc P f.params.toList s.vars apart W args.toList ds gs before)
    (hres : ∀ (b : Nat) (sp : Nat → Bool) (hd : Bool), DataW.TrodAll enc P W' b sp hd f.resultTypes.toList (v.resultList f.resultTypes.size) (s.fn H (ds ++ gs)).results [])
    (hargs : ∀ sp : Nat → Bool, (∀ p ∈ before, sp p.block = true) → DataW.TrodAll enc P W' 0 sp true f.params.toList args.toList (s.fn H (ds ++ gs)).args pa)
    (hvars : ∀ sp : Nat → Bool, (∀ p ∈ before, sp p.block = true) → DataW.TrodVars enc P W' sp s.vars (s.fn H (ds ++ gs)).vars pv)
    (hps : before = pa ++ pv) (hb : Below W.heap.size W W')
    (hok : ∀ (j : Nat) (t : TypeId) (r : Value), f.resultTypes[j]? = some t → (v.resultList f.resultTypes.size)[j]? = some r → Value.okWide P W' .any 0 t r) :
    s.post enc P f apart fresh handsOn again W args v W' := by
  have hlt : ∀ p ∈ before, p.block < W.heap.size := fun p hp => hW.lt p hp
  have hold : ∀ p ∈ before, (fun b => decide (b < W.heap.size)) p.block = true := fun p hp => by simpa using hlt p hp
  refine ⟨ds, gs, before, [], pa, pv, hW, hres _ _ _, hargs _ hold, hvars _ hold, World.keptBut_mono (fun p hp => ⟨hp, ?_⟩) (hb.frame (· ∈ before)), fun _ => ?_⟩
  · rw [hps, List.mem_append] at hp
    exact Or.inr hp
  · obtain ⟨_, _, _, _, _, hz, hn⟩ := hW
    refine ⟨hok, _, _, ([] ++ pa) ++ pv, ⟨[] ++ pa, pv, trodAll_append (hargs _ (fun _ _ => rfl)) (hres _ _ _), hvars _ (fun _ _ => rfl), rfl, ?_, ?_⟩, ?_⟩
    · intro b off hp
      have hin : MemPlace.cell b off ∈ before := by rw [hps]; simpa using hp
      rw [hb.frozen (hlt _ hin)]
      exact hz b off hin
    · intro ha
      have := hn ha
      rw [hps] at this
      simpa using this
    · intro p hp _
      rw [hps]
      simpa using hp
/-- A law's answer. -/
def LawEnd (W : World) (e : Ending) (W' : World) : Prop := e = .returned (.bool true) ∧ Below W.heap.size W W'
/-- A law's last step. -/
theorem law_contract {K : FuncId} {fn : Func} {spec : ChangeSpec} (hvars : spec.vars = []) (hres : fn.resultTypes = #[4]) (hrd : Readable fn.params.toList)
    (hspec : ∀ ds : List (DataW H), ds.length = fn.params.toList.length → (spec.fn H ds).results = [.lit (.bool true)] ∧ (spec.fn H ds).args = ds ∧ (spec.fn H ds).vars = [])
    {W : World} {args : Array Value} {ds gs : List (DataW H)} {before : List MemPlace} (hW : DataW.Whole enc Try.prog fn.params.toList spec.vars false W args.toList ds gs before)
    (hc : Calls Try.prog K args W (LawEnd W)) : Calls Try.prog K args W fun e W' => ∃ v, e = .returned v ∧ spec.post enc Try.prog fn false true false false W args v W' := by
  have hW' := hW
  obtain ⟨p, q, hA, hV, rfl, hfz, hnd⟩ := hW
  rw [hvars] at hV
  obtain ⟨rfl, rfl⟩ := trodVars_none hV
  have hlen : ds.length = fn.params.toList.length := (trodAll_length hA).2
  have hs := hspec (ds ++ []) (by simpa using hlen)
  refine hc.mono fun e W' ⟨he, hb⟩ => ?_
  subst he
  refine ⟨_, rfl, post_of_below (pa := p) (pv := []) hW' (fun b sp hd => ?_) (fun sp hp => ?_) (fun sp hp => ?_) (by simp) hb ?_⟩
  · rw [hs.1, hres]
    exact trodAll_cons_mk (shut_bool Try.underlying4 _) trodAll_mk0
  · rw [hs.2.1, List.append_nil]
    exact trodAll_stays hrd hA (fun x hx => hb.same (hW'.lt x (List.mem_append_left _ hx))) (fun x hx => hp x (List.mem_append_left _ hx))
  · rw [hs.2.2, hvars]
    rfl
  · exact ok_one hres rfl (okWide_bool_mk Try.underlying4 _)
/-! arguments that are opened -/
theorem bytes_of (zs : List Int) (h : ∀ n ∈ zs, (Lit.int .u8 n).wf = true) : ∃ xs : List UInt8, xs.length = zs.length ∧ ∀ j (hj : j < xs.length), (xs[j].toNat : Int) = zs.getD j 0 := by
  refine ⟨zs.map fun n => UInt8.ofNat n.toNat, by simp, fun j hj => ?_⟩
  simp only [List.length_map] at hj
  have h1 := h zs[j] (List.getElem_mem hj)
  have h2 : 0 ≤ zs[j] ∧ zs[j] ≤ 255 := by simpa [Lit.wf, IntKind.min, IntKind.max, IntKind.signed, IntKind.bits] using h1
  simp only [List.getElem_map, List.getD_eq_getElem?_getD, List.getElem?_eq_getElem hj, Option.getD_some]
  rw [UInt8.toNat_ofNat']
  omega
theorem cellsB : Try.prog.cellsOf uB = 1 := by kernel_rfl
theorem cellsI : Try.prog.cellsOf 3 = 1 := by kernel_rfl
theorem open_bytes_cell {w : World} {base : Nat} {sp : Nat → Bool} {held : Bool} {n : Nat} {v : Value} {y : DataW H × List MemPlace} (h : DataW.trod enc Try.prog w base sp held n tB [v] = some y) :
    ∃ A c xs, v = .slice A xs.length c ∧ RdB w A xs ∧ xs.length ≤ c ∧ c ≤ 9223372036854775807 := by
  rcases open_ints Try.underlying27 Try.underlying5 cellsB h with ⟨hcs, hx⟩ | ⟨a, len', cap', zs, hcs, _, hl, hm, hz, hx, hcell, hwz⟩
  · simp at hcs
    exact ⟨none, 0, [], hcs, RdB.nil _ _, Nat.le_refl _, by omega⟩
  · simp at hcs
    subst hcs
    obtain ⟨xs, hxl, hxv⟩ := bytes_of zs hwz
    have hll : len' ≤ xs.length := by rw [hxl, hz]; split <;> omega
    refine ⟨some a, cap', xs.take len', by rw [List.length_take, Nat.min_eq_left hll], fun j hj => ⟨a, rfl, ?_⟩, by rw [List.length_take]; omega, by simpa [maxLen] using hm⟩
    rw [List.length_take] at hj
    have := hcell j (by omega)
    rw [this, List.getElem_take, hxv j (by omega)]
theorem open_ints_cell {w : World} {base : Nat} {sp : Nat → Bool} {held : Bool} {n : Nat} {v : Value} {y : DataW H × List MemPlace} (h : DataW.trod enc Try.prog w base sp held n tI [v] = some y) :
    ∃ A c xs, v = .slice A xs.length c ∧ RdI w A xs ∧ xs.length ≤ c ∧ c ≤ 9223372036854775807 ∧ ∀ x ∈ xs, -9223372036854775808 ≤ x ∧ x ≤ 9223372036854775807 := by
  rcases open_ints Try.underlying24 Try.underlying3 cellsI h with ⟨hcs, hx⟩ | ⟨a, len', cap', zs, hcs, _, hl, hm, hz, hx, hcell, hwz⟩
  · simp at hcs
    exact ⟨none, 0, [], hcs, RdV.nil _ _, Nat.le_refl _, by omega, by simp⟩
  · simp at hcs
    subst hcs
    have hll : len' ≤ zs.length := by rw [hz]; split <;> omega
    refine ⟨some a, cap', zs.take len', by rw [List.length_take, Nat.min_eq_left hll], fun j hj => ⟨a, rfl, ?_⟩, by rw [List.length_take]; omega, by simpa [maxLen] using hm, fun x hx => ?_⟩
    · rw [i64s_length, List.length_take] at hj
      have := hcell j (by omega)
      rw [this]
      simp only [i64s, List.getElem_map, List.getElem_take]
      rw [List.getD_eq_getElem?_getD, List.getElem?_eq_getElem (by omega), Option.getD_some]
    · have := hwz x (List.mem_of_mem_take hx)
      simpa [Lit.wf, IntKind.min, IntKind.max, IntKind.signed, IntKind.bits] using this
theorem open_bytes {w : World} {base : Nat} {sp : Nat → Bool} {held : Bool} {r : Reach} {b0 : Nat} {v : Value} {d : DataW H} {p : List MemPlace} (hv : Value.okWide Try.prog w r b0 tB v) (h : DataW.Trod enc Try.prog w base sp held tB v d p) :
    ∃ A c xs, v = .slice A xs.length c ∧ RdB w A xs ∧ xs.length ≤ c ∧ c ≤ 9223372036854775807 := by
  obtain ⟨a, l, c, rfl⟩ := okWide_slice Try.underlying27 hv
  obtain ⟨n, hn⟩ := h
  exact open_bytes_cell hn
theorem array5 {α : Type} {cs : Array α} (h : cs.size = 5) : ∃ a b c d e, cs = #[a, b, c, d, e] := by
  obtain ⟨l⟩ := cs
  match l, h with
  | [a, b, c, d, e], _ => exact ⟨a, b, c, d, e, rfl⟩
theorem cellsS : Try.prog.cellsOf 29 = 5 := by kernel_rfl
theorem cellsK : Try.prog.cellsOf 23 = 2 := by kernel_rfl
theorem cellsM : Try.prog.cellsOf 26 = 2 := by kernel_rfl
theorem cellsTB : Try.prog.cellsOf tB = 1 := by kernel_rfl
theorem cellsTI : Try.prog.cellsOf tI = 1 := by kernel_rfl
theorem open_int_cell {w : World} {base : Nat} {sp : Nat → Bool} {held : Bool} {n : Nat} {v : Value} {y : DataW H × List MemPlace} (h : DataW.trod enc Try.prog w base sp held n 3 [v] = some y) :
    ∃ i : Int, v = .int .i64 i ∧ -9223372036854775808 ≤ i ∧ i ≤ 9223372036854775807 := by
  obtain ⟨i, hi, _, hw⟩ := DataW.trod_int Try.underlying3 h
  simp at hi
  have hn : -9223372036854775808 ≤ i ∧ i ≤ 9223372036854775807 := by simpa [Lit.wf, IntKind.min, IntKind.max, IntKind.signed, IntKind.bits] using hw
  exact ⟨i, hi, hn.1, hn.2⟩
theorem open_snap {w : World} {base : Nat} {sp : Nat → Bool} {held : Bool} {r : Reach} {b0 : Nat} {v : Value} {d : DataW H} {p : List MemPlace} (hv : Value.okWide Try.prog w r b0 29 v) (h : DataW.Trod enc Try.prog w base sp held 29 v d p) :
    ∃ A1 A2 A3 c1 c2 c3 s, v = snapVal A1 A2 A3 c1 c2 c3 s ∧ SnapAt w A1 A2 A3 s ∧ s.V.length ≤ c1 ∧ s.L.length ≤ c2 ∧ s.data.length ≤ c3 ∧ c3 ≤ 9223372036854775807 ∧ -9223372036854775808 ≤ s.idx ∧ s.idx ≤ 9223372036854775807 ∧ -9223372036854775808 ≤ s.term ∧ s.term ≤ 9223372036854775807 := by
  obtain ⟨cs, rfl, hsz⟩ := okWide_struct Try.underlying29 hv
  obtain ⟨x0, x1, x2, x3, x4, rfl⟩ := array5 (hsz.trans cellsS)
  obtain ⟨fuel, hf⟩ := h
  obtain ⟨y0, y1, y2, n, _, _, h0, h1, h2⟩ := Go.Deep.trod_struct3 Try.underlying29 hf
  simp only [Value.cells, cellsK, cellsM, cellsTB] at h0 h1 h2
  obtain ⟨z0, z1, n1, _, _, k0, k1⟩ := trod_struct2 Try.underlying23 h0
  obtain ⟨z2, z3, n2, _, _, k2, k3⟩ := trod_struct2 Try.underlying26 h1
  simp only [cellsI, cellsTI] at k0 k1 k2 k3
  obtain ⟨i, rfl, i1, i2⟩ := open_int_cell k0
  obtain ⟨t, rfl, t1, t2⟩ := open_int_cell k1
  obtain ⟨A1, c1, V, rfl, hV, lV, mV, _⟩ := open_ints_cell k2
  obtain ⟨A2, c2, L, rfl, hL, lL, mL, _⟩ := open_ints_cell k3
  obtain ⟨A3, c3, data, rfl, hD, lD, mD⟩ := open_bytes_cell h2
  exact ⟨A1, A2, A3, c1, c2, c3, ⟨i, t, V, L, data⟩, rfl, ⟨⟨hV, hL, Nat.le_trans lV mV, Nat.le_trans lL mL⟩, hD, Nat.le_trans lD mD⟩, lV, lL, lD, mD, i1, i2, t1, t2⟩
end
end Go.Proofs.Ytapgknaoieojkaa.Toll
