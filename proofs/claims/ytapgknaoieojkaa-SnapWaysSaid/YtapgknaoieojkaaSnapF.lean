/- Walk: snap.files. -/
import Derived.Test.YtapgknaoieojkaaSnapS
import Derived.Test.YtapgknaoieojkaaDiskN
import Derived.StillTailTactics
import Derived.Deep.QuietTactic
import Derived.BigQuiet
set_option linter.unusedVariables false
set_option linter.unusedSimpArgs false
set_option maxRecDepth 100000
namespace Go.Proofs.Ytapgknaoieojkaa.Toll
open Go.RowKit
def isDig (c : UInt8) : Bool := decide (48 ≤ c.toNat ∧ c.toNat ≤ 57)
def digVal (n : Nat) (ds : List UInt8) : Nat := ds.foldl (fun n c => 10 * n + (c.toNat - 48)) n
def fileOf (s : List UInt8) : Option NIdx :=
  if 6 ≤ s.length ∧ s.length ≤ 18 ∧ s.take 5 = snapB ∧ (s.drop 5).all isDig = true then
    if h : digVal 0 (s.drop 5) ≤ 1099511627776 ∧ s = nameF (digVal 0 (s.drop 5)) then some ⟨digVal 0 (s.drop 5), by omega⟩ else none
  else none
/-- The files of snapshots, the greatest index first. -/
def filesF (D : List (ByteArray × FileP)) : List NIdx := sortF ((namesF D).filterMap fileOf)
theorem tySf : SlTy Try.prog tSfs tSf 2 24 (.agg #[.string ⟨#[]⟩, .int .i64 0]) := ⟨Try.underlying83, by kernel_rfl, rfl, by omega⟩
def FilesPost (w : World) (l : List NIdx) (e : Ending) (w' : World) : Prop := ∃ A c, e = .returned (.slice A l.length c) ∧ RdV w' A (l.flatMap encF) ∧ Below w.heap.size w w' ∧ (0 < l.length → ∃ g, A = some ⟨g, 0, none⟩ ∧ w.heap.size ≤ g) ∧ l.length ≤ 16
theorem namesF_len (D : List (ByteArray × FileP)) : (namesF D).length = D.length := by
  unfold namesF
  rw [List.length_mergeSort, List.length_map]
theorem conv_bytes (bs : ByteArray) (xs : List UInt8) (hx : bs = ⟨xs.toArray⟩) (w : World) : ∃ c w', (convert tStr tB (.string bs)).run Try.prog w = .ok (.slice (some ⟨w.heap.size, 0, none⟩) xs.length c) w' ∧ RdB w' (some ⟨w.heap.size, 0, none⟩) xs ∧ Below w.heap.size w w' := by
  subst hx
  refine ⟨_, _, run_bytes_of_string w tStr tB uB _ Try.underlying9 Try.underlying27 Try.underlying5, ?_, ?_⟩
  · intro j hj
    refine ⟨_, rfl, ?_⟩
    rw [own_zero_add]
    unfold World.cell?
    rw [show (w.drew.alloc _).heap[w.heap.size]? = some _ from heap_alloc_new w.drew _]
    simp only [Option.bind_some]
    rw [bytesRow_at _ _ j (by simpa using hj)]
    simp
  · exact ((Below.refl _ _).drew).alloc (Nat.le_refl _) _
theorem extr (s : List UInt8) (a b : Nat) : (⟨s.toArray⟩ : ByteArray).extract a b = ⟨((s.take b).drop a).toArray⟩ := by
  apply ByteArray.ext
  simp [List.extract_eq_take_drop, List.drop_take]
theorem digVal_lt : ∀ (ds : List UInt8) (n : Nat), ds.all isDig = true → digVal n ds < (n + 1) * 10 ^ ds.length
  | [], n, _ => by simp [digVal]
  | c :: ds, n, h => by
    simp only [List.all_cons, Bool.and_eq_true, isDig, decide_eq_true_eq] at h
    have ih := digVal_lt ds (10 * n + (c.toNat - 48)) h.2
    have e : digVal n (c :: ds) = digVal (10 * n + (c.toNat - 48)) ds := rfl
    rw [e, List.length_cons, Nat.pow_succ, Nat.mul_comm (10 ^ ds.length) 10, ← Nat.mul_assoc]
    exact Nat.lt_of_lt_of_le ih (Nat.mul_le_mul_right _ (by omega))
theorem digVal_snoc (l : List UInt8) (c : UInt8) : digVal 0 (l ++ [c]) = 10 * digVal 0 l + (c.toNat - 48) := by
  unfold digVal
  rw [List.foldl_append]
  rfl
theorem digVal_13 (ds : List UInt8) (h : ds.all isDig = true) (hl : ds.length ≤ 13) : digVal 0 ds < 10000000000000 := by
  have h1 := digVal_lt ds 0 h
  have h2 : 10 ^ ds.length ≤ 10 ^ 13 := Nat.pow_le_pow_right (by omega) hl
  omega
section
variable {P : Program} {d : Nat} {xs ys : Array Value} {f : Field} {fs : List Field} {a b : Value} {r s : Bool} {w : World}
theorem eqf_cons (hn : (f.name == "_") = false) (ha : (part f.type xs f.offset).run P w = .ok a w) (hb : (part f.type ys f.offset).run P w = .ok b w) (he : (Op.equalIn d f.type a b).run P w = .ok r w) (hr : (Op.eqFields d xs ys fs).run P w = .ok s w) : (Op.eqFields d xs ys (f :: fs)).run P w = .ok (r && s) w := by
  have hn' : f.name ≠ "_" := by simpa using hn
  rw [Op.eqFields]
  simp only [if_pos hn', Sem.run_bind, ha, hb, he, Result.andThen_ok]
  cases r
  · simp
  · simpa using hr
theorem eqf_nil : (Op.eqFields d xs ys []).run P w = .ok true w := by simp [Op.eqFields]
theorem eqA_of {t : TypeId} {fs : Array Field} (hu : P.underlying t = some (.struct fs)) (hp : P.stoodInHeld t = false) (h : (Op.eqFields d xs ys fs.toList).run P w = .ok r w) : (Op.equalIn (d + 1) t (.agg xs) (.agg ys)).run P w = .ok r w := by
  have hf : P.fieldsOf t = fs := by simp [Program.fieldsOf, hu]
  rw [run_equalIn_struct (P := P) w d t xs ys (by rw [hf]; exact hu) hp, hf]
  exact h
end
theorem eql_sf (a b : ByteArray) (i j : Int) (W : World) : (binOp .eql tSf (.agg #[.string a, .int .i64 i]) (.agg #[.string b, .int .i64 j])).run Try.prog W = .ok (.bool ((a.toList == b.toList) && ((i == j) && true))) W := by
  have h : (Op.equalIn (9999 + 1) tSf (.agg #[.string a, .int .i64 i]) (.agg #[.string b, .int .i64 j])).run Try.prog W = .ok ((a.toList == b.toList) && ((i == j) && true)) W := by
    refine eqA_of Try.underlying86 (by kernel_rfl) ?_
    refine eqf_cons (by rfl) (by go_simp; rfl) (by go_simp; rfl) (by go_simp) ?_
    exact eqf_cons (by rfl) (by go_simp; rfl) (by go_simp; rfl) (by go_simp) eqf_nil
  rw [run_eql_struct, h]
  rfl
structure DigR (ds : List UInt8) (n i : Value) : Prop where
  ex : ∃ j : Nat, j ≤ ds.length ∧ i = .int .i64 (j : Int) ∧ n = .int .i64 (digVal 0 (ds.take j) : Int) ∧ (ds.take j).all isDig = true
structure FilesR (N : List (List UInt8)) (w1 : World) (out i : Value) (wr : World) : Prop where
  ex : ∃ k : Nat, k ≤ N.length ∧ i = .int .i64 (k : Int) ∧ OwV tSf 2 w1.heap.size wr out ((N.take k).filterMap fileOf).length (((N.take k).filterMap fileOf).flatMap encF) ∧ Below w1.heap.size w1 wr
theorem FilesR.skip {N : List (List UInt8)} {w1 wr wr' : World} {v : Value} {k : Nat} (hlt : k < N.length) {s : List UInt8} (hs : s = N[k]) (hn : fileOf s = none) (ho : OwV tSf 2 w1.heap.size wr v ((N.take k).filterMap fileOf).length (((N.take k).filterMap fileOf).flatMap encF)) (hb : Below w1.heap.size w1 wr) (hb' : Below wr.heap.size wr wr') :
    FilesR N w1 v (.int .i64 ((k : Int) + 1)) wr' := by
  have e : (N.take (k + 1)).filterMap fileOf = (N.take k).filterMap fileOf := by
    rw [List.take_succ_eq_append_getElem hlt, List.filterMap_append]
    simp [← hs, hn]
  refine ⟨k + 1, hlt, rfl, ?_, hb.trans (hb'.mono hb.size)⟩
  rw [e]
  exact ho.below hb'
theorem fileOf_short {s : List UInt8} (h : ¬ (6 ≤ s.length ∧ s.length ≤ 18 ∧ s.take 5 = snapB ∧ (s.drop 5).all isDig = true)) : fileOf s = none := by
  unfold fileOf
  rw [if_neg h]
theorem fileOf_nodig {s ds : List UInt8} {j : Nat} (hd : ds = s.drop 5) (hj : j < ds.length) (h : isDig ds[j] = false) : fileOf s = none := by
  refine fileOf_short (fun hh => ?_)
  have h4 := hh.2.2.2
  rw [← hd, List.all_eq_true] at h4
  have := h4 _ (List.getElem_mem hj)
  rw [h] at this
  cases this
theorem below_drewN {B : Nat} {w w' : World} (h : Below B w w') (n : Nat) : Below B w (w'.drewN n) := ⟨h.os, h.tape, h.output, h.size, h.block⟩
theorem fileOf_other {s : List UInt8} (h : ¬ (digVal 0 (s.drop 5) ≤ 1099511627776 ∧ s = nameF (digVal 0 (s.drop 5)))) : fileOf s = none := by
  unfold fileOf
  rw [dif_neg h]
  split <;> rfl
theorem FilesR.more {N : List (List UInt8)} {w1 wr' : World} {v : Value} {k : Nat} (hlt : k < N.length) {s : List UInt8} (hs : s = N[k]) {x : NIdx} (hn : fileOf s = some x) {bs : ByteArray} (hb' : bs = ⟨(nameF x.val).toArray⟩)
    (ho : OwV tSf 2 w1.heap.size wr' v (((N.take k).filterMap fileOf).length + 1) (((N.take k).filterMap fileOf).flatMap encF ++ [.string bs, .int .i64 (x.val : Int)])) (hb : Below w1.heap.size w1 wr') :
    FilesR N w1 v (.int .i64 ((k : Int) + 1)) wr' := by
  have e : (N.take (k + 1)).filterMap fileOf = (N.take k).filterMap fileOf ++ [x] := by
    rw [List.take_succ_eq_append_getElem hlt, List.filterMap_append]
    simp [← hs, hn]
  refine ⟨k + 1, hlt, rfl, ?_, hb⟩
  rw [e, List.length_append, List.flatMap_append]
  rw [hb'] at ho
  simpa [encF] using ho
theorem round_less {N : List (List UInt8)} {k : Nat} (hlt : k < N.length) : N.length - (intOf (.int .i64 ((k : Int) + 1))).toNat < N.length - (intOf (.int .i64 (k : Int))).toNat := by
  simp [intOf]
  omega
theorem files_any {F : Nat → Prop} {d : Nat} {room : Int} {D : List (ByteArray × FileP)} (w : World) (h : DiskIn F w d room D) :
    Calls Try.prog 40 #[.pointer (some ⟨d, 0, none⟩)] w (FilesPost w (filesF D)) := by
  have hl16 : (namesF D).length ≤ 16 := by
    rw [namesF_len]
    obtain ⟨M, clock, ents, h, rfl⟩ := h
    rw [List.length_map]
    exact h.small
  have H := Lib.hid h
  clear h
  unfold filesF
  generalize hN : namesF D = N at *
  have HN := Lib.hid hN
  clear hN
  go_enter Try.func40, Try.ntmps40
  go_wp2_with fail
  refine wp_scope_straight ?_
  go_wp2_with fail
  refine wp_label ?_
  go_wp2_with fail
  refine (Names_any w H.out).mono ?_
  rw [HN.out]
  rintro e w1 ⟨v, rfl, hrow, b1⟩
  obtain ⟨A, c, rfl, hr, hcl, _⟩ : ∃ A c, v = .slice A N.length c ∧ RdV w1 A (strs N) ∧ c ≤ 9223372036854775807 ∧ True := by
    obtain ⟨A, c, e, h1, _, _, h4, _⟩ := (OwV.form (e := tStr) (size := 1) (.inl hrow))
    exact ⟨A, c, e, h1, h4, trivial⟩
  have HR := Lib.hid hr
  have B1 := Lib.hid b1
  clear hrow b1 hr
  go_wp2_with fail
  go_loopw [3, 13] (fun out i wr => FilesR N w1 out i wr) (fun _ i _ => N.length - (intOf i).toNat)
  case atStart => exact ⟨0, Nat.zero_le _, rfl, OwV.nil _ _ _ _, Below.refl _ _⟩
  case round =>
    obtain ⟨k, hk, rfl, ho, hb⟩ := hrel
    have HO := Lib.hid ho
    have HB := Lib.hid hb
    obtain ⟨OA, oc, rfl, _, _, _, hocm, _⟩ := ho.form
    clear hb ho
    by_cases hlt : k < N.length
    · obtain ⟨b, off, sp, rfl, hc⟩ := (HR.out.below HB.out).at k (by simpa [strs] using hlt)
      obtain ⟨s, hs⟩ : ∃ s, s = N[k] := ⟨_, rfl⟩
      have hsv : (strs N)[k]'(by simpa [strs] using hlt) = .string ⟨s.toArray⟩ := by simp [strs, hs, Go.Proofs.encStr]
      rw [hsv] at hc
      obtain ⟨bs, hbs⟩ : ∃ bs : ByteArray, bs = ⟨s.toArray⟩ := ⟨_, rfl⟩
      rw [← hbs] at hc
      have hsz : bs.size = s.length := by rw [hbs]; rfl
      have HBS := Lib.hid hbs
      have HS := Lib.hid hs
      clear hbs hs hsv
      by_cases h6 : bs.size < 6
      · have h6' : decide ((bs.size : Int) < 6) = true := by simp; omega
        go_wp2_with fail
        exact ⟨FilesR.skip hlt HS.out (fileOf_short (by omega)) HO.out HB.out (Below.refl _ _), round_less hlt⟩
      have h6' : decide ((bs.size : Int) < 6) = false := by simp; omega
      by_cases h18 : 18 < bs.size
      · have h18' : decide (18 < (bs.size : Int)) = true := by simp; omega
        go_wp2_with fail
        exact ⟨FilesR.skip hlt HS.out (fileOf_short (by omega)) HO.out HB.out (Below.refl _ _), round_less hlt⟩
      have h18' : decide (18 < (bs.size : Int)) = false := by simp; omega
      have he5 : bs.extract 0 5 = ⟨(s.take 5).toArray⟩ := by rw [HBS.out, extr]; simp
      have he6 : bs.extract 5 s.length = ⟨(s.drop 5).toArray⟩ := by rw [HBS.out, extr]; simp
      obtain ⟨cc, w2, hconv, hr2, hb2⟩ := conv_bytes (bs.extract 5 s.length) (s.drop 5) he6 wr
      have HR2 := Lib.hid hr2
      have HB2 := Lib.hid hb2
      have HE5 := Lib.hid he5
      clear he5 he6 hr2 hb2
      by_cases hpre : s.take 5 = snapB
      · have hp' : ((bs.extract 0 5).toList == [115, 110, 97, 112, 45]) = true := by
          rw [HE5.out, ByteArray.toList_eq]
          simp [hpre, snapB]
        obtain ⟨ds, hds⟩ : ∃ ds, ds = s.drop 5 := ⟨_, rfl⟩
        rw [← hds] at hconv HR2
        have hdl : ds.length ≤ 13 := by rw [hds, List.length_drop]; omega
        have HDS := Lib.hid hds
        clear hds
        go_wp2_with fail
        go_loop [6, 34] (fun n i => DigR ds n i) (fun _ i => ds.length - (intOf i).toNat)
        case atStart => exact ⟨0, Nat.zero_le _, rfl, rfl, rfl⟩
        case round =>
          obtain ⟨j, hj, rfl, rfl, hall⟩ := hrel
          have HALL := Lib.hid hall
          have hv := digVal_13 (ds.take j) hall (by rw [List.length_take]; omega)
          clear hall
          by_cases hjl : j < ds.length
          · obtain ⟨b3, off3, sp3, e3, hc3⟩ := HR2.out.at j hjl
            cases e3
            rw [own_zero_add] at hc3
            have hdr : Hid (digVal 0 (ds.take (j + 1)) = 10 * digVal 0 (ds.take j) + (ds[j].toNat - 48) ∧ ((ds.take (j + 1)).all isDig = ((ds.take j).all isDig && isDig ds[j]))) := Lib.hid (by
              rw [List.take_succ_eq_append_getElem hjl]
              exact ⟨digVal_snoc _ _, by rw [List.all_append]; simp⟩)
            by_cases hd1 : ds[j].toNat < 48
            · have hd1' : decide ((ds[j].toNat : Int) < 48) = true := by simp; omega
              go_wp2_with fail
              exact ⟨FilesR.skip hlt HS.out (fileOf_nodig HDS.out hjl (by simp [isDig]; omega)) HO.out HB.out HB2.out, round_less hlt⟩
            have hd1' : decide ((ds[j].toNat : Int) < 48) = false := by simp; omega
            by_cases hd2 : 57 < ds[j].toNat
            · have hd2' : decide (57 < (ds[j].toNat : Int)) = true := by simp; omega
              go_wp2_with fail
              exact ⟨FilesR.skip hlt HS.out (fileOf_nodig HDS.out hjl (by simp [isDig]; omega)) HO.out HB.out HB2.out, round_less hlt⟩
            have hd2' : decide (57 < (ds[j].toNat : Int)) = false := by simp; omega
            generalize hV : digVal 0 (ds.take j) = V at *
            have HV := Lib.hid hV
            clear hV
            go_wp2_with fail
            refine ⟨⟨j + 1, hjl, rfl, ?_, ?_⟩, by simp [intOf]; omega⟩
            · rw [hdr.out.1]
              congr 1
              omega
            · rw [hdr.out.2, HALL.out]
              simp [isDig]
              omega
          · obtain rfl : j = ds.length := by omega
            go_wp2_with fail
            rw [List.take_of_length_le (Nat.le_refl _)] at hv
            have hall : ds.all isDig = true := by have := HALL.out; rwa [List.take_of_length_le (Nat.le_refl _)] at this
            have HALL2 := Lib.hid hall
            have kf : Blk (w2.alloc (.cells #[.string bs, .int .i64 (digVal 0 ds : Int)] tSf)) w2.heap.size #[.string bs, .int .i64 (digVal 0 ds : Int)] tSf := Blk.new _ _ _
            have bf : Below w2.heap.size w2 (w2.alloc (.cells #[.string bs, .int .i64 (digVal 0 ds : Int)] tSf)) := (Below.refl _ _).alloc (Nat.le_refl _) _
            generalize w2.alloc (.cells #[.string bs, .int .i64 (digVal 0 ds : Int)] tSf) = w3 at *
            generalize hn : digVal 0 ds = n at *
            have q0 := kf.cell 0
            have q1 := kf.cell 1
            simp only [List.getElem?_toArray, List.getElem?_cons_zero, List.getElem?_cons_succ] at q0 q1
            have KF := Lib.hid kf
            have BF := Lib.hid bf
            have HNN := Lib.hid hn
            clear hall kf bf hn
            by_cases hmax : 1099511627776 < n
            · have hmax' : decide ((n : Int) ≤ 1099511627776) = false := by simp; omega
              go_quiet (fail)
              have hbN := below_drewN (HB2.out.trans (BF.out.mono HB2.out.size)) nq
              have HBN := Lib.hid hbN
              clear hbN
              go_wp2_with fail
              exact ⟨FilesR.skip hlt HS.out (fileOf_other (by rw [← HDS.out, HNN.out]; exact fun h => by omega)) HO.out HB.out HBN.out, round_less hlt⟩
            have hmax' : decide ((n : Int) ≤ 1099511627776) = true := by simp; omega
            have hn2 : n ≤ 1099511627776 := by omega
            have hgd : Try.prog.eqGuardType Try.prog.depth tSf = false := by kernel_rfl
            by_cases hsn : s = nameF n
            · have heq : ∀ W, (binOp .eql tSf (.agg #[.string bs, .int .i64 (n : Int)]) (.agg #[.string ⟨(nameF n).toArray⟩, .int .i64 (n : Int)])).run Try.prog W = .ok (.bool true) W := fun W => by
                rw [eql_sf, beqL_true (by rw [HBS.out, hsn])]
                simp
              go_quiet (first | (go_at_call 39; exact calls_quiet (name_any n _ hn2)))
              have hbN := below_drewN (HB2.out.trans (BF.out.mono HB2.out.size)) nq
              have hfo : fileOf s = some ⟨n, by omega⟩ := by
                unfold fileOf
                rw [if_pos ⟨by omega, by omega, hpre, by rw [← HDS.out]; exact HALL2.out⟩]
                have hdn : digVal 0 (s.drop 5) = n := by rw [← HDS.out, HNN.out]
                rw [dif_pos ⟨by rw [hdn]; exact hn2, by rw [hdn]; exact hsn⟩]
                congr 1
                exact Fin.ext hdn
              have kN : Blk (w3.drewN nq) w2.heap.size #[.string bs, .int .i64 (n : Int)] tSf := KF.out
              have r0 := kN.cell 0
              have r1 := kN.cell 1
              simp only [List.getElem?_toArray, List.getElem?_cons_zero, List.getElem?_cons_succ] at r0 r1
              generalize w3.drewN nq = w4 at *
              have HBN := Lib.hid hbN
              have HO4 := Lib.hid (HO.out.below hbN)
              have HFO := Lib.hid hfo
              have hll : ((N.take k).filterMap fileOf).length ≤ 16 := by
                have := List.length_filterMap_le fileOf (N.take k)
                rw [List.length_take] at this
                omega
              have hsz4 : w1.heap.size ≤ w4.heap.size := Nat.le_trans HB.out.size hbN.size
              clear hbN hfo kN
              have hrow2 : ∀ j v, ([Value.string bs, .int .i64 (n : Int)])[j]? = some v → (w4.alloc (.cells #[.string bs, .int .i64 (n : Int)] tSf)).cell? ((⟨w4.heap.size, 0, none⟩ : Addr).add j) = some v := fun j v hv => by
                rw [own_zero_add, (Blk.new w4 _ tSf).cell j]
                simpa using hv
              have HROW := Lib.hid (RdV.of_cells hrow2)
              clear hrow2
              go_wp2_with (at_builtin; refine wpList_appV tySf w1.heap.size rfl (.tmp 64) (.tmp 66) rfl _ _ 1 _ [.string bs, .int .i64 (n : Int)] _ _ rfl rfl (HO4.out.below ((Below.refl _ _).alloc (Nat.le_refl _) _)) HROW.out rfl ?c1 ?c2 ?c3 ?c4 ?c5)
              case c1 =>
                intro u hu
                simp at hu
                rcases hu with rfl | rfl <;> rfl
              case c2 => omega
              case c3 => omega
              case c4 => simp; omega
              case c5 =>
                intro v5 w5 o5 g5
                have hb5 : Below w1.heap.size w1 w5 := ((HB.out.trans (HBN.out.mono HB.out.size)).trans (((Below.refl w4.heap.size w4).alloc (Nat.le_refl _) _).mono hsz4)).trans (g5.base (by simp; omega) (Nat.le_refl _))
                have hF := FilesR.more hlt HS.out HFO.out (bs := bs) (by rw [HBS.out, hsn]) o5 hb5
                have HF := Lib.hid hF
                clear o5 g5 hb5 hF
                go_wp2_with fail
                exact ⟨HF.out, round_less hlt⟩
            · have heq : ∀ W, (binOp .eql tSf (.agg #[.string bs, .int .i64 (n : Int)]) (.agg #[.string ⟨(nameF n).toArray⟩, .int .i64 (n : Int)])).run Try.prog W = .ok (.bool false) W := fun W => by
                rw [eql_sf, beqL_false (by rw [HBS.out]; intro e; apply hsn; simpa using e)]
                rfl
              go_quiet (first | (go_at_call 39; exact calls_quiet (name_any n _ hn2)))
              have hbN := below_drewN (HB2.out.trans (BF.out.mono HB2.out.size)) nq
              have HBN := Lib.hid hbN
              clear hbN
              go_wp2_with fail
              exact ⟨FilesR.skip hlt HS.out (fileOf_other (by rw [← HDS.out, HNN.out]; exact fun h => hsn h.2)) HO.out HB.out HBN.out, round_less hlt⟩
      · have hp' : ((bs.extract 0 5).toList == [115, 110, 97, 112, 45]) = false := by
          rw [HE5.out, ByteArray.toList_eq]
          simpa [snapB] using hpre
        go_wp2_with fail
        exact ⟨FilesR.skip hlt HS.out (fileOf_short (fun h => hpre h.2.2.1)) HO.out HB.out (Below.refl _ _), round_less hlt⟩
    · go_wp2_with fail
      obtain rfl : k = N.length := by omega
      rw [List.take_of_length_le (Nat.le_refl _)] at *
      have hll : (N.filterMap fileOf).length ≤ 16 := Nat.le_trans (List.length_filterMap_le _ _) hl16
      have ho := HO.out
      refine (sort_any wr w1.heap.size _ _ ho hll).mono ?_
      rintro e w5 ⟨rfl, hrd, hk5⟩
      have hsl : (N.filterMap fileOf).length = (sortF (N.filterMap fileOf)).length := (List.length_mergeSort _).symm
      have hrd' := hrd _ _ rfl
      have hb5 : Below w.heap.size w w5 := (B1.out.trans (HB.out.mono B1.out.size)).trans (hk5.below (fun i _ h => Nat.le_trans B1.out.size h.1) (Nat.le_trans B1.out.size HB.out.size))
      have HRD := Lib.hid hrd'
      have HB5 := Lib.hid hb5
      have hbase : 0 < (N.filterMap fileOf).length → ∃ g, OA = some ⟨g, 0, none⟩ ∧ w.heap.size ≤ g := fun h0 => by
        rcases ho.row h0 with ⟨_, ⟨_, h1⟩ | ⟨g, cap, cur, e', hb', _⟩⟩
        · omega
        · injection e' with e1 e2 e3
          exact ⟨g, e1, Nat.le_trans B1.out.size hb'⟩
      clear hrd hk5 hrd' hb5 ho
      go_wp2_with fail
      go_ret
      rw [hsl] at hbase
      exact ⟨OA, oc, rfl, HRD.out, HB5.out, hbase, hsl ▸ hll⟩
end Go.Proofs.Ytapgknaoieojkaa.Toll
