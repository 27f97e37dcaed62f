/- The disk as it lies; disk.New, Used. -/
import Derived.Test.YtapgknaoieojkaaDiskM
import Derived.Test.YtapgknaoieojkaaDiskC
import Derived.Maps.RangeWalk
set_option linter.unusedVariables false
set_option linter.unusedSimpArgs false
set_option maxRecDepth 100000
namespace Go.Proofs.Ytapgknaoieojkaa.Toll
open Go.RowKit
open Go.ChangeMaps (setBlock)
/-- a block of bytes -/
def U8 (w : World) (i : Nat) : Prop := ∃ cs fr, w.heap[i]? = some (.cells cs uB fr)
theorem U8.keeps {S : Nat → Prop} {w w' : World} {i : Nat} (h : U8 w i) (k : Keeps S w w') (hi : ¬ S i) : U8 w' i := by
  obtain ⟨cs, fr, h⟩ := h
  exact ⟨cs, fr, (k.block i (Array.getElem?_eq_some_iff.1 h).1 hi).trans h⟩
theorem U8.ne {w : World} {i g : Nat} {cs : Array Value} {t : TypeId} (h : U8 w i) (b : Blk w g cs t) (ht : uB ≠ t) : i ≠ g := by
  rintro rfl
  obtain ⟨cs', fr, h⟩ := h
  unfold Blk at b
  rw [b] at h
  simp only [Option.some.injEq, Obj.cells.injEq] at h
  exact ht h.2.1.symm
theorem U8.ne_map {w : World} {i g : Nat} {es : Array MapEntry} {c : Nat} (h : U8 w i) (b : w.heap[g]? = some (.map es c)) : i ≠ g := by
  rintro rfl
  obtain ⟨cs', fr, h⟩ := h
  rw [b] at h
  cases h
/-- A row of bytes that lies in F. -/
def SlF (F : Nat → Prop) (w : World) (v : Value) (xs : List UInt8) : Prop :=
  ∃ A c, v = .slice A xs.length c ∧ RdB w A xs ∧ xs.length ≤ c ∧ c ≤ 9223372036854775807 ∧ (0 < xs.length → ∀ ad, A = some ad → F ad.block ∧ U8 w ad.block)
theorem SlF.keeps {F S : Nat → Prop} {w w' : World} {v : Value} {xs : List UInt8} (h : SlF F w v xs) (k : Keeps S w w') (hS : ∀ i, F i → U8 w i → ¬ S i) : SlF F w' v xs := by
  obtain ⟨A, c, e, hr, h1, h2, h3⟩ := h
  have hn : 0 < xs.length → ∀ ad, A = some ad → ¬ S ad.block := fun h0 ad ea => hS _ (h3 h0 ad ea).1 (h3 h0 ad ea).2
  exact ⟨A, c, e, hr.keeps k hn, h1, h2, fun h0 ad ea => ⟨(h3 h0 ad ea).1, (h3 h0 ad ea).2.keeps k (hn h0 ad ea)⟩⟩
theorem SlF.mono {F G : Nat → Prop} {w : World} {v : Value} {xs : List UInt8} (h : SlF F w v xs) (hG : ∀ i, F i → G i) : SlF G w v xs := by
  obtain ⟨A, c, e, hr, h1, h2, h3⟩ := h
  exact ⟨A, c, e, hr, h1, h2, fun h0 ad ea => ⟨hG _ (h3 h0 ad ea).1, (h3 h0 ad ea).2⟩⟩
theorem SlF.nil (F : Nat → Prop) (w : World) : SlF F w (.slice none 0 0) [] := ⟨none, 0, rfl, RdB.nil _ _, Nat.le_refl _, by omega, fun h => absurd h (by simp)⟩
theorem SlF.of_own {F : Nat → Prop} {base : Nat} {w : World} {v : Value} {xs : List UInt8} (h : OwB base w v xs) (hF : ∀ i, base ≤ i → i < w.heap.size → F i) : SlF F w v xs := by
  obtain ⟨A, c, e, hr, h1, h2, h3⟩ := h.form
  refine ⟨A, c, e, hr, h1, h2, fun h0 ad ea => ⟨hF _ (h3 h0 ad ea) (hr.lt h0 ea), ?_⟩⟩
  subst ea
  rcases h with h | ⟨rfl, _⟩
  · obtain ⟨_, ⟨ev, hn⟩ | ⟨g, cap, cur, ev, _, hg, _⟩⟩ := h
    · rw [hn] at h0; simp at h0
    · rw [e] at ev
      simp only [Value.slice.injEq, Option.some.injEq] at ev
      obtain ⟨rfl, _⟩ := ev
      exact ⟨_, _, hg⟩
  · simp at h0
/-- The rows of changes. -/
def ChgR (F : Nat → Prop) (w : World) : List Value → List Chg → Prop
  | vs, [] => vs = []
  | vs, c :: cs => ∃ bv rest, vs = .bool c.cut :: .int .i64 (c.size : Int) :: .int .i64 (c.at_ : Int) :: bv :: rest ∧ SlF F w bv c.b ∧ ChgR F w rest cs
theorem ChgR.keeps {F S : Nat → Prop} {w w' : World} (k : Keeps S w w') (hS : ∀ i, F i → U8 w i → ¬ S i) : ∀ {cs : List Chg} {vs : List Value}, ChgR F w vs cs → ChgR F w' vs cs
  | [], _, h => h
  | _ :: _, _, ⟨bv, rest, e, h, h'⟩ => ⟨bv, rest, e, h.keeps k hS, ChgR.keeps k hS h'⟩
theorem ChgR.mono {F G : Nat → Prop} {w : World} (hG : ∀ i, F i → G i) : ∀ {cs : List Chg} {vs : List Value}, ChgR F w vs cs → ChgR G w vs cs
  | [], _, h => h
  | _ :: _, _, ⟨bv, rest, e, h, h'⟩ => ⟨bv, rest, e, h.mono hG, ChgR.mono hG h'⟩
theorem ChgR.snoc {F : Nat → Prop} {w : World} {c : Chg} {bv : Value} (hb : SlF F w bv c.b) : ∀ {cs : List Chg} {vs : List Value}, ChgR F w vs cs → ChgR F w (vs ++ [.bool c.cut, .int .i64 (c.size : Int), .int .i64 (c.at_ : Int), bv]) (cs ++ [c])
  | [], _, h => by cases h; exact ⟨bv, [], rfl, hb, rfl⟩
  | _ :: _, _, ⟨bv', rest, e, h, h'⟩ => ⟨bv', _, by rw [e]; rfl, h, ChgR.snoc hb h'⟩
theorem ChgR.length {F : Nat → Prop} {w : World} : ∀ {cs : List Chg} {vs : List Value}, ChgR F w vs cs → vs.length = cs.length * 4
  | [], _, h => by cases h; rfl
  | _ :: cs, _, ⟨bv', rest, e, h, h'⟩ => by rw [e]; simp [ChgR.length h']; omega
/-- What a change makes. -/
def applyF (out : List UInt8) (c : Chg) : List UInt8 := if c.cut then out.take c.size else layF out c.at_ c.b
/-- The changes fit, and make now of out. -/
def Chain : List UInt8 → List Chg → List UInt8 → Prop
  | out, [], now => out = now ∧ out.length ≤ 262144
  | out, c :: cs, now => out.length ≤ 262144 ∧ (c.cut = true → c.size ≤ out.length ∧ c.b = []) ∧ (c.cut = false → c.at_ ≤ out.length) ∧ Chain (applyF out c) cs now
theorem Chain.snoc {c : Chg} {now : List UInt8} (h1 : c.cut = true → c.size ≤ now.length ∧ c.b = []) (h2 : c.cut = false → c.at_ ≤ now.length) (h3 : (applyF now c).length ≤ 262144) : ∀ {cs : List Chg} {out : List UInt8}, Chain out cs now → Chain out (cs ++ [c]) (applyF now c)
  | [], out, h => by obtain ⟨rfl, hl⟩ := h; exact ⟨hl, h1, h2, rfl, h3⟩
  | _ :: _, out, ⟨a, b, d, h⟩ => ⟨a, b, d, h.snoc h1 h2 h3⟩
theorem Chain.le {now : List UInt8} : ∀ {cs : List Chg} {out : List UInt8}, Chain out cs now → now.length ≤ 262144
  | [], out, h => by obtain ⟨rfl, hl⟩ := h; exact hl
  | _ :: _, out, ⟨a, b, d, h⟩ => h.le
theorem Chain.le0 {now : List UInt8} : ∀ {cs : List Chg} {out : List UInt8}, Chain out cs now → out.length ≤ 262144
  | [], out, h => h.2
  | _ :: _, out, h => h.1
def FileP.ok (f : FileP) : Prop := Chain f.sure f.chs f.now
structure FileAt (F : Nat → Prop) (w : World) (e : Ent) : Prop where
  blk : Blk w e.blk #[e.nowV, e.sureV, .bool e.f.lasts, e.chgV] tFile
  inF : F e.blk
  now : SlF F w e.nowV e.f.now
  sure : SlF F w e.sureV e.f.sure
  chgF : ∀ i, e.chgV.ownBlock = some i → F i
  chg : ∃ vs, w.ownsRow 0 tChg 4 e.chgV e.f.chs.length vs ∧ ChgR F w vs e.f.chs
  ok : e.f.ok
theorem ownsRow_keeps {S : Nat → Prop} {e : TypeId} {size base : Nat} {w w' : World} {v : Value} {n : Nat} {vs : List Value} (h : w.ownsRow base e size v n vs) (k : Keeps S w w') (hS : ∀ i, v.ownBlock = some i → ¬ S i) : w'.ownsRow base e size v n vs := by
  refine ⟨h.1, ?_⟩
  rcases h.2 with hn | ⟨g, cap, cur, rfl, hb, hg, rest⟩
  · exact .inl hn
  · refine .inr ⟨g, cap, cur, rfl, hb, ?_, rest⟩
    rw [k.block g (Array.getElem?_eq_some_iff.1 hg).1 (hS g rfl)]
    exact hg
theorem FileAt.keeps {F S : Nat → Prop} {w w' : World} {e : Ent} (h : FileAt F w e) (k : Keeps S w w') (hb : ¬ S e.blk) (hc : ∀ i, e.chgV.ownBlock = some i → ¬ S i) (hu : ∀ i, F i → U8 w i → ¬ S i) : FileAt F w' e := by
  obtain ⟨h1, h2, h3, h4, h5, ⟨vs, h6, h7⟩, h8⟩ := h
  exact ⟨h1.keeps k hb, h2, h3.keeps k hu, h4.keeps k hu, h5, ⟨vs, ownsRow_keeps h6 k hc, h7.keeps k hu⟩, h8⟩
theorem FileAt.mono {F G : Nat → Prop} {w : World} {e : Ent} (h : FileAt F w e) (hG : ∀ i, F i → G i) : FileAt G w e := by
  obtain ⟨h1, h2, h3, h4, h5, ⟨vs, h6, h7⟩, h8⟩ := h
  exact ⟨h1, hG _ h2, h3.mono hG, h4.mono hG, fun i e => hG _ (h5 i e), ⟨vs, h6, h7.mono hG⟩, h8⟩
/-- two entries share nothing -/
structure Apart (a b : Ent) : Prop where
  key : a.key ≠ b.key
  born : a.born ≠ b.born
  blk : a.blk ≠ b.blk
  chg : ∀ i, a.chgV.ownBlock = some i → b.chgV.ownBlock ≠ some i
theorem Apart.symm {a b : Ent} (h : Apart a b) : Apart b a := ⟨fun e => h.key e.symm, fun e => h.born e.symm, fun e => h.blk e.symm, fun i e1 e2 => h.chg i e2 e1⟩
structure DiskAt (F : Nat → Prop) (w : World) (d M clock : Nat) (room : Int) (ents : List Ent) : Prop where
  disk : Blk w d #[.int .i64 room, .map (some M)] tDisk
  dF : F d
  mF : F M
  lt : ∀ i, F i → i < w.heap.size
  map : w.heap[M]? = some (.map (esOf ents) clock)
  born : ∀ e ∈ ents, e.born < clock
  keys : ∀ e ∈ ents, e.key.size ≤ 64
  small : ents.length ≤ 16
  apart : ents.Pairwise Apart
  file : ∀ e ∈ ents, FileAt F w e
  room0 : 0 ≤ room
  roomM : room ≤ 9223372036854775807
theorem DiskAt.diff {F : Nat → Prop} {w : World} {d M clock : Nat} {room : Int} {ents : List Ent} (h : DiskAt F w d M clock room ents) : Diff ents := h.apart.imp Apart.key
theorem DiskAt.out {F S : Nat → Prop} {w w' : World} {d M clock : Nat} {room : Int} {ents : List Ent} (h : DiskAt F w d M clock room ents) (k : Keeps S w w') (hS : ∀ i, F i → ¬ S i) : DiskAt F w' d M clock room ents := by
  obtain ⟨h1, h2, h3, h4, h5, h6, h7, h8, h9, h10, h11, h12⟩ := h
  exact ⟨h1.keeps k (hS _ h2), h2, h3, fun i hi => Nat.lt_of_lt_of_le (h4 i hi) k.size, (k.block M (h4 M h3) (hS _ h3)).trans h5, h6, h7, h8, h9,
    fun e he => (h10 e he).keeps k (hS _ (h10 e he).inF) (fun i ei => hS _ ((h10 e he).chgF i ei)) (fun i hi _ => hS _ hi), h11, h12⟩
abbrev Ent.abs (e : Ent) : ByteArray × FileP := (e.key, e.f)
/-- A disk lies at d, in F: its files are D. -/
def DiskIn (F : Nat → Prop) (w : World) (d : Nat) (room : Int) (D : List (ByteArray × FileP)) : Prop := ∃ M clock ents, DiskAt F w d M clock room ents ∧ D = ents.map Ent.abs
theorem DiskIn.out {F S : Nat → Prop} {w w' : World} {d : Nat} {room : Int} {D : List (ByteArray × FileP)} (h : DiskIn F w d room D) (k : Keeps S w w') (hS : ∀ i, F i → ¬ S i) : DiskIn F w' d room D := by
  obtain ⟨M, clock, ents, h1, h2⟩ := h
  exact ⟨M, clock, ents, h1.out k hS, h2⟩
theorem DiskIn.lt {F : Nat → Prop} {w : World} {d : Nat} {room : Int} {D : List (ByteArray × FileP)} (h : DiskIn F w d room D) : ∀ i, F i → i < w.heap.size := by
  obtain ⟨M, clock, ents, h1, h2⟩ := h
  exact h1.lt
theorem DiskIn.below {F : Nat → Prop} {w w' : World} {d : Nat} {room : Int} {D : List (ByteArray × FileP)} (h : DiskIn F w d room D) (k : Below w.heap.size w w') : DiskIn F w' d room D :=
  h.out (Keeps.of_new (S := fun _ => False) k) (fun _ _ => id)
/-- disk.New. -/
theorem New_any (room : Int) (w : World) (hr : room ≤ 9223372036854775807) (hr2 : -9223372036854775808 ≤ room) :
    Calls Try.prog 16 #[.int .i64 room] w fun e w' => ∃ d F, e = .returned (.pointer (some ⟨d, 0, none⟩)) ∧ DiskIn F w' d (max 0 room) [] ∧ Below w.heap.size w w' ∧ ∀ i, F i → w.heap.size ≤ i := by
  have hmk : ∀ W, (Instr.makeMap tMap none).run Try.prog W = .ok (.map (some W.heap.size)) (W.alloc (.map #[] 0)) := fun W => by
    simp [Instr.makeMap, run_underlying underMap]
  have fin : ∀ r : Int, 0 ≤ r → r ≤ 9223372036854775807 → ∃ d F, Value.pointer (some ⟨w.heap.size + 1, 0, none⟩) = .pointer (some ⟨d, 0, none⟩) ∧
      DiskIn F ((w.alloc (.map #[] 0)).alloc (.cells #[.int .i64 r, .map (some w.heap.size)] tDisk)) d r [] ∧ Below w.heap.size w ((w.alloc (.map #[] 0)).alloc (.cells #[.int .i64 r, .map (some w.heap.size)] tDisk)) ∧ ∀ i, F i → w.heap.size ≤ i := by
    intro r h0 h1
    have hb : Below w.heap.size w ((w.alloc (.map #[] 0)).alloc (.cells #[.int .i64 r, .map (some w.heap.size)] tDisk)) := ((Below.refl _ _).alloc (Nat.le_refl _) _).alloc (by simp) _
    refine ⟨w.heap.size + 1, fun i => i = w.heap.size ∨ i = w.heap.size + 1, rfl, ⟨w.heap.size, 0, [], ⟨?_, .inr rfl, .inl rfl, ?_, ?_, by simp, by simp, by simp, .nil, by simp, h0, h1⟩, rfl⟩, hb, ?_⟩
    · have := Blk.new (w.alloc (.map #[] 0)) #[.int .i64 r, .map (some w.heap.size)] tDisk
      simpa using this
    · intro i hi
      simp
      omega
    · rw [Below.heap_alloc _ _ _ (by simp), heap_alloc_new]
      rfl
    · intro i hi
      omega
  go_enter Try.func16, Try.ntmps16
  go_wp2
  · go_ret
    obtain ⟨d, F, e, h1, h2, h3⟩ := fin room (by omega) hr
    rw [show max 0 room = room by omega]
    exact ⟨d, by rw [← e]; simp, F, h1, h2, h3⟩
  · go_ret
    obtain ⟨d, F, e, h1, h2, h3⟩ := fin 0 (by omega) (by omega)
    rw [show max 0 room = 0 by omega]
    exact ⟨d, by rw [← e]; simp, F, h1, h2, h3⟩
end Go.Proofs.Ytapgknaoieojkaa.Toll
