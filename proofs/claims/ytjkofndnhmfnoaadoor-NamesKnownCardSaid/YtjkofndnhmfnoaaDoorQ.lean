/-
  From the reading of an argument as data (DataW.trod) to what its memory holds, in this seat's own words: arrays, functions, instructions, things, entries, and slices of them. Of any value that can be read.
-/
import Derived.Test.YtjkofndnhmfnoaaDoorS0
import Derived.Test.YtjkofndnhmfnoaaDoorQ0
import Derived.Deep.Slices
import Derived.ProofKit
namespace Go.Proofs.YtjkofndnhmfnoaaDoor
open Go Go.RowKit Go.ChangeShapes Go.WideShapes Go.Deep

theorem cellsInt : Tryd.prog.cellsOf 3 = 1 := by kernel_rfl
theorem cellsInt64 : Tryd.prog.cellsOf 2 = 1 := by kernel_rfl
theorem cellsU8 : Tryd.prog.cellsOf 5 = 1 := by kernel_rfl
theorem cellsBool : Tryd.prog.cellsOf 4 = 1 := by kernel_rfl
theorem cellsString : Tryd.prog.cellsOf 9 = 1 := by kernel_rfl
theorem cellsInts : Tryd.prog.cellsOf 25 = 1 := by kernel_rfl
theorem cellsInt64s : Tryd.prog.cellsOf 23 = 1 := by kernel_rfl
theorem cellsStrings : Tryd.prog.cellsOf 28 = 1 := by kernel_rfl
theorem cellsOps : Tryd.prog.cellsOf 51 = 1 := by kernel_rfl
theorem cellsValue : Tryd.prog.cellsOf 27 = 3 := by kernel_rfl
theorem cellsFunc : Tryd.prog.cellsOf 50 = 7 := by kernel_rfl
theorem cellsOp : Tryd.prog.cellsOf 177 = 8 := by kernel_rfl
theorem cellsThing : Tryd.prog.cellsOf 53 = 14 := by kernel_rfl
theorem cellsEntry : Tryd.prog.cellsOf 129 = 16 := by kernel_rfl

section
variable {H : Type} {enc : TypeId × Value → H} {w : World} {sp : Nat → Bool} {held : Bool}
theorem rd_ints {t e : TypeId} {k : IntKind} {fuel : Nat} {cs : List Value} {x : DataW H × List MemPlace} (ht : Tryd.prog.underlying t = some (.slice e)) (he : Tryd.prog.underlying e = some (.int k)) (hC : Tryd.prog.cellsOf e = 1)
    (h : DataW.trod enc Tryd.prog w 0 sp held fuel t cs = some x) : ∃ A n c xs, cs = [.slice A n c] ∧ Rd w (Old w) 1 A n c (intRows k xs) := by
  obtain ⟨A, n, c, es, m, rfl, hr, hi⟩ := rd_of_trod ht hC (by decide) (fun n cs' y hy u hu => by
    obtain ⟨z, rfl, _⟩ := DataW.trod_int he hy
    simp at hu; subst hu; rfl) h
  obtain ⟨xs, rfl⟩ := map_rows (f := Value.int k) (es := es) (fun e' he' => by
    obtain ⟨i, hie⟩ := List.mem_iff_getElem?.1 he'
    obtain ⟨y, hy⟩ := hi i e' hie
    obtain ⟨z, rfl, _⟩ := DataW.trod_int he hy
    exact ⟨z, rfl⟩)
  exact ⟨A, n, c, xs, rfl, hr⟩
theorem rd_strs {t e : TypeId} {fuel : Nat} {cs : List Value} {x : DataW H × List MemPlace} (ht : Tryd.prog.underlying t = some (.slice e)) (he : Tryd.prog.underlying e = some .string) (hC : Tryd.prog.cellsOf e = 1)
    (h : DataW.trod enc Tryd.prog w 0 sp held fuel t cs = some x) : ∃ A n c xs, cs = [.slice A n c] ∧ Rd w (Old w) 1 A n c (strRows xs) := by
  obtain ⟨A, n, c, es, m, rfl, hr, hi⟩ := rd_of_trod ht hC (by decide) (fun n cs' y hy u hu => by
    obtain ⟨z, rfl, _⟩ := DataW.trod_string he hy
    simp at hu; subst hu; rfl) h
  obtain ⟨xs, rfl⟩ := map_rows (f := Value.string) (es := es) (fun e' he' => by
    obtain ⟨i, hie⟩ := List.mem_iff_getElem?.1 he'
    obtain ⟨y, hy⟩ := hi i e' hie
    obtain ⟨z, rfl, _⟩ := DataW.trod_string he hy
    exact ⟨z, rfl⟩)
  exact ⟨A, n, c, xs, rfl, hr⟩

set_option maxRecDepth 100000 in
theorem vis_of_trod {fuel : Nat} {cs : List Value} {x : DataW H × List MemPlace} (h : DataW.trod enc Tryd.prog w 0 sp held fuel 27 cs = some x) : ∃ v, VIs w (Old w) cs v := by
  obtain ⟨hl, n, hf⟩ := struct_fields Tryd.underlying27 h
  rw [cellsValue] at hl
  match cs, hl with
  | [c0, c1, c2], _ =>
    obtain ⟨y0, h0⟩ := hf 0 4 0 rfl
    obtain ⟨y1, h1⟩ := hf 1 25 1 rfl
    obtain ⟨y2, h2⟩ := hf 2 23 2 rfl
    simp only [cellsBool, cellsInts, cellsInt64s, List.drop_zero, List.take_succ_cons, List.take_zero, List.drop_succ_cons] at h0 h1 h2
    obtain ⟨b, e0, _⟩ := DataW.trod_bool Tryd.underlying4 h0
    obtain ⟨A, n1, k1, xs, e1, r1⟩ := rd_ints Tryd.underlying25 Tryd.underlying3 cellsInt h1
    obtain ⟨A', n2, k2, ys, e2, r2⟩ := rd_ints Tryd.underlying23 Tryd.underlying2 cellsInt64 h2
    simp only [List.cons.injEq, and_true] at e0 e1 e2
    subst e0 e1 e2
    exact ⟨⟨b, xs, ys⟩, _, _, _, _, _, _, rfl, r1, r2⟩
set_option maxRecDepth 100000 in
theorem fis_of_trod {fuel : Nat} {cs : List Value} {x : DataW H × List MemPlace} (h : DataW.trod enc Tryd.prog w 0 sp held fuel 50 cs = some x) : ∃ v, FIs w (Old w) cs v := by
  obtain ⟨hl, n, hf⟩ := struct_fields Tryd.underlying50 h
  rw [cellsFunc] at hl
  match cs, hl with
  | [c0, c1, c2, c3, c4, c5, c6], _ =>
    obtain ⟨y0, h0⟩ := hf 0 9 0 rfl
    obtain ⟨y1, h1⟩ := hf 1 9 1 rfl
    obtain ⟨y2, h2⟩ := hf 2 9 2 rfl
    obtain ⟨y3, h3⟩ := hf 3 9 3 rfl
    obtain ⟨y4, h4⟩ := hf 4 28 4 rfl
    obtain ⟨y5, h5⟩ := hf 5 28 5 rfl
    obtain ⟨y6, h6⟩ := hf 6 3 6 rfl
    simp only [cellsString, cellsStrings, cellsInt, List.drop_zero, List.take_succ_cons, List.take_zero, List.drop_succ_cons] at h0 h1 h2 h3 h4 h5 h6
    obtain ⟨s0, e0, _⟩ := DataW.trod_string Tryd.underlying9 h0
    obtain ⟨s1, e1, _⟩ := DataW.trod_string Tryd.underlying9 h1
    obtain ⟨s2, e2, _⟩ := DataW.trod_string Tryd.underlying9 h2
    obtain ⟨s3, e3, _⟩ := DataW.trod_string Tryd.underlying9 h3
    obtain ⟨A, n1, k1, xs, e4, r1⟩ := rd_strs Tryd.underlying28 Tryd.underlying9 cellsString h4
    obtain ⟨A', n2, k2, ys, e5, r2⟩ := rd_strs Tryd.underlying28 Tryd.underlying9 cellsString h5
    obtain ⟨z, e6, _⟩ := DataW.trod_int Tryd.underlying3 h6
    simp only [List.cons.injEq, and_true] at e0 e1 e2 e3 e4 e5 e6
    subst e0 e1 e2 e3 e4 e5 e6
    exact ⟨⟨s0, s1, s2, s3, xs, ys, z⟩, _, _, _, _, _, _, rfl, r1, r2⟩
set_option maxRecDepth 100000 in
theorem ois_of_trod {fuel : Nat} {cs : List Value} {x : DataW H × List MemPlace} (h : DataW.trod enc Tryd.prog w 0 sp held fuel 177 cs = some x) : ∃ v, OIs w (Old w) cs v := by
  obtain ⟨hl, n, hf⟩ := struct_fields Tryd.underlying177 h
  rw [cellsOp] at hl
  match cs, hl with
  | [c0, c1, c2, c3, c4, c5, c6, c7], _ =>
    obtain ⟨y0, h0⟩ := hf 0 5 0 rfl
    obtain ⟨y1, h1⟩ := hf 1 9 1 rfl
    obtain ⟨y2, h2⟩ := hf 2 9 2 rfl
    obtain ⟨y3, h3⟩ := hf 3 27 3 rfl
    obtain ⟨y4, h4⟩ := hf 4 3 6 rfl
    obtain ⟨y5, h5⟩ := hf 5 4 7 rfl
    simp only [cellsU8, cellsString, cellsValue, cellsInt, cellsBool, List.drop_zero, List.take_succ_cons, List.take_zero, List.drop_succ_cons] at h0 h1 h2 h3 h4 h5
    obtain ⟨s0, e0, _⟩ := DataW.trod_int Tryd.underlying5 h0
    obtain ⟨s1, e1, _⟩ := DataW.trod_string Tryd.underlying9 h1
    obtain ⟨s2, e2, _⟩ := DataW.trod_string Tryd.underlying9 h2
    obtain ⟨v, hv⟩ := vis_of_trod h3
    obtain ⟨z, e4, _⟩ := DataW.trod_int Tryd.underlying3 h4
    obtain ⟨b, e5, _⟩ := DataW.trod_bool Tryd.underlying4 h5
    simp only [List.cons.injEq, and_true] at e0 e1 e2 e4 e5
    subst e0 e1 e2 e4 e5
    exact ⟨⟨s0, s1, s2, v, z, b⟩, _, rfl, hv⟩
theorem VIs.one {D : Nat → Prop} {cs : List Value} {v : VD} (h : VIs w D cs v) : ∀ u ∈ cs, u.oneCell' = true := by
  obtain ⟨_, _, _, _, _, _, rfl, _, _⟩ := h
  simp [Value.oneCell']
theorem FIs.one {D : Nat → Prop} {cs : List Value} {v : FD} (h : FIs w D cs v) : ∀ u ∈ cs, u.oneCell' = true := by
  obtain ⟨_, _, _, _, _, _, rfl, _, _⟩ := h
  simp [Value.oneCell']
theorem OIs.one {D : Nat → Prop} {cs : List Value} {v : OD} (h : OIs w D cs v) : ∀ u ∈ cs, u.oneCell' = true := by
  obtain ⟨vs, rfl, hv⟩ := h
  have := hv.one
  intro u hu
  simp only [List.mem_append, List.mem_cons, List.not_mem_nil, or_false] at hu
  rcases hu with ((h | h | h) | h) | h | h
  · subst h; rfl
  · subst h; rfl
  · subst h; rfl
  · exact this u h
  · subst h; rfl
  · subst h; rfl
theorem TIs.one {D : Nat → Prop} {cs : List Value} {v : TD} (h : TIs w D cs v) : ∀ u ∈ cs, u.oneCell' = true := by
  obtain ⟨vs, fs, A, n, c, oes, rfl, hv, hf, _⟩ := h
  have h1 := hv.one
  have h2 := hf.one
  intro u hu
  simp only [List.mem_append, List.mem_cons, List.not_mem_nil, or_false] at hu
  rcases hu with ((h | h) | h) | h | h | h
  · subst h; rfl
  · exact h1 u h
  · exact h2 u h
  · subst h; rfl
  · subst h; rfl
  · subst h; rfl
/-- From 'each can be said' to one list. -/
theorem say_all {α : Type} {Q : List Value → α → Prop} (es : List (List Value)) (h : ∀ (i : Nat) e, es[i]? = some e → ∃ v, Q e v) : ∃ l : List α, es.length = l.length ∧ ∀ (i : Nat) e v, es[i]? = some e → l[i]? = some v → Q e v := by
  induction es with
  | nil => exact ⟨[], rfl, by simp⟩
  | cons e es ih =>
    obtain ⟨v, hv⟩ := h 0 e rfl
    obtain ⟨l, hl, hi⟩ := ih (fun i e' he => h (i + 1) e' (by simpa using he))
    refine ⟨v :: l, by simp [hl], fun i e' v' he hv' => ?_⟩
    cases i with
    | zero => simp at he hv'; subst he hv'; exact hv
    | succ i => exact hi i e' v' (by simpa using he) (by simpa using hv')
set_option maxRecDepth 100000 in
theorem tis_of_trod {fuel : Nat} {cs : List Value} {x : DataW H × List MemPlace} (h : DataW.trod enc Tryd.prog w 0 sp held fuel 53 cs = some x) : ∃ v, TIs w (Old w) cs v := by
  obtain ⟨hl, n, hf⟩ := struct_fields Tryd.underlying53 h
  rw [cellsThing] at hl
  match cs, hl with
  | [c0, c1, c2, c3, c4, c5, c6, c7, c8, c9, c10, c11, c12, c13], _ =>
    obtain ⟨y0, h0⟩ := hf 0 5 0 rfl
    obtain ⟨y1, h1⟩ := hf 1 27 1 rfl
    obtain ⟨y2, h2⟩ := hf 2 50 4 rfl
    obtain ⟨y3, h3⟩ := hf 3 51 11 rfl
    obtain ⟨y4, h4⟩ := hf 4 2 12 rfl
    obtain ⟨y5, h5⟩ := hf 5 9 13 rfl
    simp only [cellsU8, cellsString, cellsValue, cellsFunc, cellsOps, cellsInt64, List.drop_zero, List.take_succ_cons, List.take_zero, List.drop_succ_cons] at h0 h1 h2 h3 h4 h5
    obtain ⟨s0, e0, _⟩ := DataW.trod_int Tryd.underlying5 h0
    obtain ⟨v, hv⟩ := vis_of_trod h1
    obtain ⟨f, hfn⟩ := fis_of_trod h2
    obtain ⟨A, m, c, oes, k, e3, hr, hi⟩ := rd_of_trod Tryd.underlying51 cellsOp (by decide) (fun n cs' y hy => (ois_of_trod hy).choose_spec.one) h3
    obtain ⟨z, e4, _⟩ := DataW.trod_int Tryd.underlying2 h4
    obtain ⟨s, e5, _⟩ := DataW.trod_string Tryd.underlying9 h5
    obtain ⟨l, hl, hli⟩ := say_all (Q := fun e v => OIs w (Old w) e v) oes (fun i e he => by
      obtain ⟨y, hy⟩ := hi i e he
      exact ois_of_trod hy)
    simp only [List.cons.injEq, and_true] at e0 e3 e4 e5
    subst e0 e3 e4 e5
    exact ⟨⟨s0, v, f, l, z, s⟩, _, _, A, m, c, oes, rfl, hv, hfn, hr, hl, hli⟩
end

structure ED where
  key : ByteArray
  was : TD
  had : Bool
deriving DecidableEq

def EntIs (w : World) (D : Nat → Prop) (cs : List Value) (v : ED) : Prop := ∃ ts, cs = [.string v.key] ++ ts ++ [.bool v.had] ∧ TIs w D ts v.was
/-- Rows that read as entries. -/
def EntsAre (w : World) (D : Nat → Prop) (es : List (List Value)) (L : List ED) : Prop := es.length = L.length ∧ ∀ (i : Nat) e E, es[i]? = some e → L[i]? = some E → EntIs w D e E
theorem EntsAre.chg {w w' : World} {D S : Nat → Prop} {es : List (List Value)} {L : List ED} (h : EntsAre w D es L) (hg : Chg S w w') (hD : ∀ b, D b → ¬ S b) : EntsAre w' D es L :=
  ⟨h.1, fun i e E he hE => by
    obtain ⟨ts, h1, h2⟩ := h.2 i e E he hE
    exact ⟨ts, h1, h2.chg hg hD⟩⟩
theorem EntsAre.below {w w' : World} {D : Nat → Prop} {es : List (List Value)} {L : List ED} (h : EntsAre w D es L) (hb : Below w.heap.size w w') : EntsAre w' D es L := h.chg (S := fun _ => False) (Chg.of_below hb) (fun _ _ h => h)


section
variable {H : Type} {enc : TypeId × Value → H} {w : World} {sp : Nat → Bool} {held : Bool}
theorem EntIs.one {D : Nat → Prop} {cs : List Value} {v : ED} (h : EntIs w D cs v) : ∀ u ∈ cs, u.oneCell' = true := by
  obtain ⟨ts, rfl, ht⟩ := h
  have h1 := ht.one
  intro u hu
  simp only [List.mem_append, List.mem_cons, List.not_mem_nil, or_false] at hu
  rcases hu with (h | h) | h
  · subst h; rfl
  · exact h1 u h
  · subst h; rfl
set_option maxRecDepth 100000 in
theorem ent_of_trod {fuel : Nat} {cs : List Value} {x : DataW H × List MemPlace} (h : DataW.trod enc Tryd.prog w 0 sp held fuel 129 cs = some x) : ∃ v, EntIs w (Old w) cs v := by
  obtain ⟨hl, n, hf⟩ := struct_fields Tryd.underlying129 h
  rw [cellsEntry] at hl
  match cs, hl with
  | [c0, c1, c2, c3, c4, c5, c6, c7, c8, c9, c10, c11, c12, c13, c14, c15], _ =>
    obtain ⟨y0, h0⟩ := hf 0 9 0 rfl
    obtain ⟨y1, h1⟩ := hf 1 53 1 rfl
    obtain ⟨y2, h2⟩ := hf 2 4 15 rfl
    simp only [cellsString, cellsThing, cellsBool, List.drop_zero, List.take_succ_cons, List.take_zero, List.drop_succ_cons] at h0 h1 h2
    obtain ⟨s, e0, _⟩ := DataW.trod_string Tryd.underlying9 h0
    obtain ⟨T, hT⟩ := tis_of_trod h1
    obtain ⟨b, e2, _⟩ := DataW.trod_bool Tryd.underlying4 h2
    simp only [List.cons.injEq, and_true] at e0 e2
    subst e0 e2
    exact ⟨⟨s, T, b⟩, _, rfl, hT⟩
/-- A slice of entries. -/
theorem ents_of_trod {fuel : Nat} {cs : List Value} {x : DataW H × List MemPlace} (h : DataW.trod enc Tryd.prog w 0 sp held fuel 75 cs = some x) :
    ∃ A n c es L, cs = [.slice A n c] ∧ Rd w (Old w) 16 A n c es ∧ EntsAre w (Old w) es L := by
  obtain ⟨A, m, c, es, k, e3, hr, hi⟩ := rd_of_trod Tryd.underlying75 cellsEntry (by decide) (fun n cs' y hy => (ent_of_trod hy).choose_spec.one) h
  obtain ⟨l, hl, hli⟩ := say_all (Q := fun e v => EntIs w (Old w) e v) es (fun i e he => by
    obtain ⟨y, hy⟩ := hi i e he
    exact ent_of_trod hy)
  exact ⟨A, m, c, es, l, e3, hr, hl, hli⟩
end
end Go.Proofs.YtjkofndnhmfnoaaDoor
