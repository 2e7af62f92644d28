/-
  Proved: UndoPlays returns true for any capacity and any list of acts that can be read, and leaves its arguments as they were. No condition.
-/
import Derived.Test.YtochdmbjlemfoaaR
import Derived.Test.YtochdmbjlemfoaaU10
namespace Go.Proofs.Ytochdmbjlemfoaa
open Go Go.ChangeShapes Go.WideShapes Go.ChangeAt Go.RowKit

theorem cellsEntries' : Try.prog.cellsOf 24 = 1 := by kernel_rfl
theorem cellsAct24 : Try.prog.cellsOf 52 = 3 := by kernel_rfl
section
variable {H : Type} {enc : TypeId × Value → H} {w : World} {sp : Nat → Bool} {held : Bool}
set_option maxRecDepth 100000 in
/-- An act as an argument. -/
theorem act_of_trod {fuel : Nat} {cs : List Value} {x : DataW H × List MemPlace} (h : DataW.trod enc Try.prog w 0 sp held fuel 52 cs = some x) : ∃ a : AC, cs = a.cells ∧ a.g.ok w (Old w) := by
  obtain ⟨hl, n, hf⟩ := struct_fields Try.underlying52 h
  rw [cellsAct24] at hl
  match cs, hl with
  | [c0, c1, c2], _ =>
    obtain ⟨y0, h0⟩ := hf 0 5 0 rfl
    obtain ⟨y1, h1⟩ := hf 1 24 1 rfl
    obtain ⟨y2, h2⟩ := hf 2 3 2 rfl
    simp only [cellsU8, cellsEntries', cellsInt, List.drop_zero, List.take_succ_cons, List.take_zero, List.drop_succ_cons] at h0 h1 h2
    obtain ⟨s0, e0, _⟩ := DataW.trod_int Try.underlying5 h0
    obtain ⟨A, n, c, es, L, e1, r1, r2⟩ := ents_of_trod h1
    obtain ⟨z, e2, _⟩ := DataW.trod_int Try.underlying3 h2
    simp only [List.cons.injEq, and_true] at e0 e1 e2
    subst e0 e1 e2
    exact ⟨⟨s0, ⟨A, n, c, es, L⟩, z⟩, rfl, r1, r2⟩
theorem AC.one (a : AC) : ∀ u ∈ a.cells, u.oneCell' = true := by
  unfold AC.cells GP.val
  simp [Value.oneCell']
/-- A list of acts as an argument. -/
theorem acts_of_trod {fuel : Nat} {cs : List Value} {x : DataW H × List MemPlace} (h : DataW.trod enc Try.prog w 0 sp held fuel 49 cs = some x) :
    ∃ A n c acs, cs = [.slice A n c] ∧ Rd w (Old w) 3 A n c (acRows acs) ∧ ∀ a ∈ acs, a.g.ok w (Old w) := by
  obtain ⟨A, m, c, es, k, e3, hr, hi⟩ := rd_of_trod Try.underlying49 cellsAct24 (by decide) (fun n cs' y hy u hu => by
    obtain ⟨a, rfl, _⟩ := act_of_trod hy
    exact a.one u hu) h
  obtain ⟨l, hl, hli⟩ := say_all (Q := fun e (a : AC) => e = a.cells ∧ a.g.ok w (Old w)) es (fun i e he => by
    obtain ⟨y, hy⟩ := hi i e he
    exact act_of_trod hy)
  have hes : es = acRows l := by
    apply List.ext_getElem?
    intro i
    unfold acRows
    rw [List.getElem?_map]
    by_cases hlt : i < es.length
    · have h1 := List.getElem?_eq_getElem hlt
      have h2 := List.getElem?_eq_getElem (l := l) (i := i) (by omega)
      rw [h1, h2, (hli i _ _ h1 h2).1]
      rfl
    · rw [List.getElem?_eq_none (by omega), List.getElem?_eq_none (by omega)]
      rfl
  subst hes
  refine ⟨A, m, c, l, e3, hr, fun g hg => ?_⟩
  obtain ⟨i, hi⟩ := List.mem_iff_getElem?.1 hg
  have hlt := (List.getElem?_eq_some_iff.1 hi).1
  exact (hli i _ g (List.getElem?_eq_getElem (by omega)) hi).2
end

set_option maxRecDepth 100000 in
theorem undoPlays_lifted (os : Os) (started : os.Started) (H : Type) (enc : TypeId × Value → H) :
    ReturnsInHanded {} Try.checked os 6 .any (Rows.undoPlaysSpec.pre6 enc Try.prog Try.f6 Rows.undoPlaysRow.domain false) (Rows.undoPlaysSpec.post enc Try.prog Try.f6 false true false false) := by
  refine returnsInHanded_of_change (C := Try.checked) own started (by kernel_rfl) Try.func6
    (ChangeSpec.witness6 (enc := enc) (C := Try.checked) false ⟨#[], #[.int .u8 0, .slice none 0 0], []⟩ 8 (by kernel_rfl) (by kernel_rfl) (by kernel_rfl) (by kernel_rfl)) ?_
  intro W base args ds gs before hval0 hW _ _
  have hval : ∀ (j : Nat) t v, Try.f6.params[j]? = some t → args[j]? = some v → Value.okWide Try.prog W .any base t v := hval0
  have hW' := hW
  obtain ⟨p, q, hA0, hV, rfl, _, _⟩ := hW
  have hA : DataW.TrodAll enc Try.prog W 0 (fun _ => true) true Try.f6.params.toList args.toList ds p := hA0
  have hlt : ∀ x ∈ p, x.block < W.heap.size := fun x hx => hW'.lt x (List.mem_append_left _ hx)
  rw [Try.params6] at hA hval
  have hAk := hA
  obtain ⟨v0, v1, d0, d1, p0, p1, hargs, rfl, rfl, h0, h1⟩ := trodAll_two hA
  obtain ⟨rfl, rfl⟩ := trodVars_none hV
  have hargs' : args = #[v0, v1] := by cases args; simp_all
  subst hargs'
  obtain ⟨x, rfl, -, -, wx⟩ := open_int Try.underlying5 (hval 0 5 v0 rfl rfl) h0
  obtain ⟨f2, t2⟩ := arg_slice Try.underlying49 (hval 1 49 v1 rfl rfl) h1
  obtain ⟨A, n, c, acs, e2, hr, hg⟩ := acts_of_trod t2
  simp only [List.cons.injEq, and_true] at e2
  subst e2
  have bx := bounds_u8 wx
  obtain ⟨x, rfl⟩ : ∃ z : Nat, x = (z : Int) := ⟨x.toNat, by omega⟩
  have main := undoPlays_any x A n c acs W (by omega) hr hg
  refine main.mono fun e W' ⟨he, hb⟩ => ?_
  subst he
  exact ⟨_, rfl, law_post (pv := []) hW' (fun _ _ _ => trodAll_mk1 (shut_bool Try.underlying4 _)) (fun sp hsp => args_stay hb (by decide) hAk hlt (fun x hx => hsp x (List.mem_append_left _ hx))) (fun _ _ => rfl) rfl hb⟩

theorem undoPlays_holds : Rows.UndoPlaysSaid :=
  OpenClaim.holds_of_wide 6 Try.f6 rfl rfl rfl rfl rfl rfl rfl ⟨rfl, rfl, rfl, rfl, rfl⟩ rfl rfl rfl rfl rfl (by kernel_rfl) Try.func6 (by kernel_rfl)
    (of_decide_eq_true (by kernel_rfl)) (by unfold Func.isWrapper; first | (rw [if_pos (by decide +kernel)]; kernel_rfl) | (rw [if_neg (by decide +kernel)]; exact ⟨rfl, rfl⟩))
    (fun os started H enc _ => undoPlays_lifted os started H enc)
#print axioms undoPlays_holds
end Go.Proofs.Ytochdmbjlemfoaa
