/-
  Proved: UndoLast returns true for any capacity, any number ahead and any list of groups that can be read, and leaves its arguments as they were. No condition.
-/
import Derived.Test.YtochdmbjlemfoaaR
import Derived.Test.YtochdmbjlemfoaaU8
namespace Go.Proofs.Ytochdmbjlemfoaa
open Go Go.ChangeShapes Go.WideShapes Go.ChangeAt Go.RowKit

theorem cellsEntries : Try.prog.cellsOf 24 = 1 := by kernel_rfl
section
variable {H : Type} {enc : TypeId × Value → H} {w : World} {sp : Nat → Bool} {held : Bool}
set_option maxRecDepth 100000 in
/-- A list of groups as an argument. -/
theorem groups_of_trod {fuel : Nat} {cs : List Value} {x : DataW H × List MemPlace} (h : DataW.trod enc Try.prog w 0 sp held fuel 22 cs = some x) :
    ∃ A n c gs, cs = [.slice A n c] ∧ Rd w (Old w) 1 A n c (gpRows gs) ∧ ∀ g ∈ gs, g.ok w (Old w) := by
  obtain ⟨A, m, c, es, k, e3, hr, hi⟩ := rd_of_trod Try.underlying22 cellsEntries (by decide) (fun n cs' y hy u hu => by
    obtain ⟨A, n, c, es, L, rfl, _, _⟩ := ents_of_trod hy
    simp at hu; subst hu; rfl) h
  obtain ⟨l, hl, hli⟩ := say_all (Q := fun e (g : GP) => e = [g.val] ∧ g.ok w (Old w)) es (fun i e he => by
    obtain ⟨y, hy⟩ := hi i e he
    obtain ⟨A, n, c, es, L, rfl, h1, h2⟩ := ents_of_trod hy
    exact ⟨⟨A, n, c, es, L⟩, rfl, h1, h2⟩)
  have hes : es = gpRows l := by
    apply List.ext_getElem?
    intro i
    unfold gpRows
    rw [List.getElem?_map]
    by_cases hlt : i < es.length
    · have h1 := List.getElem?_eq_getElem hlt
      have h2 := List.getElem?_eq_getElem (l := l) (i := i) (by omega)
      rw [h1, h2, (hli i _ _ h1 h2).1]
      rfl
    · rw [List.getElem?_eq_none (by omega), List.getElem?_eq_none (by omega)]
      rfl
  subst hes
  refine ⟨A, m, c, l, e3, hr, fun g hg => ?_⟩
  obtain ⟨i, hi⟩ := List.mem_iff_getElem?.1 hg
  have hlt := (List.getElem?_eq_some_iff.1 hi).1
  exact (hli i _ g (List.getElem?_eq_getElem (by omega)) hi).2
end

set_option maxRecDepth 100000 in
theorem undoLast_lifted (os : Os) (started : os.Started) (H : Type) (enc : TypeId × Value → H) :
    ReturnsInHanded {} Try.checked os 3 .any (Rows.undoLastSpec.pre6 enc Try.prog Try.f3 Rows.undoLastRow.domain false) (Rows.undoLastSpec.post enc Try.prog Try.f3 false true false false) := by
  refine returnsInHanded_of_change (C := Try.checked) own started (by kernel_rfl) Try.func3
    (ChangeSpec.witness6 (enc := enc) (C := Try.checked) false ⟨#[], #[.int .u8 0, .int .u8 0, .slice none 0 0], []⟩ 8 (by kernel_rfl) (by kernel_rfl) (by kernel_rfl) (by kernel_rfl)) ?_
  intro W base args ds gs before hval0 hW _ _
  have hval : ∀ (j : Nat) t v, Try.f3.params[j]? = some t → args[j]? = some v → Value.okWide Try.prog W .any base t v := hval0
  have hW' := hW
  obtain ⟨p, q, hA0, hV, rfl, _, _⟩ := hW
  have hA : DataW.TrodAll enc Try.prog W 0 (fun _ => true) true Try.f3.params.toList args.toList ds p := hA0
  have hlt : ∀ x ∈ p, x.block < W.heap.size := fun x hx => hW'.lt x (List.mem_append_left _ hx)
  rw [Try.params3] at hA hval
  have hAk := hA
  obtain ⟨v0, v1, v2, d0, d1, d2, p0, p1, p2, hargs, rfl, rfl, h0, h1, h2⟩ := trodAll_three hA
  obtain ⟨rfl, rfl⟩ := trodVars_none hV
  have hargs' : args = #[v0, v1, v2] := by cases args; simp_all
  subst hargs'
  obtain ⟨x, rfl, -, -, wx⟩ := open_int Try.underlying5 (hval 0 5 v0 rfl rfl) h0
  obtain ⟨y, rfl, -, -, wy⟩ := open_int Try.underlying5 (hval 1 5 v1 rfl rfl) h1
  obtain ⟨f2, t2⟩ := arg_slice Try.underlying22 (hval 2 22 v2 rfl rfl) h2
  obtain ⟨A, n, c, gs, e2, hr, hg⟩ := groups_of_trod t2
  simp only [List.cons.injEq, and_true] at e2
  subst e2
  have bx := bounds_u8 wx
  have by' := bounds_u8 wy
  obtain ⟨x, rfl⟩ : ∃ z : Nat, x = (z : Int) := ⟨x.toNat, by omega⟩
  obtain ⟨y, rfl⟩ : ∃ z : Nat, y = (z : Int) := ⟨y.toNat, by omega⟩
  have main := undoLast_any x y A n c gs W (by omega) (by omega) hr hg
  refine main.mono fun e W' ⟨he, hb⟩ => ?_
  subst he
  exact ⟨_, rfl, law_post (pv := []) hW' (fun _ _ _ => trodAll_mk1 (shut_bool Try.underlying4 _)) (fun sp hsp => args_stay hb (by decide) hAk hlt (fun x hx => hsp x (List.mem_append_left _ hx))) (fun _ _ => rfl) rfl hb⟩

theorem undoLast_holds : Rows.UndoLastSaid :=
  OpenClaim.holds_of_wide 3 Try.f3 rfl rfl rfl rfl rfl rfl rfl ⟨rfl, rfl, rfl, rfl, rfl⟩ rfl rfl rfl rfl rfl (by kernel_rfl) Try.func3 (by kernel_rfl)
    (of_decide_eq_true (by kernel_rfl)) (by unfold Func.isWrapper; first | (rw [if_pos (by decide +kernel)]; kernel_rfl) | (rw [if_neg (by decide +kernel)]; exact ⟨rfl, rfl⟩))
    (fun os started H enc _ => undoLast_lifted os started H enc)
#print axioms undoLast_holds
end Go.Proofs.Ytochdmbjlemfoaa
