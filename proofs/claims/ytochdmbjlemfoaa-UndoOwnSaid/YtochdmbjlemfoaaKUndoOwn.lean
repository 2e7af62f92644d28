/-
  Proved: UndoOwn returns true for any two groups that can be read, and leaves its arguments as they were. No condition.
-/
import Derived.Test.YtochdmbjlemfoaaR
import Derived.Test.YtochdmbjlemfoaaU7
namespace Go.Proofs.Ytochdmbjlemfoaa
open Go Go.ChangeShapes Go.WideShapes Go.ChangeAt Go.RowKit

set_option maxRecDepth 100000 in
theorem undoOwn_lifted (os : Os) (started : os.Started) (H : Type) (enc : TypeId × Value → H) :
    ReturnsInHanded {} Try.checked os 4 .any (Rows.undoOwnSpec.pre6 enc Try.prog Try.f4 Rows.undoOwnRow.domain false) (Rows.undoOwnSpec.post enc Try.prog Try.f4 false true false false) := by
  refine returnsInHanded_of_change (C := Try.checked) own started (by kernel_rfl) Try.func4
    (ChangeSpec.witness6 (enc := enc) (C := Try.checked) false ⟨#[], #[.slice none 0 0, .slice none 0 0], []⟩ 8 (by kernel_rfl) (by kernel_rfl) (by kernel_rfl) (by kernel_rfl)) ?_
  intro W base args ds gs before hval0 hW _ _
  have hval : ∀ (j : Nat) t v, Try.f4.params[j]? = some t → args[j]? = some v → Value.okWide Try.prog W .any base t v := hval0
  have hW' := hW
  obtain ⟨p, q, hA0, hV, rfl, _, _⟩ := hW
  have hA : DataW.TrodAll enc Try.prog W 0 (fun _ => true) true Try.f4.params.toList args.toList ds p := hA0
  have hlt : ∀ x ∈ p, x.block < W.heap.size := fun x hx => hW'.lt x (List.mem_append_left _ hx)
  rw [Try.params4] at hA hval
  have hAk := hA
  obtain ⟨v0, v1, d0, d1, p0, p1, hargs, rfl, rfl, h0, h1⟩ := trodAll_two hA
  obtain ⟨rfl, rfl⟩ := trodVars_none hV
  have hargs' : args = #[v0, v1] := by cases args; simp_all
  subst hargs'
  obtain ⟨f0, t0⟩ := arg_slice Try.underlying24 (hval 0 24 v0 rfl rfl) h0
  obtain ⟨f1, t1⟩ := arg_slice Try.underlying24 (hval 1 24 v1 rfl rfl) h1
  obtain ⟨A, n, c, es, L, e0, hr, hL⟩ := ents_of_trod t0
  obtain ⟨B, m, d, es', L', e1, hr', -⟩ := ents_of_trod t1
  simp only [List.cons.injEq, and_true] at e0 e1
  subst e0 e1
  have main : Calls Try.prog 4 #[.slice A n c, .slice B m d] W fun e w' => e = .returned (.bool true) ∧ Below W.heap.size W w' := by
    by_cases h : n < 1 ∨ 6 < n ∨ m < 1 ∨ 6 < m
    · exact undoOwn_out A B n c m d W h
    · exact undoOwn_in A B n c m d es es' L W (by omega) (by omega) (by omega) (by omega) hr hr' hL
  refine main.mono fun e W' ⟨he, hb⟩ => ?_
  subst he
  exact ⟨_, rfl, law_post (pv := []) hW' (fun _ _ _ => trodAll_mk1 (shut_bool Try.underlying4 _)) (fun sp hsp => args_stay hb (by decide) hAk hlt (fun x hx => hsp x (List.mem_append_left _ hx))) (fun _ _ => rfl) rfl hb⟩

theorem undoOwn_holds : Rows.UndoOwnSaid :=
  OpenClaim.holds_of_wide 4 Try.f4 rfl rfl rfl rfl rfl rfl rfl ⟨rfl, rfl, rfl, rfl, rfl⟩ rfl rfl rfl rfl rfl (by kernel_rfl) Try.func4 (by kernel_rfl)
    (of_decide_eq_true (by kernel_rfl)) (by unfold Func.isWrapper; first | (rw [if_pos (by decide +kernel)]; kernel_rfl) | (rw [if_neg (by decide +kernel)]; exact ⟨rfl, rfl⟩))
    (fun os started H enc _ => undoOwn_lifted os started H enc)
#print axioms undoOwn_holds
end Go.Proofs.Ytochdmbjlemfoaa
