/-
  Proved: CellsSame returns true for any two things, any cells and any entries that can be read, and leaves its arguments as they were. No condition.
-/
import Derived.Test.YtochdmbjlemfoaaRSame
import Derived.Test.YtochdmbjlemfoaaC26
namespace Go.Proofs.Ytochdmbjlemfoaa
open Go Go.ChangeShapes Go.WideShapes Go.ChangeAt Go.RowKit

set_option maxRecDepth 100000 in
theorem cellsSame_lifted (os : Os) (started : os.Started) (H : Type) (enc : TypeId × Value → H) :
    ReturnsInHanded {} Try.checked os 13 .any (Rows.cellsSameSpec.pre6 enc Try.prog Try.f13 Rows.cellsSameRow.domain false) (Rows.cellsSameSpec.post enc Try.prog Try.f13 false true false false) := by
  refine returnsInHanded_of_change (C := Try.checked) own started (by kernel_rfl) Try.func13
    (ChangeSpec.witness6 (enc := enc) (C := Try.checked) false ⟨#[], #[.agg #[.int .u8 0, .bool false, .slice none 0 0, .slice none 0 0, .string ⟨#[]⟩, .string ⟨#[]⟩, .string ⟨#[]⟩, .string ⟨#[]⟩, .slice none 0 0, .slice none 0 0, .int .i64 0, .slice none 0 0, .int .i64 0, .string ⟨#[]⟩], .agg #[.int .u8 0, .bool false, .slice none 0 0, .slice none 0 0, .string ⟨#[]⟩, .string ⟨#[]⟩, .string ⟨#[]⟩, .string ⟨#[]⟩, .slice none 0 0, .slice none 0 0, .int .i64 0, .slice none 0 0, .int .i64 0, .string ⟨#[]⟩], .slice none 0 0, .slice none 0 0], []⟩ 8 (by kernel_rfl) (by kernel_rfl) (by kernel_rfl) (by kernel_rfl)) ?_
  intro W base args ds gs before hval0 hW _ _
  have hval : ∀ (j : Nat) t v, Try.f13.params[j]? = some t → args[j]? = some v → Value.okWide Try.prog W .any base t v := hval0
  have hW' := hW
  obtain ⟨p, q, hA0, hV, rfl, _, _⟩ := hW
  have hA : DataW.TrodAll enc Try.prog W 0 (fun _ => true) true Try.f13.params.toList args.toList ds p := hA0
  have hlt : ∀ x ∈ p, x.block < W.heap.size := fun x hx => hW'.lt x (List.mem_append_left _ hx)
  rw [Try.params13] at hA hval
  have hAk := hA
  obtain ⟨v0, r0, d0, e0, p0, q0, hargs, rfl, rfl, h0, hA⟩ := trodAll_cons hA
  obtain ⟨v1, r1, d1, e1, p1, q1, rfl, rfl, rfl, h1, hA⟩ := trodAll_cons hA
  obtain ⟨v2, r2, d2, e2, p2, q2, rfl, rfl, rfl, h2, hA⟩ := trodAll_cons hA
  obtain ⟨v3, r3, d3, e3, p3, q3, rfl, rfl, rfl, h3, hA⟩ := trodAll_cons hA
  obtain ⟨rfl, rfl, rfl⟩ := trodAll_nil hA
  obtain ⟨rfl, rfl⟩ := trodVars_none hV
  have hargs' : args = #[v0, v1, v2, v3] := by cases args; simp_all
  subst hargs'
  obtain ⟨tsa, ta, rfl, hta⟩ := arg_thing (hval 0 45 v0 rfl rfl) h0
  obtain ⟨tsb, tb, rfl, htb⟩ := arg_thing (hval 1 45 v1 rfl rfl) h1
  obtain ⟨f2, t2⟩ := arg_slice Try.underlying60 (hval 2 60 v2 rfl rfl) h2
  obtain ⟨f3, t3⟩ := arg_slice Try.underlying24 (hval 3 24 v3 rfl rfl) h3
  obtain ⟨A, n, c, es, L, e4, hr, hL, hkL⟩ := cells_of_trod t2
  obtain ⟨Z, m, z, zes, M, e5, hz, hM, hkM⟩ := entks_of_trod t3
  simp only [List.cons.injEq, and_true] at e4 e5
  subst e4 e5
  have main := cellsSame_any tsa tsb ta tb A n c es L Z m z zes M W hta htb hr hL hz hM hkL hkM
  refine main.mono fun e W' ⟨he, hb⟩ => ?_
  subst he
  exact ⟨_, rfl, law_post (pv := []) hW' (fun _ _ _ => trodAll_mk1 (shut_bool Try.underlying4 _)) (fun sp hsp => args_stay hb (by decide) hAk hlt (fun x hx => hsp x (List.mem_append_left _ hx))) (fun _ _ => rfl) rfl hb⟩

theorem cellsSame_holds : Rows.CellsSameSaid :=
  OpenClaim.holds_of_wide 13 Try.f13 rfl rfl rfl rfl rfl rfl rfl ⟨rfl, rfl, rfl, rfl, rfl⟩ rfl rfl rfl rfl rfl (by kernel_rfl) Try.func13 (by kernel_rfl)
    (of_decide_eq_true (by kernel_rfl)) (by unfold Func.isWrapper; first | (rw [if_pos (by decide +kernel)]; kernel_rfl) | (rw [if_neg (by decide +kernel)]; exact ⟨rfl, rfl⟩))
    (fun os started H enc _ => cellsSame_lifted os started H enc)
#print axioms cellsSame_holds
end Go.Proofs.Ytochdmbjlemfoaa
