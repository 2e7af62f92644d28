/-
  A region that draws its order, in a round of a range over a function: what is shown of its operations outside a fence serves there, too (reads ahead of one writing call). No program in sight.
-/
import Derived.OrdersIn
import Derived.StillTailTactics
import Derived.RangeFuncNested
import Derived.RangeFuncCalls
namespace Go.Proofs.Ytochdmbjlemfoaa
open Go

theorem opIn_of_op {P : Program} {o : Oper} {a : Act} {w : World} {K : Act → World → Prop} {Q : Exit → Act → World → Prop} (l n : Nat) (hd : ∀ c, o.op ≠ .defer c) (h : o.wp P a w K Q) : o.wpIn (Fence.wide.inRound l) n P a w K Q := by
  unfold Oper.wp at h
  unfold Oper.wpIn
  refine ⟨fun _ _ => trivial, ?_⟩
  rw [Fence.inRound_round, Oper.semAt_eq _ _ _ hd]
  generalize (execOp a.eval o).run P w = r at *
  have hw : (Fence.wide.inRound l).depth.isSome = true → 1 ≤ n := fun h => by simp [Fence.wide] at h
  cases r with
  | ok x w' =>
    cases x <;> simp only [Oper.upon, Oper.uponIn] at h ⊢
    case value => exact h
    case skip => exact h
    case defer => exact h
    case enter => exact ⟨hw, CallsIn.inRound l (callsIn_wide.2 h)⟩
    case row => exact ⟨hw, fun c cs _ => let ⟨v, w', r, s⟩ := h c cs; ⟨v, w', r, stepsIn_wide.2 s⟩⟩
  | halt x w' => cases x <;> simp only [Oper.upon, Oper.uponIn] at h ⊢ <;> exact h

def noDefer (ops : Array Oper) : Bool := ops.all fun o => match o.op with | .defer _ => false | _ => true
theorem noDefer_spec {ops : Array Oper} (h : noDefer ops = true) {i : Nat} {o : Oper} (ho : ops[i]? = some o) : ∀ c, o.op ≠ .defer c := by
  intro c hc
  unfold noDefer at h
  rw [Array.all_eq_true] at h
  obtain ⟨hi, e⟩ := Array.getElem?_eq_some_iff.1 ho
  have := h i hi
  rw [e, hc] at this
  simp at this
theorem anyIn_of_any {P : Program} {md : Region.Mode} {ops : Array Oper} {Q : Exit → Act → World → Prop} (l n : Nat) (hd : noDefer ops = true) (hq : ¬ LetsOut Q) : ∀ (fuel : Nat) (listed : Array Bool) (a : Act) (w : World),
    wpAny P md ops Q fuel listed a w → wpAnyIn (Fence.wide.inRound l) n P md ops Q fuel listed a w
  | 0, _, _, _, h => h
  | fuel + 1, listed, a, w, h => ⟨h.1, fun i hi => by
      have h2 := h.2 i hi
      unfold wpOp at h2
      unfold wpOpIn
      cases ho : ops[i]? with
      | none =>
        rw [ho] at h2
        exact anyIn_of_any l n hd hq fuel _ _ _ h2
      | some o =>
        simp only [ho] at h2 ⊢
        by_cases hw : Region.wanted o (yielded ops a.tmps) = true
        · rw [if_pos hw] at h2
          rw [if_pos hw]
          exact opIn_of_op l n (noDefer_spec hd ho) (Oper.wp_mono (fun a' w' h' => anyIn_of_any l n hd hq fuel _ _ _ h') (h2.resolve_right (fun h => hq h.2)))
        · rw [if_neg hw] at h2
          rw [if_neg hw]
          exact ⟨fun _ _ => trivial, anyIn_of_any l n hd hq fuel _ _ _ h2⟩⟩

/-- Reads ahead of one chain of operations: every order in which they may come up, from what is shown of them in the order of the text. -/
theorem any_of_reads {P : Program} {Q : Exit → Act → World → Prop} {a : Act} {w : World} {ops : List Oper} (n : Nat) (hB : Region.lexTailB .any ops.toArray n = true) (h : wpStill P ops.toArray w (fun a' => wpList P ops.toArray Q (ops.drop n) a' w) (ops.take n) a) :
    wpAny P .any ops.toArray Q ops.toArray.size (Array.replicate ops.toArray.size false) a w := by
  unfold Region.lexTailB at hB
  rw [Bool.and_eq_true, Bool.and_eq_true, Bool.and_eq_true, Bool.and_eq_true, decide_eq_true_eq] at hB
  have hlex := hB.2
  have hchain := hB.1.2
  have hsink := hB.1.1.2
  have hlt := hB.1.1.1.2
  have hsel := hB.1.1.1.1
  obtain ⟨r, hr⟩ : ∃ r, r = ops.toArray.size - n := ⟨_, rfl⟩
  have hsum : ops.toArray.size = n + r := by omega
  have hhead : (ops.take n).length = n := by rw [List.length_take]; rw [List.size_toArray] at hlt; omega
  have hrest : (ops.drop n).length = r := by rw [List.length_drop, hr, List.size_toArray]
  have start : HeadInv .any ops.toArray n (Array.replicate ops.toArray.size false) := by
    constructor
    · exact Array.size_replicate
    · intro j oj _ hl
      rw [getD_replicate_false] at hl
      cases hl
    · intro t _ ht
      refine getD_in ?_ (getD_replicate_false _ _)
      rw [Array.size_replicate]
      exact ht
  have reads : wpAnyL P .any ops.toArray w n (fun listed' a' => Region.seqB .any ops.toArray r n listed' = true ∧ wpList P ops.toArray Q (ops.drop n) a' w) n (Array.replicate ops.toArray.size false) a := by
    have hq := wpAnyL_lex (P := P) (w := w) (Lq := fun a' => wpList P ops.toArray Q (ops.drop n) a' w) (md := .any) (g := r) hsel hsink hchain hlt (ops.take n) 0 (Array.replicate ops.toArray.size false) a
    rw [hhead] at hq
    refine hq ?_ (Nat.zero_add n) start ?_ h
    · intro j hj
      rw [List.getElem?_take_of_lt hj, Nat.zero_add, List.getElem?_toArray]
    · rw [hr]; exact hlex
  rw [hsum]
  refine wpAny_of_head (g := r) (fun listed' a' hl => ?_) n _ a (by rw [← hsum]; exact reads)
  have := wpAny_of_seq (P := P) (md := .any) (Q' := Q) (ops.drop n) n listed' a' w (fun j => by rw [List.getElem?_drop, List.getElem?_toArray])
  rw [hrest] at this
  exact this hl.1 hl.2
theorem inRound_still_tail {P : Program} {id : Nat} {Q : Exit → Act → World → Prop} {a : Act} {w : World} {ops : List Oper} (lp m n : Nat) (hm : P.follows .mixedOrders = true) (hB : Region.lexTailB .any ops.toArray n = true) (hd : noDefer ops.toArray = true) (hq : ¬ LetsOut Q)
    (h : wpStill P ops.toArray { w with drawn := w.drawn + 1 } (fun a' => wpList P ops.toArray Q (ops.drop n) a' { w with drawn := w.drawn + 1 }) (ops.take n) a) : (Code.region id ops.toArray true).wpIn (Fence.wide.inRound lp) m P Q a w :=
  wpIn_region_any hm (anyIn_of_any lp m hd hq _ _ _ _ (any_of_reads n hB h))
end Go.Proofs.Ytochdmbjlemfoaa
