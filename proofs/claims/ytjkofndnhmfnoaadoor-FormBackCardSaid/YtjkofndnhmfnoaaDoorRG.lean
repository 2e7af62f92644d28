/-
  A law for a region whatever order it draws: each operation keeps all older blocks and leaves a value of which a fact holds that no later operation spoils (F); it may lean on the facts of the operations for which it waits. Behind the region all facts hold. One proof an operation, however many orders there are.
-/
import Derived.Orders
import Derived.RegionTactic
import Derived.Test.YtjkofndnhmfnoaaDoorW
namespace Go.Proofs.YtjkofndnhmfnoaaDoor
open Go Go.RowKit

/-- A value put into a slot, if there is one. -/
def putAt (d : Option Tmp) (v : Value) (t : Array Value) : Array Value := match d with | some d => t.setIfInBounds d v | none => t
/-- The slots, with the values of a region's operations. -/
def fillO (X : Nat → Value) : Nat → List Oper → Array Value → Array Value
  | _, [], t => t
  | i, o :: l, t => fillO X (i + 1) l (match o.dst with | some d => t.setIfInBounds d (X i) | none => t)
def updO (X : Nat → Value) (k : Nat) (v : Value) : Nat → Value := fun i => if i = k then v else X i
def dstsO (l : List Oper) : List Tmp := l.filterMap (·.dst)
/-- Each operation waits for earlier ones; no two write one slot. -/
def regionOk (ops : Array Oper) : Bool := (dstsO ops.toList).Nodup && (List.range ops.size).all fun i => match ops[i]? with | some o => o.after.all fun e => decide (e.on < i) && Region.binds .any e | none => true

theorem fillO_cons (X : Nat → Value) (i : Nat) (o : Oper) (l : List Oper) (t : Array Value) : fillO X i (o :: l) t = fillO X (i + 1) l (putAt o.dst (X i) t) := rfl
theorem fillO_upd (X : Nat → Value) (k : Nat) (v : Value) : ∀ (l : List Oper) (j : Nat) (t : Array Value), k < j → fillO (updO X k v) j l t = fillO X j l t
  | [], _, _, _ => rfl
  | o :: l, j, t, h => by
    rw [fillO_cons, fillO_cons, fillO_upd X k v l (j + 1) _ (by omega)]
    have : updO X k v j = X j := by unfold updO; rw [if_neg (by omega)]
    rw [this]
theorem putAt_comm {d e : Option Tmp} (h : ∀ x, d = some x → e ≠ some x) (u v : Value) (t : Array Value) : putAt d u (putAt e v t) = putAt e v (putAt d u t) := by
  cases d with
  | none => rfl
  | some d =>
    cases e with
    | none => rfl
    | some e => exact Array.setIfInBounds_comm _ _ (fun hh => h d rfl (by rw [hh]))
theorem putAt_put (d : Option Tmp) (u v : Value) (t : Array Value) : putAt d u (putAt d v t) = putAt d u t := by
  cases d with
  | none => rfl
  | some d => simp [putAt]
theorem fillO_put (X : Nat → Value) (d : Option Tmp) (v : Value) : ∀ (l : List Oper) (j : Nat) (t : Array Value), (∀ x, d = some x → x ∉ dstsO l) → putAt d v (fillO X j l t) = fillO X j l (putAt d v t)
  | [], _, _, _ => rfl
  | o :: l, j, t, h => by
    rw [fillO_cons, fillO_cons, fillO_put X d v l (j + 1) _ (fun x hx hm => h x hx (by
      unfold dstsO at hm ⊢
      rw [List.filterMap_cons]
      split
      · exact hm
      · exact List.mem_cons_of_mem _ hm)), putAt_comm (fun x hx he => h x hx (by
      unfold dstsO
      rw [List.filterMap_cons, he]
      exact List.mem_cons_self))]
theorem fillO_at (X : Nat → Value) (v : Value) : ∀ (l : List Oper) (j k : Nat) (o : Oper) (t : Array Value), (dstsO l).Nodup → l[k]? = some o → putAt o.dst v (fillO X j l t) = fillO (updO X (j + k) v) j l t
  | [], _, _, _, _, _, h => by cases h
  | p :: l, j, k, o, t, hn, h => by
    have hn' : (dstsO l).Nodup ∧ ∀ x, p.dst = some x → x ∉ dstsO l := by
      unfold dstsO at hn ⊢
      rw [List.filterMap_cons] at hn
      split at hn
      · rename_i hp; exact ⟨hn, fun x hx => by rw [hp] at hx; cases hx⟩
      · rename_i y hp
        refine ⟨(List.nodup_cons.1 hn).2, fun x hx => ?_⟩
        rw [hp] at hx
        injection hx with hx
        subst hx
        exact (List.nodup_cons.1 hn).1
    rw [fillO_cons, fillO_cons]
    cases k with
    | zero =>
      simp only [List.getElem?_cons_zero, Option.some.injEq] at h
      subst h
      show _ = fillO (updO X j v) (j + 1) l (putAt p.dst (updO X j v j) t)
      rw [fillO_put _ _ _ _ _ _ hn'.2, putAt_put, fillO_upd _ _ _ _ _ _ (Nat.lt_succ_self j)]
      have : updO X j v j = v := by unfold updO; rw [if_pos rfl]
      rw [this]
    | succ k =>
      rw [List.getElem?_cons_succ] at h
      rw [fillO_at X v l (j + 1) k o _ hn'.1 h, show j + 1 + k = j + (k + 1) by omega]
      have : updO X (j + (k + 1)) v j = X j := by unfold updO; rw [if_neg (by omega)]
      rw [this]
theorem fillO_self (t : Array Value) (X : Nat → Value) : ∀ (l : List Oper) (j : Nat), (∀ k o d, l[k]? = some o → o.dst = some d → X (j + k) = t.getD d undef) → fillO X j l t = t
  | [], _, _ => rfl
  | o :: l, j, h => by
    rw [fillO_cons]
    have e : putAt o.dst (X j) t = t := by
      cases hd : o.dst with
      | none => rfl
      | some d =>
        have := h 0 o d rfl hd
        rw [Nat.add_zero] at this
        rw [this]
        unfold putAt
        rw [← Array.toList_inj]
        refine List.ext_getElem? fun i => ?_
        simp only [Array.toList_setIfInBounds, List.getElem?_set]
        split
        · rename_i hi
          subst hi
          split
          · rename_i hl; simp at hl; simp [hl]
          · rename_i hl; simp at hl; simp [hl]
        · rfl
    rw [e]
    exact fillO_self t X l (j + 1) fun k o' d hk hd => by
      have := h (k + 1) o' d (by simpa using hk) hd
      rw [show j + 1 + k = j + (k + 1) by omega]
      exact this

section
variable {P : Program} {ops : Array Oper} {Q : Exit → Act → World → Prop} {F : Nat → Value → World → Prop}
/-- The state with a region's values. -/
def fillA (ops : Array Oper) (a : Act) (X : Nat → Value) : Act := { a with tmps := fillO X 0 ops.toList a.tmps }
theorem fillA_put (a : Act) (X : Nat → Value) (k : Nat) (o : Oper) (v : Value) (hn : (dstsO ops.toList).Nodup) (ho : ops[k]? = some o) : (fillA ops a X).put o.dst v = fillA ops a (updO X k v) := by
  have h := fillO_at X v ops.toList 0 k o a.tmps hn (by simpa using ho)
  rw [Nat.zero_add] at h
  unfold fillA
  rw [← h]
  cases o.dst <;> rfl
theorem fillA_self (a : Act) : fillA ops a (fun k => (((ops[k]?).bind (·.dst)).map fun d => a.tmps.getD d undef).getD undef) = a := by
  unfold fillA
  rw [fillO_self a.tmps _ ops.toList 0 fun k o d hk hd => ?_]
  have : ops[k]? = some o := by simpa using hk
  simp [this, hd]
theorem filter_drop {p q : Nat → Bool} {j : Nat} : ∀ l : List Nat, (∀ i, q i = true → p i = true) → j ∈ l → p j = true → q j = false → (l.filter q).length < (l.filter p).length
  | [], _, h, _, _ => by cases h
  | x :: l, hpq, h, hp, hq => by
    have hle : (l.filter q).length ≤ (l.filter p).length := by
      clear h
      induction l with
      | nil => exact Nat.le_refl _
      | cons y l ih =>
        rw [List.filter_cons, List.filter_cons]
        by_cases h1 : q y = true
        · rw [if_pos h1, if_pos (hpq y h1)]; simpa using ih
        · rw [if_neg h1]
          split
          · simp only [List.length_cons]; omega
          · exact ih
    rw [List.filter_cons, List.filter_cons]
    rcases List.mem_cons.1 h with h | h
    · subst h
      rw [if_pos hp, hq]
      simp only [Bool.false_eq_true, if_false, List.length_cons]
      omega
    · have := filter_drop l hpq h hp hq
      by_cases h1 : q x = true
      · rw [if_pos h1, if_pos (hpq x h1)]; simp only [List.length_cons]; omega
      · rw [if_neg h1]
        split
        · simp only [List.length_cons]; omega
        · exact this
/-- One step, for whatever goes before it. -/
def StepO (P : Program) (ops : Array Oper) (Q : Exit → Act → World → Prop) (F : Nat → Value → World → Prop) (a : Act) (w : World) (k : Nat) (o : Oper) : Prop :=
  ∀ (X : Nat → Value) (w1 : World), Below w.heap.size w w1 → (∀ e ∈ o.after, F e.on (X e.on) w1) → wpOp P ops Q k (fun a' w' => ∃ v, a' = (fillA ops a X).put o.dst v ∧ F k v w' ∧ Below w1.heap.size w1 w') (fillA ops a X) w1
theorem region_any (hok : regionOk ops = true) (hF : ∀ i v w1 w2, F i v w1 → Below w1.heap.size w1 w2 → F i v w2) {a : Act} {w : World}
    (hs : ∀ k o, ops[k]? = some o → StepO P ops Q F a w k o) (hend : ∀ X w1, Below w.heap.size w w1 → (∀ i, i < ops.size → F i (X i) w1) → Q .normal (fillA ops a X) w1) :
    ∀ (fuel : Nat) (listed : Array Bool) (X : Nat → Value) (w1 : World), listed.size = ops.size → Below w.heap.size w w1 → (∀ i, listed.getD i false = true → F i (X i) w1) → ((List.range ops.size).filter fun i => !listed.getD i true).length ≤ fuel →
      wpAny P .any ops Q fuel listed (fillA ops a X) w1 := by
  have hok' := hok
  unfold regionOk at hok'
  rw [Bool.and_eq_true, decide_eq_true_eq, List.all_eq_true] at hok'
  obtain ⟨hn, hback⟩ := hok'
  have hall : ∀ (listed : Array Bool), listed.size = ops.size → Region.ready .any ops listed = [] → ∀ i, i < ops.size → listed.getD i false = true := by
    intro listed hz hr i
    induction i using Nat.strongRecOn with
    | _ i ih =>
      intro hi
      by_cases h : listed.getD i false = true
      · exact h
      · exfalso
        have hlt : i < listed.size := by omega
        have hmem : i ∈ Region.ready .any ops listed := by
          refine mem_ready.2 ⟨?_, ops[i], by simp [hi], fun e he _ => ?_⟩
          · simp [hlt] at h ⊢; exact h
          · have := hback i (List.mem_range.2 hi)
            simp only [hi, Array.getElem?_eq_getElem, Array.all_eq_true, Bool.and_eq_true, decide_eq_true_eq] at this
            obtain ⟨x, hx, rfl⟩ := Array.mem_iff_getElem.1 he
            have hlt2 := (this x hx).1
            exact ih _ hlt2 (by omega)
        rw [hr] at hmem
        cases hmem
  intro fuel
  induction fuel with
  | zero =>
    intro listed X w1 hz hbw hf hfu
    have hready : Region.ready .any ops listed = [] := by
      cases hr : Region.ready .any ops listed with
      | nil => rfl
      | cons x xs =>
        exfalso
        have hx : x ∈ Region.ready .any ops listed := by rw [hr]; exact List.mem_cons_self
        obtain ⟨h0, o, ho, _⟩ := mem_ready.1 hx
        have hlt := (Array.getElem?_eq_some_iff.1 ho).1
        have : x ∈ (List.range ops.size).filter fun i => !listed.getD i true := List.mem_filter.2 ⟨List.mem_range.2 hlt, by rw [h0]; rfl⟩
        have := List.length_pos_of_mem this
        omega
    exact ⟨hready, hend X w1 hbw fun i hi => hf i (hall listed hz hready i hi)⟩
  | succ fuel ih =>
    intro listed X w1 hz hbw hf hfu
    refine ⟨fun hready => hend X w1 hbw fun i hi => hf i (hall listed hz hready i hi), fun j hj => ?_⟩
    obtain ⟨h0, o, ho, hdeps⟩ := mem_ready.1 hj
    have hlt := (Array.getElem?_eq_some_iff.1 ho).1
    refine wpOp_mono (fun a' w' h => ?_) (hs j o ho X w1 hbw fun e he => hf _ (hdeps e he ?_))
    rotate_left
    · have := hback j (List.mem_range.2 hlt)
      simp only [ho, Array.all_eq_true, Bool.and_eq_true, decide_eq_true_eq] at this
      obtain ⟨x, hx, rfl⟩ := Array.mem_iff_getElem.1 he
      exact (this x hx).2
    obtain ⟨v, rfl, hv, hb'⟩ := h
    rw [fillA_put a X j o v hn ho]
    refine ih _ _ _ (by simpa using hz) (hbw.trans (hb'.mono hbw.size)) (fun i hi => ?_) ?_
    · by_cases hij : i = j
      · subst hij; unfold updO; rw [if_pos rfl]; exact hv
      · unfold updO; rw [if_neg hij]
        rw [getD_set_ne false (Ne.symm hij)] at hi
        exact hF _ _ _ _ (hf i hi) hb'
    · have := filter_drop (p := fun i => !listed.getD i true) (q := fun i => !(listed.setIfInBounds j true).getD i true) (j := j) (List.range ops.size) (fun i hi => by
        by_cases hij : i = j
        · subst hij; rw [h0]; rfl
        · rw [getD_set_ne true (Ne.symm hij)] at hi; exact hi) (List.mem_range.2 hlt) (by rw [h0]; rfl) (by
        have hl : j < listed.size := by omega
        simp [hl])
      omega
theorem region_seq (hok : regionOk ops = true) (hF : ∀ i v w1 w2, F i v w1 → Below w1.heap.size w1 w2 → F i v w2) {a : Act} {w : World}
    (hs : ∀ k o, ops[k]? = some o → StepO P ops Q F a w k o) (hend : ∀ X w1, Below w.heap.size w w1 → (∀ i, i < ops.size → F i (X i) w1) → Q .normal (fillA ops a X) w1) :
    ∀ (m k : Nat) (X : Nat → Value) (w1 : World), k + m = ops.size → Below w.heap.size w w1 → (∀ i, i < k → F i (X i) w1) → wpOps P ops Q (List.range' k m) (fillA ops a X) w1 := by
  have hok' := hok
  unfold regionOk at hok'
  rw [Bool.and_eq_true, decide_eq_true_eq, List.all_eq_true] at hok'
  obtain ⟨hn, hback⟩ := hok'
  intro m
  induction m with
  | zero => intro k X w1 hk hbw hf; exact hend X w1 hbw fun i hi => hf i (by omega)
  | succ m ih =>
    intro k X w1 hk hbw hf
    have hlt : k < ops.size := by omega
    have ho : ops[k]? = some ops[k] := Array.getElem?_eq_getElem hlt
    rw [List.range'_succ, wpOps_cons]
    refine wpOp_mono (fun a' w' h => ?_) (hs k ops[k] ho X w1 hbw fun e he => hf _ ?_)
    · obtain ⟨v, rfl, hv, hb'⟩ := h
      rw [fillA_put a X k _ v hn ho]
      refine ih (k + 1) _ _ (by omega) (hbw.trans (hb'.mono hbw.size)) (fun i hi => ?_)
      by_cases hij : i = k
      · subst hij; unfold updO; rw [if_pos rfl]; exact hv
      · unfold updO; rw [if_neg hij]
        exact hF _ _ _ _ (hf i (by omega)) hb'
    · have := hback k (List.mem_range.2 hlt)
      simp only [ho, Array.all_eq_true, Bool.and_eq_true, decide_eq_true_eq] at this
      obtain ⟨x, hx, rfl⟩ := Array.mem_iff_getElem.1 he
      exact (this x hx).1

/-- The steps of a region, one by one. -/
def StepsO (P : Program) (ops : Array Oper) (Q : Exit → Act → World → Prop) (F : Nat → Value → World → Prop) (mk : (Nat → Value) → Act) (w : World) : Nat → List Oper → Prop
  | _, [] => True
  | k, o :: l => (∀ (X : Nat → Value) (w1 : World), Below w.heap.size w w1 → (o.after.toList.foldr (fun e p => F e.on (X e.on) w1 ∧ p) True) →
      ∀ K' : Act → World → Prop, (∀ v w', F k v w' → Below w1.heap.size w1 w' → K' ((mk X).put o.dst v) w') → if Region.wanted o (yielded ops (mk X).tmps) = true then Oper.wp P o (mk X) w1 K' Q else K' ((mk X).put o.dst undef) w1) ∧ StepsO P ops Q F mk w (k + 1) l
theorem foldr_facts {p : Edge → Prop} : ∀ {m : List Edge}, (∀ e ∈ m, p e) → m.foldr (fun e q => p e ∧ q) True
  | [], _ => trivial
  | e :: _, h => ⟨h e List.mem_cons_self, foldr_facts fun x hx => h x (List.mem_cons_of_mem _ hx)⟩
theorem stepsO_at {mk : (Nat → Value) → Act} {a : Act} {w : World} (hmk : ∀ X, fillA ops a X = mk X) : ∀ (l : List Oper) (k : Nat), StepsO P ops Q F mk w k l → ∀ (i : Nat) (o : Oper), l[i]? = some o → ops[k + i]? = some o → StepO P ops Q F a w (k + i) o
  | [], _, _, _, _, h, _ => by cases h
  | _ :: l, k, hs, i, o, h, ho => by
    cases i with
    | zero =>
      simp only [List.getElem?_cons_zero, Option.some.injEq] at h
      subst h
      intro X w1 hb hf
      rw [hmk X]
      refine wpOp_step ho fun K' hK => hs.1 X w1 hb (foldr_facts fun e he => hf e (by simpa using he)) K' fun v w' hv hb' => hK _ _ ⟨v, rfl, hv, hb'⟩
    | succ i =>
      rw [List.getElem?_cons_succ] at h
      have := stepsO_at hmk l (k + 1) hs.2 i o h (by rw [show k + 1 + i = k + (i + 1) by omega]; exact ho)
      rw [show k + 1 + i = k + (i + 1) by omega] at this
      exact this
theorem wp_region_facts {id : Nat} {b : Bool} {a : Act} {w : World} (hm : P.follows .mixedOrders = true) (hok : regionOk ops = true)
    (F : Nat → Value → World → Prop) (mk : (Nat → Value) → Act) (hmk : ∀ X, fillA ops a X = mk X)
    (hF : ∀ i v w1 w2, F i v w1 → Below w1.heap.size w1 w2 → F i v w2)
    (hs : StepsO P ops Q F mk w 0 ops.toList)
    (hend : ∀ X w1, Below w.heap.size w w1 → (∀ i, i < ops.size → F i (X i) w1) → Q .normal (mk X) w1) : (Code.region id ops b).wp P Q a w := by
  have hs' : ∀ (w0 : World), Below w.heap.size w w0 → w0.heap.size = w.heap.size → ∀ k o, ops[k]? = some o → StepO P ops Q F a w0 k o := by
    intro w0 hw0 hsz k o ho X w1 hb1 hf
    have := stepsO_at hmk ops.toList 0 hs k o (by simpa using ho) (by simpa using ho)
    rw [Nat.zero_add] at this
    exact this X w1 (hw0.trans (hb1.mono (by omega))) hf
  have hend' : ∀ (w0 : World), Below w.heap.size w w0 → w0.heap.size = w.heap.size → ∀ X w1, Below w0.heap.size w0 w1 → (∀ i, i < ops.size → F i (X i) w1) → Q .normal (fillA ops a X) w1 := by
    intro w0 hw0 hsz X w1 hb1 hf
    rw [hmk X]
    exact hend X w1 (hw0.trans (hb1.mono (by omega))) hf
  have h0 := fillA_self (ops := ops) a
  rw [← h0]
  cases b with
  | false =>
    refine wp_region ?_
    rw [List.range_eq_range']
    exact region_seq hok hF (hs' w (Below.refl _ _) rfl) (hend' w (Below.refl _ _) rfl) ops.size 0 _ w (by omega) (Below.refl _ _) (fun i hi => by omega)
  | true =>
    have hd : Below w.heap.size w { w with drawn := w.drawn + 1 } := ⟨rfl, rfl, rfl, Nat.le_refl _, fun _ _ => rfl⟩
    refine wp_region_any hm ?_
    refine region_any hok hF (hs' _ hd rfl) (hend' _ hd rfl) ops.size _ _ _ (by simp) (Below.refl _ _) (fun i hi => ?_) ?_
    · exfalso
      rw [Array.getD_eq_getD_getElem?, Array.getElem?_replicate] at hi
      split at hi <;> simp at hi
    · refine Nat.le_trans (List.length_filter_le _ _) ?_
      simp
end
end Go.Proofs.YtjkofndnhmfnoaaDoor
