/-
  Layer 05 (layout): texts behind texts (append), strings.Join of texts, layout.gaps: contracts. Of any texts that the call has made.
-/
import Derived.Test.YtjkofndnhmfnoaaDoorL6
import Derived.Laws.AppendOwnNone
namespace Go.Proofs.YtjkofndnhmfnoaaDoor
open Go Go.RowKit

theorem Txs.vals_len (l : List (List UInt8)) : (txVals l).length = l.length := by simp [txVals]
theorem Txs.cells {w : World} {base g : Nat} {l : List (List UInt8)} {n cap : Nat} (h : Txs w base (.slice (some ⟨g, 0, none⟩) n cap) l) : n = l.length ∧ n ≤ cap ∧ cap ≤ maxLen ∧ ∀ j t, l[j]? = some t → w.cell? ⟨g, j, none⟩ = some (.string (bs t)) := by
  have hn : n = l.length := by
    rcases h.2 with ⟨h1, _⟩ | ⟨_, _, _, h1, _⟩
    · injection h1 with h1; cases h1
    · injection h1 with _ h2 _
  subst hn
  have hc : l.length ≤ cap ∧ cap ≤ maxLen := by
    rcases h.2 with ⟨h1, _⟩ | ⟨_, _, _, h1, _, _, h2, h3, _⟩
    · injection h1 with h1; cases h1
    · injection h1 with _ _ h4; subst h4; exact ⟨h2, h3⟩
  refine ⟨rfl, hc.1, hc.2, fun j t hj => ?_⟩
  have hlt := (List.getElem?_eq_some_iff.1 hj).1
  have := World.ownsRow.cellAt h j (by omega)
  rw [this]
  unfold txVals
  rw [List.getElem?_map, hj]
  rfl
/-- append(x, y...) of texts. -/
theorem wpList_append_txs (w : World) {ops : Array Oper} {rest : List Oper} {o : Oper} {a : Act} {Q : Exit → Act → World → Prop} (hgd : o.guard = none) (s x : Operand)
    (ho : o.op = .call { callee := .builtin .append, args := #[s, x], argTypes := #[28, 28] }) (base base2 : Nat) (v v2 : Value) (l1 l2 : List (List UInt8)) (hs : a.eval s = v) (hx : a.eval x = v2)
    (h1 : Txs w base v l1) (h2 : Txs w base2 v2 l2) (hlen : l1.length + l2.length ≤ 1000000) (hbase : base ≤ w.heap.size)
    (h : ∀ v' w', Txs w' base v' (l1 ++ l2) → w.grownBy w' v.ownBlock → wpList Tryd.prog ops Q rest (a.put o.dst v') w') : wpList Tryd.prog ops Q (o :: rest) a w := by
  obtain ⟨i0, hi, hz0, hz1, hz2⟩ := strParts
  rcases h2.2 with ⟨e, h0⟩ | ⟨g, cap, cur, e, _, hg, hnc, hcm, hcs, htk⟩
  · have hl2 : l2 = [] := List.eq_nil_of_length_eq_zero h0
    subst hl2 e
    refine wpList_append_own_none hgd s x 28 ho base 9 i0 1 Tryd.underlying28 hi v l1.length (txVals l1) hs h1 hx ?_
    have := h v w (by rw [List.append_nil]; exact h1) ⟨rfl, rfl, rfl, Nat.le_refl _, fun _ _ _ => rfl⟩
    exact this
  · subst e
    obtain ⟨_, _, _, hc⟩ := h2.cells
    refine wpList_append_own w hgd s x 28 ho base 9 i0 (.string ⟨#[]⟩) 1 16 Tryd.underlying28 hi hz0 hz1 hz2 rfl (by decide) v l1.length (txVals l1) hs h1 ⟨g, 0, none⟩ l2.length cap (txVals l2) hx (by simp [txVals]) (fun j u hu => ?_) (fun u hu => ?_) (by unfold maxLen; omega) (by omega) hbase ?_
    · unfold txVals at hu
      rw [List.getElem?_map] at hu
      obtain ⟨t, ht, rfl⟩ := Option.map_eq_some_iff.1 hu
      have hadd : (⟨g, 0, none⟩ : Addr).add j = ⟨g, j, none⟩ := by unfold Addr.add; split <;> simp_all
      rw [hadd]
      exact hc j t ht
    · obtain ⟨t, _, rfl⟩ := List.mem_map.1 hu
      simp [Value.oneCell']
    · intro v' w' hown hgrow _
      refine h v' w' ?_ hgrow
      unfold Txs
      rw [List.length_append]
      have e : txVals (l1 ++ l2) = txVals l1 ++ txVals l2 := by simp [txVals]
      rw [e]
      exact hown
/-- A literal of texts. -/
theorem txs_lit (w : World) (base : Nat) (l : List (List UInt8)) (cs : Array Value) (hcs : cs = (txVals l).toArray) (hb : base ≤ w.heap.size) (hl : l.length ≤ 1000000) : Txs (w.alloc (.cells cs 9)) base (.slice (some ⟨w.heap.size, 0, none⟩) l.length l.length) l := by
  have := World.ownsRow_lit (e := 9) (size := 1) w cs l.length hb (by unfold maxLen; omega) (by rw [hcs]; simp [txVals])
  rw [hcs] at this ⊢
  exact this
theorem map_bs (l : List (List UInt8)) : (l.map bs).map (·.data.toList) = l := by
  induction l with
  | nil => rfl
  | cons x l ih => rw [List.map_cons, List.map_cons, ih]; simp [bs]
theorem join_txs (w : World) (base : Nat) (v : Value) (l : List (List UInt8)) (sep : List UInt8) (h : Txs w base v l) (hl : l.length ≤ 1000000) (hb : ∀ x ∈ l, x.length ≤ 1000) (hs : sep.length ≤ 1) :
    Calls Tryd.prog 35 #[v, .string (bs sep)] w fun e w' => e = .returned (.string (bs (Lib.join l sep))) ∧ Below w.heap.size w w' := by
  rcases h.2 with ⟨e, h0⟩ | ⟨g, cap, cur, e, _, hg, hnc, hcm, hcs, htk⟩
  · have hl2 : l = [] := List.eq_nil_of_length_eq_zero h0
    subst hl2 e
    refine (Tryd.strings_Join_none none 0 (bs sep) w).mono ?_
    rintro e w' ⟨rfl, rfl⟩
    exact ⟨rfl, Below.refl _ _⟩
  · subst e
    obtain ⟨_, _, _, hc⟩ := h.cells
    have hlen : (l.map bs).length = l.length := by simp
    have hmap : (l.map bs).map (·.data.toList) = l := map_bs l
    have hse : (bs sep).data.toList = sep := by simp [bs]
    have hj := join_le l sep 1000 hb hs
    have := Tryd.strings_Join g 0 cap (l.map bs) (bs sep) w (fun j y hy => by
      rw [List.getElem?_map] at hy
      obtain ⟨t, ht, rfl⟩ := Option.map_eq_some_iff.1 hy
      rw [Nat.zero_add]
      exact hc j t ht) (lt_of_block hg) (by rw [hlen]; omega) (by rw [hlen]; omega) (by rw [hmap, hse]; omega)
    rw [hmap, hse, hlen] at this
    exact this
theorem gaps05_any (A : Option Addr) (n c : Nat) (s : List Int) (k : Nat) (D : Nat → Prop) (w : World) (hs : Rd w D 1 A n c (intRows .i64 s)) (hk : k ≤ 1000000) (h1 : s.length = 4 → 1 ≤ s.getD 1 0 ∧ s.getD 1 0 ≤ 10000) :
    Calls Tryd.prog 39 #[.slice A n c, .int .i64 (k : Int)] w fun e w' => ∃ v, e = .returned v ∧ Txs w' w.heap.size v (gapL s k) ∧ Below w.heap.size w w' := by
  have hlen : s.length = n := by have := hs.len; simpa [intRows] using this
  have hn : n ≤ 9223372036854775807 := by have h1 := hs.le; have h2 := hs.max; unfold maxLen at h2; omega
  have HT1 := Lib.hid (txs_lit w w.heap.size [[]] #[.string ⟨#[]⟩] rfl (Nat.le_refl _) (by decide))
  have HT2 := Lib.hid (txs_lit w w.heap.size [[], []] #[.string ⟨#[]⟩, .string ⟨#[]⟩] rfl (Nat.le_refl _) (by decide))
  have HB := Lib.hid (fun o => (Below.refl w.heap.size w).alloc (Nat.le_refl _) o)
  by_cases hk0 : k = 0
  · have HE : RowKit.Hid (gapL s k = []) := by show _ = _; unfold gapL; rw [if_pos hk0]
    rw [HE.out]
    have e0 : ((k : Int) == 0) = true := by simp; omega
    clear hs h1 hlen hk0
    go_enter Tryd.func39, Tryd.ntmps39
    go_wp2
    go_ret
    exact ⟨_, rfl, Txs.nil _ _, Below.refl _ _⟩
  have e0 : ((k : Int) == 0) = false := by simp; omega
  by_cases h4 : n = 4
  · obtain ⟨_, hx⟩ := hs.one
    obtain ⟨b, off, rfl, -, -, hc⟩ := hx (by omega)
    obtain ⟨y, hy⟩ : ∃ y, s[1]? = some y := ⟨_, List.getElem?_eq_getElem (by omega)⟩
    have hy1 : s.getD 1 0 = y := by rw [List.getD_eq_getElem?_getD, hy]; rfl
    have hyb := h1 (by omega)
    rw [hy1] at hyb
    obtain ⟨hyb0, hyb1⟩ := hyb
    have cy := hc 1 y hy
    have hy0 : ¬ y = 0 := by omega
    have e4 : ((n : Int) == 4) = true := by simp; omega
    have q1 : (1 : Int) < (n : Int) := by omega
    have hyc : (0 : Int) ≤ y := by omega
    have hkc : (0 : Int) ≤ (k : Int) := by omega
    by_cases hm : (k : Int) % y = 0
    · have HE : RowKit.Hid (gapL s k = [[], []]) := by show _ = _; unfold gapL; rw [if_neg hk0, if_pos ⟨by omega, by rw [hy1]; exact hm⟩]
      rw [HE.out]
      have em : ((k : Int) % y == 0) = true := by simp [hm]
      clear hs h1 hlen hk0 hx hc hm hy hy1 h4
      go_enter Tryd.func39, Tryd.ntmps39
      go_wp2
      go_ret
      exact ⟨_, rfl, HT2.out, HB.out _⟩
    · have HE : RowKit.Hid (gapL s k = [[]]) := by show _ = _; unfold gapL; rw [if_neg hk0, if_neg (fun h => hm (by rw [← hy1]; exact h.2))]
      rw [HE.out]
      have em : ((k : Int) % y == 0) = false := by simp [hm]
      clear hs h1 hlen hk0 hx hc hm hy hy1 h4
      go_enter Tryd.func39, Tryd.ntmps39
      go_wp2
      go_ret
      exact ⟨_, rfl, HT1.out, HB.out _⟩
  · have HE : RowKit.Hid (gapL s k = [[]]) := by show _ = _; unfold gapL; rw [if_neg hk0, if_neg (fun h => h4 (by omega))]
    rw [HE.out]
    have e4 : ((n : Int) == 4) = false := by simp; omega
    clear hs h1 hlen hk0 h4
    go_enter Tryd.func39, Tryd.ntmps39
    go_wp2
    go_ret
    exact ⟨_, rfl, HT1.out, HB.out _⟩
end Go.Proofs.YtjkofndnhmfnoaaDoor
