/-
  layout.First (layer 05): contract: the shape, and some of the lines; nothing of an array that is not right. Of any array that can be read.
-/
import Derived.Test.YtjkofndnhmfnoaaDoorL8
namespace Go.Proofs.YtjkofndnhmfnoaaDoor
open Go Go.RowKit

theorem Txs.take {w : World} {base : Nat} {A : Option Addr} {n c k : Nat} {l : List (List UInt8)} (h : Txs w base (.slice A n c) l) (hk : k ≤ l.length) : Txs w base (.slice A k c) (l.take k) := by
  unfold Txs
  have hl : (l.take k).length = k := by rw [List.length_take]; omega
  rw [hl]
  refine ⟨by unfold txVals; simp; omega, ?_⟩
  rcases h.2 with ⟨e, h0⟩ | ⟨g, cap, cur, e, h1, h2, h3, h4, h5, h6⟩
  · injection e with e1 e2 e3
    subst e1 e3
    have : k = 0 := by omega
    subst this
    exact .inl ⟨rfl, rfl⟩
  · injection e with e1 e2 e3
    subst e1 e3
    refine .inr ⟨g, c, cur, rfl, h1, h2, by omega, h4, h5, ?_⟩
    have : txVals (l.take k) = (txVals l).take k := by unfold txVals; rw [List.map_take]
    rw [this, ← h6, List.take_take]
    congr 1; omega
theorem Txs.form {w : World} {base : Nat} {v : Value} {l : List (List UInt8)} (h : Txs w base v l) : ∃ A c, v = .slice A l.length c ∧ l.length ≤ c ∧ c ≤ maxLen := by
  rcases h.2 with ⟨e, h0⟩ | ⟨g, cap, cur, e, h1, h2, h3, h4, h5, h6⟩
  · exact ⟨none, 0, by rw [e, h0], by omega, by unfold maxLen; omega⟩
  · exact ⟨_, _, e, h3, h4⟩
/-- append(x, y...) of texts, at a step of a region that draws its order. -/
theorem step_append_txs (w : World) {ops : Array Oper} {o : Oper} {a : Act} {K : Act → World → Prop} {Q : Exit → Act → World → Prop} {E : Prop} (hgd : o.guard = none) (s x : Operand)
    (ho : o.op = .call { callee := .builtin .append, args := #[s, x], argTypes := #[28, 28] }) (base base2 : Nat) (v v2 : Value) (l1 l2 : List (List UInt8)) (hs : a.eval s = v) (hx : a.eval x = v2)
    (h1 : Txs w base v l1) (h2 : Txs w base2 v2 l2) (hlen : l1.length + l2.length ≤ 1000000) (hbase : base ≤ w.heap.size)
    (h : ∀ v' w', Txs w' base v' (l1 ++ l2) → w.grownBy w' v.ownBlock → K (a.put o.dst v') w') :
    if Region.wanted o (yielded ops a.tmps) = true then Oper.wp Tryd.prog o a w K Q else E := by
  have hw : Region.wanted o (yielded ops a.tmps) = true := by simp [Region.wanted, hgd]
  rw [if_pos hw]
  have hl : ∀ (g : Act → World → Prop), (∀ v' w', Txs w' base v' (l1 ++ l2) → w.grownBy w' v.ownBlock → g (a.put o.dst v') w') → Oper.wp Tryd.prog o a w g Q := by
    intro g hg
    obtain ⟨i0, hi, hz0, hz1, hz2⟩ := strParts
    rcases h2.2 with ⟨e, h0⟩ | ⟨gb, cap, cur, e, _, hgg, hnc, hcm, hcs, htk⟩
    · have hl2 : l2 = [] := List.eq_nil_of_length_eq_zero h0
      subst hl2 e
      have hrun := run_append_owned_none (P := Tryd.prog) (w := w) base 28 o.type 9 i0 1 Tryd.underlying28 hi v l1.length (txVals l1) h1
      have hg2 := hg v w (by rw [List.append_nil]; exact h1) ⟨rfl, rfl, rfl, Nat.le_refl _, fun _ _ _ => rfl⟩
      unfold Oper.wp
      simp [execOp, ho, resolve, invoke, builtin, hs, hx, hrun, Result.andThen]
      exact hg2
    · subst e
      obtain ⟨_, _, _, hc⟩ := h2.cells
      refine wp_append_own w s x 28 ho base 9 i0 (.string ⟨#[]⟩) 1 16 Tryd.underlying28 hi hz0 hz1 hz2 rfl (by decide) v l1.length (txVals l1) hs h1 ⟨gb, 0, none⟩ l2.length cap (txVals l2) hx (by simp [txVals]) (fun j u hu => ?_) (fun u hu => ?_) (by unfold maxLen; omega) (by omega) hbase ?_
      · unfold txVals at hu
        rw [List.getElem?_map] at hu
        obtain ⟨t, ht, rfl⟩ := Option.map_eq_some_iff.1 hu
        have hadd : (⟨gb, 0, none⟩ : Addr).add j = ⟨gb, j, none⟩ := by unfold Addr.add; split <;> simp_all
        rw [hadd]
        exact hc j t ht
      · obtain ⟨t, _, rfl⟩ := List.mem_map.1 hu
        simp [Value.oneCell']
      · intro v' w' hown hgrow _
        refine hg v' w' ?_ hgrow
        unfold Txs
        rw [List.length_append]
        have e : txVals (l1 ++ l2) = txVals l1 ++ txVals l2 := by simp [txVals]
        rw [e]
        exact hown
  exact hl K h
theorem first05_bad (char : Bool) (A : Option Addr) (n c : Nat) (B : Option Addr) (m d : Nat) (s data : List Int) (most : Int) (D D' : Nat → Prop) (w : World) (hs : Rd w D 1 A n c (intRows .i64 s)) (hd : Rd w D' 1 B m d (intRows .i64 data)) (hi : ∀ x ∈ s, i64 x) (hr : ¬ rightL char s data) :
    Calls Tryd.prog 13 #[.agg #[.bool char, .slice A n c, .slice B m d], .int .i64 most] w fun e w' => e = .returned (.slice none 0 0) ∧ Below w.heap.size w w' := by
  have HB := Lib.hid (fun o => (Below.refl w.heap.size w).alloc (Nat.le_refl _) o)
  have HR := Lib.hid (fun w2 (hb : Below w.heap.size w w2) => lines05_bad char A n c B m d s data D D' w2 (hs.below hb) (hd.below hb) hi hr)
  clear hs hd hi hr
  go_enter Tryd.func13, Tryd.ntmps13
  go_wp2_with fail
  refine (HR.out _ (HB.out _)).mono ?_
  rintro e w1 ⟨rfl, hb1⟩
  have B1 := Lib.hid ((HB.out _).trans (hb1.mono (HB.out _).size))
  clear hb1
  go_wp2
  go_ret
  exact ⟨rfl, B1.out⟩
def txTo (s : List Int) (k : Nat) : List (List UInt8) := (s.take k).map numL
theorem txTo_succ {s : List Int} {k : Nat} {x : Int} (h : s[k]? = some x) : txTo s (k + 1) = txTo s k ++ [numL x] := by unfold txTo; rw [List.take_add_one, h]; simp
set_option maxRecDepth 100000 in
set_option maxHeartbeats 3200000 in
theorem first05_good (char : Bool) (A : Option Addr) (n c : Nat) (B : Option Addr) (m d : Nat) (s data : List Int) (most : Int) (D D' : Nat → Prop) (w : World) (hs : Rd w D 1 A n c (intRows .i64 s)) (hd : Rd w D' 1 B m d (intRows .i64 data)) (hi : ∀ x ∈ data, i64 x) (hr : rightL char s data) (ht : Tab w) (hmo : i64 most) (hll : (linesL char s data).length ≤ 100000) :
    Calls Tryd.prog 13 #[.agg #[.bool char, .slice A n c, .slice B m d], .int .i64 most] w fun e w' => ∃ v, e = .returned v ∧ Txs w' w.heap.size v (shapeL s :: (linesL char s data).take most.toNat) ∧ Below w.heap.size w w' := by
  have hlen : s.length = n := by have := hs.len; simpa [intRows] using this
  have hn4 : n ≤ 4 := by have := hr.1; omega
  have HL := Lib.hid hlen
  have HB := Lib.hid (fun o => (Below.refl w.heap.size w).alloc (Nat.le_refl _) o)
  have HR := Lib.hid (fun w2 (hb : Below w.heap.size w w2) => lines05_good char A n c B m d s data D D' w2 (hs.below hb) (hd.below hb) hi hr (ht.below hb))
  have HSI : RowKit.Hid (∀ x ∈ s, i64 x) := fun x hx => by have := hr.2.1 x hx; unfold i64; omega
  obtain ⟨_, hx⟩ := hs.one
  have HX := Lib.hid hx
  have HNN : RowKit.Hid (∀ x ∈ s, 0 ≤ x ∧ x ≤ 10000) := hr.2.1
  have HT := Lib.hid ht
  have HLL := Lib.hid hll
  obtain ⟨hmo0, hmo1⟩ := hmo
  clear hs hd hi hr ht hlen hx hll
  go_enter Tryd.func13, Tryd.ntmps13
  go_wp2_with fail
  obtain ⟨wa, hwa⟩ : ∃ wa, wa = w.alloc (.cells #[.bool char, .slice A n c, .slice B m d] 27) := ⟨_, rfl⟩
  have hba : Below w.heap.size w wa := by rw [hwa]; exact HB.out _
  have hxa : wa.heap[w.heap.size]? = some (.cells #[.bool char, .slice A n c, .slice B m d] 27 (0, 0)) := by rw [hwa]; exact heap_alloc_new w _
  rw [← hwa]
  have BA := Lib.hid hba
  have XA := Lib.hid hxa
  clear hwa hba hxa HB
  refine (HR.out wa BA.out).mono ?_
  rintro e w1 ⟨v1, rfl, htx, hb1⟩
  have T1 := Lib.hid htx
  have B1 := Lib.hid hb1
  have hx3 := agg_fields ((hb1.block _ (lt_of_block XA.out)).trans XA.out)
  obtain ⟨p0, p1, p2⟩ := hx3
  obtain ⟨A1, c1, hv1, hc1a, hc1b⟩ := htx.form
  subst hv1
  clear htx hb1 HR
  obtain ⟨L, hL⟩ : ∃ L, L = linesL char s data := ⟨_, rfl⟩
  rw [← hL] at T1 HLL hc1a ⊢
  have HLD := Lib.hid hL
  clear hL
  obtain ⟨N, hN⟩ : ∃ N, N = L.length := ⟨_, rfl⟩
  rw [← hN] at T1 HLL hc1a ⊢
  have HN := Lib.hid hN
  have hNb : N ≤ 100000 := HLL.out
  clear hN
  go_wp2
  go_loopw [7, 20] (fun v i wr => ∃ k : Nat, k ≤ n ∧ i = .int .i64 (k : Int) ∧ RowKit.Hid (Txs wr w1.heap.size v (txTo s k)) ∧ RowKit.Hid (Below w1.heap.size w1 wr)) (fun _ i _ => n - (RowKit.intOf i).toNat)
  case atStart => exact ⟨0, Nat.zero_le _, rfl, Txs.nil _ _, Below.refl _ _⟩
  case round =>
    obtain ⟨k, hk, rfl, htx, hbw⟩ := hrel
    have HLk : RowKit.Hid ((txTo s k).length ≤ 4) := by show _ ≤ _; unfold txTo; rw [List.length_map, List.length_take]; omega
    by_cases hlt : k < n
    · have q1 : (k : Int) < (n : Int) := by omega
      obtain ⟨b, off, hA, -, hbl, hc⟩ := HX.out (by omega)
      obtain ⟨x, hxk⟩ : ∃ x, s[k]? = some x := ⟨_, List.getElem?_eq_getElem (by rw [HL.out]; exact hlt)⟩
      have hbwa := Lib.hid ((BA.out.trans (B1.out.mono BA.out.size)).trans (hbw.out.mono (Nat.le_trans BA.out.size B1.out.size)))
      have cx := below_cell hbwa.out (hc k x hxk)
      have hxm := List.mem_of_getElem? hxk
      have hit := itoa_any x wr (HSI.out x hxm) (HT.out.below hbwa.out)
      rw [itoa_nonneg (HNN.out x hxm).1] at hit
      have HIT := Lib.hid hit
      have HSN := Lib.hid (txTo_succ hxk)
      subst hA
      clear hc hxk hxm hit p0 p1 p2
      go_wp2_with fail
      refine HIT.out.mono ?_
      rintro e w2 ⟨rfl, hb2⟩
      have B2 := Lib.hid (hbw.out.trans (hb2.mono hbw.out.size))
      have T2 := Lib.hid (htx.out.below hb2)
      clear hb2 cx HIT
      go_wp2_with (at_builtin; refine wpList_append_txs _ rfl (.tmp 24) (.tmp 27) rfl w1.heap.size _ _ _ _ [numL x] rfl rfl (World.ownsRow.alloc T2.out _) (txs_lit w2 w2.heap.size [numL x] #[.string (bs (numL x))] rfl (Nat.le_refl _) (by simp)) (by have := HLk.out; simp; omega) (by have := B2.out.size; simp; omega) ?_; intro v6 w6 htx6 hg6)
      have PB := Lib.hid ((B2.out.alloc B2.out.size _).grown hg6 (by have := B2.out.size; simp; omega) (fun j hj => (World.ownsRow.lt T2.out j hj).1))
      have PT : RowKit.Hid (Txs w6 w1.heap.size v6 (txTo s (k + 1))) := by show Txs _ _ _ _; rw [HSN.out]; exact htx6
      clear htx6 hg6 T2 B2
      go_wp2
      go_roundw
      case rel => exact ⟨k + 1, by omega, by go_num, PT.out, PB.out⟩
      case measure => simp [RowKit.intOf]; omega
    · have hkn : k = n := by omega
      subst hkn
      have HTS : RowKit.Hid (txTo s k = s.map numL) := by show _ = _; unfold txTo; rw [List.take_of_length_le (by rw [HL.out]; exact Nat.le_refl _)]
      rw [HTS.out] at htx HLk
      obtain ⟨K, hK⟩ : ∃ K, K = min most.toNat N := ⟨_, rfl⟩
      have hKi : max 0 (min most (N : Int)) = (K : Int) := by omega
      have hKN : K ≤ N := by omega
      have hKc : (K : Int) ≤ (c1 : Int) := by omega
      have hK0 : (0 : Int) ≤ (K : Int) := by omega
      have hc1c : c1 ≤ 9223372036854775807 := by unfold maxLen at hc1b; omega
      have HTK : RowKit.Hid (L.take K = L.take most.toNat) := by
        show _ = _
        rw [hK, ← List.take_take, HN.out, List.take_of_length_le (l := L) (Nat.le_refl _)]
      have HBW := Lib.hid ((BA.out.trans (B1.out.mono BA.out.size)).trans (hbw.out.mono (Nat.le_trans BA.out.size B1.out.size)))
      have TL := Lib.hid ((T1.out.below hbw.out).take (k := K) (by rw [← HN.out]; exact hKN))
      have HJ := Lib.hid (fun w9 (h9 : Below wr.heap.size wr w9) => join_txs w9 _ _ (s.map numL) [32] (htx.out.below h9) (by have := HLk.out; omega) (fun y hy => by
        obtain ⟨x, hx, rfl⟩ := List.mem_map.1 hy
        have := elL_le (char := false) (HSI.out x hx)
        unfold elL at this
        simp at this
        omega) (by decide))
      clear hK
      rcases Nat.eq_zero_or_pos c1 with hcz | hcz
      · subst hcz
        have hK00 : K = 0 := by omega
        subst hK00
        go_upto_region 10 with fail
        go_region_law (first
          | (go_simp; go_at_call 35; refine (HJ.out _ (below_drewN (Below.refl _ wr) 1)).mono ?_; rintro e w5 ⟨rfl, hb5⟩)
          | (refine step_append_txs _ rfl _ _ rfl w5.heap.size _ (.slice (some ⟨w5.heap.size, 0, none⟩) 1 1) (.slice A1 0 0) [shapeL s] (L.take 0) rfl rfl (txs_lit w5 w5.heap.size [shapeL s] _ rfl (Nat.le_refl _) (by simp)) (World.ownsRow.alloc (TL.out.below ((below_drewN (Below.refl _ wr) 1).trans hb5)) _) (by have := HN.out; simp <;> omega) (by simp) ?_; intro v6 w6 htx6 hg6))
        all_goals
          have HB5 := Lib.hid (HBW.out.trans (((below_drewN (Below.refl _ wr) 1).trans hb5).mono HBW.out.size))
          have PT := Lib.hid (htx6.eq (show _ = shapeL s :: (linesL char s data).take most.toNat by rw [HTK.out, HLD.out]; rfl) HB5.out.size)
          have PB := Lib.hid ((HB5.out.alloc HB5.out.size _).grown hg6 (by have := HB5.out.size; simp; omega) (fun j hj => by have h9 : w5.heap.size = j := (by simpa [Value.ownBlock] using hj); have := HB5.out.size; omega))
          clear htx6 hg6 hb5
          go_wp2
          go_ret
          exact ⟨v6, rfl, PT.out, PB.out⟩
      · have hcz' : ¬ c1 = 0 := by omega
        go_upto_region 10 with fail
        go_region_law (first
          | (go_simp; go_at_call 35; refine (HJ.out _ (below_drewN (Below.refl _ wr) 1)).mono ?_; rintro e w5 ⟨rfl, hb5⟩)
          | (refine step_append_txs _ rfl _ _ rfl w5.heap.size _ (.slice (some ⟨w5.heap.size, 0, none⟩) 1 1) (.slice A1 K c1) [shapeL s] (L.take K) rfl rfl (txs_lit w5 w5.heap.size [shapeL s] _ rfl (Nat.le_refl _) (by simp)) (World.ownsRow.alloc (TL.out.below ((below_drewN (Below.refl _ wr) 1).trans hb5)) _) (by have := HN.out; simp <;> omega) (by simp) ?_; intro v6 w6 htx6 hg6))
        all_goals
          have HB5 := Lib.hid (HBW.out.trans (((below_drewN (Below.refl _ wr) 1).trans hb5).mono HBW.out.size))
          have PT := Lib.hid (htx6.eq (show _ = shapeL s :: (linesL char s data).take most.toNat by rw [HTK.out, HLD.out]; rfl) HB5.out.size)
          have PB := Lib.hid ((HB5.out.alloc HB5.out.size _).grown hg6 (by have := HB5.out.size; simp; omega) (fun j hj => by have h9 : w5.heap.size = j := (by simpa [Value.ownBlock] using hj); have := HB5.out.size; omega))
          clear htx6 hg6 hb5
          go_wp2
          go_ret
          exact ⟨v6, rfl, PT.out, PB.out⟩
end Go.Proofs.YtjkofndnhmfnoaaDoor
