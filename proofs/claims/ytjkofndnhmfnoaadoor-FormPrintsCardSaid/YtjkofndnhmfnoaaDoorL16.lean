/-
  The law FormPrints (package anamnesislaw05): the walk. Of any number, any array that can be read, any many; strconv's table lies as the library lays it.
-/
import Derived.Test.YtjkofndnhmfnoaaDoorL15
namespace Go.Proofs.YtjkofndnhmfnoaaDoor
open Go Go.RowKit

set_option linter.unusedSimpArgs false in
set_option maxRecDepth 100000 in
set_option maxHeartbeats 6400000 in
theorem formPrints_any (k : Int) (char : Bool) (A : Option Addr) (n c : Nat) (B : Option Addr) (m d : Nat) (s data : List Int) (most : Int) (D D' : Nat → Prop) (w : World) (hk : i64 k) (hs : Rd w D 1 A n c (intRows .i64 s)) (hd : Rd w D' 1 B m d (intRows .i64 data)) (his : ∀ x ∈ s, i64 x) (hi : ∀ x ∈ data, i64 x) (hmo : i64 most) (ht : Tab w) :
    Calls Tryd.prog 5 #[.int .i64 k, .agg #[.bool char, .slice A n c, .slice B m d], .int .i64 most] w fun e w' => e = .returned (.bool true) ∧ Below w.heap.size w w' := by
  have HK := Lib.hid hk
  have HT := Lib.hid ht
  have HB := Lib.hid (fun o => (Below.refl w.heap.size w).alloc (Nat.le_refl _) o)
  by_cases hg : GreatA m s
  · have HG := Lib.hid (fun w2 (hb : Below w.heap.size w w2) => great05_any char A n c B m d s D w2 (hs.below hb) true (decide_eq_true hg).symm)
    clear hk hs hd his hi hmo ht hg
    go_enter Tryd.func5, Tryd.ntmps5
    go_wp2_with fail
    refine (HG.out _ (HB.out _)).mono ?_
    rintro e w1 ⟨rfl, hb1⟩
    have B1 := Lib.hid ((HB.out _).trans (hb1.mono (HB.out _).size))
    clear hb1
    go_wp2_with fail
    refine (awake05_any w1 (HT.out.below B1.out)).mono ?_
    rintro e w2 ⟨rfl, hb2⟩
    go_wp2
    go_ret
    exact ⟨rfl, B1.out.trans (hb2.mono B1.out.size)⟩
  have HG := Lib.hid (fun w2 (hb : Below w.heap.size w w2) => great05_any char A n c B m d s D w2 (hs.below hb) false (decide_eq_false hg).symm)
  clear hg
  by_cases hr : rightL char s data
  · have hll := linesL_le hr
    have HL := Lib.hid (fun w2 (hb : Below w.heap.size w w2) => lines05_good char A n c B m d s data D D' w2 (hs.below hb) (hd.below hb) hi hr (ht.below hb))
    have HRL := Lib.hid (fun w2 (hb : Below w.heap.size w w2) => rlines05_good char A n c B m d s data D D' w2 (hs.below hb) (hd.below hb) hi hr)
    have HF := Lib.hid (fun w2 (hb : Below w.heap.size w w2) => first05_good char A n c B m d s data most D D' w2 (hs.below hb) (hd.below hb) hi hr (ht.below hb) hmo (by omega))
    have HRF := Lib.hid (fun w2 (hb : Below w.heap.size w w2) => rfirst05_good char A n c B m d s data most D D' w2 (hs.below hb) (hd.below hb) hi hr hmo (by omega))
    clear hk hs hd his hi hmo ht hr hll
    go_enter Tryd.func5, Tryd.ntmps5
    go_wp2_with fail
    obtain ⟨wa, hwa⟩ : ∃ wa, wa = w.alloc (.cells #[.bool char, .slice A n c, .slice B m d] 27) := ⟨_, rfl⟩
    have hba : Below w.heap.size w wa := by rw [hwa]; exact HB.out _
    have hxa : wa.heap[w.heap.size]? = some (.cells #[.bool char, .slice A n c, .slice B m d] 27 (0, 0)) := by rw [hwa]; exact heap_alloc_new w _
    rw [← hwa]
    have BA := Lib.hid hba
    have XA := Lib.hid hxa
    clear hwa hba hxa HB
    refine (HG.out wa BA.out).mono ?_
    rintro e w1 ⟨rfl, hb1⟩
    have B1 := Lib.hid (BA.out.trans (hb1.mono BA.out.size))
    have X1 := Lib.hid ((hb1.block _ (lt_of_block XA.out)).trans XA.out)
    obtain ⟨p0, p1, p2⟩ := agg_fields X1.out
    clear hb1 HG
    go_wp2_with fail
    refine (HL.out w1 B1.out).mono ?_
    rintro e w2 ⟨v2, rfl, htx2, hb2⟩
    have B2 := Lib.hid (B1.out.trans (hb2.mono B1.out.size))
    have X2 := Lib.hid ((hb2.block _ (lt_of_block X1.out)).trans X1.out)
    have T2 := Lib.hid htx2
    clear hb2 p0 p1 p2 htx2
    obtain ⟨p0, p1, p2⟩ := agg_fields X2.out
    go_wp2_with fail
    refine (HRL.out w2 B2.out).mono ?_
    rintro e w3 ⟨v3, rfl, htx3, hb3⟩
    have B3 := Lib.hid (B2.out.trans (hb3.mono B2.out.size))
    have X3 := Lib.hid ((hb3.block _ (lt_of_block X2.out)).trans X2.out)
    have T3 := Lib.hid htx3
    have HT1 := Lib.hid (fun w9 (h9 : Below w3.heap.size w3 w9) => (ltexts_txs w9 _ _ _ _ _ _ ((T2.out.below hb3).below h9) (T3.out.below h9)).mono (R' := fun e w' => e = .returned (.bool true) ∧ Below w9.heap.size w9 w') (by rintro e w' ⟨rfl, hb⟩; exact ⟨by rw [decide_eq_true rfl], hb⟩))
    have HT2 := Lib.hid (fun w9 b1 b2 f1 f2 L (h1 : Txs w9 b1 f1 L) (h2 : Txs w9 b2 f2 L) => (ltexts_txs w9 b1 b2 f1 f2 L L h1 h2).mono (R' := fun e w' => e = .returned (.bool true) ∧ Below w9.heap.size w9 w') (by rintro e w' ⟨rfl, hb⟩; exact ⟨by rw [decide_eq_true rfl], hb⟩))
    clear hb3 p0 p1 p2 HL HRL htx3
    obtain ⟨p0, p1, p2⟩ := agg_fields X3.out
    go_upto_region 5 with fail
    refine wp_region_noPanic ?_
    refine wp_region_held_drew (S := fun w' => w'.cell? ⟨w.heap.size, 0, none⟩ = some (.bool char) ∧ w'.cell? ⟨w.heap.size, 1, none⟩ = some (.slice A n c) ∧ w'.cell? ⟨w.heap.size, 2, none⟩ = some (.slice B m d)) (by kernel_rfl) ?_ (fun hHeld => ?_)
    · (try dsimp only)
      go_keep
    refine wpAnyH_take (i := 0) (v := ?v0) rfl (by kernel_rfl) (by kernel_rfl) (by kernel_rfl) (fun _ _ _ h => h) (Or.inl ⟨by rfl, ?hy0⟩) (by assumption) ?rest0
    case hy0 =>
      intro w' hSw
      (try dsimp only at hSw)
      go_simp
      all_goals (with_reducible rfl)
    (try simp only [Act.put, List.getElem_toArray, List.getElem_cons_succ, List.getElem_cons_zero, List.setIfInBounds_toArray, List.set_cons_zero, List.set_cons_succ])
    refine wpAnyH_take (i := 2) (v := ?v2) rfl (by kernel_rfl) (by kernel_rfl) (by kernel_rfl) (fun _ _ _ h => h) (Or.inl ⟨by rfl, ?hy2⟩) (by assumption) ?rest2
    case hy2 =>
      intro w' hSw
      (try dsimp only at hSw)
      go_simp
      all_goals (with_reducible rfl)
    (try simp only [Act.put, List.getElem_toArray, List.getElem_cons_succ, List.getElem_cons_zero, List.setIfInBounds_toArray, List.set_cons_zero, List.set_cons_succ])
    refine wpAnyH_ready (rs := [1]) (by kernel_rfl) (by simp) ?_
    refine AllReadyH.cons rfl (fun K hK => ?_) AllReadyH.nil
    go_simp
    go_at_call 14; refine (number05_any k _ HK.out (HT.out.below (B3.out.trans ((below_drewN (Below.refl w3.heap.size w3) _).mono B3.out.size)))).mono ?_; rintro e w21 ⟨rfl, hb21⟩
    try go_wp2_with fail
    refine hK.out _ _ ?_ (fun hHeld2 => ?_)
    · (try dsimp only)
      (first | (go_keep; done) | (go_split_ands; exact ⟨below_cell hb21 (by assumption), below_cell hb21 (by assumption), below_cell hb21 (by assumption)⟩) | (go_split_ands; exact ⟨below_cell hb22 (by assumption), below_cell hb22 (by assumption), below_cell hb22 (by assumption)⟩) | (go_split_ands; exact ⟨below_cell hb23 (by assumption), below_cell hb23 (by assumption), below_cell hb23 (by assumption)⟩) | (go_split_ands; exact ⟨below_cell hb24 (by assumption), below_cell hb24 (by assumption), below_cell hb24 (by assumption)⟩) | (go_split_ands; exact ⟨below_cell hb25 (by assumption), below_cell hb25 (by assumption), below_cell hb25 (by assumption)⟩) | (go_split_ands; exact ⟨below_cell hb26 (by assumption), below_cell hb26 (by assumption), below_cell hb26 (by assumption)⟩))
    clear hK K hHeld
    have hHeld := hHeld2
    clear hHeld2
    (try simp only [Act.put, List.getElem_toArray, List.getElem_cons_succ, List.getElem_cons_zero, List.setIfInBounds_toArray, List.set_cons_zero, List.set_cons_succ])
    refine wpAnyH_ready (rs := [3]) (by kernel_rfl) (by simp) ?_
    refine AllReadyH.cons rfl (fun K hK => ?_) AllReadyH.nil
    go_simp
    go_at_call 19; refine (rNumber05_any k _ HK.out).mono ?_; rintro e w99 ⟨rfl, rfl⟩
    try go_wp2_with fail
    refine hK.out _ _ ?_ (fun hHeld2 => ?_)
    · (try dsimp only)
      (first | (go_keep; done) | (go_split_ands; exact ⟨below_cell hb21 (by assumption), below_cell hb21 (by assumption), below_cell hb21 (by assumption)⟩) | (go_split_ands; exact ⟨below_cell hb22 (by assumption), below_cell hb22 (by assumption), below_cell hb22 (by assumption)⟩) | (go_split_ands; exact ⟨below_cell hb23 (by assumption), below_cell hb23 (by assumption), below_cell hb23 (by assumption)⟩) | (go_split_ands; exact ⟨below_cell hb24 (by assumption), below_cell hb24 (by assumption), below_cell hb24 (by assumption)⟩) | (go_split_ands; exact ⟨below_cell hb25 (by assumption), below_cell hb25 (by assumption), below_cell hb25 (by assumption)⟩) | (go_split_ands; exact ⟨below_cell hb26 (by assumption), below_cell hb26 (by assumption), below_cell hb26 (by assumption)⟩))
    clear hK K hHeld
    have hHeld := hHeld2
    clear hHeld2
    (try simp only [Act.put, List.getElem_toArray, List.getElem_cons_succ, List.getElem_cons_zero, List.setIfInBounds_toArray, List.set_cons_zero, List.set_cons_succ])
    refine wpAnyH_take (i := 4) (v := ?v4) rfl (by kernel_rfl) (by kernel_rfl) (by kernel_rfl) (fun _ _ _ h => h) (Or.inl ⟨by rfl, ?hy4⟩) (by assumption) ?rest4
    case hy4 =>
      intro w' hSw
      (try dsimp only at hSw)
      go_simp
      all_goals (with_reducible rfl)
    (try simp only [Act.put, List.getElem_toArray, List.getElem_cons_succ, List.getElem_cons_zero, List.setIfInBounds_toArray, List.set_cons_zero, List.set_cons_succ])
    refine wpAnyH_take (i := 5) (v := ?v5) rfl (by kernel_rfl) (by kernel_rfl) (by kernel_rfl) (fun _ _ _ h => h) (Or.inl ⟨by rfl, ?hy5⟩) (by assumption) ?rest5
    case hy5 =>
      intro w' hSw
      (try dsimp only at hSw)
      go_simp
      all_goals (with_reducible rfl)
    (try simp only [Act.put, List.getElem_toArray, List.getElem_cons_succ, List.getElem_cons_zero, List.setIfInBounds_toArray, List.set_cons_zero, List.set_cons_succ])
    refine wpAnyH_take (i := 6) (v := ?v6) rfl (by kernel_rfl) (by kernel_rfl) (by kernel_rfl) (fun _ _ _ h => h) (Or.inl ⟨by rfl, ?hy6⟩) (by assumption) ?rest6
    case hy6 =>
      intro w' hSw
      (try dsimp only at hSw)
      go_simp
      all_goals (with_reducible rfl)
    (try simp only [Act.put, List.getElem_toArray, List.getElem_cons_succ, List.getElem_cons_zero, List.setIfInBounds_toArray, List.set_cons_zero, List.set_cons_succ])
    refine wpAnyH_take (i := 7) (v := ?v7) rfl (by kernel_rfl) (by kernel_rfl) (by kernel_rfl) (fun _ _ _ h => h) (Or.inl ⟨by rfl, ?hy7⟩) (by assumption) ?rest7
    case hy7 =>
      intro w' hSw
      (try dsimp only at hSw)
      go_simp
      all_goals (with_reducible rfl)
    (try simp only [Act.put, List.getElem_toArray, List.getElem_cons_succ, List.getElem_cons_zero, List.setIfInBounds_toArray, List.set_cons_zero, List.set_cons_succ])
    refine wpAnyH_ready (rs := [8]) (by kernel_rfl) (by simp) ?_
    refine AllReadyH.cons rfl (fun K hK => ?_) AllReadyH.nil
    go_simp
    go_at_call 16; refine (HT1.out _ ((below_drewN (Below.refl w3.heap.size w3) _).trans hb21)).mono ?_; rintro e w22 ⟨rfl, hb22⟩
    try go_wp2_with fail
    refine hK.out _ _ ?_ (fun hHeld2 => ?_)
    · (try dsimp only)
      (first | (go_keep; done) | (go_split_ands; exact ⟨below_cell hb21 (by assumption), below_cell hb21 (by assumption), below_cell hb21 (by assumption)⟩) | (go_split_ands; exact ⟨below_cell hb22 (by assumption), below_cell hb22 (by assumption), below_cell hb22 (by assumption)⟩) | (go_split_ands; exact ⟨below_cell hb23 (by assumption), below_cell hb23 (by assumption), below_cell hb23 (by assumption)⟩) | (go_split_ands; exact ⟨below_cell hb24 (by assumption), below_cell hb24 (by assumption), below_cell hb24 (by assumption)⟩) | (go_split_ands; exact ⟨below_cell hb25 (by assumption), below_cell hb25 (by assumption), below_cell hb25 (by assumption)⟩) | (go_split_ands; exact ⟨below_cell hb26 (by assumption), below_cell hb26 (by assumption), below_cell hb26 (by assumption)⟩))
    clear hK K hHeld
    have hHeld := hHeld2
    clear hHeld2
    (try simp only [Act.put, List.getElem_toArray, List.getElem_cons_succ, List.getElem_cons_zero, List.setIfInBounds_toArray, List.set_cons_zero, List.set_cons_succ])
    refine wpAnyH_take (i := 9) (v := ?v9) rfl (by kernel_rfl) (by kernel_rfl) (by kernel_rfl) (fun _ _ _ h => h) (Or.inl ⟨by rfl, ?hy9⟩) (by assumption) ?rest9
    case hy9 =>
      intro w' hSw
      (try dsimp only at hSw)
      go_simp
      all_goals (with_reducible rfl)
    (try simp only [Act.put, List.getElem_toArray, List.getElem_cons_succ, List.getElem_cons_zero, List.setIfInBounds_toArray, List.set_cons_zero, List.set_cons_succ])
    refine wpAnyH_take (i := 10) (v := ?v10) rfl (by kernel_rfl) (by kernel_rfl) (by kernel_rfl) (fun _ _ _ h => h) (Or.inl ⟨by rfl, ?hy10⟩) (by assumption) ?rest10
    case hy10 =>
      intro w' hSw
      (try dsimp only at hSw)
      go_simp
      all_goals (with_reducible rfl)
    (try simp only [Act.put, List.getElem_toArray, List.getElem_cons_succ, List.getElem_cons_zero, List.setIfInBounds_toArray, List.set_cons_zero, List.set_cons_succ])
    refine wpAnyH_take (i := 11) (v := ?v11) rfl (by kernel_rfl) (by kernel_rfl) (by kernel_rfl) (fun _ _ _ h => h) (Or.inl ⟨by rfl, ?hy11⟩) (by assumption) ?rest11
    case hy11 =>
      intro w' hSw
      (try dsimp only at hSw)
      go_simp
      all_goals (with_reducible rfl)
    (try simp only [Act.put, List.getElem_toArray, List.getElem_cons_succ, List.getElem_cons_zero, List.setIfInBounds_toArray, List.set_cons_zero, List.set_cons_succ])
    refine wpAnyH_take (i := 12) (v := ?v12) rfl (by kernel_rfl) (by kernel_rfl) (by kernel_rfl) (fun _ _ _ h => h) (Or.inl ⟨by rfl, ?hy12⟩) (by assumption) ?rest12
    case hy12 =>
      intro w' hSw
      (try dsimp only at hSw)
      go_simp
      all_goals (with_reducible rfl)
    (try simp only [Act.put, List.getElem_toArray, List.getElem_cons_succ, List.getElem_cons_zero, List.setIfInBounds_toArray, List.set_cons_zero, List.set_cons_succ])
    refine wpAnyH_take (i := 13) (v := ?v13) rfl (by kernel_rfl) (by kernel_rfl) (by kernel_rfl) (fun _ _ _ h => h) (Or.inl ⟨by rfl, ?hy13⟩) (by assumption) ?rest13
    case hy13 =>
      intro w' hSw
      (try dsimp only at hSw)
      go_simp
      all_goals (with_reducible rfl)
    (try simp only [Act.put, List.getElem_toArray, List.getElem_cons_succ, List.getElem_cons_zero, List.setIfInBounds_toArray, List.set_cons_zero, List.set_cons_succ])
    refine wpAnyH_take (i := 14) (v := ?v14) rfl (by kernel_rfl) (by kernel_rfl) (by kernel_rfl) (fun _ _ _ h => h) (Or.inl ⟨by rfl, ?hy14⟩) (by assumption) ?rest14
    case hy14 =>
      intro w' hSw
      (try dsimp only at hSw)
      go_simp
      all_goals (with_reducible rfl)
    (try simp only [Act.put, List.getElem_toArray, List.getElem_cons_succ, List.getElem_cons_zero, List.setIfInBounds_toArray, List.set_cons_zero, List.set_cons_succ])
    refine wpAnyH_take (i := 15) (v := ?v15) rfl (by kernel_rfl) (by kernel_rfl) (by kernel_rfl) (fun _ _ _ h => h) (Or.inl ⟨by rfl, ?hy15⟩) (by assumption) ?rest15
    case hy15 =>
      intro w' hSw
      (try dsimp only at hSw)
      go_simp
      all_goals (with_reducible rfl)
    (try simp only [Act.put, List.getElem_toArray, List.getElem_cons_succ, List.getElem_cons_zero, List.setIfInBounds_toArray, List.set_cons_zero, List.set_cons_succ])
    refine wpAnyH_take (i := 16) (v := ?v16) rfl (by kernel_rfl) (by kernel_rfl) (by kernel_rfl) (fun _ _ _ h => h) (Or.inl ⟨by rfl, ?hy16⟩) (by assumption) ?rest16
    case hy16 =>
      intro w' hSw
      (try dsimp only at hSw)
      go_simp
      all_goals (with_reducible rfl)
    (try simp only [Act.put, List.getElem_toArray, List.getElem_cons_succ, List.getElem_cons_zero, List.setIfInBounds_toArray, List.set_cons_zero, List.set_cons_succ])
    refine wpAnyH_take (i := 17) (v := ?v17) rfl (by kernel_rfl) (by kernel_rfl) (by kernel_rfl) (fun _ _ _ h => h) (Or.inl ⟨by rfl, ?hy17⟩) (by assumption) ?rest17
    case hy17 =>
      intro w' hSw
      (try dsimp only at hSw)
      go_simp
      all_goals (with_reducible rfl)
    (try simp only [Act.put, List.getElem_toArray, List.getElem_cons_succ, List.getElem_cons_zero, List.setIfInBounds_toArray, List.set_cons_zero, List.set_cons_succ])
    refine wpAnyH_take (i := 18) (v := ?v18) rfl (by kernel_rfl) (by kernel_rfl) (by kernel_rfl) (fun _ _ _ h => h) (Or.inl ⟨by rfl, ?hy18⟩) (by assumption) ?rest18
    case hy18 =>
      intro w' hSw
      (try dsimp only at hSw)
      go_simp
      all_goals (with_reducible rfl)
    (try simp only [Act.put, List.getElem_toArray, List.getElem_cons_succ, List.getElem_cons_zero, List.setIfInBounds_toArray, List.set_cons_zero, List.set_cons_succ])
    refine wpAnyH_take (i := 19) (v := undef) rfl (by kernel_rfl) (by kernel_rfl) (by kernel_rfl) (fun _ _ _ h => h) (Or.inr ⟨by rfl, rfl⟩) (by assumption) ?_
    (try simp only [Act.put, List.getElem_toArray, List.getElem_cons_succ, List.getElem_cons_zero, List.setIfInBounds_toArray, List.set_cons_zero, List.set_cons_succ])
    refine wpAnyH_take (i := 20) (v := undef) rfl (by kernel_rfl) (by kernel_rfl) (by kernel_rfl) (fun _ _ _ h => h) (Or.inr ⟨by rfl, rfl⟩) (by assumption) ?_
    (try simp only [Act.put, List.getElem_toArray, List.getElem_cons_succ, List.getElem_cons_zero, List.setIfInBounds_toArray, List.set_cons_zero, List.set_cons_succ])
    refine wpAnyH_take (i := 21) (v := ?v21) rfl (by kernel_rfl) (by kernel_rfl) (by kernel_rfl) (fun _ _ _ h => h) (Or.inl ⟨by rfl, ?hy21⟩) (by assumption) ?rest21
    case hy21 =>
      intro w' hSw
      (try dsimp only at hSw)
      go_simp
      all_goals (with_reducible rfl)
    (try simp only [Act.put, List.getElem_toArray, List.getElem_cons_succ, List.getElem_cons_zero, List.setIfInBounds_toArray, List.set_cons_zero, List.set_cons_succ])
    refine wpAnyH_take (i := 22) (v := ?v22) rfl (by kernel_rfl) (by kernel_rfl) (by kernel_rfl) (fun _ _ _ h => h) (Or.inl ⟨by rfl, ?hy22⟩) (by assumption) ?rest22
    case hy22 =>
      intro w' hSw
      (try dsimp only at hSw)
      go_simp
      all_goals (with_reducible rfl)
    (try simp only [Act.put, List.getElem_toArray, List.getElem_cons_succ, List.getElem_cons_zero, List.setIfInBounds_toArray, List.set_cons_zero, List.set_cons_succ])
    refine wpAnyH_take (i := 23) (v := ?v23) rfl (by kernel_rfl) (by kernel_rfl) (by kernel_rfl) (fun _ _ _ h => h) (Or.inl ⟨by rfl, ?hy23⟩) (by assumption) ?rest23
    case hy23 =>
      intro w' hSw
      (try dsimp only at hSw)
      go_simp
      all_goals (with_reducible rfl)
    (try simp only [Act.put, List.getElem_toArray, List.getElem_cons_succ, List.getElem_cons_zero, List.setIfInBounds_toArray, List.set_cons_zero, List.set_cons_succ])
    refine wpAnyH_take (i := 24) (v := ?v24) rfl (by kernel_rfl) (by kernel_rfl) (by kernel_rfl) (fun _ _ _ h => h) (Or.inl ⟨by rfl, ?hy24⟩) (by assumption) ?rest24
    case hy24 =>
      intro w' hSw
      (try dsimp only at hSw)
      go_simp
      all_goals (with_reducible rfl)
    (try simp only [Act.put, List.getElem_toArray, List.getElem_cons_succ, List.getElem_cons_zero, List.setIfInBounds_toArray, List.set_cons_zero, List.set_cons_succ])
    refine wpAnyH_take (i := 25) (v := ?v25) rfl (by kernel_rfl) (by kernel_rfl) (by kernel_rfl) (fun _ _ _ h => h) (Or.inl ⟨by rfl, ?hy25⟩) (by assumption) ?rest25
    case hy25 =>
      intro w' hSw
      (try dsimp only at hSw)
      go_simp
      all_goals (with_reducible rfl)
    (try simp only [Act.put, List.getElem_toArray, List.getElem_cons_succ, List.getElem_cons_zero, List.setIfInBounds_toArray, List.set_cons_zero, List.set_cons_succ])
    refine wpAnyH_take (i := 27) (v := ?v27) rfl (by kernel_rfl) (by kernel_rfl) (by kernel_rfl) (fun _ _ _ h => h) (Or.inl ⟨by rfl, ?hy27⟩) (by assumption) ?rest27
    case hy27 =>
      intro w' hSw
      (try dsimp only at hSw)
      go_simp
      all_goals (with_reducible rfl)
    (try simp only [Act.put, List.getElem_toArray, List.getElem_cons_succ, List.getElem_cons_zero, List.setIfInBounds_toArray, List.set_cons_zero, List.set_cons_succ])
    refine wpAnyH_take (i := 28) (v := ?v28) rfl (by kernel_rfl) (by kernel_rfl) (by kernel_rfl) (fun _ _ _ h => h) (Or.inl ⟨by rfl, ?hy28⟩) (by assumption) ?rest28
    case hy28 =>
      intro w' hSw
      (try dsimp only at hSw)
      go_simp
      all_goals (with_reducible rfl)
    (try simp only [Act.put, List.getElem_toArray, List.getElem_cons_succ, List.getElem_cons_zero, List.setIfInBounds_toArray, List.set_cons_zero, List.set_cons_succ])
    refine wpAnyH_ready (rs := [26]) (by kernel_rfl) (by simp) ?_
    refine AllReadyH.cons rfl (fun K hK => ?_) AllReadyH.nil
    go_simp
    go_at_call 13; refine (HF.out _ (B3.out.trans ((((below_drewN (Below.refl w3.heap.size w3) _).trans hb21).trans (hb22.mono hb21.size)).mono B3.out.size))).mono ?_; rintro e w23 ⟨v23, rfl, htx23, hb23⟩
    try go_wp2_with fail
    refine hK.out _ _ ?_ (fun hHeld2 => ?_)
    · (try dsimp only)
      (first | (go_keep; done) | (go_split_ands; exact ⟨below_cell hb21 (by assumption), below_cell hb21 (by assumption), below_cell hb21 (by assumption)⟩) | (go_split_ands; exact ⟨below_cell hb22 (by assumption), below_cell hb22 (by assumption), below_cell hb22 (by assumption)⟩) | (go_split_ands; exact ⟨below_cell hb23 (by assumption), below_cell hb23 (by assumption), below_cell hb23 (by assumption)⟩) | (go_split_ands; exact ⟨below_cell hb24 (by assumption), below_cell hb24 (by assumption), below_cell hb24 (by assumption)⟩) | (go_split_ands; exact ⟨below_cell hb25 (by assumption), below_cell hb25 (by assumption), below_cell hb25 (by assumption)⟩) | (go_split_ands; exact ⟨below_cell hb26 (by assumption), below_cell hb26 (by assumption), below_cell hb26 (by assumption)⟩))
    clear hK K hHeld
    have hHeld := hHeld2
    clear hHeld2
    (try simp only [Act.put, List.getElem_toArray, List.getElem_cons_succ, List.getElem_cons_zero, List.setIfInBounds_toArray, List.set_cons_zero, List.set_cons_succ])
    refine wpAnyH_ready (rs := [29]) (by kernel_rfl) (by simp) ?_
    refine AllReadyH.cons rfl (fun K hK => ?_) AllReadyH.nil
    go_simp
    go_at_call 20; refine (HRF.out _ (B3.out.trans ((((below_drewN (Below.refl w3.heap.size w3) _).trans hb21).trans ((hb22.trans (hb23.mono hb22.size)).mono hb21.size)).mono B3.out.size))).mono ?_; rintro e w24 ⟨v24, rfl, htx24, hb24⟩
    try go_wp2_with fail
    refine hK.out _ _ ?_ (fun hHeld2 => ?_)
    · (try dsimp only)
      (first | (go_keep; done) | (go_split_ands; exact ⟨below_cell hb21 (by assumption), below_cell hb21 (by assumption), below_cell hb21 (by assumption)⟩) | (go_split_ands; exact ⟨below_cell hb22 (by assumption), below_cell hb22 (by assumption), below_cell hb22 (by assumption)⟩) | (go_split_ands; exact ⟨below_cell hb23 (by assumption), below_cell hb23 (by assumption), below_cell hb23 (by assumption)⟩) | (go_split_ands; exact ⟨below_cell hb24 (by assumption), below_cell hb24 (by assumption), below_cell hb24 (by assumption)⟩) | (go_split_ands; exact ⟨below_cell hb25 (by assumption), below_cell hb25 (by assumption), below_cell hb25 (by assumption)⟩) | (go_split_ands; exact ⟨below_cell hb26 (by assumption), below_cell hb26 (by assumption), below_cell hb26 (by assumption)⟩))
    clear hK K hHeld
    have hHeld := hHeld2
    clear hHeld2
    (try simp only [Act.put, List.getElem_toArray, List.getElem_cons_succ, List.getElem_cons_zero, List.setIfInBounds_toArray, List.set_cons_zero, List.set_cons_succ])
    refine wpAnyH_ready (rs := [30]) (by kernel_rfl) (by simp) ?_
    refine AllReadyH.cons rfl (fun K hK => ?_) AllReadyH.nil
    go_simp
    go_at_call 16; refine (HT2.out _ _ _ _ _ _ (htx23.below hb24) htx24).mono ?_; rintro e w25 ⟨rfl, hb25⟩
    try go_wp2_with fail
    refine hK.out _ _ ?_ (fun hHeld2 => ?_)
    · (try dsimp only)
      (first | (go_keep; done) | (go_split_ands; exact ⟨below_cell hb21 (by assumption), below_cell hb21 (by assumption), below_cell hb21 (by assumption)⟩) | (go_split_ands; exact ⟨below_cell hb22 (by assumption), below_cell hb22 (by assumption), below_cell hb22 (by assumption)⟩) | (go_split_ands; exact ⟨below_cell hb23 (by assumption), below_cell hb23 (by assumption), below_cell hb23 (by assumption)⟩) | (go_split_ands; exact ⟨below_cell hb24 (by assumption), below_cell hb24 (by assumption), below_cell hb24 (by assumption)⟩) | (go_split_ands; exact ⟨below_cell hb25 (by assumption), below_cell hb25 (by assumption), below_cell hb25 (by assumption)⟩) | (go_split_ands; exact ⟨below_cell hb26 (by assumption), below_cell hb26 (by assumption), below_cell hb26 (by assumption)⟩))
    clear hK K hHeld
    have hHeld := hHeld2
    clear hHeld2
    (try simp only [Act.put, List.getElem_toArray, List.getElem_cons_succ, List.getElem_cons_zero, List.setIfInBounds_toArray, List.set_cons_zero, List.set_cons_succ])
    refine wpAnyH_take (i := 31) (v := ?v31) rfl (by kernel_rfl) (by kernel_rfl) (by kernel_rfl) (fun _ _ _ h => h) (Or.inl ⟨by rfl, ?hy31⟩) (by assumption) ?rest31
    case hy31 =>
      intro w' hSw
      (try dsimp only at hSw)
      go_simp
      all_goals (with_reducible rfl)
    (try simp only [Act.put, List.getElem_toArray, List.getElem_cons_succ, List.getElem_cons_zero, List.setIfInBounds_toArray, List.set_cons_zero, List.set_cons_succ])
    refine wpAnyH_take (i := 32) (v := ?v32) rfl (by kernel_rfl) (by kernel_rfl) (by kernel_rfl) (fun _ _ _ h => h) (Or.inl ⟨by rfl, ?hy32⟩) (by assumption) ?rest32
    case hy32 =>
      intro w' hSw
      (try dsimp only at hSw)
      go_simp
      all_goals (with_reducible rfl)
    (try simp only [Act.put, List.getElem_toArray, List.getElem_cons_succ, List.getElem_cons_zero, List.setIfInBounds_toArray, List.set_cons_zero, List.set_cons_succ])
    refine wpAnyH_ready (rs := [33]) (by kernel_rfl) (by simp) ?_
    refine AllReadyH.cons rfl (fun K hK => ?_) AllReadyH.nil
    go_simp
    go_at_call 8; refine (awake05_any _ (HT.out.below (B3.out.trans ((((below_drewN (Below.refl w3.heap.size w3) _).trans hb21).trans ((hb22.trans ((hb23.trans ((hb24.trans (hb25.mono hb24.size)).mono hb23.size)).mono hb22.size)).mono hb21.size)).mono B3.out.size)))).mono ?_; rintro e w26 ⟨rfl, hb26⟩
    try go_wp2_with fail
    refine hK.out _ _ ?_ (fun hHeld2 => ?_)
    · (try dsimp only)
      (first | (go_keep; done) | (go_split_ands; exact ⟨below_cell hb21 (by assumption), below_cell hb21 (by assumption), below_cell hb21 (by assumption)⟩) | (go_split_ands; exact ⟨below_cell hb22 (by assumption), below_cell hb22 (by assumption), below_cell hb22 (by assumption)⟩) | (go_split_ands; exact ⟨below_cell hb23 (by assumption), below_cell hb23 (by assumption), below_cell hb23 (by assumption)⟩) | (go_split_ands; exact ⟨below_cell hb24 (by assumption), below_cell hb24 (by assumption), below_cell hb24 (by assumption)⟩) | (go_split_ands; exact ⟨below_cell hb25 (by assumption), below_cell hb25 (by assumption), below_cell hb25 (by assumption)⟩) | (go_split_ands; exact ⟨below_cell hb26 (by assumption), below_cell hb26 (by assumption), below_cell hb26 (by assumption)⟩))
    clear hK K hHeld
    have hHeld := hHeld2
    clear hHeld2
    (try simp only [Act.put, List.getElem_toArray, List.getElem_cons_succ, List.getElem_cons_zero, List.setIfInBounds_toArray, List.set_cons_zero, List.set_cons_succ])
    refine wpAnyH_take (i := 34) (v := ?v34) rfl (by kernel_rfl) (by kernel_rfl) (by kernel_rfl) (fun _ _ _ h => h) (Or.inl ⟨by rfl, ?hy34⟩) (by assumption) ?rest34
    case hy34 =>
      intro w' hSw
      (try dsimp only at hSw)
      go_simp
      all_goals (with_reducible rfl)
    (try simp only [Act.put, List.getElem_toArray, List.getElem_cons_succ, List.getElem_cons_zero, List.setIfInBounds_toArray, List.set_cons_zero, List.set_cons_succ])
    refine wpAnyH_take (i := 35) (v := ?v35) rfl (by kernel_rfl) (by kernel_rfl) (by kernel_rfl) (fun _ _ _ h => h) (Or.inl ⟨by rfl, ?hy35⟩) (by assumption) ?rest35
    case hy35 =>
      intro w' hSw
      (try dsimp only at hSw)
      go_simp
      all_goals (with_reducible rfl)
    (try simp only [Act.put, List.getElem_toArray, List.getElem_cons_succ, List.getElem_cons_zero, List.setIfInBounds_toArray, List.set_cons_zero, List.set_cons_succ])
    refine wpAnyH_done (by kernel_rfl) ?_ _
    refine NoPanic.normal ?_
    go_wp2
    go_ret
    have h1 := (((below_drewN (Below.refl w3.heap.size w3) _).trans hb21).trans ((hb22.trans ((hb23.trans ((hb24.trans ((hb25.trans (hb26.mono hb25.size)).mono hb24.size)).mono hb23.size)).mono hb22.size)).mono hb21.size))
    exact ⟨rfl, B3.out.trans (h1.mono B3.out.size)⟩
  · have HL := Lib.hid (fun w2 (hb : Below w.heap.size w w2) => lines05_bad char A n c B m d s data D D' w2 (hs.below hb) (hd.below hb) his hr)
    have HRL := Lib.hid (fun w2 (hb : Below w.heap.size w w2) => rlines05_bad char A n c B m d s data D D' w2 (hs.below hb) (hd.below hb) his hr)
    have HF := Lib.hid (fun w2 (hb : Below w.heap.size w w2) => first05_bad char A n c B m d s data most D D' w2 (hs.below hb) (hd.below hb) his hr)
    have HRF := Lib.hid (fun w2 (hb : Below w.heap.size w w2) => rfirst05_bad char A n c B m d s data most D D' w2 (hs.below hb) (hd.below hb) his hr)
    clear hk hs hd his hi hmo ht hr
    go_enter Tryd.func5, Tryd.ntmps5
    go_wp2_with fail
    obtain ⟨wa, hwa⟩ : ∃ wa, wa = w.alloc (.cells #[.bool char, .slice A n c, .slice B m d] 27) := ⟨_, rfl⟩
    have hba : Below w.heap.size w wa := by rw [hwa]; exact HB.out _
    have hxa : wa.heap[w.heap.size]? = some (.cells #[.bool char, .slice A n c, .slice B m d] 27 (0, 0)) := by rw [hwa]; exact heap_alloc_new w _
    rw [← hwa]
    have BA := Lib.hid hba
    have XA := Lib.hid hxa
    clear hwa hba hxa HB
    refine (HG.out wa BA.out).mono ?_
    rintro e w1 ⟨rfl, hb1⟩
    have B1 := Lib.hid (BA.out.trans (hb1.mono BA.out.size))
    have X1 := Lib.hid ((hb1.block _ (lt_of_block XA.out)).trans XA.out)
    obtain ⟨p0, p1, p2⟩ := agg_fields X1.out
    clear hb1 HG
    go_wp2_with fail
    refine (HL.out w1 B1.out).mono ?_
    rintro e w2 ⟨rfl, hb2⟩
    have B2 := Lib.hid (B1.out.trans (hb2.mono B1.out.size))
    have X2 := Lib.hid ((hb2.block _ (lt_of_block X1.out)).trans X1.out)
    have T2 := Lib.hid (Txs.nil w2 0)
    clear hb2 p0 p1 p2 
    obtain ⟨p0, p1, p2⟩ := agg_fields X2.out
    go_wp2_with fail
    refine (HRL.out w2 B2.out).mono ?_
    rintro e w3 ⟨rfl, hb3⟩
    have B3 := Lib.hid (B2.out.trans (hb3.mono B2.out.size))
    have X3 := Lib.hid ((hb3.block _ (lt_of_block X2.out)).trans X2.out)
    have T3 := Lib.hid (Txs.nil w3 0)
    have HT1 := Lib.hid (fun w9 (h9 : Below w3.heap.size w3 w9) => (ltexts_txs w9 _ _ _ _ _ _ ((T2.out.below hb3).below h9) (T3.out.below h9)).mono (R' := fun e w' => e = .returned (.bool true) ∧ Below w9.heap.size w9 w') (by rintro e w' ⟨rfl, hb⟩; exact ⟨by rw [decide_eq_true rfl], hb⟩))
    have HT2 := Lib.hid (fun w9 b1 b2 f1 f2 L (h1 : Txs w9 b1 f1 L) (h2 : Txs w9 b2 f2 L) => (ltexts_txs w9 b1 b2 f1 f2 L L h1 h2).mono (R' := fun e w' => e = .returned (.bool true) ∧ Below w9.heap.size w9 w') (by rintro e w' ⟨rfl, hb⟩; exact ⟨by rw [decide_eq_true rfl], hb⟩))
    clear hb3 p0 p1 p2 HL HRL 
    obtain ⟨p0, p1, p2⟩ := agg_fields X3.out
    go_upto_region 5 with fail
    go_region_held3 (fun w' => w'.cell? ⟨w.heap.size, 0, none⟩ = some (.bool char) ∧ w'.cell? ⟨w.heap.size, 1, none⟩ = some (.slice A n c) ∧ w'.cell? ⟨w.heap.size, 2, none⟩ = some (.slice B m d))
      (first | (go_keep; done) | (go_split_ands; exact ⟨below_cell hb21 (by assumption), below_cell hb21 (by assumption), below_cell hb21 (by assumption)⟩) | (go_split_ands; exact ⟨below_cell hb22 (by assumption), below_cell hb22 (by assumption), below_cell hb22 (by assumption)⟩) | (go_split_ands; exact ⟨below_cell hb23 (by assumption), below_cell hb23 (by assumption), below_cell hb23 (by assumption)⟩) | (go_split_ands; exact ⟨below_cell hb24 (by assumption), below_cell hb24 (by assumption), below_cell hb24 (by assumption)⟩) | (go_split_ands; exact ⟨below_cell hb25 (by assumption), below_cell hb25 (by assumption), below_cell hb25 (by assumption)⟩) | (go_split_ands; exact ⟨below_cell hb26 (by assumption), below_cell hb26 (by assumption), below_cell hb26 (by assumption)⟩))
      ((first
        | (go_at_call 14; refine (number05_any k _ HK.out (HT.out.below (B3.out.trans ((below_drewN (Below.refl w3.heap.size w3) _).mono B3.out.size)))).mono ?_; rintro e w21 ⟨rfl, hb21⟩)
        | (go_at_call 19; refine (rNumber05_any k _ HK.out).mono ?_; rintro e w99 ⟨rfl, rfl⟩)
        | (go_at_call 16; refine (HT1.out _ ((below_drewN (Below.refl w3.heap.size w3) _).trans hb21)).mono ?_; rintro e w22 ⟨rfl, hb22⟩)
        | (go_at_call 13; refine (HF.out _ (B3.out.trans ((((below_drewN (Below.refl w3.heap.size w3) _).trans hb21).trans (hb22.mono hb21.size)).mono B3.out.size))).mono ?_; rintro e w23 ⟨rfl, hb23⟩)
        | (go_at_call 20; refine (HRF.out _ (B3.out.trans ((((below_drewN (Below.refl w3.heap.size w3) _).trans hb21).trans ((hb22.trans (hb23.mono hb22.size)).mono hb21.size)).mono B3.out.size))).mono ?_; rintro e w24 ⟨rfl, hb24⟩)
        | (go_at_call 16; refine (HT2.out _ _ _ _ _ _ (Txs.nil _ 0) (Txs.nil _ 0)).mono ?_; rintro e w25 ⟨rfl, hb25⟩)
        | (go_at_call 8; refine (awake05_any _ (HT.out.below (B3.out.trans ((((below_drewN (Below.refl w3.heap.size w3) _).trans hb21).trans ((hb22.trans ((hb23.trans ((hb24.trans (hb25.mono hb24.size)).mono hb23.size)).mono hb22.size)).mono hb21.size)).mono B3.out.size)))).mono ?_; rintro e w26 ⟨rfl, hb26⟩)))
    go_wp2
    go_ret
    have h1 := (((below_drewN (Below.refl w3.heap.size w3) _).trans hb21).trans ((hb22.trans ((hb23.trans ((hb24.trans ((hb25.trans (hb26.mono hb25.size)).mono hb24.size)).mono hb23.size)).mono hb22.size)).mono hb21.size))
    exact ⟨rfl, B3.out.trans (h1.mono B3.out.size)⟩
end Go.Proofs.YtjkofndnhmfnoaaDoor
