/-
  The document's First (anamnesisref05): contract. Of any array that can be read.
-/
import Derived.Test.YtjkofndnhmfnoaaDoorL11
import Derived.Test.YtjkofndnhmfnoaaDoorL13
namespace Go.Proofs.YtjkofndnhmfnoaaDoor
open Go Go.RowKit

theorem rfirst05_bad (char : Bool) (A : Option Addr) (n c : Nat) (B : Option Addr) (m d : Nat) (s data : List Int) (most : Int) (D D' : Nat → Prop) (w : World) (hs : Rd w D 1 A n c (intRows .i64 s)) (hd : Rd w D' 1 B m d (intRows .i64 data)) (hi : ∀ x ∈ s, i64 x) (hr : ¬ rightL char s data) :
    Calls Tryd.prog 20 #[.agg #[.bool char, .slice A n c, .slice B m d], .int .i64 most] w fun e w' => e = .returned (.slice none 0 0) ∧ Below w.heap.size w w' := by
  have HB := Lib.hid (fun o => (Below.refl w.heap.size w).alloc (Nat.le_refl _) o)
  have HR := Lib.hid (fun w2 (hb : Below w.heap.size w w2) => rlines05_bad char A n c B m d s data D D' w2 (hs.below hb) (hd.below hb) hi hr)
  clear hs hd hi hr
  go_enter Tryd.func20, Tryd.ntmps20
  go_wp2_with fail
  refine (HR.out _ (HB.out _)).mono ?_
  rintro e w1 ⟨rfl, hb1⟩
  have B1 := Lib.hid ((HB.out _).trans (hb1.mono (HB.out _).size))
  clear hb1
  go_wp2
  go_ret
  exact ⟨rfl, B1.out⟩
def shTo (s : List Int) (k : Nat) : List UInt8 := Lib.join (txTo s k) [32]
theorem shTo_succ {s : List Int} {k : Nat} {x : Int} (h : s[k]? = some x) : shTo s (k + 1) = shTo s k ++ (if k = 0 then [] else [32]) ++ numL x := by
  unfold shTo
  rw [txTo_succ h, join_snoc]
  congr 2
  by_cases hk : k = 0
  · subst hk; simp [txTo]
  · have hlt := (List.getElem?_eq_some_iff.1 h).1
    rw [if_neg hk, if_neg]
    intro e
    have : (txTo s k).length = 0 := by rw [e]; rfl
    unfold txTo at this
    rw [List.length_map, List.length_take] at this
    omega
theorem numL_le {x : Int} (h : i64 x) : (numL x).length ≤ 21 := by
  have := elL_le (char := false) h
  unfold elL at this
  simpa using this
theorem shTo_le {s : List Int} (h : ∀ x ∈ s, i64 x) (k : Nat) (hk : s.length ≤ 8) : (shTo s k).length ≤ 200 := by
  have := join_le (txTo s k) [32] 21 (fun y hy => by
    obtain ⟨x, hx, rfl⟩ := List.mem_map.1 hy
    exact numL_le (h x (List.mem_of_mem_take hx))) (by decide)
  have hl : (txTo s k).length ≤ 8 := by unfold txTo; rw [List.length_map, List.length_take]; omega
  unfold shTo
  omega
theorem Txs.at_ {w : World} {base : Nat} {A : Option Addr} {n c k : Nat} {l : List (List UInt8)} {t : List UInt8} (h : Txs w base (.slice A n c) l) (hk : l[k]? = some t) : ∃ g, A = some ⟨g, 0, none⟩ ∧ w.cell? ⟨g, k, none⟩ = some (.string (bs t)) := by
  have hlt := (List.getElem?_eq_some_iff.1 hk).1
  rcases h.2 with ⟨e, h0⟩ | ⟨g, cap, cur, e, _⟩
  · omega
  · injection e with e1 e2 e3
    subst e1 e3
    exact ⟨g, rfl, h.cells.2.2.2 k t hk⟩
set_option maxRecDepth 100000 in
set_option maxHeartbeats 3200000 in
theorem rfirst05_good (char : Bool) (A : Option Addr) (n c : Nat) (B : Option Addr) (m d : Nat) (s data : List Int) (most : Int) (D D' : Nat → Prop) (w : World) (hs : Rd w D 1 A n c (intRows .i64 s)) (hd : Rd w D' 1 B m d (intRows .i64 data)) (hi : ∀ x ∈ data, i64 x) (hr : rightL char s data) (hmo : i64 most) (hll : (linesL char s data).length ≤ 100000) :
    Calls Tryd.prog 20 #[.agg #[.bool char, .slice A n c, .slice B m d], .int .i64 most] w fun e w' => ∃ v, e = .returned v ∧ Txs w' w.heap.size v (shapeL s :: (linesL char s data).take most.toNat) ∧ Below w.heap.size w w' := by
  have hlen : s.length = n := by have := hs.len; simpa [intRows] using this
  have hn4 : n ≤ 4 := by have := hr.1; omega
  have HL := Lib.hid hlen
  have HB := Lib.hid (fun o => (Below.refl w.heap.size w).alloc (Nat.le_refl _) o)
  have HR := Lib.hid (fun w2 (hb : Below w.heap.size w w2) => rlines05_good char A n c B m d s data D D' w2 (hs.below hb) (hd.below hb) hi hr)
  have HSI : RowKit.Hid (∀ x ∈ s, i64 x) := fun x hx => by have := hr.2.1 x hx; unfold i64; omega
  obtain ⟨_, hx⟩ := hs.one
  have HX := Lib.hid hx
  have HLL := Lib.hid hll
  obtain ⟨hmo0, hmo1⟩ := hmo
  clear hs hd hi hr hlen hx hll
  go_enter Tryd.func20, Tryd.ntmps20
  go_wp2_with fail
  obtain ⟨wa, hwa⟩ : ∃ wa, wa = w.alloc (.cells #[.bool char, .slice A n c, .slice B m d] 27) := ⟨_, rfl⟩
  have hba : Below w.heap.size w wa := by rw [hwa]; exact HB.out _
  have hxa : wa.heap[w.heap.size]? = some (.cells #[.bool char, .slice A n c, .slice B m d] 27 (0, 0)) := by rw [hwa]; exact heap_alloc_new w _
  rw [← hwa]
  have BA := Lib.hid hba
  have XA := Lib.hid hxa
  clear hwa hba hxa HB
  refine (HR.out wa BA.out).mono ?_
  rintro e w1 ⟨v1, rfl, htx, hb1⟩
  have T1 := Lib.hid htx
  have B1 := Lib.hid hb1
  have hx3 := agg_fields ((hb1.block _ (lt_of_block XA.out)).trans XA.out)
  obtain ⟨p0, p1, p2⟩ := hx3
  obtain ⟨A1, c1, hv1, hc1a, hc1b⟩ := htx.form
  subst hv1
  clear htx hb1 HR
  obtain ⟨L, hL⟩ : ∃ L, L = linesL char s data := ⟨_, rfl⟩
  rw [← hL] at T1 HLL hc1a ⊢
  have HLD := Lib.hid hL
  clear hL
  obtain ⟨N, hN⟩ : ∃ N, N = L.length := ⟨_, rfl⟩
  rw [← hN] at T1 HLL hc1a ⊢
  have HN := Lib.hid hN
  have hNb : N ≤ 100000 := HLL.out
  clear hN
  have HB1 := Lib.hid (BA.out.trans (B1.out.mono BA.out.size))
  go_wp2
  go_loop [7, 8] (fun v i => ∃ k : Nat, k ≤ n ∧ i = .int .i64 (k : Int) ∧ v = .string (bs (shTo s k))) (fun _ i => n - (RowKit.intOf i).toNat)
  case atStart => exact ⟨0, Nat.zero_le _, rfl, rfl⟩
  case round =>
    obtain ⟨k, hk, rfl, rfl⟩ := hrel
    have hsl := shTo_le HSI.out k (by rw [HL.out]; omega)
    have hsz : (bs (shTo s k)).size ≤ 200 := by rw [bs_size]; exact hsl
    by_cases hlt : k < n
    · have q1 : (k : Int) < (n : Int) := by omega
      obtain ⟨b, off, hA, -, hbl, hc⟩ := HX.out (by omega)
      obtain ⟨x, hxk⟩ : ∃ x, s[k]? = some x := ⟨_, List.getElem?_eq_getElem (by rw [HL.out]; exact hlt)⟩
      have cx := below_cell HB1.out (hc k x hxk)
      have hxi := HSI.out x (List.mem_of_getElem? hxk)
      have HNU := Lib.hid (rNumber05_any x w1 hxi)
      have hnl := numL_le hxi
      have hnz : (bs (numL x)).size ≤ 21 := by rw [bs_size]; exact hnl
      have HSN := Lib.hid (shTo_succ hxk)
      subst hA
      clear hc hxk hxi hsl hnl
      by_cases hk0 : k = 0
      · have q2 : ¬ (0 : Int) < (k : Int) := by omega
        have hcat : ¬ 9223372036854775807 < (bs (shTo s k)).size + (bs (numL x)).size := by omega
        have HFN : RowKit.Hid (bs (shTo s k) ++ bs (numL x) = bs (shTo s (k + 1))) := by show _ = _; rw [HSN.out, if_pos hk0, bs_app, List.append_nil]
        clear hk0
        go_wp2_with fail
        refine HNU.out.mono ?_
        rintro e w2 ⟨rfl, rfl⟩
        go_wp2
        go_round
        case rel => exact ⟨k + 1, by omega, by go_num, congrArg Value.string HFN.out⟩
        case measure => simp [RowKit.intOf]; omega
      · have q2 : (0 : Int) < (k : Int) := by omega
        have hc1 : ¬ 9223372036854775807 < (bs (shTo s k)).size + 1 := by omega
        have hs1 : (ByteArray.mk #[32]).size = 1 := rfl
        have hcat : ¬ 9223372036854775807 < (bs (shTo s k)).size + 1 + (bs (numL x)).size := by omega
        have hsz2 : (bs (shTo s k) ++ ByteArray.mk #[32]).size = (bs (shTo s k)).size + 1 := by rw [ByteArray.size_append, hs1]
        have HFN : RowKit.Hid (bs (shTo s k) ++ bs [32] ++ bs (numL x) = bs (shTo s (k + 1))) := by show _ = _; rw [HSN.out, if_neg hk0, bs_app, bs_app]
        clear hk0
        go_wp2_with fail
        refine HNU.out.mono ?_
        rintro e w2 ⟨rfl, rfl⟩
        go_wp2
        go_round
        case rel => exact ⟨k + 1, by omega, by go_num, congrArg Value.string HFN.out⟩
        case measure => simp [RowKit.intOf]; omega
    · have hkn : k = n := by omega
      subst hkn
      have HSS : RowKit.Hid (shTo s k = shapeL s) := by show _ = _; unfold shTo shapeL txTo; rw [List.take_of_length_le (by rw [HL.out]; exact Nat.le_refl _)]
      rw [HSS.out]
      have TS := Lib.hid (txs_lit w1 w1.heap.size [shapeL s] #[.string (bs (shapeL s))] rfl (Nat.le_refl _) (by simp))
      have BS := Lib.hid ((Below.refl w1.heap.size w1).alloc (Nat.le_refl _) (.cells #[.string (bs (shapeL s))] 9))
      obtain ⟨gl, hgl⟩ : ∃ g, g = w1.heap.size := ⟨_, rfl⟩
      clear hsl hsz
      go_wp2
      clear p0 p1 p2
      rw [← hgl] at TS ⊢
      have HGL := Lib.hid hgl
      clear hgl
      go_loopw [9, 10] (fun v i wr => ∃ k : Nat, k ≤ N ∧ i = .int .i64 (k : Int) ∧ ((k : Int) ≤ most ∨ k = 0) ∧ RowKit.Hid (Txs wr gl v (shapeL s :: L.take k)) ∧ RowKit.Hid (Below w1.heap.size w1 wr)) (fun _ i _ => N - (RowKit.intOf i).toNat)
      case atStart => exact ⟨0, Nat.zero_le _, rfl, .inr rfl, by rw [List.take_zero]; exact TS.out, BS.out⟩
      case round =>
        obtain ⟨k', hk, rfl, hkm, htx, hbw⟩ := hrel
        by_cases hlt : k' < N
        · have q1 : (k' : Int) < (N : Int) := by omega
          by_cases hlm : (k' : Int) < most
          · obtain ⟨t, ht⟩ : ∃ t, L[k']? = some t := ⟨_, List.getElem?_eq_getElem (by rw [← HN.out]; exact hlt)⟩
            obtain ⟨g, hA1, cg⟩ := T1.out.at_ ht
            have cx := below_cell hbw.out cg
            have HTK : RowKit.Hid (L.take (k' + 1) = L.take k' ++ [t]) := by show _ = _; rw [List.take_add_one, ht]; rfl
            have HLk : RowKit.Hid ((shapeL s :: L.take k').length ≤ 100001) := by show _ ≤ _; rw [List.length_cons, List.length_take]; omega
            subst hA1
            clear ht cg
            go_wp2_with (at_builtin; refine wpList_append_txs _ rfl (.tmp 50) (.tmp 55) rfl gl _ _ _ _ [t] rfl rfl (World.ownsRow.alloc htx.out _) (txs_lit wr wr.heap.size [t] #[.string (bs t)] rfl (Nat.le_refl _) (by simp)) (by have := HLk.out; simp at this ⊢; omega) (by have := hbw.out.size; have := HGL.out; simp; omega) ?_; intro v6 w6 htx6 hg6)
            have PB := Lib.hid ((hbw.out.alloc hbw.out.size _).grown hg6 (by have := hbw.out.size; simp; omega) (fun j hj => by have := (World.ownsRow.lt htx.out j hj).1; have := HGL.out; omega))
            have PT : RowKit.Hid (Txs w6 gl v6 (shapeL s :: L.take (k' + 1))) := by show Txs _ _ _ _; rw [HTK.out]; exact htx6
            clear htx6 hg6 cx
            go_wp2
            go_roundw
            case rel => exact ⟨k' + 1, by omega, by go_num, .inl (by omega), PT.out, PB.out⟩
            case measure => simp [RowKit.intOf]; omega
          · have hkt : k' = most.toNat := by omega
            have PT := Lib.hid (htx.out.eq (show _ = shapeL s :: (linesL char s data).take most.toNat by rw [← HLD.out, ← hkt]) (show w.heap.size ≤ gl by rw [HGL.out]; exact HB1.out.size))
            have PB := Lib.hid (HB1.out.trans (hbw.out.mono HB1.out.size))
            clear hkt
            go_wp2
            go_ret
            exact ⟨_, rfl, PT.out, PB.out⟩
        · have hkN : k' = N := by omega
          have HTE : RowKit.Hid (L.take k' = L.take most.toNat) := by
            show _ = _
            rcases hkm with h | h
            · rw [List.take_of_length_le (by rw [← HN.out]; omega), List.take_of_length_le (by rw [← HN.out]; omega)]
            · have h0 : L.length = 0 := by rw [← HN.out]; omega
              rw [List.eq_nil_of_length_eq_zero h0]; simp
          have PT := Lib.hid (htx.out.eq (show _ = shapeL s :: (linesL char s data).take most.toNat by rw [← HLD.out, HTE.out]) (show w.heap.size ≤ gl by rw [HGL.out]; exact HB1.out.size))
          have PB := Lib.hid (HB1.out.trans (hbw.out.mono HB1.out.size))
          have q1 : ¬ (k' : Int) < (N : Int) := by omega
          clear hkN
          go_wp2
          go_ret
          exact ⟨_, rfl, PT.out, PB.out⟩
end Go.Proofs.YtjkofndnhmfnoaaDoor
