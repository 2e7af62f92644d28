/-
  The reference of layer 19 (anamnesisref19): contract of Keys. Of any store that can be read.
-/
import Derived.Test.YtochdmbjlemfoaaC17
namespace Go.Proofs.Ytochdmbjlemfoaa
open Go Go.RowKit Go.Maps

/-- A list of texts that the call is making. -/
def KRel (wa wr : World) (v : Value) (L : List ByteArray) : Prop := wr.ownsRow wa.heap.size 9 1 v L.length (strRows L).flatten ∧ Below wa.heap.size wa wr
theorem KRel.more {wa wr w5 : World} {v v5 : Value} {L : List ByteArray} {x : ByteArray} {o : Obj} (h : KRel wa wr v L) (hown : w5.ownsRow wa.heap.size 9 1 v5 (L.length + 1) ((strRows L).flatten ++ [.string x])) (hg : (wr.alloc o).grownBy w5 v.ownBlock) : KRel wa w5 v5 (L ++ [x]) := by
  refine ⟨?_, (h.2.alloc h.2.size _).grown hg (by have := h.2.size; simp; omega) (fun j hj => (h.1.lt j hj).1)⟩
  unfold strRows at hown ⊢
  rw [List.map_append, List.flatten_append]
  simpa using hown

set_option maxRecDepth 100000 in
set_option maxHeartbeats 1600000 in
theorem rKeys_any (E D : Nat → Prop) (A : Option Addr) (c : Nat) (es : List (List Value)) (B : Option Addr) (g d : Nat) (K : List ByteArray) (T : ByteArray → TD) (p : ByteArray) (w : World) (hcs : Rd w E 15 A K.length c es) (hare : CellsAre w D es (cellsOf K T)) (helt : ∀ b, E b → b < w.heap.size) (hK : K.length ≤ 1000000) :
    Calls Try.prog 59 #[.agg #[.slice A K.length c, .slice B g d], .string p] w fun e w' => ∃ A' c', e = .returned (.slice A' (K.filter (begins p)).length c') ∧ Rd w' (fun b => w.heap.size ≤ b) 1 A' (K.filter (begins p)).length c' (strRows (K.filter (begins p))) ∧ Below w.heap.size w w' := by
  obtain ⟨i0, hi, hz0, hz1, hz2⟩ := strParts
  obtain ⟨n, hn⟩ : ∃ n, n = K.length := ⟨_, rfl⟩
  rw [← hn] at hcs hK ⊢
  have HX := Lib.hid hcs
  have HL := Lib.hid hare
  have HE := Lib.hid helt
  have HN := Lib.hid hn
  clear hcs hare helt hn
  go_enter Try.func59, Try.ntmps59
  go_wp2
  obtain ⟨wa, hwa⟩ : ∃ wa, wa = w.alloc (.cells #[.slice A n c, .slice B g d] 88) := ⟨_, rfl⟩
  have hba : wa.heap[w.heap.size]? = some (.cells #[.slice A n c, .slice B g d] 88 (0, 0)) := by rw [hwa]; exact heap_alloc_new _ _
  have hbw : Below w.heap.size w wa := by rw [hwa]; exact (Below.refl _ w).alloc (Nat.le_refl _) _
  rw [← hwa]
  have e0 : wa.cell? ⟨w.heap.size, 0, none⟩ = some (.slice A n c) := by rw [cell_of_row wa _ 0 _ _ _ hba]; rfl
  have E0 := Lib.hid e0
  have BW := Lib.hid hbw
  clear hwa hba hbw e0
  go_loopw [5, 6] (fun v i wr => ∃ j : Nat, j ≤ n ∧ i = .int .i64 (j : Int) ∧ RowKit.Hid (KRel wa wr v ((K.take j).filter (begins p)))) (fun _ i _ => n - (RowKit.intOf i).toNat)
  case atStart => exact ⟨0, Nat.zero_le _, rfl, World.ownsRow_nil _ _ _ _, Below.refl _ _⟩
  case round =>
    obtain ⟨j, hj, rfl, hst⟩ := hrel
    have s0 := below_cell hst.out.2 E0.out
    by_cases hlt : j < n
    · have q1 : (j : Int) < (n : Int) := by omega
      obtain ⟨b, off, hA, hEb, hc⟩ := HX.out.at_ (by omega)
      obtain ⟨e, he⟩ : ∃ e, es[j]? = some e := ⟨_, List.getElem?_eq_getElem (by rw [HX.out.len]; exact hlt)⟩
      obtain ⟨x, hxk⟩ : ∃ x, K[j]? = some x := ⟨_, List.getElem?_eq_getElem (by rw [← HN.out]; exact hlt)⟩
      obtain ⟨ts, rfl, ht⟩ := HL.out.2 j e ⟨x, T x⟩ he (by unfold cellsOf; rw [List.getElem?_map, hxk]; rfl)
      have a0 := row_cells (hc j _ he) (BW.out.trans (hst.out.2.mono BW.out.size)) 0 _ rfl
      simp only [Nat.add_zero] at a0
      have hts : K.take (j + 1) = K.take j ++ [x] := by rw [List.take_add_one, hxk]; rfl
      have HTS := Lib.hid hts
      have hbl := List.length_filter_le (begins p) (K.take j)
      rw [List.length_take] at hbl
      have HS := hst.out.2.size
      subst hA
      clear hc he hxk hts ht
      cases hb : begins p x with
      | true =>
        have h1 : p.size ≤ x.size := by
          refine Nat.le_of_not_lt fun h => ?_
          rw [begins_long h] at hb
          cases hb
        have hq : (p.size : Int) ≤ (x.size : Int) := by omega
        have hcut := (begins_cut h1).symm.trans hb
        have e1 : (K.take (j + 1)).filter (begins p) = (K.take j).filter (begins p) ++ [x] := by rw [HTS.out, List.filter_append, List.filter_cons_of_pos hb, List.filter_nil]
        have E1 := Lib.hid e1
        clear e1 hb
        generalize hLj : (K.take j).filter (begins p) = Lj at *
        clear hLj
        go_wp2_with (at_builtin; refine wpList_append_own _ rfl (.tmp 34) (.tmp 36) 40 rfl wa.heap.size 9 i0 (.string ⟨#[]⟩) 1 16 Try.underlying40 hi hz0 hz1 hz2 rfl (by decide) _ _ _ rfl (World.ownsRow.alloc hst.out.1 _) ⟨wr.heap.size, 0, none⟩ 1 1 [.string x] rfl rfl (cell_one_new _ _ _) (by simp [Value.oneCell']) (by unfold maxLen; omega) (by omega) (by simp; omega) ?_; intro v5 w5 hown5 hgrow5 _)
        have H6 : RowKit.Hid (KRel wa w5 v5 ((K.take (j + 1)).filter (begins p))) := by
          show KRel _ _ _ _
          rw [E1.out]
          exact hst.out.more hown5 hgrow5
        clear hown5 hgrow5
        go_wp2
        go_roundw
        case rel => exact ⟨j + 1, by omega, by go_num, H6.out⟩
        case measure => simp [RowKit.intOf]; omega
      | false =>
        have e1 : (K.take (j + 1)).filter (begins p) = (K.take j).filter (begins p) := by rw [HTS.out, List.filter_append, List.filter_cons_of_neg (by rw [hb]; simp), List.filter_nil, List.append_nil]
        have H6 : RowKit.Hid (KRel wa wr u5 ((K.take (j + 1)).filter (begins p))) := by show KRel _ _ _ _; rw [e1]; exact hst.out
        clear e1
        by_cases h1 : p.size ≤ x.size
        · have hq : (p.size : Int) ≤ (x.size : Int) := by omega
          have hcut := (begins_cut h1).symm.trans hb
          clear hb
          go_wp2
          go_roundw
          case rel => exact ⟨j + 1, by omega, by go_num, H6.out⟩
          case measure => simp [RowKit.intOf]; omega
        · have hq : ¬ (p.size : Int) ≤ (x.size : Int) := by omega
          clear hb
          go_wp2
          go_roundw
          case rel => exact ⟨j + 1, by omega, by go_num, H6.out⟩
          case measure => simp [RowKit.intOf]; omega
    · have hjn : j = n := by omega
      subst hjn
      have eT : K.take j = K := List.take_of_length_le (by rw [HN.out]; exact Nat.le_refl _)
      rw [eT] at hst
      obtain ⟨A9, c9, rfl, hr9⟩ := Rd.of_own hst.out.1 (by simp [strRows]) (strRows_ok _)
      have R9 := Lib.hid hr9
      clear hr9 eT
      go_wp2
      go_ret
      exact ⟨A9, c9, rfl, R9.out.mono (fun b _ h => Nat.le_trans BW.out.size h) (by decide), BW.out.trans (hst.out.2.mono BW.out.size)⟩
end Go.Proofs.Ytochdmbjlemfoaa
