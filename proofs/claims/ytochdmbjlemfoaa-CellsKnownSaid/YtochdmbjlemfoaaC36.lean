/-
  A store that New has not made, at zero: ready makes its maps; Set. Plain contracts, of any such store in memory.
-/
import Derived.Test.YtochdmbjlemfoaaC19
namespace Go.Proofs.Ytochdmbjlemfoaa
open Go Go.RowKit Go.Maps Go.ChangeMaps

theorem sk_zero {w w3 : World} {r : Nat} {D : Nat → Prop} {T : ByteArray → TD} (h : w.heap[r]? = some (.cells #[.map none, .slice none 0 0, .map none] 119 (0, 0))) (hD : ∀ b, D b → b < w.heap.size ∧ b ≠ r)
    (h3 : w3 = (((w.setCell ⟨r, 0, none⟩ (.map (some w.heap.size))).setCell ⟨r, 2, none⟩ (.map (some (w.heap.size + 1)))).alloc (.map #[] 0)).alloc (.map #[] 0)) :
    ∃ own', SK w3 own' D r [] T [] ∧ Grow (fun b => b = r) own' w w3 := by
  have hlr : r < w.heap.size := lt_of_block h
  obtain ⟨wA, hA⟩ : ∃ wA, wA = (w.setCell ⟨r, 0, none⟩ (.map (some w.heap.size))).setCell ⟨r, 2, none⟩ (.map (some (w.heap.size + 1))) := ⟨_, rfl⟩
  rw [← hA] at h3
  have hzA : wA.heap.size = w.heap.size := by rw [hA]; simp [World.setCell]
  have hcA : Chg (fun b => b = r) w wA := by
    rw [hA]
    exact Chg.setCell (p := ⟨r, 2, none⟩) (Chg.setCell (p := ⟨r, 0, none⟩) (Chg.refl (fun b => b = r) w) (.inl rfl) _) (.inl rfl) _
  have hhA : wA.heap[r]? = some (.cells #[.map (some w.heap.size), .slice none 0 0, .map (some (w.heap.size + 1))] 119 (0, 0)) := by
    rw [hA]
    exact heap_setCell_same _ r 2 _ _ _ (heap_setCell_same _ r 0 _ _ _ h)
  have hz1 : (wA.alloc (.map #[] 0)).heap.size = w.heap.size + 1 := by simp [hzA]
  have m2 := World.ownsMap_made (wA.alloc (.map #[] 0)) Try.prog 9 heldR
  have m1 := (World.ownsMap_made wA Try.prog 9 heldR).alloc (.map #[] 0)
  rw [hz1] at m2
  rw [hzA] at m1
  rw [← h3] at m1 m2
  have hbl : Below wA.heap.size wA w3 := by rw [h3]; exact ((Below.refl _ wA).alloc (Nat.le_refl _) _).alloc (by simp) _
  have hh3 := (hbl.block r (by omega)).trans hhA
  have hz3 : w3.heap.size = w.heap.size + 2 := by rw [h3]; simp [hzA]
  refine ⟨fun b => b = r ∨ w.heap.size ≤ b ∧ b ≤ w.heap.size + 1, ⟨w.heap.size, w.heap.size + 1, .slice none 0 0, fun _ => undef, [], [], ?_⟩, ⟨hcA.trans (Chg.of_below hbl), fun b hb => hb.elim .inl (fun hb => .inr hb.1)⟩⟩
  exact {
    hdr := hh3
    mt := m1
    mh := m2
    row := World.ownsRow_nil _ _ _ _
    ne := by omega
    ner := by simp [Value.ownBlock]
    owr := .inl rfl
    owt := .inr (by omega)
    owh := .inr (by omega)
    owg := by simp [Value.ownBlock]
    lt := fun b hb => by rcases hb with hb | hb <;> omega
    dlt := fun b hb => by have := (hD b hb).1; omega
    dis := fun b hb => by have := hD b hb; omega
    rise := List.Pairwise.nil
    sz := by simp
    things := by simp
    ents := ⟨rfl, by simp⟩
    keys := by simp
    hle := by simp }
theorem cready_zero (D : Nat → Prop) (r : Nat) (T : ByteArray → TD) (w : World) (h : w.heap[r]? = some (.cells #[.map none, .slice none 0 0, .map none] 119 (0, 0))) (hD : ∀ b, D b → b < w.heap.size ∧ b ≠ r) :
    Calls Try.prog 86 #[.pointer (some ⟨r, 0, none⟩)] w fun e w' => e = .returned (.tuple #[]) ∧ ∃ own', SK w' own' D r [] T [] ∧ Grow (fun b => b = r) own' w w' := by
  have hmm := @run_makeMap Try.prog
  have hq := run_eql_map_nil w 116 9 45 none Try.underlying116
  have c0 : w.cell? ⟨r, 0, none⟩ = some (.map none) := by rw [cell_of_row w r 0 _ _ _ h]; rfl
  have c2 : w.cell? ⟨r, 2, none⟩ = some (.map none) := by rw [cell_of_row w r 2 _ _ _ h]; rfl
  have f0 : w.frozen? ⟨r, 0, none⟩ = false := by unfold World.frozen?; rw [h]; rfl
  have f2 : w.frozen? ⟨r, 2, none⟩ = false := by unfold World.frozen?; rw [h]; rfl
  have hlr : r < w.heap.size := lt_of_block h
  have HS := Lib.hid (fun w3 => sk_zero (w3 := w3) (T := T) h hD)
  clear h hD
  go_enter Try.func86, Try.ntmps86
  go_wp2
  go_end0
  exact ⟨rfl, HS.out _ rfl⟩
set_option maxRecDepth 100000 in
set_option maxHeartbeats 3200000 in
theorem cSet_zero (D : Nat → Prop) (r : Nat) (T : ByteArray → TD) (k : ByteArray) (ts : List Value) (t : TD) (w : World) (h : w.heap[r]? = some (.cells #[.map none, .slice none 0 0, .map none] 119 (0, 0))) (hk : k.size ≤ maxLen) (ht : TIs w D ts t) (hD : ∀ b, D b → b < w.heap.size ∧ b ≠ r) :
    Calls Try.prog 65 #[.pointer (some ⟨r, 0, none⟩), .string k, .agg ts.toArray] w fun e w' => e = .returned (.int .i64 0) ∧ ∃ own', SK w' own' D r (insKS k []) (updT T k t) (touchG [] T [] k) ∧ Grow (fun b => b = r) own' w w' := by
  obtain ⟨A1, n1, c1, A2, n2, c2, A3, n3, c3, A4, n4, c4, A5, n5, c5, rfl⟩ := ht.full
  have HT := Lib.hid ht
  have H := Lib.hid h
  clear ht h
  go_enter Try.func65, Try.ntmps65
  go_wp2_with fail
  obtain ⟨wa, hwa⟩ : ∃ wa, wa = w.alloc (.cells (tL t A1 n1 c1 A2 n2 c2 A3 n3 c3 A4 n4 c4 A5 n5 c5).toArray 45) := ⟨_, rfl⟩
  have hba : wa.heap[w.heap.size]? = some (.cells (tL t A1 n1 c1 A2 n2 c2 A3 n3 c3 A4 n4 c4 A5 n5 c5).toArray 45 (0, 0)) := by rw [hwa]; exact heap_alloc_new _ _
  have hbw : Below w.heap.size w wa := by rw [hwa]; exact (Below.refl _ w).alloc (Nat.le_refl _) _
  have e := hwa.symm
  unfold tL at e
  rw [e]
  have BX := Lib.hid hba
  have BW := Lib.hid hbw
  have hlr : r < w.heap.size := lt_of_block H.out
  have hA := (hbw.block r hlr).trans H.out
  clear e hwa hba
  refine (cready_zero D r T wa hA (fun b hb => ⟨Nat.lt_of_lt_of_le (hD b hb).1 hbw.size, (hD b hb).2⟩)).mono ?_
  rintro e w0 ⟨rfl, own, h0, hg0⟩
  have HA := Lib.hid h0
  have G0 := Lib.hid hg0
  have HNR : RowKit.Hid (w.heap.size ≠ r) := by show _ ≠ _; omega
  have HTW := Lib.hid ((HT.out.below BW.out).chg hg0.chg (fun b hb e => (hD b hb).2 e))
  have hb0 : w0.heap[w.heap.size]? = some (.cells (tL t A1 n1 c1 A2 n2 c2 A3 n3 c3 A4 n4 c4 A5 n5 c5).toArray 45 (0, 0)) := (hg0.chg.block w.heap.size (lt_of_block BX.out) HNR.out).trans BX.out
  have BX0 := Lib.hid hb0
  have HNO : RowKit.Hid (¬ own w.heap.size) := fun ho => (hg0.new _ ho).elim HNR.out (fun h => by have := lt_of_block BX.out; omega)
  clear h0 hg0 hb0 hA hlr hbw
  go_wp2_with fail
  refine (ctouches_any own D r [] T [] k w0 HA.out hk (by decide)).mono ?_
  rintro e w1 ⟨rfl, own1, h1, hg1⟩
  have hb1 : w1.heap[w.heap.size]? = some (.cells (tL t A1 n1 c1 A2 n2 c2 A3 n3 c3 A4 n4 c4 A5 n5 c5).toArray 45 (0, 0)) := (hg1.chg.block w.heap.size (lt_of_block BX0.out) HNO.out).trans BX0.out
  have HT1 := Lib.hid (HTW.out.chg hg1.chg HA.out.dis)
  have G1 := Lib.hid hg1
  obtain ⟨bt, bh, gv, f, Kh, es, hm1⟩ := h1
  have d0 := hm1.c0
  have b0 : w1.cell? ⟨w.heap.size, 0, none⟩ = some (.int .u8 t.kind) := by rw [cell_of_row w1 _ 0 _ _ _ hb1]; rfl
  have b1 : w1.cell? ⟨w.heap.size, 1, none⟩ = some (.bool t.v.char) := by rw [cell_of_row w1 _ 1 _ _ _ hb1]; rfl
  have b2 : w1.cell? ⟨w.heap.size, 2, none⟩ = some (.slice A1 n1 c1) := by rw [cell_of_row w1 _ 2 _ _ _ hb1]; rfl
  have b3 : w1.cell? ⟨w.heap.size, 3, none⟩ = some (.slice A2 n2 c2) := by rw [cell_of_row w1 _ 3 _ _ _ hb1]; rfl
  have b4 : w1.cell? ⟨w.heap.size, 4, none⟩ = some (.string t.f.name) := by rw [cell_of_row w1 _ 4 _ _ _ hb1]; rfl
  have b5 : w1.cell? ⟨w.heap.size, 5, none⟩ = some (.string t.f.result) := by rw [cell_of_row w1 _ 5 _ _ _ hb1]; rfl
  have b6 : w1.cell? ⟨w.heap.size, 6, none⟩ = some (.string t.f.left) := by rw [cell_of_row w1 _ 6 _ _ _ hb1]; rfl
  have b7 : w1.cell? ⟨w.heap.size, 7, none⟩ = some (.string t.f.right) := by rw [cell_of_row w1 _ 7 _ _ _ hb1]; rfl
  have b8 : w1.cell? ⟨w.heap.size, 8, none⟩ = some (.slice A3 n3 c3) := by rw [cell_of_row w1 _ 8 _ _ _ hb1]; rfl
  have b9 : w1.cell? ⟨w.heap.size, 9, none⟩ = some (.slice A4 n4 c4) := by rw [cell_of_row w1 _ 9 _ _ _ hb1]; rfl
  have b10 : w1.cell? ⟨w.heap.size, 10, none⟩ = some (.int .i64 t.f.version) := by rw [cell_of_row w1 _ 10 _ _ _ hb1]; rfl
  have b11 : w1.cell? ⟨w.heap.size, 11, none⟩ = some (.slice A5 n5 c5) := by rw [cell_of_row w1 _ 11 _ _ _ hb1]; rfl
  have b12 : w1.cell? ⟨w.heap.size, 12, none⟩ = some (.int .i64 t.n) := by rw [cell_of_row w1 _ 12 _ _ _ hb1]; rfl
  have b13 : w1.cell? ⟨w.heap.size, 13, none⟩ = some (.string t.s) := by rw [cell_of_row w1 _ 13 _ _ _ hb1]; rfl
  have M1 := Lib.hid hm1
  clear hg1 hb1 hm1
  go_wp2
  go_still_tail 6, (by kernel_rfl)
  change wpList _ _ _ _ _ w1.drew
  go_wp2_with (at_mapUpdate; refine wpList_mapUpdate_own _ rfl _ _ _ 116 rfl 9 45 slaw Try.underlying116 heldR bt 0 (smap [] f) rfl M1.out.mt.drew (by decide) (.string k) (.agg (tL t A1 n1 c1 A2 n2 c2 A3 n3 c3 A4 n4 c4 A5 n5 c5).toArray) (.string (kb k)) rfl rfl (keyS hk) (.held (.agg (tL t A1 n1 c1 A2 n2 c2 A3 n3 c3 A4 n4 c4 A5 n5 c5).toArray)) [] rfl ?_; intro w2 hown2 hgrow2)
  go_ret
  obtain ⟨s1, s2⟩ := sk_set M1.out.drew hk (HT1.out.chg (Chg.refl own1 w1).drew M1.out.dis) hgrow2 hown2
  exact ⟨rfl, own1, s1, ((Grow.below BW.out).trans G0.out).trans (G1.out.trans ⟨(Chg.refl own1 w1).drew.trans s2, fun b hb => .inl hb⟩)⟩

end Go.Proofs.Ytochdmbjlemfoaa
