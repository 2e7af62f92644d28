/-
  A store of cells: contracts of touches, Set, Drop. Of any store in memory, and of nil ones.
-/
import Derived.Test.YtjkofndnhmfnoaaDoorC6
import Derived.StillTailTactics
namespace Go.Proofs.YtjkofndnhmfnoaaDoor
open Go Go.RowKit Go.Maps Go.ChangeMaps

theorem ctouches_any (own D : Nat → Prop) (r : Nat) (K : List ByteArray) (T : ByteArray → TD) (G : List ED) (k : ByteArray) (w : World) (h : SK w own D r K T G) (hk : k.size ≤ maxLen) (hG : G.length ≤ 1000000) :
    Calls Tryd.prog 80 #[.pointer (some ⟨r, 0, none⟩), .string k] w fun e w' => e = .returned (.tuple #[]) ∧ ∃ own', SK w' own' D r K T (touchG K T G k) ∧ Grow own own' w w' := by
  by_cases hin : k ∈ G.map ED.key
  · refine (ctouches_old own D r K T G k w h hk hin).mono ?_
    rintro e w' ⟨rfl, rfl⟩
    exact ⟨rfl, own, by unfold touchG; rw [if_pos hin]; exact h, Grow.refl _ _⟩
  · refine (ctouches_new own D r K T G k w h hk hin hG).mono ?_
    rintro e w' ⟨rfl, own', h1, h2⟩
    exact ⟨rfl, own', by unfold touchG; rw [if_neg hin]; exact h1, h2⟩

def updT (T : ByteArray → TD) (k : ByteArray) (t : TD) : ByteArray → TD := fun x => if x = k then t else T x
theorem updT_same (T : ByteArray → TD) (k : ByteArray) (t : TD) : updT T k t k = t := by simp [updT]
theorem updT_other (T : ByteArray → TD) (k : ByteArray) (t : TD) (x : ByteArray) (h : x ≠ k) : updT T k t x = T x := by simp [updT, h]

section
variable {w w' : World} {own D : Nat → Prop} {r : Nat} {K : List ByteArray} {T : ByteArray → TD} {G : List ED} {bt bh : Nat} {gv : Value} {f : ByteArray → Value} {Kh : List ByteArray} {es : List (List Value)}
theorem SM.drew (h : SM w own D r K T G bt bh gv f Kh es) : SM w.drew own D r K T G bt bh gv f Kh es := { h with
  things := fun k hk => by
    obtain ⟨ts, h1, h2⟩ := h.things k hk
    exact ⟨ts, h1, h2.chg (Chg.refl own w).drew h.dis⟩
  ents := h.ents.chg (Chg.refl own w).drew h.dis }
/-- The map of things has turned. -/
theorem SM.turn (h : SM w own D r K T G bt bh gv f Kh es) (hc : Chg (fun j => j = bt) w w') {K' : List ByteArray} {T' : ByteArray → TD} {f' : ByteArray → Value} {n : Nat} (hm : w'.ownsMap Tryd.prog 9 heldR bt n (smap K' f')) (hr : RisS K') (hs : ∀ k ∈ K', k.size ≤ maxLen)
    (ht : ∀ k ∈ K', ∃ ts, f' k = .agg ts.toArray ∧ TIs w D ts (T' k)) : SM w' own D r K' T' G bt bh gv f' Kh es ∧ Chg own w w' := by
  have co : Chg own w w' := hc.mono (fun j _ hj => by rw [hj]; exact h.owt)
  exact ⟨{
    hdr := (hc.block r (lt_of_block h.hdr) h.rt).trans h.hdr
    mt := tightS hm (smap_size _ _)
    mh := ownsMap_chg h.mh hc (fun e => h.ne e.symm)
    row := ownsRow_chg h.row hc (fun g hg e => map_not_row h.mt h.row hg e.symm)
    ne := h.ne, ner := h.ner, owr := h.owr, owt := h.owt, owh := h.owh, owg := h.owg
    lt := fun b hb => Nat.lt_of_lt_of_le (h.lt b hb) hc.size
    dlt := fun b hb => Nat.lt_of_lt_of_le (h.dlt b hb) hc.size
    dis := h.dis, rise := hr, sz := hs
    things := fun k hk => by
      obtain ⟨ts, h1, h2⟩ := ht k hk
      exact ⟨ts, h1, h2.chg co h.dis⟩
    ents := h.ents.chg co h.dis
    keys := h.keys, hle := h.hle }, co⟩
theorem sk_set (h : SM w own D r K T G bt bh gv f Kh es) {k : ByteArray} {ts : List Value} {t : TD} (hk : k.size ≤ maxLen) (ht : TIs w D ts t) (hg : w.grownBy w' (some bt)) (hm : w'.ownsMap Tryd.prog 9 heldR bt (K.length + 1) ((smap K f).put (.string (kb k)) (.held (.agg ts.toArray)))) :
    SK w' own D r (insKS k K) (updT T k t) G ∧ Chg own w w' := by
  rw [smap_put] at hm
  obtain ⟨h1, h2⟩ := h.turn (T' := updT T k t) (cg_grown hg) hm (risS_insKS k K h.rise) (fun x hx => ((mem_insKS k K x).1 hx).elim (fun e => by rw [e]; exact hk) (h.sz x)) (fun x hx => by
    by_cases hxk : x = k
    · subst hxk
      exact ⟨ts, upd_same _ _ _, by rw [updT_same]; exact ht⟩
    · obtain ⟨ts', e1, e2⟩ := h.things x (((mem_insKS k K x).1 hx).resolve_left hxk)
      exact ⟨ts', (upd_other _ _ _ _ hxk).trans e1, by rw [updT_other _ _ _ _ hxk]; exact e2⟩)
  exact ⟨⟨_, _, _, _, _, _, h1⟩, h2⟩
theorem sk_del (h : SM w own D r K T G bt bh gv f Kh es) {k : ByteArray} {n : Nat} (hg : w.mapTurned w' bt) (hm : w'.ownsMap Tryd.prog 9 heldR bt n ((smap K f).del (.string (kb k)))) :
    SK w' own D r (K.filter (· ≠ k)) T G ∧ Chg own w w' := by
  rw [smap_del] at hm
  obtain ⟨h1, h2⟩ := h.turn (T' := T) (cg_turned hg) hm (risS_filter _ _ h.rise) (fun x hx => h.sz x (List.mem_filter.1 hx).1) (fun x hx => h.things x (List.mem_filter.1 hx).1)
  exact ⟨⟨_, _, _, _, _, _, h1⟩, h2⟩
end

theorem cSet_nil (k : ByteArray) (ts : List Value) (t : TD) (D : Nat → Prop) (w : World) (ht : TIs w D ts t) :
    Calls Tryd.prog 53 #[.pointer none, .string k, .agg ts.toArray] w fun e w' => e = .returned (.int .i64 2) ∧ Below w.heap.size w w' := by
  obtain ⟨A1, n1, c1, A2, n2, c2, A3, n3, c3, A4, n4, c4, A5, n5, c5, rfl⟩ := ht.full
  have HB := Lib.hid (fun o => (Below.refl w.heap.size w).alloc (Nat.le_refl _) o)
  clear ht
  go_enter Tryd.func53, Tryd.ntmps53
  go_wp2
  go_ret
  exact ⟨rfl, HB.out _⟩

set_option maxRecDepth 100000 in
set_option maxHeartbeats 3200000 in
theorem cSet_any (own D : Nat → Prop) (r : Nat) (K : List ByteArray) (T : ByteArray → TD) (G : List ED) (k : ByteArray) (ts : List Value) (t : TD) (w : World) (h : SK w own D r K T G) (hk : k.size ≤ maxLen) (hG : G.length ≤ 1000000) (hK : K.length ≤ 1000000) (ht : TIs w D ts t) :
    Calls Tryd.prog 53 #[.pointer (some ⟨r, 0, none⟩), .string k, .agg ts.toArray] w fun e w' => e = .returned (.int .i64 0) ∧ ∃ own', SK w' own' D r (insKS k K) (updT T k t) (touchG K T G k) ∧ Grow own own' w w' := by
  obtain ⟨A1, n1, c1, A2, n2, c2, A3, n3, c3, A4, n4, c4, A5, n5, c5, rfl⟩ := ht.full
  have HT := Lib.hid ht
  have H := Lib.hid h
  clear ht h
  go_enter Tryd.func53, Tryd.ntmps53
  go_wp2_with fail
  obtain ⟨wa, hwa⟩ : ∃ wa, wa = w.alloc (.cells (tL t A1 n1 c1 A2 n2 c2 A3 n3 c3 A4 n4 c4 A5 n5 c5).toArray 53) := ⟨_, rfl⟩
  have hba : wa.heap[w.heap.size]? = some (.cells (tL t A1 n1 c1 A2 n2 c2 A3 n3 c3 A4 n4 c4 A5 n5 c5).toArray 53 (0, 0)) := by rw [hwa]; exact heap_alloc_new _ _
  have hbw : Below w.heap.size w wa := by rw [hwa]; exact (Below.refl _ w).alloc (Nat.le_refl _) _
  have e := hwa.symm
  unfold tL at e
  rw [e]
  have BX := Lib.hid hba
  have BW := Lib.hid hbw
  have HA := Lib.hid (H.out.below hbw)
  clear e hwa hba hbw
  obtain ⟨bt0, bh0, gv0, f0, Kh0, es0, hm0⟩ := HA.out
  refine (cready_any r bt0 wa hm0.c0).mono ?_
  rintro e w1 ⟨rfl, rfl⟩
  clear hm0
  go_wp2_with fail
  refine (ctouches_any own D r K T G k wa HA.out hk hG).mono ?_
  rintro e w1 ⟨rfl, own1, h1, hg1⟩
  have hb1 : w1.heap[w.heap.size]? = some (.cells (tL t A1 n1 c1 A2 n2 c2 A3 n3 c3 A4 n4 c4 A5 n5 c5).toArray 53 (0, 0)) := (hg1.chg.block w.heap.size (lt_of_block BX.out) (fun ho => by have := H.out.lt _ ho; omega)).trans BX.out
  have HT1 := Lib.hid ((HT.out.below BW.out).chg hg1.chg HA.out.dis)
  have G1 := Lib.hid hg1
  obtain ⟨bt, bh, gv, f, Kh, es, hm1⟩ := h1
  have d0 := hm1.c0
  have b0 : w1.cell? ⟨w.heap.size, 0, none⟩ = some (.int .u8 t.kind) := by rw [cell_of_row w1 _ 0 _ _ _ hb1]; rfl
  have b1 : w1.cell? ⟨w.heap.size, 1, none⟩ = some (.bool t.v.char) := by rw [cell_of_row w1 _ 1 _ _ _ hb1]; rfl
  have b2 : w1.cell? ⟨w.heap.size, 2, none⟩ = some (.slice A1 n1 c1) := by rw [cell_of_row w1 _ 2 _ _ _ hb1]; rfl
  have b3 : w1.cell? ⟨w.heap.size, 3, none⟩ = some (.slice A2 n2 c2) := by rw [cell_of_row w1 _ 3 _ _ _ hb1]; rfl
  have b4 : w1.cell? ⟨w.heap.size, 4, none⟩ = some (.string t.f.name) := by rw [cell_of_row w1 _ 4 _ _ _ hb1]; rfl
  have b5 : w1.cell? ⟨w.heap.size, 5, none⟩ = some (.string t.f.result) := by rw [cell_of_row w1 _ 5 _ _ _ hb1]; rfl
  have b6 : w1.cell? ⟨w.heap.size, 6, none⟩ = some (.string t.f.left) := by rw [cell_of_row w1 _ 6 _ _ _ hb1]; rfl
  have b7 : w1.cell? ⟨w.heap.size, 7, none⟩ = some (.string t.f.right) := by rw [cell_of_row w1 _ 7 _ _ _ hb1]; rfl
  have b8 : w1.cell? ⟨w.heap.size, 8, none⟩ = some (.slice A3 n3 c3) := by rw [cell_of_row w1 _ 8 _ _ _ hb1]; rfl
  have b9 : w1.cell? ⟨w.heap.size, 9, none⟩ = some (.slice A4 n4 c4) := by rw [cell_of_row w1 _ 9 _ _ _ hb1]; rfl
  have b10 : w1.cell? ⟨w.heap.size, 10, none⟩ = some (.int .i64 t.f.version) := by rw [cell_of_row w1 _ 10 _ _ _ hb1]; rfl
  have b11 : w1.cell? ⟨w.heap.size, 11, none⟩ = some (.slice A5 n5 c5) := by rw [cell_of_row w1 _ 11 _ _ _ hb1]; rfl
  have b12 : w1.cell? ⟨w.heap.size, 12, none⟩ = some (.int .i64 t.n) := by rw [cell_of_row w1 _ 12 _ _ _ hb1]; rfl
  have b13 : w1.cell? ⟨w.heap.size, 13, none⟩ = some (.string t.s) := by rw [cell_of_row w1 _ 13 _ _ _ hb1]; rfl
  have M1 := Lib.hid hm1
  clear hg1 hb1 hm1
  go_wp2
  go_still_tail 6, (by kernel_rfl)
  change wpList _ _ _ _ _ w1.drew
  go_wp2_with (at_mapUpdate; refine wpList_mapUpdate_own _ rfl _ _ _ 73 rfl 9 53 slaw Tryd.underlying73 heldR bt K.length (smap K f) rfl M1.out.mt.drew (by unfold maxLen; omega) (.string k) (.agg (tL t A1 n1 c1 A2 n2 c2 A3 n3 c3 A4 n4 c4 A5 n5 c5).toArray) (.string (kb k)) rfl rfl (keyS hk) (.held (.agg (tL t A1 n1 c1 A2 n2 c2 A3 n3 c3 A4 n4 c4 A5 n5 c5).toArray)) [] rfl ?_; intro w2 hown2 hgrow2)
  go_ret
  obtain ⟨s1, s2⟩ := sk_set M1.out.drew hk (HT1.out.chg (Chg.refl own1 w1).drew M1.out.dis) hgrow2 hown2
  exact ⟨rfl, own1, s1, (Grow.below BW.out).trans (G1.out.trans ⟨(Chg.refl own1 w1).drew.trans s2, fun b hb => .inl hb⟩)⟩

theorem cDrop_nil (k : ByteArray) (w : World) : Calls Tryd.prog 57 #[.pointer none, .string k] w fun e w' => e = .returned (.int .i64 2) ∧ w = w' := by
  go_enter Tryd.func57, Tryd.ntmps57
  go_wp2
  go_ret
  exact ⟨rfl, rfl⟩
theorem cDrop_none (own D : Nat → Prop) (r : Nat) (K : List ByteArray) (T : ByteArray → TD) (G : List ED) (k : ByteArray) (w : World) (h : SK w own D r K T G) (hk : k.size ≤ maxLen) (hin : ¬ k ∈ K) :
    Calls Tryd.prog 57 #[.pointer (some ⟨r, 0, none⟩), .string k] w fun e w' => e = .returned (.int .i64 0) ∧ Below w.heap.size w w' := by
  obtain ⟨bt, bh, gv, f, Kh, es, h⟩ := h
  have c0 := h.c0
  have hlk := look_thing h.mt hk
  rw [if_neg hin, decide_eq_false hin] at hlk
  unfold numE at hlk
  have HB := Lib.hid (fun o => (Below.refl w.heap.size w).alloc (Nat.le_refl _) o)
  clear h hin
  go_enter Tryd.func57, Tryd.ntmps57
  go_wp2
  go_ret
  exact ⟨rfl, HB.out _⟩

set_option maxRecDepth 100000 in
set_option maxHeartbeats 3200000 in
theorem cDrop_some (own D : Nat → Prop) (r : Nat) (K : List ByteArray) (T : ByteArray → TD) (G : List ED) (k : ByteArray) (w : World) (h : SK w own D r K T G) (hk : k.size ≤ maxLen) (hG : G.length ≤ 1000000) (hin : k ∈ K) :
    Calls Tryd.prog 57 #[.pointer (some ⟨r, 0, none⟩), .string k] w fun e w' => e = .returned (.int .i64 0) ∧ ∃ own', SK w' own' D r (K.filter (· ≠ k)) T (touchG K T G k) ∧ Grow own own' w w' := by
  have H := Lib.hid h
  obtain ⟨bt, bh, gv, f, Kh, es, h⟩ := h
  have c0 := h.c0
  have hlk := look_thing h.mt hk
  rw [if_pos hin, decide_eq_true hin] at hlk
  obtain ⟨ts, e1, ht⟩ := h.things k hin
  obtain ⟨A1, n1, c1, A2, n2, c2, A3, n3, c3, A4, n4, c4, A5, n5, c5, rfl⟩ := ht.full
  rw [e1] at hlk
  have HB := Lib.hid (fun o => (Below.refl w.heap.size w).alloc (Nat.le_refl _) o)
  clear h hin e1 ht
  go_enter Tryd.func57, Tryd.ntmps57
  go_wp2_with fail
  refine (ctouches_any own D r K T G k _ (H.out.below (HB.out _)) hk hG).mono ?_
  rintro e w1 ⟨rfl, own1, h1, hg1⟩
  obtain ⟨bt1, bh1, gv1, f1, Kh1, es1, hm1⟩ := h1
  have d0 := hm1.c0
  have M1 := Lib.hid hm1
  have G1 := Lib.hid ((Grow.below (HB.out _)).trans hg1)
  clear hm1 hg1
  go_wp2_with (at_delete; refine wpList_delete_own _ rfl _ _ 73 9 rfl 53 slaw Tryd.underlying73 heldR bt1 K.length (smap K f1) rfl M1.out.mt (.string k) (.string (kb k)) rfl (keyS hk) ?_; intro w2 hown2 hturn2)
  go_ret
  obtain ⟨s1, s2⟩ := sk_del M1.out hturn2 hown2
  exact ⟨rfl, own1, s1, G1.out.trans ⟨s2, fun b hb => .inl hb⟩⟩

/-- The group behind Drop. -/
def dropG (K : List ByteArray) (T : ByteArray → TD) (G : List ED) (k : ByteArray) : List ED := if k ∈ K then touchG K T G k else G
theorem filter_out {K : List ByteArray} {k : ByteArray} (h : ¬ k ∈ K) : K.filter (· ≠ k) = K := List.filter_eq_self.2 fun x hx => by
  simp
  rintro rfl
  exact h hx
theorem cDrop_any (own D : Nat → Prop) (r : Nat) (K : List ByteArray) (T : ByteArray → TD) (G : List ED) (k : ByteArray) (w : World) (h : SK w own D r K T G) (hk : k.size ≤ maxLen) (hG : G.length ≤ 1000000) :
    Calls Tryd.prog 57 #[.pointer (some ⟨r, 0, none⟩), .string k] w fun e w' => e = .returned (.int .i64 0) ∧ ∃ own', SK w' own' D r (K.filter (· ≠ k)) T (dropG K T G k) ∧ Grow own own' w w' := by
  by_cases hin : k ∈ K
  · refine (cDrop_some own D r K T G k w h hk hG hin).mono ?_
    rintro e w' ⟨rfl, own', h1, h2⟩
    exact ⟨rfl, own', by unfold dropG; rw [if_pos hin]; exact h1, h2⟩
  · refine (cDrop_none own D r K T G k w h hk hin).mono ?_
    rintro e w' ⟨rfl, hb⟩
    refine ⟨rfl, own, ?_, Grow.below hb⟩
    unfold dropG
    rw [if_neg hin, filter_out hin]
    exact h.below hb
end Go.Proofs.YtjkofndnhmfnoaaDoor
