/-
  The laws' own 'awake' (package anamnesislaw24): three groups in a ring of two. It returns true, whatever the world.
-/
import Derived.Test.YtochdmbjlemfoaaU4
namespace Go.Proofs.Ytochdmbjlemfoaa
open Go Go.RowKit

/-- The slice that 'group' made, in the world behind it. -/
theorem group_rd (w : World) (key : ByteArray) (D : Nat → Prop) (hD : D w.heap.size) : Rd (w.alloc (.cells (groupE key).toArray 47)) D 16 (some ⟨w.heap.size, 0, none⟩) 1 1 [groupE key] :=
  ⟨rfl, Nat.le_refl _, by decide, by simp [groupE, Value.oneCell'], fun _ => ⟨w.heap.size, 0, rfl, hD, fun i e hi k u hk => by
    have hi0 : i = 0 := by
      have := (List.getElem?_eq_some_iff.1 hi).1
      simp at this; exact this
    subst hi0
    simp at hi
    subst hi
    rw [cell_of_row _ _ _ _ _ _ (heap_alloc_new w _)]
    simpa using hk⟩⟩

/-- What the ring holds, with its place left open. -/
def RingAt (w : World) (r L c : Nat) (gs : List (List (List Value))) : Prop := ∃ f cs, Ring (RG r L) w r L c f cs gs

set_option maxRecDepth 100000 in
theorem pops_true (r L c : Nat) (key : ByteArray) (gs : List (List (List Value))) (w : World) (h : RingAt w r L c (gs ++ [[groupE key]])) :
    Calls Try.prog 69 #[.pointer (some ⟨r, 0, none⟩), .string key] w fun e w' => e = .returned (.bool true) ∧ RingAt w' r L c gs ∧ Chg (RS r L) w w' := by
  obtain ⟨f, cs, h⟩ := h
  have hp := Lib.hid (pop_ring [groupE key] h)
  clear h
  go_enter Try.func69, Try.ntmps69
  go_wp2_with fail
  refine hp.out.mono ?_
  rintro e w1 ⟨A, m, cs', rfl, hr, hch, hR⟩
  obtain ⟨b, off, rfl, -, hc⟩ := hr.at_ (by simp)
  have c0 := hc 0 (groupE key) rfl 0 (.string key) rfl
  simp only [Nat.zero_mul, Nat.add_zero] at c0
  have H1 := Lib.hid hch
  have H2 := Lib.hid hR
  clear hch hR hr hc
  go_wp2
  go_ret
  exact ⟨rfl, ⟨f, cs', H2.out⟩, H1.out⟩

set_option maxRecDepth 100000 in
theorem push_group {w : World} {r L c : Nat} {gs : List (List (List Value))} (key : ByteArray) (h : RingAt w r L c gs) :
    Calls Try.prog 19 #[.pointer (some ⟨r, 0, none⟩), .slice (some ⟨w.heap.size, 0, none⟩) 1 1] (w.alloc (.cells (groupE key).toArray 47)) fun e w' => e = .returned (.tuple #[]) ∧ RingAt w' r L c (pushG gs [groupE key] c) ∧
      Chg (RS r L) w w' := by
  obtain ⟨f, cs, h⟩ := h
  have h1 := h.r_lt
  have h2 := h.L_lt
  have hb : Below w.heap.size w (w.alloc (.cells (groupE key).toArray 47)) := (Below.refl _ w).alloc (Nat.le_refl _) _
  have hg := group_rd w key (fun b => b ≠ r ∧ b ≠ L) ⟨by omega, by omega⟩
  have hs : [groupE key].length * 256 ≤ 140737488355328 := by simp
  have hp := push_ring (g := [groupE key]) (A := some ⟨w.heap.size, 0, none⟩) (m := 1) (h.below hb) (fun b hb => ⟨by simp at hb; omega, by simp at hb; omega⟩) hg (fun b hb => hb.1) hs
  refine Calls.mono hp ?_
  rintro e w' ⟨rfl, f', cs', hR, hch⟩
  exact ⟨rfl, ⟨f', cs', hR⟩, (Chg.of_below hb).trans hch⟩

set_option maxRecDepth 100000 in
set_option maxHeartbeats 800000 in
theorem awake24_any (w : World) : Calls Try.prog 17 #[] w fun e w' => e = .returned (.bool true) ∧ Below w.heap.size w w' := by
  go_enter Try.func17, Try.ntmps17
  go_wp2_with fail
  refine (new_ring 2 w (by decide)).mono ?_
  rintro e w1 ⟨rfl, ⟨cs1, hR1⟩, hb1⟩
  have R1 : RowKit.Hid (RingAt w1 (w.heap.size + 1) w.heap.size 2 []) := ⟨_, _, hR1⟩
  have B1 := Lib.hid hb1
  clear hR1 hb1
  go_wp2_with (go_at_call 20; refine (group_any _ _).mono ?_; rintro e w' ⟨rfl, rfl⟩)
  refine (push_group _ R1.out).mono ?_
  rintro e w2 ⟨rfl, hR2, hch2⟩
  have R2 := Lib.hid hR2
  have B2 := Lib.hid (hch2.below B1.out.size (by rintro k (rfl | rfl) <;> omega))
  clear hR2 hch2
  go_wp2_with (go_at_call 20; refine (group_any _ _).mono ?_; rintro e w' ⟨rfl, rfl⟩)
  refine (push_group _ R2.out).mono ?_
  rintro e w3 ⟨rfl, hR3, hch3⟩
  have R3 := Lib.hid hR3
  have B3 := Lib.hid (hch3.below (B1.out.trans B2.out).size (by rintro k (rfl | rfl) <;> omega))
  clear hR3 hch3
  go_wp2_with (go_at_call 20; refine (group_any _ _).mono ?_; rintro e w' ⟨rfl, rfl⟩)
  refine (push_group _ R3.out).mono ?_
  rintro e w4 ⟨rfl, hR4, hch4⟩
  have hR4' : RingAt w4 (w.heap.size + 1) w.heap.size 2 [[groupE ⟨#[98]⟩], [groupE ⟨#[99]⟩]] := hR4
  have R4 := Lib.hid hR4'
  have B4 := Lib.hid (hch4.below ((B1.out.trans B2.out).trans B3.out).size (by rintro k (rfl | rfl) <;> omega))
  have c2 : w4.cell? ⟨w.heap.size + 1, 2, none⟩ = some (.int .i64 2) := by obtain ⟨f, cs, h⟩ := hR4'; exact h.c2
  clear hR4 hch4 hR4'
  go_wp2_with (go_at_call 21; refine (rlen_any _ 2 _ c2).mono ?_; rintro e w' ⟨rfl, rfl⟩)
  refine (pops_true _ w.heap.size 2 _ [[groupE ⟨#[98]⟩]] _ R4.out).mono ?_
  rintro e w5 ⟨rfl, hR5, hch5⟩
  have R5 := Lib.hid hR5
  have B5 := Lib.hid (hch5.below (((B1.out.trans B2.out).trans B3.out).trans B4.out).size (by rintro k (rfl | rfl) <;> omega))
  clear hR5 hch5 c2
  go_wp2_with fail
  refine (pops_true _ w.heap.size 2 _ [] _ R5.out).mono ?_
  rintro e w6 ⟨rfl, hR6, hch6⟩
  have d0 : ∃ f, Hdr w6 (w.heap.size + 1) w.heap.size 2 f 0 := by obtain ⟨f, cs, h⟩ := hR6; exact ⟨f, h.hd⟩
  have B6 := Lib.hid (hch6.below ((((B1.out.trans B2.out).trans B3.out).trans B4.out).trans B5.out).size (by rintro k (rfl | rfl) <;> omega))
  clear hR6 hch6
  obtain ⟨f, d0⟩ := d0
  have d1 := d0.c0
  go_wp2_with (first | (go_at_call 22; refine (pop_empty _ _ _ _ _ d0).mono ?_; rintro e w' ⟨rfl, rfl⟩) | (go_at_call 25; refine (rcap_any _ _ _ _ d1).mono ?_; rintro e w' ⟨rfl, rfl⟩))
  go_ret
  exact ⟨rfl, ((((B1.out.trans B2.out).trans B3.out).trans B4.out).trans B5.out).trans B6.out⟩
end Go.Proofs.Ytochdmbjlemfoaa
