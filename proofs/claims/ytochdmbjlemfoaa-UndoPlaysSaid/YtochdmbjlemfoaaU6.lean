/-
  The law UndoKnown (package anamnesislaw24): the walk. It returns true, whatever the world; nothing that was there changes.
-/
import Derived.Test.YtochdmbjlemfoaaU5
namespace Go.Proofs.Ytochdmbjlemfoaa
open Go Go.RowKit

theorem new_ring' (c : Nat) (w : World) (h : c ≤ 10000) : Calls Try.prog 18 #[.int .i64 (c : Int)] w fun e w' => e = .returned (.tuple #[.pointer (some ⟨w.heap.size + 1, 0, none⟩), .int .i64 0]) ∧
    RingAt w' (w.heap.size + 1) w.heap.size c [] ∧ Hdr w' (w.heap.size + 1) w.heap.size c 0 0 ∧ Below w.heap.size w w' ∧ w'.heap.size = w.heap.size + 2 := by
  refine (new_good c w h).mono ?_
  rintro e w' ⟨rfl, ⟨cs, hs, ha⟩, hd, hb, hz⟩
  exact ⟨rfl, ⟨0, cs, by omega, fun h => h.1 rfl, fun h => h.2 rfl, hd, ha, hs, h, by simp, fun hc => hc, by simp, by simp⟩, hd, hb, hz⟩
theorem RingAt.below {w w' : World} {r L c : Nat} {gs : List (List (List Value))} (h : RingAt w r L c gs) (hb : Below w.heap.size w w') : RingAt w' r L c gs := by
  obtain ⟨f, cs, h⟩ := h
  exact ⟨f, cs, h.below hb⟩
theorem RingAt.hd {w : World} {r L c : Nat} {gs : List (List (List Value))} (h : RingAt w r L c gs) : ∃ f, Hdr w r L c f gs.length := by
  obtain ⟨f, cs, h⟩ := h
  exact ⟨f, h.hd⟩
theorem RingAt.c2 {w : World} {r L c : Nat} {gs : List (List (List Value))} (h : RingAt w r L c gs) : w.cell? ⟨r, 2, none⟩ = some (.int .i64 (gs.length : Int)) := by
  obtain ⟨f, cs, h⟩ := h
  exact h.c2
theorem RingAt.c0 {w : World} {r L c : Nat} {gs : List (List (List Value))} (h : RingAt w r L c gs) : w.cell? ⟨r, 0, none⟩ = some (.slice (some ⟨L, 0, none⟩) c c) := by
  obtain ⟨f, cs, h⟩ := h
  exact h.c0
theorem RingAt.lt {w : World} {r L c : Nat} {gs : List (List (List Value))} (h : RingAt w r L c gs) : r < w.heap.size ∧ L < w.heap.size := by
  obtain ⟨f, cs, h⟩ := h
  exact ⟨h.r_lt, h.L_lt⟩
theorem Hdr.lt {w : World} {r L c f n : Nat} (h : Hdr w r L c f n) : r < w.heap.size := lt_of_block h
theorem Hdr.chg {w w' : World} {r L c f n : Nat} {S : Nat → Prop} (h : Hdr w r L c f n) (hg : Chg S w w') (hn : ¬ S r) : Hdr w' r L c f n := (hg.block r h.lt hn).trans h
theorem rat_at (r L c : Nat) (gs : List (List (List Value))) (k : Nat) (w : World) (h : RingAt w r L c gs) (hk : k < gs.length) (g : List (List Value)) (hg : gs[gs.length - 1 - k]? = some g) :
    Calls Try.prog 24 #[.pointer (some ⟨r, 0, none⟩), .int .i64 (k : Int)] w fun e w' => ∃ A m, e = .returned (.tuple #[.slice A g.length m, .bool true]) ∧ Rd w' (fun b => w.heap.size ≤ b) 16 A g.length m g ∧ Below w.heap.size w w' := by
  obtain ⟨f, cs, h⟩ := h
  exact rat_in _ r L c f cs gs k w h hk g hg
theorem pop_at (r L c : Nat) (gs : List (List (List Value))) (w : World) (g : List (List Value)) (h : RingAt w r L c (gs ++ [g])) :
    Calls Try.prog 22 #[.pointer (some ⟨r, 0, none⟩)] w fun e w' => ∃ A m, e = .returned (.tuple #[.slice A g.length m, .bool true]) ∧ Rd w' (fun b => w.heap.size ≤ b) 16 A g.length m g ∧ Chg (RS r L) w w' ∧ RingAt w' r L c gs := by
  obtain ⟨f, cs, h⟩ := h
  refine (pop_ring g h).mono ?_
  rintro e w' ⟨A, m, cs', rfl, h1, h2, h3⟩
  exact ⟨A, m, rfl, h1, h2, f, cs', h3⟩
theorem push_at {w : World} {r L c : Nat} {gs : List (List (List Value))} (h : RingAt w r L c gs) {D : Nat → Prop} {A : Option Addr} {m n : Nat} {g : List (List Value)} (hrd : Rd w D 16 A n m g) (hD : ∀ b, D b → b ≠ r) (hsm : n * 256 ≤ 140737488355328) :
    Calls Try.prog 19 #[.pointer (some ⟨r, 0, none⟩), .slice A n m] w fun e w' => e = .returned (.tuple #[]) ∧ RingAt w' r L c (pushG gs g c) ∧ Chg (RS r L) w w' := by
  obtain ⟨f, cs, h⟩ := h
  have hn := hrd.len
  subst hn
  have h1 := h.r_lt
  have h2 := h.L_lt
  refine (push_ring h (fun b hb => ⟨by omega, by omega⟩) hrd hD hsm).mono ?_
  rintro e w' ⟨rfl, f', cs', h1, h2⟩
  exact ⟨rfl, ⟨f', cs', h1⟩, h2⟩
theorem clear_at {w : World} {r L c : Nat} {gs : List (List (List Value))} (h : RingAt w r L c gs) :
    Calls Try.prog 26 #[.pointer (some ⟨r, 0, none⟩)] w fun e w' => e = .returned (.tuple #[]) ∧ RingAt w' r L c [] ∧ Chg (RS r L) w w' := by
  obtain ⟨f, cs, h⟩ := h
  refine (clear_ring h).mono ?_
  rintro e w' ⟨rfl, cs', h1, h2⟩
  exact ⟨rfl, ⟨f, cs', h1⟩, h2⟩

/-- What UndoKnown knows of memory between two calls: its three rings. -/
structure KSt (w0 w : World) (gs : List (List (List Value))) : Prop where
  ring : RingAt w (w0.heap.size + 1) w0.heap.size 2 gs
  big : Hdr w (w0.heap.size + 2 + 1) (w0.heap.size + 2) 10000 0 0
  zero : Hdr w (w0.heap.size + 2 + 2 + 1) (w0.heap.size + 2 + 2) 0 0 0
  below : Below w0.heap.size w0 w
theorem KSt.next {w0 w w' : World} {gs gs' : List (List (List Value))} (h : KSt w0 w gs) (hr : RingAt w' (w0.heap.size + 1) w0.heap.size 2 gs') (hc : Chg (RS (w0.heap.size + 1) w0.heap.size) w w') : KSt w0 w' gs' :=
  ⟨hr, h.big.chg hc (by rintro (h | h) <;> omega), h.zero.chg hc (by rintro (h | h) <;> omega), h.below.trans (hc.below h.below.size (by rintro k (h | h) <;> omega))⟩
theorem KSt.stay {w0 w w' : World} {gs : List (List (List Value))} (h : KSt w0 w gs) (hb : Below w.heap.size w w') : KSt w0 w' gs :=
  ⟨h.ring.below hb, h.big.chg (S := fun _ => False) (Chg.of_below hb) (fun h => h), h.zero.chg (S := fun _ => False) (Chg.of_below hb) (fun h => h), h.below.trans (hb.mono h.below.size)⟩

set_option maxRecDepth 100000 in
set_option maxHeartbeats 4000000 in
theorem undoKnown_any (w : World) : Calls Try.prog 5 #[] w fun e w' => e = .returned (.bool true) ∧ Below w.heap.size w w' := by
  go_enter Try.func5, Try.ntmps5
  go_wp2_with fail
  refine (new_ring' 2 w (by decide)).mono ?_
  rintro e w1 ⟨rfl, R1, -, B1, Z1⟩
  have HR := Lib.hid R1
  have HB := Lib.hid B1
  have HZ := Lib.hid Z1
  clear R1 B1 Z1
  go_wp2_with fail
  refine (new_bad (-1) _ (by decide)).mono ?_
  rintro e w1' ⟨rfl, rfl⟩
  go_wp2_with fail
  refine (new_bad 10001 _ (by decide)).mono ?_
  rintro e w1' ⟨rfl, rfl⟩
  go_wp2_with fail
  refine (new_ring' 10000 _ (by decide)).mono ?_
  rintro e w2 ⟨rfl, -, G2, B2, Z2⟩
  rw [HZ.out] at G2 B2 Z2 ⊢
  have HR2 := Lib.hid (HR.out.below (HZ.out ▸ B2))
  have HB2 := Lib.hid (HB.out.trans (B2.mono (by omega)))
  have HG := Lib.hid G2
  have HZ2 := Lib.hid Z2
  clear HR HB HZ G2 B2 Z2
  go_wp2_with fail
  refine (new_ring' 0 _ (by decide)).mono ?_
  rintro e w3 ⟨rfl, -, G3, B3, Z3⟩
  rw [HZ2.out] at G3 B3 Z3 ⊢
  have HR3 := Lib.hid (HR2.out.below (HZ2.out ▸ B3))
  have HB3 := Lib.hid (HB2.out.trans (B3.mono (by omega)))
  have HG3 := Lib.hid (HG.out.chg (S := fun _ => False) (Chg.of_below (HZ2.out ▸ B3)) (fun h => h))
  have HE := Lib.hid G3
  have HZ3 := Lib.hid Z3
  clear HR2 HB2 HG HZ2 G3 B3 Z3
  have K3 : RowKit.Hid (KSt w w3 []) := ⟨HR3.out, HG3.out, HE.out, HB3.out⟩
  clear HR3 HB3 HG3 HE HZ3
  go_wp2_with (go_at_call 20; refine (group_any _ _).mono ?_; rintro e w' ⟨rfl, rfl⟩)
  refine (push_group _ K3.out.ring).mono ?_
  rintro e w4 ⟨rfl, R4, C4⟩
  have K4 := Lib.hid (K3.out.next R4 C4)
  clear R4 C4 K3
  go_wp2_with (go_at_call 20; refine (group_any _ _).mono ?_; rintro e w' ⟨rfl, rfl⟩)
  refine (push_group _ K4.out.ring).mono ?_
  rintro e w5 ⟨rfl, R5, C5⟩
  have R5' : RingAt w5 (w.heap.size + 1) w.heap.size 2 [[groupE ⟨#[98]⟩], [groupE ⟨#[99]⟩]] := R5
  have K5 := Lib.hid (K4.out.next R5' C5)
  clear R5 R5' C5 K4
  go_wp2_with fail
  refine (rat_at _ _ 2 _ 1 _ K5.out.ring (by decide) [groupE ⟨#[98]⟩] rfl).mono ?_
  rintro e w6 ⟨A6, m6, rfl, D6, B6⟩
  obtain ⟨b6, o6, rfl, -, hc6⟩ := D6.at_ (by simp)
  have z6 := hc6 0 (groupE ⟨#[98]⟩) rfl 0 (.string ⟨#[98]⟩) rfl
  simp only [Nat.zero_mul, Nat.add_zero] at z6
  have K6 := Lib.hid (K5.out.stay B6)
  have y6 := K6.out.ring.c2
  clear D6 hc6 B6 K5
  go_wp2_with (go_at_call 24; refine (rat_out _ 2 _ _ y6 (by decide)).mono ?_; rintro e w' ⟨rfl, rfl⟩)
  clear y6
  have hb6 : b6 < w6.heap.size := World.block_lt_of_cell? w6 _ z6
  have hA : ∀ o, (w6.alloc o).cell? ⟨b6, o6, none⟩ = some (.string ⟨#[98]⟩) := fun o => by rw [World.cell?_alloc_lt _ _ _ hb6]; exact z6
  have E7 : Hdr (w6.alloc (.cells (groupE ⟨#[97]⟩).toArray 47)) (w.heap.size + 2 + 2 + 1) (w.heap.size + 2 + 2) 0 0 0 := (K6.out.stay ((Below.refl _ _).alloc (Nat.le_refl _) _)).zero
  go_wp2_with (go_at_call 20; refine (group_any _ _).mono ?_; rintro e w' ⟨rfl, rfl⟩)
  refine (push_zero _ _ 0 0 _ _ E7).mono ?_
  rintro e w7 ⟨rfl, rfl⟩
  clear E7
  obtain ⟨W7, hW7⟩ : ∃ W7, w6.alloc (.cells (groupE ⟨#[97]⟩).toArray 47) = W7 := ⟨_, rfl⟩
  have z7 : W7.cell? ⟨b6, o6, none⟩ = some (.string ⟨#[98]⟩) := by rw [← hW7]; exact hA _
  have K7 := Lib.hid (K6.out.stay (w' := W7) (by rw [← hW7]; exact (Below.refl _ _).alloc (Nat.le_refl _) _))
  rw [hW7]
  clear hW7 z6 hb6 hA K6
  have E7 := K7.out.zero
  have y1 := E7.c2
  have y2 := K7.out.big.c0
  go_wp2_with (first | (go_at_call 22; refine (pop_empty _ _ _ _ _ E7).mono ?_; rintro e w' ⟨rfl, rfl⟩) | (go_at_call 21; refine (rlen_any _ 0 _ y1).mono ?_; rintro e w' ⟨rfl, rfl⟩) | (go_at_call 25; refine (rcap_any _ _ 10000 _ y2).mono ?_; rintro e w' ⟨rfl, rfl⟩))
  refine (clear_at K7.out.ring).mono ?_
  rintro e w8 ⟨rfl, R8, C8⟩
  have K8 := Lib.hid (K7.out.next R8 C8)
  have y8 := K8.out.ring.c2
  clear R8 C8 K7 E7 y1 y2 z7
  go_wp2_with (go_at_call 21; refine (rlen_any _ 0 _ y8).mono ?_; rintro e w' ⟨rfl, rfl⟩)
  refine (push_at K8.out.ring (Rd.nil _ (fun b => b ≠ w.heap.size + 1 ∧ b ≠ w.heap.size) 16) (fun b hb => hb.1) (by decide)).mono ?_
  rintro e w9 ⟨rfl, R9, C9⟩
  have R9' : RingAt w9 (w.heap.size + 1) w.heap.size 2 ([] ++ [[]]) := R9
  have K9 := Lib.hid (K8.out.next R9' C9)
  clear R9 R9' C9 K8 y8
  go_wp2_with fail
  refine (pop_at _ _ 2 [] _ [] K9.out.ring).mono ?_
  rintro e w10 ⟨A10, m10, rfl, -, C10, R10⟩
  have K10 := Lib.hid (K9.out.next R10 C10)
  clear R10 C10 K9
  go_wp2_with (first | (go_at_call 20; refine (group_any _ _).mono ?_; rintro e w' ⟨rfl, rfl⟩) | (go_at_call 19; refine (push_nil _ _).mono ?_; rintro e w' ⟨rfl, rfl⟩) | (go_at_call 26; refine (clear_nil _).mono ?_; rintro e w' ⟨rfl, rfl⟩) | (go_at_call 22; refine (pop_nil _).mono ?_; rintro e w' ⟨rfl, rfl⟩) | (go_at_call 24; refine (rat_nil _ _).mono ?_; rintro e w' ⟨rfl, rfl⟩) | (go_at_call 21; refine (rlen_nil _).mono ?_; rintro e w' ⟨rfl, rfl⟩) | (go_at_call 25; refine (rcap_nil _).mono ?_; rintro e w' ⟨rfl, rfl⟩) | (go_at_call 17; refine (awake24_any _).mono ?_; rintro e w11 ⟨rfl, B11⟩))
  go_ret
  exact ⟨rfl, ((K10.out.stay ((Below.refl _ _).alloc (Nat.le_refl _) _)).stay B11).below⟩
end Go.Proofs.Ytochdmbjlemfoaa
