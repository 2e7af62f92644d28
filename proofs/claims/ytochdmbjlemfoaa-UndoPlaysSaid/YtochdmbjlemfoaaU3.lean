/-
  The ring of package undo: the contracts of New, Push, Pop and Clear. Of any ring that is laid so.
-/
import Derived.Test.YtochdmbjlemfoaaU2
import Derived.Deep.OwnRows
namespace Go.Proofs.Ytochdmbjlemfoaa
open Go Go.RowKit

section
variable {G : Nat → Prop} {w w' : World} {r L c f : Nat} {cs : Array Value} {gs : List (List (List Value))}
/-- Only the ring's two blocks may change. -/
abbrev RS (r L : Nat) : Nat → Prop := fun b => b = r ∨ b = L

theorem Ring.rebuild (h : Ring G w r L c f cs gs) (hg : Chg (RS r L) w w') {f' : Nat} {cs' : Array Value} {gs' : List (List (List Value))}
    (hdr : w'.heap[r]? = some (.cells #[.slice (some ⟨L, 0, none⟩) c c, .int .i64 (f' : Int), .int .i64 (gs'.length : Int)] 122 (0, 0)))
    (arr : w'.heap[L]? = some (.cells cs' 24 (0, 0))) (hsz : cs'.size = c) (hn : gs'.length ≤ c) (hf : 0 < c → f' < c)
    (hgrp : ∀ (i : Nat) g, gs'[i]? = some g → (∃ A k, cs'[(f' + i) % c]? = some (.slice A g.length k) ∧ Rd w G 16 A g.length k g) ∨
      (∃ A k, cs'[(f' + i) % c]? = some (.slice A g.length k) ∧ Rd w' G 16 A g.length k g))
    (hs : ∀ g ∈ gs', g.length * 256 ≤ 140737488355328) : Ring G w' r L c f' cs' gs' :=
  ⟨h.ne, h.gr, h.gL, hdr, arr, hsz, h.c_le, hn, hf, fun i g hi => by
    rcases hgrp i g hi with ⟨A, k, h1, h2⟩ | ⟨A, k, h1, h2⟩
    · exact ⟨A, k, h1, h2.chg hg (fun b hb hS => hS.elim (fun e => h.gr (e ▸ hb)) (fun e => h.gL (e ▸ hb)))⟩
    · exact ⟨A, k, h1, h2⟩, hs⟩

theorem mod_ne {f i j c : Nat} (hi : i < c) (hj : j < c) (hne : i ≠ j) (hc : 0 < c) : (f + i) % c ≠ (f + j) % c := by
  intro he
  have h1 : (f % c + i) % c = (f % c + j) % c := by rw [Nat.mod_add_mod, Nat.mod_add_mod]; exact he
  have hf : f % c < c := Nat.mod_lt _ hc
  generalize f % c = x at *
  rcases Nat.lt_or_ge (x + i) c with a | a <;> rcases Nat.lt_or_ge (x + j) c with b | b
  · rw [Nat.mod_eq_of_lt a, Nat.mod_eq_of_lt b] at h1; omega
  · rw [Nat.mod_eq_of_lt a, Nat.mod_eq_sub_mod b, Nat.mod_eq_of_lt (by omega)] at h1; omega
  · rw [Nat.mod_eq_sub_mod a, Nat.mod_eq_of_lt (show x + i - c < c by omega), Nat.mod_eq_of_lt b] at h1; omega
  · rw [Nat.mod_eq_sub_mod a, Nat.mod_eq_of_lt (show x + i - c < c by omega), Nat.mod_eq_sub_mod b, Nat.mod_eq_of_lt (show x + j - c < c by omega)] at h1; omega
theorem mod_step (f i c : Nat) : ((f + 1) % c + i) % c = (f + (i + 1)) % c := by rw [Nat.mod_add_mod]; congr 1; omega
end

/-- The ring's own block. -/
def Hdr (w : World) (r L c f n : Nat) : Prop := w.heap[r]? = some (.cells #[.slice (some ⟨L, 0, none⟩) c c, .int .i64 (f : Int), .int .i64 (n : Int)] 122 (0, 0))
section
variable {w : World} {r L c f n : Nat}
theorem Hdr.c0 (h : Hdr w r L c f n) : w.cell? ⟨r, 0, none⟩ = some (.slice (some ⟨L, 0, none⟩) c c) := by rw [cell_of_row w r 0 _ _ _ h]; rfl
theorem Hdr.c1 (h : Hdr w r L c f n) : w.cell? ⟨r, 1, none⟩ = some (.int .i64 (f : Int)) := by rw [cell_of_row w r 1 _ _ _ h]; rfl
theorem Hdr.c2 (h : Hdr w r L c f n) : w.cell? ⟨r, 2, none⟩ = some (.int .i64 (n : Int)) := by rw [cell_of_row w r 2 _ _ _ h]; rfl
theorem Hdr.fr (h : Hdr w r L c f n) (i : Nat) : w.frozen? ⟨r, i, none⟩ = false := frozen_of_row w r i _ _ h
theorem Hdr.set1 (h : Hdr w r L c f n) (f' : Nat) : Hdr (w.setCell ⟨r, 1, none⟩ (.int .i64 (f' : Int))) r L c f' n := heap_setCell_same w r 1 _ _ _ h
theorem Hdr.set2 (h : Hdr w r L c f n) (n' : Nat) : Hdr (w.setCell ⟨r, 2, none⟩ (.int .i64 (n' : Int))) r L c f n' := heap_setCell_same w r 2 _ _ _ h
theorem Hdr.drewN (h : Hdr w r L c f n) (k : Nat) : Hdr (w.drewN k) r L c f n := h
end

set_option maxRecDepth 100000 in
set_option maxHeartbeats 400000 in
theorem push_room (r L c f n N i : Nat) (g : List (List Value)) (A : Option Addr) (m : Nat) (old : Value) (D : Nat → Prop) (w : World) (hd : Hdr w r L c f n)
    (cL : w.cell? ⟨L, i, none⟩ = some old) (fL : w.frozen? ⟨L, i, none⟩ = false) (ne : r ≠ L)
    (hf : f < c) (hcl : c ≤ 10000) (hn : n < c) (hN : N = n + 1) (hi : ((f : Int) + (N : Int) - 1 - 0) % c = (i : Int)) (hic : i < c)
    (hrd : Rd w D 16 A g.length m g) (hD : ∀ b, D b → b ≠ r) (hsm : g.length * 256 ≤ 140737488355328) :
    Calls Try.prog 19 #[.pointer (some ⟨r, 0, none⟩), .slice A g.length m] w fun e w' => e = .returned (.tuple #[]) ∧ ∃ A' m' W1 w2, Hdr W1 r L c f N ∧ Chg (fun b => b = r) w W1 ∧ W1.heap.size = w.heap.size ∧
      Rd w2 (fun b => w.heap.size ≤ b) 16 A' g.length m' g ∧ Below W1.heap.size W1 w2 ∧ w' = w2.setCell ⟨L, i, none⟩ (.slice A' g.length m') := by
  have c0 := hd.c0
  have c1 := hd.c1
  have c2 := hd.c2
  have f2 := hd.fr 2
  have H1 := Lib.hid hi
  have H2 := Lib.hid hrd
  have H3 := Lib.hid hsm
  have H8 := Lib.hid hD
  have H10 := Lib.hid hd
  have e1 : ((n : Int) + 1) = (N : Int) := by omega
  have h9 : N ≤ c := by omega
  have h10 : 0 < N := by omega
  have H4 := Lib.hid e1
  clear hi hsm hrd hD hN e1 hd
  have h5 : (i : Int) < (c : Int) := by omega
  have h6 : (0 : Int) ≤ (i : Int) := by omega
  have h7 : ((c : Int) == 0) = false := by simp; omega
  have h8 : ((n : Int) == (c : Int)) = false := by simp; omega
  go_enter Try.func19, Try.ntmps19
  go_wp2
  go_quiet (fail)
  go_wp2
  rw [H4.out]
  obtain ⟨W1, hd1, hch, hsz, hW⟩ : ∃ W1, Hdr W1 r L c f N ∧ Chg (fun b => b = r) w W1 ∧ W1.heap.size = w.heap.size ∧ (w.drewN nq).setCell ⟨r, 2, none⟩ (.int .i64 (N : Int)) = W1 :=
    ⟨_, (H10.out.drewN nq).set2 N, Chg.setCell (S := fun b => b = r) (p := ⟨r, 2, none⟩) ((Chg.refl _ _).drewN nq) (.inl rfl) _, by simp [World.setCell], rfl⟩
  rw [hW]
  have d0 := hd1.c0
  have d1 := hd1.c1
  have d2 := hd1.c2
  have dL : W1.cell? ⟨L, i, none⟩ = some old := hch.cell cL (fun h => ne h.symm)
  have eL : W1.frozen? ⟨L, i, none⟩ = false := by
    rw [World.frozen?_of_block (hch.block L (World.block_lt_of_cell? w _ cL) (fun h => ne h.symm))]
    exact fL
  have H5 := Lib.hid (H2.out.chg hch H8.out)
  have H6 := Lib.hid hch
  have H7 := Lib.hid hsz
  have H9 := Lib.hid hd1
  clear hd1 hch hsz cL fL H2 H8 hW c0 c1 c2 f2 H4 H10 h7 h8
  go_region_held3 (fun w' => w'.cell? ⟨r, 0, none⟩ = some (.slice (some ⟨L, 0, none⟩) c c) ∧ w'.cell? ⟨r, 1, none⟩ = some (.int .i64 (f : Int)) ∧ w'.cell? ⟨r, 2, none⟩ = some (.int .i64 (N : Int)) ∧ w'.frozen? ⟨L, i, none⟩ = false)
    (first | (go_keep; done) | (go_split_ands; exact ⟨set_far (by assumption) ne.symm, set_far (by assumption) ne.symm, set_far (by assumption) ne.symm, set_fz (by assumption)⟩) | (go_split_ands; exact ⟨below_cell hb2 (by assumption), below_cell hb2 (by assumption), below_cell hb2 (by assumption), (hb2.frozen (p := ⟨L, i, none⟩) (World.block_lt_of_cell? _ _ dL)).trans (by assumption)⟩))
    ((first
      | (go_at_call 71; refine (place_any r L c f N 0 _ (by first | exact d0 | assumption) (by first | exact d1 | assumption) (by first | exact d2 | assumption) hf hcl (by omega) (by omega) (by omega) i H1.out).mono ?_; rintro e w1 ⟨rfl, x1, rfl⟩)
      | (go_at_call 70; refine (clone_any A g.length m g _ _ (H5.out.below (below_drewN (Below.refl _ _) _)) H3.out).mono ?_; rintro e w2 ⟨A', m', rfl, hr2, hb2⟩; have dL2 := below_cell hb2 (p := ⟨L, i, none⟩) (u := old) dL)))
  go_wp2
  go_end0
  exact ⟨rfl, A', m', W1, w2, H9.out, H6.out, H7.out, hr2.mono (fun b _ hb => by have := H7.out; have h : W1.heap.size ≤ b := hb; omega) (by decide), (below_drewN (Below.refl _ W1) _).trans hb2, rfl⟩

set_option maxRecDepth 100000 in
set_option maxHeartbeats 800000 in
theorem push_full (r L c f F i : Nat) (g : List (List Value)) (A : Option Addr) (m : Nat) (old : Value) (D : Nat → Prop) (w : World) (hd : Hdr w r L c f c)
    (cL : w.cell? ⟨L, i, none⟩ = some old) (fL : w.frozen? ⟨L, i, none⟩ = false) (ne : r ≠ L)
    (hf : f < c) (hcl : c ≤ 10000) (hF : ((f : Int) + 1) % c = (F : Int)) (hFc : F < c) (hi : ((F : Int) + (c : Int) - 1 - 0) % c = (i : Int)) (hic : i < c)
    (hrd : Rd w D 16 A g.length m g) (hD : ∀ b, D b → b ≠ r) (hsm : g.length * 256 ≤ 140737488355328) :
    Calls Try.prog 19 #[.pointer (some ⟨r, 0, none⟩), .slice A g.length m] w fun e w' => e = .returned (.tuple #[]) ∧ ∃ A' m' W1 w2, Hdr W1 r L c F c ∧ Chg (fun b => b = r) w W1 ∧ W1.heap.size = w.heap.size ∧
      Rd w2 (fun b => w.heap.size ≤ b) 16 A' g.length m' g ∧ Below W1.heap.size W1 w2 ∧ w' = w2.setCell ⟨L, i, none⟩ (.slice A' g.length m') := by
  have c0 := hd.c0
  have c1 := hd.c1
  have c2 := hd.c2
  have f1 := hd.fr 1
  have f2 := hd.fr 2
  have h5 : (i : Int) < (c : Int) := by omega
  have h6 : (0 : Int) ≤ (i : Int) := by omega
  have h7 : ((c : Int) == 0) = false := by simp; omega
  have H1 := Lib.hid hi
  have H2 := Lib.hid hrd
  have H3 := Lib.hid hsm
  have H4 := Lib.hid hF
  have H8 := Lib.hid hD
  have H10 := Lib.hid hd
  have H11 := Lib.hid (show ((c : Int) - 1) = ((c - 1 : Nat) : Int) by omega)
  clear hi hsm hrd hD hF hd
  go_enter Try.func19, Try.ntmps19
  go_wp2
  go_quiet (fail)
  go_wp2
  go_region
  go_wp2
  rw [H4.out, H11.out]
  obtain ⟨W1, hd1, hch, hsz, hW⟩ : ∃ W1, Hdr W1 r L c F c ∧ Chg (fun b => b = r) w W1 ∧ W1.heap.size = w.heap.size ∧ (((w.drewN (nq + 1)).setCell ⟨r, 1, none⟩ (.int .i64 (F : Int))).setCell ⟨r, 2, none⟩ (.int .i64 ((c - 1 : Nat) : Int))).setCell ⟨r, 2, none⟩ (.int .i64 (c : Int)) = W1 :=
    ⟨_, (((H10.out.drewN (nq + 1)).set1 F).set2 (c - 1)).set2 c, Chg.setCell (S := fun b => b = r) (p := ⟨r, 2, none⟩) (Chg.setCell (S := fun b => b = r) (p := ⟨r, 2, none⟩) (Chg.setCell (S := fun b => b = r) (p := ⟨r, 1, none⟩) ((Chg.refl _ _).drewN (nq + 1)) (.inl rfl) _) (.inl rfl) _) (.inl rfl) _, by simp [World.setCell], rfl⟩
  rw [hW]
  have d0 := hd1.c0
  have d1 := hd1.c1
  have d2 := hd1.c2
  have dL : W1.cell? ⟨L, i, none⟩ = some old := hch.cell cL (fun h => ne h.symm)
  have eL : W1.frozen? ⟨L, i, none⟩ = false := by
    rw [World.frozen?_of_block (hch.block L (World.block_lt_of_cell? w _ cL) (fun h => ne h.symm))]
    exact fL
  have H5 := Lib.hid (H2.out.chg hch H8.out)
  have H6 := Lib.hid hch
  have H7 := Lib.hid hsz
  have H9 := Lib.hid hd1
  clear hd1 hch hsz cL fL H2 H8 hW c0 c1 c2 f1 f2 H4 H10 H11 h7
  go_region_held3 (fun w' => w'.cell? ⟨r, 0, none⟩ = some (.slice (some ⟨L, 0, none⟩) c c) ∧ w'.cell? ⟨r, 1, none⟩ = some (.int .i64 (F : Int)) ∧ w'.cell? ⟨r, 2, none⟩ = some (.int .i64 (c : Int)) ∧ w'.frozen? ⟨L, i, none⟩ = false)
    (first | (go_keep; done) | (go_split_ands; exact ⟨set_far (by assumption) ne.symm, set_far (by assumption) ne.symm, set_far (by assumption) ne.symm, set_fz (by assumption)⟩) | (go_split_ands; exact ⟨below_cell hb2 (by assumption), below_cell hb2 (by assumption), below_cell hb2 (by assumption), (hb2.frozen (p := ⟨L, i, none⟩) (World.block_lt_of_cell? _ _ dL)).trans (by assumption)⟩))
    ((first
      | (go_at_call 71; refine (place_any r L c F c 0 _ (by first | exact d0 | assumption) (by first | exact d1 | assumption) (by first | exact d2 | assumption) hFc hcl (by omega) (by omega) (by omega) i H1.out).mono ?_; rintro e w1 ⟨rfl, x1, rfl⟩)
      | (go_at_call 70; refine (clone_any A g.length m g _ _ (H5.out.below (below_drewN (Below.refl _ _) _)) H3.out).mono ?_; rintro e w2 ⟨A', m', rfl, hr2, hb2⟩; have dL2 := below_cell hb2 (p := ⟨L, i, none⟩) (u := old) dL)))
  go_wp2
  go_end0
  exact ⟨rfl, A', m', W1, w2, H9.out, H6.out, H7.out, hr2.mono (fun b _ hb => by have := H7.out; have h : W1.heap.size ≤ b := hb; omega) (by decide), (below_drewN (Below.refl _ W1) _).trans hb2, rfl⟩
end Go.Proofs.Ytochdmbjlemfoaa
