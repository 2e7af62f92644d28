/-
  The ring of package undo: what its memory is (Ring), and the contracts of its methods that read. Of any ring that is laid so.
-/
import Derived.Test.YtochdmbjlemfoaaU1
import Derived.Deep.QuietTactic
import Derived.BigQuiet
import Derived.Deep.RegionHeld3
namespace Go.Proofs.Ytochdmbjlemfoaa
open Go Go.RowKit

/-- The ring at block r, its list at block L, of capacity c, its oldest group at f; gs: the groups, the oldest ahead; they lie in blocks of G. -/
structure Ring (G : Nat → Prop) (w : World) (r L c f : Nat) (cs : Array Value) (gs : List (List (List Value))) : Prop where
  ne : r ≠ L
  gr : ¬ G r
  gL : ¬ G L
  hdr : w.heap[r]? = some (.cells #[.slice (some ⟨L, 0, none⟩) c c, .int .i64 (f : Int), .int .i64 (gs.length : Int)] 122 (0, 0))
  arr : w.heap[L]? = some (.cells cs 24 (0, 0))
  size : cs.size = c
  c_le : c ≤ 10000
  n_le : gs.length ≤ c
  f_lt : 0 < c → f < c
  grp : ∀ (i : Nat) g, gs[i]? = some g → ∃ A k, cs[(f + i) % c]? = some (.slice A g.length k) ∧ Rd w G 16 A g.length k g
  small : ∀ g ∈ gs, g.length * 256 ≤ 140737488355328

section
variable {G : Nat → Prop} {w w' : World} {r L c f : Nat} {cs : Array Value} {gs : List (List (List Value))}
theorem Ring.c0 (h : Ring G w r L c f cs gs) : w.cell? ⟨r, 0, none⟩ = some (.slice (some ⟨L, 0, none⟩) c c) := by rw [cell_of_row w r 0 _ _ _ h.hdr]; rfl
theorem Ring.c1 (h : Ring G w r L c f cs gs) : w.cell? ⟨r, 1, none⟩ = some (.int .i64 (f : Int)) := by rw [cell_of_row w r 1 _ _ _ h.hdr]; rfl
theorem Ring.c2 (h : Ring G w r L c f cs gs) : w.cell? ⟨r, 2, none⟩ = some (.int .i64 (gs.length : Int)) := by rw [cell_of_row w r 2 _ _ _ h.hdr]; rfl
theorem Ring.fr (h : Ring G w r L c f cs gs) (i : Nat) : w.frozen? ⟨r, i, none⟩ = false := frozen_of_row w r i _ _ h.hdr
theorem Ring.fL (h : Ring G w r L c f cs gs) (i : Nat) : w.frozen? ⟨L, i, none⟩ = false := frozen_of_row w L i _ _ h.arr
theorem Ring.cL (h : Ring G w r L c f cs gs) (i : Nat) : w.cell? ⟨L, i, none⟩ = cs[i]? := cell_of_row w L i _ _ _ h.arr
theorem Ring.r_lt (h : Ring G w r L c f cs gs) : r < w.heap.size := lt_of_block h.hdr
theorem Ring.L_lt (h : Ring G w r L c f cs gs) : L < w.heap.size := lt_of_block h.arr
theorem Ring.below (h : Ring G w r L c f cs gs) (hb : Below w.heap.size w w') : Ring G w' r L c f cs gs :=
  ⟨h.ne, h.gr, h.gL, (hb.block r h.r_lt).trans h.hdr, (hb.block L h.L_lt).trans h.arr, h.size, h.c_le, h.n_le, h.f_lt, fun i g hi => by
    obtain ⟨A, k, h1, h2⟩ := h.grp i g hi
    exact ⟨A, k, h1, h2.below hb⟩, h.small⟩
theorem Ring.drewN (h : Ring G w r L c f cs gs) (n : Nat) : Ring G (w.drewN n) r L c f cs gs := h.below (below_drewN (Below.refl _ _) n)
end

theorem rlen_any (r : Nat) (n : Int) (w : World) (h2 : w.cell? ⟨r, 2, none⟩ = some (.int .i64 n)) :
    Calls Try.prog 21 #[.pointer (some ⟨r, 0, none⟩)] w fun e w' => e = .returned (.int .i64 n) ∧ w = w' := by
  go_enter Try.func21, Try.ntmps21
  go_wp2
  go_ret
  exact ⟨rfl, rfl⟩
theorem rlen_nil (w : World) : Calls Try.prog 21 #[.pointer none] w fun e w' => e = .returned (.int .i64 0) ∧ w = w' := by
  go_enter Try.func21, Try.ntmps21
  go_wp2
  go_ret
  exact ⟨rfl, rfl⟩
theorem rcap_any (r L c : Nat) (w : World) (h0 : w.cell? ⟨r, 0, none⟩ = some (.slice (some ⟨L, 0, none⟩) c c)) :
    Calls Try.prog 25 #[.pointer (some ⟨r, 0, none⟩)] w fun e w' => e = .returned (.int .i64 c) ∧ w = w' := by
  go_enter Try.func25, Try.ntmps25
  go_wp2
  go_ret
  exact ⟨rfl, rfl⟩
theorem rcap_nil (w : World) : Calls Try.prog 25 #[.pointer none] w fun e w' => e = .returned (.int .i64 0) ∧ w = w' := by
  go_enter Try.func25, Try.ntmps25
  go_wp2
  go_ret
  exact ⟨rfl, rfl⟩
theorem place_any (r L c f n : Nat) (k : Int) (w : World) (h0 : w.cell? ⟨r, 0, none⟩ = some (.slice (some ⟨L, 0, none⟩) c c)) (h1 : w.cell? ⟨r, 1, none⟩ = some (.int .i64 (f : Int)))
    (h2 : w.cell? ⟨r, 2, none⟩ = some (.int .i64 (n : Int))) (hf : f < c) (hc2 : c ≤ 10000) (hn2 : n ≤ c) (hk : 0 ≤ k) (hk2 : k < n) (i : Nat) (hi : ((f : Int) + n - 1 - k) % c = (i : Int)) :
    Calls Try.prog 71 #[.pointer (some ⟨r, 0, none⟩), .int .i64 k] w fun e w' => e = .returned (.int .i64 (i : Int)) ∧ ∃ d, w' = w.drewN d := by
  have H := Lib.hid hi
  clear hi
  go_enter Try.func71, Try.ntmps71
  go_wp2
  go_quiet (fail)
  go_wp2
  go_ret
  exact ⟨by rw [H.out]; rfl, _, rfl⟩

theorem rat_nil (n : Int) (w : World) : Calls Try.prog 24 #[.pointer none, .int .i64 n] w fun e w' => e = .returned (.tuple #[.slice none 0 0, .bool false]) ∧ w = w' := by
  by_cases hn : n < 0
  · go_enter Try.func24, Try.ntmps24
    go_wp2
    go_ret2
    exact ⟨rfl, rfl⟩
  · have h2 : 0 ≤ n := by omega
    have h3 : ¬ n < 0 := by omega
    go_enter Try.func24, Try.ntmps24
    go_wp2_with (go_at_call 21; refine (rlen_nil _).mono ?_; rintro e w' ⟨rfl, rfl⟩)
    go_ret2
    exact ⟨rfl, rfl⟩
theorem rat_out (r : Nat) (m : Nat) (n : Int) (w : World) (h2 : w.cell? ⟨r, 2, none⟩ = some (.int .i64 (m : Int))) (hn : n < 0 ∨ (m : Int) ≤ n) :
    Calls Try.prog 24 #[.pointer (some ⟨r, 0, none⟩), .int .i64 n] w fun e w' => e = .returned (.tuple #[.slice none 0 0, .bool false]) ∧ w = w' := by
  rcases hn with hn | hn
  · go_enter Try.func24, Try.ntmps24
    go_wp2
    go_ret2
    exact ⟨rfl, rfl⟩
  · have h3 : ¬ n < 0 := by omega
    go_enter Try.func24, Try.ntmps24
    go_wp2_with (go_at_call 21; refine (rlen_any r m _ h2).mono ?_; rintro e w' ⟨rfl, rfl⟩)
    go_ret2
    exact ⟨rfl, rfl⟩

set_option maxRecDepth 100000 in
set_option maxHeartbeats 400000 in
theorem rat_wr (G : Nat → Prop) (r L c f : Nat) (cs : Array Value) (gs : List (List (List Value))) (k : Nat) (w : World) (h : Ring G w r L c f cs gs) (hk : k < gs.length) (g : List (List Value)) (hg : gs[gs.length - 1 - k]? = some g) :
    Calls Try.prog 24 #[.pointer (some ⟨r, 0, none⟩), .int .i64 (k : Int)] w fun e w' => ∃ A m, e = .returned (.tuple #[.slice A g.length m, .bool true]) ∧ Rd w' (fun b => w.heap.size ≤ b) 16 A g.length m g ∧ Below w.heap.size w w' ∧ Wr w' A := by
  have hc : 0 < c := by have := h.n_le; omega
  have hf := h.f_lt hc
  have hcl := h.c_le
  have hnl := h.n_le
  obtain ⟨A, m, hcell, hrd⟩ := h.grp _ g hg
  have hsm := h.small g (List.mem_of_getElem? hg)
  have hp : ((f : Int) + gs.length - 1 - k) % c = ((f + (gs.length - 1 - k)) % c : Nat) := by
    rw [show ((f : Int) + gs.length - 1 - k) = ((f + (gs.length - 1 - k) : Nat) : Int) by omega]
    rfl
  have c0 := h.c0
  have c1 := h.c1
  have c2 := h.c2
  have cL := (h.cL _).trans hcell
  have hi : (f + (gs.length - 1 - k)) % c < c := Nat.mod_lt _ hc
  generalize (f + (gs.length - 1 - k)) % c = i at *
  generalize gs.length = n at *
  have H1 := Lib.hid hp
  have H2 := Lib.hid hrd
  have H3 := Lib.hid hsm
  clear hp hrd hsm h hcell hg
  have h3 : ¬ (k : Int) < 0 := by omega
  have h4 : (k : Int) < (n : Int) := by omega
  have h5 : (i : Int) < (c : Int) := by omega
  have h6 : (0 : Int) ≤ (i : Int) := by omega
  go_enter Try.func24, Try.ntmps24
  go_wp2_with (go_at_call 21; refine (rlen_any r n _ c2).mono ?_; rintro e w' ⟨rfl, rfl⟩)
  go_region_held3 (fun w' => w'.cell? ⟨r, 0, none⟩ = some (.slice (some ⟨L, 0, none⟩) c c) ∧ w'.cell? ⟨r, 1, none⟩ = some (.int .i64 (f : Int)) ∧ w'.cell? ⟨r, 2, none⟩ = some (.int .i64 (n : Int)) ∧ w'.cell? ⟨L, i, none⟩ = some (.slice A g.length m))
    (first | go_keep | (go_split_ands; exact ⟨below_cell hb2 (by assumption), below_cell hb2 (by assumption), below_cell hb2 (by assumption), below_cell hb2 (by assumption)⟩))
    ((first
      | (go_at_call 71; refine (place_any r L c f n k _ (by first | exact c0 | assumption) (by first | exact c1 | assumption) (by first | exact c2 | assumption) hf hcl hnl (by omega) (by omega) i H1.out).mono ?_; rintro e w1 ⟨rfl, d1, rfl⟩)
      | (go_at_call 70; refine (clone_wr A g.length m g _ _ (H2.out.below (below_drewN (Below.refl _ _) _)) H3.out).mono ?_; rintro e w2 ⟨A', m', rfl, hr2, hb2, hwr⟩)))
  go_wp2
  go_ret2
  exact ⟨A', m', rfl, hr2, (below_drewN (Below.refl _ w) _).trans hb2, hwr⟩
theorem rat_in (G : Nat → Prop) (r L c f : Nat) (cs : Array Value) (gs : List (List (List Value))) (k : Nat) (w : World) (h : Ring G w r L c f cs gs) (hk : k < gs.length) (g : List (List Value)) (hg : gs[gs.length - 1 - k]? = some g) :
    Calls Try.prog 24 #[.pointer (some ⟨r, 0, none⟩), .int .i64 (k : Int)] w fun e w' => ∃ A m, e = .returned (.tuple #[.slice A g.length m, .bool true]) ∧ Rd w' (fun b => w.heap.size ≤ b) 16 A g.length m g ∧ Below w.heap.size w w' :=
  (rat_wr G r L c f cs gs k w h hk g hg).mono fun _ _ ⟨A, m, he, h1, h2, _⟩ => ⟨A, m, he, h1, h2⟩
end Go.Proofs.Ytochdmbjlemfoaa
