/-
  The law UndoOwn (package anamnesislaw24): the walk, for any two groups that can be read.
-/
import Derived.Test.YtochdmbjlemfoaaU6
import Derived.Test.YtochdmbjlemfoaaS4
import Derived.Deep.DeepCutAuto
namespace Go.Proofs.Ytochdmbjlemfoaa
open Go Go.RowKit

set_option maxRecDepth 100000 in
set_option maxHeartbeats 1000000 in
theorem undoOwn_out (A B : Option Addr) (n c m d : Nat) (w : World) (h : n < 1 ∨ 6 < n ∨ m < 1 ∨ 6 < m) :
    Calls Try.prog 4 #[.slice A n c, .slice B m d] w fun e w' => e = .returned (.bool true) ∧ Below w.heap.size w w' := by
  by_cases h1 : n < 1
  · have q1 : (n : Int) < 1 := by omega
    clear h
    go_enter Try.func4, Try.ntmps4
    go_wp2_with (go_at_call 17; refine (awake24_any _).mono ?_; rintro e w11 ⟨rfl, B11⟩)
    go_ret
    exact ⟨rfl, B11⟩
  · have q1 : ¬ (n : Int) < 1 := by omega
    by_cases h2 : 6 < n
    · have q2 : (6 : Int) < (n : Int) := by omega
      clear h
      go_enter Try.func4, Try.ntmps4
      go_wp2_with (go_at_call 17; refine (awake24_any _).mono ?_; rintro e w11 ⟨rfl, B11⟩)
      go_ret
      exact ⟨rfl, B11⟩
    · have q2 : ¬ (6 : Int) < (n : Int) := by omega
      by_cases h3 : m < 1
      · have q3 : (m : Int) < 1 := by omega
        clear h
        go_enter Try.func4, Try.ntmps4
        go_wp2_with (go_at_call 17; refine (awake24_any _).mono ?_; rintro e w11 ⟨rfl, B11⟩)
        go_ret
        exact ⟨rfl, B11⟩
      · have q3 : ¬ (m : Int) < 1 := by omega
        have q4 : (6 : Int) < (m : Int) := by omega
        clear h
        go_enter Try.func4, Try.ntmps4
        go_wp2_with (go_at_call 17; refine (awake24_any _).mono ?_; rintro e w11 ⟨rfl, B11⟩)
        go_ret
        exact ⟨rfl, B11⟩

theorem Ring.empty {G G' : Nat → Prop} {w : World} {r L c f : Nat} {cs : Array Value} (h : Ring G w r L c f cs []) (h1 : ¬ G' r) (h2 : ¬ G' L) : Ring G' w r L c f cs [] :=
  ⟨h.ne, h1, h2, h.hdr, h.arr, h.size, h.c_le, h.n_le, h.f_lt, by simp, by simp⟩
/-- A ring that only new blocks, and blocks that are none of its own nor of its groups, have changed beside. -/
theorem Ring.chg {G : Nat → Prop} {w w' : World} {r L c f : Nat} {cs : Array Value} {gs : List (List (List Value))} {S : Nat → Prop} (h : Ring G w r L c f cs gs) (hc : Chg S w w') (h1 : ¬ S r) (h2 : ¬ S L) (hS : ∀ b, G b → ¬ S b) : Ring G w' r L c f cs gs :=
  ⟨h.ne, h.gr, h.gL, (hc.block r h.r_lt h1).trans h.hdr, (hc.block L h.L_lt h2).trans h.arr, h.size, h.c_le, h.n_le, h.f_lt, fun i g hi => by
    obtain ⟨A, k, a, b⟩ := h.grp i g hi
    exact ⟨A, k, a, b.chg hc hS⟩, h.small⟩

theorem push_n {G : Nat → Prop} {w : World} {r L c f : Nat} {cs : Array Value} {gs : List (List (List Value))} (h : Ring G w r L c f cs gs) (hG : ∀ b, w.heap.size ≤ b → G b) {D : Nat → Prop} {A : Option Addr} {m n : Nat} {g : List (List Value)} (hrd : Rd w D 16 A n m g)
    (hD : ∀ b, D b → b ≠ r) (hsm : n * 256 ≤ 140737488355328) :
    Calls Try.prog 19 #[.pointer (some ⟨r, 0, none⟩), .slice A n m] w fun e w' => e = .returned (.tuple #[]) ∧ ∃ f' cs', Ring G w' r L c f' cs' (pushG gs g c) ∧ Chg (RS r L) w w' := by
  have hn := hrd.len
  subst hn
  exact push_ring h hG hrd hD hsm
theorem frozen_chg {w w' : World} {S : Nat → Prop} {b : Nat} (h : ∀ j, w.frozen? ⟨b, j, none⟩ = false) (hc : Chg S w w') (hb : b < w.heap.size) (hS : ¬ S b) : ∀ j, w'.frozen? ⟨b, j, none⟩ = false := fun j => by
  rw [World.frozen?_of_block (hc.block b hb hS)]
  exact h j
theorem chg16 (w : World) (g o : Nat) (x0 x1 x2 x3 x4 x5 x6 x7 x8 x9 x10 x11 x12 x13 x14 x15 : Value) : Chg (fun b => b = g) w (World.setCell (World.setCell (World.setCell (World.setCell (World.setCell (World.setCell (World.setCell (World.setCell (World.setCell (World.setCell (World.setCell (World.setCell (World.setCell (World.setCell (World.setCell (World.setCell w ⟨g, o, none⟩ x0) ⟨g, o + 1, none⟩ x1) ⟨g, o + 2, none⟩ x2) ⟨g, o + 3, none⟩ x3) ⟨g, o + 4, none⟩ x4) ⟨g, o + 5, none⟩ x5) ⟨g, o + 6, none⟩ x6) ⟨g, o + 7, none⟩ x7) ⟨g, o + 8, none⟩ x8) ⟨g, o + 9, none⟩ x9) ⟨g, o + 10, none⟩ x10) ⟨g, o + 11, none⟩ x11) ⟨g, o + 12, none⟩ x12) ⟨g, o + 13, none⟩ x13) ⟨g, o + 14, none⟩ x14) ⟨g, o + 15, none⟩ x15) :=
  Chg.setCell (S := fun b => b = g) (p := ⟨g, o + 15, none⟩) (Chg.setCell (S := fun b => b = g) (p := ⟨g, o + 14, none⟩) (Chg.setCell (S := fun b => b = g) (p := ⟨g, o + 13, none⟩) (Chg.setCell (S := fun b => b = g) (p := ⟨g, o + 12, none⟩) (Chg.setCell (S := fun b => b = g) (p := ⟨g, o + 11, none⟩) (Chg.setCell (S := fun b => b = g) (p := ⟨g, o + 10, none⟩) (Chg.setCell (S := fun b => b = g) (p := ⟨g, o + 9, none⟩) (Chg.setCell (S := fun b => b = g) (p := ⟨g, o + 8, none⟩) (Chg.setCell (S := fun b => b = g) (p := ⟨g, o + 7, none⟩) (Chg.setCell (S := fun b => b = g) (p := ⟨g, o + 6, none⟩) (Chg.setCell (S := fun b => b = g) (p := ⟨g, o + 5, none⟩) (Chg.setCell (S := fun b => b = g) (p := ⟨g, o + 4, none⟩) (Chg.setCell (S := fun b => b = g) (p := ⟨g, o + 3, none⟩) (Chg.setCell (S := fun b => b = g) (p := ⟨g, o + 2, none⟩) (Chg.setCell (S := fun b => b = g) (p := ⟨g, o + 1, none⟩) (Chg.setCell (S := fun b => b = g) (p := ⟨g, o, none⟩) (Chg.refl _ _) (.inl rfl) _) (.inl rfl) _) (.inl rfl) _) (.inl rfl) _) (.inl rfl) _) (.inl rfl) _) (.inl rfl) _) (.inl rfl) _) (.inl rfl) _) (.inl rfl) _) (.inl rfl) _) (.inl rfl) _) (.inl rfl) _) (.inl rfl) _) (.inl rfl) _) (.inl rfl) _
theorem chg16z (w : World) (g : Nat) (x0 x1 x2 x3 x4 x5 x6 x7 x8 x9 x10 x11 x12 x13 x14 x15 : Value) : Chg (fun b => b = g) w (World.setCell (World.setCell (World.setCell (World.setCell (World.setCell (World.setCell (World.setCell (World.setCell (World.setCell (World.setCell (World.setCell (World.setCell (World.setCell (World.setCell (World.setCell (World.setCell w ⟨g, 0, none⟩ x0) ⟨g, 1, none⟩ x1) ⟨g, 2, none⟩ x2) ⟨g, 3, none⟩ x3) ⟨g, 4, none⟩ x4) ⟨g, 5, none⟩ x5) ⟨g, 6, none⟩ x6) ⟨g, 7, none⟩ x7) ⟨g, 8, none⟩ x8) ⟨g, 9, none⟩ x9) ⟨g, 10, none⟩ x10) ⟨g, 11, none⟩ x11) ⟨g, 12, none⟩ x12) ⟨g, 13, none⟩ x13) ⟨g, 14, none⟩ x14) ⟨g, 15, none⟩ x15) :=
  Chg.setCell (S := fun b => b = g) (p := ⟨g, 15, none⟩) (Chg.setCell (S := fun b => b = g) (p := ⟨g, 14, none⟩) (Chg.setCell (S := fun b => b = g) (p := ⟨g, 13, none⟩) (Chg.setCell (S := fun b => b = g) (p := ⟨g, 12, none⟩) (Chg.setCell (S := fun b => b = g) (p := ⟨g, 11, none⟩) (Chg.setCell (S := fun b => b = g) (p := ⟨g, 10, none⟩) (Chg.setCell (S := fun b => b = g) (p := ⟨g, 9, none⟩) (Chg.setCell (S := fun b => b = g) (p := ⟨g, 8, none⟩) (Chg.setCell (S := fun b => b = g) (p := ⟨g, 7, none⟩) (Chg.setCell (S := fun b => b = g) (p := ⟨g, 6, none⟩) (Chg.setCell (S := fun b => b = g) (p := ⟨g, 5, none⟩) (Chg.setCell (S := fun b => b = g) (p := ⟨g, 4, none⟩) (Chg.setCell (S := fun b => b = g) (p := ⟨g, 3, none⟩) (Chg.setCell (S := fun b => b = g) (p := ⟨g, 2, none⟩) (Chg.setCell (S := fun b => b = g) (p := ⟨g, 1, none⟩) (Chg.setCell (S := fun b => b = g) (p := ⟨g, 0, none⟩) (Chg.refl _ _) (.inl rfl) _) (.inl rfl) _) (.inl rfl) _) (.inl rfl) _) (.inl rfl) _) (.inl rfl) _) (.inl rfl) _) (.inl rfl) _) (.inl rfl) _) (.inl rfl) _) (.inl rfl) _) (.inl rfl) _) (.inl rfl) _) (.inl rfl) _) (.inl rfl) _) (.inl rfl) _
/-- Of a row that the call owns: its address, and its cells. -/
theorem own_form {w : World} {base n : Nat} {e : TypeId} {size : Nat} {v : Value} {es : List (List Value)} (h : w.ownsRow base e size v n es.flatten) (hn : 0 < n) (hl : es.length = n) (hr : ∀ x ∈ es, x.length = size ∧ ∀ u ∈ x, u.oneCell' = true) :
    ∃ g c, v = .slice (some ⟨g, 0, none⟩) n c ∧ base ≤ g ∧ g < w.heap.size ∧ Rd w (fun b => b = g) size (some ⟨g, 0, none⟩) n c es ∧ Wr w (some ⟨g, 0, none⟩) := by
  obtain ⟨A, c, rfl, hrd⟩ := Rd.of_own h hl hr
  have hw := own_wr h
  rcases h.2 with ⟨h1, h2⟩ | ⟨g, cap, cur, h1, hb, hh, _⟩
  · omega
  · injection h1 with h1 _ h2
    subst h1
    refine ⟨g, c, rfl, hb, lt_of_block hh, ⟨hrd.len, hrd.le, hrd.max, hrd.rows, fun h0 => ?_⟩, hw⟩
    obtain ⟨b, off, e1, _, hc⟩ := hrd.at_ h0
    injection e1 with e1
    injection e1 with e1 e2
    subst e1 e2
    exact ⟨g, 0, rfl, rfl, hc⟩
/-- A row's first sixteen cells. -/
theorem first16 {w : World} {D : Nat → Prop} {b off n c : Nat} {es : List (List Value)} (h : Rd w D 16 (some ⟨b, off, none⟩) n c es) (hn : 0 < n) : ∃ x : Nat → Value, ∀ j, j < 16 → w.cell? ⟨b, off + j, none⟩ = some (x j) := by
  obtain ⟨b', off', e, _, hc⟩ := h.at_ hn
  injection e with e
  injection e with e1 e2
  subst e1 e2
  have hl : 0 < es.length := by rw [h.len]; exact hn
  have hr := (h.rows _ (List.getElem_mem hl)).1
  refine ⟨fun j => es[0].getD j undef, fun j hj => ?_⟩
  have hg : es[0][j]? = some (es[0].getD j undef) := by
    rw [List.getD_eq_getElem?_getD, List.getElem?_eq_getElem (by omega)]; rfl
  have := hc 0 _ (List.getElem?_eq_getElem hl) j _ hg
  simpa using this

set_option maxRecDepth 100000 in
set_option maxHeartbeats 4000000 in
theorem undoOwn_in (A B : Option Addr) (n c m d : Nat) (es es' : List (List Value)) (L : List ED) (w : World) (h1 : 1 ≤ n) (h2 : n ≤ 6) (h3 : 1 ≤ m) (h4 : m ≤ 6) (hx : Rd w (Old w) 16 A n c es) (hy : Rd w (Old w) 16 B m d es') (hL : EntsAre w (Old w) es L) :
    Calls Try.prog 4 #[.slice A n c, .slice B m d] w fun e w' => e = .returned (.bool true) ∧ Below w.heap.size w w' := by
  obtain ⟨i0, z, hi, hz, hz1, hz2, hz3⟩ := entParts
  obtain ⟨ba, oa, hA, -, -⟩ := hx.at_ (by omega)
  have hnews := hx.news hA (by omega)
  subst hA
  have hl : es.flatten.length = n * 16 := by rw [flat_len (fun e he => (hx.rows e he).1), hx.len]
  have hone := flat_one (fun e he => (hx.rows e he).2)
  have q1 : ¬ (n : Int) < 1 := by omega
  have q2 : ¬ (6 : Int) < (n : Int) := by omega
  have q3 : ¬ (m : Int) < 1 := by omega
  have q4 : ¬ (6 : Int) < (m : Int) := by omega
  have H1 := Lib.hid hnews
  have H2 := Lib.hid hl
  have H3 := Lib.hid hone
  have H4 := Lib.hid hx
  have H5 := Lib.hid hy
  have H6 := Lib.hid hL
  clear hnews hl hone hx hy hL
  go_enter Try.func4, Try.ntmps4
  go_wp2_with fail
  refine (new_ring 3 w (by decide)).mono ?_
  rintro e w1 ⟨rfl, ⟨cs, hR⟩, hb1⟩
  have R1 := Lib.hid hR
  have B1 := Lib.hid hb1
  have Z1 : RowKit.Hid (w.heap.size + 1 < w1.heap.size) := hR.r_lt
  have hN1 : RowKit.Hid (∀ j u, es.flatten[j]? = some u → (w1.alloc (.cells #[] 47)).cell? ((⟨ba, oa, none⟩ : Addr).add j) = some u) :=
    Lib.hid (fun j u hj => below_cell ((Below.refl _ w1).alloc (Nat.le_refl _) _) (below_cell hb1 (H1.out j u hj)))
  clear hR hb1
  go_upto_region 7 with (at_builtin; refine wpList_append_own _ rfl (.tmp 44) (.tmp 45) 24 rfl w1.heap.size 47 i0 z 16 256 Try.underlying24 hi hz hz1 hz2 hz3 (by decide) _ 0 [] rfl (World.ownsRow_lit w1 #[] 0 (Nat.le_refl _) (by decide) rfl) ⟨ba, oa, none⟩ n c es.flatten rfl H2.out hN1.out H3.out (by unfold maxLen; omega) (by omega) (by simp) ?_; intro v2 w2 hown2 hgrow2 _)
  rw [Nat.zero_add, List.nil_append] at hown2
  obtain ⟨g2, k2, rfl, hg2, hlt2, hr2, -⟩ := own_form hown2 (by omega) H4.out.len H4.out.rows
  have B2 : RowKit.Hid (Below w1.heap.size w1 w2) := ((Below.refl _ w1).alloc (Nat.le_refl _) _).grown hgrow2 (by simp) (fun k hk => by cases hk; exact Nat.le_refl _)
  have R2 := Lib.hid (R1.out.below B2.out)
  have D2 := Lib.hid hr2
  have L2 := Lib.hid hlt2
  have G2 := Lib.hid hg2
  have hN2 : RowKit.Hid (∀ j u, es.flatten[j]? = some u → (w2.alloc (.cells #[] 47)).cell? ((⟨ba, oa, none⟩ : Addr).add j) = some u) :=
    Lib.hid (fun j u hj => below_cell ((Below.refl _ w2).alloc (Nat.le_refl _) _) (below_cell B2.out (below_cell B1.out (H1.out j u hj))))
  clear hown2 hgrow2 hr2 hg2 hlt2 R1 hN1
  go_upto_region 8 with (at_builtin; refine wpList_append_own _ rfl (.tmp 47) (.tmp 48) 24 rfl w2.heap.size 47 i0 z 16 256 Try.underlying24 hi hz hz1 hz2 hz3 (by decide) _ 0 [] rfl (World.ownsRow_lit w2 #[] 0 (Nat.le_refl _) (by decide) rfl) ⟨ba, oa, none⟩ n c es.flatten rfl H2.out hN2.out H3.out (by unfold maxLen; omega) (by omega) (by simp) ?_; intro v3 w3 hown3 hgrow3 _)
  rw [Nat.zero_add, List.nil_append] at hown3
  obtain ⟨g3, k3, rfl, hg3, hlt3, hr3, hwr3⟩ := own_form hown3 (by omega) H4.out.len H4.out.rows
  have B3 : RowKit.Hid (Below w2.heap.size w2 w3) := ((Below.refl _ w2).alloc (Nat.le_refl _) _).grown hgrow3 (by simp) (fun k hk => by cases hk; exact Nat.le_refl _)
  have hz12 : w.heap.size + 1 < w1.heap.size := Z1.out
  have hz23 := B2.out.size
  have R3 : RowKit.Hid (Ring (fun b => b ≠ w.heap.size + 1 ∧ b ≠ w.heap.size ∧ b ≠ g3) w3 (w.heap.size + 1) w.heap.size 3 0 cs []) := (R2.out.below B3.out).empty (fun h => h.1 rfl) (fun h => h.2.1 rfl)
  have D3 := Lib.hid hr3
  have W3 := Lib.hid (fun j => hwr3 g3 0 rfl j)
  have G2' := G2.out
  have L2' := L2.out
  have hz34 := B3.out.size
  have A3 : RowKit.Hid (Below w.heap.size w w3) := (B1.out.trans (B2.out.mono (by omega))).trans (B3.out.mono (by omega))
  have E3 := Lib.hid (D2.out.below B3.out)
  clear hown3 hgrow3 hr3 R2 hwr3 D2
  go_wp2_with fail
  refine (push_n R3.out (fun b hb => ⟨by omega, by omega, by omega⟩) D3.out (fun b hb => by omega) (by omega)).mono ?_
  rintro e w4 ⟨rfl, f4, cs4, hR4, C4⟩
  have hz45 := C4.size
  have R4 : RowKit.Hid (Ring (fun b => b ≠ w.heap.size + 1 ∧ b ≠ w.heap.size ∧ b ≠ g3) w4 (w.heap.size + 1) w.heap.size 3 f4 cs4 [es]) := hR4
  have A4 : RowKit.Hid (Below w.heap.size w w4) := A3.out.trans (C4.below (by omega) (by rintro k (h | h) <;> omega))
  have D4 := Lib.hid (D3.out.chg C4 (by rintro b hb (h | h) <;> omega))
  have E4 := Lib.hid (E3.out.chg C4 (by rintro b hb (h | h) <;> omega))
  have W4 := Lib.hid (frozen_chg W3.out C4 (by omega) (by rintro (h | h) <;> omega))
  clear hR4 C4 R3 D3 E3 W3
  go_wp2_with fail
  refine (push_n R4.out (fun b hb => ⟨by omega, by omega, by omega⟩) (H5.out.below A4.out) (fun b hb => by have : b < w.heap.size := hb; omega) (by omega)).mono ?_
  rintro e w5 ⟨rfl, f5, cs5, hR5, C5⟩
  have hz56 := C5.size
  have R5 : RowKit.Hid (Ring (fun b => b ≠ w.heap.size + 1 ∧ b ≠ w.heap.size ∧ b ≠ g3) w5 (w.heap.size + 1) w.heap.size 3 f5 cs5 [es, es']) := hR5
  have A5 : RowKit.Hid (Below w.heap.size w w5) := A4.out.trans (C5.below (by omega) (by rintro k (h | h) <;> omega))
  have D5 := Lib.hid (D4.out.chg C5 (by rintro b hb (h | h) <;> omega))
  have E5 := Lib.hid (E4.out.chg C5 (by rintro b hb (h | h) <;> omega))
  have w5f := frozen_chg W4.out C5 (by omega) (by rintro (h | h) <;> omega)
  clear hR5 C5 R4 D4 E4 W4
  obtain ⟨xs, hxs⟩ := first16 D5.out (by omega)
  have z0 := hxs 0 (by decide)
  have z1 := hxs 1 (by decide)
  have z2 := hxs 2 (by decide)
  have z3 := hxs 3 (by decide)
  have z4 := hxs 4 (by decide)
  have z5 := hxs 5 (by decide)
  have z6 := hxs 6 (by decide)
  have z7 := hxs 7 (by decide)
  have z8 := hxs 8 (by decide)
  have z9 := hxs 9 (by decide)
  have z10 := hxs 10 (by decide)
  have z11 := hxs 11 (by decide)
  have z12 := hxs 12 (by decide)
  have z13 := hxs 13 (by decide)
  have z14 := hxs 14 (by decide)
  have z15 := hxs 15 (by decide)
  simp only [Nat.zero_add] at z0 z1 z2 z3 z4 z5 z6 z7 z8 z9 z10 z11 z12 z13 z14 z15
  have q5 : (0 : Int) < (n : Int) := by omega
  clear hxs
  go_upto_region 11 with fail
  clear z0 z1 z2 z3 z4 z5 z6 z7 z8 z9 z10 z11 z12 z13 z14 z15
  obtain ⟨w6, C6, hW6⟩ : ∃ w6, Chg (fun b => b = g3) w5 w6 ∧ (World.setCell (World.setCell (World.setCell (World.setCell (World.setCell (World.setCell (World.setCell (World.setCell (World.setCell (World.setCell (World.setCell (World.setCell (World.setCell (World.setCell (World.setCell (World.setCell w5 ⟨g3, 0, none⟩ (.string ⟨#[111, 116, 104, 101, 114]⟩)) ⟨g3, 1, none⟩ (.int .u8 0)) ⟨g3, 2, none⟩ (.bool false)) ⟨g3, 3, none⟩ (.slice none 0 0)) ⟨g3, 4, none⟩ (.slice none 0 0)) ⟨g3, 5, none⟩ (.string ⟨#[]⟩)) ⟨g3, 6, none⟩ (.string ⟨#[]⟩)) ⟨g3, 7, none⟩ (.string ⟨#[]⟩)) ⟨g3, 8, none⟩ (.string ⟨#[]⟩)) ⟨g3, 9, none⟩ (.slice none 0 0)) ⟨g3, 10, none⟩ (.slice none 0 0)) ⟨g3, 11, none⟩ (.int .i64 0)) ⟨g3, 12, none⟩ (.slice none 0 0)) ⟨g3, 13, none⟩ (.int .i64 0)) ⟨g3, 14, none⟩ (.string ⟨#[]⟩)) ⟨g3, 15, none⟩ (.bool false)) = w6 := ⟨_, chg16z _ _ _ _ _ _ _ _ _ _ _ _ _ _ _ _ _ _, rfl⟩
  rw [hW6]
  have hz67 := C6.size
  have R6 : RowKit.Hid (Ring (fun b => b ≠ w.heap.size + 1 ∧ b ≠ w.heap.size ∧ b ≠ g3) w6 (w.heap.size + 1) w.heap.size 3 f5 cs5 [es, es']) := R5.out.chg C6 (by omega) (by omega) (fun b hb => hb.2.2)
  have A6 : RowKit.Hid (Below w.heap.size w w6) := A5.out.trans (C6.below (by omega) (by rintro k h; omega))
  have E6 := Lib.hid (E5.out.chg C6 (by rintro b hb h; omega))
  clear hW6 C6 R5 D5 E5 w5f
  go_wp2_with fail
  refine (rat_wr _ _ _ 3 f5 cs5 [es, es'] 1 _ R6.out (by simp) es rfl).mono ?_
  rintro e w7 ⟨A7, m7, rfl, D7, B7, W7⟩
  rw [H4.out.len] at D7 ⊢
  obtain ⟨g7, o7, rfl, hg7, -⟩ := D7.at_ (by omega)
  have w7f := W7 g7 o7 rfl
  obtain ⟨xs, hxs⟩ := first16 D7 (by omega)
  have z0 := hxs 0 (by decide)
  have z1 := hxs 1 (by decide)
  have z2 := hxs 2 (by decide)
  have z3 := hxs 3 (by decide)
  have z4 := hxs 4 (by decide)
  have z5 := hxs 5 (by decide)
  have z6 := hxs 6 (by decide)
  have z7 := hxs 7 (by decide)
  have z8 := hxs 8 (by decide)
  have z9 := hxs 9 (by decide)
  have z10 := hxs 10 (by decide)
  have z11 := hxs 11 (by decide)
  have z12 := hxs 12 (by decide)
  have z13 := hxs 13 (by decide)
  have z14 := hxs 14 (by decide)
  have z15 := hxs 15 (by decide)
  simp only [Nat.add_zero] at z0
  have R7 := Lib.hid (R6.out.below B7)
  have BB7 := Lib.hid B7
  have E7 := Lib.hid (E6.out.below B7)
  have hg7' : w6.heap.size ≤ g7 := hg7
  have hg7l : g7 < w7.heap.size := World.block_lt_of_cell? w7 _ z0
  clear D7 B7 W7 hxs hg7
  go_upto_region 15 with fail
  clear z0 z1 z2 z3 z4 z5 z6 z7 z8 z9 z10 z11 z12 z13 z14 z15
  obtain ⟨w8, C8, hW8⟩ : ∃ w8, Chg (fun b => b = g7) w7 w8 ∧ (World.setCell (World.setCell (World.setCell (World.setCell (World.setCell (World.setCell (World.setCell (World.setCell (World.setCell (World.setCell (World.setCell (World.setCell (World.setCell (World.setCell (World.setCell (World.setCell w7 ⟨g7, o7, none⟩ (.string ⟨#[97, 110, 111, 116, 104, 101, 114]⟩)) ⟨g7, o7 + 1, none⟩ (.int .u8 0)) ⟨g7, o7 + 2, none⟩ (.bool false)) ⟨g7, o7 + 3, none⟩ (.slice none 0 0)) ⟨g7, o7 + 4, none⟩ (.slice none 0 0)) ⟨g7, o7 + 5, none⟩ (.string ⟨#[]⟩)) ⟨g7, o7 + 6, none⟩ (.string ⟨#[]⟩)) ⟨g7, o7 + 7, none⟩ (.string ⟨#[]⟩)) ⟨g7, o7 + 8, none⟩ (.string ⟨#[]⟩)) ⟨g7, o7 + 9, none⟩ (.slice none 0 0)) ⟨g7, o7 + 10, none⟩ (.slice none 0 0)) ⟨g7, o7 + 11, none⟩ (.int .i64 0)) ⟨g7, o7 + 12, none⟩ (.slice none 0 0)) ⟨g7, o7 + 13, none⟩ (.int .i64 0)) ⟨g7, o7 + 14, none⟩ (.string ⟨#[]⟩)) ⟨g7, o7 + 15, none⟩ (.bool false)) = w8 := ⟨_, chg16 _ _ _ _ _ _ _ _ _ _ _ _ _ _ _ _ _ _ _, rfl⟩
  rw [hW8]
  have B8 : Below w6.heap.size w6 w8 := BB7.out.trans (C8.below BB7.out.size (by rintro k h; omega))
  have hz68 := B8.size
  have R8 : RowKit.Hid (Ring (fun b => b ≠ w.heap.size + 1 ∧ b ≠ w.heap.size ∧ b ≠ g3) w8 (w.heap.size + 1) w.heap.size 3 f5 cs5 ([es] ++ [es'])) := R6.out.below B8
  have A8 : RowKit.Hid (Below w.heap.size w w8) := A6.out.trans (B8.mono (by omega))
  have E8 := Lib.hid (E6.out.below B8)
  clear hW8 C8 B8 R7 BB7 E7 R6 A6 E6 w7f
  go_wp2_with fail
  refine (pop_ring es' R8.out).mono ?_
  rintro e w9 ⟨A9, m9, cs9, rfl, -, C9, R9⟩
  have hz89 := C9.size
  have R9' : RowKit.Hid (Ring (fun b => b ≠ w.heap.size + 1 ∧ b ≠ w.heap.size ∧ b ≠ g3) w9 (w.heap.size + 1) w.heap.size 3 f5 cs9 ([] ++ [es])) := R9
  have A9' : RowKit.Hid (Below w.heap.size w w9) := A8.out.trans (C9.below (by omega) (by rintro k (h | h) <;> omega))
  have E9 := Lib.hid (E8.out.chg C9 (by rintro b hb (h | h) <;> omega))
  clear R9 C9 R8 A8 E8
  go_wp2_with fail
  refine (pop_ring es R9'.out).mono ?_
  rintro e w10 ⟨A10, m10, cs10, rfl, D10, C10, -⟩
  have hz910 := C10.size
  have A10' : RowKit.Hid (Below w.heap.size w w10) := A9'.out.trans (C10.below (by omega) (by rintro k (h | h) <;> omega))
  have E10 := Lib.hid (E9.out.chg C10 (by rintro b hb (h | h) <;> omega))
  have D10' := Lib.hid D10
  have hdec : decide (L = L) = true := by simp
  clear C10 D10 R9' A9' E9
  go_wp2_with fail
  refine (entries_any _ _ _ _ _ _ es es L L _ _ _ _ _ D10'.out E10.out (H6.out.below A10'.out) (H6.out.below A10'.out)).mono ?_
  rintro e w11 ⟨rfl, B11⟩
  have A11 : RowKit.Hid (Below w.heap.size w w11) := A10'.out.trans (B11.mono (by omega))
  have hz1011 := B11.size
  clear B11
  go_wp2_with (go_at_call 17; refine (awake24_any _).mono ?_; rintro e w12 ⟨rfl, B12⟩)
  go_ret
  exact ⟨rfl, A11.out.trans (B12.mono (by omega))⟩
end Go.Proofs.Ytochdmbjlemfoaa
