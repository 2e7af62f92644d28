/-
  The ring of package undo: Push, Pop, Clear, New and the law's own group, said of the ring's groups. Of any ring that is laid so.
-/
import Derived.Test.YtochdmbjlemfoaaU3
namespace Go.Proofs.Ytochdmbjlemfoaa
open Go Go.RowKit

theorem push_zero (r L f n : Nat) (v : Value) (w : World) (hd : Hdr w r L 0 f n) : Calls Try.prog 19 #[.pointer (some ⟨r, 0, none⟩), v] w fun e w' => e = .returned (.tuple #[]) ∧ w = w' := by
  have c0 := hd.c0
  clear hd
  go_enter Try.func19, Try.ntmps19
  go_wp2
  exact bodyPost_ret (results_none rfl _ _ _) rfl ⟨rfl, rfl⟩
theorem push_nil (v : Value) (w : World) : Calls Try.prog 19 #[.pointer none, v] w fun e w' => e = .returned (.tuple #[]) ∧ w = w' := by
  go_enter Try.func19, Try.ntmps19
  go_wp2
  exact bodyPost_ret (results_none rfl _ _ _) rfl ⟨rfl, rfl⟩

theorem pop_nil (w : World) : Calls Try.prog 22 #[.pointer none] w fun e w' => e = .returned (.tuple #[.slice none 0 0, .bool false]) ∧ w = w' := by
  go_enter Try.func22, Try.ntmps22
  go_wp2_with (go_at_call 24; refine (rat_nil _ _).mono ?_; rintro e w' ⟨rfl, rfl⟩)
  go_ret2
  exact ⟨rfl, rfl⟩
theorem pop_empty (r L c f : Nat) (w : World) (hd : Hdr w r L c f 0) : Calls Try.prog 22 #[.pointer (some ⟨r, 0, none⟩)] w fun e w' => e = .returned (.tuple #[.slice none 0 0, .bool false]) ∧ w = w' := by
  have c2 := hd.c2
  clear hd
  go_enter Try.func22, Try.ntmps22
  go_wp2_with (go_at_call 24; refine (rat_out r 0 0 _ c2 (.inr (by simp))).mono ?_; rintro e w' ⟨rfl, rfl⟩)
  go_ret2
  exact ⟨rfl, rfl⟩
theorem clear_nil (w : World) : Calls Try.prog 26 #[.pointer none] w fun e w' => e = .returned (.tuple #[]) ∧ w = w' := by
  go_enter Try.func26, Try.ntmps26
  go_wp2
  go_end0
  exact ⟨rfl, rfl⟩

def emptyS : ByteArray := ⟨#[]⟩
/-- The cells of an entry of that key: nothing but the key and Had. -/
def groupE (key : ByteArray) : List Value :=
  [.string key, .int .u8 0, .bool false, .slice none 0 0, .slice none 0 0, .string emptyS, .string emptyS, .string emptyS, .string emptyS, .slice none 0 0, .slice none 0 0, .int .i64 0, .slice none 0 0, .int .i64 0, .string emptyS, .bool true]
theorem group_any (key : ByteArray) (w : World) : Calls Try.prog 20 #[.string key] w fun e w' => e = .returned (.slice (some ⟨w.heap.size, 0, none⟩) 1 1) ∧ w' = w.alloc (.cells (groupE key).toArray 47) := by
  go_enter Try.func20, Try.ntmps20
  go_wp2
  go_ret
  exact ⟨rfl, rfl⟩

theorem new_bad (c : Int) (w : World) (h : c < 0 ∨ 10000 < c) : Calls Try.prog 18 #[.int .i64 c] w fun e w' => e = .returned (.tuple #[.pointer none, .int .i64 1]) ∧ w = w' := by
  rcases h with h | h
  · go_enter Try.func18, Try.ntmps18
    go_wp2
    go_ret2
    exact ⟨rfl, rfl⟩
  · have h' : ¬ c < 0 := by omega
    go_enter Try.func18, Try.ntmps18
    go_wp2
    go_ret2
    exact ⟨rfl, rfl⟩
theorem entriesInfo : (Try.prog.info? 24).map (fun i => (i.zero, i.size, i.bytes)) = some (some (.slice none 0 0), 1, 24) := by kernel_rfl
theorem new_good (c : Nat) (w : World) (h : c ≤ 10000) : Calls Try.prog 18 #[.int .i64 (c : Int)] w fun e w' => e = .returned (.tuple #[.pointer (some ⟨w.heap.size + 1, 0, none⟩), .int .i64 0]) ∧
    (∃ cs : Array Value, cs.size = c ∧ w'.heap[w.heap.size]? = some (.cells cs 24 (0, 0))) ∧ Hdr w' (w.heap.size + 1) w.heap.size c 0 0 ∧ Below w.heap.size w w' ∧ w'.heap.size = w.heap.size + 2 := by
  have hmk := run_make_row' (P := Try.prog) 22 24 (.slice none 0 0) 24 Try.underlying22 entriesInfo rfl .i64 .i64 c (by omega) (by omega)
  have h1 : ¬ (c : Int) < 0 := by omega
  have h2 : ¬ (10000 : Int) < (c : Int) := by omega
  go_enter Try.func18, Try.ntmps18
  go_wp2
  go_ret2
  exact ⟨rfl, ⟨_, by simp [madeCells], heap_alloc2_old _ _ _⟩, heap_alloc2_new _ _ _, ((Below.refl _ w).alloc (Nat.le_refl _) _).alloc (by simp) _, by simp⟩

set_option maxRecDepth 100000 in
set_option maxHeartbeats 800000 in
theorem pop_some (G : Nat → Prop) (r L c f i N : Nat) (cs : Array Value) (gs : List (List (List Value))) (g : List (List Value)) (w : World) (h : Ring G w r L c f cs gs) (hg : gs[gs.length - 1]? = some g) (hN : gs.length = N + 1)
    (hi : (f + (gs.length - 1)) % c = i) :
    Calls Try.prog 22 #[.pointer (some ⟨r, 0, none⟩)] w fun e w' => ∃ A m, e = .returned (.tuple #[.slice A g.length m, .bool true]) ∧ Rd w' (fun b => w.heap.size ≤ b) 16 A g.length m g ∧
      Chg (RS r L) w w' ∧ Hdr w' r L c f N ∧ w'.heap[L]? = some (.cells (cs.setIfInBounds i (.slice none 0 0)) 24 (0, 0)) := by
  have hc : 0 < c := by have := h.n_le; omega
  have hf := h.f_lt hc
  have hcl := h.c_le
  have hnl := h.n_le
  have ne := h.ne
  obtain ⟨A0, m0, hcell, hrd⟩ := h.grp _ g hg
  have hic : i < c := by rw [← hi]; exact Nat.mod_lt _ hc
  have hp : ((f : Int) + gs.length - 1 - 0) % c = (i : Int) := by
    rw [← hi, show ((f : Int) + gs.length - 1 - 0) = ((f + (gs.length - 1) : Nat) : Int) by omega]
    rfl
  rw [hi] at hcell
  have hat := fun W (hW : Ring G W r L c f cs gs) => rat_in G r L c f cs gs 0 W hW (by omega) g (by simpa using hg)
  have c2 := h.c2
  have H1 := Lib.hid hp
  have H2 := Lib.hid hN
  have H3 := Lib.hid h
  have H4 := Lib.hid hcell
  have H5 := Lib.hid (hat w h)
  clear hp hN hi hg hrd hat h hcell
  have hn0 : 0 < gs.length := by have := H2.out; omega
  have h5 : (i : Int) < (c : Int) := by omega
  have h6 : (0 : Int) ≤ (i : Int) := by omega
  go_enter Try.func22, Try.ntmps22
  go_wp2_with (go_at_call 24; refine H5.out.mono ?_; rintro e w1 ⟨A, m, rfl, hr, hb⟩)
  have hR1 := H3.out.below hb
  have d0 := hR1.c0
  have d1 := hR1.c1
  have d2 := hR1.c2
  have dL : w1.cell? ⟨L, i, none⟩ = some (.slice A0 g.length m0) := (hR1.cL i).trans H4.out
  have eL := hR1.fL i
  have e2 := hR1.fr 2
  have H7 := Lib.hid hr
  have H8 := Lib.hid hb
  have H9 := Lib.hid hR1
  clear hr hb hR1 c2
  go_region_held3 (fun w' => w'.cell? ⟨r, 0, none⟩ = some (.slice (some ⟨L, 0, none⟩) c c) ∧ w'.cell? ⟨r, 1, none⟩ = some (.int .i64 (f : Int)) ∧ w'.cell? ⟨r, 2, none⟩ = some (.int .i64 (gs.length : Int)))
    (first | (go_keep; done) | (go_split_ands; exact ⟨set_far (by assumption) ne.symm, set_far (by assumption) ne.symm, set_far (by assumption) ne.symm⟩))
    ((go_at_call 71; refine (place_any r L c f gs.length 0 _ (by first | exact d0 | assumption) (by first | exact d1 | assumption) (by first | exact d2 | assumption) hf hcl hnl (by omega) (by omega) i H1.out).mono ?_; rintro e w2 ⟨rfl, x1, rfl⟩))
  go_wp2
  go_ret2
  rw [show ((gs.length : Int) - 1) = (N : Int) by have := H2.out; omega]
  have hrlt := H3.out.r_lt
  have hLlt := H3.out.L_lt
  have hch : Chg (RS r L) w1 (((w1.drewN (1 + x1)).setCell ⟨L, i, none⟩ (.slice none 0 0)).setCell ⟨r, 2, none⟩ (.int .i64 (N : Int))) :=
    Chg.setCell (S := RS r L) (p := ⟨r, 2, none⟩) (Chg.setCell (S := RS r L) (p := ⟨L, i, none⟩) ((Chg.refl _ _).drewN _) (.inl (.inr rfl)) _) (.inl (.inl rfl)) _
  refine ⟨A, m, rfl, H7.out.chg hch (fun b hb hS => by rcases hS with hS | hS <;> omega), (Chg.of_below H8.out).trans hch, ?_, ?_⟩
  · exact Hdr.set2 (n := gs.length) ((heap_setCell_other _ _ _ _ ne).trans H9.out.hdr) N
  · exact (heap_setCell_other _ _ _ _ ne.symm).trans (heap_setCell_same _ L i cs _ _ H9.out.arr)

section
variable {G : Nat → Prop} {w w' : World} {r L c f : Nat} {cs : Array Value} {gs : List (List (List Value))}
theorem Ring.hd (h : Ring G w r L c f cs gs) : Hdr w r L c f gs.length := h.hdr
/-- What is pushed: the oldest goes if there is no room. -/
def pushG (gs : List (List (List Value))) (g : List (List Value)) (c : Nat) : List (List (List Value)) :=
  if c = 0 then [] else if gs.length = c then gs.tail ++ [g] else gs ++ [g]

theorem pop_ring (g : List (List Value)) (h : Ring G w r L c f cs (gs ++ [g])) :
    Calls Try.prog 22 #[.pointer (some ⟨r, 0, none⟩)] w fun e w' => ∃ A m cs', e = .returned (.tuple #[.slice A g.length m, .bool true]) ∧ Rd w' (fun b => w.heap.size ≤ b) 16 A g.length m g ∧
      Chg (RS r L) w w' ∧ Ring G w' r L c f cs' gs := by
  have hlen : (gs ++ [g]).length = gs.length + 1 := by simp
  have hnl := h.n_le
  refine (pop_some G r L c f _ gs.length cs (gs ++ [g]) g w h (by simp) hlen rfl).mono ?_
  rintro e w' ⟨A, m, he, hr, hch, hhd, harr⟩
  have hf := h.f_lt (by omega)
  refine ⟨A, m, _, he, hr, hch, h.rebuild hch hhd harr (by simp [h.size]) (by omega) (fun _ => hf) (fun j g' hj => .inl ?_) (fun g' hg' => h.small g' (by simp [hg']))⟩
  have hjl : j < gs.length := (List.getElem?_eq_some_iff.1 hj).1
  obtain ⟨A', k, h1, h2⟩ := h.grp j g' (by rw [List.getElem?_append_left hjl]; exact hj)
  refine ⟨A', k, ?_, h2⟩
  rw [Array.getElem?_setIfInBounds_ne (mod_ne (by omega) (by omega) (by omega) (by omega))]
  exact h1

theorem push_ring (h : Ring G w r L c f cs gs) (hG : ∀ b, w.heap.size ≤ b → G b) {D : Nat → Prop} {A : Option Addr} {m : Nat} {g : List (List Value)} (hrd : Rd w D 16 A g.length m g) (hD : ∀ b, D b → b ≠ r) (hsm : g.length * 256 ≤ 140737488355328) :
    Calls Try.prog 19 #[.pointer (some ⟨r, 0, none⟩), .slice A g.length m] w fun e w' => e = .returned (.tuple #[]) ∧ ∃ f' cs', Ring G w' r L c f' cs' (pushG gs g c) ∧ Chg (RS r L) w w' := by
  have hnl := h.n_le
  have hcl := h.c_le
  have hrlt := h.r_lt
  have hLlt := h.L_lt
  by_cases hc : c = 0
  · subst hc
    refine (push_zero r L f _ _ w h.hd).mono ?_
    rintro e w' ⟨rfl, rfl⟩
    have : gs = [] := List.eq_nil_of_length_eq_zero (by omega)
    subst this
    exact ⟨rfl, f, cs, by simpa [pushG] using h, Chg.refl _ _⟩
  have hf := h.f_lt (by omega)
  -- what both ways leave
  have fin : ∀ (F N i : Nat) (gs' : List (List (List Value))) (w' : World), F < c → N = gs'.length + 1 → N ≤ c → (F + gs'.length) % c = i →
      (∀ (j : Nat) g', gs'[j]? = some g' → ∃ A k, cs[(F + j) % c]? = some (.slice A g'.length k) ∧ Rd w G 16 A g'.length k g') → (∀ g' ∈ gs', g'.length * 256 ≤ 140737488355328) →
      (∃ A' m' W1 w2, Hdr W1 r L c F N ∧ Chg (fun b => b = r) w W1 ∧ W1.heap.size = w.heap.size ∧
      Rd w2 (fun b => w.heap.size ≤ b) 16 A' g.length m' g ∧ Below W1.heap.size W1 w2 ∧ w' = w2.setCell ⟨L, i, none⟩ (.slice A' g.length m')) → ∃ f' cs', Ring G w' r L c f' cs' (gs' ++ [g]) ∧ Chg (RS r L) w w' := by
    rintro F N i gs' w' hF hN hNc hi hgrp hs ⟨A', m', W1, w2, h1, h2, h3, h4, h5, rfl⟩
    have hic : i < c := by rw [← hi]; exact Nat.mod_lt _ (by omega)
    have hch : Chg (RS r L) w (w2.setCell ⟨L, i, none⟩ (.slice A' g.length m')) :=
      Chg.setCell (S := RS r L) (p := ⟨L, i, none⟩) ((h2.mono (fun k _ hk => .inl hk)).trans (Chg.of_below h5)) (.inl (.inr rfl)) _
    have hH : Hdr w2 r L c F N := (h5.block r (by omega)).trans h1
    have hA : w2.heap[L]? = some (.cells cs 24 (0, 0)) := ((h5.block L (by omega)).trans (h2.block L hLlt (fun e => h.ne e.symm))).trans h.arr
    refine ⟨F, cs.setIfInBounds i (.slice A' g.length m'), h.rebuild hch ?_ (heap_setCell_same _ L i cs _ _ hA) (by simp [h.size]) (by simp; omega) (fun _ => hF) (fun j g' hj => ?_) (fun g' hg' => ?_), hch⟩
    · rw [heap_setCell_other _ _ _ _ h.ne]
      rw [show (gs' ++ [g]).length = N by simp; omega]
      exact hH
    · rcases Nat.lt_or_ge j gs'.length with hlt | hge
      · rw [List.getElem?_append_left hlt] at hj
        obtain ⟨B, k, a1, a2⟩ := hgrp j g' hj
        refine .inl ⟨B, k, ?_, a2⟩
        rw [← hi, Array.getElem?_setIfInBounds_ne (mod_ne (by omega) (by omega) (by omega) (by omega))]
        exact a1
      · rw [List.getElem?_append_right hge] at hj
        have hj0 : j = gs'.length := by
          have := (List.getElem?_eq_some_iff.1 hj).1
          simp at this; omega
        subst hj0
        simp at hj
        subst hj
        refine .inr ⟨A', m', ?_, ?_⟩
        · rw [hi, Array.getElem?_setIfInBounds_self_of_lt (by rw [h.size]; exact hic)]
        · refine (h4.chg (S := fun b => b = L) (Chg.setCell (S := fun b => b = L) (p := ⟨L, i, none⟩) (Chg.refl _ _) (.inl rfl) _) (fun b hb hS => ?_)).mono (fun b _ hb => hG b hb) (by decide)
          have hb' : w.heap.size ≤ b := hb
          omega
    · rcases List.mem_append.1 hg' with hg' | hg'
      · exact hs g' hg'
      · simp at hg'; subst hg'; exact hsm
  have hcell : ∀ i, i < c → ∃ old, w.cell? ⟨L, i, none⟩ = some old := fun i hi => by
    rw [h.cL i]
    exact ⟨_, Array.getElem?_eq_getElem (by rw [h.size]; exact hi)⟩
  by_cases hn : gs.length = c
  · have hi : ((f + 1) % c + gs.tail.length) % c < c := Nat.mod_lt _ (by omega)
    obtain ⟨old, ho⟩ := hcell _ hi
    have hF : (f + 1) % c < c := Nat.mod_lt _ (by omega)
    have htl : gs.tail.length + 1 = c := by simp; omega
    refine (push_full r L c f ((f + 1) % c) _ g A m old D w (hn ▸ h.hd) ho (h.fL _) h.ne hf hcl rfl hF ?_ hi hrd hD hsm).mono ?_
    · rw [show ((((f + 1) % c : Nat) : Int) + (c : Int) - 1 - 0) = (((f + 1) % c + gs.tail.length : Nat) : Int) by omega]
      rfl
    · rintro e w' ⟨rfl, hx⟩
      refine ⟨rfl, ?_⟩
      rw [show pushG gs g c = gs.tail ++ [g] by simp [pushG, hc, hn]]
      refine fin ((f + 1) % c) c _ gs.tail w' hF (by omega) (Nat.le_refl _) rfl (fun j g' hj => ?_) (fun g' hg' => h.small g' (List.mem_of_mem_tail hg')) hx
      rw [mod_step]
      exact h.grp (j + 1) g' (by rw [← hj, List.getElem?_tail])
  · have hi : (f + gs.length) % c < c := Nat.mod_lt _ (by omega)
    obtain ⟨old, ho⟩ := hcell _ hi
    refine (push_room r L c f gs.length (gs.length + 1) _ g A m old D w h.hd ho (h.fL _) h.ne hf hcl (by omega) rfl ?_ hi hrd hD hsm).mono ?_
    · rw [show ((f : Int) + ((gs.length + 1 : Nat) : Int) - 1 - 0) = ((f + gs.length : Nat) : Int) by omega]
      rfl
    · rintro e w' ⟨rfl, hx⟩
      refine ⟨rfl, ?_⟩
      rw [show pushG gs g c = gs ++ [g] by simp [pushG, hc, hn]]
      exact fin f (gs.length + 1) _ gs w' hf rfl (by omega) rfl (fun j g' hj => h.grp j g' hj) (fun g' hg' => h.small g' hg') hx
end

/-- Between two rounds of Clear. -/
def ClearRel (w wr : World) (r L c f n : Nat) : Prop := Chg (RS r L) w wr ∧ Hdr wr r L c f n ∧ ∃ cs : Array Value, cs.size = c ∧ wr.heap[L]? = some (.cells cs 24 (0, 0))

set_option maxRecDepth 100000 in
set_option maxHeartbeats 800000 in
theorem clear_any (r L c f n : Nat) (cs0 : Array Value) (w : World) (hd : Hdr w r L c f n) (ha : w.heap[L]? = some (.cells cs0 24 (0, 0))) (hs : cs0.size = c) (ne : r ≠ L) (hf : 0 < c → f < c) (hcl : c ≤ 10000) (hn : n ≤ c) :
    Calls Try.prog 26 #[.pointer (some ⟨r, 0, none⟩)] w fun e w' => e = .returned (.tuple #[]) ∧ ClearRel w w' r L c f 0 := by
  have hst : ClearRel w w r L c f n := ⟨Chg.refl _ _, hd, cs0, hs, ha⟩
  have c0 := hd.c0
  have c1 := hd.c1
  have c2 := hd.c2
  have H1 := Lib.hid hst
  clear hst hd ha hs
  go_enter Try.func26, Try.ntmps26
  go_wp2
  go_loopw [9] (fun i wr => ∃ k : Nat, k ≤ n ∧ i = .int .i64 (k : Int) ∧ ClearRel w wr r L c f n) (fun i _ => n - (intOf i).toNat)
  case atStart => exact ⟨0, Nat.zero_le _, rfl, H1.out⟩
  case round =>
    obtain ⟨k, hk, rfl, hrl⟩ := hrel
    obtain ⟨hch, hd, cs, hs, ha⟩ := hrl
    have d0 := hd.c0
    have d1 := hd.c1
    have d2 := hd.c2
    have e2 := hd.fr 2
    have H2 := Lib.hid hch
    have H3 := Lib.hid hd
    have H4 := Lib.hid ha
    have H5 := Lib.hid hs
    by_cases hlt : k < n
    · have hf' := hf (by omega)
      obtain ⟨i, hi⟩ : ∃ i : Nat, i = (f + (n - 1 - k)) % c := ⟨_, rfl⟩
      have hic : i < c := by rw [hi]; exact Nat.mod_lt _ (by omega)
      have hp : ((f : Int) + n - 1 - k) % c = (i : Int) := by
        rw [hi, show ((f : Int) + n - 1 - k) = ((f + (n - 1 - k) : Nat) : Int) by omega]
        rfl
      obtain ⟨old, dL⟩ : ∃ old, wr.cell? ⟨L, i, none⟩ = some old := ⟨_, by rw [cell_of_row wr L i _ _ _ ha]; exact Array.getElem?_eq_getElem (by omega)⟩
      have eL : wr.frozen? ⟨L, i, none⟩ = false := frozen_of_row wr L i _ _ ha
      have H6 := Lib.hid hp
      have h5 : (i : Int) < (c : Int) := by omega
      have h6 : (0 : Int) ≤ (i : Int) := by omega
      clear hch hd ha hs hi hp c0 c1 c2
      go_wp2
      go_region_held3 (fun w' => w'.cell? ⟨r, 0, none⟩ = some (.slice (some ⟨L, 0, none⟩) c c) ∧ w'.cell? ⟨r, 1, none⟩ = some (.int .i64 (f : Int)) ∧ w'.cell? ⟨r, 2, none⟩ = some (.int .i64 (n : Int)))
        (first | (go_keep; done) | (go_split_ands; exact ⟨set_far (by assumption) ne.symm, set_far (by assumption) ne.symm, set_far (by assumption) ne.symm⟩))
        ((go_at_call 71; refine (place_any r L c f n k _ (by first | exact d0 | assumption) (by first | exact d1 | assumption) (by first | exact d2 | assumption) hf' hcl hn (by omega) (by omega) i H6.out).mono ?_; rintro e w2 ⟨rfl, x1, rfl⟩))
      go_wp2
      go_roundw
      case rel => exact ⟨k + 1, by omega, by go_num, H2.out.trans (Chg.setCell (S := RS r L) (p := ⟨L, i, none⟩) ((Chg.refl _ _).drewN _) (.inl (.inr rfl)) _), (heap_setCell_other _ _ _ _ ne).trans H3.out, _, by simp [H5.out], heap_setCell_same _ L i cs _ _ H4.out⟩
      case measure => simp [intOf]; omega
    · clear hch hd ha hs c0 c1 c2
      go_wp2
      go_end0
      exact ⟨rfl, H2.out.trans (Chg.setCell (S := RS r L) (p := ⟨r, 2, none⟩) (Chg.refl _ _) (.inl (.inl rfl)) _), H3.out.set2 0, cs, H5.out, (heap_setCell_other _ _ _ _ ne.symm).trans H4.out⟩

theorem clear_ring {G : Nat → Prop} {w : World} {r L c f : Nat} {cs : Array Value} {gs : List (List (List Value))} (h : Ring G w r L c f cs gs) :
    Calls Try.prog 26 #[.pointer (some ⟨r, 0, none⟩)] w fun e w' => e = .returned (.tuple #[]) ∧ ∃ cs', Ring G w' r L c f cs' [] ∧ Chg (RS r L) w w' := by
  refine (clear_any r L c f gs.length cs w h.hd h.arr h.size h.ne h.f_lt h.c_le h.n_le).mono ?_
  rintro e w' ⟨rfl, hch, hd, cs', hs, ha⟩
  exact ⟨rfl, cs', h.rebuild hch hd ha hs (by simp) h.f_lt (by simp) (by simp), hch⟩
/-- What lies in neither of the ring's blocks. -/
abbrev RG (r L : Nat) : Nat → Prop := fun b => b ≠ r ∧ b ≠ L
theorem new_ring (c : Nat) (w : World) (h : c ≤ 10000) : Calls Try.prog 18 #[.int .i64 (c : Int)] w fun e w' => e = .returned (.tuple #[.pointer (some ⟨w.heap.size + 1, 0, none⟩), .int .i64 0]) ∧
    (∃ cs, Ring (RG (w.heap.size + 1) w.heap.size) w' (w.heap.size + 1) w.heap.size c 0 cs []) ∧ Below w.heap.size w w' := by
  refine (new_good c w h).mono ?_
  rintro e w' ⟨rfl, ⟨cs, hs, ha⟩, hd, hb, _⟩
  exact ⟨rfl, ⟨cs, by omega, fun h => h.1 rfl, fun h => h.2 rfl, hd, ha, hs, h, by simp, fun hc => hc, by simp, by simp⟩, hb⟩
end Go.Proofs.Ytochdmbjlemfoaa
