/-
  The law UndoLast (package anamnesislaw24): the walk, for any capacity, any number ahead, any list of groups that can be read.
-/
import Derived.Test.YtochdmbjlemfoaaU6
import Derived.Test.YtochdmbjlemfoaaS4
import Derived.Deep.LoopGhost
import Derived.Deep.DeepCutAuto
namespace Go.Proofs.Ytochdmbjlemfoaa
open Go Go.RowKit

/-- A group as an argument has it: its slice, its rows, what they read as. -/
structure GP where
  A : Option Addr
  n : Nat
  c : Nat
  es : List (List Value)
  L : List ED
def GP.val (g : GP) : Value := .slice g.A g.n g.c
def GP.ok (w : World) (D : Nat → Prop) (g : GP) : Prop := Rd w D 16 g.A g.n g.c g.es ∧ EntsAre w D g.es g.L
theorem GP.ok.below {w w' : World} {D : Nat → Prop} {g : GP} (h : g.ok w D) (hb : Below w.heap.size w w') : g.ok w' D := ⟨h.1.below hb, h.2.below hb⟩
def gpRows (gs : List GP) : List (List Value) := gs.map fun g => [g.val]

/-- The elements from a on, ahead of b. -/
def seg {α : Type} (l : List α) (a b : Nat) : List α := (l.take b).drop a
theorem seg_len {α : Type} (l : List α) (a b : Nat) (h : b ≤ l.length) : (seg l a b).length = b - a := by simp [seg]; omega
theorem seg_snoc {α : Type} (l : List α) (a b : Nat) (x : α) (hx : l[b]? = some x) (hab : a ≤ b) : seg l a (b + 1) = seg l a b ++ [x] := by
  have hb := (List.getElem?_eq_some_iff.1 hx).1
  unfold seg
  rw [List.take_add_one, hx, List.drop_append_of_le_length (by simp; omega)]
  rfl
theorem seg_tail {α : Type} (l : List α) (a b : Nat) : (seg l a b).tail = seg l (a + 1) b := by
  unfold seg
  rw [List.tail_drop]
theorem seg_nil {α : Type} (l : List α) (a b : Nat) (h : b ≤ a) : seg l a b = [] := by
  unfold seg
  exact List.drop_eq_nil_of_le (by simp; omega)
theorem push_seg (l : List (List (List Value))) (m k : Nat) (g : List (List Value)) (hg : l[k]? = some g) : pushG (seg l (k - m) k) g m = seg l (k + 1 - m) (k + 1) := by
  have hk := (List.getElem?_eq_some_iff.1 hg).1
  unfold pushG
  by_cases h0 : m = 0
  · rw [if_pos h0, seg_nil _ _ _ (by omega)]
  · rw [if_neg h0, seg_len _ _ _ (by omega)]
    by_cases h1 : k - (k - m) = m
    · rw [if_pos h1, seg_tail, ← seg_snoc _ _ _ _ hg (by omega), show k - m + 1 = k + 1 - m by omega]
    · rw [if_neg h1, ← seg_snoc _ _ _ _ hg (by omega), show k + 1 - m = k - m by omega]

/-- A ring between two statements of the law: where it lies, that what was there is as it was. -/
structure RSt (w0 w : World) (r Lr c : Nat) (gs : List (List (List Value))) : Prop where
  ring : RingAt w r Lr c gs
  below : Below w0.heap.size w0 w
  hr : w0.heap.size ≤ r
  hL : w0.heap.size ≤ Lr
theorem RSt.next {w0 w w' : World} {r Lr c : Nat} {gs gs' : List (List (List Value))} (h : RSt w0 w r Lr c gs) (hr : RingAt w' r Lr c gs') (hc : Chg (RS r Lr) w w') : RSt w0 w' r Lr c gs' :=
  ⟨hr, h.below.trans (hc.below h.below.size (by have := h.hr; have := h.hL; rintro k (h | h) <;> omega)), h.hr, h.hL⟩
theorem RSt.stay {w0 w w' : World} {r Lr c : Nat} {gs : List (List (List Value))} (h : RSt w0 w r Lr c gs) (hb : Below w.heap.size w w') : RSt w0 w' r Lr c gs :=
  ⟨h.ring.below hb, h.below.trans (hb.mono h.below.size), h.hr, h.hL⟩

set_option maxRecDepth 100000 in
set_option maxHeartbeats 4000000 in
theorem undoLast_any (c a : Nat) (A : Option Addr) (n cc : Nat) (gs : List GP) (w : World) (hc : c < 256) (ha : a < 256) (hx : Rd w (Old w) 1 A n cc (gpRows gs)) (hg : ∀ g ∈ gs, g.ok w (Old w)) :
    Calls Try.prog 3 #[.int .u8 (c : Int), .int .u8 (a : Int), .slice A n cc] w fun e w' => e = .returned (.bool true) ∧ Below w.heap.size w w' := by
  have hlen : gs.length = n := by have := hx.len; simpa [gpRows] using this
  have hn : n ≤ 9223372036854775807 := by have h1 := hx.le; have h2 := hx.max; unfold maxLen at h2; omega
  obtain ⟨-, hx1⟩ := hx.one
  have H1 := Lib.hid hx1
  have H2 := Lib.hid hg
  have H3 := Lib.hid hlen
  have h0c : (0 : Int) ≤ (c : Int) := by omega
  have h1c : (c : Int) < 256 := by omega
  have h0a : (0 : Int) ≤ (a : Int) := by omega
  have h1a : (a : Int) < 256 := by omega
  clear hx hx1 hg hlen
  by_cases h40 : 40 < n
  · have q : (40 : Int) < (n : Int) := by omega
    go_enter Try.func3, Try.ntmps3
    go_wp2_with (go_at_call 17; refine (awake24_any _).mono ?_; rintro e w11 ⟨rfl, B11⟩)
    go_ret
    exact ⟨rfl, B11⟩
  have q : ¬ (40 : Int) < (n : Int) := by omega
  go_enter Try.func3, Try.ntmps3
  go_wp2
  go_loop [7] (fun i => ∃ k : Nat, k ≤ n ∧ i = .int .i64 (k : Int) ∧ RowKit.Hid (∀ g ∈ gs.take k, g.n ≤ 6)) (fun i => n - (intOf i).toNat)
  case atStart => exact ⟨0, Nat.zero_le _, rfl, by intro g hg; simp at hg⟩
  case round =>
    obtain ⟨k, hk, rfl, hh⟩ := hrel
    by_cases hlt : k < n
    · obtain ⟨b, off, hA, -, hb, hcell⟩ := H1.out (by omega)
      obtain ⟨g, hgk⟩ : ∃ g, gs[k]? = some g := ⟨_, List.getElem?_eq_getElem (by rw [H3.out]; exact hlt)⟩
      have cx : w.cell? ⟨b, off + k, none⟩ = some (.slice g.A g.n g.c) := hcell k g hgk
      have Hk := Lib.hid hgk
      subst hA
      clear hcell hgk
      have h1 : (k : Int) < (n : Int) := by omega
      by_cases h6 : 6 < g.n
      · have q6 : (6 : Int) < (g.n : Int) := by omega
        go_wp2_with (go_at_call 17; refine (awake24_any _).mono ?_; rintro e w11 ⟨rfl, B11⟩)
        go_ret
        exact ⟨rfl, B11⟩
      · have q6 : ¬ (6 : Int) < (g.n : Int) := by omega
        go_wp2
        go_round
        case rel =>
          refine ⟨k + 1, by omega, by go_num, fun x hx => ?_⟩
          rw [List.take_add_one, Hk.out] at hx
          rcases List.mem_append.1 hx with hx | hx
          · exact hh.out x hx
          · simp at hx; subst hx; omega
        case measure => simp [intOf]; omega
    · have hkn : k = n := by omega
      subst hkn
      have h6 : RowKit.Hid (∀ g ∈ gs, g.n ≤ 6) := fun g hg => hh.out g (by rw [List.take_of_length_le (by rw [H3.out]; exact Nat.le_refl _)]; exact hg)
      clear hh
      go_wp2_with fail
      rw [show ((c : Int) % 51) = ((c % 51 : Nat) : Int) from by omega]
      have hm50 : c % 51 ≤ 50 := by omega
      generalize c % 51 = m at *
      refine (new_ring' m w (by omega)).mono ?_
      rintro e w1 ⟨rfl, R1, -, B1, -⟩
      have K1 : RowKit.Hid (RSt w w1 (w.heap.size + 1) w.heap.size m []) := ⟨R1, B1, by omega, by omega⟩
      clear R1 B1
      go_wp2
      go_loopw [11] (fun i wr => ∃ j : Nat, j ≤ a % 60 ∧ i = .int .i64 (j : Int) ∧ RowKit.Hid (∃ gg, RSt w wr (w.heap.size + 1) w.heap.size m gg)) (fun i _ => a % 60 - (intOf i).toNat)
      case atStart => exact ⟨0, Nat.zero_le _, rfl, _, K1.out⟩
      case round =>
        obtain ⟨j, hj, rfl, hst⟩ := hrel
        obtain ⟨gg, hst⟩ := hst.out
        have K2 := Lib.hid hst
        clear hst
        by_cases hja : j < a % 60
        · have q1 : (j : Int) < (a : Int) % 60 := by omega
          go_wp2_with (go_at_call 20; refine (group_any _ _).mono ?_; rintro e w' ⟨rfl, rfl⟩)
          refine (push_group _ K2.out.ring).mono ?_
          rintro e w2 ⟨rfl, R2, C2⟩
          have K3 := Lib.hid (K2.out.next R2 C2)
          clear R2 C2
          go_wp2
          go_roundw
          case rel => exact ⟨j + 1, by omega, by go_num, _, K3.out⟩
          case measure => simp [intOf]; omega
        · have q1 : ¬ (j : Int) < (a : Int) % 60 := by omega
          go_wp2
          go_loopg [] gg.length (fun z wr => RowKit.Hid (∃ g3, g3.length = z ∧ RSt w wr (w.heap.size + 1) w.heap.size m g3))
          case atStart => exact ⟨gg, rfl, K2.out⟩
          case round =>
            obtain ⟨g3, hz, hst⟩ := hrel.out
            have K3 := Lib.hid hst
            have Z3 := Lib.hid hz
            have c3 := hst.ring.c2
            clear hst hz hrel
            by_cases h0 : 0 < gk
            · have q2 : (0 : Int) < (g3.length : Int) := by have := Z3.out; omega
              obtain ⟨ini, lst, hgl⟩ : ∃ ini lst, g3 = ini ++ [lst] := ⟨g3.dropLast, g3.getLast (by rintro rfl; simp at q2), (List.dropLast_concat_getLast _).symm⟩
              subst hgl
              go_wp2_with (go_at_call 21; refine (rlen_any _ _ _ c3).mono ?_; rintro e w' ⟨rfl, rfl⟩)
              refine (pop_at _ _ m ini _ lst K3.out.ring).mono ?_
              rintro e w4 ⟨A4, m4, rfl, -, C4, R4⟩
              have K4 := Lib.hid (K3.out.next R4 C4)
              clear C4 R4 c3
              go_wp2
              go_roundg ini.length
              case measure => have := Z3.out; simp at this; omega
              case rel => exact ⟨ini, rfl, K4.out⟩
            · have hnil : g3 = [] := List.eq_nil_of_length_eq_zero (by have := Z3.out; omega)
              subst hnil
              have q2 : ¬ (0 : Int) < (0 : Int) := by omega
              go_wp2_with (go_at_call 21; refine (rlen_any _ 0 _ c3).mono ?_; rintro e w' ⟨rfl, rfl⟩)
              clear c3
              have E0 : RowKit.Hid (∃ es : List (List (List Value)), es = gs.map (·.es)) := ⟨_, rfl⟩
              obtain ⟨es, hes⟩ := E0.out
              have HE := Lib.hid hes
              clear hes E0
              go_loopw [12] (fun i wr => ∃ j4 : Nat, j4 ≤ k ∧ i = .int .i64 (j4 : Int) ∧ RowKit.Hid (RSt w wr (w.heap.size + 1) w.heap.size m (seg es (j4 - m) j4))) (fun i _ => k - (intOf i).toNat)
              case atStart => exact ⟨0, Nat.zero_le _, rfl, by rw [seg_nil _ _ _ (by omega)]; exact K3.out⟩
              case round =>
                clear K3 Z3 K2 K1
                obtain ⟨j4, hj4, rfl, K4⟩ := hrel
                by_cases hlt4 : j4 < k
                · obtain ⟨b, off, hA, -, hb, hcell⟩ := H1.out (by omega)
                  obtain ⟨g, hgk⟩ : ∃ g, gs[j4]? = some g := ⟨_, List.getElem?_eq_getElem (by rw [H3.out]; exact hlt4)⟩
                  have cx := below_cell K4.out.below (hcell j4 g hgk)
                  have ok := (H2.out g (List.mem_of_getElem? hgk)).below K4.out.below
                  have g6 := h6.out g (List.mem_of_getElem? hgk)
                  have Hk : RowKit.Hid (es[j4]? = some g.es) := by show es[j4]? = _; rw [HE.out, List.getElem?_map, hgk]; rfl
                  have OK := Lib.hid ok
                  subst hA
                  have q3 : (j4 : Int) < (k : Int) := by omega
                  unfold GP.val at cx
                  clear hcell hgk ok
                  go_wp2_with fail
                  refine (push_at K4.out.ring OK.out.1 (fun b hb => by have : b < w.heap.size := hb; omega) (by omega)).mono ?_
                  rintro e w5 ⟨rfl, R5, C5⟩
                  have K5 : RowKit.Hid (RSt w w5 (w.heap.size + 1) w.heap.size m (seg es (j4 + 1 - m) (j4 + 1))) := by
                    have := K4.out.next R5 C5
                    rwa [push_seg _ _ _ _ Hk.out] at this
                  have hl5 : (seg es (j4 + 1 - m) (j4 + 1)).length = j4 + 1 - (j4 + 1 - m) := seg_len _ _ _ (by have := (List.getElem?_eq_some_iff.1 Hk.out).1; omega)
                  have c5 := K5.out.ring.c2
                  rw [hl5] at c5
                  clear R5 C5 hl5 cx K4
                  obtain ⟨y, hy⟩ : ∃ y : Nat, y = j4 + 1 - (j4 + 1 - m) := ⟨_, rfl⟩
                  rw [← hy] at c5
                  have q4 : ¬ (m : Int) < (y : Int) := by omega
                  have q5 : ((y : Int) != (if (m : Int) < (j4 : Int) + 1 then (m : Int) else (j4 : Int) + 1)) = false := by
                    rw [bne_eq_false_iff_eq]; split <;> omega
                  clear hy
                  go_wp2_with (go_at_call 21; refine (rlen_any _ _ _ c5).mono ?_; rintro e w' ⟨rfl, rfl⟩)
                  go_roundw
                  case rel => exact ⟨j4 + 1, by omega, by go_num, K5⟩
                  case measure => simp [intOf]; omega
                · have hjk : j4 = k := by omega
                  subst hjk
                  have K5 := Lib.hid K4.out
                  have hn4 : (j4 : Int) ≤ 40 := by omega
                  clear K4
                  go_wp2
                  go_loopw [13] (fun i wr => ∃ z : Int, -1 ≤ z ∧ z < (j4 : Int) ∧ (j4 : Int) ≤ (m : Int) + z + 1 ∧ i = .int .i64 z ∧ RowKit.Hid (RSt w wr (w.heap.size + 1) w.heap.size m (seg es (j4 - m) (z + 1).toNat))) (fun i _ => (intOf i + 1).toNat)
                  case atStart => exact ⟨(j4 : Int) - 1, by omega, by omega, by omega, rfl, by rw [show ((j4 : Int) - 1 + 1).toNat = j4 from by omega]; exact K5.out⟩
                  case round =>
                    clear K5
                    obtain ⟨z, hz1, hz2, hz3, rfl, K6⟩ := hrel
                    by_cases hin : 0 ≤ z ∧ (j4 : Int) - (m : Int) ≤ z
                    · obtain ⟨hin0, hin1⟩ := hin
                      obtain ⟨i, rfl⟩ : ∃ i : Nat, z = (i : Int) := ⟨z.toNat, by omega⟩
                      have hlt5 : i < j4 := by omega
                      rw [show ((i : Int) + 1).toNat = i + 1 from by omega] at K6
                      obtain ⟨b, off, hA, -, hb, hcell⟩ := H1.out (by omega)
                      obtain ⟨g, hgk⟩ : ∃ g, gs[i]? = some g := ⟨_, List.getElem?_eq_getElem (by rw [H3.out]; exact hlt5)⟩
                      have ok := (H2.out g (List.mem_of_getElem? hgk))
                      have HG := Lib.hid hgk
                      have Hk : RowKit.Hid (es[i]? = some g.es) := by show es[i]? = _; rw [HE.out, List.getElem?_map, hgk]; rfl
                      have OK := Lib.hid ok
                      have HC := Lib.hid hcell
                      subst hA
                      have K7 : RowKit.Hid (RSt w wr (w.heap.size + 1) w.heap.size m (seg es (j4 - m) i ++ [g.es])) := by
                        have := K6.out
                        rwa [seg_snoc _ _ _ _ Hk.out (by omega)] at this
                      clear hcell hgk ok K6
                      go_wp2_with fail
                      refine (pop_at _ _ m _ _ _ K7.out.ring).mono ?_
                      rintro e w7 ⟨A7, m7, rfl, D7, C7, R7⟩
                      have K8 := Lib.hid (K7.out.next R7 C7)
                      have B7 := K7.out.below.trans (C7.below K7.out.below.size (by have := K7.out.hr; have := K7.out.hL; rintro k (h | h) <;> omega))
                      have cx := below_cell B7 (HC.out i g HG.out)
                      have OK7 := Lib.hid (OK.out.below B7)
                      have D7' := Lib.hid D7
                      unfold GP.val at cx
                      clear C7 R7 K7 D7 B7
                      go_wp2_with fail
                      refine (entries_any _ _ _ _ _ _ _ _ _ _ _ _ _ _ _ D7'.out OK7.out.1 OK7.out.2 OK7.out.2).mono ?_
                      rintro e w8 ⟨rfl, B8⟩
                      have K9 := Lib.hid (K8.out.stay B8)
                      clear B8 K8 cx
                      rw [decide_eq_true (rfl : g.L = g.L)]
                      go_wp2
                      go_roundw
                      case rel => exact ⟨(i : Int) - 1, by omega, by omega, by omega, by go_num, by rw [show ((i : Int) - 1 + 1).toNat = i from by omega]; exact K9.out⟩
                      case measure => simp only [intOf]; omega
                    · have K7 : RowKit.Hid (RSt w wr (w.heap.size + 1) w.heap.size m []) := by
                        have := K6.out
                        rwa [seg_nil _ _ _ (by omega)] at this
                      obtain ⟨f7, hd7⟩ := K7.out.ring.hd
                      have c7 : wr.cell? ⟨w.heap.size + 1, 2, none⟩ = some (.int .i64 ((0 : Nat) : Int)) := hd7.c2
                      have HD := Lib.hid hd7
                      have B7 := Lib.hid K7.out.below
                      clear hd7 K6 K7
                      by_cases hz0 : 0 ≤ z
                      · have q6 : ¬ (j4 : Int) - (m : Int) ≤ z := by omega
                        go_wp2_with fail
                        refine (pop_empty _ _ _ _ _ HD.out).mono ?_
                        rintro e w8 ⟨rfl, rfl⟩
                        go_wp2_with (go_at_call 21; refine (rlen_any _ 0 _ c7).mono ?_; rintro e w' ⟨rfl, rfl⟩)
                        refine (awake24_any _).mono ?_
                        rintro e w11 ⟨rfl, B11⟩
                        go_wp2
                        go_ret
                        exact ⟨rfl, B7.out.trans (B11.mono B7.out.size)⟩
                      · go_wp2_with fail
                        refine (pop_empty _ _ _ _ _ HD.out).mono ?_
                        rintro e w8 ⟨rfl, rfl⟩
                        go_wp2_with (go_at_call 21; refine (rlen_any _ 0 _ c7).mono ?_; rintro e w' ⟨rfl, rfl⟩)
                        refine (awake24_any _).mono ?_
                        rintro e w11 ⟨rfl, B11⟩
                        go_wp2
                        go_ret
                        exact ⟨rfl, B7.out.trans (B11.mono B7.out.size)⟩
end Go.Proofs.Ytochdmbjlemfoaa
