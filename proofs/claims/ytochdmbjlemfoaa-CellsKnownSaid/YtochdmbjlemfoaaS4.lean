/-
  Entries of a group as the document's words (EntIs), and the contract of anamnesisref19.Entries: two lists of entries are the same just if they read so. Of any two that can be read.
-/
import Derived.Test.YtochdmbjlemfoaaS3
import Derived.Test.YtochdmbjlemfoaaQ
import Derived.StillTailTactics
namespace Go.Proofs.Ytochdmbjlemfoaa
open Go Go.RowKit

/-- The shape of a thing's cells. -/
theorem TIs.shape {w : World} {D : Nat → Prop} {ts : List Value} {T : TD} (h : TIs w D ts T) :
    ∃ x0 x1 x2 x3 x4 x5 x6 x7 x8 x9 x10 x11 x12 x13 : Value, ts = [x0, x1, x2, x3, x4, x5, x6, x7, x8, x9, x10, x11, x12, x13] := by
  obtain ⟨vs, fs, A, n, c, oes, rfl, hv, hf, _⟩ := h
  obtain ⟨_, _, _, _, _, _, rfl, _, _⟩ := hv
  obtain ⟨_, _, _, _, _, _, rfl, _, _⟩ := hf
  exact ⟨_, _, _, _, _, _, _, _, _, _, _, _, _, _, rfl⟩

theorem entries_lens (A B : Option Addr) (n c m d : Nat) (w : World) (h : n ≠ m) :
    Calls Try.prog 23 #[.slice A n c, .slice B m d] w fun e w' => e = .returned (.bool false) ∧ w = w' := by
  have h3 : ((n : Int) == (m : Int)) = false := by simp; omega
  clear h
  go_enter Try.func23, Try.ntmps23
  go_wp2
  go_ret
  exact ⟨rfl, rfl⟩

theorem row_cells {w wr : World} {b off k size : Nat} {e : List Value} (h : ∀ j u, e[j]? = some u → w.cell? ⟨b, off + (k * size + j), none⟩ = some u) (hb : Below w.heap.size w wr) :
    ∀ j u, e[j]? = some u → wr.cell? ⟨b, off + k * size + j, none⟩ = some u := fun j u hj => by
  rw [Nat.add_assoc]
  exact below_cell hb (h j u hj)

theorem ed_eq {X Y : ED} (h1 : X.key = Y.key) (h2 : X.had = Y.had) (h3 : X.was = Y.was) : Y = X := by
  cases X; cases Y
  simp only at h1 h2 h3
  rw [h1, h2, h3]
theorem bool_ne {a b : Bool} (h : a ≠ b) : b = !a := by cases a <;> cases b <;> first | rfl | exact absurd rfl h

set_option maxRecDepth 100000 in
set_option maxHeartbeats 2000000 in
theorem entries_same (A B : Option Addr) (n c d : Nat) (es es' : List (List Value)) (L L' : List ED) (D D' E E' : Nat → Prop) (w : World) (hx : Rd w D 16 A n c es) (hy : Rd w D' 16 B n d es') (hL : EntsAre w E es L) (hL' : EntsAre w E' es' L') (res : Bool) (hres : res = decide (L = L')) :
    Calls Try.prog 23 #[.slice A n c, .slice B n d] w fun e w' => e = .returned (.bool res) ∧ Below w.heap.size w w' := by
  have hn : n ≤ 9223372036854775807 := by have h1 := hx.le; have h2 := hx.max; unfold maxLen at h2; omega
  have H1 := Lib.hid hx
  have H2 := Lib.hid hy
  have L1 := Lib.hid hL
  have L2 := Lib.hid hL'
  have HR := Lib.hid hres
  clear hx hy hL hL' hres
  go_enter Try.func23, Try.ntmps23
  go_wp2
  go_loopw [5] (fun i wr => ∃ k : Nat, k ≤ n ∧ i = .int .i64 (k : Int) ∧ RowKit.Hid (Below w.heap.size w wr) ∧ RowKit.Hid (L.take k = L'.take k)) (fun i _ => n - (intOf i).toNat)
  case atStart => exact ⟨0, Nat.zero_le _, rfl, Below.refl _ _, rfl⟩
  case round =>
    obtain ⟨k, hk, rfl, hb, hh⟩ := hrel
    by_cases hlt : k < n
    · obtain ⟨b, off, hA, -, hc⟩ := H1.out.at_ (by omega)
      obtain ⟨b', off', hB, -, hc'⟩ := H2.out.at_ (by omega)
      obtain ⟨x, hxk⟩ : ∃ x, es[k]? = some x := ⟨_, List.getElem?_eq_getElem (by rw [H1.out.len]; exact hlt)⟩
      obtain ⟨y, hyk⟩ : ∃ y, es'[k]? = some y := ⟨_, List.getElem?_eq_getElem (by rw [H2.out.len]; exact hlt)⟩
      obtain ⟨X, hX⟩ : ∃ x, L[k]? = some x := ⟨_, List.getElem?_eq_getElem (by rw [← L1.out.1, H1.out.len]; exact hlt)⟩
      obtain ⟨Y, hY⟩ : ∃ x, L'[k]? = some x := ⟨_, List.getElem?_eq_getElem (by rw [← L2.out.1, H2.out.len]; exact hlt)⟩
      obtain ⟨ts, rfl, ht⟩ := L1.out.2 k x X hxk hX
      obtain ⟨ts', rfl, ht'⟩ := L2.out.2 k y Y hyk hY
      subst hA hB
      have cx := row_cells (hc k _ hxk) hb.out
      have cy := row_cells (hc' k _ hyk) hb.out
      have ht2 := ht
      have ht2' := ht'
      obtain ⟨x0, x1, x2, x3, x4, x5, x6, x7, x8, x9, x10, x11, x12, x13, rfl⟩ := ht2.shape
      obtain ⟨y0, y1, y2, y3, y4, y5, y6, y7, y8, y9, y10, y11, y12, y13, rfl⟩ := ht2'.shape
      have HX := Lib.hid hX
      have HY := Lib.hid hY
      have HT := Lib.hid ht
      have HT' := Lib.hid ht'
      clear hc hc' hxk hyk hX hY ht ht' ht2 ht2'
      have a0 := cx 0 _ rfl
      have b0 := cy 0 _ rfl
      have a15 := cx 15 _ rfl
      have b15 := cy 15 _ rfl
      simp only [Nat.add_zero] at a0 b0
      have h1 : (k : Int) < (n : Int) := by omega
      have h2 : (0 : Int) ≤ (k : Int) := by omega
      by_cases he : X.key = Y.key ∧ X.had = Y.had
      · obtain ⟨e1, e2⟩ := he
        have q1 : (X.key.toList == Y.key.toList) = true := by rw [e1]; simp
        have q2 : (X.had == Y.had) = true := by rw [e2]; simp
        have q3 : (X.had != Y.had) = false := by rw [e2]; simp
        have HE : RowKit.Hid (X.was = Y.was → Y = X) := ed_eq e1 e2
        clear e1 e2
        have a1 := cx 1 _ rfl
        have a2 := cx 2 _ rfl
        have a3 := cx 3 _ rfl
        have a4 := cx 4 _ rfl
        have a5 := cx 5 _ rfl
        have a6 := cx 6 _ rfl
        have a7 := cx 7 _ rfl
        have a8 := cx 8 _ rfl
        have a9 := cx 9 _ rfl
        have a10 := cx 10 _ rfl
        have a11 := cx 11 _ rfl
        have a12 := cx 12 _ rfl
        have a13 := cx 13 _ rfl
        have a14 := cx 14 _ rfl
        have b1 := cy 1 _ rfl
        have b2 := cy 2 _ rfl
        have b3 := cy 3 _ rfl
        have b4 := cy 4 _ rfl
        have b5 := cy 5 _ rfl
        have b6 := cy 6 _ rfl
        have b7 := cy 7 _ rfl
        have b8 := cy 8 _ rfl
        have b9 := cy 9 _ rfl
        have b10 := cy 10 _ rfl
        have b11 := cy 11 _ rfl
        have b12 := cy 12 _ rfl
        have b13 := cy 13 _ rfl
        have b14 := cy 14 _ rfl
        clear cx cy
        go_wp2
        go_still_tail 35, (by kernel_rfl)
        change wpList _ _ _ _ _ wr.drew
        go_wp2_with fail
        refine (rsame_any E E' _ _ X.was Y.was _ (HT.out.below (w' := wr.drew) hb.out.drew) (HT'.out.below (w' := wr.drew) hb.out.drew)).mono ?_
        rintro e w1 ⟨rfl, hb1⟩
        have hbb : RowKit.Hid (Below w.heap.size w w1) := hb.out.drew.trans (hb1.mono (w := wr.drew) hb.out.size)
        clear hb1
        by_cases hw : X.was = Y.was
        · have hd : decide (X.was = Y.was) = true := decide_eq_true hw
          have HW := Lib.hid hw
          clear hw
          go_wp2
          go_roundw
          case rel => exact ⟨k + 1, by omega, by go_num, hbb, take_step hh.out HX.out (by rw [HY.out, HE.out HW.out])⟩
          case measure => simp [intOf]; omega
        · have hd : decide (X.was = Y.was) = false := decide_eq_false hw
          have FIN : RowKit.Hid (res = false) := HR.out.trans (decide_eq_false (fun h => ne_at HX.out HY.out (fun e => hw (congrArg ED.was e)) h))
          clear hw
          go_wp2
          go_ret
          exact ⟨by rw [FIN.out]; rfl, hbb.out⟩
      · have FIN : RowKit.Hid (res = false) := HR.out.trans (decide_eq_false (fun h => ne_at HX.out HY.out (fun e => he ⟨congrArg ED.key e, congrArg ED.had e⟩) h))
        by_cases e1 : X.key = Y.key
        · have q1 : (X.key.toList == Y.key.toList) = true := by rw [e1]; simp
          have q2 : Y.had = !X.had := bool_ne (fun h => he ⟨e1, h⟩)
          clear he e1 cx cy
          cases h5 : X.had
          all_goals
            rw [h5] at q2 a15
            simp only [Bool.not_false, Bool.not_true] at q2
            rw [q2] at b15
            clear q2 h5
            go_wp2
            go_quiet (fail)
            go_wp2
            go_ret
            exact ⟨by rw [FIN.out]; rfl, below_drewN hb.out _⟩
        · have q1 := str_ne e1
          clear he e1 cx cy
          go_wp2
          go_quiet (fail)
          go_wp2
          go_ret
          exact ⟨by rw [FIN.out]; rfl, below_drewN hb.out _⟩
    · have hkn : k = n := by omega
      subst hkn
      have hL : L = L' := take_all hh.out (by rw [← L1.out.1, H1.out.len]) (by rw [← L2.out.1, H2.out.len])
      have FIN : RowKit.Hid (res = true) := HR.out.trans (decide_eq_true hL)
      clear hL hh
      go_wp2
      go_ret
      exact ⟨by rw [FIN.out]; rfl, hb.out⟩

theorem entries_any (A B : Option Addr) (n c m d : Nat) (es es' : List (List Value)) (L L' : List ED) (D D' E E' : Nat → Prop) (w : World) (hx : Rd w D 16 A n c es) (hy : Rd w D' 16 B m d es') (hL : EntsAre w E es L) (hL' : EntsAre w E' es' L') :
    Calls Try.prog 23 #[.slice A n c, .slice B m d] w fun e w' => e = .returned (.bool (decide (L = L'))) ∧ Below w.heap.size w w' := by
  by_cases h : n = m
  · subst h
    exact entries_same A B n c d es es' L L' D D' E E' w hx hy hL hL' _ rfl
  · refine (entries_lens A B n c m d w h).mono ?_
    rintro e w' ⟨rfl, rfl⟩
    refine ⟨?_, Below.refl _ _⟩
    rw [decide_eq_false]
    rintro rfl
    exact h (by rw [← hx.len, ← hy.len, hL.1, hL'.1])
end Go.Proofs.Ytochdmbjlemfoaa
