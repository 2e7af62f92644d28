/-
  Lists of cells as the document's words (CellsAre), and the contract of anamnesisref19.Cells: two lists of cells are the same just if they read so. Of any two that can be read.
-/
import Derived.Test.YtochdmbjlemfoaaS4
namespace Go.Proofs.Ytochdmbjlemfoaa
open Go Go.RowKit

/-- A cell. -/
structure CD where
  key : ByteArray
  t : TD
deriving DecidableEq
def CellIs (w : World) (D : Nat → Prop) (cs : List Value) (v : CD) : Prop := ∃ ts, cs = [.string v.key] ++ ts ∧ TIs w D ts v.t
/-- Rows that read as cells. -/
def CellsAre (w : World) (D : Nat → Prop) (es : List (List Value)) (L : List CD) : Prop := es.length = L.length ∧ ∀ (i : Nat) e E, es[i]? = some e → L[i]? = some E → CellIs w D e E
theorem CellsAre.chg {w w' : World} {D S : Nat → Prop} {es : List (List Value)} {L : List CD} (h : CellsAre w D es L) (hg : Chg S w w') (hD : ∀ b, D b → ¬ S b) : CellsAre w' D es L :=
  ⟨h.1, fun i e E he hE => by
    obtain ⟨ts, h1, h2⟩ := h.2 i e E he hE
    exact ⟨ts, h1, h2.chg hg hD⟩⟩
theorem CellsAre.below {w w' : World} {D : Nat → Prop} {es : List (List Value)} {L : List CD} (h : CellsAre w D es L) (hb : Below w.heap.size w w') : CellsAre w' D es L := h.chg (S := fun _ => False) (Chg.of_below hb) (fun _ _ h => h)

theorem rcells_lens (A B : Option Addr) (n c m d : Nat) (w : World) (h : n ≠ m) :
    Calls Try.prog 41 #[.slice A n c, .slice B m d] w fun e w' => e = .returned (.bool false) ∧ w = w' := by
  have h3 : ((n : Int) == (m : Int)) = false := by simp; omega
  clear h
  go_enter Try.func41, Try.ntmps41
  go_wp2
  go_ret
  exact ⟨rfl, rfl⟩

theorem cd_eq {X Y : CD} (h1 : X.key = Y.key) (h3 : X.t = Y.t) : Y = X := by
  cases X; cases Y
  simp only at h1 h3
  rw [h1, h3]
set_option maxRecDepth 100000 in
set_option maxHeartbeats 2000000 in
theorem rcells_same (A B : Option Addr) (n c d : Nat) (es es' : List (List Value)) (L L' : List CD) (D D' E E' : Nat → Prop) (w : World) (hx : Rd w D 15 A n c es) (hy : Rd w D' 15 B n d es') (hL : CellsAre w E es L) (hL' : CellsAre w E' es' L') (res : Bool) (hres : res = decide (L = L')) :
    Calls Try.prog 41 #[.slice A n c, .slice B n d] w fun e w' => e = .returned (.bool res) ∧ Below w.heap.size w w' := by
  have hn : n ≤ 9223372036854775807 := by have h1 := hx.le; have h2 := hx.max; unfold maxLen at h2; omega
  have H1 := Lib.hid hx
  have H2 := Lib.hid hy
  have L1 := Lib.hid hL
  have L2 := Lib.hid hL'
  have HR := Lib.hid hres
  clear hx hy hL hL' hres
  go_enter Try.func41, Try.ntmps41
  go_wp2
  go_loopw [5] (fun i wr => ∃ k : Nat, k ≤ n ∧ i = .int .i64 (k : Int) ∧ RowKit.Hid (Below w.heap.size w wr) ∧ RowKit.Hid (L.take k = L'.take k)) (fun i _ => n - (intOf i).toNat)
  case atStart => exact ⟨0, Nat.zero_le _, rfl, Below.refl _ _, rfl⟩
  case round =>
    obtain ⟨k, hk, rfl, hb, hh⟩ := hrel
    by_cases hlt : k < n
    · obtain ⟨b, off, hA, -, hc⟩ := H1.out.at_ (by omega)
      obtain ⟨b', off', hB, -, hc'⟩ := H2.out.at_ (by omega)
      obtain ⟨x, hxk⟩ : ∃ x, es[k]? = some x := ⟨_, List.getElem?_eq_getElem (by rw [H1.out.len]; exact hlt)⟩
      obtain ⟨y, hyk⟩ : ∃ y, es'[k]? = some y := ⟨_, List.getElem?_eq_getElem (by rw [H2.out.len]; exact hlt)⟩
      obtain ⟨X, hX⟩ : ∃ x, L[k]? = some x := ⟨_, List.getElem?_eq_getElem (by rw [← L1.out.1, H1.out.len]; exact hlt)⟩
      obtain ⟨Y, hY⟩ : ∃ x, L'[k]? = some x := ⟨_, List.getElem?_eq_getElem (by rw [← L2.out.1, H2.out.len]; exact hlt)⟩
      obtain ⟨ts, rfl, ht⟩ := L1.out.2 k x X hxk hX
      obtain ⟨ts', rfl, ht'⟩ := L2.out.2 k y Y hyk hY
      subst hA hB
      have cx := row_cells (hc k _ hxk) hb.out
      have cy := row_cells (hc' k _ hyk) hb.out
      have ht2 := ht
      have ht2' := ht'
      obtain ⟨x0, x1, x2, x3, x4, x5, x6, x7, x8, x9, x10, x11, x12, x13, rfl⟩ := ht2.shape
      obtain ⟨y0, y1, y2, y3, y4, y5, y6, y7, y8, y9, y10, y11, y12, y13, rfl⟩ := ht2'.shape
      have HX := Lib.hid hX
      have HY := Lib.hid hY
      have HT := Lib.hid ht
      have HT' := Lib.hid ht'
      clear hc hc' hxk hyk hX hY ht ht' ht2 ht2'
      have a0 := cx 0 _ rfl
      have b0 := cy 0 _ rfl
      simp only [Nat.add_zero] at a0 b0
      have h1 : (k : Int) < (n : Int) := by omega
      have h2 : (0 : Int) ≤ (k : Int) := by omega
      by_cases he : X.key = Y.key
      · have e1 := he
        have q1 : (X.key.toList == Y.key.toList) = true := by rw [e1]; simp
        have HE : RowKit.Hid (X.t = Y.t → Y = X) := cd_eq e1
        clear e1 he
        have a1 := cx 1 _ rfl
        have a2 := cx 2 _ rfl
        have a3 := cx 3 _ rfl
        have a4 := cx 4 _ rfl
        have a5 := cx 5 _ rfl
        have a6 := cx 6 _ rfl
        have a7 := cx 7 _ rfl
        have a8 := cx 8 _ rfl
        have a9 := cx 9 _ rfl
        have a10 := cx 10 _ rfl
        have a11 := cx 11 _ rfl
        have a12 := cx 12 _ rfl
        have a13 := cx 13 _ rfl
        have a14 := cx 14 _ rfl
        have b1 := cy 1 _ rfl
        have b2 := cy 2 _ rfl
        have b3 := cy 3 _ rfl
        have b4 := cy 4 _ rfl
        have b5 := cy 5 _ rfl
        have b6 := cy 6 _ rfl
        have b7 := cy 7 _ rfl
        have b8 := cy 8 _ rfl
        have b9 := cy 9 _ rfl
        have b10 := cy 10 _ rfl
        have b11 := cy 11 _ rfl
        have b12 := cy 12 _ rfl
        have b13 := cy 13 _ rfl
        have b14 := cy 14 _ rfl
        clear cx cy
        go_wp2
        go_still_tail 22, (by kernel_rfl)
        change wpList _ _ _ _ _ wr.drew
        go_wp2_with fail
        refine (rsame_any E E' _ _ X.t Y.t _ (HT.out.below (w' := wr.drew) hb.out.drew) (HT'.out.below (w' := wr.drew) hb.out.drew)).mono ?_
        rintro e w1 ⟨rfl, hb1⟩
        have hbb : RowKit.Hid (Below w.heap.size w w1) := hb.out.drew.trans (hb1.mono (w := wr.drew) hb.out.size)
        clear hb1
        by_cases hw : X.t = Y.t
        · have hd : decide (X.t = Y.t) = true := decide_eq_true hw
          have HW := Lib.hid hw
          clear hw
          go_wp2
          go_roundw
          case rel => exact ⟨k + 1, by omega, by go_num, hbb, take_step hh.out HX.out (by rw [HY.out, HE.out HW.out])⟩
          case measure => simp [intOf]; omega
        · have hd : decide (X.t = Y.t) = false := decide_eq_false hw
          have FIN : RowKit.Hid (res = false) := HR.out.trans (decide_eq_false (fun h => ne_at HX.out HY.out (fun e => hw (congrArg CD.t e)) h))
          clear hw
          go_wp2
          go_ret
          exact ⟨by rw [FIN.out]; rfl, hbb.out⟩
      · have FIN : RowKit.Hid (res = false) := HR.out.trans (decide_eq_false (fun h => ne_at HX.out HY.out (fun e => he (congrArg CD.key e)) h))
        have q1 := str_ne he
        clear he cx cy
        go_wp2
        go_quiet (fail)
        go_wp2
        go_ret
        exact ⟨by rw [FIN.out]; rfl, below_drewN hb.out _⟩
    · have hkn : k = n := by omega
      subst hkn
      have hL : L = L' := take_all hh.out (by rw [← L1.out.1, H1.out.len]) (by rw [← L2.out.1, H2.out.len])
      have FIN : RowKit.Hid (res = true) := HR.out.trans (decide_eq_true hL)
      clear hL hh
      go_wp2
      go_ret
      exact ⟨by rw [FIN.out]; rfl, hb.out⟩

theorem rcells_any (A B : Option Addr) (n c m d : Nat) (es es' : List (List Value)) (L L' : List CD) (D D' E E' : Nat → Prop) (w : World) (hx : Rd w D 15 A n c es) (hy : Rd w D' 15 B m d es') (hL : CellsAre w E es L) (hL' : CellsAre w E' es' L') :
    Calls Try.prog 41 #[.slice A n c, .slice B m d] w fun e w' => e = .returned (.bool (decide (L = L'))) ∧ Below w.heap.size w w' := by
  by_cases h : n = m
  · subst h
    exact rcells_same A B n c d es es' L L' D D' E E' w hx hy hL hL' _ rfl
  · refine (rcells_lens A B n c m d w h).mono ?_
    rintro e w' ⟨rfl, rfl⟩
    refine ⟨?_, Below.refl _ _⟩
    rw [decide_eq_false]
    rintro rfl
    exact h (by rw [← hx.len, ← hy.len, hL.1, hL'.1])
end Go.Proofs.Ytochdmbjlemfoaa
