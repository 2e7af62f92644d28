/-
  Marks (package marks): a value in memory (MK), New, Clear; the law's all, numbers. Contracts.
-/
import Derived.Test.YtochdmbjlemfoaaU1
import Derived.Test.YtochdmbjlemfoaaM1
import Derived.Deep.LoopGhost
import Derived.Deep.DeepCutAuto
import Derived.Deep.QuietTactic
import Derived.BigQuiet
namespace Go.Proofs.Ytochdmbjlemfoaa
open Go Go.RowKit Go.Maps

theorem mlaw : Keyed Try.prog 2 := int_keyed Try.underlying2

/-- Marks in memory: the struct's block r, its map's block b. -/
structure MK (w : World) (r b : Nat) (most : Nat) (per : Int) (K : List Int) (f : Int → Value) : Prop where
  ne : r ≠ b
  hdr : w.heap[r]? = some (.cells #[.int .i64 (most : Int), .int .i64 per, .map (some b)] 127 (0, 0))
  map : w.ownsMap Try.prog 2 heldR b K.length (imap K f)
  rise : Rising K
  wf : ∀ k ∈ K, -9223372036854775808 ≤ k ∧ k ≤ 9223372036854775807

def perOf (p : Int) : Int := if p < 1 then 1 else p
def capOf (c : Int) : Int := if c < 0 then 0 else if 1000000 < c then 1000000 else c
def mostOf (c p : Int) : Nat := (capOf c).toNat / (perOf p).toNat + 1
theorem perOf_pos (p : Int) : 1 ≤ perOf p := by unfold perOf; split <;> omega
theorem capOf_le (c : Int) : 0 ≤ capOf c ∧ capOf c ≤ 1000000 := by unfold capOf; split <;> (try split) <;> omega
theorem mostOf_eq (c p : Int) : ((mostOf c p : Nat) : Int) = capOf c / perOf p + 1 := by
  have h1 := perOf_pos p
  have h2 := capOf_le c
  unfold mostOf
  rw [Int.natCast_add, Int.natCast_ediv, Int.toNat_of_nonneg h2.1, Int.toNat_of_nonneg (by omega)]
  rfl
theorem mostOf_le (c p : Int) : 1 ≤ mostOf c p ∧ mostOf c p ≤ 1000001 := by
  have h2 := capOf_le c
  have := Nat.div_le_self (capOf c).toNat (perOf p).toNat
  unfold mostOf
  generalize (capOf c).toNat / (perOf p).toNat = q at *
  omega

theorem wrap64_small {x : Int} (h0 : -9223372036854775808 ≤ x) (h1 : x ≤ 9223372036854775807) : wrap64 x = x := by
  unfold wrap64
  omega
theorem mk_new (w : World) (most : Nat) (per : Int) (f : Int → Value) : MK ((w.alloc (.map #[] 0)).alloc (.cells #[.int .i64 (most : Int), .int .i64 per, .map (some w.heap.size)] 127)) (w.heap.size + 1) w.heap.size most per [] f :=
  ⟨by omega, heap_alloc2_new _ _ _, (World.ownsMap_made w _ _ _).alloc _, by simp [Rising], by simp⟩

set_option maxRecDepth 100000 in
theorem marksNew_any (c p : Int) (w : World) (hc0 : -9223372036854775808 ≤ c) (hc1 : c ≤ 9223372036854775807) (hp0 : -9223372036854775808 ≤ p) (hp1 : p ≤ 9223372036854775807) (f : Int → Value) :
    Calls Try.prog 30 #[.int .i64 c, .int .i64 p] w fun e w' => e = .returned (.pointer (some ⟨w.heap.size + 1, 0, none⟩)) ∧ MK w' (w.heap.size + 1) w.heap.size (mostOf c p) (perOf p) [] f ∧ Below w.heap.size w w' ∧ w'.heap.size = w.heap.size + 2 := by
  have hmm := @run_makeMap Try.prog
  have hX : ∀ X Y : Int, X = (mostOf c p : Int) → Y = perOf p → MK ((w.alloc (.map #[] 0)).alloc (.cells #[.int .i64 X, .int .i64 Y, .map (some w.heap.size)] 127)) (w.heap.size + 1) w.heap.size (mostOf c p) (perOf p) [] f := by
    rintro _ _ rfl rfl
    exact mk_new w _ _ f
  have HX := Lib.hid hX
  have hB : ∀ o o', Below w.heap.size w ((w.alloc o).alloc o') := fun o o' => ((Below.refl _ w).alloc (Nat.le_refl _) _).alloc (by simp) _
  have HB := Lib.hid hB
  clear hB hX
  by_cases h1 : p < 1
  · have EP := Lib.hid (show perOf p = 1 by unfold perOf; rw [if_pos h1])
    by_cases h2 : c < 0
    · have EC := Lib.hid (show capOf c = 0 by unfold capOf; rw [if_pos h2])
      go_enter Try.func30, Try.ntmps30
      go_wp2
      go_ret
      refine ⟨rfl, HX.out _ _ ?_ EP.out.symm, HB.out _ _, by simp⟩
      rw [mostOf_eq, EP.out, EC.out]
      rfl
    · by_cases h3 : 1000000 < c
      · have EC := Lib.hid (show capOf c = 1000000 by unfold capOf; rw [if_neg h2, if_pos h3])
        go_enter Try.func30, Try.ntmps30
        go_wp2
        go_ret
        refine ⟨rfl, HX.out _ _ ?_ EP.out.symm, HB.out _ _, by simp⟩
        rw [mostOf_eq, EP.out, EC.out]
        rfl
      · have EC := Lib.hid (show capOf c = c by unfold capOf; rw [if_neg h2, if_neg h3])
        go_enter Try.func30, Try.ntmps30
        go_wp2
        go_ret
        refine ⟨rfl, HX.out _ _ ?_ EP.out.symm, HB.out _ _, by simp⟩
        rw [mostOf_eq, EP.out, EC.out]
        rw [Int.ediv_one]
  · have EP := Lib.hid (show perOf p = p by unfold perOf; rw [if_neg h1])
    have h4 : 1 ≤ p := by omega
    have h5 : ¬ p = 0 := by omega
    by_cases h2 : c < 0
    · have EC := Lib.hid (show capOf c = 0 by unfold capOf; rw [if_pos h2])
      go_enter Try.func30, Try.ntmps30
      go_wp2
      go_ret
      refine ⟨rfl, HX.out _ _ ?_ EP.out.symm, HB.out _ _, by simp⟩
      rw [mostOf_eq, EP.out, EC.out]
      rw [Int.zero_ediv]; rfl
    · by_cases h3 : 1000000 < c
      · have EC := Lib.hid (show capOf c = 1000000 by unfold capOf; rw [if_neg h2, if_pos h3])
        go_enter Try.func30, Try.ntmps30
        go_wp2
        go_ret
        refine ⟨rfl, HX.out _ _ ?_ EP.out.symm, HB.out _ _, by simp⟩
        rw [mostOf_eq, EP.out, EC.out]
        have hd1 := Int.ediv_nonneg (a := 1000000) (b := p) (by omega) (by omega); have hd2 := Int.ediv_le_self p (a := 1000000) (by omega); generalize 1000000 / p = q at *; rw [show wrap64 (q + 1) = q + 1 from wrap64_small (by omega) (by omega)]
      · have EC := Lib.hid (show capOf c = c by unfold capOf; rw [if_neg h2, if_neg h3])
        go_enter Try.func30, Try.ntmps30
        go_wp2
        go_ret
        refine ⟨rfl, HX.out _ _ ?_ EP.out.symm, HB.out _ _, by simp⟩
        rw [mostOf_eq, EP.out, EC.out]
        have hd1 := Int.ediv_nonneg (a := c) (b := p) (by omega) (by omega); have hd2 := Int.ediv_le_self p (a := c) (by omega); generalize c / p = q at *; rw [show wrap64 (q + 1) = q + 1 from wrap64_small (by omega) (by omega)]

/-- The cells that tell a number. -/
def allE (n : Int) : List Value :=
  [.string ⟨#[107]⟩, .int .u8 5, .bool false, .slice none 0 0, .slice none 0 0, .string ⟨#[]⟩, .string ⟨#[]⟩, .string ⟨#[]⟩, .string ⟨#[]⟩, .slice none 0 0, .slice none 0 0, .int .i64 0, .slice none 0 0, .int .i64 n, .string ⟨#[]⟩]
theorem all25_any (n : Int) (w : World) : Calls Try.prog 32 #[.int .i64 n] w fun e w' => e = .returned (.slice (some ⟨w.heap.size, 0, none⟩) 1 1) ∧ w' = w.alloc (.cells (allE n).toArray 67) := by
  go_enter Try.func32, Try.ntmps32
  go_wp2
  go_ret
  exact ⟨rfl, rfl⟩

/-- A slice of 64-bit numbers. -/
def iRows (xs : List Int) : List (List Value) := xs.map fun x => [.int .i64 x]
theorem iRows_len (xs : List Int) : (iRows xs).length = xs.length := by simp [iRows]
theorem iRows_at {w : World} {D : Nat → Prop} {A : Option Addr} {n c : Nat} {xs : List Int} (h : Rd w D 1 A n c (iRows xs)) (hn : 0 < n) : ∃ b off, A = some ⟨b, off, none⟩ ∧ D b ∧ ∀ (i : Nat) x, xs[i]? = some x → w.cell? ⟨b, off + i, none⟩ = some (.int .i64 x) := by
  obtain ⟨b, off, e, hb, hc⟩ := h.at_ hn
  refine ⟨b, off, e, hb, fun i x hi => ?_⟩
  have := hc i [.int .i64 x] (by unfold iRows; rw [List.getElem?_map, hi]; rfl) 0 (.int .i64 x) rfl
  simpa using this

set_option maxRecDepth 100000 in
theorem numbers25_any (A B : Option Addr) (n c m d : Nat) (xs ys : List Int) (D D' : Nat → Prop) (w : World) (hx : Rd w D 1 A n c (iRows xs)) (hy : Rd w D' 1 B m d (iRows ys)) (res : Bool) (hres : res = decide (xs = ys)) :
    Calls Try.prog 33 #[.slice A n c, .slice B m d] w fun e w' => e = .returned (.bool res) ∧ Below w.heap.size w w' := by
  have hlx : xs.length = n := by rw [← iRows_len]; exact hx.len
  have hly : ys.length = m := by rw [← iRows_len]; exact hy.len
  have hn : n ≤ 9223372036854775807 := by have h1 := hx.le; have h2 := hx.max; unfold maxLen at h2; omega
  have HR := Lib.hid hres
  by_cases hnm : n = m
  · subst hnm
    have LX := Lib.hid hlx
    have LY := Lib.hid hly
    have HX := Lib.hid hx
    have HY := Lib.hid hy
    clear hlx hly hx hy hres
    go_enter Try.func33, Try.ntmps33
    go_wp2
    go_loopw [5] (fun i wr => ∃ k : Nat, k ≤ n ∧ i = .int .i64 (k : Int) ∧ RowKit.Hid (Below w.heap.size w wr) ∧ RowKit.Hid (xs.take k = ys.take k)) (fun i _ => n - (RowKit.intOf i).toNat)
    case atStart => exact ⟨0, Nat.zero_le _, rfl, Below.refl _ _, rfl⟩
    case round =>
      obtain ⟨k, hk, rfl, hb, hh⟩ := hrel
      by_cases hlt : k < n
      · obtain ⟨b, off, hA, -, hc⟩ := iRows_at HX.out (by omega)
        obtain ⟨b', off', hB, -, hc'⟩ := iRows_at HY.out (by omega)
        obtain ⟨x, hxk⟩ : ∃ x, xs[k]? = some x := ⟨_, List.getElem?_eq_getElem (by rw [LX.out]; exact hlt)⟩
        obtain ⟨y, hyk⟩ : ∃ y, ys[k]? = some y := ⟨_, List.getElem?_eq_getElem (by rw [LY.out]; exact hlt)⟩
        have cx := below_cell hb.out (hc k x hxk)
        have cy := below_cell hb.out (hc' k y hyk)
        have XK := Lib.hid hxk
        have YK := Lib.hid hyk
        subst hA hB
        clear hc hc' hxk hyk
        have h1 : (k : Int) < (n : Int) := by omega
        by_cases hxy : x = y
        · have q1 : (x == y) = true := by simp [hxy]
          have q2 : (x != y) = false := by simp [hxy]
          go_wp2
          go_quiet (fail)
          go_wp2
          go_roundw
          case rel =>
            refine ⟨k + 1, by omega, by go_num, below_drewN hb.out _, ?_⟩
            show _ = _
            rw [List.take_add_one, List.take_add_one, XK.out, YK.out, hh.out, hxy]
          case measure => simp [RowKit.intOf]; omega
        · have q1 : (x == y) = false := by simp [hxy]
          have q2 : (x != y) = true := by simp [hxy]
          go_wp2
          go_quiet (fail)
          go_wp2
          go_ret
          refine ⟨congrArg (fun b => Ending.returned (Value.bool b)) (HR.out.trans (decide_eq_false ?_)).symm, below_drewN hb.out _⟩
          rintro rfl
          have := XK.out.symm.trans YK.out
          exact hxy (Option.some.inj this)
      · have hkn : k = n := by omega
        subst hkn
        go_wp2
        go_ret
        refine ⟨congrArg (fun b => Ending.returned (Value.bool b)) (HR.out.trans (decide_eq_true ?_)).symm, hb.out⟩
        have := hh.out
        rwa [List.take_of_length_le (by rw [LX.out]; exact Nat.le_refl _), List.take_of_length_le (by rw [LY.out]; exact Nat.le_refl _)] at this
  · have h3 : ((n : Int) == (m : Int)) = false := by simp; omega
    have h4 : ((n : Int) != (m : Int)) = true := by simp; omega
    have hne : RowKit.Hid (¬ xs = ys) := by rintro rfl; omega
    clear hx hy hlx hly hres hnm
    go_enter Try.func33, Try.ntmps33
    go_wp2
    go_ret
    exact ⟨congrArg (fun b => Ending.returned (Value.bool b)) (HR.out.trans (decide_eq_false hne.out)).symm, Below.refl _ _⟩
end Go.Proofs.Ytochdmbjlemfoaa
