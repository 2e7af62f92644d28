/-
  Layer 05 (layout): contracts of Number, wide, between: of any input, where strconv's table of powers of ten lies as the library lays it.
-/
import Derived.Test.YtjkofndnhmfnoaaDoorLayF
import Derived.Test.YtjkofndnhmfnoaaDoorP2
import Derived.Test.YtjkofndnhmfnoaaDoorW
import Derived.WalkSpells
import Derived.WalkLawsBesides
import Derived.KernelRfl
import Derived.Lib.Hide
import Derived.Outline
import Derived.Handy
namespace Go.Proofs.YtjkofndnhmfnoaaDoor
open Go Go.RowKit

/-- strconv's table of powers of ten lies there. -/
def Tab (w : World) : Prop := Lib.TabIs Tryd.prog w "internal/strconv.uint64pow10" .u64 Lib.pow10Tab
theorem tabIs_below {P : Program} {w w' : World} {name : String} {k : IntKind} {zs : List Int} (h : Lib.TabIs P w name k zs) (hb : Below w.heap.size w w') : Lib.TabIs P w' name k zs := by
  unfold Lib.TabIs World.var? at *
  cases hg : P.globalNamed name with
  | none => rw [hg] at h; simp at h
  | some g =>
    rw [hg] at h
    simp only [Option.bind_some] at h ⊢
    by_cases hlt : g < w.heap.size
    · rw [hb.block g hlt]; exact h
    · rw [Array.getElem?_eq_none (by omega)] at h; simp at h
theorem Tab.below {w w' : World} (h : Tab w) (hb : Below w.heap.size w w') : Tab w' := tabIs_below h hb
theorem below_sgrow (w : World) (os : Array Obj) : Below w.heap.size w (Sort.grow w os) :=
  ⟨rfl, rfl, rfl, by simp [Sort.grow], fun i hi => by simp [Sort.grow, Array.getElem?_append_left hi]⟩
theorem fmtInt_any (n : Int) (w : World) (hn : i64 n) (ht : Tab w) : Calls Tryd.prog 42 #[.int .i64 n, .int .i64 10] w fun e w' => e = .returned (.string (bs (Lib.itoa n))) ∧ Below w.heap.size w w' := by
  refine (Tryd.strconv_FormatInt_10 n hn.1 hn.2 w ht).mono ?_
  rintro e w' ⟨rfl, k, os, rfl⟩
  exact ⟨rfl, (below_drewN (Below.refl _ w) k).trans (below_sgrow (w.drewN k) os)⟩
theorem itoa_any (n : Int) (w : World) (hn : i64 n) (ht : Tab w) : Calls Tryd.prog 41 #[.int .i64 n] w fun e w' => e = .returned (.string (bs (Lib.itoa n))) ∧ Below w.heap.size w w' := by
  refine (Tryd.strconv_Itoa n hn.1 hn.2 w ht).mono ?_
  rintro e w' ⟨rfl, k, os, rfl⟩
  exact ⟨rfl, (below_drewN (Below.refl _ w) k).trans (below_sgrow (w.drewN k) os)⟩
theorem itoa_nonneg {n : Int} (h : 0 ≤ n) : Lib.itoa n = numL n := by
  unfold Lib.itoa numL
  rw [if_neg (by omega), if_neg (by omega)]
  congr 1; omega
theorem bs_tail (b : UInt8) (l : List UInt8) : (bs (b :: l)).extract 1 (bs (b :: l)).size = bs l := by
  rw [ByteArray.ext_iff]
  simp [bs, ByteArray.size]
theorem number05_any (n : Int) (w : World) (hn : i64 n) (ht : Tab w) : Calls Tryd.prog 14 #[.int .i64 n] w fun e w' => e = .returned (.string (bs (numL n))) ∧ Below w.heap.size w w' := by
  have HT := Lib.hid ht
  have HN := Lib.hid hn
  clear ht hn
  by_cases h : n < 0
  · have HI : RowKit.Hid (Lib.itoa n = 45 :: Lib.decDigits n.natAbs) := by show _ = _; unfold Lib.itoa; rw [if_pos h]
    have HL : RowKit.Hid (bs [194, 175] ++ bs (Lib.decDigits n.natAbs) = bs (numL n)) := by show _ = _; unfold numL; rw [if_pos h, bs_app]; rfl
    have HX := Lib.hid (bs_tail 45 (Lib.decDigits n.natAbs))
    have HZ : RowKit.Hid ((bs (45 :: Lib.decDigits n.natAbs)).size = (Lib.decDigits n.natAbs).length + 1) := by show _ = _; rw [bs_size]; rfl
    go_enter Tryd.func14, Tryd.ntmps14
    go_wp2_with fail
    refine (fmtInt_any n w HN.out HT.out).mono ?_
    rintro e w1 ⟨rfl, hb⟩
    rw [HI.out]
    have hz1 : 1 ≤ (bs (45 :: Lib.decDigits n.natAbs)).size := by rw [HZ.out]; omega
    have hz2 : (bs (45 :: Lib.decDigits n.natAbs)).size ≤ 20 := by rw [HZ.out]; have := dec_len n.natAbs (by have := HN.out.1; have := HN.out.2; omega); omega
    clear HI
    go_wp2
    go_ret
    exact ⟨by rw [← HL.out, ← HX.out]; rfl, hb⟩
  · have HI : RowKit.Hid (Lib.itoa n = numL n) := itoa_nonneg (by omega)
    go_enter Tryd.func14, Tryd.ntmps14
    go_wp2_with fail
    refine (fmtInt_any n w HN.out HT.out).mono ?_
    rintro e w1 ⟨rfl, hb⟩
    rw [HI.out]
    clear HI
    go_wp2
    go_ret
    exact ⟨rfl, hb⟩
theorem below_iter (w : World) (s : ByteArray) (pos : Nat) : Below w.heap.size w (w.iter s pos) := (Below.refl _ w).alloc (Nat.le_refl _) _
theorem wide05_any (s : ByteArray) (w : World) (hs : s.size < 9223372036854775807) : Calls Tryd.prog 70 #[.string s] w fun e w' => e = .returned (.int .i64 (Lib.runeCount s)) ∧ Below w.heap.size w w' := by
  have HC := Lib.hid (Tryd.utf8_RuneCountInString s w hs)
  go_enter Tryd.func70, Tryd.ntmps70
  go_wp2_with fail
  refine HC.out.mono ?_
  rintro e w1 ⟨rfl, pos, rfl⟩
  have HB := Lib.hid (below_iter w s pos)
  go_wp2
  go_ret
  exact ⟨rfl, HB.out⟩
theorem between05_any (c : Bool) (x y : Value) (_hx : x.oneCell' = true) (_hy : y.oneCell' = true) (w : World) : Calls Tryd.prog 37 #[.agg #[.bool c, x, y]] w fun e w' => e = .returned (.string (bs (sepL c))) ∧ Below w.heap.size w w' := by
  have HB := Lib.hid (fun o => (Below.refl w.heap.size w).alloc (Nat.le_refl _) o)
  cases c
  · go_enter Tryd.func37, Tryd.ntmps37
    go_wp2
    go_ret
    exact ⟨rfl, HB.out _⟩
  · go_enter Tryd.func37, Tryd.ntmps37
    go_wp2
    go_ret
    exact ⟨rfl, HB.out _⟩
end Go.Proofs.YtjkofndnhmfnoaaDoor
