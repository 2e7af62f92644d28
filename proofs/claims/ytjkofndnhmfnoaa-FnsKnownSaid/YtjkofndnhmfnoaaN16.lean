/-
  Layer 21 (anamnesislaw21): ints: contract; what the stores of awake have (plain words).
-/
import Derived.Test.YtjkofndnhmfnoaaN15
import Derived.Test.YtjkofndnhmfnoaaN11
namespace Go.Proofs.Ytjkofndnhmfnoaa
open Go Go.RowKit

theorem intRows_len (xs : List Int) : (intRows .i64 xs).length = xs.length := by simp [intRows]
theorem intRows_at {w : World} {D : Nat → Prop} {A : Option Addr} {n c : Nat} {xs : List Int} (h : Rd w D 1 A n c (intRows .i64 xs)) (hn : 0 < n) : ∃ b off, A = some ⟨b, off, none⟩ ∧ D b ∧ ∀ (i : Nat) x, xs[i]? = some x → w.cell? ⟨b, off + i, none⟩ = some (.int .i64 x) := by
  obtain ⟨b, off, e, hb, hc⟩ := h.at_ hn
  refine ⟨b, off, e, hb, fun i x hi => ?_⟩
  have := hc i [.int .i64 x] (by unfold intRows; rw [List.getElem?_map, hi]; rfl) 0 (.int .i64 x) rfl
  simpa using this

set_option maxRecDepth 100000 in
theorem ints21_any (A B : Option Addr) (n c m d : Nat) (xs ys : List Int) (D D' : Nat → Prop) (w : World) (hx : Rd w D 1 A n c (intRows .i64 xs)) (hy : Rd w D' 1 B m d (intRows .i64 ys)) (res : Bool) (hres : res = decide (xs = ys)) :
    Calls Try.prog 17 #[.slice A n c, .slice B m d] w fun e w' => e = .returned (.bool res) ∧ Below w.heap.size w w' := by
  have hlx : xs.length = n := by rw [← intRows_len]; exact hx.len
  have hly : ys.length = m := by rw [← intRows_len]; exact hy.len
  have hn : n ≤ 9223372036854775807 := by have h1 := hx.le; have h2 := hx.max; unfold maxLen at h2; omega
  have HR := Lib.hid hres
  by_cases hnm : n = m
  · subst hnm
    have LX := Lib.hid hlx
    have LY := Lib.hid hly
    have HX := Lib.hid hx
    have HY := Lib.hid hy
    clear hlx hly hx hy hres
    go_enter Try.func17, Try.ntmps17
    go_wp2
    go_loopw [5] (fun i wr => ∃ k : Nat, k ≤ n ∧ i = .int .i64 (k : Int) ∧ RowKit.Hid (Below w.heap.size w wr) ∧ RowKit.Hid (xs.take k = ys.take k)) (fun i _ => n - (RowKit.intOf i).toNat)
    case atStart => exact ⟨0, Nat.zero_le _, rfl, Below.refl _ _, rfl⟩
    case round =>
      obtain ⟨k, hk, rfl, hb, hh⟩ := hrel
      by_cases hlt : k < n
      · obtain ⟨b, off, hA, -, hc⟩ := intRows_at HX.out (by omega)
        obtain ⟨b', off', hB, -, hc'⟩ := intRows_at HY.out (by omega)
        obtain ⟨x, hxk⟩ : ∃ x, xs[k]? = some x := ⟨_, List.getElem?_eq_getElem (by rw [LX.out]; exact hlt)⟩
        obtain ⟨y, hyk⟩ : ∃ y, ys[k]? = some y := ⟨_, List.getElem?_eq_getElem (by rw [LY.out]; exact hlt)⟩
        have cx := below_cell hb.out (hc k x hxk)
        have cy := below_cell hb.out (hc' k y hyk)
        have XK := Lib.hid hxk
        have YK := Lib.hid hyk
        subst hA hB
        clear hc hc' hxk hyk
        have h1 : (k : Int) < (n : Int) := by omega
        by_cases hxy : x = y
        · have q1 : (x == y) = true := by simp [hxy]
          have q2 : (x != y) = false := by simp [hxy]
          go_wp2
          go_quiet (fail)
          go_wp2
          go_roundw
          case rel =>
            refine ⟨k + 1, by omega, by go_num, below_drewN hb.out _, ?_⟩
            show _ = _
            rw [List.take_add_one, List.take_add_one, XK.out, YK.out, hh.out, hxy]
          case measure => simp [RowKit.intOf]; omega
        · have q1 : (x == y) = false := by simp [hxy]
          have q2 : (x != y) = true := by simp [hxy]
          go_wp2
          go_quiet (fail)
          go_wp2
          go_ret
          refine ⟨congrArg (fun b => Ending.returned (Value.bool b)) (HR.out.trans (decide_eq_false ?_)).symm, below_drewN hb.out _⟩
          rintro rfl
          have := XK.out.symm.trans YK.out
          exact hxy (Option.some.inj this)
      · have hkn : k = n := by omega
        subst hkn
        go_wp2
        go_ret
        refine ⟨congrArg (fun b => Ending.returned (Value.bool b)) (HR.out.trans (decide_eq_true ?_)).symm, hb.out⟩
        have := hh.out
        rwa [List.take_of_length_le (by rw [LX.out]; exact Nat.le_refl _), List.take_of_length_le (by rw [LY.out]; exact Nat.le_refl _)] at this
  · have h3 : ((n : Int) == (m : Int)) = false := by simp; omega
    have h4 : ((n : Int) != (m : Int)) = true := by simp; omega
    have hne : RowKit.Hid (¬ xs = ys) := by rintro rfl; omega
    clear hx hy hlx hly hres hnm
    go_enter Try.func17, Try.ntmps17
    go_wp2
    go_ret
    exact ⟨congrArg (fun b => Ending.returned (Value.bool b)) (HR.out.trans (decide_eq_false hne.out)).symm, Below.refl _ _⟩

/-! ### The stores of awake -/
def nF : ByteArray := ⟨#[70]⟩
def nG : ByteArray := ⟨#[71]⟩
def wk0 : St := ⟨[], fun _ => tz, []⟩
def wk1 : St := wk0.fix nF
def wk2 : St := wk1.fix nG
def wk3 : St := wk2.put (pkey nF) (lineT (uniq21 [3, 1, 3]))
theorem nF_name : nameB nF = true := by decide +kernel
theorem nG_name : nameB nG = true := by decide +kernel
theorem uniq313 : uniq21 [3, 1, 3] = [1, 3] := by
  have h : rising21 [3, 1, 3] = [1, 3, 3] := by simp [rising21, List.mergeSort, List.MergeSort.Internal.splitInTwo]
  unfold uniq21
  rw [h]
  decide +kernel
theorem wk0_last : lastV wk0 = 0 := by decide +kernel
theorem wk0_len : (allN wk0 2).length < 50 := by decide +kernel
theorem wk0_F : (wk0.name nF).kind = 0 := by decide +kernel
theorem wk1_K : wk1.K.length ≤ 1000 := by decide +kernel
theorem wk1_G : wk1.G.length ≤ 1000 := by decide +kernel
theorem wk1_z : ∀ k ∈ wk1.K, k.size ≤ 1000000 := by decide +kernel
theorem wk1_last : lastV wk1 = 1 := by decide +kernel
theorem wk1_len : (allN wk1 2).length < 50 := by decide +kernel
theorem wk1_G0 : (wk1.name nG).kind = 0 := by decide +kernel
theorem wk2_K : wk2.K.length ≤ 1000 := by decide +kernel
theorem wk2_G : wk2.G.length ≤ 1000 := by decide +kernel
theorem wk2_F : (wk2.name nF).kind = 2 := by decide +kernel
theorem wk3_F : (wk3.name nF).f.version = 1 := by decide +kernel
theorem wk3_G : (wk3.name nG).f.version = 2 := by decide +kernel
theorem wk3_p : wk3.look (pkey nF) = lineT [1, 3] := by
  unfold wk3
  rw [St.look_put, uniq313]
theorem wk3_t : (wk3.look (tkey nF)).kind = 0 := by decide +kernel
end Go.Proofs.Ytjkofndnhmfnoaa
