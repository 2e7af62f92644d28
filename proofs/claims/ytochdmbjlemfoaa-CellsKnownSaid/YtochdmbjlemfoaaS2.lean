/-
  The contract of 'texts' (two lists of texts are the same just if they read so), of anamnesisref19, of any two that can be read.
-/
import Derived.Test.YtochdmbjlemfoaaS1
namespace Go.Proofs.Ytochdmbjlemfoaa
open Go Go.RowKit

theorem str_inj {x y : ByteArray} (h : x.toList = y.toList) : x = y := by
  rw [ByteArray.toList_eq, ByteArray.toList_eq] at h
  have h2 : x.data = y.data := by rw [← Array.toList_inj]; exact h
  cases x; cases y; simp_all
theorem str_ne {x y : ByteArray} (h : x ≠ y) : (x.toList == y.toList) = false := by
  rw [beq_eq_false_iff_ne]
  exact fun e => h (str_inj e)
theorem texts_lens (A B : Option Addr) (n c m d : Nat) (w : World) (h : n ≠ m) :
    Calls Try.prog 85 #[.slice A n c, .slice B m d] w fun e w' => e = .returned (.bool false) ∧ w = w' := by
  have h3 : ((n : Int) == (m : Int)) = false := by simp; omega
  clear h
  go_enter Try.func85, Try.ntmps85
  go_wp2
  go_ret
  exact ⟨rfl, rfl⟩
set_option maxRecDepth 100000 in
set_option maxHeartbeats 800000 in
theorem texts_same (A B : Option Addr) (n c d : Nat) (xs ys : List ByteArray) (D D' : Nat → Prop) (w : World) (hx : Rd w D 1 A n c (strRows xs)) (hy : Rd w D' 1 B n d (strRows ys)) :
    Calls Try.prog 85 #[.slice A n c, .slice B n d] w fun e w' => e = .returned (.bool (decide (xs = ys))) ∧ ∃ k, w' = w.drewN k := by
  have hn : n ≤ 9223372036854775807 := by have h1 := hx.le; have h2 := hx.max; unfold maxLen at h2; omega
  obtain ⟨lx, hx⟩ := hx.one
  obtain ⟨ly, hy⟩ := hy.one
  have H1 := Lib.hid hx
  have H2 := Lib.hid hy
  have L1 := Lib.hid lx
  have L2 := Lib.hid ly
  clear hx hy lx ly
  go_enter Try.func85, Try.ntmps85
  go_wp2
  go_loopw [5] (fun i wr => ∃ k d : Nat, k ≤ n ∧ i = .int .i64 (k : Int) ∧ wr = w.drewN d ∧ RowKit.Hid (xs.take k = ys.take k)) (fun i _ => n - (intOf i).toNat)
  case atStart => exact ⟨0, 0, Nat.zero_le _, rfl, rfl, rfl⟩
  case round =>
    obtain ⟨k, d, hk, rfl, rfl, hh⟩ := hrel
    by_cases hlt : k < n
    · obtain ⟨b, off, hA, -, hb, hc⟩ := H1.out (by omega)
      obtain ⟨b', off', hB, -, hb', hc'⟩ := H2.out (by omega)
      obtain ⟨x, hxk⟩ : ∃ x, xs[k]? = some x := ⟨_, List.getElem?_eq_getElem (by rw [L1.out]; exact hlt)⟩
      obtain ⟨y, hyk⟩ : ∃ y, ys[k]? = some y := ⟨_, List.getElem?_eq_getElem (by rw [L2.out]; exact hlt)⟩
      subst hA hB
      have cx := hc k x hxk
      have cy := hc' k y hyk
      have Hx := Lib.hid hxk
      have Hy := Lib.hid hyk
      clear hc hc' hxk hyk
      have h1 : (k : Int) < (n : Int) := by omega
      have h2 : (0 : Int) ≤ (k : Int) := by omega
      by_cases he : x = y
      · subst he
        go_wp2
        go_quiet (fail)
        go_wp2
        go_roundw
        case rel => exact ⟨k + 1, _, by omega, by go_num, rfl, take_step hh.out Hx.out Hy.out⟩
        case measure => simp [intOf]; omega
      · have h3 : (x.toList == y.toList) = false := str_ne he
        have HE := Lib.hid he
        clear he
        go_wp2
        go_quiet (fail)
        go_wp2
        go_ret
        exact ⟨by rw [decide_eq_false (fun h => ne_at Hx.out Hy.out HE.out h)]; rfl, d + nq, World.drewN_drewN _ _ _⟩
    · have hkn : k = n := by omega
      subst hkn
      have hh2 : RowKit.Hid (xs = ys) := take_all hh.out L1.out L2.out
      clear hh
      go_wp2
      go_ret
      exact ⟨by rw [decide_eq_true hh2.out]; rfl, _, rfl⟩
theorem texts_any (A B : Option Addr) (n c m d : Nat) (xs ys : List ByteArray) (D D' : Nat → Prop) (w : World) (hx : Rd w D 1 A n c (strRows xs)) (hy : Rd w D' 1 B m d (strRows ys)) :
    Calls Try.prog 85 #[.slice A n c, .slice B m d] w fun e w' => e = .returned (.bool (decide (xs = ys))) ∧ ∃ k, w' = w.drewN k := by
  by_cases h : n = m
  · subst h
    exact texts_same A B n c d xs ys D D' w hx hy
  · refine (texts_lens A B n c m d w h).mono ?_
    rintro e w' ⟨rfl, rfl⟩
    refine ⟨?_, 0, rfl⟩
    rw [decide_eq_false]
    rintro rfl
    exact h (hx.one.1.symm.trans hy.one.1)
end Go.Proofs.Ytochdmbjlemfoaa
