/-
  The law of layer 05: texts, Great: contracts. Of any that can be read.
-/
import Derived.Test.YtjkofndnhmfnoaaDoorL7
import Derived.Deep.QuietTactic
import Derived.BigQuiet
namespace Go.Proofs.YtjkofndnhmfnoaaDoor
open Go Go.RowKit

theorem ltexts05_lens (A B : Option Addr) (n c m d : Nat) (w : World) (h : n ≠ m) :
    Calls Tryd.prog 16 #[.slice A n c, .slice B m d] w fun e w' => e = .returned (.bool false) ∧ w = w' := by
  have h3 : ((n : Int) == (m : Int)) = false := by simp; omega
  clear h
  go_enter Tryd.func16, Tryd.ntmps16
  go_wp2
  go_ret
  exact ⟨rfl, rfl⟩
set_option maxRecDepth 100000 in
set_option maxHeartbeats 800000 in
theorem ltexts05_same (A B : Option Addr) (n c d : Nat) (xs ys : List ByteArray) (D D' : Nat → Prop) (w : World) (hx : Rd w D 1 A n c (strRows xs)) (hy : Rd w D' 1 B n d (strRows ys)) :
    Calls Tryd.prog 16 #[.slice A n c, .slice B n d] w fun e w' => e = .returned (.bool (decide (xs = ys))) ∧ ∃ k, w' = w.drewN k := by
  have hn : n ≤ 9223372036854775807 := by have h1 := hx.le; have h2 := hx.max; unfold maxLen at h2; omega
  obtain ⟨lx, hx⟩ := hx.one
  obtain ⟨ly, hy⟩ := hy.one
  have H1 := Lib.hid hx
  have H2 := Lib.hid hy
  have L1 := Lib.hid lx
  have L2 := Lib.hid ly
  clear hx hy lx ly
  go_enter Tryd.func16, Tryd.ntmps16
  go_wp2
  go_loopw [5] (fun i wr => ∃ k d : Nat, k ≤ n ∧ i = .int .i64 (k : Int) ∧ wr = w.drewN d ∧ RowKit.Hid (xs.take k = ys.take k)) (fun i _ => n - (RowKit.intOf i).toNat)
  case atStart => exact ⟨0, 0, Nat.zero_le _, rfl, rfl, rfl⟩
  case round =>
    obtain ⟨k, d, hk, rfl, rfl, hh⟩ := hrel
    by_cases hlt : k < n
    · obtain ⟨b, off, hA, -, hb, hc⟩ := H1.out (by omega)
      obtain ⟨b', off', hB, -, hb', hc'⟩ := H2.out (by omega)
      obtain ⟨x, hxk⟩ : ∃ x, xs[k]? = some x := ⟨_, List.getElem?_eq_getElem (by rw [L1.out]; exact hlt)⟩
      obtain ⟨y, hyk⟩ : ∃ y, ys[k]? = some y := ⟨_, List.getElem?_eq_getElem (by rw [L2.out]; exact hlt)⟩
      subst hA hB
      have cx := hc k x hxk
      have cy := hc' k y hyk
      have Hx := Lib.hid hxk
      have Hy := Lib.hid hyk
      clear hc hc' hxk hyk
      have h1 : (k : Int) < (n : Int) := by omega
      have h2 : (0 : Int) ≤ (k : Int) := by omega
      by_cases he : x = y
      · subst he
        go_wp2
        go_quiet (fail)
        go_wp2
        go_roundw
        case rel => exact ⟨k + 1, _, by omega, by go_num, rfl, take_step hh.out Hx.out Hy.out⟩
        case measure => simp [RowKit.intOf]; omega
      · have h3 : (x.toList == y.toList) = false := str_ne he
        have HE := Lib.hid he
        clear he
        go_wp2
        go_quiet (fail)
        go_wp2
        go_ret
        exact ⟨by rw [decide_eq_false (fun h => ne_at Hx.out Hy.out HE.out h)]; rfl, d + nq, World.drewN_drewN _ _ _⟩
    · have hkn : k = n := by omega
      subst hkn
      have hh2 : RowKit.Hid (xs = ys) := take_all hh.out L1.out L2.out
      clear hh
      go_wp2
      go_ret
      exact ⟨by rw [decide_eq_true hh2.out]; rfl, _, rfl⟩
theorem ltexts05_any (A B : Option Addr) (n c m d : Nat) (xs ys : List ByteArray) (D D' : Nat → Prop) (w : World) (hx : Rd w D 1 A n c (strRows xs)) (hy : Rd w D' 1 B m d (strRows ys)) :
    Calls Tryd.prog 16 #[.slice A n c, .slice B m d] w fun e w' => e = .returned (.bool (decide (xs = ys))) ∧ ∃ k, w' = w.drewN k := by
  by_cases h : n = m
  · subst h
    exact ltexts05_same A B n c d xs ys D D' w hx hy
  · refine (ltexts05_lens A B n c m d w h).mono ?_
    rintro e w' ⟨rfl, rfl⟩
    refine ⟨?_, 0, rfl⟩
    rw [decide_eq_false]
    rintro rfl
    exact h (hx.one.1.symm.trans hy.one.1)
/-- Is an array more than statements go through? -/
def GreatA (m : Nat) (s : List Int) : Prop := 200 < m ∨ 8 < s.length ∨ ∃ x ∈ s, 200 < x
instance (m : Nat) (s : List Int) : Decidable (GreatA m s) := by unfold GreatA; exact inferInstance
set_option maxHeartbeats 800000 in
theorem great05_any (char : Bool) (A : Option Addr) (n c : Nat) (B : Option Addr) (m d : Nat) (s : List Int) (D : Nat → Prop) (w : World) (hs : Rd w D 1 A n c (intRows .i64 s)) (res : Bool) (hres : res = decide (GreatA m s)) :
    Calls Tryd.prog 17 #[.agg #[.bool char, .slice A n c, .slice B m d]] w fun e w' => e = .returned (.bool res) ∧ Below w.heap.size w w' := by
  have hlen : s.length = n := by have := hs.len; simpa [intRows] using this
  obtain ⟨_, hx⟩ := hs.one
  have HX := Lib.hid hx
  have HL := Lib.hid hlen
  have HR := Lib.hid hres
  have HB := Lib.hid (fun o => (Below.refl w.heap.size w).alloc (Nat.le_refl _) o)
  clear hs hres hlen hx
  by_cases h1 : 200 < m
  · have HV : RowKit.Hid (true = res) := by show _ = _; rw [HR.out, decide_eq_true]; exact .inl h1
    have q : (200 : Int) < (m : Int) := by omega
    go_enter Tryd.func17, Tryd.ntmps17
    go_wp2
    go_ret
    exact ⟨by rw [← HV.out]; rfl, HB.out _⟩
  have q1 : ¬ (200 : Int) < (m : Int) := by omega
  by_cases h2 : 8 < n
  · have HV : RowKit.Hid (true = res) := by show _ = _; rw [HR.out, decide_eq_true]; exact .inr (.inl (by rw [HL.out]; exact h2))
    have q : (8 : Int) < (n : Int) := by omega
    go_enter Tryd.func17, Tryd.ntmps17
    go_wp2
    go_ret
    exact ⟨by rw [← HV.out]; rfl, HB.out _⟩
  have q2 : ¬ (8 : Int) < (n : Int) := by omega
  go_enter Tryd.func17, Tryd.ntmps17
  go_wp2
  go_loop [3] (fun i => ∃ k : Nat, k ≤ n ∧ i = .int .i64 (k : Int) ∧ RowKit.Hid (∀ x ∈ s.take k, ¬ 200 < x)) (fun i => n - (RowKit.intOf i).toNat)
  case atStart => exact ⟨0, Nat.zero_le _, rfl, fun x hx => by simp at hx⟩
  case round =>
    obtain ⟨k, hk, rfl, hall⟩ := hrel
    by_cases hlt : k < n
    · have q3 : (k : Int) < (n : Int) := by omega
      obtain ⟨b, off, hA, -, hbl, hc⟩ := HX.out (by omega)
      obtain ⟨x, hxk⟩ : ∃ x, s[k]? = some x := ⟨_, List.getElem?_eq_getElem (by rw [HL.out]; exact hlt)⟩
      have cx := below_cell (HB.out (.cells #[.bool char, .slice A n c, .slice B m d] 27)) (hc k x hxk)
      have HXM := Lib.hid (List.mem_of_getElem? hxk)
      have HXK := Lib.hid hxk
      subst hA
      clear hc hxk
      by_cases hx : 200 < x
      · have HV : RowKit.Hid (true = res) := by show _ = _; rw [HR.out, decide_eq_true]; exact .inr (.inr ⟨x, HXM.out, hx⟩)
        go_wp2
        go_ret
        exact ⟨by rw [← HV.out]; rfl, HB.out _⟩
      · have HN : RowKit.Hid (∀ y ∈ s.take (k + 1), ¬ 200 < y) := all_snoc hall.out HXK.out hx
        go_wp2
        go_round
        case rel => exact ⟨k + 1, by omega, by go_num, HN.out⟩
        case measure => simp [RowKit.intOf]; omega
    · have hkn : k = n := by omega
      subst hkn
      have HT : RowKit.Hid (s.take k = s) := List.take_of_length_le (by rw [HL.out]; exact Nat.le_refl _)
      have HV : RowKit.Hid (false = res) := by
        show _ = _
        rw [HR.out, decide_eq_false]
        rintro (h | h | ⟨x, hx, h⟩)
        · exact h1 h
        · rw [HL.out] at h; exact h2 h
        · rw [← HT.out] at hx; exact hall.out x hx h
      go_wp2
      go_ret
      exact ⟨by rw [← HV.out]; rfl, HB.out _⟩
end Go.Proofs.YtjkofndnhmfnoaaDoor
