/-
  Layer 20 (names): letter, digit, Is: contracts; which texts are names (nameB). Of any text.
-/
import Derived.Test.YtjkofndnhmfnoaaDoorS0
import Derived.Laws.RangeString
import Derived.Laws.Runes
import Derived.Laws.Strings3
namespace Go.Proofs.YtjkofndnhmfnoaaDoor
open Go Go.RowKit

def letterB (c : Int) : Bool := decide ((65 ≤ c ∧ c ≤ 90) ∨ (97 ≤ c ∧ c ≤ 122) ∨ c = 95 ∨ c = 8710)
def digitB (c : Int) : Bool := decide (48 ≤ c ∧ c ≤ 57)
/-- A text is a name from a place on, behind n signs. -/
def nameFrom (s : ByteArray) : Nat → Nat → Nat → Bool
  | 0, _, n => decide (0 < n ∧ n ≤ 16)
  | f + 1, pos, n => if pos < s.size then (letterB (Utf8.decode s pos).1 || (decide (n ≠ 0) && digitB (Utf8.decode s pos).1)) && nameFrom s f (pos + (Utf8.decode s pos).2) (n + 1) else decide (0 < n ∧ n ≤ 16)
def nameB (s : ByteArray) : Bool := nameFrom s s.size 0 0

theorem letter_any (c : Int) (w : World) : Calls Tryd.prog 58 #[.int .i32 c] w fun e w' => e = .returned (.bool (letterB c)) ∧ w' = w := by
  by_cases h1 : 65 ≤ c
  · by_cases h2 : c ≤ 90
    · have HR : RowKit.Hid (letterB c = true) := decide_eq_true (by omega)
      go_enter Tryd.func58, Tryd.ntmps58
      go_wp2
      go_ret
      exact ⟨by rw [HR.out]; rfl, rfl⟩
    · by_cases h3 : 97 ≤ c
      · by_cases h4 : c ≤ 122
        · have HR : RowKit.Hid (letterB c = true) := decide_eq_true (by omega)
          go_enter Tryd.func58, Tryd.ntmps58
          go_wp2
          go_ret
          exact ⟨by rw [HR.out]; rfl, rfl⟩
        · have h5 : (c == 95) = false := by rw [beq_eq_false_iff_ne]; omega
          by_cases h6 : c = 8710
          · have h7 : (c == 8710) = true := by rw [h6]; rfl
            have HR : RowKit.Hid (letterB c = true) := decide_eq_true (by omega)
            clear h6
            go_enter Tryd.func58, Tryd.ntmps58
            go_wp2
            go_ret
            exact ⟨by rw [HR.out]; rfl, rfl⟩
          · have h7 : (c == 8710) = false := by rw [beq_eq_false_iff_ne]; exact h6
            have HR : RowKit.Hid (letterB c = false) := decide_eq_false (by rw [beq_eq_false_iff_ne] at h5; omega)
            clear h6
            go_enter Tryd.func58, Tryd.ntmps58
            go_wp2
            go_ret
            exact ⟨by rw [HR.out]; rfl, rfl⟩
      · have h7 : (c == 8710) = false := by rw [beq_eq_false_iff_ne]; omega
        by_cases h6 : c = 95
        · have h5 : (c == 95) = true := by rw [h6]; rfl
          have HR : RowKit.Hid (letterB c = true) := decide_eq_true (by omega)
          clear h6
          go_enter Tryd.func58, Tryd.ntmps58
          go_wp2
          go_ret
          exact ⟨by rw [HR.out]; rfl, rfl⟩
        · have h5 : (c == 95) = false := by rw [beq_eq_false_iff_ne]; exact h6
          have HR : RowKit.Hid (letterB c = false) := decide_eq_false (by omega)
          clear h6
          go_enter Tryd.func58, Tryd.ntmps58
          go_wp2
          go_ret
          exact ⟨by rw [HR.out]; rfl, rfl⟩
  · have h3 : ¬ 97 ≤ c := by omega
    have h5 : (c == 95) = false := by rw [beq_eq_false_iff_ne]; omega
    have h7 : (c == 8710) = false := by rw [beq_eq_false_iff_ne]; omega
    have HR : RowKit.Hid (letterB c = false) := decide_eq_false (by omega)
    go_enter Tryd.func58, Tryd.ntmps58
    go_wp2
    go_ret
    exact ⟨by rw [HR.out]; rfl, rfl⟩
theorem digit_any (c : Int) (w : World) : Calls Tryd.prog 59 #[.int .i32 c] w fun e w' => e = .returned (.bool (digitB c)) ∧ w' = w := by
  by_cases h1 : 48 ≤ c
  · by_cases h2 : c ≤ 57
    · have HR : RowKit.Hid (digitB c = true) := decide_eq_true ⟨h1, h2⟩
      go_enter Tryd.func59, Tryd.ntmps59
      go_wp2
      go_ret
      exact ⟨by rw [HR.out]; rfl, rfl⟩
    · have HR : RowKit.Hid (digitB c = false) := decide_eq_false (by omega)
      go_enter Tryd.func59, Tryd.ntmps59
      go_wp2
      go_ret
      exact ⟨by rw [HR.out]; rfl, rfl⟩
  · have HR : RowKit.Hid (digitB c = false) := decide_eq_false (by omega)
    go_enter Tryd.func59, Tryd.ntmps59
    go_wp2
    go_ret
    exact ⟨by rw [HR.out]; rfl, rfl⟩
theorem width_pos (s : ByteArray) (pos : Nat) (h : pos < s.size) : 1 ≤ (Utf8.decode s pos).2 := by
  by_cases ha : (s[pos]'h).toNat < 128
  · rw [decode_ascii s pos h ha]
    exact Nat.le_refl _
  · exact (decode_high s pos h (by omega)).2
theorem nameFrom_end (s : ByteArray) (b pos n : Nat) (h : ¬ pos < s.size) : nameFrom s b pos n = decide (0 < n ∧ n ≤ 16) := by
  cases b with
  | zero => rfl
  | succ b => simp [nameFrom, h]
theorem width_le (s : ByteArray) (pos : Nat) : (Utf8.decode s pos).2 ≤ 4 := by
  unfold Utf8.decode
  simp only
  repeat' split
  all_goals simp
theorem below_iter20 (w : World) (s : ByteArray) (pos : Nat) : Below w.heap.size w (w.iter s pos) := (Below.refl _ w).alloc (Nat.le_refl _) _
set_option maxRecDepth 100000 in
theorem is_any (s : ByteArray) (w : World) (hz : s.size ≤ 1000000) : Calls Tryd.prog 32 #[.string s] w fun e w' => e = .returned (.bool (nameB s)) ∧ Below w.heap.size w w' := by
  have HZ := Lib.hid hz
  go_enter Tryd.func32, Tryd.ntmps32
  go_wp2
  go_loopw [3] (fun n w' => ∃ (pos b : Nat) (m : Nat), w' = w.iter s pos ∧ n = .int .i64 (m : Int) ∧ nameFrom s b pos m = nameB s ∧ s.size ≤ pos + b ∧ m ≤ pos ∧ pos ≤ s.size + 4) (fun _ w' => s.size - w'.iterPos w.heap.size)
  case atStart => exact ⟨0, s.size, 0, rfl, rfl, rfl, by omega, Nat.le_refl _, by omega⟩
  case round =>
    obtain ⟨pos, b, m, rfl, rfl, hc, hb, hm, hps⟩ := hrel
    by_cases hp : pos < s.size
    · have hnx : ∀ ty, (Instr.next (.pointer (some ⟨w.heap.size, 0, none⟩)) true ty).run Tryd.prog (w.iter s pos) = _ := fun ty => run_next_any w s pos ty hp
      have hwd := width_pos s pos hp
      have hz := HZ.out
      obtain ⟨b', rfl⟩ : ∃ b', b = b' + 1 := ⟨b - 1, by omega⟩
      have HNF : RowKit.Hid (nameFrom s (b' + 1) pos m = ((letterB (Utf8.decode s pos).1 || (decide (m ≠ 0) && digitB (Utf8.decode s pos).1)) && nameFrom s b' (pos + (Utf8.decode s pos).2) (m + 1))) := by
        show _ = _
        rw [nameFrom, if_pos hp]
      have HC := Lib.hid hc
      have hdw := width_le s pos
      have hpz : pos + (Utf8.decode s pos).2 ≤ s.size + 4 := by omega
      clear hc
      go_wp2_with fail
      refine (letter_any _ _).mono ?_
      rintro e w2 ⟨rfl, rfl⟩
      cases hL : letterB (Utf8.decode s pos).1 with
      | true =>
        have HL := Lib.hid hL
        clear hL
        go_wp2
        go_roundw
        case rel => exact ⟨_, b', m + 1, rfl, by go_num, by rw [← HC.out, HNF.out, HL.out]; simp, by omega, by omega, hpz⟩
        case measure =>
          simp
          omega
      | false =>
        have HL := Lib.hid hL
        clear hL
        by_cases hm0 : m = 0
        · have hm1 : ((m : Int) == 0) = true := by rw [hm0]; rfl
          have HR : RowKit.Hid (nameB s = false) := by
            show _ = _
            rw [← HC.out, HNF.out, HL.out, hm0]
            simp
          clear hm0
          go_wp2
          go_ret
          exact ⟨by rw [HR.out]; rfl, below_iter20 _ _ _⟩
        · have hm1 : ((m : Int) == 0) = false := by rw [beq_eq_false_iff_ne]; omega
          have HM0 := Lib.hid hm0
          clear hm0
          go_wp2_with fail
          refine (digit_any _ _).mono ?_
          rintro e w2 ⟨rfl, rfl⟩
          cases hG : digitB (Utf8.decode s pos).1 with
          | true =>
            have HG := Lib.hid hG
            clear hG
            go_wp2
            go_roundw
            case rel => exact ⟨_, b', m + 1, rfl, by go_num, by rw [← HC.out, HNF.out, HL.out, HG.out]; simp [HM0.out], by omega, by omega, hpz⟩
            case measure =>
              simp
              omega
          | false =>
            have HR : RowKit.Hid (nameB s = false) := by
              show _ = _
              rw [← HC.out, HNF.out, HL.out, hG]
              simp
            clear hG
            go_wp2
            go_ret
            exact ⟨by rw [HR.out]; rfl, below_iter20 _ _ _⟩
    · have hnx : ∀ ty, (Instr.next (.pointer (some ⟨w.heap.size, 0, none⟩)) true ty).run Tryd.prog (w.iter s pos) = _ := fun ty => run_next_end w s pos ty hp
      have HR : RowKit.Hid (nameB s = decide (0 < m ∧ m ≤ 16)) := by
        show _ = _
        rw [← hc, nameFrom_end s b pos m hp]
      clear hc
      by_cases h0 : 0 < m
      · have q1 : (0 : Int) < (m : Int) := by omega
        by_cases h16 : m ≤ 16
        · have q2 : (m : Int) ≤ 16 := by omega
          have HD := Lib.hid (decide_eq_true (show 0 < m ∧ m ≤ 16 from ⟨h0, h16⟩))
          clear h0 h16
          go_wp2
          go_ret
          exact ⟨by rw [HR.out, HD.out]; rfl, below_iter20 _ _ _⟩
        · have q2 : ¬ (m : Int) ≤ 16 := by omega
          have HD := Lib.hid (decide_eq_false (show ¬ (0 < m ∧ m ≤ 16) by omega))
          clear h0 h16
          go_wp2
          go_ret
          exact ⟨by rw [HR.out, HD.out]; rfl, below_iter20 _ _ _⟩
      · have q1 : ¬ (0 : Int) < (m : Int) := by omega
        have HD := Lib.hid (decide_eq_false (show ¬ (0 < m ∧ m ≤ 16) by omega))
        clear h0
        go_wp2
        go_ret
        exact ⟨by rw [HR.out, HD.out]; rfl, below_iter20 _ _ _⟩
end Go.Proofs.YtjkofndnhmfnoaaDoor
