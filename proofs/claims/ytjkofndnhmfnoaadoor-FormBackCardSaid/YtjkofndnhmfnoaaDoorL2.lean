/-
  Layer 02 (value.Right), layer 03 (shape.product, shape.Size): contracts. Of any array that can be read.
-/
import Derived.Test.YtjkofndnhmfnoaaDoorLayG
import Derived.Test.YtjkofndnhmfnoaaDoorL1
import Derived.Test.YtjkofndnhmfnoaaDoorS0
import Derived.Lib.Small
namespace Go.Proofs.YtjkofndnhmfnoaaDoor
open Go Go.RowKit Go.Shelf

theorem validRune_iff {x : Int} (h0 : 0 ≤ x) (h1 : x ≤ 1114111) : Lib.validRune x = decide (chOk x) := by
  unfold Lib.validRune chOk
  rw [Bool.eq_iff_iff]
  simp
  omega
theorem character02_any (x : Int) (w : World) : Calls Tryd.prog 62 #[.int .i64 x] w fun e w' => e = .returned (.bool (decide (chOk x))) ∧ w = w' := by
  by_cases h0 : 0 ≤ x
  · by_cases h1 : x ≤ 1114111
    · have HV := Lib.hid (validRune_iff h0 h1)
      have HC := Lib.hid (Tryd.utf8_ValidRune x w)
      go_enter Tryd.func62, Tryd.ntmps62
      go_wp2_with fail
      refine HC.out.mono ?_
      rintro e w' ⟨rfl, rfl⟩
      rw [HV.out]
      go_wp2
      go_ret
      exact ⟨rfl, rfl⟩
    · have HV : RowKit.Hid (false = decide (chOk x)) := (decide_eq_false (fun h => h1 h.2.1)).symm
      go_enter Tryd.func62, Tryd.ntmps62
      go_wp2
      go_ret
      exact ⟨by rw [← HV.out]; rfl, rfl⟩
  · have HV : RowKit.Hid (false = decide (chOk x)) := (decide_eq_false (fun h => h0 h.1)).symm
    go_enter Tryd.func62, Tryd.ntmps62
    go_wp2
    go_ret
    exact ⟨by rw [← HV.out]; rfl, rfl⟩
theorem badCh_pays (w : World) : PredAt Tryd.prog 61 #[] (Value.int .i64) (fun x => decide (¬ chOk x)) w := fun W x _ => by
  show Calls Tryd.prog 61 #[.int .i64 x] W _
  have HV : RowKit.Hid ((!decide (chOk x)) = decide (¬ chOk x)) := by show _ = _; simp
  go_enter Tryd.func61, Tryd.ntmps61
  go_wp2_with fail
  refine (character02_any x W).mono ?_
  rintro e w' ⟨rfl, rfl⟩
  go_wp2
  go_ret
  exact ⟨by rw [← HV.out]; rfl, 0, rfl⟩
theorem neg_pays (w : World) : PredAt Tryd.prog 67 #[] (Value.int .i64) (fun x => decide (x < 0)) w := fun W x _ => by
  show Calls Tryd.prog 67 #[.int .i64 x] W _
  go_enter Tryd.func67, Tryd.ntmps67
  go_wp2
  go_ret
  exact ⟨rfl, 0, rfl⟩
theorem big_pays (w : World) : PredAt Tryd.prog 68 #[] (Value.int .i64) (fun x => decide (10000 < x)) w := fun W x _ => by
  show Calls Tryd.prog 68 #[.int .i64 x] W _
  go_enter Tryd.func68, Tryd.ntmps68
  go_wp2
  go_ret
  exact ⟨rfl, 0, rfl⟩
/-- Whether one of a slice's numbers is such. -/
theorem cf64_any (g : Nat) (p : Int → Bool) (A : Option Addr) (n c : Nat) (xs : List Int) (D : Nat → Prop) (w : World) (hp : PredAt Tryd.prog g #[] (Value.int .i64) p w) (eg : ∀ args w, (callFunc g args).run Tryd.prog w = .ok (.enter g args) w) (h : Rd w D 1 A n c (intRows .i64 xs)) :
    Calls Tryd.prog 60 #[.slice A n c, .func (.func g) #[] #[]] w fun e w' => e = .returned (.bool (xs.any p)) ∧ Below w.heap.size w w' := by
  have hl : xs.length = n := by have := h.len; simpa [intRows] using this
  have hn : n ≤ 9223372036854775807 := by have h1 := h.le; have h2 := h.max; unfold maxLen at h2; omega
  rcases Nat.eq_zero_or_pos n with h0 | h0
  · subst h0
    have hx : xs = [] := List.eq_nil_of_length_eq_zero hl
    subst hx
    refine (AnyE.slices_ContainsFunc_empty Tryd.cf64 A c _ w).mono ?_
    rintro e w' ⟨rfl, rfl⟩
    exact ⟨rfl, Below.refl _ _⟩
  · obtain ⟨_, hx⟩ := h.one
    obtain ⟨b, off, rfl, -, -, hc⟩ := hx h0
    refine (AnyE.slices_ContainsFunc Tryd.cf64 (Value.int .i64) p g #[] eg b off n c xs w hp (by omega) hn (fun j hj => ?_)).mono ?_
    · rw [hc j xs[j] (List.getElem?_eq_getElem hj), getElem!_pos xs j hj]
    · rintro e w' ⟨rfl, q, rfl⟩
      exact ⟨by rw [List.take_of_length_le (by omega)], below_drewN (Below.refl _ _) _⟩
theorem cfi_any (g : Nat) (p : Int → Bool) (A : Option Addr) (n c : Nat) (xs : List Int) (D : Nat → Prop) (w : World) (hp : PredAt Tryd.prog g #[] (Value.int .i64) p w) (eg : ∀ args w, (callFunc g args).run Tryd.prog w = .ok (.enter g args) w) (h : Rd w D 1 A n c (intRows .i64 xs)) :
    Calls Tryd.prog 66 #[.slice A n c, .func (.func g) #[] #[]] w fun e w' => e = .returned (.bool (xs.any p)) ∧ Below w.heap.size w w' := by
  have hl : xs.length = n := by have := h.len; simpa [intRows] using this
  have hn : n ≤ 9223372036854775807 := by have h1 := h.le; have h2 := h.max; unfold maxLen at h2; omega
  rcases Nat.eq_zero_or_pos n with h0 | h0
  · subst h0
    have hx : xs = [] := List.eq_nil_of_length_eq_zero hl
    subst hx
    refine (AnyE.slices_ContainsFunc_empty Tryd.cfi A c _ w).mono ?_
    rintro e w' ⟨rfl, rfl⟩
    exact ⟨rfl, Below.refl _ _⟩
  · obtain ⟨_, hx⟩ := h.one
    obtain ⟨b, off, rfl, -, -, hc⟩ := hx h0
    refine (AnyE.slices_ContainsFunc Tryd.cfi (Value.int .i64) p g #[] eg b off n c xs w hp (by omega) hn (fun j hj => ?_)).mono ?_
    · rw [hc j xs[j] (List.getElem?_eq_getElem hj), getElem!_pos xs j hj]
    · rintro e w' ⟨rfl, q, rfl⟩
      exact ⟨by rw [List.take_of_length_le (by omega)], below_drewN (Below.refl _ _) _⟩
/-! ### Products -/
theorem prodL_snoc (s : List Int) (x : Int) : prodL (s ++ [x]) = prodL s * x := by simp [prodL]
theorem prodL_take {s : List Int} {k : Nat} {x : Int} (h : s[k]? = some x) : prodL (s.take (k + 1)) = prodL (s.take k) * x := by
  rw [List.take_add_one, h]; exact prodL_snoc _ _
/-- Lengths up to 10000, of at most four of them: no product is too great. -/
theorem prodL_bd : ∀ (k : Nat) (s : List Int), s.length = k → (∀ x ∈ s, 0 ≤ x ∧ x ≤ 10000) → 0 ≤ prodL s ∧ prodL s ≤ (10000 : Int) ^ k
  | 0, s, hl, _ => by
    have : s = [] := List.eq_nil_of_length_eq_zero hl
    subst this
    exact ⟨by decide, by decide⟩
  | k + 1, s, hl, h => by
    have hs : s = s.take k ++ [s[k]'(by omega)] := by
      have := List.take_succ_eq_append_getElem (l := s) (i := k) (by omega)
      rw [← this, List.take_of_length_le (by omega)]
    have ih := prodL_bd k (s.take k) (by simp; omega) (fun x hx => h x (List.mem_of_mem_take hx))
    have hx := h (s[k]'(by omega)) (List.getElem_mem _)
    rw [hs, prodL_snoc]
    generalize prodL (s.take k) = p at ih
    generalize s[k]'(by omega) = x at hx
    refine ⟨Int.mul_nonneg ih.1 hx.1, ?_⟩
    rw [Int.pow_succ]
    exact Int.mul_le_mul ih.2 hx.2 hx.1 (Int.le_trans ih.1 ih.2)
theorem pow4 {k : Nat} (h : k ≤ 4) : (10000 : Int) ^ k ≤ 10000000000000000 := by
  match k, h with
  | 0, _ => decide
  | 1, _ => decide
  | 2, _ => decide
  | 3, _ => decide
  | 4, _ => decide
theorem prodL_le {s : List Int} (hl : s.length ≤ 4) (h : ∀ x ∈ s, 0 ≤ x ∧ x ≤ 10000) : 0 ≤ prodL s ∧ prodL s ≤ 10000000000000000 :=
  ⟨(prodL_bd s.length s rfl h).1, Int.le_trans (prodL_bd s.length s rfl h).2 (pow4 hl)⟩
theorem product03_any (A : Option Addr) (n c : Nat) (s : List Int) (D : Nat → Prop) (w : World) (h : Rd w D 1 A n c (intRows .i64 s)) (hl : s.length ≤ 4) (hs : ∀ x ∈ s, 0 ≤ x ∧ x ≤ 10000) :
    Calls Tryd.prog 69 #[.slice A n c] w fun e w' => e = .returned (.int .i64 (prodL s)) ∧ w = w' := by
  have hlen : s.length = n := by have := h.len; simpa [intRows] using this
  obtain ⟨_, hx⟩ := h.one
  have HX := Lib.hid hx
  have HL := Lib.hid hlen
  have HS := Lib.hid hs
  have hn : n ≤ 4 := by omega
  clear h hx hlen hs hl
  go_enter Tryd.func69, Tryd.ntmps69
  go_wp2
  go_loop [3, 8] (fun z i => ∃ k : Nat, k ≤ n ∧ i = .int .i64 (k : Int) ∧ z = .int .i64 (prodL (s.take k))) (fun _ i => n - (RowKit.intOf i).toNat)
  case atStart => exact ⟨0, Nat.zero_le _, rfl, rfl⟩
  case round =>
    obtain ⟨k, hk, rfl, rfl⟩ := hrel
    by_cases hlt : k < n
    · have q1 : (k : Int) < (n : Int) := by omega
      obtain ⟨b, off, hA, -, -, hc⟩ := HX.out (by omega)
      obtain ⟨x, hxk⟩ : ∃ x, s[k]? = some x := ⟨_, List.getElem?_eq_getElem (by rw [HL.out]; exact hlt)⟩
      have cx := hc k x hxk
      have HM := Lib.hid (prodL_take hxk)
      have hb := prodL_le (s := s.take (k + 1)) (by rw [List.length_take]; omega) (fun y hy => HS.out y (List.mem_of_mem_take hy))
      rw [HM.out] at hb
      obtain ⟨hb0, hb1⟩ := hb
      have hb2 : -9223372036854775808 ≤ prodL (s.take k) * x := by omega
      have hb3 : prodL (s.take k) * x ≤ 9223372036854775807 := by omega
      generalize prodL (s.take k) = p at *
      subst hA
      clear hc hxk
      go_wp2
      go_round
      case rel => exact ⟨k + 1, by omega, by go_num, by rw [HM.out]⟩
      case measure => simp [RowKit.intOf]; omega
    · have hkn : k = n := by omega
      subst hkn
      have HT : RowKit.Hid (s.take k = s) := List.take_of_length_le (by rw [HL.out]; exact Nat.le_refl _)
      rw [HT.out]
      go_wp2
      go_ret
      exact ⟨rfl, rfl⟩
theorem any_false {p : Int → Bool} {xs : List Int} (h : ∀ x ∈ xs, p x = false) : xs.any p = false := by
  rw [List.any_eq_false]; intro x hx; rw [h x hx]; simp
/-- Of lengths that are right, and not too many elements: how many. -/
theorem size03_any (A : Option Addr) (n c : Nat) (s : List Int) (D : Nat → Prop) (w : World) (h : Rd w D 1 A n c (intRows .i64 s)) (hl : s.length ≤ 4) (hs : ∀ x ∈ s, 0 ≤ x ∧ x ≤ 10000) (hp : prodL s ≤ 10000) :
    Calls Tryd.prog 38 #[.slice A n c] w fun e w' => e = .returned (.tuple #[.int .i64 (prodL s), .int .i64 0]) ∧ Below w.heap.size w w' := by
  have hlen : s.length = n := by have := h.len; simpa [intRows] using this
  have hn : n ≤ 4 := by omega
  have hq : ¬ (4 : Int) < (n : Int) := by omega
  have eg1 : ∀ args w, (callFunc 67 args).run Tryd.prog w = .ok (.enter 67 args) w := enters_of Tryd.func67 (by kernel_rfl) rfl
  have eg2 : ∀ args w, (callFunc 68 args).run Tryd.prog w = .ok (.enter 68 args) w := enters_of Tryd.func68 (by kernel_rfl) rfl
  have C1 := Lib.hid (cfi_any 67 _ A n c s D w (neg_pays w) eg1 h)
  have HA1 : RowKit.Hid ((s.any fun x => decide (x < 0)) = false) := any_false fun x hx => decide_eq_false (by have := (hs x hx).1; omega)
  have HA2 : RowKit.Hid ((s.any fun x => decide (10000 < x)) = false) := any_false fun x hx => decide_eq_false (by have := (hs x hx).2; omega)
  have C2 := Lib.hid (fun w2 (hb : Below w.heap.size w w2) => cfi_any 68 _ A n c s D w2 (big_pays w2) eg2 (h.below hb))
  have C3 := Lib.hid (fun w2 (hb : Below w.heap.size w w2) => product03_any A n c s D w2 (h.below hb) hl hs)
  have hp' : ¬ 10000 < prodL s := by omega
  clear h hs hl hlen eg1 eg2 hp
  go_enter Tryd.func38, Tryd.ntmps38
  go_wp2_with fail
  refine C1.out.mono ?_
  rintro e w1 ⟨rfl, hb1⟩
  rw [HA1.out]
  go_wp2_with fail
  refine (C2.out w1 hb1).mono ?_
  rintro e w2 ⟨rfl, hb2⟩
  rw [HA2.out]
  have B2 := Lib.hid (hb1.trans (hb2.mono hb1.size))
  clear hb1 hb2 C1 C2
  go_wp2_with fail
  refine (C3.out w2 B2.out).mono ?_
  rintro e w3 ⟨rfl, rfl⟩
  go_wp2_with fail
  refine (C3.out w2 B2.out).mono ?_
  rintro e w3 ⟨rfl, rfl⟩
  go_wp2
  go_ret2
  exact ⟨rfl, B2.out⟩
end Go.Proofs.YtjkofndnhmfnoaaDoor
