/-
  The document's layer 05 (anamnesisref05): Number, Signs, text: contracts. Of any that can be read.
-/
import Derived.Test.YtjkofndnhmfnoaaDoorL7
namespace Go.Proofs.YtjkofndnhmfnoaaDoor
open Go Go.RowKit

theorem dig_slice (d : Nat) (h : d < 10) : (ByteArray.mk #[48, 49, 50, 51, 52, 53, 54, 55, 56, 57]).extract d (d + 1) = bs [UInt8.ofNat (48 + d)] := by
  match d, h with
  | 0, _ => rfl
  | 1, _ => rfl
  | 2, _ => rfl
  | 3, _ => rfl
  | 4, _ => rfl
  | 5, _ => rfl
  | 6, _ => rfl
  | 7, _ => rfl
  | 8, _ => rfl
  | 9, _ => rfl
/-- The digits so far: u is left, t has been laid. -/
def DigRel (U j u : Nat) (t : List UInt8) : Prop := (j = 0 ∧ u = U ∧ t = []) ∨ (0 < j ∧ ((u = 0 ∧ t = Lib.decDigits U) ∨ (u ≠ 0 ∧ Lib.decDigits U = Lib.decDigits u ++ t)))
theorem DigRel.step {U j u : Nat} {t : List UInt8} (h : DigRel U j u t) (hg : j = 0 ∨ u ≠ 0) : DigRel U (j + 1) (u / 10) (UInt8.ofNat (48 + u % 10) :: t) := by
  have key : Lib.decDigits U = Lib.decDigits u ++ t := by
    rcases h with ⟨_, rfl, rfl⟩ | ⟨h0, ⟨h1, _⟩ | ⟨_, h2⟩⟩
    · simp
    · omega
    · exact h2
  refine .inr ⟨by omega, ?_⟩
  have hd : Lib.decDigits u = if h : u < 10 then [UInt8.ofNat (48 + u)] else Lib.decDigits (u / 10) ++ [UInt8.ofNat (48 + u % 10)] := by rw [Lib.decDigits]
  rw [hd] at key
  by_cases h10 : u < 10
  · rw [dif_pos h10] at key
    refine .inl ⟨by omega, ?_⟩
    rw [key, Nat.mod_eq_of_lt h10]
    rfl
  · rw [dif_neg h10, List.append_assoc] at key
    exact .inr ⟨by omega, key⟩
theorem DigRel.len {U j u : Nat} {t : List UInt8} (h : DigRel U j u t) (hU : U < 10000000000000000000) : t.length ≤ 19 := by
  have hl := dec_len U hU
  rcases h with ⟨_, _, rfl⟩ | ⟨_, ⟨_, rfl⟩ | ⟨_, h2⟩⟩
  · simp
  · exact hl
  · rw [h2, List.length_append] at hl; omega
theorem DigRel.done {U j u : Nat} {t : List UInt8} (h : DigRel U j u t) (hj : ¬ j = 0) (hu : u = 0) : t = Lib.decDigits U := by
  rcases h with ⟨h0, _⟩ | ⟨_, ⟨_, h1⟩ | ⟨h1, _⟩⟩
  · omega
  · exact h1
  · exact absurd hu h1
theorem dig_meas {j q u : Nat} {X Y : Int} (hX : X.natAbs = q) (hY : Y.natAbs = u) (hq : q = u / 10) (hg : j = 0 ∨ u ≠ 0) : 2 * X.natAbs + (if ((j : Int) + 1) = 0 then 1 else 0) < 2 * Y.natAbs + (if (j : Int) = 0 then 1 else 0) := by
  rw [hX, hY, if_neg (by omega)]
  by_cases h : (j : Int) = 0
  · rw [if_pos h]; omega
  · rw [if_neg h]; omega
set_option maxRecDepth 100000 in
set_option maxHeartbeats 3200000 in
theorem rNumber05_pos (U : Nat) (w : World) (hU : U ≤ 9223372036854775807) :
    Calls Tryd.prog 19 #[.int .i64 ((U : Int))] w fun e w' => e = .returned (.string (bs (numL ((U : Int))))) ∧ w = w' := by
  have HN : RowKit.Hid (numL (U : Int) = Lib.decDigits U) := by show _ = _; unfold numL; rw [if_neg (by omega)]; rfl
  have q0 : ¬ (U : Int) < 0 := by omega
  go_enter Tryd.func19, Tryd.ntmps19
  go_wp2
  go_loop [0, 3, 5] (fun n s i => ∃ (j u : Nat) (t : List UInt8), u ≤ 9223372036854775807 ∧ j ≤ 19 ∧ i = .int .i64 (j : Int) ∧ n = .int .i64 ((u : Int)) ∧ s = .string (bs t) ∧ RowKit.Hid (DigRel U j u t ∧ t.length = j)) (fun n _ i => 2 * (RowKit.intOf n).natAbs + (if RowKit.intOf i = 0 then 1 else 0))
  case atStart => exact ⟨0, U, [], hU, by omega, rfl, rfl, rfl, .inl ⟨rfl, rfl, rfl⟩, rfl⟩
  case round =>
    obtain ⟨j, u, t, hu, hj, rfl, rfl, rfl, hdr⟩ := hrel
    by_cases hgo : j = 0 ∨ u ≠ 0
    · have HD := Lib.hid (hdr.out.1.step hgo)
      have hl2 : j + 1 ≤ 19 := by have h1 := HD.out.len (by omega); have h2 := hdr.out.2; simp only [List.length_cons] at h1; omega
      have hgj : RowKit.Hid (j = 0 ∨ u ≠ 0) := hgo
      obtain ⟨d, hd⟩ : ∃ d, d = u % 10 := ⟨_, rfl⟩
      obtain ⟨q, hq⟩ : ∃ q, q = u / 10 := ⟨_, rfl⟩
      have hd9 : d ≤ 9 := by omega
      have HL : RowKit.Hid (t.length = j) := hdr.out.2
      have HQ : RowKit.Hid (q = u / 10) := hq
      rw [← hd, ← hq] at HD
      have hqu : q ≤ 922337203685477580 := by omega
      have em : (u : Int) % 10 = (d : Int) := by omega
      have ed : (u : Int) / 10 = (q : Int) := by omega
      have hx := dig_slice d (by omega)
      obtain ⟨x, hx0⟩ : ∃ x, x = UInt8.ofNat (48 + d) := ⟨_, rfl⟩
      rw [← hx0] at hx HD
      have hps : (bs [x]).size = 1 := rfl
      clear hx0
      have hbt : (bs t).size = j := by rw [bs_size]; exact HL.out
      clear hd hq hdr hgo
      by_cases hj0 : j = 0
      · have e0 : ((j : Int) == 0) = true := by simp; omega
        clear hj0
        go_wp2
        go_round
        case rel => exact ⟨j + 1, q, x :: t, by omega, hl2, by go_num, rfl, by rw [bs_app]; rfl, HD.out, by simp [HL.out]⟩
        case measure => exact dig_meas (by simp [RowKit.intOf]) (by simp [RowKit.intOf]) HQ.out hgj.out
      · have e0 : ((j : Int) == 0) = false := by simp; omega
        have e1 : ((u : Int) != 0) = true := by have := hgj.out; simp; omega
        clear hj0
        go_wp2
        go_round
        case rel => exact ⟨j + 1, q, x :: t, by omega, hl2, by go_num, rfl, by rw [bs_app]; rfl, HD.out, by simp [HL.out]⟩
        case measure => exact dig_meas (by simp [RowKit.intOf]) (by simp [RowKit.intOf]) HQ.out hgj.out
    · have hj0 : ¬ j = 0 := fun h => hgo (.inl h)
      have hu0 : u = 0 := Decidable.byContradiction fun h => hgo (.inr h)
      have HT := Lib.hid (hdr.out.1.done hj0 hu0)
      have e0 : ((j : Int) == 0) = false := by simp; omega
      have e1 : ((u : Int) != 0) = false := by simp; omega
      clear hgo hj0 hu0
      go_wp2
      go_ret
      exact ⟨by rw [HN.out, ← HT.out]; rfl, rfl⟩
set_option maxRecDepth 100000 in
set_option maxHeartbeats 3200000 in
theorem rNumber05_neg (U : Nat) (w : World) (hU : U ≤ 9223372036854775808) (h0 : 0 < U) :
    Calls Tryd.prog 19 #[.int .i64 (-(U : Int))] w fun e w' => e = .returned (.string (bs (numL (-(U : Int))))) ∧ w = w' := by
  have HN : RowKit.Hid (bs (numL (-(U : Int))) = bs [194, 175] ++ bs (Lib.decDigits U)) := by show _ = _; unfold numL; rw [if_pos (by omega), bs_app]; simp
  have q0 : -(U : Int) < 0 := by omega
  go_enter Tryd.func19, Tryd.ntmps19
  go_wp2
  go_loop [0, 3, 5] (fun n s i => ∃ (j u : Nat) (t : List UInt8), u ≤ 9223372036854775808 ∧ j ≤ 19 ∧ i = .int .i64 (j : Int) ∧ n = .int .i64 (-(u : Int)) ∧ s = .string (bs t) ∧ RowKit.Hid (DigRel U j u t ∧ t.length = j)) (fun n _ i => 2 * (RowKit.intOf n).natAbs + (if RowKit.intOf i = 0 then 1 else 0))
  case atStart => exact ⟨0, U, [], hU, by omega, rfl, rfl, rfl, .inl ⟨rfl, rfl, rfl⟩, rfl⟩
  case round =>
    obtain ⟨j, u, t, hu, hj, rfl, rfl, rfl, hdr⟩ := hrel
    by_cases hgo : j = 0 ∨ u ≠ 0
    · have HD := Lib.hid (hdr.out.1.step hgo)
      have hl2 : j + 1 ≤ 19 := by have h1 := HD.out.len (by omega); have h2 := hdr.out.2; simp only [List.length_cons] at h1; omega
      have hgj : RowKit.Hid (j = 0 ∨ u ≠ 0) := hgo
      obtain ⟨d, hd⟩ : ∃ d, d = u % 10 := ⟨_, rfl⟩
      obtain ⟨q, hq⟩ : ∃ q, q = u / 10 := ⟨_, rfl⟩
      have hd9 : d ≤ 9 := by omega
      have HL : RowKit.Hid (t.length = j) := hdr.out.2
      have HQ : RowKit.Hid (q = u / 10) := hq
      rw [← hd, ← hq] at HD
      have hqu : q ≤ 922337203685477580 := by omega
      have em : Int.tmod (-(u : Int)) 10 = -(d : Int) := by rw [Int.neg_tmod, hd]; rfl
      have ed : Int.tdiv (-(u : Int)) 10 = -(q : Int) := by rw [Int.neg_tdiv, hq]; rfl
      have hx := dig_slice d (by omega)
      obtain ⟨x, hx0⟩ : ∃ x, x = UInt8.ofNat (48 + d) := ⟨_, rfl⟩
      rw [← hx0] at hx HD
      have hps : (bs [x]).size = 1 := rfl
      clear hx0
      have hbt : (bs t).size = j := by rw [bs_size]; exact HL.out
      clear hd hq hdr hgo
      have hdn : Int.tmod (-(u : Int)) 10 < 0 ∨ d = 0 := by rw [em]; omega
      have hd0i : -(d : Int) ≤ 0 := by omega
      clear hdn
      rcases Nat.eq_zero_or_pos d with hd0 | hd0
      · subst hd0
        have em' : Int.tmod (-(u : Int)) 10 = 0 := em
        clear em
        by_cases hj0 : j = 0
        · have e0 : ((j : Int) == 0) = true := by simp; omega
          clear hj0
          go_wp2
          go_round
          case rel => exact ⟨j + 1, q, x :: t, by omega, hl2, by go_num, rfl, by rw [bs_app]; rfl, HD.out, by simp [HL.out]⟩
          case measure => exact dig_meas (by simp [RowKit.intOf]) (by simp [RowKit.intOf]) HQ.out hgj.out
        · have e0 : ((j : Int) == 0) = false := by simp; omega
          have e1 : (-(u : Int) != 0) = true := by have := hgj.out; simp; omega
          clear hj0
          go_wp2
          go_round
          case rel => exact ⟨j + 1, q, x :: t, by omega, hl2, by go_num, rfl, by rw [bs_app]; rfl, HD.out, by simp [HL.out]⟩
          case measure => exact dig_meas (by simp [RowKit.intOf]) (by simp [RowKit.intOf]) HQ.out hgj.out
      · have hdl : -(d : Int) < 0 := by omega
        by_cases hj0 : j = 0
        · have e0 : ((j : Int) == 0) = true := by simp; omega
          clear hj0
          go_wp2
          go_round
          case rel => exact ⟨j + 1, q, x :: t, by omega, hl2, by go_num, rfl, by rw [bs_app]; rfl, HD.out, by simp [HL.out]⟩
          case measure => exact dig_meas (by simp [RowKit.intOf]) (by simp [RowKit.intOf]) HQ.out hgj.out
        · have e0 : ((j : Int) == 0) = false := by simp; omega
          have e1 : (-(u : Int) != 0) = true := by have := hgj.out; simp; omega
          clear hj0
          go_wp2
          go_round
          case rel => exact ⟨j + 1, q, x :: t, by omega, hl2, by go_num, rfl, by rw [bs_app]; rfl, HD.out, by simp [HL.out]⟩
          case measure => exact dig_meas (by simp [RowKit.intOf]) (by simp [RowKit.intOf]) HQ.out hgj.out
    · have hj0 : ¬ j = 0 := fun h => hgo (.inl h)
      have hu0 : u = 0 := Decidable.byContradiction fun h => hgo (.inr h)
      have HT := Lib.hid (hdr.out.1.done hj0 hu0)
      have hts : (bs t).size ≤ 19 := by rw [bs_size, hdr.out.2]; exact hj
      have e0 : ((j : Int) == 0) = false := by simp; omega
      have e1 : (-(u : Int) != 0) = false := by simp; omega
      have hcat : ¬ 9223372036854775807 < 2 + (bs t).size := by omega
      clear hgo hj0 hu0
      go_wp2
      go_ret
      exact ⟨by rw [HN.out, ← HT.out]; rfl, rfl⟩
theorem rNumber05_any (n : Int) (w : World) (hn : i64 n) : Calls Tryd.prog 19 #[.int .i64 n] w fun e w' => e = .returned (.string (bs (numL n))) ∧ w = w' := by
  by_cases h : 0 ≤ n
  · obtain ⟨U, rfl⟩ : ∃ U : Nat, n = (U : Int) := ⟨n.toNat, by omega⟩
    exact rNumber05_pos U w (by have := hn.2; omega)
  · obtain ⟨U, rfl⟩ : ∃ U : Nat, n = -(U : Int) := ⟨(-n).toNat, by omega⟩
    exact rNumber05_neg U w (by have := hn.1; omega) (by omega)
theorem signs_take {l : List UInt8} {k : Nat} {b : UInt8} (h : l[k]? = some b) : signs (l.take (k + 1)) = signs (l.take k) + if lead b then 1 else 0 := by
  rw [List.take_add_one, h, signs_app]
  congr 1
  unfold signs
  by_cases hb : lead b = true <;> simp [hb]
theorem signs_le (l : List UInt8) : signs l ≤ l.length := List.length_filter_le _ _
set_option maxHeartbeats 800000 in
theorem rSigns05_any (l : List UInt8) (w : World) (hl : l.length ≤ 1000000) : Calls Tryd.prog 11 #[.string (bs l)] w fun e w' => e = .returned (.int .i64 (signs l : Int)) ∧ w = w' := by
  have hz : (bs l).size ≤ 1000000 := by rw [bs_size]; exact hl
  have HZ := Lib.hid (bs_size l)
  go_enter Tryd.func11, Tryd.ntmps11
  go_wp2
  go_loop [3, 4] (fun n i => ∃ k : Nat, k ≤ (bs l).size ∧ i = .int .i64 (k : Int) ∧ n = .int .i64 (signs (l.take k) : Int)) (fun _ i => (bs l).size - (RowKit.intOf i).toNat)
  case atStart => exact ⟨0, Nat.zero_le _, rfl, rfl⟩
  case round =>
    obtain ⟨k, hk, rfl, rfl⟩ := hrel
    have hsl := signs_le (l.take k)
    rw [List.length_take] at hsl
    by_cases hlt : k < (bs l).size
    · obtain ⟨b, hb⟩ : ∃ b, l[k]? = some b := ⟨_, List.getElem?_eq_getElem (by rw [← HZ.out]; exact hlt)⟩
      have HS := Lib.hid (signs_take hb)
      obtain ⟨v, hv⟩ : ∃ v, v = b.toNat := ⟨_, rfl⟩
      have hbv : ((bs l)[k]'hlt).toNat = v := by
        rw [bs_get l k hlt (by rw [← HZ.out]; exact hlt), hv]
        congr 1
        exact Option.some.inj ((List.getElem?_eq_getElem _).symm.trans hb)
      have HV := Lib.hid hv
      clear hb hv
      by_cases h1 : v < 128
      · have HLD : RowKit.Hid (lead b = true) := by show _ = _; unfold lead; rw [← HV.out]; simp [h1]
        go_wp2
        go_round
        case rel => exact ⟨k + 1, by omega, by go_num, by rw [HS.out, HLD.out]; rfl⟩
        case measure => simp [RowKit.intOf]; omega
      · by_cases h2 : 191 < v
        · have HLD : RowKit.Hid (lead b = true) := by show _ = _; unfold lead; rw [← HV.out]; simp [h2]
          go_wp2
          go_round
          case rel => exact ⟨k + 1, by omega, by go_num, by rw [HS.out, HLD.out]; rfl⟩
          case measure => simp [RowKit.intOf]; omega
        · have HLD : RowKit.Hid (lead b = false) := by show _ = _; unfold lead; rw [← HV.out]; simp; omega
          go_wp2
          go_round
          case rel => exact ⟨k + 1, by omega, by go_num, by rw [HS.out, HLD.out]; rfl⟩
          case measure => simp [RowKit.intOf]; omega
    · have hkz : k = (bs l).size := by omega
      have HT : RowKit.Hid (l.take k = l) := List.take_of_length_le (by rw [hkz, HZ.out]; exact Nat.le_refl _)
      rw [HT.out]
      clear hkz
      go_wp2
      go_ret
      exact ⟨rfl, rfl⟩
set_option maxHeartbeats 800000 in
theorem rtext05_any (char : Bool) (x0 : Value) (B : Option Addr) (m d k : Nat) (data : List Int) (D : Nat → Prop) (w : World) (x : Int) (_h0 : x0.oneCell' = true) (hd : Rd w D 1 B m d (intRows .i64 data)) (hk : data[k]? = some x) (hi : i64 x) (hch : char = true → chOk x) (hm : m ≤ 1000000) :
    Calls Tryd.prog 74 #[.agg #[.bool char, x0, .slice B m d], .int .i64 (k : Int)] w fun e w' => e = .returned (.string (bs (elL char x))) ∧ Below w.heap.size w w' := by
  have hmen : data.length = m := by have := hd.len; simpa [intRows] using this
  have hlt := (List.getElem?_eq_some_iff.1 hk).1
  obtain ⟨_, hy⟩ := hd.one
  obtain ⟨b, off, hB, -, hbl, hc⟩ := hy (by omega)
  have HB := Lib.hid (fun o => (Below.refl w.heap.size w).alloc (Nat.le_refl _) o)
  have cx := below_cell (HB.out (.cells #[.bool char, x0, .slice B m d] 27)) (hc k x hk)
  have q1 : (k : Int) < (m : Int) := by omega
  subst hB
  have HN := Lib.hid (fun w2 => rNumber05_any x w2 hi)
  cases char with
  | true =>
    obtain ⟨c0, c1, c2⟩ := hch rfl
    have HEL : RowKit.Hid (bs (elL true x) = Utf8.encode x) := by show _ = _; unfold elL; rw [if_pos rfl, bs_data]
    clear hd hk hi hch hmen hlt hy hc c2
    go_enter Tryd.func74, Tryd.ntmps74
    go_wp2
    go_ret
    exact ⟨by rw [HEL.out]; rfl, HB.out _⟩
  | false =>
    clear hd hk hi hch hmen hlt hy hc
    go_enter Tryd.func74, Tryd.ntmps74
    go_wp2_with fail
    refine (HN.out _).mono ?_
    rintro e w2 ⟨rfl, rfl⟩
    go_wp2
    go_ret
    exact ⟨rfl, HB.out _⟩
end Go.Proofs.YtjkofndnhmfnoaaDoor
