/-
  The document's Right (anamnesisref02): contract. Of any array that can be read.
-/
import Derived.Test.YtjkofndnhmfnoaaDoorL3
namespace Go.Proofs.YtjkofndnhmfnoaaDoor
open Go Go.RowKit Go.Shelf

set_option maxRecDepth 100000 in
set_option maxHeartbeats 1600000 in
theorem rRight02_any (char : Bool) (A : Option Addr) (n c : Nat) (B : Option Addr) (m d : Nat) (s data : List Int) (D D' : Nat → Prop) (w : World) (hs : Rd w D 1 A n c (intRows .i64 s)) (hd : Rd w D' 1 B m d (intRows .i64 data)) (hi : ∀ x ∈ s, i64 x) (res : Bool) (hres : res = decide (rightL char s data)) :
    Calls Tryd.prog 43 #[.agg #[.bool char, .slice A n c, .slice B m d]] w fun e w' => e = .returned (.bool res) ∧ Below w.heap.size w w' := by
  have hlen : s.length = n := by have := hs.len; simpa [intRows] using this
  have hmen : data.length = m := by have := hd.len; simpa [intRows] using this
  have hm : m ≤ 9223372036854775807 := by have h1 := hd.le; have h2 := hd.max; unfold maxLen at h2; omega
  have hn : n ≤ 9223372036854775807 := by have h1 := hs.le; have h2 := hs.max; unfold maxLen at h2; omega
  have HR := Lib.hid hres
  have HL := Lib.hid hlen
  have HM := Lib.hid hmen
  have HB := Lib.hid (fun o => (Below.refl w.heap.size w).alloc (Nat.le_refl _) o)
  by_cases h4 : 4 < n
  · have HV : RowKit.Hid (false = res) := by show _ = _; rw [HR.out, decide_eq_false]; exact fun h => by have := h.1; omega
    have q : (4 : Int) < (n : Int) := by omega
    clear hs hd hi hres hlen hmen
    go_enter Tryd.func43, Tryd.ntmps43
    go_wp2
    go_ret
    exact ⟨by rw [← HV.out]; rfl, HB.out _⟩
  have q : ¬ (4 : Int) < (n : Int) := by omega
  obtain ⟨_, hx⟩ := hs.one
  have HX := Lib.hid hx
  have HI := Lib.hid hi
  obtain ⟨_, hy⟩ := hd.one
  have HY := Lib.hid hy
  clear hs hd hi hres hlen hmen hx hy
  go_enter Tryd.func43, Tryd.ntmps43
  go_wp2
  have HBo := Lib.hid (HB.out (.cells #[.bool char, .slice A n c, .slice B m d] 27))
  go_loop [3, 4] (fun z i => ∃ k : Nat, k ≤ n ∧ i = .int .i64 (k : Int) ∧ z = .int .i64 (prodL (s.take k)) ∧ RowKit.Hid (∀ x ∈ s.take k, 0 ≤ x ∧ x ≤ 10000)) (fun _ i => n - (RowKit.intOf i).toNat)
  case atStart => exact ⟨0, Nat.zero_le _, rfl, rfl, fun x hx => by simp at hx⟩
  case round =>
    obtain ⟨k, hk, rfl, rfl, hall⟩ := hrel
    by_cases hlt : k < n
    · have q1 : (k : Int) < (n : Int) := by omega
      obtain ⟨b, off, hA, -, hbl, hc⟩ := HX.out (by omega)
      obtain ⟨x, hxk⟩ : ∃ x, s[k]? = some x := ⟨_, List.getElem?_eq_getElem (by rw [HL.out]; exact hlt)⟩
      have cx := below_cell HBo.out (hc k x hxk)
      subst hA
      by_cases hx0 : x < 0
      · have HV : RowKit.Hid (false = res) := by show _ = _; rw [HR.out, decide_eq_false]; exact fun h => by have := (h.2.1 x (List.mem_of_getElem? hxk)).1; omega
        clear hc hxk
        go_wp2
        go_ret
        exact ⟨by rw [← HV.out]; rfl, HBo.out⟩
      by_cases hx1 : 10000 < x
      · have HV : RowKit.Hid (false = res) := by show _ = _; rw [HR.out, decide_eq_false]; exact fun h => by have := (h.2.1 x (List.mem_of_getElem? hxk)).2; omega
        clear hc hxk
        go_wp2
        go_ret
        exact ⟨by rw [← HV.out]; rfl, HBo.out⟩
      have HP := Lib.hid (prodL_take hxk)
      have HA := Lib.hid (all_snoc hall.out hxk ⟨by omega, by omega⟩)
      have hb := prodL_le (s := s.take (k + 1)) (by rw [List.length_take]; omega) HA.out
      rw [HP.out] at hb
      obtain ⟨hb0, hb1⟩ := hb
      have hb2 : -9223372036854775808 ≤ prodL (s.take k) * x := by omega
      have hb3 : prodL (s.take k) * x ≤ 9223372036854775807 := by omega
      generalize prodL (s.take k) = p at *
      clear hc hxk
      go_wp2
      go_round
      case rel => exact ⟨k + 1, by omega, by go_num, by rw [HP.out], HA.out⟩
      case measure => simp [RowKit.intOf]; omega
    · have hkn : k = n := by omega
      subst hkn
      have HT : RowKit.Hid (s.take k = s) := List.take_of_length_le (by rw [HL.out]; exact Nat.le_refl _)
      rw [HT.out] at hall ⊢
      obtain ⟨p, hp⟩ : ∃ p, p = prodL s := ⟨_, rfl⟩
      have HP := Lib.hid hp
      have hb := prodL_le (s := s) (by rw [HL.out]; omega) hall.out
      rw [← hp] at hb ⊢
      obtain ⟨hb0, hb1⟩ := hb
      clear hp HT
      have HLen : RowKit.Hid (s.length ≤ 4) := by show _ ≤ _; rw [HL.out]; omega
      go_wp2
      go_loop [5] (fun i => ∃ j : Nat, j ≤ m ∧ i = .int .i64 (j : Int) ∧ RowKit.Hid (char = true → ∀ x ∈ data.take j, chOk x)) (fun i => m - (RowKit.intOf i).toNat)
      case atStart => exact ⟨0, Nat.zero_le _, rfl, fun _ x hx => by simp at hx⟩
      case round =>
        obtain ⟨j, hj, rfl, hch⟩ := hrel
        by_cases hlt2 : j < m
        · have q2 : (j : Int) < (m : Int) := by omega
          cases char with
          | true =>
            obtain ⟨b, off, hB, -, hbl, hc⟩ := HY.out (by omega)
            obtain ⟨x, hxk⟩ : ∃ x, data[j]? = some x := ⟨_, List.getElem?_eq_getElem (by rw [HM.out]; exact hlt2)⟩
            have cx := below_cell HBo.out (hc j x hxk)
            have HXM := Lib.hid (List.mem_of_getElem? hxk)
            have HXK := Lib.hid hxk
            subst hB
            clear hc hxk
            by_cases c0 : x < 0
            · have HV : RowKit.Hid (false = res) := by show _ = _; rw [HR.out, decide_eq_false]; exact fun h => by have := (h.2.2.2.2 rfl x HXM.out).1; omega
              go_wp2
              go_ret
              exact ⟨by rw [← HV.out]; rfl, HBo.out⟩
            by_cases c1 : 1114111 < x
            · have HV : RowKit.Hid (false = res) := by show _ = _; rw [HR.out, decide_eq_false]; exact fun h => by have := (h.2.2.2.2 rfl x HXM.out).2.1; omega
              go_wp2
              go_ret
              exact ⟨by rw [← HV.out]; rfl, HBo.out⟩
            by_cases c2 : 55296 ≤ x
            · by_cases c3 : x ≤ 57343
              · have HV : RowKit.Hid (false = res) := by show _ = _; rw [HR.out, decide_eq_false]; exact fun h => (h.2.2.2.2 rfl x HXM.out).2.2 ⟨c2, c3⟩
                go_wp2
                go_ret
                exact ⟨by rw [← HV.out]; rfl, HBo.out⟩
              · have HN : RowKit.Hid (true = true → ∀ y ∈ data.take (j + 1), chOk y) := fun _ => all_snoc (hch.out rfl) HXK.out ⟨by omega, by omega, by omega⟩
                go_wp2
                go_round
                case rel => exact ⟨j + 1, by omega, by go_num, fun _ => HN.out rfl⟩
                case measure => simp [RowKit.intOf]; omega
            · have HN : RowKit.Hid (true = true → ∀ y ∈ data.take (j + 1), chOk y) := fun _ => all_snoc (hch.out rfl) HXK.out ⟨by omega, by omega, by omega⟩
              go_wp2
              go_round
              case rel => exact ⟨j + 1, by omega, by go_num, fun _ => HN.out rfl⟩
              case measure => simp [RowKit.intOf]; omega
          | false =>
            by_cases h2 : p = (m : Int)
            · have e2 : (p == (m : Int)) = true := by simp [h2]
              by_cases h1 : p ≤ 10000
              · have HV : RowKit.Hid (true = res) := by
                  show _ = _
                  rw [HR.out, decide_eq_true]
                  exact ⟨HLen.out, hall.out, by rw [HM.out, ← h2, HP.out], by rw [HM.out]; omega, fun h => by cases h⟩
                clear h2
                go_wp2
                go_ret
                exact ⟨by rw [← HV.out]; rfl, HBo.out⟩
              · have HV : RowKit.Hid (false = res) := by show _ = _; rw [HR.out, decide_eq_false]; exact fun h => by have h2 := h.2.2.1; have h3 := h.2.2.2.1; rw [← HP.out] at h2; omega
                clear h2
                go_wp2
                go_ret
                exact ⟨by rw [← HV.out]; rfl, HBo.out⟩
            · have e2 : (p == (m : Int)) = false := by simp [h2]
              have HV : RowKit.Hid (false = res) := by show _ = _; rw [HR.out, decide_eq_false]; exact fun h => h2 (by rw [HP.out, h.2.2.1, HM.out])
              clear h2
              go_wp2
              go_ret
              exact ⟨by rw [← HV.out]; rfl, HBo.out⟩
        · have hjm : j = m := by omega
          subst hjm
          have HT2 : RowKit.Hid (data.take j = data) := List.take_of_length_le (by rw [HM.out]; exact Nat.le_refl _)
          rw [HT2.out] at hch
          by_cases h2 : p = (j : Int)
          · have e2 : (p == (j : Int)) = true := by simp [h2]
            by_cases h1 : p ≤ 10000
            · have HV : RowKit.Hid (true = res) := by
                show _ = _
                rw [HR.out, decide_eq_true]
                exact ⟨HLen.out, hall.out, by rw [HM.out, ← h2, HP.out], by rw [HM.out]; omega, hch.out⟩
              clear h2
              go_wp2
              go_ret
              exact ⟨by rw [← HV.out]; rfl, HBo.out⟩
            · have HV : RowKit.Hid (false = res) := by show _ = _; rw [HR.out, decide_eq_false]; exact fun h => by have h2 := h.2.2.1; have h3 := h.2.2.2.1; rw [← HP.out] at h2; omega
              clear h2
              go_wp2
              go_ret
              exact ⟨by rw [← HV.out]; rfl, HBo.out⟩
          · have e2 : (p == (j : Int)) = false := by simp [h2]
            have HV : RowKit.Hid (false = res) := by show _ = _; rw [HR.out, decide_eq_false]; exact fun h => h2 (by rw [HP.out, h.2.2.1, HM.out])
            clear h2
            go_wp2
            go_ret
            exact ⟨by rw [← HV.out]; rfl, HBo.out⟩
end Go.Proofs.YtjkofndnhmfnoaaDoor
