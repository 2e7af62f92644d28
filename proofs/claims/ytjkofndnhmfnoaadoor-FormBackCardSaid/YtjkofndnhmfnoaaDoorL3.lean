/-
  value.Right (layer 02), and the document's Right (anamnesisref02): contracts. Of any array that can be read.
-/
import Derived.Test.YtjkofndnhmfnoaaDoorL2
namespace Go.Proofs.YtjkofndnhmfnoaaDoor
open Go Go.RowKit Go.Shelf

theorem all_snoc {P : Int → Prop} {s : List Int} {k : Nat} {x : Int} (h : ∀ y ∈ s.take k, P y) (hk : s[k]? = some x) (hx : P x) : ∀ y ∈ s.take (k + 1), P y := by
  intro y hy
  rw [List.take_add_one, hk] at hy
  rcases List.mem_append.1 hy with hy | hy
  · exact h y hy
  · simp at hy; subst hy; exact hx
theorem any_bad {data : List Int} : (data.any fun x => decide (¬ chOk x)) = !decide (∀ x ∈ data, chOk x) := by
  rw [Bool.eq_iff_iff]
  simp [List.any_eq_true]
set_option maxRecDepth 100000 in
set_option maxHeartbeats 1600000 in
theorem right02_any (char : Bool) (A : Option Addr) (n c : Nat) (B : Option Addr) (m d : Nat) (s data : List Int) (D D' : Nat → Prop) (w : World) (hs : Rd w D 1 A n c (intRows .i64 s)) (hd : Rd w D' 1 B m d (intRows .i64 data)) (hi : ∀ x ∈ s, i64 x) (res : Bool) (hres : res = decide (rightL char s data)) :
    Calls Tryd.prog 34 #[.agg #[.bool char, .slice A n c, .slice B m d]] w fun e w' => e = .returned (.bool res) ∧ Below w.heap.size w w' := by
  have hlen : s.length = n := by have := hs.len; simpa [intRows] using this
  have hmen : data.length = m := by have := hd.len; simpa [intRows] using this
  have hm : m ≤ 9223372036854775807 := by have h1 := hd.le; have h2 := hd.max; unfold maxLen at h2; omega
  have hn : n ≤ 9223372036854775807 := by have h1 := hs.le; have h2 := hs.max; unfold maxLen at h2; omega
  have HR := Lib.hid hres
  have HL := Lib.hid hlen
  have HM := Lib.hid hmen
  have HB := Lib.hid (fun o => (Below.refl w.heap.size w).alloc (Nat.le_refl _) o)
  by_cases h4 : 4 < n
  · have HV : RowKit.Hid (false = res) := by show _ = _; rw [HR.out, decide_eq_false]; exact fun h => by have := h.1; omega
    have q : (4 : Int) < (n : Int) := by omega
    clear hs hd hi hres hlen hmen
    go_enter Tryd.func34, Tryd.ntmps34
    go_wp2
    go_ret
    exact ⟨by rw [← HV.out]; rfl, HB.out _⟩
  have q : ¬ (4 : Int) < (n : Int) := by omega
  obtain ⟨_, hx⟩ := hs.one
  have HX := Lib.hid hx
  have HI := Lib.hid hi
  have eg : ∀ args w, (callFunc 61 args).run Tryd.prog w = .ok (.enter 61 args) w := enters_of Tryd.func61 (by kernel_rfl) rfl
  have HC := Lib.hid (fun w2 (hb : Below w.heap.size w w2) => cf64_any 61 _ B m d data D' w2 (badCh_pays w2) eg (hd.below hb))
  clear hs hd hi hres hlen hmen hx eg
  go_enter Tryd.func34, Tryd.ntmps34
  go_wp2
  have HBo := Lib.hid (HB.out (.cells #[.bool char, .slice A n c, .slice B m d] 27))
  go_loop [3, 13] (fun z i => ∃ k : Nat, k ≤ n ∧ i = .int .i64 (k : Int) ∧ z = .int .i64 (prodL (s.take k)) ∧ RowKit.Hid (∀ x ∈ s.take k, 0 ≤ x ∧ x ≤ 10000)) (fun _ i => n - (RowKit.intOf i).toNat)
  case atStart => exact ⟨0, Nat.zero_le _, rfl, rfl, fun x hx => by simp at hx⟩
  case round =>
    obtain ⟨k, hk, rfl, rfl, hall⟩ := hrel
    by_cases hlt : k < n
    · have q1 : (k : Int) < (n : Int) := by omega
      obtain ⟨b, off, hA, -, hbl, hc⟩ := HX.out (by omega)
      obtain ⟨x, hxk⟩ : ∃ x, s[k]? = some x := ⟨_, List.getElem?_eq_getElem (by rw [HL.out]; exact hlt)⟩
      have cx := below_cell HBo.out (hc k x hxk)
      subst hA
      by_cases hx0 : x < 0
      · have HV : RowKit.Hid (false = res) := by show _ = _; rw [HR.out, decide_eq_false]; exact fun h => by have := (h.2.1 x (List.mem_of_getElem? hxk)).1; omega
        clear hc hxk
        go_wp2
        go_ret
        exact ⟨by rw [← HV.out]; rfl, HBo.out⟩
      by_cases hx1 : 10000 < x
      · have HV : RowKit.Hid (false = res) := by show _ = _; rw [HR.out, decide_eq_false]; exact fun h => by have := (h.2.1 x (List.mem_of_getElem? hxk)).2; omega
        clear hc hxk
        go_wp2
        go_ret
        exact ⟨by rw [← HV.out]; rfl, HBo.out⟩
      have HP := Lib.hid (prodL_take hxk)
      have HA := Lib.hid (all_snoc hall.out hxk ⟨by omega, by omega⟩)
      have hb := prodL_le (s := s.take (k + 1)) (by rw [List.length_take]; omega) HA.out
      rw [HP.out] at hb
      obtain ⟨hb0, hb1⟩ := hb
      have hb2 : -9223372036854775808 ≤ prodL (s.take k) * x := by omega
      have hb3 : prodL (s.take k) * x ≤ 9223372036854775807 := by omega
      generalize prodL (s.take k) = p at *
      clear hc hxk
      go_wp2
      go_round
      case rel => exact ⟨k + 1, by omega, by go_num, by rw [HP.out], HA.out⟩
      case measure => simp [RowKit.intOf]; omega
    · have hkn : k = n := by omega
      subst hkn
      have HT : RowKit.Hid (s.take k = s) := List.take_of_length_le (by rw [HL.out]; exact Nat.le_refl _)
      rw [HT.out] at hall ⊢
      obtain ⟨p, hp⟩ : ∃ p, p = prodL s := ⟨_, rfl⟩
      have HP := Lib.hid hp
      rw [← hp]
      clear hp HT
      by_cases h1 : 10000 < p
      · have HV : RowKit.Hid (false = res) := by
          show _ = _
          rw [HR.out, decide_eq_false]
          exact fun h => by have h2 := h.2.2.1; have h3 := h.2.2.2.1; rw [← HP.out] at h2; omega
        go_wp2
        go_ret
        exact ⟨by rw [← HV.out]; rfl, HBo.out⟩
      by_cases h2 : p = (m : Int)
      · have e2 : (p != (m : Int)) = false := by simp [h2]
        cases char with
        | false =>
          have HV : RowKit.Hid (true = res) := by
            show _ = _
            rw [HR.out, decide_eq_true]
            exact ⟨by rw [HL.out]; omega, hall.out, by rw [HM.out, ← h2, HP.out], by rw [HM.out]; omega, fun h => by cases h⟩
          clear h2
          go_wp2
          go_ret
          exact ⟨by rw [← HV.out]; rfl, HBo.out⟩
        | true =>
          have HV : RowKit.Hid ((!(data.any fun x => decide (¬ chOk x))) = res) := by
            show _ = _
            rw [HR.out, any_bad, Bool.not_not, Bool.eq_iff_iff, decide_eq_true_eq, decide_eq_true_eq]
            exact ⟨fun h => ⟨by rw [HL.out]; omega, hall.out, by rw [HM.out, ← h2, HP.out], by rw [HM.out]; omega, fun _ => h⟩, fun h => h.2.2.2.2 rfl⟩
          clear h2
          go_wp2_with fail
          refine (HC.out _ HBo.out).mono ?_
          rintro e w3 ⟨rfl, hb3⟩
          generalize (data.any fun x => decide (¬ chOk x)) = r at *
          go_wp2
          go_ret
          exact ⟨by rw [← HV.out]; rfl, HBo.out.trans (hb3.mono HBo.out.size)⟩
      · have e2 : (p != (m : Int)) = true := by simp [h2]
        have HV : RowKit.Hid (false = res) := by show _ = _; rw [HR.out, decide_eq_false]; exact fun h => h2 (by rw [HP.out, h.2.2.1, HM.out])
        clear h2
        go_wp2
        go_ret
        exact ⟨by rw [← HV.out]; rfl, HBo.out⟩
end Go.Proofs.YtjkofndnhmfnoaaDoor
