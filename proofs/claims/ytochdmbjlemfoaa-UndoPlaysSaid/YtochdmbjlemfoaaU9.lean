/-
  The reference of layer 24 (anamnesisref24: Push, At) and the law's Great: contracts. Of any list of rows of one cell.
-/
import Derived.Test.YtochdmbjlemfoaaU8
import Derived.Laws.AppendOwnNone
import Derived.Maps.AppendAt
namespace Go.Proofs.Ytochdmbjlemfoaa
open Go Go.RowKit

theorem grpInfo : (Try.prog.info? 24).map (fun i => (i.zero, i.size, i.bytes)) = some (some (.slice none 0 0), 1, 24) := by kernel_rfl
theorem grpParts : ∃ i, Try.prog.info? 24 = some i ∧ i.zero = some (.slice none 0 0) ∧ i.size = 1 ∧ i.bytes = 24 := by
  have h1 := grpInfo
  cases h : Try.prog.info? 24 with
  | none => rw [h] at h1; cases h1
  | some i =>
    rw [h] at h1
    simp only [Option.map_some, Option.some.injEq, Prod.mk.injEq] at h1
    exact ⟨i, rfl, h1.1, h1.2.1, h1.2.2⟩

theorem refAt_out (A : Option Addr) (n c : Nat) (z : Int) (w : World) (hn : n ≤ 1000) (h : z < 0 ∨ (n : Int) ≤ z) :
    Calls Try.prog 29 #[.slice A n c, .int .i64 z] w fun e w' => e = .returned (.tuple #[.slice none 0 0, .bool false]) ∧ w = w' := by
  go_enter Try.func29, Try.ntmps29
  go_wp2
  go_loop [6, 7] (fun k i => ∃ j : Nat, j ≤ n ∧ (z < 0 → j = 0) ∧ k = .int .i64 ((n : Int) - 1 - (j : Int)) ∧ i = .int .i64 (j : Int)) (fun _ i => n - (intOf i).toNat)
  case atStart => exact ⟨0, Nat.zero_le _, fun _ => rfl, by go_num, rfl⟩
  case round =>
    obtain ⟨j, hj, hz, rfl, rfl⟩ := hrel
    by_cases hlt : (j : Int) < z ∧ j < n
    · obtain ⟨h1, h2⟩ := hlt
      have q1 : 0 ≤ (n : Int) - 1 - (j : Int) := by omega
      go_wp2
      go_round
      case rel => exact ⟨j + 1, by omega, by omega, by go_num, by go_num⟩
      case measure => simp [intOf]; omega
    · by_cases h1 : z < 0
      · have q0 : ¬ (j : Int) < z := by omega
        go_wp2
        go_ret2
        exact ⟨rfl, rfl⟩
      · have h2 : j = n := by omega
        subst h2
        by_cases h3 : (j : Int) < z
        · go_wp2
          go_ret2
          exact ⟨rfl, rfl⟩
        · go_wp2
          go_ret2
          exact ⟨rfl, rfl⟩
theorem refAt_in (A : Option Addr) (n c k : Nat) (D : Nat → Prop) (es : List (List Value)) (v : Value) (w : World) (h : Rd w D 1 A n c es) (hn : n ≤ 1000) (hk : k < n) (hv : es[n - 1 - k]? = some [v]) :
    Calls Try.prog 29 #[.slice A n c, .int .i64 (k : Int)] w fun e w' => e = .returned (.tuple #[v, .bool true]) ∧ w = w' := by
  obtain ⟨b, off, rfl, -, hc⟩ := h.at_ (by omega)
  obtain ⟨i, hi⟩ : ∃ i : Nat, i = n - 1 - k := ⟨_, rfl⟩
  rw [← hi] at hv
  have cx : w.cell? ⟨b, off + i, none⟩ = some v := by simpa using hc i [v] hv 0 v rfl
  have hin : i < n := by omega
  have HI : RowKit.Hid ((n : Int) - 1 - (k : Int) = (i : Int)) := by show _ = _; omega
  have h1n : n ≤ c := h.le
  clear h hc hv hi
  go_enter Try.func29, Try.ntmps29
  go_wp2
  go_loop [6, 7] (fun x i => ∃ j : Nat, j ≤ k ∧ x = .int .i64 ((n : Int) - 1 - (j : Int)) ∧ i = .int .i64 (j : Int)) (fun _ i => n - (intOf i).toNat)
  case atStart => exact ⟨0, Nat.zero_le _, by go_num, rfl⟩
  case round =>
    obtain ⟨j, hj, rfl, rfl⟩ := hrel
    by_cases hlt : j < k
    · have q0 : (j : Int) < (k : Int) := by omega
      have q1 : 0 ≤ (n : Int) - 1 - (j : Int) := by omega
      go_wp2
      go_round
      case rel => exact ⟨j + 1, by omega, by go_num, by go_num⟩
      case measure => simp [intOf]; omega
    · have hjk : j = k := by omega
      subst hjk
      rw [HI.out]
      have q0 : ¬ (j : Int) < (j : Int) := by omega
      have q1 : ¬ (i : Int) < 0 := by omega
      have q2 : ¬ (j : Int) < 0 := by omega
      have q3 : (0 : Int) ≤ (i : Int) := by omega
      have q4 : (i : Int) < (n : Int) := by omega
      go_wp2
      go_ret2
      exact ⟨rfl, rfl⟩

/-- An act as an argument has it. -/
structure AC where
  d : Int
  g : GP
  z : Int
def AC.cells (a : AC) : List Value := [.int .u8 a.d, a.g.val, .int .i64 a.z]
def acRows (acs : List AC) : List (List Value) := acs.map AC.cells
theorem ac_at {w : World} {D : Nat → Prop} {A : Option Addr} {n c : Nat} {acs : List AC} (h : Rd w D 3 A n c (acRows acs)) (hn : 0 < n) : ∃ b off, A = some ⟨b, off, none⟩ ∧ D b ∧ ∀ (i : Nat) a, acs[i]? = some a →
    w.cell? ⟨b, off + i * 3, none⟩ = some (.int .u8 a.d) ∧ w.cell? ⟨b, off + i * 3 + 1, none⟩ = some a.g.val ∧ w.cell? ⟨b, off + i * 3 + 2, none⟩ = some (.int .i64 a.z) := by
  obtain ⟨b, off, e, hb, hc⟩ := h.at_ hn
  refine ⟨b, off, e, hb, fun i a hi => ?_⟩
  have hr : (acRows acs)[i]? = some a.cells := by unfold acRows; rw [List.getElem?_map, hi]; rfl
  exact ⟨hc i _ hr 0 _ rfl, hc i _ hr 1 _ rfl, hc i _ hr 2 _ rfl⟩

theorem great24_any (A : Option Addr) (n c : Nat) (acs : List AC) (D : Nat → Prop) (w : World) (h : Rd w D 3 A n c (acRows acs)) (res : Bool) (hres : res = decide (60 < n ∨ ∃ a ∈ acs, 6 < a.g.n)) :
    Calls Try.prog 27 #[.slice A n c] w fun e w' => e = .returned (.bool res) ∧ w = w' := by
  have hlen : acs.length = n := by have := h.len; simpa [acRows] using this
  have hn : n ≤ 9223372036854775807 := by have h1 := h.le; have h2 := h.max; unfold maxLen at h2; omega
  have H1 := Lib.hid h
  have H3 := Lib.hid hlen
  have HR := Lib.hid hres
  clear h hlen hres
  by_cases h60 : 60 < n
  · have q : (60 : Int) < (n : Int) := by omega
    go_enter Try.func27, Try.ntmps27
    go_wp2
    go_ret
    exact ⟨congrArg (fun b => Ending.returned (Value.bool b)) (HR.out.trans (decide_eq_true (.inl h60))).symm, rfl⟩
  have q : ¬ (60 : Int) < (n : Int) := by omega
  go_enter Try.func27, Try.ntmps27
  go_wp2
  go_loop [3] (fun i => ∃ k : Nat, k ≤ n ∧ i = .int .i64 (k : Int) ∧ RowKit.Hid (∀ a ∈ acs.take k, a.g.n ≤ 6)) (fun i => n - (intOf i).toNat)
  case atStart => exact ⟨0, Nat.zero_le _, rfl, by intro g hg; simp at hg⟩
  case round =>
    obtain ⟨k, hk, rfl, hh⟩ := hrel
    by_cases hlt : k < n
    · obtain ⟨b, off, hA, -, hcell⟩ := ac_at H1.out (by omega)
      obtain ⟨a, hak⟩ : ∃ a, acs[k]? = some a := ⟨_, List.getElem?_eq_getElem (by rw [H3.out]; exact hlt)⟩
      have cx := (hcell k a hak).2.1
      have Hk := Lib.hid hak
      subst hA
      unfold GP.val at cx
      clear hcell hak
      have h1 : (k : Int) < (n : Int) := by omega
      by_cases h6 : 6 < a.g.n
      · have q6 : (6 : Int) < (a.g.n : Int) := by omega
        go_wp2
        go_ret
        exact ⟨congrArg (fun b => Ending.returned (Value.bool b)) (HR.out.trans (decide_eq_true (.inr ⟨a, List.mem_of_getElem? Hk.out, h6⟩))).symm, rfl⟩
      · have q6 : ¬ (6 : Int) < (a.g.n : Int) := by omega
        go_wp2
        go_round
        case rel =>
          refine ⟨k + 1, by omega, by go_num, fun x hx => ?_⟩
          rw [List.take_add_one, Hk.out] at hx
          rcases List.mem_append.1 hx with hx | hx
          · exact hh.out x hx
          · simp at hx; subst hx; omega
        case measure => simp [intOf]; omega
    · have hkn : k = n := by omega
      subst hkn
      have h6 : RowKit.Hid (∀ a ∈ acs, a.g.n ≤ 6) := fun g hg => hh.out g (by rw [List.take_of_length_le (by rw [H3.out]; exact Nat.le_refl _)]; exact hg)
      clear hh
      go_wp2
      go_ret
      refine ⟨congrArg (fun b => Ending.returned (Value.bool b)) (HR.out.trans (decide_eq_false ?_)).symm, rfl⟩
      rintro (h | ⟨a, ha, h⟩)
      · omega
      · have := h6.out a ha; omega

/-- A slice's rows without the first. -/
theorem Rd.tail {w : World} {D : Nat → Prop} {b off n c : Nat} {x : List Value} {es : List (List Value)} (h : Rd w D 1 (some ⟨b, off, none⟩) (n + 1) (c + 1) (x :: es)) : Rd w D 1 (some ⟨b, off + 1, none⟩) n c es :=
  ⟨by have := h.len; simpa using this, by have := h.le; omega, by have := h.max; omega, fun e he => h.rows e (List.mem_cons_of_mem _ he), fun _ => by
    obtain ⟨b', off', e, hb, hc⟩ := h.at_ (by omega)
    injection e with e
    injection e with e1 e2
    subst e1 e2
    refine ⟨b, off + 1, rfl, hb, fun i e hi k u hk => ?_⟩
    have := hc (i + 1) e (by simpa using hi) k u hk
    rwa [show off + ((i + 1) * 1 + k) = off + 1 + (i * 1 + k) from by omega] at this⟩

theorem Rd.tail' {w : World} {D : Nat → Prop} {b off n c : Nat} {x : List Value} {es : List (List Value)} (h : Rd w D 1 (some ⟨b, off, none⟩) (n + 1) (c + 1) (x :: es)) : Rd w D 1 (if c = 0 then some ⟨b, off, none⟩ else some ⟨b, off + 1, none⟩) n c es := by
  have ht := h.tail
  split
  · have hn : n = 0 := by have := ht.le; omega
    exact ⟨ht.len, ht.le, ht.max, ht.rows, fun h0 => by omega⟩
  · exact ht

set_option maxRecDepth 100000 in
set_option maxHeartbeats 1000000 in
theorem refPush_any (A : Option Addr) (n c X k : Nat) (V : Option Addr) (m : Nat) (D : Nat → Prop) (es : List (List Value)) (w : World) (h : Rd w D 1 A n c es) (hn : n ≤ 1000) (hA : A = none → c = 0) :
    Calls Try.prog 28 #[.slice A n c, .slice V k X, .int .i64 (m : Int)] w fun e w' => ∃ B l d, e = .returned (.slice B l d) ∧ B ≠ none ∧ Rd w' (fun b => w.heap.size ≤ b) 1 B l d ((es ++ [[Value.slice V k X]]).drop (n + 1 - m)) ∧ Below w.heap.size w w' := by
  obtain ⟨i0, hi, hz, hz1, hz2⟩ := grpParts
  have hl : es.flatten.length = n * 1 := by rw [flat_len (fun e he => (h.rows e he).1), h.len]
  have h1 := flat_one (fun e he => (h.rows e he).2)
  have H2 := Lib.hid hl
  have H3 := Lib.hid h
  have H4 := Lib.hid h1
  have hlen := Lib.hid h.len
  clear h hl h1
  go_enter Try.func28, Try.ntmps28
  go_upto_region 1 with fail
  go_cut [7] (fun v wx => ∃ A1 c1, v = .slice A1 n c1 ∧ RowKit.Hid (wx.ownsRow w.heap.size 24 1 (.slice A1 n c1) n es.flatten) ∧ RowKit.Hid (Below w.heap.size w wx))
  case first =>
    cases A with
    | none =>
      have hc0 : c = 0 := hA rfl
      subst hc0
      have hn0 : n = 0 := by have := H3.out.le; omega
      subst hn0
      have he : es = [] := List.eq_nil_of_length_eq_zero hlen.out
      subst he
      clear H2 H3 H4 hlen hA hn
      go_wp2_with (at_builtin; refine wpList_append_own_none rfl (.tmp 8) (.tmp 9) 22 rfl w.heap.size 24 i0 1 Try.underlying22 hi _ 0 [] rfl (World.ownsRow_lit w #[] 0 (Nat.le_refl _) (by decide) rfl) rfl ?_)
      go_meet
      exact ⟨_, _, rfl, World.ownsRow_lit w #[] 0 (Nat.le_refl _) (by decide) rfl, (Below.refl _ w).alloc (Nat.le_refl _) _⟩
    | some ad =>
      have H1 : RowKit.Hid (∀ j u, es.flatten[j]? = some u → (w.alloc (.cells #[] 24)).cell? (ad.add j) = some u) := Lib.hid (fun j u hj => by
        rcases Nat.eq_zero_or_pos n with h0 | h0
        · have he : es = [] := List.eq_nil_of_length_eq_zero (by rw [hlen.out, h0])
          subst he
          simp at hj
        · exact below_cell ((Below.refl _ w).alloc (Nat.le_refl _) _) (H3.out.news rfl h0 j u hj))
      go_wp2_with (at_builtin; refine wpList_append_own _ rfl (.tmp 8) (.tmp 9) 22 rfl w.heap.size 24 i0 (.slice none 0 0) 1 24 Try.underlying22 hi hz hz1 hz2 rfl (by decide) _ 0 [] rfl (World.ownsRow_lit w #[] 0 (Nat.le_refl _) (by decide) rfl) ad n c es.flatten rfl H2.out H1.out H4.out (by unfold maxLen; omega) (by omega) (by simp) ?_; intro v1 w1 hown1 hgrow1 _)
      rw [Nat.zero_add, List.nil_append] at hown1
      obtain ⟨A1, c1, rfl, -⟩ := Rd.of_own hown1 hlen.out H3.out.rows
      go_meet
      exact ⟨_, _, rfl, hown1, ((Below.refl _ w).alloc (Nat.le_refl _) _).grown hgrow1 (by simp) (fun k hk => by cases hk; exact Nat.le_refl _)⟩
  case rest =>
    obtain ⟨A1, c1, rfl, hown1, hb1⟩ := hcut
    have HS := hb1.out.size
    clear H2 H4
    go_wp2_with (at_builtin; refine wpList_append_own _ rfl (.tmp 11) (.tmp 13) 22 rfl w.heap.size 24 i0 (.slice none 0 0) 1 24 Try.underlying22 hi hz hz1 hz2 rfl (by decide) _ n es.flatten rfl (World.ownsRow.alloc hown1.out _) ⟨wc.heap.size, 0, none⟩ 1 1 [.slice V k X] rfl rfl (cell_one_new _ _ _) (by intro u hu; simp at hu; subst hu; rfl) (by unfold maxLen; omega) (by omega) (by simp; omega) ?_; intro v2 w2 hown2 hgrow2 _)
    have hown3 : w2.ownsRow w.heap.size 24 1 v2 (n + 1) (es ++ [[Value.slice V k X]]).flatten := by simpa using hown2
    obtain ⟨A2, c2, rfl, hr2⟩ := Rd.of_own hown3 (by simp [hlen.out]) (fun e he => by
      rcases List.mem_append.1 he with he | he
      · exact H3.out.rows e he
      · simp at he; subst he; exact ⟨rfl, by intro u hu; simp at hu; subst hu; rfl⟩)
    have hB2 : RowKit.Hid (Below w.heap.size w w2) := (hb1.out.alloc HS _).grown hgrow2 (by simp; omega) (fun j hj => (hown1.out.lt j hj).1)
    have R2 := Lib.hid hr2
    clear hown2 hown3 hgrow2 hr2 hown1 H3 hb1
    have HL := Lib.hid (show (es ++ [[Value.slice V k X]]).length = n + 1 by simp [hlen.out])
    clear hlen
    obtain ⟨rows, hrows⟩ : ∃ r, r = es ++ [[Value.slice V k X]] := ⟨_, rfl⟩
    rw [← hrows] at R2 HL
    have HE := Lib.hid hrows
    clear hrows
    go_loop [7] (fun x => ∃ (j : Nat) (B : Option Addr) (d : Nat), j ≤ n + 1 - m ∧ x = .slice B (n + 1 - j) d ∧ RowKit.Hid (B ≠ none) ∧ RowKit.Hid (Rd w2 (fun b => w.heap.size ≤ b) 1 B (n + 1 - j) d (rows.drop j))) (fun x => match x with | .slice _ l _ => l | _ => 0)
    case atStart => exact ⟨0, A2, c2, Nat.zero_le _, rfl, (by obtain ⟨b, off, rfl, -, -⟩ := R2.out.at_ (by omega); exact fun h => nomatch h), R2.out⟩
    case round =>
      obtain ⟨j, B, d, hj, rfl, hne, hR⟩ := hrel
      by_cases hlt : m < n + 1 - j
      · have q1 : (m : Int) < ((n + 1 - j : Nat) : Int) := by omega
        obtain ⟨b, off, rfl, -, -⟩ := hR.out.at_ (by omega)
        obtain ⟨l, hl⟩ : ∃ l, n + 1 - j = l + 1 := ⟨n - j, by omega⟩
        obtain ⟨d', rfl⟩ : ∃ d', d = d' + 1 := ⟨d - 1, by have := hR.out.le; omega⟩
        rw [hl] at hR ⊢
        go_wp2
        go_round
        case rel =>
          obtain ⟨x, es', hx⟩ : ∃ x es', rows.drop j = x :: es' := by
            cases hd : rows.drop j with
            | nil => have := hR.out.len; rw [hd] at this; simp at this
            | cons x es' => exact ⟨x, es', rfl⟩
          have ht := hR.out
          rw [hx] at ht
          have h1 : rows.drop (j + 1) = es' := by rw [← List.drop_drop, hx]; rfl
          have hl' : n + 1 - (j + 1) = l := by omega
          rw [h1.symm] at ht
          exact ⟨j + 1, _, d', by omega, by rw [hl'], (by split <;> exact fun h => nomatch h), by rw [hl']; exact ht.tail'⟩
        case measure => simp
      · have hjm : j = n + 1 - m := by omega
        subst hjm
        have q1 : ¬ (m : Int) < ((n + 1 - (n + 1 - m) : Nat) : Int) := by omega
        go_wp2
        go_ret
        exact ⟨_, _, _, rfl, hne.out, HE.out ▸ hR.out, hB2.out⟩
end Go.Proofs.Ytochdmbjlemfoaa
