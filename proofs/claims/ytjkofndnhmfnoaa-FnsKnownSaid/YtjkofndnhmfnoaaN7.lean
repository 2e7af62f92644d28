/-
  Layer 21 (fns): wrong, Vector of nothing, lines: contracts. Of any store in memory.
-/
import Derived.Test.YtjkofndnhmfnoaaN6
import Derived.Test.YtjkofndnhmfnoaaLayP
namespace Go.Proofs.Ytjkofndnhmfnoaa
open Go Go.RowKit

theorem intInfo21 : (Try.prog.info? 3).map (fun i => (i.zero, i.size, i.bytes)) = some (some (.int .i64 0), 1, 8) := by kernel_rfl
theorem intParts21 : ∃ i, Try.prog.info? 3 = some i ∧ i.zero = some (.int .i64 0) ∧ i.size = 1 ∧ i.bytes = 8 := by
  have h1 := intInfo21
  cases h : Try.prog.info? 3 with
  | none => rw [h] at h1; cases h1
  | some i => rw [h] at h1; simp only [Option.map_some, Option.some.injEq, Prod.mk.injEq] at h1; exact ⟨i, rfl, h1.1, h1.2.1, h1.2.2⟩
theorem wrong_any (x : Int) (w : World) : Calls Try.prog 41 #[.int .i64 x] w fun e w' => e = .returned (.bool (decide (x < 1 ∨ 100 < x))) ∧ w' = w := by
  by_cases h1 : x < 1
  · have HR := Lib.hid (decide_eq_true (show x < 1 ∨ 100 < x from .inl h1))
    rw [HR.out]
    go_enter Try.func41, Try.ntmps41
    go_wp2
    go_ret
    exact ⟨rfl, rfl⟩
  · by_cases h2 : 100 < x
    · have HR := Lib.hid (decide_eq_true (show x < 1 ∨ 100 < x from .inr h2))
      rw [HR.out]
      go_enter Try.func41, Try.ntmps41
      go_wp2
      go_ret
      exact ⟨rfl, rfl⟩
    · have HR := Lib.hid (decide_eq_false (show ¬ (x < 1 ∨ 100 < x) by omega))
      rw [HR.out]
      go_enter Try.func41, Try.ntmps41
      go_wp2
      go_ret
      exact ⟨rfl, rfl⟩
set_option maxRecDepth 100000 in
theorem vector_nil (w : World) : Calls Try.prog 45 #[.slice none 0 0] w fun e w' => ∃ x, e = .returned (.agg #[.bool false, .slice (some ⟨x, 0, none⟩) 1 1, .slice none 0 0]) ∧ Below w.heap.size w w' := by
  have HB := Lib.hid (fun o => (Below.refl w.heap.size w).alloc (Nat.le_refl _) o)
  have HB2 := Lib.hid (two_below w)
  go_enter Try.func45, Try.ntmps45
  go_wp2_with fail
  refine (Try.slices_Clone_nil 0 0 _).mono ?_
  rintro e w1 ⟨rfl, rfl⟩
  go_wp2
  obtain ⟨w3, hw3⟩ : ∃ w3, w3 = (w.alloc (.cells #[.bool false, .slice (some ⟨w.heap.size + 1, 0, none⟩) 1 1, .slice none 0 0] 36)).alloc (.cells #[.int .i64 0] 3) := ⟨_, rfl⟩
  rw [← hw3]
  have hx : w3.heap[w.heap.size]? = some (.cells #[.bool false, .slice (some ⟨w.heap.size + 1, 0, none⟩) 1 1, .slice none 0 0] 36 (0, 0)) := by
    rw [hw3, Below.heap_alloc _ _ _ (by simp)]
    exact heap_alloc_new _ _
  have hb : Below w.heap.size w w3 := by rw [hw3]; exact HB2.out _ _
  have u0 : w3.cell? ⟨w.heap.size, 0, none⟩ = some (.bool false) := by rw [cell_of_row w3 _ 0 _ _ _ hx]; rfl
  have u1 : w3.cell? ⟨w.heap.size, 1, none⟩ = some (.slice (some ⟨w.heap.size + 1, 0, none⟩) 1 1) := by rw [cell_of_row w3 _ 1 _ _ _ hx]; rfl
  have u2 : w3.cell? ⟨w.heap.size, 2, none⟩ = some (.slice none 0 0) := by rw [cell_of_row w3 _ 2 _ _ _ hx]; rfl
  clear hw3 hx
  exact bodyPost_ret (v := .agg #[.bool false, .slice (some ⟨w.heap.size + 1, 0, none⟩) 1 1, .slice none 0 0]) (by simp [results, Try.results45, go_sem, u0, u1, u2]) rfl ⟨_, rfl, hb⟩
theorem TIs.rows {w : World} {D : Nat → Prop} {t : TD} {A1 : Option Addr} {n1 c1 : Nat} {A2 : Option Addr} {n2 c2 : Nat} {A3 : Option Addr} {n3 c3 : Nat} {A4 : Option Addr} {n4 c4 : Nat} {A5 : Option Addr} {n5 c5 : Nat} (h : TIs w D (tL t A1 n1 c1 A2 n2 c2 A3 n3 c3 A4 n4 c4 A5 n5 c5) t) :
    Rd w D 1 A1 n1 c1 (intRows .i64 t.v.shape) ∧ Rd w D 1 A2 n2 c2 (intRows .i64 t.v.data) := by
  obtain ⟨vs, fs, A, k, c, oes, e, hv, hf, hr, ho, hh⟩ := h
  obtain ⟨_, _, _, _, _, _, rfl, v1, v2⟩ := hv
  obtain ⟨_, _, _, _, _, _, rfl, f1, f2⟩ := hf
  unfold tL at e
  simp at e
  obtain ⟨⟨e1, e2, e3⟩, ⟨e4, e5, e6⟩, -⟩ := e
  subst e1 e2 e3 e4 e5 e6
  exact ⟨v1, v2⟩
set_option maxRecDepth 100000 in
set_option maxHeartbeats 1600000 in
theorem lines_none (own D : Nat → Prop) (r : Nat) (s : St) (key : ByteArray) (w : World) (h : SS w own D r s) (hk : key.size ≤ 1000000) (hd : (s.look key).kind ≠ 1) :
    Calls Try.prog 30 #[.pointer (some ⟨r, 0, none⟩), .string key] w fun e w' => e = .returned (.slice none 0 0) ∧ Below w.heap.size w w' := by
  have HG := Lib.hid (cGet_any own D r s.K s.T s.G key w h (by unfold maxLen; omega))
  have HD := Lib.hid hd
  clear h hd
  go_enter Try.func30, Try.ntmps30
  go_wp2_with fail
  refine HG.out.mono ?_
  rintro e w1 ⟨ts, rfl, ht, hb1⟩
  obtain ⟨t, htt⟩ : ∃ t, t = getT s.K s.T key := ⟨_, rfl⟩
  rw [← htt] at ht
  obtain ⟨A1, n1, c1, A2, n2, c2, A3, n3, c3, A4, n4, c4, A5, n5, c5, rfl⟩ := ht.full
  have e1 : (t.kind != 1) = true := by rw [bne_iff_ne, htt]; exact HD.out
  have Y1 := Lib.hid (fun o => (Below.refl w1.heap.size w1).alloc (Nat.le_refl _) o)
  have Z1 := Lib.hid hb1
  clear ht hb1 htt HG
  go_wp2
  go_ret
  exact ⟨rfl, Z1.out.trans ((Y1.out _).mono Z1.out.size)⟩
/-- A list of ints that the call is making. -/
def Ints21 (wa wr : World) (v : Value) (L : List Int) : Prop := wr.ownsRow wa.heap.size 3 1 v L.length (intRows .i64 L).flatten ∧ Below wa.heap.size wa wr
theorem Ints21.more {wa wr w5 : World} {v v5 : Value} {L : List Int} {x : Int} {o : Obj} (h : Ints21 wa wr v L) (hown : w5.ownsRow wa.heap.size 3 1 v5 (L.length + 1) ((intRows .i64 L).flatten ++ [.int .i64 x])) (hg : (wr.alloc o).grownBy w5 v.ownBlock) : Ints21 wa w5 v5 (L ++ [x]) := by
  refine ⟨?_, (h.2.alloc h.2.size _).grown hg (by have := h.2.size; simp; omega) (fun j hj => (h.1.lt j hj).1)⟩
  unfold intRows at hown ⊢
  rw [List.map_append, List.flatten_append]
  simpa using hown
set_option maxRecDepth 100000 in
set_option maxHeartbeats 3200000 in
theorem lines_good (own D : Nat → Prop) (r : Nat) (s : St) (key : ByteArray) (w : World) (h : SS w own D r s) (hk : key.size ≤ 1000000) (hd : (s.look key).kind = 1) (hc : (s.look key).v.char = false) (hs : (s.look key).v.shape.length = 1) (hl : ∀ x ∈ (s.look key).v.data, 1 ≤ x ∧ x ≤ 100) (hn : (s.look key).v.data.length ≤ 1000) :
    Calls Try.prog 30 #[.pointer (some ⟨r, 0, none⟩), .string key] w fun e w' => ∃ A c, e = .returned (.slice A (s.look key).v.data.length c) ∧ Rd w' (fun b => w.heap.size ≤ b) 1 A (s.look key).v.data.length c (intRows .i64 (s.look key).v.data) ∧ Below w.heap.size w w' := by
  have HG := Lib.hid (cGet_any own D r s.K s.T s.G key w h (by unfold maxLen; omega))
  obtain ⟨t, htt⟩ : ∃ t, t = s.look key := ⟨_, rfl⟩
  rw [← htt] at hd hc hs hl hn ⊢
  change RowKit.Hid (Calls Try.prog 22 #[.pointer (some ⟨r, 0, none⟩), .string key] w fun e w' => ∃ ts, e = .returned (.tuple #[.agg ts.toArray, .bool (decide (key ∈ s.K))]) ∧ TIs w' D ts (s.look key) ∧ Below w.heap.size w w') at HG
  rw [← htt] at HG
  clear htt h
  obtain ⟨i0, hi0, hz0, hz1, hz2⟩ := intParts21
  have HD := Lib.hid hd
  have HL := Lib.hid hl
  clear hd hl
  go_enter Try.func30, Try.ntmps30
  go_wp2_with fail
  refine HG.out.mono ?_
  rintro e w1 ⟨ts, rfl, ht, hb1⟩
  obtain ⟨A1, n1, c1, A2, n2, c2, A3, n3, c3, A4, n4, c4, A5, n5, c5, rfl⟩ := ht.full
  obtain ⟨hr1, hr2⟩ := ht.rows
  have e1 : (t.kind != 1) = false := by rw [HD.out]; rfl
  have hn1 : n1 = 1 := by have := hr1.len; simp [intRows] at this; omega
  have hn2 : n2 = t.v.data.length := by have := hr2.len; simp [intRows] at this; omega
  subst hn1 hn2
  have hcap := hr2.le
  obtain ⟨_, hc2⟩ := hr2.one
  have HC2 := Lib.hid hc2
  have Z1 := Lib.hid hb1
  have HB := Lib.hid (fun o => (Below.refl w1.heap.size w1).alloc (Nat.le_refl _) o)
  obtain ⟨L, hL⟩ : ∃ L, L = t.v.data := ⟨_, rfl⟩
  rw [← hL] at HL HC2 hn hcap ⊢
  have HLL := Lib.hid hL
  clear ht hb1 hr1 hr2 hc2 HG hs hL
  rw [hc]
  go_wp2_with fail
  generalize hwa : w1.alloc _ = wa
  have BW := Lib.hid (show Below w1.heap.size w1 wa from hwa ▸ HB.out _)
  clear hwa HB
  have HN := Lib.hid hn
  have HCP := Lib.hid hcap
  clear hn hcap
  go_loopw [7, 35] (fun v i wr => ∃ j : Nat, j ≤ L.length ∧ i = .int .i64 (j : Int) ∧ RowKit.Hid (Ints21 wa wr v (L.take j))) (fun _ i _ => L.length - (RowKit.intOf i).toNat)
  case atStart => exact ⟨0, Nat.zero_le _, rfl, World.ownsRow_nil _ _ _ _, Below.refl _ _⟩
  case round =>
    obtain ⟨j, hj, rfl, hst⟩ := hrel
    by_cases hlt : j < L.length
    · have q1 : (j : Int) < (L.length : Int) := by omega
      obtain ⟨b, off, hA, hDb, hbs, hc⟩ := HC2.out (by omega)
      obtain ⟨x, hx⟩ : ∃ x, L[j]? = some x := ⟨_, List.getElem?_eq_getElem hlt⟩
      have a0 := below_cell (BW.out.trans (hst.out.2.mono BW.out.size)) (hc j x hx)
      have hxr := HL.out x (List.mem_of_getElem? hx)
      have hts : L.take (j + 1) = L.take j ++ [x] := by rw [List.take_add_one, hx]; rfl
      have HTS := Lib.hid hts
      have q2 : ¬ (x : Int) < 1 := by omega
      have q3 : ¬ (100 : Int) < x := by omega
      have HW := Lib.hid (wrong_any x)
      have q4 : decide (x < 1 ∨ 100 < x) = false := decide_eq_false (by omega)
      have HNn := HN.out
      have HCn := HCP.out
      have HS := hst.out.2.size
      have hlj : (L.take j).length = j := by rw [List.length_take]; omega
      subst hA
      clear hc hx hts
      obtain ⟨Lj, hLj⟩ : ∃ Lj, Lj = L.take j := ⟨_, rfl⟩
      rw [← hLj] at hst HTS hlj
      clear hLj
      go_wp2_with (at_builtin; go_loud (refine wpList_append_own _ rfl (.tmp 45) (.tmp 47) 33 rfl wa.heap.size 3 i0 (.int .i64 0) 1 8 Try.underlying33 hi0 hz0 hz1 hz2 rfl (by decide) _ _ _ rfl (World.ownsRow.alloc hst.out.1 _) ⟨wr.heap.size, 0, none⟩ 1 1 [.int .i64 x] rfl rfl (cell_one_new _ _ _) (by simp [Value.oneCell']) (by unfold maxLen; omega) (by omega) (by simp; omega) ?_); intro v5 w5 hown5 hgrow5 _)
      have H6 : RowKit.Hid (Ints21 wa w5 v5 (L.take (j + 1))) := by
        show Ints21 _ _ _ _
        rw [HTS.out]
        exact hst.out.more hown5 hgrow5
      clear hown5 hgrow5
      go_wp2
      go_roundw
      case rel => exact ⟨j + 1, by omega, by go_num, H6.out⟩
      case measure => simp [RowKit.intOf]; omega
    · have hjn : j = L.length := by omega
      subst hjn
      rw [List.take_length] at hst
      obtain ⟨A9, c9, rfl, hr9⟩ := Rd.of_own hst.out.1 (by simp [intRows]) (fun e he => by
        simp only [intRows, List.mem_map] at he
        obtain ⟨x, _, rfl⟩ := he
        exact ⟨rfl, fun u hu => by rw [List.mem_singleton.mp hu]; rfl⟩)
      have R9 := Lib.hid hr9
      clear hr9
      go_wp2
      go_ret
      rw [← HLL.out]
      exact ⟨A9, c9, rfl, R9.out.mono (fun b _ h => Nat.le_trans (Nat.le_trans Z1.out.size BW.out.size) h) (by decide), (Z1.out.trans (BW.out.mono Z1.out.size)).trans (hst.out.2.mono (Nat.le_trans Z1.out.size BW.out.size))⟩
end Go.Proofs.Ytjkofndnhmfnoaa
