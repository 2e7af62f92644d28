/-
  Layer 20 (names): binds, Get: contracts. Of any store in memory, any name.
-/
import Derived.Test.YtjkofndnhmfnoaaDoorC8
import Derived.Test.YtjkofndnhmfnoaaDoorN1
namespace Go.Proofs.YtjkofndnhmfnoaaDoor
open Go Go.RowKit

theorem box14 {w : World} {b : Nat} {t : TypeId} {x0 x1 x2 x3 x4 x5 x6 x7 x8 x9 x10 x11 x12 x13 : Value} (h : w.heap[b]? = some (.cells #[x0, x1, x2, x3, x4, x5, x6, x7, x8, x9, x10, x11, x12, x13] t (0, 0))) :
    w.cell? ⟨b, 0, none⟩ = some x0 ∧ w.cell? ⟨b, 1, none⟩ = some x1 ∧ w.cell? ⟨b, 2, none⟩ = some x2 ∧ w.cell? ⟨b, 3, none⟩ = some x3 ∧ w.cell? ⟨b, 4, none⟩ = some x4 ∧ w.cell? ⟨b, 5, none⟩ = some x5 ∧ w.cell? ⟨b, 6, none⟩ = some x6 ∧ w.cell? ⟨b, 7, none⟩ = some x7 ∧ w.cell? ⟨b, 8, none⟩ = some x8 ∧ w.cell? ⟨b, 9, none⟩ = some x9 ∧ w.cell? ⟨b, 10, none⟩ = some x10 ∧ w.cell? ⟨b, 11, none⟩ = some x11 ∧ w.cell? ⟨b, 12, none⟩ = some x12 ∧ w.cell? ⟨b, 13, none⟩ = some x13 :=
  ⟨by rw [cell_of_row w b 0 _ _ _ h]; rfl, by rw [cell_of_row w b 1 _ _ _ h]; rfl, by rw [cell_of_row w b 2 _ _ _ h]; rfl, by rw [cell_of_row w b 3 _ _ _ h]; rfl, by rw [cell_of_row w b 4 _ _ _ h]; rfl, by rw [cell_of_row w b 5 _ _ _ h]; rfl, by rw [cell_of_row w b 6 _ _ _ h]; rfl, by rw [cell_of_row w b 7 _ _ _ h]; rfl, by rw [cell_of_row w b 8 _ _ _ h]; rfl, by rw [cell_of_row w b 9 _ _ _ h]; rfl, by rw [cell_of_row w b 10 _ _ _ h]; rfl, by rw [cell_of_row w b 11 _ _ _ h]; rfl, by rw [cell_of_row w b 12 _ _ _ h]; rfl, by rw [cell_of_row w b 13 _ _ _ h]; rfl⟩
/-- Values stored one behind the other. -/
def storeAll (b : Nat) : World → Nat → List Value → World
  | w, _, [] => w
  | w, i, x :: l => storeAll b (w.setCell ⟨b, i, none⟩ x) (i + 1) l
theorem storeAll_heap {b : Nat} {t : TypeId} : ∀ (l : List Value) (w : World) (i : Nat) (cs : List Value), w.heap[b]? = some (.cells cs.toArray t (0, 0)) → i + l.length ≤ cs.length → (storeAll b w i l).heap[b]? = some (.cells (cs.take i ++ l ++ cs.drop (i + l.length)).toArray t (0, 0))
  | [], w, i, cs, h, _ => by simpa [storeAll] using h
  | x :: l, w, i, cs, h, hl => by
    rw [List.length_cons] at hl
    have h1 : (w.setCell ⟨b, i, none⟩ x).heap[b]? = some (.cells (cs.set i x).toArray t (0, 0)) := by
      rw [heap_setCell_same _ b i cs.toArray t x h]
      simp
    have h2 := storeAll_heap l _ (i + 1) (cs.set i x) h1 (by simp; omega)
    rw [storeAll, h2]
    congr 3
    refine List.ext_getElem (by simp; omega) fun k k1 k2 => ?_
    simp only [List.length_append, List.length_take, List.length_set, List.length_drop] at k1
    rcases Nat.lt_trichotomy k i with hk | hk | hk
    · rw [List.getElem_append_left (by simp; omega), List.getElem_append_left (by simp; omega), List.getElem_append_left (by simp; omega), List.getElem_append_left (by simp; omega)]
      simp
      rw [List.getElem_set_ne (by omega)]
    · subst hk
      rw [List.getElem_append_left (by simp; omega), List.getElem_append_left (by simp; omega), List.getElem_append_left (by simp; omega), List.getElem_append_right (by simp; omega)]
      simp
      have : k - min k cs.length = 0 := by omega
      simp [this]
    · by_cases hk2 : k < i + 1 + l.length
      · rw [List.getElem_append_left (by simp; omega), List.getElem_append_right (by simp; omega), List.getElem_append_left (by simp; omega), List.getElem_append_right (by simp; omega)]
        obtain ⟨m, rfl⟩ : ∃ m, k = i + 1 + m := ⟨k - (i + 1), by omega⟩
        have e1 : i + 1 + m - (List.take (i + 1) (cs.set i x)).length = m := by simp; omega
        have e2 : i + 1 + m - (List.take i cs).length = m + 1 := by simp; omega
        simp only [e1, e2, List.getElem_cons_succ]
      · rw [List.getElem_append_right (by simp; omega), List.getElem_append_right (by simp; omega), List.getElem_drop, List.getElem_drop]
        rw [List.getElem_set_ne (by simp; omega)]
        congr 1
        simp
        omega
theorem storeAll_chg {b : Nat} : ∀ (l : List Value) (w : World) (i : Nat), Chg (fun j => j = b) w (storeAll b w i l)
  | [], w, _ => Chg.refl _ w
  | x :: l, w, i => ((Chg.refl (fun j => j = b) w).setCell (p := ⟨b, i, none⟩) (.inl rfl) x).trans (storeAll_chg l _ (i + 1))
theorem frozen_box {w : World} {b : Nat} {t : TypeId} {cs : Array Value} (h : w.heap[b]? = some (.cells cs t (0, 0))) (i : Nat) : w.frozen? ⟨b, i, none⟩ = false := by unfold World.frozen?; rw [h]; rfl
/-- May a thing of that kind be a binding? -/
def bindsB (k : Int) : Bool := decide (k = 1 ∨ k = 2 ∨ k = 3)
set_option maxRecDepth 100000 in
theorem binds_any (D : Nat → Prop) (ts : List Value) (t : TD) (w : World) (ht : TIs w D ts t) : Calls Tryd.prog 46 #[.agg ts.toArray] w fun e w' => e = .returned (.bool (bindsB t.kind)) ∧ Below w.heap.size w w' := by
  obtain ⟨A1, n1, c1, A2, n2, c2, A3, n3, c3, A4, n4, c4, A5, n5, c5, rfl⟩ := ht.full
  have HB := Lib.hid (fun o => (Below.refl w.heap.size w).alloc (Nat.le_refl _) o)
  obtain ⟨k, hk⟩ : ∃ k, k = t.kind := ⟨_, rfl⟩
  rw [← hk]
  clear ht hk
  by_cases h1 : k = 1
  · subst h1
    go_enter Tryd.func46, Tryd.ntmps46
    go_wp2
    go_ret
    exact ⟨rfl, HB.out _⟩
  · by_cases h2 : k = 2
    · subst h2
      go_enter Tryd.func46, Tryd.ntmps46
      go_wp2
      go_ret
      exact ⟨rfl, HB.out _⟩
    · by_cases h3 : k = 3
      · subst h3
        go_enter Tryd.func46, Tryd.ntmps46
        go_wp2
        go_ret
        exact ⟨rfl, HB.out _⟩
      · have e1 : (k == 1) = false := by rw [beq_eq_false_iff_ne]; exact h1
        have e2 : (k == 2) = false := by rw [beq_eq_false_iff_ne]; exact h2
        have e3 : (k == 3) = false := by rw [beq_eq_false_iff_ne]; exact h3
        have HR : RowKit.Hid (bindsB k = false) := decide_eq_false (by omega)
        clear h1 h2 h3
        go_enter Tryd.func46, Tryd.ntmps46
        go_wp2
        go_ret
        exact ⟨by rw [HR.out]; rfl, HB.out _⟩
/-- The key of a binding. -/
def vkey (name : ByteArray) : ByteArray := ⟨#[118, 47]⟩ ++ name
theorem vkey_size (name : ByteArray) : (vkey name).size = name.size + 2 := by
  unfold vkey
  rw [ByteArray.size_append]
  show 2 + name.size = _
  omega
/-- What a name stands for. -/
def getN (K : List ByteArray) (T : ByteArray → TD) (name : ByteArray) : TD := if bindsB (getT K T (vkey name)).kind = true then getT K T (vkey name) else tz
set_option maxRecDepth 100000 in
set_option maxHeartbeats 1600000 in
theorem getN_any (own D : Nat → Prop) (r : Nat) (K : List ByteArray) (T : ByteArray → TD) (G : List ED) (name : ByteArray) (w : World) (h : SK w own D r K T G) (hk : name.size ≤ 1000000) :
    Calls Tryd.prog 30 #[.pointer (some ⟨r, 0, none⟩), .string name] w fun e w' => ∃ ts, e = .returned (.agg ts.toArray) ∧ TIs w' D ts (getN K T name) ∧ Below w.heap.size w w' := by
  have HB := Lib.hid (fun o => (Below.refl w.heap.size w).alloc (Nat.le_refl _) o)
  have hvk : (vkey name).size ≤ maxLen := by
    rw [vkey_size]
    unfold maxLen
    omega
  have HG := Lib.hid (fun w2 (hb : Below w.heap.size w w2) => cGet_any own D r K T G (vkey name) w2 (h.below hb) hvk)
  have hsz : ¬ 9223372036854775807 < 2 + name.size := by omega
  have HDL := Lib.hid h.dlt
  clear h hvk
  go_enter Tryd.func30, Tryd.ntmps30
  go_wp2_with fail
  refine (HG.out _ (HB.out _)).mono ?_
  rintro e w1 ⟨ts, rfl, ht, hb1⟩
  obtain ⟨t, htt⟩ : ∃ t, t = getT K T (vkey name) := ⟨_, rfl⟩
  rw [← htt] at ht
  obtain ⟨A1, n1, c1, A2, n2, c2, A3, n3, c3, A4, n4, c4, A5, n5, c5, rfl⟩ := ht.full
  have H1 := Lib.hid ht
  have X1 := Lib.hid ((hb1.block w.heap.size (by simp)).trans (heap_alloc_new w _))
  have Y1 := Lib.hid ((HB.out _).trans (hb1.mono (HB.out _).size))
  have HTT := Lib.hid htt
  clear ht hb1 HG htt
  go_wp2_with fail
  refine (binds_any D _ t _ (H1.out.below ((Below.refl _ _).alloc (Nat.le_refl _) _))).mono ?_
  rintro e w2 ⟨rfl, hb2⟩
  have X2 := Lib.hid ((hb2.block w.heap.size (by have := lt_of_block X1.out; simp; omega)).trans ((Below.heap_alloc w1 _ _ (lt_of_block X1.out)).trans X1.out))
  have Z2 := Lib.hid ((hb2.block w1.heap.size (by simp)).trans (heap_alloc_new w1 _))
  have H2 := Lib.hid ((H1.out.below ((Below.refl _ w1).alloc (Nat.le_refl _) _)).below hb2)
  have Y2 := Lib.hid ((Y1.out.alloc Y1.out.size _).trans (hb2.mono (by have := Y1.out.size; simp; omega)))
  clear hb2 X1 H1 Y1
  obtain ⟨y0, y1, y2, y3, y4, y5, y6, y7, y8, y9, y10, y11, y12, y13⟩ := box14 Z2.out
  obtain ⟨v0, v1, v2, v3, v4, v5, v6, v7, v8, v9, v10, v11, v12, v13⟩ := box14 X2.out
  have f := frozen_box X2.out
  cases hbb : bindsB t.kind with
  | true =>
    go_wp2
    change bodyPost _ _ _ _ _ (storeAll w.heap.size w2 0 [.int .u8 t.kind, .bool t.v.char, .slice A1 n1 c1, .slice A2 n2 c2, .string t.f.name, .string t.f.result, .string t.f.left, .string t.f.right, .slice A3 n3 c3, .slice A4 n4 c4, .int .i64 t.f.version, .slice A5 n5 c5, .int .i64 t.n, .string t.s])
    obtain ⟨w3, hw3⟩ : ∃ w3, w3 = storeAll w.heap.size w2 0 [.int .u8 t.kind, .bool t.v.char, .slice A1 n1 c1, .slice A2 n2 c2, .string t.f.name, .string t.f.result, .string t.f.left, .string t.f.right, .slice A3 n3 c3, .slice A4 n4 c4, .int .i64 t.f.version, .slice A5 n5 c5, .int .i64 t.n, .string t.s] := ⟨_, rfl⟩
    have h3 := storeAll_heap [.int .u8 t.kind, .bool t.v.char, .slice A1 n1 c1, .slice A2 n2 c2, .string t.f.name, .string t.f.result, .string t.f.left, .string t.f.right, .slice A3 n3 c3, .slice A4 n4 c4, .int .i64 t.f.version, .slice A5 n5 c5, .int .i64 t.n, .string t.s] w2 0 _ X2.out (by simp)
    have hc3 := storeAll_chg (b := w.heap.size) [.int .u8 t.kind, .bool t.v.char, .slice A1 n1 c1, .slice A2 n2 c2, .string t.f.name, .string t.f.result, .string t.f.left, .string t.f.right, .slice A3 n3 c3, .slice A4 n4 c4, .int .i64 t.f.version, .slice A5 n5 c5, .int .i64 t.n, .string t.s] w2 0
    rw [← hw3] at h3 hc3 ⊢
    clear hw3
    have HC3 := Lib.hid hc3
    obtain ⟨u0, u1, u2, u3, u4, u5, u6, u7, u8, u9, u10, u11, u12, u13⟩ := box14 h3
    clear h3 hc3 y0 y1 y2 y3 y4 y5 y6 y7 y8 y9 y10 y11 y12 y13 v0 v1 v2 v3 v4 v5 v6 v7 v8 v9 v10 v11 v12 v13 f
    refine bodyPost_ret (v := .agg #[.int .u8 t.kind, .bool t.v.char, .slice A1 n1 c1, .slice A2 n2 c2, .string t.f.name, .string t.f.result, .string t.f.left, .string t.f.right, .slice A3 n3 c3, .slice A4 n4 c4, .int .i64 t.f.version, .slice A5 n5 c5, .int .i64 t.n, .string t.s]) (by simp [results, Tryd.results30, go_sem, u0, u1, u2, u3, u4, u5, u6, u7, u8, u9, u10, u11, u12, u13]) rfl ⟨_, rfl, ?_, Y2.out.trans (HC3.out.below (B := w.heap.size) Y2.out.size (fun j hj => by omega))⟩
    have hg : getN K T name = t := by unfold getN; rw [← HTT.out, hbb, if_pos rfl]
    rw [hg]
    exact H2.out.chg HC3.out (fun b hb e => by have := HDL.out b hb; omega)
  | false =>
    go_wp2
    change bodyPost _ _ _ _ _ (storeAll w.heap.size w2 0 [.int .u8 0, .bool false, .slice none 0 0, .slice none 0 0, .string ⟨#[]⟩, .string ⟨#[]⟩, .string ⟨#[]⟩, .string ⟨#[]⟩, .slice none 0 0, .slice none 0 0, .int .i64 0, .slice none 0 0, .int .i64 0, .string ⟨#[]⟩])
    obtain ⟨w3, hw3⟩ : ∃ w3, w3 = storeAll w.heap.size w2 0 [.int .u8 0, .bool false, .slice none 0 0, .slice none 0 0, .string ⟨#[]⟩, .string ⟨#[]⟩, .string ⟨#[]⟩, .string ⟨#[]⟩, .slice none 0 0, .slice none 0 0, .int .i64 0, .slice none 0 0, .int .i64 0, .string ⟨#[]⟩] := ⟨_, rfl⟩
    have h3 := storeAll_heap [.int .u8 0, .bool false, .slice none 0 0, .slice none 0 0, .string ⟨#[]⟩, .string ⟨#[]⟩, .string ⟨#[]⟩, .string ⟨#[]⟩, .slice none 0 0, .slice none 0 0, .int .i64 0, .slice none 0 0, .int .i64 0, .string ⟨#[]⟩] w2 0 _ X2.out (by simp)
    have hc3 := storeAll_chg (b := w.heap.size) [.int .u8 0, .bool false, .slice none 0 0, .slice none 0 0, .string ⟨#[]⟩, .string ⟨#[]⟩, .string ⟨#[]⟩, .string ⟨#[]⟩, .slice none 0 0, .slice none 0 0, .int .i64 0, .slice none 0 0, .int .i64 0, .string ⟨#[]⟩] w2 0
    rw [← hw3] at h3 hc3 ⊢
    clear hw3
    have HC3 := Lib.hid hc3
    obtain ⟨u0, u1, u2, u3, u4, u5, u6, u7, u8, u9, u10, u11, u12, u13⟩ := box14 h3
    clear h3 hc3 y0 y1 y2 y3 y4 y5 y6 y7 y8 y9 y10 y11 y12 y13 v0 v1 v2 v3 v4 v5 v6 v7 v8 v9 v10 v11 v12 v13 f
    refine bodyPost_ret (v := .agg #[.int .u8 0, .bool false, .slice none 0 0, .slice none 0 0, .string ⟨#[]⟩, .string ⟨#[]⟩, .string ⟨#[]⟩, .string ⟨#[]⟩, .slice none 0 0, .slice none 0 0, .int .i64 0, .slice none 0 0, .int .i64 0, .string ⟨#[]⟩]) (by simp [results, Tryd.results30, go_sem, u0, u1, u2, u3, u4, u5, u6, u7, u8, u9, u10, u11, u12, u13]) rfl ⟨_, rfl, ?_, Y2.out.trans (HC3.out.below (B := w.heap.size) Y2.out.size (fun j hj => by omega))⟩
    have hg : getN K T name = tz := by unfold getN; rw [← HTT.out, hbb]; rfl
    rw [hg]
    exact tz_is w3 D
end Go.Proofs.YtjkofndnhmfnoaaDoor
