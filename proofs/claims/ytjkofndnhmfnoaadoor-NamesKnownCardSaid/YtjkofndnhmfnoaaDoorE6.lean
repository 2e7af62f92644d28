/-
  Layer 20 (names): Value: contracts. Of any store in memory.
-/
import Derived.Test.YtjkofndnhmfnoaaDoorE5
namespace Go.Proofs.YtjkofndnhmfnoaaDoor
open Go Go.RowKit

theorem TIs.vis {w : World} {D : Nat → Prop} {t : TD} {A1 : Option Addr} {n1 c1 : Nat} {A2 : Option Addr} {n2 c2 : Nat} {A3 : Option Addr} {n3 c3 : Nat} {A4 : Option Addr} {n4 c4 : Nat} {A5 : Option Addr} {n5 c5 : Nat} (h : TIs w D (tL t A1 n1 c1 A2 n2 c2 A3 n3 c3 A4 n4 c4 A5 n5 c5) t) :
    VIs w D [.bool t.v.char, .slice A1 n1 c1, .slice A2 n2 c2] t.v := by
  obtain ⟨vs, fs, A, k, c, oes, e, hv, hf, hr, ho, hh⟩ := h
  obtain ⟨_, _, _, _, _, _, rfl, v1, v2⟩ := hv
  obtain ⟨_, _, _, _, _, _, rfl, f1, f2⟩ := hf
  unfold tL at e
  simp at e
  obtain ⟨⟨e1, e2, e3⟩, ⟨e4, e5, e6⟩, -⟩ := e
  subst e1 e2 e3 e4 e5 e6
  exact ⟨_, _, _, _, _, _, rfl, v1, v2⟩
theorem box3 {w : World} {b : Nat} {t : TypeId} {x0 x1 x2 : Value} (h : w.heap[b]? = some (.cells #[x0, x1, x2] t (0, 0))) :
    w.cell? ⟨b, 0, none⟩ = some x0 ∧ w.cell? ⟨b, 1, none⟩ = some x1 ∧ w.cell? ⟨b, 2, none⟩ = some x2 :=
  ⟨by rw [cell_of_row w b 0 _ _ _ h]; rfl, by rw [cell_of_row w b 1 _ _ _ h]; rfl, by rw [cell_of_row w b 2 _ _ _ h]; rfl⟩
set_option maxRecDepth 100000 in
set_option maxHeartbeats 1600000 in
theorem value_one (own D : Nat → Prop) (r : Nat) (s : St) (name : ByteArray) (w : World) (h : SS w own D r s) (hk : name.size ≤ 900000) (hd : (s.name name).kind = 1) :
    Calls Tryd.prog 25 #[.pointer (some ⟨r, 0, none⟩), .string name] w fun e w' => ∃ A n c B m d, e = .returned (.tuple #[.agg #[.bool (s.name name).v.char, .slice A n c, .slice B m d], .int .i64 0]) ∧ VIs w' D [.bool (s.name name).v.char, .slice A n c, .slice B m d] (s.name name).v ∧ Below w.heap.size w w' := by
  have HB := Lib.hid (fun (w : World) o => (Below.refl w.heap.size w).alloc (Nat.le_refl _) o)
  have HG := Lib.hid (fun w2 (hb : Below w.heap.size w w2) => getN_any own D r s.K s.T s.G name w2 (h.below hb) (by omega))
  have HDL := Lib.hid h.dlt
  obtain ⟨t, htt⟩ : ∃ t, t = s.name name := ⟨_, rfl⟩
  have HTT : RowKit.Hid (getN s.K s.T name = t) := htt.symm
  rw [← htt] at hd ⊢
  clear h htt
  go_enter Tryd.func25, Tryd.ntmps25
  go_wp2_with fail
  refine (HG.out _ (HB.out _ _)).mono ?_
  rw [HTT.out]
  rintro e w1 ⟨ts, rfl, ht, hb1⟩
  obtain ⟨A1, n1, c1, A2, n2, c2, A3, n3, c3, A4, n4, c4, A5, n5, c5, rfl⟩ := ht.full
  rw [hd]
  have HV := Lib.hid (TIs.vis ht)
  have X1 := Lib.hid ((hb1.block w.heap.size (by simp)).trans (heap_alloc_new w _))
  have Y1 := Lib.hid ((HB.out w _).trans (hb1.mono (HB.out w _).size))
  clear ht hb1 HG hd
  have hx2 : ∀ o, (w1.alloc o).heap[w.heap.size]? = some (.cells #[.bool false, .slice none 0 0, .slice none 0 0] 27 (0, 0)) := fun o => (Below.heap_alloc w1 _ _ (lt_of_block X1.out)).trans X1.out
  have f := fun o => frozen_box (hx2 o)
  have v0 := fun o => (box3 (hx2 o)).1
  have v1 := fun o => (box3 (hx2 o)).2.1
  have v2 := fun o => (box3 (hx2 o)).2.2
  have HX2 := Lib.hid hx2
  clear hx2
  go_wp2
  change bodyPost _ _ _ _ _ (storeAll w.heap.size (w1.alloc (.cells #[.int .u8 1, .bool t.v.char, .slice A1 n1 c1, .slice A2 n2 c2, .string t.f.name, .string t.f.result, .string t.f.left, .string t.f.right, .slice A3 n3 c3, .slice A4 n4 c4, .int .i64 t.f.version, .slice A5 n5 c5, .int .i64 t.n, .string t.s] 53)) 0 [.bool t.v.char, .slice A1 n1 c1, .slice A2 n2 c2])
  have HX := Lib.hid (HX2.out (.cells #[.int .u8 1, .bool t.v.char, .slice A1 n1 c1, .slice A2 n2 c2, .string t.f.name, .string t.f.result, .string t.f.left, .string t.f.right, .slice A3 n3 c3, .slice A4 n4 c4, .int .i64 t.f.version, .slice A5 n5 c5, .int .i64 t.n, .string t.s] 53))
  have YA := Lib.hid (Y1.out.trans ((HB.out w1 (.cells #[.int .u8 1, .bool t.v.char, .slice A1 n1 c1, .slice A2 n2 c2, .string t.f.name, .string t.f.result, .string t.f.left, .string t.f.right, .slice A3 n3 c3, .slice A4 n4 c4, .int .i64 t.f.version, .slice A5 n5 c5, .int .i64 t.n, .string t.s] 53)).mono Y1.out.size))
  have VA := Lib.hid (HV.out.below (HB.out w1 (.cells #[.int .u8 1, .bool t.v.char, .slice A1 n1 c1, .slice A2 n2 c2, .string t.f.name, .string t.f.result, .string t.f.left, .string t.f.right, .slice A3 n3 c3, .slice A4 n4 c4, .int .i64 t.f.version, .slice A5 n5 c5, .int .i64 t.n, .string t.s] 53)))
  obtain ⟨w3, hw3⟩ : ∃ w3, w3 = storeAll w.heap.size (w1.alloc (.cells #[.int .u8 1, .bool t.v.char, .slice A1 n1 c1, .slice A2 n2 c2, .string t.f.name, .string t.f.result, .string t.f.left, .string t.f.right, .slice A3 n3 c3, .slice A4 n4 c4, .int .i64 t.f.version, .slice A5 n5 c5, .int .i64 t.n, .string t.s] 53)) 0 [.bool t.v.char, .slice A1 n1 c1, .slice A2 n2 c2] := ⟨_, rfl⟩
  have h3 := storeAll_heap [.bool t.v.char, .slice A1 n1 c1, .slice A2 n2 c2] (w1.alloc (.cells #[.int .u8 1, .bool t.v.char, .slice A1 n1 c1, .slice A2 n2 c2, .string t.f.name, .string t.f.result, .string t.f.left, .string t.f.right, .slice A3 n3 c3, .slice A4 n4 c4, .int .i64 t.f.version, .slice A5 n5 c5, .int .i64 t.n, .string t.s] 53)) 0 _ HX.out (by simp)
  have hc3 := storeAll_chg (b := w.heap.size) [.bool t.v.char, .slice A1 n1 c1, .slice A2 n2 c2] (w1.alloc (.cells #[.int .u8 1, .bool t.v.char, .slice A1 n1 c1, .slice A2 n2 c2, .string t.f.name, .string t.f.result, .string t.f.left, .string t.f.right, .slice A3 n3 c3, .slice A4 n4 c4, .int .i64 t.f.version, .slice A5 n5 c5, .int .i64 t.n, .string t.s] 53)) 0
  rw [← hw3] at h3 hc3 ⊢
  clear hw3
  have HC3 := Lib.hid hc3
  obtain ⟨u0, u1, u2⟩ := box3 h3
  clear h3 hc3 v0 v1 v2 f
  exact bodyPost_ret (v := .tuple #[.agg #[.bool t.v.char, .slice A1 n1 c1, .slice A2 n2 c2], .int .i64 0]) (by simp [results, Tryd.results25, go_sem, u0, u1, u2]) rfl ⟨_, _, _, _, _, _, rfl, VA.out.chg HC3.out (fun b hb e => by have := HDL.out b hb; omega), YA.out.trans (HC3.out.below (B := w.heap.size) YA.out.size (fun j hj => by omega))⟩
set_option maxRecDepth 100000 in
set_option maxHeartbeats 1600000 in
theorem value_none (own D : Nat → Prop) (r : Nat) (s : St) (name : ByteArray) (w : World) (h : SS w own D r s) (hk : name.size ≤ 900000) (hd : (s.name name).kind ≠ 1 ∧ (s.name name).kind ≠ 3) :
    Calls Tryd.prog 25 #[.pointer (some ⟨r, 0, none⟩), .string name] w fun e w' => e = .returned (.tuple #[.agg #[.bool false, .slice none 0 0, .slice none 0 0], .int .i64 22]) ∧ Below w.heap.size w w' := by
  have HB := Lib.hid (fun (w : World) o => (Below.refl w.heap.size w).alloc (Nat.le_refl _) o)
  have HG := Lib.hid (fun w2 (hb : Below w.heap.size w w2) => getN_any own D r s.K s.T s.G name w2 (h.below hb) (by omega))
  have HDL := Lib.hid h.dlt
  obtain ⟨t, htt⟩ : ∃ t, t = s.name name := ⟨_, rfl⟩
  have HTT : RowKit.Hid (getN s.K s.T name = t) := htt.symm
  rw [← htt] at hd
  clear h htt
  go_enter Tryd.func25, Tryd.ntmps25
  go_wp2_with fail
  refine (HG.out _ (HB.out _ _)).mono ?_
  rw [HTT.out]
  rintro e w1 ⟨ts, rfl, ht, hb1⟩
  obtain ⟨A1, n1, c1, A2, n2, c2, A3, n3, c3, A4, n4, c4, A5, n5, c5, rfl⟩ := ht.full
  have e1 : (t.kind == 1) = false := by rw [beq_eq_false_iff_ne]; exact hd.1
  have e3 : (t.kind == 3) = false := by rw [beq_eq_false_iff_ne]; exact hd.2
  have HV := Lib.hid (TIs.vis ht)
  have X1 := Lib.hid ((hb1.block w.heap.size (by simp)).trans (heap_alloc_new w _))
  have Y1 := Lib.hid ((HB.out w _).trans (hb1.mono (HB.out w _).size))
  clear ht hb1 HG hd
  have hx2 : ∀ o, (w1.alloc o).heap[w.heap.size]? = some (.cells #[.bool false, .slice none 0 0, .slice none 0 0] 27 (0, 0)) := fun o => (Below.heap_alloc w1 _ _ (lt_of_block X1.out)).trans X1.out
  have f := fun o => frozen_box (hx2 o)
  have v0 := fun o => (box3 (hx2 o)).1
  have v1 := fun o => (box3 (hx2 o)).2.1
  have v2 := fun o => (box3 (hx2 o)).2.2
  have HX2 := Lib.hid hx2
  clear hx2
  go_wp2
  change bodyPost _ _ _ _ _ (storeAll w.heap.size (w1.alloc (.cells #[.int .u8 t.kind, .bool t.v.char, .slice A1 n1 c1, .slice A2 n2 c2, .string t.f.name, .string t.f.result, .string t.f.left, .string t.f.right, .slice A3 n3 c3, .slice A4 n4 c4, .int .i64 t.f.version, .slice A5 n5 c5, .int .i64 t.n, .string t.s] 53)) 0 [.bool false, .slice none 0 0, .slice none 0 0])
  have HX := Lib.hid (HX2.out (.cells #[.int .u8 t.kind, .bool t.v.char, .slice A1 n1 c1, .slice A2 n2 c2, .string t.f.name, .string t.f.result, .string t.f.left, .string t.f.right, .slice A3 n3 c3, .slice A4 n4 c4, .int .i64 t.f.version, .slice A5 n5 c5, .int .i64 t.n, .string t.s] 53))
  have YA := Lib.hid (Y1.out.trans ((HB.out w1 (.cells #[.int .u8 t.kind, .bool t.v.char, .slice A1 n1 c1, .slice A2 n2 c2, .string t.f.name, .string t.f.result, .string t.f.left, .string t.f.right, .slice A3 n3 c3, .slice A4 n4 c4, .int .i64 t.f.version, .slice A5 n5 c5, .int .i64 t.n, .string t.s] 53)).mono Y1.out.size))
  obtain ⟨w3, hw3⟩ : ∃ w3, w3 = storeAll w.heap.size (w1.alloc (.cells #[.int .u8 t.kind, .bool t.v.char, .slice A1 n1 c1, .slice A2 n2 c2, .string t.f.name, .string t.f.result, .string t.f.left, .string t.f.right, .slice A3 n3 c3, .slice A4 n4 c4, .int .i64 t.f.version, .slice A5 n5 c5, .int .i64 t.n, .string t.s] 53)) 0 [.bool false, .slice none 0 0, .slice none 0 0] := ⟨_, rfl⟩
  have h3 := storeAll_heap [.bool false, .slice none 0 0, .slice none 0 0] (w1.alloc (.cells #[.int .u8 t.kind, .bool t.v.char, .slice A1 n1 c1, .slice A2 n2 c2, .string t.f.name, .string t.f.result, .string t.f.left, .string t.f.right, .slice A3 n3 c3, .slice A4 n4 c4, .int .i64 t.f.version, .slice A5 n5 c5, .int .i64 t.n, .string t.s] 53)) 0 _ HX.out (by simp)
  have hc3 := storeAll_chg (b := w.heap.size) [.bool false, .slice none 0 0, .slice none 0 0] (w1.alloc (.cells #[.int .u8 t.kind, .bool t.v.char, .slice A1 n1 c1, .slice A2 n2 c2, .string t.f.name, .string t.f.result, .string t.f.left, .string t.f.right, .slice A3 n3 c3, .slice A4 n4 c4, .int .i64 t.f.version, .slice A5 n5 c5, .int .i64 t.n, .string t.s] 53)) 0
  rw [← hw3] at h3 hc3 ⊢
  clear hw3
  have HC3 := Lib.hid hc3
  obtain ⟨u0, u1, u2⟩ := box3 h3
  clear h3 hc3 v0 v1 v2 f
  exact bodyPost_ret (v := .tuple #[.agg #[.bool false, .slice none 0 0, .slice none 0 0], .int .i64 22]) (by simp [results, Tryd.results25, go_sem, u0, u1, u2]) rfl ⟨rfl, YA.out.trans (HC3.out.below (B := w.heap.size) YA.out.size (fun j hj => by omega))⟩
set_option maxRecDepth 100000 in
set_option maxHeartbeats 1600000 in
theorem value_label (own D : Nat → Prop) (r : Nat) (s : St) (name : ByteArray) (w : World) (h : SS w own D r s) (hk : name.size ≤ 900000) (hd : (s.name name).kind = 3) :
    Calls Tryd.prog 25 #[.pointer (some ⟨r, 0, none⟩), .string name] w fun e w' => ∃ x, e = .returned (.tuple #[.agg #[.bool false, .slice none 0 0, .slice (some ⟨x, 0, none⟩) 1 1], .int .i64 0]) ∧ Rd w' (fun b => w.heap.size ≤ b) 1 (some ⟨x, 0, none⟩) 1 1 (intRows .i64 [(s.name name).n]) ∧ Below w.heap.size w w' := by
  have HB := Lib.hid (fun (w : World) o => (Below.refl w.heap.size w).alloc (Nat.le_refl _) o)
  have HG := Lib.hid (fun w2 (hb : Below w.heap.size w w2) => getN_any own D r s.K s.T s.G name w2 (h.below hb) (by omega))
  have HDL := Lib.hid h.dlt
  obtain ⟨t, htt⟩ : ∃ t, t = s.name name := ⟨_, rfl⟩
  have HTT : RowKit.Hid (getN s.K s.T name = t) := htt.symm
  rw [← htt] at hd ⊢
  clear h htt
  go_enter Tryd.func25, Tryd.ntmps25
  go_wp2_with fail
  refine (HG.out _ (HB.out _ _)).mono ?_
  rw [HTT.out]
  rintro e w1 ⟨ts, rfl, ht, hb1⟩
  obtain ⟨A1, n1, c1, A2, n2, c2, A3, n3, c3, A4, n4, c4, A5, n5, c5, rfl⟩ := ht.full
  rw [hd]
  have HV := Lib.hid (TIs.vis ht)
  have X1 := Lib.hid ((hb1.block w.heap.size (by simp)).trans (heap_alloc_new w _))
  have Y1 := Lib.hid ((HB.out w _).trans (hb1.mono (HB.out w _).size))
  clear ht hb1 HG hd
  go_wp2_with fail
  refine (scalar02_any t.n _).mono ?_
  rintro e w2 ⟨x, rfl, hr, hb2⟩
  have HX := Lib.hid ((hb2.block w.heap.size (by have := lt_of_block X1.out; simp; omega)).trans ((Below.heap_alloc w1 _ _ (lt_of_block X1.out)).trans X1.out))
  have YA := Lib.hid ((Y1.out.trans ((HB.out w1 _).mono Y1.out.size)).trans (hb2.mono (Nat.le_trans Y1.out.size (HB.out w1 _).size)))
  have HZ := lt_of_block X1.out
  have RR : RowKit.Hid (Rd w2 (fun b => w.heap.size < b) 1 (some ⟨x, 0, none⟩) 1 1 (intRows .i64 [t.n])) := hr.mono (fun b _ h => by simp at h; omega) (by decide)
  clear hr hb2 HZ
  have hx2 : w2.heap[w.heap.size]? = some (.cells #[.bool false, .slice none 0 0, .slice none 0 0] 27 (0, 0)) := HX.out
  have f := frozen_box hx2
  obtain ⟨v0, v1, v2⟩ := box3 hx2
  go_wp2
  change bodyPost _ _ _ _ _ (storeAll w.heap.size w2 0 [.bool false, .slice none 0 0, .slice (some ⟨x, 0, none⟩) 1 1])
  obtain ⟨w3, hw3⟩ : ∃ w3, w3 = storeAll w.heap.size w2 0 [.bool false, .slice none 0 0, .slice (some ⟨x, 0, none⟩) 1 1] := ⟨_, rfl⟩
  have h3 := storeAll_heap [.bool false, .slice none 0 0, .slice (some ⟨x, 0, none⟩) 1 1] w2 0 _ HX.out (by simp)
  have hc3 := storeAll_chg (b := w.heap.size) [.bool false, .slice none 0 0, .slice (some ⟨x, 0, none⟩) 1 1] w2 0
  rw [← hw3] at h3 hc3 ⊢
  clear hw3
  have HC3 := Lib.hid hc3
  obtain ⟨u0, u1, u2⟩ := box3 h3
  clear h3 hc3 v0 v1 v2 f
  exact bodyPost_ret (v := .tuple #[.agg #[.bool false, .slice none 0 0, .slice (some ⟨x, 0, none⟩) 1 1], .int .i64 0]) (by simp [results, Tryd.results25, go_sem, u0, u1, u2]) rfl ⟨_, rfl, (RR.out.chg HC3.out (fun b hb e => by omega)).mono (fun b _ h => Nat.le_of_lt h) (by decide), YA.out.trans (HC3.out.below (B := w.heap.size) YA.out.size (fun j hj => by omega))⟩
end Go.Proofs.YtjkofndnhmfnoaaDoor
