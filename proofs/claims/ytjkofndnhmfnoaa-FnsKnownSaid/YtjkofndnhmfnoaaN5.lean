/-
  Layer 21 (fns): Fix: contracts at a function of which the name alone is told. Of any store in memory whose keys are of moderate size.
-/
import Derived.Test.YtjkofndnhmfnoaaN4
namespace Go.Proofs.Ytjkofndnhmfnoaa
open Go Go.RowKit

/-- The key of the count of versions: m/version. -/
def mver : ByteArray := ⟨#[109, 47, 118, 101, 114, 115, 105, 111, 110]⟩
def fnOf (name : ByteArray) (v : Int) : FD := ⟨name, ⟨#[]⟩, ⟨#[]⟩, ⟨#[]⟩, [], [], v⟩
def fnT (name : ByteArray) (v : Int) : TD := ⟨2, vz, fnOf name v, [], 0, ⟨#[]⟩⟩
def fnV (name : ByteArray) (v : Int) : List Value := [.string name, .string ⟨#[]⟩, .string ⟨#[]⟩, .string ⟨#[]⟩, .slice none 0 0, .slice none 0 0, .int .i64 v]
def fnE (name : ByteArray) (v : Int) : List Value := [.int .u8 2, .bool false, .slice none 0 0, .slice none 0 0] ++ fnV name v ++ [.slice none 0 0, .int .i64 0, .string ⟨#[]⟩]
theorem fnT_is (w : World) (D : Nat → Prop) (name : ByteArray) (v : Int) : TIs w D (fnE name v) (fnT name v) :=
  ⟨[.bool false, .slice none 0 0, .slice none 0 0], fnV name v, none, 0, 0, [], rfl, ⟨none, 0, 0, none, 0, 0, rfl, Rd.nil _ _ _, Rd.nil _ _ _⟩, ⟨none, 0, 0, none, 0, 0, rfl, Rd.nil _ _ _, Rd.nil _ _ _⟩, Rd.nil _ _ _, rfl, by simp⟩
/-- The last version. -/
def lastV (s : St) : Int := if (s.look mver).kind = 5 then (s.look mver).n else 0
/-- What the count of versions is behind Fix, and the store. -/
def lastT (s : St) : TD := { (if (s.look mver).kind = 5 then s.look mver else numT 5 0) with n := lastV s + 1 }
def St.fix (s : St) (name : ByteArray) : St := (s.put mver (lastT s)).bind name (fnT name (lastV s + 1))
set_option maxRecDepth 100000 in
set_option maxHeartbeats 1600000 in
theorem fix_bad (own D : Nat → Prop) (r : Nat) (s : St) (name : ByteArray) (w : World) (h : SS w own D r s) (hk : name.size ≤ 1000000) (hn : nameB name = false) :
    Calls Try.prog 8 #[.pointer (some ⟨r, 0, none⟩), .agg #[.string name, .string ⟨#[]⟩, .string ⟨#[]⟩, .string ⟨#[]⟩, .slice none 0 0, .slice none 0 0, .int .i64 0]] w fun e w' => e = .returned (.int .i64 1) ∧ Below w.heap.size w w' := by
  have HB := Lib.hid (fun (w : World) o => (Below.refl w.heap.size w).alloc (Nat.le_refl _) o)
  have HG := Lib.hid (fun w2 (hb : Below w.heap.size w w2) => getN_any own D r s.K s.T s.G name w2 (h.below hb) hk)
  have HN := Lib.hid hn
  clear h hn
  go_enter Try.func8, Try.ntmps8
  go_wp2_with fail
  refine (HG.out _ (HB.out _ _)).mono ?_
  rintro e w1 ⟨ts, rfl, ht, hb1⟩
  obtain ⟨A1, n1, c1, A2, n2, c2, A3, n3, c3, A4, n4, c4, A5, n5, c5, rfl⟩ := ht.full
  have Y1 := Lib.hid ((HB.out _ _).trans (hb1.mono (HB.out _ _).size))
  have p0 : w1.cell? ⟨w.heap.size, 0, none⟩ = some (.string name) := by
    rw [cell_of_row w1 _ 0 _ _ _ ((hb1.block w.heap.size (by simp)).trans (heap_alloc_new w _))]
    rfl
  have pa : ∀ o, (w1.alloc o).cell? ⟨w.heap.size, 0, none⟩ = some (.string name) := fun o => below_cell (HB.out w1 o) p0
  clear ht hb1 HG
  go_wp2_with fail
  refine (is_any name _ hk).mono ?_
  rintro e w2 ⟨rfl, hb2⟩
  rw [HN.out]
  have Y2 := Lib.hid ((Y1.out.alloc Y1.out.size _).trans (hb2.mono (by have := Y1.out.size; simp; omega)))
  clear hb2 p0 pa
  go_wp2
  go_ret
  exact ⟨rfl, Y2.out⟩
/-! ### The other ways -/
theorem box7 {w : World} {b : Nat} {t : TypeId} {x0 x1 x2 x3 x4 x5 x6 : Value} (h : w.heap[b]? = some (.cells #[x0, x1, x2, x3, x4, x5, x6] t (0, 0))) :
    w.cell? ⟨b, 0, none⟩ = some x0 ∧ w.cell? ⟨b, 1, none⟩ = some x1 ∧ w.cell? ⟨b, 2, none⟩ = some x2 ∧ w.cell? ⟨b, 3, none⟩ = some x3 ∧ w.cell? ⟨b, 4, none⟩ = some x4 ∧ w.cell? ⟨b, 5, none⟩ = some x5 ∧ w.cell? ⟨b, 6, none⟩ = some x6 :=
  ⟨by rw [cell_of_row w b 0 _ _ _ h]; rfl, by rw [cell_of_row w b 1 _ _ _ h]; rfl, by rw [cell_of_row w b 2 _ _ _ h]; rfl, by rw [cell_of_row w b 3 _ _ _ h]; rfl, by rw [cell_of_row w b 4 _ _ _ h]; rfl, by rw [cell_of_row w b 5 _ _ _ h]; rfl, by rw [cell_of_row w b 6 _ _ _ h]; rfl⟩
theorem wrap_in {n : Int} (h1 : -9223372036854775808 ≤ n) (h2 : n ≤ 9223372036854775807) : IntKind.i64.wrap n = n := by
  simp [IntKind.wrap, IntKind.bits, IntKind.signed]
  omega
theorem TIs.setN {w : World} {D : Nat → Prop} {t : TD} {A1 : Option Addr} {n1 c1 : Nat} {A2 : Option Addr} {n2 c2 : Nat} {A3 : Option Addr} {n3 c3 : Nat} {A4 : Option Addr} {n4 c4 : Nat} {A5 : Option Addr} {n5 c5 : Nat} (h : TIs w D (tL t A1 n1 c1 A2 n2 c2 A3 n3 c3 A4 n4 c4 A5 n5 c5) t) (n : Int) :
    TIs w D (tL { t with n := n } A1 n1 c1 A2 n2 c2 A3 n3 c3 A4 n4 c4 A5 n5 c5) { t with n := n } := by
  obtain ⟨vs, fs, A, k, c, oes, e, hv, hf, hr, ho, hh⟩ := h
  obtain ⟨_, _, _, _, _, _, rfl, v1, v2⟩ := hv
  obtain ⟨_, _, _, _, _, _, rfl, f1, f2⟩ := hf
  refine ⟨_, _, A, k, c, oes, ?_, ⟨_, _, _, _, _, _, rfl, v1, v2⟩, ⟨_, _, _, _, _, _, rfl, f1, f2⟩, hr, ho, hh⟩
  unfold tL at e ⊢
  simp at e ⊢
  exact e
set_option maxRecDepth 100000 in
set_option maxHeartbeats 3200000 in
theorem fix_dom (own D : Nat → Prop) (r : Nat) (s : St) (name : ByteArray) (w : World) (h : SS w own D r s) (hk : name.size ≤ 1000000) (hK : s.K.length ≤ 1000000) (hz : ∀ k ∈ s.K, k.size ≤ 1000000) (hn : nameB name = true) (hd : (s.name name).kind = 1 ∨ (s.name name).kind = 3) :
    Calls Try.prog 8 #[.pointer (some ⟨r, 0, none⟩), .agg #[.string name, .string ⟨#[]⟩, .string ⟨#[]⟩, .string ⟨#[]⟩, .slice none 0 0, .slice none 0 0, .int .i64 0]] w fun e w' => e = .returned (.int .i64 23) ∧ Below w.heap.size w w' := by
  have HD := Lib.hid hd
  clear hd
  have HB := Lib.hid (fun (w : World) o => (Below.refl w.heap.size w).alloc (Nat.le_refl _) o)
  have HG := Lib.hid (fun w2 (hb : Below w.heap.size w w2) => getN_any own D r s.K s.T s.G name w2 (h.below hb) hk)
  have HF := Lib.hid (fun w2 (hb : Below w.heap.size w w2) => fns_any own D r s w2 (h.below hb) hK hz)
  have HN := Lib.hid hn
  have HH := Lib.hid h
  clear h hn hz
  go_enter Try.func8, Try.ntmps8
  go_wp2_with fail
  refine (HG.out _ (HB.out _ _)).mono ?_
  rintro e w1 ⟨ts, rfl, ht, hb1⟩
  obtain ⟨t, htt⟩ : ∃ t, t = getN s.K s.T name := ⟨_, rfl⟩
  rw [← htt] at ht
  obtain ⟨A1, n1, c1, A2, n2, c2, A3, n3, c3, A4, n4, c4, A5, n5, c5, rfl⟩ := ht.full
  have HTT := Lib.hid (show t = s.name name from htt)
  have Y1 := Lib.hid ((HB.out _ _).trans (hb1.mono (HB.out _ _).size))
  have FB1 := Lib.hid ((hb1.block w.heap.size (by simp)).trans (heap_alloc_new w _))
  have p0 : w1.cell? ⟨w.heap.size, 0, none⟩ = some (.string name) := by
    rw [cell_of_row w1 _ 0 _ _ _ FB1.out]
    rfl
  have pa : ∀ o, (w1.alloc o).cell? ⟨w.heap.size, 0, none⟩ = some (.string name) := fun o => below_cell (HB.out w1 o) p0
  clear ht hb1 HG htt
  go_wp2_with fail
  refine (is_any name _ hk).mono ?_
  rintro e w2 ⟨rfl, hb2⟩
  rw [HN.out]
  have Y2 := Lib.hid ((Y1.out.alloc Y1.out.size _).trans (hb2.mono (by have := Y1.out.size; simp; omega)))
  have FB2 := Lib.hid ((hb2.block w.heap.size (by have := lt_of_block FB1.out; simp; omega)).trans ((Below.heap_alloc w1 _ _ (lt_of_block FB1.out)).trans FB1.out))
  have k2 : w2.cell? ⟨w1.heap.size, 0, none⟩ = some (.int .u8 t.kind) := by
    rw [cell_of_row w2 _ 0 _ _ _ ((hb2.block w1.heap.size (by simp)).trans (heap_alloc_new w1 (.cells #[.int .u8 t.kind, .bool t.v.char, .slice A1 n1 c1, .slice A2 n2 c2, .string t.f.name, .string t.f.result, .string t.f.left, .string t.f.right, .slice A3 n3 c3, .slice A4 n4 c4, .int .i64 t.f.version, .slice A5 n5 c5, .int .i64 t.n, .string t.s] 39)))]
    rfl
  clear hb2 p0 pa FB1
  clear FB2 HF HH hK
  by_cases h1 : t.kind = 1
  · have e1 : (t.kind == 1) = true := by rw [h1]; rfl
    clear h1
    go_wp2
    go_ret
    exact ⟨rfl, Y2.out⟩
  · have h3 : t.kind = 3 := by
      have := HD.out
      rw [← HTT.out] at this
      omega
    have e1 : (t.kind == 1) = false := by rw [h3]; rfl
    have e3 : (t.kind == 3) = true := by rw [h3]; rfl
    clear h1 h3
    go_wp2
    go_ret
    exact ⟨rfl, Y2.out⟩
set_option maxRecDepth 100000 in
set_option maxHeartbeats 3200000 in
theorem fix_full (own D : Nat → Prop) (r : Nat) (s : St) (name : ByteArray) (w : World) (h : SS w own D r s) (hk : name.size ≤ 1000000) (hK : s.K.length ≤ 1000000) (hz : ∀ k ∈ s.K, k.size ≤ 1000000) (hn : nameB name = true) (hd : (s.name name).kind = 0) (hf : 50 ≤ (allN s 2).length) :
    Calls Try.prog 8 #[.pointer (some ⟨r, 0, none⟩), .agg #[.string name, .string ⟨#[]⟩, .string ⟨#[]⟩, .string ⟨#[]⟩, .slice none 0 0, .slice none 0 0, .int .i64 0]] w fun e w' => e = .returned (.int .i64 27) ∧ Below w.heap.size w w' := by
  have HD := Lib.hid hd
  have hf' : (50 : Int) ≤ ((allN s 2).length : Int) := by omega
  clear hd hf
  have HB := Lib.hid (fun (w : World) o => (Below.refl w.heap.size w).alloc (Nat.le_refl _) o)
  have HG := Lib.hid (fun w2 (hb : Below w.heap.size w w2) => getN_any own D r s.K s.T s.G name w2 (h.below hb) hk)
  have HF := Lib.hid (fun w2 (hb : Below w.heap.size w w2) => fns_any own D r s w2 (h.below hb) hK hz)
  have HN := Lib.hid hn
  have HH := Lib.hid h
  clear h hn hz
  go_enter Try.func8, Try.ntmps8
  go_wp2_with fail
  refine (HG.out _ (HB.out _ _)).mono ?_
  rintro e w1 ⟨ts, rfl, ht, hb1⟩
  obtain ⟨t, htt⟩ : ∃ t, t = getN s.K s.T name := ⟨_, rfl⟩
  rw [← htt] at ht
  obtain ⟨A1, n1, c1, A2, n2, c2, A3, n3, c3, A4, n4, c4, A5, n5, c5, rfl⟩ := ht.full
  have HTT := Lib.hid (show t = s.name name from htt)
  have Y1 := Lib.hid ((HB.out _ _).trans (hb1.mono (HB.out _ _).size))
  have FB1 := Lib.hid ((hb1.block w.heap.size (by simp)).trans (heap_alloc_new w _))
  have p0 : w1.cell? ⟨w.heap.size, 0, none⟩ = some (.string name) := by
    rw [cell_of_row w1 _ 0 _ _ _ FB1.out]
    rfl
  have pa : ∀ o, (w1.alloc o).cell? ⟨w.heap.size, 0, none⟩ = some (.string name) := fun o => below_cell (HB.out w1 o) p0
  clear ht hb1 HG htt
  go_wp2_with fail
  refine (is_any name _ hk).mono ?_
  rintro e w2 ⟨rfl, hb2⟩
  rw [HN.out]
  have Y2 := Lib.hid ((Y1.out.alloc Y1.out.size _).trans (hb2.mono (by have := Y1.out.size; simp; omega)))
  have FB2 := Lib.hid ((hb2.block w.heap.size (by have := lt_of_block FB1.out; simp; omega)).trans ((Below.heap_alloc w1 _ _ (lt_of_block FB1.out)).trans FB1.out))
  have k2 : w2.cell? ⟨w1.heap.size, 0, none⟩ = some (.int .u8 t.kind) := by
    rw [cell_of_row w2 _ 0 _ _ _ ((hb2.block w1.heap.size (by simp)).trans (heap_alloc_new w1 (.cells #[.int .u8 t.kind, .bool t.v.char, .slice A1 n1 c1, .slice A2 n2 c2, .string t.f.name, .string t.f.result, .string t.f.left, .string t.f.right, .slice A3 n3 c3, .slice A4 n4 c4, .int .i64 t.f.version, .slice A5 n5 c5, .int .i64 t.n, .string t.s] 39)))]
    rfl
  clear hb2 p0 pa FB1
  clear FB2 HH hK
  have h0 : t.kind = 0 := by rw [HTT.out]; exact HD.out
  have e0 : (t.kind == 0) = true := by rw [h0]; rfl
  have e1 : (t.kind == 1) = false := by rw [h0]; rfl
  have e3 : (t.kind == 3) = false := by rw [h0]; rfl
  clear h0
  go_wp2_with fail
  refine (HF.out w2 Y2.out).mono ?_
  rintro e w3 ⟨A, c, rfl, -, hb3⟩
  have Y3 := Lib.hid (Y2.out.trans (hb3.mono Y2.out.size))
  clear hb3 HF
  go_wp2
  go_ret
  exact ⟨rfl, Y3.out⟩
set_option maxRecDepth 100000 in
set_option maxHeartbeats 3200000 in
theorem fix_ok (own D : Nat → Prop) (r : Nat) (s : St) (name : ByteArray) (w : World) (h : SS w own D r s) (hk : name.size ≤ 1000000) (hK : s.K.length ≤ 1000000) (hz : ∀ k ∈ s.K, k.size ≤ 1000000) (hn : nameB name = true) (hG : s.G.length ≤ 900000) (hK2 : s.K.length ≤ 900000) (hd : ((s.name name).kind = 0 ∧ (allN s 2).length < 50) ∨ (s.name name).kind = 2) (hv : 0 ≤ lastV s ∧ lastV s ≤ 1000000) :
    Calls Try.prog 8 #[.pointer (some ⟨r, 0, none⟩), .agg #[.string name, .string ⟨#[]⟩, .string ⟨#[]⟩, .string ⟨#[]⟩, .slice none 0 0, .slice none 0 0, .int .i64 0]] w fun e w' => e = .returned (.int .i64 0) ∧ After w w' own D r (s.fix name) := by
  have HD := Lib.hid hd
  have HV := Lib.hid hv
  clear hd hv
  have HB := Lib.hid (fun (w : World) o => (Below.refl w.heap.size w).alloc (Nat.le_refl _) o)
  have HG := Lib.hid (fun w2 (hb : Below w.heap.size w w2) => getN_any own D r s.K s.T s.G name w2 (h.below hb) hk)
  have HF := Lib.hid (fun w2 (hb : Below w.heap.size w w2) => fns_any own D r s w2 (h.below hb) hK hz)
  have HN := Lib.hid hn
  have HH := Lib.hid h
  have HM := Lib.hid (fun w2 (hb : Below w.heap.size w w2) => cGet_any own D r s.K s.T s.G mver w2 (h.below hb) (by decide))
  clear h hn hz
  go_enter Try.func8, Try.ntmps8
  go_wp2_with fail
  refine (HG.out _ (HB.out _ _)).mono ?_
  rintro e w1 ⟨ts, rfl, ht, hb1⟩
  obtain ⟨t, htt⟩ : ∃ t, t = getN s.K s.T name := ⟨_, rfl⟩
  rw [← htt] at ht
  obtain ⟨A1, n1, c1, A2, n2, c2, A3, n3, c3, A4, n4, c4, A5, n5, c5, rfl⟩ := ht.full
  have HTT := Lib.hid (show t = s.name name from htt)
  have Y1 := Lib.hid ((HB.out _ _).trans (hb1.mono (HB.out _ _).size))
  have FB1 := Lib.hid ((hb1.block w.heap.size (by simp)).trans (heap_alloc_new w _))
  have p0 : w1.cell? ⟨w.heap.size, 0, none⟩ = some (.string name) := by
    rw [cell_of_row w1 _ 0 _ _ _ FB1.out]
    rfl
  have pa : ∀ o, (w1.alloc o).cell? ⟨w.heap.size, 0, none⟩ = some (.string name) := fun o => below_cell (HB.out w1 o) p0
  clear ht hb1 HG htt
  go_wp2_with fail
  refine (is_any name _ hk).mono ?_
  rintro e w2 ⟨rfl, hb2⟩
  rw [HN.out]
  have Y2 := Lib.hid ((Y1.out.alloc Y1.out.size _).trans (hb2.mono (by have := Y1.out.size; simp; omega)))
  have FB2 := Lib.hid ((hb2.block w.heap.size (by have := lt_of_block FB1.out; simp; omega)).trans ((Below.heap_alloc w1 _ _ (lt_of_block FB1.out)).trans FB1.out))
  have k2 : w2.cell? ⟨w1.heap.size, 0, none⟩ = some (.int .u8 t.kind) := by
    rw [cell_of_row w2 _ 0 _ _ _ ((hb2.block w1.heap.size (by simp)).trans (heap_alloc_new w1 (.cells #[.int .u8 t.kind, .bool t.v.char, .slice A1 n1 c1, .slice A2 n2 c2, .string t.f.name, .string t.f.result, .string t.f.left, .string t.f.right, .slice A3 n3 c3, .slice A4 n4 c4, .int .i64 t.f.version, .slice A5 n5 c5, .int .i64 t.n, .string t.s] 39)))]
    rfl
  clear hb2 p0 pa FB1
  by_cases h2 : t.kind = 2
  · have e0 : (t.kind == 0) = false := by rw [h2]; rfl
    have e1 : (t.kind == 1) = false := by rw [h2]; rfl
    have e3 : (t.kind == 3) = false := by rw [h2]; rfl
    clear h2 HF
    obtain ⟨wz, hwz⟩ : ∃ wz, wz = w2 := ⟨_, rfl⟩
    rw [← hwz] at Y2 FB2 k2 ⊢
    have YZ := Y2
    have FBZ := FB2
    clear hwz Y2 FB2
    go_wp2_with fail
    refine (HM.out wz YZ.out).mono ?_
    rintro e w4 ⟨ts4, rfl, ht4, hb4⟩
    obtain ⟨u, hu⟩ : ∃ u, u = getT s.K s.T mver := ⟨_, rfl⟩
    rw [← hu] at ht4
    obtain ⟨E1, m1, d1, E2, m2, d2, E3, m3, d3, E4, m4, d4, E5, m5, d5, rfl⟩ := ht4.full
    have HU := Lib.hid (show u = s.look mver from hu)
    have HZW := Lib.hid (show w.heap.size < w4.heap.size from Nat.lt_of_lt_of_le (lt_of_block FBZ.out) hb4.size)
    have Y4 := Lib.hid (YZ.out.trans (hb4.mono YZ.out.size))
    have FB4 := Lib.hid ((hb4.block _ (lt_of_block FBZ.out)).trans FBZ.out)
    have H4 := Lib.hid ht4
    clear ht4 hb4 hu
    by_cases h5 : u.kind = 5
    · have e5 : (u.kind == 5) = true := by rw [h5]; rfl
      have HLT : RowKit.Hid (({ u with n := u.n + 1 } : TD) = lastT s) := by
        show _ = _
        unfold lastT lastV
        rw [← HU.out, if_pos h5, if_pos h5]
      have HVN : RowKit.Hid (lastV s = u.n) := by show _ = _; unfold lastV; rw [← HU.out, if_pos h5]
      have hwn : IntKind.i64.wrap (u.n + 1) = u.n + 1 := by
        have := HV.out
        rw [HVN.out] at this
        exact wrap_in (by omega) (by omega)
      clear h5
      go_upto_region 14 with fail
      obtain ⟨w5, hw5⟩ : ∃ w5, w5 = w4.alloc (.cells #[.int .u8 u.kind, .bool u.v.char, .slice E1 m1 d1, .slice E2 m2 d2, .string u.f.name, .string u.f.result, .string u.f.left, .string u.f.right, .slice E3 m3 d3, .slice E4 m4 d4, .int .i64 u.f.version, .slice E5 m5 d5, .int .i64 (u.n + 1), .string u.s] 39) := ⟨_, rfl⟩
      rw [← hw5]
      have h5t : TIs w5 D [.int .u8 u.kind, .bool u.v.char, .slice E1 m1 d1, .slice E2 m2 d2, .string u.f.name, .string u.f.result, .string u.f.left, .string u.f.right, .slice E3 m3 d3, .slice E4 m4 d4, .int .i64 u.f.version, .slice E5 m5 d5, .int .i64 (u.n + 1), .string u.s] { u with n := u.n + 1 } := by rw [hw5]; exact (H4.out.setN (u.n + 1)).below (HB.out w4 _)
      have BX5 : w5.heap[w4.heap.size]? = some (.cells #[.int .u8 u.kind, .bool u.v.char, .slice E1 m1 d1, .slice E2 m2 d2, .string u.f.name, .string u.f.result, .string u.f.left, .string u.f.right, .slice E3 m3 d3, .slice E4 m4 d4, .int .i64 u.f.version, .slice E5 m5 d5, .int .i64 (u.n + 1), .string u.s] 39 (0, 0)) := by rw [hw5]; exact heap_alloc_new _ _
      have Y5 := Lib.hid (show Below w.heap.size w w5 by rw [hw5]; exact Y4.out.alloc Y4.out.size _)
      have FB5 : RowKit.Hid (w5.heap[w.heap.size]? = some (.cells #[.string name, .string ⟨#[]⟩, .string ⟨#[]⟩, .string ⟨#[]⟩, .slice none 0 0, .slice none 0 0, .int .i64 0] 32 (0, 0))) := by
        show _ = _
        rw [hw5]
        exact (Below.heap_alloc w4 _ _ (lt_of_block FB4.out)).trans FB4.out
      rw [HLT.out] at h5t
      have H5T := Lib.hid h5t
      have HBX5 := Lib.hid BX5
      have HZ45 : RowKit.Hid (w4.heap.size < w5.heap.size) := by show _ < _; rw [hw5]; (try simp)
      clear h5t hw5 H4 FB4
      obtain ⟨y0, y1, y2, y3, y4, y5, y6, y7, y8, y9, y10, y11, y12, y13⟩ := box14 BX5
      clear BX5
      go_wp2_with fail
      refine (cSet_any own D r s.K s.T s.G mver _ _ w5 (HH.out.below Y5.out) (by decide) (by omega) (by omega) H5T.out).mono ?_
      rintro e w6 ⟨rfl, own', h6, hg6⟩
      have hno : ∀ j, w.heap.size ≤ j → ¬ own j := fun j hj ho => by have := HH.out.lt j ho; omega
      have FB6 := Lib.hid ((hg6.chg.block w.heap.size (lt_of_block FB5.out) (hno _ (Nat.le_refl _))).trans FB5.out)
      have BX6 := Lib.hid ((hg6.chg.block w4.heap.size HZ45.out (hno _ Y4.out.size)).trans HBX5.out)
      have H6 := Lib.hid h6
      have G6 := Lib.hid hg6
      clear y0 y1 y2 y3 y4 y5 y6 y7 y8 y9 y10 y11 y12 y13 h6 hg6 hno FB5 HBX5
      have hne : w.heap.size ≠ w4.heap.size := by have := HZW.out; omega
      obtain ⟨y0, y1, y2, y3, y4, y5, y6, y7, y8, y9, y10, y11, y12, y13⟩ := box14 BX6.out
      obtain ⟨p0, p1, p2, p3, p4, p5, p6⟩ := box7 FB6.out
      have fz := frozen_box FB6.out
      go_upto_region 16 with fail
      obtain ⟨w7, hw7⟩ : ∃ w7, w7 = w6.setCell ⟨w.heap.size, 6, none⟩ (.int .i64 (u.n + 1)) := ⟨_, rfl⟩
      rw [← hw7]
      have FB7 : w7.heap[w.heap.size]? = some (.cells #[.string name, .string ⟨#[]⟩, .string ⟨#[]⟩, .string ⟨#[]⟩, .slice none 0 0, .slice none 0 0, .int .i64 (u.n + 1)] 32 (0, 0)) := by
        rw [hw7]
        exact heap_setCell_same _ _ 6 _ _ _ FB6.out
      have G05 := (Grow.below (a := own) Y5.out).trans G6.out
      have G07 : RowKit.Hid (Grow own own' w w7) := ⟨by rw [hw7]; exact G05.chg.setCell (p := ⟨w.heap.size, 6, none⟩) (.inr (Nat.le_refl _)) _, G05.new⟩
      have hno' : ¬ own' w.heap.size := fun ho => by
        rcases G6.out.new _ ho with h | h
        · have := HH.out.lt _ h
          omega
        · have := HZW.out
          have := HZ45.out
          omega
      have hnd' : ¬ D w.heap.size := fun hd => by have := HH.out.dlt _ hd; omega
      have S7 : RowKit.Hid (SS w7 own' D r (s.put mver (lastT s))) := by
        rw [hw7]
        exact SK.chg (S := fun j => j = w.heap.size) H6.out ((Chg.refl (fun j => j = w.heap.size) w6).setCell (p := ⟨w.heap.size, 6, none⟩) (.inl rfl) _) (fun b hb => by rw [hb]; exact ⟨hno', hnd'⟩)
      clear y0 y1 y2 y3 y4 y5 y6 y7 y8 y9 y10 y11 y12 y13 p0 p1 p2 p3 p4 p5 p6 fz hw7 G05 hno' hnd' FB6 BX6 hne H6
      obtain ⟨p0, p1, p2, p3, p4, p5, p6⟩ := box7 FB7
      have hG1 : (s.put mver (lastT s)).G.length ≤ 1000000 := by
        show (touchG s.K s.T s.G mver).length ≤ _
        unfold touchG
        split
        · omega
        · simp
          omega
      have hK1 : (s.put mver (lastT s)).K.length ≤ 1000000 := by
        have := insKS_len mver s.K
        show (insKS mver s.K).length ≤ _
        omega
      have HBI := Lib.hid (bind_good own' D r (s.put mver (lastT s)) name (fnE name (u.n + 1)) (fnT name (u.n + 1)) w7 S7.out hk hG1 hK1 (fnT_is w7 D name _) HN.out rfl)
      clear hG1 hK1 FB7
      go_wp2_with fail
      refine HBI.out.mono ?_
      rintro e w8 ⟨rfl, own2, h8, hg8⟩
      have HFX : RowKit.Hid (s.fix name = (s.put mver (lastT s)).bind name (fnT name (u.n + 1))) := by
        show _ = _
        unfold St.fix
        rw [HVN.out]
        (try rfl)
      go_wp2
      go_ret
      exact ⟨rfl, by rw [HFX.out]; exact ⟨own2, h8, G07.out.trans hg8⟩⟩
    · have e5 : (u.kind == 5) = false := by rw [beq_eq_false_iff_ne]; exact h5
      have HLT : RowKit.Hid (numT 5 1 = lastT s) := by
        show _ = _
        unfold lastT lastV
        rw [← HU.out, if_neg h5, if_neg h5]
        rfl
      have HVN : RowKit.Hid (lastV s = 0) := by show _ = _; unfold lastV; rw [← HU.out, if_neg h5]
      clear h5
      go_upto_region 14 with fail
      obtain ⟨w5, hw5⟩ : ∃ w5, w5 = w4.alloc (.cells #[.int .u8 5, .bool false, .slice none 0 0, .slice none 0 0, .string ⟨#[]⟩, .string ⟨#[]⟩, .string ⟨#[]⟩, .string ⟨#[]⟩, .slice none 0 0, .slice none 0 0, .int .i64 0, .slice none 0 0, .int .i64 1, .string ⟨#[]⟩] 39) := ⟨_, rfl⟩
      rw [← hw5]
      have h5t : TIs w5 D [.int .u8 5, .bool false, .slice none 0 0, .slice none 0 0, .string ⟨#[]⟩, .string ⟨#[]⟩, .string ⟨#[]⟩, .string ⟨#[]⟩, .slice none 0 0, .slice none 0 0, .int .i64 0, .slice none 0 0, .int .i64 1, .string ⟨#[]⟩] (numT 5 1) := numT_is w5 D 5 1
      have BX5 : w5.heap[w4.heap.size]? = some (.cells #[.int .u8 5, .bool false, .slice none 0 0, .slice none 0 0, .string ⟨#[]⟩, .string ⟨#[]⟩, .string ⟨#[]⟩, .string ⟨#[]⟩, .slice none 0 0, .slice none 0 0, .int .i64 0, .slice none 0 0, .int .i64 1, .string ⟨#[]⟩] 39 (0, 0)) := by rw [hw5]; exact heap_alloc_new _ _
      have Y5 := Lib.hid (show Below w.heap.size w w5 by rw [hw5]; exact Y4.out.alloc Y4.out.size _)
      have FB5 : RowKit.Hid (w5.heap[w.heap.size]? = some (.cells #[.string name, .string ⟨#[]⟩, .string ⟨#[]⟩, .string ⟨#[]⟩, .slice none 0 0, .slice none 0 0, .int .i64 0] 32 (0, 0))) := by
        show _ = _
        rw [hw5]
        exact (Below.heap_alloc w4 _ _ (lt_of_block FB4.out)).trans FB4.out
      rw [HLT.out] at h5t
      have H5T := Lib.hid h5t
      have HBX5 := Lib.hid BX5
      have HZ45 : RowKit.Hid (w4.heap.size < w5.heap.size) := by show _ < _; rw [hw5]; (try simp)
      clear h5t hw5 H4 FB4
      obtain ⟨y0, y1, y2, y3, y4, y5, y6, y7, y8, y9, y10, y11, y12, y13⟩ := box14 BX5
      clear BX5
      go_wp2_with fail
      refine (cSet_any own D r s.K s.T s.G mver _ _ w5 (HH.out.below Y5.out) (by decide) (by omega) (by omega) H5T.out).mono ?_
      rintro e w6 ⟨rfl, own', h6, hg6⟩
      have hno : ∀ j, w.heap.size ≤ j → ¬ own j := fun j hj ho => by have := HH.out.lt j ho; omega
      have FB6 := Lib.hid ((hg6.chg.block w.heap.size (lt_of_block FB5.out) (hno _ (Nat.le_refl _))).trans FB5.out)
      have BX6 := Lib.hid ((hg6.chg.block w4.heap.size HZ45.out (hno _ Y4.out.size)).trans HBX5.out)
      have H6 := Lib.hid h6
      have G6 := Lib.hid hg6
      clear y0 y1 y2 y3 y4 y5 y6 y7 y8 y9 y10 y11 y12 y13 h6 hg6 hno FB5 HBX5
      have hne : w.heap.size ≠ w4.heap.size := by have := HZW.out; omega
      obtain ⟨y0, y1, y2, y3, y4, y5, y6, y7, y8, y9, y10, y11, y12, y13⟩ := box14 BX6.out
      obtain ⟨p0, p1, p2, p3, p4, p5, p6⟩ := box7 FB6.out
      have fz := frozen_box FB6.out
      go_upto_region 16 with fail
      obtain ⟨w7, hw7⟩ : ∃ w7, w7 = w6.setCell ⟨w.heap.size, 6, none⟩ (.int .i64 1) := ⟨_, rfl⟩
      rw [← hw7]
      have FB7 : w7.heap[w.heap.size]? = some (.cells #[.string name, .string ⟨#[]⟩, .string ⟨#[]⟩, .string ⟨#[]⟩, .slice none 0 0, .slice none 0 0, .int .i64 1] 32 (0, 0)) := by
        rw [hw7]
        exact heap_setCell_same _ _ 6 _ _ _ FB6.out
      have G05 := (Grow.below (a := own) Y5.out).trans G6.out
      have G07 : RowKit.Hid (Grow own own' w w7) := ⟨by rw [hw7]; exact G05.chg.setCell (p := ⟨w.heap.size, 6, none⟩) (.inr (Nat.le_refl _)) _, G05.new⟩
      have hno' : ¬ own' w.heap.size := fun ho => by
        rcases G6.out.new _ ho with h | h
        · have := HH.out.lt _ h
          omega
        · have := HZW.out
          have := HZ45.out
          omega
      have hnd' : ¬ D w.heap.size := fun hd => by have := HH.out.dlt _ hd; omega
      have S7 : RowKit.Hid (SS w7 own' D r (s.put mver (lastT s))) := by
        rw [hw7]
        exact SK.chg (S := fun j => j = w.heap.size) H6.out ((Chg.refl (fun j => j = w.heap.size) w6).setCell (p := ⟨w.heap.size, 6, none⟩) (.inl rfl) _) (fun b hb => by rw [hb]; exact ⟨hno', hnd'⟩)
      clear y0 y1 y2 y3 y4 y5 y6 y7 y8 y9 y10 y11 y12 y13 p0 p1 p2 p3 p4 p5 p6 fz hw7 G05 hno' hnd' FB6 BX6 hne H6
      obtain ⟨p0, p1, p2, p3, p4, p5, p6⟩ := box7 FB7
      have hG1 : (s.put mver (lastT s)).G.length ≤ 1000000 := by
        show (touchG s.K s.T s.G mver).length ≤ _
        unfold touchG
        split
        · omega
        · simp
          omega
      have hK1 : (s.put mver (lastT s)).K.length ≤ 1000000 := by
        have := insKS_len mver s.K
        show (insKS mver s.K).length ≤ _
        omega
      have HBI := Lib.hid (bind_good own' D r (s.put mver (lastT s)) name (fnE name 1) (fnT name 1) w7 S7.out hk hG1 hK1 (fnT_is w7 D name _) HN.out rfl)
      clear hG1 hK1 FB7
      go_wp2_with fail
      refine HBI.out.mono ?_
      rintro e w8 ⟨rfl, own2, h8, hg8⟩
      have HFX : RowKit.Hid (s.fix name = (s.put mver (lastT s)).bind name (fnT name 1)) := by
        show _ = _
        unfold St.fix
        rw [HVN.out]
        (try rfl)
      go_wp2
      go_ret
      exact ⟨rfl, by rw [HFX.out]; exact ⟨own2, h8, G07.out.trans hg8⟩⟩
  · have h0 : t.kind = 0 ∧ (allN s 2).length < 50 := by
      have := HD.out
      rw [← HTT.out] at this
      omega
    have e0 : (t.kind == 0) = true := by rw [h0.1]; rfl
    have e1 : (t.kind == 1) = false := by rw [h0.1]; rfl
    have e3 : (t.kind == 3) = false := by rw [h0.1]; rfl
    have q1 : ¬ (50 : Int) ≤ ((allN s 2).length : Int) := by omega
    clear h2 h0
    go_wp2_with fail
    refine (HF.out w2 Y2.out).mono ?_
    rintro e wz ⟨A, c, rfl, -, hb3⟩
    have YZ := Lib.hid (Y2.out.trans (hb3.mono Y2.out.size))
    have FBZ := Lib.hid ((hb3.block _ (lt_of_block FB2.out)).trans FB2.out)
    clear hb3 HF Y2 FB2 k2
    go_wp2_with fail
    refine (HM.out wz YZ.out).mono ?_
    rintro e w4 ⟨ts4, rfl, ht4, hb4⟩
    obtain ⟨u, hu⟩ : ∃ u, u = getT s.K s.T mver := ⟨_, rfl⟩
    rw [← hu] at ht4
    obtain ⟨E1, m1, d1, E2, m2, d2, E3, m3, d3, E4, m4, d4, E5, m5, d5, rfl⟩ := ht4.full
    have HU := Lib.hid (show u = s.look mver from hu)
    have HZW := Lib.hid (show w.heap.size < w4.heap.size from Nat.lt_of_lt_of_le (lt_of_block FBZ.out) hb4.size)
    have Y4 := Lib.hid (YZ.out.trans (hb4.mono YZ.out.size))
    have FB4 := Lib.hid ((hb4.block _ (lt_of_block FBZ.out)).trans FBZ.out)
    have H4 := Lib.hid ht4
    clear ht4 hb4 hu
    by_cases h5 : u.kind = 5
    · have e5 : (u.kind == 5) = true := by rw [h5]; rfl
      have HLT : RowKit.Hid (({ u with n := u.n + 1 } : TD) = lastT s) := by
        show _ = _
        unfold lastT lastV
        rw [← HU.out, if_pos h5, if_pos h5]
      have HVN : RowKit.Hid (lastV s = u.n) := by show _ = _; unfold lastV; rw [← HU.out, if_pos h5]
      have hwn : IntKind.i64.wrap (u.n + 1) = u.n + 1 := by
        have := HV.out
        rw [HVN.out] at this
        exact wrap_in (by omega) (by omega)
      clear h5
      go_upto_region 14 with fail
      obtain ⟨w5, hw5⟩ : ∃ w5, w5 = w4.alloc (.cells #[.int .u8 u.kind, .bool u.v.char, .slice E1 m1 d1, .slice E2 m2 d2, .string u.f.name, .string u.f.result, .string u.f.left, .string u.f.right, .slice E3 m3 d3, .slice E4 m4 d4, .int .i64 u.f.version, .slice E5 m5 d5, .int .i64 (u.n + 1), .string u.s] 39) := ⟨_, rfl⟩
      rw [← hw5]
      have h5t : TIs w5 D [.int .u8 u.kind, .bool u.v.char, .slice E1 m1 d1, .slice E2 m2 d2, .string u.f.name, .string u.f.result, .string u.f.left, .string u.f.right, .slice E3 m3 d3, .slice E4 m4 d4, .int .i64 u.f.version, .slice E5 m5 d5, .int .i64 (u.n + 1), .string u.s] { u with n := u.n + 1 } := by rw [hw5]; exact (H4.out.setN (u.n + 1)).below (HB.out w4 _)
      have BX5 : w5.heap[w4.heap.size]? = some (.cells #[.int .u8 u.kind, .bool u.v.char, .slice E1 m1 d1, .slice E2 m2 d2, .string u.f.name, .string u.f.result, .string u.f.left, .string u.f.right, .slice E3 m3 d3, .slice E4 m4 d4, .int .i64 u.f.version, .slice E5 m5 d5, .int .i64 (u.n + 1), .string u.s] 39 (0, 0)) := by rw [hw5]; exact heap_alloc_new _ _
      have Y5 := Lib.hid (show Below w.heap.size w w5 by rw [hw5]; exact Y4.out.alloc Y4.out.size _)
      have FB5 : RowKit.Hid (w5.heap[w.heap.size]? = some (.cells #[.string name, .string ⟨#[]⟩, .string ⟨#[]⟩, .string ⟨#[]⟩, .slice none 0 0, .slice none 0 0, .int .i64 0] 32 (0, 0))) := by
        show _ = _
        rw [hw5]
        exact (Below.heap_alloc w4 _ _ (lt_of_block FB4.out)).trans FB4.out
      rw [HLT.out] at h5t
      have H5T := Lib.hid h5t
      have HBX5 := Lib.hid BX5
      have HZ45 : RowKit.Hid (w4.heap.size < w5.heap.size) := by show _ < _; rw [hw5]; (try simp)
      clear h5t hw5 H4 FB4
      obtain ⟨y0, y1, y2, y3, y4, y5, y6, y7, y8, y9, y10, y11, y12, y13⟩ := box14 BX5
      clear BX5
      go_wp2_with fail
      refine (cSet_any own D r s.K s.T s.G mver _ _ w5 (HH.out.below Y5.out) (by decide) (by omega) (by omega) H5T.out).mono ?_
      rintro e w6 ⟨rfl, own', h6, hg6⟩
      have hno : ∀ j, w.heap.size ≤ j → ¬ own j := fun j hj ho => by have := HH.out.lt j ho; omega
      have FB6 := Lib.hid ((hg6.chg.block w.heap.size (lt_of_block FB5.out) (hno _ (Nat.le_refl _))).trans FB5.out)
      have BX6 := Lib.hid ((hg6.chg.block w4.heap.size HZ45.out (hno _ Y4.out.size)).trans HBX5.out)
      have H6 := Lib.hid h6
      have G6 := Lib.hid hg6
      clear y0 y1 y2 y3 y4 y5 y6 y7 y8 y9 y10 y11 y12 y13 h6 hg6 hno FB5 HBX5
      have hne : w.heap.size ≠ w4.heap.size := by have := HZW.out; omega
      obtain ⟨y0, y1, y2, y3, y4, y5, y6, y7, y8, y9, y10, y11, y12, y13⟩ := box14 BX6.out
      obtain ⟨p0, p1, p2, p3, p4, p5, p6⟩ := box7 FB6.out
      have fz := frozen_box FB6.out
      go_upto_region 16 with fail
      obtain ⟨w7, hw7⟩ : ∃ w7, w7 = w6.setCell ⟨w.heap.size, 6, none⟩ (.int .i64 (u.n + 1)) := ⟨_, rfl⟩
      rw [← hw7]
      have FB7 : w7.heap[w.heap.size]? = some (.cells #[.string name, .string ⟨#[]⟩, .string ⟨#[]⟩, .string ⟨#[]⟩, .slice none 0 0, .slice none 0 0, .int .i64 (u.n + 1)] 32 (0, 0)) := by
        rw [hw7]
        exact heap_setCell_same _ _ 6 _ _ _ FB6.out
      have G05 := (Grow.below (a := own) Y5.out).trans G6.out
      have G07 : RowKit.Hid (Grow own own' w w7) := ⟨by rw [hw7]; exact G05.chg.setCell (p := ⟨w.heap.size, 6, none⟩) (.inr (Nat.le_refl _)) _, G05.new⟩
      have hno' : ¬ own' w.heap.size := fun ho => by
        rcases G6.out.new _ ho with h | h
        · have := HH.out.lt _ h
          omega
        · have := HZW.out
          have := HZ45.out
          omega
      have hnd' : ¬ D w.heap.size := fun hd => by have := HH.out.dlt _ hd; omega
      have S7 : RowKit.Hid (SS w7 own' D r (s.put mver (lastT s))) := by
        rw [hw7]
        exact SK.chg (S := fun j => j = w.heap.size) H6.out ((Chg.refl (fun j => j = w.heap.size) w6).setCell (p := ⟨w.heap.size, 6, none⟩) (.inl rfl) _) (fun b hb => by rw [hb]; exact ⟨hno', hnd'⟩)
      clear y0 y1 y2 y3 y4 y5 y6 y7 y8 y9 y10 y11 y12 y13 p0 p1 p2 p3 p4 p5 p6 fz hw7 G05 hno' hnd' FB6 BX6 hne H6
      obtain ⟨p0, p1, p2, p3, p4, p5, p6⟩ := box7 FB7
      have hG1 : (s.put mver (lastT s)).G.length ≤ 1000000 := by
        show (touchG s.K s.T s.G mver).length ≤ _
        unfold touchG
        split
        · omega
        · simp
          omega
      have hK1 : (s.put mver (lastT s)).K.length ≤ 1000000 := by
        have := insKS_len mver s.K
        show (insKS mver s.K).length ≤ _
        omega
      have HBI := Lib.hid (bind_good own' D r (s.put mver (lastT s)) name (fnE name (u.n + 1)) (fnT name (u.n + 1)) w7 S7.out hk hG1 hK1 (fnT_is w7 D name _) HN.out rfl)
      clear hG1 hK1 FB7
      go_wp2_with fail
      refine HBI.out.mono ?_
      rintro e w8 ⟨rfl, own2, h8, hg8⟩
      have HFX : RowKit.Hid (s.fix name = (s.put mver (lastT s)).bind name (fnT name (u.n + 1))) := by
        show _ = _
        unfold St.fix
        rw [HVN.out]
        (try rfl)
      go_wp2
      go_ret
      exact ⟨rfl, by rw [HFX.out]; exact ⟨own2, h8, G07.out.trans hg8⟩⟩
    · have e5 : (u.kind == 5) = false := by rw [beq_eq_false_iff_ne]; exact h5
      have HLT : RowKit.Hid (numT 5 1 = lastT s) := by
        show _ = _
        unfold lastT lastV
        rw [← HU.out, if_neg h5, if_neg h5]
        rfl
      have HVN : RowKit.Hid (lastV s = 0) := by show _ = _; unfold lastV; rw [← HU.out, if_neg h5]
      clear h5
      go_upto_region 14 with fail
      obtain ⟨w5, hw5⟩ : ∃ w5, w5 = w4.alloc (.cells #[.int .u8 5, .bool false, .slice none 0 0, .slice none 0 0, .string ⟨#[]⟩, .string ⟨#[]⟩, .string ⟨#[]⟩, .string ⟨#[]⟩, .slice none 0 0, .slice none 0 0, .int .i64 0, .slice none 0 0, .int .i64 1, .string ⟨#[]⟩] 39) := ⟨_, rfl⟩
      rw [← hw5]
      have h5t : TIs w5 D [.int .u8 5, .bool false, .slice none 0 0, .slice none 0 0, .string ⟨#[]⟩, .string ⟨#[]⟩, .string ⟨#[]⟩, .string ⟨#[]⟩, .slice none 0 0, .slice none 0 0, .int .i64 0, .slice none 0 0, .int .i64 1, .string ⟨#[]⟩] (numT 5 1) := numT_is w5 D 5 1
      have BX5 : w5.heap[w4.heap.size]? = some (.cells #[.int .u8 5, .bool false, .slice none 0 0, .slice none 0 0, .string ⟨#[]⟩, .string ⟨#[]⟩, .string ⟨#[]⟩, .string ⟨#[]⟩, .slice none 0 0, .slice none 0 0, .int .i64 0, .slice none 0 0, .int .i64 1, .string ⟨#[]⟩] 39 (0, 0)) := by rw [hw5]; exact heap_alloc_new _ _
      have Y5 := Lib.hid (show Below w.heap.size w w5 by rw [hw5]; exact Y4.out.alloc Y4.out.size _)
      have FB5 : RowKit.Hid (w5.heap[w.heap.size]? = some (.cells #[.string name, .string ⟨#[]⟩, .string ⟨#[]⟩, .string ⟨#[]⟩, .slice none 0 0, .slice none 0 0, .int .i64 0] 32 (0, 0))) := by
        show _ = _
        rw [hw5]
        exact (Below.heap_alloc w4 _ _ (lt_of_block FB4.out)).trans FB4.out
      rw [HLT.out] at h5t
      have H5T := Lib.hid h5t
      have HBX5 := Lib.hid BX5
      have HZ45 : RowKit.Hid (w4.heap.size < w5.heap.size) := by show _ < _; rw [hw5]; (try simp)
      clear h5t hw5 H4 FB4
      obtain ⟨y0, y1, y2, y3, y4, y5, y6, y7, y8, y9, y10, y11, y12, y13⟩ := box14 BX5
      clear BX5
      go_wp2_with fail
      refine (cSet_any own D r s.K s.T s.G mver _ _ w5 (HH.out.below Y5.out) (by decide) (by omega) (by omega) H5T.out).mono ?_
      rintro e w6 ⟨rfl, own', h6, hg6⟩
      have hno : ∀ j, w.heap.size ≤ j → ¬ own j := fun j hj ho => by have := HH.out.lt j ho; omega
      have FB6 := Lib.hid ((hg6.chg.block w.heap.size (lt_of_block FB5.out) (hno _ (Nat.le_refl _))).trans FB5.out)
      have BX6 := Lib.hid ((hg6.chg.block w4.heap.size HZ45.out (hno _ Y4.out.size)).trans HBX5.out)
      have H6 := Lib.hid h6
      have G6 := Lib.hid hg6
      clear y0 y1 y2 y3 y4 y5 y6 y7 y8 y9 y10 y11 y12 y13 h6 hg6 hno FB5 HBX5
      have hne : w.heap.size ≠ w4.heap.size := by have := HZW.out; omega
      obtain ⟨y0, y1, y2, y3, y4, y5, y6, y7, y8, y9, y10, y11, y12, y13⟩ := box14 BX6.out
      obtain ⟨p0, p1, p2, p3, p4, p5, p6⟩ := box7 FB6.out
      have fz := frozen_box FB6.out
      go_upto_region 16 with fail
      obtain ⟨w7, hw7⟩ : ∃ w7, w7 = w6.setCell ⟨w.heap.size, 6, none⟩ (.int .i64 1) := ⟨_, rfl⟩
      rw [← hw7]
      have FB7 : w7.heap[w.heap.size]? = some (.cells #[.string name, .string ⟨#[]⟩, .string ⟨#[]⟩, .string ⟨#[]⟩, .slice none 0 0, .slice none 0 0, .int .i64 1] 32 (0, 0)) := by
        rw [hw7]
        exact heap_setCell_same _ _ 6 _ _ _ FB6.out
      have G05 := (Grow.below (a := own) Y5.out).trans G6.out
      have G07 : RowKit.Hid (Grow own own' w w7) := ⟨by rw [hw7]; exact G05.chg.setCell (p := ⟨w.heap.size, 6, none⟩) (.inr (Nat.le_refl _)) _, G05.new⟩
      have hno' : ¬ own' w.heap.size := fun ho => by
        rcases G6.out.new _ ho with h | h
        · have := HH.out.lt _ h
          omega
        · have := HZW.out
          have := HZ45.out
          omega
      have hnd' : ¬ D w.heap.size := fun hd => by have := HH.out.dlt _ hd; omega
      have S7 : RowKit.Hid (SS w7 own' D r (s.put mver (lastT s))) := by
        rw [hw7]
        exact SK.chg (S := fun j => j = w.heap.size) H6.out ((Chg.refl (fun j => j = w.heap.size) w6).setCell (p := ⟨w.heap.size, 6, none⟩) (.inl rfl) _) (fun b hb => by rw [hb]; exact ⟨hno', hnd'⟩)
      clear y0 y1 y2 y3 y4 y5 y6 y7 y8 y9 y10 y11 y12 y13 p0 p1 p2 p3 p4 p5 p6 fz hw7 G05 hno' hnd' FB6 BX6 hne H6
      obtain ⟨p0, p1, p2, p3, p4, p5, p6⟩ := box7 FB7
      have hG1 : (s.put mver (lastT s)).G.length ≤ 1000000 := by
        show (touchG s.K s.T s.G mver).length ≤ _
        unfold touchG
        split
        · omega
        · simp
          omega
      have hK1 : (s.put mver (lastT s)).K.length ≤ 1000000 := by
        have := insKS_len mver s.K
        show (insKS mver s.K).length ≤ _
        omega
      have HBI := Lib.hid (bind_good own' D r (s.put mver (lastT s)) name (fnE name 1) (fnT name 1) w7 S7.out hk hG1 hK1 (fnT_is w7 D name _) HN.out rfl)
      clear hG1 hK1 FB7
      go_wp2_with fail
      refine HBI.out.mono ?_
      rintro e w8 ⟨rfl, own2, h8, hg8⟩
      have HFX : RowKit.Hid (s.fix name = (s.put mver (lastT s)).bind name (fnT name 1)) := by
        show _ = _
        unfold St.fix
        rw [HVN.out]
        (try rfl)
      go_wp2
      go_ret
      exact ⟨rfl, by rw [HFX.out]; exact ⟨own2, h8, G07.out.trans hg8⟩⟩
end Go.Proofs.Ytjkofndnhmfnoaa
