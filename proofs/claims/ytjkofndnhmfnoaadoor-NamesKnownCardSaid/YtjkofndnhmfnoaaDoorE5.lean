/-
  Layers 02, 20: the smaller contracts of names: Scalar, Right of a scalar, Assign, Bind, Value, Save, Restore, Vars where they answer at once; nil stores.
-/
import Derived.Test.YtjkofndnhmfnoaaDoorE4
namespace Go.Proofs.YtjkofndnhmfnoaaDoor
open Go Go.RowKit

/-- A row of numbers that the call lays. -/
theorem rd_nums (w : World) (k : IntKind) (t : TypeId) (xs : List Int) (cs : Array Value) (hcs : cs = (xs.map (Value.int k)).toArray) (hl : xs.length ≤ 1000) : Rd (w.alloc (.cells cs t)) (fun b => w.heap.size ≤ b) 1 (some ⟨w.heap.size, 0, none⟩) xs.length xs.length (intRows k xs) := by
  have h := World.ownsRow_lit (base := w.heap.size) (e := t) (size := 1) w cs xs.length (Nat.le_refl _) (by unfold maxLen; omega) (by rw [hcs]; simp)
  have e : cs.toList = (intRows k xs).flatten := by
    rw [hcs]
    unfold intRows
    have : ∀ l : List Int, (l.map (Value.int k)) = (l.map fun x => [Value.int k x]).flatten := by
      intro l
      induction l with
      | nil => rfl
      | cons x l ih => simp only [List.map_cons, List.flatten_cons, List.singleton_append]; rw [ih]
    simpa using this xs
  rw [e] at h
  obtain ⟨A, c, hv, hr⟩ := Rd.of_own h (by simp [intRows]) (fun e he => by
    obtain ⟨x, _, rfl⟩ := List.mem_map.1 he
    exact ⟨rfl, by simp [Value.oneCell']⟩)
  injection hv with e1 e2 e3
  subst e1 e3
  exact hr
set_option maxRecDepth 100000 in
/-- The kind of a thing that is told. -/
theorem field_kind (w : World) (k n v : Int) (b : Bool) (A1 A2 A3 A4 A5 : Option Addr) (n1 c1 n2 c2 n3 c3 n4 c4 n5 c5 : Nat) (s1 s2 s3 s4 s5 : ByteArray) :
    (Instr.field 53 (.agg #[.int .u8 k, .bool b, .slice A1 n1 c1, .slice A2 n2 c2, .string s1, .string s2, .string s3, .string s4, .slice A3 n3 c3, .slice A4 n4 c4, .int .i64 v, .slice A5 n5 c5, .int .i64 n, .string s5]) 0).run Tryd.prog w = .ok (.int .u8 k) w := by
  kernel_rfl
set_option maxRecDepth 100000 in
theorem scalar02_any (n : Int) (w : World) : Calls Tryd.prog 24 #[.int .i64 n] w fun e w' => ∃ x, e = .returned (.agg #[.bool false, .slice none 0 0, .slice (some ⟨x, 0, none⟩) 1 1]) ∧ Rd w' (fun b => w.heap.size ≤ b) 1 (some ⟨x, 0, none⟩) 1 1 (intRows .i64 [n]) ∧ Below w.heap.size w w' := by
  have HB2 := Lib.hid (two_below w)
  have HR := Lib.hid (fun o => rd_nums (w.alloc o) .i64 2 [n] #[.int .i64 n] rfl (by simp))
  go_enter Tryd.func24, Tryd.ntmps24
  go_wp2
  obtain ⟨w3, hw3⟩ : ∃ w3, w3 = (w.alloc (.cells #[.bool false, .slice none 0 0, .slice (some ⟨w.heap.size + 1, 0, none⟩) 1 1] 27)).alloc (.cells #[.int .i64 n] 2) := ⟨_, rfl⟩
  rw [← hw3]
  have hx : w3.heap[w.heap.size]? = some (.cells #[.bool false, .slice none 0 0, .slice (some ⟨w.heap.size + 1, 0, none⟩) 1 1] 27 (0, 0)) := by
    rw [hw3, Below.heap_alloc _ _ _ (by simp)]
    exact heap_alloc_new _ _
  have hb : Below w.heap.size w w3 := by rw [hw3]; exact HB2.out _ _
  have hr : Rd w3 (fun b => w.heap.size ≤ b) 1 (some ⟨w.heap.size + 1, 0, none⟩) 1 1 (intRows .i64 [n]) := by
    have h := HR.out (.cells #[.bool false, .slice none 0 0, .slice (some ⟨w.heap.size + 1, 0, none⟩) 1 1] 27)
    rw [← hw3] at h
    have hz : ∀ o, (w.alloc o).heap.size = w.heap.size + 1 := fun o => by simp
    simp only [hz] at h
    exact h.mono (fun b _ hb => by omega) (by decide)
  have u0 : w3.cell? ⟨w.heap.size, 0, none⟩ = some (.bool false) := by rw [cell_of_row w3 _ 0 _ _ _ hx]; rfl
  have u1 : w3.cell? ⟨w.heap.size, 1, none⟩ = some (.slice none 0 0) := by rw [cell_of_row w3 _ 1 _ _ _ hx]; rfl
  have u2 : w3.cell? ⟨w.heap.size, 2, none⟩ = some (.slice (some ⟨w.heap.size + 1, 0, none⟩) 1 1) := by rw [cell_of_row w3 _ 2 _ _ _ hx]; rfl
  clear hw3 hx
  exact bodyPost_ret (v := .agg #[.bool false, .slice none 0 0, .slice (some ⟨w.heap.size + 1, 0, none⟩) 1 1]) (by simp [results, Tryd.results24, go_sem, u0, u1, u2]) rfl ⟨_, rfl, hr, hb⟩
set_option maxRecDepth 100000 in
theorem right02_one (A : Option Addr) (c : Nat) (w : World) : Calls Tryd.prog 34 #[.agg #[.bool false, .slice none 0 0, .slice A 1 c]] w fun e w' => e = .returned (.bool true) ∧ Below w.heap.size w w' := by
  have HB := Lib.hid (fun o => (Below.refl w.heap.size w).alloc (Nat.le_refl _) o)
  go_enter Tryd.func34, Tryd.ntmps34
  go_wp2
  go_loop [3, 13] (fun s i => s = .int .i64 1 ∧ i = .int .i64 0) (fun _ _ => 0)
  case atStart => exact ⟨rfl, rfl⟩
  case round =>
    obtain ⟨rfl, rfl⟩ := hrel
    go_wp2
    go_ret
    exact ⟨rfl, HB.out _⟩
set_option maxRecDepth 100000 in
theorem right02_none (w : World) : Calls Tryd.prog 34 #[.agg #[.bool false, .slice none 0 0, .slice none 0 0]] w fun e w' => e = .returned (.bool false) ∧ Below w.heap.size w w' := by
  have HB := Lib.hid (fun o => (Below.refl w.heap.size w).alloc (Nat.le_refl _) o)
  go_enter Tryd.func34, Tryd.ntmps34
  go_wp2
  go_loop [3, 13] (fun s i => s = .int .i64 1 ∧ i = .int .i64 0) (fun _ _ => 0)
  case atStart => exact ⟨rfl, rfl⟩
  case round =>
    obtain ⟨rfl, rfl⟩ := hrel
    go_wp2
    go_ret
    exact ⟨rfl, HB.out _⟩
/-- An array as a thing. -/
def valT (v : VD) : TD := ⟨1, v, fz, [], 0, ⟨#[]⟩⟩
def valE (ch : Bool) (A : Option Addr) (n c : Nat) (B : Option Addr) (m d : Nat) : List Value := [.int .u8 1, .bool ch, .slice A n c, .slice B m d, .string ⟨#[]⟩, .string ⟨#[]⟩, .string ⟨#[]⟩, .string ⟨#[]⟩, .slice none 0 0, .slice none 0 0, .int .i64 0, .slice none 0 0, .int .i64 0, .string ⟨#[]⟩]
theorem valT_is {w : World} {D : Nat → Prop} {ch : Bool} {A : Option Addr} {n c : Nat} {B : Option Addr} {m d : Nat} {v : VD} (h : VIs w D [.bool ch, .slice A n c, .slice B m d] v) : TIs w D (valE ch A n c B m d) (valT v) :=
  ⟨[.bool ch, .slice A n c, .slice B m d], [.string ⟨#[]⟩, .string ⟨#[]⟩, .string ⟨#[]⟩, .string ⟨#[]⟩, .slice none 0 0, .slice none 0 0, .int .i64 0], none, 0, 0, [], rfl, h, ⟨none, 0, 0, none, 0, 0, rfl, Rd.nil _ _ _, Rd.nil _ _ _⟩, Rd.nil _ _ _, rfl, by simp [valT]⟩
set_option maxRecDepth 100000 in
set_option maxHeartbeats 1600000 in
theorem assign_ok (own D : Nat → Prop) (r : Nat) (s : St) (name : ByteArray) (A : Option Addr) (c : Nat) (x : Int) (w : World) (h : SS w own D r s) (hk : name.size ≤ 900000) (hG : s.G.length ≤ 1000000) (hK : s.K.length ≤ 1000000) (hn : nameB name = true) (hd : (s.name name).kind ≠ 2 ∧ (s.name name).kind ≠ 3) (hv : VIs w D [.bool false, .slice none 0 0, .slice A 1 c] ⟨false, [], [x]⟩) :
    Calls Tryd.prog 23 #[.pointer (some ⟨r, 0, none⟩), .string name, .agg #[.bool false, .slice none 0 0, .slice A 1 c]] w fun e w' => e = .returned (.int .i64 0) ∧ After w w' own D r (s.put (vkey name) (valT ⟨false, [], [x]⟩)) := by
  have HB := Lib.hid (fun o => (Below.refl w.heap.size w).alloc (Nat.le_refl _) o)
  have HM : RowKit.Hid (mayE name = 0) := by show _ = _; unfold mayE; rw [if_pos hn]
  have HG := Lib.hid (fun w2 (hb : Below w.heap.size w w2) => getN_any own D r s.K s.T s.G name w2 (h.below hb) (by omega))
  have HP := Lib.hid (fun w2 (hb : Below w.heap.size w w2) => put_any own D r s name _ (valT ⟨false, [], [x]⟩) w2 (h.below hb) (by omega) hG hK ((valT_is hv).below hb))
  have HE : RowKit.Hid (s.bind name (valT ⟨false, [], [x]⟩) = s.put (vkey name) (valT ⟨false, [], [x]⟩)) := rfl
  unfold valE at HP
  have HD := Lib.hid hd
  clear h hG hK hn hd hv
  go_enter Tryd.func23, Tryd.ntmps23
  go_wp2_with fail
  refine (may_any r name _ (by omega)).mono ?_
  rintro e w1 ⟨rfl, hb1⟩
  rw [HM.out]
  have Z1 := Lib.hid ((hb1.block w.heap.size (by simp)).trans (heap_alloc_new w _))
  have Y1 := Lib.hid ((HB.out _).trans (hb1.mono (HB.out _).size))
  have y0 : w1.cell? ⟨w.heap.size, 0, none⟩ = some (.bool false) := by rw [cell_of_row w1 _ 0 _ _ _ Z1.out]; rfl
  have y1 : w1.cell? ⟨w.heap.size, 1, none⟩ = some (.slice none 0 0) := by rw [cell_of_row w1 _ 1 _ _ _ Z1.out]; rfl
  have y2 : w1.cell? ⟨w.heap.size, 2, none⟩ = some (.slice A 1 c) := by rw [cell_of_row w1 _ 2 _ _ _ Z1.out]; rfl
  clear hb1
  go_wp2_with fail
  refine (right02_one A c w1).mono ?_
  rintro e w2 ⟨rfl, hb2⟩
  have Z2 := Lib.hid ((hb2.block w.heap.size (lt_of_block Z1.out)).trans Z1.out)
  have Y2 := Lib.hid (Y1.out.trans (hb2.mono Y1.out.size))
  clear hb2 y0 y1 y2 Z1 Y1
  go_wp2_with fail
  refine (HG.out w2 Y2.out).mono ?_
  rintro e w3 ⟨ts, rfl, ht, hb3⟩
  obtain ⟨t, htt⟩ : ∃ t, t = getN s.K s.T name := ⟨_, rfl⟩
  rw [← htt] at ht
  obtain ⟨A1, n1, c1, A2, n2, c2, A3, n3, c3, A4, n4, c4, A5, n5, c5, rfl⟩ := ht.full
  have hfk := field_kind w3 t.kind t.n t.f.version t.v.char A1 A2 A3 A4 A5 n1 c1 n2 c2 n3 c3 n4 c4 n5 c5 t.f.name t.f.result t.f.left t.f.right t.s
  have e2 : (t.kind == 2) = false := by rw [beq_eq_false_iff_ne, htt]; exact HD.out.1
  have e3 : (t.kind == 3) = false := by rw [beq_eq_false_iff_ne, htt]; exact HD.out.2
  have Z3 := Lib.hid ((hb3.block w.heap.size (lt_of_block Z2.out)).trans Z2.out)
  have Y3 := Lib.hid (Y2.out.trans (hb3.mono Y2.out.size))
  have y0 : w3.cell? ⟨w.heap.size, 0, none⟩ = some (.bool false) := by rw [cell_of_row w3 _ 0 _ _ _ Z3.out]; rfl
  have y1 : w3.cell? ⟨w.heap.size, 1, none⟩ = some (.slice none 0 0) := by rw [cell_of_row w3 _ 1 _ _ _ Z3.out]; rfl
  have y2 : w3.cell? ⟨w.heap.size, 2, none⟩ = some (.slice A 1 c) := by rw [cell_of_row w3 _ 2 _ _ _ Z3.out]; rfl
  clear ht hb3 htt HG Z2 Y2
  go_wp2_with fail
  refine (HP.out w3 Y3.out).mono ?_
  rintro e w4 ⟨rfl, ha⟩
  rw [HE.out] at ha
  have HA := Lib.hid ha
  clear ha
  go_wp2
  go_ret
  exact ⟨rfl, After.of_below Y3.out HA.out⟩
theorem nkey (name : ByteArray) : (⟨#[118, 47]⟩ : ByteArray) ++ name = vkey name := rfl
set_option maxRecDepth 100000 in
set_option maxHeartbeats 1600000 in
theorem getN_nil (name : ByteArray) (w : World) (hk : name.size ≤ 900000) : Calls Tryd.prog 30 #[.pointer none, .string name] w fun e w' => e = .returned (.agg (numE 0 0).toArray) ∧ Below w.heap.size w w' := by
  have HB := Lib.hid (fun (w : World) o => (Below.refl w.heap.size w).alloc (Nat.le_refl _) o)
  have hsz : ¬ 9223372036854775807 < 2 + name.size := by omega
  have HN := Lib.hid (nkey name)
  go_enter Tryd.func30, Tryd.ntmps30
  go_wp2_with fail
  rw [HN.out]
  refine (cGet_nil (vkey name) _).mono ?_
  rintro e w1 ⟨rfl, hb1⟩
  unfold numE
  have X1 := Lib.hid ((hb1.block w.heap.size (by simp)).trans (heap_alloc_new w _))
  have Y1 := Lib.hid ((HB.out w _).trans (hb1.mono (HB.out w _).size))
  clear hb1
  go_wp2_with fail
  refine (binds_any (fun _ => False) (numE 0 0) tz _ (tz_is _ _)).mono ?_
  rintro e w2 ⟨rfl, hb2⟩
  rw [show bindsB tz.kind = false from rfl]
  have X2 := Lib.hid ((hb2.block w.heap.size (by have := lt_of_block X1.out; simp; omega)).trans ((Below.heap_alloc w1 _ _ (lt_of_block X1.out)).trans X1.out))
  have Y2 := Lib.hid ((Y1.out.alloc Y1.out.size _).trans (hb2.mono (by have := Y1.out.size; simp; omega)))
  clear hb2 X1 Y1
  obtain ⟨v0, v1, v2, v3, v4, v5, v6, v7, v8, v9, v10, v11, v12, v13⟩ := box14 X2.out
  have f := frozen_box X2.out
  go_wp2
  change bodyPost _ _ _ _ _ (storeAll w.heap.size w2 0 [.int .u8 0, .bool false, .slice none 0 0, .slice none 0 0, .string ⟨#[]⟩, .string ⟨#[]⟩, .string ⟨#[]⟩, .string ⟨#[]⟩, .slice none 0 0, .slice none 0 0, .int .i64 0, .slice none 0 0, .int .i64 0, .string ⟨#[]⟩])
  obtain ⟨w3, hw3⟩ : ∃ w3, w3 = storeAll w.heap.size w2 0 [.int .u8 0, .bool false, .slice none 0 0, .slice none 0 0, .string ⟨#[]⟩, .string ⟨#[]⟩, .string ⟨#[]⟩, .string ⟨#[]⟩, .slice none 0 0, .slice none 0 0, .int .i64 0, .slice none 0 0, .int .i64 0, .string ⟨#[]⟩] := ⟨_, rfl⟩
  have h3 := storeAll_heap [.int .u8 0, .bool false, .slice none 0 0, .slice none 0 0, .string ⟨#[]⟩, .string ⟨#[]⟩, .string ⟨#[]⟩, .string ⟨#[]⟩, .slice none 0 0, .slice none 0 0, .int .i64 0, .slice none 0 0, .int .i64 0, .string ⟨#[]⟩] w2 0 _ X2.out (by simp)
  have hc3 := storeAll_chg (b := w.heap.size) [.int .u8 0, .bool false, .slice none 0 0, .slice none 0 0, .string ⟨#[]⟩, .string ⟨#[]⟩, .string ⟨#[]⟩, .string ⟨#[]⟩, .slice none 0 0, .slice none 0 0, .int .i64 0, .slice none 0 0, .int .i64 0, .string ⟨#[]⟩] w2 0
  rw [← hw3] at h3 hc3 ⊢
  clear hw3
  have HC3 := Lib.hid hc3
  obtain ⟨u0, u1, u2, u3, u4, u5, u6, u7, u8, u9, u10, u11, u12, u13⟩ := box14 h3
  clear h3 hc3 v0 v1 v2 v3 v4 v5 v6 v7 v8 v9 v10 v11 v12 v13 f
  exact bodyPost_ret (v := .agg #[.int .u8 0, .bool false, .slice none 0 0, .slice none 0 0, .string ⟨#[]⟩, .string ⟨#[]⟩, .string ⟨#[]⟩, .string ⟨#[]⟩, .slice none 0 0, .slice none 0 0, .int .i64 0, .slice none 0 0, .int .i64 0, .string ⟨#[]⟩]) (by simp [results, Tryd.results30, go_sem, u0, u1, u2, u3, u4, u5, u6, u7, u8, u9, u10, u11, u12, u13]) rfl ⟨rfl, Y2.out.trans (HC3.out.below (B := w.heap.size) Y2.out.size (fun j hj => by omega))⟩

/-! ### Assign's refusals -/
set_option maxRecDepth 100000 in
theorem assign_bad (r : Nat) (name : ByteArray) (b : Bool) (A : Option Addr) (n c : Nat) (B : Option Addr) (m d : Nat) (w : World) (hk : name.size ≤ 900000) (hn : nameB name = false) :
    Calls Tryd.prog 23 #[.pointer (some ⟨r, 0, none⟩), .string name, .agg #[.bool b, .slice A n c, .slice B m d]] w fun e w' => e = .returned (.int .i64 1) ∧ Below w.heap.size w w' := by
  have HB := Lib.hid (fun o => (Below.refl w.heap.size w).alloc (Nat.le_refl _) o)
  have HM : RowKit.Hid (mayE name = 1) := by show _ = _; unfold mayE; rw [hn]; rfl
  clear hn
  go_enter Tryd.func23, Tryd.ntmps23
  go_wp2_with fail
  refine (may_any r name _ (by omega)).mono ?_
  rintro e w1 ⟨rfl, hb1⟩
  rw [HM.out]
  have Y1 := Lib.hid ((HB.out _).trans (hb1.mono (HB.out _).size))
  clear hb1
  go_wp2
  go_ret
  exact ⟨rfl, Y1.out⟩
set_option maxRecDepth 100000 in
theorem assign_nil (name : ByteArray) (b : Bool) (A : Option Addr) (n c : Nat) (B : Option Addr) (m d : Nat) (w : World) :
    Calls Tryd.prog 23 #[.pointer none, .string name, .agg #[.bool b, .slice A n c, .slice B m d]] w fun e w' => e = .returned (.int .i64 2) ∧ Below w.heap.size w w' := by
  have HB := Lib.hid (fun o => (Below.refl w.heap.size w).alloc (Nat.le_refl _) o)
  go_enter Tryd.func23, Tryd.ntmps23
  go_wp2_with fail
  refine (may_nil name _).mono ?_
  rintro e w1 ⟨rfl, rfl⟩
  go_wp2
  go_ret
  exact ⟨rfl, HB.out _⟩
set_option maxRecDepth 100000 in
theorem assign_wrong (r : Nat) (name : ByteArray) (w : World) (hk : name.size ≤ 900000) (hn : nameB name = true) :
    Calls Tryd.prog 23 #[.pointer (some ⟨r, 0, none⟩), .string name, .agg #[.bool false, .slice none 0 0, .slice none 0 0]] w fun e w' => e = .returned (.int .i64 1) ∧ Below w.heap.size w w' := by
  have HB := Lib.hid (fun o => (Below.refl w.heap.size w).alloc (Nat.le_refl _) o)
  have HM : RowKit.Hid (mayE name = 0) := by show _ = _; unfold mayE; rw [if_pos hn]
  clear hn
  go_enter Tryd.func23, Tryd.ntmps23
  go_wp2_with fail
  refine (may_any r name _ (by omega)).mono ?_
  rintro e w1 ⟨rfl, hb1⟩
  rw [HM.out]
  have Z1 := Lib.hid ((hb1.block w.heap.size (by simp)).trans (heap_alloc_new w _))
  have Y1 := Lib.hid ((HB.out _).trans (hb1.mono (HB.out _).size))
  have y0 : w1.cell? ⟨w.heap.size, 0, none⟩ = some (.bool false) := by rw [cell_of_row w1 _ 0 _ _ _ Z1.out]; rfl
  have y1 : w1.cell? ⟨w.heap.size, 1, none⟩ = some (.slice none 0 0) := by rw [cell_of_row w1 _ 1 _ _ _ Z1.out]; rfl
  have y2 : w1.cell? ⟨w.heap.size, 2, none⟩ = some (.slice none 0 0) := by rw [cell_of_row w1 _ 2 _ _ _ Z1.out]; rfl
  clear hb1
  go_wp2_with fail
  refine (right02_none w1).mono ?_
  rintro e w2 ⟨rfl, hb2⟩
  have Y2 := Lib.hid (Y1.out.trans (hb2.mono Y1.out.size))
  clear hb2 y0 y1 y2 Z1 Y1
  go_wp2
  go_ret
  exact ⟨rfl, Y2.out⟩
set_option maxRecDepth 100000 in
set_option maxHeartbeats 1600000 in
theorem assign_syntax (own D : Nat → Prop) (r : Nat) (s : St) (name : ByteArray) (A : Option Addr) (c : Nat) (w : World) (h : SS w own D r s) (hk : name.size ≤ 900000) (hn : nameB name = true) (hd : (s.name name).kind = 2 ∨ (s.name name).kind = 3) :
    Calls Tryd.prog 23 #[.pointer (some ⟨r, 0, none⟩), .string name, .agg #[.bool false, .slice none 0 0, .slice A 1 c]] w fun e w' => e = .returned (.int .i64 21) ∧ Below w.heap.size w w' := by
  have HB := Lib.hid (fun o => (Below.refl w.heap.size w).alloc (Nat.le_refl _) o)
  have HM : RowKit.Hid (mayE name = 0) := by show _ = _; unfold mayE; rw [if_pos hn]
  have HG := Lib.hid (fun w2 (hb : Below w.heap.size w w2) => getN_any own D r s.K s.T s.G name w2 (h.below hb) (by omega))
  have HD := Lib.hid hd
  clear h hn hd
  go_enter Tryd.func23, Tryd.ntmps23
  go_wp2_with fail
  refine (may_any r name _ (by omega)).mono ?_
  rintro e w1 ⟨rfl, hb1⟩
  rw [HM.out]
  have Z1 := Lib.hid ((hb1.block w.heap.size (by simp)).trans (heap_alloc_new w _))
  have Y1 := Lib.hid ((HB.out _).trans (hb1.mono (HB.out _).size))
  have y0 : w1.cell? ⟨w.heap.size, 0, none⟩ = some (.bool false) := by rw [cell_of_row w1 _ 0 _ _ _ Z1.out]; rfl
  have y1 : w1.cell? ⟨w.heap.size, 1, none⟩ = some (.slice none 0 0) := by rw [cell_of_row w1 _ 1 _ _ _ Z1.out]; rfl
  have y2 : w1.cell? ⟨w.heap.size, 2, none⟩ = some (.slice A 1 c) := by rw [cell_of_row w1 _ 2 _ _ _ Z1.out]; rfl
  clear hb1
  go_wp2_with fail
  refine (right02_one A c w1).mono ?_
  rintro e w2 ⟨rfl, hb2⟩
  have Y2 := Lib.hid (Y1.out.trans (hb2.mono Y1.out.size))
  clear hb2 y0 y1 y2 Z1 Y1
  go_wp2_with fail
  refine (HG.out w2 Y2.out).mono ?_
  rintro e w3 ⟨ts, rfl, ht, hb3⟩
  obtain ⟨t, htt⟩ : ∃ t, t = getN s.K s.T name := ⟨_, rfl⟩
  rw [← htt] at ht
  obtain ⟨A1, n1, c1, A2, n2, c2, A3, n3, c3, A4, n4, c4, A5, n5, c5, rfl⟩ := ht.full
  have hfk := field_kind w3 t.kind t.n t.f.version t.v.char A1 A2 A3 A4 A5 n1 c1 n2 c2 n3 c3 n4 c4 n5 c5 t.f.name t.f.result t.f.left t.f.right t.s
  have Y3 := Lib.hid (Y2.out.trans (hb3.mono Y2.out.size))
  have hd : t.kind = 2 ∨ t.kind = 3 := by rw [htt]; exact HD.out
  clear ht hb3 htt HG Y2
  rcases hd with h2 | h3
  · have e2 : (t.kind == 2) = true := by rw [h2]; rfl
    clear h2
    go_wp2
    go_ret
    exact ⟨rfl, Y3.out⟩
  · have e2 : (t.kind == 2) = false := by rw [h3]; rfl
    have e3 : (t.kind == 3) = true := by rw [h3]; rfl
    clear h3
    go_wp2
    go_ret
    exact ⟨rfl, Y3.out⟩
/-! ### Bind's refusals -/
set_option maxRecDepth 100000 in
theorem bind_wrong (r : Nat) (name : ByteArray) (w : World) (hk : name.size ≤ 900000) (hn : nameB name = true) :
    Calls Tryd.prog 22 #[.pointer (some ⟨r, 0, none⟩), .string name, .agg (numE 6 0).toArray] w fun e w' => e = .returned (.int .i64 1) ∧ Below w.heap.size w w' := by
  have HB := Lib.hid (fun o => (Below.refl w.heap.size w).alloc (Nat.le_refl _) o)
  have HM : RowKit.Hid (mayE name = 0) := by show _ = _; unfold mayE; rw [if_pos hn]
  unfold numE
  clear hn
  go_enter Tryd.func22, Tryd.ntmps22
  go_wp2_with fail
  refine (may_any r name _ (by omega)).mono ?_
  rintro e w1 ⟨rfl, hb1⟩
  rw [HM.out]
  have Z1 := Lib.hid ((hb1.block w.heap.size (by simp)).trans (heap_alloc_new w _))
  have Y1 := Lib.hid ((HB.out _).trans (hb1.mono (HB.out _).size))
  clear hb1
  obtain ⟨y0, y1, y2, y3, y4, y5, y6, y7, y8, y9, y10, y11, y12, y13⟩ := box14 Z1.out
  go_wp2_with fail
  refine (binds_any (fun _ => False) (numE 6 0) (numT 6 0) _ (numT_is _ _ _ _)).mono ?_
  rintro e w2 ⟨rfl, hb2⟩
  rw [show bindsB (numT 6 0).kind = false from rfl]
  have Z2 := Lib.hid ((hb2.block _ (lt_of_block Z1.out)).trans Z1.out)
  have Y2 := Lib.hid (Y1.out.trans (hb2.mono Y1.out.size))
  clear hb2 y0 y1 y2 y3 y4 y5 y6 y7 y8 y9 y10 y11 y12 y13
  obtain ⟨y0, y1, y2, y3, y4, y5, y6, y7, y8, y9, y10, y11, y12, y13⟩ := box14 Z2.out
  go_wp2
  go_ret
  exact ⟨rfl, Y2.out⟩
set_option maxRecDepth 100000 in
theorem bind_nil (name : ByteArray) (w : World) : Calls Tryd.prog 22 #[.pointer none, .string name, .agg (numE 0 0).toArray] w fun e w' => e = .returned (.int .i64 2) ∧ Below w.heap.size w w' := by
  have HB := Lib.hid (fun o => (Below.refl w.heap.size w).alloc (Nat.le_refl _) o)
  unfold numE
  go_enter Tryd.func22, Tryd.ntmps22
  go_wp2_with fail
  refine (may_nil name _).mono ?_
  rintro e w1 ⟨rfl, rfl⟩
  go_wp2
  go_ret
  exact ⟨rfl, HB.out _⟩
/-! ### Save's and Restore's answers at once -/
set_option maxRecDepth 100000 in
theorem save_nil (d v : Value) (w : World) : Calls Tryd.prog 29 #[.pointer none, d, v] w fun e w' => e = .returned (.int .i64 2) ∧ w' = w := by
  go_enter Tryd.func29, Tryd.ntmps29
  go_wp2_with fail
  refine (deep_nil _ _).mono ?_
  rintro e w1 ⟨rfl, rfl⟩
  go_wp2
  go_ret
  exact ⟨rfl, rfl⟩
set_option maxRecDepth 100000 in
theorem save_high (r : Nat) (d : Int) (v : Value) (w : World) (h : 999 < d) : Calls Tryd.prog 29 #[.pointer (some ⟨r, 0, none⟩), .int .i64 d, v] w fun e w' => e = .returned (.int .i64 1) ∧ w' = w := by
  have HD := Lib.hid (deep_high r d w h)
  clear h
  go_enter Tryd.func29, Tryd.ntmps29
  go_wp2_with fail
  refine HD.out.mono ?_
  rintro e w1 ⟨rfl, rfl⟩
  go_wp2
  go_ret
  exact ⟨rfl, rfl⟩
set_option maxRecDepth 100000 in
theorem restore_nil (d : Value) (w : World) : Calls Tryd.prog 31 #[.pointer none, d] w fun e w' => e = .returned (.int .i64 2) ∧ w' = w := by
  go_enter Tryd.func31, Tryd.ntmps31
  go_wp2_with fail
  refine (deep_nil _ _).mono ?_
  rintro e w1 ⟨rfl, rfl⟩
  go_wp2
  go_ret
  exact ⟨rfl, rfl⟩
set_option maxRecDepth 100000 in
theorem restore_low (r : Nat) (d : Int) (w : World) (h : d < 0) : Calls Tryd.prog 31 #[.pointer (some ⟨r, 0, none⟩), .int .i64 d] w fun e w' => e = .returned (.int .i64 1) ∧ w' = w := by
  have HD := Lib.hid (deep_low r d w h)
  clear h
  go_enter Tryd.func31, Tryd.ntmps31
  go_wp2_with fail
  refine HD.out.mono ?_
  rintro e w1 ⟨rfl, rfl⟩
  go_wp2
  go_ret
  exact ⟨rfl, rfl⟩
set_option maxRecDepth 100000 in
set_option maxHeartbeats 1600000 in
theorem restore_none (w0 : World) (r : Nat) (s : St) (d : Int) (k : UInt8) (l : List UInt8) (X : Nat → Prop) (w : World) (h : KX w0 w r s X) (ht : Tab w0) (h0 : 0 ≤ d) (h1 : d ≤ 999) (hl : Lib.itoa (1000 + d) = k :: l) (hz : l.length ≤ 20) (hno : ¬ lkey l ∈ s.K) :
    Calls Tryd.prog 31 #[.pointer (some ⟨r, 0, none⟩), .int .i64 d] w fun e w' => e = .returned (.int .i64 0) ∧ Below w.heap.size w w' := by
  have HNO := Lib.hid (decide_eq_false hno)
  have S1 := Lib.hid h
  have HB := Lib.hid (fun (w : World) o => (Below.refl w.heap.size w).alloc (Nat.le_refl _) o)
  have HLI := Lib.hid (list20_any d k l w (h.tab ht) h0 h1 hl hz)
  have HDP := Lib.hid (deep_ok r d w h0 h1)
  have HLZ := Lib.hid (show (lkey l).size ≤ 24 by rw [lkey_size]; omega)
  clear ht hl h h0 h1 hno
  go_enter Tryd.func31, Tryd.ntmps31
  go_wp2_with fail
  refine HDP.out.mono ?_
  rintro e w' ⟨rfl, rfl⟩
  go_wp2_with fail
  refine HLI.out.mono ?_
  rintro e w2 ⟨rfl, hb⟩
  have B2 := Lib.hid hb
  have S2 := Lib.hid (S1.out.on hb)
  clear hb S1 HDP HLI
  go_wp2_with fail
  obtain ⟨own, D, hs, hn2, hd2⟩ := S2.out.ex
  refine (cGet_any own D r s.K s.T s.G (lkey l) w2 hs (by have := HLZ.out; unfold maxLen; omega)).mono ?_
  rintro e w3 ⟨ts, rfl, hts, hb⟩
  rw [HNO.out]
  obtain ⟨A1, n1, c1, A2, n2, c2, A3, n3, c3, A4, n4, c4, A5, n5, c5, rfl⟩ := hts.full
  obtain ⟨t, htt⟩ : ∃ t, t = getT s.K s.T (lkey l) := ⟨_, rfl⟩
  rw [← htt]
  have B3 := Lib.hid (B2.out.trans (hb.mono B2.out.size))
  clear hs hn2 hd2 hts hb S2 B2 htt own D
  go_wp2
  go_ret
  exact ⟨rfl, B3.out.trans ((HB.out w3 _).mono B3.out.size)⟩
set_option maxRecDepth 100000 in
set_option maxHeartbeats 1600000 in
theorem save_err (w0 : World) (r : Nat) (s : St) (d : Int) (k : UInt8) (l : List UInt8) (A : Option Addr) (n c : Nat) (L : List ByteArray) (X Dl : Nat → Prop) (w : World) (h : KX w0 w r s X) (ht : Tab w0) (h0 : 0 ≤ d) (h1 : d ≤ 999) (hl : Lib.itoa (1000 + d) = k :: l) (hz : l.length ≤ 20)
    (hL : Rd w Dl 1 A n c (strRows L)) (hn : n ≤ 8) (hnm : ∀ x ∈ L, x.size ≤ 1000) (hbad : (decide (lkey l ∈ s.K) || L.any (fun x => !nameB x)) = true) :
    Calls Tryd.prog 29 #[.pointer (some ⟨r, 0, none⟩), .int .i64 d, .slice A n c] w fun e w' => e = .returned (.int .i64 1) ∧ Below w.heap.size w w' := by
  have HL := Lib.hid hL
  have HNM := Lib.hid hnm
  have HLN := Lib.hid hL.one.1
  have S1 := Lib.hid h
  have HBD := Lib.hid hbad
  have HB := Lib.hid (fun (w : World) o => (Below.refl w.heap.size w).alloc (Nat.le_refl _) o)
  have HLI := Lib.hid (list20_any d k l w (h.tab ht) h0 h1 hl hz)
  have HDP := Lib.hid (deep_ok r d w h0 h1)
  have HLZ := Lib.hid (show (lkey l).size ≤ 24 by rw [lkey_size]; omega)
  clear ht hL hnm hl h h0 h1 hbad
  go_enter Tryd.func29, Tryd.ntmps29
  go_wp2_with fail
  refine HDP.out.mono ?_
  rintro e w' ⟨rfl, rfl⟩
  go_wp2_with fail
  refine HLI.out.mono ?_
  rintro e w2 ⟨rfl, hb⟩
  have B2 := Lib.hid hb
  have S2 := Lib.hid (S1.out.on hb)
  clear hb S1 HDP HLI
  go_wp2_with fail
  obtain ⟨own, D, hs, hn2, hd2⟩ := S2.out.ex
  refine (cGet_any own D r s.K s.T s.G (lkey l) w2 hs (by have := HLZ.out; unfold maxLen; omega)).mono ?_
  rintro e w3 ⟨ts, rfl, hts, hb⟩
  obtain ⟨b0, hb0⟩ : ∃ b0, b0 = decide (lkey l ∈ s.K) := ⟨_, rfl⟩
  rw [← hb0] at HBD ⊢
  obtain ⟨A1, n1, c1, A2, n2, c2, A3, n3, c3, A4, n4, c4, A5, n5, c5, rfl⟩ := hts.full
  obtain ⟨t, htt⟩ : ∃ t, t = getT s.K s.T (lkey l) := ⟨_, rfl⟩
  rw [← htt]
  have B3 := Lib.hid (B2.out.trans (hb.mono B2.out.size))
  clear hs hn2 hd2 hts hb S2 B2 htt own D hb0
  go_wp2_with fail
  generalize hwa : World.alloc w3 _ = w4
  have B4 : RowKit.Hid (Below w'.heap.size w' w4) := by
    show Below _ _ _
    rw [← hwa]
    exact B3.out.trans ((HB.out w3 _).mono B3.out.size)
  clear hwa B3
  go_loopw [9, 30] (fun b i wr => ∃ (j : Nat) (bj : Bool), j ≤ n ∧ b = .bool bj ∧ i = .int .i64 (j : Int) ∧ RowKit.Hid (bj = (b0 || (L.take j).any (fun x => !nameB x))) ∧ RowKit.Hid (Below w'.heap.size w' wr)) (fun _ i _ => n - (RowKit.intOf i).toNat)
  case atStart => exact ⟨0, b0, Nat.zero_le _, rfl, rfl, by show _ = _; simp, B4.out⟩
  case round =>
    obtain ⟨j, bj, hj, rfl, rfl, hbj, hbr⟩ := hrel
    by_cases hlt : j < n
    · have q1 : (j : Int) < (n : Int) := by omega
      obtain ⟨-, hx⟩ := HL.out.one
      obtain ⟨b, off, hA, -, -, hc⟩ := hx (by omega)
      obtain ⟨x, hxk⟩ : ∃ x, L[j]? = some x := ⟨_, List.getElem?_eq_getElem (by rw [HLN.out]; exact hlt)⟩
      have cx := below_cell hbr.out (hc j x hxk)
      have hns := HNM.out x (List.mem_of_getElem? hxk)
      have HTS : RowKit.Hid (L.take (j + 1) = L.take j ++ [x]) := by show _ = _; rw [List.take_add_one, hxk]; rfl
      subst hA
      clear hc hxk hx
      cases bj with
      | true =>
        have HE : RowKit.Hid (true = (b0 || (L.take (j + 1)).any (fun x => !nameB x))) := by
          show _ = _
          rw [HTS.out, List.any_append, ← Bool.or_assoc, ← hbj.out]
          rfl
        clear hbj
        go_wp2
        go_roundw
        case rel => exact ⟨j + 1, true, by omega, rfl, by go_num, HE.out, hbr.out⟩
        case measure => simp [RowKit.intOf]; omega
      | false =>
        go_wp2_with fail
        refine (is_any x wr (by omega)).mono ?_
        rintro e w5 ⟨rfl, hb5⟩
        have B5 := Lib.hid (hbr.out.trans (hb5.mono hbr.out.size))
        have HE : RowKit.Hid ((!nameB x) = (b0 || (L.take (j + 1)).any (fun x => !nameB x))) := by
          show _ = _
          rw [HTS.out, List.any_append, ← Bool.or_assoc, ← hbj.out]
          simp
        clear hb5 cx hbj
        cases hnx : nameB x with
        | true =>
          rw [hnx] at HE
          clear hnx
          go_wp2
          go_roundw
          case rel => exact ⟨j + 1, false, by omega, rfl, by go_num, HE.out, B5.out⟩
          case measure => simp [RowKit.intOf]; omega
        | false =>
          rw [hnx] at HE
          clear hnx
          go_wp2
          go_roundw
          case rel => exact ⟨j + 1, true, by omega, rfl, by go_num, HE.out, B5.out⟩
          case measure => simp [RowKit.intOf]; omega
    · have hje : j = n := by omega
      subst hje
      have hbt : bj = true := by
        rw [hbj.out, List.take_of_length_le (by rw [HLN.out]; exact Nat.le_refl _)]
        exact HBD.out
      subst hbt
      clear hbj
      go_wp2
      go_ret
      exact ⟨rfl, hbr.out⟩
/-! ### Vars -/
theorem vars_any (own D : Nat → Prop) (r : Nat) (s : St) (w : World) (h : SS w own D r s) (hK : s.K.length ≤ 1000000) (hz : ∀ k ∈ s.K, k.size ≤ 1000000) :
    Calls Tryd.prog 28 #[.pointer (some ⟨r, 0, none⟩)] w fun e w' => ∃ A c, e = .returned (.slice A (allN s 1).length c) ∧ Rd w' (fun b => w.heap.size ≤ b) 1 A (allN s 1).length c (strRows (allN s 1)) ∧ Below w.heap.size w w' := by
  have HA := Lib.hid (all_any own D r s 1 w h hK hz)
  clear h hz
  go_enter Tryd.func28, Tryd.ntmps28
  go_wp2_with fail
  refine HA.out.mono ?_
  rintro e w1 ⟨A, c, rfl, hr, hb1⟩
  have R := Lib.hid hr
  have B := Lib.hid hb1
  clear hr hb1
  go_wp2
  go_ret
  exact ⟨A, c, rfl, R.out, B.out⟩
theorem vars_nil (w : World) : Calls Tryd.prog 28 #[.pointer none] w fun e w' => e = .returned (.slice none 0 0) ∧ w' = w := by
  have HA : RowKit.Hid (Calls Tryd.prog 48 #[.pointer none, .int .u8 1] w fun e w' => e = .returned (.slice none 0 0) ∧ w' = w) := by
    show Calls _ _ _ _ _
    go_enter Tryd.func48, Tryd.ntmps48
    go_wp2_with fail
    refine (cKeys_nil _ w).mono ?_
    rintro e w1 ⟨rfl, rfl⟩
    go_wp2_with fail
    go_loop [5, 14] (fun v i => v = .slice none 0 0 ∧ i = .int .i64 0) (fun _ _ => 0)
    case atStart => exact ⟨rfl, rfl⟩
    case round =>
      obtain ⟨rfl, rfl⟩ := hrel
      go_wp2
      go_ret
      exact ⟨rfl, rfl⟩
  go_enter Tryd.func28, Tryd.ntmps28
  go_wp2_with fail
  refine HA.out.mono ?_
  rintro e w1 ⟨rfl, rfl⟩
  go_wp2
  go_ret
  exact ⟨rfl, rfl⟩
end Go.Proofs.YtjkofndnhmfnoaaDoor
