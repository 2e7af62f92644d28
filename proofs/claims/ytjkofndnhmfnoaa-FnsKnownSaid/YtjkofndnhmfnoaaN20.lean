/-
  Layers 02, 20, 21: Scalar, Right of a scalar, Assign when all goes well, set without numbers, nil stores, Digits: contracts.
-/
import Derived.Test.YtjkofndnhmfnoaaN18
import Derived.Laws.IdiomStrings
namespace Go.Proofs.Ytjkofndnhmfnoaa
open Go Go.RowKit

set_option maxRecDepth 100000 in
theorem scalar02_any (n : Int) (w : World) : Calls Try.prog 12 #[.int .i64 n] w fun e w' => ∃ x, e = .returned (.agg #[.bool false, .slice none 0 0, .slice (some ⟨x, 0, none⟩) 1 1]) ∧ Rd w' (fun b => w.heap.size ≤ b) 1 (some ⟨x, 0, none⟩) 1 1 (intRows .i64 [n]) ∧ Below w.heap.size w w' := by
  have HB2 := Lib.hid (two_below w)
  have HR := Lib.hid (fun o => rd_nums (w.alloc o) .i64 2 [n] #[.int .i64 n] rfl (by simp))
  go_enter Try.func12, Try.ntmps12
  go_wp2
  obtain ⟨w3, hw3⟩ : ∃ w3, w3 = (w.alloc (.cells #[.bool false, .slice none 0 0, .slice (some ⟨w.heap.size + 1, 0, none⟩) 1 1] 36)).alloc (.cells #[.int .i64 n] 2) := ⟨_, rfl⟩
  rw [← hw3]
  have hx : w3.heap[w.heap.size]? = some (.cells #[.bool false, .slice none 0 0, .slice (some ⟨w.heap.size + 1, 0, none⟩) 1 1] 36 (0, 0)) := by
    rw [hw3, Below.heap_alloc _ _ _ (by simp)]
    exact heap_alloc_new _ _
  have hb : Below w.heap.size w w3 := by rw [hw3]; exact HB2.out _ _
  have hr : Rd w3 (fun b => w.heap.size ≤ b) 1 (some ⟨w.heap.size + 1, 0, none⟩) 1 1 (intRows .i64 [n]) := by
    have h := HR.out (.cells #[.bool false, .slice none 0 0, .slice (some ⟨w.heap.size + 1, 0, none⟩) 1 1] 36)
    rw [← hw3] at h
    have hz : ∀ o, (w.alloc o).heap.size = w.heap.size + 1 := fun o => by simp
    simp only [hz] at h
    exact h.mono (fun b _ hb => by omega) (by decide)
  have u0 : w3.cell? ⟨w.heap.size, 0, none⟩ = some (.bool false) := by rw [cell_of_row w3 _ 0 _ _ _ hx]; rfl
  have u1 : w3.cell? ⟨w.heap.size, 1, none⟩ = some (.slice none 0 0) := by rw [cell_of_row w3 _ 1 _ _ _ hx]; rfl
  have u2 : w3.cell? ⟨w.heap.size, 2, none⟩ = some (.slice (some ⟨w.heap.size + 1, 0, none⟩) 1 1) := by rw [cell_of_row w3 _ 2 _ _ _ hx]; rfl
  clear hw3 hx
  exact bodyPost_ret (v := .agg #[.bool false, .slice none 0 0, .slice (some ⟨w.heap.size + 1, 0, none⟩) 1 1]) (by simp [results, Try.results12, go_sem, u0, u1, u2]) rfl ⟨_, rfl, hr, hb⟩
set_option maxRecDepth 100000 in
theorem right02_one (A : Option Addr) (c : Nat) (w : World) : Calls Try.prog 27 #[.agg #[.bool false, .slice none 0 0, .slice A 1 c]] w fun e w' => e = .returned (.bool true) ∧ Below w.heap.size w w' := by
  have HB := Lib.hid (fun o => (Below.refl w.heap.size w).alloc (Nat.le_refl _) o)
  go_enter Try.func27, Try.ntmps27
  go_wp2
  go_loop [3, 13] (fun s i => s = .int .i64 1 ∧ i = .int .i64 0) (fun _ _ => 0)
  case atStart => exact ⟨rfl, rfl⟩
  case round =>
    obtain ⟨rfl, rfl⟩ := hrel
    go_wp2
    go_ret
    exact ⟨rfl, HB.out _⟩
set_option maxRecDepth 100000 in
theorem right02_none (w : World) : Calls Try.prog 27 #[.agg #[.bool false, .slice none 0 0, .slice none 0 0]] w fun e w' => e = .returned (.bool false) ∧ Below w.heap.size w w' := by
  have HB := Lib.hid (fun o => (Below.refl w.heap.size w).alloc (Nat.le_refl _) o)
  go_enter Try.func27, Try.ntmps27
  go_wp2
  go_loop [3, 13] (fun s i => s = .int .i64 1 ∧ i = .int .i64 0) (fun _ _ => 0)
  case atStart => exact ⟨rfl, rfl⟩
  case round =>
    obtain ⟨rfl, rfl⟩ := hrel
    go_wp2
    go_ret
    exact ⟨rfl, HB.out _⟩
/-- An array as a thing. -/
def valT (v : VD) : TD := ⟨1, v, fz, [], 0, ⟨#[]⟩⟩
def valE (ch : Bool) (A : Option Addr) (n c : Nat) (B : Option Addr) (m d : Nat) : List Value := [.int .u8 1, .bool ch, .slice A n c, .slice B m d, .string ⟨#[]⟩, .string ⟨#[]⟩, .string ⟨#[]⟩, .string ⟨#[]⟩, .slice none 0 0, .slice none 0 0, .int .i64 0, .slice none 0 0, .int .i64 0, .string ⟨#[]⟩]
theorem valT_is {w : World} {D : Nat → Prop} {ch : Bool} {A : Option Addr} {n c : Nat} {B : Option Addr} {m d : Nat} {v : VD} (h : VIs w D [.bool ch, .slice A n c, .slice B m d] v) : TIs w D (valE ch A n c B m d) (valT v) :=
  ⟨[.bool ch, .slice A n c, .slice B m d], [.string ⟨#[]⟩, .string ⟨#[]⟩, .string ⟨#[]⟩, .string ⟨#[]⟩, .slice none 0 0, .slice none 0 0, .int .i64 0], none, 0, 0, [], rfl, h, ⟨none, 0, 0, none, 0, 0, rfl, Rd.nil _ _ _, Rd.nil _ _ _⟩, Rd.nil _ _ _, rfl, by simp [valT]⟩
set_option maxRecDepth 100000 in
set_option maxHeartbeats 1600000 in
theorem assign_ok (own D : Nat → Prop) (r : Nat) (s : St) (name : ByteArray) (A : Option Addr) (c : Nat) (x : Int) (w : World) (h : SS w own D r s) (hk : name.size ≤ 900000) (hG : s.G.length ≤ 1000000) (hK : s.K.length ≤ 1000000) (hn : nameB name = true) (hd : (s.name name).kind ≠ 2 ∧ (s.name name).kind ≠ 3) (hv : VIs w D [.bool false, .slice none 0 0, .slice A 1 c] ⟨false, [], [x]⟩) :
    Calls Try.prog 11 #[.pointer (some ⟨r, 0, none⟩), .string name, .agg #[.bool false, .slice none 0 0, .slice A 1 c]] w fun e w' => e = .returned (.int .i64 0) ∧ After w w' own D r (s.put (vkey name) (valT ⟨false, [], [x]⟩)) := by
  have HB := Lib.hid (fun o => (Below.refl w.heap.size w).alloc (Nat.le_refl _) o)
  have HM : RowKit.Hid (mayE name = 0) := by show _ = _; unfold mayE; rw [if_pos hn]
  have HG := Lib.hid (fun w2 (hb : Below w.heap.size w w2) => getN_any own D r s.K s.T s.G name w2 (h.below hb) (by omega))
  have HP := Lib.hid (fun w2 (hb : Below w.heap.size w w2) => put_any own D r s name _ (valT ⟨false, [], [x]⟩) w2 (h.below hb) (by omega) hG hK ((valT_is hv).below hb))
  have HE : RowKit.Hid (s.bind name (valT ⟨false, [], [x]⟩) = s.put (vkey name) (valT ⟨false, [], [x]⟩)) := rfl
  unfold valE at HP
  have HD := Lib.hid hd
  clear h hG hK hn hd hv
  go_enter Try.func11, Try.ntmps11
  go_wp2_with fail
  refine (may_any r name _ (by omega)).mono ?_
  rintro e w1 ⟨rfl, hb1⟩
  rw [HM.out]
  have Z1 := Lib.hid ((hb1.block w.heap.size (by simp)).trans (heap_alloc_new w _))
  have Y1 := Lib.hid ((HB.out _).trans (hb1.mono (HB.out _).size))
  have y0 : w1.cell? ⟨w.heap.size, 0, none⟩ = some (.bool false) := by rw [cell_of_row w1 _ 0 _ _ _ Z1.out]; rfl
  have y1 : w1.cell? ⟨w.heap.size, 1, none⟩ = some (.slice none 0 0) := by rw [cell_of_row w1 _ 1 _ _ _ Z1.out]; rfl
  have y2 : w1.cell? ⟨w.heap.size, 2, none⟩ = some (.slice A 1 c) := by rw [cell_of_row w1 _ 2 _ _ _ Z1.out]; rfl
  clear hb1
  go_wp2_with fail
  refine (right02_one A c w1).mono ?_
  rintro e w2 ⟨rfl, hb2⟩
  have Z2 := Lib.hid ((hb2.block w.heap.size (lt_of_block Z1.out)).trans Z1.out)
  have Y2 := Lib.hid (Y1.out.trans (hb2.mono Y1.out.size))
  clear hb2 y0 y1 y2 Z1 Y1
  go_wp2_with fail
  refine (HG.out w2 Y2.out).mono ?_
  rintro e w3 ⟨ts, rfl, ht, hb3⟩
  obtain ⟨t, htt⟩ : ∃ t, t = getN s.K s.T name := ⟨_, rfl⟩
  rw [← htt] at ht
  obtain ⟨A1, n1, c1, A2, n2, c2, A3, n3, c3, A4, n4, c4, A5, n5, c5, rfl⟩ := ht.full
  have hfk := field_kind w3 t.kind t.n t.f.version t.v.char A1 A2 A3 A4 A5 n1 c1 n2 c2 n3 c3 n4 c4 n5 c5 t.f.name t.f.result t.f.left t.f.right t.s
  have e2 : (t.kind == 2) = false := by rw [beq_eq_false_iff_ne, htt]; exact HD.out.1
  have e3 : (t.kind == 3) = false := by rw [beq_eq_false_iff_ne, htt]; exact HD.out.2
  have Z3 := Lib.hid ((hb3.block w.heap.size (lt_of_block Z2.out)).trans Z2.out)
  have Y3 := Lib.hid (Y2.out.trans (hb3.mono Y2.out.size))
  have y0 : w3.cell? ⟨w.heap.size, 0, none⟩ = some (.bool false) := by rw [cell_of_row w3 _ 0 _ _ _ Z3.out]; rfl
  have y1 : w3.cell? ⟨w.heap.size, 1, none⟩ = some (.slice none 0 0) := by rw [cell_of_row w3 _ 1 _ _ _ Z3.out]; rfl
  have y2 : w3.cell? ⟨w.heap.size, 2, none⟩ = some (.slice A 1 c) := by rw [cell_of_row w3 _ 2 _ _ _ Z3.out]; rfl
  clear ht hb3 htt HG Z2 Y2
  go_wp2_with fail
  refine (HP.out w3 Y3.out).mono ?_
  rintro e w4 ⟨rfl, ha⟩
  rw [HE.out] at ha
  have HA := Lib.hid ha
  clear ha
  go_wp2
  go_ret
  exact ⟨rfl, After.of_below Y3.out HA.out⟩
set_option maxRecDepth 100000 in
set_option maxHeartbeats 1600000 in
theorem set_drop (own D : Nat → Prop) (r : Nat) (s : St) (pre name : ByteArray) (w : World) (h : SS w own D r s) (hp : pre.size = 2) (hk : name.size ≤ 900000) (hG : s.G.length ≤ 900000) (hn : nameB name = true) (hd : (s.name name).kind = 2) :
    Calls Try.prog 29 #[.pointer (some ⟨r, 0, none⟩), .string pre, .string name, .slice none 0 0] w fun e w' => e = .returned (.int .i64 0) ∧ After w w' own D r (s.del (pre ++ name)) := by
  have HG := Lib.hid (fun w2 (hb : Below w.heap.size w w2) => getN_any own D r s.K s.T s.G name w2 (h.below hb) (by omega))
  have HD := Lib.hid hd
  have HN := Lib.hid hn
  have hz : (pre ++ name).size = 2 + name.size := by rw [ByteArray.size_append, hp]
  have HDR := Lib.hid (fun w2 (hb : Below w.heap.size w w2) => cDrop_any own D r s.K s.T s.G (pre ++ name) w2 (h.below hb) (by rw [hz]; unfold maxLen; omega) (by omega))
  have hsz : ¬ 9223372036854775807 < pre.size + name.size := by omega
  have HC := Lib.hid (fun w2 => cfi21 none 0 0 [] (fun _ => False) w2 (Rd.nil _ _ _))
  clear h hd hn hz hp
  go_enter Try.func29, Try.ntmps29
  go_wp2_with fail
  refine (is_any name _ (by omega)).mono ?_
  rintro e w1 ⟨rfl, hb1⟩
  rw [HN.out]
  have Y1 := Lib.hid hb1
  clear hb1
  go_wp2_with fail
  refine (HG.out w1 Y1.out).mono ?_
  rintro e w2 ⟨ts, rfl, ht, hb2⟩
  obtain ⟨t, htt⟩ : ∃ t, t = getN s.K s.T name := ⟨_, rfl⟩
  rw [← htt] at ht
  obtain ⟨A1, n1, c1, A2, n2, c2, A3, n3, c3, A4, n4, c4, A5, n5, c5, rfl⟩ := ht.full
  have hfk := field_kind w2 t.kind t.n t.f.version t.v.char A1 A2 A3 A4 A5 n1 c1 n2 c2 n3 c3 n4 c4 n5 c5 t.f.name t.f.result t.f.left t.f.right t.s
  have e1 : (t.kind != 2) = false := by
    have := HD.out
    unfold St.name at this
    rw [← htt] at this
    rw [this]; rfl
  have Y2 := Lib.hid (Y1.out.trans (hb2.mono Y1.out.size))
  clear ht hb2 htt HG
  go_wp2_with fail
  refine (HC.out w2).mono ?_
  rintro e w3 ⟨rfl, hb3⟩
  have hany : (([] : List Int).any fun x => decide (x < 1 ∨ 100 < x)) = false := rfl
  rw [hany]
  have Y3 := Lib.hid (Y2.out.trans (hb3.mono Y2.out.size))
  clear hb3 e1 hfk hany
  go_wp2_with fail
  refine (HDR.out w3 Y3.out).mono ?_
  rintro e w4 ⟨rfl, own4, h4, g4⟩
  have H4 : RowKit.Hid (SS w4 own4 D r (s.del (pre ++ name))) := h4
  have G4 := Lib.hid g4
  clear h4 g4
  go_wp2
  go_ret
  exact ⟨rfl, own4, H4.out, (Grow.below Y3.out).trans G4.out⟩
set_option maxRecDepth 100000 in
theorem setStop_none (own D : Nat → Prop) (r : Nat) (s : St) (name : ByteArray) (v : Value) (w : World) (h : SS w own D r s) (hk : name.size ≤ 900000) (hn : nameB name = false ∨ (s.name name).kind ≠ 2) :
    Calls Try.prog 14 #[.pointer (some ⟨r, 0, none⟩), .string name, v] w fun e w' => e = .returned (.int .i64 4) ∧ Below w.heap.size w w' := by
  have HS := Lib.hid (set_none own D r s ⟨#[112, 47]⟩ name v w h hk hn)
  clear h hn
  go_enter Try.func14, Try.ntmps14
  go_wp2_with fail
  refine HS.out.mono ?_
  rintro e w1 ⟨rfl, h1⟩
  have H1 := Lib.hid h1
  clear h1 HS
  go_wp2
  go_ret
  exact ⟨rfl, H1.out⟩
set_option maxRecDepth 100000 in
theorem setStop_arg (own D Dl : Nat → Prop) (r : Nat) (s : St) (name : ByteArray) (A : Option Addr) (c : Nat) (zs : List Int) (w : World) (h : SS w own D r s) (hk : name.size ≤ 900000) (hn : nameB name = true) (hd : (s.name name).kind = 2) (hr : ∃ x ∈ zs, x < 1 ∨ 100 < x) (hz : Rd w Dl 1 A zs.length c (intRows .i64 zs)) :
    Calls Try.prog 14 #[.pointer (some ⟨r, 0, none⟩), .string name, .slice A zs.length c] w fun e w' => e = .returned (.int .i64 1) ∧ Below w.heap.size w w' := by
  have HS := Lib.hid (set_arg own D Dl r s ⟨#[112, 47]⟩ name A c zs w h hk hn hd hr hz)
  clear h hn hd hr hz
  go_enter Try.func14, Try.ntmps14
  go_wp2_with fail
  refine HS.out.mono ?_
  rintro e w1 ⟨rfl, h1⟩
  have H1 := Lib.hid h1
  clear h1 HS
  go_wp2
  go_ret
  exact ⟨rfl, H1.out⟩
set_option maxRecDepth 100000 in
theorem setStop_drop (own D : Nat → Prop) (r : Nat) (s : St) (name : ByteArray) (w : World) (h : SS w own D r s) (hk : name.size ≤ 900000) (hG : s.G.length ≤ 900000) (hn : nameB name = true) (hd : (s.name name).kind = 2) :
    Calls Try.prog 14 #[.pointer (some ⟨r, 0, none⟩), .string name, .slice none 0 0] w fun e w' => e = .returned (.int .i64 0) ∧ After w w' own D r (s.del (pkey name)) := by
  have HS := Lib.hid (set_drop own D r s ⟨#[112, 47]⟩ name w h rfl hk hG hn hd)
  clear h hn hd
  go_enter Try.func14, Try.ntmps14
  go_wp2_with fail
  refine HS.out.mono ?_
  rintro e w1 ⟨rfl, h1⟩
  have H1 := Lib.hid h1
  clear h1 HS
  go_wp2
  go_ret
  exact ⟨rfl, H1.out⟩
set_option maxRecDepth 100000 in
theorem setStop_nil (name v : Value) (w : World) : Calls Try.prog 14 #[.pointer none, name, v] w fun e w' => e = .returned (.int .i64 2) ∧ w' = w := by
  go_enter Try.func14, Try.ntmps14
  go_wp2_with fail
  refine (set_nil _ _ _ _).mono ?_
  rintro e w1 ⟨rfl, rfl⟩
  go_wp2
  go_ret
  exact ⟨rfl, rfl⟩
set_option maxRecDepth 100000 in
theorem setTrace_none (own D : Nat → Prop) (r : Nat) (s : St) (name : ByteArray) (v : Value) (w : World) (h : SS w own D r s) (hk : name.size ≤ 900000) (hn : nameB name = false ∨ (s.name name).kind ≠ 2) :
    Calls Try.prog 16 #[.pointer (some ⟨r, 0, none⟩), .string name, v] w fun e w' => e = .returned (.int .i64 4) ∧ Below w.heap.size w w' := by
  have HS := Lib.hid (set_none own D r s ⟨#[116, 47]⟩ name v w h hk hn)
  clear h hn
  go_enter Try.func16, Try.ntmps16
  go_wp2_with fail
  refine HS.out.mono ?_
  rintro e w1 ⟨rfl, h1⟩
  have H1 := Lib.hid h1
  clear h1 HS
  go_wp2
  go_ret
  exact ⟨rfl, H1.out⟩
set_option maxRecDepth 100000 in
theorem setTrace_arg (own D Dl : Nat → Prop) (r : Nat) (s : St) (name : ByteArray) (A : Option Addr) (c : Nat) (zs : List Int) (w : World) (h : SS w own D r s) (hk : name.size ≤ 900000) (hn : nameB name = true) (hd : (s.name name).kind = 2) (hr : ∃ x ∈ zs, x < 1 ∨ 100 < x) (hz : Rd w Dl 1 A zs.length c (intRows .i64 zs)) :
    Calls Try.prog 16 #[.pointer (some ⟨r, 0, none⟩), .string name, .slice A zs.length c] w fun e w' => e = .returned (.int .i64 1) ∧ Below w.heap.size w w' := by
  have HS := Lib.hid (set_arg own D Dl r s ⟨#[116, 47]⟩ name A c zs w h hk hn hd hr hz)
  clear h hn hd hr hz
  go_enter Try.func16, Try.ntmps16
  go_wp2_with fail
  refine HS.out.mono ?_
  rintro e w1 ⟨rfl, h1⟩
  have H1 := Lib.hid h1
  clear h1 HS
  go_wp2
  go_ret
  exact ⟨rfl, H1.out⟩
set_option maxRecDepth 100000 in
theorem setTrace_drop (own D : Nat → Prop) (r : Nat) (s : St) (name : ByteArray) (w : World) (h : SS w own D r s) (hk : name.size ≤ 900000) (hG : s.G.length ≤ 900000) (hn : nameB name = true) (hd : (s.name name).kind = 2) :
    Calls Try.prog 16 #[.pointer (some ⟨r, 0, none⟩), .string name, .slice none 0 0] w fun e w' => e = .returned (.int .i64 0) ∧ After w w' own D r (s.del (tkey name)) := by
  have HS := Lib.hid (set_drop own D r s ⟨#[116, 47]⟩ name w h rfl hk hG hn hd)
  clear h hn hd
  go_enter Try.func16, Try.ntmps16
  go_wp2_with fail
  refine HS.out.mono ?_
  rintro e w1 ⟨rfl, h1⟩
  have H1 := Lib.hid h1
  clear h1 HS
  go_wp2
  go_ret
  exact ⟨rfl, H1.out⟩
set_option maxRecDepth 100000 in
theorem setTrace_nil (name v : Value) (w : World) : Calls Try.prog 16 #[.pointer none, name, v] w fun e w' => e = .returned (.int .i64 2) ∧ w' = w := by
  go_enter Try.func16, Try.ntmps16
  go_wp2_with fail
  refine (set_nil _ _ _ _).mono ?_
  rintro e w1 ⟨rfl, rfl⟩
  go_wp2
  go_ret
  exact ⟨rfl, rfl⟩

/-! ### Nil stores -/
theorem nkey (name : ByteArray) : (⟨#[118, 47]⟩ : ByteArray) ++ name = vkey name := rfl
set_option maxRecDepth 100000 in
set_option maxHeartbeats 1600000 in
theorem getN_nil (name : ByteArray) (w : World) (hk : name.size ≤ 900000) : Calls Try.prog 9 #[.pointer none, .string name] w fun e w' => e = .returned (.agg (numE 0 0).toArray) ∧ Below w.heap.size w w' := by
  have HB := Lib.hid (fun (w : World) o => (Below.refl w.heap.size w).alloc (Nat.le_refl _) o)
  have hsz : ¬ 9223372036854775807 < 2 + name.size := by omega
  have HN := Lib.hid (nkey name)
  go_enter Try.func9, Try.ntmps9
  go_wp2_with fail
  rw [HN.out]
  refine (cGet_nil (vkey name) _).mono ?_
  rintro e w1 ⟨rfl, hb1⟩
  unfold numE
  have X1 := Lib.hid ((hb1.block w.heap.size (by simp)).trans (heap_alloc_new w _))
  have Y1 := Lib.hid ((HB.out w _).trans (hb1.mono (HB.out w _).size))
  clear hb1
  go_wp2_with fail
  refine (binds_any (fun _ => False) (numE 0 0) tz _ (tz_is _ _)).mono ?_
  rintro e w2 ⟨rfl, hb2⟩
  rw [show bindsB tz.kind = false from rfl]
  have X2 := Lib.hid ((hb2.block w.heap.size (by have := lt_of_block X1.out; simp; omega)).trans ((Below.heap_alloc w1 _ _ (lt_of_block X1.out)).trans X1.out))
  have Y2 := Lib.hid ((Y1.out.alloc Y1.out.size _).trans (hb2.mono (by have := Y1.out.size; simp; omega)))
  clear hb2 X1 Y1
  obtain ⟨v0, v1, v2, v3, v4, v5, v6, v7, v8, v9, v10, v11, v12, v13⟩ := box14 X2.out
  have f := frozen_box X2.out
  go_wp2
  change bodyPost _ _ _ _ _ (storeAll w.heap.size w2 0 [.int .u8 0, .bool false, .slice none 0 0, .slice none 0 0, .string ⟨#[]⟩, .string ⟨#[]⟩, .string ⟨#[]⟩, .string ⟨#[]⟩, .slice none 0 0, .slice none 0 0, .int .i64 0, .slice none 0 0, .int .i64 0, .string ⟨#[]⟩])
  obtain ⟨w3, hw3⟩ : ∃ w3, w3 = storeAll w.heap.size w2 0 [.int .u8 0, .bool false, .slice none 0 0, .slice none 0 0, .string ⟨#[]⟩, .string ⟨#[]⟩, .string ⟨#[]⟩, .string ⟨#[]⟩, .slice none 0 0, .slice none 0 0, .int .i64 0, .slice none 0 0, .int .i64 0, .string ⟨#[]⟩] := ⟨_, rfl⟩
  have h3 := storeAll_heap [.int .u8 0, .bool false, .slice none 0 0, .slice none 0 0, .string ⟨#[]⟩, .string ⟨#[]⟩, .string ⟨#[]⟩, .string ⟨#[]⟩, .slice none 0 0, .slice none 0 0, .int .i64 0, .slice none 0 0, .int .i64 0, .string ⟨#[]⟩] w2 0 _ X2.out (by simp)
  have hc3 := storeAll_chg (b := w.heap.size) [.int .u8 0, .bool false, .slice none 0 0, .slice none 0 0, .string ⟨#[]⟩, .string ⟨#[]⟩, .string ⟨#[]⟩, .string ⟨#[]⟩, .slice none 0 0, .slice none 0 0, .int .i64 0, .slice none 0 0, .int .i64 0, .string ⟨#[]⟩] w2 0
  rw [← hw3] at h3 hc3 ⊢
  clear hw3
  have HC3 := Lib.hid hc3
  obtain ⟨u0, u1, u2, u3, u4, u5, u6, u7, u8, u9, u10, u11, u12, u13⟩ := box14 h3
  clear h3 hc3 v0 v1 v2 v3 v4 v5 v6 v7 v8 v9 v10 v11 v12 v13 f
  exact bodyPost_ret (v := .agg #[.int .u8 0, .bool false, .slice none 0 0, .slice none 0 0, .string ⟨#[]⟩, .string ⟨#[]⟩, .string ⟨#[]⟩, .string ⟨#[]⟩, .slice none 0 0, .slice none 0 0, .int .i64 0, .slice none 0 0, .int .i64 0, .string ⟨#[]⟩]) (by simp [results, Try.results9, go_sem, u0, u1, u2, u3, u4, u5, u6, u7, u8, u9, u10, u11, u12, u13]) rfl ⟨rfl, Y2.out.trans (HC3.out.below (B := w.heap.size) Y2.out.size (fun j hj => by omega))⟩
set_option maxRecDepth 100000 in
theorem fix_nil (name : ByteArray) (w : World) (hk : name.size ≤ 900000) : Calls Try.prog 8 #[.pointer none, .agg #[.string name, .string ⟨#[]⟩, .string ⟨#[]⟩, .string ⟨#[]⟩, .slice none 0 0, .slice none 0 0, .int .i64 0]] w fun e w' => e = .returned (.int .i64 2) ∧ Below w.heap.size w w' := by
  have HB := Lib.hid (fun (w : World) o => (Below.refl w.heap.size w).alloc (Nat.le_refl _) o)
  go_enter Try.func8, Try.ntmps8
  go_wp2_with fail
  refine (getN_nil name _ hk).mono ?_
  rintro e w1 ⟨rfl, hb1⟩
  unfold numE
  have Y1 := Lib.hid ((HB.out w _).trans (hb1.mono (HB.out w _).size))
  clear hb1
  go_wp2
  go_ret
  exact ⟨rfl, Y1.out.trans ((HB.out w1 _).mono Y1.out.size)⟩
set_option maxRecDepth 100000 in
theorem erase_nil (name : Value) (w : World) : Calls Try.prog 7 #[.pointer none, name] w fun e w' => e = .returned (.int .i64 2) ∧ w' = w := by
  go_enter Try.func7, Try.ntmps7
  go_wp2
  go_ret
  exact ⟨rfl, rfl⟩
set_option maxRecDepth 100000 in
theorem lines_nil (key : ByteArray) (w : World) : Calls Try.prog 30 #[.pointer none, .string key] w fun e w' => e = .returned (.slice none 0 0) ∧ Below w.heap.size w w' := by
  have HB := Lib.hid (fun (w : World) o => (Below.refl w.heap.size w).alloc (Nat.le_refl _) o)
  go_enter Try.func30, Try.ntmps30
  go_wp2_with fail
  refine (cGet_nil key _).mono ?_
  rintro e w1 ⟨rfl, hb1⟩
  unfold numE
  have Y1 := Lib.hid hb1
  clear hb1
  go_wp2
  go_ret
  exact ⟨rfl, Y1.out.trans ((HB.out w1 _).mono Y1.out.size)⟩
set_option maxRecDepth 100000 in
theorem stop_nil (name : ByteArray) (w : World) (hk : name.size ≤ 900000) : Calls Try.prog 19 #[.pointer none, .string name] w fun e w' => e = .returned (.slice none 0 0) ∧ Below w.heap.size w w' := by
  have hsz : ¬ 9223372036854775807 < 2 + name.size := by omega
  go_enter Try.func19, Try.ntmps19
  go_wp2_with fail
  refine (lines_nil _ _).mono ?_
  rintro e w1 ⟨rfl, hb1⟩
  have Y1 := Lib.hid hb1
  clear hb1
  go_wp2
  go_ret
  exact ⟨rfl, Y1.out⟩
end Go.Proofs.Ytjkofndnhmfnoaa
