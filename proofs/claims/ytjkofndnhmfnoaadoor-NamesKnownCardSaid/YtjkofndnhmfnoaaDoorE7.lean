/-
  Layer 20 (anamnesislaw20): plain words on the stores of awake and NamesKnown; awake's walk.
-/
import Derived.Test.YtjkofndnhmfnoaaDoorE6
namespace Go.Proofs.YtjkofndnhmfnoaaDoor
open Go Go.RowKit

theorem rd_lit {w : World} (xs : List ByteArray) (vs : Array Value) (hv : vs = (xs.map Value.string).toArray) (hl : xs.length ≤ 100) : Rd (w.alloc (.cells vs 9)) (fun b => w.heap.size ≤ b) 1 (some ⟨w.heap.size, 0, none⟩) xs.length xs.length (strRows xs) := by
  have h := heap_alloc_new w (.cells vs 9)
  refine ⟨by simp [strRows], Nat.le_refl _, by unfold maxLen; omega, fun e he => ?_, fun _ => ⟨w.heap.size, 0, rfl, Nat.le_refl _, fun i e hi k u hk => ?_⟩⟩
  · obtain ⟨x, _, rfl⟩ := List.mem_map.1 he
    exact ⟨rfl, by simp [Value.oneCell']⟩
  · unfold strRows at hi
    rw [List.getElem?_map] at hi
    obtain ⟨x, hx, rfl⟩ := Option.map_eq_some_iff.1 hi
    cases k with
    | zero =>
      simp only [List.getElem?_cons_zero, Option.some.injEq] at hk
      subst hk
      rw [cell_of_row _ _ (0 + (i * 1 + 0)) _ _ _ h, hv]
      simp [hx]
    | succ k => simp at hk

/-- A cell of a key and nothing. -/
def knE (k : ByteArray) : List Value := .string k :: numE 0 0
theorem KX.scalar {w0 w1 w2 : World} {r x : Nat} {s : St} {n : Int} (h : KX w0 w1 r s (fun _ => False)) (hr : Rd w2 (fun b => w1.heap.size ≤ b) 1 (some ⟨x, 0, none⟩) 1 1 (intRows .i64 [n])) (hb : Below w1.heap.size w1 w2) :
    ∃ own D, SS w2 own D r s ∧ VIs w2 D [.bool false, .slice none 0 0, .slice (some ⟨x, 0, none⟩) 1 1] ⟨false, [], [n]⟩ ∧ ∀ b, own b → w0.heap.size ≤ b := by
  obtain ⟨own, D, h1, h2, _⟩ := h.ex
  have hz := hb.size
  refine ⟨own, fun b => D b ∨ (w1.heap.size ≤ b ∧ b < w2.heap.size), (SK.below h1 hb).wider (fun b h => .inl h) (fun b hd => ?_) (fun b hd => ?_), ⟨none, 0, 0, some ⟨x, 0, none⟩, 1, 1, rfl, Rd.nil _ _ _, hr.mono (fun b h1 h2 => .inr ⟨h2, h1⟩) (by decide)⟩, fun b hb => (h2 b hb).1⟩
  · rcases hd with hd | hd
    · exact Nat.lt_of_lt_of_le (SK.dlt h1 b hd) hz
    · exact hd.2
  · rcases hd with hd | hd
    · exact SK.dis h1 b hd
    · intro ho
      have := SK.lt h1 b ho
      omega
theorem KX.afterF {w0 wr w2 : World} {r : Nat} {s s' : St} {own D : Nat → Prop} (h : KX w0 wr r s (fun _ => False)) (hn : ∀ b, own b → w0.heap.size ≤ b) (ha : After wr w2 own D r s') : KX w0 w2 r s' (fun _ => False) := (h.after (fun b hb => ⟨hn b hb, id⟩) (fun _ _ => id) ha).1
theorem KX.start {w w1 : World} {T : ByteArray → TD} (h : SK w1 (fun b => w.heap.size ≤ b ∧ b ≤ w.heap.size + 2) (fun _ => False) (w.heap.size + 2) [] T []) (hb : Below w.heap.size w w1) : KX w w1 (w.heap.size + 2) ⟨[], T, []⟩ (fun _ => False) :=
  ⟨⟨_, _, h, fun _ hb => ⟨hb.1, id⟩, fun _ h => h.elim⟩, fun _ h => h.elim, hb⟩
/-- Keeping clear of one new block. -/
theorem KX.one {w0 wr : World} {r : Nat} {s : St} (h : KX w0 wr r s (fun _ => False)) (o : Obj) : KX w0 (wr.alloc o) r s (fun b => False ∨ b = wr.heap.size) :=
  h.more ((Below.refl _ wr).alloc (Nat.le_refl _) o) (fun b hb => by subst hb; simp)
theorem rd_one {w : World} {A : Option Addr} {n c : Nat} {o : Obj} {es : List (List Value)} (h : Rd (w.alloc o) (fun b => w.heap.size ≤ b) 1 A n c es) : Rd (w.alloc o) (fun b => False ∨ b = w.heap.size) 1 A n c es :=
  h.mono (fun b h1 h2 => .inr (by simp at h1; omega)) (by decide)
/-- The one number of an array in memory. -/
theorem VIs.num {w : World} {D : Nat → Prop} {u : Bool} {A B : Option Addr} {n c m d : Nat} {s : List Int} {x : Int} (h : VIs w D [.bool u, .slice A n c, .slice B m d] ⟨u, s, [x]⟩) : ∃ g o, B = some ⟨g, o, none⟩ ∧ m = 1 ∧ g < w.heap.size ∧ w.cell? ⟨g, o, none⟩ = some (.int .i64 x) := by
  obtain ⟨_, _, _, _, _, _, e, _, h2⟩ := h
  simp only [List.cons.injEq, Value.slice.injEq, and_true] at e
  obtain ⟨-, -, e4, e5, e6⟩ := e
  subst e4 e5 e6
  have hl : m = 1 := by have := h2.len; simpa [intRows] using this.symm
  subst hl
  obtain ⟨_, hx⟩ := h2.one
  obtain ⟨g, o, rfl, -, hg, hc⟩ := hx (by decide)
  have := hc 0 x rfl
  exact ⟨g, o, rfl, rfl, hg, by simpa using this⟩

/-! ### The stores -/
def nF : ByteArray := ⟨#[70]⟩
def nG : ByteArray := ⟨#[71]⟩
def nX : ByteArray := ⟨#[88]⟩
def nL : ByteArray := ⟨#[76]⟩
def nQ : ByteArray := ⟨#[63]⟩
def nY : ByteArray := ⟨#[89]⟩
def nN : ByteArray := ⟨#[57, 65]⟩
def nU : ByteArray := ⟨#[226, 136, 134, 65, 95, 57]⟩
def n16 : ByteArray := ⟨#[65, 66, 67, 68, 69, 70, 71, 72, 73, 74, 75, 76, 77, 78, 79, 80]⟩
def n17 : ByteArray := ⟨#[65, 66, 67, 68, 69, 70, 71, 72, 73, 74, 75, 76, 77, 78, 79, 80, 81]⟩
theorem nF_name : nameB nF = true := by decide +kernel
theorem nG_name : nameB nG = true := by decide +kernel
theorem nX_name : nameB nX = true := by decide +kernel
theorem nL_name : nameB nL = true := by decide +kernel
theorem nY_name : nameB nY = true := by decide +kernel
theorem nQ_name : nameB nQ = false := by decide +kernel
theorem nN_name : nameB nN = false := by decide +kernel
theorem nU_name : nameB nU = true := by decide +kernel
theorem n0_name : nameB ⟨#[]⟩ = false := by decide +kernel
theorem n16_name : nameB n16 = true := by decide +kernel
theorem n17_name : nameB n17 = false := by decide +kernel
def l2 : List UInt8 := [48, 48, 50]
def l3 : List UInt8 := [48, 48, 51]
def l4 : List UInt8 := [48, 48, 52]
theorem l2_it : Lib.itoa (1000 + 2) = 49 :: l2 := by decide +kernel
theorem l3_it : Lib.itoa (1000 + 3) = 49 :: l3 := by decide +kernel
theorem l4_it : Lib.itoa (1000 + 4) = 49 :: l4 := by decide +kernel
theorem XY_ok : ∀ x ∈ [nX, nY], nameB x = true ∧ x.size ≤ 40 := by decide +kernel
def sc5 : TD := valT ⟨false, [], [5]⟩
def ak0 : St := ⟨[], fun _ => tz, []⟩
def ak1 : St := ak0.put (vkey nX) sc5
def ak2 : St := ak1.save l3 [nX, nY]
def ak3 : St := ak2.restore l3 [nX, nY]
theorem ak0_X : (ak0.name nX).kind = 0 := by decide +kernel
theorem ak1_no : ¬ lkey l3 ∈ ak1.K := by decide +kernel
theorem ak1_K : ak1.K.length ≤ 1000 := by decide +kernel
theorem ak1_G : ak1.G.length ≤ 1000 := by decide +kernel
theorem ak2_K : ak2.K.length ≤ 1000 := by decide +kernel
theorem ak2_G : ak2.G.length ≤ 1000 := by decide +kernel
theorem ak2_X : (ak2.name nX).kind = 0 := by decide +kernel
theorem ak2_in : lkey l3 ∈ ak2.K := by decide +kernel
def txXY : ByteArray := ⟨#[88, 32, 89]⟩
theorem ak2_s : (ak2.look (lkey l3)).s = txXY := by decide +kernel
theorem txXY_split : splitB txXY = [nX, nY] := by decide +kernel
theorem ak3_X : (ak3.name nX).kind = 1 := by decide +kernel
theorem ak3_c : (ak3.name nX).v.char = false := by decide +kernel
theorem ak3_s : (ak3.name nX).v.shape = [] := by decide +kernel
theorem ak3_d : (ak3.name nX).v.data = [5] := by decide +kernel
theorem ak3_v : (ak3.name nX).v = ⟨false, [], [5]⟩ := by
  cases h : (ak3.name nX).v with
  | mk c s d =>
    have h1 := ak3_c
    have h2 := ak3_s
    have h3 := ak3_d
    rw [h] at h1 h2 h3
    simp only at h1 h2 h3
    rw [h1, h2, h3]
set_option maxRecDepth 100000 in
set_option maxHeartbeats 4000000 in
theorem awake20_any (w : World) (ht : Tab w) : Calls Tryd.prog 33 #[] w fun e w' => e = .returned (.bool true) ∧ Below w.heap.size w w' := by
  have HT := Lib.hid ht
  have HB := Lib.hid (fun (w : World) o => (Below.refl w.heap.size w).alloc (Nat.le_refl _) o)
  clear ht
  go_enter Tryd.func33, Tryd.ntmps33
  go_wp2_with fail
  refine (cNew_any (fun _ => False) ak0.T w (fun _ h => h.elim)).mono ?_
  rintro e w1 ⟨rfl, hs1, hb1⟩
  have S1 : RowKit.Hid (KX w w1 (w.heap.size + 2) ak0 (fun _ => False)) := KX.start hs1 hb1
  obtain ⟨r, hr⟩ : ∃ r, r = w.heap.size + 2 := ⟨_, rfl⟩
  rw [← hr] at S1 ⊢
  clear hs1 hb1 hr
  go_wp2_with fail
  refine (scalar02_any 5 w1).mono ?_
  rintro e w2 ⟨x, rfl, hr, hb⟩
  have S2 := Lib.hid (S1.out.on hb)
  have HX := Lib.hid (S1.out.scalar hr hb)
  clear hr hb S1
  go_wp2_with fail
  obtain ⟨own, D, hs, hv, hn⟩ := HX.out
  refine (assign_ok own D r ak0 nX (some ⟨x, 0, none⟩) 1 5 w2 hs (by decide) (by decide) (by decide) nX_name (by rw [ak0_X]; decide) hv).mono ?_
  rintro e w3 ⟨rfl, ha⟩
  have S3 : RowKit.Hid (KX w w3 r ak1 (fun _ => False)) := S2.out.afterF hn ha
  clear hs hv hn ha S2 HX own D
  go_wp2_with fail
  refine (save_ok w r ak1 3 49 l3 _ 2 2 [nX, nY] _ _ (S3.out.one _) HT.out (by decide) (by decide) l3_it (by decide) (rd_one (rd_lit [nX, nY] _ rfl (by decide))) (by decide) XY_ok ak1_K ak1_G ak1_no).mono ?_
  rintro e w4 ⟨rfl, hk, -⟩
  have S4 : RowKit.Hid (KX w w4 r ak2 (fun _ => False)) := hk.fewer (fun _ h => h.elim)
  clear hk S3
  go_wp2_with fail
  obtain ⟨own, D, hs, hn, hd⟩ := S4.out.ex
  refine (value_none own D r ak2 nX w4 hs (by decide) (by rw [ak2_X]; decide)).mono ?_
  rintro e w5 ⟨rfl, hb⟩
  have S5 := Lib.hid (S4.out.on hb)
  clear hs hn hd hb S4 own D
  go_wp2_with fail
  refine (restore_ok w r ak2 3 49 l3 _ [nX, nY] txXY _ (S5.out.on (HB.out w5 _)) HT.out (by decide) (by decide) l3_it (by decide) ak2_K ak2_G ak2_in ak2_s (by decide) txXY_split (by decide) (fun y hy => (XY_ok y hy).2)).mono ?_
  rintro e w6 ⟨rfl, hk, -⟩
  have S6 : RowKit.Hid (KX w w6 r ak3 (fun _ => False)) := hk
  clear hk S5
  go_wp2_with fail
  obtain ⟨own, D, hs, hn, hd⟩ := S6.out.ex
  have HVO := Lib.hid (value_one own D r ak3 nX w6 hs (by decide) ak3_X)
  rw [ak3_v] at HVO
  refine HVO.out.mono ?_
  rintro e w7 ⟨A7, n7, c7, B7, m7, d7, rfl, hv7, hb⟩
  obtain ⟨g, o, rfl, rfl, hg, hc⟩ := hv7.num
  have S7 := Lib.hid (S6.out.on hb)
  have cx : ∀ ob, (w7.alloc ob).cell? ⟨g, o, none⟩ = some (.int .i64 5) := fun ob => below_cell (HB.out w7 ob) hc
  clear hs hn hd hb hv7 hg hc HVO S6 own D
  go_wp2_with fail
  refine (is_any nU _ (by decide)).mono ?_
  rintro e w8 ⟨rfl, hb⟩
  rw [nU_name]
  have B8 := Lib.hid ((S7.out.on (HB.out w7 _)).on hb).below
  clear hb S7
  go_wp2
  go_ret
  exact ⟨rfl, B8.out⟩
end Go.Proofs.YtjkofndnhmfnoaaDoor
