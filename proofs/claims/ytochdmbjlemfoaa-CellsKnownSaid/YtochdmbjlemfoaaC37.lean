/-
  The closed law CellsKnown (package anamnesislaw19): the walk: it returns true, whatever lies in memory.
-/
import Derived.Test.YtochdmbjlemfoaaC36
import Derived.Test.YtochdmbjlemfoaaC24
import Derived.Test.YtochdmbjlemfoaaC28
namespace Go.Proofs.Ytochdmbjlemfoaa
open Go Go.RowKit Go.Maps

def knF : Nat → Prop := fun _ => False
def kC : ByteArray := ⟨#[99]⟩
def kX : ByteArray := ⟨#[120]⟩
def kVA : ByteArray := ⟨#[118, 47, 65]⟩
def kVB : ByteArray := ⟨#[118, 47, 66]⟩
def kWA : ByteArray := ⟨#[119, 47, 65]⟩
def kV : ByteArray := ⟨#[118, 47]⟩
def knT4 : ByteArray → TD := updT awT3 kA (numT 5 4)
def knT5 : ByteArray → TD := unT knT4 awG3.reverse
def knT6 : ByteArray → TD := updT knT5 kVB (numT 5 1)
def knT7 : ByteArray → TD := updT knT6 kVA (numT 5 2)
def knT8 : ByteArray → TD := updT knT7 kWA (numT 5 3)
def knT9 : ByteArray → TD := updT awT0 kX (numT 5 5)
def knG6 : List ED := [⟨kVB, tz, false⟩]
def knG7 : List ED := [⟨kVB, tz, false⟩, ⟨kVA, tz, false⟩]
def knG8 : List ED := [⟨kVB, tz, false⟩, ⟨kVA, tz, false⟩, ⟨kWA, tz, false⟩]
def knGc : List ED := [⟨kVA, numT 5 2, true⟩]
def knGx : List ED := [⟨kX, tz, false⟩]
theorem knK4 : insKS kA [kA, kB] = [kA, kB] := by decide +kernel
theorem knE4 : touchG [kA, kB] awT3 awG3 kA = awG3 := by decide +kernel
theorem knD1 : [kA, kB].filter (· ≠ kC) = [kA, kB] := by decide +kernel
theorem knD2 : dropG [kA, kB] knT4 awG3 kC = awG3 := by decide +kernel
theorem knD3 : [kA, kB].filter (· ≠ kA) = [kB] := by decide +kernel
theorem knD4 : dropG [kA, kB] knT4 awG3 kA = awG3 := by decide +kernel
theorem knU : unK [kB] awG3.reverse = [kA] := by decide +kernel
theorem knK6 : insKS kVB [kA] = [kA, kVB] := by decide +kernel
theorem knK7 : insKS kVA [kA, kVB] = [kA, kVA, kVB] := by decide +kernel
theorem knK8 : insKS kWA [kA, kVA, kVB] = [kA, kVA, kVB, kWA] := by decide +kernel
theorem knE6 : touchG [kA] knT5 [] kVB = knG6 := by decide +kernel
theorem knE7 : touchG [kA, kVB] knT6 knG6 kVA = knG7 := by decide +kernel
theorem knE8 : touchG [kA, kVA, kVB] knT7 knG7 kWA = knG8 := by decide +kernel
theorem knDc : [kA, kVA, kVB, kWA].filter (· ≠ kVA) = [kA, kVB, kWA] := by decide +kernel
theorem knEc : dropG [kA, kVA, kVB, kWA] knT8 [] kVA = knGc := by decide +kernel
theorem knKx : insKS kX [] = [kX] := by decide +kernel
theorem knEx : touchG [] awT0 [] kX = knGx := by decide +kernel
theorem knUx : unK [kX] knGx.reverse = [] := by decide +kernel
theorem knP1 : [kA, kVA, kVB, kWA].filter (begins kV) = [kVA, kVB] := by decide +kernel
theorem knP2 : [kA, kVB, kWA].filter (begins kV) = [kVB] := by decide +kernel
theorem knH1 : true = decide (kA ∈ [kA, kB] ∧ knT4 kA = numT 5 4) := by decide +kernel
theorem knH2 : true = decide (kA ∈ [kA] ∧ knT5 kA = numT 5 1) := by decide +kernel
theorem knN : ¬ ([kA, kB, kA]).Nodup := by decide +kernel
/-- A row of texts that the call lays. -/
theorem rd_lit {w : World} (xs : List ByteArray) (vs : Array Value) (hv : vs = (xs.map Value.string).toArray) (hl : xs.length ≤ 100) : Rd (w.alloc (.cells vs 9)) (fun b => w.heap.size ≤ b) 1 (some ⟨w.heap.size, 0, none⟩) xs.length xs.length (strRows xs) := by
  have h := heap_alloc_new w (.cells vs 9)
  refine ⟨by simp [strRows], Nat.le_refl _, by unfold maxLen; omega, fun e he => ?_, fun _ => ⟨w.heap.size, 0, rfl, Nat.le_refl _, fun i e hi k u hk => ?_⟩⟩
  · obtain ⟨x, _, rfl⟩ := List.mem_map.1 he
    exact ⟨rfl, by simp [Value.oneCell']⟩
  · unfold strRows at hi
    rw [List.getElem?_map] at hi
    obtain ⟨x, hx, rfl⟩ := Option.map_eq_some_iff.1 hi
    cases k with
    | zero =>
      simp only [List.getElem?_cons_zero, Option.some.injEq] at hk
      subst hk
      rw [cell_of_row _ _ (0 + (i * 1 + 0)) _ _ _ h, hv]
      simp [hx]
    | succ k => simp at hk

/-- A cell of a key and nothing. -/
def knE (k : ByteArray) : List Value := .string k :: numE 0 0
theorem knE_is (w : World) (D : Nat → Prop) (k : ByteArray) : CellIs w D (knE k) ⟨k, tz⟩ := ⟨_, rfl, tz_is w D⟩
theorem knE_are (w : World) (D : Nat → Prop) : CellsAre w D [knE kA, knE kB, knE kA] [⟨kA, tz⟩, ⟨kB, tz⟩, ⟨kA, tz⟩] :=
  ⟨rfl, fun i e E he hE => by
    match i, he, hE with
    | 0, he, hE => simp at he hE; subst he hE; exact knE_is w D kA
    | 1, he, hE => simp at he hE; subst he hE; exact knE_is w D kB
    | 2, he, hE => simp at he hE; subst he hE; exact knE_is w D kA
    | i + 3, he, hE => simp at he⟩
theorem rd_cells (w : World) (cs : Array Value) (h : cs = ([knE kA, knE kB, knE kA].flatten).toArray) : Rd (w.alloc (.cells cs 67)) (fun b => w.heap.size ≤ b) 15 (some ⟨w.heap.size, 0, none⟩) 3 3 [knE kA, knE kB, knE kA] := by
  have h1 := World.ownsRow_lit (base := w.heap.size) (e := 67) (size := 15) w cs 3 (Nat.le_refl _) (by decide) (by rw [h]; rfl)
  rw [show cs.toList = [knE kA, knE kB, knE kA].flatten by rw [h]] at h1
  obtain ⟨A, c, e, hr⟩ := Rd.of_own h1 rfl (fun e he => by
    simp only [List.mem_cons, List.not_mem_nil, or_false] at he
    rcases he with rfl | rfl | rfl <;> exact ⟨rfl, by simp [knE, numE, Value.oneCell']⟩)
  injection e with e1 e2 e3
  subst e1 e3
  exact hr

set_option maxRecDepth 100000 in
set_option maxHeartbeats 8000000 in
theorem cellsKnown_any (w : World) : Calls Try.prog 15 #[] w fun e w' => e = .returned (.bool true) ∧ Below w.heap.size w w' := by
  have hA : kA.size ≤ maxLen := by decide
  have hB : kB.size ≤ maxLen := by decide
  have hC : kC.size ≤ maxLen := by decide
  have hX : kX.size ≤ maxLen := by decide
  have hVA : kVA.size ≤ maxLen := by decide
  have hVB : kVB.size ≤ maxLen := by decide
  have hWA : kWA.size ≤ maxLen := by decide
  go_enter Try.func15, Try.ntmps15
  go_wp2_with fail
  refine (cNew_any knF awT0 w (fun _ h => h.elim)).mono ?_
  rintro e w1 ⟨rfl, hs1, hb1⟩
  obtain ⟨o1, ho1⟩ : ∃ o1 : Nat → Prop, o1 = fun b => w.heap.size ≤ b ∧ b ≤ w.heap.size + 2 := ⟨_, rfl⟩
  have G1 : RowKit.Hid (Grow knF o1 w w1) := ⟨Chg.of_below hb1, fun b hb => .inr (by rw [ho1] at hb; exact hb.1)⟩
  rw [← ho1] at hs1
  obtain ⟨r, hr⟩ : ∃ r, r = w.heap.size + 2 := ⟨_, rfl⟩
  rw [← hr] at hs1 ⊢
  have S1 := Lib.hid hs1
  clear hs1 hb1 hr ho1
  go_wp2_with (go_at_call 49; refine (number19_any _ _).mono ?_; rintro e w2 ⟨rfl, hb2⟩)
  refine (cSet_any _ knF r [] awT0 [] kA _ (numT 5 1) w2 (S1.out.below hb2) hA (by decide) (by decide) (numT_is _ _ _ _)).mono ?_
  rintro e w3 ⟨rfl, own3, s3, g3⟩
  rw [awK1] at s3
  have S3 : RowKit.Hid (SK w3 own3 knF r [kA] awT1 _) := s3
  have G3 := Lib.hid (G1.out.trans ((Grow.below hb2).trans g3))
  clear s3 g3 hb2 G1 S1
  go_wp2_with fail
  refine (cMark_any _ knF r _ _ _ w3 S3.out).mono ?_
  rintro e w4 ⟨rfl, own4, s4, g4⟩
  have S4 := Lib.hid s4
  have G4 := Lib.hid (G3.out.trans g4)
  clear s4 g4 G3 S3
  go_wp2_with (go_at_call 49; refine (number19_any _ _).mono ?_; rintro e w5 ⟨rfl, hb5⟩)
  refine (cSet_any _ knF r [kA] awT1 [] kA _ (numT 5 2) w5 (S4.out.below hb5) hA (by decide) (by decide) (numT_is _ _ _ _)).mono ?_
  rintro e w6 ⟨rfl, own6, s6, g6⟩
  rw [awK2, awE2] at s6
  have S6 : RowKit.Hid (SK w6 own6 knF r [kA] awT2 awG2) := s6
  have G6 := Lib.hid (G4.out.trans ((Grow.below hb5).trans g6))
  clear s6 g6 hb5 G4 S4
  go_wp2_with (go_at_call 49; refine (number19_any _ _).mono ?_; rintro e w7 ⟨rfl, hb7⟩)
  refine (cSet_any _ knF r [kA] awT2 awG2 kB _ (numT 5 3) w7 (S6.out.below hb7) hB (by decide) (by decide) (numT_is _ _ _ _)).mono ?_
  rintro e w8 ⟨rfl, own8, s8, g8⟩
  rw [awK3, awE3] at s8
  have S8 : RowKit.Hid (SK w8 own8 knF r [kA, kB] awT3 awG3) := s8
  have G8 := Lib.hid (G6.out.trans ((Grow.below hb7).trans g8))
  clear s8 g8 hb7 G6 S6
  go_wp2_with (go_at_call 49; refine (number19_any _ _).mono ?_; rintro e w9 ⟨rfl, hb9⟩)
  refine (cSet_any _ knF r [kA, kB] awT3 awG3 kA _ (numT 5 4) w9 (S8.out.below hb9) hA (by decide) (by decide) (numT_is _ _ _ _)).mono ?_
  rintro e w10 ⟨rfl, own10, s10, g10⟩
  rw [knK4, knE4] at s10
  have S10 : RowKit.Hid (SK w10 own10 knF r [kA, kB] knT4 awG3) := s10
  have G10 := Lib.hid (G8.out.trans ((Grow.below hb9).trans g10))
  clear s10 g10 hb9 G8 S8
  go_wp2_with fail
  refine (cDrop_any _ knF r [kA, kB] knT4 awG3 kC w10 S10.out hC (by decide)).mono ?_
  rintro e w11 ⟨rfl, own11, s11, g11⟩
  rw [knD1, knD2] at s11
  have S11 : RowKit.Hid (SK w11 own11 knF r [kA, kB] knT4 awG3) := s11
  have G11 := Lib.hid (G10.out.trans g11)
  clear s11 g11 S10
  clear G10
  go_wp2_with fail
  refine (cGroup_any _ knF r _ _ _ w11 S11.out (by decide)).mono ?_
  rintro e w12 ⟨A, c, es, rfl, hr12, he12, hb12⟩
  rw [show awG3.length = 2 from rfl] at hr12 ⊢
  have R12 := Lib.hid (hr12.mono (D' := fun b => w11.heap.size ≤ b ∧ b < w12.heap.size) (fun b h1 h2 => ⟨h2, h1⟩) (by decide))
  have E12 := Lib.hid he12
  have S12 := Lib.hid (S11.out.below hb12)
  have L11 := Lib.hid S11.out.lt
  have G12 := Lib.hid (G11.out.trans (Grow.below hb12))
  have HES : RowKit.Hid (es.length = 2) := he12.1
  obtain ⟨b, off, hAA, hbD, cx⟩ := hr12.at_ (by decide)
  obtain ⟨e0, e1, rfl⟩ : ∃ e0 e1, es = [e0, e1] := by
    match es, HES.out with
    | [x, y], _ => exact ⟨x, y, rfl⟩
  obtain ⟨ts0, rfl, ht0⟩ := he12.2 0 e0 _ rfl rfl
  obtain ⟨ts1, rfl, ht1⟩ := he12.2 1 e1 _ rfl rfl
  obtain ⟨A1, n1, c1, A2, n2, c2, A3, n3, c3, A4, n4, c4, A5, n5, c5, rfl⟩ := ht0.full
  obtain ⟨Y1, u1, v1, Y2, u2, v2, Y3, u3, v3, Y4, u4, v4, Y5, u5, v5, rfl⟩ := ht1.full
  have p0 : w12.cell? ⟨b, off, none⟩ = some (.string ⟨#[97]⟩) := by have := cx 0 _ rfl 0 _ rfl; simp only [Nat.zero_mul, Nat.add_zero] at this; exact this
  have p13 : w12.cell? ⟨b, off + 13, none⟩ = some (.int .i64 1) := cx 0 _ rfl 13 _ rfl
  have p15 : w12.cell? ⟨b, off + 15, none⟩ = some (.bool true) := cx 0 _ rfl 15 _ rfl
  have p16 : w12.cell? ⟨b, off + 16, none⟩ = some (.string ⟨#[98]⟩) := cx 1 _ rfl 0 _ rfl
  have p31 : w12.cell? ⟨b, off + 31, none⟩ = some (.bool false) := cx 1 _ rfl 15 _ rfl
  subst hAA
  clear hr12 he12 hb12 cx hbD ht0 ht1 S11 G11
  go_wp2_with fail
  refine (has19_any _ knF r [kA, kB] knT4 awG3 kA 4 w12 S12.out hA true knH1).mono ?_
  rintro e w13 ⟨rfl, hb13⟩
  have S13 := Lib.hid (S12.out.below hb13)
  have R13 := Lib.hid (R12.out.below hb13)
  have E13 := Lib.hid (E12.out.below hb13)
  have G13 := Lib.hid (G12.out.trans (Grow.below hb13))
  have Z13 : RowKit.Hid (w12.heap.size ≤ w13.heap.size) := hb13.size
  clear hb13 p0 p13 p15 p16 p31 S12 R12 E12 G12
  go_wp2_with fail
  refine (cDrop_any own11 knF r [kA, kB] knT4 awG3 kA w13 S13.out hA (by decide)).mono ?_
  rintro e w14 ⟨rfl, own14, s14, g14⟩
  rw [knD3, knD4] at s14
  have S14 : RowKit.Hid (SK w14 own14 knF r [kB] knT4 awG3) := s14
  have G14 := Lib.hid (G13.out.trans g14)
  have R14 := Lib.hid (R13.out.chg g14.chg (fun b hb ho => by have := L11.out b ho; omega))
  have E14 := Lib.hid (E13.out.chg g14.chg (fun _ h => h.elim))
  have N14 : RowKit.Hid (∀ b, own14 b → b < w11.heap.size ∨ w12.heap.size ≤ b) := fun b hb => (g14.new b hb).elim (fun h => .inl (L11.out b h)) (fun h => .inr (Nat.le_trans Z13.out h))
  clear s14 g14 S13 R13 E13 G13 Z13
  go_wp2_with fail
  refine (cGet_any _ knF r [kB] knT4 awG3 kA w14 S14.out hA).mono ?_
  rintro e w15 ⟨ts, rfl, ht, hb15⟩
  obtain ⟨X1, y1, z1, X2, y2, z2, X3, y3, z3, X4, y4, z4, X5, y5, z5, rfl⟩ := ht.full
  rw [show decide (kA ∈ [kB]) = false by decide +kernel]
  have S15 := Lib.hid (S14.out.below hb15)
  have G15 := Lib.hid (G14.out.trans (Grow.below hb15))
  have R15 := Lib.hid (R14.out.below hb15)
  have E15 := Lib.hid (E14.out.below hb15)
  clear ht hb15 S14 G14 R14 E14
  go_wp2_with fail
  generalize hwz : World.alloc w15 _ = w16
  have hb16 : Below w15.heap.size w15 w16 := by rw [← hwz]; exact (Below.refl _ w15).alloc (Nat.le_refl _) _
  refine (cUndo_any own14 knF _ r [kB] knT4 awG3 (some ⟨b, off, none⟩) 2 c _ awG3 w16 (S15.out.below hb16) (R15.out.below hb16) (E15.out.below hb16) (fun b hb ho => by have := N14.out b ho; omega) (by decide) (by decide) (by decide)).mono ?_
  rintro e w17 ⟨rfl, own17, s17, g17⟩
  rw [knU] at s17
  have S17 : RowKit.Hid (SK w17 own17 knF r [kA] knT5 []) := s17
  have G17 := Lib.hid (G15.out.trans ((Grow.below hb16).trans g17))
  clear s17 g17 hb16 hwz S15 R15 E15 G15 N14 L11
  go_wp2_with fail
  refine (has19_any _ knF r [kA] knT5 [] kA 1 w17 S17.out hA true knH2).mono ?_
  rintro e w18 ⟨rfl, hb18⟩
  go_wp2_with fail
  refine (cAll_any _ knF r [kA] knT5 [] w18 (S17.out.below hb18) (by decide)).mono ?_
  rintro e w19 ⟨A19, c19, es19, rfl, -, -, hb19⟩
  go_wp2_with fail
  refine (cGroup_any _ knF r [kA] knT5 [] w19 ((S17.out.below hb18).below hb19) (by decide)).mono ?_
  rintro e w20 ⟨A20, c20, es20, rfl, -, -, hb20⟩
  have S20 := Lib.hid (((S17.out.below hb18).below hb19).below hb20)
  have G20 := Lib.hid (((G17.out.trans (Grow.below hb18)).trans (Grow.below hb19)).trans (Grow.below hb20))
  clear hb18 hb19 hb20 S17 G17
  go_wp2_with (go_at_call 49; refine (number19_any _ _).mono ?_; rintro e w21 ⟨rfl, hb21⟩)
  refine (cSet_any _ knF r [kA] knT5 [] kVB _ (numT 5 1) w21 (S20.out.below hb21) hVB (by decide) (by decide) (numT_is _ _ _ _)).mono ?_
  rintro e w22 ⟨rfl, own22, s22, g22⟩
  rw [knK6, knE6] at s22
  have S22 : RowKit.Hid (SK w22 own22 knF r [kA, kVB] knT6 knG6) := s22
  have G22 := Lib.hid (G20.out.trans ((Grow.below hb21).trans g22))
  clear s22 g22 hb21 G20 S20
  go_wp2_with (go_at_call 49; refine (number19_any _ _).mono ?_; rintro e w23 ⟨rfl, hb23⟩)
  refine (cSet_any _ knF r [kA, kVB] knT6 knG6 kVA _ (numT 5 2) w23 (S22.out.below hb23) hVA (by decide) (by decide) (numT_is _ _ _ _)).mono ?_
  rintro e w24 ⟨rfl, own24, s24, g24⟩
  rw [knK7, knE7] at s24
  have S24 : RowKit.Hid (SK w24 own24 knF r [kA, kVA, kVB] knT7 knG7) := s24
  have G24 := Lib.hid (G22.out.trans ((Grow.below hb23).trans g24))
  clear s24 g24 hb23 G22 S22
  go_wp2_with (go_at_call 49; refine (number19_any _ _).mono ?_; rintro e w25 ⟨rfl, hb25⟩)
  refine (cSet_any _ knF r [kA, kVA, kVB] knT7 knG7 kWA _ (numT 5 3) w25 (S24.out.below hb25) hWA (by decide) (by decide) (numT_is _ _ _ _)).mono ?_
  rintro e w26 ⟨rfl, own26, s26, g26⟩
  rw [knK8, knE8] at s26
  have S26 : RowKit.Hid (SK w26 own26 knF r [kA, kVA, kVB, kWA] knT8 knG8) := s26
  have G26 := Lib.hid (G24.out.trans ((Grow.below hb25).trans g26))
  clear s26 g26 hb25 G24 S24
  go_wp2_with fail
  refine (cCopy_any own26 knF r [kA, kVA, kVB, kWA] knT8 knG8 w26 S26.out (by decide)).mono ?_
  rintro e w27 ⟨rfl, s27, hb27⟩
  obtain ⟨oc, hoc⟩ : ∃ oc : Nat → Prop, oc = fun b => w26.heap.size ≤ b ∧ b ≤ w26.heap.size + 2 := ⟨_, rfl⟩
  have HOC : RowKit.Hid (∀ b, oc b → w26.heap.size ≤ b) := fun b hb => by rw [hoc] at hb; exact hb.1
  rw [← hoc] at s27
  obtain ⟨rc, hrc⟩ : ∃ rc, rc = w26.heap.size + 2 := ⟨_, rfl⟩
  rw [← hrc] at s27 ⊢
  have LS := Lib.hid S26.out.lt
  have BW : RowKit.Hid (Below w.heap.size w w27) := (G26.out.chg.below (Nat.le_refl _) (fun _ h => h.elim)).trans (hb27.mono G26.out.chg.size)
  have ZW : RowKit.Hid (w.heap.size ≤ w26.heap.size) := G26.out.chg.size
  have S27 := Lib.hid (S26.out.below hb27)
  have C27 := Lib.hid s27
  have Z27 : RowKit.Hid (w26.heap.size ≤ w27.heap.size) := hb27.size
  clear hoc hrc s27 hb27 S26 G26
  go_wp2_with fail
  refine (cDrop_any oc knF rc [kA, kVA, kVB, kWA] knT8 [] kVA w27 C27.out hVA (by decide)).mono ?_
  rintro e w28 ⟨rfl, own28, s28, g28⟩
  rw [knDc, knEc] at s28
  have C28 : RowKit.Hid (SK w28 own28 knF rc [kA, kVB, kWA] knT8 knGc) := s28
  have S28 := Lib.hid (S27.out.chg g28.chg (fun b hb => ⟨fun ho => by have := LS.out b ho; have := HOC.out b hb; omega, fun h => h⟩))
  have B28 : RowKit.Hid (Below w.heap.size w w28) := BW.out.trans (g28.chg.below BW.out.size (fun b hb => by have := HOC.out b hb; have := ZW.out; omega))
  clear s28 g28 S27 C27 BW
  go_wp2_with fail
  refine (cGet_nil kA w28).mono ?_
  rintro e w29 ⟨rfl, hb29⟩
  have S29 := Lib.hid (S28.out.below hb29)
  have C29 := Lib.hid (C28.out.below hb29)
  have B29 := Lib.hid (B28.out.trans (hb29.mono B28.out.size))
  clear hb29 S28 C28 B28
  rw [show numE 0 0 = [.int .u8 0, .bool false, .slice none 0 0, .slice none 0 0, .string ⟨#[]⟩, .string ⟨#[]⟩, .string ⟨#[]⟩, .string ⟨#[]⟩, .slice none 0 0, .slice none 0 0, .int .i64 0, .slice none 0 0, .int .i64 0, .string ⟨#[]⟩] from rfl]
  go_upto_region 25 with fail
  generalize hwz : World.alloc w29 _ = w30
  have hb30 : Below w29.heap.size w29 w30 := by rw [← hwz]; exact (Below.refl _ w29).alloc (Nat.le_refl _) _
  have S30 := Lib.hid (S29.out.below hb30)
  have C30 := Lib.hid (C29.out.below hb30)
  have B30 := Lib.hid (B29.out.trans (hb30.mono B29.out.size))
  clear hb30 hwz S29 C29 B29
  go_wp2_with fail
  generalize hwy : World.alloc w30 _ = w31
  have hb31 : Below w30.heap.size w30 w31 := by rw [← hwy]; exact (Below.refl _ w30).alloc (Nat.le_refl _) _
  have hr31 : Rd w31 (fun b => w30.heap.size ≤ b) 15 (some ⟨w30.heap.size, 0, none⟩) 3 3 [knE kA, knE kB, knE kA] := by rw [← hwy]; exact rd_cells w30 _ rfl
  refine (cOf_any _ 3 3 _ [⟨kA, tz⟩, ⟨kB, tz⟩, ⟨kA, tz⟩] awT0 knF _ w31 hr31 (knE_are w31 knF) (fun _ h => h.elim) (by decide) (by decide)).mono ?_
  rintro e w32 hof
  rcases hof with ⟨hnd, -⟩ | ⟨-, rfl, hb32⟩
  · exact absurd hnd knN
  have S32 := Lib.hid ((S30.out.below hb31).below hb32)
  have C32 := Lib.hid ((C30.out.below hb31).below hb32)
  have B32 := Lib.hid ((B30.out.trans (hb31.mono B30.out.size)).trans (hb32.mono (Nat.le_trans B30.out.size hb31.size)))
  clear hb31 hb32 hwy hr31 S30 C30 B30
  go_wp2_with (go_at_call 49; refine (number19_any _ _).mono ?_; rintro e w33 ⟨rfl, hb33⟩)
  obtain ⟨rz, hrz⟩ : ∃ rz, rz = w32.heap.size := ⟨_, rfl⟩
  have hz33 : w33.heap[rz]? = some (.cells #[.map none, .slice none 0 0, .map none] 119 (0, 0)) := by rw [hrz]; exact (hb33.block _ (by simp)).trans (heap_alloc_new w32 _)
  have hb32 : Below w32.heap.size w32 w33 := ((Below.refl _ w32).alloc (Nat.le_refl _) _).trans (hb33.mono (by simp))
  have L32 : RowKit.Hid (∀ b, own28 b → b < rz) := fun b hb => by rw [hrz]; exact C32.out.lt b hb
  have M32 : RowKit.Hid (∀ b, own26 b → b < rz) := fun b hb => by rw [hrz]; exact S32.out.lt b hb
  have Z33 : RowKit.Hid (rz < w33.heap.size ∧ w.heap.size ≤ rz) := ⟨lt_of_block hz33, by rw [hrz]; exact B32.out.size⟩
  have S33 := Lib.hid (S32.out.below hb32)
  have C33 := Lib.hid (C32.out.below hb32)
  have B33 := Lib.hid (B32.out.trans (hb32.mono B32.out.size))
  rw [← hrz]
  clear hrz hb32 hb33 S32 C32 B32
  refine (cSet_zero knF rz awT0 kX _ (numT 5 5) w33 hz33 hX (numT_is _ _ _ _) (fun _ h => h.elim)).mono ?_
  rintro e w34 ⟨rfl, own34, s34, g34⟩
  rw [knKx, knEx] at s34
  have Q34 : RowKit.Hid (SK w34 own34 knF rz [kX] knT9 knGx) := s34
  have N34 : RowKit.Hid (∀ b, own34 b → b = rz ∨ w33.heap.size ≤ b) := g34.new
  have S34 := Lib.hid (S33.out.chg g34.chg (fun b hb => ⟨fun ho => by have := M32.out b ho; omega, fun h => h⟩))
  have C34 := Lib.hid (C33.out.chg g34.chg (fun b hb => ⟨fun ho => by have := L32.out b ho; omega, fun h => h⟩))
  have B34 := Lib.hid (B33.out.trans (g34.chg.below B33.out.size (fun b hb => by have := Z33.out; omega)))
  clear s34 g34 hz33 S33 C33 B33
  go_wp2_with fail
  refine (cGroup_any own34 knF rz [kX] knT9 knGx w34 Q34.out (by decide)).mono ?_
  rintro e w35 ⟨A35, c35, es35, rfl, hr35, he35, hb35⟩
  rw [show knGx.length = 1 from rfl] at hr35 ⊢
  have L34 := Lib.hid Q34.out.lt
  have Q35 := Lib.hid (Q34.out.below hb35)
  have S35 := Lib.hid (S34.out.below hb35)
  have C35 := Lib.hid (C34.out.below hb35)
  have B35 := Lib.hid (B34.out.trans (hb35.mono B34.out.size))
  have R35 := Lib.hid hr35
  have E35 := Lib.hid he35
  clear hr35 he35 hb35 Q34 S34 C34 B34
  go_wp2_with fail
  refine (cUndo_any own34 knF _ rz [kX] knT9 knGx A35 1 c35 es35 knGx w35 Q35.out R35.out E35.out (fun b hb ho => by have := L34.out b ho; omega) (by decide) (by decide) (by decide)).mono ?_
  rintro e w36 ⟨rfl, own36, s36, g36⟩
  rw [knUx] at s36
  generalize unT knT9 knGx.reverse = Tz at s36
  have Q36 := Lib.hid s36
  have S36 := Lib.hid (S35.out.chg g36.chg (fun b hb => ⟨fun ho => by have := M32.out b ho; have := N34.out b hb; have := Z33.out; omega, fun h => h⟩))
  have C36 := Lib.hid (C35.out.chg g36.chg (fun b hb => ⟨fun ho => by have := L32.out b ho; have := N34.out b hb; have := Z33.out; omega, fun h => h⟩))
  have B36 := Lib.hid (B35.out.trans (g36.chg.below B35.out.size (fun b hb => by have := N34.out b hb; have := Z33.out; omega)))
  clear s36 g36 Q35 S35 C35 B35 R35 E35 L34 M32 L32 N34 Z33
  have X36 := Lib.hid (Below.refl w36.heap.size w36)
  have HK36 : Calls Try.prog 58 #[.pointer (some ⟨r, 0, none⟩), .string kV] w36 fun e w' => ∃ A c, e = .returned (.slice A 2 c) ∧ Rd w' (fun b => w36.heap.size ≤ b) 1 A 2 c (strRows [kVA, kVB]) ∧ Below w36.heap.size w36 w' := by
    have h := cKeys_any own26 knF r [kA, kVA, kVB, kWA] knT8 knG8 kV w36 (S36.out.below X36.out) (by decide)
    rw [knP1] at h
    exact h
  have HKK := Lib.hid HK36
  clear HK36
  go_wp2_with fail
  refine HKK.out.mono ?_
  rintro e w37 ⟨A37, c37, rfl, hr37, hb37⟩
  have hal37 : Below w37.heap.size w37 (w37.alloc (.cells #[.string kVA, .string kVB] 9)) := (Below.refl _ w37).alloc (Nat.le_refl _) _
  have HTX := Lib.hid ((texts19_any A37 (some ⟨w37.heap.size, 0, none⟩) 2 c37 2 2 [kVA, kVB] [kVA, kVB] _ _ _ (hr37.below hal37) (rd_lit (w := w37) [kVA, kVB] _ rfl (by decide))).mono (R' := fun e w' => e = .returned (.bool true) ∧ Below (w37.alloc (.cells #[.string kVA, .string kVB] 9)).heap.size (w37.alloc (.cells #[.string kVA, .string kVB] 9)) w') (by rintro e w' ⟨rfl, k, rfl⟩; exact ⟨by simp, below_drewN (Below.refl _ _) _⟩))
  have HAL := Lib.hid hal37
  have HBK := Lib.hid hb37
  clear HKK hr37 hal37 hb37
  go_wp2_with fail
  refine HTX.out.mono ?_
  rintro e w38 ⟨rfl, hb38⟩
  have X38 := Lib.hid (X36.out.trans ((HBK.out.trans ((HAL.out.trans (hb38.mono HAL.out.size)).mono HBK.out.size)).mono X36.out.size))
  clear HTX HAL HBK hb38 X36
  have HK38 : Calls Try.prog 58 #[.pointer (some ⟨rc, 0, none⟩), .string kV] w38 fun e w' => ∃ A c, e = .returned (.slice A 1 c) ∧ Rd w' (fun b => w38.heap.size ≤ b) 1 A 1 c (strRows [kVB]) ∧ Below w38.heap.size w38 w' := by
    have h := cKeys_any own28 knF rc [kA, kVB, kWA] knT8 knGc kV w38 (C36.out.below X38.out) (by decide)
    rw [knP2] at h
    exact h
  have HKK := Lib.hid HK38
  clear HK38
  go_wp2_with fail
  refine HKK.out.mono ?_
  rintro e w39 ⟨A39, c39, rfl, hr39, hb39⟩
  have hal39 : Below w39.heap.size w39 (w39.alloc (.cells #[.string kVB] 9)) := (Below.refl _ w39).alloc (Nat.le_refl _) _
  have HTX := Lib.hid ((texts19_any A39 (some ⟨w39.heap.size, 0, none⟩) 1 c39 1 1 [kVB] [kVB] _ _ _ (hr39.below hal39) (rd_lit (w := w39) [kVB] _ rfl (by decide))).mono (R' := fun e w' => e = .returned (.bool true) ∧ Below (w39.alloc (.cells #[.string kVB] 9)).heap.size (w39.alloc (.cells #[.string kVB] 9)) w') (by rintro e w' ⟨rfl, k, rfl⟩; exact ⟨by simp, below_drewN (Below.refl _ _) _⟩))
  have HAL := Lib.hid hal39
  have HBK := Lib.hid hb39
  clear HKK hr39 hal39 hb39
  go_wp2_with fail
  refine HTX.out.mono ?_
  rintro e w40 ⟨rfl, hb40⟩
  have X40 := Lib.hid (X38.out.trans ((HBK.out.trans ((HAL.out.trans (hb40.mono HAL.out.size)).mono HBK.out.size)).mono X38.out.size))
  clear HTX HAL HBK hb40 X38
  go_wp2_with fail
  refine (cGroup_any own28 knF rc [kA, kVB, kWA] knT8 knGc w40 (C36.out.below X40.out) (by decide)).mono ?_
  rintro e w41 ⟨A41, c41, es41, rfl, -, -, hb41⟩
  rw [show knGc.length = 1 from rfl]
  have X41 := Lib.hid (X40.out.trans (hb41.mono X40.out.size))
  clear hb41 X40
  go_wp2_with (go_at_call 49; refine (number19_any _ _).mono ?_; rintro e w42 ⟨rfl, hb42⟩)
  refine (cSet_nil kA _ (numT 5 1) knF w42 (numT_is _ _ _ _)).mono ?_
  rintro e w43 ⟨rfl, hb43⟩
  have X43 := Lib.hid (X41.out.trans ((hb42.trans (hb43.mono hb42.size)).mono X41.out.size))
  clear hb42 hb43 X41
  go_wp2_with fail
  refine (cDrop_nil kA w43).mono ?_
  rintro e w99 ⟨rfl, rfl⟩
  go_wp2_with fail
  refine (cMark_nil w43).mono ?_
  rintro e w99 ⟨rfl, rfl⟩
  go_wp2_with fail
  refine (cUndo_nil none 0 0 w43).mono ?_
  rintro e w44 ⟨rfl, hb44⟩
  have X44 := Lib.hid (X43.out.trans (hb44.mono X43.out.size))
  clear hb44 X43
  go_wp2_with fail
  refine (cCopy_nil w44).mono ?_
  rintro e w99 ⟨rfl, rfl⟩
  go_wp2_with fail
  refine (cKeys_nil ⟨#[]⟩ w44).mono ?_
  rintro e w99 ⟨rfl, rfl⟩
  go_wp2_with fail
  refine (cAll_nil w44).mono ?_
  rintro e w99 ⟨rfl, rfl⟩
  go_wp2_with fail
  refine (cGroup_nil w44).mono ?_
  rintro e w99 ⟨rfl, rfl⟩
  go_wp2_with fail
  refine (cAll_any own36 knF rz [] Tz [] w44 (Q36.out.below X44.out) (by decide)).mono ?_
  rintro e w46 ⟨A46, c46, es46, rfl, -, -, hb46⟩
  go_wp2_with fail
  refine (awake19_any _).mono ?_
  rintro e w47 ⟨rfl, hb47⟩
  go_wp2
  go_ret
  have h1 := (X44.out.trans (hb46.mono X44.out.size)).trans (hb47.mono (Nat.le_trans X44.out.size hb46.size))
  exact ⟨rfl, B36.out.trans (h1.mono B36.out.size)⟩
end Go.Proofs.Ytochdmbjlemfoaa
