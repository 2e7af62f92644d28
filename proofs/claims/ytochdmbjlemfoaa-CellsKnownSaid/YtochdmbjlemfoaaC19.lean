/-
  The law of layer 19: awake: it returns true, whatever lies in memory.
-/
import Derived.Test.YtochdmbjlemfoaaC18
namespace Go.Proofs.Ytochdmbjlemfoaa
open Go Go.RowKit Go.Maps

def kA : ByteArray := ⟨#[97]⟩
def kB : ByteArray := ⟨#[98]⟩
def awT0 : ByteArray → TD := fun _ => tz
def awT1 : ByteArray → TD := updT awT0 kA (numT 5 1)
def awT2 : ByteArray → TD := updT awT1 kA (numT 5 2)
def awT3 : ByteArray → TD := updT awT2 kB (numT 5 3)
def awG2 : List ED := [⟨kA, numT 5 1, true⟩]
def awG3 : List ED := [⟨kA, numT 5 1, true⟩, ⟨kB, tz, false⟩]
theorem awK1 : insKS kA [] = [kA] := by decide +kernel
theorem awK2 : insKS kA [kA] = [kA] := by decide +kernel
theorem awK3 : insKS kB [kA] = [kA, kB] := by decide +kernel
theorem awE2 : touchG [kA] awT1 [] kA = awG2 := by decide +kernel
theorem awE3 : touchG [kA] awT2 awG2 kB = awG3 := by decide +kernel
theorem awU : unK [kA, kB] awG3.reverse = [kA] := by decide +kernel
theorem awUT : unT awT3 awG3.reverse kA = numT 5 1 := by decide +kernel

set_option maxRecDepth 100000 in
set_option maxHeartbeats 3200000 in
theorem awake19_any (w : World) : Calls Try.prog 45 #[] w fun e w' => e = .returned (.bool true) ∧ Below w.heap.size w w' := by
  have hA : kA.size ≤ maxLen := by decide
  have hB : kB.size ≤ maxLen := by decide
  go_enter Try.func45, Try.ntmps45
  go_wp2_with fail
  refine (cNew_any (fun _ => False) awT0 w (fun _ h => h.elim)).mono ?_
  rintro e w1 ⟨rfl, hs1, hb1⟩
  have S1 := Lib.hid hs1
  have B1 := Lib.hid hb1
  clear hs1 hb1
  go_wp2_with (go_at_call 49; refine (number19_any _ _).mono ?_; rintro e w2 ⟨rfl, hb2⟩)
  refine (cSet_any _ _ _ [] awT0 [] kA _ (numT 5 1) w2 (S1.out.below hb2) hA (by decide) (by decide) (numT_is _ _ _ _)).mono ?_
  rintro e w3 ⟨rfl, own3, s3, g3⟩
  rw [awK1] at s3
  have S3 : RowKit.Hid (SK w3 own3 _ _ [kA] awT1 _) := s3
  have G3 := Lib.hid ((Grow.below hb2).trans g3)
  clear s3 g3 hb2
  go_wp2_with fail
  refine (cMark_any _ _ _ _ _ _ w3 S3.out).mono ?_
  rintro e w4 ⟨rfl, own4, s4, g4⟩
  have S4 := Lib.hid s4
  have G4 := Lib.hid (G3.out.trans g4)
  clear s4 g4 G3 S3
  go_wp2_with (go_at_call 49; refine (number19_any _ _).mono ?_; rintro e w5 ⟨rfl, hb5⟩)
  refine (cSet_any _ _ _ [kA] awT1 [] kA _ (numT 5 2) w5 (S4.out.below hb5) hA (by decide) (by decide) (numT_is _ _ _ _)).mono ?_
  rintro e w6 ⟨rfl, own6, s6, g6⟩
  rw [awK2, awE2] at s6
  have S6 : RowKit.Hid (SK w6 own6 _ _ [kA] awT2 awG2) := s6
  have G6 := Lib.hid (G4.out.trans ((Grow.below hb5).trans g6))
  clear s6 g6 hb5 G4 S4
  go_wp2_with (go_at_call 49; refine (number19_any _ _).mono ?_; rintro e w7 ⟨rfl, hb7⟩)
  refine (cSet_any _ _ _ [kA] awT2 awG2 kB _ (numT 5 3) w7 (S6.out.below hb7) hB (by decide) (by decide) (numT_is _ _ _ _)).mono ?_
  rintro e w8 ⟨rfl, own8, s8, g8⟩
  rw [awK3, awE3] at s8
  have S8 : RowKit.Hid (SK w8 own8 _ _ [kA, kB] awT3 awG3) := s8
  have G8 := Lib.hid (G6.out.trans ((Grow.below hb7).trans g8))
  clear s8 g8 hb7 G6 S6
  go_wp2_with fail
  refine (cGroup_any _ _ _ _ _ _ w8 S8.out (by decide)).mono ?_
  rintro e w9 ⟨A, c, es, rfl, hr9, he9, hb9⟩
  rw [show awG3.length = 2 from rfl] at hr9 ⊢
  have R9 := Lib.hid hr9
  have E9 := Lib.hid he9
  have B9 := Lib.hid hb9
  have S9 := Lib.hid (S8.out.below hb9)
  have L8 := Lib.hid S8.out.lt
  clear hr9 he9 hb9 S8
  go_wp2_with fail
  refine (cUndo_any _ _ _ _ [kA, kB] awT3 awG3 A 2 c es awG3 w9 S9.out R9.out E9.out (fun b hb ho => by have := L8.out b ho; omega) (by decide) (by decide) (by decide)).mono ?_
  rintro e w10 ⟨rfl, own10, s10, g10⟩
  rw [awU] at s10
  obtain ⟨T5, hT5⟩ : ∃ T5, T5 = unT awT3 awG3.reverse := ⟨_, rfl⟩
  rw [← hT5] at s10
  have HT5 : RowKit.Hid (T5 kA = numT 5 1) := by show _ = _; rw [hT5]; exact awUT
  have S10 := Lib.hid s10
  have R10 := Lib.hid (R9.out.chg g10.chg (fun b hb ho => by have := L8.out b ho; omega))
  have E10 := Lib.hid (E9.out.chg g10.chg (fun b hb => hb.elim))
  have G10 := Lib.hid (G8.out.trans ((Grow.below B9.out).trans g10))
  clear s10 g10 R9 E9 S9 hT5
  go_wp2_with fail
  refine (cGet_any _ _ _ [kA] T5 [] kB w10 S10.out hB).mono ?_
  rintro e w11 ⟨ts, rfl, ht, hb11⟩
  obtain ⟨X1, y1, z1, X2, y2, z2, X3, y3, z3, X4, y4, z4, X5, y5, z5, rfl⟩ := ht.full
  have hdd : decide (kB ∈ [kA]) = false := by decide +kernel
  rw [hdd]
  have S11 := Lib.hid (S10.out.below hb11)
  have R11 := Lib.hid (R10.out.below hb11)
  have E11 := Lib.hid (E10.out.below hb11)
  have G11 := Lib.hid (G10.out.trans (Grow.below hb11))
  clear ht hb11 hdd S10 R10 E10 G10
  go_upto_region 11 with fail
  generalize hwz : World.alloc w11 _ = wz
  have BZ := Lib.hid (show Below w11.heap.size w11 wz by rw [← hwz]; exact (Below.refl _ w11).alloc (Nat.le_refl _) _)
  clear hwz
  have SZ := Lib.hid (S11.out.below BZ.out)
  have RZ := R11.out.below BZ.out
  have EZ := E11.out.below BZ.out
  obtain ⟨b, off, hAA, -, cx⟩ := RZ.at_ (by decide)
  have hel : es.length = 2 := EZ.1
  obtain ⟨e0, e1, rfl⟩ : ∃ e0 e1, es = [e0, e1] := by
    match es, hel with
    | [x, y], _ => exact ⟨x, y, rfl⟩
  obtain ⟨ts0, rfl, ht0⟩ := EZ.2 0 e0 _ rfl rfl
  obtain ⟨ts1, rfl, ht1⟩ := EZ.2 1 e1 _ rfl rfl
  obtain ⟨t, htt⟩ : ∃ t, t = numT 5 1 := ⟨_, rfl⟩
  simp only at ht0 ht1
  rw [← htt] at ht0
  obtain ⟨A1, n1, c1, A2, n2, c2, A3, n3, c3, A4, n4, c4, A5, n5, c5, rfl⟩ := ht0.full
  obtain ⟨Y1, u1, v1, Y2, u2, v2, Y3, u3, v3, Y4, u4, v4, Y5, u5, v5, rfl⟩ := ht1.full
  have HT0 := Lib.hid ht0
  have HTT : RowKit.Hid (true = decide (t = numT 5 1)) := by show _ = _; rw [htt]; exact (decide_eq_true rfl).symm
  have q0 := cx 0 _ rfl 0 _ rfl
  have q1 := cx 0 _ rfl 1 _ rfl
  have q2 := cx 0 _ rfl 2 _ rfl
  have q3 := cx 0 _ rfl 3 _ rfl
  have q4 := cx 0 _ rfl 4 _ rfl
  have q5 := cx 0 _ rfl 5 _ rfl
  have q6 := cx 0 _ rfl 6 _ rfl
  have q7 := cx 0 _ rfl 7 _ rfl
  have q8 := cx 0 _ rfl 8 _ rfl
  have q9 := cx 0 _ rfl 9 _ rfl
  have q10 := cx 0 _ rfl 10 _ rfl
  have q11 := cx 0 _ rfl 11 _ rfl
  have q12 := cx 0 _ rfl 12 _ rfl
  have q13 := cx 0 _ rfl 13 _ rfl
  have q14 := cx 0 _ rfl 14 _ rfl
  have q15 := cx 0 _ rfl 15 _ rfl
  have q16 := cx 1 _ rfl 0 _ rfl
  have q17 := cx 1 _ rfl 15 _ rfl
  simp only [Nat.zero_mul, Nat.one_mul, Nat.zero_add, Nat.add_zero] at q0 q1 q2 q3 q4 q5 q6 q7 q8 q9 q10 q11 q12 q13 q14 q15 q16
  have p0 : wz.cell? ⟨b, off, none⟩ = some (.string ⟨#[97]⟩) := q0
  have p1 : wz.cell? ⟨b, off + 1, none⟩ = some (.int .u8 t.kind) := q1
  have p2 : wz.cell? ⟨b, off + 2, none⟩ = some (.bool t.v.char) := q2
  have p3 : wz.cell? ⟨b, off + 3, none⟩ = some (.slice A1 n1 c1) := q3
  have p4 : wz.cell? ⟨b, off + 4, none⟩ = some (.slice A2 n2 c2) := q4
  have p5 : wz.cell? ⟨b, off + 5, none⟩ = some (.string t.f.name) := q5
  have p6 : wz.cell? ⟨b, off + 6, none⟩ = some (.string t.f.result) := q6
  have p7 : wz.cell? ⟨b, off + 7, none⟩ = some (.string t.f.left) := q7
  have p8 : wz.cell? ⟨b, off + 8, none⟩ = some (.string t.f.right) := q8
  have p9 : wz.cell? ⟨b, off + 9, none⟩ = some (.slice A3 n3 c3) := q9
  have p10 : wz.cell? ⟨b, off + 10, none⟩ = some (.slice A4 n4 c4) := q10
  have p11 : wz.cell? ⟨b, off + 11, none⟩ = some (.int .i64 t.f.version) := q11
  have p12 : wz.cell? ⟨b, off + 12, none⟩ = some (.slice A5 n5 c5) := q12
  have p13 : wz.cell? ⟨b, off + 13, none⟩ = some (.int .i64 t.n) := q13
  have p14 : wz.cell? ⟨b, off + 14, none⟩ = some (.string t.s) := q14
  have p15 : wz.cell? ⟨b, off + 15, none⟩ = some (.bool true) := q15
  have p16 : wz.cell? ⟨b, off + 16, none⟩ = some (.string ⟨#[98]⟩) := q16
  have p17 : wz.cell? ⟨b, off + 16 + 15, none⟩ = some (.bool false) := q17
  subst hAA
  clear cx hel EZ RZ ht0 ht1 htt R11 E11 q0 q1 q2 q3 q4 q5 q6 q7 q8 q9 q10 q11 q12 q13 q14 q15 q16 q17
  go_region_held3 (fun w' => w'.cell? ⟨b, off, none⟩ = some (.string ⟨#[97]⟩) ∧ w'.cell? ⟨b, off + 1, none⟩ = some (.int .u8 t.kind) ∧ w'.cell? ⟨b, off + 2, none⟩ = some (.bool t.v.char) ∧ w'.cell? ⟨b, off + 3, none⟩ = some (.slice A1 n1 c1) ∧ w'.cell? ⟨b, off + 4, none⟩ = some (.slice A2 n2 c2) ∧ w'.cell? ⟨b, off + 5, none⟩ = some (.string t.f.name) ∧ w'.cell? ⟨b, off + 6, none⟩ = some (.string t.f.result) ∧ w'.cell? ⟨b, off + 7, none⟩ = some (.string t.f.left) ∧ w'.cell? ⟨b, off + 8, none⟩ = some (.string t.f.right) ∧ w'.cell? ⟨b, off + 9, none⟩ = some (.slice A3 n3 c3) ∧ w'.cell? ⟨b, off + 10, none⟩ = some (.slice A4 n4 c4) ∧ w'.cell? ⟨b, off + 11, none⟩ = some (.int .i64 t.f.version) ∧ w'.cell? ⟨b, off + 12, none⟩ = some (.slice A5 n5 c5) ∧ w'.cell? ⟨b, off + 13, none⟩ = some (.int .i64 t.n) ∧ w'.cell? ⟨b, off + 14, none⟩ = some (.string t.s) ∧ w'.cell? ⟨b, off + 15, none⟩ = some (.bool true) ∧ w'.cell? ⟨b, off + 16, none⟩ = some (.string ⟨#[98]⟩) ∧ w'.cell? ⟨b, off + 16 + 15, none⟩ = some (.bool false))
    (first | (go_keep; done) | (go_split_ands; exact ⟨below_cell hbg (by assumption), below_cell hbg (by assumption), below_cell hbg (by assumption), below_cell hbg (by assumption), below_cell hbg (by assumption), below_cell hbg (by assumption), below_cell hbg (by assumption), below_cell hbg (by assumption), below_cell hbg (by assumption), below_cell hbg (by assumption), below_cell hbg (by assumption), below_cell hbg (by assumption), below_cell hbg (by assumption), below_cell hbg (by assumption), below_cell hbg (by assumption), below_cell hbg (by assumption), below_cell hbg (by assumption), below_cell hbg (by assumption)⟩) | (go_split_ands; exact ⟨below_cell hbh (by assumption), below_cell hbh (by assumption), below_cell hbh (by assumption), below_cell hbh (by assumption), below_cell hbh (by assumption), below_cell hbh (by assumption), below_cell hbh (by assumption), below_cell hbh (by assumption), below_cell hbh (by assumption), below_cell hbh (by assumption), below_cell hbh (by assumption), below_cell hbh (by assumption), below_cell hbh (by assumption), below_cell hbh (by assumption), below_cell hbh (by assumption), below_cell hbh (by assumption), below_cell hbh (by assumption), below_cell hbh (by assumption)⟩) | (go_split_ands; exact ⟨below_cell hbs (by assumption), below_cell hbs (by assumption), below_cell hbs (by assumption), below_cell hbs (by assumption), below_cell hbs (by assumption), below_cell hbs (by assumption), below_cell hbs (by assumption), below_cell hbs (by assumption), below_cell hbs (by assumption), below_cell hbs (by assumption), below_cell hbs (by assumption), below_cell hbs (by assumption), below_cell hbs (by assumption), below_cell hbs (by assumption), below_cell hbs (by assumption), below_cell hbs (by assumption), below_cell hbs (by assumption), below_cell hbs (by assumption)⟩) | (go_split_ands; exact ⟨below_cell hbn (by assumption), below_cell hbn (by assumption), below_cell hbn (by assumption), below_cell hbn (by assumption), below_cell hbn (by assumption), below_cell hbn (by assumption), below_cell hbn (by assumption), below_cell hbn (by assumption), below_cell hbn (by assumption), below_cell hbn (by assumption), below_cell hbn (by assumption), below_cell hbn (by assumption), below_cell hbn (by assumption), below_cell hbn (by assumption), below_cell hbn (by assumption), below_cell hbn (by assumption), below_cell hbn (by assumption), below_cell hbn (by assumption)⟩))
    ((first
      | (go_at_call 49; refine (number19_any _ _).mono ?_; rintro e w13 ⟨rfl, hbn⟩)
      | (go_at_call 54; refine (cSame_any _ (fun _ => False) _ _ t (numT 5 1) _ ((HT0.out.below (below_drewN (Below.refl _ wz) _)).below hbn) (numT_is _ _ _ _) true HTT.out).mono ?_; rintro e w14 ⟨rfl, hbs⟩)
      | (go_at_call 67; refine (has19_any _ _ _ [kA] T5 [] kA 1 _ (((SZ.out.below (below_drewN (Below.refl _ wz) _)).below hbn).below hbs) hA true (by rw [HT5.out]; decide +kernel)).mono ?_; rintro e w15 ⟨rfl, hbh⟩)
      | (go_at_call 55; refine (cGroup_any _ _ _ [kA] T5 [] _ ((((SZ.out.below (below_drewN (Below.refl _ wz) _)).below hbn).below hbs).below hbh) (by decide)).mono ?_; rintro e w16 ⟨A9, c9, es9, rfl, -, -, hbg⟩)))
  go_wp2
  go_ret
  have h1 : Below w11.heap.size w11 w16 := BZ.out.trans (((below_drewN (Below.refl wz.heap.size wz) _).trans (hbn.trans ((hbs.trans ((hbh.trans (hbg.mono hbh.size)).mono hbs.size)).mono hbn.size))).mono BZ.out.size)
  have h0 : Below w.heap.size w w11 := B1.out.trans (G11.out.chg.below B1.out.size (fun b hb => hb.1))
  exact ⟨rfl, h0.trans (h1.mono h0.size)⟩
end Go.Proofs.Ytochdmbjlemfoaa
