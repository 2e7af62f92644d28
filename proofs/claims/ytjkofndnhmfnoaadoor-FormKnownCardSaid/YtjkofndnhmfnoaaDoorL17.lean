/-
  The law FormKnown (package anamnesislaw05): the walk; its regions by text RG's law, one step an operation. strconv's table lies as the library lays it.
-/
import Derived.Test.YtjkofndnhmfnoaaDoorL15
import Derived.Test.YtjkofndnhmfnoaaDoorRG
namespace Go.Proofs.YtjkofndnhmfnoaaDoor
open Go Go.RowKit

/-- A value is a slice of these numbers. -/
def LitI (xs : List Int) (v : Value) (w : World) : Prop := ∃ A c, v = .slice A xs.length c ∧ Rd w (fun _ => True) 1 A xs.length c (intRows .i64 xs)
/-- A value is an array of these. -/
def ArrI (char : Bool) (s d : List Int) (v : Value) (w : World) : Prop := ∃ A c B e, v = .agg #[.bool char, .slice A s.length c, .slice B d.length e] ∧ Rd w (fun _ => True) 1 A s.length c (intRows .i64 s) ∧ Rd w (fun _ => True) 1 B d.length e (intRows .i64 d)
def TxI (l : List (List UInt8)) (v : Value) (w : World) : Prop := Txs w 0 v l
theorem LitI.below {xs : List Int} {v : Value} {w w' : World} (h : LitI xs v w) (hb : Below w.heap.size w w') : LitI xs v w' := by
  obtain ⟨A, c, e, r⟩ := h
  exact ⟨A, c, e, r.below hb⟩
theorem ArrI.below {char : Bool} {s d : List Int} {v : Value} {w w' : World} (h : ArrI char s d v w) (hb : Below w.heap.size w w') : ArrI char s d v w' := by
  obtain ⟨A, c, B, e, q, r1, r2⟩ := h
  exact ⟨A, c, B, e, q, r1.below hb, r2.below hb⟩
theorem TxI.below {l : List (List UInt8)} {v : Value} {w w' : World} (h : TxI l v w) (hb : Below w.heap.size w w') : TxI l v w' := Txs.below h hb
theorem liti (w : World) (t : TypeId) (xs : List Int) (cs : Array Value) (hcs : cs = (xs.map (Value.int .i64)).toArray) (hl : xs.length ≤ 1000) : LitI xs (.slice (some ⟨w.heap.size, 0, none⟩) xs.length xs.length) (w.alloc (.cells cs t)) :=
  ⟨_, _, rfl, (rd_ints w .i64 t xs cs hcs hl).mono (fun _ _ _ => trivial) (by decide)⟩
theorem txlit (w : World) (l : List (List UInt8)) (cs : Array Value) (hcs : cs = (txVals l).toArray) (hl : l.length ≤ 1000000) : TxI l (.slice (some ⟨w.heap.size, 0, none⟩) l.length l.length) (w.alloc (.cells cs 9)) := txs_lit w 0 l cs hcs (Nat.zero_le _) hl
def F2 (i : Nat) (v : Value) (w : World) : Prop :=
  match i with
  | 0 => v = .int .i64 1
  | 1 => v = .bool false
  | 2 => v = .bool false
  | 3 => LitI [2] v w
  | 4 => LitI [1] v w
  | 5 => ArrI false [2] [1] v w
  | 6 => v = .slice none 0 0
  | 7 => v = .int .i64 0
  | 8 => v = .bool false
  | 9 => v = .bool false
  | 10 => v = .bool false
  | 11 => v = .string ⟨#[48]⟩
  | 12 => v = .bool false
  | 13 => v = .bool false
  | 14 => v = .bool false
  | 15 => v = .string ⟨#[194, 175, 57, 50, 50, 51, 51, 55, 50, 48, 51, 54, 56, 53, 52, 55, 55, 53, 56, 48, 56]⟩
  | 16 => v = .bool false
  | 17 => v = .bool false
  | _ => True
theorem F2_stay : ∀ i v w1 w2, F2 i v w1 → Below w1.heap.size w1 w2 → F2 i v w2
  | 0, _, _, _, h, _ => h
  | 1, _, _, _, h, _ => h
  | 2, _, _, _, h, _ => h
  | 3, _, _, _, h, hb => LitI.below h hb
  | 4, _, _, _, h, hb => LitI.below h hb
  | 5, _, _, _, h, hb => ArrI.below h hb
  | 6, _, _, _, h, _ => h
  | 7, _, _, _, h, _ => h
  | 8, _, _, _, h, _ => h
  | 9, _, _, _, h, _ => h
  | 10, _, _, _, h, _ => h
  | 11, _, _, _, h, _ => h
  | 12, _, _, _, h, _ => h
  | 13, _, _, _, h, _ => h
  | 14, _, _, _, h, _ => h
  | 15, _, _, _, h, _ => h
  | 16, _, _, _, h, _ => h
  | 17, _, _, _, h, _ => h
  | _ + 18, _, _, _, h, _ => h
def F4 (i : Nat) (v : Value) (w : World) : Prop :=
  match i with
  | 0 => LitI [2] v w
  | 1 => LitI [65, 9076] v w
  | 2 => ArrI true [2] [65, 9076] v w
  | 3 => TxI [[65, 226, 141, 180]] v w
  | 4 => v = .bool true
  | 5 => v = .bool false
  | 6 => v = .bool false
  | 7 => LitI [0] v w
  | 8 => ArrI false [0] [] v w
  | 9 => TxI [[]] v w
  | 10 => v = .bool true
  | 11 => v = .bool false
  | 12 => v = .bool false
  | 13 => v = .bool false
  | 14 => LitI [(-5)] v w
  | 15 => ArrI false [] [(-5)] v w
  | 16 => TxI [[194, 175, 53]] v w
  | 17 => v = .bool true
  | 18 => v = .bool false
  | 19 => v = .bool false
  | 20 => v = .bool false
  | 21 => LitI [2, 1, 2] v w
  | 22 => LitI [1, 2, 30, 4] v w
  | 23 => ArrI false [2, 1, 2] [1, 2, 30, 4] v w
  | 24 => TxI [[49, 32, 50], [], [51, 48, 32, 52]] v w
  | 25 => v = .bool true
  | 26 => v = .bool false
  | 27 => v = .bool false
  | 28 => v = .bool false
  | 29 => LitI [0, 3] v w
  | 30 => ArrI false [0, 3] [] v w
  | 31 => v = .bool true
  | 32 => v = .bool false
  | 33 => v = .bool false
  | 34 => v = .bool false
  | 35 => LitI [2, 0] v w
  | 36 => ArrI false [2, 0] [] v w
  | 37 => TxI [[], []] v w
  | 38 => v = .bool true
  | 39 => v = .bool false
  | 40 => v = .bool false
  | 41 => v = .bool false
  | 42 => LitI [2, 0, 3] v w
  | 43 => ArrI false [2, 0, 3] [] v w
  | 44 => v = .bool true
  | 45 => v = .bool false
  | 46 => v = .bool false
  | 47 => v = .bool false
  | 48 => LitI [3, 2, 0] v w
  | 49 => ArrI false [3, 2, 0] [] v w
  | 50 => v = .bool true
  | 51 => v = .bool false
  | 52 => v = .bool false
  | _ => True
theorem F4_stay : ∀ i v w1 w2, F4 i v w1 → Below w1.heap.size w1 w2 → F4 i v w2
  | 0, _, _, _, h, hb => LitI.below h hb
  | 1, _, _, _, h, hb => LitI.below h hb
  | 2, _, _, _, h, hb => ArrI.below h hb
  | 3, _, _, _, h, hb => TxI.below h hb
  | 4, _, _, _, h, _ => h
  | 5, _, _, _, h, _ => h
  | 6, _, _, _, h, _ => h
  | 7, _, _, _, h, hb => LitI.below h hb
  | 8, _, _, _, h, hb => ArrI.below h hb
  | 9, _, _, _, h, hb => TxI.below h hb
  | 10, _, _, _, h, _ => h
  | 11, _, _, _, h, _ => h
  | 12, _, _, _, h, _ => h
  | 13, _, _, _, h, _ => h
  | 14, _, _, _, h, hb => LitI.below h hb
  | 15, _, _, _, h, hb => ArrI.below h hb
  | 16, _, _, _, h, hb => TxI.below h hb
  | 17, _, _, _, h, _ => h
  | 18, _, _, _, h, _ => h
  | 19, _, _, _, h, _ => h
  | 20, _, _, _, h, _ => h
  | 21, _, _, _, h, hb => LitI.below h hb
  | 22, _, _, _, h, hb => LitI.below h hb
  | 23, _, _, _, h, hb => ArrI.below h hb
  | 24, _, _, _, h, hb => TxI.below h hb
  | 25, _, _, _, h, _ => h
  | 26, _, _, _, h, _ => h
  | 27, _, _, _, h, _ => h
  | 28, _, _, _, h, _ => h
  | 29, _, _, _, h, hb => LitI.below h hb
  | 30, _, _, _, h, hb => ArrI.below h hb
  | 31, _, _, _, h, _ => h
  | 32, _, _, _, h, _ => h
  | 33, _, _, _, h, _ => h
  | 34, _, _, _, h, _ => h
  | 35, _, _, _, h, hb => LitI.below h hb
  | 36, _, _, _, h, hb => ArrI.below h hb
  | 37, _, _, _, h, hb => TxI.below h hb
  | 38, _, _, _, h, _ => h
  | 39, _, _, _, h, _ => h
  | 40, _, _, _, h, _ => h
  | 41, _, _, _, h, _ => h
  | 42, _, _, _, h, hb => LitI.below h hb
  | 43, _, _, _, h, hb => ArrI.below h hb
  | 44, _, _, _, h, _ => h
  | 45, _, _, _, h, _ => h
  | 46, _, _, _, h, _ => h
  | 47, _, _, _, h, _ => h
  | 48, _, _, _, h, hb => LitI.below h hb
  | 49, _, _, _, h, hb => ArrI.below h hb
  | 50, _, _, _, h, _ => h
  | 51, _, _, _, h, _ => h
  | 52, _, _, _, h, _ => h
  | _ + 53, _, _, _, h, _ => h
def F7 (i : Nat) (v : Value) (w : World) : Prop :=
  match i with
  | 0 => ArrI true [2, 2] [65, 32, 9076, 66] v w
  | 1 => TxI [[65, 32], [226, 141, 180, 66]] v w
  | 2 => v = .bool true
  | 3 => v = .bool true
  | 4 => LitI [2, 2, 1, 1] v w
  | 5 => LitI [1, 2, 3, 4] v w
  | 6 => ArrI false [2, 2, 1, 1] [1, 2, 3, 4] v w
  | 7 => TxI [[49], [], [50], [], [], [51], [], [52]] v w
  | 8 => v = .bool true
  | 9 => v = .bool true
  | 10 => v = .bool true
  | 11 => LitI [2, 2] v w
  | 12 => LitI [1, 20, (-3), 4] v w
  | 13 => ArrI false [2, 2] [1, 20, (-3), 4] v w
  | 14 => TxI [[50, 32, 50], [32, 49, 32, 50, 48]] v w
  | 15 => TxI [[50, 32, 50], [32, 49, 32, 50, 48]] v w
  | 16 => v = .bool true
  | 17 => v = .bool true
  | 18 => v = .bool true
  | 19 => LitI [7] v w
  | 20 => ArrI false [] [7] v w
  | 21 => TxI [[], [55]] v w
  | 22 => TxI [[], [55]] v w
  | 23 => v = .bool true
  | 24 => v = .bool true
  | 25 => v = .bool true
  | 26 => LitI [2, 2] v w
  | 27 => LitI [1, 2, 3, 4] v w
  | 28 => ArrI false [2, 2] [1, 2, 3, 4] v w
  | 29 => TxI [[50, 32, 50]] v w
  | 30 => TxI [[50, 32, 50]] v w
  | 31 => v = .bool true
  | 32 => v = .bool true
  | 33 => v = .bool true
  | 34 => v = .bool true
  | 35 => v = .bool true
  | 36 => v = .bool true
  | _ => True
theorem F7_stay : ∀ i v w1 w2, F7 i v w1 → Below w1.heap.size w1 w2 → F7 i v w2
  | 0, _, _, _, h, hb => ArrI.below h hb
  | 1, _, _, _, h, hb => TxI.below h hb
  | 2, _, _, _, h, _ => h
  | 3, _, _, _, h, _ => h
  | 4, _, _, _, h, hb => LitI.below h hb
  | 5, _, _, _, h, hb => LitI.below h hb
  | 6, _, _, _, h, hb => ArrI.below h hb
  | 7, _, _, _, h, hb => TxI.below h hb
  | 8, _, _, _, h, _ => h
  | 9, _, _, _, h, _ => h
  | 10, _, _, _, h, _ => h
  | 11, _, _, _, h, hb => LitI.below h hb
  | 12, _, _, _, h, hb => LitI.below h hb
  | 13, _, _, _, h, hb => ArrI.below h hb
  | 14, _, _, _, h, hb => TxI.below h hb
  | 15, _, _, _, h, hb => TxI.below h hb
  | 16, _, _, _, h, _ => h
  | 17, _, _, _, h, _ => h
  | 18, _, _, _, h, _ => h
  | 19, _, _, _, h, hb => LitI.below h hb
  | 20, _, _, _, h, hb => ArrI.below h hb
  | 21, _, _, _, h, hb => TxI.below h hb
  | 22, _, _, _, h, hb => TxI.below h hb
  | 23, _, _, _, h, _ => h
  | 24, _, _, _, h, _ => h
  | 25, _, _, _, h, _ => h
  | 26, _, _, _, h, hb => LitI.below h hb
  | 27, _, _, _, h, hb => LitI.below h hb
  | 28, _, _, _, h, hb => ArrI.below h hb
  | 29, _, _, _, h, hb => TxI.below h hb
  | 30, _, _, _, h, hb => TxI.below h hb
  | 31, _, _, _, h, _ => h
  | 32, _, _, _, h, _ => h
  | 33, _, _, _, h, _ => h
  | 34, _, _, _, h, _ => h
  | 35, _, _, _, h, _ => h
  | 36, _, _, _, h, _ => h
  | _ + 37, _, _, _, h, _ => h
theorem nu_0 : bs (numL 0) = ⟨#[48]⟩ := by
  rw [show numL 0 = [48] by decide +kernel]
  rfl
theorem nu_m9223372036854775808 : bs (numL (-9223372036854775808)) = ⟨#[194, 175, 57, 50, 50, 51, 51, 55, 50, 48, 51, 54, 56, 53, 52, 55, 55, 53, 56, 48, 56]⟩ := by
  rw [show numL (-9223372036854775808) = [194, 175, 57, 50, 50, 51, 51, 55, 50, 48, 51, 54, 56, 53, 52, 55, 55, 53, 56, 48, 56] by decide +kernel]
  rfl
theorem rt_1_2_x_65_9076 : rightL true [2] [65, 9076] := by decide +kernel
theorem ln_1_2_x_65_9076 : linesL true [2] [65, 9076] = [[65, 226, 141, 180]] := by decide +kernel
theorem rt_0_0_x : rightL false [0] [] := by decide +kernel
theorem ln_0_0_x : linesL false [0] [] = [[]] := by decide +kernel
theorem rt_0_x_m5 : rightL false [] [(-5)] := by decide +kernel
theorem ln_0_x_m5 : linesL false [] [(-5)] = [[194, 175, 53]] := by decide +kernel
theorem rt_0_2_1_2_x_1_2_30_4 : rightL false [2, 1, 2] [1, 2, 30, 4] := by decide +kernel
theorem ln_0_2_1_2_x_1_2_30_4 : linesL false [2, 1, 2] [1, 2, 30, 4] = [[49, 32, 50], [], [51, 48, 32, 52]] := by decide +kernel
theorem rt_0_0_3_x : rightL false [0, 3] [] := by decide +kernel
theorem ln_0_0_3_x : linesL false [0, 3] [] = [] := by decide +kernel
theorem rt_0_2_0_x : rightL false [2, 0] [] := by decide +kernel
theorem ln_0_2_0_x : linesL false [2, 0] [] = [[], []] := by decide +kernel
theorem rt_0_2_0_3_x : rightL false [2, 0, 3] [] := by decide +kernel
theorem ln_0_2_0_3_x : linesL false [2, 0, 3] [] = [] := by decide +kernel
theorem rt_0_3_2_0_x : rightL false [3, 2, 0] [] := by decide +kernel
theorem ln_0_3_2_0_x : linesL false [3, 2, 0] [] = [] := by decide +kernel
theorem rt_1_2_2_x_65_32_9076_66 : rightL true [2, 2] [65, 32, 9076, 66] := by decide +kernel
theorem ln_1_2_2_x_65_32_9076_66 : linesL true [2, 2] [65, 32, 9076, 66] = [[65, 32], [226, 141, 180, 66]] := by decide +kernel
theorem rt_0_2_2_1_1_x_1_2_3_4 : rightL false [2, 2, 1, 1] [1, 2, 3, 4] := by decide +kernel
theorem ln_0_2_2_1_1_x_1_2_3_4 : linesL false [2, 2, 1, 1] [1, 2, 3, 4] = [[49], [], [50], [], [], [51], [], [52]] := by decide +kernel
theorem rt_0_2_2_x_1_20_m3_4 : rightL false [2, 2] [1, 20, (-3), 4] := by decide +kernel
theorem fi_0_2_2_x_1_20_m3_4_y_1 : shapeL [2, 2] :: (linesL false [2, 2] [1, 20, (-3), 4]).take (1 : Int).toNat = [[50, 32, 50], [32, 49, 32, 50, 48]] := by decide +kernel
theorem rt_0_x_7 : rightL false [] [7] := by decide +kernel
theorem fi_0_x_7_y_3 : shapeL [] :: (linesL false [] [7]).take (3 : Int).toNat = [[], [55]] := by decide +kernel
theorem rt_0_2_2_x_1_2_3_4 : rightL false [2, 2] [1, 2, 3, 4] := by decide +kernel
theorem fi_0_2_2_x_1_2_3_4_y_m1 : shapeL [2, 2] :: (linesL false [2, 2] [1, 2, 3, 4]).take ((-1) : Int).toNat = [[50, 32, 50]] := by decide +kernel
set_option linter.unusedSimpArgs false in
set_option maxRecDepth 100000 in
set_option maxHeartbeats 12800000 in
theorem formKnown_any (w : World) (ht : Tab w) : Calls Tryd.prog 4 #[] w fun e w' => e = .returned (.bool true) ∧ Below w.heap.size w w' := by
  have HT := Lib.hid ht
  clear ht
  go_enter Tryd.func4, Tryd.ntmps4
  go_wp2_with fail
  refine (num05_any _ _ _ _ _ _ _).mono ?_
  rintro e w1 ⟨rfl, hb1⟩
  have RA := Lib.hid (((rd_ints w .i64 3 [2] #[.int .i64 2] rfl (by decide)).below ((Below.refl _ _).alloc (Nat.le_refl _) _)).below hb1)
  have RB := Lib.hid ((rd_ints (w.alloc (.cells #[.int .i64 2] 3)) .i64 2 [1] #[.int .i64 1] rfl (by decide)).below hb1)
  rw [show (w.alloc (.cells #[.int .i64 2] 3)).heap.size = w.heap.size + 1 by simp] at RB
  have B1 := Lib.hid ((((Below.refl _ w).alloc (Nat.le_refl _) _).alloc (by simp) _).trans (hb1.mono (by simp; omega)))
  clear hb1
  go_wp2_with fail
  refine (lines05_bad false _ _ _ _ _ _ [2] [1] _ _ w1 RA.out RB.out (by decide) (by decide)).mono ?_
  rintro e w2 ⟨rfl, hb2⟩
  have BW := Lib.hid (B1.out.trans (hb2.mono B1.out.size))
  clear hb2 B1 RA RB
  go_upto_region 2 with fail
  refine wp_region_facts (by kernel_rfl) (by kernel_rfl) F2 ?mkF2 ?hmkF2 F2_stay ?hsF2 ?hendF2
  case hmkF2 =>
    intro X
    simp only [fillA, fillO, List.setIfInBounds_toArray, List.set_cons_succ, List.set_cons_zero, Nat.zero_add, Nat.reduceAdd]
    rfl
  case hsF2 =>
    refine ⟨?F2s0, ?F2s1, ?F2s2, ?F2s3, ?F2s4, ?F2s5, ?F2s6, ?F2s7, ?F2s8, ?F2s9, ?F2s10, ?F2s11, ?F2s12, ?F2s13, ?F2s14, ?F2s15, ?F2s16, ?F2s17, trivial⟩
    case F2s0 =>
      intro X w1 hb f K hK
      clear f
      simp only [Act.put, List.setIfInBounds_toArray, List.set_cons_succ, List.set_cons_zero] at hK
      go_simp
      exact hK _ _ rfl (Below.refl _ _)
    case F2s1 =>
      intro X w1 hb f K hK
      simp only [List.foldr_cons, List.foldr_nil, and_true, F2] at f
      have e0 := f
      simp only [Act.put, List.setIfInBounds_toArray, List.set_cons_succ, List.set_cons_zero, e0] at hK
      go_simp
      exact hK _ _ rfl (Below.refl _ _)
    case F2s2 =>
      intro X w1 hb f K hK
      simp only [List.foldr_cons, List.foldr_nil, and_true, F2] at f
      have e1 := f
      simp only [Act.put, List.setIfInBounds_toArray, List.set_cons_succ, List.set_cons_zero, e1] at hK
      go_simp
      exact hK _ _ rfl (Below.refl _ _)
    case F2s3 =>
      intro X w1 hb f K hK
      simp only [List.foldr_cons, List.foldr_nil, and_true, F2] at f
      have e2 := f
      simp only [Act.put, List.setIfInBounds_toArray, List.set_cons_succ, List.set_cons_zero, e2] at hK
      go_simp
      exact hK _ _ (liti w1 _ [2] _ rfl (by decide)) ((Below.refl _ _).alloc (Nat.le_refl _) _)
    case F2s4 =>
      intro X w1 hb f K hK
      simp only [List.foldr_cons, List.foldr_nil, and_true, F2] at f
      have e2 := f
      simp only [Act.put, List.setIfInBounds_toArray, List.set_cons_succ, List.set_cons_zero, e2] at hK
      go_simp
      exact hK _ _ (liti w1 _ [1] _ rfl (by decide)) ((Below.refl _ _).alloc (Nat.le_refl _) _)
    case F2s5 =>
      intro X w1 hb f K hK
      simp only [List.foldr_cons, List.foldr_nil, and_true, F2] at f
      obtain ⟨⟨A3, c3, e3, r3⟩, ⟨A4, c4, e4, r4⟩, e2, -⟩ := f
      simp only [Act.put, List.setIfInBounds_toArray, List.set_cons_succ, List.set_cons_zero, e3, e4, e2] at hK
      go_simp
      go_at_call 12
      refine (num05_any _ _ _ _ _ _ _).mono ?_
      rintro e w2 ⟨rfl, hb2⟩
      exact hK _ _ ⟨_, _, _, _, rfl, (r3.below hb2), (r4.below hb2)⟩ hb2
    case F2s6 =>
      intro X w1 hb f K hK
      simp only [List.foldr_cons, List.foldr_nil, and_true, F2] at f
      obtain ⟨⟨A5, c5, B5, d5, e5, r5, q5⟩, -, e2⟩ := f
      simp only [Act.put, List.setIfInBounds_toArray, List.set_cons_succ, List.set_cons_zero, e5, e2] at hK
      go_simp
      go_at_call 13
      refine (first05_bad false _ _ _ _ _ _ _ _ _ _ _ w1 r5 q5 (by decide) (by decide +kernel)).mono ?_
      rintro e w2 ⟨rfl, hb2⟩
      exact hK _ _ rfl hb2
    case F2s7 =>
      intro X w1 hb f K hK
      simp only [List.foldr_cons, List.foldr_nil, and_true, F2] at f
      obtain ⟨e6, e2⟩ := f
      simp only [Act.put, List.setIfInBounds_toArray, List.set_cons_succ, List.set_cons_zero, e6, e2] at hK
      go_simp
      exact hK _ _ rfl (Below.refl _ _)
    case F2s8 =>
      intro X w1 hb f K hK
      simp only [List.foldr_cons, List.foldr_nil, and_true, F2] at f
      obtain ⟨e7, e2⟩ := f
      simp only [Act.put, List.setIfInBounds_toArray, List.set_cons_succ, List.set_cons_zero, e7, e2] at hK
      go_simp
      exact hK _ _ rfl (Below.refl _ _)
    case F2s9 =>
      intro X w1 hb f K hK
      simp only [List.foldr_cons, List.foldr_nil, and_true, F2] at f
      obtain ⟨e2, e8⟩ := f
      simp only [Act.put, List.setIfInBounds_toArray, List.set_cons_succ, List.set_cons_zero, e2, e8] at hK
      go_simp
      exact hK _ _ rfl (Below.refl _ _)
    case F2s10 =>
      intro X w1 hb f K hK
      simp only [List.foldr_cons, List.foldr_nil, and_true, F2] at f
      obtain ⟨e9, e6⟩ := f
      simp only [Act.put, List.setIfInBounds_toArray, List.set_cons_succ, List.set_cons_zero, e9, e6] at hK
      go_simp
      exact hK _ _ rfl (Below.refl _ _)
    case F2s11 =>
      intro X w1 hb f K hK
      simp only [List.foldr_cons, List.foldr_nil, and_true, F2] at f
      obtain ⟨e10, -⟩ := f
      simp only [Act.put, List.setIfInBounds_toArray, List.set_cons_succ, List.set_cons_zero, e10] at hK
      go_simp
      go_at_call 14
      refine (number05_any 0 w1 (by unfold i64; omega) (HT.out.below (BW.out.trans (hb.mono BW.out.size)))).mono ?_
      rintro e w2 ⟨rfl, hb2⟩
      rw [nu_0]
      exact hK _ _ rfl hb2
    case F2s12 =>
      intro X w1 hb f K hK
      simp only [List.foldr_cons, List.foldr_nil, and_true, F2] at f
      obtain ⟨e11, e10⟩ := f
      simp only [Act.put, List.setIfInBounds_toArray, List.set_cons_succ, List.set_cons_zero, e11, e10] at hK
      go_simp
      exact hK _ _ rfl (Below.refl _ _)
    case F2s13 =>
      intro X w1 hb f K hK
      simp only [List.foldr_cons, List.foldr_nil, and_true, F2] at f
      obtain ⟨e10, e12⟩ := f
      simp only [Act.put, List.setIfInBounds_toArray, List.set_cons_succ, List.set_cons_zero, e10, e12] at hK
      go_simp
      exact hK _ _ rfl (Below.refl _ _)
    case F2s14 =>
      intro X w1 hb f K hK
      simp only [List.foldr_cons, List.foldr_nil, and_true, F2] at f
      obtain ⟨e13, e11⟩ := f
      simp only [Act.put, List.setIfInBounds_toArray, List.set_cons_succ, List.set_cons_zero, e13, e11] at hK
      go_simp
      exact hK _ _ rfl (Below.refl _ _)
    case F2s15 =>
      intro X w1 hb f K hK
      simp only [List.foldr_cons, List.foldr_nil, and_true, F2] at f
      obtain ⟨e14, -⟩ := f
      simp only [Act.put, List.setIfInBounds_toArray, List.set_cons_succ, List.set_cons_zero, e14] at hK
      go_simp
      go_at_call 14
      refine (number05_any (-9223372036854775808) w1 (by unfold i64; omega) (HT.out.below (BW.out.trans (hb.mono BW.out.size)))).mono ?_
      rintro e w2 ⟨rfl, hb2⟩
      rw [nu_m9223372036854775808]
      exact hK _ _ rfl hb2
    case F2s16 =>
      intro X w1 hb f K hK
      simp only [List.foldr_cons, List.foldr_nil, and_true, F2] at f
      obtain ⟨e15, e14⟩ := f
      simp only [Act.put, List.setIfInBounds_toArray, List.set_cons_succ, List.set_cons_zero, e15, e14] at hK
      go_simp
      exact hK _ _ rfl (Below.refl _ _)
    case F2s17 =>
      intro X w1 hb f K hK
      simp only [List.foldr_cons, List.foldr_nil, and_true, F2] at f
      obtain ⟨e14, e16⟩ := f
      simp only [Act.put, List.setIfInBounds_toArray, List.set_cons_succ, List.set_cons_zero, e14, e16] at hK
      go_simp
      exact hK _ _ rfl (Below.refl _ _)
  case hendF2 =>
    intro X w3 hb3 hf
    have hq : X 17 = .bool false := hf 17 (by decide)
    clear hf
    simp only [hq]
    clear hq
    have BW' := Lib.hid (BW.out.trans (hb3.mono BW.out.size))
    clear BW hb3
    have BW := BW'
    clear BW'
    go_upto_region 4 with fail
    refine wp_region_facts (by kernel_rfl) (by kernel_rfl) F4 ?mkF4 ?hmkF4 F4_stay ?hsF4 ?hendF4
    case hmkF4 =>
      intro X
      simp only [fillA, fillO, List.setIfInBounds_toArray, List.set_cons_succ, List.set_cons_zero, Nat.zero_add, Nat.reduceAdd]
      rfl
    case hsF4 =>
      refine ⟨?F4s0, ?F4s1, ?F4s2, ?F4s3, ?F4s4, ?F4s5, ?F4s6, ?F4s7, ?F4s8, ?F4s9, ?F4s10, ?F4s11, ?F4s12, ?F4s13, ?F4s14, ?F4s15, ?F4s16, ?F4s17, ?F4s18, ?F4s19, ?F4s20, ?F4s21, ?F4s22, ?F4s23, ?F4s24, ?F4s25, ?F4s26, ?F4s27, ?F4s28, ?F4s29, ?F4s30, ?F4s31, ?F4s32, ?F4s33, ?F4s34, ?F4s35, ?F4s36, ?F4s37, ?F4s38, ?F4s39, ?F4s40, ?F4s41, ?F4s42, ?F4s43, ?F4s44, ?F4s45, ?F4s46, ?F4s47, ?F4s48, ?F4s49, ?F4s50, ?F4s51, ?F4s52, trivial⟩
      case F4s0 =>
        intro X w1 hb f K hK
        clear f
        simp only [Act.put, List.setIfInBounds_toArray, List.set_cons_succ, List.set_cons_zero] at hK
        go_simp
        exact hK _ _ (liti w1 _ [2] _ rfl (by decide)) ((Below.refl _ _).alloc (Nat.le_refl _) _)
      case F4s1 =>
        intro X w1 hb f K hK
        clear f
        simp only [Act.put, List.setIfInBounds_toArray, List.set_cons_succ, List.set_cons_zero] at hK
        go_simp
        exact hK _ _ (liti w1 _ [65, 9076] _ rfl (by decide)) ((Below.refl _ _).alloc (Nat.le_refl _) _)
      case F4s2 =>
        intro X w1 hb f K hK
        simp only [List.foldr_cons, List.foldr_nil, and_true, F4] at f
        obtain ⟨⟨A0, c0, e0, r0⟩, ⟨A1, c1, e1, r1⟩⟩ := f
        simp only [Act.put, List.setIfInBounds_toArray, List.set_cons_succ, List.set_cons_zero, e0, e1] at hK
        go_simp
        exact hK _ _ ⟨_, _, _, _, rfl, r0, r1⟩ (Below.refl _ _)
      case F4s3 =>
        intro X w1 hb f K hK
        clear f
        simp only [Act.put, List.setIfInBounds_toArray, List.set_cons_succ, List.set_cons_zero] at hK
        go_simp
        exact hK _ _ (txlit w1 [[65, 226, 141, 180]] #[.string ⟨#[65, 226, 141, 180]⟩] rfl (by decide)) ((Below.refl _ _).alloc (Nat.le_refl _) _)
      case F4s4 =>
        intro X w1 hb f K hK
        simp only [List.foldr_cons, List.foldr_nil, and_true, F4] at f
        obtain ⟨⟨A2, c2, B2, d2, e2, r2, q2⟩, t3⟩ := f
        simp only [Act.put, List.setIfInBounds_toArray, List.set_cons_succ, List.set_cons_zero, e2] at hK
        go_simp
        go_at_call 15
        refine (prints05_any true _ _ _ _ _ _ [2] [65, 9076] _ _ w1 _ _ [[65, 226, 141, 180]] r2 q2 (by decide) rt_1_2_x_65_9076 (HT.out.below (BW.out.trans (hb.mono BW.out.size))) t3).mono ?_
        rintro e w2 ⟨rfl, hb2⟩
        rw [decide_eq_true ln_1_2_x_65_9076] at *
        exact hK _ _ rfl hb2
      case F4s5 =>
        intro X w1 hb f K hK
        simp only [List.foldr_cons, List.foldr_nil, and_true, F4] at f
        have e4 := f
        simp only [Act.put, List.setIfInBounds_toArray, List.set_cons_succ, List.set_cons_zero, e4] at hK
        go_simp
        exact hK _ _ rfl (Below.refl _ _)
      case F4s6 =>
        intro X w1 hb f K hK
        simp only [List.foldr_cons, List.foldr_nil, and_true, F4] at f
        obtain ⟨e5, e4⟩ := f
        simp only [Act.put, List.setIfInBounds_toArray, List.set_cons_succ, List.set_cons_zero, e5, e4] at hK
        go_simp
        exact hK _ _ rfl (Below.refl _ _)
      case F4s7 =>
        intro X w1 hb f K hK
        simp only [List.foldr_cons, List.foldr_nil, and_true, F4] at f
        have e6 := f
        simp only [Act.put, List.setIfInBounds_toArray, List.set_cons_succ, List.set_cons_zero, e6] at hK
        go_simp
        exact hK _ _ (liti w1 _ [0] _ rfl (by decide)) ((Below.refl _ _).alloc (Nat.le_refl _) _)
      case F4s8 =>
        intro X w1 hb f K hK
        simp only [List.foldr_cons, List.foldr_nil, and_true, F4] at f
        obtain ⟨⟨A7, c7, e7, r7⟩, e6, -⟩ := f
        simp only [Act.put, List.setIfInBounds_toArray, List.set_cons_succ, List.set_cons_zero, e7, e6] at hK
        go_simp
        go_at_call 12
        refine (num05_any _ _ _ _ _ _ _).mono ?_
        rintro e w2 ⟨rfl, hb2⟩
        exact hK _ _ ⟨_, _, _, _, rfl, (r7.below hb2), (Rd.nil w2 _ 1)⟩ hb2
      case F4s9 =>
        intro X w1 hb f K hK
        simp only [List.foldr_cons, List.foldr_nil, and_true, F4] at f
        have e6 := f
        simp only [Act.put, List.setIfInBounds_toArray, List.set_cons_succ, List.set_cons_zero, e6] at hK
        go_simp
        exact hK _ _ (txlit w1 [[]] #[.string ⟨#[]⟩] rfl (by decide)) ((Below.refl _ _).alloc (Nat.le_refl _) _)
      case F4s10 =>
        intro X w1 hb f K hK
        simp only [List.foldr_cons, List.foldr_nil, and_true, F4] at f
        obtain ⟨⟨A8, c8, B8, d8, e8, r8, q8⟩, t9, -, e6⟩ := f
        simp only [Act.put, List.setIfInBounds_toArray, List.set_cons_succ, List.set_cons_zero, e8, e6] at hK
        go_simp
        go_at_call 15
        refine (prints05_any false _ _ _ _ _ _ [0] [] _ _ w1 _ _ [[]] r8 q8 (by decide) rt_0_0_x (HT.out.below (BW.out.trans (hb.mono BW.out.size))) t9).mono ?_
        rintro e w2 ⟨rfl, hb2⟩
        rw [decide_eq_true ln_0_0_x] at *
        exact hK _ _ rfl hb2
      case F4s11 =>
        intro X w1 hb f K hK
        simp only [List.foldr_cons, List.foldr_nil, and_true, F4] at f
        obtain ⟨e10, e6⟩ := f
        simp only [Act.put, List.setIfInBounds_toArray, List.set_cons_succ, List.set_cons_zero, e10, e6] at hK
        go_simp
        exact hK _ _ rfl (Below.refl _ _)
      case F4s12 =>
        intro X w1 hb f K hK
        simp only [List.foldr_cons, List.foldr_nil, and_true, F4] at f
        obtain ⟨e6, e11⟩ := f
        simp only [Act.put, List.setIfInBounds_toArray, List.set_cons_succ, List.set_cons_zero, e6, e11] at hK
        go_simp
        exact hK _ _ rfl (Below.refl _ _)
      case F4s13 =>
        intro X w1 hb f K hK
        simp only [List.foldr_cons, List.foldr_nil, and_true, F4] at f
        obtain ⟨e12, e10⟩ := f
        simp only [Act.put, List.setIfInBounds_toArray, List.set_cons_succ, List.set_cons_zero, e12, e10] at hK
        go_simp
        exact hK _ _ rfl (Below.refl _ _)
      case F4s14 =>
        intro X w1 hb f K hK
        simp only [List.foldr_cons, List.foldr_nil, and_true, F4] at f
        have e13 := f
        simp only [Act.put, List.setIfInBounds_toArray, List.set_cons_succ, List.set_cons_zero, e13] at hK
        go_simp
        exact hK _ _ (liti w1 _ [(-5)] _ rfl (by decide)) ((Below.refl _ _).alloc (Nat.le_refl _) _)
      case F4s15 =>
        intro X w1 hb f K hK
        simp only [List.foldr_cons, List.foldr_nil, and_true, F4] at f
        obtain ⟨⟨A14, c14, e14, r14⟩, e13, -⟩ := f
        simp only [Act.put, List.setIfInBounds_toArray, List.set_cons_succ, List.set_cons_zero, e14, e13] at hK
        go_simp
        go_at_call 12
        refine (num05_any _ _ _ _ _ _ _).mono ?_
        rintro e w2 ⟨rfl, hb2⟩
        exact hK _ _ ⟨_, _, _, _, rfl, (Rd.nil w2 _ 1), (r14.below hb2)⟩ hb2
      case F4s16 =>
        intro X w1 hb f K hK
        simp only [List.foldr_cons, List.foldr_nil, and_true, F4] at f
        have e13 := f
        simp only [Act.put, List.setIfInBounds_toArray, List.set_cons_succ, List.set_cons_zero, e13] at hK
        go_simp
        exact hK _ _ (txlit w1 [[194, 175, 53]] #[.string ⟨#[194, 175, 53]⟩] rfl (by decide)) ((Below.refl _ _).alloc (Nat.le_refl _) _)
      case F4s17 =>
        intro X w1 hb f K hK
        simp only [List.foldr_cons, List.foldr_nil, and_true, F4] at f
        obtain ⟨⟨A15, c15, B15, d15, e15, r15, q15⟩, t16, -, e13⟩ := f
        simp only [Act.put, List.setIfInBounds_toArray, List.set_cons_succ, List.set_cons_zero, e15, e13] at hK
        go_simp
        go_at_call 15
        refine (prints05_any false _ _ _ _ _ _ [] [(-5)] _ _ w1 _ _ [[194, 175, 53]] r15 q15 (by decide) rt_0_x_m5 (HT.out.below (BW.out.trans (hb.mono BW.out.size))) t16).mono ?_
        rintro e w2 ⟨rfl, hb2⟩
        rw [decide_eq_true ln_0_x_m5] at *
        exact hK _ _ rfl hb2
      case F4s18 =>
        intro X w1 hb f K hK
        simp only [List.foldr_cons, List.foldr_nil, and_true, F4] at f
        obtain ⟨e17, e13⟩ := f
        simp only [Act.put, List.setIfInBounds_toArray, List.set_cons_succ, List.set_cons_zero, e17, e13] at hK
        go_simp
        exact hK _ _ rfl (Below.refl _ _)
      case F4s19 =>
        intro X w1 hb f K hK
        simp only [List.foldr_cons, List.foldr_nil, and_true, F4] at f
        obtain ⟨e13, e18⟩ := f
        simp only [Act.put, List.setIfInBounds_toArray, List.set_cons_succ, List.set_cons_zero, e13, e18] at hK
        go_simp
        exact hK _ _ rfl (Below.refl _ _)
      case F4s20 =>
        intro X w1 hb f K hK
        simp only [List.foldr_cons, List.foldr_nil, and_true, F4] at f
        obtain ⟨e19, e17⟩ := f
        simp only [Act.put, List.setIfInBounds_toArray, List.set_cons_succ, List.set_cons_zero, e19, e17] at hK
        go_simp
        exact hK _ _ rfl (Below.refl _ _)
      case F4s21 =>
        intro X w1 hb f K hK
        simp only [List.foldr_cons, List.foldr_nil, and_true, F4] at f
        have e20 := f
        simp only [Act.put, List.setIfInBounds_toArray, List.set_cons_succ, List.set_cons_zero, e20] at hK
        go_simp
        exact hK _ _ (liti w1 _ [2, 1, 2] _ rfl (by decide)) ((Below.refl _ _).alloc (Nat.le_refl _) _)
      case F4s22 =>
        intro X w1 hb f K hK
        simp only [List.foldr_cons, List.foldr_nil, and_true, F4] at f
        have e20 := f
        simp only [Act.put, List.setIfInBounds_toArray, List.set_cons_succ, List.set_cons_zero, e20] at hK
        go_simp
        exact hK _ _ (liti w1 _ [1, 2, 30, 4] _ rfl (by decide)) ((Below.refl _ _).alloc (Nat.le_refl _) _)
      case F4s23 =>
        intro X w1 hb f K hK
        simp only [List.foldr_cons, List.foldr_nil, and_true, F4] at f
        obtain ⟨⟨A21, c21, e21, r21⟩, ⟨A22, c22, e22, r22⟩, e20, -⟩ := f
        simp only [Act.put, List.setIfInBounds_toArray, List.set_cons_succ, List.set_cons_zero, e21, e22, e20] at hK
        go_simp
        go_at_call 12
        refine (num05_any _ _ _ _ _ _ _).mono ?_
        rintro e w2 ⟨rfl, hb2⟩
        exact hK _ _ ⟨_, _, _, _, rfl, (r21.below hb2), (r22.below hb2)⟩ hb2
      case F4s24 =>
        intro X w1 hb f K hK
        simp only [List.foldr_cons, List.foldr_nil, and_true, F4] at f
        have e20 := f
        simp only [Act.put, List.setIfInBounds_toArray, List.set_cons_succ, List.set_cons_zero, e20] at hK
        go_simp
        exact hK _ _ (txlit w1 [[49, 32, 50], [], [51, 48, 32, 52]] #[.string ⟨#[49, 32, 50]⟩, .string ⟨#[]⟩, .string ⟨#[51, 48, 32, 52]⟩] rfl (by decide)) ((Below.refl _ _).alloc (Nat.le_refl _) _)
      case F4s25 =>
        intro X w1 hb f K hK
        simp only [List.foldr_cons, List.foldr_nil, and_true, F4] at f
        obtain ⟨⟨A23, c23, B23, d23, e23, r23, q23⟩, t24, -, e20⟩ := f
        simp only [Act.put, List.setIfInBounds_toArray, List.set_cons_succ, List.set_cons_zero, e23, e20] at hK
        go_simp
        go_at_call 15
        refine (prints05_any false _ _ _ _ _ _ [2, 1, 2] [1, 2, 30, 4] _ _ w1 _ _ [[49, 32, 50], [], [51, 48, 32, 52]] r23 q23 (by decide) rt_0_2_1_2_x_1_2_30_4 (HT.out.below (BW.out.trans (hb.mono BW.out.size))) t24).mono ?_
        rintro e w2 ⟨rfl, hb2⟩
        rw [decide_eq_true ln_0_2_1_2_x_1_2_30_4] at *
        exact hK _ _ rfl hb2
      case F4s26 =>
        intro X w1 hb f K hK
        simp only [List.foldr_cons, List.foldr_nil, and_true, F4] at f
        obtain ⟨e25, e20⟩ := f
        simp only [Act.put, List.setIfInBounds_toArray, List.set_cons_succ, List.set_cons_zero, e25, e20] at hK
        go_simp
        exact hK _ _ rfl (Below.refl _ _)
      case F4s27 =>
        intro X w1 hb f K hK
        simp only [List.foldr_cons, List.foldr_nil, and_true, F4] at f
        obtain ⟨e20, e26⟩ := f
        simp only [Act.put, List.setIfInBounds_toArray, List.set_cons_succ, List.set_cons_zero, e20, e26] at hK
        go_simp
        exact hK _ _ rfl (Below.refl _ _)
      case F4s28 =>
        intro X w1 hb f K hK
        simp only [List.foldr_cons, List.foldr_nil, and_true, F4] at f
        obtain ⟨e27, e25⟩ := f
        simp only [Act.put, List.setIfInBounds_toArray, List.set_cons_succ, List.set_cons_zero, e27, e25] at hK
        go_simp
        exact hK _ _ rfl (Below.refl _ _)
      case F4s29 =>
        intro X w1 hb f K hK
        simp only [List.foldr_cons, List.foldr_nil, and_true, F4] at f
        have e28 := f
        simp only [Act.put, List.setIfInBounds_toArray, List.set_cons_succ, List.set_cons_zero, e28] at hK
        go_simp
        exact hK _ _ (liti w1 _ [0, 3] _ rfl (by decide)) ((Below.refl _ _).alloc (Nat.le_refl _) _)
      case F4s30 =>
        intro X w1 hb f K hK
        simp only [List.foldr_cons, List.foldr_nil, and_true, F4] at f
        obtain ⟨⟨A29, c29, e29, r29⟩, e28, -⟩ := f
        simp only [Act.put, List.setIfInBounds_toArray, List.set_cons_succ, List.set_cons_zero, e29, e28] at hK
        go_simp
        go_at_call 12
        refine (num05_any _ _ _ _ _ _ _).mono ?_
        rintro e w2 ⟨rfl, hb2⟩
        exact hK _ _ ⟨_, _, _, _, rfl, (r29.below hb2), (Rd.nil w2 _ 1)⟩ hb2
      case F4s31 =>
        intro X w1 hb f K hK
        simp only [List.foldr_cons, List.foldr_nil, and_true, F4] at f
        obtain ⟨⟨A30, c30, B30, d30, e30, r30, q30⟩, -, e28⟩ := f
        simp only [Act.put, List.setIfInBounds_toArray, List.set_cons_succ, List.set_cons_zero, e30, e28] at hK
        go_simp
        go_at_call 15
        refine (prints05_any false _ _ _ _ _ _ [0, 3] [] _ _ w1 _ _ [] r30 q30 (by decide) rt_0_0_3_x (HT.out.below (BW.out.trans (hb.mono BW.out.size))) (Txs.nil w1 0)).mono ?_
        rintro e w2 ⟨rfl, hb2⟩
        rw [decide_eq_true ln_0_0_3_x] at *
        exact hK _ _ rfl hb2
      case F4s32 =>
        intro X w1 hb f K hK
        simp only [List.foldr_cons, List.foldr_nil, and_true, F4] at f
        obtain ⟨e31, e28⟩ := f
        simp only [Act.put, List.setIfInBounds_toArray, List.set_cons_succ, List.set_cons_zero, e31, e28] at hK
        go_simp
        exact hK _ _ rfl (Below.refl _ _)
      case F4s33 =>
        intro X w1 hb f K hK
        simp only [List.foldr_cons, List.foldr_nil, and_true, F4] at f
        obtain ⟨e28, e32⟩ := f
        simp only [Act.put, List.setIfInBounds_toArray, List.set_cons_succ, List.set_cons_zero, e28, e32] at hK
        go_simp
        exact hK _ _ rfl (Below.refl _ _)
      case F4s34 =>
        intro X w1 hb f K hK
        simp only [List.foldr_cons, List.foldr_nil, and_true, F4] at f
        obtain ⟨e33, e31⟩ := f
        simp only [Act.put, List.setIfInBounds_toArray, List.set_cons_succ, List.set_cons_zero, e33, e31] at hK
        go_simp
        exact hK _ _ rfl (Below.refl _ _)
      case F4s35 =>
        intro X w1 hb f K hK
        simp only [List.foldr_cons, List.foldr_nil, and_true, F4] at f
        have e34 := f
        simp only [Act.put, List.setIfInBounds_toArray, List.set_cons_succ, List.set_cons_zero, e34] at hK
        go_simp
        exact hK _ _ (liti w1 _ [2, 0] _ rfl (by decide)) ((Below.refl _ _).alloc (Nat.le_refl _) _)
      case F4s36 =>
        intro X w1 hb f K hK
        simp only [List.foldr_cons, List.foldr_nil, and_true, F4] at f
        obtain ⟨⟨A35, c35, e35, r35⟩, e34, -⟩ := f
        simp only [Act.put, List.setIfInBounds_toArray, List.set_cons_succ, List.set_cons_zero, e35, e34] at hK
        go_simp
        go_at_call 12
        refine (num05_any _ _ _ _ _ _ _).mono ?_
        rintro e w2 ⟨rfl, hb2⟩
        exact hK _ _ ⟨_, _, _, _, rfl, (r35.below hb2), (Rd.nil w2 _ 1)⟩ hb2
      case F4s37 =>
        intro X w1 hb f K hK
        simp only [List.foldr_cons, List.foldr_nil, and_true, F4] at f
        have e34 := f
        simp only [Act.put, List.setIfInBounds_toArray, List.set_cons_succ, List.set_cons_zero, e34] at hK
        go_simp
        exact hK _ _ (txlit w1 [[], []] #[.string ⟨#[]⟩, .string ⟨#[]⟩] rfl (by decide)) ((Below.refl _ _).alloc (Nat.le_refl _) _)
      case F4s38 =>
        intro X w1 hb f K hK
        simp only [List.foldr_cons, List.foldr_nil, and_true, F4] at f
        obtain ⟨⟨A36, c36, B36, d36, e36, r36, q36⟩, t37, -, e34⟩ := f
        simp only [Act.put, List.setIfInBounds_toArray, List.set_cons_succ, List.set_cons_zero, e36, e34] at hK
        go_simp
        go_at_call 15
        refine (prints05_any false _ _ _ _ _ _ [2, 0] [] _ _ w1 _ _ [[], []] r36 q36 (by decide) rt_0_2_0_x (HT.out.below (BW.out.trans (hb.mono BW.out.size))) t37).mono ?_
        rintro e w2 ⟨rfl, hb2⟩
        rw [decide_eq_true ln_0_2_0_x] at *
        exact hK _ _ rfl hb2
      case F4s39 =>
        intro X w1 hb f K hK
        simp only [List.foldr_cons, List.foldr_nil, and_true, F4] at f
        obtain ⟨e38, e34⟩ := f
        simp only [Act.put, List.setIfInBounds_toArray, List.set_cons_succ, List.set_cons_zero, e38, e34] at hK
        go_simp
        exact hK _ _ rfl (Below.refl _ _)
      case F4s40 =>
        intro X w1 hb f K hK
        simp only [List.foldr_cons, List.foldr_nil, and_true, F4] at f
        obtain ⟨e34, e39⟩ := f
        simp only [Act.put, List.setIfInBounds_toArray, List.set_cons_succ, List.set_cons_zero, e34, e39] at hK
        go_simp
        exact hK _ _ rfl (Below.refl _ _)
      case F4s41 =>
        intro X w1 hb f K hK
        simp only [List.foldr_cons, List.foldr_nil, and_true, F4] at f
        obtain ⟨e40, e38⟩ := f
        simp only [Act.put, List.setIfInBounds_toArray, List.set_cons_succ, List.set_cons_zero, e40, e38] at hK
        go_simp
        exact hK _ _ rfl (Below.refl _ _)
      case F4s42 =>
        intro X w1 hb f K hK
        simp only [List.foldr_cons, List.foldr_nil, and_true, F4] at f
        have e41 := f
        simp only [Act.put, List.setIfInBounds_toArray, List.set_cons_succ, List.set_cons_zero, e41] at hK
        go_simp
        exact hK _ _ (liti w1 _ [2, 0, 3] _ rfl (by decide)) ((Below.refl _ _).alloc (Nat.le_refl _) _)
      case F4s43 =>
        intro X w1 hb f K hK
        simp only [List.foldr_cons, List.foldr_nil, and_true, F4] at f
        obtain ⟨⟨A42, c42, e42, r42⟩, e41, -⟩ := f
        simp only [Act.put, List.setIfInBounds_toArray, List.set_cons_succ, List.set_cons_zero, e42, e41] at hK
        go_simp
        go_at_call 12
        refine (num05_any _ _ _ _ _ _ _).mono ?_
        rintro e w2 ⟨rfl, hb2⟩
        exact hK _ _ ⟨_, _, _, _, rfl, (r42.below hb2), (Rd.nil w2 _ 1)⟩ hb2
      case F4s44 =>
        intro X w1 hb f K hK
        simp only [List.foldr_cons, List.foldr_nil, and_true, F4] at f
        obtain ⟨⟨A43, c43, B43, d43, e43, r43, q43⟩, -, e41⟩ := f
        simp only [Act.put, List.setIfInBounds_toArray, List.set_cons_succ, List.set_cons_zero, e43, e41] at hK
        go_simp
        go_at_call 15
        refine (prints05_any false _ _ _ _ _ _ [2, 0, 3] [] _ _ w1 _ _ [] r43 q43 (by decide) rt_0_2_0_3_x (HT.out.below (BW.out.trans (hb.mono BW.out.size))) (Txs.nil w1 0)).mono ?_
        rintro e w2 ⟨rfl, hb2⟩
        rw [decide_eq_true ln_0_2_0_3_x] at *
        exact hK _ _ rfl hb2
      case F4s45 =>
        intro X w1 hb f K hK
        simp only [List.foldr_cons, List.foldr_nil, and_true, F4] at f
        obtain ⟨e44, e41⟩ := f
        simp only [Act.put, List.setIfInBounds_toArray, List.set_cons_succ, List.set_cons_zero, e44, e41] at hK
        go_simp
        exact hK _ _ rfl (Below.refl _ _)
      case F4s46 =>
        intro X w1 hb f K hK
        simp only [List.foldr_cons, List.foldr_nil, and_true, F4] at f
        obtain ⟨e41, e45⟩ := f
        simp only [Act.put, List.setIfInBounds_toArray, List.set_cons_succ, List.set_cons_zero, e41, e45] at hK
        go_simp
        exact hK _ _ rfl (Below.refl _ _)
      case F4s47 =>
        intro X w1 hb f K hK
        simp only [List.foldr_cons, List.foldr_nil, and_true, F4] at f
        obtain ⟨e46, e44⟩ := f
        simp only [Act.put, List.setIfInBounds_toArray, List.set_cons_succ, List.set_cons_zero, e46, e44] at hK
        go_simp
        exact hK _ _ rfl (Below.refl _ _)
      case F4s48 =>
        intro X w1 hb f K hK
        simp only [List.foldr_cons, List.foldr_nil, and_true, F4] at f
        have e47 := f
        simp only [Act.put, List.setIfInBounds_toArray, List.set_cons_succ, List.set_cons_zero, e47] at hK
        go_simp
        exact hK _ _ (liti w1 _ [3, 2, 0] _ rfl (by decide)) ((Below.refl _ _).alloc (Nat.le_refl _) _)
      case F4s49 =>
        intro X w1 hb f K hK
        simp only [List.foldr_cons, List.foldr_nil, and_true, F4] at f
        obtain ⟨⟨A48, c48, e48, r48⟩, e47, -⟩ := f
        simp only [Act.put, List.setIfInBounds_toArray, List.set_cons_succ, List.set_cons_zero, e48, e47] at hK
        go_simp
        go_at_call 12
        refine (num05_any _ _ _ _ _ _ _).mono ?_
        rintro e w2 ⟨rfl, hb2⟩
        exact hK _ _ ⟨_, _, _, _, rfl, (r48.below hb2), (Rd.nil w2 _ 1)⟩ hb2
      case F4s50 =>
        intro X w1 hb f K hK
        simp only [List.foldr_cons, List.foldr_nil, and_true, F4] at f
        obtain ⟨⟨A49, c49, B49, d49, e49, r49, q49⟩, -, e47⟩ := f
        simp only [Act.put, List.setIfInBounds_toArray, List.set_cons_succ, List.set_cons_zero, e49, e47] at hK
        go_simp
        go_at_call 15
        refine (prints05_any false _ _ _ _ _ _ [3, 2, 0] [] _ _ w1 _ _ [] r49 q49 (by decide) rt_0_3_2_0_x (HT.out.below (BW.out.trans (hb.mono BW.out.size))) (Txs.nil w1 0)).mono ?_
        rintro e w2 ⟨rfl, hb2⟩
        rw [decide_eq_true ln_0_3_2_0_x] at *
        exact hK _ _ rfl hb2
      case F4s51 =>
        intro X w1 hb f K hK
        simp only [List.foldr_cons, List.foldr_nil, and_true, F4] at f
        obtain ⟨e50, e47⟩ := f
        simp only [Act.put, List.setIfInBounds_toArray, List.set_cons_succ, List.set_cons_zero, e50, e47] at hK
        go_simp
        exact hK _ _ rfl (Below.refl _ _)
      case F4s52 =>
        intro X w1 hb f K hK
        simp only [List.foldr_cons, List.foldr_nil, and_true, F4] at f
        obtain ⟨e47, e51⟩ := f
        simp only [Act.put, List.setIfInBounds_toArray, List.set_cons_succ, List.set_cons_zero, e47, e51] at hK
        go_simp
        exact hK _ _ rfl (Below.refl _ _)
    case hendF4 =>
      intro X4 w4 hb4 hf
      have hq4 : X4 52 = .bool false := hf 52 (by decide)
      clear hf
      simp only [hq4]
      clear hq4
      have B1 := Lib.hid (BW.out.trans (hb4.mono BW.out.size))
      clear BW hb4
      obtain ⟨wc, hwc⟩ : ∃ wc, wc = ((w4.alloc (.cells #[.int .i64 2, .int .i64 2] 3)).alloc (.cells #[.int .i64 65, .int .i64 32, .int .i64 9076, .int .i64 66] 2)) := ⟨_, rfl⟩
      have LS := Lib.hid (((rd_ints w4 .i64 3 [2, 2] #[.int .i64 2, .int .i64 2] rfl (by decide)).below ((Below.refl _ _).alloc (Nat.le_refl _) (.cells #[.int .i64 65, .int .i64 32, .int .i64 9076, .int .i64 66] 2))).mono (D' := fun _ => True) (fun _ _ _ => trivial) (by decide))
      have LD := Lib.hid ((rd_ints (w4.alloc (.cells #[.int .i64 2, .int .i64 2] 3)) .i64 2 [65, 32, 9076, 66] #[.int .i64 65, .int .i64 32, .int .i64 9076, .int .i64 66] rfl (by decide)).mono (D' := fun _ => True) (fun _ _ _ => trivial) (by decide))
      rw [show (w4.alloc (.cells #[.int .i64 2, .int .i64 2] 3)).heap.size = w4.heap.size + 1 by simp] at LD
      rw [← hwc] at LS LD
      go_upto_region 7 with fail
      have hsz : wc.heap.size = w4.heap.size + 1 + 1 := by rw [hwc]; simp
      have hbc : Below w4.heap.size w4 wc := by rw [hwc]; exact ((Below.refl _ w4).alloc (Nat.le_refl _) _).alloc (by simp) _
      rw [← hwc]
      clear hwc
      obtain ⟨wd, hwd⟩ : ∃ wd, wd = wc.alloc (.cells #[.bool true, .slice (some ⟨w4.heap.size, 0, none⟩) 2 2, .slice (some ⟨w4.heap.size + 1, 0, none⟩) 4 4] 27) := ⟨_, rfl⟩
      have hbd : Below wc.heap.size wc wd := by rw [hwd]; exact (Below.refl _ _).alloc (Nat.le_refl _) _
      have XD : wd.heap[w4.heap.size + 1 + 1]? = some (.cells #[.bool true, .slice (some ⟨w4.heap.size, 0, none⟩) 2 2, .slice (some ⟨w4.heap.size + 1, 0, none⟩) 4 4] 27 (0, 0)) := by rw [hwd, ← hsz]; exact heap_alloc_new _ _
      rw [← hwd]
      clear hwd
      have PP := Lib.hid (agg_fields XD)
      have RS := Lib.hid (LS.out.below hbd)
      have RD := Lib.hid (LD.out.below hbd)
      have BW := Lib.hid (B1.out.trans ((hbc.trans (hbd.mono hbc.size)).mono B1.out.size))
      clear LS LD B1 hbc hbd hsz XD
      refine wp_region_facts (by kernel_rfl) (by kernel_rfl) F7 ?mkF7 ?hmkF7 F7_stay ?hsF7 ?hendF7
      case hmkF7 =>
        intro X
        simp only [fillA, fillO, List.setIfInBounds_toArray, List.set_cons_succ, List.set_cons_zero, Nat.zero_add, Nat.reduceAdd]
        rfl
      case hsF7 =>
        refine ⟨?F7s0, ?F7s1, ?F7s2, ?F7s3, ?F7s4, ?F7s5, ?F7s6, ?F7s7, ?F7s8, ?F7s9, ?F7s10, ?F7s11, ?F7s12, ?F7s13, ?F7s14, ?F7s15, ?F7s16, ?F7s17, ?F7s18, ?F7s19, ?F7s20, ?F7s21, ?F7s22, ?F7s23, ?F7s24, ?F7s25, ?F7s26, ?F7s27, ?F7s28, ?F7s29, ?F7s30, ?F7s31, ?F7s32, ?F7s33, ?F7s34, ?F7s35, ?F7s36, trivial⟩
        case F7s0 =>
          intro X w1 hb f K hK
          clear f
          simp only [Act.put, List.setIfInBounds_toArray, List.set_cons_succ, List.set_cons_zero] at hK
          have p0 := below_cell hb PP.out.1
          have p1 := below_cell hb PP.out.2.1
          have p2 := below_cell hb PP.out.2.2
          go_simp
          exact hK _ _ ⟨_, _, _, _, rfl, (RS.out.below hb), (RD.out.below hb)⟩ (Below.refl _ _)
        case F7s1 =>
          intro X w1 hb f K hK
          clear f
          simp only [Act.put, List.setIfInBounds_toArray, List.set_cons_succ, List.set_cons_zero] at hK
          go_simp
          exact hK _ _ (txlit w1 [[65, 32], [226, 141, 180, 66]] #[.string ⟨#[65, 32]⟩, .string ⟨#[226, 141, 180, 66]⟩] rfl (by decide)) ((Below.refl _ _).alloc (Nat.le_refl _) _)
        case F7s2 =>
          intro X w1 hb f K hK
          simp only [List.foldr_cons, List.foldr_nil, and_true, F7] at f
          obtain ⟨⟨A0, c0, B0, d0, e0, r0, q0⟩, t1⟩ := f
          simp only [Act.put, List.setIfInBounds_toArray, List.set_cons_succ, List.set_cons_zero, e0] at hK
          go_simp
          go_at_call 15
          refine (prints05_any true _ _ _ _ _ _ [2, 2] [65, 32, 9076, 66] _ _ w1 _ _ [[65, 32], [226, 141, 180, 66]] r0 q0 (by decide) rt_1_2_2_x_65_32_9076_66 (HT.out.below (BW.out.trans (hb.mono BW.out.size))) t1).mono ?_
          rintro e w2 ⟨rfl, hb2⟩
          rw [decide_eq_true ln_1_2_2_x_65_32_9076_66] at *
          exact hK _ _ rfl hb2
        case F7s3 =>
          intro X w1 hb f K hK
          simp only [List.foldr_cons, List.foldr_nil, and_true, F7] at f
          obtain ⟨e2, -⟩ := f
          simp only [Act.put, List.setIfInBounds_toArray, List.set_cons_succ, List.set_cons_zero, e2] at hK
          go_simp
          exact hK _ _ rfl (Below.refl _ _)
        case F7s4 =>
          intro X w1 hb f K hK
          simp only [List.foldr_cons, List.foldr_nil, and_true, F7] at f
          have e3 := f
          simp only [Act.put, List.setIfInBounds_toArray, List.set_cons_succ, List.set_cons_zero, e3] at hK
          go_simp
          exact hK _ _ (liti w1 _ [2, 2, 1, 1] _ rfl (by decide)) ((Below.refl _ _).alloc (Nat.le_refl _) _)
        case F7s5 =>
          intro X w1 hb f K hK
          simp only [List.foldr_cons, List.foldr_nil, and_true, F7] at f
          have e3 := f
          simp only [Act.put, List.setIfInBounds_toArray, List.set_cons_succ, List.set_cons_zero, e3] at hK
          go_simp
          exact hK _ _ (liti w1 _ [1, 2, 3, 4] _ rfl (by decide)) ((Below.refl _ _).alloc (Nat.le_refl _) _)
        case F7s6 =>
          intro X w1 hb f K hK
          simp only [List.foldr_cons, List.foldr_nil, and_true, F7] at f
          obtain ⟨⟨A4, c4, e4, r4⟩, ⟨A5, c5, e5, r5⟩, e3, -⟩ := f
          simp only [Act.put, List.setIfInBounds_toArray, List.set_cons_succ, List.set_cons_zero, e4, e5, e3] at hK
          go_simp
          go_at_call 12
          refine (num05_any _ _ _ _ _ _ _).mono ?_
          rintro e w2 ⟨rfl, hb2⟩
          exact hK _ _ ⟨_, _, _, _, rfl, (r4.below hb2), (r5.below hb2)⟩ hb2
        case F7s7 =>
          intro X w1 hb f K hK
          simp only [List.foldr_cons, List.foldr_nil, and_true, F7] at f
          have e3 := f
          simp only [Act.put, List.setIfInBounds_toArray, List.set_cons_succ, List.set_cons_zero, e3] at hK
          go_simp
          exact hK _ _ (txlit w1 [[49], [], [50], [], [], [51], [], [52]] #[.string ⟨#[49]⟩, .string ⟨#[]⟩, .string ⟨#[50]⟩, .string ⟨#[]⟩, .string ⟨#[]⟩, .string ⟨#[51]⟩, .string ⟨#[]⟩, .string ⟨#[52]⟩] rfl (by decide)) ((Below.refl _ _).alloc (Nat.le_refl _) _)
        case F7s8 =>
          intro X w1 hb f K hK
          simp only [List.foldr_cons, List.foldr_nil, and_true, F7] at f
          obtain ⟨⟨A6, c6, B6, d6, e6, r6, q6⟩, t7, -, e3⟩ := f
          simp only [Act.put, List.setIfInBounds_toArray, List.set_cons_succ, List.set_cons_zero, e6, e3] at hK
          go_simp
          go_at_call 15
          refine (prints05_any false _ _ _ _ _ _ [2, 2, 1, 1] [1, 2, 3, 4] _ _ w1 _ _ [[49], [], [50], [], [], [51], [], [52]] r6 q6 (by decide) rt_0_2_2_1_1_x_1_2_3_4 (HT.out.below (BW.out.trans (hb.mono BW.out.size))) t7).mono ?_
          rintro e w2 ⟨rfl, hb2⟩
          rw [decide_eq_true ln_0_2_2_1_1_x_1_2_3_4] at *
          exact hK _ _ rfl hb2
        case F7s9 =>
          intro X w1 hb f K hK
          simp only [List.foldr_cons, List.foldr_nil, and_true, F7] at f
          obtain ⟨e3, e8⟩ := f
          simp only [Act.put, List.setIfInBounds_toArray, List.set_cons_succ, List.set_cons_zero, e3, e8] at hK
          go_simp
          exact hK _ _ rfl (Below.refl _ _)
        case F7s10 =>
          intro X w1 hb f K hK
          simp only [List.foldr_cons, List.foldr_nil, and_true, F7] at f
          obtain ⟨e9, e8⟩ := f
          simp only [Act.put, List.setIfInBounds_toArray, List.set_cons_succ, List.set_cons_zero, e9, e8] at hK
          go_simp
          exact hK _ _ rfl (Below.refl _ _)
        case F7s11 =>
          intro X w1 hb f K hK
          simp only [List.foldr_cons, List.foldr_nil, and_true, F7] at f
          have e10 := f
          simp only [Act.put, List.setIfInBounds_toArray, List.set_cons_succ, List.set_cons_zero, e10] at hK
          go_simp
          exact hK _ _ (liti w1 _ [2, 2] _ rfl (by decide)) ((Below.refl _ _).alloc (Nat.le_refl _) _)
        case F7s12 =>
          intro X w1 hb f K hK
          simp only [List.foldr_cons, List.foldr_nil, and_true, F7] at f
          have e10 := f
          simp only [Act.put, List.setIfInBounds_toArray, List.set_cons_succ, List.set_cons_zero, e10] at hK
          go_simp
          exact hK _ _ (liti w1 _ [1, 20, (-3), 4] _ rfl (by decide)) ((Below.refl _ _).alloc (Nat.le_refl _) _)
        case F7s13 =>
          intro X w1 hb f K hK
          simp only [List.foldr_cons, List.foldr_nil, and_true, F7] at f
          obtain ⟨⟨A11, c11, e11, r11⟩, ⟨A12, c12, e12, r12⟩, e10, -⟩ := f
          simp only [Act.put, List.setIfInBounds_toArray, List.set_cons_succ, List.set_cons_zero, e11, e12, e10] at hK
          go_simp
          go_at_call 12
          refine (num05_any _ _ _ _ _ _ _).mono ?_
          rintro e w2 ⟨rfl, hb2⟩
          exact hK _ _ ⟨_, _, _, _, rfl, (r11.below hb2), (r12.below hb2)⟩ hb2
        case F7s14 =>
          intro X w1 hb f K hK
          simp only [List.foldr_cons, List.foldr_nil, and_true, F7] at f
          obtain ⟨⟨A13, c13, B13, d13, e13, r13, q13⟩, -, e10⟩ := f
          simp only [Act.put, List.setIfInBounds_toArray, List.set_cons_succ, List.set_cons_zero, e13, e10] at hK
          go_simp
          go_at_call 13
          refine (first05_good false _ _ _ _ _ _ [2, 2] [1, 20, (-3), 4] 1 _ _ w1 r13 q13 (by decide) rt_0_2_2_x_1_20_m3_4 (HT.out.below (BW.out.trans (hb.mono BW.out.size))) (by unfold i64; omega) (by decide +kernel)).mono ?_
          rintro e w2 ⟨v2, rfl, ht2, hb2⟩
          exact hK _ _ (ht2.eq fi_0_2_2_x_1_20_m3_4_y_1 (Nat.zero_le _)) hb2
        case F7s15 =>
          intro X w1 hb f K hK
          simp only [List.foldr_cons, List.foldr_nil, and_true, F7] at f
          have e10 := f
          simp only [Act.put, List.setIfInBounds_toArray, List.set_cons_succ, List.set_cons_zero, e10] at hK
          go_simp
          exact hK _ _ (txlit w1 [[50, 32, 50], [32, 49, 32, 50, 48]] #[.string ⟨#[50, 32, 50]⟩, .string ⟨#[32, 49, 32, 50, 48]⟩] rfl (by decide)) ((Below.refl _ _).alloc (Nat.le_refl _) _)
        case F7s16 =>
          intro X w1 hb f K hK
          simp only [List.foldr_cons, List.foldr_nil, and_true, F7] at f
          obtain ⟨t14, t15, -, e10⟩ := f
          simp only [Act.put, List.setIfInBounds_toArray, List.set_cons_succ, List.set_cons_zero, e10] at hK
          go_simp
          go_at_call 16
          refine (ltexts_txs w1 _ _ _ _ [[50, 32, 50], [32, 49, 32, 50, 48]] [[50, 32, 50], [32, 49, 32, 50, 48]] t14 t15).mono ?_
          rintro e w2 ⟨rfl, hb2⟩
          rw [decide_eq_true rfl] at *
          exact hK _ _ rfl hb2
        case F7s17 =>
          intro X w1 hb f K hK
          simp only [List.foldr_cons, List.foldr_nil, and_true, F7] at f
          obtain ⟨e10, e16⟩ := f
          simp only [Act.put, List.setIfInBounds_toArray, List.set_cons_succ, List.set_cons_zero, e10, e16] at hK
          go_simp
          exact hK _ _ rfl (Below.refl _ _)
        case F7s18 =>
          intro X w1 hb f K hK
          simp only [List.foldr_cons, List.foldr_nil, and_true, F7] at f
          obtain ⟨e17, e16⟩ := f
          simp only [Act.put, List.setIfInBounds_toArray, List.set_cons_succ, List.set_cons_zero, e17, e16] at hK
          go_simp
          exact hK _ _ rfl (Below.refl _ _)
        case F7s19 =>
          intro X w1 hb f K hK
          simp only [List.foldr_cons, List.foldr_nil, and_true, F7] at f
          have e18 := f
          simp only [Act.put, List.setIfInBounds_toArray, List.set_cons_succ, List.set_cons_zero, e18] at hK
          go_simp
          exact hK _ _ (liti w1 _ [7] _ rfl (by decide)) ((Below.refl _ _).alloc (Nat.le_refl _) _)
        case F7s20 =>
          intro X w1 hb f K hK
          simp only [List.foldr_cons, List.foldr_nil, and_true, F7] at f
          obtain ⟨⟨A19, c19, e19, r19⟩, e18, -⟩ := f
          simp only [Act.put, List.setIfInBounds_toArray, List.set_cons_succ, List.set_cons_zero, e19, e18] at hK
          go_simp
          go_at_call 12
          refine (num05_any _ _ _ _ _ _ _).mono ?_
          rintro e w2 ⟨rfl, hb2⟩
          exact hK _ _ ⟨_, _, _, _, rfl, (Rd.nil w2 _ 1), (r19.below hb2)⟩ hb2
        case F7s21 =>
          intro X w1 hb f K hK
          simp only [List.foldr_cons, List.foldr_nil, and_true, F7] at f
          obtain ⟨⟨A20, c20, B20, d20, e20, r20, q20⟩, -, e18⟩ := f
          simp only [Act.put, List.setIfInBounds_toArray, List.set_cons_succ, List.set_cons_zero, e20, e18] at hK
          go_simp
          go_at_call 13
          refine (first05_good false _ _ _ _ _ _ [] [7] 3 _ _ w1 r20 q20 (by decide) rt_0_x_7 (HT.out.below (BW.out.trans (hb.mono BW.out.size))) (by unfold i64; omega) (by decide +kernel)).mono ?_
          rintro e w2 ⟨v2, rfl, ht2, hb2⟩
          exact hK _ _ (ht2.eq fi_0_x_7_y_3 (Nat.zero_le _)) hb2
        case F7s22 =>
          intro X w1 hb f K hK
          simp only [List.foldr_cons, List.foldr_nil, and_true, F7] at f
          have e18 := f
          simp only [Act.put, List.setIfInBounds_toArray, List.set_cons_succ, List.set_cons_zero, e18] at hK
          go_simp
          exact hK _ _ (txlit w1 [[], [55]] #[.string ⟨#[]⟩, .string ⟨#[55]⟩] rfl (by decide)) ((Below.refl _ _).alloc (Nat.le_refl _) _)
        case F7s23 =>
          intro X w1 hb f K hK
          simp only [List.foldr_cons, List.foldr_nil, and_true, F7] at f
          obtain ⟨t21, t22, -, e18⟩ := f
          simp only [Act.put, List.setIfInBounds_toArray, List.set_cons_succ, List.set_cons_zero, e18] at hK
          go_simp
          go_at_call 16
          refine (ltexts_txs w1 _ _ _ _ [[], [55]] [[], [55]] t21 t22).mono ?_
          rintro e w2 ⟨rfl, hb2⟩
          rw [decide_eq_true rfl] at *
          exact hK _ _ rfl hb2
        case F7s24 =>
          intro X w1 hb f K hK
          simp only [List.foldr_cons, List.foldr_nil, and_true, F7] at f
          obtain ⟨e18, e23⟩ := f
          simp only [Act.put, List.setIfInBounds_toArray, List.set_cons_succ, List.set_cons_zero, e18, e23] at hK
          go_simp
          exact hK _ _ rfl (Below.refl _ _)
        case F7s25 =>
          intro X w1 hb f K hK
          simp only [List.foldr_cons, List.foldr_nil, and_true, F7] at f
          obtain ⟨e24, e23⟩ := f
          simp only [Act.put, List.setIfInBounds_toArray, List.set_cons_succ, List.set_cons_zero, e24, e23] at hK
          go_simp
          exact hK _ _ rfl (Below.refl _ _)
        case F7s26 =>
          intro X w1 hb f K hK
          simp only [List.foldr_cons, List.foldr_nil, and_true, F7] at f
          have e25 := f
          simp only [Act.put, List.setIfInBounds_toArray, List.set_cons_succ, List.set_cons_zero, e25] at hK
          go_simp
          exact hK _ _ (liti w1 _ [2, 2] _ rfl (by decide)) ((Below.refl _ _).alloc (Nat.le_refl _) _)
        case F7s27 =>
          intro X w1 hb f K hK
          simp only [List.foldr_cons, List.foldr_nil, and_true, F7] at f
          have e25 := f
          simp only [Act.put, List.setIfInBounds_toArray, List.set_cons_succ, List.set_cons_zero, e25] at hK
          go_simp
          exact hK _ _ (liti w1 _ [1, 2, 3, 4] _ rfl (by decide)) ((Below.refl _ _).alloc (Nat.le_refl _) _)
        case F7s28 =>
          intro X w1 hb f K hK
          simp only [List.foldr_cons, List.foldr_nil, and_true, F7] at f
          obtain ⟨⟨A26, c26, e26, r26⟩, ⟨A27, c27, e27, r27⟩, e25, -⟩ := f
          simp only [Act.put, List.setIfInBounds_toArray, List.set_cons_succ, List.set_cons_zero, e26, e27, e25] at hK
          go_simp
          go_at_call 12
          refine (num05_any _ _ _ _ _ _ _).mono ?_
          rintro e w2 ⟨rfl, hb2⟩
          exact hK _ _ ⟨_, _, _, _, rfl, (r26.below hb2), (r27.below hb2)⟩ hb2
        case F7s29 =>
          intro X w1 hb f K hK
          simp only [List.foldr_cons, List.foldr_nil, and_true, F7] at f
          obtain ⟨⟨A28, c28, B28, d28, e28, r28, q28⟩, -, e25⟩ := f
          simp only [Act.put, List.setIfInBounds_toArray, List.set_cons_succ, List.set_cons_zero, e28, e25] at hK
          go_simp
          go_at_call 13
          refine (first05_good false _ _ _ _ _ _ [2, 2] [1, 2, 3, 4] (-1) _ _ w1 r28 q28 (by decide) rt_0_2_2_x_1_2_3_4 (HT.out.below (BW.out.trans (hb.mono BW.out.size))) (by unfold i64; omega) (by decide +kernel)).mono ?_
          rintro e w2 ⟨v2, rfl, ht2, hb2⟩
          exact hK _ _ (ht2.eq fi_0_2_2_x_1_2_3_4_y_m1 (Nat.zero_le _)) hb2
        case F7s30 =>
          intro X w1 hb f K hK
          simp only [List.foldr_cons, List.foldr_nil, and_true, F7] at f
          have e25 := f
          simp only [Act.put, List.setIfInBounds_toArray, List.set_cons_succ, List.set_cons_zero, e25] at hK
          go_simp
          exact hK _ _ (txlit w1 [[50, 32, 50]] #[.string ⟨#[50, 32, 50]⟩] rfl (by decide)) ((Below.refl _ _).alloc (Nat.le_refl _) _)
        case F7s31 =>
          intro X w1 hb f K hK
          simp only [List.foldr_cons, List.foldr_nil, and_true, F7] at f
          obtain ⟨t29, t30, -, e25⟩ := f
          simp only [Act.put, List.setIfInBounds_toArray, List.set_cons_succ, List.set_cons_zero, e25] at hK
          go_simp
          go_at_call 16
          refine (ltexts_txs w1 _ _ _ _ [[50, 32, 50]] [[50, 32, 50]] t29 t30).mono ?_
          rintro e w2 ⟨rfl, hb2⟩
          rw [decide_eq_true rfl] at *
          exact hK _ _ rfl hb2
        case F7s32 =>
          intro X w1 hb f K hK
          simp only [List.foldr_cons, List.foldr_nil, and_true, F7] at f
          obtain ⟨e25, e31⟩ := f
          simp only [Act.put, List.setIfInBounds_toArray, List.set_cons_succ, List.set_cons_zero, e25, e31] at hK
          go_simp
          exact hK _ _ rfl (Below.refl _ _)
        case F7s33 =>
          intro X w1 hb f K hK
          simp only [List.foldr_cons, List.foldr_nil, and_true, F7] at f
          obtain ⟨e32, e31⟩ := f
          simp only [Act.put, List.setIfInBounds_toArray, List.set_cons_succ, List.set_cons_zero, e32, e31] at hK
          go_simp
          exact hK _ _ rfl (Below.refl _ _)
        case F7s34 =>
          intro X w1 hb f K hK
          simp only [List.foldr_cons, List.foldr_nil, and_true, F7] at f
          obtain ⟨e33, -⟩ := f
          simp only [Act.put, List.setIfInBounds_toArray, List.set_cons_succ, List.set_cons_zero, e33] at hK
          go_simp
          go_at_call 8
          refine (awake05_any w1 (HT.out.below (BW.out.trans (hb.mono BW.out.size)))).mono ?_
          rintro e w2 ⟨rfl, hb2⟩
          exact hK _ _ rfl hb2
        case F7s35 =>
          intro X w1 hb f K hK
          simp only [List.foldr_cons, List.foldr_nil, and_true, F7] at f
          obtain ⟨e33, e34⟩ := f
          simp only [Act.put, List.setIfInBounds_toArray, List.set_cons_succ, List.set_cons_zero, e33, e34] at hK
          go_simp
          exact hK _ _ rfl (Below.refl _ _)
        case F7s36 =>
          intro X w1 hb f K hK
          simp only [List.foldr_cons, List.foldr_nil, and_true, F7] at f
          obtain ⟨e35, e34, ⟨A0, c0, B0, d0, e0, r0, q0⟩, t1, e2, e3, ⟨A4, c4, e4, r4⟩, ⟨A5, c5, e5, r5⟩, ⟨A6, c6, B6, d6, e6, r6, q6⟩, t7, e8, e9, e10, ⟨A11, c11, e11, r11⟩, ⟨A12, c12, e12, r12⟩, ⟨A13, c13, B13, d13, e13, r13, q13⟩, t14, t15, e16, e17, e18, ⟨A19, c19, e19, r19⟩, ⟨A20, c20, B20, d20, e20, r20, q20⟩, t21, t22, e23, e24, e25, ⟨A26, c26, e26, r26⟩, ⟨A27, c27, e27, r27⟩, ⟨A28, c28, B28, d28, e28, r28, q28⟩, t29, t30, e31, e32, e33, -, -⟩ := f
          simp only [Act.put, List.setIfInBounds_toArray, List.set_cons_succ, List.set_cons_zero, e35, e34, e0, e2, e3, e4, e5, e6, e8, e9, e10, e11, e12, e13, e16, e17, e18, e19, e20, e23, e24, e25, e26, e27, e28, e31, e32, e33] at hK
          go_simp
          exact hK _ _ rfl (Below.refl _ _)
      case hendF7 =>
        intro X7 w5 hb5 hf
        have hq7 : X7 36 = .bool true := hf 36 (by decide)
        clear hf
        simp only [hq7]
        clear hq7
        go_wp2
        go_ret
        exact ⟨rfl, BW.out.trans (hb5.mono BW.out.size)⟩
end Go.Proofs.YtjkofndnhmfnoaaDoor
