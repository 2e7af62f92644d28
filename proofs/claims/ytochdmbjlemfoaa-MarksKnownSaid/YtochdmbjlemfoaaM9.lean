/-
  The law MarksKnown (package anamnesislaw25): the walk. A closed statement.
-/
import Derived.Test.YtochdmbjlemfoaaM7
namespace Go.Proofs.Ytochdmbjlemfoaa
open Go Go.RowKit Go.Maps

/-- Marks in memory, whatever their values, in blocks that the law has made. -/
structure MO (w0 w : World) (r b most : Nat) (per : Int) (K : List Int) : Prop where
  ex : ∃ f, MK w r b most per K f
  below : Below w0.heap.size w0 w
  hi : w0.heap.size ≤ r ∧ w0.heap.size ≤ b
theorem MO.stay {w0 w w' : World} {r b most : Nat} {per : Int} {K : List Int} (h : MO w0 w r b most per K) (hb : Below w.heap.size w w') : MO w0 w' r b most per K := by
  obtain ⟨f, h1⟩ := h.ex
  exact ⟨⟨f, h1.below hb⟩, h.below.trans (hb.mono h.below.size), h.hi⟩
theorem MO.other {w0 w w' : World} {r b most : Nat} {per : Int} {K : List Int} (h : MO w0 w r b most per K) {c : Nat} (hc : Chg (fun j => j = c) w w') (h1 : r ≠ c) (h2 : b ≠ c) (h3 : w0.heap.size ≤ c) : MO w0 w' r b most per K := by
  obtain ⟨f, hk⟩ := h.ex
  exact ⟨⟨f, hk.chg hc h1 h2⟩, h.below.trans (hc.below h.below.size (fun k hk => by omega)), h.hi⟩
theorem mo_put {w0 w : World} {r b most : Nat} {per : Int} {K : List Int} (h : MO w0 w r b most per K) (k : Int) (v : Value) (hper : 1 ≤ per) (hk : k ≤ 9223372036854775807) (hKl : K.length ≤ 1000000) (K' : List Int) (hK' : mputK most per K k = K') :
    Calls Try.prog 31 #[.pointer (some ⟨r, 0, none⟩), .int .i64 k, v] w fun e w' => e = .returned (.tuple #[]) ∧ MO w0 w' r b most per K' ∧ Chg (fun j => j = b) w w' := by
  obtain ⟨f, hm⟩ := h.ex
  refine (mput_any r b most per K f k v w hm hper hk hKl).mono ?_
  rintro e w' ⟨rfl, h1, h2⟩
  rw [hK'] at h1
  exact ⟨rfl, ⟨⟨_, h1⟩, h.below.trans (h2.below h.below.size (fun k hk => by have := h.hi; omega)), h.hi⟩, h2⟩
theorem mo_below {w0 w : World} {r b most : Nat} {per : Int} {K : List Int} (h : MO w0 w r b most per K) (k : Int) (hKl : K.length ≤ 2000000) (K' : List Int) (hK' : belowK K k = K') :
    Calls Try.prog 42 #[.pointer (some ⟨r, 0, none⟩), .int .i64 k] w fun e w' => e = .returned (.tuple #[]) ∧ MO w0 w' r b most per K' := by
  obtain ⟨f, hm⟩ := h.ex
  refine (mbelow_any r b most per K f k w hm hKl).mono ?_
  rintro e w' ⟨rfl, h1, h2⟩
  rw [hK'] at h1
  exact ⟨rfl, ⟨⟨_, h1⟩, h.below.trans (h2.below h.below.size (fun k hk => by have := h.hi; omega)), h.hi⟩⟩
theorem mo_clear {w0 w : World} {r b most : Nat} {per : Int} {K : List Int} (h : MO w0 w r b most per K) :
    Calls Try.prog 43 #[.pointer (some ⟨r, 0, none⟩)] w fun e w' => e = .returned (.tuple #[]) ∧ MO w0 w' r b most per [] ∧ Chg (fun j => j = b) w w' := by
  obtain ⟨f, hm⟩ := h.ex
  refine (mclear_any r b most per K f w hm).mono ?_
  rintro e w' ⟨rfl, h1, h2⟩
  exact ⟨rfl, ⟨⟨_, h1⟩, h.below.trans (h2.below h.below.size (fun k hk => by have := h.hi; omega)), h.hi⟩, h2⟩
theorem mo_keys {w0 w : World} {r b most : Nat} {per : Int} {K : List Int} (h : MO w0 w r b most per K) (hKl : K.length ≤ 2000000) :
    Calls Try.prog 34 #[.pointer (some ⟨r, 0, none⟩)] w fun e w' => ∃ A c, e = .returned (.slice A K.length c) ∧ Rd w' (fun b => w.heap.size ≤ b) 1 A K.length c (iRows K) ∧ Below w.heap.size w w' := by
  obtain ⟨f, hm⟩ := h.ex
  exact mkeys_any r b most per K f w hm hKl
theorem mo_len {w0 w : World} {r b most : Nat} {per : Int} {K : List Int} (h : MO w0 w r b most per K) (hKl : K.length ≤ 2000000) :
    Calls Try.prog 40 #[.pointer (some ⟨r, 0, none⟩)] w fun e w' => e = .returned (.int .i64 (K.length : Int)) ∧ Below w.heap.size w w' := by
  obtain ⟨f, hm⟩ := h.ex
  exact mlen_any r b most per K f w hm hKl
theorem mo_near {w0 w : World} {r b most : Nat} {per : Int} {K : List Int} (h : MO w0 w r b most per K) (k : Int) (hKl : K.length ≤ 2000000) (q : Option Int) (hq : nearK K k = q) :
    Calls Try.prog 35 #[.pointer (some ⟨r, 0, none⟩), .int .i64 k] w fun e w' => ∃ f, e = .returned (.tuple #[.int .i64 (optI q), nearS f q, .bool q.isSome]) ∧ Below w.heap.size w w' := by
  obtain ⟨f, hm⟩ := h.ex
  refine (mnear_any r b most per K f k w hm hKl).mono ?_
  rintro e w' ⟨rfl, h1⟩
  exact ⟨f, by rw [nearV_eq, hq], h1⟩
theorem mbelow_nil (k : Int) (w : World) : Calls Try.prog 42 #[.pointer none, .int .i64 k] w fun e w' => e = .returned (.tuple #[]) ∧ w = w' := by
  go_enter Try.func42, Try.ntmps42
  go_wp2_with (go_at_call 34; refine (mkeys_nil _).mono ?_; rintro e w' ⟨rfl, rfl⟩)
  refine wp_loop_rounds 1 ?_
  rw [rounds_succ]
  go_wp2
  go_end0
  exact ⟨rfl, rfl⟩
theorem mnear_nil (k : Int) (w : World) : Calls Try.prog 35 #[.pointer none, .int .i64 k] w fun e w' => e = .returned (.tuple #[.int .i64 0, .slice none 0 0, .bool false]) ∧ w = w' := by
  go_enter Try.func35, Try.ntmps35
  go_wp2_with (go_at_call 34; refine (mkeys_nil _).mono ?_; rintro e w' ⟨rfl, rfl⟩)
  refine wp_loop_rounds 1 ?_
  rw [rounds_succ]
  go_wp2
  go_ret3
  exact ⟨rfl, rfl⟩

def knL : List Int := [0, 3, 4, 8, -4]
def Kkn (j : Nat) : List Int := (knL.take j).foldl (fun K x => mputK 3 4 K x) []
theorem Kkn_succ (j : Nat) (x : Int) (hx : knL[j]? = some x) : Kkn (j + 1) = mputK 3 4 (Kkn j) x := by
  unfold Kkn
  rw [List.take_add_one, hx, List.foldl_append]
  rfl
theorem Kkn_len (j : Nat) (hj : j ≤ 5) : (Kkn j).length ≤ 5 := by
  have h : ∀ j : Fin 6, (Kkn j.val).length ≤ 5 := by decide +kernel
  exact h ⟨j, by omega⟩

set_option maxRecDepth 100000 in
set_option maxHeartbeats 4000000 in
theorem marksKnown_any (w : World) : Calls Try.prog 9 #[] w fun e w' => e = .returned (.bool true) ∧ Below w.heap.size w w' := by
  have HK5 := Lib.hid (show Kkn 5 = [0, 4, 8] by decide +kernel)
  go_enter Try.func9, Try.ntmps9
  go_wp2_with fail
  refine (marksNew_any 10 4 w (by omega) (by omega) (by omega) (by omega) (fun _ => undef)).mono ?_
  rintro e w1 ⟨rfl, hm, hb, hz⟩
  have K1 : RowKit.Hid (MO w w1 (w.heap.size + 1) w.heap.size 3 4 []) := ⟨⟨_, hm⟩, hb, by omega, by omega⟩
  have Z1 := Lib.hid hz
  clear hm hb hz
  go_wp2
  obtain ⟨w2, hw2⟩ : ∃ w2, w2 = w1.alloc (.cells #[.int .i64 0, .int .i64 3, .int .i64 4, .int .i64 8, .int .i64 (-4)] 2) := ⟨_, rfl⟩
  have hl2 := (MapKept.heap_alloc w1 (.cells #[.int .i64 0, .int .i64 3, .int .i64 4, .int .i64 8, .int .i64 (-4)] 2)).1
  rw [← hw2] at hl2 ⊢
  have K2 := Lib.hid (K1.out.stay (w' := w2) (by rw [hw2]; exact (Below.refl _ w1).alloc (Nat.le_refl _) _))
  have L2 := Lib.hid hl2
  clear hl2 hw2
  go_loopw [19] (fun i wr => ∃ j : Nat, j ≤ 5 ∧ i = .int .i64 (j : Int) ∧ RowKit.Hid (MO w wr (w.heap.size + 1) w.heap.size 3 4 (Kkn j)) ∧ RowKit.Hid (wr.heap[w1.heap.size]? = some (.cells #[.int .i64 0, .int .i64 3, .int .i64 4, .int .i64 8, .int .i64 (-4)] 2 (0, 0)))) (fun i _ => 5 - (RowKit.intOf i).toNat)
  case atStart => exact ⟨0, by omega, rfl, K2.out, L2.out⟩
  case round =>
    clear K2 L2
    obtain ⟨j, hj, rfl, hm, hl⟩ := hrel
    by_cases hlt : j < 5
    · have q1 : (j : Int) < 5 := by omega
      obtain ⟨x, hx⟩ : ∃ x, knL[j]? = some x := ⟨_, List.getElem?_eq_getElem (by show j < 5; exact hlt)⟩
      have hxb : x ≤ 9223372036854775807 := by
        have h : ∀ y ∈ knL, y ≤ 9223372036854775807 := by decide
        exact h x (List.mem_of_getElem? hx)
      have cx : wr.cell? ⟨w1.heap.size, j, none⟩ = some (.int .i64 x) := by
        rw [cell_of_row wr w1.heap.size j _ _ _ hl.out]
        have : (#[.int .i64 0, .int .i64 3, .int .i64 4, .int .i64 8, .int .i64 (-4)] : Array Value) = (knL.map (Value.int .i64)).toArray := rfl
        rw [this]
        simp [hx]
      have HX := Lib.hid hx
      have hne : RowKit.Hid (w1.heap.size ≠ w.heap.size) := by have := Z1.out; show _ ≠ _; omega
      clear hx
      go_wp2_with (go_at_call 32; refine (all25_any _ _).mono ?_; rintro e w3 ⟨rfl, rfl⟩)
      refine (mo_put (hm.out.stay ((Below.refl _ wr).alloc (Nat.le_refl _) _)) x _ (by omega) hxb (by have := Kkn_len j hj; omega) _ (Kkn_succ j x HX.out).symm).mono ?_
      rintro e w3 ⟨rfl, h3, hc3⟩
      have M3 := Lib.hid h3
      have L3 := Lib.hid ((hc3.block w1.heap.size (by have := lt_of_block hl.out; simp; omega) hne.out).trans ((Below.heap_alloc wr (.cells (allE x).toArray 67) _ (lt_of_block hl.out)).trans hl.out))
      clear h3 hc3
      go_wp2
      go_roundw
      case rel => exact ⟨j + 1, by omega, by go_num, M3.out, L3.out⟩
      case measure => simp [RowKit.intOf]; omega
    · have hj5 : j = 5 := by omega
      subst hj5
      have N1 := hm.out
      rw [HK5.out] at N1
      have M1 := Lib.hid N1
      clear N1 hm hl
      go_wp2_with fail
      refine (mo_keys M1.out (by decide)).mono ?_
      rintro e w3 ⟨A3, c3, rfl, hr3, hb3⟩
      have R3 := Lib.hid hr3
      have M3 := Lib.hid (M1.out.stay hb3)
      clear hr3 hb3 M1
      go_wp2_with fail
      refine (numbers25_any _ _ _ _ _ _ [0, 4, 8] [0, 4, 8] _ (fun _ => True) _ (R3.out.below ((Below.refl _ w3).alloc (Nat.le_refl _) _)) (Rd.lit (MapKept.heap_alloc w3 _).1 rfl rfl (by decide) trivial) true rfl).mono ?_
      rintro e w4 ⟨rfl, hb4⟩
      have M4 := Lib.hid ((M3.out.stay ((Below.refl _ w3).alloc (Nat.le_refl _) (.cells #[.int .i64 0, .int .i64 4, .int .i64 8] 2))).stay hb4)
      clear hb4 M3
      go_wp2_with fail
      refine (mo_put M4.out 12 _ (by omega) (by omega) (by decide) [4, 8, 12] (by decide +kernel)).mono ?_
      rintro e w5 ⟨rfl, h5, -⟩
      have M5 := Lib.hid h5
      clear h5 M4
      go_wp2_with fail
      refine (mo_near M5.out 3 (by decide) none (by decide +kernel)).mono ?_
      rintro e w6 ⟨f6, rfl, hb6⟩
      simp only [optI, nearS, Option.getD_none, Option.isSome_none]
      have M6 := Lib.hid (M5.out.stay hb6)
      clear hb6 M5
      go_wp2_with fail
      refine (mo_below M6.out 8 (by decide) [8, 12] (by decide +kernel)).mono ?_
      rintro e w7 ⟨rfl, h7⟩
      have M7 := Lib.hid h7
      clear h7 M6
      go_wp2_with fail
      refine (mo_keys M7.out (by decide)).mono ?_
      rintro e w8 ⟨A8, c8, rfl, hr8, hb8⟩
      have R8 := Lib.hid hr8
      have M8 := Lib.hid (M7.out.stay hb8)
      clear hr8 hb8 M7
      go_wp2_with fail
      refine (numbers25_any _ _ _ _ _ _ [8, 12] [8, 12] _ (fun _ => True) _ (R8.out.below ((Below.refl _ w8).alloc (Nat.le_refl _) _)) (Rd.lit (MapKept.heap_alloc w8 _).1 rfl rfl (by decide) trivial) true rfl).mono ?_
      rintro e w9 ⟨rfl, hb9⟩
      have M9 := Lib.hid ((M8.out.stay ((Below.refl _ w8).alloc (Nat.le_refl _) (.cells #[.int .i64 8, .int .i64 12] 2))).stay hb9)
      clear hb9 M8
      go_wp2_with fail
      refine (mo_len M9.out (by decide)).mono ?_
      rintro e w10 ⟨rfl, hb10⟩
      have M10 := Lib.hid (M9.out.stay hb10)
      clear hb10 M9
      go_wp2_with (go_at_call 32; refine (all25_any _ _).mono ?_; rintro e w11 ⟨rfl, rfl⟩)
      refine (mo_put (M10.out.stay ((Below.refl _ w10).alloc (Nat.le_refl _) _)) 0 _ (by omega) (by omega) (by decide) [0, 8, 12] (by decide +kernel)).mono ?_
      rintro e w11 ⟨rfl, h11, -⟩
      have M11 := Lib.hid h11
      clear h11 M10
      go_wp2_with (go_at_call 32; refine (all25_any _ _).mono ?_; rintro e w12 ⟨rfl, rfl⟩)
      refine (mo_put (M11.out.stay ((Below.refl _ w11).alloc (Nat.le_refl _) _)) 4 _ (by omega) (by omega) (by decide) [4, 8, 12] (by decide +kernel)).mono ?_
      rintro e w12 ⟨rfl, h12, -⟩
      have M12 := Lib.hid h12
      clear h12 M11
      go_wp2_with fail
      refine (mo_keys M12.out (by decide)).mono ?_
      rintro e w13 ⟨A13, c13, rfl, hr13, hb13⟩
      have R13 := Lib.hid hr13
      have M13 := Lib.hid (M12.out.stay hb13)
      clear hr13 hb13 M12
      go_wp2_with fail
      refine (numbers25_any _ _ _ _ _ _ [4, 8, 12] [4, 8, 12] _ (fun _ => True) _ (R13.out.below ((Below.refl _ w13).alloc (Nat.le_refl _) _)) (Rd.lit (MapKept.heap_alloc w13 _).1 rfl rfl (by decide) trivial) true rfl).mono ?_
      rintro e w14 ⟨rfl, hb14⟩
      have M14 := Lib.hid ((M13.out.stay ((Below.refl _ w13).alloc (Nat.le_refl _) (.cells #[.int .i64 4, .int .i64 8, .int .i64 12] 2))).stay hb14)
      clear hb14 M13
      go_wp2_with fail
      have hnw := marksNew_any (-5) (-5) w14 (by omega) (by omega) (by omega) (by omega) (fun _ => undef)
      rw [show mostOf (-5) (-5) = 1 by decide +kernel, show perOf (-5) = 1 by decide +kernel] at hnw
      refine hnw.mono ?_
      rintro e w15 ⟨rfl, hm15, hb15, hz15⟩
      have hb0 := M14.out.below.size
      have hlt14 : RowKit.Hid (w.heap.size + 1 < w14.heap.size) := by obtain ⟨f, hf⟩ := M14.out.ex; exact hf.lt.1
      have M15 := Lib.hid (M14.out.stay hb15)
      have O15 : RowKit.Hid (MO w w15 (w14.heap.size + 1) w14.heap.size 1 1 []) := ⟨⟨_, hm15⟩, M15.out.below, by omega, by omega⟩
      clear hm15 hb15 hz15 hnw hb0 M14
      go_wp2_with (go_at_call 32; refine (all25_any _ _).mono ?_; rintro e w16 ⟨rfl, rfl⟩)
      refine (mo_put (O15.out.stay ((Below.refl _ w15).alloc (Nat.le_refl _) _)) 7 _ (by omega) (by omega) (by decide) [7] (by decide +kernel)).mono ?_
      rintro e w16 ⟨rfl, h16, hc16⟩
      have O16 := Lib.hid h16
      have M16 := Lib.hid ((M15.out.stay ((Below.refl _ w15).alloc (Nat.le_refl _) (.cells (allE 7).toArray 67))).other hc16 (by have := hlt14.out; omega) (by have := hlt14.out; omega) (by have := hlt14.out; omega))
      clear h16 hc16 O15 M15
      go_wp2_with (go_at_call 32; refine (all25_any _ _).mono ?_; rintro e w17 ⟨rfl, rfl⟩)
      refine (mo_put (O16.out.stay ((Below.refl _ w16).alloc (Nat.le_refl _) _)) 9 _ (by omega) (by omega) (by decide) [9] (by decide +kernel)).mono ?_
      rintro e w17 ⟨rfl, h17, hc17⟩
      have O17 := Lib.hid h17
      have M17 := Lib.hid ((M16.out.stay ((Below.refl _ w16).alloc (Nat.le_refl _) (.cells (allE 9).toArray 67))).other hc17 (by have := hlt14.out; omega) (by have := hlt14.out; omega) (by have := hlt14.out; omega))
      clear h17 hc17 O16 M16
      go_wp2_with fail
      refine (mo_near O17.out 100 (by decide) (some 9) (by decide +kernel)).mono ?_
      rintro e w18 ⟨f18, rfl, hb18⟩
      simp only [optI, nearS, Option.getD_some, Option.isSome_some]
      have M18 := Lib.hid (M17.out.stay hb18)
      have O18 := Lib.hid (O17.out.stay hb18)
      clear hb18 M17 O17
      go_wp2_with fail
      refine (mput_nil _ _ _).mono ?_
      rintro e w19 ⟨rfl, rfl⟩
      go_wp2_with fail
      refine (mbelow_nil _ _).mono ?_
      rintro e w19 ⟨rfl, rfl⟩
      go_wp2_with fail
      refine (mclear_nil _).mono ?_
      rintro e w19 ⟨rfl, rfl⟩
      go_wp2_with fail
      refine (mnear_nil _ _).mono ?_
      rintro e w19 ⟨rfl, rfl⟩
      go_wp2_with fail
      refine (mo_clear M18.out).mono ?_
      rintro e w19 ⟨rfl, h19, hc19⟩
      have M19 := Lib.hid h19
      have O19 := Lib.hid (O18.out.other hc19 (by have := hlt14.out; omega) (by have := hlt14.out; omega) (by omega))
      clear h19 hc19 M18 O18
      go_wp2_with fail
      refine (mo_len O19.out (by decide)).mono ?_
      rintro e w20 ⟨rfl, hb20⟩
      have M20 := Lib.hid (M19.out.stay hb20)
      clear hb20 M19 O19
      go_wp2_with fail
      refine (mlen_nil _).mono ?_
      rintro e w21 ⟨rfl, rfl⟩
      go_wp2_with fail
      refine (mkeys_nil _).mono ?_
      rintro e w21 ⟨rfl, rfl⟩
      go_wp2_with fail
      refine (mo_len M20.out (by decide)).mono ?_
      rintro e w22 ⟨rfl, hb22⟩
      have M22 := Lib.hid (M20.out.stay hb22)
      clear hb22 M20
      go_wp2_with fail
      refine (awake25_any _).mono ?_
      rintro e w23 ⟨rfl, hb23⟩
      have M23 := Lib.hid (M22.out.stay hb23)
      clear hb23 M22
      go_wp2
      go_ret
      exact ⟨rfl, M23.out.below⟩
end Go.Proofs.Ytochdmbjlemfoaa
