/-
  The laws of layer 25: marks whose values tell numbers (MS); the law's awake and Do. Contracts.
-/
import Derived.Test.YtochdmbjlemfoaaM5
import Derived.Deep.RegionHeld3
namespace Go.Proofs.Ytochdmbjlemfoaa
open Go Go.RowKit Go.Maps

/-- Each value is a slice of one cell that tells a number. -/
def Vals (w : World) (b : Nat) (K : List Int) (f : Int → Value) (N : Int → Int) : Prop := ∀ x ∈ K, ∃ g, f x = .slice (some ⟨g, 0, none⟩) 1 1 ∧ g ≠ b ∧ w.heap[g]? = some (.cells (allE (N x)).toArray 67 (0, 0))
theorem Vals.chg {w w' : World} {b : Nat} {K : List Int} {f : Int → Value} {N : Int → Int} (h : Vals w b K f N) (hc : Chg (fun j => j = b) w w') : Vals w' b K f N := fun x hx => by
  obtain ⟨g, e, hg, hh⟩ := h x hx
  exact ⟨g, e, hg, (hc.block g (lt_of_block hh) hg).trans hh⟩
theorem Vals.sub {w : World} {b : Nat} {K K' : List Int} {f : Int → Value} {N : Int → Int} (h : Vals w b K f N) (hs : ∀ x ∈ K', x ∈ K) : Vals w b K' f N := fun x hx => h x (hs x hx)
/-- Marks that a law has made. -/
structure MS (w0 w : World) (most : Nat) (per : Int) (K : List Int) (N : Int → Int) : Prop where
  ex : ∃ f, MK w (w0.heap.size + 1) w0.heap.size most per K f ∧ Vals w w0.heap.size K f N
  below : Below w0.heap.size w0 w
theorem MS.stay {w0 w w' : World} {most : Nat} {per : Int} {K : List Int} {N : Int → Int} (h : MS w0 w most per K N) (hb : Below w.heap.size w w') : MS w0 w' most per K N := by
  obtain ⟨f, h1, h2⟩ := h.ex
  exact ⟨⟨f, h1.below hb, h2.chg (Chg.of_below hb)⟩, h.below.trans (hb.mono h.below.size)⟩

def mputN (per : Int) (N : Int → Int) (k n : Int) : Int → Int := if bad per k then N else fun x => if x = k then n else N x
theorem mem_mputK {most : Nat} {per : Int} {K : List Int} {k x : Int} (h : x ∈ mputK most per K k) (hb : ¬ bad per k) : x = k ∨ x ∈ K := by
  unfold mputK at h
  rw [if_neg hb] at h
  split at h
  · exact (mem_insK k K x).1 (List.mem_of_mem_tail h)
  · exact (mem_insK k K x).1 h
theorem MS.put {w0 w w' : World} {most : Nat} {per : Int} {K : List Int} {N : Int → Int} {f : Int → Value} (k n : Int) (hv : Vals w w0.heap.size K f N) (hb : Below w0.heap.size w0 w) (hsz : w0.heap.size < w.heap.size)
    (hm : MK w' (w0.heap.size + 1) w0.heap.size most per (mputK most per K k) (mputF per f k (.slice (some ⟨w.heap.size, 0, none⟩) 1 1))) (hc : Chg (fun j => j = w0.heap.size) (w.alloc (.cells (allE n).toArray 67)) w') :
    MS w0 w' most per (mputK most per K k) (mputN per N k n) := by
  have hA : Vals (w.alloc (.cells (allE n).toArray 67)) w0.heap.size K f N := hv.chg ((Chg.refl _ w).alloc _)
  refine ⟨⟨_, hm, ?_⟩, (hb.alloc hb.size _).trans (hc.below (Nat.le_trans hb.size (by simp)) (fun k hk => by omega))⟩
  intro x hx
  by_cases hbad : bad per k
  · have e1 : mputK most per K k = K := by unfold mputK; rw [if_pos hbad]
    have e2 : mputF per f k (.slice (some ⟨w.heap.size, 0, none⟩) 1 1) = f := by unfold mputF; rw [if_pos hbad]
    have e3 : mputN per N k n = N := by unfold mputN; rw [if_pos hbad]
    rw [e1] at hx
    rw [e2, e3]
    exact hA.chg hc x hx
  · have e2 : mputF per f k (.slice (some ⟨w.heap.size, 0, none⟩) 1 1) = upd f k (.slice (some ⟨w.heap.size, 0, none⟩) 1 1) := by unfold mputF; rw [if_neg hbad]
    have e3 : mputN per N k n = fun x => if x = k then n else N x := by unfold mputN; rw [if_neg hbad]
    rw [e2, e3]
    by_cases hxk : x = k
    · subst hxk
      refine ⟨w.heap.size, upd_same _ _ _, by omega, ?_⟩
      simp only [if_true]
      exact (hc.block w.heap.size (by simp) (by omega)).trans (MapKept.heap_alloc w _).1
    · have hxK := (mem_mputK hx hbad).resolve_left hxk
      obtain ⟨g, e, hg, hh⟩ := hA.chg hc x hxK
      exact ⟨g, (upd_other _ _ _ _ hxk).trans e, hg, by simp only [if_neg hxk]; exact hh⟩

theorem mem_mputK' {most : Nat} {per : Int} {K : List Int} {k x : Int} (h : x ∈ mputK most per K k) : x = k ∨ x ∈ K := by
  by_cases hb : bad per k
  · unfold mputK at h
    rw [if_pos hb] at h
    exact .inr h
  · exact mem_mputK h hb
theorem mputK_len (most : Nat) (per : Int) (K : List Int) (k : Int) : (mputK most per K k).length ≤ K.length + 1 := by
  have := insK_len k K
  unfold mputK
  split
  · omega
  · split
    · simp; omega
    · exact this

/-- What an act makes of the keys, and of the numbers. -/
def doK (most : Nat) (per : Int) (K : List Int) (q : Nat) (k : Int) : List Int := if q = 4 then belowK K k else if q = 5 then [] else mputK most per K k
def doN (per : Int) (N : Int → Int) (q : Nat) (k n : Int) : Int → Int := if q = 4 then N else if q = 5 then N else mputN per N k n
theorem doK_len (most : Nat) (per : Int) (K : List Int) (q : Nat) (k : Int) : (doK most per K q k).length ≤ K.length + 1 := by
  unfold doK belowK
  split
  · have := List.length_filter_le (fun x => decide (k ≤ x)) K; omega
  · split
    · simp
    · exact mputK_len _ _ _ _

set_option maxRecDepth 100000 in
theorem Do25_any (w0 : World) (most : Nat) (per : Int) (K : List Int) (N : Int → Int) (d : Nat) (k n : Int) (w : World) (h : MS w0 w most per K N) (hper : 1 ≤ per) (hd : d < 256) (hk : k ≤ 9223372036854775807) (hKl : K.length ≤ 1000000) :
    Calls Try.prog 37 #[.pointer (some ⟨w0.heap.size + 1, 0, none⟩), .agg #[.int .u8 (d : Int), .int .i64 k, .int .i64 n]] w fun e w' => e = .returned (.tuple #[]) ∧ MS w0 w' most per (doK most per K (d % 6) k) (doN per N (d % 6) k n) := by
  obtain ⟨f, hm, hv⟩ := h.ex
  have HM := Lib.hid hm
  have HV := Lib.hid hv
  have HB := Lib.hid h.below
  have HE := Lib.hid (show (d : Int) % 6 = ((d % 6 : Nat) : Int) by omega)
  have hq : d % 6 < 6 := by omega
  have hd0 : (0 : Int) ≤ (d : Int) := by omega
  have hd1 : (d : Int) ≤ 255 := by omega
  clear h hm hv
  by_cases q4 : d % 6 = 4
  · have e1 : (d : Int) % 6 = 4 := by omega
    go_enter Try.func37, Try.ntmps37
    go_wp2_with fail
    refine (mbelow_any _ _ most per K f k _ (HM.out.below ((Below.refl _ w).alloc (Nat.le_refl _) _)) (by omega)).mono ?_
    rintro e w2 ⟨rfl, hm2, hc2⟩
    go_wp2
    go_end0
    refine ⟨rfl, ?_⟩
    unfold doK doN
    rw [if_pos q4, if_pos q4]
    exact ⟨⟨f, hm2, ((HV.out.chg ((Chg.refl _ w).alloc _)).chg hc2).sub (fun x hx => (List.mem_filter.1 hx).1)⟩, (HB.out.alloc HB.out.size _).trans (hc2.below (Nat.le_trans HB.out.size (by simp)) (fun k hk => by omega))⟩
  · by_cases q5 : d % 6 = 5
    · have e1 : (d : Int) % 6 = 5 := by omega
      go_enter Try.func37, Try.ntmps37
      go_wp2_with fail
      refine (mclear_any _ _ most per K f _ (HM.out.below ((Below.refl _ w).alloc (Nat.le_refl _) _))).mono ?_
      rintro e w2 ⟨rfl, hm2, hc2⟩
      go_wp2
      go_end0
      refine ⟨rfl, ?_⟩
      unfold doK doN
      rw [if_neg q4, if_pos q5, if_neg q4, if_pos q5]
      exact ⟨⟨f, hm2, fun x hx => by simp at hx⟩, (HB.out.alloc HB.out.size _).trans (hc2.below (Nat.le_trans HB.out.size (by simp)) (fun k hk => by omega))⟩
    · have e1 : ((d : Int) % 6 == 4) = false := by simp; omega
      have e2 : ((d : Int) % 6 == 5) = false := by simp; omega
      have e3 : ¬ (d : Int) % 6 = 4 := by omega
      have e4 : ¬ (d : Int) % 6 = 5 := by omega
      go_enter Try.func37, Try.ntmps37
      go_upto_region 2 with fail
      obtain ⟨wa, hwa⟩ : ∃ wa, wa = w.alloc (.cells #[.int .u8 (d : Int), .int .i64 k, .int .i64 n] 73) := ⟨_, rfl⟩
      have b1 : wa.cell? ⟨w.heap.size, 1, none⟩ = some (.int .i64 k) := by rw [hwa, cell_of_row _ _ 1 _ _ _ (MapKept.heap_alloc w _).1]; rfl
      have b2 : wa.cell? ⟨w.heap.size, 2, none⟩ = some (.int .i64 n) := by rw [hwa, cell_of_row _ _ 2 _ _ _ (MapKept.heap_alloc w _).1]; rfl
      have hbel : Below w.heap.size w wa := by rw [hwa]; exact (Below.refl _ w).alloc (Nat.le_refl _) _
      have MA := Lib.hid (HM.out.below hbel)
      have VA := Lib.hid (HV.out.chg (Chg.of_below hbel))
      have BA := Lib.hid (HB.out.trans (hbel.mono HB.out.size))
      have hszA : RowKit.Hid (w0.heap.size < wa.heap.size) := Nat.lt_of_lt_of_le HM.out.lt.2 hbel.size
      have hne : RowKit.Hid (¬ w.heap.size = w0.heap.size) := by have := HM.out.lt.2; show ¬ _; omega
      rw [← hwa]
      clear hwa hbel HM HV HB
      go_region_held3 (fun w' => w'.cell? ⟨w.heap.size, 1, none⟩ = some (.int .i64 k) ∧ w'.cell? ⟨w.heap.size, 2, none⟩ = some (.int .i64 n))
        (first | (go_keep; done) | (go_split_ands; exact ⟨below_cell ((Below.refl _ _).alloc (Nat.le_refl _) _) (by assumption), below_cell ((Below.refl _ _).alloc (Nat.le_refl _) _) (by assumption)⟩) | (go_split_ands; exact ⟨hc3.cell (by assumption) hne.out, hc3.cell (by assumption) hne.out⟩))
        ((first
          | (go_at_call 32; refine (all25_any _ _).mono ?_; rintro e w2 ⟨rfl, rfl⟩)
          | (go_at_call 31; refine (mput_any _ _ most per K f k _ _ (MA.out.below (((below_drewN (Below.refl _ wa) _)).alloc (Nat.le_refl _) _)) hper hk hKl).mono ?_; rintro e w3 ⟨rfl, hm3, hc3⟩)))
      go_wp2
      go_end0
      refine ⟨rfl, ?_⟩
      unfold doK doN
      rw [if_neg q4, if_neg q5, if_neg q4, if_neg q5]
      exact MS.put k n (VA.out.chg ((Chg.refl _ wa).drewN _)) (below_drewN BA.out _) hszA.out hm3 hc3

/-- A literal of numbers in a block of its own. -/
theorem Rd.lit {w : World} {D : Nat → Prop} {g n : Nat} {t : TypeId} {fr : Nat × Nat} {xs : List Int} {cs : Array Value} (h : w.heap[g]? = some (.cells cs t fr)) (hcs : cs = (xs.map fun x => Value.int .i64 x).toArray) (hn : xs.length = n) (hm : n ≤ maxLen) (hD : D g) : Rd w D 1 (some ⟨g, 0, none⟩) n n (iRows xs) := by
  subst hcs
  refine ⟨by rw [iRows_len]; exact hn, Nat.le_refl _, hm, iRows_ok xs, fun _ => ⟨g, 0, rfl, hD, fun i e hi k u hk => ?_⟩⟩
  unfold iRows at hi
  rw [List.getElem?_map] at hi
  obtain ⟨x, hx, rfl⟩ := Option.map_eq_some_iff.1 hi
  have hk0 : k = 0 := by
    have := (List.getElem?_eq_some_iff.1 hk).1
    simp at this; exact this
  subst hk0
  simp at hk
  subst hk
  rw [cell_of_row w g _ _ _ _ h]
  simp [hx]

def Kaw (j : Nat) : List Int := (List.range j).foldl (fun K (i : Nat) => mputK 3 4 K (i : Int)) []
theorem Kaw_succ (j : Nat) : Kaw (j + 1) = mputK 3 4 (Kaw j) (j : Int) := by unfold Kaw; rw [List.range_succ, List.foldl_append]; rfl
theorem Kaw_len (j : Nat) : (Kaw j).length ≤ j := by
  induction j with
  | zero => simp [Kaw]
  | succ j ih => rw [Kaw_succ]; have := mputK_len 3 4 (Kaw j) (j : Int); omega

set_option maxRecDepth 100000 in
theorem awake25_any (w : World) : Calls Try.prog 36 #[] w fun e w' => e = .returned (.bool true) ∧ Below w.heap.size w w' := by
  have hK13 : Kaw 13 = [4, 8, 12] := by decide +kernel
  have H13 := Lib.hid hK13
  clear hK13
  go_enter Try.func36, Try.ntmps36
  go_wp2_with fail
  refine (marksNew_any 10 4 w (by omega) (by omega) (by omega) (by omega) (fun _ => undef)).mono ?_
  rintro e w1 ⟨rfl, hm, hb, -⟩
  have K1 : RowKit.Hid (MS w w1 3 4 [] (fun x => x)) := ⟨⟨_, hm, fun x hx => by simp at hx⟩, hb⟩
  clear hm hb
  go_wp2
  go_loopw [2] (fun i wr => ∃ j : Nat, j ≤ 13 ∧ i = .int .i64 (j : Int) ∧ RowKit.Hid (∃ N, MS w wr 3 4 (Kaw j) N ∧ ∀ x ∈ Kaw j, N x = x)) (fun i _ => 13 - (RowKit.intOf i).toNat)
  case atStart => exact ⟨0, by omega, rfl, _, K1.out, by simp⟩
  case round =>
    clear K1
    obtain ⟨j, hj, rfl, hst⟩ := hrel
    obtain ⟨N, hst, hN⟩ := hst.out
    obtain ⟨f, hm, hv⟩ := hst.ex
    have KM := Lib.hid hm
    have KV := Lib.hid hv
    have KB := Lib.hid hst.below
    have KN := Lib.hid hN
    clear hst hN hm hv
    by_cases hlt : j < 13
    · have q1 : (j : Int) < 13 := by omega
      go_wp2_with (go_at_call 32; refine (all25_any _ _).mono ?_; rintro e w2 ⟨rfl, rfl⟩)
      refine (mput_any _ _ 3 4 (Kaw j) f (j : Int) _ _ (KM.out.below ((Below.refl _ wr).alloc (Nat.le_refl _) _)) (by omega) (by omega) (by have := Kaw_len j; omega)).mono ?_
      rintro e w3 ⟨rfl, hm3, hc3⟩
      have M3 := Lib.hid (MS.put (j : Int) (j : Int) KV.out KB.out KM.out.lt.2 hm3 hc3)
      clear hm3 hc3
      go_wp2
      go_roundw
      case rel =>
        refine ⟨j + 1, by omega, by go_num, _, by rw [Kaw_succ]; exact M3.out, fun x hx => ?_⟩
        rw [Kaw_succ] at hx
        unfold mputN
        split
        · rename_i hb
          refine KN.out x ?_
          unfold mputK at hx
          rwa [if_pos hb] at hx
        · rename_i hb
          by_cases hxk : x = j
          · simp [hxk]
          · simp only [if_neg hxk]
            exact KN.out x ((mem_mputK hx hb).resolve_left hxk)
      case measure => simp [RowKit.intOf]; omega
    · have hj13 : j = 13 := by omega
      subst hj13
      go_wp2_with fail
      refine (mnear_any _ _ 3 4 (Kaw 13) f 11 _ KM.out (by rw [H13.out]; decide)).mono ?_
      rintro e w4 ⟨rfl, hb4⟩
      rw [H13.out]
      have hnr : nearV f (nearK [4, 8, 12] 11) = .tuple #[.int .i64 8, f 8, .bool true] := by rfl
      rw [hnr]
      obtain ⟨g, hg, hgb, hgh⟩ := KV.out 8 (by rw [H13.out]; decide)
      rw [KN.out 8 (by rw [H13.out]; decide)] at hgh
      rw [hg]
      have M4 := Lib.hid (KM.out.below hb4)
      have B4 := Lib.hid (KB.out.trans (hb4.mono KB.out.size))
      have G4 := Lib.hid ((hb4.block g (lt_of_block hgh)).trans hgh)
      clear hb4 hgh hg hnr KM KV KB KN
      go_wp2_with fail
      have hmk := mkeys_any _ _ 3 4 (Kaw 13) f _ M4.out (by rw [H13.out]; decide)
      rw [H13.out] at hmk
      refine hmk.mono ?_
      rintro e w5 ⟨A5, c5, rfl, hr5, hb5⟩
      have G5 := Lib.hid ((hb5.block g (lt_of_block G4.out)).trans G4.out)
      have B5 := Lib.hid (B4.out.trans (hb5.mono B4.out.size))
      have R5 := Lib.hid hr5
      clear hr5 hb5 hmk
      go_wp2_with fail
      refine (numbers25_any _ _ _ _ _ _ [4, 8, 12] [4, 8, 12] _ (fun _ => True) _ (R5.out.below ((Below.refl _ w5).alloc (Nat.le_refl _) _)) (Rd.lit (MapKept.heap_alloc w5 _).1 rfl rfl (by decide) trivial) true rfl).mono ?_
      rintro e w6 ⟨rfl, hb6⟩
      have hb56 := ((Below.refl _ w5).alloc (Nat.le_refl _) (.cells #[Value.int .i64 4, Value.int .i64 8, Value.int .i64 12] 2)).trans (hb6.mono (by simp))
      have G6 := (hb56.block g (lt_of_block G5.out)).trans G5.out
      have cx : w6.cell? ⟨g, 13, none⟩ = some (.int .i64 8) := by rw [cell_of_row _ _ 13 _ _ _ G6]; rfl
      have B6 := Lib.hid (B5.out.trans (hb56.mono B5.out.size))
      clear hb6 hb56 G6
      go_wp2
      go_ret
      exact ⟨rfl, B6.out⟩
end Go.Proofs.Ytochdmbjlemfoaa
