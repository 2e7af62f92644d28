/-
  The law MarksPlay (package anamnesislaw25): the walk, for any capacity and period, any list of acts that can be read, any step.
-/
import Derived.Test.YtochdmbjlemfoaaM11
import Derived.Test.YtochdmbjlemfoaaS5
import Derived.StillTailTactics
namespace Go.Proofs.Ytochdmbjlemfoaa
open Go Go.RowKit Go.Maps

/-- The thing that tells a number. -/
def allT (n : Int) : TD := ⟨5, ⟨false, [], []⟩, ⟨⟨#[]⟩, ⟨#[]⟩, ⟨#[]⟩, ⟨#[]⟩, [], [], 0⟩, [], n, ⟨#[]⟩⟩
def allC (n : Int) : CD := ⟨⟨#[107]⟩, allT n⟩
theorem allC_is (w : World) (D : Nat → Prop) (n : Int) : CellIs w D (allE n) (allC n) :=
  ⟨_, rfl, [.bool false, .slice none 0 0, .slice none 0 0], [.string ⟨#[]⟩, .string ⟨#[]⟩, .string ⟨#[]⟩, .string ⟨#[]⟩, .slice none 0 0, .slice none 0 0, .int .i64 0], none, 0, 0, [], rfl,
    ⟨none, 0, 0, none, 0, 0, rfl, Rd.nil _ _ _, Rd.nil _ _ _⟩, ⟨none, 0, 0, none, 0, 0, rfl, Rd.nil _ _ _, Rd.nil _ _ _⟩, Rd.nil _ _ _, rfl, by simp⟩
theorem allC_are (w : World) (D : Nat → Prop) (n : Int) : CellsAre w D [allE n] [allC n] :=
  ⟨rfl, fun i e E he hE => by
    cases i with
    | zero => simp at he hE; subst he hE; exact allC_is w D n
    | succ i => simp at he⟩
theorem allE_ok (n : Int) : ∀ u ∈ allE n, u.oneCell' = true := by simp [allE, Value.oneCell']
/-- A slice of one cell, out of its block. -/
theorem allRd {w : World} {g : Nat} {n : Int} (h : w.heap[g]? = some (.cells (allE n).toArray 67 (0, 0))) : Rd w (fun _ => True) 15 (some ⟨g, 0, none⟩) 1 1 [allE n] :=
  ⟨rfl, Nat.le_refl _, by decide, fun e he => by simp at he; subst he; exact ⟨rfl, allE_ok n⟩, fun _ => ⟨g, 0, rfl, trivial, fun i e hi k u hk => by
    cases i with
    | zero =>
      simp at hi
      subst hi
      rw [show 0 + (0 * 15 + k) = k by omega, cell_of_row w g k _ _ _ h]
      simpa using hk
    | succ i => simp at hi⟩⟩
/-- Two slices that tell one number are the same. -/
theorem cells_same (g g' : Nat) (n : Int) (w : World) (h : w.heap[g]? = some (.cells (allE n).toArray 67 (0, 0))) (h' : w.heap[g']? = some (.cells (allE n).toArray 67 (0, 0))) :
    Calls Try.prog 41 #[.slice (some ⟨g, 0, none⟩) 1 1, .slice (some ⟨g', 0, none⟩) 1 1] w fun e w' => e = .returned (.bool true) ∧ Below w.heap.size w w' := by
  refine (rcells_any _ _ 1 1 1 1 [allE n] [allE n] [allC n] [allC n] _ _ (fun _ => True) (fun _ => True) w (allRd h) (allRd h') (allC_are w _ n) (allC_are w _ n)).mono ?_
  rintro e w' ⟨rfl, hb⟩
  exact ⟨by rw [decide_eq_true rfl], hb⟩

set_option maxRecDepth 100000 in
theorem Do25_chg (w0 : World) (most : Nat) (per : Int) (K : List Int) (N : Int → Int) (d : Nat) (k n : Int) (w : World) (h : MS w0 w most per K N) (hper : 1 ≤ per) (hd : d < 256) (hk : k ≤ 9223372036854775807) (hKl : K.length ≤ 1000000) :
    Calls Try.prog 37 #[.pointer (some ⟨w0.heap.size + 1, 0, none⟩), .agg #[.int .u8 (d : Int), .int .i64 k, .int .i64 n]] w fun e w' => e = .returned (.tuple #[]) ∧ MS w0 w' most per (doK most per K (d % 6) k) (doN per N (d % 6) k n) ∧ Chg (fun j => j = w0.heap.size) w w' := by
  obtain ⟨f, hm, hv⟩ := h.ex
  have HM := Lib.hid hm
  have HV := Lib.hid hv
  have HB := Lib.hid h.below
  have HE := Lib.hid (show (d : Int) % 6 = ((d % 6 : Nat) : Int) by omega)
  have hq : d % 6 < 6 := by omega
  have hd0 : (0 : Int) ≤ (d : Int) := by omega
  have hd1 : (d : Int) ≤ 255 := by omega
  clear h hm hv
  by_cases q4 : d % 6 = 4
  · have e1 : (d : Int) % 6 = 4 := by omega
    go_enter Try.func37, Try.ntmps37
    go_wp2_with fail
    refine (mbelow_any _ _ most per K f k _ (HM.out.below ((Below.refl _ w).alloc (Nat.le_refl _) _)) (by omega)).mono ?_
    rintro e w2 ⟨rfl, hm2, hc2⟩
    go_wp2
    go_end0
    refine ⟨rfl, ?_, ((Chg.refl _ w).alloc _).trans hc2⟩
    unfold doK doN
    rw [if_pos q4, if_pos q4]
    exact ⟨⟨f, hm2, ((HV.out.chg ((Chg.refl _ w).alloc _)).chg hc2).sub (fun x hx => (List.mem_filter.1 hx).1)⟩, (HB.out.alloc HB.out.size _).trans (hc2.below (Nat.le_trans HB.out.size (by simp)) (fun k hk => by omega))⟩
  · by_cases q5 : d % 6 = 5
    · have e1 : (d : Int) % 6 = 5 := by omega
      go_enter Try.func37, Try.ntmps37
      go_wp2_with fail
      refine (mclear_any _ _ most per K f _ (HM.out.below ((Below.refl _ w).alloc (Nat.le_refl _) _))).mono ?_
      rintro e w2 ⟨rfl, hm2, hc2⟩
      go_wp2
      go_end0
      refine ⟨rfl, ?_, ((Chg.refl _ w).alloc _).trans hc2⟩
      unfold doK doN
      rw [if_neg q4, if_pos q5, if_neg q4, if_pos q5]
      exact ⟨⟨f, hm2, fun x hx => by simp at hx⟩, (HB.out.alloc HB.out.size _).trans (hc2.below (Nat.le_trans HB.out.size (by simp)) (fun k hk => by omega))⟩
    · have e1 : ((d : Int) % 6 == 4) = false := by simp; omega
      have e2 : ((d : Int) % 6 == 5) = false := by simp; omega
      have e3 : ¬ (d : Int) % 6 = 4 := by omega
      have e4 : ¬ (d : Int) % 6 = 5 := by omega
      go_enter Try.func37, Try.ntmps37
      go_upto_region 2 with fail
      obtain ⟨wa, hwa⟩ : ∃ wa, wa = w.alloc (.cells #[.int .u8 (d : Int), .int .i64 k, .int .i64 n] 73) := ⟨_, rfl⟩
      have b1 : wa.cell? ⟨w.heap.size, 1, none⟩ = some (.int .i64 k) := by rw [hwa, cell_of_row _ _ 1 _ _ _ (MapKept.heap_alloc w _).1]; rfl
      have b2 : wa.cell? ⟨w.heap.size, 2, none⟩ = some (.int .i64 n) := by rw [hwa, cell_of_row _ _ 2 _ _ _ (MapKept.heap_alloc w _).1]; rfl
      have hbel : Below w.heap.size w wa := by rw [hwa]; exact (Below.refl _ w).alloc (Nat.le_refl _) _
      have HBL := Lib.hid hbel
      have MA := Lib.hid (HM.out.below hbel)
      have VA := Lib.hid (HV.out.chg (Chg.of_below hbel))
      have BA := Lib.hid (HB.out.trans (hbel.mono HB.out.size))
      have hszA : RowKit.Hid (w0.heap.size < wa.heap.size) := Nat.lt_of_lt_of_le HM.out.lt.2 hbel.size
      have hne : RowKit.Hid (¬ w.heap.size = w0.heap.size) := by have := HM.out.lt.2; show ¬ _; omega
      rw [← hwa]
      clear hwa hbel HM HV HB
      go_region_held3 (fun w' => w'.cell? ⟨w.heap.size, 1, none⟩ = some (.int .i64 k) ∧ w'.cell? ⟨w.heap.size, 2, none⟩ = some (.int .i64 n))
        (first | (go_keep; done) | (go_split_ands; exact ⟨below_cell ((Below.refl _ _).alloc (Nat.le_refl _) _) (by assumption), below_cell ((Below.refl _ _).alloc (Nat.le_refl _) _) (by assumption)⟩) | (go_split_ands; exact ⟨hc3.cell (by assumption) hne.out, hc3.cell (by assumption) hne.out⟩))
        ((first
          | (go_at_call 32; refine (all25_any _ _).mono ?_; rintro e w2 ⟨rfl, rfl⟩)
          | (go_at_call 31; refine (mput_any _ _ most per K f k _ _ (MA.out.below (((below_drewN (Below.refl _ wa) _)).alloc (Nat.le_refl _) _)) hper hk hKl).mono ?_; rintro e w3 ⟨rfl, hm3, hc3⟩)))
      go_wp2
      go_end0
      refine ⟨rfl, ?_, (Chg.of_below HBL.out).trans ((((Chg.refl _ wa).drewN _).alloc _).trans hc3)⟩
      unfold doK doN
      rw [if_neg q4, if_neg q5, if_neg q4, if_neg q5]
      exact MS.put k n (VA.out.chg ((Chg.refl _ wa).drewN _)) (below_drewN BA.out _) hszA.out hm3 hc3


/-- The document's list of marks in memory. -/
def RS (w0 w : World) (K : List Int) (N : Int → Int) (V : Value) : Prop := ∃ A c fr, V = .slice A K.length c ∧ Rd w (fun b => w0.heap.size + 2 ≤ b) 2 A K.length c (mkRows K fr) ∧ Vals w w0.heap.size K fr N
theorem RS.chg {w0 w w' : World} {K : List Int} {N : Int → Int} {V : Value} (h : RS w0 w K N V) (hc : Chg (fun j => j = w0.heap.size) w w') : RS w0 w' K N V := by
  obtain ⟨A, c, fr, h1, h2, h3⟩ := h
  exact ⟨A, c, fr, h1, h2.chg hc (fun b hb e => by omega), h3.chg hc⟩
theorem RS.below {w0 w w' : World} {K : List Int} {N : Int → Int} {V : Value} (h : RS w0 w K N V) (hb : Below w.heap.size w w') : RS w0 w' K N V := h.chg (Chg.of_below hb)
theorem RS.nil (w0 w : World) (N : Int → Int) : RS w0 w [] N (.slice none 0 0) := ⟨none, 0, fun _ => undef, rfl, Rd.nil _ _ _, fun x hx => by simp at hx⟩
theorem Vals.one {w : World} {b : Nat} {K : List Int} {f : Int → Value} {N : Int → Int} (h : Vals w b K f N) : ∀ x ∈ K, OneS (f x) := fun x hx => by
  obtain ⟨g, hg, _⟩ := h x hx
  exact ⟨g, hg⟩
theorem vals_put {w w2 : World} {b most : Nat} {per : Int} {K : List Int} {N : Int → Int} {f : Int → Value} (k n : Int) (hv : Vals w b K f N) (hb : Below (w.alloc (.cells (allE n).toArray 67)).heap.size (w.alloc (.cells (allE n).toArray 67)) w2) (hsz : b < w.heap.size) :
    Vals w2 b (mputK most per K k) (mputF per f k (.slice (some ⟨w.heap.size, 0, none⟩) 1 1)) (mputN per N k n) := by
  have hA : Vals w2 b K f N := (hv.chg ((Chg.refl _ w).alloc _)).chg (Chg.of_below hb)
  intro x hx
  by_cases hbad : bad per k
  · have e1 : mputK most per K k = K := by unfold mputK; rw [if_pos hbad]
    have e2 : mputF per f k (.slice (some ⟨w.heap.size, 0, none⟩) 1 1) = f := by unfold mputF; rw [if_pos hbad]
    have e3 : mputN per N k n = N := by unfold mputN; rw [if_pos hbad]
    rw [e1] at hx
    rw [e2, e3]
    exact hA x hx
  · have e2 : mputF per f k (.slice (some ⟨w.heap.size, 0, none⟩) 1 1) = upd f k (.slice (some ⟨w.heap.size, 0, none⟩) 1 1) := by unfold mputF; rw [if_neg hbad]
    have e3 : mputN per N k n = fun x => if x = k then n else N x := by unfold mputN; rw [if_neg hbad]
    rw [e2, e3]
    by_cases hxk : x = k
    · subst hxk
      refine ⟨w.heap.size, upd_same _ _ _, by omega, ?_⟩
      simp only [if_true]
      exact (hb.block w.heap.size (by simp)).trans (MapKept.heap_alloc w _).1
    · have hxK := (mem_mputK hx hbad).resolve_left hxk
      obtain ⟨g, e, hg, hh⟩ := hA x hxK
      exact ⟨g, (upd_other _ _ _ _ hxk).trans e, hg, by simp only [if_neg hxk]; exact hh⟩

/-- The place of the last one up to a step. -/
def LastIs (K : List Int) (near : Int) (j : Nat) (lst : Int) : Prop := (lst = -1 ∧ nearK (K.take j) near = none) ∨ ∃ (i : Nat) (x : Int), lst = (i : Int) ∧ i < j ∧ K[i]? = some x ∧ nearK (K.take j) near = some x

set_option maxRecDepth 100000 in
set_option maxHeartbeats 8000000 in
theorem marksPlay_any (c p near : Int) (A : Option Addr) (n cc : Nat) (l : List A25) (w : World) (hc0 : -9223372036854775808 ≤ c) (hc1 : c ≤ 9223372036854775807) (hp0 : -9223372036854775808 ≤ p) (hp1 : p ≤ 9223372036854775807)
    (hx : Rd w (Old w) 3 A n cc (a25Rows l)) (hl : ∀ x ∈ l, x.ok) :
    Calls Try.prog 8 #[.int .i64 c, .int .i64 p, .slice A n cc, .int .i64 near] w fun e w' => e = .returned (.bool true) ∧ Below w.heap.size w w' := by
  have hlen : l.length = n := by have := hx.len; simpa [a25Rows] using this
  have hn : n ≤ 9223372036854775807 := by have h1 := hx.le; have h2 := hx.max; unfold maxLen at h2; omega
  have HX := Lib.hid hx
  have H2 := Lib.hid hl
  have H3 := Lib.hid hlen
  clear hx hl hlen
  by_cases h200 : 200 < n
  · have q : (200 : Int) < (n : Int) := by omega
    go_enter Try.func8, Try.ntmps8
    go_wp2_with fail
    refine (awake25_any _).mono ?_
    rintro e w11 ⟨rfl, B11⟩
    go_wp2
    go_ret
    exact ⟨rfl, B11⟩
  have q : ¬ (200 : Int) < (n : Int) := by omega
  have HN := Lib.hid (fun f => marksNew_any c p w hc0 hc1 hp0 hp1 f)
  have hm := mostOf_le c p
  have hper := perOf_pos p
  go_enter Try.func8, Try.ntmps8
  go_wp2_with fail
  refine (HN.out (fun _ => undef)).mono ?_
  rintro e w1 ⟨rfl, hm1, hb1, hz1⟩
  have K1 : RowKit.Hid (MS w w1 (mostOf c p) (perOf p) [] (fun x => x)) := ⟨⟨_, hm1, fun x hx => by simp at hx⟩, hb1⟩
  clear hm1 hb1 HN hz1
  go_wp2
  go_loopw [10, 11] (fun v i wr => ∃ j : Nat, j ≤ n ∧ i = .int .i64 (j : Int) ∧ RowKit.Hid (∃ K N, MS w wr (mostOf c p) (perOf p) K N ∧ KOk (mostOf c p) (perOf p) K ∧ K.length ≤ j ∧ RS w wr K N v)) (fun _ i _ => n - (RowKit.intOf i).toNat)
  case atStart => exact ⟨0, Nat.zero_le _, rfl, _, _, K1.out, ⟨by simp, by simp⟩, by simp, RS.nil _ _ _⟩
  case round =>
    clear K1
    obtain ⟨j, hj, rfl, hst⟩ := hrel
    obtain ⟨K, N, hst, hok, hKj, hrs⟩ := hst.out
    have MS1 := Lib.hid hst
    have KO := Lib.hid hok
    have RS1 := Lib.hid hrs
    clear hst hok hrs
    by_cases hlt : j < n
    · have q1 : (j : Int) < (n : Int) := by omega
      obtain ⟨b, off, hA, hb, hcell⟩ := a25_at HX.out (by omega)
      obtain ⟨a, hak⟩ : ∃ a, l[j]? = some a := ⟨_, List.getElem?_eq_getElem (by rw [H3.out]; exact hlt)⟩
      have hok := H2.out a (List.mem_of_getElem? hak)
      have hcj := hcell j a hak
      have HC := Lib.hid hcj
      have cx0 := below_cell MS1.out.below hcj.1
      have cx1 := below_cell MS1.out.below hcj.2.1
      have cx2 := below_cell MS1.out.below hcj.2.2
      subst hA
      have OK := Lib.hid hok
      have hd1 : (0 : Int) ≤ (a.d : Int) := by omega
      have hd2 : (a.d : Int) ≤ 255 := by have := OK.out.1; omega
      clear hcell hak hok hcj
      go_wp2_with fail
      refine (Do25_chg w (mostOf c p) (perOf p) K N a.d a.k a.n _ MS1.out hper OK.out.1 OK.out.2.1.2 (by omega)).mono ?_
      rintro e w2 ⟨rfl, hms, hch⟩
      have MS2 := Lib.hid hms
      have RS2 := Lib.hid (RS1.out.chg hch)
      have KO2 := Lib.hid (KO.out.act (a.d % 6) a.k)
      have hlK := doK_len (mostOf c p) (perOf p) K (a.d % 6) a.k
      have dx0 := below_cell MS2.out.below HC.out.1
      have dx1 := below_cell MS2.out.below HC.out.2.1
      have dx2 := below_cell MS2.out.below HC.out.2.2
      have hBW := Lib.hid (Nat.le_trans (show w.heap.size + 2 ≤ w2.heap.size by obtain ⟨f, hf, _⟩ := MS2.out.ex; have := hf.lt; omega) (Nat.le_refl _))
      have HRise : RowKit.Hid (Rising K) := by
        obtain ⟨f0, h0, _⟩ := MS1.out.ex
        exact h0.rise
      clear hms hch cx0 cx1 cx2 MS1 RS1
      obtain ⟨AV, cv, fr, hV, hR, hVals⟩ := RS2.out
      subst hV
      have HR2 := Lib.hid hR
      have HV2 := Lib.hid hVals
      clear hR hVals RS2
      by_cases q4 : a.d % 6 = 4
      · have e1 : (a.d : Int) % 6 = 4 := by omega
        have eK : doK (mostOf c p) (perOf p) K (a.d % 6) a.k = belowK K a.k := by unfold doK; rw [if_pos q4]
        have eN : doN (perOf p) N (a.d % 6) a.k a.n = N := by unfold doN; rw [if_pos q4]
        rw [eK, eN] at MS2
        rw [eK] at KO2 hlK
        clear eK eN q4
        go_wp2_with fail
        refine (ref25Below_any AV K.length cv K fr a.k _ w2 HR2.out HV2.out.one (by omega)).mono ?_
        rintro e w3 ⟨A3, c3, rfl, hr3, hb3⟩
        have MS3 := Lib.hid (MS2.out.stay hb3)
        have RS3 : RowKit.Hid (RS w w3 (belowK K a.k) N (.slice A3 (belowK K a.k).length c3)) := ⟨A3, c3, fr, rfl, hr3.mono (fun b _ h => Nat.le_trans hBW.out h) (by decide), (HV2.out.chg (Chg.of_below hb3)).sub (fun x hx => (List.mem_filter.1 hx).1)⟩
        clear hr3 hb3 MS2 HR2 HV2
        go_wp2
        go_roundw
        case rel => exact ⟨j + 1, by omega, by go_num, _, _, MS3.out, KO2.out, by omega, RS3.out⟩
        case measure => simp [RowKit.intOf]; omega
      · by_cases q5 : a.d % 6 = 5
        · have e1 : (a.d : Int) % 6 = 5 := by omega
          have eK : doK (mostOf c p) (perOf p) K (a.d % 6) a.k = [] := by unfold doK; rw [if_neg q4, if_pos q5]
          have eN : doN (perOf p) N (a.d % 6) a.k a.n = N := by unfold doN; rw [if_neg q4, if_pos q5]
          rw [eK, eN] at MS2
          rw [eK] at KO2
          clear eK eN q4 q5 hlK
          go_wp2
          go_roundw
          case rel => exact ⟨j + 1, by omega, by go_num, _, _, MS2.out, KO2.out, by simp, RS.nil _ _ _⟩
          case measure => simp [RowKit.intOf]; omega
        · have e1 : ((a.d : Int) % 6 == 4) = false := by simp; omega
          have e2 : ((a.d : Int) % 6 == 5) = false := by simp; omega
          have e3 : ¬ (a.d : Int) % 6 = 4 := by omega
          have e4 : ¬ (a.d : Int) % 6 = 5 := by omega
          have eK : doK (mostOf c p) (perOf p) K (a.d % 6) a.k = mputK (mostOf c p) (perOf p) K a.k := by unfold doK; rw [if_neg q4, if_neg q5]
          have eN : doN (perOf p) N (a.d % 6) a.k a.n = mputN (perOf p) N a.k a.n := by unfold doN; rw [if_neg q4, if_neg q5]
          rw [eK, eN] at MS2
          rw [eK] at KO2 hlK
          clear eK eN q4 q5
          go_upto_region 10 with fail
          go_region_held3 (fun w' => w'.cell? ⟨b, off + j * 3 + 1, none⟩ = some (.int .i64 a.k) ∧ w'.cell? ⟨b, off + j * 3 + 2, none⟩ = some (.int .i64 a.n))
            (first | (go_keep; done) | (go_split_ands; exact ⟨below_cell ((Below.refl _ _).alloc (Nat.le_refl _) _) (by assumption), below_cell ((Below.refl _ _).alloc (Nat.le_refl _) _) (by assumption)⟩) | (go_split_ands; exact ⟨below_cell hb5 (by assumption), below_cell hb5 (by assumption)⟩))
            ((first
              | (go_at_call 32; refine (all25_any _ _).mono ?_; rintro e w4 ⟨rfl, rfl⟩)
              | (go_at_call 39; refine (ref25Put_any AV K.length cv K fr c p a.k _ _ _ (HR2.out.below (((below_drewN (Below.refl _ w2) _)).alloc (Nat.le_refl _) _)) HV2.out.one HRise.out (by omega) hc0 hc1 hp1).mono ?_; rintro e w5 ⟨A5, c5, rfl, hr5, hb5⟩)))
          have MS3 := Lib.hid (MS2.out.stay (((below_drewN (Below.refl _ w2) _).alloc (Nat.le_refl _) _).trans (hb5.mono (by simp))))
          have RS3 := Lib.hid (show RS w w5 _ _ _ from ⟨A5, c5, _, rfl, hr5.mono (fun b _ h => h.elim id (fun h => Nat.le_trans hBW.out (Nat.le_trans (by simp) h))) (by decide), vals_put (w := w2.drewN _) a.k a.n (HV2.out.chg ((Chg.refl _ w2).drewN _)) hb5 (by have := hBW.out; show _ < w2.heap.size; omega)⟩)
          clear hr5 hb5 MS2 HR2 HV2
          go_wp2
          go_roundw
          case rel => exact ⟨j + 1, by omega, by go_num, _, _, MS3.out, KO2.out, by omega, RS3.out⟩
          case measure => simp [RowKit.intOf]; omega
    · have hjn : j = n := by omega
      subst hjn
      obtain ⟨f, hmk, hv⟩ := MS1.out.ex
      have KM := Lib.hid hmk
      have KV := Lib.hid hv
      have KB := Lib.hid MS1.out.below
      have KR := Lib.hid hmk.rise
      obtain ⟨AV, cv, fr, hV, hR, hVals⟩ := RS1.out
      subst hV
      have HR2 := Lib.hid hR
      have HV2 := Lib.hid hVals
      clear hR hVals RS1 MS1 hmk hv
      generalize mostOf c p = most at *
      go_wp2_with fail
      refine (mkeys_any _ _ most (perOf p) K f _ KM.out (by omega)).mono ?_
      rintro e w3 ⟨A3, c3, rfl, hr3, hb3⟩
      have R3 := Lib.hid hr3
      have M3 := Lib.hid (KM.out.below hb3)
      have V3 := Lib.hid (KV.out.chg (Chg.of_below hb3))
      have B3 := Lib.hid (KB.out.trans (hb3.mono KB.out.size))
      have RR3 := Lib.hid (HR2.out.below hb3)
      have RV3 := Lib.hid (HV2.out.chg (Chg.of_below hb3))
      clear hr3 hb3 KM KV KB HR2 HV2
      go_wp2_with fail
      refine (mlen_any _ _ most (perOf p) K f _ M3.out (by omega)).mono ?_
      rintro e w4 ⟨rfl, hb4⟩
      have R4 := Lib.hid (R3.out.below hb4)
      have M4 := Lib.hid (M3.out.below hb4)
      have V4 := Lib.hid (V3.out.chg (Chg.of_below hb4))
      have B4 := Lib.hid (B3.out.trans (hb4.mono B3.out.size))
      have RR4 := Lib.hid (RR3.out.below hb4)
      have RV4 := Lib.hid (RV3.out.chg (Chg.of_below hb4))
      clear hb4 R3 M3 V3 B3 RR3 RV3
      go_wp2
      go_loopw [13, 14] (fun la i wr => ∃ (j2 : Nat) (lst : Int), j2 ≤ K.length ∧ i = .int .i64 (j2 : Int) ∧ la = .int .i64 lst ∧ RowKit.Hid (LastIs K near j2 lst) ∧ RowKit.Hid (Below w4.heap.size w4 wr)) (fun _ i _ => K.length - (RowKit.intOf i).toNat)
      case atStart => exact ⟨0, -1, Nat.zero_le _, rfl, rfl, .inl ⟨rfl, rfl⟩, Below.refl _ _⟩
      case round =>
        obtain ⟨j2, lst, hj2, rfl, rfl, hls, hb5⟩ := hrel
        have M5 := Lib.hid (M4.out.below hb5.out)
        have V5 := Lib.hid (V4.out.chg (Chg.of_below hb5.out))
        have RV5 := Lib.hid (RV4.out.chg (Chg.of_below hb5.out))
        have RR5 := Lib.hid (RR4.out.below hb5.out)
        have R5 := Lib.hid (R4.out.below hb5.out)
        by_cases hlt2 : j2 < K.length
        · have q1 : (j2 : Int) < (K.length : Int) := by omega
          obtain ⟨x, hxk⟩ : ∃ x, K[j2]? = some x := ⟨_, List.getElem?_eq_getElem hlt2⟩
          have hxm := List.mem_of_getElem? hxk
          obtain ⟨b3, o3, hA3, -, hc3⟩ := iRows_at R5.out (by omega)
          obtain ⟨b4, o4, hAV, -, hc4⟩ := mkRows_at RR5.out (by omega)
          have c1 := hc3 j2 x hxk
          have c2 := (hc4 j2 x hxk).1
          have c3' := (hc4 j2 x hxk).2
          obtain ⟨g, hg, -, hgh⟩ := V5.out x hxm
          obtain ⟨g', hg', -, hgh'⟩ := RV5.out x hxm
          rw [hg'] at c3'
          have HN1 := Lib.hid (near_self K x KR.out hxm)
          have HXK := Lib.hid hxk
          have HG := Lib.hid hg
          have G1 := Lib.hid hgh
          have G2 := Lib.hid hgh'
          have C1 := Lib.hid c1
          have C3 := Lib.hid c3'
          have C2 := Lib.hid c2
          subst hA3 hAV
          clear hxk hxm hc3 hc4 hg hg' hgh hgh' c1 c3'
          go_wp2_with fail
          refine (mnear_any _ _ most (perOf p) K f x _ M5.out (by omega)).mono ?_
          rintro e w6 ⟨rfl, hb6⟩
          rw [nearV_eq, HN1.out]
          simp only [optI, nearS, Option.getD_some, Option.isSome_some]
          rw [HG.out]
          have d1 := below_cell hb6 C1.out
          have d2 := below_cell hb6 C2.out
          have d3 := below_cell hb6 C3.out
          have G1' := Lib.hid ((hb6.block g (lt_of_block G1.out)).trans G1.out)
          have G2' := Lib.hid ((hb6.block g' (lt_of_block G2.out)).trans G2.out)
          have B6 := Lib.hid (hb5.out.trans (hb6.mono hb5.out.size))
          have r1 : (x != x) = false := by simp
          clear hb6 c2 M5 V5 RV5 RR5 R5 hb5
          go_wp2
          go_still_tail 30, (by kernel_rfl)
          change wpList _ _ _ _ _ w6.drew
          go_wp2_with fail
          refine (cells_same g g' (N x) w6.drew G1'.out G2'.out).mono ?_
          rintro e w7 ⟨rfl, hb7⟩
          have hb67 := (Below.refl _ w6).drew.trans (hb7.mono (w := w6.drew) (Nat.le_refl _))
          have e2 := below_cell hb67 d2
          have B7 := Lib.hid (B6.out.trans (hb67.mono B6.out.size))
          clear hb7 hb67 d1 d2 d3 G1 G2 G1' G2' B6
          by_cases hxn : x ≤ near
          · have L7 : RowKit.Hid (LastIs K near (j2 + 1) (j2 : Int)) := .inr ⟨j2, x, rfl, by omega, HXK.out, nearK_hit K near j2 x HXK.out hxn⟩
            go_wp2
            go_roundw
            case rel => exact ⟨j2 + 1, _, by omega, by go_num, rfl, L7.out, B7.out⟩
            case measure => simp [RowKit.intOf]; omega
          · have L7 : RowKit.Hid (LastIs K near (j2 + 1) lst) := by
              have e3 := nearK_miss K near j2 x HXK.out hxn
              rcases hls.out with ⟨h1, h2⟩ | ⟨i, y, h1, h2, h3, h4⟩
              · exact .inl ⟨h1, e3.trans h2⟩
              · exact .inr ⟨i, y, h1, by omega, h3, e3.trans h4⟩
            go_wp2
            go_roundw
            case rel => exact ⟨j2 + 1, _, by omega, by go_num, rfl, L7.out, B7.out⟩
            case measure => simp [RowKit.intOf]; omega
        · have hjk : j2 = K.length := by omega
          subst hjk
          have hLS := hls.out
          unfold LastIs at hLS
          rw [List.take_length] at hLS
          have B5 := Lib.hid (B4.out.trans (hb5.out.mono B4.out.size))
          rcases hLS with ⟨rfl, hq⟩ | ⟨i, x, rfl, hi, hxk, hq⟩
          · have HQ := Lib.hid hq
            clear hq hls hb5
            go_wp2_with fail
            refine (mnear_any _ _ most (perOf p) K f near _ M5.out (by omega)).mono ?_
            rintro e w6 ⟨rfl, hb6⟩
            rw [nearV_eq, HQ.out]
            simp only [optI, nearS, Option.getD_none, Option.isSome_none]
            have B6 := Lib.hid (B5.out.trans (hb6.mono B5.out.size))
            clear hb6 M5 V5 RV5 RR5 R5
            go_wp2_with fail
            refine (awake25_any _).mono ?_
            rintro e w11 ⟨rfl, B11⟩
            go_wp2
            go_ret
            exact ⟨rfl, B6.out.trans (B11.mono B6.out.size)⟩
          · have hxm := List.mem_of_getElem? hxk
            obtain ⟨b4, o4, hAV, -, hc4⟩ := mkRows_at RR5.out (by omega)
            have c2 := (hc4 i x hxk).1
            have c3' := (hc4 i x hxk).2
            obtain ⟨g, hg, -, hgh⟩ := V5.out x hxm
            obtain ⟨g', hg', -, hgh'⟩ := RV5.out x hxm
            rw [hg'] at c3'
            have HQ := Lib.hid hq
            have HG := Lib.hid hg
            have G1 := Lib.hid hgh
            have G2 := Lib.hid hgh'
            have C3 := Lib.hid c3'
            have C2 := Lib.hid c2
            have q5 : ¬ (i : Int) < 0 := by omega
            have q6 : (i : Int) < (K.length : Int) := by omega
            have q7 : (0 : Int) ≤ (i : Int) := by omega
            subst hAV
            clear hxk hxm hc4 hg hg' hgh hgh' c2 c3' hq hls hb5
            go_wp2_with fail
            refine (mnear_any _ _ most (perOf p) K f near _ M5.out (by omega)).mono ?_
            rintro e w6 ⟨rfl, hb6⟩
            rw [nearV_eq, HQ.out]
            simp only [optI, nearS, Option.getD_some, Option.isSome_some]
            rw [HG.out]
            have d2 := below_cell hb6 C2.out
            have d3 := below_cell hb6 C3.out
            have G1' := Lib.hid ((hb6.block g (lt_of_block G1.out)).trans G1.out)
            have G2' := Lib.hid ((hb6.block g' (lt_of_block G2.out)).trans G2.out)
            have B6 := Lib.hid (B5.out.trans (hb6.mono B5.out.size))
            have r1 : (x == x) = true := by simp
            clear hb6 M5 V5 RV5 RR5 R5
            go_wp2_with fail
            refine (cells_same g g' (N x) w6 G1'.out G2'.out).mono ?_
            rintro e w7 ⟨rfl, hb7⟩
            have B7 := Lib.hid (B6.out.trans (hb7.mono B6.out.size))
            clear hb7 d2 d3 G1 G2 G1' G2' B6
            go_wp2_with fail
            refine (awake25_any _).mono ?_
            rintro e w11 ⟨rfl, B11⟩
            go_wp2
            go_ret
            exact ⟨rfl, B7.out.trans (B11.mono B7.out.size)⟩
end Go.Proofs.Ytochdmbjlemfoaa
