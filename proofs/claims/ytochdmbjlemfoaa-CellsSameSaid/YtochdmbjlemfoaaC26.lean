/-
  The law CellsSame (package anamnesislaw19): the walk. Of any two things, any cells, any entries that can be read.
-/
import Derived.Test.YtochdmbjlemfoaaC25
import Derived.Test.YtochdmbjlemfoaaC23
namespace Go.Proofs.Ytochdmbjlemfoaa
open Go Go.RowKit Go.Maps

set_option maxRecDepth 100000 in
set_option maxHeartbeats 8000000 in
theorem cellsSame_any (tsa tsb : List Value) (ta tb : TD) (A : Option Addr) (n c : Nat) (es : List (List Value)) (L : List CD) (Z : Option Addr) (m z : Nat) (zes : List (List Value)) (M : List ED) (w : World) (hta : TIs w (Old w) tsa ta) (htb : TIs w (Old w) tsb tb) (hx : Rd w (Old w) 15 A n c es) (hL : CellsAre w (Old w) es L) (hz : Rd w (Old w) 16 Z m z zes) (hM : EntsAre w (Old w) zes M)
    (hkL : ∀ x ∈ L, x.key.size ≤ maxLen) (hkM : ∀ x ∈ M, x.key.size ≤ maxLen) :
    Calls Try.prog 13 #[.agg tsa.toArray, .agg tsb.toArray, .slice A n c, .slice Z m z] w fun e w' => e = .returned (.bool true) ∧ Below w.heap.size w w' := by
  have hn : n ≤ 9223372036854775807 := by have h1 := hx.le; have h2 := hx.max; unfold maxLen at h2; omega
  have hm : m ≤ 9223372036854775807 := by have h1 := hz.le; have h2 := hz.max; unfold maxLen at h2; omega
  obtain ⟨P1, Pn1, Pc1, P2, Pn2, Pc2, P3, Pn3, Pc3, P4, Pn4, Pc4, P5, Pn5, Pc5, rfl⟩ := hta.full
  obtain ⟨Q1, Qn1, Qc1, Q2, Qn2, Qc2, Q3, Qn3, Qc3, Q4, Qn4, Qc4, Q5, Qn5, Qc5, rfl⟩ := htb.full
  have HTA := Lib.hid hta
  have HTB := Lib.hid htb
  have HX := Lib.hid hx
  have HL := Lib.hid hL
  have HZ := Lib.hid hz
  have HM := Lib.hid hM
  have HKL := Lib.hid hkL
  have HKM := Lib.hid hkM
  have HLn := Lib.hid (show L.length = n by rw [← hL.1]; exact hx.len)
  have HMn := Lib.hid (show M.length = m by rw [← hM.1]; exact hz.len)
  have HB := Lib.hid (two_below w)
  clear hta htb hx hL hz hM hkL hkM
  by_cases h12 : 12 < n
  · have q : (12 : Int) < (n : Int) := by omega
    go_enter Try.func13, Try.ntmps13
    go_wp2_with fail
    refine (awake19_any _).mono ?_
    rintro e w11 ⟨rfl, B11⟩
    go_wp2
    go_ret
    exact ⟨rfl, (HB.out _ _).trans (B11.mono (by simp; omega))⟩
  by_cases h12' : 12 < m
  · have q : ¬ (12 : Int) < (n : Int) := by omega
    have q' : (12 : Int) < (m : Int) := by omega
    go_enter Try.func13, Try.ntmps13
    go_wp2_with fail
    refine (awake19_any _).mono ?_
    rintro e w11 ⟨rfl, B11⟩
    go_wp2
    go_ret
    exact ⟨rfl, (HB.out _ _).trans (B11.mono (by simp; omega))⟩
  have q : ¬ (12 : Int) < (n : Int) := by omega
  have q' : ¬ (12 : Int) < (m : Int) := by omega
  go_enter Try.func13, Try.ntmps13
  go_upto_region 3 with fail
  obtain ⟨wb, hwb⟩ : ∃ wb, wb = (w.alloc (.cells (tL ta P1 Pn1 Pc1 P2 Pn2 Pc2 P3 Pn3 Pc3 P4 Pn4 Pc4 P5 Pn5 Pc5).toArray 45)).alloc (.cells (tL tb Q1 Qn1 Qc1 Q2 Qn2 Qc2 Q3 Qn3 Qc3 Q4 Qn4 Qc4 Q5 Qn5 Qc5).toArray 45) := ⟨_, rfl⟩
  have hx1 := (al2 w (.cells (tL ta P1 Pn1 Pc1 P2 Pn2 Pc2 P3 Pn3 Pc3 P4 Pn4 Pc4 P5 Pn5 Pc5).toArray 45) (.cells (tL tb Q1 Qn1 Qc1 Q2 Qn2 Qc2 Q3 Qn3 Qc3 Q4 Qn4 Qc4 Q5 Qn5 Qc5).toArray 45)).1
  have hx2 := (al2 w (.cells (tL ta P1 Pn1 Pc1 P2 Pn2 Pc2 P3 Pn3 Pc3 P4 Pn4 Pc4 P5 Pn5 Pc5).toArray 45) (.cells (tL tb Q1 Qn1 Qc1 Q2 Qn2 Qc2 Q3 Qn3 Qc3 Q4 Qn4 Qc4 Q5 Qn5 Qc5).toArray 45)).2
  rw [← hwb] at hx1 hx2
  have hbb : Below w.heap.size w wb := by rw [hwb]; exact HB.out _ _
  have e := hwb.symm
  unfold tL at e
  rw [e]
  have p0 : wb.cell? ⟨w.heap.size, 0, none⟩ = some (.int .u8 ta.kind) := (cell_of_row wb _ 0 _ _ _ hx1).trans rfl
  have p1 : wb.cell? ⟨w.heap.size, 1, none⟩ = some (.bool ta.v.char) := (cell_of_row wb _ 1 _ _ _ hx1).trans rfl
  have p2 : wb.cell? ⟨w.heap.size, 2, none⟩ = some (.slice P1 Pn1 Pc1) := (cell_of_row wb _ 2 _ _ _ hx1).trans rfl
  have p3 : wb.cell? ⟨w.heap.size, 3, none⟩ = some (.slice P2 Pn2 Pc2) := (cell_of_row wb _ 3 _ _ _ hx1).trans rfl
  have p4 : wb.cell? ⟨w.heap.size, 4, none⟩ = some (.string ta.f.name) := (cell_of_row wb _ 4 _ _ _ hx1).trans rfl
  have p5 : wb.cell? ⟨w.heap.size, 5, none⟩ = some (.string ta.f.result) := (cell_of_row wb _ 5 _ _ _ hx1).trans rfl
  have p6 : wb.cell? ⟨w.heap.size, 6, none⟩ = some (.string ta.f.left) := (cell_of_row wb _ 6 _ _ _ hx1).trans rfl
  have p7 : wb.cell? ⟨w.heap.size, 7, none⟩ = some (.string ta.f.right) := (cell_of_row wb _ 7 _ _ _ hx1).trans rfl
  have p8 : wb.cell? ⟨w.heap.size, 8, none⟩ = some (.slice P3 Pn3 Pc3) := (cell_of_row wb _ 8 _ _ _ hx1).trans rfl
  have p9 : wb.cell? ⟨w.heap.size, 9, none⟩ = some (.slice P4 Pn4 Pc4) := (cell_of_row wb _ 9 _ _ _ hx1).trans rfl
  have p10 : wb.cell? ⟨w.heap.size, 10, none⟩ = some (.int .i64 ta.f.version) := (cell_of_row wb _ 10 _ _ _ hx1).trans rfl
  have p11 : wb.cell? ⟨w.heap.size, 11, none⟩ = some (.slice P5 Pn5 Pc5) := (cell_of_row wb _ 11 _ _ _ hx1).trans rfl
  have p12 : wb.cell? ⟨w.heap.size, 12, none⟩ = some (.int .i64 ta.n) := (cell_of_row wb _ 12 _ _ _ hx1).trans rfl
  have p13 : wb.cell? ⟨w.heap.size, 13, none⟩ = some (.string ta.s) := (cell_of_row wb _ 13 _ _ _ hx1).trans rfl
  have q0 : wb.cell? ⟨w.heap.size + 1, 0, none⟩ = some (.int .u8 tb.kind) := (cell_of_row wb _ 0 _ _ _ hx2).trans rfl
  have q1 : wb.cell? ⟨w.heap.size + 1, 1, none⟩ = some (.bool tb.v.char) := (cell_of_row wb _ 1 _ _ _ hx2).trans rfl
  have q2 : wb.cell? ⟨w.heap.size + 1, 2, none⟩ = some (.slice Q1 Qn1 Qc1) := (cell_of_row wb _ 2 _ _ _ hx2).trans rfl
  have q3 : wb.cell? ⟨w.heap.size + 1, 3, none⟩ = some (.slice Q2 Qn2 Qc2) := (cell_of_row wb _ 3 _ _ _ hx2).trans rfl
  have q4 : wb.cell? ⟨w.heap.size + 1, 4, none⟩ = some (.string tb.f.name) := (cell_of_row wb _ 4 _ _ _ hx2).trans rfl
  have q5 : wb.cell? ⟨w.heap.size + 1, 5, none⟩ = some (.string tb.f.result) := (cell_of_row wb _ 5 _ _ _ hx2).trans rfl
  have q6 : wb.cell? ⟨w.heap.size + 1, 6, none⟩ = some (.string tb.f.left) := (cell_of_row wb _ 6 _ _ _ hx2).trans rfl
  have q7 : wb.cell? ⟨w.heap.size + 1, 7, none⟩ = some (.string tb.f.right) := (cell_of_row wb _ 7 _ _ _ hx2).trans rfl
  have q8 : wb.cell? ⟨w.heap.size + 1, 8, none⟩ = some (.slice Q3 Qn3 Qc3) := (cell_of_row wb _ 8 _ _ _ hx2).trans rfl
  have q9 : wb.cell? ⟨w.heap.size + 1, 9, none⟩ = some (.slice Q4 Qn4 Qc4) := (cell_of_row wb _ 9 _ _ _ hx2).trans rfl
  have q10 : wb.cell? ⟨w.heap.size + 1, 10, none⟩ = some (.int .i64 tb.f.version) := (cell_of_row wb _ 10 _ _ _ hx2).trans rfl
  have q11 : wb.cell? ⟨w.heap.size + 1, 11, none⟩ = some (.slice Q5 Qn5 Qc5) := (cell_of_row wb _ 11 _ _ _ hx2).trans rfl
  have q12 : wb.cell? ⟨w.heap.size + 1, 12, none⟩ = some (.int .i64 tb.n) := (cell_of_row wb _ 12 _ _ _ hx2).trans rfl
  have q13 : wb.cell? ⟨w.heap.size + 1, 13, none⟩ = some (.string tb.s) := (cell_of_row wb _ 13 _ _ _ hx2).trans rfl
  have BW := Lib.hid hbb
  clear e hwb hx1 hx2 hbb
  obtain ⟨r, hr⟩ : ∃ r, r = decide (ta = tb) := ⟨_, rfl⟩
  have hrr : (r != r) = false := by simp
  have HS1 := Lib.hid (fun w9 (hb : Below wb.heap.size wb w9) => cSame_any (Old w) (Old w) _ _ ta tb w9 ((HTA.out.below BW.out).below hb) ((HTB.out.below BW.out).below hb) r hr |>.mono (R' := fun e w' => e = .returned (.bool r) ∧ Below wb.heap.size wb w') (by rintro e w' ⟨rfl, hb'⟩; exact ⟨rfl, hb.trans (hb'.mono hb.size)⟩))
  have HS2 := Lib.hid (fun w9 (hb : Below wb.heap.size wb w9) => (rsame_any (Old w) (Old w) _ _ ta tb w9 ((HTA.out.below BW.out).below hb) ((HTB.out.below BW.out).below hb)).mono (R' := fun e w' => e = .returned (.bool r) ∧ Below wb.heap.size wb w') (by rintro e w' ⟨rfl, hb'⟩; exact ⟨by rw [hr], hb.trans (hb'.mono hb.size)⟩))
  have HS3 := Lib.hid (fun w9 (hb : Below wb.heap.size wb w9) => cSame_any (Old w) (Old w) _ _ ta ta w9 ((HTA.out.below BW.out).below hb) ((HTA.out.below BW.out).below hb) true (decide_eq_true rfl).symm |>.mono (R' := fun e w' => e = .returned (.bool true) ∧ Below wb.heap.size wb w') (by rintro e w' ⟨rfl, hb'⟩; exact ⟨rfl, hb.trans (hb'.mono hb.size)⟩))
  clear hr
  go_cut [37] (fun v wx => v = .bool false ∧ RowKit.Hid (Below wb.heap.size wb wx))
  case first =>
    have hdr : Below wb.heap.size wb wb.drew := (Below.refl _ _).drew
    go_region_held3 (fun w' => w'.cell? ⟨w.heap.size, 0, none⟩ = some (.int .u8 ta.kind) ∧ w'.cell? ⟨w.heap.size, 1, none⟩ = some (.bool ta.v.char) ∧ w'.cell? ⟨w.heap.size, 2, none⟩ = some (.slice P1 Pn1 Pc1) ∧ w'.cell? ⟨w.heap.size, 3, none⟩ = some (.slice P2 Pn2 Pc2) ∧ w'.cell? ⟨w.heap.size, 4, none⟩ = some (.string ta.f.name) ∧ w'.cell? ⟨w.heap.size, 5, none⟩ = some (.string ta.f.result) ∧ w'.cell? ⟨w.heap.size, 6, none⟩ = some (.string ta.f.left) ∧ w'.cell? ⟨w.heap.size, 7, none⟩ = some (.string ta.f.right) ∧ w'.cell? ⟨w.heap.size, 8, none⟩ = some (.slice P3 Pn3 Pc3) ∧ w'.cell? ⟨w.heap.size, 9, none⟩ = some (.slice P4 Pn4 Pc4) ∧ w'.cell? ⟨w.heap.size, 10, none⟩ = some (.int .i64 ta.f.version) ∧ w'.cell? ⟨w.heap.size, 11, none⟩ = some (.slice P5 Pn5 Pc5) ∧ w'.cell? ⟨w.heap.size, 12, none⟩ = some (.int .i64 ta.n) ∧ w'.cell? ⟨w.heap.size, 13, none⟩ = some (.string ta.s) ∧ w'.cell? ⟨w.heap.size + 1, 0, none⟩ = some (.int .u8 tb.kind) ∧ w'.cell? ⟨w.heap.size + 1, 1, none⟩ = some (.bool tb.v.char) ∧ w'.cell? ⟨w.heap.size + 1, 2, none⟩ = some (.slice Q1 Qn1 Qc1) ∧ w'.cell? ⟨w.heap.size + 1, 3, none⟩ = some (.slice Q2 Qn2 Qc2) ∧ w'.cell? ⟨w.heap.size + 1, 4, none⟩ = some (.string tb.f.name) ∧ w'.cell? ⟨w.heap.size + 1, 5, none⟩ = some (.string tb.f.result) ∧ w'.cell? ⟨w.heap.size + 1, 6, none⟩ = some (.string tb.f.left) ∧ w'.cell? ⟨w.heap.size + 1, 7, none⟩ = some (.string tb.f.right) ∧ w'.cell? ⟨w.heap.size + 1, 8, none⟩ = some (.slice Q3 Qn3 Qc3) ∧ w'.cell? ⟨w.heap.size + 1, 9, none⟩ = some (.slice Q4 Qn4 Qc4) ∧ w'.cell? ⟨w.heap.size + 1, 10, none⟩ = some (.int .i64 tb.f.version) ∧ w'.cell? ⟨w.heap.size + 1, 11, none⟩ = some (.slice Q5 Qn5 Qc5) ∧ w'.cell? ⟨w.heap.size + 1, 12, none⟩ = some (.int .i64 tb.n) ∧ w'.cell? ⟨w.heap.size + 1, 13, none⟩ = some (.string tb.s))
      (first | (go_split_ands; exact ⟨below_cell (by assumption) p0, below_cell (by assumption) p1, below_cell (by assumption) p2, below_cell (by assumption) p3, below_cell (by assumption) p4, below_cell (by assumption) p5, below_cell (by assumption) p6, below_cell (by assumption) p7, below_cell (by assumption) p8, below_cell (by assumption) p9, below_cell (by assumption) p10, below_cell (by assumption) p11, below_cell (by assumption) p12, below_cell (by assumption) p13, below_cell (by assumption) q0, below_cell (by assumption) q1, below_cell (by assumption) q2, below_cell (by assumption) q3, below_cell (by assumption) q4, below_cell (by assumption) q5, below_cell (by assumption) q6, below_cell (by assumption) q7, below_cell (by assumption) q8, below_cell (by assumption) q9, below_cell (by assumption) q10, below_cell (by assumption) q11, below_cell (by assumption) q12, below_cell (by assumption) q13⟩) | (go_split_ands; exact ⟨p0, p1, p2, p3, p4, p5, p6, p7, p8, p9, p10, p11, p12, p13, q0, q1, q2, q3, q4, q5, q6, q7, q8, q9, q10, q11, q12, q13⟩))
      ((first
        | (go_at_call 54; (with_reducible refine (HS1.out _ (by assumption)).mono ?_); rintro e w1 ⟨rfl, hb1⟩)
        | (go_at_call 60; refine (HS2.out _ (by assumption)).mono ?_; rintro e w2 ⟨rfl, hb2⟩)
        | (go_at_call 54; refine (HS3.out _ (by assumption)).mono ?_; rintro e w3 ⟨rfl, hb3⟩)))
    all_goals
      go_wp2
      go_meet
      exact ⟨rfl, hb3⟩
  case rest =>
    obtain ⟨rfl, BC⟩ := hcut
    have P1 := Lib.hid (rb_new w wc awT0 (BW.out.trans (BC.out.mono BW.out.size)))
    obtain ⟨x, hx⟩ : ∃ x, x = wc.heap.size := ⟨_, rfl⟩
    rw [← hx] at P1
    have WC := Lib.hid (BW.out.trans (BC.out.mono BW.out.size))
    clear p0 p1 p2 p3 p4 p5 p6 p7 p8 p9 p10 p11 p12 p13 q0 q1 q2 q3 q4 q5 q6 q7 q8 q9 q10 q11 q12 q13 HS1 HS2 HS3 BW BC HTA HTB HB hrr
    go_upto_region 8 with fail
    rw [← hx]
    clear hx
    go_loopw [10, 11] (fun tw i wr => ∃ j : Nat, j ≤ n ∧ i = .int .i64 (j : Int) ∧ tw = .bool (decide (¬ ((L.take j).map CD.key).Nodup)) ∧ RowKit.Hid (RBx w wr x (ofK (L.take j)) (ofT awT0 (L.take j)) (ofG awT0 (L.take j)))) (fun _ i _ => n - (RowKit.intOf i).toNat)
    case atStart => exact ⟨0, Nat.zero_le _, rfl, by simp, P1.out⟩
    case round =>
      clear P1
      obtain ⟨j, hj, rfl, rfl, hst⟩ := hrel
      by_cases hlt : j < n
      · have q1 : (j : Int) < (n : Int) := by omega
        obtain ⟨b, off, hA, hbo, hc⟩ := HX.out.at_ (by omega)
        obtain ⟨e, he⟩ : ∃ e, es[j]? = some e := ⟨_, List.getElem?_eq_getElem (by rw [HX.out.len]; exact hlt)⟩
        obtain ⟨X, hX⟩ : ∃ X, L[j]? = some X := ⟨_, List.getElem?_eq_getElem (by rw [HLn.out]; exact hlt)⟩
        obtain ⟨ts, rfl, ht⟩ := HL.out.2 j e X he hX
        obtain ⟨R1, Rn1, Rc1, R2, Rn2, Rc2, R3, Rn3, Rc3, R4, Rn4, Rc4, R5, Rn5, Rc5, rfl⟩ := ht.full
        obtain ⟨E, A1, c1, es1, B, d, gs, hp⟩ := hst.out
        have hts : L.take (j + 1) = L.take j ++ [X] := by rw [List.take_add_one, hX]; rfl
        have HND := Lib.hid (nodup_step hX)
        have H1 := Lib.hid (show ofK (L.take (j + 1)) = insKS X.key (ofK (L.take j)) by rw [hts, ofK_snoc])
        have H2 := Lib.hid (show ofT awT0 (L.take (j + 1)) = updT (ofT awT0 (L.take j)) X.key X.t by rw [hts, ofT_snoc])
        have H3 := Lib.hid (show ofG awT0 (L.take (j + 1)) = touchG (ofK (L.take j)) (ofT awT0 (L.take j)) (ofG awT0 (L.take j)) X.key by rw [hts, ofG_snoc])
        have hkl := ofK_len (L.take j)
        have hgl := ofG_len awT0 (L.take j)
        rw [List.length_take] at hkl hgl
        have HC := Lib.hid (hc j _ he)
        have HT := Lib.hid ht
        have PP := Lib.hid hp
        subst hA
        clear hc he hX ht hts hst
        generalize hKj : ofK (L.take j) = K at *
        generalize hTj : ofT awT0 (L.take j) = T at *
        generalize hGj : ofG awT0 (L.take j) = G at *
        generalize htw : decide (¬ ((L.take j).map CD.key).Nodup) = tw at *
        clear hKj hTj hGj htw
        have dx0 := row_cells HC.out hp.below 0 _ rfl
        simp only [Nat.add_zero] at dx0
        have hbx := hp.box
        have ex0 : wr.cell? ⟨x, 0, none⟩ = some (.slice A1 K.length c1) := by rw [cell_of_row wr _ 0 _ _ _ hbx]; rfl
        have ex1 : wr.cell? ⟨x, 1, none⟩ = some (.slice B G.length d) := by rw [cell_of_row wr _ 1 _ _ _ hbx]; rfl
        clear hbx hp
        go_upto_region 10 with fail
        go_cut [12, 13] (fun _ bb wx => bb = .bool (decide (X.key ∈ K)) ∧ RowKit.Hid (Below wr.heap.size wr wx))
        case first =>
          have exa : ∀ o, (wr.alloc o).cell? ⟨x, 0, none⟩ = some (.slice A1 K.length c1) := fun o => below_cell ((Below.refl _ wr).alloc (Nat.le_refl _) o) ex0
          have exb : ∀ o, (wr.alloc o).cell? ⟨x, 1, none⟩ = some (.slice B G.length d) := fun o => below_cell ((Below.refl _ wr).alloc (Nat.le_refl _) o) ex1
          have exc : ∀ o, (wr.alloc o).cell? ⟨b, off + j * 15, none⟩ = some (.string X.key) := fun o => below_cell ((Below.refl _ wr).alloc (Nat.le_refl _) o) dx0
          have HR1 := Lib.hid (fun k => rGet_any E (fun b => b < w.heap.size) A1 c1 es1 B G.length d K T X.key (wr.drewN k) (PP.out.rv.cells.below (below_drewN (Below.refl wr.heap.size wr) _)) (PP.out.rv.are.below (below_drewN (Below.refl wr.heap.size wr) _)) PP.out.rv.elt)
          have HR2 := Lib.hid (fun o k => rGet_any E (fun b => b < w.heap.size) A1 c1 es1 B G.length d K T X.key ((wr.alloc o).drewN k) (PP.out.rv.cells.below (below_drewN ((Below.refl wr.heap.size wr).alloc (Nat.le_refl _) o) _)) (PP.out.rv.are.below (below_drewN ((Below.refl wr.heap.size wr).alloc (Nat.le_refl _) o) _)) (fun b hb => Nat.lt_of_lt_of_le (PP.out.rv.elt b hb) (by show _ ≤ (wr.alloc o).heap.size; simp)))
          have ZB : RowKit.Hid (∀ w6 k, Below ((wr.alloc (.cells (numE 0 0).toArray 45)).drewN k).heap.size ((wr.alloc (.cells (numE 0 0).toArray 45)).drewN k) w6 → w6.heap[wr.heap.size]? = some (.cells (numE 0 0).toArray 45 (0, 0))) := fun w6 k hb => (hb.block wr.heap.size (by show _ < (wr.alloc _).heap.size; simp)).trans (heap_alloc_new wr _)
          go_region_law (go_simp; go_at_call 53; first
            | (refine (HR1.out 1).mono ?_; rintro e w6 ⟨ts6, rfl, ht6, hb6⟩; generalize getT K T X.key = t at ht6; obtain ⟨F1, g1, h1, F2, g2, h2, F4, g4, h4, F5, g5, h5, F6, g6, h6, rfl⟩ := ht6.full)
            | (refine (HR2.out _ 1).mono ?_; rintro e w6 ⟨ts6, rfl, ht6, hb6⟩; generalize getT K T X.key = t at ht6; obtain ⟨F1, g1, h1, F2, g2, h2, F4, g4, h4, F5, g5, h5, F6, g6, h6, rfl⟩ := ht6.full; have hy6 := ZB.out w6 1 hb6; have hzz := zbox hy6; obtain ⟨m0, m1, m2, m3, m4, m5, m6, m7, m8, m9, m10, m11, m12, m13, n0', n1', n2', n3', n4', n5', n6', n7', n8', n9', n10', n11', n12', n13'⟩ := hzz))
          all_goals
            have HB6 := Lib.hid hb6
            try have HY6 := Lib.hid hy6
            try clear hy6 m0 m1 m2 m3 m4 m5 m6 m7 m8 m9 m10 m11 m12 m13 n0' n1' n2' n3' n4' n5' n6' n7' n8' n9' n10' n11' n12' n13'
            clear ht6 hb6 exa exb exc ex0 ex1 dx0
            go_wp2
            go_meet
            first
              | (have hq := HY6.out; exact ⟨rfl, (below_drewN ((Below.refl wr.heap.size wr).alloc (Nat.le_refl _) _) 1).trans ((HB6.out.mono (by show _ ≤ (wr.alloc _).heap.size; simp)).trans ((set14 _ _ _ _ _ _ _ _ _ _ _ _ _ _ hq).2.below (Nat.le_trans (by show _ ≤ (wr.alloc _).heap.size; simp) HB6.out.size) (fun b hb => by rw [hb]; exact Nat.le_refl _)))⟩)
              | exact ⟨rfl, (below_drewN (Below.refl wr.heap.size wr) 1).trans (HB6.out.trans (((Below.refl _ w6).alloc (Nat.le_refl _) _).mono HB6.out.size))⟩
        case rest =>
          obtain ⟨rfl, B2⟩ := hcut
          clear ex0 ex1 dx0
          have P5 := Lib.hid (PP.out.next B2.out)
          have hbx := P5.out.box
          have ex0 : wc.cell? ⟨x, 0, none⟩ = some (.slice A1 K.length c1) := by rw [cell_of_row wc _ 0 _ _ _ hbx]; rfl
          have ex1 : wc.cell? ⟨x, 1, none⟩ = some (.slice B G.length d) := by rw [cell_of_row wc _ 1 _ _ _ hbx]; rfl
          have HBX := Lib.hid hbx
          have cx := row_cells HC.out P5.out.below
          have a0 := cx 0 _ rfl
          have a1 := cx 1 _ rfl
          have a2 := cx 2 _ rfl
          have a3 := cx 3 _ rfl
          have a4 := cx 4 _ rfl
          have a5 := cx 5 _ rfl
          have a6 := cx 6 _ rfl
          have a7 := cx 7 _ rfl
          have a8 := cx 8 _ rfl
          have a9 := cx 9 _ rfl
          have a10 := cx 10 _ rfl
          have a11 := cx 11 _ rfl
          have a12 := cx 12 _ rfl
          have a13 := cx 13 _ rfl
          have a14 := cx 14 _ rfl
          simp only [Nat.add_zero] at a0
          generalize hdk : decide (X.key ∈ K) = is at HND ⊢
          clear hbx cx hdk
          have HS := Lib.hid (fun k => rSet_any E (fun b => b < w.heap.size) A1 c1 es1 B d gs K T G X.key [.int .u8 X.t.kind, .bool X.t.v.char, .slice R1 Rn1 Rc1, .slice R2 Rn2 Rc2, .string X.t.f.name, .string X.t.f.result, .string X.t.f.left, .string X.t.f.right, .slice R3 Rn3 Rc3, .slice R4 Rn4 Rc4, .int .i64 X.t.f.version, .slice R5 Rn5 Rc5, .int .i64 X.t.n, .string X.t.s] X.t (wc.drewN k) (P5.out.rv.below (below_drewN (Below.refl wc.heap.size wc) _)) ((HT.out.below P5.out.below).below (below_drewN (Below.refl wc.heap.size wc) _)) (by omega) (by omega))
          have FZ : RowKit.Hid (∀ w7 : World, Below wc.heap.size wc w7 → w7.cell? ⟨x, 0, none⟩ = some (.slice A1 K.length c1) ∧ w7.cell? ⟨x, 1, none⟩ = some (.slice B G.length d) ∧ w7.frozen? ⟨x, 0, none⟩ = false ∧ w7.frozen? ⟨x, 1, none⟩ = false) := fun w7 hb7 => by
            have h0 := (hb7.block _ (lt_of_block HBX.out)).trans HBX.out
            exact ⟨below_cell hb7 ex0, below_cell hb7 ex1, fz_block h0, fz_block h0⟩
          go_upto_region 11 with fail
          go_cut [10] (fun v wx => v = .bool (tw || is) ∧ wc = wx)
          case first =>
            cases tw
            · go_wp2
              go_meet
              exact ⟨rfl, rfl⟩
            · go_wp2
              go_meet
              exact ⟨rfl, rfl⟩
          case rest =>
            obtain ⟨rfl, rfl⟩ := hcut
            go_upto_region 12 with fail
            go_region_law (go_simp; go_at_call 48; refine (HS.out 1).mono ?_; rintro e w5 ⟨A5, c5, es5, B5, d5, gs5, rfl, hv5, hb5⟩; have g5 := FZ.out w5 ((below_drewN (Below.refl wc.heap.size wc) 1).trans hb5); obtain ⟨g51, g52, g53, g54⟩ := g5)
            all_goals
              have PF : RowKit.Hid (RBx w ((w5.setCell ⟨x, 0, none⟩ (.slice A5 (insKS X.key K).length c5)).setCell ⟨x, 1, none⟩ (.slice B5 (touchG K T G X.key).length d5)) x (ofK (L.take (j + 1))) (ofT awT0 (L.take (j + 1))) (ofG awT0 (L.take (j + 1)))) := by
                show RBx _ _ _ _ _ _
                rw [H1.out, H2.out, H3.out]
                exact ⟨_, _, _, _, _, _, _, P5.out.ref (below_drewN (Below.refl wc.heap.size wc) 1) hv5 hb5 (w3 := (w5.setCell ⟨x, 0, none⟩ (.slice A5 (insKS X.key K).length c5)).setCell ⟨x, 1, none⟩ (.slice B5 (touchG K T G X.key).length d5)) rfl rfl rfl rfl⟩
              clear hv5 hb5 ex0 ex1 a0 a1 a2 a3 a4 a5 a6 a7 a8 a9 a10 a11 a12 a13 a14
              go_wp2
              go_roundw
              case rel => exact ⟨j + 1, by omega, by go_num, by rw [HND.out], PF.out⟩
              case measure => simp [RowKit.intOf]; omega
      · have hjn : j = n := by omega
        subst hjn
        have eT : L.take j = L := List.take_of_length_le (by rw [HLn.out]; exact Nat.le_refl _)
        rw [eT] at hst ⊢
        obtain ⟨E, A1, c1, es1, B, d, gs, hp⟩ := hst.out
        have hkl := ofK_len L
        have hgl := ofG_len awT0 L
        rw [HLn.out] at hkl hgl
        have HOF := Lib.hid (cOf_any A j c es L awT0 (Old w) (Old w) wr (HX.out.below hp.below) (HL.out.below hp.below) (fun b hb => Nat.lt_of_lt_of_le hb hp.below.size) HKL.out (by omega))
        obtain ⟨tw, htw⟩ : ∃ tw, tw = decide (¬ (L.map CD.key).Nodup) := ⟨_, rfl⟩
        rw [← htw]
        have HTW := Lib.hid htw
        have PP := Lib.hid hp
        generalize ofG awT0 L = G at *
        clear hst eT htw hp
        go_wp2_with fail
        refine HOF.out.mono ?_
        rintro e w2 (⟨hnd, rfl, hs2, hb2⟩ | ⟨hnd, rfl, hb2⟩)
        · have et : tw = false := by rw [HTW.out]; simp [hnd]
          subst et
          generalize ofK L = K at *
          generalize ofT awT0 L = T at *
          have P2 := Lib.hid (PP.out.next hb2)
          have S2 := Lib.hid hs2
          have hB2 := hb2.size
          have hbx := P2.out.box
          have ex0 : w2.cell? ⟨x, 0, none⟩ = some (.slice A1 K.length c1) := by rw [cell_of_row w2 _ 0 _ _ _ hbx]; rfl
          have EL := Lib.hid PP.out.rv.elt
          have XL := Lib.hid (lt_of_block PP.out.box)
          clear hnd hs2 hb2 hbx HOF
          have HAL := Lib.hid (fun w9 (hb : Below w2.heap.size w2 w9) => cAll_any _ (Old w) _ K T [] w9 (S2.out.below hb) (by omega))
          have HRC := Lib.hid (fun A9 c9 es9 D9 w9 hr he (hb : Below w2.heap.size w2 w9) => rcells_any A9 A1 K.length c9 K.length c1 es9 es1 (cellsOf K T) (cellsOf K T) D9 E (Old w) (Old w) w9 hr (P2.out.next hb).rv.cells he (P2.out.next hb).rv.are |>.mono (R' := fun e w' => e = .returned (.bool true) ∧ Below w9.heap.size w9 w') (by rintro e w' ⟨rfl, hb⟩; exact ⟨by simp, hb⟩))
          have HGR := Lib.hid (fun w9 (hb : Below w2.heap.size w2 w9) => cGroup_any _ (Old w) _ K T [] w9 (S2.out.below hb) (by simp))
          go_upto_region 16 with fail
          go_region_held3 (fun w' => w'.cell? ⟨x, 0, none⟩ = some (.slice A1 K.length c1))
            (first | (go_keep; done) | exact below_cell hb13 (by assumption) | exact below_cell hb12 (by assumption) | exact below_cell hb11 (by assumption))
            ((first
              | (go_at_call 56; refine (HAL.out _ (below_drewN (Below.refl w2.heap.size w2) _)).mono ?_; rintro e w11 ⟨A9, c9, es9, rfl, hr9, he9, hb11⟩)
              | (go_at_call 41; refine (HRC.out A9 c9 es9 _ _ hr9 he9 ((below_drewN (Below.refl w2.heap.size w2) _).trans hb11)).mono ?_; rintro e w12 ⟨rfl, hb12⟩)
              | (go_at_call 55; refine (HGR.out _ (((below_drewN (Below.refl w2.heap.size w2) _).trans hb11).trans (hb12.mono hb11.size))).mono ?_; rintro e w13 ⟨A10, c10, es10, rfl, -, -, hb13⟩)))
          have B13 : RowKit.Hid (Below w2.heap.size w2 w13) := ((below_drewN (Below.refl w2.heap.size w2) _).trans hb11).trans ((hb12.trans (hb13.mono hb12.size)).mono hb11.size)
          clear hb11 hb12 hb13 hr9 he9 ex0 HAL HRC HGR
          have hB13 := B13.out.size
          have P3 := Lib.hid (P2.out.next B13.out)
          have HUN := Lib.hid (cUndo_any _ (Old w) (Old w) _ K T [] Z m z zes M w13 (S2.out.below B13.out) (HZ.out.below P3.out.below) (HM.out.below P3.out.below) (fun b hb ho => by have := ho.1; have := PP.out.below.size; simp only [Old] at hb; omega) HKM.out (by omega) (by omega))
          go_wp2_with fail
          refine HUN.out.mono ?_
          rintro e w14 ⟨rfl, own', s14, g14⟩
          have P4 := Lib.hid (P3.out.beside g14.chg (fun b ho => ⟨fun hE => by have := EL.out b hE; have := ho.1; omega, fun e => by have := XL.out; have := ho.1; omega, Nat.le_trans PP.out.below.size ho.1⟩))
          have S4 := Lib.hid s14
          have hbx := P4.out.box
          have ex0 : w14.cell? ⟨x, 0, none⟩ = some (.slice A1 K.length c1) := by rw [cell_of_row w14 _ 0 _ _ _ hbx]; rfl
          have ex1 : w14.cell? ⟨x, 1, none⟩ = some (.slice B G.length d) := by rw [cell_of_row w14 _ 1 _ _ _ hbx]; rfl
          have HBX := Lib.hid hbx
          have HRU := Lib.hid (rUndo_any E (fun b => b < w.heap.size) (Old w) A1 c1 es1 B G.length d K T Z m z zes M w14 P4.out.rv.cells P4.out.rv.are P4.out.rv.elt P4.out.rv.dlt P4.out.rv.rise (HZ.out.below P4.out.below) (HM.out.below P4.out.below) (by omega) (by omega))
          have GL := Lib.hid S4.out.lt
          have HXO : RowKit.Hid (¬ own' x) := fun ho => by
            have := XL.out
            rcases g14.new x ho with h | h
            · have := h.1; omega
            · omega
          clear s14 g14 hbx HUN
          go_wp2_with fail
          refine HRU.out.mono ?_
          rintro e w15 ⟨A5, c5, es5, B5, d5, gs5, rfl, hv5, hb5⟩
          have hk5 := unK_len M.reverse K
          rw [List.length_reverse, HMn.out] at hk5
          generalize unK K M.reverse = K5 at *
          generalize unT T M.reverse = T5 at *
          have h0 := (hb5.block _ (lt_of_block HBX.out)).trans HBX.out
          have g51 := below_cell hb5 ex0
          have g52 := below_cell hb5 ex1
          have g53 : w15.frozen? ⟨x, 0, none⟩ = false := fz_block h0
          have g54 : w15.frozen? ⟨x, 1, none⟩ = false := fz_block h0
          have P6 := Lib.hid (P4.out.ref (Below.refl _ _) hv5 hb5 (w3 := (w15.setCell ⟨x, 0, none⟩ (.slice A5 K5.length c5)).setCell ⟨x, 1, none⟩ (.slice B5 0 d5)) rfl rfl rfl rfl)
          have hcx : Chg (fun b => b = x) w15 ((w15.setCell ⟨x, 0, none⟩ (.slice A5 K5.length c5)).setCell ⟨x, 1, none⟩ (.slice B5 0 d5)) := Chg.setCell (S := fun b => b = x) (p := ⟨x, 1, none⟩) (Chg.setCell (S := fun b => b = x) (p := ⟨x, 0, none⟩) (Chg.refl _ w15) (.inl rfl) _) (.inl rfl) _
          have S6 := Lib.hid ((S4.out.below hb5).chg hcx (fun b hb => ⟨fun ho => HXO.out (by rw [← hb]; exact ho), fun ho => by have := PP.out.xge; simp only [Old] at ho; omega⟩))
          clear hv5 hb5 h0 ex0 ex1 hcx HRU
          go_upto_region 20 with fail
          obtain ⟨w16, hw16⟩ : ∃ w16, w16 = (w15.setCell ⟨x, 0, none⟩ (.slice A5 K5.length c5)).setCell ⟨x, 1, none⟩ (.slice B5 0 d5) := ⟨_, rfl⟩
          rw [← hw16] at P6 S6 ⊢
          clear hw16 g51 g52 g53 g54
          have hbx := P6.out.box
          have ex0 : w16.cell? ⟨x, 0, none⟩ = some (.slice A5 K5.length c5) := by rw [cell_of_row w16 _ 0 _ _ _ hbx]; rfl
          clear hbx
          have HAL := Lib.hid (fun w9 (hb : Below w16.heap.size w16 w9) => cAll_any _ (Old w) _ K5 T5 [] w9 (S6.out.below hb) (by omega))
          have HRC := Lib.hid (fun A9 c9 es9 D9 w9 hr he (hb : Below w16.heap.size w16 w9) => rcells_any A9 A5 K5.length c9 K5.length c5 es9 es5 (cellsOf K5 T5) (cellsOf K5 T5) D9 _ (Old w) (Old w) w9 hr (P6.out.next hb).rv.cells he (P6.out.next hb).rv.are |>.mono (R' := fun e w' => e = .returned (.bool true) ∧ Below w9.heap.size w9 w') (by rintro e w' ⟨rfl, hb⟩; exact ⟨by simp, hb⟩))
          have HGR := Lib.hid (fun w9 (hb : Below w16.heap.size w16 w9) => cGroup_any _ (Old w) _ K5 T5 [] w9 (S6.out.below hb) (by simp))
          go_region_held3 (fun w' => w'.cell? ⟨x, 0, none⟩ = some (.slice A5 K5.length c5))
            (first | (go_keep; done) | exact below_cell hb14 (by assumption) | exact below_cell hb13 (by assumption) | exact below_cell hb12 (by assumption) | exact below_cell hb11 (by assumption))
            ((first
              | (go_at_call 56; refine (HAL.out _ (below_drewN (Below.refl w16.heap.size w16) _)).mono ?_; rintro e w21 ⟨A9, c9, es9, rfl, hr9, he9, hb11⟩)
              | (go_at_call 41; refine (HRC.out A9 c9 es9 _ _ hr9 he9 ((below_drewN (Below.refl w16.heap.size w16) _).trans hb11)).mono ?_; rintro e w22 ⟨rfl, hb12⟩)
              | (go_at_call 55; refine (HGR.out _ (((below_drewN (Below.refl w16.heap.size w16) _).trans hb11).trans (hb12.mono hb11.size))).mono ?_; rintro e w23 ⟨A10, c10, es10, rfl, -, -, hb13⟩)
              | (go_at_call 45; refine (awake19_any _).mono ?_; rintro e w24 ⟨rfl, hb14⟩)))
          go_wp2
          go_ret
          have h1 : Below w16.heap.size w16 w24 := (below_drewN (Below.refl w16.heap.size w16) _).trans (hb11.trans ((hb12.trans ((hb13.trans (hb14.mono hb13.size)).mono hb12.size)).mono hb11.size))
          exact ⟨rfl, P6.out.below.trans (h1.mono P6.out.below.size)⟩
        · have et : tw = true := by rw [HTW.out]; simp [hnd]
          subst et
          have B2 := Lib.hid (PP.out.below.trans (hb2.mono PP.out.below.size))
          clear hnd hb2 HOF
          go_wp2_with (go_at_call 45; refine (awake19_any _).mono ?_; rintro e w24 ⟨rfl, hb14⟩)
          go_ret
          exact ⟨rfl, B2.out.trans (hb14.mono B2.out.size)⟩
end Go.Proofs.Ytochdmbjlemfoaa
