/-
  The law NamesKnown (package anamnesislaw20): the walk. It takes no input; strconv's table of powers of ten lies as the library lays it. (Printed by tools/gen_e8.py.)
-/
import Derived.Test.YtjkofndnhmfnoaaDoorE7
namespace Go.Proofs.YtjkofndnhmfnoaaDoor
open Go Go.RowKit

def kn1 : St := ak0.bind nF (numT 2 0)
def kn2 : St := kn1.bind nL (numT 3 4)
def kn3 : St := kn2.save l2 [nF, nF, nG]
def kn4 : St := kn3.bind nG (numT 3 0)
def kn5 : St := kn4.restore l2 [nF, nG]
def txFG : ByteArray := ⟨#[70, 32, 71]⟩
theorem kn1_K : kn1.K.length ≤ 1000 := by decide +kernel
theorem kn1_G : kn1.G.length ≤ 1000 := by decide +kernel
theorem kn2_K : kn2.K.length ≤ 1000 := by decide +kernel
theorem kn2_G : kn2.G.length ≤ 1000 := by decide +kernel
theorem kn2_z : ∀ k ∈ kn2.K, k.size ≤ 1000000 := by decide +kernel
theorem kn2_F : (kn2.name nF).kind = 2 := by decide +kernel
theorem kn2_L : (kn2.name nL).kind = 3 := by decide +kernel
theorem kn2_Ln : (kn2.name nL).n = 4 := by decide +kernel
theorem kn2_Y : (kn2.name nY).kind = 0 := by decide +kernel
theorem kn2_fns : allN kn2 2 = [nF] := by decide +kernel
theorem kn2_vars : allN kn2 1 = [] := by decide +kernel
theorem kn2_no : ¬ lkey l2 ∈ kn2.K := by decide +kernel
theorem FFG_ok : ∀ x ∈ [nF, nF, nG], nameB x = true ∧ x.size ≤ 40 := by decide +kernel
theorem FG_ok : ∀ x ∈ [nF, nG], x.size ≤ 40 := by decide +kernel
theorem kn3_K : kn3.K.length ≤ 1000 := by decide +kernel
theorem kn3_G : kn3.G.length ≤ 1000 := by decide +kernel
theorem kn3_there : (decide (lkey l2 ∈ kn3.K) || ([] : List ByteArray).any (fun x => !nameB x)) = true := by decide +kernel
theorem kn3_bad : (decide (lkey l4 ∈ kn3.K) || [nQ].any (fun x => !nameB x)) = true := by decide +kernel
theorem nQ_ok : ∀ x ∈ [nQ], x.size ≤ 1000 := by decide +kernel
theorem kn3_F : (kn3.name nF).kind = 0 := by decide +kernel
theorem kn4_K : kn4.K.length ≤ 1000 := by decide +kernel
theorem kn4_G : kn4.G.length ≤ 1000 := by decide +kernel
theorem kn4_in : lkey l2 ∈ kn4.K := by decide +kernel
theorem kn4_s : (kn4.look (lkey l2)).s = txFG := by decide +kernel
theorem txFG_split : splitB txFG = [nF, nG] := by decide +kernel
theorem kn5_F : (kn5.name nF).kind = 2 := by decide +kernel
theorem kn5_G : (kn5.name nG).kind = 0 := by decide +kernel
theorem kn5_no : ¬ lkey l2 ∈ kn5.K := by decide +kernel
set_option maxRecDepth 100000 in
set_option maxHeartbeats 8000000 in
theorem namesKnown_any (w : World) (ht : Tab w) : Calls Tryd.prog 7 #[] w fun e w' => e = .returned (.bool true) ∧ Below w.heap.size w w' := by
  have HT := Lib.hid ht
  have HB := Lib.hid (fun (w : World) o => (Below.refl w.heap.size w).alloc (Nat.le_refl _) o)
  clear ht
  go_enter Tryd.func7, Tryd.ntmps7
  go_wp2_with fail
  refine (cNew_any (fun _ => False) ak0.T w (fun _ h => h.elim)).mono ?_
  rintro e w1 ⟨rfl, hs1, hb1⟩
  have S1 : RowKit.Hid (KX w w1 (w.heap.size + 2) ak0 (fun _ => False)) := KX.start hs1 hb1
  obtain ⟨r, hr⟩ : ∃ r, r = w.heap.size + 2 := ⟨_, rfl⟩
  rw [← hr] at S1 ⊢
  clear hs1 hb1 hr
  go_wp2_with fail
  obtain ⟨own, D, hs, hn, hd⟩ := S1.out.ex
  refine (bind_good own D r ak0 nF _ (numT 2 0) w1 hs (by decide) (by decide) (by decide) (numT_is w1 D 2 0) nF_name rfl).mono ?_
  rintro e w2 ⟨rfl, ha⟩
  have S2 : RowKit.Hid (KX w w2 r kn1 (fun _ => False)) := S1.out.afterF (fun b hb => (hn b hb).1) ha
  clear hs hn hd ha S1 own D
  go_wp2_with fail
  obtain ⟨own, D, hs, hn, hd⟩ := S2.out.ex
  refine (bind_good own D r kn1 nL _ (numT 3 4) w2 hs (by decide) (Nat.le_trans kn1_G (by decide)) (Nat.le_trans kn1_K (by decide)) (numT_is w2 D 3 4) nL_name rfl).mono ?_
  rintro e w3 ⟨rfl, ha⟩
  have S3 : RowKit.Hid (KX w w3 r kn2 (fun _ => False)) := S2.out.afterF (fun b hb => (hn b hb).1) ha
  clear hs hn hd ha S2 own D
  go_wp2_with fail
  refine (scalar02_any 5 w3).mono ?_
  rintro e w4 ⟨x3, rfl, -, hb⟩
  have S4 := Lib.hid (S3.out.on hb)
  clear hb S3
  go_wp2_with fail
  obtain ⟨own, D, hs, hn, hd⟩ := S4.out.ex
  refine (assign_syntax own D r kn2 nF _ _ w4 hs (by decide) nF_name (.inl kn2_F)).mono ?_
  rintro e w5 ⟨rfl, hb⟩
  have S5 := Lib.hid (S4.out.on hb)
  clear hs hn hd hb S4 own D
  go_wp2_with fail
  refine (scalar02_any 5 w5).mono ?_
  rintro e w6 ⟨x5, rfl, -, hb⟩
  have S6 := Lib.hid (S5.out.on hb)
  clear hb S5
  go_wp2_with fail
  obtain ⟨own, D, hs, hn, hd⟩ := S6.out.ex
  refine (assign_syntax own D r kn2 nL _ _ w6 hs (by decide) nL_name (.inr kn2_L)).mono ?_
  rintro e w7 ⟨rfl, hb⟩
  have S7 := Lib.hid (S6.out.on hb)
  clear hs hn hd hb S6 own D
  go_wp2_with fail
  refine (scalar02_any 5 w7).mono ?_
  rintro e w8 ⟨x7, rfl, -, hb⟩
  have S8 := Lib.hid (S7.out.on hb)
  clear hb S7
  go_wp2_with fail
  refine (assign_bad r nN false none 0 0 _ 1 1 w8 (by decide) nN_name).mono ?_
  rintro e w9 ⟨rfl, hb⟩
  have S9 := Lib.hid (S8.out.on hb)
  clear hb S8
  go_wp2_with fail
  refine (assign_wrong r nX w9 (by decide) nX_name).mono ?_
  rintro e w10 ⟨rfl, hb⟩
  have S10 := Lib.hid (S9.out.on hb)
  clear hb S9
  go_wp2_with fail
  refine (bind_wrong r nX w10 (by decide) nX_name).mono ?_
  rintro e w11 ⟨rfl, hb⟩
  have S11 := Lib.hid (S10.out.on hb)
  clear hb S10
  go_wp2_with fail
  obtain ⟨own, D, hs, hn, hd⟩ := S11.out.ex
  have HVL := Lib.hid (value_label own D r kn2 nL w11 hs (by decide) kn2_L)
  rw [kn2_Ln] at HVL
  refine HVL.out.mono ?_
  rintro e w12 ⟨xv, rfl, hr, hb⟩
  obtain ⟨-, hx⟩ := hr.one
  obtain ⟨g, oo, hg, -, hglt, hc⟩ := hx (by decide)
  have hc0 := hc 0 4 rfl
  injection hg with hg
  injection hg with hg1 hg2 hg3
  subst hg1 hg2
  have V12 : RowKit.Hid (w12.cell? ⟨xv, 0, none⟩ = some (.int .i64 4)) := hc0
  have S12 := Lib.hid (S11.out.on hb)
  clear hs hn hd hb S11 own D HVL hr hx hc hc0
  go_wp2_with fail
  obtain ⟨bv, hbv⟩ : ∃ bv, bv = w12.heap.size := ⟨_, rfl⟩
  have SV := Lib.hid (S12.out.on (HB.out w12 (.cells #[.bool false, .slice none 0 0, .slice (some ⟨xv, 0, none⟩) 1 1] 27)))
  have BX : RowKit.Hid ((w12.alloc (.cells #[.bool false, .slice none 0 0, .slice (some ⟨xv, 0, none⟩) 1 1] 27)).heap[bv]? = some (.cells #[.bool false, .slice none 0 0, .slice (some ⟨xv, 0, none⟩) 1 1] 27 (0, 0))) := by
    show _ = _
    rw [hbv]
    exact heap_alloc_new _ _
  have VX := Lib.hid (below_cell (HB.out w12 (.cells #[.bool false, .slice none 0 0, .slice (some ⟨xv, 0, none⟩) 1 1] 27)) V12.out)
  obtain ⟨wv, hwv⟩ : ∃ wv, wv = w12.alloc (.cells #[.bool false, .slice none 0 0, .slice (some ⟨xv, 0, none⟩) 1 1] 27) := ⟨_, rfl⟩
  rw [← hwv] at SV BX VX ⊢
  rw [← hbv]
  clear hwv hbv S12 V12
  obtain ⟨own, D, hs, hn, hd⟩ := SV.out.ex
  refine (value_none own D r kn2 nF wv hs (by decide) (by rw [kn2_F]; decide)).mono ?_
  rintro e w13 ⟨rfl, hb⟩
  have S13 := Lib.hid ((SV.out.on hb).on (HB.out w13 (.cells #[.bool false, .slice none 0 0, .slice none 0 0] 27)))
  have BX2 := Lib.hid ((Below.heap_alloc w13 (.cells #[.bool false, .slice none 0 0, .slice none 0 0] 27) _ (Nat.lt_of_lt_of_le (lt_of_block BX.out) hb.size)).trans ((hb.block _ (lt_of_block BX.out)).trans BX.out))
  have VX2 := Lib.hid (below_cell (HB.out w13 (.cells #[.bool false, .slice none 0 0, .slice none 0 0] 27)) (below_cell hb VX.out))
  clear hs hn hd hb SV BX VX own D
  go_wp2_with fail
  obtain ⟨own, D, hs, hn, hd⟩ := S13.out.ex
  refine (value_none own D r kn2 nY _ hs (by decide) (by rw [kn2_Y]; decide)).mono ?_
  rintro e w14 ⟨rfl, hb⟩
  have S14 := Lib.hid ((S13.out.on hb).on (HB.out w14 (.cells #[.bool false, .slice none 0 0, .slice none 0 0] 27)))
  have BX3 := (Below.heap_alloc w14 (.cells #[.bool false, .slice none 0 0, .slice none 0 0] 27) _ (Nat.lt_of_lt_of_le (lt_of_block BX2.out) hb.size)).trans ((hb.block _ (lt_of_block BX2.out)).trans BX2.out)
  have VX3 := below_cell (HB.out w14 (.cells #[.bool false, .slice none 0 0, .slice none 0 0] 27)) (below_cell hb VX2.out)
  obtain ⟨y0, y1, y2⟩ := box3 BX3
  clear hs hn hd hb S13 BX2 VX2 BX3 y0 y1 own D
  go_wp2_with fail
  obtain ⟨own, D, hs, hn, hd⟩ := S14.out.ex
  have HFN := Lib.hid (fns_any own D r kn2 _ hs (Nat.le_trans kn2_K (by decide)) kn2_z)
  rw [kn2_fns] at HFN
  refine HFN.out.mono ?_
  rintro e w15 ⟨A3, c3, rfl, hr3, hb⟩
  have S15 := Lib.hid (S14.out.on hb)
  have R3 := Lib.hid hr3
  clear hs hn hd hb hr3 S14 HFN VX3 y2 own D
  go_wp2_with fail
  refine (texts20_any A3 _ 1 c3 1 1 [nF] [nF] _ _ _ (R3.out.below (HB.out w15 _)) (rd_lit [nF] _ rfl (by decide))).mono ?_
  rintro e w16 ⟨rfl, q, rfl⟩
  have S16 := Lib.hid ((S15.out.on (HB.out w15 (.cells #[.string nF] 9))).on (below_drewN (Below.refl _ _) q))
  have hdt : decide ([nF] = [nF]) = true := decide_eq_true rfl
  rw [hdt]
  clear S15 R3 hdt
  go_wp2_with fail
  obtain ⟨own, D, hs, hn, hd⟩ := S16.out.ex
  have HVA := Lib.hid (vars_any own D r kn2 _ hs (Nat.le_trans kn2_K (by decide)) kn2_z)
  rw [kn2_vars] at HVA
  refine HVA.out.mono ?_
  rintro e w17 ⟨A5, c5, rfl, -, hb⟩
  have S17 := Lib.hid (S16.out.on hb)
  clear hs hn hd hb S16 HVA own D
  go_wp2_with fail
  refine (save_high r 1000 _ w17 (by decide)).mono ?_
  rintro e w18 ⟨rfl, rfl⟩
  have S18 := S17
  clear S17
  go_wp2_with fail
  refine (save_ok w r kn2 2 49 l2 _ 3 3 [nF, nF, nG] _ _ (S18.out.one _) HT.out (by decide) (by decide) l2_it (by decide) (rd_one (rd_lit [nF, nF, nG] _ rfl (by decide))) (by decide) FFG_ok kn2_K kn2_G kn2_no).mono ?_
  rintro e w19 ⟨rfl, hk, -⟩
  have S19 : RowKit.Hid (KX w w19 r kn3 (fun _ => False)) := hk.fewer (fun _ h => h.elim)
  clear hk S18
  go_wp2_with fail
  refine (save_err w r kn3 2 49 l2 none 0 0 [] _ (fun _ => False) w19 S19.out HT.out (by decide) (by decide) l2_it (by decide) (Rd.nil _ _ _) (by decide) (by simp) kn3_there).mono ?_
  rintro e w20 ⟨rfl, hb⟩
  have S20 := Lib.hid (S19.out.on hb)
  clear hb S19
  go_wp2_with fail
  refine (save_err w r kn3 4 49 l4 _ 1 1 [nQ] _ _ _ (S20.out.on (HB.out w20 _)) HT.out (by decide) (by decide) l4_it (by decide) (rd_lit [nQ] _ rfl (by decide)) (by decide) nQ_ok kn3_bad).mono ?_
  rintro e w21 ⟨rfl, hb⟩
  have S21 := Lib.hid ((S20.out.on (HB.out w20 _)).on hb)
  clear hb S20
  go_wp2_with fail
  obtain ⟨own, D, hs, hn, hd⟩ := S21.out.ex
  refine (getN_any own D r kn3.K kn3.T kn3.G nF w21 hs (by decide)).mono ?_
  rintro e w22 ⟨ts, rfl, ht, hb⟩
  obtain ⟨t, htt⟩ : ∃ t, t = getN kn3.K kn3.T nF := ⟨_, rfl⟩
  rw [← htt] at ht
  have hkd : t.kind = 0 := by rw [htt]; exact kn3_F
  obtain ⟨A1, n1, c1, A2, n2, c2, A3, n3, c3, A4, n4, c4, A5, n5, c5, rfl⟩ := ht.full
  rw [hkd]
  have hfk := field_kind w22 0 t.n t.f.version t.v.char A1 A2 A3 A4 A5 n1 c1 n2 c2 n3 c3 n4 c4 n5 c5 t.f.name t.f.result t.f.left t.f.right t.s
  have S22 := Lib.hid (S21.out.on hb)
  clear hs hn hd hb ht hkd htt S21 own D
  go_wp2_with fail
  obtain ⟨own, D, hs, hn, hd⟩ := S22.out.ex
  refine (bind_good own D r kn3 nG _ (numT 3 0) w22 hs (by decide) (Nat.le_trans kn3_G (by decide)) (Nat.le_trans kn3_K (by decide)) (numT_is w22 D 3 0) nG_name rfl).mono ?_
  rintro e w23 ⟨rfl, ha⟩
  have S23 : RowKit.Hid (KX w w23 r kn4 (fun _ => False)) := S22.out.afterF (fun b hb => (hn b hb).1) ha
  clear hs hn hd ha S22 own D
  go_wp2_with fail
  refine (restore_ok w r kn4 2 49 l2 _ [nF, nG] txFG _ S23.out HT.out (by decide) (by decide) l2_it (by decide) kn4_K kn4_G kn4_in kn4_s (by decide) txFG_split (by decide) FG_ok).mono ?_
  rintro e w24 ⟨rfl, hk, -⟩
  have S24 : RowKit.Hid (KX w w24 r kn5 (fun _ => False)) := hk
  clear hk S23
  go_wp2_with fail
  obtain ⟨own, D, hs, hn, hd⟩ := S24.out.ex
  refine (getN_any own D r kn5.K kn5.T kn5.G nF w24 hs (by decide)).mono ?_
  rintro e w25 ⟨ts, rfl, ht, hb⟩
  obtain ⟨t, htt⟩ : ∃ t, t = getN kn5.K kn5.T nF := ⟨_, rfl⟩
  rw [← htt] at ht
  have hkd : t.kind = 2 := by rw [htt]; exact kn5_F
  obtain ⟨A1, n1, c1, A2, n2, c2, A3, n3, c3, A4, n4, c4, A5, n5, c5, rfl⟩ := ht.full
  rw [hkd]
  have hfk := field_kind w25 2 t.n t.f.version t.v.char A1 A2 A3 A4 A5 n1 c1 n2 c2 n3 c3 n4 c4 n5 c5 t.f.name t.f.result t.f.left t.f.right t.s
  have S25 := Lib.hid (S24.out.on hb)
  clear hs hn hd hb ht hkd htt S24 own D
  go_wp2_with fail
  obtain ⟨own, D, hs, hn, hd⟩ := S25.out.ex
  refine (getN_any own D r kn5.K kn5.T kn5.G nG w25 hs (by decide)).mono ?_
  rintro e w26 ⟨ts, rfl, ht, hb⟩
  obtain ⟨t, htt⟩ : ∃ t, t = getN kn5.K kn5.T nG := ⟨_, rfl⟩
  rw [← htt] at ht
  have hkd : t.kind = 0 := by rw [htt]; exact kn5_G
  obtain ⟨A1, n1, c1, A2, n2, c2, A3, n3, c3, A4, n4, c4, A5, n5, c5, rfl⟩ := ht.full
  rw [hkd]
  have hfk := field_kind w26 0 t.n t.f.version t.v.char A1 A2 A3 A4 A5 n1 c1 n2 c2 n3 c3 n4 c4 n5 c5 t.f.name t.f.result t.f.left t.f.right t.s
  have S26 := Lib.hid (S25.out.on hb)
  clear hs hn hd hb ht hkd htt S25 own D
  go_wp2_with fail
  refine (restore_none w r kn5 2 49 l2 _ w26 S26.out HT.out (by decide) (by decide) l2_it (by decide) kn5_no).mono ?_
  rintro e w27 ⟨rfl, hb⟩
  have S27 := Lib.hid (S26.out.on hb)
  clear hb S26
  go_wp2_with fail
  refine (restore_low r (-1) w27 (by decide)).mono ?_
  rintro e w28 ⟨rfl, rfl⟩
  have S28 := S27
  clear S27
  go_wp2_with fail
  refine (bind_nil nX w28).mono ?_
  rintro e w29 ⟨rfl, hb⟩
  have S29 := Lib.hid (S28.out.on hb)
  clear hb S28
  go_wp2_with fail
  refine (save_nil _ _ w29).mono ?_
  rintro e w30 ⟨rfl, rfl⟩
  have S30 := S29
  clear S29
  go_wp2_with fail
  refine (restore_nil _ w30).mono ?_
  rintro e w31 ⟨rfl, rfl⟩
  have S31 := S30
  clear S30
  go_wp2_with fail
  refine (scalar02_any 1 w31).mono ?_
  rintro e w32 ⟨x31, rfl, -, hb⟩
  have S32 := Lib.hid (S31.out.on hb)
  clear hb S31
  go_wp2_with fail
  refine (assign_nil nX false none 0 0 _ 1 1 w32).mono ?_
  rintro e w33 ⟨rfl, hb⟩
  have S33 := Lib.hid (S32.out.on hb)
  clear hb S32
  go_wp2_with fail
  refine (vars_nil w33).mono ?_
  rintro e w34 ⟨rfl, rfl⟩
  have S34 := S33
  clear S33
  go_wp2_with fail
  refine (getN_nil nX w34 (by decide)).mono ?_
  rintro e w35 ⟨rfl, hb⟩
  unfold numE
  have hfk := field_kind w35 0 0 0 false none none none none none 0 0 0 0 0 0 0 0 0 0 ⟨#[]⟩ ⟨#[]⟩ ⟨#[]⟩ ⟨#[]⟩ ⟨#[]⟩
  have S35 := Lib.hid (S34.out.on hb)
  clear hb S34
  go_wp2_with fail
  refine (is_any ⟨#[]⟩ w35 (by decide)).mono ?_
  rintro e w36 ⟨rfl, hb⟩
  have S36 := Lib.hid (S35.out.on hb)
  clear hb S35
  rw [n0_name]
  go_wp2_with fail
  refine (is_any nN w36 (by decide)).mono ?_
  rintro e w37 ⟨rfl, hb⟩
  have S37 := Lib.hid (S36.out.on hb)
  clear hb S36
  rw [nN_name]
  go_wp2_with fail
  refine (is_any n17 w37 (by decide)).mono ?_
  rintro e w38 ⟨rfl, hb⟩
  have S38 := Lib.hid (S37.out.on hb)
  clear hb S37
  rw [n17_name]
  go_wp2_with fail
  refine (is_any n16 w38 (by decide)).mono ?_
  rintro e w39 ⟨rfl, hb⟩
  have S39 := Lib.hid (S38.out.on hb)
  clear hb S38
  rw [n16_name]
  go_wp2_with fail
  refine (awake20_any w39 (S39.out.tab HT.out)).mono ?_
  rintro e w40 ⟨rfl, hb⟩
  have B40 := Lib.hid (S39.out.on hb).below
  clear hb S39
  go_wp2
  go_ret
  exact ⟨rfl, B40.out⟩
end Go.Proofs.YtjkofndnhmfnoaaDoor
