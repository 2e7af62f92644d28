/-
  The law FnsKnown (package anamnesislaw21): the walk. It takes no input.
-/
import Derived.Test.YtjkofndnhmfnoaaN21
namespace Go.Proofs.Ytjkofndnhmfnoaa
open Go Go.RowKit

theorem KS.scalar {w0 w1 w2 : World} {r x : Nat} {s : St} {n : Int} (h : KS w0 w1 r s) (hr : Rd w2 (fun b => w1.heap.size ≤ b) 1 (some ⟨x, 0, none⟩) 1 1 (intRows .i64 [n])) (hb : Below w1.heap.size w1 w2) :
    ∃ own D, SS w2 own D r s ∧ VIs w2 D [.bool false, .slice none 0 0, .slice (some ⟨x, 0, none⟩) 1 1] ⟨false, [], [n]⟩ ∧ ∀ b, own b → w0.heap.size ≤ b := by
  obtain ⟨own, D, h1, h2⟩ := h.ex
  have hz := hb.size
  refine ⟨own, fun b => D b ∨ (w1.heap.size ≤ b ∧ b < w2.heap.size), (SK.below h1 hb).wider (fun b h => .inl h) (fun b hd => ?_) (fun b hd => ?_), ⟨none, 0, 0, some ⟨x, 0, none⟩, 1, 1, rfl, Rd.nil _ _ _, hr.mono (fun b h1 h2 => .inr ⟨h2, h1⟩) (by decide)⟩, h2⟩
  · rcases hd with hd | hd
    · exact Nat.lt_of_lt_of_le (SK.dlt h1 b hd) hz
    · exact hd.2
  · rcases hd with hd | hd
    · exact SK.dis h1 b hd
    · intro ho
      have := SK.lt h1 b ho
      omega
/-- The loop's state. -/
def KL (w0 wr : World) (r i : Nat) : Prop := ∃ s H, KS w0 wr r s ∧ FM nL s H (i : Int) (10 + i) ∧ DH H i
set_option maxRecDepth 100000 in
set_option maxHeartbeats 8000000 in
theorem fnsKnown_any (w : World) : Calls Try.prog 4 #[] w fun e w' => e = .returned (.bool true) ∧ Below w.heap.size w w' := by
  have HB := Lib.hid (fun (w : World) o => (Below.refl w.heap.size w).alloc (Nat.le_refl _) o)
  go_enter Try.func4, Try.ntmps4
  go_wp2_with fail
  refine (cNew_any (fun _ => False) wk0.T w (fun _ h => h.elim)).mono ?_
  rintro e w1 ⟨rfl, hs1, hb1⟩
  have S1 : RowKit.Hid (KS w w1 (w.heap.size + 2) wk0) := ⟨⟨_, _, hs1, fun b hb => hb.1⟩, hb1⟩
  obtain ⟨r, hr⟩ : ∃ r, r = w.heap.size + 2 := ⟨_, rfl⟩
  rw [← hr] at S1 ⊢
  clear hs1 hb1 hr
  go_wp2_with fail
  refine (scalar02_any 5 w1).mono ?_
  rintro e w2 ⟨x, rfl, hr, hb⟩
  have S2 := Lib.hid (S1.out.on hb)
  have HX := Lib.hid (S1.out.scalar hr hb)
  clear hr hb S1
  go_wp2_with fail
  obtain ⟨own, D, hs, hv, hn⟩ := HX.out
  refine (assign_ok own D r wk0 nX (some ⟨x, 0, none⟩) 1 5 w2 hs (by decide) (by decide) (by decide) nX_name (by rw [wk0_X]; decide) hv).mono ?_
  rintro e w3 ⟨rfl, ha⟩
  have S3 : RowKit.Hid (KS w w3 r kw1) := S2.out.after hn ha
  clear hs hv hn ha S2 HX own D
  go_wp2_with fail
  obtain ⟨own, D, hs, hn⟩ := S3.out.ex
  refine (bind_good own D r kw1 nL _ (numT 3 0) w3 hs (by decide) (Nat.le_trans kw1_G (by decide)) (Nat.le_trans kw1_K (by decide)) (numT_is w3 D 3 0) nL_name rfl).mono ?_
  rintro e w4 ⟨rfl, ha⟩
  have S4 : RowKit.Hid (KS w w4 r kw2) := S3.out.after hn ha
  clear hs hn ha S3 own D
  go_wp2_with fail
  obtain ⟨own, D, hs, hn⟩ := S4.out.ex
  refine (fix_dom own D r kw2 nX _ hs (by decide) (Nat.le_trans kw2_K (by decide)) kw2_z nX_name (.inl kw2_X)).mono ?_
  rintro e w5 ⟨rfl, hb⟩
  have S5 := Lib.hid (S4.out.on hb)
  clear hs hn hb S4 own D
  go_wp2_with fail
  obtain ⟨own, D, hs, hn⟩ := S5.out.ex
  refine (fix_dom own D r kw2 nL _ hs (by decide) (Nat.le_trans kw2_K (by decide)) kw2_z nL_name (.inr kw2_L)).mono ?_
  rintro e w6 ⟨rfl, hb⟩
  have S6 := Lib.hid (S5.out.on hb)
  clear hs hn hb S5 own D
  go_wp2_with fail
  obtain ⟨own, D, hs, hn⟩ := S6.out.ex
  refine (fix_bad own D r kw2 nQ _ hs (by decide) nQ_name).mono ?_
  rintro e w7 ⟨rfl, hb⟩
  have S7 := Lib.hid (S6.out.on hb)
  clear hs hn hb S6 own D
  go_wp2_with fail
  obtain ⟨own, D, hs, hn⟩ := S7.out.ex
  refine (erase_ok own D r kw2 nX _ hs (by decide) (Nat.le_trans kw2_G (by decide)) (Nat.le_trans kw2_K (by decide)) nX_name (.inl kw2_X)).mono ?_
  rintro e w8 ⟨rfl, ha⟩
  have S8 : RowKit.Hid (KS w w8 r (kw3)) := S7.out.after hn ha
  clear hs hn ha S7 own D
  go_wp2_with fail
  obtain ⟨own, D, hs, hn⟩ := S8.out.ex
  refine (erase_none own D r kw3 nX _ hs (by decide) (by rw [kw3_X]; decide)).mono ?_
  rintro e w9 ⟨rfl, hb⟩
  have S9 := Lib.hid (S8.out.on hb)
  clear hs hn hb S8 own D
  go_wp2_with fail
  obtain ⟨own, D, hs, hn⟩ := S9.out.ex
  refine (erase_none own D r kw3 nL _ hs (by decide) (by rw [kw3_L]; decide)).mono ?_
  rintro e w10 ⟨rfl, hb⟩
  have S10 := Lib.hid (S9.out.on hb)
  clear hs hn hb S9 own D
  go_wp2_with fail
  have SA := Lib.hid (S10.out.on (HB.out w10 (.cells #[.int .i64 1] 3)))
  obtain ⟨own, D, hs, hn⟩ := SA.out.ex
  refine (setStop_none own D r kw3 nY _ _ hs (by decide) (.inr (by rw [kw3_Y]; decide))).mono ?_
  rintro e w11 ⟨rfl, hb⟩
  have S11 := Lib.hid (SA.out.on hb)
  clear hs hn hb SA S10 own D
  have K11 : RowKit.Hid (KL w w11 r 0) := ⟨kw3, [], S11.out, kw3_FM, DH.zero⟩
  clear S11
  go_wp2_with fail
  go_loopw [2] (fun i wr => ∃ j : Nat, j ≤ 50 ∧ i = .int .i64 (j : Int) ∧ RowKit.Hid (KL w wr r j)) (fun i _ => 50 - (RowKit.intOf i).toNat)
  case atStart => exact ⟨0, by omega, rfl, K11.out⟩
  case round =>
    clear K11
    obtain ⟨j, hj, rfl, hst⟩ := hrel
    obtain ⟨s, H, hks, hfm, hdh⟩ := hst.out
    have KS1 := Lib.hid hks
    have FM1 := Lib.hid hfm
    have DH1 := Lib.hid hdh
    clear hks hfm hdh hst
    by_cases hlt : j < 50
    · have q1 : (j : Int) < 50 := by omega
      have hd3 : ¬ 9223372036854775807 < 1 + (d3 (j : Int)).size := by
        have : (d3 (j : Int)).size = 3 := rfl
        omega
      have HDN : RowKit.Hid ((⟨#[70]⟩ : ByteArray) ++ d3 (j : Int) = dn (j : Int)) := rfl
      go_wp2_with fail
      refine (digits20_any (j : Int) _ (by omega) (by omega)).mono ?_
      rintro e w21 ⟨rfl, hb⟩
      have KS2 := Lib.hid (KS1.out.on hb)
      clear hb KS1
      go_wp2_with fail
      rw [HDN.out]
      obtain ⟨own, D, hs, hn⟩ := KS2.out.ex
      have hF := fix_ok own D r s (dn (j : Int)) w21 hs (by rw [dn_size]; decide) (Nat.le_trans FM1.out.lK (by omega)) (fun k hk => Nat.le_trans (FM1.out.zK k hk) (by decide)) (dn_name hlt) (Nat.le_trans FM1.out.lG (by omega)) (Nat.le_trans FM1.out.lK (by omega)) (.inl ⟨FM1.out.out (DH1.out.out hlt) (dn_L _), by rw [FM1.out.len, DH1.out.len]; exact hlt⟩) (by rw [FM1.out.lst]; omega)
      refine hF.mono ?_
      rintro e w22 ⟨rfl, ha⟩
      have K2 : RowKit.Hid (KL w w22 r (j + 1)) := ⟨_, _, KS2.out.after hn ha, by have h := FM1.out.fix (dn_name hlt) (by rw [dn_size]; decide); push_cast; exact h, DH1.out.next hlt⟩
      clear hs hn ha hF KS2 own D hd3
      go_wp2
      go_roundw
      case rel => exact ⟨j + 1, by omega, by go_num, K2.out⟩
      case measure => simp [RowKit.intOf]; omega
    · have hje : j = 50 := by omega
      subst hje
      have S1 := KS1
      have EL : RowKit.Hid (lastV s = 50) := FM1.out.lst
      have HKs : RowKit.Hid (s.K.length ≤ 180) := FM1.out.lK
      have HGs : RowKit.Hid (s.G.length ≤ 180) := FM1.out.lG
      have HZs : RowKit.Hid (∀ k ∈ s.K, k.size ≤ 1000000) := fun k hk => Nat.le_trans (FM1.out.zK k hk) (by decide)
      have HGk : RowKit.Hid ((s.name nG).kind = 0) := FM1.out.out (dn_short rfl DH1.out) (by decide)
      have HLn : RowKit.Hid (50 ≤ (allN s 2).length) := by
        show _ ≤ _
        rw [FM1.out.len, DH1.out.len]
        exact Nat.le_refl _
      have H7 : RowKit.Hid ((s.name n007).kind = 2) := FM1.out.in_ ((DH1.out.mem _).2 ⟨7, by decide, dn7.symm⟩)
      have FM2 := Lib.hid (FM1.out.fix n007_name (by decide))
      have H0 : RowKit.Hid (((s.fix n007).name n000).kind = 2) := FM2.out.in_ ((mem_insKS _ _ _).2 (.inr ((DH1.out.mem _).2 ⟨0, by decide, dn0.symm⟩)))
      have HK2 : RowKit.Hid ((s.fix n007).K.length ≤ 183) := FM2.out.lK
      have HG2 : RowKit.Hid ((s.fix n007).G.length ≤ 183) := FM2.out.lG
      clear KS1 FM1 DH1 FM2
      obtain ⟨w1, hw1⟩ : ∃ w1, w1 = wr := ⟨_, rfl⟩
      rw [← hw1] at S1 ⊢
      clear hw1
      go_wp2_with fail
      obtain ⟨own, D, hs, hn⟩ := S1.out.ex
      refine (fix_full own D r s nG _ hs (by decide) (Nat.le_trans HKs.out (by decide)) HZs.out nG_name HGk.out HLn.out).mono ?_
      rintro e w2 ⟨rfl, hb⟩
      have S2 := Lib.hid (S1.out.on hb)
      clear hs hn hb S1 own D
      go_wp2_with fail
      obtain ⟨own, D, hs, hn⟩ := S2.out.ex
      refine (fix_ok own D r s n007 _ hs (by decide) (Nat.le_trans HKs.out (by decide)) HZs.out n007_name (Nat.le_trans HGs.out (by decide)) (Nat.le_trans HKs.out (by decide)) (.inr H7.out) (by rw [EL.out]; decide)).mono ?_
      rintro e w3 ⟨rfl, ha⟩
      have S3 : RowKit.Hid (KS w w3 r (s.fix n007)) := S2.out.after hn ha
      clear hs hn ha S2 own D
      go_wp2_with fail
      obtain ⟨own, D, hs, hn⟩ := S3.out.ex
      refine (getN_any own D r (s.fix n007).K (s.fix n007).T (s.fix n007).G n007 _ hs (by decide)).mono ?_
      rintro e w4 ⟨ts, rfl, ht, hb⟩
      obtain ⟨t, htt⟩ : ∃ t, t = getN (s.fix n007).K (s.fix n007).T n007 := ⟨_, rfl⟩
      rw [← htt] at ht
      have hv : t.f.version = 51 := by
        rw [htt]
        exact (congrArg (fun z : TD => z.f.version) (fix_name s n007)).trans (by show lastV s + 1 = 51; rw [EL.out]; rfl)
      obtain ⟨A1, n1, c1, A2, n2, c2, A3, n3, c3, A4, n4, c4, A5, n5, c5, rfl⟩ := ht.full
      rw [hv]
      have f1 := field_func w4 t.kind t.n 51 t.v.char A1 A2 A3 A4 A5 n1 c1 n2 c2 n3 c3 n4 c4 n5 c5 t.f.name t.f.result t.f.left t.f.right t.s
      have f2 := field_ver w4 51 A3 A4 n3 c3 n4 c4 t.f.name t.f.result t.f.left t.f.right
      have S4 := Lib.hid (S3.out.on hb)
      clear hs hn hb ht hv htt S3 own D
      obtain ⟨s2, hs2⟩ : ∃ s2, s2 = s.fix n007 := ⟨_, rfl⟩
      rw [← hs2] at H0 HK2 HG2 S4
      clear hs2 EL HKs HGs HZs HGk HLn H7
      go_wp2_with fail
      have SA := Lib.hid (S4.out.on (HB.out w4 (.cells #[.int .i64 101] 3)))
      obtain ⟨own, D, hs, hn⟩ := SA.out.ex
      refine (setTrace_arg own D _ r s2 n000 _ 1 [101] _ hs (by decide) n000_name H0.out ⟨101, by simp, by decide⟩ (rd_nums w4 .i64 3 [101] _ rfl (by decide))).mono ?_
      rintro e w5 ⟨rfl, hb⟩
      have S5 := Lib.hid (SA.out.on hb)
      clear hs hn hb SA S4 own D
      go_wp2_with fail
      have SA := Lib.hid (S5.out.on (HB.out w5 (.cells #[.int .i64 0] 3)))
      obtain ⟨own, D, hs, hn⟩ := SA.out.ex
      refine (setTrace_arg own D _ r s2 n000 _ 1 [0] _ hs (by decide) n000_name H0.out ⟨0, by simp, by decide⟩ (rd_nums w5 .i64 3 [0] _ rfl (by decide))).mono ?_
      rintro e w6 ⟨rfl, hb⟩
      have S6 := Lib.hid (SA.out.on hb)
      clear hs hn hb SA S5 own D
      go_wp2_with fail
      have SA := Lib.hid (S6.out.on (HB.out w6 (.cells #[.int .i64 100, .int .i64 2] 3)))
      obtain ⟨own, D, hs, hn⟩ := SA.out.ex
      refine (setTrace_ok own D _ r s2 n000 _ 2 [100, 2] _ hs (by decide) (Nat.le_trans HG2.out (by decide)) (Nat.le_trans HK2.out (by decide)) n000_name H0.out (by decide) (by decide) (by decide) (rd_nums w6 .i64 3 [100, 2] _ rfl (by decide))).mono ?_
      rintro e w7 ⟨rfl, ha⟩
      have S7 : RowKit.Hid (KS w w7 r (ka s2)) := SA.out.afterD hn ha
      clear hs hn ha SA S6 own D
      go_wp2_with fail
      obtain ⟨own, D, hs, hn⟩ := S7.out.ex
      have HST := trace_good own D r (ka s2) n000 w7 hs (by decide) (by rw [ka_t]; rfl) (by rw [ka_t]; rfl) (by rw [ka_t]; rfl) (by rw [ka_t]; decide) (by rw [ka_t]; decide)
      rw [ka_t] at HST
      refine HST.mono ?_
      rintro e w8 ⟨A7, c7, rfl, hr7, hb⟩
      have R7 : RowKit.Hid (Rd w8 (fun b => w7.heap.size ≤ b) 1 A7 2 c7 (intRows .i64 [2, 100])) := hr7
      have S8 := Lib.hid (S7.out.on hb)
      clear hs hn hr7 hb HST S7 own D
      go_wp2_with fail
      refine (ints21_any A7 _ 2 c7 2 2 [2, 100] [2, 100] _ _ _ (R7.out.below (HB.out w8 _)) (rd_nums w8 .i64 3 [2, 100] _ rfl (by decide)) true (by decide)).mono ?_
      rintro e w9 ⟨rfl, hb⟩
      have S9 := Lib.hid ((S8.out.on (HB.out w8 _)).on hb)
      clear hb S8 R7
      go_wp2_with fail
      obtain ⟨own, D, hs, hn⟩ := S9.out.ex
      refine (setTrace_drop own D r (ka s2) n000 _ hs (by decide) (Nat.le_trans (ka_sizes (Nat.le_trans HK2.out (by decide)) (Nat.le_trans HG2.out (by decide))).2 (by decide)) n000_name ((congrArg TD.kind (ka_n s2)).trans H0.out)).mono ?_
      rintro e w10 ⟨rfl, ha⟩
      have S10 : RowKit.Hid (KS w w10 r (kb2 s2)) := S9.out.after hn ha
      clear hs hn ha S9 own D
      go_wp2_with fail
      obtain ⟨own, D, hs, hn⟩ := S10.out.ex
      refine (trace_none own D r (kb2 s2) n000 _ hs (by decide) (by rw [kb_t]; decide)).mono ?_
      rintro e w11 ⟨rfl, hb⟩
      have S11 := Lib.hid (S10.out.on hb)
      clear hs hn hb S10 own D
      go_wp2_with fail
      have SA := Lib.hid (S11.out.on (HB.out w11 (.cells #[.int .i64 4] 3)))
      obtain ⟨own, D, hs, hn⟩ := SA.out.ex
      refine (setStop_ok own D _ r (kb2 s2) n000 _ 1 [4] _ hs (by decide) (Nat.le_trans (kb_sizes (Nat.le_trans HK2.out (by decide)) (Nat.le_trans HG2.out (by decide))).2 (by decide)) (Nat.le_trans (kb_sizes (Nat.le_trans HK2.out (by decide)) (Nat.le_trans HG2.out (by decide))).1 (by decide)) n000_name ((congrArg TD.kind (kb_n s2)).trans H0.out) (by decide) (by decide) (by decide) (rd_nums w11 .i64 3 [4] _ rfl (by decide))).mono ?_
      rintro e w12 ⟨rfl, ha⟩
      have S12 : RowKit.Hid (KS w w12 r (kc s2)) := SA.out.afterD hn ha
      clear hs hn ha SA S11 own D
      go_wp2_with fail
      obtain ⟨own, D, hs, hn⟩ := S12.out.ex
      refine (erase_ok own D r (kc s2) n000 _ hs (by decide) (Nat.le_trans (kc_sizes (Nat.le_trans HK2.out (by decide)) (Nat.le_trans HG2.out (by decide))).2 (by decide)) (Nat.le_trans (kc_sizes (Nat.le_trans HK2.out (by decide)) (Nat.le_trans HG2.out (by decide))).1 (by decide)) n000_name (.inr ((congrArg TD.kind (kc_n s2)).trans H0.out))).mono ?_
      rintro e w13 ⟨rfl, ha⟩
      have S13 : RowKit.Hid (KS w w13 r (kd s2)) := S12.out.after hn ha
      clear hs hn ha S12 own D
      go_wp2_with fail
      obtain ⟨own, D, hs, hn⟩ := S13.out.ex
      refine (stop_none own D r (kd s2) n000 _ hs (by decide) (by rw [kd_p]; decide)).mono ?_
      rintro e w14 ⟨rfl, hb⟩
      have S14 := Lib.hid (S13.out.on hb)
      clear hs hn hb S13 own D
      have B14 := Lib.hid S14.out.below
      clear S14 H0 HK2 HG2
      go_wp2_with fail
      refine (fix_nil nF _ (by decide)).mono ?_
      rintro e w15 ⟨rfl, hb⟩
      have B15 := Lib.hid (B14.out.trans (hb.mono B14.out.size))
      clear hb B14
      go_wp2_with fail
      refine (erase_nil _ _).mono ?_
      rintro e w16 ⟨rfl, rfl⟩
      go_wp2_with fail
      refine (setStop_nil _ _ _).mono ?_
      rintro e w17 ⟨rfl, rfl⟩
      go_wp2_with fail
      refine (stop_nil nF _ (by decide)).mono ?_
      rintro e w18 ⟨rfl, hb⟩
      have B18 := Lib.hid (B15.out.trans (hb.mono B15.out.size))
      clear hb B15
      go_wp2_with fail
      refine (awake21_any _).mono ?_
      rintro e w19 ⟨rfl, hb⟩
      have B19 := Lib.hid (B18.out.trans (hb.mono B18.out.size))
      clear hb B18
      go_wp2
      go_ret
      exact ⟨rfl, B19.out⟩
end Go.Proofs.Ytjkofndnhmfnoaa
