/-
  The law MarksMost (package anamnesislaw25): the walk, for any capacity and period, any list of acts that can be read.
-/
import Derived.Test.YtochdmbjlemfoaaM7
namespace Go.Proofs.Ytochdmbjlemfoaa
open Go Go.RowKit Go.Maps

theorem nearK_self (K : List Int) (k : Int) (hr : Rising K) (hk : k ∈ K) : nearK K k = some k := by
  obtain ⟨a, b, rfl⟩ := List.append_of_mem hk
  unfold Rising at hr
  have h1 := List.pairwise_append.1 hr
  have h2 := List.pairwise_cons.1 h1.2.1
  have hb : b.filter (fun x => decide (x ≤ k)) = [] := List.filter_eq_nil_iff.2 fun x hx => by
    have := h2.1 x hx
    simp; omega
  unfold nearK
  rw [List.filter_append, List.filter_cons_of_pos (by simp), hb]
  simp
/-- A valid key that Put does not leave there: the marks are full, and all of them are greater. -/
theorem put_gone (most : Nat) (per : Int) (K : List Int) (k : Int) (hb : ¬ bad per k) (hr : Rising K) (hl : K.length ≤ most) (hm : 1 ≤ most) (hk : k ∉ mputK most per K k) :
    (mputK most per K k).length = most ∧ ∃ h t, mputK most per K k = h :: t ∧ k < h := by
  have hi : k ∈ insK k K := (mem_insK k K k).2 (.inl rfl)
  have hri := rising_insK k K hr
  have hli := insK_len k K
  unfold mputK at hk ⊢
  rw [if_neg hb] at hk ⊢
  split at hk
  · rename_i hgt
    rw [if_pos hgt]
    cases hc : insK k K with
    | nil => rw [hc] at hi; simp at hi
    | cons x t =>
      rw [hc] at hk hi hgt hli hri
      simp only [List.tail_cons] at hk ⊢
      have hx : k = x := by
        rcases List.mem_cons.1 hi with h | h
        · exact h
        · exact absurd h hk
      subst hx
      simp only [List.length_cons] at hgt hli
      refine ⟨by omega, ?_⟩
      cases t with
      | nil => simp at hgt; omega
      | cons h t' =>
        exact ⟨h, t', rfl, List.rel_of_pairwise_cons hri List.mem_cons_self⟩
  · exact absurd hi hk
theorem rising_step (K : List Int) (j : Nat) (x y : Int) (hr : Rising K) (hx : K[j]? = some x) (hy : K[j + 1]? = some y) : x < y := by
  obtain ⟨h1, e1⟩ := List.getElem?_eq_some_iff.1 hx
  obtain ⟨h2, e2⟩ := List.getElem?_eq_some_iff.1 hy
  rw [← e1, ← e2]
  exact List.pairwise_iff_getElem.1 hr j (j + 1) h1 h2 (by omega)

set_option maxRecDepth 100000 in
set_option maxHeartbeats 4000000 in
theorem marksMost_any (c p : Int) (A : Option Addr) (n cc : Nat) (l : List A25) (w : World) (hc0 : -9223372036854775808 ≤ c) (hc1 : c ≤ 9223372036854775807) (hp0 : -9223372036854775808 ≤ p) (hp1 : p ≤ 9223372036854775807)
    (hx : Rd w (Old w) 3 A n cc (a25Rows l)) (hl : ∀ x ∈ l, x.ok) :
    Calls Try.prog 10 #[.int .i64 c, .int .i64 p, .slice A n cc] w fun e w' => e = .returned (.bool true) ∧ Below w.heap.size w w' := by
  have hlen : l.length = n := by have := hx.len; simpa [a25Rows] using this
  have hn : n ≤ 9223372036854775807 := by have h1 := hx.le; have h2 := hx.max; unfold maxLen at h2; omega
  have HX := Lib.hid hx
  have H2 := Lib.hid hl
  have H3 := Lib.hid hlen
  clear hx hl hlen
  by_cases h200 : 200 < n
  · have q : (200 : Int) < (n : Int) := by omega
    go_enter Try.func10, Try.ntmps10
    go_wp2_with fail
    refine (awake25_any _).mono ?_
    rintro e w11 ⟨rfl, B11⟩
    go_wp2
    go_ret
    exact ⟨rfl, B11⟩
  have q : ¬ (200 : Int) < (n : Int) := by omega
  have HN := Lib.hid (fun f => marksNew_any c p w hc0 hc1 hp0 hp1 f)
  obtain ⟨most, hmost⟩ : ∃ m, m = mostOf c p := ⟨_, rfl⟩
  obtain ⟨per, hperE⟩ : ∃ m, m = perOf p := ⟨_, rfl⟩
  have hm := mostOf_le c p
  have hper := perOf_pos p
  have hme := mostOf_eq c p
  rw [← hmost] at hm
  rw [← hperE] at hper
  rw [← hmost, ← hperE] at HN
  rw [← hmost, ← hperE] at hme
  have HP := Lib.hid hperE
  have HME := Lib.hid hme
  have hpm : per ≤ 9223372036854775807 := by rw [hperE]; unfold perOf; split <;> omega
  clear hmost hperE hme
  go_enter Try.func10, Try.ntmps10
  go_wp2_with fail
  refine (HN.out (fun _ => undef)).mono ?_
  rintro e w1 ⟨rfl, hm1, hb1, -⟩
  have K1 : RowKit.Hid (MS w w1 most per [] (fun x => x)) := ⟨⟨_, hm1, fun x hx => by simp at hx⟩, hb1⟩
  clear hm1 hb1 HN
  go_upto_region 4 with fail
  go_cut [8] (fun x wx => x = .int .i64 per ∧ wx = w1)
  case first =>
    have e1 : RowKit.Hid (max p 1 = per) := by show _ = _; rw [HP.out]; unfold perOf; split <;> omega
    go_wp2
    go_meet
    exact ⟨congrArg _ e1.out, rfl⟩
  case rest =>
    obtain ⟨rfl, rfl⟩ := hcut
    go_upto_region 5 with fail
    go_cut [9] (fun x wx => x = .int .i64 (most : Int) ∧ wx = wc)
    case first =>
      have q0 : ¬ per = 0 := by omega
      have EC : RowKit.Hid (min (max c 0) 1000000 = capOf c) := by show _ = _; unfold capOf; split <;> (try split) <;> omega
      go_wp2
      go_meet
      refine ⟨congrArg _ ?_, rfl⟩
      have hcl := capOf_le c
      rw [HME.out, EC.out]
      have hd1 := Int.ediv_nonneg (a := capOf c) (b := per) (by omega) (by omega)
      have hd2 := Int.ediv_le_self per (a := capOf c) (by omega)
      generalize capOf c / per = q at *
      rw [wrap64_small (by omega) (by omega)]
    case rest =>
      obtain ⟨rfl, rfl⟩ := hcut
      go_wp2
      go_loopg [10] n (fun z i wr => ∃ j : Nat, j + z = n ∧ i = .int .i64 (j : Int) ∧ RowKit.Hid (∃ K N, MS w wr most per K N ∧ KOk most per K ∧ K.length ≤ j))
      case atStart => exact ⟨0, by omega, rfl, _, _, K1.out, ⟨by simp, by simp⟩, by simp⟩
      case round =>
        clear K1
        obtain ⟨j, hjz, rfl, hst⟩ := hrel
        obtain ⟨K, N, hst, hok, hKj⟩ := hst.out
        have MS1 := Lib.hid hst
        have KO := Lib.hid hok
        clear hst hok
        by_cases hlt : j < n
        · have q1 : (j : Int) < (n : Int) := by omega
          obtain ⟨b, off, hA, hb, hcell⟩ := a25_at HX.out (by omega)
          obtain ⟨a, hak⟩ : ∃ a, l[j]? = some a := ⟨_, List.getElem?_eq_getElem (by rw [H3.out]; exact hlt)⟩
          have hok := H2.out a (List.mem_of_getElem? hak)
          have hcj := hcell j a hak
          have HC := Lib.hid hcj
          have cx0 := below_cell MS1.out.below hcj.1
          have cx1 := below_cell MS1.out.below hcj.2.1
          have cx2 := below_cell MS1.out.below hcj.2.2
          subst hA
          have OK := Lib.hid hok
          clear hcell hak hok hcj
          go_wp2_with fail
          refine (Do25_any w most per K N a.d a.k a.n _ MS1.out hper OK.out.1 OK.out.2.1.2 (by omega)).mono ?_
          rintro e w2 ⟨rfl, hms⟩
          obtain ⟨K', hK'⟩ : ∃ K', K' = doK most per K (a.d % 6) a.k := ⟨_, rfl⟩
          obtain ⟨N', hN'⟩ : ∃ N', N' = doN per N (a.d % 6) a.k a.n := ⟨_, rfl⟩
          have hKl := doK_len most per K (a.d % 6) a.k
          have KO' := Lib.hid (KO.out.act (a.d % 6) a.k)
          rw [← hK', ← hN'] at hms
          rw [← hK'] at hKl KO'
          have EK := Lib.hid hK'
          have EN := Lib.hid hN'
          obtain ⟨f, hmk, hv⟩ := hms.ex
          have KM := Lib.hid hmk
          have KV := Lib.hid hv
          have KB := Lib.hid hms.below
          have KR := Lib.hid (hmk.rise)
          have K0M := Lib.hid (show Rising K from by obtain ⟨f0, h0, _⟩ := MS1.out.ex; exact h0.rise)
          clear hms hmk hv hK' hN' cx0 cx1 cx2
          go_wp2_with fail
          refine (mkeys_any _ _ most per K' f _ KM.out (by omega)).mono ?_
          rintro e w3 ⟨A3, c3, rfl, hr3, hb3⟩
          have R3 := Lib.hid hr3
          have M3 := Lib.hid (KM.out.below hb3)
          have V3 := Lib.hid (KV.out.chg (Chg.of_below hb3))
          have B3 := Lib.hid (KB.out.trans (hb3.mono KB.out.size))
          have hle := KO'.out.le
          have qle : ¬ (most : Int) < (K'.length : Int) := by omega
          have qled : decide (most < K'.length) = false := decide_eq_false (by omega)
          clear hr3 hb3 KM KV KB
          go_wp2_with fail
          refine (mlen_any _ _ most per K' f _ M3.out (by omega)).mono ?_
          rintro e w4 ⟨rfl, hb4⟩
          have R4 := Lib.hid (R3.out.below hb4)
          have M4 := Lib.hid (M3.out.below hb4)
          have V4 := Lib.hid (V3.out.chg (Chg.of_below hb4))
          have B4 := Lib.hid (B3.out.trans (hb4.mono B3.out.size))
          clear hb4 R3 M3 V3 B3
          have qne : ((K'.length : Int) != (K'.length : Int)) = false := by simp
          go_wp2_with fail
          go_loopg [12] K'.length (fun z i wr => ∃ k2 : Nat, k2 + z = K'.length ∧ i = .int .i64 (k2 : Int) ∧ RowKit.Hid (Below w4.heap.size w4 wr))
          case atStart => exact ⟨0, by omega, rfl, Below.refl _ _⟩
          case round =>
            obtain ⟨k2, hk2, rfl, hb5⟩ := hrel
            by_cases hlt2 : k2 < K'.length
            · have q2 : (k2 : Int) < (K'.length : Int) := by omega
              obtain ⟨b3, o3, rfl, hD, hc3⟩ := iRows_at R4.out (by omega)
              obtain ⟨x, hxk⟩ : ∃ x, K'[k2]? = some x := ⟨_, List.getElem?_eq_getElem hlt2⟩
              have cx := below_cell hb5.out (hc3 k2 x hxk)
              have hpos := KO'.out.pos x (List.mem_of_getElem? hxk)
              have q3 : ¬ x < 0 := by omega
              have q3d : decide (x < 0) = false := decide_eq_false q3
              have q4 : ((x % per) != 0) = false := by simp [hpos.2]
              have q5 : ¬ per = 0 := by omega
              have q6 : 0 ≤ x := hpos.1
              cases k2 with
              | zero =>
                clear hc3 hxk hpos
                simp only [Nat.add_zero] at cx
                go_wp2
                go_quiet (fail)
                go_wp2
                go_roundg (K'.length - 1)
                case measure => omega
                case rel => exact ⟨1, by omega, by go_num, below_drewN hb5.out _⟩
              | succ k3 =>
                obtain ⟨y, hyk⟩ : ∃ y, K'[k3]? = some y := ⟨_, List.getElem?_eq_getElem (by omega)⟩
                have cy := below_cell hb5.out (hc3 k3 y hyk)
                have hxy := rising_step K' k3 y x KR.out hyk hxk
                have q7 : ¬ x ≤ y := by omega
                have q7d : decide (x ≤ y) = false := decide_eq_false q7
                have q9d : decide ((0 : Int) < (k3 : Int) + 1) = true := decide_eq_true (by omega)
                have q9 : (0 : Int) < (k3 : Int) + 1 := by omega
                have q8 : (k3 : Int) < (K'.length : Int) := by omega
                clear hc3 hxk hyk hpos
                go_wp2
                go_quiet (fail)
                go_wp2
                go_roundg (K'.length - (k3 + 2))
                case measure => omega
                case rel => exact ⟨k3 + 1 + 1, by omega, by go_num, below_drewN hb5.out _⟩
            · have hkl : k2 = K'.length := by omega
              subst hkl
              have B5 := Lib.hid (B4.out.trans (hb5.out.mono B4.out.size))
              have M5 := Lib.hid (M4.out.below hb5.out)
              have V5 := Lib.hid (V4.out.chg (Chg.of_below hb5.out))
              have R5 := Lib.hid (R4.out.below hb5.out)
              have cx0 := below_cell B5.out HC.out.1
              have cx1 := below_cell B5.out HC.out.2.1
              clear hb5 R4 M4 V4 B4 qle qne qled
              have q5 : ¬ per = 0 := by omega
              go_upto_region 18 with fail
              go_cut [117] (fun s wx => s = .bool (decide (a.d % 6 < 4 ∧ ¬ bad per a.k)) ∧ wx = wr)
              case first =>
                have HE := Lib.hid (show (a.d : Int) % 6 = ((a.d % 6 : Nat) : Int) by omega)
                by_cases v1 : a.d % 6 < 4
                · by_cases v2 : 0 ≤ a.k
                  · by_cases v3 : a.k % per = 0
                    · have HV : RowKit.Hid (true = decide (a.d % 6 < 4 ∧ ¬ bad per a.k)) := (decide_eq_true (by unfold bad; omega)).symm
                      have v1' : (a.d : Int) % 6 < 4 := by omega
                      go_wp2
                      go_meet
                      exact ⟨congrArg Value.bool HV.out, rfl⟩
                    · have HV : RowKit.Hid (false = decide (a.d % 6 < 4 ∧ ¬ bad per a.k)) := (decide_eq_false (by unfold bad; omega)).symm
                      have v1' : (a.d : Int) % 6 < 4 := by omega
                      have v3' : ((a.k % per) == 0) = false := by simp [v3]
                      go_wp2
                      go_meet
                      exact ⟨congrArg Value.bool HV.out, rfl⟩
                  · have HV : RowKit.Hid (false = decide (a.d % 6 < 4 ∧ ¬ bad per a.k)) := (decide_eq_false (by unfold bad; omega)).symm
                    have v1' : (a.d : Int) % 6 < 4 := by omega
                    go_wp2
                    go_meet
                    exact ⟨congrArg Value.bool HV.out, rfl⟩
                · have HV : RowKit.Hid (false = decide (a.d % 6 < 4 ∧ ¬ bad per a.k)) := (decide_eq_false (by omega)).symm
                  have v1' : ¬ (a.d : Int) % 6 < 4 := by omega
                  go_wp2
                  go_meet
                  exact ⟨congrArg Value.bool HV.out, rfl⟩
              case rest =>
                obtain ⟨rfl, rfl⟩ := hcut
                by_cases hval : a.d % 6 < 4 ∧ ¬ bad per a.k
                · rw [decide_eq_true hval]
                  obtain ⟨hv1, hv2⟩ := hval
                  have hKd : K' = mputK most per K a.k := by rw [EK.out]; unfold doK; rw [if_neg (by omega), if_neg (by omega)]
                  have hNd : N' a.k = a.n := by rw [EN.out]; unfold doN mputN; rw [if_neg (by omega), if_neg (by omega), if_neg hv2]; simp
                  by_cases hin : a.k ∈ K'
                  · have hnear := nearK_self K' a.k KR.out hin
                    obtain ⟨g, hg, hgb, hgh⟩ := V5.out a.k hin
                    rw [hNd] at hgh
                    have HN1 := Lib.hid hnear
                    have HG := Lib.hid hg
                    have HGH := Lib.hid hgh
                    clear hKd hNd hnear hg hgh hgb hin hv2
                    go_wp2_with fail
                    refine (mnear_any _ _ most per K' f a.k _ M5.out (by omega)).mono ?_
                    rintro e w6 ⟨rfl, hb6⟩
                    rw [nearV_eq, HN1.out]
                    simp only [optI, nearS, Option.getD_some, Option.isSome_some]
                    rw [HG.out]
                    have B6 := Lib.hid (B5.out.trans (hb6.mono B5.out.size))
                    have M6 := Lib.hid (M5.out.below hb6)
                    have V6 := Lib.hid (V5.out.chg (Chg.of_below hb6))
                    have cg := cell_of_row w6 g 13 _ _ _ ((hb6.block g (lt_of_block HGH.out)).trans HGH.out)
                    have cg' : w6.cell? ⟨g, 13, none⟩ = some (.int .i64 a.n) := cg
                    have cx1 := below_cell B6.out HC.out.2.1
                    have cx2 := below_cell B6.out HC.out.2.2
                    clear hb6 cg M5 V5 B5 R5
                    have p1 : (a.k == a.k) = true := by simp
                    have p2 : (a.n != a.n) = false := by simp
                    go_wp2
                    go_quiet (fail)
                    go_wp2
                    go_roundg (n - (j + 1))
                    case measure => omega
                    case rel => exact ⟨j + 1, by omega, by go_num, K', N', ⟨⟨f, M6.out.below (below_drewN (Below.refl _ w6) _), V6.out.chg ((Chg.refl _ w6).drewN _)⟩, below_drewN B6.out _⟩, KO'.out, by omega⟩
                  · obtain ⟨hlm, hd, t, hht, hkh⟩ : K'.length = most ∧ ∃ hd t, K' = hd :: t ∧ a.k < hd := by
                      rw [hKd] at hin ⊢
                      exact put_gone most per K a.k hv2 K0M.out KO.out.le hm.1 hin
                    obtain ⟨b3, o3, hA3, -, hc3⟩ := iRows_at R5.out (by rw [hht]; simp)
                    have c0 := hc3 0 hd (by rw [hht]; rfl)
                    rw [Nat.add_zero] at c0
                    have HC0 := Lib.hid c0
                    obtain ⟨q, hq⟩ : ∃ q, q = nearK K' a.k := ⟨_, rfl⟩
                    have hqn : ∀ x, q = some x → x ≠ a.k := fun x hx he => by
                      rw [hq] at hx
                      subst he
                      exact hin (nearK_mem hx).1
                    have HQ := Lib.hid hq
                    have HQN := Lib.hid hqn
                    have p1 : ((K'.length : Int) != (most : Int)) = false := by simp [hlm]
                    have p2 : (K'.length == most) = true := by simp [hlm]
                    have p3 : ¬ hd < a.k := by omega
                    have p4 : decide (hd < a.k) = false := decide_eq_false p3
                    have p5 : 0 < K'.length := by rw [hht]; simp
                    have p6 : (0 : Int) < (K'.length : Int) := by omega
                    subst hA3
                    clear hKd hNd hin hv2 hlm hht hc3 c0 hq hqn
                    go_wp2_with fail
                    refine (mnear_any _ _ most per K' f a.k _ M5.out (by omega)).mono ?_
                    rintro e w6 ⟨rfl, hb6⟩
                    rw [nearV_eq, ← HQ.out]
                    have B6 := Lib.hid (B5.out.trans (hb6.mono B5.out.size))
                    have M6 := Lib.hid (M5.out.below hb6)
                    have V6 := Lib.hid (V5.out.chg (Chg.of_below hb6))
                    have cx1 := below_cell B6.out HC.out.2.1
                    have c0 := below_cell hb6 HC0.out
                    clear hb6 M5 V5 B5 R5
                    cases q with
                    | none =>
                      simp only [optI, nearS, Option.getD_none, Option.isSome_none]
                      go_wp2
                      go_quiet (fail)
                      go_wp2
                      go_roundg (n - (j + 1))
                      case measure => omega
                      case rel => exact ⟨j + 1, by omega, by go_num, K', N', ⟨⟨f, M6.out.below (below_drewN (Below.refl _ w6) _), V6.out.chg ((Chg.refl _ w6).drewN _)⟩, below_drewN B6.out _⟩, KO'.out, by omega⟩
                    | some x =>
                      have hx := HQN.out x rfl
                      have p7 : (x == a.k) = false := by simp [hx]
                      clear hx
                      simp only [optI, nearS, Option.getD_some, Option.isSome_some]
                      go_wp2
                      go_quiet (fail)
                      go_wp2
                      go_roundg (n - (j + 1))
                      case measure => omega
                      case rel => exact ⟨j + 1, by omega, by go_num, K', N', ⟨⟨f, M6.out.below (below_drewN (Below.refl _ w6) _), V6.out.chg ((Chg.refl _ w6).drewN _)⟩, below_drewN B6.out _⟩, KO'.out, by omega⟩
                · rw [decide_eq_false hval]
                  clear hval
                  go_wp2
                  go_roundg (n - (j + 1))
                  case measure => omega
                  case rel => exact ⟨j + 1, by omega, by go_num, K', N', ⟨⟨f, M5.out, V5.out⟩, B5.out⟩, KO'.out, by omega⟩
        · have q1 : ¬ (j : Int) < (n : Int) := by omega
          have B7 := Lib.hid MS1.out.below
          go_wp2_with fail
          refine (awake25_any _).mono ?_
          rintro e w11 ⟨rfl, B11⟩
          go_wp2
          go_ret
          exact ⟨rfl, B7.out.trans (B11.mono B7.out.size)⟩
end Go.Proofs.Ytochdmbjlemfoaa
