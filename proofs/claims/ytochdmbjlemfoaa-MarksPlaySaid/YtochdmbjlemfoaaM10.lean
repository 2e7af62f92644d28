/-
  The law MarksLast (package anamnesislaw25): the walk, for any capacity, period, begin and many.
-/
import Derived.Test.YtochdmbjlemfoaaM7
namespace Go.Proofs.Ytochdmbjlemfoaa
open Go Go.RowKit Go.Maps

theorem near_self (K : List Int) (k : Int) (hr : Rising K) (hk : k ∈ K) : nearK K k = some k := by
  obtain ⟨a, b, rfl⟩ := List.append_of_mem hk
  unfold Rising at hr
  have h1 := List.pairwise_append.1 hr
  have h2 := List.pairwise_cons.1 h1.2.1
  have hb : b.filter (fun x => decide (x ≤ k)) = [] := List.filter_eq_nil_iff.2 fun x hx => by
    have := h2.1 x hx
    simp; omega
  unfold nearK
  rw [List.filter_append, List.filter_cons_of_pos (by simp), hb]
  simp
/-- Of multiples of a period: the last one up to a period ahead. -/
theorem near_last (K : List Int) (per x : Int) (hp : 1 ≤ per) (hr : Rising K) (hm : ∀ y ∈ K, y % per = 0) (hx : x ∈ K) : nearK K (x + per - 1) = some x := by
  have e : K.filter (fun y => decide (y ≤ x + per - 1)) = K.filter (fun y => decide (y ≤ x)) := List.filter_congr fun y hy => by
    have h1 := hm y hy
    have h2 := hm x hx
    obtain ⟨a, ha⟩ := Int.dvd_of_emod_eq_zero h1
    obtain ⟨c, hc⟩ := Int.dvd_of_emod_eq_zero h2
    rw [decide_eq_decide]
    constructor
    · intro h
      rw [ha, hc] at h ⊢
      have : a ≤ c := by
        rcases Int.lt_or_le c a with hlt | hle
        · have h3 : per * (c + 1) ≤ per * a := Int.mul_le_mul_of_nonneg_left (by omega) (by omega)
          rw [Int.mul_add, Int.mul_one] at h3
          omega
        · exact hle
      exact Int.mul_le_mul_of_nonneg_left this (by omega)
    · intro h; omega
  unfold nearK
  rw [e]
  exact near_self K x hr hx
/-- The last ones. -/
def lastK (most : Nat) (W : List Int) : List Int := W.drop (W.length - most)
theorem insI_end (k : Int) (K : List Int) (h : ∀ x ∈ K, x < k) : insI k K = K ++ [k] := by
  induction K with
  | nil => rfl
  | cons y K ih =>
    unfold insI
    rw [if_neg (by have := h y List.mem_cons_self; omega), ih (fun x hx => h x (List.mem_cons_of_mem _ hx))]
    rfl
theorem insK_end (k : Int) (K : List Int) (h : ∀ x ∈ K, x < k) : insK k K = K ++ [k] := by
  unfold insK
  rw [List.filter_eq_self.2 (fun x hx => by have := h x hx; simp; omega), insI_end k K h]
theorem last_put (most : Nat) (per : Int) (W : List Int) (k : Int) (h : ∀ x ∈ W, x < k) (hb : ¬ bad per k) (hm : 1 ≤ most) : mputK most per (lastK most W) k = lastK most (W ++ [k]) := by
  have hl : ∀ x ∈ lastK most W, x < k := fun x hx => h x (List.mem_of_mem_drop hx)
  unfold mputK
  rw [if_neg hb, insK_end k _ hl]
  unfold lastK
  simp only [List.length_append, List.length_drop, List.length_cons, List.length_nil]
  by_cases hlt : W.length < most
  · rw [if_neg (by omega), show W.length - most = 0 by omega, show W.length + (0 + 1) - most = 0 by omega]
    simp
  · rw [if_pos (by omega), show W.length + (0 + 1) - most = (W.length - most) + 1 by omega]
    rw [← List.drop_one, List.drop_append_of_le_length (l₁ := W) (by omega), List.drop_append_of_le_length (by simp; omega), List.drop_drop]
theorem last_stay (most : Nat) (per : Int) (K : List Int) (k : Int) (hb : bad per k) : mputK most per K k = K := by unfold mputK; rw [if_pos hb]
/-- The multiples among the first j steps. -/
def Wm (per bg : Int) (j : Nat) : List Int := ((List.range j).map (fun (i : Nat) => bg + (i : Int))).filter (fun x => decide (x % per = 0))
theorem Wm_hit (per bg : Int) (j : Nat) (h : (bg + (j : Int)) % per = 0) : Wm per bg (j + 1) = Wm per bg j ++ [bg + (j : Int)] := by
  unfold Wm
  rw [List.range_succ, List.map_append, List.filter_append]
  simp [h]
theorem Wm_miss (per bg : Int) (j : Nat) (h : ¬ (bg + (j : Int)) % per = 0) : Wm per bg (j + 1) = Wm per bg j := by
  unfold Wm
  rw [List.range_succ, List.map_append, List.filter_append]
  simp [h]
theorem Wm_mem {per bg : Int} {j : Nat} {x : Int} (h : x ∈ Wm per bg j) : bg ≤ x ∧ x < bg + (j : Int) ∧ x % per = 0 := by
  obtain ⟨h1, h2⟩ := List.mem_filter.1 h
  obtain ⟨i, hi, rfl⟩ := List.mem_map.1 h1
  have := List.mem_range.1 hi
  exact ⟨by omega, by omega, by simpa using h2⟩
theorem Wm_len (per bg : Int) (j : Nat) : (Wm per bg j).length ≤ j := by
  have := List.length_filter_le (fun x => decide (x % per = 0)) ((List.range j).map (fun (i : Nat) => bg + (i : Int)))
  simpa [Wm] using this
theorem Wm_rise (per bg : Int) (j : Nat) : Rising (Wm per bg j) := by
  refine rising_filter _ _ (List.pairwise_map.2 (List.Pairwise.imp ?_ (List.pairwise_lt_range)))
  intro a b h
  omega
theorem last_rise (most : Nat) (W : List Int) (h : Rising W) : Rising (lastK most W) := List.Pairwise.drop h
theorem last_len (most : Nat) (W : List Int) : (lastK most W).length = min W.length most := by unfold lastK; rw [List.length_drop]; omega

/-- Marks that a law has made, and a row of numbers that it has made: what is appended to the row leaves the marks. -/
theorem MS.row {w0 w w' : World} {most : Nat} {per : Int} {K : List Int} {N : Int → Int} (h : MS w0 w most per K N) {v : Value} {base n : Nat} {xs : List Value} (hown : w.ownsRow base 2 1 v n xs) (hbase : w0.heap.size + 2 ≤ base)
    (hg : w.grownBy w' v.ownBlock) : MS w0 w' most per K N := by
  have hc : Chg (fun j => v.ownBlock = some j) w w' := ⟨hg.os, hg.tape, hg.output, hg.size, fun k hk hn => hg.block k hk (fun e => hn e.symm)⟩
  have hS : ∀ j, v.ownBlock = some j → base ≤ j ∧ ∃ cur, w.heap[j]? = some (.cells cur 2 (0, 0)) := fun j hj => by
    rcases hown.2 with ⟨rfl, _⟩ | ⟨g, cap, cur, rfl, hb, hh, _⟩
    · simp [Value.ownBlock] at hj
    · simp only [Value.ownBlock, Option.some.injEq] at hj
      subst hj
      exact ⟨hb, cur, hh⟩
  obtain ⟨f, hm, hv⟩ := h.ex
  refine ⟨⟨f, hm.chg hc (fun e => by have := (hS _ e).1; omega) (fun e => by have := (hS _ e).1; omega), fun x hx => ?_⟩, h.below.trans (hc.below h.below.size (fun k hk => by have := (hS k hk).1; omega))⟩
  obtain ⟨g, e, hg0, hh⟩ := hv x hx
  refine ⟨g, e, hg0, (hc.block g (lt_of_block hh) (fun eo => ?_)).trans hh⟩
  obtain ⟨_, cur, hcur⟩ := hS g eo
  rw [hh] at hcur
  simp at hcur
theorem row_chg {w w' : World} {S : Nat → Prop} {base : Nat} {e : TypeId} {size : Nat} {v : Value} {n : Nat} {xs : List Value} (h : w.ownsRow base e size v n xs) (hc : Chg S w w') (hb : ∀ g, base ≤ g → ¬ S g) : w'.ownsRow base e size v n xs := by
  refine ⟨h.1, h.2.imp id ?_⟩
  rintro ⟨g, cap, cur, rfl, h1, h2, h3⟩
  exact ⟨g, cap, cur, rfl, h1, (hc.block g (lt_of_block h2) (hb g h1)).trans h2, h3⟩
theorem Rd.end_ {w : World} {D : Nat → Prop} {A : Option Addr} {a m c : Nat} {xs : List Int} (h : Rd w D 1 A (a + m) c (iRows xs)) (hm : 0 < m) :
    ∃ g o, A = some ⟨g, o, none⟩ ∧ Rd w D 1 (some ⟨g, o + a, none⟩) m (c - a) (iRows (xs.drop a)) := by
  obtain ⟨g, o, hA, hD, hc⟩ := iRows_at h (by omega)
  have hl := h.len
  have h1 := h.le
  have h2 := h.max
  rw [iRows_len] at hl
  refine ⟨g, o, hA, by rw [iRows_len, List.length_drop]; omega, by omega, by omega, iRows_ok _, fun _ => ⟨g, o + a, rfl, hD, fun i e hi k u hk => ?_⟩⟩
  unfold iRows at hi
  rw [List.getElem?_map] at hi
  obtain ⟨x, hx, rfl⟩ := Option.map_eq_some_iff.1 hi
  have hk0 : k = 0 := by
    have := (List.getElem?_eq_some_iff.1 hk).1
    simp at this; exact this
  subst hk0
  simp at hk
  subst hk
  rw [List.getElem?_drop] at hx
  have := hc (a + i) x hx
  rw [show o + a + (i * 1 + 0) = o + (a + i) by omega]
  exact this

set_option maxRecDepth 100000 in
set_option maxHeartbeats 4000000 in
theorem marksLast_any (c p fr many : Nat) (w : World) (hc : c < 256) (hp : p < 256) (hf : fr < 65536) (hm : many < 256) :
    Calls Try.prog 7 #[.int .u8 (c : Int), .int .u8 (p : Int), .int .u16 (fr : Int), .int .u8 (many : Int)] w fun e w' => e = .returned (.bool true) ∧ Below w.heap.size w w' := by
  have b1 : (0 : Int) ≤ (c : Int) % 201 := by omega
  have b2 : (c : Int) % 201 ≤ 200 := by omega
  have b3 : (0 : Int) ≤ (p : Int) % 20 := by omega
  have b4 : (p : Int) % 20 ≤ 19 := by omega
  have b5 : (0 : Int) ≤ (fr : Int) % 1001 := by omega
  have b6 : (fr : Int) % 1001 ≤ 1000 := by omega
  have HN := Lib.hid (marksNew_any ((c : Int) % 201) ((p : Int) % 20 + 1) w (by omega) (by omega) (by omega) (by omega) (fun _ => undef))
  have hme := mostOf_eq ((c : Int) % 201) ((p : Int) % 20 + 1)
  have hcap : capOf ((c : Int) % 201) = (c : Int) % 201 := by unfold capOf; rw [if_neg (by omega), if_neg (by omega)]
  have hper : perOf ((p : Int) % 20 + 1) = (p : Int) % 20 + 1 := by unfold perOf; rw [if_neg (by omega)]
  have hm1 := (mostOf_le ((c : Int) % 201) ((p : Int) % 20 + 1)).1
  obtain ⟨most, hmost⟩ : ∃ m, m = mostOf ((c : Int) % 201) ((p : Int) % 20 + 1) := ⟨_, rfl⟩
  have hd1 := Int.ediv_nonneg (a := (c : Int) % 201) (b := (p : Int) % 20 + 1) (by omega) (by omega)
  have hd2 := Int.ediv_le_self ((p : Int) % 20 + 1) (a := (c : Int) % 201) (by omega)
  have hd3 : (c : Int) % 201 / ((p : Int) % 20 + 1) ≤ 200 := by omega
  rw [hcap, hper, ← hmost] at hme
  have hmost' := hmost
  rw [← hmost] at hm1
  rw [← hmost, hper] at HN
  have HME := Lib.hid hme.symm
  have hp0 : ¬ (p : Int) % 20 + 1 = 0 := by omega
  have hmB : most ≤ 201 := by omega
  clear hme hcap hper hmost hmost' hd2
  obtain ⟨i0, hi, hz, hz1, hz2⟩ := i64Parts
  go_enter Try.func7, Try.ntmps7
  go_wp2_with fail
  refine HN.out.mono ?_
  rintro e w1 ⟨rfl, hm1', hb1, hsz1⟩
  have K1 : RowKit.Hid (MS w w1 most ((p : Int) % 20 + 1) [] (fun x => 3 * x)) := ⟨⟨_, hm1', fun x hx => by simp at hx⟩, hb1⟩
  have Z1 := Lib.hid hsz1
  clear hm1' hb1 HN hsz1
  go_wp2
  rw [HME.out]
  obtain ⟨per, hper⟩ : ∃ per : Int, per = (p : Int) % 20 + 1 := ⟨_, rfl⟩
  obtain ⟨bg, hbg⟩ : ∃ bg : Int, bg = (fr : Int) % 1001 := ⟨_, rfl⟩
  rw [← hper] at K1 HME ⊢
  rw [← hbg]
  have p1 : 1 ≤ per := by omega
  have p2 : per ≤ 20 := by omega
  have g1 : 0 ≤ bg := by omega
  have g2 : bg ≤ 1000 := by omega
  have p0 : ¬ per = 0 := by omega
  have hmany : (many : Int) ≤ 255 := by omega
  clear hper hbg hp0 b1 b2 b3 b4 b5 b6 hd1 hd3 HME
  go_loopw [12, 14] (fun v i wr => ∃ j : Nat, j ≤ many ∧ i = .int .i64 (bg + (j : Int)) ∧ RowKit.Hid (∃ N, MS w wr most per (lastK most (Wm per bg j)) N ∧ ∀ x ∈ lastK most (Wm per bg j), N x = 3 * x) ∧ RowKit.Hid (wr.ownsRow w1.heap.size 2 1 v (Wm per bg j).length (iv (Wm per bg j))) ∧ RowKit.Hid (w1.heap.size ≤ wr.heap.size)) (fun _ i _ => (bg + many - RowKit.intOf i).toNat)
  case atStart => exact ⟨0, Nat.zero_le _, by simp, ⟨fun x => 3 * x, by have := K1.out; simpa [lastK, Wm] using this, by simp [lastK, Wm]⟩, World.ownsRow_nil _ _ _ _, Nat.le_refl _⟩
  case round =>
    clear K1
    obtain ⟨j, hj, rfl, hst, hown, hsz⟩ := hrel
    obtain ⟨N, hst, hN⟩ := hst.out
    have MS1 := Lib.hid hst
    have HNN := Lib.hid hN
    have hwl := Wm_len per bg j
    clear hst hN
    by_cases hlt : j < many
    · have q1 : bg + (j : Int) < bg + (many : Int) := by omega
      have q2 : 0 ≤ bg + (j : Int) := by omega
      have q3 : bg + (j : Int) ≤ 2000 := by omega
      obtain ⟨f, hmk, hv⟩ := MS1.out.ex
      have KM := Lib.hid hmk
      have KV := Lib.hid hv
      have KB := Lib.hid MS1.out.below
      clear hmk hv MS1
      obtain ⟨k, hk⟩ : ∃ k, k = bg + (j : Int) := ⟨_, rfl⟩
      rw [← hk] at q1 q2 q3 ⊢
      have HKJ := Lib.hid hk
      clear hk
      go_wp2_with fail
      refine (all25_any _ _).mono ?_
      rintro e w2 ⟨rfl, rfl⟩
      go_wp2_with fail
      refine (mput_any _ _ most per _ f k _ _ (KM.out.below ((Below.refl _ wr).alloc (Nat.le_refl _) _)) p1 (by omega) (by rw [last_len]; omega)).mono ?_
      rintro e w3 ⟨rfl, hm3, hc3⟩
      have M3 := Lib.hid (MS.put k (3 * k) KV.out KB.out KM.out.lt.2 hm3 hc3)
      have R3 := Lib.hid (row_chg (World.ownsRow.alloc hown.out (.cells (allE (3 * k)).toArray 67)) hc3 (fun g hg hS => by have := Z1.out; omega))
      have S3 := Lib.hid (Nat.le_trans hsz.out (Nat.le_trans (by simp) hc3.size))
      clear hm3 hc3 hown hsz KM KV KB
      by_cases hbad : k % per = 0
      · have e1 := Wm_hit per bg j (by rw [← HKJ.out]; exact hbad)
        rw [← HKJ.out] at e1
        have hnb : ¬ bad per k := by unfold bad; omega
        have e2 := last_put most per (Wm per bg j) k (fun x hx => by rw [HKJ.out]; exact (Wm_mem hx).2.1) hnb hm1
        rw [← e1] at e2
        have M4 := M3.out
        rw [e2] at M4
        have hN4 : ∀ x ∈ lastK most (Wm per bg (j + 1)), mputN per N k (3 * k) x = 3 * x := fun x hx => by
          unfold mputN
          rw [if_neg hnb]
          by_cases hxk : x = k
          · simp [hxk]
          · simp only [if_neg hxk]
            rw [← e2] at hx
            exact HNN.out x ((mem_mputK hx hnb).resolve_left hxk)
        have HM4 := Lib.hid M4
        have HN4 := Lib.hid hN4
        have E1 := Lib.hid e1
        clear M4 hN4 e1 e2 M3 HNN hnb
        go_wp2_with (at_builtin; refine wpList_append_own _ rfl (.tmp 59) (.tmp 61) 37 rfl w1.heap.size 2 i0 (.int .i64 0) 1 8 Try.underlying37 hi hz hz1 hz2 rfl (by decide) _ _ _ rfl (World.ownsRow.alloc R3.out _) ⟨w3.heap.size, 0, none⟩ 1 1 [.int .i64 k] rfl rfl (cell_one_new _ _ _) (by intro u hu; simp at hu; subst hu; rfl) (by unfold maxLen; omega) (by omega) (by have := S3.out; simp; omega) ?_; intro v5 w5 hown5 hgrow5 _)
        have hown6 : w5.ownsRow w1.heap.size 2 1 v5 (Wm per bg (j + 1)).length (iv (Wm per bg (j + 1))) := by
          rw [E1.out]
          simpa [iv] using hown5
        have O6 := Lib.hid hown6
        have M6 := Lib.hid ((HM4.out.stay ((Below.refl _ w3).alloc (Nat.le_refl _) (.cells #[.int .i64 k] 2))).row (World.ownsRow.alloc R3.out _) (by have := Z1.out; omega) hgrow5)
        have S6 := Lib.hid (Nat.le_trans S3.out (Nat.le_trans (by simp) hgrow5.size))
        clear hown5 hown6 hgrow5
        go_wp2
        go_roundw
        case rel => exact ⟨j + 1, by omega, by rw [HKJ.out]; go_num, ⟨_, M6.out, HN4.out⟩, O6.out, S6.out⟩
        case measure => simp [RowKit.intOf]; have := HKJ.out; omega
      · have e1 := Wm_miss per bg j (by rw [← HKJ.out]; exact hbad)
        have hbd : bad per k := .inr hbad
        have e2 := last_stay most per (lastK most (Wm per bg j)) k hbd
        have e3 : mputN per N k (3 * k) = N := by unfold mputN; rw [if_pos hbd]
        have M4 := M3.out
        rw [e2, e3] at M4
        have q4 : ((k % per) == 0) = false := by simp [hbad]
        have HM4 := Lib.hid M4
        have E1 := Lib.hid e1
        clear M4 e1 e2 e3 M3 hbd
        go_wp2
        go_roundw
        case rel => exact ⟨j + 1, by omega, by rw [HKJ.out]; go_num, ⟨_, by rw [E1.out]; exact HM4.out, by rw [E1.out]; exact HNN.out⟩, by rw [E1.out]; exact R3.out, S3.out⟩
        case measure => simp [RowKit.intOf]; have := HKJ.out; omega
    · have hjm : j = many := by omega
      subst hjm
      obtain ⟨W, hW⟩ : ∃ W, W = Wm per bg j := ⟨_, rfl⟩
      have hWm : ∀ x ∈ W, 0 ≤ x ∧ x ≤ 2000 ∧ x % per = 0 := fun x hx => by
        rw [hW] at hx
        have := Wm_mem hx
        omega
      have hWr : Rising W := by rw [hW]; exact Wm_rise per bg j
      rw [← hW] at MS1 HNN hown hwl
      have HWM := Lib.hid hWm
      have HWR := Lib.hid hWr
      clear hW hWm hWr
      have hK : RowKit.Hid ((lastK most W).length ≤ most) := by show _ ≤ _; rw [last_len]; omega
      have q1 : ¬ bg + (j : Int) < bg + (j : Int) := by omega
      have hown' := hown.out
      rw [iv_rows] at hown'
      obtain ⟨A9, c9, rfl, hr9⟩ := Rd.of_own hown' (iRows_len _) (iRows_ok _)
      have R9 := Lib.hid hr9
      clear hr9 hown hown'
      go_upto_if 66 with fail
      go_cut [12] (fun s wx => ∃ A c, s = .slice A (lastK most W).length c ∧ RowKit.Hid (Rd wr (fun b => w1.heap.size ≤ b) 1 A (lastK most W).length c (iRows (lastK most W))) ∧ wx = wr)
      case first =>
        by_cases hgt : most < W.length
        · obtain ⟨a, ha⟩ : ∃ a, W.length = a + most := ⟨W.length - most, by omega⟩
          have R9' := R9.out
          rw [ha] at R9'
          obtain ⟨g, o, rfl, R0⟩ := R9'.end_ (by omega)
          have e1 : W.drop a = lastK most W := by unfold lastK; rw [show W.length - most = a by omega]
          rw [e1] at R0
          have hl : (lastK most W).length = most := by rw [last_len]; omega
          have h9 := R9.out.le
          have HR := Lib.hid R0
          have HL := Lib.hid hl
          have q2 : ¬ a = c9 := by omega
          have q3 : a < c9 := by omega
          have q4 : (most : Int) < (W.length : Int) := by omega
          have q5 : (W.length : Int) - (most : Int) = (a : Int) := by omega
          have q7 : a ≤ W.length := by omega
          have q8 : W.length - a = most := by omega
          clear R9' R0 e1 hl ha
          go_wp2
          go_meet
          rw [HL.out]
          exact ⟨_, _, rfl, HR.out, rfl⟩
        · have q4 : ¬ (most : Int) < (W.length : Int) := by omega
          have e1 : lastK most W = W := by unfold lastK; rw [show W.length - most = 0 by omega]; rfl
          have E1 := Lib.hid e1
          clear e1
          go_wp2
          go_meet
          rw [E1.out]
          exact ⟨A9, c9, rfl, R9.out, rfl⟩
      case rest =>
        obtain ⟨A, cc, rfl, hr, rfl⟩ := hcut
        obtain ⟨L, hL⟩ : ∃ L, L = lastK most W := ⟨_, rfl⟩
        have hLm : ∀ x ∈ L, 0 ≤ x ∧ x ≤ 2000 ∧ x % per = 0 := fun x hx => by
          rw [hL] at hx
          exact HWM.out x (List.mem_of_mem_drop hx)
        have hLr : Rising L := by rw [hL]; exact last_rise most W HWR.out
        rw [← hL] at hr MS1 HNN hK ⊢
        have HLM := Lib.hid hLm
        have HLR := Lib.hid hLr
        have hKl := hK.out
        clear hLm hLr hL HWM HWR R9
        obtain ⟨f, hmk, hv⟩ := MS1.out.ex
        have KM := Lib.hid hmk
        have KV := Lib.hid hv
        have KB := Lib.hid MS1.out.below
        clear hmk hv MS1
        go_wp2_with fail
        refine (mkeys_any _ _ most per L f _ KM.out (by omega)).mono ?_
        rintro e w2 ⟨A2, c2, rfl, hr2, hb2⟩
        have R2 := Lib.hid hr2
        have RW2 := Lib.hid (hr.out.below hb2)
        have M2 := Lib.hid (KM.out.below hb2)
        have V2 := Lib.hid (KV.out.chg (Chg.of_below hb2))
        have B2 := Lib.hid (KB.out.trans (hb2.mono KB.out.size))
        clear hr2 hb2 hr KM KV KB
        go_wp2_with fail
        refine (numbers25_any _ _ _ _ _ _ L L _ _ _ R2.out RW2.out true (decide_eq_true rfl).symm).mono ?_
        rintro e w3 ⟨rfl, hb3⟩
        have RW3 := Lib.hid (RW2.out.below hb3)
        have M3 := Lib.hid (M2.out.below hb3)
        have V3 := Lib.hid (V2.out.chg (Chg.of_below hb3))
        have B3 := Lib.hid (B2.out.trans (hb3.mono B2.out.size))
        clear hb3 R2 RW2 M2 V2 B2
        go_wp2
        go_loopw [15] (fun i wx => ∃ j2 : Nat, j2 ≤ L.length ∧ i = .int .i64 (j2 : Int) ∧ RowKit.Hid (Below w3.heap.size w3 wx)) (fun i _ => L.length - (RowKit.intOf i).toNat)
        case atStart => exact ⟨0, Nat.zero_le _, rfl, Below.refl _ _⟩
        case round =>
          obtain ⟨j2, hj2, rfl, hb4⟩ := hrel
          have M4 := Lib.hid (M3.out.below hb4.out)
          have V4 := Lib.hid (V3.out.chg (Chg.of_below hb4.out))
          have RW4 := Lib.hid (RW3.out.below hb4.out)
          have B4 := Lib.hid (B3.out.trans (hb4.out.mono B3.out.size))
          by_cases hlt : j2 < L.length
          · have q1 : (j2 : Int) < (L.length : Int) := by omega
            obtain ⟨b3, o3, rfl, hD, hc3⟩ := iRows_at RW4.out (by omega)
            obtain ⟨x, hxk⟩ : ∃ x, L[j2]? = some x := ⟨_, List.getElem?_eq_getElem hlt⟩
            have cx := hc3 j2 x hxk
            have hxm := List.mem_of_getElem? hxk
            have hxb := HLM.out x hxm
            have hxb1 := hxb.1
            have hxb2 := hxb.2.1
            have HNR := Lib.hid (near_last L per x p1 HLR.out (fun y hy => (HLM.out y hy).2.2) hxm)
            obtain ⟨g, hg, hgb, hgh⟩ := V4.out x hxm
            rw [HNN.out x hxm] at hgh
            have HG := Lib.hid hg
            have HGH := Lib.hid hgh
            clear hc3 hxk hxb hg hgh hgb
            go_wp2_with fail
            refine (mnear_any _ _ most per L f (x + per - 1) _ M4.out (by omega)).mono ?_
            rintro e w6 ⟨rfl, hb6⟩
            rw [nearV_eq, HNR.out]
            simp only [optI, nearS, Option.getD_some, Option.isSome_some]
            rw [HG.out]
            have cg : w6.cell? ⟨g, 13, none⟩ = some (.int .i64 (3 * x)) := cell_of_row w6 g 13 _ _ _ ((hb6.block g (lt_of_block HGH.out)).trans HGH.out)
            have cx6 := below_cell hb6 cx
            have B6 := Lib.hid (hb4.out.trans (hb6.mono hb4.out.size))
            have r1 : (x != x) = false := by simp
            have r2 : ((3 * x) != (3 * x)) = false := by simp
            clear hb6 cx M4 V4 RW4 B4 hb4
            go_wp2
            go_quiet (fail)
            go_wp2
            go_roundw
            case rel => exact ⟨j2 + 1, by omega, by go_num, below_drewN B6.out _⟩
            case measure => simp [RowKit.intOf]; omega
          · have hjl : j2 = L.length := by omega
            subst hjl
            clear hb4 M4 V4 RW4 RW3 V3
            go_wp2_with fail
            refine (awake25_any _).mono ?_
            rintro e w11 ⟨rfl, B11⟩
            go_wp2
            go_ret
            exact ⟨rfl, B4.out.trans (B11.mono B4.out.size)⟩
end Go.Proofs.Ytochdmbjlemfoaa
