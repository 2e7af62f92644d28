/-
  The law MarksNear (package anamnesislaw25): the walk, for any capacity and period, any list of acts that can be read, any two steps.
-/
import Derived.Test.YtochdmbjlemfoaaM6
import Derived.Test.YtochdmbjlemfoaaQ
namespace Go.Proofs.Ytochdmbjlemfoaa
open Go Go.RowKit Go.Maps

/-- An act of layer 25 as an argument has it. -/
structure A25 where
  d : Nat
  k : Int
  n : Int
def A25.cells (a : A25) : List Value := [.int .u8 (a.d : Int), .int .i64 a.k, .int .i64 a.n]
def A25.ok (a : A25) : Prop := a.d < 256 ∧ (-9223372036854775808 ≤ a.k ∧ a.k ≤ 9223372036854775807) ∧ (-9223372036854775808 ≤ a.n ∧ a.n ≤ 9223372036854775807)
def a25Rows (l : List A25) : List (List Value) := l.map A25.cells
theorem a25_at {w : World} {D : Nat → Prop} {A : Option Addr} {n c : Nat} {l : List A25} (h : Rd w D 3 A n c (a25Rows l)) (hn : 0 < n) : ∃ b off, A = some ⟨b, off, none⟩ ∧ D b ∧ ∀ (i : Nat) a, l[i]? = some a →
    w.cell? ⟨b, off + i * 3, none⟩ = some (.int .u8 (a.d : Int)) ∧ w.cell? ⟨b, off + i * 3 + 1, none⟩ = some (.int .i64 a.k) ∧ w.cell? ⟨b, off + i * 3 + 2, none⟩ = some (.int .i64 a.n) := by
  obtain ⟨b, off, e, hb, hc⟩ := h.at_ hn
  refine ⟨b, off, e, hb, fun i a hi => ?_⟩
  have hr : (a25Rows l)[i]? = some a.cells := by unfold a25Rows; rw [List.getElem?_map, hi]; rfl
  exact ⟨hc i _ hr 0 _ rfl, hc i _ hr 1 _ rfl, hc i _ hr 2 _ rfl⟩

/-- What holds of the keys behind any acts. -/
structure KOk (most : Nat) (per : Int) (K : List Int) : Prop where
  pos : ∀ x ∈ K, 0 ≤ x ∧ x % per = 0
  le : K.length ≤ most
theorem KOk.act {most : Nat} {per : Int} {K : List Int} (h : KOk most per K) (q : Nat) (k : Int) : KOk most per (doK most per K q k) := by
  unfold doK
  split
  · exact ⟨fun x hx => h.pos x (List.mem_filter.1 hx).1, Nat.le_trans (List.length_filter_le _ _) h.le⟩
  · split
    · exact ⟨by simp, by simp⟩
    · by_cases hb : bad per k
      · unfold mputK; rw [if_pos hb]; exact h
      · refine ⟨fun x hx => ?_, ?_⟩
        · rcases mem_mputK hx hb with rfl | hx
          · unfold bad at hb; omega
          · exact h.pos x hx
        · have h1 := insK_len k K
          have h2 := h.le
          unfold mputK
          rw [if_neg hb]
          split
          · simp; omega
          · omega

/-- Near's answer, part by part. -/
def nearS (f : Int → Value) : Option Int → Value
  | none => .slice none 0 0
  | some a => f a
theorem nearV_eq (f : Int → Value) (q : Option Int) : nearV f q = .tuple #[.int .i64 (optI q), nearS f q, .bool q.isSome] := by cases q <;> rfl
def iv (xs : List Int) : List Value := xs.map fun x => .int .i64 x
theorem iv_rows (xs : List Int) : iv xs = (iRows xs).flatten := by
  induction xs with
  | nil => rfl
  | cons x xs ih => simp [iRows, iv] at *; exact ih
theorem iv_one (xs : List Int) : ∀ u ∈ iv xs, u.oneCell' = true := by
  intro u hu
  obtain ⟨x, _, rfl⟩ := List.mem_map.1 hu
  rfl
theorem belowK_hit (K : List Int) (k : Int) (j : Nat) (x : Int) (hx : K[j]? = some x) (h : k ≤ x) : belowK (K.take (j + 1)) k = belowK (K.take j) k ++ [x] := by
  unfold belowK
  rw [List.take_add_one, hx, List.filter_append]
  simp [h]
theorem belowK_miss (K : List Int) (k : Int) (j : Nat) (x : Int) (hx : K[j]? = some x) (h : ¬ k ≤ x) : belowK (K.take (j + 1)) k = belowK (K.take j) k := by
  unfold belowK
  rw [List.take_add_one, hx, List.filter_append]
  simp [h]
theorem belowK_len (K : List Int) (k : Int) : (belowK K k).length ≤ K.length := List.length_filter_le _ _
def bestI (o : Option Int) : Int := o.getD (-1)
theorem i64Info : (Try.prog.info? 2).map (fun i => (i.zero, i.size, i.bytes)) = some (some (.int .i64 0), 1, 8) := by kernel_rfl
theorem i64Parts : ∃ i, Try.prog.info? 2 = some i ∧ i.zero = some (.int .i64 0) ∧ i.size = 1 ∧ i.bytes = 8 := by
  have h1 := i64Info
  cases h : Try.prog.info? 2 with
  | none => rw [h] at h1; cases h1
  | some i =>
    rw [h] at h1
    simp only [Option.map_some, Option.some.injEq, Prod.mk.injEq] at h1
    exact ⟨i, rfl, h1.1, h1.2.1, h1.2.2⟩

set_option maxRecDepth 100000 in
set_option maxHeartbeats 4000000 in
theorem marksNear_any (c p a2 b2 : Int) (A : Option Addr) (n cc : Nat) (l : List A25) (w : World) (hc0 : -9223372036854775808 ≤ c) (hc1 : c ≤ 9223372036854775807) (hp0 : -9223372036854775808 ≤ p) (hp1 : p ≤ 9223372036854775807)
    (hx : Rd w (Old w) 3 A n cc (a25Rows l)) (hl : ∀ x ∈ l, x.ok) :
    Calls Try.prog 11 #[.int .i64 c, .int .i64 p, .slice A n cc, .int .i64 a2, .int .i64 b2] w fun e w' => e = .returned (.bool true) ∧ Below w.heap.size w w' := by
  have hlen : l.length = n := by have := hx.len; simpa [a25Rows] using this
  have hn : n ≤ 9223372036854775807 := by have h1 := hx.le; have h2 := hx.max; unfold maxLen at h2; omega
  have HX := Lib.hid hx
  have H2 := Lib.hid hl
  have H3 := Lib.hid hlen
  clear hx hl hlen
  by_cases h200 : 200 < n
  · have q : (200 : Int) < (n : Int) := by omega
    go_enter Try.func11, Try.ntmps11
    go_wp2_with fail
    refine (awake25_any _).mono ?_
    rintro e w11 ⟨rfl, B11⟩
    go_wp2
    go_ret
    exact ⟨rfl, B11⟩
  have q : ¬ (200 : Int) < (n : Int) := by omega
  have HN := Lib.hid (fun f => marksNew_any c p w hc0 hc1 hp0 hp1 f)
  obtain ⟨most, hmost⟩ : ∃ m, m = mostOf c p := ⟨_, rfl⟩
  obtain ⟨per, hperE⟩ : ∃ m, m = perOf p := ⟨_, rfl⟩
  have hm := mostOf_le c p
  have hper := perOf_pos p
  rw [← hmost] at hm
  rw [← hperE] at hper
  rw [← hmost, ← hperE] at HN
  clear hmost hperE hc0 hc1 hp0 hp1
  go_enter Try.func11, Try.ntmps11
  go_wp2_with fail
  refine (HN.out (fun _ => undef)).mono ?_
  rintro e w1 ⟨rfl, hm1, hb1, -⟩
  have K1 : RowKit.Hid (MS w w1 most per [] (fun x => x)) := ⟨⟨_, hm1, fun x hx => by simp at hx⟩, hb1⟩
  clear hm1 hb1 HN
  go_wp2
  go_loopw [12] (fun i wr => ∃ j : Nat, j ≤ n ∧ i = .int .i64 (j : Int) ∧ RowKit.Hid (∃ K N, MS w wr most per K N ∧ KOk most per K ∧ K.length ≤ j)) (fun i _ => n - (RowKit.intOf i).toNat)
  case atStart => exact ⟨0, Nat.zero_le _, rfl, _, _, K1.out, ⟨by simp, by simp⟩, by simp⟩
  case round =>
    clear K1
    obtain ⟨j, hj, rfl, hst⟩ := hrel
    obtain ⟨K, N, hst, hok, hKj⟩ := hst.out
    have MS1 := Lib.hid hst
    have KO := Lib.hid hok
    clear hst hok
    by_cases hlt : j < n
    · have q1 : (j : Int) < (n : Int) := by omega
      obtain ⟨b, off, hA, hb, hcell⟩ := a25_at HX.out (by omega)
      obtain ⟨a, hak⟩ : ∃ a, l[j]? = some a := ⟨_, List.getElem?_eq_getElem (by rw [H3.out]; exact hlt)⟩
      have hok := H2.out a (List.mem_of_getElem? hak)
      have cx0 := below_cell MS1.out.below (hcell j a hak).1
      have cx1 := below_cell MS1.out.below (hcell j a hak).2.1
      have cx2 := below_cell MS1.out.below (hcell j a hak).2.2
      subst hA
      have OK := Lib.hid hok
      clear hcell hak hok
      go_wp2_with fail
      refine (Do25_any w most per K N a.d a.k a.n _ MS1.out hper OK.out.1 OK.out.2.1.2 (by omega)).mono ?_
      rintro e w2 ⟨rfl, hms⟩
      have MS2 := Lib.hid hms
      clear hms
      go_wp2
      go_roundw
      case rel => exact ⟨j + 1, by omega, by go_num, _, _, MS2.out, KO.out.act _ _, by have := doK_len most per K (a.d % 6) a.k; omega⟩
      case measure => simp [RowKit.intOf]; omega
    · have hjn : j = n := by omega
      subst hjn
      have hK2 : K.length ≤ 200 := by omega
      obtain ⟨f, hmk, hv⟩ := MS1.out.ex
      have KM := Lib.hid hmk
      have KB := Lib.hid MS1.out.below
      clear hmk hv MS1
      go_wp2_with fail
      refine (mkeys_any _ _ most per K f _ KM.out (by omega)).mono ?_
      rintro e w2 ⟨A2, c2, rfl, hr2, hb2⟩
      have B2' := Lib.hid KM.out.lt.2
      have R2 := Lib.hid hr2
      have M2 := Lib.hid (KM.out.below hb2)
      have B2 := Lib.hid (KB.out.trans (hb2.mono KB.out.size))
      clear hr2 hb2 KM KB
      go_wp2_with fail
      refine (mnear_any _ _ most per K f a2 _ M2.out (by omega)).mono ?_
      rintro e w3 ⟨rfl, hb3⟩
      rw [nearV_eq]
      obtain ⟨q2, hq2⟩ : ∃ q, q = nearK K a2 := ⟨_, rfl⟩
      rw [← hq2]
      have HQ := Lib.hid hq2
      have R3 := Lib.hid (R2.out.below hb3)
      have M3 := Lib.hid (M2.out.below hb3)
      have B3 := Lib.hid (B2.out.trans (hb3.mono B2.out.size))
      clear hb3 hq2 R2 M2 B2
      go_wp2
      go_loop [17, 18] (fun x i => ∃ (j2 : Nat) (o : Option Int), j2 ≤ K.length ∧ i = .int .i64 (j2 : Int) ∧ x = .int .i64 (bestI o) ∧ RowKit.Hid (nearK (K.take j2) a2 = o)) (fun _ i => K.length - (RowKit.intOf i).toNat)
      case atStart => exact ⟨0, none, Nat.zero_le _, rfl, rfl, rfl⟩
      case round =>
        obtain ⟨j2, o, hj2, rfl, rfl, ho⟩ := hrel
        by_cases hlt2 : j2 < K.length
        · have q1 : (j2 : Int) < (K.length : Int) := by omega
          obtain ⟨b3, o3, rfl, hD, hc3⟩ := iRows_at R3.out (by omega)
          obtain ⟨x, hxk⟩ : ∃ x, K[j2]? = some x := ⟨_, List.getElem?_eq_getElem hlt2⟩
          have cx := hc3 j2 x hxk
          have XK := Lib.hid hxk
          clear hc3 hxk
          by_cases hxa : x ≤ a2
          · go_wp2
            go_round
            case rel => exact ⟨j2 + 1, some x, by omega, by go_num, rfl, nearK_hit K a2 j2 x XK.out hxa⟩
            case measure => simp [RowKit.intOf]; omega
          · go_wp2
            go_round
            case rel => exact ⟨j2 + 1, o, by omega, by go_num, rfl, (nearK_miss K a2 j2 x XK.out hxa).trans ho.out⟩
            case measure => simp [RowKit.intOf]; omega
        · have hjk : j2 = K.length := by omega
          subst hjk
          have ho' : RowKit.Hid (o = q2) := by show _ = _; have := ho.out; rw [List.take_length] at this; rw [HQ.out, this]
          obtain rfl := ho'.out
          clear ho ho'
          have hbst : RowKit.Hid (∀ a, o = some a → 0 ≤ a) := fun a ha => by
            rw [HQ.out] at ha
            exact (KO.out.pos a (nearK_mem ha).1).1
          go_upto_region 16 with fail
          go_cut [76] (fun s wx => s = .bool false ∧ wx = w3)
          case first =>
            cases o with
            | none =>
              simp only [optI, bestI, Option.getD_none, Option.isSome_none]
              go_wp2
              go_meet
              exact ⟨rfl, rfl⟩
            | some a =>
              have h0 := hbst.out a rfl
              have h1 : (a != a) = false := by simp
              simp only [optI, bestI, Option.getD_some, Option.isSome_some]
              go_wp2
              go_meet
              exact ⟨rfl, rfl⟩
          case rest =>
            obtain ⟨rfl, rfl⟩ := hcut
            go_wp2_with fail
            refine (mbelow_any _ _ most per K f b2 _ M3.out (by omega)).mono ?_
            rintro e w4 ⟨rfl, hm4, hc4⟩
            have M4 := Lib.hid hm4
            have R4 := Lib.hid (R3.out.chg hc4 (fun b h1 h2 => by have := M3.out.lt; have := B2'.out; have h3 : _ ≤ b := h1; omega))
            have B4 := Lib.hid (B3.out.trans (hc4.below B3.out.size (fun k hk => by omega)))
            clear hm4 hc4 R3 M3 B3
            go_wp2
            obtain ⟨i0, hi, hz, hz1, hz2⟩ := i64Parts
            go_loopw [19, 20] (fun v i wr => ∃ j3 : Nat, j3 ≤ K.length ∧ i = .int .i64 (j3 : Int) ∧ RowKit.Hid (wr.ownsRow w4.heap.size 2 1 v (belowK (K.take j3) b2).length (iv (belowK (K.take j3) b2))) ∧ RowKit.Hid (Below w4.heap.size w4 wr)) (fun _ i _ => K.length - (RowKit.intOf i).toNat)
            case atStart => exact ⟨0, Nat.zero_le _, rfl, World.ownsRow_nil _ _ _ _, Below.refl _ _⟩
            case round =>
              obtain ⟨j3, hj3, rfl, hown, hb5⟩ := hrel
              by_cases hlt3 : j3 < K.length
              · have q1 : (j3 : Int) < (K.length : Int) := by omega
                obtain ⟨b3, o3, rfl, hD, hc3⟩ := iRows_at R4.out (by omega)
                obtain ⟨x, hxk⟩ : ∃ x, K[j3]? = some x := ⟨_, List.getElem?_eq_getElem hlt3⟩
                have cx := below_cell hb5.out (hc3 j3 x hxk)
                have XK := Lib.hid hxk
                have hbl := belowK_len (K.take j3) b2
                rw [List.length_take] at hbl
                clear hc3 hxk
                by_cases hxa : b2 ≤ x
                · have HS := hb5.out.size
                  go_wp2_with (at_builtin; refine wpList_append_own _ rfl (.tmp 92) (.tmp 97) 37 rfl w4.heap.size 2 i0 (.int .i64 0) 1 8 Try.underlying37 hi hz hz1 hz2 rfl (by decide) _ _ _ rfl (World.ownsRow.alloc hown.out _) ⟨wr.heap.size, 0, none⟩ 1 1 [.int .i64 x] rfl rfl (cell_one_new _ _ _) (by intro u hu; simp at hu; subst hu; rfl) (by unfold maxLen; omega) (by omega) (by simp; omega) ?_; intro v5 w5 hown5 hgrow5 _)
                  have e1 := belowK_hit K b2 j3 x XK.out hxa
                  have hown6 : w5.ownsRow w4.heap.size 2 1 v5 (belowK (K.take (j3 + 1)) b2).length (iv (belowK (K.take (j3 + 1)) b2)) := by
                    rw [e1]
                    simpa [iv] using hown5
                  have O6 := Lib.hid hown6
                  have B6 : RowKit.Hid (Below w4.heap.size w4 w5) := (hb5.out.alloc HS _).grown hgrow5 (by simp; omega) (fun j hj => (hown.out.lt j hj).1)
                  clear hown5 hown6 hgrow5 e1
                  go_wp2
                  go_roundw
                  case rel => exact ⟨j3 + 1, by omega, by go_num, O6.out, B6.out⟩
                  case measure => simp [RowKit.intOf]; omega
                · have e1 := belowK_miss K b2 j3 x XK.out hxa
                  have O6 : RowKit.Hid (wr.ownsRow w4.heap.size 2 1 u19 (belowK (K.take (j3 + 1)) b2).length (iv (belowK (K.take (j3 + 1)) b2))) := by show World.ownsRow _ _ _ _ _ _ _; rw [e1]; exact hown.out
                  clear e1
                  go_wp2
                  go_roundw
                  case rel => exact ⟨j3 + 1, by omega, by go_num, O6.out, hb5.out⟩
                  case measure => simp [RowKit.intOf]; omega
              · have hjk3 : j3 = K.length := by omega
                subst hjk3
                have hown' := hown.out
                rw [List.take_length, iv_rows] at hown'
                obtain ⟨A9, c9, rfl, hr9⟩ := Rd.of_own hown' (iRows_len _) (iRows_ok _)
                have R9 := Lib.hid hr9
                have M9 := Lib.hid (M4.out.below hb5.out)
                have B9 := Lib.hid (B4.out.trans (hb5.out.mono B4.out.size))
                have hbl := belowK_len K b2
                clear hown hown' hr9 hb5 M4 R4
                go_wp2_with fail
                refine (mkeys_any _ _ most per (belowK K b2) f _ M9.out (by omega)).mono ?_
                rintro e w6 ⟨A6, c6, rfl, hr6, hb6⟩
                have R6 := Lib.hid hr6
                have R9' := Lib.hid (R9.out.below hb6)
                have M6 := Lib.hid (M9.out.below hb6)
                have B6 := Lib.hid (B9.out.trans (hb6.mono B9.out.size))
                clear hr6 hb6 R9 M9 B9
                go_wp2_with fail
                refine (numbers25_any _ _ _ _ _ _ (belowK K b2) (belowK K b2) _ _ _ R6.out R9'.out true (decide_eq_true rfl).symm).mono ?_
                rintro e w7 ⟨rfl, hb7⟩
                have M7 := Lib.hid (M6.out.below hb7)
                have B7 := Lib.hid (B6.out.trans (hb7.mono B6.out.size))
                clear hb7 M6 B6 R6 R9'
                go_wp2_with fail
                refine (mclear_any _ _ most per (belowK K b2) f _ M7.out).mono ?_
                rintro e w8 ⟨rfl, hm8, hc8⟩
                have M8 := Lib.hid hm8
                have B8 := Lib.hid (B7.out.trans (hc8.below B7.out.size (fun k hk => by omega)))
                clear hm8 hc8 M7 B7
                go_wp2_with fail
                refine (mlen_any _ _ most per [] f _ M8.out (by simp)).mono ?_
                rintro e w10 ⟨rfl, hb10⟩
                have B10 := Lib.hid (B8.out.trans (hb10.mono B8.out.size))
                clear hb10 M8 B8
                go_wp2_with fail
                refine (awake25_any _).mono ?_
                rintro e w11 ⟨rfl, B11⟩
                go_wp2
                go_ret
                exact ⟨rfl, B10.out.trans (B11.mono B10.out.size)⟩
end Go.Proofs.Ytochdmbjlemfoaa
