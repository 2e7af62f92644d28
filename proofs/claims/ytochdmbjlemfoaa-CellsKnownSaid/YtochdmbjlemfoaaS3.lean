/-
  The contract of anamnesisref19.Same: two things are the same just if they read so. Of any two that can be read.
-/
import Derived.Test.YtochdmbjlemfoaaS2
import Derived.Deep.DeepCutAuto
import Derived.Deep.RegionHeld3
namespace Go.Proofs.Ytochdmbjlemfoaa
open Go Go.RowKit

theorem cellsAt {w : World} {b : Nat} {cs : Array Value} {t : TypeId} {fr : Nat × Nat} (h : w.heap[b]? = some (.cells cs t fr)) : ∀ i, w.cell? ⟨b, i, none⟩ = cs[i]? := fun i => cell_of_row w b i cs t fr h
/-- Four blocks known whole, kept together. -/
structure Four (w : World) (B : Nat) (o1 o2 o3 o4 : Obj) (p q : Nat) : Prop where
  a : w.heap[B]? = some o1
  b : w.heap[B + 1]? = some o2
  p : w.heap[p]? = some o3
  q : w.heap[q]? = some o4
theorem Four.below {w w' : World} {B : Nat} {o1 o2 o3 o4 : Obj} {p q : Nat} (h : Four w B o1 o2 o3 o4 p q) (hb : Below w.heap.size w w') : Four w' B o1 o2 o3 o4 p q :=
  ⟨(hb.block _ (lt_of_block h.a)).trans h.a, (hb.block _ (lt_of_block h.b)).trans h.b, (hb.block _ (lt_of_block h.p)).trans h.p, (hb.block _ (lt_of_block h.q)).trans h.q⟩

/-- What stands still while the instructions are compared: the two boxes, and all that was there. -/
structure SameL (w wr : World) (AL BL : Array Value) : Prop where
  a : wr.heap[w.heap.size]? = some (.cells AL 45 (0, 0))
  b : wr.heap[w.heap.size + 1]? = some (.cells BL 45 (0, 0))
  below : Below w.heap.size w wr
theorem SameL.next {w wr wr' : World} {AL BL : Array Value} (h : SameL w wr AL BL) (hb : Below wr.heap.size wr wr') : SameL w wr' AL BL :=
  ⟨(hb.block _ (lt_of_block h.a)).trans h.a, (hb.block _ (lt_of_block h.b)).trans h.b, h.below.trans (hb.mono h.below.size)⟩
/-- A row of eight cells, read out one by one. -/
theorem eight {w : World} {b o : Nat} {e : List Value} {x0 x1 x2 x3 x4 x5 x6 x7 : Value} (he : e = [x0, x1, x2, x3, x4, x5, x6, x7]) (h : ∀ k u, e[k]? = some u → w.cell? ⟨b, o + k, none⟩ = some u) :
    w.cell? ⟨b, o, none⟩ = some x0 ∧ w.cell? ⟨b, o + 1, none⟩ = some x1 ∧ w.cell? ⟨b, o + 2, none⟩ = some x2 ∧ w.cell? ⟨b, o + 3, none⟩ = some x3 ∧ w.cell? ⟨b, o + 4, none⟩ = some x4 ∧ w.cell? ⟨b, o + 5, none⟩ = some x5 ∧
    w.cell? ⟨b, o + 6, none⟩ = some x6 ∧ w.cell? ⟨b, o + 7, none⟩ = some x7 := by
  subst he
  exact ⟨h 0 x0 rfl, h 1 x1 rfl, h 2 x2 rfl, h 3 x3 rfl, h 4 x4 rfl, h 5 x5 rfl, h 6 x6 rfl, h 7 x7 rfl⟩

set_option maxRecDepth 100000 in
set_option maxHeartbeats 4000000 in
theorem rsame_raw (D D' : Nat → Prop) (k1 k2 n1 n2 v1 v2 : Int) (s1 s2 a1 a2 a3 a4 c1 c2 c3 c4 : ByteArray) (bv bv' : Bool) (V V' : VD) (P1 P2 Q1 Q2 : List ByteArray) (O O' : List OD)
    (S1 S2 L1 L2 O1 X1 X2 Y1 Y2 O2 : Option Addr) (sn1 sc1 sn2 sc2 ln1 lc1 ln2 lc2 on1 oc1 xn1 xc1 xn2 xc2 yn1 yc1 yn2 yc2 on2 oc2 : Nat) (oes oes' : List (List Value)) (w : World)
    (hV : VIs w D [.bool bv, .slice S1 sn1 sc1, .slice S2 sn2 sc2] V) (hV' : VIs w D' [.bool bv', .slice X1 xn1 xc1, .slice X2 xn2 xc2] V')
    (hP1 : Rd w D 1 L1 ln1 lc1 (strRows P1)) (hP2 : Rd w D 1 L2 ln2 lc2 (strRows P2)) (hQ1 : Rd w D' 1 Y1 yn1 yc1 (strRows Q1)) (hQ2 : Rd w D' 1 Y2 yn2 yc2 (strRows Q2))
    (hO : Rd w D 8 O1 on1 oc1 oes) (hO' : Rd w D' 8 O2 on2 oc2 oes') (hOn : oes.length = O.length) (hOn' : oes'.length = O'.length)
    (hOi : ∀ (i : Nat) oe o, oes[i]? = some oe → O[i]? = some o → OIs w D oe o) (hOi' : ∀ (i : Nat) oe o, oes'[i]? = some oe → O'[i]? = some o → OIs w D' oe o)
    (res : Bool) (hres : res = decide ((⟨k1, V, ⟨a1, a2, a3, a4, P1, P2, v1⟩, O, n1, s1⟩ : TD) = ⟨k2, V', ⟨c1, c2, c3, c4, Q1, Q2, v2⟩, O', n2, s2⟩)) :
    Calls Try.prog 60 #[.agg #[.int .u8 k1, .bool bv, .slice S1 sn1 sc1, .slice S2 sn2 sc2, .string a1, .string a2, .string a3, .string a4, .slice L1 ln1 lc1, .slice L2 ln2 lc2, .int .i64 v1, .slice O1 on1 oc1, .int .i64 n1, .string s1],
      .agg #[.int .u8 k2, .bool bv', .slice X1 xn1 xc1, .slice X2 xn2 xc2, .string c1, .string c2, .string c3, .string c4, .slice Y1 yn1 yc1, .slice Y2 yn2 yc2, .int .i64 v2, .slice O2 on2 oc2, .int .i64 n2, .string s2]] w
      fun e w' => e = .returned (.bool res) ∧ Below w.heap.size w w' := by
  obtain ⟨AL, hAL⟩ : ∃ AL : Array Value, AL = #[.int .u8 k1, .bool bv, .slice S1 sn1 sc1, .slice S2 sn2 sc2, .string a1, .string a2, .string a3, .string a4, .slice L1 ln1 lc1, .slice L2 ln2 lc2, .int .i64 v1, .slice O1 on1 oc1, .int .i64 n1, .string s1] := ⟨_, rfl⟩
  obtain ⟨BL, hBL⟩ : ∃ BL : Array Value, BL = #[.int .u8 k2, .bool bv', .slice X1 xn1 xc1, .slice X2 xn2 xc2, .string c1, .string c2, .string c3, .string c4, .slice Y1 yn1 yc1, .slice Y2 yn2 yc2, .int .i64 v2, .slice O2 on2 oc2, .int .i64 n2, .string s2] := ⟨_, rfl⟩
  obtain ⟨AF, hAF⟩ : ∃ AF : Array Value, AF = #[.string a1, .string a2, .string a3, .string a4, .slice L1 ln1 lc1, .slice L2 ln2 lc2, .int .i64 v1] := ⟨_, rfl⟩
  obtain ⟨BF, hBF⟩ : ∃ BF : Array Value, BF = #[.string c1, .string c2, .string c3, .string c4, .slice Y1 yn1 yc1, .slice Y2 yn2 yc2, .int .i64 v2] := ⟨_, rfl⟩
  have HA := Lib.hid hAL
  have HB := Lib.hid hBL
  have HAF := Lib.hid hAF
  have HBF := Lib.hid hBF
  have HRES := Lib.hid hres
  have J1 := Lib.hid hV
  have J2 := Lib.hid hV'
  have J3 := Lib.hid hP1
  have J4 := Lib.hid hP2
  have J5 := Lib.hid hQ1
  have J6 := Lib.hid hQ2
  have J7 := Lib.hid hO
  have J8 := Lib.hid hO'
  have J9 := Lib.hid hOn
  have J10 := Lib.hid hOn'
  have J11 := Lib.hid hOi
  have J12 := Lib.hid hOi'
  clear hAL hBL hAF hBF hV hV' hP1 hP2 hQ1 hQ2 hO hO' hOn hOn' hOi hOi' hres
  go_enter Try.func60, Try.ntmps60
  go_upto_region 1 with fail
  go_cut [5, 6] (fun s5 s6 wx => ∃ p q : Nat, s5 = .pointer (some ⟨p, 0, none⟩) ∧ s6 = .pointer (some ⟨q, 0, none⟩) ∧ Below w.heap.size w wx ∧
    Four wx w.heap.size (.cells AL 45 (0, 0)) (.cells BL 45 (0, 0)) (.cells AF 42 (0, 0)) (.cells BF 42 (0, 0)) p q)
  case first =>
    go_region
    all_goals go_wp2
    all_goals go_meet
    · rw [HA.out, HB.out, HAF.out, HBF.out]
      exact ⟨_, _, rfl, rfl, (al4_below w _ _ _ _).drew, (al4 w _ _ _ _).1, (al4 w _ _ _ _).2.1, (al4 w _ _ _ _).2.2.1, (al4 w _ _ _ _).2.2.2⟩
    · rw [HA.out, HB.out, HAF.out, HBF.out]
      exact ⟨_, _, rfl, rfl, (al4_below w _ _ _ _).drew, (al4 w _ _ _ _).1, (al4 w _ _ _ _).2.1, (al4 w _ _ _ _).2.2.2, (al4 w _ _ _ _).2.2.1⟩
  case rest =>
    obtain ⟨p, q, rfl, rfl, hb, h4⟩ := hcut
    have HH := Lib.hid h4
    have HW := Lib.hid hb
    have e1 := cellsAt h4.a
    have e2 := cellsAt h4.b
    rw [HA.out] at e1
    rw [HB.out] at e2
    clear h4 hb
    by_cases hk : k1 = k2 ∧ n1 = n2 ∧ s1 = s2 ∧ V = V' ∧ on1 = on2
    · obtain ⟨rfl, rfl, rfl, hv, rfl⟩ := hk
      have hv' : decide (V = V') = true := by simp [hv]
      have HV := Lib.hid hv
      clear hv
      go_wp2_with fail
      refine (vsame_any D D' [.bool bv, .slice S1 sn1 sc1, .slice S2 sn2 sc2] [.bool bv', .slice X1 xn1 xc1, .slice X2 xn2 xc2] V V' _ (J1.out.below HW.out) (J2.out.below HW.out)).mono ?_
      rintro e w1 ⟨rfl, hb1⟩
      have h41 := HH.out.below hb1
      have f1 := cellsAt h41.a
      have f2 := cellsAt h41.b
      have g1 := cellsAt h41.p
      have g2 := cellsAt h41.q
      rw [HA.out] at f1
      rw [HB.out] at f2
      rw [HAF.out] at g1
      rw [HBF.out] at g2
      have HH1 := Lib.hid h41
      have HW1 := Lib.hid (HW.out.trans (hb1.mono HW.out.size))
      clear h41 hb1 e1 e2 HH HW
      go_upto_region 4 with fail
      by_cases hf : a1 = c1 ∧ a2 = c2 ∧ a3 = c3 ∧ a4 = c4 ∧ v1 = v2 ∧ P1 = Q1 ∧ P2 = Q2
      · obtain ⟨rfl, rfl, rfl, rfl, rfl, hp1, hp2⟩ := hf
        have hp1' : decide (P1 = Q1) = true := by simp [hp1]
        have hp2' : decide (P2 = Q2) = true := by simp [hp2]
        have HP1 := Lib.hid hp1
        have HP2 := Lib.hid hp2
        clear hp1 hp2
        go_wp2_with fail
        refine (texts_any L1 Y1 ln1 lc1 yn1 yc1 P1 Q1 D D' _ (J3.out.below HW1.out) (J5.out.below HW1.out)).mono ?_
        rintro e w2 ⟨rfl, x2, rfl⟩
        go_wp2_with fail
        refine (texts_any L2 Y2 ln2 lc2 yn2 yc2 P2 Q2 D D' _ (J4.out.below (below_drewN HW1.out _)) (J6.out.below (below_drewN HW1.out _))).mono ?_
        rintro e w3 ⟨rfl, x3, rfl⟩
        have hbo : on1 ≤ 9223372036854775807 := by have h1 := J7.out.le; have h2 := J7.out.max; unfold maxLen at h2; omega
        have H0 : RowKit.Hid (SameL w (w1.drewN (x2 + x3)) AL BL) := ⟨HH1.out.a, HH1.out.b, below_drewN HW1.out _⟩
        go_wp2
        clear f1 f2 g1 g2 hp1' hp2' hv' HH1 HW1
        go_loopw [7] (fun i wr => ∃ k : Nat, k ≤ on1 ∧ i = .int .i64 (k : Int) ∧ RowKit.Hid (SameL w wr AL BL) ∧ RowKit.Hid (O.take k = O'.take k)) (fun i _ => on1 - (intOf i).toNat)
        case atStart => exact ⟨0, Nat.zero_le _, rfl, H0, rfl⟩
        case round =>
          obtain ⟨k, hk, rfl, hs, ht⟩ := hrel
          have e1 := cellsAt hs.out.a
          have e2 := cellsAt hs.out.b
          rw [HA.out] at e1
          rw [HB.out] at e2
          by_cases hlt : k < on1
          · obtain ⟨b, off, hA, -, hc⟩ := J7.out.at_ (by omega)
            obtain ⟨b', off', hB, -, hc'⟩ := J8.out.at_ (by omega)
            obtain ⟨oe, hoe⟩ : ∃ x, oes[k]? = some x := ⟨_, List.getElem?_eq_getElem (by rw [J7.out.len]; exact hlt)⟩
            obtain ⟨oe', hoe'⟩ : ∃ x, oes'[k]? = some x := ⟨_, List.getElem?_eq_getElem (by rw [J8.out.len]; exact hlt)⟩
            obtain ⟨o, ho⟩ : ∃ x, O[k]? = some x := ⟨_, List.getElem?_eq_getElem (by rw [← J9.out, J7.out.len]; exact hlt)⟩
            obtain ⟨o', ho'⟩ : ∃ x, O'[k]? = some x := ⟨_, List.getElem?_eq_getElem (by rw [← J10.out, J8.out.len]; exact hlt)⟩
            have hois := J11.out k oe o hoe ho
            have hois' := J12.out k oe' o' hoe' ho'
            obtain ⟨vs, hoeq, hvs⟩ := hois
            obtain ⟨vs', hoeq', hvs'⟩ := hois'
            have hvs2 := hvs
            have hvs2' := hvs'
            obtain ⟨VA, vn, vc, VA', vn', vc', rfl, -, -⟩ := hvs2
            obtain ⟨WA, wn, wk, WA', wn', wk', rfl, -, -⟩ := hvs2'
            have X := eight (b := b) (o := off + k * 8) (w := wr) (by simpa using hoeq) (fun j u hj => by rw [Nat.add_assoc]; exact hs.out.below.cell (p := ⟨b, off + (k * 8 + j), none⟩) (World.block_lt_of_cell? _ _ (hc k oe hoe j u hj)) ▸ hc k oe hoe j u hj)
            have X' := eight (b := b') (o := off' + k * 8) (w := wr) (by simpa using hoeq') (fun j u hj => by rw [Nat.add_assoc]; exact hs.out.below.cell (p := ⟨b', off' + (k * 8 + j), none⟩) (World.block_lt_of_cell? _ _ (hc' k oe' hoe' j u hj)) ▸ hc' k oe' hoe' j u hj)
            obtain ⟨z0, z1, z2, z3, z4, z5, z6, z7⟩ := X
            obtain ⟨z0', z1', z2', z3', z4', z5', z6', z7'⟩ := X'
            have y1 : b < wr.heap.size := World.block_lt_of_cell? wr _ z0
            have y2 : b' < wr.heap.size := World.block_lt_of_cell? wr _ z0'
            have y3 : w.heap.size < wr.heap.size := lt_of_block hs.out.a
            have y4 : w.heap.size + 1 < wr.heap.size := lt_of_block hs.out.b
            have Ho := Lib.hid ho
            have Ho' := Lib.hid ho'
            have Hv := Lib.hid hvs
            have Hv' := Lib.hid hvs'
            clear hc hc' hoe hoe' hoeq hoeq' ho ho' hvs hvs'
            subst hA hB
            have h1 : (k : Int) < (on1 : Int) := by omega
            have h2 : (0 : Int) ≤ (k : Int) := by omega
            go_upto_region 9 with fail
            go_cut [8, 9] (fun s8 s9 wx => ∃ p q : Nat, s8 = .pointer (some ⟨p, 0, none⟩) ∧ s9 = .pointer (some ⟨q, 0, none⟩) ∧ wx.heap[p]? = some (.cells #[.int .u8 o.kind, .string o.fn, .string o.name, .bool o.v.char, .slice VA vn vc, .slice VA' vn' vc', .int .i64 o.n, .bool o.axis] 139 (0, 0)) ∧
              wx.heap[q]? = some (.cells #[.int .u8 o'.kind, .string o'.fn, .string o'.name, .bool o'.v.char, .slice WA wn wk, .slice WA' wn' wk', .int .i64 o'.n, .bool o'.axis] 139 (0, 0)) ∧ RowKit.Hid (SameL w wx AL BL))
            case first =>
              go_region
              all_goals go_wp2
              all_goals go_meet
              · exact ⟨_, _, rfl, rfl, heap_alloc2_old wr _ _, heap_alloc2_new wr _ _, Lib.hid (hs.out.next (((Below.refl _ wr).alloc (Nat.le_refl _) _).alloc (by simp) _).drew)⟩
              · exact ⟨_, _, rfl, rfl, heap_alloc2_new wr _ _, heap_alloc2_old wr _ _, Lib.hid (hs.out.next (((Below.refl _ wr).alloc (Nat.le_refl _) _).alloc (by simp) _).drew)⟩
            case rest =>
              obtain ⟨p2, q2, rfl, rfl, hp2, hq2, hs2⟩ := hcut
              clear e1 e2 z0 z1 z2 z3 z4 z5 z6 z7 z0' z1' z2' z3' z4' z5' z6' z7' y1 y2 y3 y4
              have g1 := cellsAt hp2
              have g2 := cellsAt hq2
              have HE1 := Lib.hid hp2
              have HE2 := Lib.hid hq2
              clear hp2 hq2
              by_cases heq : o = o'
              · subst heq
                have hv' : decide (o.v = o.v) = true := by simp
                go_wp2_with fail
                refine (vsame_any D D' [.bool o.v.char, .slice VA vn vc, .slice VA' vn' vc'] [.bool o.v.char, .slice WA wn wk, .slice WA' wn' wk'] o.v o.v _ (Hv.out.below hs2.out.below) (Hv'.out.below hs2.out.below)).mono ?_
                rintro e w4 ⟨rfl, hb4⟩
                have hs4 := Lib.hid (hs2.out.next hb4)
                clear hb4
                go_wp2
                go_roundw
                case rel => exact ⟨k + 1, by omega, by go_num, hs4, take_step ht.out Ho.out Ho'.out⟩
                case measure => simp [intOf]; omega
              · have fin : ¬ ((⟨k1, V, ⟨a1, a2, a3, a4, P1, P2, v1⟩, O, n1, s1⟩ : TD) = ⟨k1, V', ⟨a1, a2, a3, a4, Q1, Q2, v1⟩, O', n1, s1⟩) := fun h => ne_at Ho.out Ho'.out heq (congrArg TD.ops h)
                have FIN := Lib.hid (HRES.out.trans (decide_eq_false fin))
                clear fin
                by_cases t1 : o.kind = o'.kind
                · by_cases t2 : o.fn = o'.fn
                  · by_cases t3 : o.name = o'.name
                    · by_cases t4 : o.n = o'.n
                      · by_cases t5 : o.axis = o'.axis
                        · have t6 : decide (o.v = o'.v) = false := decide_eq_false (fun h => heq (by cases o; cases o'; simp_all))
                          clear heq
                          go_wp2_with fail
                          refine (vsame_any D D' [.bool o.v.char, .slice VA vn vc, .slice VA' vn' vc'] [.bool o'.v.char, .slice WA wn wk, .slice WA' wn' wk'] o.v o'.v _ (Hv.out.below hs2.out.below) (Hv'.out.below hs2.out.below)).mono ?_
                          rintro e w4 ⟨rfl, hb4⟩
                          have hs4 := Lib.hid (hs2.out.next hb4)
                          clear hb4
                          go_wp2
                          go_ret
                          exact ⟨by rw [FIN.out]; rfl, hs4.out.below⟩
                        · have t5' : o'.axis = !o.axis := by cases h1 : o.axis <;> cases h2 : o'.axis <;> simp_all
                          clear heq t5
                          cases h5 : o.axis
                          all_goals
                            rw [h5] at t5'
                            simp only [Bool.not_false, Bool.not_true] at t5'
                            rw [h5] at g1
                            rw [t5'] at g2
                            clear t5' h5
                            go_wp2
                            go_ret
                            exact ⟨by rw [FIN.out]; rfl, hs2.out.below⟩
                      · have t4' : (o.n == o'.n) = false := by simpa using t4
                        clear heq
                        go_wp2
                        go_ret
                        exact ⟨by rw [FIN.out]; rfl, hs2.out.below⟩
                    · have t3' := str_ne t3
                      clear heq t3
                      go_wp2
                      go_ret
                      exact ⟨by rw [FIN.out]; rfl, hs2.out.below⟩
                  · have t2' := str_ne t2
                    clear heq t2
                    go_wp2
                    go_ret
                    exact ⟨by rw [FIN.out]; rfl, hs2.out.below⟩
                · have t1' : (o.kind == o'.kind) = false := by simpa using t1
                  clear heq
                  go_wp2
                  go_ret
                  exact ⟨by rw [FIN.out]; rfl, hs2.out.below⟩
          · have hkn : k = on1 := by omega
            subst hkn
            have hO : O = O' := take_all ht.out (by rw [← J9.out, J7.out.len]) (by rw [← J10.out, J8.out.len])
            have FIN : RowKit.Hid (res = true) := HRES.out.trans (decide_eq_true (by rw [HV.out, HP1.out, HP2.out, hO]))
            clear hO ht
            go_wp2
            go_ret
            exact ⟨by rw [FIN.out]; rfl, hs.out.below⟩
      · have fin : ¬ ((⟨k1, V, ⟨a1, a2, a3, a4, P1, P2, v1⟩, O, n1, s1⟩ : TD) = ⟨k1, V', ⟨c1, c2, c3, c4, Q1, Q2, v2⟩, O', n1, s1⟩) := fun h => hf ⟨congrArg (fun t => t.f.name) h, congrArg (fun t => t.f.result) h, congrArg (fun t => t.f.left) h, congrArg (fun t => t.f.right) h, congrArg (fun t => t.f.version) h, congrArg (fun t => t.f.locals) h, congrArg (fun t => t.f.lines) h⟩
        have FIN := Lib.hid (HRES.out.trans (decide_eq_false fin))
        have HF := Lib.hid hf
        clear fin hf
        by_cases t_a1 : a1 = c1
        case neg =>
          have q_a1 := str_ne t_a1
          clear t_a1
          go_wp2
          go_ret
          exact ⟨by rw [FIN.out]; rfl, HW1.out⟩
        subst t_a1
        by_cases t_a2 : a2 = c2
        case neg =>
          have q_a2 := str_ne t_a2
          clear t_a2
          go_wp2
          go_ret
          exact ⟨by rw [FIN.out]; rfl, HW1.out⟩
        subst t_a2
        by_cases t_a3 : a3 = c3
        case neg =>
          have q_a3 := str_ne t_a3
          clear t_a3
          go_wp2
          go_ret
          exact ⟨by rw [FIN.out]; rfl, HW1.out⟩
        subst t_a3
        by_cases t_a4 : a4 = c4
        case neg =>
          have q_a4 := str_ne t_a4
          clear t_a4
          go_wp2
          go_ret
          exact ⟨by rw [FIN.out]; rfl, HW1.out⟩
        subst t_a4
        by_cases t_v : v1 = v2
        case neg =>
          have q_v : (v1 == v2) = false := by simpa using t_v

          go_wp2
          go_ret
          exact ⟨by rw [FIN.out]; rfl, HW1.out⟩
        subst t_v
        by_cases t_p : P1 = Q1
        case neg =>
          have q_p : decide (P1 = Q1) = false := decide_eq_false t_p
          clear t_p
          go_wp2_with fail
          refine (texts_any L1 Y1 ln1 lc1 yn1 yc1 P1 Q1 D D' _ (J3.out.below HW1.out) (J5.out.below HW1.out)).mono ?_
          rintro e w2 ⟨rfl, x2, rfl⟩
          go_wp2
          go_ret
          exact ⟨by rw [FIN.out]; rfl, below_drewN HW1.out _⟩
        have q_p : decide (P1 = Q1) = true := decide_eq_true t_p
        have q_r : decide (P2 = Q2) = false := decide_eq_false (fun h => HF.out ⟨rfl, rfl, rfl, rfl, rfl, t_p, h⟩)
        clear t_p
        go_wp2_with fail
        refine (texts_any L1 Y1 ln1 lc1 yn1 yc1 P1 Q1 D D' _ (J3.out.below HW1.out) (J5.out.below HW1.out)).mono ?_
        rintro e w2 ⟨rfl, x2, rfl⟩
        go_wp2_with fail
        refine (texts_any L2 Y2 ln2 lc2 yn2 yc2 P2 Q2 D D' _ (J4.out.below (below_drewN HW1.out _)) (J6.out.below (below_drewN HW1.out _))).mono ?_
        rintro e w3 ⟨rfl, x3, rfl⟩
        go_wp2
        go_ret
        exact ⟨by rw [FIN.out]; rfl, by first | exact below_drewN HW1.out _ | exact below_drewN (below_drewN HW1.out _) _⟩
    · have fin : ¬ ((⟨k1, V, ⟨a1, a2, a3, a4, P1, P2, v1⟩, O, n1, s1⟩ : TD) = ⟨k2, V', ⟨c1, c2, c3, c4, Q1, Q2, v2⟩, O', n2, s2⟩) := fun h => hk ⟨congrArg (fun t => t.kind) h, congrArg (fun t => t.n) h, congrArg (fun t => t.s) h, congrArg (fun t => t.v) h, by
        have h1 := congrArg (fun t => t.ops.length) h
        have h2 := J7.out.len
        have h3 := J8.out.len
        have h4 := J9.out
        have h5 := J10.out
        simp only at h1
        omega⟩
      have FIN := Lib.hid (HRES.out.trans (decide_eq_false fin))
      have HK := Lib.hid hk
      clear fin hk
      by_cases t_k : k1 = k2
      case neg =>
        have q_k : (k1 == k2) = false := by simpa using t_k

        go_wp2
        go_ret
        exact ⟨by rw [FIN.out]; rfl, HW.out⟩
      subst t_k
      by_cases t_n : n1 = n2
      case neg =>
        have q_n : (n1 == n2) = false := by simpa using t_n
        go_wp2
        go_ret
        exact ⟨by rw [FIN.out]; rfl, HW.out⟩
      subst t_n
      by_cases t_s : s1 = s2
      case neg =>
        have q_s := str_ne t_s
        clear t_s
        go_wp2
        go_ret
        exact ⟨by rw [FIN.out]; rfl, HW.out⟩
      subst t_s
      by_cases t_v : V = V'
      · have q_v' : decide (V = V') = true := decide_eq_true t_v
        have q_o : ((on1 : Int) == (on2 : Int)) = false := by
          have h : on1 ≠ on2 := fun h => HK.out ⟨rfl, rfl, rfl, t_v, h⟩
          simp; omega
        clear t_v
        go_wp2_with fail
        refine (vsame_any D D' [.bool bv, .slice S1 sn1 sc1, .slice S2 sn2 sc2] [.bool bv', .slice X1 xn1 xc1, .slice X2 xn2 xc2] V V' _ (J1.out.below HW.out) (J2.out.below HW.out)).mono ?_
        rintro e w1 ⟨rfl, hb1⟩
        have h41 := HH.out.below hb1
        have f1 := cellsAt h41.a
        have f2 := cellsAt h41.b
        rw [HA.out] at f1
        rw [HB.out] at f2
        have HW1 := Lib.hid (HW.out.trans (hb1.mono HW.out.size))
        clear h41 hb1 e1 e2 HH HW
        go_wp2
        go_ret
        exact ⟨by rw [FIN.out]; rfl, HW1.out⟩
      · have q_v' : decide (V = V') = false := decide_eq_false t_v
        clear t_v
        go_wp2_with fail
        refine (vsame_any D D' [.bool bv, .slice S1 sn1 sc1, .slice S2 sn2 sc2] [.bool bv', .slice X1 xn1 xc1, .slice X2 xn2 xc2] V V' _ (J1.out.below HW.out) (J2.out.below HW.out)).mono ?_
        rintro e w1 ⟨rfl, hb1⟩
        have HW1 := Lib.hid (HW.out.trans (hb1.mono HW.out.size))
        clear hb1 e1 e2 HH HW
        go_wp2
        go_ret
        exact ⟨by rw [FIN.out]; rfl, HW1.out⟩

theorem rsame_any (D D' : Nat → Prop) (cs cs' : List Value) (T T' : TD) (w : World) (h : TIs w D cs T) (h' : TIs w D' cs' T') :
    Calls Try.prog 60 #[.agg cs.toArray, .agg cs'.toArray] w fun e w' => e = .returned (.bool (decide (T = T'))) ∧ Below w.heap.size w w' := by
  obtain ⟨vs, fs, A, n, c, oes, rfl, hv, hf, ho, hl, hi⟩ := h
  obtain ⟨vs', fs', A', n', c', oes', rfl, hv', hf', ho', hl', hi'⟩ := h'
  obtain ⟨k, V, ⟨a1, a2, a3, a4, P1, P2, ver⟩, O, nn, s⟩ := T
  obtain ⟨k', V', ⟨b1, b2, b3, b4, Q1, Q2, ver'⟩, O', nn', s'⟩ := T'
  have hv2 := hv
  have hv2' := hv'
  obtain ⟨_, _, _, _, _, _, rfl, _, _⟩ := hv2
  obtain ⟨_, _, _, _, _, _, rfl, _, _⟩ := hv2'
  obtain ⟨_, _, _, _, _, _, rfl, hp1, hp2⟩ := hf
  obtain ⟨_, _, _, _, _, _, rfl, hq1, hq2⟩ := hf'
  exact rsame_raw D D' _ _ _ _ _ _ _ _ _ _ _ _ _ _ _ _ _ _ V V' P1 P2 Q1 Q2 O O' _ _ _ _ _ _ _ _ _ _ _ _ _ _ _ _ _ _ _ _ _ _ _ _ _ _ _ _ _ _ oes oes' w hv hv' hp1 hp2 hq1 hq2 ho ho' hl hl' hi hi' _ rfl
end Go.Proofs.Ytochdmbjlemfoaa
