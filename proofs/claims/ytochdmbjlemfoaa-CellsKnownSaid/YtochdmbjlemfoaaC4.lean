/-
  The library's EqualFunc on instructions, Same (package cells): two things are the same just if they read so; and the law's alike, of two lists of cells. Of any that can be read.
-/
import Derived.Test.YtochdmbjlemfoaaC3
import Derived.Test.YtochdmbjlemfoaaC2
import Derived.Test.YtochdmbjlemfoaaS5
namespace Go.Proofs.Ytochdmbjlemfoaa
open Go Go.RowKit

theorem OIs.below {w w' : World} {D : Nat → Prop} {cs : List Value} {v : OD} (h : OIs w D cs v) (hb : Below w.heap.size w w') : OIs w' D cs v := h.chg (S := fun _ => False) (Chg.of_below hb) (fun _ _ h => h)
theorem FIs.below {w w' : World} {D : Nat → Prop} {cs : List Value} {v : FD} (h : FIs w D cs v) (hb : Below w.heap.size w w') : FIs w' D cs v := h.chg (S := fun _ => False) (Chg.of_below hb) (fun _ _ h => h)
theorem OIs.form {w : World} {D : Nat → Prop} {cs : List Value} {v : OD} (h : OIs w D cs v) : ∃ A n c B m d, cs = [.int .u8 v.kind, .string v.fn, .string v.name, .bool v.v.char, .slice A n c, .slice B m d, .int .i64 v.n, .bool v.axis] := by
  obtain ⟨vs, rfl, A, n, c, B, m, d, rfl, _, _⟩ := h
  exact ⟨A, n, c, B, m, d, rfl⟩

set_option maxRecDepth 100000 in
set_option maxHeartbeats 3200000 in
theorem eqFunc_any (A B : Option Addr) (n c m d : Nat) (es es' : List (List Value)) (xs ys : List OD) (D D' : Nat → Prop) (w : World) (hx : Rd w D 8 A n c es) (hy : Rd w D' 8 B m d es') (hxl : es.length = xs.length) (hyl : es'.length = ys.length)
    (hxi : ∀ (i : Nat) oe o, es[i]? = some oe → xs[i]? = some o → OIs w D oe o) (hyi : ∀ (i : Nat) oe o, es'[i]? = some oe → ys[i]? = some o → OIs w D' oe o) (res : Bool) (hres : res = decide (xs = ys)) :
    Calls Try.prog 80 #[.slice A n c, .slice B m d, .func (.func 81) #[] #[]] w fun e w' => e = .returned (.bool res) ∧ Below w.heap.size w w' := by
  have hn : n ≤ 9223372036854775807 := by have h1 := hx.le; have h2 := hx.max; unfold maxLen at h2; omega
  have lx : xs.length = n := by rw [← hxl]; exact hx.len
  have ly : ys.length = m := by rw [← hyl]; exact hy.len
  have HR := Lib.hid hres
  clear hres
  by_cases hnm : n = m
  · subst hnm
    have H1 := Lib.hid hx
    have H2 := Lib.hid hy
    have L1 := Lib.hid lx
    have L2 := Lib.hid ly
    have E1 := Lib.hid hxl
    have E2 := Lib.hid hyl
    have I1 := Lib.hid hxi
    have I2 := Lib.hid hyi
    clear hx hy lx ly hxl hyl hxi hyi
    have q0 : ((n : Int) != (n : Int)) = false := by simp
    go_enter Try.func80, Try.ntmps80
    go_wp2
    go_loopw [17] (fun i wr => ∃ k : Nat, k ≤ n ∧ i = .int .i64 (k : Int) ∧ RowKit.Hid (Below w.heap.size w wr) ∧ RowKit.Hid (xs.take k = ys.take k)) (fun i _ => n - (RowKit.intOf i).toNat)
    case atStart => exact ⟨0, Nat.zero_le _, rfl, Below.refl _ _, rfl⟩
    case round =>
      obtain ⟨k, hk, rfl, hb, hh⟩ := hrel
      by_cases hlt : k < n
      · obtain ⟨b, off, hA, -, hc⟩ := H1.out.at_ (by omega)
        obtain ⟨b', off', hB, -, hc'⟩ := H2.out.at_ (by omega)
        obtain ⟨x, hxk⟩ : ∃ x, es[k]? = some x := ⟨_, List.getElem?_eq_getElem (by rw [H1.out.len]; exact hlt)⟩
        obtain ⟨y, hyk⟩ : ∃ y, es'[k]? = some y := ⟨_, List.getElem?_eq_getElem (by rw [H2.out.len]; exact hlt)⟩
        obtain ⟨X, hX⟩ : ∃ x, xs[k]? = some x := ⟨_, List.getElem?_eq_getElem (by rw [L1.out]; exact hlt)⟩
        obtain ⟨Y, hY⟩ : ∃ x, ys[k]? = some x := ⟨_, List.getElem?_eq_getElem (by rw [L2.out]; exact hlt)⟩
        have ix := I1.out k x X hxk hX
        have iy := I2.out k y Y hyk hY
        obtain ⟨A1, n1, c1, A2, n2, c2, hxe⟩ := ix.form
        obtain ⟨B1, m1, d1, B2, m2, d2, hye⟩ := iy.form
        subst hA hB
        have cx := eight hxe (row_cells (hc k x hxk) hb.out)
        have cy := eight hye (row_cells (hc' k y hyk) hb.out)
        rw [hxe] at ix
        rw [hye] at iy
        obtain ⟨x0, x1, x2, x3, x4, x5, x6, x7⟩ := cx
        obtain ⟨y0, y1, y2, y3, y4, y5, y6, y7⟩ := cy
        have HX := Lib.hid hX
        have HY := Lib.hid hY
        have IX := Lib.hid ix
        have IY := Lib.hid iy
        clear hc hc' hxk hyk hX hY ix iy hxe hye
        have h1 : (k : Int) < (n : Int) := by omega
        have h2 : (0 : Int) ≤ (k : Int) := by omega
        have h3 : k < n := hlt
        have hB2 := Lib.hid (fun (o1 o2 : Obj) => hb.out.trans ((two_below wr o1 o2).mono hb.out.size))
        have hb0 := Lib.hid (fun (o1 : Obj) => ((Below.refl _ wr).alloc (Nat.le_refl _) o1))
        have y0' := fun o => below_cell (hb0.out o) y0
        have y1' := fun o => below_cell (hb0.out o) y1
        have y2' := fun o => below_cell (hb0.out o) y2
        have y3' := fun o => below_cell (hb0.out o) y3
        have y4' := fun o => below_cell (hb0.out o) y4
        have y5' := fun o => below_cell (hb0.out o) y5
        have y6' := fun o => below_cell (hb0.out o) y6
        have y7' := fun o => below_cell (hb0.out o) y7
        go_wp2_with fail
        by_cases he : X = Y
        · have HD := Lib.hid (decide_eq_true he).symm
          have HE := Lib.hid he
          clear he
          refine (cop_any D D' _ _ X Y _ (IX.out.below ((hB2.out _ _))) (IY.out.below (hB2.out _ _)) true HD.out).mono ?_
          rintro e w1 ⟨rfl, hb1⟩
          have BW := Lib.hid ((hB2.out _ _).trans (hb1.mono (hB2.out _ _).size))
          clear hb1
          go_wp2
          go_roundw
          case rel => exact ⟨k + 1, by omega, by go_num, BW.out, take_step hh.out HX.out (by rw [HY.out, HE.out])⟩
          case measure => simp [RowKit.intOf]; omega
        · have HD := Lib.hid (decide_eq_false he).symm
          have FIN : RowKit.Hid (res = false) := HR.out.trans (decide_eq_false (fun h => ne_at HX.out HY.out he h))
          clear he
          refine (cop_any D D' _ _ X Y _ (IX.out.below ((hB2.out _ _))) (IY.out.below (hB2.out _ _)) false HD.out).mono ?_
          rintro e w1 ⟨rfl, hb1⟩
          have BW := Lib.hid ((hB2.out _ _).trans (hb1.mono (hB2.out _ _).size))
          clear hb1
          go_wp2
          go_ret
          exact ⟨by rw [FIN.out]; rfl, BW.out⟩
      · have hkn : k = n := by omega
        subst hkn
        have FIN : RowKit.Hid (res = true) := HR.out.trans (decide_eq_true (take_all hh.out L1.out L2.out))
        clear hh
        go_wp2
        go_ret
        exact ⟨by rw [FIN.out]; rfl, hb.out⟩
  · have h3 : ((n : Int) == (m : Int)) = false := by simp; omega
    have h4 : ((n : Int) != (m : Int)) = true := by simp; omega
    have FIN : RowKit.Hid (res = false) := HR.out.trans (decide_eq_false (by rintro rfl; exact hnm (lx.symm.trans ly)))
    clear hx hy lx ly hnm hxi hyi hxl hyl
    go_enter Try.func80, Try.ntmps80
    go_wp2
    go_ret
    exact ⟨by rw [FIN.out]; rfl, Below.refl _ _⟩

theorem sameL_new (w : World) (AL BL : Array Value) : SameL w ((w.alloc (.cells AL 45)).alloc (.cells BL 45)) AL BL := by
  have z1 : (w.alloc (.cells AL 45)).heap.size = w.heap.size + 1 := by simp
  refine ⟨?_, ?_, two_below w _ _⟩
  · rw [Below.heap_alloc _ _ _ (by omega)]; exact heap_alloc_new _ _
  · have h := heap_alloc_new (w.alloc (.cells AL 45)) (.cells BL 45); rw [z1] at h; exact h

set_option maxRecDepth 100000 in
set_option maxHeartbeats 6400000 in
theorem cSame_any (D D' : Nat → Prop) (cs cs' : List Value) (v v' : TD) (w : World) (h : TIs w D cs v) (h' : TIs w D' cs' v') (res : Bool) (hres : res = decide (v = v')) :
    Calls Try.prog 54 #[.agg cs.toArray, .agg cs'.toArray] w fun e w' => e = .returned (.bool res) ∧ Below w.heap.size w w' := by
  obtain ⟨vs, fs, OA, on, oc, oes, rfl, hv, hf, hO, hOl, hOi⟩ := h
  obtain ⟨vs', fs', OB, on', oc', oes', rfl, hv', hf', hO', hOl', hOi'⟩ := h'
  have hv2 := hv
  have hv2' := hv'
  have hf2 := hf
  have hf2' := hf'
  obtain ⟨A, n, c, B, m, d, rfl, _, _⟩ := hv2
  obtain ⟨A', n', c', B', m', d', rfl, _, _⟩ := hv2'
  obtain ⟨P, pn, pc, Q, qn, qc, rfl, _, _⟩ := hf2
  obtain ⟨P', pn', pc', Q', qn', qc', rfl, _, _⟩ := hf2'
  obtain ⟨k, V, F, O, z, s⟩ := v
  obtain ⟨k', V', F', O', z', s'⟩ := v'
  simp only at hv hv' hf hf' hOl hOl' hOi hOi'
  have H1 := Lib.hid hv
  have H1' := Lib.hid hv'
  have H2 := Lib.hid hf
  have H2' := Lib.hid hf'
  have H3 := Lib.hid hO
  have H3' := Lib.hid hO'
  have H4 := Lib.hid hOl
  have H4' := Lib.hid hOl'
  have H5 := Lib.hid hOi
  have H5' := Lib.hid hOi'
  have HR := Lib.hid hres
  have HB := Lib.hid (two_below w)
  have HN := Lib.hid (sameL_new w)
  clear hv hv' hf hf' hO hO' hOl hOl' hOi hOi' hres
  go_enter Try.func54, Try.ntmps54
  by_cases e1 : k = k'
  · by_cases e2 : z = z'
    · by_cases e3 : s = s'
      · subst e1 e2 e3
        have q1 : (k == k) = true := by simp
        have q2 : (z == z) = true := by simp
        have q3 : (s.toList == s.toList) = true := by simp
        by_cases hV : V = V'
        · have HV := Lib.hid (decide_eq_true hV).symm
          have HVV := Lib.hid hV
          clear hV
          go_wp2_with fail
          refine (calike_any D D' _ _ V V' _ (H1.out.below (HB.out _ _)) (H1'.out.below (HB.out _ _)) true HV.out).mono ?_
          rintro e w1 ⟨rfl, hb1⟩
          have s1 := (HN.out _ _).next hb1
          have f1 := cellsAt s1.a
          have f2 := cellsAt s1.b
          have S1 := Lib.hid s1
          clear hb1 s1
          by_cases hF : F = F'
          · have HF := Lib.hid (decide_eq_true hF).symm
            have FIN : RowKit.Hid (res = decide (O = O')) := by show _ = _; rw [HR.out]; simp [TD.mk.injEq, HVV.out, hF]
            clear hF
            go_wp2_with fail
            refine (cfuncs_any D D' _ _ F F' _ (H2.out.below S1.out.below) (H2'.out.below S1.out.below) true HF.out).mono ?_
            rintro e w2 ⟨rfl, hb2⟩
            have s2 := S1.out.next hb2
            have g1 := cellsAt s2.a
            have g2 := cellsAt s2.b
            have S2 := Lib.hid s2
            clear hb2 s2 f1 f2 S1
            go_wp2_with fail
            refine (eqFunc_any _ _ _ _ _ _ _ _ O O' D D' _ (H3.out.below S2.out.below) (H3'.out.below S2.out.below) H4.out H4'.out (fun i oe o a b => (H5.out i oe o a b).below S2.out.below) (fun i oe o a b => (H5'.out i oe o a b).below S2.out.below) res FIN.out).mono ?_
            rintro e w3 ⟨rfl, hb3⟩
            have B3 := Lib.hid (S2.out.below.trans (hb3.mono S2.out.below.size))
            clear hb3
            go_wp2
            go_ret
            exact ⟨rfl, B3.out⟩
          · have HF := Lib.hid (decide_eq_false hF).symm
            have FIN : RowKit.Hid (res = false) := HR.out.trans (decide_eq_false (fun h => hF (congrArg TD.f h)))
            clear hF
            go_wp2_with fail
            refine (cfuncs_any D D' _ _ F F' _ (H2.out.below S1.out.below) (H2'.out.below S1.out.below) false HF.out).mono ?_
            rintro e w2 ⟨rfl, hb2⟩
            have B2 := Lib.hid (S1.out.below.trans (hb2.mono S1.out.below.size))
            clear hb2 f1 f2
            go_wp2
            go_ret
            exact ⟨by rw [FIN.out]; rfl, B2.out⟩
        · have HV := Lib.hid (decide_eq_false hV).symm
          have FIN : RowKit.Hid (res = false) := HR.out.trans (decide_eq_false (fun h => hV (congrArg TD.v h)))
          clear hV
          go_wp2_with fail
          refine (calike_any D D' _ _ V V' _ (H1.out.below (HB.out _ _)) (H1'.out.below (HB.out _ _)) false HV.out).mono ?_
          rintro e w1 ⟨rfl, hb1⟩
          have B1 := Lib.hid ((HB.out _ _).trans (hb1.mono (HB.out _ _).size))
          clear hb1
          go_wp2
          go_ret
          exact ⟨by rw [FIN.out]; rfl, B1.out⟩
      · have FIN : RowKit.Hid (res = false) := HR.out.trans (decide_eq_false (fun h => e3 (congrArg TD.s h)))
        have q1 : (k == k') = true := by simpa using e1
        have q2 : (z == z') = true := by simpa using e2
        have q3 := str_ne e3
        clear e1 e2 e3
        go_wp2
        go_ret
        exact ⟨by rw [FIN.out]; rfl, HB.out _ _⟩
    · have FIN : RowKit.Hid (res = false) := HR.out.trans (decide_eq_false (fun h => e2 (congrArg TD.n h)))
      have q1 : (k == k') = true := by simpa using e1
      have q2 : (z == z') = false := by simpa using e2
      clear e1 e2
      go_wp2
      go_ret
      exact ⟨by rw [FIN.out]; rfl, HB.out _ _⟩
  · have FIN : RowKit.Hid (res = false) := HR.out.trans (decide_eq_false (fun h => e1 (congrArg TD.kind h)))
    have q1 : (k == k') = false := by simpa using e1
    clear e1
    go_wp2
    go_ret
    exact ⟨by rw [FIN.out]; rfl, HB.out _ _⟩
theorem alike19_lens (A B : Option Addr) (n c m d : Nat) (w : World) (h : n ≠ m) :
    Calls Try.prog 64 #[.slice A n c, .slice B m d] w fun e w' => e = .returned (.bool false) ∧ w = w' := by
  have h3 : ((n : Int) == (m : Int)) = false := by simp; omega
  clear h
  go_enter Try.func64, Try.ntmps64
  go_wp2
  go_ret
  exact ⟨rfl, rfl⟩

set_option maxRecDepth 100000 in
set_option maxHeartbeats 2000000 in
theorem alike19_same (A B : Option Addr) (n c d : Nat) (es es' : List (List Value)) (L L' : List CD) (D D' E E' : Nat → Prop) (w : World) (hx : Rd w D 15 A n c es) (hy : Rd w D' 15 B n d es') (hL : CellsAre w E es L) (hL' : CellsAre w E' es' L') (res : Bool) (hres : res = decide (L = L')) :
    Calls Try.prog 64 #[.slice A n c, .slice B n d] w fun e w' => e = .returned (.bool res) ∧ Below w.heap.size w w' := by
  have hn : n ≤ 9223372036854775807 := by have h1 := hx.le; have h2 := hx.max; unfold maxLen at h2; omega
  have H1 := Lib.hid hx
  have H2 := Lib.hid hy
  have L1 := Lib.hid hL
  have L2 := Lib.hid hL'
  have HR := Lib.hid hres
  clear hx hy hL hL' hres
  go_enter Try.func64, Try.ntmps64
  go_wp2
  go_loopw [5] (fun i wr => ∃ k : Nat, k ≤ n ∧ i = .int .i64 (k : Int) ∧ RowKit.Hid (Below w.heap.size w wr) ∧ RowKit.Hid (L.take k = L'.take k)) (fun i _ => n - (RowKit.intOf i).toNat)
  case atStart => exact ⟨0, Nat.zero_le _, rfl, Below.refl _ _, rfl⟩
  case round =>
    obtain ⟨k, hk, rfl, hb, hh⟩ := hrel
    by_cases hlt : k < n
    · obtain ⟨b, off, hA, -, hc⟩ := H1.out.at_ (by omega)
      obtain ⟨b', off', hB, -, hc'⟩ := H2.out.at_ (by omega)
      obtain ⟨x, hxk⟩ : ∃ x, es[k]? = some x := ⟨_, List.getElem?_eq_getElem (by rw [H1.out.len]; exact hlt)⟩
      obtain ⟨y, hyk⟩ : ∃ y, es'[k]? = some y := ⟨_, List.getElem?_eq_getElem (by rw [H2.out.len]; exact hlt)⟩
      obtain ⟨X, hX⟩ : ∃ x, L[k]? = some x := ⟨_, List.getElem?_eq_getElem (by rw [← L1.out.1, H1.out.len]; exact hlt)⟩
      obtain ⟨Y, hY⟩ : ∃ x, L'[k]? = some x := ⟨_, List.getElem?_eq_getElem (by rw [← L2.out.1, H2.out.len]; exact hlt)⟩
      obtain ⟨ts, rfl, ht⟩ := L1.out.2 k x X hxk hX
      obtain ⟨ts', rfl, ht'⟩ := L2.out.2 k y Y hyk hY
      subst hA hB
      have cx := row_cells (hc k _ hxk) hb.out
      have cy := row_cells (hc' k _ hyk) hb.out
      have ht2 := ht
      have ht2' := ht'
      obtain ⟨x0, x1, x2, x3, x4, x5, x6, x7, x8, x9, x10, x11, x12, x13, rfl⟩ := ht2.shape
      obtain ⟨y0, y1, y2, y3, y4, y5, y6, y7, y8, y9, y10, y11, y12, y13, rfl⟩ := ht2'.shape
      have HX := Lib.hid hX
      have HY := Lib.hid hY
      have HT := Lib.hid ht
      have HT' := Lib.hid ht'
      clear hc hc' hxk hyk hX hY ht ht' ht2 ht2'
      have a0 := cx 0 _ rfl
      have b0 := cy 0 _ rfl
      simp only [Nat.add_zero] at a0 b0
      have h1 : (k : Int) < (n : Int) := by omega
      have h2 : (0 : Int) ≤ (k : Int) := by omega
      by_cases he : X.key = Y.key
      · have e1 := he
        have q1 : (X.key.toList == Y.key.toList) = true := by rw [e1]; simp
        have HE : RowKit.Hid (X.t = Y.t → Y = X) := cd_eq e1
        clear e1 he
        have a1 := cx 1 _ rfl
        have a2 := cx 2 _ rfl
        have a3 := cx 3 _ rfl
        have a4 := cx 4 _ rfl
        have a5 := cx 5 _ rfl
        have a6 := cx 6 _ rfl
        have a7 := cx 7 _ rfl
        have a8 := cx 8 _ rfl
        have a9 := cx 9 _ rfl
        have a10 := cx 10 _ rfl
        have a11 := cx 11 _ rfl
        have a12 := cx 12 _ rfl
        have a13 := cx 13 _ rfl
        have a14 := cx 14 _ rfl
        have b1 := cy 1 _ rfl
        have b2 := cy 2 _ rfl
        have b3 := cy 3 _ rfl
        have b4 := cy 4 _ rfl
        have b5 := cy 5 _ rfl
        have b6 := cy 6 _ rfl
        have b7 := cy 7 _ rfl
        have b8 := cy 8 _ rfl
        have b9 := cy 9 _ rfl
        have b10 := cy 10 _ rfl
        have b11 := cy 11 _ rfl
        have b12 := cy 12 _ rfl
        have b13 := cy 13 _ rfl
        have b14 := cy 14 _ rfl
        clear cx cy
        go_wp2
        go_still_tail 22, (by kernel_rfl)
        change wpList _ _ _ _ _ wr.drew
        go_wp2_with fail
        refine (cSame_any E E' _ _ X.t Y.t _ (HT.out.below (w' := wr.drew) hb.out.drew) (HT'.out.below (w' := wr.drew) hb.out.drew) _ rfl).mono ?_
        rintro e w1 ⟨rfl, hb1⟩
        have hbb : RowKit.Hid (Below w.heap.size w w1) := hb.out.drew.trans (hb1.mono (w := wr.drew) hb.out.size)
        clear hb1
        by_cases hw : X.t = Y.t
        · have hd : decide (X.t = Y.t) = true := decide_eq_true hw
          have HW := Lib.hid hw
          clear hw
          go_wp2
          go_roundw
          case rel => exact ⟨k + 1, by omega, by go_num, hbb, take_step hh.out HX.out (by rw [HY.out, HE.out HW.out])⟩
          case measure => simp [RowKit.intOf]; omega
        · have hd : decide (X.t = Y.t) = false := decide_eq_false hw
          have FIN : RowKit.Hid (res = false) := HR.out.trans (decide_eq_false (fun h => ne_at HX.out HY.out (fun e => hw (congrArg CD.t e)) h))
          clear hw
          go_wp2
          go_ret
          exact ⟨by rw [FIN.out]; rfl, hbb.out⟩
      · have FIN : RowKit.Hid (res = false) := HR.out.trans (decide_eq_false (fun h => ne_at HX.out HY.out (fun e => he (congrArg CD.key e)) h))
        have q1 := str_ne he
        clear he cx cy
        go_wp2
        go_quiet (fail)
        go_wp2
        go_ret
        exact ⟨by rw [FIN.out]; rfl, below_drewN hb.out _⟩
    · have hkn : k = n := by omega
      subst hkn
      have hL : L = L' := take_all hh.out (by rw [← L1.out.1, H1.out.len]) (by rw [← L2.out.1, H2.out.len])
      have FIN : RowKit.Hid (res = true) := HR.out.trans (decide_eq_true hL)
      clear hL hh
      go_wp2
      go_ret
      exact ⟨by rw [FIN.out]; rfl, hb.out⟩

theorem alike19_any (A B : Option Addr) (n c m d : Nat) (es es' : List (List Value)) (L L' : List CD) (D D' E E' : Nat → Prop) (w : World) (hx : Rd w D 15 A n c es) (hy : Rd w D' 15 B m d es') (hL : CellsAre w E es L) (hL' : CellsAre w E' es' L') :
    Calls Try.prog 64 #[.slice A n c, .slice B m d] w fun e w' => e = .returned (.bool (decide (L = L'))) ∧ Below w.heap.size w w' := by
  by_cases h : n = m
  · subst h
    exact alike19_same A B n c d es es' L L' D D' E E' w hx hy hL hL' _ rfl
  · refine (alike19_lens A B n c m d w h).mono ?_
    rintro e w' ⟨rfl, rfl⟩
    refine ⟨?_, Below.refl _ _⟩
    rw [decide_eq_false]
    rintro rfl
    exact h (by rw [← hx.len, ← hy.len, hL.1, hL'.1])
end Go.Proofs.Ytochdmbjlemfoaa
