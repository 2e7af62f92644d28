/-
  The library's Equal on slices of numbers and of texts; the comparison of two things (package cells: alike, funcs, op, Same). Of any that can be read.
-/
import Derived.Test.YtochdmbjlemfoaaS2
import Derived.Deep.DeepCutAuto
namespace Go.Proofs.Ytochdmbjlemfoaa
open Go Go.RowKit


set_option maxRecDepth 100000 in
set_option maxHeartbeats 800000 in
theorem eqI_any (A B : Option Addr) (n c m d : Nat) (xs ys : List Int) (D D' : Nat → Prop) (w : World) (hx : Rd w D 1 A n c (intRows .i64 xs)) (hy : Rd w D' 1 B m d (intRows .i64 ys)) (res : Bool) (hres : res = decide (xs = ys)) :
    Calls Try.prog 93 #[.slice A n c, .slice B m d] w fun e w' => e = .returned (.bool res) ∧ ∃ k, w' = w.drewN k := by
  have hn : n ≤ 9223372036854775807 := by have h1 := hx.le; have h2 := hx.max; unfold maxLen at h2; omega
  obtain ⟨lx, hx⟩ := hx.one
  obtain ⟨ly, hy⟩ := hy.one
  have HR := Lib.hid hres
  clear hres
  by_cases hnm : n = m
  · subst hnm
    have H1 := Lib.hid hx
    have H2 := Lib.hid hy
    have L1 := Lib.hid lx
    have L2 := Lib.hid ly
    clear hx hy lx ly
    have q0 : ((n : Int) != (n : Int)) = false := by simp
    go_enter Try.func93, Try.ntmps93
    go_wp2
    go_loopw [13] (fun i wr => ∃ k d : Nat, k ≤ n ∧ i = .int .i64 (k : Int) ∧ wr = w.drewN d ∧ RowKit.Hid (xs.take k = ys.take k)) (fun i _ => n - (intOf i).toNat)
    case atStart => exact ⟨0, 0, Nat.zero_le _, rfl, rfl, rfl⟩
    case round =>
      obtain ⟨k, d, hk, rfl, rfl, hh⟩ := hrel
      by_cases hlt : k < n
      · obtain ⟨b, off, hA, -, hb, hc⟩ := H1.out (by omega)
        obtain ⟨b', off', hB, -, hb', hc'⟩ := H2.out (by omega)
        obtain ⟨x, hxk⟩ : ∃ x, xs[k]? = some x := ⟨_, List.getElem?_eq_getElem (by rw [L1.out]; exact hlt)⟩
        obtain ⟨y, hyk⟩ : ∃ y, ys[k]? = some y := ⟨_, List.getElem?_eq_getElem (by rw [L2.out]; exact hlt)⟩
        subst hA hB
        have cx := hc k x hxk
        have cy := hc' k y hyk
        have Hx := Lib.hid hxk
        have Hy := Lib.hid hyk
        clear hc hc' hxk hyk
        have h1 : (k : Int) < (n : Int) := by omega
        have h2 : (0 : Int) ≤ (k : Int) := by omega
        by_cases he : x = y
        · subst he
          have h3 : (x == x) = true := by simp
          have h4 : (x != x) = false := by simp
          go_wp2
          go_quiet (fail)
          go_wp2
          go_roundw
          case rel => exact ⟨k + 1, _, by omega, by go_num, rfl, take_step hh.out Hx.out Hy.out⟩
          case measure => simp [intOf]; omega
        · have h3 : (x == y) = false := by simpa using he
          have h4 : (x != y) = true := by simpa using he
          have FIN : RowKit.Hid (res = false) := HR.out.trans (decide_eq_false (fun h => ne_at Hx.out Hy.out he h))
          clear he
          go_wp2
          go_quiet (fail)
          go_wp2
          go_ret
          exact ⟨by rw [FIN.out]; rfl, d + nq, World.drewN_drewN _ _ _⟩
      · have hkn : k = n := by omega
        subst hkn
        have FIN : RowKit.Hid (res = true) := HR.out.trans (decide_eq_true (take_all hh.out L1.out L2.out))
        clear hh
        go_wp2
        go_ret
        exact ⟨by rw [FIN.out]; rfl, _, rfl⟩
  · have h3 : ((n : Int) == (m : Int)) = false := by simp; omega
    have h4 : ((n : Int) != (m : Int)) = true := by simp; omega
    have FIN : RowKit.Hid (res = false) := HR.out.trans (decide_eq_false (by rintro rfl; exact hnm (lx.symm.trans ly)))
    clear hx hy lx ly hnm
    go_enter Try.func93, Try.ntmps93
    go_wp2
    go_ret
    exact ⟨by rw [FIN.out]; rfl, 0, rfl⟩


set_option maxRecDepth 100000 in
set_option maxHeartbeats 800000 in
theorem eqL_any (A B : Option Addr) (n c m d : Nat) (xs ys : List Int) (D D' : Nat → Prop) (w : World) (hx : Rd w D 1 A n c (intRows .i64 xs)) (hy : Rd w D' 1 B m d (intRows .i64 ys)) (res : Bool) (hres : res = decide (xs = ys)) :
    Calls Try.prog 94 #[.slice A n c, .slice B m d] w fun e w' => e = .returned (.bool res) ∧ ∃ k, w' = w.drewN k := by
  have hn : n ≤ 9223372036854775807 := by have h1 := hx.le; have h2 := hx.max; unfold maxLen at h2; omega
  obtain ⟨lx, hx⟩ := hx.one
  obtain ⟨ly, hy⟩ := hy.one
  have HR := Lib.hid hres
  clear hres
  by_cases hnm : n = m
  · subst hnm
    have H1 := Lib.hid hx
    have H2 := Lib.hid hy
    have L1 := Lib.hid lx
    have L2 := Lib.hid ly
    clear hx hy lx ly
    have q0 : ((n : Int) != (n : Int)) = false := by simp
    go_enter Try.func94, Try.ntmps94
    go_wp2
    go_loopw [13] (fun i wr => ∃ k d : Nat, k ≤ n ∧ i = .int .i64 (k : Int) ∧ wr = w.drewN d ∧ RowKit.Hid (xs.take k = ys.take k)) (fun i _ => n - (intOf i).toNat)
    case atStart => exact ⟨0, 0, Nat.zero_le _, rfl, rfl, rfl⟩
    case round =>
      obtain ⟨k, d, hk, rfl, rfl, hh⟩ := hrel
      by_cases hlt : k < n
      · obtain ⟨b, off, hA, -, hb, hc⟩ := H1.out (by omega)
        obtain ⟨b', off', hB, -, hb', hc'⟩ := H2.out (by omega)
        obtain ⟨x, hxk⟩ : ∃ x, xs[k]? = some x := ⟨_, List.getElem?_eq_getElem (by rw [L1.out]; exact hlt)⟩
        obtain ⟨y, hyk⟩ : ∃ y, ys[k]? = some y := ⟨_, List.getElem?_eq_getElem (by rw [L2.out]; exact hlt)⟩
        subst hA hB
        have cx := hc k x hxk
        have cy := hc' k y hyk
        have Hx := Lib.hid hxk
        have Hy := Lib.hid hyk
        clear hc hc' hxk hyk
        have h1 : (k : Int) < (n : Int) := by omega
        have h2 : (0 : Int) ≤ (k : Int) := by omega
        by_cases he : x = y
        · subst he
          have h3 : (x == x) = true := by simp
          have h4 : (x != x) = false := by simp
          go_wp2
          go_quiet (fail)
          go_wp2
          go_roundw
          case rel => exact ⟨k + 1, _, by omega, by go_num, rfl, take_step hh.out Hx.out Hy.out⟩
          case measure => simp [intOf]; omega
        · have h3 : (x == y) = false := by simpa using he
          have h4 : (x != y) = true := by simpa using he
          have FIN : RowKit.Hid (res = false) := HR.out.trans (decide_eq_false (fun h => ne_at Hx.out Hy.out he h))
          clear he
          go_wp2
          go_quiet (fail)
          go_wp2
          go_ret
          exact ⟨by rw [FIN.out]; rfl, d + nq, World.drewN_drewN _ _ _⟩
      · have hkn : k = n := by omega
        subst hkn
        have FIN : RowKit.Hid (res = true) := HR.out.trans (decide_eq_true (take_all hh.out L1.out L2.out))
        clear hh
        go_wp2
        go_ret
        exact ⟨by rw [FIN.out]; rfl, _, rfl⟩
  · have h3 : ((n : Int) == (m : Int)) = false := by simp; omega
    have h4 : ((n : Int) != (m : Int)) = true := by simp; omega
    have FIN : RowKit.Hid (res = false) := HR.out.trans (decide_eq_false (by rintro rfl; exact hnm (lx.symm.trans ly)))
    clear hx hy lx ly hnm
    go_enter Try.func94, Try.ntmps94
    go_wp2
    go_ret
    exact ⟨by rw [FIN.out]; rfl, 0, rfl⟩


set_option maxRecDepth 100000 in
set_option maxHeartbeats 800000 in
theorem eqS_any (A B : Option Addr) (n c m d : Nat) (xs ys : List ByteArray) (D D' : Nat → Prop) (w : World) (hx : Rd w D 1 A n c (strRows xs)) (hy : Rd w D' 1 B m d (strRows ys)) (res : Bool) (hres : res = decide (xs = ys)) :
    Calls Try.prog 95 #[.slice A n c, .slice B m d] w fun e w' => e = .returned (.bool res) ∧ ∃ k, w' = w.drewN k := by
  have hn : n ≤ 9223372036854775807 := by have h1 := hx.le; have h2 := hx.max; unfold maxLen at h2; omega
  obtain ⟨lx, hx⟩ := hx.one
  obtain ⟨ly, hy⟩ := hy.one
  have HR := Lib.hid hres
  clear hres
  by_cases hnm : n = m
  · subst hnm
    have H1 := Lib.hid hx
    have H2 := Lib.hid hy
    have L1 := Lib.hid lx
    have L2 := Lib.hid ly
    clear hx hy lx ly
    have q0 : ((n : Int) != (n : Int)) = false := by simp
    go_enter Try.func95, Try.ntmps95
    go_wp2
    go_loopw [13] (fun i wr => ∃ k d : Nat, k ≤ n ∧ i = .int .i64 (k : Int) ∧ wr = w.drewN d ∧ RowKit.Hid (xs.take k = ys.take k)) (fun i _ => n - (intOf i).toNat)
    case atStart => exact ⟨0, 0, Nat.zero_le _, rfl, rfl, rfl⟩
    case round =>
      obtain ⟨k, d, hk, rfl, rfl, hh⟩ := hrel
      by_cases hlt : k < n
      · obtain ⟨b, off, hA, -, hb, hc⟩ := H1.out (by omega)
        obtain ⟨b', off', hB, -, hb', hc'⟩ := H2.out (by omega)
        obtain ⟨x, hxk⟩ : ∃ x, xs[k]? = some x := ⟨_, List.getElem?_eq_getElem (by rw [L1.out]; exact hlt)⟩
        obtain ⟨y, hyk⟩ : ∃ y, ys[k]? = some y := ⟨_, List.getElem?_eq_getElem (by rw [L2.out]; exact hlt)⟩
        subst hA hB
        have cx := hc k x hxk
        have cy := hc' k y hyk
        have Hx := Lib.hid hxk
        have Hy := Lib.hid hyk
        clear hc hc' hxk hyk
        have h1 : (k : Int) < (n : Int) := by omega
        have h2 : (0 : Int) ≤ (k : Int) := by omega
        by_cases he : x = y
        · subst he
          have h3 : (x.toList == x.toList) = true := by simp
          go_wp2
          go_quiet (fail)
          go_wp2
          go_roundw
          case rel => exact ⟨k + 1, _, by omega, by go_num, rfl, take_step hh.out Hx.out Hy.out⟩
          case measure => simp [intOf]; omega
        · have h3 : (x.toList == y.toList) = false := str_ne he
          have FIN : RowKit.Hid (res = false) := HR.out.trans (decide_eq_false (fun h => ne_at Hx.out Hy.out he h))
          clear he
          go_wp2
          go_quiet (fail)
          go_wp2
          go_ret
          exact ⟨by rw [FIN.out]; rfl, d + nq, World.drewN_drewN _ _ _⟩
      · have hkn : k = n := by omega
        subst hkn
        have FIN : RowKit.Hid (res = true) := HR.out.trans (decide_eq_true (take_all hh.out L1.out L2.out))
        clear hh
        go_wp2
        go_ret
        exact ⟨by rw [FIN.out]; rfl, _, rfl⟩
  · have h3 : ((n : Int) == (m : Int)) = false := by simp; omega
    have h4 : ((n : Int) != (m : Int)) = true := by simp; omega
    have FIN : RowKit.Hid (res = false) := HR.out.trans (decide_eq_false (by rintro rfl; exact hnm (lx.symm.trans ly)))
    clear hx hy lx ly hnm
    go_enter Try.func95, Try.ntmps95
    go_wp2
    go_ret
    exact ⟨by rw [FIN.out]; rfl, 0, rfl⟩

theorem two_below (w : World) (o1 o2 : Obj) : Below w.heap.size w ((w.alloc o1).alloc o2) := ((Below.refl _ w).alloc (Nat.le_refl _) o1).alloc (by simp) o2

set_option maxRecDepth 100000 in
set_option maxHeartbeats 1600000 in
theorem calike_any (D D' : Nat → Prop) (cs cs' : List Value) (v v' : VD) (w : World) (h : VIs w D cs v) (h' : VIs w D' cs' v') (res : Bool) (hres : res = decide (v = v')) :
    Calls Try.prog 78 #[.agg cs.toArray, .agg cs'.toArray] w fun e w' => e = .returned (.bool res) ∧ Below w.heap.size w w' := by
  obtain ⟨A, n, c, B, m, d, rfl, h1, h2⟩ := h
  obtain ⟨A', n', c', B', m', d', rfl, h1', h2'⟩ := h'
  obtain ⟨a, xs, us⟩ := v
  obtain ⟨a', ys, vs⟩ := v'
  simp only at h1 h2 h1' h2'
  have H1 := Lib.hid h1
  have H2 := Lib.hid h2
  have H1' := Lib.hid h1'
  have H2' := Lib.hid h2'
  have HR := Lib.hid hres
  have HB := Lib.hid (two_below w)
  clear h1 h2 h1' h2' hres
  go_enter Try.func78, Try.ntmps78
  by_cases ha : a = a'
  · subst ha
    have q1 : (a == a) = true := by simp
    by_cases hx : xs = ys
    · have hx' := (decide_eq_true hx).symm
      have FIN : RowKit.Hid (res = decide (us = vs)) := by show _ = _; rw [HR.out]; simp [VD.mk.injEq, hx]
      have HX := Lib.hid hx'
      clear hx hx'
      go_wp2_with fail
      refine (eqI_any A A' n c n' c' xs ys D D' _ (H1.out.below (HB.out _ _)) (H1'.out.below (HB.out _ _)) true HX.out).mono ?_
      rintro e w1 ⟨rfl, k, rfl⟩
      go_wp2_with fail
      refine (eqL_any B B' m d m' d' us vs D D' _ (H2.out.below (below_drewN (HB.out _ _) _)) (H2'.out.below (below_drewN (HB.out _ _) _)) res FIN.out).mono ?_
      rintro e w2 ⟨rfl, k2, rfl⟩
      go_wp2
      go_ret
      exact ⟨rfl, below_drewN (HB.out _ _) _⟩
    · have FIN : RowKit.Hid (res = false) := HR.out.trans (decide_eq_false (fun h => hx (congrArg VD.shape h)))
      have hx' := (decide_eq_false hx).symm
      have HX := Lib.hid hx'
      clear hx hx'
      go_wp2_with fail
      refine (eqI_any A A' n c n' c' xs ys D D' _ (H1.out.below (HB.out _ _)) (H1'.out.below (HB.out _ _)) false HX.out).mono ?_
      rintro e w1 ⟨rfl, k, rfl⟩
      go_wp2
      go_ret
      exact ⟨by rw [FIN.out]; rfl, below_drewN (HB.out _ _) _⟩
  · have FIN : RowKit.Hid (res = false) := HR.out.trans (decide_eq_false (fun h => ha (congrArg VD.char h)))
    have q1 : (a == a') = false := by simpa using ha
    clear ha
    go_wp2
    go_ret
    exact ⟨by rw [FIN.out]; rfl, HB.out _ _⟩

set_option maxRecDepth 100000 in
set_option maxHeartbeats 3200000 in
theorem cfuncs_any (D D' : Nat → Prop) (cs cs' : List Value) (v v' : FD) (w : World) (h : FIs w D cs v) (h' : FIs w D' cs' v') (res : Bool) (hres : res = decide (v = v')) :
    Calls Try.prog 79 #[.agg cs.toArray, .agg cs'.toArray] w fun e w' => e = .returned (.bool res) ∧ Below w.heap.size w w' := by
  obtain ⟨A, n, c, B, m, d, rfl, h1, h2⟩ := h
  obtain ⟨A', n', c', B', m', d', rfl, h1', h2'⟩ := h'
  obtain ⟨a1, a2, a3, a4, xs, us, z⟩ := v
  obtain ⟨c1, c2, c3, c4, ys, vs, z'⟩ := v'
  simp only at h1 h2 h1' h2'
  have H1 := Lib.hid h1
  have H2 := Lib.hid h2
  have H1' := Lib.hid h1'
  have H2' := Lib.hid h2'
  have HR := Lib.hid hres
  have HB := Lib.hid (two_below w)
  clear h1 h2 h1' h2' hres
  go_enter Try.func79, Try.ntmps79
  by_cases e1 : a1 = c1
  · by_cases e2 : a2 = c2
    · by_cases e3 : a3 = c3
      · by_cases e4 : a4 = c4
        · by_cases e5 : z = z'
          · subst e1 e2 e3 e4 e5
            have q1 : (a1.toList == a1.toList) = true := by simp
            have q2 : (a2.toList == a2.toList) = true := by simp
            have q3 : (a3.toList == a3.toList) = true := by simp
            have q4 : (a4.toList == a4.toList) = true := by simp
            have q5 : (z == z) = true := by simp
            by_cases hx : xs = ys
            · have hx' := (decide_eq_true hx).symm
              have FIN : RowKit.Hid (res = decide (us = vs)) := by show _ = _; rw [HR.out]; simp [FD.mk.injEq, hx]
              have HX := Lib.hid hx'
              clear hx hx'
              go_wp2_with fail
              refine (eqS_any A A' n c n' c' xs ys D D' _ (H1.out.below (HB.out _ _)) (H1'.out.below (HB.out _ _)) true HX.out).mono ?_
              rintro e w1 ⟨rfl, k, rfl⟩
              go_wp2_with fail
              refine (eqS_any B B' m d m' d' us vs D D' _ (H2.out.below (below_drewN (HB.out _ _) _)) (H2'.out.below (below_drewN (HB.out _ _) _)) res FIN.out).mono ?_
              rintro e w2 ⟨rfl, k2, rfl⟩
              go_wp2
              go_ret
              exact ⟨rfl, below_drewN (HB.out _ _) _⟩
            · have FIN : RowKit.Hid (res = false) := HR.out.trans (decide_eq_false (fun h => hx (congrArg FD.locals h)))
              have hx' := (decide_eq_false hx).symm
              have HX := Lib.hid hx'
              clear hx hx'
              go_wp2_with fail
              refine (eqS_any A A' n c n' c' xs ys D D' _ (H1.out.below (HB.out _ _)) (H1'.out.below (HB.out _ _)) false HX.out).mono ?_
              rintro e w1 ⟨rfl, k, rfl⟩
              go_wp2
              go_ret
              exact ⟨by rw [FIN.out]; rfl, below_drewN (HB.out _ _) _⟩
          · have FIN : RowKit.Hid (res = false) := HR.out.trans (decide_eq_false (fun h => e5 (congrArg FD.version h)))
            have q1 : (a1.toList == c1.toList) = true := by rw [e1]; simp
            have q2 : (a2.toList == c2.toList) = true := by rw [e2]; simp
            have q3 : (a3.toList == c3.toList) = true := by rw [e3]; simp
            have q4 : (a4.toList == c4.toList) = true := by rw [e4]; simp
            have q5 : (z == z') = false := by simpa using e5
            clear e1 e2 e3 e4 e5
            go_wp2
            go_ret
            exact ⟨by rw [FIN.out]; rfl, HB.out _ _⟩
        · have FIN : RowKit.Hid (res = false) := HR.out.trans (decide_eq_false (fun h => e4 (congrArg FD.right h)))
          have q1 : (a1.toList == c1.toList) = true := by rw [e1]; simp
          have q2 : (a2.toList == c2.toList) = true := by rw [e2]; simp
          have q3 : (a3.toList == c3.toList) = true := by rw [e3]; simp
          have q4 := str_ne e4
          clear e1 e2 e3 e4
          go_wp2
          go_ret
          exact ⟨by rw [FIN.out]; rfl, HB.out _ _⟩
      · have FIN : RowKit.Hid (res = false) := HR.out.trans (decide_eq_false (fun h => e3 (congrArg FD.left h)))
        have q1 : (a1.toList == c1.toList) = true := by rw [e1]; simp
        have q2 : (a2.toList == c2.toList) = true := by rw [e2]; simp
        have q3 := str_ne e3
        clear e1 e2 e3
        go_wp2
        go_ret
        exact ⟨by rw [FIN.out]; rfl, HB.out _ _⟩
    · have FIN : RowKit.Hid (res = false) := HR.out.trans (decide_eq_false (fun h => e2 (congrArg FD.result h)))
      have q1 : (a1.toList == c1.toList) = true := by rw [e1]; simp
      have q2 := str_ne e2
      clear e1 e2
      go_wp2
      go_ret
      exact ⟨by rw [FIN.out]; rfl, HB.out _ _⟩
  · have FIN : RowKit.Hid (res = false) := HR.out.trans (decide_eq_false (fun h => e1 (congrArg FD.name h)))
    have q1 := str_ne e1
    clear e1
    go_wp2
    go_ret
    exact ⟨by rw [FIN.out]; rfl, HB.out _ _⟩

set_option maxRecDepth 100000 in
set_option maxHeartbeats 3200000 in
theorem cop_any (D D' : Nat → Prop) (cs cs' : List Value) (v v' : OD) (w : World) (h : OIs w D cs v) (h' : OIs w D' cs' v') (res : Bool) (hres : res = decide (v = v')) :
    Calls Try.prog 81 #[.agg cs.toArray, .agg cs'.toArray] w fun e w' => e = .returned (.bool res) ∧ Below w.heap.size w w' := by
  obtain ⟨vs, rfl, hv⟩ := h
  obtain ⟨vs', rfl, hv'⟩ := h'
  have hv2 := hv
  have hv2' := hv'
  obtain ⟨A, n, c, B, m, d, rfl, _, _⟩ := hv2
  obtain ⟨A', n', c', B', m', d', rfl, _, _⟩ := hv2'
  obtain ⟨k, f, nm, V, z, ax⟩ := v
  obtain ⟨k', f', nm', V', z', ax'⟩ := v'
  simp only at hv hv'
  have H1 := Lib.hid hv
  have H1' := Lib.hid hv'
  have HR := Lib.hid hres
  have HB := Lib.hid (two_below w)
  clear hv hv' hres
  go_enter Try.func81, Try.ntmps81
  by_cases e1 : k = k'
  · by_cases e2 : f = f'
    · by_cases e3 : nm = nm'
      · by_cases e4 : z = z'
        · by_cases e5 : ax = ax'
          · subst e1 e2 e3 e4 e5
            have q1 : (k == k) = true := by simp
            have q2 : (f.toList == f.toList) = true := by simp
            have q3 : (nm.toList == nm.toList) = true := by simp
            have q4 : (z == z) = true := by simp
            have q5 : (ax == ax) = true := by simp
            have FIN : RowKit.Hid (res = decide (V = V')) := by show _ = _; rw [HR.out]; simp [OD.mk.injEq]
            go_wp2_with fail
            refine (calike_any D D' [.bool V.char, .slice A n c, .slice B m d] [.bool V'.char, .slice A' n' c', .slice B' m' d'] V V' _ (H1.out.below (HB.out _ _)) (H1'.out.below (HB.out _ _)) res FIN.out).mono ?_
            rintro e w1 ⟨rfl, hb1⟩
            have B1 := Lib.hid ((HB.out _ _).trans (hb1.mono (HB.out _ _).size))
            clear hb1
            go_wp2
            go_ret
            exact ⟨rfl, B1.out⟩
          · have FIN : RowKit.Hid (res = false) := HR.out.trans (decide_eq_false (fun h => e5 (congrArg OD.axis h)))
            have q1 : (k == k') = true := by simpa using e1
            have q2 : (f.toList == f'.toList) = true := by rw [e2]; simp
            have q3 : (nm.toList == nm'.toList) = true := by rw [e3]; simp
            have q4 : (z == z') = true := by simpa using e4
            have q5 : (ax == ax') = false := by simpa using e5
            clear e1 e2 e3 e4 e5
            go_wp2
            go_ret
            exact ⟨by rw [FIN.out]; rfl, HB.out _ _⟩
        · have FIN : RowKit.Hid (res = false) := HR.out.trans (decide_eq_false (fun h => e4 (congrArg OD.n h)))
          have q1 : (k == k') = true := by simpa using e1
          have q2 : (f.toList == f'.toList) = true := by rw [e2]; simp
          have q3 : (nm.toList == nm'.toList) = true := by rw [e3]; simp
          have q4 : (z == z') = false := by simpa using e4
          clear e1 e2 e3 e4
          go_wp2
          go_ret
          exact ⟨by rw [FIN.out]; rfl, HB.out _ _⟩
      · have FIN : RowKit.Hid (res = false) := HR.out.trans (decide_eq_false (fun h => e3 (congrArg OD.name h)))
        have q1 : (k == k') = true := by simpa using e1
        have q2 : (f.toList == f'.toList) = true := by rw [e2]; simp
        have q3 := str_ne e3
        clear e1 e2 e3
        go_wp2
        go_ret
        exact ⟨by rw [FIN.out]; rfl, HB.out _ _⟩
    · have FIN : RowKit.Hid (res = false) := HR.out.trans (decide_eq_false (fun h => e2 (congrArg OD.fn h)))
      have q1 : (k == k') = true := by simpa using e1
      have q2 := str_ne e2
      clear e1 e2
      go_wp2
      go_ret
      exact ⟨by rw [FIN.out]; rfl, HB.out _ _⟩
  · have FIN : RowKit.Hid (res = false) := HR.out.trans (decide_eq_false (fun h => e1 (congrArg OD.kind h)))
    have q1 : (k == k') = false := by simpa using e1
    clear e1
    go_wp2
    go_ret
    exact ⟨by rw [FIN.out]; rfl, HB.out _ _⟩
end Go.Proofs.Ytochdmbjlemfoaa
