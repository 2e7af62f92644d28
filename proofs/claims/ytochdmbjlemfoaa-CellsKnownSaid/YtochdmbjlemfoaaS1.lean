/-
  What the document's arrays, functions, instructions and things read as in memory (VIs, FIs, OIs, TIs), and the contract of anamnesisref06.Same: two arrays are the same just if they read so. Of any two that can be read.
-/
import Derived.Test.YtochdmbjlemfoaaProg
import Derived.Test.YtochdmbjlemfoaaW
import Derived.WalkSpells
import Derived.WalkLawsBesides
import Derived.KernelRfl
import Derived.Lib.Hide
import Derived.Outline
import Derived.Handy
import Derived.Deep.QuietTactic
import Derived.BigQuiet
namespace Go.Proofs.Ytochdmbjlemfoaa
open Go Go.RowKit

structure VD where
  char : Bool
  shape : List Int
  data : List Int
deriving DecidableEq
structure FD where
  name : ByteArray
  result : ByteArray
  left : ByteArray
  right : ByteArray
  locals : List ByteArray
  lines : List ByteArray
  version : Int
deriving DecidableEq
structure OD where
  kind : Int
  fn : ByteArray
  name : ByteArray
  v : VD
  n : Int
  axis : Bool
deriving DecidableEq
structure TD where
  kind : Int
  v : VD
  f : FD
  ops : List OD
  n : Int
  s : ByteArray
deriving DecidableEq

def intRows (k : IntKind) (xs : List Int) : List (List Value) := xs.map fun x => [.int k x]
def strRows (xs : List ByteArray) : List (List Value) := xs.map fun x => [.string x]

theorem al4 (w : World) (o1 o2 o3 o4 : Obj) : ((((w.alloc o1).alloc o2).alloc o3).alloc o4).heap[w.heap.size]? = some o1 ∧ ((((w.alloc o1).alloc o2).alloc o3).alloc o4).heap[w.heap.size + 1]? = some o2 ∧
    ((((w.alloc o1).alloc o2).alloc o3).alloc o4).heap[w.heap.size + 1 + 1]? = some o3 ∧ ((((w.alloc o1).alloc o2).alloc o3).alloc o4).heap[w.heap.size + 1 + 1 + 1]? = some o4 := by
  have z1 : (w.alloc o1).heap.size = w.heap.size + 1 := by simp
  have z2 : ((w.alloc o1).alloc o2).heap.size = w.heap.size + 1 + 1 := by simp
  have z3 : (((w.alloc o1).alloc o2).alloc o3).heap.size = w.heap.size + 1 + 1 + 1 := by simp
  refine ⟨?_, ?_, ?_, ?_⟩
  · rw [Below.heap_alloc _ _ _ (by omega), Below.heap_alloc _ _ _ (by omega), Below.heap_alloc _ _ _ (by omega)]; exact heap_alloc_new _ _
  · rw [Below.heap_alloc _ _ _ (by omega), Below.heap_alloc _ _ _ (by omega)]; have h := heap_alloc_new (w.alloc o1) o2; rw [z1] at h; exact h
  · rw [Below.heap_alloc _ _ _ (by omega)]; have h := heap_alloc_new ((w.alloc o1).alloc o2) o3; rw [z2] at h; exact h
  · have h := heap_alloc_new (((w.alloc o1).alloc o2).alloc o3) o4; rw [z3] at h; exact h
theorem al4_below (w : World) (o1 o2 o3 o4 : Obj) : Below w.heap.size w ((((w.alloc o1).alloc o2).alloc o3).alloc o4) :=
  ((((Below.refl _ w).alloc (Nat.le_refl _) _).alloc (by simp) _).alloc (by simp; omega) _).alloc (by simp; omega) _

/-- Of one-cell rows: where they lie. -/
theorem Rd.one {w : World} {D : Nat → Prop} {α : Type} {f : α → Value} {A : Option Addr} {n c : Nat} {xs : List α} (h : Rd w D 1 A n c (xs.map fun x => [f x])) :
    xs.length = n ∧ (0 < n → ∃ b off, A = some ⟨b, off, none⟩ ∧ D b ∧ b < w.heap.size ∧ ∀ i x, xs[i]? = some x → w.cell? ⟨b, off + i, none⟩ = some (f x)) := by
  refine ⟨by simpa using h.len, fun hn => ?_⟩
  obtain ⟨b, off, hA, hD, hc⟩ := h.at_ hn
  have hcell : ∀ i x, xs[i]? = some x → w.cell? ⟨b, off + i, none⟩ = some (f x) := fun i x hx => by
    have := hc i [f x] (by simp [hx]) 0 (f x) rfl
    simpa using this
  have hl : 0 < xs.length := by have := h.len; simp at this; omega
  exact ⟨b, off, hA, hD, World.block_lt_of_cell? w _ (hcell 0 _ (List.getElem?_eq_getElem hl)), hcell⟩

def VIs (w : World) (D : Nat → Prop) (cs : List Value) (v : VD) : Prop :=
  ∃ A n c A' n' c', cs = [.bool v.char, .slice A n c, .slice A' n' c'] ∧ Rd w D 1 A n c (intRows .i64 v.shape) ∧ Rd w D 1 A' n' c' (intRows .i64 v.data)
def FIs (w : World) (D : Nat → Prop) (cs : List Value) (v : FD) : Prop :=
  ∃ A n c A' n' c', cs = [.string v.name, .string v.result, .string v.left, .string v.right, .slice A n c, .slice A' n' c', .int .i64 v.version] ∧ Rd w D 1 A n c (strRows v.locals) ∧ Rd w D 1 A' n' c' (strRows v.lines)
def OIs (w : World) (D : Nat → Prop) (cs : List Value) (v : OD) : Prop :=
  ∃ vs, cs = [.int .u8 v.kind, .string v.fn, .string v.name] ++ vs ++ [.int .i64 v.n, .bool v.axis] ∧ VIs w D vs v.v
def TIs (w : World) (D : Nat → Prop) (cs : List Value) (v : TD) : Prop :=
  ∃ vs fs A n c oes, cs = [.int .u8 v.kind] ++ vs ++ fs ++ [.slice A n c, .int .i64 v.n, .string v.s] ∧ VIs w D vs v.v ∧ FIs w D fs v.f ∧ Rd w D 8 A n c oes ∧
    oes.length = v.ops.length ∧ ∀ (i : Nat) oe o, oes[i]? = some oe → v.ops[i]? = some o → OIs w D oe o

section
variable {w w' : World} {D S : Nat → Prop} {cs : List Value}
theorem VIs.chg {v : VD} (h : VIs w D cs v) (hg : Chg S w w') (hD : ∀ b, D b → ¬ S b) : VIs w' D cs v := by
  obtain ⟨A, n, c, A', n', c', h1, h2, h3⟩ := h
  exact ⟨A, n, c, A', n', c', h1, h2.chg hg hD, h3.chg hg hD⟩
theorem FIs.chg {v : FD} (h : FIs w D cs v) (hg : Chg S w w') (hD : ∀ b, D b → ¬ S b) : FIs w' D cs v := by
  obtain ⟨A, n, c, A', n', c', h1, h2, h3⟩ := h
  exact ⟨A, n, c, A', n', c', h1, h2.chg hg hD, h3.chg hg hD⟩
theorem OIs.chg {v : OD} (h : OIs w D cs v) (hg : Chg S w w') (hD : ∀ b, D b → ¬ S b) : OIs w' D cs v := by
  obtain ⟨vs, h1, h2⟩ := h
  exact ⟨vs, h1, h2.chg hg hD⟩
theorem TIs.chg {v : TD} (h : TIs w D cs v) (hg : Chg S w w') (hD : ∀ b, D b → ¬ S b) : TIs w' D cs v := by
  obtain ⟨vs, fs, A, n, c, oes, h1, h2, h3, h4, h5, h6⟩ := h
  exact ⟨vs, fs, A, n, c, oes, h1, h2.chg hg hD, h3.chg hg hD, h4.chg hg hD, h5, fun i oe o a b => (h6 i oe o a b).chg hg hD⟩
theorem TIs.below {v : TD} (h : TIs w D cs v) (hb : Below w.heap.size w w') : TIs w' D cs v := h.chg (S := fun _ => False) (Chg.of_below hb) (fun _ _ h => h)
theorem VIs.below {v : VD} (h : VIs w D cs v) (hb : Below w.heap.size w w') : VIs w' D cs v := h.chg (S := fun _ => False) (Chg.of_below hb) (fun _ _ h => h)
end

set_option maxRecDepth 100000 in
set_option maxHeartbeats 800000 in
theorem vsame_char (a b : Bool) (x1 x2 y1 y2 : Value) (w : World) (h : a ≠ b) :
    Calls Try.prog 84 #[.agg #[.bool a, x1, x2], .agg #[.bool b, y1, y2]] w fun e w' => e = .returned (.bool false) ∧ Below w.heap.size w w' := by
  obtain rfl : b = !a := by cases a <;> cases b <;> simp_all
  clear h
  go_enter Try.func84, Try.ntmps84
  cases a
  · go_wp2
    go_ret
    exact ⟨rfl, by go_grown⟩
  · go_wp2
    go_ret
    exact ⟨rfl, by go_grown⟩
set_option maxRecDepth 100000 in
set_option maxHeartbeats 800000 in
theorem vsame_len (a : Bool) (A1 A2 B1 B2 : Option Addr) (n1 c1 n2 c2 m1 d1 m2 d2 : Nat) (w : World) (h : n1 ≠ m1 ∨ n2 ≠ m2) :
    Calls Try.prog 84 #[.agg #[.bool a, .slice A1 n1 c1, .slice A2 n2 c2], .agg #[.bool a, .slice B1 m1 d1, .slice B2 m2 d2]] w fun e w' => e = .returned (.bool false) ∧ Below w.heap.size w w' := by
  by_cases h1 : n1 = m1
  · have h2 : n2 ≠ m2 := by omega
    subst h1
    have h3 : ((n2 : Int) == (m2 : Int)) = false := by simp; omega
    clear h h2
    go_enter Try.func84, Try.ntmps84
    go_wp2
    go_ret
    exact ⟨rfl, by go_grown⟩
  · have h3 : ((n1 : Int) == (m1 : Int)) = false := by simp; omega
    clear h h1
    go_enter Try.func84, Try.ntmps84
    go_wp2
    go_ret
    exact ⟨rfl, by go_grown⟩

theorem take_step {α : Type} {xs ys : List α} {k : Nat} (h : xs.take k = ys.take k) {x : α} (hx : xs[k]? = some x) (hy : ys[k]? = some x) : xs.take (k + 1) = ys.take (k + 1) := by
  rw [List.take_add_one, List.take_add_one, hx, hy, h]
theorem ne_at {α : Type} {xs ys : List α} {k : Nat} {x y : α} (hx : xs[k]? = some x) (hy : ys[k]? = some y) (h : x ≠ y) : xs ≠ ys := by
  rintro rfl
  exact h (Option.some.inj (hx.symm.trans hy))
theorem take_all {α : Type} {xs ys : List α} {n : Nat} (h : xs.take n = ys.take n) (hx : xs.length = n) (hy : ys.length = n) : xs = ys := by
  rwa [List.take_of_length_le (by omega), List.take_of_length_le (by omega)] at h

set_option maxRecDepth 100000 in
set_option maxHeartbeats 1600000 in
theorem vsame_same (a : Bool) (A1 A2 B1 B2 : Option Addr) (n c1 m c2 d1 d2 : Nat) (xs ys us vs : List Int) (D1 D2 D3 D4 : Nat → Prop) (w : World)
    (hx : Rd w D1 1 A1 n c1 (intRows .i64 xs)) (hy : Rd w D2 1 B1 n d1 (intRows .i64 ys)) (hu : Rd w D3 1 A2 m c2 (intRows .i64 us)) (hv : Rd w D4 1 B2 m d2 (intRows .i64 vs)) :
    Calls Try.prog 84 #[.agg #[.bool a, .slice A1 n c1, .slice A2 m c2], .agg #[.bool a, .slice B1 n d1, .slice B2 m d2]] w fun e w' => e = .returned (.bool (decide (xs = ys ∧ us = vs))) ∧ Below w.heap.size w w' := by
  have hn : n ≤ 9223372036854775807 := by have h1 := hx.le; have h2 := hx.max; unfold maxLen at h2; omega
  have hm : m ≤ 9223372036854775807 := by have h1 := hu.le; have h2 := hu.max; unfold maxLen at h2; omega
  obtain ⟨lx, hx⟩ := hx.one
  obtain ⟨ly, hy⟩ := hy.one
  obtain ⟨lu, hu⟩ := hu.one
  obtain ⟨lv, hv⟩ := hv.one
  have H1 := Lib.hid hx
  have H2 := Lib.hid hy
  have H3 := Lib.hid hu
  have H4 := Lib.hid hv
  have L1 := Lib.hid lx
  have L2 := Lib.hid ly
  have L3 := Lib.hid lu
  have L4 := Lib.hid lv
  clear hx hy hu hv lx ly lu lv
  have G := fun (o1 o2 : Obj) (d : Nat) => below_drewN (((Below.refl w.heap.size w).alloc (Nat.le_refl _) o1).alloc (by simp) o2) d
  have HG := Lib.hid G
  clear G
  go_enter Try.func84, Try.ntmps84
  cases a
  all_goals
    go_wp2
    go_loopw [5] (fun i wr => ∃ k d : Nat, k ≤ n ∧ i = .int .i64 (k : Int) ∧ wr = World.drewN ((w.alloc (Obj.cells _ 39)).alloc (Obj.cells _ 39)) d ∧ RowKit.Hid (xs.take k = ys.take k)) (fun i _ => n - (intOf i).toNat)
    case atStart => exact ⟨0, 0, Nat.zero_le _, rfl, rfl, rfl⟩
    case round =>
      obtain ⟨k, d, hk, rfl, rfl, hh⟩ := hrel
      by_cases hlt : k < n
      · obtain ⟨b, off, hA, -, hb, hc⟩ := H1.out (by omega)
        obtain ⟨b', off', hB, -, hb', hc'⟩ := H2.out (by omega)
        obtain ⟨x, hxk⟩ : ∃ x, xs[k]? = some x := ⟨_, List.getElem?_eq_getElem (by rw [L1.out]; exact hlt)⟩
        obtain ⟨y, hyk⟩ : ∃ y, ys[k]? = some y := ⟨_, List.getElem?_eq_getElem (by rw [L2.out]; exact hlt)⟩
        subst hA hB
        have cx := hc k x hxk
        have cy := hc' k y hyk
        have Hx := Lib.hid hxk
        have Hy := Lib.hid hyk
        clear hc hc' hxk hyk
        have h1 : (k : Int) < (n : Int) := by omega
        have h2 : (0 : Int) ≤ (k : Int) := by omega
        by_cases he : x = y
        · subst he
          go_wp2
          go_quiet (fail)
          go_wp2
          go_roundw
          case rel => exact ⟨k + 1, _, by omega, by go_num, rfl, take_step hh.out Hx.out Hy.out⟩
          case measure => simp [intOf]; omega
        · have h3 : (x == y) = false := by simpa using he
          have HE := Lib.hid he
          clear he
          go_wp2
          go_quiet (fail)
          go_wp2
          go_ret
          exact ⟨by rw [decide_eq_false (fun h => ne_at Hx.out Hy.out HE.out h.1)]; rfl, below_drewN (HG.out _ _ _) _⟩
      · have hkn : k = n := by omega
        subst hkn
        have hh2 : RowKit.Hid (xs = ys) := take_all hh.out L1.out L2.out
        clear hh
        go_wp2
        go_loopw [6] (fun i wr => ∃ k d : Nat, k ≤ m ∧ i = .int .i64 (k : Int) ∧ wr = World.drewN ((w.alloc (Obj.cells _ 39)).alloc (Obj.cells _ 39)) d ∧ RowKit.Hid (us.take k = vs.take k)) (fun i _ => m - (intOf i).toNat)
        case atStart => exact ⟨0, _, Nat.zero_le _, rfl, rfl, rfl⟩
        case round =>
          obtain ⟨k, d, hk, rfl, rfl, hh⟩ := hrel
          by_cases hlt : k < m
          · obtain ⟨b, off, hA, -, hb, hc⟩ := H3.out (by omega)
            obtain ⟨b', off', hB, -, hb', hc'⟩ := H4.out (by omega)
            obtain ⟨x, hxk⟩ : ∃ x, us[k]? = some x := ⟨_, List.getElem?_eq_getElem (by rw [L3.out]; exact hlt)⟩
            obtain ⟨y, hyk⟩ : ∃ y, vs[k]? = some y := ⟨_, List.getElem?_eq_getElem (by rw [L4.out]; exact hlt)⟩
            subst hA hB
            have cx := hc k x hxk
            have cy := hc' k y hyk
            have Hx := Lib.hid hxk
            have Hy := Lib.hid hyk
            clear hc hc' hxk hyk
            have h1 : (k : Int) < (m : Int) := by omega
            have h2 : (0 : Int) ≤ (k : Int) := by omega
            by_cases he : x = y
            · subst he
              go_wp2
              go_quiet (fail)
              go_wp2
              go_roundw
              case rel => exact ⟨k + 1, _, by omega, by go_num, rfl, take_step hh.out Hx.out Hy.out⟩
              case measure => simp [intOf]; omega
            · have h3 : (x == y) = false := by simpa using he
              have HE := Lib.hid he
              clear he
              go_wp2
              go_quiet (fail)
              go_wp2
              go_ret
              exact ⟨by rw [decide_eq_false (fun h => ne_at Hx.out Hy.out HE.out h.2)]; rfl, below_drewN (HG.out _ _ _) _⟩
          · have hkn : k = m := by omega
            subst hkn
            have hh3 : RowKit.Hid (us = vs) := take_all hh.out L3.out L4.out
            clear hh
            go_wp2
            go_ret
            exact ⟨by rw [decide_eq_true ⟨hh2.out, hh3.out⟩]; rfl, HG.out _ _ _⟩

theorem vsame_any (D D' : Nat → Prop) (cs cs' : List Value) (v v' : VD) (w : World) (h : VIs w D cs v) (h' : VIs w D' cs' v') :
    Calls Try.prog 84 #[.agg cs.toArray, .agg cs'.toArray] w fun e w' => e = .returned (.bool (decide (v = v'))) ∧ Below w.heap.size w w' := by
  obtain ⟨A, n, c, B, m, d, rfl, h1, h2⟩ := h
  obtain ⟨A', n', c', B', m', d', rfl, h1', h2'⟩ := h'
  obtain ⟨a, xs, us⟩ := v
  obtain ⟨a', ys, vs⟩ := v'
  have l1 := h1.one.1
  have l2 := h2.one.1
  have l1' := h1'.one.1
  have l2' := h2'.one.1
  simp only at l1 l2 l1' l2' h1 h2 h1' h2' ⊢
  by_cases ha : a = a'
  · subst ha
    by_cases hl : n = n' ∧ m = m'
    · obtain ⟨rfl, rfl⟩ := hl
      refine (vsame_same a A B A' B' n c m d c' d' xs ys us vs D D' D D' w h1 h1' h2 h2').mono ?_
      rintro e w' ⟨rfl, hb⟩
      refine ⟨?_, hb⟩
      simp [VD.mk.injEq]
    · refine (vsame_len a A B A' B' n c m d n' c' m' d' w (by omega)).mono ?_
      rintro e w' ⟨rfl, hb⟩
      refine ⟨?_, hb⟩
      rw [decide_eq_false]
      intro h
      simp only [VD.mk.injEq] at h
      obtain ⟨_, rfl, rfl⟩ := h
      omega
  · refine (vsame_char a a' _ _ _ _ w ha).mono ?_
    rintro e w' ⟨rfl, hb⟩
    refine ⟨?_, hb⟩
    rw [decide_eq_false]
    intro h
    simp only [VD.mk.injEq] at h
    exact ha h.1
end Go.Proofs.Ytochdmbjlemfoaa
