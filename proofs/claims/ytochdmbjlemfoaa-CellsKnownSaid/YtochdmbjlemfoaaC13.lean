/-
  slices.Backward over a slice of entries: the iterator's contract (each entry from the last one on), for a loop that changes neither the slice nor the slice's header. Any slice that can be read.
-/
import Derived.Test.YtochdmbjlemfoaaC6
import Derived.Test.YtochdmbjlemfoaaF1
import Derived.RangeFuncBound
import Derived.RangeFuncLeaves
import Derived.Shelf.Abstract
import Derived.OwnWalkIn
import Derived.TacticsInMore
import Derived.LoopNIn
import Derived.LoopIn
namespace Go.Proofs.Ytochdmbjlemfoaa
open Go Go.RowKit Go.Maps Go.ChangeMaps

/-- What has come when m are left. -/
def came (len m : Nat) : List Nat := ((List.range len).drop m).reverse
theorem came_all (len : Nat) : came len len = [] := by simp [came]
theorem came_step {len m : Nat} (h : m < len) : came len m = came len (m + 1) ++ [m] := by
  unfold came
  rw [← List.reverse_cons]
  congr 1
  rw [List.drop_eq_getElem_cons (by simpa using h)]
  simp
theorem came_len {len m : Nat} : (came len m).length = len - m := by simp [came]
theorem came_map {α : Type} (l : List α) (z : α) : (came l.length 0).map (fun i => l.getD i z) = l.reverse := by
  unfold came
  rw [List.drop_zero, List.map_reverse]
  congr 1
  apply List.ext_getElem
  · simp
  · intro i h1 h2
    simp at h1
    simp [h1]
/-- No entry. -/
def zrow : List Value := [.string ⟨#[]⟩] ++ numE 0 0 ++ [.bool false]
def zent : ED := ⟨⟨#[]⟩, tz, false⟩
theorem zent_is (w : World) (D : Nat → Prop) : EntIs w D zrow zent := ⟨_, rfl, tz_is w D⟩
theorem EntsAre.getD {w : World} {D : Nat → Prop} {es : List (List Value)} {L : List ED} (h : EntsAre w D es L) (i : Nat) : EntIs w D (es.getD i zrow) (L.getD i zent) := by
  by_cases hi : i < es.length
  · have h1 := List.getElem?_eq_getElem hi
    have h2 := List.getElem?_eq_getElem (l := L) (i := i) (by rw [← h.1]; exact hi)
    rw [List.getD_eq_getElem?_getD, List.getD_eq_getElem?_getD, h1, h2]
    exact h.2 i _ _ h1 h2
  · rw [List.getD_eq_getElem?_getD, List.getD_eq_getElem?_getD, List.getElem?_eq_none (by omega), List.getElem?_eq_none (by rw [← h.1]; omega)]
    exact zent_is w D
theorem len16 {l : List Value} (h : l.length = 16) : ∃ x0 x1 x2 x3 x4 x5 x6 x7 x8 x9 x10 x11 x12 x13 x14 x15, l = [x0, x1, x2, x3, x4, x5, x6, x7, x8, x9, x10, x11, x12, x13, x14, x15] := by
  match l, h with
  | [a0, a1, a2, a3, a4, a5, a6, a7, a8, a9, a10, a11, a12, a13, a14, a15], _ => exact ⟨_, _, _, _, _, _, _, _, _, _, _, _, _, _, _, _, rfl⟩
def backE (es : List (List Value)) (i : Nat) : Array Value := #[.int .i64 (i : Int), .agg (es.getD i zrow).toArray]
theorem rd_row16 {w wr : World} {D X : Nat → Prop} {A : Option Addr} {n c k : Nat} {es : List (List Value)} (h : Rd w D 16 A n c es) (hD : ∀ b, D b → ¬ X b) (hc : Chg X w wr) (hk : k < n) :
    ∃ b off x0 x1 x2 x3 x4 x5 x6 x7 x8 x9 x10 x11 x12 x13 x14 x15, A = some ⟨b, off, none⟩ ∧ es.getD k zrow = [x0, x1, x2, x3, x4, x5, x6, x7, x8, x9, x10, x11, x12, x13, x14, x15] ∧ wr.cell? ⟨b, off + k * 16, none⟩ = some x0 ∧ wr.cell? ⟨b, off + k * 16 + 1, none⟩ = some x1 ∧ wr.cell? ⟨b, off + k * 16 + 2, none⟩ = some x2 ∧ wr.cell? ⟨b, off + k * 16 + 3, none⟩ = some x3 ∧
      wr.cell? ⟨b, off + k * 16 + 4, none⟩ = some x4 ∧ wr.cell? ⟨b, off + k * 16 + 5, none⟩ = some x5 ∧ wr.cell? ⟨b, off + k * 16 + 6, none⟩ = some x6 ∧ wr.cell? ⟨b, off + k * 16 + 7, none⟩ = some x7 ∧ wr.cell? ⟨b, off + k * 16 + 8, none⟩ = some x8 ∧ wr.cell? ⟨b, off + k * 16 + 9, none⟩ = some x9 ∧ wr.cell? ⟨b, off + k * 16 + 10, none⟩ = some x10 ∧
      wr.cell? ⟨b, off + k * 16 + 11, none⟩ = some x11 ∧ wr.cell? ⟨b, off + k * 16 + 12, none⟩ = some x12 ∧ wr.cell? ⟨b, off + k * 16 + 13, none⟩ = some x13 ∧ wr.cell? ⟨b, off + k * 16 + 14, none⟩ = some x14 ∧ wr.cell? ⟨b, off + k * 16 + 15, none⟩ = some x15 := by
  obtain ⟨b, off, hA, hb, hcell⟩ := h.at_ (by omega)
  obtain ⟨e, he⟩ : ∃ e, es[k]? = some e := ⟨_, List.getElem?_eq_getElem (by rw [h.len]; exact hk)⟩
  have hg : es.getD k zrow = e := by rw [List.getD_eq_getElem?_getD, he]; rfl
  have hl := (h.rows e (List.mem_of_getElem? he)).1
  have hf : ∀ j u, e[j]? = some u → wr.cell? ⟨b, off + k * 16 + j, none⟩ = some u := fun j u hj => by
    rw [Nat.add_assoc]
    exact hc.cell (hcell k e he j u hj) (hD b hb)
  obtain ⟨x0, x1, x2, x3, x4, x5, x6, x7, x8, x9, x10, x11, x12, x13, x14, x15, rfl⟩ := len16 hl
  have h0 := hf 0 _ rfl
  simp only [Nat.add_zero] at h0
  exact ⟨b, off, x0, x1, x2, x3, x4, x5, x6, x7, x8, x9, x10, x11, x12, x13, x14, x15, hA, hg, h0, hf 1 _ rfl, hf 2 _ rfl, hf 3 _ rfl, hf 4 _ rfl, hf 5 _ rfl, hf 6 _ rfl, hf 7 _ rfl, hf 8 _ rfl, hf 9 _ rfl, hf 10 _ rfl, hf 11 _ rfl, hf 12 _ rfl, hf 13 _ rfl, hf 14 _ rfl, hf 15 _ rfl⟩

attribute [local go_sem] Oper.semAt_some

def left3 (v : Value) : Nat := (RowKit.intOf v + 1).toNat
set_option maxRecDepth 100000 in
set_option maxHeartbeats 2000000 in
theorem back1_in (n : Nat) (hn : 1 ≤ n) (l Bs : Nat) (A : Option Addr) (len cap : Nat) (es : List (List Value)) (X Dd : Nat → Prop) (hlen : len ≤ 1000000) (J Jx : List Nat → World → Prop)
    (hY : ∀ pre x W, J pre W → pre.length < len → YieldAt Fence.wide (n - 1) Try.prog l (backE es x) W fun e W' =>
      (e = .returned (.bool true) ∧ J (pre ++ [x]) W' ∧ Chg X W W') ∨ (e = .returned (.bool false) ∧ Jx (pre ++ [x]) W'))
    (W : World) (hBs : W.cell? ⟨Bs, 0, none⟩ = some (.slice A len cap)) (hnB : ¬ X Bs) (hR : Rd W Dd 16 A len cap es) (hD : ∀ b, Dd b → ¬ X b) (h0 : J [] W) :
    CallsIn Fence.wide n Try.prog 99 #[.func (.yield l) #[] #[], .pointer (some ⟨Bs, 0, none⟩)] W fun e W' => (∃ v, e = .returned v) ∧
      ((∃ ys, ys = came len 0 ∧ J ys W') ∨ (∃ pre : List Nat, True ∧ Jx pre W')) := by
  have HR := Lib.hid hR
  have HY := Lib.hid hY
  have HD := Lib.hid hD
  have HnB := Lib.hid hnB
  have H0 := Lib.hid h0
  have HBs := Lib.hid hBs
  have HN : RowKit.Hid (∀ i, Bs = i → ¬ X i) := fun i e => by subst e; exact hnB
  clear hR hY hD hnB h0
  refine callsIn_of_wp Try.func99 rfl trivial ?_ rfl
  simp only [Try.ntmps99, List.size_toArray, List.length_cons, List.length_nil, Nat.reduceAdd, Nat.reduceSub, Array.replicate_succ, Array.replicate_zero, List.push_toArray, List.append_toArray, List.nil_append, List.cons_append]
  gi_wp2
  gi_loopw [3] (fun i wr => ∃ m : Nat, m ≤ len ∧ i = .int .i64 ((m : Int) - 1) ∧ RowKit.Hid (J (came len m) wr) ∧ RowKit.Hid (Chg X W wr)) (fun i _ => left3 i)
  case atStart => exact ⟨len, Nat.le_refl _, by first | rfl | simp, by rw [came_all]; exact H0.out, Chg.refl _ _⟩
  case round =>
    obtain ⟨m, hm, rfl, hJ, hC⟩ := hrel
    have hBr : wr.cell? ⟨Bs, 0, none⟩ = some (.slice A len cap) := hC.out.cell HBs.out HnB.out
    cases m with
    | zero =>
      have q : ¬ (0 : Int) ≤ ((0 : Nat) : Int) - 1 := by omega
      gi_wp2
      go_end0
      exact ⟨⟨_, rfl⟩, .inl hJ.out⟩
    | succ k =>
      have e : (((k + 1 : Nat) : Int) - 1) = (k : Int) := by omega
      rw [e]
      have hlt : k < len := by omega
      obtain ⟨b, off, x0, x1, x2, x3, x4, x5, x6, x7, x8, x9, x10, x11, x12, x13, x14, x15, hA, hg, c0, c1, c2, c3, c4, c5, c6, c7, c8, c9, c10, c11, c12, c13, c14, c15⟩ := rd_row16 HR.out HD.out hC.out hlt
      obtain ⟨fn, tmps, assign, body, hy, hRr⟩ := HY.out _ k wr hJ.out (by rw [came_len]; omega)
      unfold backE at hy
      rw [hg] at hy
      have HRr := Lib.hid hRr
      have HS := Lib.hid (came_step hlt)
      subst hA
      have q1 : (k : Int) < (len : Int) := by omega
      have q2 : (0 : Int) ≤ (k : Int) := by omega
      clear hg hRr e hBs
      gi_wp2
      refine HRr.out.mono ?_
      rintro e W3 (⟨rfl, hJ3, hk3⟩ | ⟨rfl, hJx3⟩)
      · have HJ3 := Lib.hid hJ3
        have HC3 := Lib.hid (hC.out.trans hk3)
        clear hJ3 hk3
        gi_wp2
        go_roundw
        case rel => exact ⟨k, by omega, rfl, by rw [HS.out]; exact HJ3.out, HC3.out⟩
        case measure => simp [left3, RowKit.intOf]
      · gi_wp2
        refine bodyPost_ret (results_none rfl _ _ _) rfl ?_
        exact ⟨⟨_, rfl⟩, .inr ⟨_, trivial, hJx3⟩⟩

set_option maxHeartbeats 1000000 in
theorem back_any (A : Option Addr) (len cap : Nat) (w : World) :
    Calls Try.prog 87 #[.slice A len cap] w fun e w' => e = .returned (.func (.func 99) #[] #[.pointer (some ⟨w.heap.size, 0, none⟩)]) ∧ w' = w.alloc (.cells #[.slice A len cap] 24) := by
  go_enter Try.func87, Try.ntmps87
  go_wp2
  go_ret
  exact ⟨rfl, rfl⟩

theorem back_stops (n : Nat) (hn : 1 ≤ n) (Bs : Nat) (A : Option Addr) (len cap : Nat) (es : List (List Value)) (X Dd : Nat → Prop) (hlen : len ≤ 1000000) (w : World) (hBs : w.cell? ⟨Bs, 0, none⟩ = some (.slice A len cap)) (hnB : ¬ X Bs) (hR : Rd w Dd 16 A len cap es) (hD : ∀ b, Dd b → ¬ X b) :
    SeqStopsK Fence.wide n Try.prog 99 #[.pointer (some ⟨Bs, 0, none⟩)] (backE es) (Chg X) (fun ys => ys = came len 0) (fun _ => True) len w := fun l J Jx W hW _ _ hY h0 =>
  back1_in n hn l Bs A len cap es X Dd hlen J Jx hY W (below_cell hW hBs) hnB (hR.below hW) hD h0
end Go.Proofs.Ytochdmbjlemfoaa
