/-
  layout.texts (layer 05): contract: the texts of some elements, in a slice that the call makes. Of any array that is right.
-/
import Derived.Test.YtjkofndnhmfnoaaDoorL3
import Derived.Maps.AppendAt
import Derived.Laws.Runes
namespace Go.Proofs.YtjkofndnhmfnoaaDoor
open Go Go.RowKit

theorem strInfo : (Tryd.prog.info? 9).map (fun i => (i.zero, i.size, i.bytes)) = some (some (.string ⟨#[]⟩), 1, 16) := by kernel_rfl
theorem strParts : ∃ i, Tryd.prog.info? 9 = some i ∧ i.zero = some (.string ⟨#[]⟩) ∧ i.size = 1 ∧ i.bytes = 16 := by
  have h1 := strInfo
  cases h : Tryd.prog.info? 9 with
  | none => rw [h] at h1; cases h1
  | some i => rw [h] at h1; simp only [Option.map_some, Option.some.injEq, Prod.mk.injEq] at h1; exact ⟨i, rfl, h1.1, h1.2.1, h1.2.2⟩
def txVals (l : List (List UInt8)) : List Value := l.map fun t => .string (bs t)
/-- A slice that the call owns holds these texts. -/
def Txs (w : World) (base : Nat) (v : Value) (l : List (List UInt8)) : Prop := w.ownsRow base 9 1 v l.length (txVals l)
theorem txs_own {w : World} {base k : Nat} {v : Value} {l : List (List UInt8)} (h : Txs w base v l) (hl : l.length = k) : w.ownsRow base 9 1 v k (txVals l) := by subst hl; exact h
theorem Txs.nil (w : World) (base : Nat) : Txs w base (.slice none 0 0) [] := World.ownsRow_nil _ _ _ _
theorem Txs.snoc {w : World} {base : Nat} {v : Value} {l : List (List UInt8)} {t : List UInt8} (h : w.ownsRow base 9 1 v (l.length + 1) (txVals l ++ [.string (bs t)])) : Txs w base v (l ++ [t]) := by
  unfold Txs txVals
  rw [List.length_append, List.length_singleton, List.map_append]
  exact h
theorem Txs.below {w w' : World} {base : Nat} {v : Value} {l : List (List UInt8)} (h : Txs w base v l) (hb : Below w.heap.size w w') : Txs w' base v l := by
  refine ⟨h.1, h.2.imp id ?_⟩
  rintro ⟨g, cap, cur, rfl, h1, h2, h3⟩
  exact ⟨g, cap, cur, rfl, h1, (hb.block g (lt_of_block h2)).trans h2, h3⟩
theorem Txs.mono {w : World} {base base' : Nat} {v : Value} {l : List (List UInt8)} (h : Txs w base v l) (hb : base' ≤ base) : Txs w base' v l := by
  refine ⟨h.1, h.2.imp id ?_⟩
  rintro ⟨g, cap, cur, rfl, h1, h2⟩
  exact ⟨g, cap, cur, rfl, Nat.le_trans hb h1, h2⟩
theorem Txs.rd {w : World} {base : Nat} {v : Value} {l : List (List UInt8)} (h : Txs w base v l) : ∃ A c, v = .slice A l.length c ∧ Rd w (fun b => base ≤ b) 1 A l.length c (strRows (l.map bs)) := by
  have h1 : w.ownsRow base 9 1 v l.length (strRows (l.map bs)).flatten := by
    have e : (strRows (l.map bs)).flatten = txVals l := by
      unfold strRows txVals
      rw [List.map_map]
      clear h
      induction l with
      | nil => rfl
      | cons x l ih => simp [ih]
    rw [e]; exact h
  exact Rd.of_own h1 (by simp [strRows]) (fun e he => by
    obtain ⟨x, _, rfl⟩ := List.mem_map.1 he
    exact ⟨rfl, by simp [Value.oneCell']⟩)
theorem below_txs {w w' : World} {base : Nat} {v : Value} {l : List (List UInt8)} {w0 : World} (h : Txs w base v l) (hb : Below w0.heap.size w0 w) (h0 : base = w0.heap.size) {o : Obj} (hg : (w.alloc o).grownBy w' v.ownBlock) : Below w0.heap.size w0 w' := by
  subst h0
  exact (hb.alloc hb.size o).grown hg (by have := hb.size; simp; omega) (fun j hj => (World.ownsRow.lt h j hj).1)
/-- The texts of some elements. -/
def elsL (char : Bool) (data : List Int) (f n : Nat) : List (List UInt8) := ((data.drop f).take n).map (elL char)
theorem elsL_snoc {char : Bool} {data : List Int} {f k : Nat} {x : Int} (h : data[f + k]? = some x) : elsL char data f (k + 1) = elsL char data f k ++ [elL char x] := by
  unfold elsL
  rw [List.take_add_one, List.getElem?_drop, h]
  simp
theorem elsL_len {char : Bool} {data : List Int} {f n : Nat} (h : f + n ≤ data.length) : (elsL char data f n).length = n := by
  unfold elsL; simp; omega

theorem off_assoc {w : World} {b o f k : Nat} {u : Value} (h : w.cell? ⟨b, o + (f + k), none⟩ = some u) : w.cell? ⟨b, o + f + k, none⟩ = some u := by rw [Nat.add_assoc]; exact h

set_option maxRecDepth 100000 in
set_option maxHeartbeats 1600000 in
theorem texts05_any (char : Bool) (x0 : Value) (B : Option Addr) (m d f cnt : Nat) (data : List Int) (D : Nat → Prop) (w : World) (_h0 : x0.oneCell' = true) (hd : Rd w D 1 B m d (intRows .i64 data)) (hi : ∀ x ∈ data, i64 x) (hch : char = true → ∀ x ∈ data, chOk x) (hf : f + cnt ≤ m) (hm : m ≤ 1000000) (ht : Tab w) :
    Calls Tryd.prog 36 #[.agg #[.bool char, x0, .slice B m d], .int .i64 (f : Int), .int .i64 (cnt : Int)] w fun e w' => ∃ v, e = .returned v ∧ Txs w' w.heap.size v (elsL char data f cnt) ∧ Below w.heap.size w w' := by
  have hmen : data.length = m := by have := hd.len; simpa [intRows] using this
  have hdc := hd.le
  have hdm : d ≤ 9223372036854775807 := by have h2 := hd.max; unfold maxLen at h2; omega
  have HM := Lib.hid hmen
  have HT := Lib.hid ht
  have HI := Lib.hid hi
  have HCH := Lib.hid hch
  have HB := Lib.hid (fun o => (Below.refl w.heap.size w).alloc (Nat.le_refl _) o)
  obtain ⟨_, hy⟩ := hd.one
  have HY := Lib.hid hy
  have hf0 : (0 : Int) ≤ (f : Int) := by omega
  have hf1 : (f : Int) ≤ (d : Int) := by omega
  have hf2 : (0 : Int) ≤ (f : Int) + (cnt : Int) := by omega
  have hf3 : (f : Int) + (cnt : Int) ≤ (d : Int) := by omega
  have hf4 : (f : Int) ≤ (f : Int) + (cnt : Int) := by omega
  clear hd hi hch ht hmen hy
  obtain ⟨i0, hi, hz0, hz1, hz2⟩ := strParts
  rcases Nat.eq_zero_or_pos cnt with hc0 | hc0
  · subst hc0
    have HE : RowKit.Hid (elsL char data f 0 = []) := by show _ = _; simp [elsL]
    rw [HE.out]
    go_enter Tryd.func36, Tryd.ntmps36
    go_wp2
    all_goals
      go_loop [7, 18] (fun v i => v = .slice none 0 0 ∧ i = .int .i64 0) (fun _ _ => 0)
      case atStart => exact ⟨rfl, rfl⟩
      case round =>
        obtain ⟨rfl, rfl⟩ := hrel
        go_wp2
        go_ret
        exact ⟨_, rfl, Txs.nil _ _, HB.out _⟩
  · obtain ⟨b, off, hB, -, hbl, hc⟩ := HY.out (by omega)
    have HC := Lib.hid hc
    subst hB
    have hne : ¬ d = f := by omega
    have HBo := Lib.hid (HB.out (.cells #[.bool char, x0, .slice (some ⟨b, off, none⟩) m d] 27))
    clear hc HB HY
    have hs16 : ((f : Int) + (cnt : Int)).toNat - f = cnt := by omega
    have BX := Lib.hid (show (w.alloc (.cells #[.bool char, x0, .slice (some ⟨b, off, none⟩) m d] 27)).cell? ⟨w.heap.size, 0, none⟩ = some (.bool char) by rw [cell_of_row _ _ 0 _ _ _ (heap_alloc_new w _)]; rfl)
    go_enter Tryd.func36, Tryd.ntmps36
    go_wp2
    obtain ⟨wa, hwa⟩ : ∃ wa, wa = w.alloc (.cells #[.bool char, x0, .slice (some ⟨b, off, none⟩) m d] 27) := ⟨_, rfl⟩
    rw [← hwa] at HBo BX ⊢
    clear hwa
    go_loopw [7, 18] (fun v i wr => ∃ k : Nat, k ≤ cnt ∧ i = .int .i64 (k : Int) ∧ RowKit.Hid (Txs wr wa.heap.size v (elsL char data f k)) ∧ RowKit.Hid (Below wa.heap.size wa wr)) (fun _ i _ => cnt - (RowKit.intOf i).toNat)
    case atStart => exact ⟨0, Nat.zero_le _, rfl, by simp only [elsL, List.take_zero, List.map_nil]; exact Txs.nil _ _, Below.refl _ _⟩
    case round =>
      obtain ⟨k, hk, rfl, htx, hbw⟩ := hrel
      by_cases hlt : k < cnt
      · have q1 : (k : Int) < (cnt : Int) := by omega
        obtain ⟨x, hxk⟩ : ∃ x, data[f + k]? = some x := ⟨_, List.getElem?_eq_getElem (by rw [HM.out]; omega)⟩
        have cx := below_cell hbw.out (below_cell HBo.out (HC.out (f + k) x hxk))
        have HXM := Lib.hid (List.mem_of_getElem? hxk)
        have HSN := Lib.hid (elsL_snoc (char := char) hxk)
        have HLN := Lib.hid (elsL_len (char := char) (data := data) (f := f) (n := k) (by rw [HM.out]; omega))
        have HO := Lib.hid (txs_own htx.out HLN.out)
        have HS : RowKit.Hid (wa.heap.size ≤ wr.heap.size) := hbw.out.size
        have ca := off_assoc cx
        have hcell0 := below_cell hbw.out BX.out
        cases char with
        | true =>
          have hcx := HCH.out rfl x HXM.out
          have hx0 : 0 ≤ x := hcx.1
          have hx1 : x ≤ 1114111 := hcx.2.1
          have HEL : RowKit.Hid (bs (elL true x) = Utf8.encode x) := by show _ = _; unfold elL; rw [if_pos rfl, bs_data]
          clear hcx hxk cx
          go_wp2_with (at_builtin; refine wpList_append_own _ rfl (.tmp 24) (.tmp 28) 28 rfl wa.heap.size 9 i0 (.string ⟨#[]⟩) 1 16 Tryd.underlying28 hi hz0 hz1 hz2 rfl (by decide) _ k (txVals (elsL true data f k)) rfl (World.ownsRow.alloc HO.out _) ⟨wr.heap.size, 0, none⟩ 1 1 [.string (Utf8.encode x)] rfl rfl (cell_one_new _ _ _) (by simp [Value.oneCell']) (by unfold maxLen; omega) (by omega) (by have := HS.out; simp; omega) ?_; intro v5 w5 hown5 hgrow5 _)
          have HN : RowKit.Hid (Txs w5 wa.heap.size v5 (elsL true data f (k + 1))) := by
            show Txs _ _ _ _
            rw [HSN.out]
            refine Txs.snoc ?_
            rw [HLN.out, HEL.out]
            exact hown5
          have HBN := Lib.hid (below_txs htx.out hbw.out rfl hgrow5)
          clear hown5 hgrow5 ca hcell0 HO
          go_wp2
          go_roundw
          case rel => exact ⟨k + 1, by omega, by go_num, HN.out, HBN.out⟩
          case measure => simp [RowKit.intOf]; omega
        | false =>
          have HEL : RowKit.Hid (bs (elL false x) = bs (numL x)) := rfl
          have HNU := Lib.hid (number05_any x wr (HI.out x HXM.out) ((HT.out.below HBo.out).below hbw.out))
          clear hxk cx
          go_wp2_with fail
          refine HNU.out.mono ?_
          rintro e w4 ⟨rfl, hb4⟩
          have HB4 := Lib.hid (hbw.out.trans (hb4.mono HS.out))
          have HTX4 := Lib.hid (htx.out.below hb4)
          have HS : RowKit.Hid (wa.heap.size ≤ w4.heap.size) := HB4.out.size
          have HO := Lib.hid (txs_own HTX4.out HLN.out)
          clear hb4 ca hcell0 HNU
          go_wp2_with (at_builtin; refine wpList_append_own _ rfl (.tmp 30) (.tmp 33) 28 rfl wa.heap.size 9 i0 (.string ⟨#[]⟩) 1 16 Tryd.underlying28 hi hz0 hz1 hz2 rfl (by decide) _ k (txVals (elsL false data f k)) rfl (World.ownsRow.alloc HO.out _) ⟨w4.heap.size, 0, none⟩ 1 1 [.string (bs (numL x))] rfl rfl (cell_one_new _ _ _) (by simp [Value.oneCell']) (by unfold maxLen; omega) (by omega) (by have := HS.out; simp; omega) ?_; intro v5 w5 hown5 hgrow5 _)
          have HN : RowKit.Hid (Txs w5 wa.heap.size v5 (elsL false data f (k + 1))) := by
            show Txs _ _ _ _
            rw [HSN.out]
            refine Txs.snoc ?_
            rw [HLN.out, HEL.out]
            exact hown5
          have HBN := Lib.hid (below_txs HTX4.out HB4.out rfl hgrow5)
          clear hown5 hgrow5 HO
          go_wp2
          go_roundw
          case rel => exact ⟨k + 1, by omega, by go_num, HN.out, HBN.out⟩
          case measure => simp [RowKit.intOf]; omega
      · have hkc : k = cnt := by omega
        subst hkc
        go_wp2
        go_ret
        exact ⟨_, rfl, htx.out.mono HBo.out.size, HBo.out.trans (hbw.out.mono HBo.out.size)⟩
end Go.Proofs.YtjkofndnhmfnoaaDoor
