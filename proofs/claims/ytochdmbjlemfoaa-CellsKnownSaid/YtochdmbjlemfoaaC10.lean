/-
  The reference of layer 19 (anamnesisref19: without): contracts. Of any list of cells.
-/
import Derived.Test.YtochdmbjlemfoaaC9
namespace Go.Proofs.Ytochdmbjlemfoaa
open Go Go.RowKit Go.Maps

/-- A list of cells that the call is making. -/
def CRel (w wr : World) (D : Nat → Prop) (v : Value) (L : List CD) : Prop := Below w.heap.size w wr ∧ ∃ es, CellsAre wr D es L ∧ wr.ownsRow w.heap.size 67 15 v es.length es.flatten
theorem CRel.nil (w : World) (D : Nat → Prop) : CRel w w D (.slice none 0 0) [] := ⟨Below.refl _ _, [], ⟨rfl, by simp⟩, World.ownsRow_nil _ _ _ _⟩
theorem CRel.more {w wr w5 : World} {D : Nat → Prop} {v v5 : Value} {L : List CD} {E : CD} {es : List (List Value)} {e : List Value} {o : Obj} (hb : Below w.heap.size w wr) (hCA : CellsAre wr D es L) (hO : wr.ownsRow w.heap.size 67 15 v es.length es.flatten) (hD : ∀ b, D b → b < w.heap.size) (hE : CellIs wr D e E)
    (hown : w5.ownsRow w.heap.size 67 15 v5 (es.length + 1) (es.flatten ++ e)) (hg : (wr.alloc o).grownBy w5 v.ownBlock) : CRel w w5 D v5 (L ++ [E]) := by
  have hS := hb.size
  have hc5 : Chg (fun b => w.heap.size ≤ b) wr w5 := ⟨by rw [hg.os]; rfl, by rw [hg.tape]; rfl, by rw [hg.output]; rfl, by have := hg.size; simp at this; omega, fun i hi hn => (hg.block i (by simp; omega) (fun e => hn (by have := (hO.lt i e.symm).1; exact this))).trans (Below.heap_alloc wr _ i hi)⟩
  have hD' : ∀ b, D b → ¬ w.heap.size ≤ b := fun b hb hn => by have := hD b hb; omega
  refine ⟨(hb.alloc hS o).grown hg (by simp; omega) (fun j hj => (hO.lt j hj).1), es ++ [e], (hCA.chg hc5 hD').snoc ?_, ?_⟩
  · obtain ⟨ts, h1, h2⟩ := hE
    exact ⟨ts, h1, h2.chg hc5 hD'⟩
  · simpa using hown

set_option maxRecDepth 100000 in
set_option maxHeartbeats 1600000 in
theorem rwithout_any (A : Option Addr) (n c : Nat) (es : List (List Value)) (L : List CD) (k : ByteArray) (D D' : Nat → Prop) (w : World) (hx : Rd w D' 15 A n c es) (hL : CellsAre w D es L) (hD : ∀ b, D b → b < w.heap.size) (hn : n ≤ 1000000) :
    Calls Try.prog 77 #[.slice A n c, .string k] w fun e w' => ∃ A' c' es', e = .returned (.slice A' (L.filter (fun x => x.key ≠ k)).length c') ∧ Rd w' (fun b => w.heap.size ≤ b) 15 A' (L.filter (fun x => x.key ≠ k)).length c' es' ∧ CellsAre w' D es' (L.filter (fun x => x.key ≠ k)) ∧ Below w.heap.size w w' := by
  have HX := Lib.hid hx
  have HL := Lib.hid hL
  have HLn := Lib.hid (show L.length = n by rw [← hL.1]; exact hx.len)
  clear hx hL
  obtain ⟨i0, z0, hi, hz0, hz1, hz2, hz3⟩ := cellParts
  go_enter Try.func77, Try.ntmps77
  go_wp2
  go_loopw [5, 6] (fun v i wr => ∃ j : Nat, j ≤ n ∧ i = .int .i64 (j : Int) ∧ RowKit.Hid (CRel w wr D v ((L.take j).filter (fun x => x.key ≠ k)))) (fun _ i _ => n - (RowKit.intOf i).toNat)
  case atStart => exact ⟨0, Nat.zero_le _, rfl, CRel.nil _ _⟩
  case round =>
    obtain ⟨j, hj, rfl, hst⟩ := hrel
    by_cases hlt : j < n
    · have q1 : (j : Int) < (n : Int) := by omega
      obtain ⟨hb, es2, hCA, hown⟩ := hst.out
      obtain ⟨b, off, hA, -, hc⟩ := HX.out.at_ (by omega)
      obtain ⟨e, he⟩ : ∃ e, es[j]? = some e := ⟨_, List.getElem?_eq_getElem (by rw [HX.out.len]; exact hlt)⟩
      obtain ⟨E, hE⟩ : ∃ E, L[j]? = some E := ⟨_, List.getElem?_eq_getElem (by rw [HLn.out]; exact hlt)⟩
      have hcell := HL.out.2 j e E he hE
      obtain ⟨ts, rfl, ht⟩ := hcell
      obtain ⟨A1, n1, c1, A2, n2, c2, A3, n3, c3, A4, n4, c4, A5, n5, c5, rfl⟩ := ht.full
      have cx := row_cells (hc j _ he) hb
      have HCE : RowKit.Hid (CellIs wr D [.string E.key, .int .u8 E.t.kind, .bool E.t.v.char, .slice A1 n1 c1, .slice A2 n2 c2, .string E.t.f.name, .string E.t.f.result, .string E.t.f.left, .string E.t.f.right, .slice A3 n3 c3, .slice A4 n4 c4, .int .i64 E.t.f.version, .slice A5 n5 c5, .int .i64 E.t.n, .string E.t.s] E) := ⟨_, rfl, ht.below hb⟩
      have hts : L.take (j + 1) = L.take j ++ [E] := by rw [List.take_add_one, hE]; rfl
      have HTS := Lib.hid hts
      have hel : es2.length ≤ n := by
        have h1 := List.length_filter_le (fun x : CD => decide (x.key ≠ k)) (L.take j)
        have h2 := hCA.1
        rw [List.length_take] at h1
        omega
      have a0 := cx 0 _ rfl
      have a1 := cx 1 _ rfl
      have a2 := cx 2 _ rfl
      have a3 := cx 3 _ rfl
      have a4 := cx 4 _ rfl
      have a5 := cx 5 _ rfl
      have a6 := cx 6 _ rfl
      have a7 := cx 7 _ rfl
      have a8 := cx 8 _ rfl
      have a9 := cx 9 _ rfl
      have a10 := cx 10 _ rfl
      have a11 := cx 11 _ rfl
      have a12 := cx 12 _ rfl
      have a13 := cx 13 _ rfl
      have a14 := cx 14 _ rfl
      simp only [Nat.add_zero] at a0
      have HB := Lib.hid hb
      have HCA := Lib.hid hCA
      have HO := Lib.hid hown
      have hS := hb.size
      subst hA
      clear hc he hE ht cx hts hb hCA hown hst
      by_cases hk : E.key = k
      · have q2 : (E.key.toList == k.toList) = true := by rw [hk]; simp
        have e1 : (L.take (j + 1)).filter (fun x => x.key ≠ k) = (L.take j).filter (fun x => x.key ≠ k) := by rw [HTS.out, List.filter_append]; simp [hk]
        have HR : RowKit.Hid (CRel w wr D u5 ((L.take (j + 1)).filter (fun x => x.key ≠ k))) := by show CRel _ _ _ _ _; rw [e1]; exact ⟨HB.out, es2, HCA.out, HO.out⟩
        clear e1 hk
        go_wp2
        go_roundw
        case rel => exact ⟨j + 1, by omega, by go_num, HR.out⟩
        case measure => simp [RowKit.intOf]; omega
      · have q2 := str_ne hk
        have e1 : (L.take (j + 1)).filter (fun x => x.key ≠ k) = (L.take j).filter (fun x => x.key ≠ k) ++ [E] := by rw [HTS.out, List.filter_append]; simp [hk]
        have E1 := Lib.hid e1
        clear e1 hk
        go_wp2_with (at_builtin; refine wpList_append_own _ rfl (.tmp 20) (.tmp 25) 60 rfl w.heap.size 67 i0 z0 15 248 Try.underlying60 hi hz0 hz1 hz2 hz3 (by decide) _ _ _ rfl (World.ownsRow.alloc HO.out _) ⟨wr.heap.size, 0, none⟩ 1 1 [.string E.key, .int .u8 E.t.kind, .bool E.t.v.char, .slice A1 n1 c1, .slice A2 n2 c2, .string E.t.f.name, .string E.t.f.result, .string E.t.f.left, .string E.t.f.right, .slice A3 n3 c3, .slice A4 n4 c4, .int .i64 E.t.f.version, .slice A5 n5 c5, .int .i64 E.t.n, .string E.t.s] rfl rfl (World.news_of_block (cs := #[.string E.key, .int .u8 E.t.kind, .bool E.t.v.char, .slice A1 n1 c1, .slice A2 n2 c2, .string E.t.f.name, .string E.t.f.result, .string E.t.f.left, .string E.t.f.right, .slice A3 n3 c3, .slice A4 n4 c4, .int .i64 E.t.f.version, .slice A5 n5 c5, .int .i64 E.t.n, .string E.t.s]) (t := 67) (fr := (0, 0)) (heap_alloc_new wr _)) (by simp [Value.oneCell']) (by unfold maxLen; omega) (by omega) (by simp; omega) ?_; intro v5 w5 hown5 hgrow5 _)
        have HR : RowKit.Hid (CRel w w5 D v5 ((L.take (j + 1)).filter (fun x => x.key ≠ k))) := by
          show CRel _ _ _ _ _
          rw [E1.out]
          exact CRel.more HB.out HCA.out HO.out hD HCE.out hown5 hgrow5
        clear hown5 hgrow5
        go_wp2
        go_roundw
        case rel => exact ⟨j + 1, by omega, by go_num, HR.out⟩
        case measure => simp [RowKit.intOf]; omega
    · have hjn : j = n := by omega
      subst hjn
      obtain ⟨hb, es2, hCA, hown⟩ := hst.out
      rw [List.take_of_length_le (by rw [HLn.out]; exact Nat.le_refl _)] at hCA
      obtain ⟨A9, c9, rfl, hr9⟩ := Rd.of_own hown rfl hCA.ok
      have HB := Lib.hid hb
      have HCA := Lib.hid hCA
      have R9 := Lib.hid hr9
      clear hb hCA hown hr9 hst
      go_wp2
      go_ret
      have R := R9.out
      rw [HCA.out.1] at R ⊢
      exact ⟨A9, c9, es2, rfl, R, HCA.out, HB.out⟩
end Go.Proofs.Ytochdmbjlemfoaa
