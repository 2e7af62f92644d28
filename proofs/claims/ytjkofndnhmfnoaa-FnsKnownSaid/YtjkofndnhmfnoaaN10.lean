/-
  Layer 21 (fns): set (SetStop, SetTrace): the way on which all goes well: contract.
-/
import Derived.Test.YtjkofndnhmfnoaaN9
import Derived.Test.YtjkofndnhmfnoaaN6
namespace Go.Proofs.Ytjkofndnhmfnoaa
open Go Go.RowKit

theorem wrong_pays (w : World) : PredAt Try.prog 41 #[] (Value.int .i64) (fun x => decide (x < 1 ∨ 100 < x)) w := fun W x _ => by
  show Calls Try.prog 41 #[.int .i64 x] W _
  exact (wrong_any x W).mono fun e w' h => ⟨h.1, 0, h.2⟩
theorem cfi21 (A : Option Addr) (n c : Nat) (xs : List Int) (D : Nat → Prop) (w : World) (h : Rd w D 1 A n c (intRows .i64 xs)) :
    Calls Try.prog 40 #[.slice A n c, .func (.func 41) #[] #[]] w fun e w' => e = .returned (.bool (xs.any fun x => decide (x < 1 ∨ 100 < x))) ∧ Below w.heap.size w w' := by
  have hl : xs.length = n := by have := h.len; simpa [intRows] using this
  have hn : n ≤ 9223372036854775807 := by have h1 := h.le; have h2 := h.max; unfold maxLen at h2; omega
  rcases Nat.eq_zero_or_pos n with h0 | h0
  · subst h0
    have hx : xs = [] := List.eq_nil_of_length_eq_zero hl
    subst hx
    refine (Try.slices_ContainsFunc_empty_f40 (α := Int) A c _ w).mono ?_
    rintro e w' ⟨rfl, rfl⟩
    exact ⟨rfl, Below.refl _ _⟩
  · obtain ⟨_, hx⟩ := h.one
    obtain ⟨b, off, rfl, -, -, hc⟩ := hx h0
    refine (Try.slices_ContainsFunc_f40 (Value.int .i64) (fun x => decide (x < 1 ∨ 100 < x)) 41 #[] (enters_of Try.func41 (by kernel_rfl) rfl) b off n c xs w (wrong_pays w) (by omega) hn (fun j hj => ?_)).mono ?_
    · rw [hc j xs[j] (List.getElem?_eq_getElem hj), getElem!_pos xs j hj]
    · rintro e w' ⟨rfl, q, rfl⟩
      exact ⟨by rw [List.take_of_length_le (by omega)], below_drewN (Below.refl _ _) _⟩
theorem rows_flat (U : List Int) : (intRows .i64 U).flatten = U.map (Value.int .i64) := by
  induction U with
  | nil => rfl
  | cons x U ih => simp only [intRows, List.map_cons, List.flatten_cons] at *; rw [ih]; rfl
/-- A slice that can be read, as the iterator wants it. -/
theorem valsInts.of_rd {w : World} {D : Nat → Prop} {A : Option Addr} {c n : Nat} {zs : List Int} (h : Rd w D 1 A zs.length c (intRows .i64 zs)) (hz : zs ≠ []) (hn : ∀ b, b < w.heap.size → b < n) : valsInts n w (.slice A zs.length c) zs := by
  obtain ⟨_, hx⟩ := h.one
  obtain ⟨b, off, rfl, -, hb, hc⟩ := hx (List.length_pos_iff.2 hz)
  exact .inr ⟨b, off, c, rfl, hn b hb, fun j hj => by
    rw [List.getElem?_eq_getElem hj]
    exact hc j _ (List.getElem?_eq_getElem hj)⟩
/-- Behind a call that may lay things down that the store then holds. -/
def AfterD (w w' : World) (own : Nat → Prop) (r : Nat) (s : St) : Prop := ∃ own' D', SS w' own' D' r s ∧ Grow own own' w w'
theorem set_end {w w10 : World} {own D : Nat → Prop} {r : Nat} {s : St} {base bl c9 : Nat} {A9 : Option Addr} {U : List Int} (h : SS w own D r s) (hb : Below w.heap.size w w10) (hbase : w.heap.size ≤ base) (hr : Rd w10 (fun b => base ≤ b) 1 A9 U.length c9 (intRows .i64 U)) (hbl : w.heap.size ≤ bl) (hrow : w10.heap[bl]? = some (.cells #[.int .i64 (U.length : Int)] 3 (0, 0))) :
    ∃ D', SS w10 own D' r s ∧ TIs w10 D' [.int .u8 1, .bool false, .slice (some ⟨bl, 0, none⟩) 1 1, .slice A9 U.length c9, .string ⟨#[]⟩, .string ⟨#[]⟩, .string ⟨#[]⟩, .string ⟨#[]⟩, .slice none 0 0, .slice none 0 0, .int .i64 0, .slice none 0 0, .int .i64 0, .string ⟨#[]⟩] (lineT U) := by
  have hlt : bl < w10.heap.size := lt_of_block hrow
  have hz := hb.size
  refine ⟨fun b => D b ∨ (w.heap.size ≤ b ∧ b < w10.heap.size), (SK.below h hb).wider (fun b h => .inl h) (fun b hd => ?_) (fun b hd => ?_), ?_⟩
  · rcases hd with hd | hd
    · exact Nat.lt_of_lt_of_le (SK.dlt h b hd) hz
    · exact hd.2
  · rcases hd with hd | hd
    · exact SK.dis h b hd
    · intro ho
      have := SK.lt h b ho
      omega
  · refine ⟨[.bool false, .slice (some ⟨bl, 0, none⟩) 1 1, .slice A9 U.length c9], [.string ⟨#[]⟩, .string ⟨#[]⟩, .string ⟨#[]⟩, .string ⟨#[]⟩, .slice none 0 0, .slice none 0 0, .int .i64 0], none, 0, 0, [], rfl, ⟨some ⟨bl, 0, none⟩, 1, 1, A9, U.length, c9, rfl, ?_, ?_⟩, ⟨none, 0, 0, none, 0, 0, rfl, Rd.nil _ _ _, Rd.nil _ _ _⟩, Rd.nil _ _ _, rfl, by simp [lineT]⟩
    · refine ⟨rfl, Nat.le_refl _, by decide, ?_, fun _ => ⟨bl, 0, rfl, .inr ⟨hbl, hlt⟩, ?_⟩⟩
      · intro e he
        simp only [lineT, intRows, List.map_cons, List.map_nil, List.mem_singleton] at he
        subst he
        exact ⟨rfl, fun u hu => by rw [List.mem_singleton.mp hu]; rfl⟩
      · intro i e he k u hk
        match i, he with
        | 0, he =>
          simp only [lineT, intRows, List.map_cons, List.map_nil, List.getElem?_cons_zero, Option.some.injEq] at he
          subst he
          match k, hk with
          | 0, hk =>
            simp only [List.getElem?_cons_zero, Option.some.injEq] at hk
            subst hk
            rw [show 0 + (0 * 1 + 0) = 0 from rfl, cell_of_row w10 _ 0 _ _ _ hrow]; rfl
          | k + 1, hk => simp at hk
        | i + 1, he => simp [lineT, intRows] at he
    · exact hr.mono (fun b h1 h2 => .inr ⟨Nat.le_trans hbase h2, h1⟩) (by decide)
set_option maxRecDepth 100000 in
set_option maxHeartbeats 3200000 in
theorem set_ok (own D Dl : Nat → Prop) (r : Nat) (s : St) (pre name : ByteArray) (A : Option Addr) (c : Nat) (zs : List Int) (w : World) (h : SS w own D r s) (hp : pre.size = 2) (hk : name.size ≤ 900000) (hG : s.G.length ≤ 900000) (hK : s.K.length ≤ 900000) (hn : nameB name = true) (hd : (s.name name).kind = 2) (hl : zs.length ≤ 1000) (h0 : zs ≠ []) (hr : ∀ x ∈ zs, 1 ≤ x ∧ x ≤ 100) (hz : Rd w Dl 1 A zs.length c (intRows .i64 zs)) :
    Calls Try.prog 29 #[.pointer (some ⟨r, 0, none⟩), .string pre, .string name, .slice A zs.length c] w fun e w' => e = .returned (.int .i64 0) ∧ AfterD w w' own r (s.put (pre ++ name) (lineT (uniq21 zs))) := by
  have HG := Lib.hid (fun w2 (hb : Below w.heap.size w w2) => getN_any own D r s.K s.T s.G name w2 (h.below hb) (by omega))
  have HD := Lib.hid hd
  have HN := Lib.hid hn
  have HH := Lib.hid h
  have HZ := Lib.hid (fun w2 (hb : Below w.heap.size w w2) => hz.below hb)
  have HI := Lib.hid (valsInts.of_rd hz h0 (fun b hb => hb))
  have HA : RowKit.Hid ((zs.any fun x => decide (x < 1 ∨ 100 < x)) = false) := by
    show _ = _
    rw [List.any_eq_false]
    intro x hx
    have := hr x hx
    simp
    omega
  have e0 : ((zs.length : Int) == 0) = false := by
    have := List.length_pos_iff.2 h0
    rw [beq_eq_false_iff_ne]
    omega
  have E0 := Lib.hid e0
  have HL := Lib.hid hl
  clear h hd hn hz hr e0
  obtain ⟨j0, hj0, hy0, hy1, hy2⟩ := i64Parts21
  go_enter Try.func29, Try.ntmps29
  go_wp2_with fail
  refine (is_any name _ (by omega)).mono ?_
  rintro e w1 ⟨rfl, hb1⟩
  rw [HN.out]
  have Y1 := Lib.hid hb1
  clear hb1
  go_wp2_with fail
  refine (HG.out w1 Y1.out).mono ?_
  rintro e w2 ⟨ts, rfl, ht, hb2⟩
  obtain ⟨t, htt⟩ : ∃ t, t = getN s.K s.T name := ⟨_, rfl⟩
  rw [← htt] at ht
  obtain ⟨A1, n1, c1, A2, n2, c2, A3, n3, c3, A4, n4, c4, A5, n5, c5, rfl⟩ := ht.full
  have hfk := field_kind w2 t.kind t.n t.f.version t.v.char A1 A2 A3 A4 A5 n1 c1 n2 c2 n3 c3 n4 c4 n5 c5 t.f.name t.f.result t.f.left t.f.right t.s
  have e1 : (t.kind != 2) = false := by
    have := HD.out
    unfold St.name at this
    rw [← htt] at this
    rw [this]; rfl
  have Y2 := Lib.hid (Y1.out.trans (hb2.mono Y1.out.size))
  clear ht hb2 htt HG
  go_wp2_with fail
  refine (cfi21 A zs.length c zs Dl w2 (HZ.out w2 Y2.out)).mono ?_
  rintro e w3 ⟨rfl, hb3⟩
  rw [HA.out]
  have Y3 := Lib.hid (Y2.out.trans (hb3.mono Y2.out.size))
  clear hb3 e1 hfk
  have e0 := E0.out
  go_wp2_with fail
  refine ((callsIn_wide (n := 5)).1 (vals_in Fence.wide 5 trivial rfl A zs.length c w3)).mono ?_
  rintro e w4 ⟨rfl, hw4⟩
  have Y4 := Lib.hid (show Below w.heap.size w w4 from Y3.out.trans (by rw [hw4]; exact (Below.refl _ w3).alloc Y3.out.size _))
  have hc4 : w4.cell? ⟨w3.heap.size, 0, none⟩ = some (.slice A zs.length c) := by
    rw [cell_of_row w4 _ 0 _ _ _ (by rw [hw4]; exact heap_alloc_new _ _)]; rfl
  have hs4 : w3.heap.size < w4.heap.size := by rw [hw4]; simp
  have HS := Lib.hid (sortedVals zs HL.out w3.heap.size w.heap.size (.slice A zs.length c) w4 hs4 Y4.out.size hc4 (HI.out.below Y4.out))
  clear hw4 hc4 hs4
  go_wp2_with fail
  refine HS.out.mono ?_
  rintro e w5 ⟨v5, rfl, hown5, hb5⟩
  have hrl : zs.length = (rising21 zs).length := by unfold rising21; exact (List.length_mergeSort _).symm
  rw [hrl] at hown5
  have HC := Lib.hid (compactVals w4.heap.size v5 (rising21 zs) w5 (by rw [← hrl]; exact HL.out) hown5)
  have Y5 := Lib.hid (Y4.out.trans (hb5.mono Y4.out.size))
  have hb5' := Lib.hid hb5
  have HU := Lib.hid (show (uniq21 zs).length ≤ 1000 by
    have h1 := Lib.compact_length_le (rising21 zs)
    have h2 := HL.out
    unfold uniq21
    omega)
  clear hown5 hb5 HS hrl
  go_wp2_with fail
  refine HC.out.mono ?_
  rintro e w6 ⟨v6, rfl, hown6, hb6⟩
  change w6.ownsRow w4.heap.size 3 1 v6 (uniq21 zs).length ((uniq21 zs).map (Value.int .i64)) at hown6
  obtain ⟨U, hU⟩ : ∃ U, U = uniq21 zs := ⟨_, rfl⟩
  rw [← hU] at hown6 HU
  have HUU := Lib.hid hU
  obtain ⟨A6, c6, rfl, hr6⟩ := Rd.of_own (es := intRows .i64 U) (by rw [rows_flat]; exact hown6) (by simp [intRows]) (fun e he => by
    simp only [intRows, List.mem_map] at he
    obtain ⟨x, _, rfl⟩ := he
    exact ⟨rfl, fun u hu => by rw [List.mem_singleton.mp hu]; rfl⟩)
  have Y6 := Lib.hid (Y4.out.trans ((hb6 w4 rfl hb5'.out).mono Y4.out.size))
  have R6 := Lib.hid hr6
  clear hr6 hown6 hb6 HC hU hb5'
  go_wp2_with fail
  refine (vector_nil w6).mono ?_
  rintro e w7 ⟨x, rfl, hb7⟩
  have Y7 := Lib.hid (Y6.out.trans (hb7.mono Y6.out.size))
  have R7 := Lib.hid (R6.out.below hb7)
  clear hb7 R6
  have HB7 := Lib.hid (fun o => (Below.refl w7.heap.size w7).alloc (Nat.le_refl _) o)
  go_wp2_with fail
  obtain ⟨w8, hw8⟩ : ∃ w8, w8 = w7.alloc (.cells #[.bool false, .slice (some ⟨x, 0, none⟩) 1 1, .slice none 0 0] 36) := ⟨_, rfl⟩
  rw [← hw8]
  have Y8 := Lib.hid (show Below w.heap.size w w8 from Y7.out.trans (by rw [hw8]; exact (HB7.out _).mono Y7.out.size))
  have R8 := Lib.hid (show Rd w8 (fun b => w4.heap.size ≤ b) 1 A6 U.length c6 (intRows .i64 U) from R7.out.below (by rw [hw8]; exact HB7.out _))
  have L8 := Lib.hid (show w8.heap.size = w7.heap.size + 1 by rw [hw8]; simp)
  have BX0 : RowKit.Hid (Bx w8 w8 w7.heap.size #[.bool false, .slice (some ⟨x, 0, none⟩) 1 1, .slice none 0 0] 2 (.slice none 0 0) (([] : List Int).map (Value.int .i64))) := ⟨by rw [L8.out]; omega, by rw [hw8]; exact heap_alloc_new _ _, World.ownsRow_nil _ _ _ _, Chg.refl _ _⟩
  have HRO := Lib.hid (R7.out.one.2)
  clear hw8 HB7
  go_loopw [45] (fun i wr => ∃ j : Nat, j ≤ U.length ∧ i = .int .i64 (j : Int) ∧ ∃ gd, RowKit.Hid (Bx w8 wr w7.heap.size #[.bool false, .slice (some ⟨x, 0, none⟩) 1 1, gd] 2 gd ((U.take j).map (Value.int .i64)))) (fun i _ => U.length - (RowKit.intOf i).toNat)
  case atStart => exact ⟨0, Nat.zero_le _, rfl, _, BX0.out⟩
  case round =>
    obtain ⟨j, hj, rfl, gd, hbx⟩ := hrel
    by_cases hlt : j < U.length
    · have HLT := Lib.hid hlt
      obtain ⟨b2, o2, hA6, -, hb2, hc2⟩ := HRO.out (by omega)
      obtain ⟨y, hy⟩ : ∃ y, U[j]? = some y := ⟨_, List.getElem?_eq_getElem hlt⟩
      have hcy := hc2 j y hy
      have R8L := L8.out
      have cx : wr.cell? ⟨b2, o2 + j, none⟩ = some (.int .i64 y) := by
        obtain ⟨b9, o9, h9, -, hb9, hc9⟩ := R8.out.one.2 (by omega)
        rw [hA6] at h9
        cases h9
        exact hbx.out.chg.cell (hc9 j y hy) (show ¬ b2 = w7.heap.size by omega)
      have px : wr.cell? ⟨w7.heap.size, 2, none⟩ = some gd := by rw [cell_of_row wr _ 2 _ _ _ hbx.out.box]; rfl
      have q6 : (j : Int) < (U.length : Int) := by omega
      have HIT : RowKit.Hid ((U.take (j + 1)).map (Value.int .i64) = (U.take j).map (Value.int .i64) ++ [.int .i64 y]) := by
        show _ = _
        rw [List.take_add_one, hy]
        simp
      have FZ := Lib.hid (fun wb w3 hwb hg => hbx.out.far (k := 2) (u := gd) (o := .cells #[.int .i64 y] 2) (wb := wb) (w3 := w3) rfl hwb hg)
      have hkl : ((U.take j).map (Value.int .i64)).length ≤ 1000000 := by simp; have := HU.out; omega
      have hsz := hbx.out.chg.size
      have hu := HU.out
      subst hA6
      clear hc2 hy hcy R8L
      go_wp2_with (at_builtin; go_loud (refine wpList_append_own _ rfl (.tmp 50) (.tmp 52) 34 rfl w8.heap.size 2 j0 (.int .i64 0) 1 8 Try.underlying34 hj0 hy0 hy1 hy2 rfl (by decide) _ _ _ rfl (World.ownsRow.alloc hbx.out.own _) ⟨wr.heap.size, 0, none⟩ 1 1 [.int .i64 y] rfl rfl (cell_one_new _ _ _) (by simp [Value.oneCell']) (by unfold maxLen; omega) (by omega) (by simp; omega) ?_); intro v3 w3 hown3 hgrow3 _; obtain ⟨g, cap, rfl⟩ := ownsRow_succ hown3; obtain ⟨g31, g32⟩ := FZ.out _ _ rfl hgrow3)
      have hjl : ((U.take j).map (Value.int .i64)).length = j := by simp; omega
      have BX4 := hbx.out.step (k := 2) (w4 := w3.setCell ⟨w7.heap.size, 2, none⟩ (.slice (some ⟨g, 0, none⟩) (((U.take j).map (Value.int .i64)).length + 1) cap)) (o := .cells #[.int .i64 y] 2) rfl rfl rfl rfl hgrow3 hown3 rfl rfl rfl rfl
      rw [← HIT.out, hjl] at BX4
      have HBX4 := Lib.hid BX4
      clear BX4 hown3 hgrow3 g31 g32 cx px FZ
      go_roundw
      case rel => exact ⟨j + 1, by omega, by go_num, _, HBX4.out⟩
      case measure => simp [RowKit.intOf]; omega
    · have hjn : j = U.length := by omega
      subst hjn
      rw [List.take_length] at hbx
      obtain ⟨A9, c9, rfl, hr9⟩ := Rd.of_own (es := intRows .i64 U) (by rw [rows_flat]; have := hbx.out.own; rw [List.length_map] at this; exact this) (by simp [intRows]) (fun e he => by
        simp only [intRows, List.mem_map] at he
        obtain ⟨x, _, rfl⟩ := he
        exact ⟨rfl, fun u hu => by rw [List.mem_singleton.mp hu]; rfl⟩)
      have R9 := Lib.hid hr9
      have p0 : wr.cell? ⟨w7.heap.size, 0, none⟩ = some (.bool false) := by rw [cell_of_row wr _ 0 _ _ _ hbx.out.box]; rfl
      have p1 : wr.cell? ⟨w7.heap.size, 1, none⟩ = some (.slice (some ⟨x, 0, none⟩) 1 1) := by rw [cell_of_row wr _ 1 _ _ _ hbx.out.box]; rfl
      have p2 : wr.cell? ⟨w7.heap.size, 2, none⟩ = some (.slice A9 U.length c9) := by rw [cell_of_row wr _ 2 _ _ _ hbx.out.box]; rfl
      have p3 : wr.frozen? ⟨w7.heap.size, 1, none⟩ = false := by unfold World.frozen?; rw [hbx.out.box]; rfl
      have hwl : w7.heap.size < wr.heap.size := lt_of_block hbx.out.box
      clear hr9
      go_wp2_with fail
      obtain ⟨w10, hw10⟩ : ∃ w10, w10 = (wr.setCell ⟨w7.heap.size, 1, none⟩ (.slice (some ⟨wr.heap.size, 0, none⟩) 1 1)).alloc (.cells #[.int .i64 (U.length : Int)] 3) := ⟨_, rfl⟩
      rw [← hw10]
      have hB1 : Chg (fun j => j = w7.heap.size) w8 w10 := by rw [hw10]; exact (hbx.out.chg.setCell (.inl rfl) _).alloc _
      have hB2 : Below w.heap.size w w10 := Y8.out.trans (hB1.below Y8.out.size (fun k hk => by subst hk; exact Y7.out.size))
      have hC : Chg (fun j => j = w7.heap.size) wr w10 := by rw [hw10]; exact ((Chg.refl (fun j => j = w7.heap.size) wr).setCell (.inl rfl) _).alloc _
      have hr10 := R9.out.chg hC (fun b hb => by have := L8.out; omega)
      have hrow : w10.heap[wr.heap.size]? = some (.cells #[.int .i64 (U.length : Int)] 3 (0, 0)) := by
        rw [hw10]
        have := heap_alloc_new (wr.setCell ⟨w7.heap.size, 1, none⟩ (.slice (some ⟨wr.heap.size, 0, none⟩) 1 1)) (.cells #[.int .i64 (U.length : Int)] 3)
        simpa using this
      obtain ⟨D', hS', hT'⟩ := set_end HH.out hB2 Y8.out.size hr10 (Nat.le_trans Y8.out.size hbx.out.chg.size) hrow
      have HB2 := Lib.hid hB2
      clear hB1 hC hr10 hrow hw10 p0 p1 p2 p3
      refine (cSet_any own D' r s.K s.T s.G (pre ++ name) _ (lineT U) w10 hS' (by rw [ByteArray.size_append]; unfold maxLen; omega) (by omega) (by omega) hT').mono ?_
      rintro e w11 ⟨rfl, own', h11, hg11⟩
      have H11 := Lib.hid (show SS w11 own' D' r (s.put (pre ++ name) (lineT U)) from h11)
      have G11 := Lib.hid hg11
      clear h11 hg11 hS' hT' hB2
      go_wp2
      go_ret
      exact ⟨rfl, own', D', by rw [← HUU.out]; exact H11.out, (Grow.below HB2.out).trans G11.out⟩
end Go.Proofs.Ytjkofndnhmfnoaa
