/-
  A store of cells: Keys, All: contracts. Of any store in memory, and of nil ones.
-/
import Derived.Test.YtjkofndnhmfnoaaDoorC7
import Derived.Test.YtjkofndnhmfnoaaDoorLayN
import Derived.Maps.RangeWalk
import Derived.Sort.OwnSorted
namespace Go.Proofs.YtjkofndnhmfnoaaDoor
open Go Go.RowKit Go.Maps Go.ChangeMaps
open Go.Sort (Holds)

/-- Does a text begin with another one? -/
def begins (p x : ByteArray) : Bool := decide (kb p <+: kb x)
theorem begins_nil (x : ByteArray) : begins ⟨#[]⟩ x = true := decide_eq_true (List.nil_prefix)
theorem begins_long {p x : ByteArray} (h : x.size < p.size) : begins p x = false := decide_eq_false fun hp => by
  have := hp.length_le
  simp [kb] at this
  have h1 : p.size = p.data.size := rfl
  have h2 : x.size = x.data.size := rfl
  omega
theorem begins_cut {p x : ByteArray} (_h : p.size ≤ x.size) : begins p x = ((x.extract 0 p.size).toList == p.toList) := by
  have h1 : (x.extract 0 p.size).toList = (kb x).take p.size := by
    rw [ByteArray.toList_eq]
    simp [kb]
  have h2 : p.toList = kb p := by rw [ByteArray.toList_eq]; rfl
  rw [h1, h2, Bool.eq_iff_iff]
  unfold begins
  rw [decide_eq_true_eq, beq_iff_eq]
  have h3 : (kb p).length = p.size := by simp [kb]
  rw [List.prefix_iff_eq_take, h3]
  exact eq_comm
theorem slitePre_any (x p : ByteArray) (w : World) :
    Calls Tryd.prog 100 #[.string x, .string p] w fun e w' => e = .returned (.bool (begins p x)) ∧ w = w' := by
  by_cases h : p.size ≤ x.size
  · have hq : (p.size : Int) ≤ (x.size : Int) := by omega
    obtain ⟨b, hb⟩ : ∃ b, b = begins p x := ⟨_, rfl⟩
    have HB := Lib.hid (hb.trans (begins_cut h))
    rw [← hb]
    clear hb
    go_enter Tryd.func100, Tryd.ntmps100
    go_wp2
    go_ret
    exact ⟨by rw [HB.out]; rfl, rfl⟩
  · have hq : ¬ (p.size : Int) ≤ (x.size : Int) := by omega
    have HB := Lib.hid (begins_long (p := p) (x := x) (by omega))
    clear h
    go_enter Tryd.func100, Tryd.ntmps100
    go_wp2
    go_ret
    exact ⟨by rw [HB.out]; rfl, rfl⟩
theorem hasPre_any (x p : ByteArray) (w : World) :
    Calls Tryd.prog 88 #[.string x, .string p] w fun e w' => e = .returned (.bool (begins p x)) ∧ w = w' := by
  go_enter Tryd.func88, Tryd.ntmps88
  go_wp2_with (go_at_call 100; refine (slitePre_any _ _ _).mono ?_; rintro e w' ⟨rfl, rfl⟩)
  go_ret
  exact ⟨rfl, rfl⟩

theorem strInfo : (Tryd.prog.info? 9).map (fun i => (i.zero, i.size, i.bytes)) = some (some (.string ⟨#[]⟩), 1, 16) := by kernel_rfl
theorem strParts : ∃ i, Tryd.prog.info? 9 = some i ∧ i.zero = some (.string ⟨#[]⟩) ∧ i.size = 1 ∧ i.bytes = 16 := by
  have h1 := strInfo
  cases h : Tryd.prog.info? 9 with
  | none => rw [h] at h1; cases h1
  | some i =>
    rw [h] at h1
    simp only [Option.map_some, Option.some.injEq, Prod.mk.injEq] at h1
    exact ⟨i, rfl, h1.1, h1.2.1, h1.2.2⟩
/-- Those of the texts that begin so. -/
def begL (p : ByteArray) (ss : List (List UInt8)) : List (List UInt8) := ss.filter (fun x => begins p ⟨x.toArray⟩)
theorem begL_keys (p : ByteArray) (K : List ByteArray) : begL p (K.map kb) = (K.filter (begins p)).map kb := by
  unfold begL
  rw [List.filter_map]
  rfl
theorem begL_hit (p : ByteArray) (ss : List (List UInt8)) (x : List UInt8) (h : begins p ⟨x.toArray⟩ = true) : begL p (ss ++ [x]) = begL p ss ++ [x] := by
  unfold begL
  rw [List.filter_append]
  simp [h]
theorem begL_miss (p : ByteArray) (ss : List (List UInt8)) (x : List UInt8) (h : begins p ⟨x.toArray⟩ = false) : begL p (ss ++ [x]) = begL p ss := by
  unfold begL
  rw [List.filter_append]
  simp [h]
theorem begL_len (p : ByteArray) (ss : List (List UInt8)) : (begL p ss).length ≤ ss.length := List.length_filter_le _ _
theorem enc_rows (K : List ByteArray) : (K.map kb).map encStr = (strRows K).flatten := by
  induction K with
  | nil => rfl
  | cons x K ih =>
    simp only [List.map_cons, strRows, List.flatten_cons] at ih ⊢
    rw [ih]
    rfl
theorem strRows_ok (K : List ByteArray) : ∀ e ∈ strRows K, e.length = 1 ∧ ∀ u ∈ e, u.oneCell' = true := by
  intro e he
  obtain ⟨x, _, rfl⟩ := List.mem_map.1 he
  exact ⟨rfl, by simp [Value.oneCell']⟩

theorem cKeys_nil (p : ByteArray) (w : World) : Calls Tryd.prog 75 #[.pointer none, .string p] w fun e w' => e = .returned (.slice none 0 0) ∧ w = w' := by
  go_enter Tryd.func75, Tryd.ntmps75
  go_wp2
  go_ret
  exact ⟨rfl, rfl⟩

set_option maxRecDepth 100000 in
set_option maxHeartbeats 600000 in
theorem cKeys_any (own D : Nat → Prop) (r : Nat) (K : List ByteArray) (T : ByteArray → TD) (G : List ED) (p : ByteArray) (w : World) (h : SK w own D r K T G) (hK : K.length ≤ 1000000) :
    Calls Tryd.prog 75 #[.pointer (some ⟨r, 0, none⟩), .string p] w fun e w' => ∃ A c, e = .returned (.slice A (K.filter (begins p)).length c) ∧ Rd w' (fun b => w.heap.size ≤ b) 1 A (K.filter (begins p)).length c (strRows (K.filter (begins p))) ∧ Below w.heap.size w w' := by
  obtain ⟨bt, bh, gv, f, Kh, es, h⟩ := h
  obtain ⟨i0, hi, hz0, hz1, hz2⟩ := strParts
  have c0 := h.c0
  have hsz := smap_size K f
  have HM := Lib.hid h.mt
  have HR := Lib.hid h.rise
  have hbl := h.mt.lt
  clear h
  have HZ := Lib.hid hsz
  clear hsz
  go_enter Tryd.func75, Tryd.ntmps75
  go_wp2_with (at_range; refine wpList_range_own _ rfl _ 73 rfl 9 53 slaw Tryd.underlying73 _ bt K.length (smap K f) rfl HM.out ?_; intro w0 hrg0 hg0 hs0)
  go_frame
  have B0 := Lib.hid ((Below.refl w.heap.size w).grown hg0 (Nat.le_refl _) (fun j hj => by cases hj))
  have S0 := Lib.hid hs0
  have RG0 := Lib.hid hrg0
  clear hs0 hrg0 hg0
  go_loopw [5] (fun v wr => ∃ (left : Lit → Bool) (cnt : Nat) (ss : List (List UInt8)), wr.ranges Tryd.prog 9 heldR bt w.heap.size K.length (smap K f) left cnt ∧ RowKit.Hid (ss.length + cnt ≤ Maps.size (smap K f)) ∧
      RowKit.Hid (wr.ownsRow (w.heap.size + 1) 9 1 v (begL p ss).length ((begL p ss).map encStr)) ∧ RowKit.Hid (Collected (smap K f) left ss) ∧ RowKit.Hid (Below w.heap.size w wr))
    (fun _ wr => wr.rangeLeft bt w.heap.size)
  case atStart =>
    exact ⟨_, _, [], RG0.out, by simp [RowKit.Hid], World.ownsRow_nil _ _ _ _, Collected.start _, B0.out⟩
  case round =>
    clear RG0
    obtain ⟨left, cnt, ss, hrg, hcs, hrow, hC, hnx⟩ := hrel
    have hbg := begL_len p ss
    have hcs2 := hcs.out
    rw [HZ.out] at hcs2
    go_wp2_with (at_next; refine wpList_next_ranges _ rfl _ rfl 9 slaw heldR encStr (fun v => v) (fun key kl hk => by obtain ⟨x, hx, _⟩ := Maps.keyOf_str Tryd.underlying9 hk; exact ⟨x, hx⟩) (fun v y _ => ⟨v, rfl⟩) bt w.heap.size K.length _ _ _ rfl hrg ?_ ?_)
    · intro hc0 hl0
      have hp := hC.out.perm HM.out slaw Tryd.underlying9 hl0
      rw [smap_keys] at hp
      have hp2 : (begL p ss).Perm ((K.filter (begins p)).map kb) := by rw [← begL_keys]; exact hp.filter _
      have hsorted := risS_sorted (K.filter (begins p)) (begL p ss) (risS_filter _ _ HR.out) hp2
      have hlen : (begL p ss).length = (K.filter (begins p)).length := by have := hp2.length_eq; simpa using this
      obtain ⟨L, hL⟩ : ∃ L, L = K.filter (begins p) := ⟨_, rfl⟩
      rw [← hL] at hsorted hlen
      have HL := Lib.hid hL
      have HSO := Lib.hid hsorted
      have HLE := Lib.hid hlen
      have hle1 : L.length ≤ (begL p ss).length := by omega
      clear hp hp2 hsorted hL hl0 hc0 hrg hlen
      rcases hrow.out.2 with ⟨rfl, h0⟩ | ⟨g, cap, cur, rfl, hbase, hb, h1, h2, h3, h4⟩
      · go_wp2_with (go_at_call 94; refine (Tryd.slices_Sort_string_none none 0 _).mono ?_; rintro e w' ⟨rfl, rfl⟩)
        go_ret
        have hnil : L = [] := List.eq_nil_of_length_eq_zero (by omega)
        rw [← HL.out, hnil]
        exact ⟨none, 0, rfl, Rd.nil _ _ _, hnx.out⟩
      · have hH : Holds encStr wr g 0 (begL p ss).toArray := holds_of_block hb (by simpa using h4)
        have hgl : g < wr.heap.size := lt_of_block hb
        have hc := Tryd.slices_Sort_string g 0 cap (begL p ss) wr hH hgl (by omega)
        have HCC := Lib.hid hc
        have HB := Lib.hid hb
        have H3 := Lib.hid h3
        clear hc hb h3 h4 hH
        go_wp2_with (go_at_call 94; refine HCC.out.mono ?_; rintro e w' ⟨rfl, nn, os, rfl⟩)
        go_ret
        have hown := ownsRow_sorted (n := nn) (os := os) (ss := begL p ss) (ts := L.map kb) (by rw [List.length_map]; exact HLE.out.symm) hbase HB.out h1 h2 H3.out
        rw [enc_rows] at hown
        have hs := HSO.out
        obtain ⟨A9, c9, e9, hr9⟩ := Rd.of_own hown (by rw [HLE.out]; simp [strRows]) (strRows_ok L)
        have hbel := hnx.out.grown (grownBy_sorted (w := wr) (g := g) (n := nn) (os := os) (L.map kb).toArray) hnx.out.size (fun j hj => by cases hj; omega)
        rw [← HL.out]
        rw [HLE.out] at e9 hr9
        have hval := congrArg (fun l : List (List UInt8) => Go.Sort.grow (Go.Sort.putRow encStr (Go.Sort.ahead wr nn) g 0 l.toArray) os) hs
        rw [HLE.out]
        rw [show Go.Sort.grow (Go.Sort.putRow encStr (Go.Sort.ahead wr nn) g 0 ((begL p ss).mergeSort fun x y => decide (x ≤ y)).toArray) os = Go.Sort.grow (Go.Sort.putRow encStr (Go.Sort.ahead wr nn) g 0 (L.map kb).toArray) os from hval]
        exact ⟨A9, c9, congrArg Ending.returned e9, hr9.mono (fun b _ hb => by omega) (by decide), hbel⟩
    · intro x c kl yd yp w2 cnt2 hkey hlk hv hat hrg2 hlt hg2 hs2 hen
      obtain ⟨x', ex, rfl, hxl⟩ := Maps.keyOf_str Tryd.underlying9 hkey
      obtain rfl : x = x' := encStr_inj ex
      have hC2 := hC.out.step hlk hat
      have hrow2 := hrow.out.kept hg2 (Or.inr (row_ne_iter hrow.out hrg).symm)
      have hB2 := hnx.out.grown hg2 hnx.out.size (fun j hj => by cases hj; exact Nat.le_refl _)
      have HC2 := Lib.hid hC2
      have HR2 := Lib.hid hrow2
      have HB2 := Lib.hid hB2
      have HOLD := Lib.hid hrg
      have HLT := Lib.hid hlt
      have HS2 := Lib.hid (show w.heap.size + 1 ≤ w2.heap.size by have := hg2.size; have := hrg.lt; omega)
      clear hC2 hrow2 hB2 hs2 hat hlk hkey hv hg2 ex hC hrow hnx hcs
      cases hpre : begins p ⟨x.toArray⟩ with
      | false =>
        have E1 := Lib.hid (begL_miss p ss x hpre)
        have HP := Lib.hid hpre
        clear hpre
        go_wp2_with (go_at_call 88; refine (hasPre_any _ _ _).mono ?_; rintro e w' ⟨rfl, rfl⟩; rw [HP.out])
        go_roundw
        case rel => exact ⟨_, cnt2, ss ++ [x], hrg2, by show _ ≤ _; rw [HZ.out]; simp; omega, by rw [E1.out]; exact HR2.out, HC2.out, HB2.out⟩
        case measure => rw [hrg2.left_eq, HOLD.out.left_eq]; exact HLT.out
      | true =>
        have E1 := Lib.hid (begL_hit p ss x hpre)
        have HP := Lib.hid hpre
        clear hpre
        go_wp2_with (first
          | (go_at_call 88; refine (hasPre_any _ _ _).mono ?_; rintro e w' ⟨rfl, rfl⟩; rw [HP.out])
          | (at_builtin; refine wpList_append_own _ rfl (.tmp 21) (.tmp 23) 28 rfl (w.heap.size + 1) 9 i0 (.string ⟨#[]⟩) 1 16 Tryd.underlying28 hi hz0 hz1 hz2 rfl (by decide) _ _ _ rfl (World.ownsRow.alloc HR2.out _) ⟨w2.heap.size, 0, none⟩ 1 1 [encStr x] rfl rfl (cell_one_new _ _ _) (by simp [Value.oneCell', encStr]) (by unfold maxLen; omega) (by omega) (by have := HS2.out; simp; omega) ?_; intro v' w3 hown' hg3 _))
        have hown2 : w3.ownsRow (w.heap.size + 1) 9 1 v' (begL p (ss ++ [x])).length ((begL p (ss ++ [x])).map encStr) := by
          rw [E1.out]
          simpa using hown'
        have hrg3 := (hrg2.alloc (.cells #[encStr x] 9)).kept hg3 (row_ne_low HR2.out (by omega)) (row_ne_iter HR2.out hrg2)
        have hB3 := (HB2.out.alloc HB2.out.size (.cells #[encStr x] 9)).grown hg3 (by have := HB2.out.size; simp; omega) (fun j hj => by have := (HR2.out.lt j hj).1; omega)
        go_roundw
        case rel => exact ⟨_, cnt2, ss ++ [x], hrg3, by show _ ≤ _; rw [HZ.out]; simp; omega, hown2, HC2.out, hB3⟩
        case measure => rw [hrg3.left_eq, HOLD.out.left_eq]; exact HLT.out

end Go.Proofs.YtjkofndnhmfnoaaDoor
