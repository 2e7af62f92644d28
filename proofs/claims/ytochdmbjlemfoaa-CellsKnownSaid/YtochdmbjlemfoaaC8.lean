/-
  A store of cells: Keys, All: contracts. Of any store in memory, and of nil ones.
-/
import Derived.Test.YtochdmbjlemfoaaC7
import Derived.Test.YtochdmbjlemfoaaLayS
import Derived.Maps.RangeWalk
import Derived.Sort.OwnSorted
namespace Go.Proofs.Ytochdmbjlemfoaa
open Go Go.RowKit Go.Maps Go.ChangeMaps
open Go.Sort (Holds)

/-- Does a text begin with another one? -/
def begins (p x : ByteArray) : Bool := decide (kb p <+: kb x)
theorem begins_nil (x : ByteArray) : begins ⟨#[]⟩ x = true := decide_eq_true (List.nil_prefix)
theorem begins_long {p x : ByteArray} (h : x.size < p.size) : begins p x = false := decide_eq_false fun hp => by
  have := hp.length_le
  simp [kb] at this
  have h1 : p.size = p.data.size := rfl
  have h2 : x.size = x.data.size := rfl
  omega
theorem begins_cut {p x : ByteArray} (_h : p.size ≤ x.size) : begins p x = ((x.extract 0 p.size).toList == p.toList) := by
  have h1 : (x.extract 0 p.size).toList = (kb x).take p.size := by
    rw [ByteArray.toList_eq]
    simp [kb]
  have h2 : p.toList = kb p := by rw [ByteArray.toList_eq]; rfl
  rw [h1, h2, Bool.eq_iff_iff]
  unfold begins
  rw [decide_eq_true_eq, beq_iff_eq]
  have h3 : (kb p).length = p.size := by simp [kb]
  rw [List.prefix_iff_eq_take, h3]
  exact eq_comm
theorem slitePre_any (x p : ByteArray) (w : World) :
    Calls Try.prog 96 #[.string x, .string p] w fun e w' => e = .returned (.bool (begins p x)) ∧ w = w' := by
  by_cases h : p.size ≤ x.size
  · have hq : (p.size : Int) ≤ (x.size : Int) := by omega
    obtain ⟨b, hb⟩ : ∃ b, b = begins p x := ⟨_, rfl⟩
    have HB := Lib.hid (hb.trans (begins_cut h))
    rw [← hb]
    clear hb
    go_enter Try.func96, Try.ntmps96
    go_wp2
    go_ret
    exact ⟨by rw [HB.out]; rfl, rfl⟩
  · have hq : ¬ (p.size : Int) ≤ (x.size : Int) := by omega
    have HB := Lib.hid (begins_long (p := p) (x := x) (by omega))
    clear h
    go_enter Try.func96, Try.ntmps96
    go_wp2
    go_ret
    exact ⟨by rw [HB.out]; rfl, rfl⟩
theorem hasPre_any (x p : ByteArray) (w : World) :
    Calls Try.prog 82 #[.string x, .string p] w fun e w' => e = .returned (.bool (begins p x)) ∧ w = w' := by
  go_enter Try.func82, Try.ntmps82
  go_wp2_with (go_at_call 96; refine (slitePre_any _ _ _).mono ?_; rintro e w' ⟨rfl, rfl⟩)
  go_ret
  exact ⟨rfl, rfl⟩

theorem strInfo : (Try.prog.info? 9).map (fun i => (i.zero, i.size, i.bytes)) = some (some (.string ⟨#[]⟩), 1, 16) := by kernel_rfl
theorem strParts : ∃ i, Try.prog.info? 9 = some i ∧ i.zero = some (.string ⟨#[]⟩) ∧ i.size = 1 ∧ i.bytes = 16 := by
  have h1 := strInfo
  cases h : Try.prog.info? 9 with
  | none => rw [h] at h1; cases h1
  | some i =>
    rw [h] at h1
    simp only [Option.map_some, Option.some.injEq, Prod.mk.injEq] at h1
    exact ⟨i, rfl, h1.1, h1.2.1, h1.2.2⟩
/-- Those of the texts that begin so. -/
def begL (p : ByteArray) (ss : List (List UInt8)) : List (List UInt8) := ss.filter (fun x => begins p ⟨x.toArray⟩)
theorem begL_keys (p : ByteArray) (K : List ByteArray) : begL p (K.map kb) = (K.filter (begins p)).map kb := by
  unfold begL
  rw [List.filter_map]
  rfl
theorem begL_hit (p : ByteArray) (ss : List (List UInt8)) (x : List UInt8) (h : begins p ⟨x.toArray⟩ = true) : begL p (ss ++ [x]) = begL p ss ++ [x] := by
  unfold begL
  rw [List.filter_append]
  simp [h]
theorem begL_miss (p : ByteArray) (ss : List (List UInt8)) (x : List UInt8) (h : begins p ⟨x.toArray⟩ = false) : begL p (ss ++ [x]) = begL p ss := by
  unfold begL
  rw [List.filter_append]
  simp [h]
theorem begL_len (p : ByteArray) (ss : List (List UInt8)) : (begL p ss).length ≤ ss.length := List.length_filter_le _ _
theorem enc_rows (K : List ByteArray) : (K.map kb).map encStr = (strRows K).flatten := by
  induction K with
  | nil => rfl
  | cons x K ih =>
    simp only [List.map_cons, strRows, List.flatten_cons] at ih ⊢
    rw [ih]
    rfl
theorem strRows_ok (K : List ByteArray) : ∀ e ∈ strRows K, e.length = 1 ∧ ∀ u ∈ e, u.oneCell' = true := by
  intro e he
  obtain ⟨x, _, rfl⟩ := List.mem_map.1 he
  exact ⟨rfl, by simp [Value.oneCell']⟩

theorem cKeys_nil (p : ByteArray) (w : World) : Calls Try.prog 58 #[.pointer none, .string p] w fun e w' => e = .returned (.slice none 0 0) ∧ w = w' := by
  go_enter Try.func58, Try.ntmps58
  go_wp2
  go_ret
  exact ⟨rfl, rfl⟩

set_option maxRecDepth 100000 in
set_option maxHeartbeats 600000 in
theorem cKeys_any (own D : Nat → Prop) (r : Nat) (K : List ByteArray) (T : ByteArray → TD) (G : List ED) (p : ByteArray) (w : World) (h : SK w own D r K T G) (hK : K.length ≤ 1000000) :
    Calls Try.prog 58 #[.pointer (some ⟨r, 0, none⟩), .string p] w fun e w' => ∃ A c, e = .returned (.slice A (K.filter (begins p)).length c) ∧ Rd w' (fun b => w.heap.size ≤ b) 1 A (K.filter (begins p)).length c (strRows (K.filter (begins p))) ∧ Below w.heap.size w w' := by
  obtain ⟨bt, bh, gv, f, Kh, es, h⟩ := h
  obtain ⟨i0, hi, hz0, hz1, hz2⟩ := strParts
  have c0 := h.c0
  have hsz := smap_size K f
  have HM := Lib.hid h.mt
  have HR := Lib.hid h.rise
  have hbl := h.mt.lt
  clear h
  have HZ := Lib.hid hsz
  clear hsz
  go_enter Try.func58, Try.ntmps58
  go_wp2_with (at_range; refine wpList_range_own _ rfl _ 116 rfl 9 45 slaw Try.underlying116 _ bt K.length (smap K f) rfl HM.out ?_; intro w0 hrg0 hg0 hs0)
  go_frame
  have B0 := Lib.hid ((Below.refl w.heap.size w).grown hg0 (Nat.le_refl _) (fun j hj => by cases hj))
  have S0 := Lib.hid hs0
  have RG0 := Lib.hid hrg0
  clear hs0 hrg0 hg0
  go_loopw [5] (fun v wr => ∃ (left : Lit → Bool) (cnt : Nat) (ss : List (List UInt8)), wr.ranges Try.prog 9 heldR bt w.heap.size K.length (smap K f) left cnt ∧ RowKit.Hid (ss.length + cnt ≤ Maps.size (smap K f)) ∧
      RowKit.Hid (wr.ownsRow (w.heap.size + 1) 9 1 v (begL p ss).length ((begL p ss).map encStr)) ∧ RowKit.Hid (Collected (smap K f) left ss) ∧ RowKit.Hid (Below w.heap.size w wr))
    (fun _ wr => wr.rangeLeft bt w.heap.size)
  case atStart =>
    exact ⟨_, _, [], RG0.out, by simp [RowKit.Hid], World.ownsRow_nil _ _ _ _, Collected.start _, B0.out⟩
  case round =>
    clear RG0
    obtain ⟨left, cnt, ss, hrg, hcs, hrow, hC, hnx⟩ := hrel
    have hbg := begL_len p ss
    have hcs2 := hcs.out
    rw [HZ.out] at hcs2
    go_wp2_with (at_next; refine wpList_next_ranges _ rfl _ rfl 9 slaw heldR encStr (fun v => v) (fun key kl hk => by obtain ⟨x, hx, _⟩ := Maps.keyOf_str Try.underlying9 hk; exact ⟨x, hx⟩) (fun v y _ => ⟨v, rfl⟩) bt w.heap.size K.length _ _ _ rfl hrg ?_ ?_)
    · intro hc0 hl0
      have hp := hC.out.perm HM.out slaw Try.underlying9 hl0
      rw [smap_keys] at hp
      have hp2 : (begL p ss).Perm ((K.filter (begins p)).map kb) := by rw [← begL_keys]; exact hp.filter _
      have hsorted := risS_sorted (K.filter (begins p)) (begL p ss) (risS_filter _ _ HR.out) hp2
      have hlen : (begL p ss).length = (K.filter (begins p)).length := by have := hp2.length_eq; simpa using this
      obtain ⟨L, hL⟩ : ∃ L, L = K.filter (begins p) := ⟨_, rfl⟩
      rw [← hL] at hsorted hlen
      have HL := Lib.hid hL
      have HSO := Lib.hid hsorted
      have HLE := Lib.hid hlen
      have hle1 : L.length ≤ (begL p ss).length := by omega
      clear hp hp2 hsorted hL hl0 hc0 hrg hlen
      rcases hrow.out.2 with ⟨rfl, h0⟩ | ⟨g, cap, cur, rfl, hbase, hb, h1, h2, h3, h4⟩
      · go_wp2_with (go_at_call 83; refine (Try.slices_Sort_string_none none 0 _).mono ?_; rintro e w' ⟨rfl, rfl⟩)
        go_ret
        have hnil : L = [] := List.eq_nil_of_length_eq_zero (by omega)
        rw [← HL.out, hnil]
        exact ⟨none, 0, rfl, Rd.nil _ _ _, hnx.out⟩
      · have hH : Holds encStr wr g 0 (begL p ss).toArray := holds_of_block hb (by simpa using h4)
        have hgl : g < wr.heap.size := lt_of_block hb
        have hc := Try.slices_Sort_string g 0 cap (begL p ss) wr hH hgl (by omega)
        have HCC := Lib.hid hc
        have HB := Lib.hid hb
        have H3 := Lib.hid h3
        clear hc hb h3 h4 hH
        go_wp2_with (go_at_call 83; refine HCC.out.mono ?_; rintro e w' ⟨rfl, nn, os, rfl⟩)
        go_ret
        have hown := ownsRow_sorted (n := nn) (os := os) (ss := begL p ss) (ts := L.map kb) (by rw [List.length_map]; exact HLE.out.symm) hbase HB.out h1 h2 H3.out
        rw [enc_rows] at hown
        have hs := HSO.out
        obtain ⟨A9, c9, e9, hr9⟩ := Rd.of_own hown (by rw [HLE.out]; simp [strRows]) (strRows_ok L)
        have hbel := hnx.out.grown (grownBy_sorted (w := wr) (g := g) (n := nn) (os := os) (L.map kb).toArray) hnx.out.size (fun j hj => by cases hj; omega)
        rw [← HL.out]
        rw [HLE.out] at e9 hr9
        have hval := congrArg (fun l : List (List UInt8) => Go.Sort.grow (Go.Sort.putRow encStr (Go.Sort.ahead wr nn) g 0 l.toArray) os) hs
        rw [HLE.out]
        rw [show Go.Sort.grow (Go.Sort.putRow encStr (Go.Sort.ahead wr nn) g 0 ((begL p ss).mergeSort fun x y => decide (x ≤ y)).toArray) os = Go.Sort.grow (Go.Sort.putRow encStr (Go.Sort.ahead wr nn) g 0 (L.map kb).toArray) os from hval]
        exact ⟨A9, c9, congrArg Ending.returned e9, hr9.mono (fun b _ hb => by omega) (by decide), hbel⟩
    · intro x c kl yd yp w2 cnt2 hkey hlk hv hat hrg2 hlt hg2 hs2 hen
      obtain ⟨x', ex, rfl, hxl⟩ := Maps.keyOf_str Try.underlying9 hkey
      obtain rfl : x = x' := encStr_inj ex
      have hC2 := hC.out.step hlk hat
      have hrow2 := hrow.out.kept hg2 (Or.inr (row_ne_iter hrow.out hrg).symm)
      have hB2 := hnx.out.grown hg2 hnx.out.size (fun j hj => by cases hj; exact Nat.le_refl _)
      have HC2 := Lib.hid hC2
      have HR2 := Lib.hid hrow2
      have HB2 := Lib.hid hB2
      have HOLD := Lib.hid hrg
      have HLT := Lib.hid hlt
      have HS2 := Lib.hid (show w.heap.size + 1 ≤ w2.heap.size by have := hg2.size; have := hrg.lt; omega)
      clear hC2 hrow2 hB2 hs2 hat hlk hkey hv hg2 ex hC hrow hnx hcs
      cases hpre : begins p ⟨x.toArray⟩ with
      | false =>
        have E1 := Lib.hid (begL_miss p ss x hpre)
        have HP := Lib.hid hpre
        clear hpre
        go_wp2_with (go_at_call 82; refine (hasPre_any _ _ _).mono ?_; rintro e w' ⟨rfl, rfl⟩; rw [HP.out])
        go_roundw
        case rel => exact ⟨_, cnt2, ss ++ [x], hrg2, by show _ ≤ _; rw [HZ.out]; simp; omega, by rw [E1.out]; exact HR2.out, HC2.out, HB2.out⟩
        case measure => rw [hrg2.left_eq, HOLD.out.left_eq]; exact HLT.out
      | true =>
        have E1 := Lib.hid (begL_hit p ss x hpre)
        have HP := Lib.hid hpre
        clear hpre
        go_wp2_with (first
          | (go_at_call 82; refine (hasPre_any _ _ _).mono ?_; rintro e w' ⟨rfl, rfl⟩; rw [HP.out])
          | (at_builtin; refine wpList_append_own _ rfl (.tmp 21) (.tmp 23) 40 rfl (w.heap.size + 1) 9 i0 (.string ⟨#[]⟩) 1 16 Try.underlying40 hi hz0 hz1 hz2 rfl (by decide) _ _ _ rfl (World.ownsRow.alloc HR2.out _) ⟨w2.heap.size, 0, none⟩ 1 1 [encStr x] rfl rfl (cell_one_new _ _ _) (by simp [Value.oneCell', encStr]) (by unfold maxLen; omega) (by omega) (by have := HS2.out; simp; omega) ?_; intro v' w3 hown' hg3 _))
        have hown2 : w3.ownsRow (w.heap.size + 1) 9 1 v' (begL p (ss ++ [x])).length ((begL p (ss ++ [x])).map encStr) := by
          rw [E1.out]
          simpa using hown'
        have hrg3 := (hrg2.alloc (.cells #[encStr x] 9)).kept hg3 (row_ne_low HR2.out (by omega)) (row_ne_iter HR2.out hrg2)
        have hB3 := (HB2.out.alloc HB2.out.size (.cells #[encStr x] 9)).grown hg3 (by have := HB2.out.size; simp; omega) (fun j hj => by have := (HR2.out.lt j hj).1; omega)
        go_roundw
        case rel => exact ⟨_, cnt2, ss ++ [x], hrg3, by show _ ≤ _; rw [HZ.out]; simp; omega, hown2, HC2.out, hB3⟩
        case measure => rw [hrg3.left_eq, HOLD.out.left_eq]; exact HLT.out

theorem cellInfo : (Try.prog.info? 67).map (fun i => (i.size, i.bytes)) = some (15, 248) := by kernel_rfl
theorem cellZero : ((Try.prog.info? 67).bind (·.zero)).map (fun z => z.cells.size) = some 15 := by kernel_rfl
theorem cellParts : ∃ i z, Try.prog.info? 67 = some i ∧ i.zero = some z ∧ i.size = 15 ∧ i.bytes = 248 ∧ z.cells.size = 15 := by
  have h1 := cellInfo
  have h2 := cellZero
  cases h : Try.prog.info? 67 with
  | none => rw [h] at h1; cases h1
  | some i =>
    rw [h] at h1 h2
    simp only [Option.map_some, Option.some.injEq, Prod.mk.injEq, Option.bind_some] at h1 h2
    cases hz : i.zero with
    | none => rw [hz] at h2; cases h2
    | some z =>
      rw [hz] at h2
      simp only [Option.map_some, Option.some.injEq] at h2
      exact ⟨i, z, rfl, hz, h1.1, h1.2, h2⟩
/-- The cells of a store. -/
def cellsOf (K : List ByteArray) (T : ByteArray → TD) : List CD := K.map fun k => ⟨k, T k⟩
theorem CellsAre.snoc {w : World} {D : Nat → Prop} {es : List (List Value)} {L : List CD} {e : List Value} {E : CD} (h : CellsAre w D es L) (he : CellIs w D e E) : CellsAre w D (es ++ [e]) (L ++ [E]) :=
  ⟨by simp [h.1], fun i e' E' h1 h2 => by
    rcases Nat.lt_trichotomy i es.length with hlt | heq | hgt
    · rw [List.getElem?_append_left hlt] at h1
      rw [List.getElem?_append_left (by rw [← h.1]; exact hlt)] at h2
      exact h.2 i e' E' h1 h2
    · subst heq
      rw [List.getElem?_append_right (Nat.le_refl _), Nat.sub_self] at h1
      rw [h.1, List.getElem?_append_right (Nat.le_refl _), Nat.sub_self] at h2
      simp at h1 h2
      subst h1 h2
      exact he
    · rw [List.getElem?_eq_none (by simp; omega)] at h1
      cases h1⟩
theorem CellsAre.ok {w : World} {D : Nat → Prop} {es : List (List Value)} {L : List CD} (h : CellsAre w D es L) : ∀ e ∈ es, e.length = 15 ∧ ∀ u ∈ e, u.oneCell' = true := by
  intro e he
  obtain ⟨i, hi⟩ := List.mem_iff_getElem?.1 he
  have hlt := (List.getElem?_eq_some_iff.1 hi).1
  have hE := List.getElem?_eq_getElem (l := L) (i := i) (by rw [← h.1]; exact hlt)
  obtain ⟨ts, rfl, hT⟩ := h.2 i e _ hi hE
  have h1 := hT.one
  obtain ⟨x0, x1, x2, x3, x4, x5, x6, x7, x8, x9, x10, x11, x12, x13, rfl⟩ := hT.form
  refine ⟨rfl, fun u hu => ?_⟩
  rcases List.mem_append.1 hu with hu | hu
  · simp at hu; subst hu; rfl
  · exact h1 u hu

theorem cAll_nil (w : World) : Calls Try.prog 56 #[.pointer none] w fun e w' => e = .returned (.slice none 0 0) ∧ w = w' := by
  go_enter Try.func56, Try.ntmps56
  go_wp2_with (go_at_call 58; refine (cKeys_nil _ _).mono ?_; rintro e w' ⟨rfl, rfl⟩)
  refine wp_loop_rounds 1 ?_
  rw [rounds_succ]
  go_wp2
  go_ret
  exact ⟨rfl, rfl⟩

set_option maxRecDepth 100000 in
set_option maxHeartbeats 1600000 in
theorem cAll_any (own D : Nat → Prop) (r : Nat) (K : List ByteArray) (T : ByteArray → TD) (G : List ED) (w : World) (h : SK w own D r K T G) (hK : K.length ≤ 1000000) :
    Calls Try.prog 56 #[.pointer (some ⟨r, 0, none⟩)] w fun e w' => ∃ A c es, e = .returned (.slice A K.length c) ∧ Rd w' (fun b => w.heap.size ≤ b) 15 A K.length c es ∧ CellsAre w' D es (cellsOf K T) ∧ Below w.heap.size w w' := by
  have HC := Lib.hid (cKeys_any own D r K T G ⟨#[]⟩ w h hK)
  have hfil : K.filter (begins ⟨#[]⟩) = K := List.filter_eq_self.2 fun x _ => begins_nil x
  rw [hfil] at HC
  obtain ⟨bt, bh, gv, f, Kh, es0, h⟩ := h
  obtain ⟨i0, z0, hi, hz0, hz1, hz2, hz3⟩ := cellParts
  have c0 := h.c0
  have H := Lib.hid h
  clear h hfil
  go_enter Try.func56, Try.ntmps56
  go_wp2_with fail
  refine HC.out.mono ?_
  rintro e w1 ⟨A, c, rfl, hr1, hb1⟩
  have R1 := Lib.hid hr1
  have B1 := Lib.hid hb1
  clear hr1 hb1 HC c0
  go_wp2
  go_loopw [3, 9] (fun v i wr => ∃ j : Nat, j ≤ K.length ∧ i = .int .i64 (j : Int) ∧ RowKit.Hid (Below w1.heap.size w1 wr) ∧ RowKit.Hid (∃ es, CellsAre wr D es (cellsOf (K.take j) T) ∧ wr.ownsRow w1.heap.size 67 15 v es.length es.flatten)) (fun _ i _ => K.length - (RowKit.intOf i).toNat)
  case atStart => exact ⟨0, Nat.zero_le _, rfl, Below.refl _ _, [], ⟨rfl, by simp⟩, World.ownsRow_nil _ _ _ _⟩
  case round =>
    obtain ⟨j, hj, rfl, hb, hst⟩ := hrel
    have hbw := B1.out.trans (hb.out.mono B1.out.size)
    by_cases hlt : j < K.length
    · have q1 : (j : Int) < (K.length : Int) := by omega
      obtain ⟨es, hCA, hown⟩ := hst.out
      obtain ⟨b, off, hA, -, -, hc⟩ := R1.out.one.2 (by omega)
      obtain ⟨k, hk⟩ : ∃ k, K[j]? = some k := ⟨_, List.getElem?_eq_getElem hlt⟩
      have hkm := List.mem_of_getElem? hk
      have cx := below_cell hb.out (hc j k hk)
      obtain ⟨ts, e1, ht⟩ := H.out.things k hkm
      obtain ⟨A1, n1, c1, A2, n2, c2, A3, n3, c3, A4, n4, c4, A5, n5, c5, rfl⟩ := ht.full
      have hlk := look_thing1 (ownsMap_chg (S := fun _ => False) H.out.mt (Chg.of_below hbw) (fun h => h)) (H.out.sz k hkm) hkm
      rw [e1] at hlk
      have d0 := below_cell hbw H.out.c0
      have hel : es.length = j := by have := hCA.1; unfold cellsOf at this; simp at this; omega
      have HT := Lib.hid (ht.below hbw)
      have HK := Lib.hid hk
      have HCA := Lib.hid hCA
      have HO := Lib.hid hown
      have HEL := Lib.hid hel
      have HBW := Lib.hid hbw
      have hS := hb.out.size
      have hel1 : es.length ≤ 1000000 := by omega
      subst hA
      clear hc hk hkm ht e1 hCA hown hst hel hbw
      go_wp2_with (at_builtin; refine wpList_append_own _ rfl (.tmp 13) (.tmp 22) 60 rfl w1.heap.size 67 i0 z0 15 248 Try.underlying60 hi hz0 hz1 hz2 hz3 (by decide) _ _ _ rfl (World.ownsRow.alloc HO.out _) ⟨wr.heap.size, 0, none⟩ 1 1 [.string k, .int .u8 (T k).kind, .bool (T k).v.char, .slice A1 n1 c1, .slice A2 n2 c2, .string (T k).f.name, .string (T k).f.result, .string (T k).f.left, .string (T k).f.right, .slice A3 n3 c3, .slice A4 n4 c4, .int .i64 (T k).f.version, .slice A5 n5 c5, .int .i64 (T k).n, .string (T k).s] rfl rfl (World.news_of_block (cs := #[.string k, .int .u8 (T k).kind, .bool (T k).v.char, .slice A1 n1 c1, .slice A2 n2 c2, .string (T k).f.name, .string (T k).f.result, .string (T k).f.left, .string (T k).f.right, .slice A3 n3 c3, .slice A4 n4 c4, .int .i64 (T k).f.version, .slice A5 n5 c5, .int .i64 (T k).n, .string (T k).s]) (t := 67) (fr := (0, 0)) (heap_alloc_new wr _)) (by simp [Value.oneCell']) (by unfold maxLen; omega) (by omega) (by simp; omega) ?_; intro v5 w5 hown5 hgrow5 _)
      have hb5 := (hb.out.alloc hS (.cells #[.string k, .int .u8 (T k).kind, .bool (T k).v.char, .slice A1 n1 c1, .slice A2 n2 c2, .string (T k).f.name, .string (T k).f.result, .string (T k).f.left, .string (T k).f.right, .slice A3 n3 c3, .slice A4 n4 c4, .int .i64 (T k).f.version, .slice A5 n5 c5, .int .i64 (T k).n, .string (T k).s] 67)).grown hgrow5 (by simp; omega) (fun j hj => (HO.out.lt j hj).1)
      have hc5 : Chg (fun b => w1.heap.size ≤ b) wr w5 := ⟨by rw [hgrow5.os]; rfl, by rw [hgrow5.tape]; rfl, by rw [hgrow5.output]; rfl, by have := hgrow5.size; simp at this; omega, fun i hi hn => (hgrow5.block i (by simp; omega) (fun e => hn (by have := (HO.out.lt i e.symm).1; exact this))).trans (Below.heap_alloc wr _ i hi)⟩
      have hD : ∀ b, D b → ¬ w1.heap.size ≤ b := fun b hb hn => by have := H.out.dlt b hb; have := B1.out.size; omega
      have hCA5 : CellsAre w5 D (es ++ [([.string k, .int .u8 (T k).kind, .bool (T k).v.char, .slice A1 n1 c1, .slice A2 n2 c2, .string (T k).f.name, .string (T k).f.result, .string (T k).f.left, .string (T k).f.right, .slice A3 n3 c3, .slice A4 n4 c4, .int .i64 (T k).f.version, .slice A5 n5 c5, .int .i64 (T k).n, .string (T k).s] : List Value)]) (cellsOf (K.take (j + 1)) T) := by
        have e2 : cellsOf (K.take (j + 1)) T = cellsOf (K.take j) T ++ [⟨k, T k⟩] := by unfold cellsOf; rw [List.take_add_one, HK.out, List.map_append]; rfl
        rw [e2]
        exact (HCA.out.chg hc5 hD).snoc ⟨_, rfl, HT.out.chg hc5 hD⟩
      have HF := Lib.hid hCA5
      have HG : RowKit.Hid (w5.ownsRow w1.heap.size 67 15 v5 (es ++ [([.string k, .int .u8 (T k).kind, .bool (T k).v.char, .slice A1 n1 c1, .slice A2 n2 c2, .string (T k).f.name, .string (T k).f.result, .string (T k).f.left, .string (T k).f.right, .slice A3 n3 c3, .slice A4 n4 c4, .int .i64 (T k).f.version, .slice A5 n5 c5, .int .i64 (T k).n, .string (T k).s] : List Value)]).length (es ++ [([.string k, .int .u8 (T k).kind, .bool (T k).v.char, .slice A1 n1 c1, .slice A2 n2 c2, .string (T k).f.name, .string (T k).f.result, .string (T k).f.left, .string (T k).f.right, .slice A3 n3 c3, .slice A4 n4 c4, .int .i64 (T k).f.version, .slice A5 n5 c5, .int .i64 (T k).n, .string (T k).s] : List Value)]).flatten) := by
        show World.ownsRow _ _ _ _ _ _ _
        simpa using hown5
      have HB5 := Lib.hid hb5
      clear hown5 hgrow5 hb5 hc5 hD hCA5
      go_wp2
      go_roundw
      case rel => exact ⟨j + 1, by omega, by go_num, HB5.out, _, HF.out, HG.out⟩
      case measure => simp [RowKit.intOf]; omega
    · have hjk : j = K.length := by omega
      subst hjk
      obtain ⟨es, hCA, hown⟩ := hst.out
      rw [List.take_length] at hCA
      obtain ⟨A9, c9, rfl, hr9⟩ := Rd.of_own hown rfl hCA.ok
      have hel : es.length = K.length := by have := hCA.1; unfold cellsOf at this; simpa using this
      have HBW := Lib.hid hbw
      have R9 := Lib.hid hr9
      have HCA := Lib.hid hCA
      have HEL := Lib.hid hel
      clear hown hr9 hCA hbw hel hst hb
      go_wp2
      go_ret
      have R := R9.out
      rw [HEL.out] at R ⊢
      exact ⟨A9, c9, es, rfl, R.mono (fun b _ h => Nat.le_trans B1.out.size h) (by decide), HCA.out, HBW.out⟩
end Go.Proofs.Ytochdmbjlemfoaa
