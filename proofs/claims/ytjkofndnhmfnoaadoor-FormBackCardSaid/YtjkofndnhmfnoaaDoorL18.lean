/-
  The law of layer 05: reads: a contract for texts of numbers behind blanks.
-/
import Derived.Test.YtjkofndnhmfnoaaDoorL15
import Derived.Test.YtjkofndnhmfnoaaDoorP3
namespace Go.Proofs.YtjkofndnhmfnoaaDoor
open Go Go.RowKit

/-- A row of numbers of the call's own. -/
def Nums (w : World) (base : Nat) (v : Value) (l : List Int) : Prop := w.ownsRow base 2 1 v l.length (l.map (Value.int .i64))
theorem nums_own {w : World} {base k : Nat} {v : Value} {l : List Int} (h : Nums w base v l) (hl : l.length = k) : w.ownsRow base 2 1 v k (l.map (Value.int .i64)) := by subst hl; exact h
theorem Nums.nil (w : World) (base : Nat) : Nums w base (.slice none 0 0) [] := World.ownsRow_nil _ _ _ _
theorem Nums.snoc {w : World} {base : Nat} {v : Value} {l : List Int} {t : Int} (h : w.ownsRow base 2 1 v (l.length + 1) (l.map (Value.int .i64) ++ [.int .i64 t])) : Nums w base v (l ++ [t]) := by
  unfold Nums
  rw [List.length_append, List.length_singleton, List.map_append]
  exact h
theorem Nums.below {w w' : World} {base : Nat} {v : Value} {l : List Int} (h : Nums w base v l) (hb : Below w.heap.size w w') : Nums w' base v l := by
  refine ⟨h.1, h.2.imp id ?_⟩
  rintro ⟨g, cap, cur, rfl, h1, h2, h3⟩
  exact ⟨g, cap, cur, rfl, h1, (hb.block g (lt_of_block h2)).trans h2, h3⟩
theorem below_nums {w w' : World} {base : Nat} {v : Value} {l : List Int} {w0 : World} (h : Nums w base v l) (hb : Below w0.heap.size w0 w) (h0 : base = w0.heap.size) {o : Obj} (hg : (w.alloc o).grownBy w' v.ownBlock) : Below w0.heap.size w0 w' := by
  subst h0
  exact (hb.alloc hb.size o).grown hg (by have := hb.size; simp; omega) (fun j hj => (World.ownsRow.lt h j hj).1)
theorem Nums.rd {w : World} {base : Nat} {v : Value} {l : List Int} (h : Nums w base v l) : ∃ A c, v = .slice A l.length c ∧ Rd w (fun b => base ≤ b) 1 A l.length c (intRows .i64 l) := by
  have e : ∀ l : List Int, (l.map (Value.int .i64)) = (intRows .i64 l).flatten := by
    intro l
    unfold intRows
    induction l with
    | nil => rfl
    | cons x l ih => simp only [List.map_cons, List.flatten_cons, List.singleton_append]; rw [ih]
  unfold Nums at h
  rw [e] at h
  exact Rd.of_own h (by simp [intRows]) (fun e he => by
    obtain ⟨x, _, rfl⟩ := List.mem_map.1 he
    exact ⟨rfl, by simp [Value.oneCell']⟩)
/-! ### The walk -/
theorem drop_at {l a c : List UInt8} {k j : Nat} {b : UInt8} (h : l.drop k = a ++ c) (hb : a[j]? = some b) : l[k + j]? = some b := by
  rw [← List.getElem?_drop, h, List.getElem?_append_left (List.getElem?_eq_some_iff.1 hb).1]
  exact hb
theorem drop_at0 {l c : List UInt8} {k : Nat} {b : UInt8} (h : l.drop k = b :: c) : l[k]? = some b := by
  have := drop_at (a := [b]) (c := c) (j := 0) (k := k) h rfl
  exact this
theorem tok_len (ts : List (Nat × Int)) : ts.length ≤ (tokL ts).length := by
  induction ts with
  | nil => exact Nat.le_refl _
  | cons t ts ih =>
    obtain ⟨p, x⟩ := t
    have h : 0 < (numL x).length := by
      unfold numL
      have := dec_ne x.natAbs
      split <;> simp <;> omega
    simp only [tokL, List.length_append, List.length_cons]
    omega
theorem i64Info : (Tryd.prog.info? 2).map (fun i => (i.zero, i.size, i.bytes)) = some (some (.int .i64 0), 1, 8) := by kernel_rfl
theorem i64Parts : ∃ i, Tryd.prog.info? 2 = some i ∧ i.zero = some (.int .i64 0) ∧ i.size = 1 ∧ i.bytes = 8 := by
  have h1 := i64Info
  cases h : Tryd.prog.info? 2 with
  | none => rw [h] at h1; cases h1
  | some i => rw [h] at h1; simp only [Option.map_some, Option.some.injEq, Prod.mk.injEq] at h1; exact ⟨i, rfl, h1.1, h1.2.1, h1.2.2⟩
theorem bs_at {l : List UInt8} {k : Nat} {b : UInt8} (h : l[k]? = some b) : ∃ hlt : k < (bs l).size, (bs l)[k]'hlt = b := by
  have hl := (List.getElem?_eq_some_iff.1 h).1
  refine ⟨by rw [bs_size]; exact hl, ?_⟩
  rw [bs_get l k _ hl]
  exact (List.getElem?_eq_some_iff.1 h).2
theorem drop_more {l a c : List UInt8} {k n : Nat} (h : l.drop k = a ++ c) (hn : a.length = n) : l.drop (k + n) = c := by
  rw [← List.drop_drop, h, ← hn]
  simp
theorem drop_end {l : List UInt8} {k : Nat} (h : l.drop k = []) : l.length ≤ k := by simpa using h
theorem ext_two (l : List UInt8) (k : Nat) : ((bs l).extract k (k + 2)).toList = (l.drop k).take 2 := by
  rw [ByteArray.toList_eq]
  simp [bs, Nat.add_sub_cancel_left]
theorem wrap_in {n : Int} (h1 : -9223372036854775808 ≤ n) (h2 : n ≤ 9223372036854775807) : IntKind.i64.wrap n = n := by
  simp [IntKind.wrap, IntKind.bits, IntKind.signed]
  omega
theorem wrap_u8 {n : Int} (h1 : 0 ≤ n) (h2 : n ≤ 255) : IntKind.u8.wrap n = n := by
  simp [IntKind.wrap, IntKind.bits, IntKind.signed]
  omega
theorem u8_ne {b : UInt8} {n : Nat} (h : b.toNat ≠ n) : ((b.toNat : Int) == (n : Int)) = false := by
  rw [beq_eq_false_iff_ne]
  omega
theorem dec_wrap {x : Int} (hx : i64 x) {j : Nat} {b : UInt8} (h : (Lib.decDigits x.natAbs)[j]? = some b) : valL ((Lib.decDigits x.natAbs).take (j + 1)) = 10 * valL ((Lib.decDigits x.natAbs).take j) + (b.toNat - 48) ∧ valL ((Lib.decDigits x.natAbs).take (j + 1)) ≤ x.natAbs ∧ 48 ≤ b.toNat ∧ b.toNat ≤ 57 ∧ x.natAbs ≤ 9223372036854775808 := by
  refine ⟨valL_take _ h, ?_, ?_, ?_, ?_⟩
  · have := valL_take_le (Lib.decDigits x.natAbs) (j + 1)
    rw [val_dec] at this
    exact this
  · exact (dec_ascii _ b (List.mem_of_getElem? h)).1
  · exact (dec_ascii _ b (List.mem_of_getElem? h)).2
  · have := hx.1
    have := hx.2
    omega
set_option maxRecDepth 100000 in
set_option maxHeartbeats 3200000 in
theorem reads05_any (ts : List (Nat × Int)) (w : World) (hs : sepd ts) (hi : ∀ t ∈ ts, i64 t.2) (hl : (tokL ts).length ≤ 1000000) :
    Calls Tryd.prog 10 #[.string (bs (tokL ts))] w fun e w' => ∃ v, e = .returned (.tuple #[v, .bool true]) ∧ Nums w' w.heap.size v (ts.map Prod.snd) ∧ Below w.heap.size w w' := by
  obtain ⟨l, hle⟩ : ∃ l, l = tokL ts := ⟨_, rfl⟩
  rw [← hle] at hl ⊢
  have hz : (bs l).size ≤ 1000000 := by rw [bs_size]; exact hl
  have HZ := Lib.hid (bs_size l)
  have HL := Lib.hid hle
  have HI := Lib.hid hi
  have HS := Lib.hid hs
  clear hle hi hs hl
  go_enter Tryd.func10, Tryd.ntmps10
  go_wp2
  go_loopw [4, 5] (fun v i wr => ∃ (k : Nat) (done : List Int) (rest : List (Nat × Int)), k ≤ (bs l).size ∧ i = .int .i64 (k : Int) ∧ RowKit.Hid (l.drop k = tokL rest) ∧ RowKit.Hid (sepd rest) ∧ RowKit.Hid (∀ t ∈ rest, i64 t.2) ∧ RowKit.Hid (ts.map Prod.snd = done ++ rest.map Prod.snd) ∧ RowKit.Hid (Nums wr w.heap.size v done) ∧ RowKit.Hid (Below w.heap.size w wr)) (fun _ i _ => (bs l).size - (RowKit.intOf i).toNat)
  case atStart => exact ⟨0, [], ts, Nat.zero_le _, rfl, HL.out, HS.out, HI.out, rfl, Nums.nil _ _, Below.refl _ _⟩
  case round =>
    obtain ⟨k, done, rest, hk, rfl, hD, hSp, hI, hT, hN, hB⟩ := hrel
    match rest, hD, hSp, hI, hT with
    | [], hD, hSp, hI, hT =>
      have hkz : k = (bs l).size := by
        have := drop_end hD.out
        have := HZ.out
        omega
      subst hkz
      go_wp2
      go_ret2
      exact ⟨_, rfl, by rw [show ts.map Prod.snd = done by rw [hT.out]; simp]; exact hN.out, hB.out⟩
    | (p + 1, x) :: rest, hD, hSp, hI, hT =>
      have HDD := Lib.hid (show l.drop k = [32] ++ tokL ((p, x) :: rest) by rw [hD.out]; simp [tokL, padL, List.replicate_succ])
      obtain ⟨hlt, hb⟩ := bs_at (drop_at0 HDD.out)
      have hb' : ((bs l)[k]'hlt).toNat = 32 := by rw [hb]; rfl
      clear hb
      have HK : RowKit.Hid (k + 1 ≤ (bs l).size) := hlt
      go_wp2
      go_roundw
      case rel => exact ⟨k + 1, done, (p, x) :: rest, HK.out, by go_num, drop_more HDD.out rfl, hSp.out, fun t ht => by
        rcases List.mem_cons.1 ht with rfl | ht
        · exact hI.out (p + 1, x) List.mem_cons_self
        · exact hI.out t (List.mem_cons_of_mem _ ht), hT.out, hN.out, hB.out⟩
      case measure => simp [RowKit.intOf]; omega
    | (0, x) :: rest, hD, hSp, hI, hT =>
      obtain ⟨ds, hds⟩ : ∃ ds, ds = Lib.decDigits x.natAbs := ⟨_, rfl⟩
      have hx64 := hI.out (0, x) List.mem_cons_self
      have HW : RowKit.Hid (∀ j b, ds[j]? = some b → valL (ds.take (j + 1)) = 10 * valL (ds.take j) + (b.toNat - 48) ∧ valL (ds.take (j + 1)) ≤ x.natAbs ∧ 48 ≤ b.toNat ∧ b.toNat ≤ 57 ∧ x.natAbs ≤ 9223372036854775808) := by
        intro j b h
        rw [hds] at h ⊢
        exact dec_wrap hx64 h
      have HDS := Lib.hid hds
      have HX64 := Lib.hid hx64.2
      clear hx64
      by_cases hx : x < 0
      · have HX := Lib.hid hx
        have HDD := Lib.hid (show l.drop k = [194, 175] ++ (ds ++ tokL rest) by rw [hD.out]; simp [tokL, padL, numL, hx, hds])
        obtain ⟨q, hq⟩ : ∃ q, q = k + 2 := ⟨_, rfl⟩
        have HQ := Lib.hid hq
        have HQD := Lib.hid (show l.drop q = ds ++ tokL rest by rw [hq]; exact drop_more HDD.out rfl)
        have hd0 : 0 < ds.length := by rw [hds]; exact dec_ne _
        have HD0 := Lib.hid hd0
        obtain ⟨b0, hb0⟩ : ∃ b, ds[0]? = some b := ⟨_, List.getElem?_eq_getElem hd0⟩
        obtain ⟨-, -, hb1, hb2, hv2⟩ := HW.out 0 b0 hb0
        obtain ⟨hlt, hb⟩ := bs_at (drop_at0 HDD.out)
        obtain ⟨hlt2, hbq⟩ := bs_at (show l[q]? = some b0 from drop_at (j := 0) HQD.out hb0)
        have hlt3 : k + 2 < (bs l).size := by rw [← hq]; exact hlt2
        have hbk : ((bs l)[k]'hlt).toNat = 194 := by rw [hb]; rfl
        obtain ⟨B0, hB0⟩ : ∃ B0, B0 = b0.toNat := ⟨_, rfl⟩
        rw [← hB0] at hb1 hb2
        have hbq2 : ((bs l)[k + 2]'hlt3).toNat = B0 := by
          have : (bs l)[k + 2]'hlt3 = b0 := by rw [← hbq]; congr 1; omega
          rw [this, hB0]
        have hsl : (((bs l).extract k (k + 2)).toList == [194, 175]) = true := by
          rw [ext_two, HDD.out]; simp
        have q1 : (k : Int) + 1 < ((bs l).size : Int) := by omega
        have q2 : (k : Int) + 2 < ((bs l).size : Int) := by omega
        have q3 : (k : Int) + 2 ≤ ((bs l).size : Int) := by omega
        clear hx hds hd0 hb0 hb hbq hB0 hq
        clear hlt2
        go_wp2_with fail
        go_loop [5, 7] (fun i n => ∃ j : Nat, j ≤ ds.length ∧ i = .int .i64 ((q + j : Nat) : Int) ∧ n = .int .i64 (-(valL (ds.take j) : Int))) (fun i _ => (bs l).size - (RowKit.intOf i).toNat)
        case atStart => exact ⟨0, Nat.zero_le _, by rw [HQ.out]; go_num, by simp [valL]⟩
        case round =>
          obtain ⟨j, hj, rfl, rfl⟩ := hrel
          by_cases hjl : j < ds.length
          · obtain ⟨b, hb⟩ : ∃ b, ds[j]? = some b := ⟨_, List.getElem?_eq_getElem hjl⟩
            obtain ⟨hv, hv1, hb1, hb2, hv2⟩ := HW.out j b hb
            obtain ⟨hlt, hbb⟩ := bs_at (drop_at HQD.out hb)
            have hx1 := HX64.out
            have hx2 := HX.out
            obtain ⟨V, hV⟩ : ∃ V, V = valL (ds.take j) := ⟨_, rfl⟩
            obtain ⟨V', hV'⟩ : ∃ V', V' = valL (ds.take (j + 1)) := ⟨_, rfl⟩
            rw [← hV] at hv ⊢
            rw [← hV'] at hv hv1
            have HV' := Lib.hid hV'
            obtain ⟨B, hB'⟩ : ∃ B, B = b.toNat := ⟨_, rfl⟩
            rw [← hB'] at hv hb1 hb2
            obtain ⟨J, hJ⟩ : ∃ J, J = q + j := ⟨_, rfl⟩
            have HJ := Lib.hid hJ
            have hlt' : J < (bs l).size := by rw [hJ]; exact hlt
            have hbb2 : ((bs l)[J]'hlt').toNat = B := by
              have : (bs l)[J]'hlt' = b := by rw [← hbb]; congr 1
              rw [this, hB']
            rw [← hJ]
            have hW1 : IntKind.i64.wrap (10 * (-(V : Int))) = 10 * (-(V : Int)) := wrap_in (by omega) (by omega)
            have hW2 : IntKind.u8.wrap ((B : Int) - 48) = (B : Int) - 48 := wrap_u8 (by omega) (by omega)
            have hW5 : IntKind.i64.wrap ((B : Int) - 48) = (B : Int) - 48 := wrap_in (by omega) (by omega)
            have hW3 : IntKind.i64.wrap (-((B : Int) - 48)) = -((B : Int) - 48) := wrap_in (by omega) (by omega)
            have hW4 : IntKind.i64.wrap (10 * (-(V : Int)) + -((B : Int) - 48)) = -(V' : Int) := by
              rw [wrap_in (by omega) (by omega)]
              omega
            have HM := Lib.hid (show j + 1 ≤ ds.length from hjl)
            clear hV hV' hb hbb hB' hv hv1 hv2 hlt hJ hx1 hx2
            go_wp2
            go_round
            case rel => exact ⟨j + 1, HM.out, by rw [HJ.out]; go_num, by rw [← HV'.out]⟩
            case measure => simp [RowKit.intOf]; omega
          · have hje : j = ds.length := by omega
            subst hje
            have HVE : RowKit.Hid ((valL (ds.take ds.length) : Int) = x.natAbs) := by
              show _ = _
              rw [List.take_length, HDS.out, val_dec]
            have HQE := Lib.hid (drop_more HQD.out rfl)
            have HNX := Lib.hid (show -(valL (ds.take ds.length) : Int) = x by rw [HVE.out]; have := HX.out; omega)
            rw [HNX.out]
            have hlen : done.length ≤ 1000000 := by
              have h1 : (ts.map Prod.snd).length = (done ++ ((0, x) :: rest).map Prod.snd).length := by rw [hT.out]
              have h2 := tok_len ts
              rw [← HL.out] at h2
              have h3 := HZ.out
              simp only [List.length_map, List.length_append] at h1
              omega
            obtain ⟨i0, hi, hz0, hz1, hz2⟩ := i64Parts
            have HO := Lib.hid (nums_own hN.out rfl)
            have HS : RowKit.Hid (w.heap.size ≤ wr.heap.size) := hB.out.size
            obtain ⟨J, hJ⟩ : ∃ J, J = q + ds.length := ⟨_, rfl⟩
            have HJ := Lib.hid hJ
            rw [← hJ]
            clear hJ hjl hj
            match rest, hD, hSp, hI, hT, HDD, HQD, HQE with
            | [], hD, hSp, hI, hT, HDD, HQD, HQE =>
              have hend : (bs l).size ≤ J := by
                have := drop_end HQE.out
                have := HZ.out
                have := HJ.out
                omega
              have hend2 : J ≤ (bs l).size := by
                have h1 : (l.drop q).length = ds.length := by rw [HQD.out]; simp [tokL]
                rw [List.length_drop] at h1
                have := HZ.out
                have := HD0.out
                have := HJ.out
                omega
              have HE2 := Lib.hid hend2
              have hend3 : ¬ (J : Int) < ((bs l).size : Int) := by omega
              go_wp2_with (at_builtin; refine wpList_append_own _ rfl (.tmp 77) (.tmp 79) 23 rfl w.heap.size 2 i0 (.int .i64 0) 1 8 Tryd.underlying23 hi hz0 hz1 hz2 rfl (by decide) _ done.length (done.map (Value.int .i64)) rfl (World.ownsRow.alloc HO.out _) ⟨wr.heap.size, 0, none⟩ 1 1 [.int .i64 x] rfl rfl (cell_one_new _ _ _) (by simp [Value.oneCell']) (by unfold maxLen; omega) (by omega) (by have := HS.out; simp; omega) ?_; intro v5 w5 hown5 hgrow5 _)
              have HN2 : RowKit.Hid (Nums w5 w.heap.size v5 (done ++ [x])) := Nums.snoc hown5
              have HB2 := Lib.hid (below_nums hN.out hB.out rfl hgrow5)
              clear hown5 hgrow5 HO
              go_wp2
              go_roundw
              case rel => exact ⟨J, done ++ [x], [], HE2.out, rfl, by show _ = _; rw [HJ.out, HQE.out], trivial, fun t ht => (by cases ht), by show _ = _; rw [hT.out]; simp, HN2.out, HB2.out⟩
              case measure => have h1 := HJ.out; have h2 := HQ.out; have h3 := HD0.out; simp [RowKit.intOf]; omega
            | (p + 1, y) :: r, hD, hSp, hI, hT, HDD, HQD, HQE =>
              have HQ2 := Lib.hid (show l.drop J = 32 :: tokL ((p, y) :: r) by rw [HJ.out, HQE.out]; simp [tokL, padL, List.replicate_succ])
              obtain ⟨hlt, hb⟩ := bs_at (drop_at0 HQ2.out)
              have hb' : ((bs l)[J]'hlt).toNat = 32 := by rw [hb]; rfl
              have HLT := Lib.hid hlt
              clear hb
              go_wp2_with (at_builtin; refine wpList_append_own _ rfl (.tmp 77) (.tmp 79) 23 rfl w.heap.size 2 i0 (.int .i64 0) 1 8 Tryd.underlying23 hi hz0 hz1 hz2 rfl (by decide) _ done.length (done.map (Value.int .i64)) rfl (World.ownsRow.alloc HO.out _) ⟨wr.heap.size, 0, none⟩ 1 1 [.int .i64 x] rfl rfl (cell_one_new _ _ _) (by simp [Value.oneCell']) (by unfold maxLen; omega) (by omega) (by have := HS.out; simp; omega) ?_; intro v5 w5 hown5 hgrow5 _)
              have HN2 : RowKit.Hid (Nums w5 w.heap.size v5 (done ++ [x])) := Nums.snoc hown5
              have HB2 := Lib.hid (below_nums hN.out hB.out rfl hgrow5)
              clear hown5 hgrow5 HO
              go_wp2
              go_roundw
              case rel => exact ⟨J, done ++ [x], (p + 1, y) :: r, Nat.le_of_lt HLT.out, rfl, by show _ = _; rw [HQ2.out]; simp [tokL, padL, List.replicate_succ], fun t ht => hSp.out t (List.mem_cons_of_mem _ ht), fun t ht => hI.out t (List.mem_cons_of_mem _ ht), by show _ = _; rw [hT.out]; simp, HN2.out, HB2.out⟩
              case measure => have h1 := HJ.out; have h2 := HQ.out; have h3 := HD0.out; have h4 := HLT.out; simp [RowKit.intOf]; omega
            | (0, y) :: r, hD, hSp, hI, hT, HDD, HQD, HQE =>
              exfalso
              have := hSp.out (0, y) List.mem_cons_self
              simp at this
      · have HX := Lib.hid (show 0 ≤ x by omega)
        have HDD := Lib.hid (show l.drop k = ds ++ tokL rest by rw [hD.out]; simp [tokL, padL, numL, hx, hds])
        obtain ⟨q, hq⟩ : ∃ q, q = k := ⟨_, rfl⟩
        have HQ := Lib.hid hq
        have HQD := Lib.hid (show l.drop q = ds ++ tokL rest by rw [hq]; exact HDD.out)
        have hd0 : 0 < ds.length := by rw [hds]; exact dec_ne _
        have HD0 := Lib.hid hd0
        obtain ⟨b0, hb0⟩ : ∃ b, ds[0]? = some b := ⟨_, List.getElem?_eq_getElem hd0⟩
        obtain ⟨-, -, hb1, hb2, hv2⟩ := HW.out 0 b0 hb0
        obtain ⟨hlt, hbq⟩ := bs_at (show l[k]? = some b0 from drop_at (j := 0) HDD.out hb0)
        obtain ⟨B0, hB0⟩ : ∃ B0, B0 = b0.toNat := ⟨_, rfl⟩
        rw [← hB0] at hb1 hb2
        have hbk : ((bs l)[k]'hlt).toNat = B0 := by rw [hbq, hB0]
        have h32 : ((B0 : Int) == 32) = false := by rw [beq_eq_false_iff_ne]; omega
        have hsl : (((bs l).extract k (k + 2)).toList == [194, 175]) = false := by
          rw [ext_two, HDD.out]
          obtain ⟨d', hd'⟩ : ∃ d', ds = b0 :: d' := by
            cases ds with
            | nil => simp at hd0
            | cons c d' => simp at hb0; exact ⟨d', by rw [hb0]⟩
          rw [hd', beq_eq_false_iff_ne]
          intro hh
          simp at hh
          have := hh.1
          rw [this] at hB0
          simp at hB0
          omega
        clear hx hds hd0 hb0 hbq hB0 hv2
        clear hq
        rcases Nat.lt_or_ge (k + 1) (bs l).size with q1 | q1
        · have q2 : (k : Int) + 1 < ((bs l).size : Int) := by omega
          have q3 : (k : Int) + 2 ≤ ((bs l).size : Int) := by omega
          go_wp2_with fail
          go_loop [5, 7] (fun i n => ∃ j : Nat, j ≤ ds.length ∧ i = .int .i64 ((q + j : Nat) : Int) ∧ n = .int .i64 ((valL (ds.take j) : Int))) (fun i _ => (bs l).size - (RowKit.intOf i).toNat)
          case atStart => exact ⟨0, Nat.zero_le _, by rw [HQ.out]; go_num, rfl⟩
          case round =>
            obtain ⟨j, hj, rfl, rfl⟩ := hrel
            by_cases hjl : j < ds.length
            · obtain ⟨b, hb⟩ : ∃ b, ds[j]? = some b := ⟨_, List.getElem?_eq_getElem hjl⟩
              obtain ⟨hv, hv1, hb1, hb2, hv2⟩ := HW.out j b hb
              obtain ⟨hlt, hbb⟩ := bs_at (drop_at HQD.out hb)
              have hx1 := HX64.out
              have hx2 := HX.out
              obtain ⟨V, hV⟩ : ∃ V, V = valL (ds.take j) := ⟨_, rfl⟩
              obtain ⟨V', hV'⟩ : ∃ V', V' = valL (ds.take (j + 1)) := ⟨_, rfl⟩
              rw [← hV] at hv ⊢
              rw [← hV'] at hv hv1
              have HV' := Lib.hid hV'
              obtain ⟨B, hB'⟩ : ∃ B, B = b.toNat := ⟨_, rfl⟩
              rw [← hB'] at hv hb1 hb2
              obtain ⟨J, hJ⟩ : ∃ J, J = q + j := ⟨_, rfl⟩
              have HJ := Lib.hid hJ
              have hlt' : J < (bs l).size := by rw [hJ]; exact hlt
              have hbb2 : ((bs l)[J]'hlt').toNat = B := by
                have : (bs l)[J]'hlt' = b := by rw [← hbb]; congr 1
                rw [this, hB']
              rw [← hJ]
              have hW1 : IntKind.i64.wrap (10 * ((V : Int))) = 10 * ((V : Int)) := wrap_in (by omega) (by omega)
              have hW2 : IntKind.u8.wrap ((B : Int) - 48) = (B : Int) - 48 := wrap_u8 (by omega) (by omega)
              have hW5 : IntKind.i64.wrap ((B : Int) - 48) = (B : Int) - 48 := wrap_in (by omega) (by omega)
              skip
              have hW4 : IntKind.i64.wrap (10 * ((V : Int)) + ((B : Int) - 48)) = (V' : Int) := by
                rw [wrap_in (by omega) (by omega)]
                omega
              have HM := Lib.hid (show j + 1 ≤ ds.length from hjl)
              clear hV hV' hb hbb hB' hv hv1 hv2 hlt hJ hx1 hx2
              go_wp2
              go_round
              case rel => exact ⟨j + 1, HM.out, by rw [HJ.out]; go_num, by rw [← HV'.out]⟩
              case measure => simp [RowKit.intOf]; omega
            · have hje : j = ds.length := by omega
              subst hje
              have HVE : RowKit.Hid ((valL (ds.take ds.length) : Int) = x.natAbs) := by
                show _ = _
                rw [List.take_length, HDS.out, val_dec]
              have HQE := Lib.hid (drop_more HQD.out rfl)
              have HNX := Lib.hid (show (valL (ds.take ds.length) : Int) = x by rw [HVE.out]; have := HX.out; omega)
              rw [HNX.out]
              have hlen : done.length ≤ 1000000 := by
                have h1 : (ts.map Prod.snd).length = (done ++ ((0, x) :: rest).map Prod.snd).length := by rw [hT.out]
                have h2 := tok_len ts
                rw [← HL.out] at h2
                have h3 := HZ.out
                simp only [List.length_map, List.length_append] at h1
                omega
              obtain ⟨i0, hi, hz0, hz1, hz2⟩ := i64Parts
              have HO := Lib.hid (nums_own hN.out rfl)
              have HS : RowKit.Hid (w.heap.size ≤ wr.heap.size) := hB.out.size
              obtain ⟨J, hJ⟩ : ∃ J, J = q + ds.length := ⟨_, rfl⟩
              have HJ := Lib.hid hJ
              rw [← hJ]
              clear hJ hjl hj
              match rest, hD, hSp, hI, hT, HDD, HQD, HQE with
              | [], hD, hSp, hI, hT, HDD, HQD, HQE =>
                have hend : (bs l).size ≤ J := by
                  have := drop_end HQE.out
                  have := HZ.out
                  have := HJ.out
                  omega
                have hend2 : J ≤ (bs l).size := by
                  have h1 : (l.drop q).length = ds.length := by rw [HQD.out]; simp [tokL]
                  rw [List.length_drop] at h1
                  have := HZ.out
                  have := HD0.out
                  have := HJ.out
                  omega
                have HE2 := Lib.hid hend2
                have hend3 : ¬ (J : Int) < ((bs l).size : Int) := by omega
                go_wp2_with (at_builtin; refine wpList_append_own _ rfl (.tmp 77) (.tmp 79) 23 rfl w.heap.size 2 i0 (.int .i64 0) 1 8 Tryd.underlying23 hi hz0 hz1 hz2 rfl (by decide) _ done.length (done.map (Value.int .i64)) rfl (World.ownsRow.alloc HO.out _) ⟨wr.heap.size, 0, none⟩ 1 1 [.int .i64 x] rfl rfl (cell_one_new _ _ _) (by simp [Value.oneCell']) (by unfold maxLen; omega) (by omega) (by have := HS.out; simp; omega) ?_; intro v5 w5 hown5 hgrow5 _)
                have HN2 : RowKit.Hid (Nums w5 w.heap.size v5 (done ++ [x])) := Nums.snoc hown5
                have HB2 := Lib.hid (below_nums hN.out hB.out rfl hgrow5)
                clear hown5 hgrow5 HO
                go_wp2
                go_roundw
                case rel => exact ⟨J, done ++ [x], [], HE2.out, rfl, by show _ = _; rw [HJ.out, HQE.out], trivial, fun t ht => (by cases ht), by show _ = _; rw [hT.out]; simp, HN2.out, HB2.out⟩
                case measure => have h1 := HJ.out; have h2 := HQ.out; have h3 := HD0.out; simp [RowKit.intOf]; omega
              | (p + 1, y) :: r, hD, hSp, hI, hT, HDD, HQD, HQE =>
                have HQ2 := Lib.hid (show l.drop J = 32 :: tokL ((p, y) :: r) by rw [HJ.out, HQE.out]; simp [tokL, padL, List.replicate_succ])
                obtain ⟨hlt, hb⟩ := bs_at (drop_at0 HQ2.out)
                have hb' : ((bs l)[J]'hlt).toNat = 32 := by rw [hb]; rfl
                have HLT := Lib.hid hlt
                clear hb
                go_wp2_with (at_builtin; refine wpList_append_own _ rfl (.tmp 77) (.tmp 79) 23 rfl w.heap.size 2 i0 (.int .i64 0) 1 8 Tryd.underlying23 hi hz0 hz1 hz2 rfl (by decide) _ done.length (done.map (Value.int .i64)) rfl (World.ownsRow.alloc HO.out _) ⟨wr.heap.size, 0, none⟩ 1 1 [.int .i64 x] rfl rfl (cell_one_new _ _ _) (by simp [Value.oneCell']) (by unfold maxLen; omega) (by omega) (by have := HS.out; simp; omega) ?_; intro v5 w5 hown5 hgrow5 _)
                have HN2 : RowKit.Hid (Nums w5 w.heap.size v5 (done ++ [x])) := Nums.snoc hown5
                have HB2 := Lib.hid (below_nums hN.out hB.out rfl hgrow5)
                clear hown5 hgrow5 HO
                go_wp2
                go_roundw
                case rel => exact ⟨J, done ++ [x], (p + 1, y) :: r, Nat.le_of_lt HLT.out, rfl, by show _ = _; rw [HQ2.out]; simp [tokL, padL, List.replicate_succ], fun t ht => hSp.out t (List.mem_cons_of_mem _ ht), fun t ht => hI.out t (List.mem_cons_of_mem _ ht), by show _ = _; rw [hT.out]; simp, HN2.out, HB2.out⟩
                case measure => have h1 := HJ.out; have h2 := HQ.out; have h3 := HD0.out; have h4 := HLT.out; simp [RowKit.intOf]; omega
              | (0, y) :: r, hD, hSp, hI, hT, HDD, HQD, HQE =>
                exfalso
                have := hSp.out (0, y) List.mem_cons_self
                simp at this
        · have q2 : ¬ (k : Int) + 1 < ((bs l).size : Int) := by omega
          go_wp2_with fail
          go_loop [5, 7] (fun i n => ∃ j : Nat, j ≤ ds.length ∧ i = .int .i64 ((q + j : Nat) : Int) ∧ n = .int .i64 ((valL (ds.take j) : Int))) (fun i _ => (bs l).size - (RowKit.intOf i).toNat)
          case atStart => exact ⟨0, Nat.zero_le _, by rw [HQ.out]; go_num, rfl⟩
          case round =>
            obtain ⟨j, hj, rfl, rfl⟩ := hrel
            by_cases hjl : j < ds.length
            · obtain ⟨b, hb⟩ : ∃ b, ds[j]? = some b := ⟨_, List.getElem?_eq_getElem hjl⟩
              obtain ⟨hv, hv1, hb1, hb2, hv2⟩ := HW.out j b hb
              obtain ⟨hlt, hbb⟩ := bs_at (drop_at HQD.out hb)
              have hx1 := HX64.out
              have hx2 := HX.out
              obtain ⟨V, hV⟩ : ∃ V, V = valL (ds.take j) := ⟨_, rfl⟩
              obtain ⟨V', hV'⟩ : ∃ V', V' = valL (ds.take (j + 1)) := ⟨_, rfl⟩
              rw [← hV] at hv ⊢
              rw [← hV'] at hv hv1
              have HV' := Lib.hid hV'
              obtain ⟨B, hB'⟩ : ∃ B, B = b.toNat := ⟨_, rfl⟩
              rw [← hB'] at hv hb1 hb2
              obtain ⟨J, hJ⟩ : ∃ J, J = q + j := ⟨_, rfl⟩
              have HJ := Lib.hid hJ
              have hlt' : J < (bs l).size := by rw [hJ]; exact hlt
              have hbb2 : ((bs l)[J]'hlt').toNat = B := by
                have : (bs l)[J]'hlt' = b := by rw [← hbb]; congr 1
                rw [this, hB']
              rw [← hJ]
              have hW1 : IntKind.i64.wrap (10 * ((V : Int))) = 10 * ((V : Int)) := wrap_in (by omega) (by omega)
              have hW2 : IntKind.u8.wrap ((B : Int) - 48) = (B : Int) - 48 := wrap_u8 (by omega) (by omega)
              have hW5 : IntKind.i64.wrap ((B : Int) - 48) = (B : Int) - 48 := wrap_in (by omega) (by omega)
              skip
              have hW4 : IntKind.i64.wrap (10 * ((V : Int)) + ((B : Int) - 48)) = (V' : Int) := by
                rw [wrap_in (by omega) (by omega)]
                omega
              have HM := Lib.hid (show j + 1 ≤ ds.length from hjl)
              clear hV hV' hb hbb hB' hv hv1 hv2 hlt hJ hx1 hx2
              go_wp2
              go_round
              case rel => exact ⟨j + 1, HM.out, by rw [HJ.out]; go_num, by rw [← HV'.out]⟩
              case measure => simp [RowKit.intOf]; omega
            · have hje : j = ds.length := by omega
              subst hje
              have HVE : RowKit.Hid ((valL (ds.take ds.length) : Int) = x.natAbs) := by
                show _ = _
                rw [List.take_length, HDS.out, val_dec]
              have HQE := Lib.hid (drop_more HQD.out rfl)
              have HNX := Lib.hid (show (valL (ds.take ds.length) : Int) = x by rw [HVE.out]; have := HX.out; omega)
              rw [HNX.out]
              have hlen : done.length ≤ 1000000 := by
                have h1 : (ts.map Prod.snd).length = (done ++ ((0, x) :: rest).map Prod.snd).length := by rw [hT.out]
                have h2 := tok_len ts
                rw [← HL.out] at h2
                have h3 := HZ.out
                simp only [List.length_map, List.length_append] at h1
                omega
              obtain ⟨i0, hi, hz0, hz1, hz2⟩ := i64Parts
              have HO := Lib.hid (nums_own hN.out rfl)
              have HS : RowKit.Hid (w.heap.size ≤ wr.heap.size) := hB.out.size
              obtain ⟨J, hJ⟩ : ∃ J, J = q + ds.length := ⟨_, rfl⟩
              have HJ := Lib.hid hJ
              rw [← hJ]
              clear hJ hjl hj
              match rest, hD, hSp, hI, hT, HDD, HQD, HQE with
              | [], hD, hSp, hI, hT, HDD, HQD, HQE =>
                have hend : (bs l).size ≤ J := by
                  have := drop_end HQE.out
                  have := HZ.out
                  have := HJ.out
                  omega
                have hend2 : J ≤ (bs l).size := by
                  have h1 : (l.drop q).length = ds.length := by rw [HQD.out]; simp [tokL]
                  rw [List.length_drop] at h1
                  have := HZ.out
                  have := HD0.out
                  have := HJ.out
                  omega
                have HE2 := Lib.hid hend2
                have hend3 : ¬ (J : Int) < ((bs l).size : Int) := by omega
                go_wp2_with (at_builtin; refine wpList_append_own _ rfl (.tmp 77) (.tmp 79) 23 rfl w.heap.size 2 i0 (.int .i64 0) 1 8 Tryd.underlying23 hi hz0 hz1 hz2 rfl (by decide) _ done.length (done.map (Value.int .i64)) rfl (World.ownsRow.alloc HO.out _) ⟨wr.heap.size, 0, none⟩ 1 1 [.int .i64 x] rfl rfl (cell_one_new _ _ _) (by simp [Value.oneCell']) (by unfold maxLen; omega) (by omega) (by have := HS.out; simp; omega) ?_; intro v5 w5 hown5 hgrow5 _)
                have HN2 : RowKit.Hid (Nums w5 w.heap.size v5 (done ++ [x])) := Nums.snoc hown5
                have HB2 := Lib.hid (below_nums hN.out hB.out rfl hgrow5)
                clear hown5 hgrow5 HO
                go_wp2
                go_roundw
                case rel => exact ⟨J, done ++ [x], [], HE2.out, rfl, by show _ = _; rw [HJ.out, HQE.out], trivial, fun t ht => (by cases ht), by show _ = _; rw [hT.out]; simp, HN2.out, HB2.out⟩
                case measure => have h1 := HJ.out; have h2 := HQ.out; have h3 := HD0.out; simp [RowKit.intOf]; omega
              | (p + 1, y) :: r, hD, hSp, hI, hT, HDD, HQD, HQE =>
                have HQ2 := Lib.hid (show l.drop J = 32 :: tokL ((p, y) :: r) by rw [HJ.out, HQE.out]; simp [tokL, padL, List.replicate_succ])
                obtain ⟨hlt, hb⟩ := bs_at (drop_at0 HQ2.out)
                have hb' : ((bs l)[J]'hlt).toNat = 32 := by rw [hb]; rfl
                have HLT := Lib.hid hlt
                clear hb
                go_wp2_with (at_builtin; refine wpList_append_own _ rfl (.tmp 77) (.tmp 79) 23 rfl w.heap.size 2 i0 (.int .i64 0) 1 8 Tryd.underlying23 hi hz0 hz1 hz2 rfl (by decide) _ done.length (done.map (Value.int .i64)) rfl (World.ownsRow.alloc HO.out _) ⟨wr.heap.size, 0, none⟩ 1 1 [.int .i64 x] rfl rfl (cell_one_new _ _ _) (by simp [Value.oneCell']) (by unfold maxLen; omega) (by omega) (by have := HS.out; simp; omega) ?_; intro v5 w5 hown5 hgrow5 _)
                have HN2 : RowKit.Hid (Nums w5 w.heap.size v5 (done ++ [x])) := Nums.snoc hown5
                have HB2 := Lib.hid (below_nums hN.out hB.out rfl hgrow5)
                clear hown5 hgrow5 HO
                go_wp2
                go_roundw
                case rel => exact ⟨J, done ++ [x], (p + 1, y) :: r, Nat.le_of_lt HLT.out, rfl, by show _ = _; rw [HQ2.out]; simp [tokL, padL, List.replicate_succ], fun t ht => hSp.out t (List.mem_cons_of_mem _ ht), fun t ht => hI.out t (List.mem_cons_of_mem _ ht), by show _ = _; rw [hT.out]; simp, HN2.out, HB2.out⟩
                case measure => have h1 := HJ.out; have h2 := HQ.out; have h3 := HD0.out; have h4 := HLT.out; simp [RowKit.intOf]; omega
              | (0, y) :: r, hD, hSp, hI, hT, HDD, HQD, HQE =>
                exfalso
                have := hSp.out (0, y) List.mem_cons_self
                simp at this

end Go.Proofs.YtjkofndnhmfnoaaDoor
