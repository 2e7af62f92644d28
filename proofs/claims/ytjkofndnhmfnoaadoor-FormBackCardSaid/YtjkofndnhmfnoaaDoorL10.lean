/-
  The document's row (anamnesisref05): contract: a row of a matrix, with its columns as wide as need be. Of any array that is right.
-/
import Derived.Test.YtjkofndnhmfnoaaDoorL9
import Derived.Test.YtjkofndnhmfnoaaDoorL8
namespace Go.Proofs.YtjkofndnhmfnoaaDoor
open Go Go.RowKit

theorem join_snoc (xs : List (List UInt8)) (y sep : List UInt8) : Lib.join (xs ++ [y]) sep = Lib.join xs sep ++ (if xs = [] then [] else sep) ++ y := by
  cases xs with
  | nil => simp [Lib.join_nil, Lib.join_one]
  | cons x r =>
    rw [List.cons_append, Lib.join_cons, Lib.join_cons, if_neg (by simp)]
    simp [Lib.joinTail]
def rowTo (char : Bool) (data : List Int) (f rows cols r c : Nat) : List UInt8 := Lib.join ((List.range c).map (cellL char data f rows cols r)) (sepL char)
theorem rowTo_succ (char : Bool) (data : List Int) (f rows cols r c : Nat) : rowTo char data f rows cols r (c + 1) = rowTo char data f rows cols r c ++ (if c = 0 then [] else sepL char) ++ cellL char data f rows cols r c := by
  unfold rowTo
  rw [List.range_succ, List.map_append, List.map_singleton, join_snoc]
  congr 2
  cases c with
  | zero => simp
  | succ c => simp [List.range_succ]
theorem rowTo_le {char : Bool} {data : List Int} (h : ∀ x ∈ data, i64 x) (f rows cols r c : Nat) : (rowTo char data f rows cols r c).length ≤ c * 42 := by
  have := join_le ((List.range c).map (cellL char data f rows cols r)) (sepL char) 41 (fun y hy => by
    obtain ⟨k, _, rfl⟩ := List.mem_map.1 hy
    exact cellL_le h f rows cols r k) (sepL_le char)
  rwa [List.length_map, List.length_range] at this
theorem padL_snoc (n : Nat) : padL n ++ [32] = padL (n + 1) := by unfold padL; rw [List.replicate_succ']
theorem wMax_zero (char : Bool) (data : List Int) (f cols c : Nat) : wMax char data f 0 cols c = 0 := rfl
set_option maxRecDepth 100000 in
set_option maxHeartbeats 3200000 in
theorem rrow05_any (char : Bool) (x0 : Value) (B : Option Addr) (m d f rows cols r : Nat) (data : List Int) (D : Nat → Prop) (w : World) (_h0 : x0.oneCell' = true) (hd : Rd w D 1 B m d (intRows .i64 data)) (hi : ∀ x ∈ data, i64 x) (hch : char = true → ∀ x ∈ data, chOk x) (hf : f + rows * cols ≤ m) (hm : m ≤ 1000000) (hrr : r < rows) (hrb : rows ≤ 1000000) (hcb : cols ≤ 1000000) :
    Calls Tryd.prog 44 #[.agg #[.bool char, x0, .slice B m d], .int .i64 (f : Int), .int .i64 (rows : Int), .int .i64 (cols : Int), .int .i64 (r : Int)] w fun e w' => e = .returned (.string (bs (rowL char data f rows cols r))) ∧ Below w.heap.size w w' := by
  have hmen : data.length = m := by have := hd.len; simpa [intRows] using this
  have HM := Lib.hid hmen
  have HI := Lib.hid hi
  have HCH := Lib.hid hch
  have HB := Lib.hid (fun o => (Below.refl w.heap.size w).alloc (Nat.le_refl _) o)
  have HTE := Lib.hid (fun (k : Nat) (x : Int) (hk : data[k]? = some x) w2 (hb : Below w.heap.size w w2) => rtext05_any char x0 B m d k data D w2 x _h0 (hd.below hb) hk (hi x (List.mem_of_getElem? hk)) (fun h => hch h x (List.mem_of_getElem? hk)) hm)
  clear hd hi hch hmen
  go_enter Tryd.func44, Tryd.ntmps44
  go_wp2
  obtain ⟨wa, hwa⟩ : ∃ wa, wa = w.alloc (.cells #[.bool char, x0, .slice B m d] 27) := ⟨_, rfl⟩
  have hba : Below w.heap.size w wa := by rw [hwa]; exact HB.out _
  have hxa : wa.heap[w.heap.size]? = some (.cells #[.bool char, x0, .slice B m d] 27 (0, 0)) := by rw [hwa]; exact heap_alloc_new w _
  rw [← hwa]
  have BA := Lib.hid hba
  have XA := Lib.hid hxa
  clear hwa hba hxa HB
  go_loopw [11, 12] (fun s i wr => ∃ c : Nat, c ≤ cols ∧ i = .int .i64 (c : Int) ∧ s = .string (bs (rowTo char data f rows cols r c)) ∧ RowKit.Hid (Below wa.heap.size wa wr)) (fun _ i _ => cols - (RowKit.intOf i).toNat)
  case atStart => exact ⟨0, Nat.zero_le _, rfl, rfl, Below.refl _ _⟩
  case round =>
    obtain ⟨c, hcc, rfl, rfl, hbw⟩ := hrel
    obtain ⟨wo, hwo⟩ : ∃ wo, wo = wr := ⟨_, rfl⟩
    rw [← hwo] at hbw ⊢
    clear hwo
    by_cases hlc : c < cols
    · have q1 : (c : Int) < (cols : Int) := by omega
      have hpos : rows * cols ≤ 1000000 := by omega
      go_wp2
      go_loopw [13, 14] (fun v i wr => ∃ k : Nat, k ≤ rows ∧ i = .int .i64 (k : Int) ∧ v = .int .i64 (wMax char data f k cols c : Int) ∧ RowKit.Hid (Below wo.heap.size wo wr)) (fun _ i _ => rows - (RowKit.intOf i).toNat)
      case atStart => exact ⟨0, Nat.zero_le _, rfl, rfl, Below.refl _ _⟩
      case round =>
        obtain ⟨k, hkk, rfl, rfl, hbk⟩ := hrel
        have hwl := wMax_le (char := char) HI.out f k cols c
        have HX3 := Lib.hid (agg_fields ((hbk.out.block _ (by have := lt_of_block XA.out; have := hbw.out.size; omega)).trans ((hbw.out.block _ (lt_of_block XA.out)).trans XA.out)))
        have HBk := Lib.hid ((BA.out.trans (hbw.out.mono BA.out.size)).trans (hbk.out.mono (Nat.le_trans BA.out.size hbw.out.size)))
        by_cases hlk : k < rows
        · have q2 : (k : Int) < (rows : Int) := by omega
          obtain ⟨p, hp⟩ : ∃ p, p = k * cols := ⟨_, rfl⟩
          have e1 : (k : Int) * (cols : Int) = (p : Int) := by rw [hp, Int.natCast_mul]
          have hpc : p + cols ≤ rows * cols := by rw [hp, ← Nat.succ_mul]; exact Nat.mul_le_mul_right _ hlk
          obtain ⟨x, hx⟩ : ∃ x, data[f + p + c]? = some x := ⟨_, List.getElem?_eq_getElem (by rw [HM.out]; omega)⟩
          have hxm := List.mem_of_getElem? hx
          have hte := HTE.out (f + p + c) x hx wr HBk.out
          rw [Int.natCast_add, Int.natCast_add] at hte
          have HT := Lib.hid hte
          have HSG := Lib.hid (signs_el (char := char) (x := x) (fun h => HCH.out h x hxm))
          have HSL := Lib.hid (elL_le (char := char) (HI.out x hxm))
          have hvl := wd_le (char := char) (HI.out x hxm)
          have HWS : RowKit.Hid (wMax char data f (k + 1) cols c = max (wMax char data f k cols c) (wd char x)) := by show _ = _; rw [wMax_succ, ← hp, List.getD_eq_getElem?_getD, hx]; rfl
          obtain ⟨W, hW⟩ : ∃ W, W = wMax char data f k cols c := ⟨_, rfl⟩
          obtain ⟨V, hV⟩ : ∃ V, V = wd char x := ⟨_, rfl⟩
          rw [← hW] at hwl HWS ⊢
          rw [← hV] at hvl HWS HSG
          obtain ⟨p0, p1, p2⟩ := HX3.out
          clear hp hx hxm hte hW hV
          go_wp2_with fail
          refine HT.out.mono ?_
          rintro e w3 ⟨rfl, hb3⟩
          have PB := Lib.hid (hbk.out.trans (hb3.mono hbk.out.size))
          clear hb3 HT p0 p1 p2 e1
          go_wp2_with fail
          refine (rSigns05_any _ w3 (by have := HSL.out; omega)).mono ?_
          rintro e w4 ⟨rfl, rfl⟩
          rw [HSG.out]
          by_cases hvw : W < V
          · have qv : (W : Int) < (V : Int) := by omega
            go_wp2
            go_roundw
            case rel => exact ⟨k + 1, by omega, by go_num, by rw [HWS.out, Nat.max_eq_right (by omega)], PB.out⟩
            case measure => simp [RowKit.intOf]; omega
          · have qv : ¬ (W : Int) < (V : Int) := by omega
            go_wp2
            go_roundw
            case rel => exact ⟨k + 1, by omega, by go_num, by rw [HWS.out, Nat.max_eq_left (by omega)], PB.out⟩
            case measure => simp [RowKit.intOf]; omega
        · have hkr : k = rows := by omega
          subst hkr
          have q2 : ¬ (k : Int) < (k : Int) := by omega
          obtain ⟨p, hp⟩ : ∃ p, p = r * cols := ⟨_, rfl⟩
          have e1 : (r : Int) * (cols : Int) = (p : Int) := by rw [hp, Int.natCast_mul]
          have hpc : p + cols ≤ k * cols := by rw [hp, ← Nat.succ_mul]; exact Nat.mul_le_mul_right _ hrr
          obtain ⟨x, hx⟩ : ∃ x, data[f + p + c]? = some x := ⟨_, List.getElem?_eq_getElem (by rw [HM.out]; omega)⟩
          have hxm := List.mem_of_getElem? hx
          have hte := HTE.out (f + p + c) x hx wr HBk.out
          rw [Int.natCast_add, Int.natCast_add] at hte
          have HT := Lib.hid hte
          have HSG := Lib.hid (signs_el (char := char) (x := x) (fun h => HCH.out h x hxm))
          have HSL := Lib.hid (elL_le (char := char) (HI.out x hxm))
          have hvl := wd_le (char := char) (HI.out x hxm)
          have hxd : data.getD (f + r * cols + c) 0 = x := by rw [← hp, List.getD_eq_getElem?_getD, hx]; rfl
          have hge := wMax_ge (char := char) (data := data) (f := f) (cols := cols) (c := c) hrr
          have HCL : RowKit.Hid (cellL char data f k cols r c = padL (wMax char data f k cols c - wd char x) ++ elL char x) := by show _ = _; unfold cellL; rw [hxd]
          rw [hxd] at hge
          obtain ⟨W, hW⟩ : ∃ W, W = wMax char data f k cols c := ⟨_, rfl⟩
          obtain ⟨V, hV⟩ : ∃ V, V = wd char x := ⟨_, rfl⟩
          rw [← hW] at hwl HCL hge ⊢
          rw [← hV] at hvl HCL hge HSG
          obtain ⟨p0, p1, p2⟩ := HX3.out
          have hrl := rowTo_le (char := char) HI.out f k cols r c
          obtain ⟨base, hbase⟩ : ∃ base, base = rowTo char data f k cols r c ++ (if c = 0 then [] else sepL char) := ⟨_, rfl⟩
          have HBS := Lib.hid hbase
          have HBL : RowKit.Hid (base.length ≤ 42000042) := by
            show _ ≤ _
            rw [hbase, List.length_append]
            have := sepL_le char
            split
            · simp; omega
            · omega
          have hzr : (bs (rowTo char data f k cols r c)).size ≤ 42000000 := by rw [bs_size]; omega
          clear hp hx hxm hte hW hV hxd hrl
          go_wp2_with fail
          refine HT.out.mono ?_
          rintro e w3 ⟨rfl, hb3⟩
          have PB := Lib.hid (hbw.out.trans ((hbk.out.trans (hb3.mono hbk.out.size)).mono hbw.out.size))
          have X3 := Lib.hid (agg_fields ((hb3.block _ (by have := lt_of_block XA.out; have := hbw.out.size; have := hbk.out.size; omega)).trans ((hbk.out.block _ (by have := lt_of_block XA.out; have := hbw.out.size; omega)).trans ((hbw.out.block _ (lt_of_block XA.out)).trans XA.out))))
          clear hb3 HT p0 p1 p2 e1 q2
          obtain ⟨p0, p1, p2⟩ := X3.out
          rcases Nat.eq_zero_or_pos c with hc0 | hc0
          · have q3 : ¬ (0 : Int) < (c : Int) := by omega
            have HEB : RowKit.Hid (bs (rowTo char data f k cols r c) = bs base) := by show _ = _; rw [hbase, if_pos hc0, List.append_nil]
            clear hbase hc0
            go_wp2_with fail
            refine (rSigns05_any _ w3 (by have := HSL.out; omega)).mono ?_
            rintro e w4 ⟨rfl, rfl⟩
            rw [HSG.out, HEB.out]
            clear p0 p1 p2
            go_wp2
            go_loop [11, 17] (fun s i => ∃ j : Nat, j ≤ W - V ∧ i = .int .i64 ((V + j : Nat) : Int) ∧ s = .string (bs (base ++ padL j))) (fun _ i => W - (RowKit.intOf i).toNat)
            case atStart => exact ⟨0, Nat.zero_le _, rfl, by rw [show base ++ padL 0 = base by simp [padL]]⟩
            case round =>
              obtain ⟨j, hj, rfl, rfl⟩ := hrel
              have hpj : (bs (base ++ padL j)).size ≤ 42000100 := by rw [bs_size, List.length_append]; have := HBL.out; simp [padL]; omega
              by_cases hlj : V + j < W
              · have q4 : ((V + j : Nat) : Int) < (W : Int) := by omega
                have hc1 : ¬ 9223372036854775807 < (bs (base ++ padL j)).size + 1 := by omega
                have hs1 : (ByteArray.mk #[32]).size = 1 := rfl
                have HPJ : RowKit.Hid (bs (base ++ padL j) ++ bs [32] = bs (base ++ padL (j + 1))) := by show _ = _; rw [bs_app, List.append_assoc, padL_snoc]
                go_wp2
                go_round
                case rel => exact ⟨j + 1, by omega, by go_num, congrArg Value.string HPJ.out⟩
                case measure => simp [RowKit.intOf]; omega
              · have hje : j = W - V := by omega
                subst hje
                have q4 : ¬ ((V + (W - V) : Nat) : Int) < (W : Int) := by omega
                have hes : (bs (elL char x)).size ≤ 21 := by rw [bs_size]; exact HSL.out
                have hc1 : ¬ 9223372036854775807 < (bs (base ++ padL (W - V))).size + (bs (elL char x)).size := by omega
                have HFN : RowKit.Hid (bs (base ++ padL (W - V)) ++ bs (elL char x) = bs (rowTo char data f k cols r (c + 1))) := by show _ = _; rw [bs_app, rowTo_succ, HCL.out, HBS.out, List.append_assoc]
                go_wp2
                go_roundw
                case rel => exact ⟨c + 1, by omega, by go_num, congrArg Value.string HFN.out, PB.out⟩
                case measure => simp [RowKit.intOf]; omega
          · have q3 : (0 : Int) < (c : Int) := by omega
            cases char with
            | true =>
              have HEB : RowKit.Hid (bs (rowTo true data f k cols r c) = bs base) := by show _ = _; rw [hbase, if_neg (by omega)]; simp [sepL]
              clear hbase hc0
              go_wp2_with fail
              refine (rSigns05_any _ w3 (by have := HSL.out; omega)).mono ?_
              rintro e w4 ⟨rfl, rfl⟩
              rw [HSG.out, HEB.out]
              clear p0 p1 p2
              go_wp2
              go_loop [11, 17] (fun s i => ∃ j : Nat, j ≤ W - V ∧ i = .int .i64 ((V + j : Nat) : Int) ∧ s = .string (bs (base ++ padL j))) (fun _ i => W - (RowKit.intOf i).toNat)
              case atStart => exact ⟨0, Nat.zero_le _, rfl, by rw [show base ++ padL 0 = base by simp [padL]]⟩
              case round =>
                obtain ⟨j, hj, rfl, rfl⟩ := hrel
                have hpj : (bs (base ++ padL j)).size ≤ 42000100 := by rw [bs_size, List.length_append]; have := HBL.out; simp [padL]; omega
                by_cases hlj : V + j < W
                · have q4 : ((V + j : Nat) : Int) < (W : Int) := by omega
                  have hc1 : ¬ 9223372036854775807 < (bs (base ++ padL j)).size + 1 := by omega
                  have hs1 : (ByteArray.mk #[32]).size = 1 := rfl
                  have HPJ : RowKit.Hid (bs (base ++ padL j) ++ bs [32] = bs (base ++ padL (j + 1))) := by show _ = _; rw [bs_app, List.append_assoc, padL_snoc]
                  go_wp2
                  go_round
                  case rel => exact ⟨j + 1, by omega, by go_num, congrArg Value.string HPJ.out⟩
                  case measure => simp [RowKit.intOf]; omega
                · have hje : j = W - V := by omega
                  subst hje
                  have q4 : ¬ ((V + (W - V) : Nat) : Int) < (W : Int) := by omega
                  have hes : (bs (elL true x)).size ≤ 21 := by rw [bs_size]; exact HSL.out
                  have hc1 : ¬ 9223372036854775807 < (bs (base ++ padL (W - V))).size + (bs (elL true x)).size := by omega
                  have HFN : RowKit.Hid (bs (base ++ padL (W - V)) ++ bs (elL true x) = bs (rowTo true data f k cols r (c + 1))) := by show _ = _; rw [bs_app, rowTo_succ, HCL.out, HBS.out, List.append_assoc]
                  go_wp2
                  go_roundw
                  case rel => exact ⟨c + 1, by omega, by go_num, congrArg Value.string HFN.out, PB.out⟩
                  case measure => simp [RowKit.intOf]; omega
            | false =>
              have HEB : RowKit.Hid (bs (rowTo false data f k cols r c) ++ bs [32] = bs base) := by show _ = _; rw [hbase, if_neg (by omega), bs_app]; rfl
              have hc2 : ¬ 9223372036854775807 < (bs (rowTo false data f k cols r c)).size + 1 := by omega
              have hs1 : (ByteArray.mk #[32]).size = 1 := rfl
              clear hbase hc0
              go_wp2_with fail
              refine (rSigns05_any _ w3 (by have := HSL.out; omega)).mono ?_
              rintro e w4 ⟨rfl, rfl⟩
              rw [HSG.out, show bs (rowTo false data f k cols r c) ++ ByteArray.mk #[32] = bs base from HEB.out]
              clear p0 p1 p2 hs1
              go_wp2
              go_loop [11, 17] (fun s i => ∃ j : Nat, j ≤ W - V ∧ i = .int .i64 ((V + j : Nat) : Int) ∧ s = .string (bs (base ++ padL j))) (fun _ i => W - (RowKit.intOf i).toNat)
              case atStart => exact ⟨0, Nat.zero_le _, rfl, by rw [show base ++ padL 0 = base by simp [padL]]⟩
              case round =>
                obtain ⟨j, hj, rfl, rfl⟩ := hrel
                have hpj : (bs (base ++ padL j)).size ≤ 42000100 := by rw [bs_size, List.length_append]; have := HBL.out; simp [padL]; omega
                by_cases hlj : V + j < W
                · have q4 : ((V + j : Nat) : Int) < (W : Int) := by omega
                  have hc1 : ¬ 9223372036854775807 < (bs (base ++ padL j)).size + 1 := by omega
                  have hs1 : (ByteArray.mk #[32]).size = 1 := rfl
                  have HPJ : RowKit.Hid (bs (base ++ padL j) ++ bs [32] = bs (base ++ padL (j + 1))) := by show _ = _; rw [bs_app, List.append_assoc, padL_snoc]
                  go_wp2
                  go_round
                  case rel => exact ⟨j + 1, by omega, by go_num, congrArg Value.string HPJ.out⟩
                  case measure => simp [RowKit.intOf]; omega
                · have hje : j = W - V := by omega
                  subst hje
                  have q4 : ¬ ((V + (W - V) : Nat) : Int) < (W : Int) := by omega
                  have hes : (bs (elL false x)).size ≤ 21 := by rw [bs_size]; exact HSL.out
                  have hc1 : ¬ 9223372036854775807 < (bs (base ++ padL (W - V))).size + (bs (elL false x)).size := by omega
                  have HFN : RowKit.Hid (bs (base ++ padL (W - V)) ++ bs (elL false x) = bs (rowTo false data f k cols r (c + 1))) := by show _ = _; rw [bs_app, rowTo_succ, HCL.out, HBS.out, List.append_assoc]
                  go_wp2
                  go_roundw
                  case rel => exact ⟨c + 1, by omega, by go_num, congrArg Value.string HFN.out, PB.out⟩
                  case measure => simp [RowKit.intOf]; omega
    · have hce : c = cols := by omega
      subst hce
      have PB := Lib.hid (BA.out.trans (hbw.out.mono BA.out.size))
      go_wp2
      go_ret
      exact ⟨rfl, PB.out⟩
end Go.Proofs.YtjkofndnhmfnoaaDoor
