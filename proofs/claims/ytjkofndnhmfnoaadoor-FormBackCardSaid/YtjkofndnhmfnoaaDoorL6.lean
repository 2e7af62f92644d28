/-
  layout.matrix (layer 05): contract: the lines of a matrix, in a slice that the call makes. Of any array that is right.
-/
import Derived.Test.YtjkofndnhmfnoaaDoorL5
import Derived.Deep.RegionLaw
import Derived.Deep.RegionHeld3
import Derived.Deep.OwnRows
import Derived.Laws.MakeOwn
import Derived.IntWalk
namespace Go.Proofs.YtjkofndnhmfnoaaDoor
open Go Go.RowKit

theorem intInfo : (Tryd.prog.info? 3).map (fun i => (i.zero, i.size, i.bytes)) = some (some (.int .i64 0), 1, 8) := by kernel_rfl
/-- A slice of zeros that is made. -/
theorem make_ints (n : Nat) (h : n ≤ 1000000) (w : World) : (Instr.makeSlice 25 (.int .i64 (n : Int)) (.int .i64 (n : Int))).run Tryd.prog w = .ok (.slice (some ⟨w.heap.size, 0, none⟩) n n) (w.alloc (.cells (madeCells #[.int .i64 0] n) 3)) := by
  have h1 := intInfo
  cases hi : Tryd.prog.info? 3 with
  | none => rw [hi] at h1; cases h1
  | some i =>
    rw [hi] at h1
    simp only [Option.map_some, Option.some.injEq, Prod.mk.injEq] at h1
    have := run_make (P := Tryd.prog) w 25 3 i (.int .i64 0) Tryd.underlying25 hi h1.1 .i64 .i64 (n : Int) (n : Int) (by omega) (Int.le_refl _) (by rw [h1.2.2]; omega) (by omega)
    simpa [h1.2.1, Value.cells] using this
theorem repeat_pad (n : Nat) : Lib.repeatL [32] n = padL n := by
  induction n with
  | zero => rfl
  | succ n ih => show [32] ++ Lib.repeatL [32] n = _; rw [ih]; rfl
theorem elL_le {char : Bool} {x : Int} (h : i64 x) : (elL char x).length ≤ 21 := by
  unfold elL
  cases char with
  | true => rw [if_pos rfl]; have := encode_size_le x; have e : (Utf8.encode x).data.toList.length = (Utf8.encode x).size := by rw [Array.length_toList]; rfl
            omega
  | false =>
    rw [if_neg (by decide)]
    unfold numL
    have := dec_len x.natAbs (by have := h.1; have := h.2; omega)
    split
    · simp; omega
    · omega
theorem cellL_le {char : Bool} {data : List Int} (h : ∀ x ∈ data, i64 x) (f rows cols r c : Nat) : (cellL char data f rows cols r c).length ≤ 41 := by
  unfold cellL
  have h1 := wMax_le (char := char) h f rows cols c
  have h2 := elL_le (char := char) (getD_mem (k := f + r * cols + c) _ h i64_zero)
  rw [List.length_append]
  have h3 : (padL (wMax char data f rows cols c - wd char (data.getD (f + r * cols + c) 0))).length ≤ 20 := by unfold padL; rw [List.length_replicate]; omega
  omega
theorem join_le (xs : List (List UInt8)) (sep : List UInt8) (b : Nat) (h : ∀ x ∈ xs, x.length ≤ b) (hs : sep.length ≤ 1) : (Lib.join xs sep).length ≤ xs.length * (b + 1) := by
  cases xs with
  | nil => simp [Lib.join_nil]
  | cons x r =>
    rw [Lib.join_cons, List.length_append, Lib.joinTail_length]
    have h1 := h x List.mem_cons_self
    have h2 : ∀ r : List (List UInt8), (∀ x ∈ r, x.length ≤ b) → sep.length * r.length + Lib.lens r ≤ r.length * (b + 1) := by
      intro r
      induction r with
      | nil => intro _; simp [Lib.lens]
      | cons y r ih =>
        intro h
        have := ih (fun z hz => h z (List.mem_cons_of_mem _ hz))
        have hy := h y List.mem_cons_self
        simp only [Lib.lens, List.map_cons, List.sum_cons, List.length_cons] at this ⊢
        rw [Nat.mul_add, Nat.add_mul]
        omega
    have := h2 r (fun z hz => h z (List.mem_cons_of_mem _ hz))
    rw [List.length_cons, Nat.add_mul]
    omega
theorem sepL_le (char : Bool) : (sepL char).length ≤ 1 := by cases char <;> decide
theorem matL_take {char : Bool} {data : List Int} {f rows cols r : Nat} (h : r < rows) : (matL char data f rows cols).take (r + 1) = (matL char data f rows cols).take r ++ [rowL char data f rows cols r] := by
  rw [List.take_add_one]
  congr 1
  unfold matL
  rw [List.getElem?_map, List.getElem?_range h]
  rfl
theorem matL_len (char : Bool) (data : List Int) (f rows cols : Nat) : (matL char data f rows cols).length = rows := by simp [matL]
/-- What is kept between two rows. -/
structure MRel (w3 wr : World) (bl bw cap rows cols : Nat) (char : Bool) (data : List Int) (f r : Nat) (v : Value) : Prop where
  txs : Txs wr w3.heap.size v ((matL char data f rows cols).take r)
  row : ∃ g, wr.rowIs bl 9 cap g ∧ ∀ j, r * cols ≤ j → j < rows * cols → g j = .string (bs (elL char (data.getD (f + j) 0)))
  wds : wr.rowIs bw 3 cols (fun c => .int .i64 (wMax char data f rows cols c))
  chg : Chg (fun b => b = bl) w3 wr
/-- What is kept between two cells of a row. -/
structure IRel (w4 wx : World) (bl cap rows cols : Nat) (char : Bool) (data : List Int) (f r c : Nat) : Prop where
  row : ∃ g, wx.rowIs bl 9 cap g ∧ (∀ k, k < c → g (r * cols + k) = .string (bs (cellL char data f rows cols r k))) ∧ ∀ j, r * cols + c ≤ j → j < rows * cols → g j = .string (bs (elL char (data.getD (f + j) 0)))
  chg : Chg (fun b => b = bl) w4 wx
theorem Txs.chg {w w' : World} {S : Nat → Prop} {base : Nat} {v : Value} {l : List (List UInt8)} (h : Txs w base v l) (hc : Chg S w w') (hS : ∀ b, base ≤ b → ¬ S b) : Txs w' base v l := by
  refine ⟨h.1, h.2.imp id ?_⟩
  rintro ⟨g, cap, cur, rfl, h1, h2, h3⟩
  exact ⟨g, cap, cur, rfl, h1, (hc.block g (lt_of_block h2) (hS g h1)).trans h2, h3⟩
theorem Txs.eq {w : World} {base base' : Nat} {v : Value} {l l' : List (List UInt8)} (h : Txs w base v l) (e : l = l') (hb : base' ≤ base) : Txs w base' v l' := by subst e; exact h.mono hb
theorem rowIs_cur {w : World} {b n : Nat} {t : TypeId} {cur : Array Value} (h : w.heap[b]? = some (.cells cur t (0, 0))) (hs : cur.size = n) : w.rowIs b t n (fun j => cur.getD j undef) :=
  ⟨cur, h, hs, fun j hj => by
    have hj' : j < cur.size := by omega
    simp [hj']⟩
theorem chg_grow9 {w w' : World} {o : Obj} {row : Option Nat} (h : (w.alloc o).grownBy w' row) : Chg (fun b => some b = row) w w' :=
  ((Chg.refl _ w).alloc o).trans ⟨h.os, h.tape, h.output, h.size, fun k hk hn => h.block k hk hn⟩
theorem cellChg {S : Nat → Prop} {a b : World} (h : Chg S a b) {p : Addr} {u : Value} (hc : a.cell? p = some u) (hn : ¬ S p.block) : b.cell? p = some u := h.cell hc hn
theorem rowIs_below {w w' : World} {b : Nat} {t : TypeId} {n : Nat} {g : Nat → Value} (h : w.rowIs b t n g) (hb : Below w.heap.size w w') : w'.rowIs b t n g := h.of_block (hb.block b h.lt)

set_option maxRecDepth 100000 in
set_option maxHeartbeats 3200000 in
theorem matrix05_any (char : Bool) (x0 : Value) (B : Option Addr) (m d f rows cols : Nat) (data : List Int) (D : Nat → Prop) (w : World) (_h0 : x0.oneCell' = true) (hd : Rd w D 1 B m d (intRows .i64 data)) (hi : ∀ x ∈ data, i64 x) (hch : char = true → ∀ x ∈ data, chOk x) (hf : f + rows * cols ≤ m) (hm : m ≤ 1000000) (hr : rows ≤ 1000000) (hc : cols ≤ 1000000) (ht : Tab w) :
    Calls Tryd.prog 40 #[.agg #[.bool char, x0, .slice B m d], .int .i64 (f : Int), .int .i64 (rows : Int), .int .i64 (cols : Int)] w fun e w' => ∃ v, e = .returned v ∧ Txs w' w.heap.size v (matL char data f rows cols) ∧ Below w.heap.size w w' := by
  have hrc : rows * cols ≤ 1000000 := by omega
  have hp0 : (0 : Int) ≤ (rows : Int) * (cols : Int) := by have : ((rows * cols : Nat) : Int) = (rows : Int) * (cols : Int) := Int.natCast_mul _ _; omega
  have hp1 : (rows : Int) * (cols : Int) ≤ 1000000 := by have : ((rows * cols : Nat) : Int) = (rows : Int) * (cols : Int) := Int.natCast_mul _ _; omega
  have hmen : data.length = m := by have := hd.len; simpa [intRows] using this
  have HM := Lib.hid hmen
  have HT := Lib.hid ht
  have HI := Lib.hid hi
  have HCH := Lib.hid hch
  have HB := Lib.hid (fun o => (Below.refl w.heap.size w).alloc (Nat.le_refl _) o)
  have HTX := Lib.hid (fun w2 (hb : Below w.heap.size w w2) => texts05_any char x0 B m d f (rows * cols) data D w2 _h0 (hd.below hb) hi hch hf hm (ht.below hb))
  clear hd hi hch ht hmen
  obtain ⟨i0, hi, hz0, hz1, hz2⟩ := strParts
  go_enter Tryd.func40, Tryd.ntmps40
  go_wp2_with fail
  obtain ⟨wa, hwa⟩ : ∃ wa, wa = w.alloc (.cells #[.bool char, x0, .slice B m d] 27) := ⟨_, rfl⟩
  have hba : Below w.heap.size w wa := by rw [hwa]; exact HB.out _
  have hxa : wa.heap[w.heap.size]? = some (.cells #[.bool char, x0, .slice B m d] 27 (0, 0)) := by rw [hwa]; exact heap_alloc_new w _
  rw [← hwa]
  have BA := Lib.hid hba
  have XA := Lib.hid hxa
  clear hwa hba hxa HB
  have HTA := HTX.out wa BA.out
  rw [Int.natCast_mul] at HTA
  have HTB := Lib.hid HTA
  clear HTA
  refine HTB.out.mono ?_
  rintro e w1 ⟨v1, rfl, htx, hb1⟩
  have TX1 := Lib.hid htx
  have B1 := Lib.hid hb1
  clear htx hb1 HTX HTB
  rcases Nat.eq_zero_or_pos (rows * cols) with hz | hpos
  · obtain ⟨A1, c1, hv1⟩ : ∃ A c, v1 = .slice A 0 c := by
      obtain ⟨A, c, e, _⟩ := TX1.out.rd
      have hl : (elsL char data f (rows * cols)).length = 0 := by rw [hz]; simp [elsL]
      rw [hl] at e
      exact ⟨A, c, e⟩
    subst hv1
    have hcapi : c1 ≤ 9223372036854775807 := by
      rcases TX1.out.2 with ⟨h, _⟩ | ⟨g, cap, cur, h, _, _, _, h5, _⟩
      · injection h with h1 h2 h3; omega
      · injection h with h1 h2 h3; unfold maxLen at h5; omega
    rcases Nat.eq_zero_or_pos c1 with hc1 | hc1
    all_goals
      first | subst hc1 | (replace hc1 : ¬ c1 = 0 := by omega)
      have hmk := make_ints cols hc
      have hpz : (rows : Int) * (cols : Int) = 0 := by rw [← Int.natCast_mul, hz]; rfl
      have HB2 := Lib.hid ((Below.refl _ w1).alloc (Nat.le_refl _) (.cells (madeCells #[.int .i64 0] cols) 3))
      clear hp0 hp1
      go_wp2
      go_loop [28] (fun i => i = .int .i64 0) (fun _ => 0)
      case atStart => exact rfl
      case round =>
        obtain rfl := hrel
        clear hmk
        obtain ⟨w2, hw2⟩ : ∃ w2, w2 = w1.alloc (.cells (madeCells #[.int .i64 0] cols) 3) := ⟨_, rfl⟩
        rw [← hw2] at HB2 ⊢
        clear hw2
        go_wp2
        go_loopw [13, 49] (fun v i wr => ∃ r : Nat, r ≤ rows ∧ i = .int .i64 (r : Int) ∧ RowKit.Hid (Txs wr w1.heap.size v ((matL char data f rows cols).take r)) ∧ RowKit.Hid (Below w1.heap.size w1 wr)) (fun _ i _ => rows - (RowKit.intOf i).toNat)
        case atStart => exact ⟨0, Nat.zero_le _, rfl, by rw [List.take_zero]; exact Txs.nil _ _, HB2.out⟩
        case round =>
          obtain ⟨r, hrr, rfl, htx, hbw⟩ := hrel
          by_cases hlr : r < rows
          · have q2 : (r : Int) < (rows : Int) := by omega
            have hcz : cols = 0 := by
              rcases Nat.eq_zero_or_pos cols with h | h
              · exact h
              · have := Nat.mul_pos (Nat.lt_of_le_of_lt (Nat.zero_le r) hlr) h; omega
            have HCZ := Lib.hid hcz
            have e1 : (r : Int) * (cols : Int) = 0 := by rw [hcz]; simp
            have e2 : ((r : Int) + 1) * (cols : Int) = 0 := by rw [hcz]; simp
            clear hcz
            have hxb : wr.heap[w.heap.size]? = some (.cells #[.bool char, x0, .slice B m d] 27 (0, 0)) := by
              have h1 := (B1.out.block _ (lt_of_block XA.out)).trans XA.out
              exact (hbw.out.block _ (lt_of_block h1)).trans h1
            have p0 : wr.cell? ⟨w.heap.size, 0, none⟩ = some (.bool char) := by rw [cell_of_row wr _ 0 _ _ _ hxb]; rfl
            have p1 : wr.cell? ⟨w.heap.size, 1, none⟩ = some x0 := by rw [cell_of_row wr _ 1 _ _ _ hxb]; rfl
            have p2 : wr.cell? ⟨w.heap.size, 2, none⟩ = some (.slice B m d) := by rw [cell_of_row wr _ 2 _ _ _ hxb]; rfl
            have HLT : RowKit.Hid (((matL char data f rows cols).take r).length = r) := by show _ = _; rw [List.length_take, matL_len]; omega
            have HRW : RowKit.Hid (bs (rowL char data f rows cols r) = ⟨#[]⟩) := by show _ = _; rw [HCZ.out]; rfl
            clear hxb hz hpz
            go_wp2
            go_loop [63] (fun i => i = .int .i64 0) (fun _ => 0)
            case atStart => exact rfl
            case round =>
              obtain rfl := hrel
              go_wp2_with fail
              refine (between05_any char x0 (.slice B m d) _h0 rfl wr).mono ?_
              rintro e w7 ⟨rfl, hb7⟩
              go_wp2_with fail
              refine (Tryd.strings_Join_none _ _ (bs (sepL char)) w7).mono ?_
              rintro e w8 ⟨rfl, rfl⟩
              rw [← HRW.out]
              have HB8 := Lib.hid hb7
              have HO8 := Lib.hid (htx.out.below HB8.out)
              have HO := Lib.hid (txs_own HO8.out HLT.out)
              have HS : RowKit.Hid (w1.heap.size ≤ w8.heap.size) := Nat.le_trans hbw.out.size HB8.out.size
              clear hb7 p0 p1 p2
              go_wp2_with (at_builtin; refine wpList_append_own _ rfl (.tmp 82) (.tmp 87) 28 rfl w1.heap.size 9 i0 (.string ⟨#[]⟩) 1 16 Tryd.underlying28 hi hz0 hz1 hz2 rfl (by decide) _ r (txVals ((matL char data f rows cols).take r)) rfl (World.ownsRow.alloc HO.out _) ⟨w8.heap.size, 0, none⟩ 1 1 [.string (bs (rowL char data f rows cols r))] rfl rfl (cell_one_new _ _ _) (by simp [Value.oneCell']) (by unfold maxLen; omega) (by omega) (by have := HS.out; simp; omega) ?_; intro v9 w9 hown9 hgrow9 _)
              have PT : RowKit.Hid (Txs w9 w1.heap.size v9 ((matL char data f rows cols).take (r + 1))) := by
                show Txs _ _ _ _
                rw [matL_take hlr]
                refine Txs.snoc ?_
                rw [HLT.out]
                exact hown9
              have PB := Lib.hid (below_txs HO8.out (hbw.out.trans (HB8.out.mono hbw.out.size)) rfl hgrow9)
              clear hown9 hgrow9
              go_wp2
              go_roundw
              case rel => exact ⟨r + 1, by omega, by go_num, PT.out, PB.out⟩
              case measure => simp [RowKit.intOf]; omega
          · have hrq : r = rows := by omega
            subst hrq
            have HE : RowKit.Hid ((matL char data f r cols).take r = matL char data f r cols) := List.take_of_length_le (by rw [matL_len]; exact Nat.le_refl _)
            have PT := Lib.hid (htx.out.eq HE.out (Nat.le_trans BA.out.size B1.out.size))
            have PB := Lib.hid ((BA.out.trans (B1.out.mono BA.out.size)).trans (hbw.out.mono (Nat.le_trans BA.out.size B1.out.size)))
            clear hz hpz
            go_wp2
            go_ret
            exact ⟨_, rfl, PT.out, PB.out⟩
  have hcp : 0 < cols := Nat.pos_of_ne_zero fun e => by rw [e, Nat.mul_zero] at hpos; omega
  have hrp : 0 < rows := Nat.pos_of_ne_zero fun e => by rw [e, Nat.zero_mul] at hpos; omega
  obtain ⟨bl, cap, cur, hv1, hbl, hcur, hcap1, hcap2, hcs, htk⟩ : ∃ g cap cur, v1 = .slice (some ⟨g, 0, none⟩) (rows * cols) cap ∧ wa.heap.size ≤ g ∧ w1.heap[g]? = some (.cells cur 9 (0, 0)) ∧ rows * cols ≤ cap ∧ cap ≤ maxLen ∧ cur.size = cap ∧ cur.toList.take (rows * cols) = txVals (elsL char data f (rows * cols)) := by
    have hl : (elsL char data f (rows * cols)).length = rows * cols := elsL_len (by rw [HM.out]; exact hf)
    have h := TX1.out
    unfold Txs at h
    rw [hl] at h
    rcases h.2 with ⟨_, h0⟩ | ⟨g, cap, cur, h1, h2, h3, h4, h5, h6, h7⟩
    · omega
    · exact ⟨g, cap, cur, h1, h2, h3, h4, h5, by omega, by simpa using h7⟩
  subst hv1
  have HRO := Lib.hid (rowIs_cur hcur hcs)
  have HEL : RowKit.Hid (∀ j x, j < rows * cols → data[f + j]? = some x → cur.getD j undef = .string (bs (elL char x))) := fun j x hj hx => by
    have h1 : (cur.toList.take (rows * cols))[j]? = some (.string (bs (elL char x))) := by
      rw [htk]
      unfold txVals elsL
      rw [List.getElem?_map, List.getElem?_map, List.getElem?_take, if_pos hj, List.getElem?_drop, hx]
      rfl
    rw [List.getElem?_take, if_pos hj, Array.getElem?_toList] at h1
    rw [Array.getD_eq_getD_getElem?, h1]
    rfl
  have hmk := make_ints cols hc
  have hcapi : cap ≤ 9223372036854775807 := by unfold maxLen at hcap2; omega
  go_wp2
  obtain ⟨bw, hbw⟩ : ∃ bw, bw = w1.heap.size := ⟨_, rfl⟩
  obtain ⟨w2, hw2⟩ : ∃ w2, w2 = w1.alloc (.cells (madeCells #[.int .i64 0] cols) 3) := ⟨_, rfl⟩
  have hr2 : w2.rowIs bw 3 cols (fun c => .int .i64 (wAt char data f cols 0 c)) := by
    rw [hw2, hbw]
    exact World.rowIs_made w1 (.int .i64 0) cols 3
  have hb2 : Below w1.heap.size w1 w2 := by rw [hw2]; exact (Below.refl _ w1).alloc (Nat.le_refl _) _
  rw [← hbw, ← hw2]
  have R2 := Lib.hid hr2
  have B2 := Lib.hid hb2
  have HBW : RowKit.Hid (w1.heap.size ≤ bw) := by show _ ≤ _; omega
  have HLB : RowKit.Hid (bl < w1.heap.size) := HRO.out.lt
  clear hr2 hb2 hw2 hmk hbw hcur htk
  go_loopw [28] (fun i wr => ∃ k : Nat, k ≤ rows * cols ∧ i = .int .i64 (k : Int) ∧ RowKit.Hid (wr.rowIs bw 3 cols (fun c => .int .i64 (wAt char data f cols k c))) ∧ RowKit.Hid (Below w1.heap.size w1 wr)) (fun i _ => rows * cols - (RowKit.intOf i).toNat)
  case atStart => exact ⟨0, Nat.zero_le _, rfl, R2.out, B2.out⟩
  case round =>
    obtain ⟨k, hk, rfl, hro, hbe⟩ := hrel
    by_cases hlt : k < rows * cols
    · have q1 : (k : Int) < (rows : Int) * (cols : Int) := by have : ((rows * cols : Nat) : Int) = (rows : Int) * (cols : Int) := Int.natCast_mul _ _; omega
      obtain ⟨x, hxk⟩ : ∃ x, data[f + k]? = some x := ⟨_, List.getElem?_eq_getElem (by rw [HM.out]; omega)⟩
      have hcell := below_cell hbe.out (HRO.out.cell (i := k) (by omega))
      rw [HEL.out k x hlt hxk] at hcell
      have hxm := List.mem_of_getElem? hxk
      have HXD : RowKit.Hid (data.getD (f + k) 0 = x) := by show _ = _; rw [List.getD_eq_getElem?_getD, hxk]; rfl
      have HWD := Lib.hid (rc_el (char := char) (x := x) (fun h => HCH.out h x hxm))
      obtain ⟨j, hj⟩ : ∃ j, j = k % cols := ⟨_, rfl⟩
      have hjc : j < cols := by rw [hj]; exact Nat.mod_lt _ hcp
      have hjc' : (j : Int) < (cols : Int) := by omega
      have hmod : Int.tmod (k : Int) (cols : Int) = (j : Int) := by rw [hj]; rfl
      have hc0 : ¬ cols = 0 := by omega
      have hwj := hro.out.cell (i := j) hjc
      have hfz := hro.out.frozen j
      have hsz : (bs (elL char x)).size < 9223372036854775807 := by rw [bs_size]; have := elL_le (char := char) (HI.out x hxm); omega
      clear hxk hxm
      obtain ⟨W, hW⟩ : ∃ W, W = wAt char data f cols k j := ⟨_, rfl⟩
      obtain ⟨V, hV⟩ : ∃ V, V = wd char x := ⟨_, rfl⟩
      rw [← hW] at hwj
      rw [← hV] at HWD
      have HW := Lib.hid hW
      have HV := Lib.hid hV
      have HJ := Lib.hid hj
      clear hW hV hj
      go_upto_region 6 with fail
      go_region_law (go_simp; go_at_call 70; refine (wide05_any _ _ hsz).mono ?_; rintro e w4 ⟨rfl, hb4⟩; rw [HWD.out]; have hw4 := below_cell hb4 hwj; have hf4 := (hb4.frozen (p := ⟨bw, j, none⟩) hro.out.lt).trans hfz)
      all_goals
        have PR : RowKit.Hid ((w4.setCell ⟨bw, j, none⟩ (.int .i64 (max (W : Int) (V : Int)))).rowIs bw 3 cols (fun c => .int .i64 (wAt char data f cols (k + 1) c))) := by
          refine ((rowIs_below hro.out ((below_drewN (Below.refl wr.heap.size wr) 1).trans hb4)).set j _).congr fun c hcc => ?_
          by_cases e : c = j
          · subst e
            rw [if_pos rfl, wAt, if_pos HJ.out.symm, HXD.out, ← HW.out, ← HV.out]
            simp only [Value.int.injEq, true_and]
            omega
          · rw [if_neg e, wAt, if_neg (fun h => e (by rw [HJ.out, h]))]
        have PB : RowKit.Hid (Below w1.heap.size w1 (w4.setCell ⟨bw, j, none⟩ (.int .i64 (max (W : Int) (V : Int))))) := (hbe.out.trans (((below_drewN (Below.refl wr.heap.size wr) 1).trans hb4).mono hbe.out.size)).setCell HBW.out _
        clear hb4 hw4 hf4 hwj hfz hcell hmod
        go_wp2
        go_roundw
        case rel => exact ⟨k + 1, by omega, by go_num, PR.out, PB.out⟩
        case measure => simp [RowKit.intOf]; omega
    · have hkn : k = rows * cols := by omega
      subst hkn
      have q1 : ¬ ((rows * cols : Nat) : Int) < (rows : Int) * (cols : Int) := by have : ((rows * cols : Nat) : Int) = (rows : Int) * (cols : Int) := Int.natCast_mul _ _; omega
      obtain ⟨w3, hw3⟩ : ∃ w3, w3 = wr := ⟨_, rfl⟩
      have M0 : RowKit.Hid (MRel w3 w3 bl bw cap rows cols char data f 0 (.slice none 0 0)) := by
        rw [hw3]
        exact {
          txs := by rw [List.take_zero]; exact Txs.nil _ _
          row := ⟨_, rowIs_below HRO.out hbe.out, fun j _ hj => by
            obtain ⟨x, hx⟩ : ∃ x, data[f + j]? = some x := ⟨_, List.getElem?_eq_getElem (by rw [HM.out]; omega)⟩
            rw [HEL.out j x hj hx, List.getD_eq_getElem?_getD, hx]; rfl⟩
          wds := hro.out.congr fun c hcc => by rw [wAt_all char data f cols c hcc]
          chg := Chg.refl _ _ }
      have B3 : RowKit.Hid (Below w1.heap.size w1 w3) := by rw [hw3]; exact hbe.out
      have HBW3 : RowKit.Hid (bw < w3.heap.size) := by rw [hw3]; exact hro.out.lt
      rw [← hw3]
      clear hw3 hro hbe HEL HRO R2 B2 hlt
      go_wp2
      go_loopw [13, 49] (fun v i wr => ∃ r : Nat, r ≤ rows ∧ i = .int .i64 (r : Int) ∧ RowKit.Hid (MRel w3 wr bl bw cap rows cols char data f r v)) (fun _ i _ => rows - (RowKit.intOf i).toNat)
      case atStart => exact ⟨0, Nat.zero_le _, rfl, M0.out⟩
      case round =>
        clear M0
        obtain ⟨r, hrr, rfl, hmr⟩ := hrel
        by_cases hlr : r < rows
        · have q2 : (r : Int) < (rows : Int) := by omega
          obtain ⟨pp, hpp⟩ : ∃ pp, pp = r * cols := ⟨_, rfl⟩
          have hpc : pp + cols ≤ rows * cols := by rw [hpp, ← Nat.succ_mul]; exact Nat.mul_le_mul_right _ hlr
          have e1 : (r : Int) * (cols : Int) = (pp : Int) := by rw [hpp, Int.natCast_mul]
          have e2 : ((r : Int) + 1) * (cols : Int) = ((pp + cols : Nat) : Int) := by rw [Int.add_mul, e1, Int.one_mul, Int.natCast_add]
          have hne : ¬ cap = pp := by omega
          have e3 : pp + cols - pp = cols := by omega
          have HPP := Lib.hid hpp
          clear hpp
          obtain ⟨w4, hw4⟩ : ∃ w4, w4 = wr := ⟨_, rfl⟩
          rw [← hw4] at hmr ⊢
          clear hw4
          have HMR := Lib.hid hmr
          have HBLW : RowKit.Hid (bw ≠ bl) := by have := HBW.out; have := HLB.out; show _ ≠ _; omega
          clear hmr
          go_wp2
          rw [e3]
          have I0 : RowKit.Hid (IRel w4 w4 bl cap rows cols char data f r 0) := by
            obtain ⟨g, h1, h2⟩ := HMR.out.row
            exact ⟨⟨g, h1, fun k hk => by omega, fun j hj hj2 => h2 j (by omega) hj2⟩, Chg.refl _ _⟩
          go_loopw [63] (fun i wx => ∃ c : Nat, c ≤ cols ∧ i = .int .i64 (c : Int) ∧ RowKit.Hid (IRel w4 wx bl cap rows cols char data f r c)) (fun i _ => cols - (RowKit.intOf i).toNat)
          case atStart => exact ⟨0, Nat.zero_le _, rfl, I0.out⟩
          case round =>
            clear I0 e1 e2 e3
            obtain ⟨c, hcc, rfl, hir⟩ := hrel
            obtain ⟨g, hg, hg1, hg2⟩ := hir.out.row
            rw [← HPP.out] at hg1 hg2
            by_cases hlc : c < cols
            · have q3 : (c : Int) < (cols : Int) := by omega
              obtain ⟨x, hx⟩ : ∃ x, x = data.getD (f + (pp + c)) 0 := ⟨_, rfl⟩
              have hxi : i64 x := by rw [hx]; exact getD_mem _ HI.out i64_zero
              have hxc : char = true → chOk x := fun h => by
                obtain ⟨y, hy⟩ : ∃ y, data[f + (pp + c)]? = some y := ⟨_, List.getElem?_eq_getElem (by rw [HM.out]; omega)⟩
                rw [hx, List.getD_eq_getElem?_getD, hy]
                exact HCH.out h y (List.mem_of_getElem? hy)
              have hcell := hg.cell (i := pp + c) (by omega)
              rw [hg2 (pp + c) (Nat.le_refl _) (by omega), ← hx] at hcell
              have hfz := hg.frozen (pp + c)
              have hbw4 := (HMR.out.wds.of_block (hir.out.chg.block bw HMR.out.wds.lt HBLW.out)).cell (i := c) hlc
              have HWD := Lib.hid (rc_el (char := char) (x := x) hxc)
              have hle := elL_le (char := char) hxi
              have hsz : (bs (elL char x)).size < 9223372036854775807 := by rw [bs_size]; omega
              have hge : wd char x ≤ wMax char data f rows cols c := by rw [hx, HPP.out, ← Nat.add_assoc]; exact wMax_ge hlr
              have hmx := wMax_le (char := char) HI.out f rows cols c
              have HCL : RowKit.Hid (cellL char data f rows cols r c = padL (wMax char data f rows cols c - wd char x) ++ elL char x) := by show _ = _; rw [hx, HPP.out, ← Nat.add_assoc]; rfl
              obtain ⟨W, hW⟩ : ∃ W, W = wMax char data f rows cols c := ⟨_, rfl⟩
              obtain ⟨V, hV⟩ : ∃ V, V = wd char x := ⟨_, rfl⟩
              rw [← hW] at hbw4 hge hmx HCL
              rw [← hV] at HWD hge HCL
              have hsub : IntKind.i64.wrap ((W : Int) - (V : Int)) = ((W - V : Nat) : Int) := by rw [IntWalk.i64_in _ (by omega)]; omega
              have HRP : RowKit.Hid (∀ w9, Calls Tryd.prog 71 #[.string (bs [32]), .int .i64 ((W - V : Nat) : Int)] w9 fun e w' => e = .returned (.string (bs (padL (W - V)))) ∧ Below w9.heap.size w9 w') := fun w9 => by
                have h := Tryd.strings_Repeat (bs [32]) (W - V) w9 (by omega) (by rw [bs_size]; simp; omega)
                rw [show (bs [32]).data.toList = [32] from rfl, repeat_pad] at h
                exact h
              have HG := Lib.hid hg
              have HG1 := Lib.hid hg1
              have HG2 := Lib.hid hg2
              have HCH4 := Lib.hid hir.out.chg
              have hps : (bs (padL (W - V))).size = W - V := by rw [bs_size]; simp [padL]
              have hes : (bs (elL char x)).size ≤ 21 := by rw [bs_size]; exact hle
              have hcat : ¬ 9223372036854775807 < W - V + (bs (elL char x)).size := by omega
              clear hx hxi hxc hW hV hle hg hg1 hg2 hir
              go_upto_region 16 with fail
              go_region_law (first
                | (go_simp; go_at_call 70; refine (wide05_any _ _ hsz).mono ?_; rintro e w5 ⟨rfl, hb5⟩; rw [HWD.out]; have hw5 := below_cell hb5 hbw4; have hc5 := below_cell hb5 hcell; have hf5 := (hb5.frozen (p := ⟨bl, pp + c, none⟩) HG.out.lt).trans hfz)
                | (go_simp; go_at_call 71; refine (HRP.out _).mono ?_; rintro e w6 ⟨rfl, hb6⟩; have hc6 := below_cell hb6 hc5; have hf6 := (hb6.frozen (p := ⟨bl, pp + c, none⟩) (Nat.lt_of_lt_of_le HG.out.lt hb5.size)).trans hf5))
              all_goals
                have hbx : Below wr.heap.size wr w6 := ((below_drewN (Below.refl wr.heap.size wr) 1).trans hb5).trans (hb6.mono hb5.size)
                have PI : RowKit.Hid (IRel w4 (w6.setCell ⟨bl, pp + c, none⟩ (.string (bs (padL (W - V)) ++ bs (elL char x)))) bl cap rows cols char data f r (c + 1)) := by
                  refine ⟨⟨_, (rowIs_below HG.out hbx).set (pp + c) _, fun k hk => ?_, fun j hj1 hj2 => ?_⟩, (HCH4.out.trans (Chg.of_below hbx)).setCell (.inl rfl) _⟩
                  · rw [← HPP.out]
                    by_cases e : k = c
                    · subst e
                      rw [if_pos rfl, HCL.out, bs_app]
                    · rw [if_neg (by omega)]
                      exact HG1.out k (by omega)
                  · rw [← HPP.out] at hj1
                    rw [if_neg (by omega)]
                    exact HG2.out j (by omega) hj2
                clear hbx hb5 hb6 hw5 hc5 hf5 hc6 hf6 hcell hfz hbw4 hsub
                go_wp2
                go_roundw
                case rel => exact ⟨c + 1, by omega, by go_num, PI.out⟩
                case measure => simp [RowKit.intOf]; omega
            · have hcq : c = cols := by omega
              subst hcq
              have HG := Lib.hid hg
              have HG1 := Lib.hid hg1
              have HG2 := Lib.hid hg2
              have HCH4 := Lib.hid hir.out.chg
              have hz41 : w1.heap.size ≤ w3.heap.size := B3.out.size
              have hxb : wr.heap[w.heap.size]? = some (.cells #[.bool char, x0, .slice B m d] 27 (0, 0)) := by
                have hlt0 := lt_of_block XA.out
                have h1 := (B1.out.block _ hlt0).trans XA.out
                have h3 := (B3.out.block _ (lt_of_block h1)).trans h1
                have h4 := (HMR.out.chg.block _ (lt_of_block h3) (by omega)).trans h3
                exact (HCH4.out.block _ (lt_of_block h4) (by omega)).trans h4
              have p0 : wr.cell? ⟨w.heap.size, 0, none⟩ = some (.bool char) := by rw [cell_of_row wr _ 0 _ _ _ hxb]; rfl
              have p1 : wr.cell? ⟨w.heap.size, 1, none⟩ = some x0 := by rw [cell_of_row wr _ 1 _ _ _ hxb]; rfl
              have p2 : wr.cell? ⟨w.heap.size, 2, none⟩ = some (.slice B m d) := by rw [cell_of_row wr _ 2 _ _ _ hxb]; rfl
              have HJ : RowKit.Hid (∀ w7, Below wr.heap.size wr w7 → Calls Tryd.prog 35 #[.slice (some ⟨bl, pp, none⟩) c (cap - pp), .string (bs (sepL char))] w7 fun e w' => e = .returned (.string (bs (rowL char data f rows c r))) ∧ Below w7.heap.size w7 w') := fun w7 hb7 => by
                have hlen : ((List.range c).map fun k => bs (cellL char data f rows c r k)).length = c := by simp
                have hmap : ((List.range c).map fun k => bs (cellL char data f rows c r k)).map (·.data.toList) = (List.range c).map (cellL char data f rows c r) := by
                  rw [List.map_map]
                  refine List.map_congr_left fun k _ => ?_
                  simp [bs]
                have hj := join_le ((List.range c).map (cellL char data f rows c r)) (sepL char) 41 (fun y hy => by
                  obtain ⟨k, _, rfl⟩ := List.mem_map.1 hy
                  exact cellL_le HI.out f rows c r k) (sepL_le char)
                rw [List.length_map, List.length_range] at hj
                have h := Tryd.strings_Join bl pp (cap - pp) ((List.range c).map fun k => bs (cellL char data f rows c r k)) (bs (sepL char)) w7 (fun j y hy => by
                  rw [List.getElem?_map] at hy
                  obtain ⟨k, hk, rfl⟩ := Option.map_eq_some_iff.1 hy
                  obtain ⟨hk1, rfl⟩ := List.getElem?_eq_some_iff.1 hk
                  rw [List.length_range] at hk1
                  rw [List.getElem_range]
                  have := (rowIs_below HG.out hb7).cell (i := pp + j) (by omega)
                  rw [HG1.out j hk1] at this
                  exact this) (Nat.lt_of_lt_of_le HG.out.lt hb7.size) (by rw [hlen]; omega) (by rw [hlen]; omega) (by
                  rw [hmap, show (bs (sepL char)).data.toList = sepL char by simp [bs]]
                  omega)
                rw [hmap, show (bs (sepL char)).data.toList = sepL char by simp [bs], hlen] at h
                exact h
              have HLT : RowKit.Hid (((matL char data f rows c).take r).length = r) := by show _ = _; rw [List.length_take, matL_len]; omega
              have HOwr := Lib.hid (HMR.out.txs.chg HCH4.out (fun b hb e => by have := HLB.out; omega))
              have HS3 : RowKit.Hid (w3.heap.size ≤ wr.heap.size) := Nat.le_trans HMR.out.chg.size HCH4.out.size
              clear hg hg1 hg2 hir hxb
              go_wp2_with fail
              refine (between05_any char x0 (.slice B m d) _h0 rfl wr).mono ?_
              rintro e w7 ⟨rfl, hb7⟩
              have HB7 := Lib.hid hb7
              clear hb7 p0 p1 p2
              go_wp2_with fail
              refine (HJ.out w7 HB7.out).mono ?_
              rintro e w8 ⟨rfl, hb8⟩
              have HB8 := Lib.hid (HB7.out.trans (hb8.mono HB7.out.size))
              have HO8 := Lib.hid (HOwr.out.below HB8.out)
              have HO := Lib.hid (txs_own HO8.out HLT.out)
              have HS : RowKit.Hid (w3.heap.size ≤ w8.heap.size) := Nat.le_trans HS3.out HB8.out.size
              clear hb8 HB7 HJ HOwr
              go_wp2_with (at_builtin; refine wpList_append_own _ rfl (.tmp 82) (.tmp 87) 28 rfl w3.heap.size 9 i0 (.string ⟨#[]⟩) 1 16 Tryd.underlying28 hi hz0 hz1 hz2 rfl (by decide) _ r (txVals ((matL char data f rows c).take r)) rfl (World.ownsRow.alloc HO.out _) ⟨w8.heap.size, 0, none⟩ 1 1 [.string (bs (rowL char data f rows c r))] rfl rfl (cell_one_new _ _ _) (by simp [Value.oneCell']) (by unfold maxLen; omega) (by omega) (by have := HS.out; simp; omega) ?_; intro v9 w9 hown9 hgrow9 _)
              have hg89 : Chg (fun b => some b = Value.ownBlock _) w8 w9 := chg_grow9 hgrow9
              have PM : RowKit.Hid (MRel w3 w9 bl bw cap rows c char data f (r + 1) v9) := by
                have hob : ∀ b, some b = Value.ownBlock _ → w3.heap.size ≤ b := fun b hb => (World.ownsRow.lt HO.out b hb.symm).1
                exact {
                  txs := by
                    rw [matL_take hlr]
                    refine Txs.snoc ?_
                    rw [HLT.out]
                    exact hown9
                  row := ⟨g, (rowIs_below HG.out HB8.out).of_block (hg89.block bl (by have := HLB.out; have := HS.out; omega) (fun e => by have := hob bl e; have := HLB.out; omega)), fun j hj1 hj2 => HG2.out j (by rw [HPP.out, ← Nat.succ_mul]; exact hj1) hj2⟩
                  wds := (rowIs_below (HMR.out.wds.of_block (HCH4.out.block bw HMR.out.wds.lt HBLW.out)) HB8.out).of_block (hg89.block bw (by have := HMR.out.wds.lt; have := HCH4.out.size; have := HB8.out.size; omega) (fun e => by have := hob bw e; have := HBW3.out; omega))
                  chg := by
                    refine Chg.mono (S := fun b => b = bl ∨ some b = Value.ownBlock _) (Chg.trans (((HMR.out.chg.trans HCH4.out).trans (Chg.of_below HB8.out)).mono (fun b _ hb => .inl hb)) (hg89.mono (fun b _ hb => .inr hb))) (fun b hb h => h.elim id (fun h => by have := hob b h; omega)) }
              clear hown9 hgrow9 hg89 HO HO8 HB8 HS
              go_wp2
              go_roundw
              case rel => exact ⟨r + 1, by omega, by go_num, PM.out⟩
              case measure => simp [RowKit.intOf]; omega
        · have hrq : r = rows := by omega
          subst hrq
          have HE : RowKit.Hid ((matL char data f r cols).take r = matL char data f r cols) := List.take_of_length_le (by rw [matL_len]; exact Nat.le_refl _)
          have PT := Lib.hid (hmr.out.txs.eq HE.out (Nat.le_trans BA.out.size (Nat.le_trans B1.out.size B3.out.size)))
          have PB : RowKit.Hid (Below w.heap.size w wr) := ((BA.out.trans (B1.out.mono BA.out.size)).trans (B3.out.mono (Nat.le_trans BA.out.size B1.out.size))).trans (hmr.out.chg.below (Nat.le_trans BA.out.size (Nat.le_trans B1.out.size B3.out.size)) (fun b hb => by have := BA.out.size; omega))
          clear hmr
          go_wp2
          go_ret
          exact ⟨_, rfl, PT.out, PB.out⟩
end Go.Proofs.YtjkofndnhmfnoaaDoor
