/-
  The law FormBack (package anamnesislaw05): the walk. Of any bytes and numbers that can be read; strconv's table lies as the library lays it.
-/
import Derived.Test.YtjkofndnhmfnoaaDoorL20
import Derived.Test.YtjkofndnhmfnoaaDoorP4
import Derived.Test.YtjkofndnhmfnoaaDoorRG
import Derived.Deep.QuietTactic
import Derived.BigQuiet
namespace Go.Proofs.YtjkofndnhmfnoaaDoor
open Go Go.RowKit

/-- The shape that is brought about, and the data. -/
def shB (s : List Int) : List Int := s.map (· % 7)
def daB (data : List Int) (n : Nat) : List Int := (List.range n).map fun i => data.getD (i % data.length) 0
theorem prod_take {l : List Int} {k : Nat} {x : Int} (h : l[k]? = some x) : prodL (l.take (k + 1)) = prodL (l.take k) * x := by
  rw [List.take_add_one, h]
  exact prodL_snoc _ _
theorem prod_le {s : List Int} : ∀ k, 0 ≤ prodL ((shB s).take k) ∧ prodL ((shB s).take k) ≤ (6 : Int) ^ k
  | 0 => by simp [prodL]
  | k + 1 => by
    obtain ⟨h1, h2⟩ := prod_le (s := s) k
    cases hk : (shB s)[k]? with
    | none =>
      have e : (shB s).take (k + 1) = (shB s).take k := by rw [List.take_add_one, hk]; simp
      rw [e]
      refine ⟨h1, Int.le_trans h2 ?_⟩
      rw [Int.pow_succ]
      omega
    | some x =>
      rw [prod_take hk]
      obtain ⟨y, _, rfl⟩ : ∃ y, y ∈ s ∧ y % 7 = x := by
        have := List.mem_of_getElem? hk
        unfold shB at this
        simpa using this
      have e1 : 0 ≤ y % 7 := Int.emod_nonneg _ (by decide)
      have e2 : y % 7 ≤ 6 := by omega
      refine ⟨Int.mul_nonneg h1 e1, ?_⟩
      rw [Int.pow_succ]
      exact Int.mul_le_mul h2 e2 e1 (by omega)
theorem prod_le4 {s : List Int} (hs : s.length ≤ 4) (k : Nat) : 0 ≤ prodL ((shB s).take k) ∧ prodL ((shB s).take k) ≤ 1296 := by
  have hl : (shB s).length = s.length := by simp [shB]
  rcases Nat.le_total k 4 with h | h
  · obtain ⟨h1, h2⟩ := prod_le (s := s) k
    refine ⟨h1, Int.le_trans h2 ?_⟩
    have : k = 0 ∨ k = 1 ∨ k = 2 ∨ k = 3 ∨ k = 4 := by omega
    rcases this with rfl | rfl | rfl | rfl | rfl <;> simp
  · have e : (shB s).take k = (shB s).take 4 := by rw [List.take_of_length_le (by omega), List.take_of_length_le (by omega)]
    obtain ⟨h1, h2⟩ := prod_le (s := s) 4
    rw [e]
    exact ⟨h1, h2⟩
theorem daB_len (data : List Int) (n : Nat) : (daB data n).length = n := by simp [daB]
theorem daB_at {data : List Int} {n k : Nat} (h : k < n) : (daB data n)[k]? = some (data.getD (k % data.length) 0) := by
  unfold daB
  simp [h]
theorem back_right {s data : List Int} {n : Nat} (hs : s.length ≤ 4) (hp : prodL (shB s) = (n : Int)) (hn : n ≤ 200) : rightL false (shB s) (daB data n) := by
  refine ⟨by simpa [shB] using hs, fun x hx => ?_, by rw [daB_len]; exact hp, by rw [daB_len]; omega, fun h => by cases h⟩
  unfold shB at hx
  obtain ⟨y, _, rfl⟩ := List.mem_map.1 hx
  omega
def ints (l : List Int) : List Value := l.map (Value.int .i64)
theorem intParts : ∃ i, Tryd.prog.info? 3 = some i ∧ i.zero = some (.int .i64 0) ∧ i.size = 1 ∧ i.bytes = 8 := by
  have h1 := intInfo
  cases h : Tryd.prog.info? 3 with
  | none => rw [h] at h1; cases h1
  | some i => rw [h] at h1; simp only [Option.map_some, Option.some.injEq, Prod.mk.injEq] at h1; exact ⟨i, rfl, h1.1, h1.2.1, h1.2.2⟩
/-- append of one number, at a step of a region that draws. -/
theorem step_int {ops : Array Oper} {o : Oper} {a : Act} {w : World} {K : Act → World → Prop} {Q : Exit → Act → World → Prop} {E : Prop} (t e : TypeId) (i0 : TypeInfo) (ht : Tryd.prog.underlying t = some (.slice e)) (hi : Tryd.prog.info? e = some i0) (hz : i0.zero = some (.int .i64 0)) (hz1 : i0.size = 1) (hz2 : i0.bytes = 8)
    (base : Nat) (w1 : World) (x : Int) (gv : Value) (n : Nat) (xs : List Value)
    (hrow : w1.ownsRow base e 1 gv n xs) (hb : base ≤ w1.heap.size) (hn : n ≤ 1000000) (hw : w.heap = (w1.alloc (.cells #[.int .i64 x] e)).heap)
    (hgd : o.guard = none) (s y : Operand) (ho : o.op = .call { callee := .builtin .append, args := #[s, y], argTypes := #[t, t] }) (hs : a.eval s = gv) (hx : a.eval y = .slice (some ⟨w1.heap.size, 0, none⟩) 1 1)
    (h : ∀ g cap w', w'.ownsRow base e 1 (.slice (some ⟨g, 0, none⟩) (n + 1) cap) (n + 1) (xs ++ [.int .i64 x]) → w.grownBy w' gv.ownBlock → K (a.put o.dst (.slice (some ⟨g, 0, none⟩) (n + 1) cap)) w') :
    if Region.wanted o (yielded ops a.tmps) = true then Oper.wp Tryd.prog o a w K Q else E := by
  have hbk : w.heap[w1.heap.size]? = some (.cells #[.int .i64 x] e (0, 0)) := by rw [hw]; exact heap_alloc_new _ _
  exact step_append_lies w hgd s y t ho base e i0 (.int .i64 0) 1 8 ht hi hz hz1 hz2 rfl (by omega) gv n xs hs (ownsRow_heap hw (hrow.alloc _)) ⟨w1.heap.size, 0, none⟩ 1 1 [.int .i64 x] hx rfl (World.news_of_block hbk) (by simp [Value.oneCell']) (by omega) (by unfold maxLen; omega) (by omega) (by rw [hw]; simp; omega) (w1.heap.size + 1) (by rw [hw]; simp) fun g cap w' h1 h2 _ _ => h g cap w' h1 h2
/-- The last byte of a text. -/
def lastB (l : List UInt8) : Nat := (l.getLastD 0).toNat
theorem last_b (ts : List (Nat × Int)) (h : 0 < (bs (tokL ts)).size) : ∃ (Z : Nat) (hlt : Z < (bs (tokL ts)).size), ((bs (tokL ts)).size : Int) - 1 = (Z : Int) ∧ ((bs (tokL ts))[Z]'hlt).toNat = lastB (tokL ts) ∧ ((lastB (tokL ts) : Int) == 32) = false := by
  have hz := bs_size (tokL ts)
  have hne : ts ≠ [] := by rintro rfl; rw [hz] at h; simp [tokL] at h
  obtain ⟨m0, b0, hm0, hb0⟩ := tok_last hne
  have hat : (tokL ts)[m0.length]? = some b0 := by rw [hm0]; simp
  obtain ⟨hlt, hbb⟩ := bs_at hat
  have hl : lastB (tokL ts) = b0.toNat := by unfold lastB; rw [hm0]; simp
  refine ⟨m0.length, hlt, ?_, by rw [hbb, hl], ?_⟩
  · rw [hz, hm0]
    simp
  · rw [hl, beq_eq_false_iff_ne]
    omega
set_option linter.unusedSimpArgs false in
set_option maxRecDepth 100000 in
set_option maxHeartbeats 6400000 in
theorem formBack_any (A : Option Addr) (n c : Nat) (B : Option Addr) (m d : Nat) (s data : List Int) (D D' : Nat → Prop) (w : World) (hs : Rd w D 1 A n c (intRows .u8 s)) (hd : Rd w D' 1 B m d (intRows .i64 data)) (his : ∀ x ∈ s, 0 ≤ x ∧ x ≤ 255) (hi : ∀ x ∈ data, i64 x) (ht : Tab w) :
    Calls Tryd.prog 3 #[.slice A n c, .slice B m d] w fun e w' => e = .returned (.bool true) ∧ Below w.heap.size w w' := by
  have HT := Lib.hid ht
  have hln : s.length = n := by have := hs.len; simpa [intRows] using this
  have hlm : data.length = m := by have := hd.len; simpa [intRows] using this
  subst hln hlm
  by_cases h4 : 4 < s.length
  · have q1 : (4 : Int) < (s.length : Int) := by omega
    clear hs hd his hi ht h4
    go_enter Tryd.func3, Tryd.ntmps3
    go_wp2_with fail
    refine (awake05_any w HT.out).mono ?_
    rintro e w2 ⟨rfl, hb2⟩
    go_wp2
    go_ret
    exact ⟨rfl, hb2⟩
  have q1 : ¬ (4 : Int) < (s.length : Int) := by omega
  by_cases h0 : data.length = 0
  · have q2 : ((data.length : Int) == 0) = true := by rw [h0]; rfl
    clear hs hd his hi ht h4
    go_enter Tryd.func3, Tryd.ntmps3
    go_wp2_with fail
    refine (awake05_any w HT.out).mono ?_
    rintro e w2 ⟨rfl, hb2⟩
    go_wp2
    go_ret
    exact ⟨rfl, hb2⟩
  have q2 : ((data.length : Int) == 0) = false := by rw [beq_eq_false_iff_ne]; omega
  have q3 : ¬ (data.length : Int) = 0 := by omega
  have q4 : ¬ data = [] := by rintro rfl; exact h0 rfl
  obtain ⟨_, hs1⟩ := hs.one
  obtain ⟨_, hd1⟩ := hd.one
  have HS1 := Lib.hid hs1
  have HD1 := Lib.hid hd1
  have HIS := Lib.hid his
  have HI := Lib.hid hi
  have HB := Lib.hid (fun o => (Below.refl w.heap.size w).alloc (Nat.le_refl _) o)
  have hsc : s.length ≤ c := hs.le
  have hdc : data.length ≤ d := hd.le
  have hdm : d ≤ 9223372036854775807 := by have h2 := hd.max; unfold maxLen at h2; omega
  have H4 := Lib.hid (show s.length ≤ 4 by omega)
  clear hs hd hs1 hd1 his hi ht h4 h0
  obtain ⟨i0, hi0, hz0, hz1, hz2⟩ := intParts
  obtain ⟨j0, hj0, hy0, hy1, hy2⟩ := i64Parts
  go_enter Tryd.func3, Tryd.ntmps3
  go_wp2_with fail
  obtain ⟨wa, hwa⟩ : ∃ wa, wa = w.alloc (.cells #[.bool false, .slice none 0 0, .slice none 0 0] 27) := ⟨_, rfl⟩
  have hba : Below w.heap.size w wa := by rw [hwa]; exact HB.out _
  have hza : wa.heap.size = w.heap.size + 1 := by rw [hwa]; simp
  have hxa : wa.heap[w.heap.size]? = some (.cells #[.bool false, .slice none 0 0, .slice none 0 0] 27 (0, 0)) := by rw [hwa]; exact heap_alloc_new w _
  have BX0 : RowKit.Hid (Bx wa wa w.heap.size #[.bool false, .slice none 0 0, .slice none 0 0] 3 (.slice none 0 0) (ints [])) := ⟨by omega, hxa, World.ownsRow_nil _ _ _ _, Chg.refl _ _⟩
  rw [← hwa]
  have BA := Lib.hid hba
  have ZA := Lib.hid hza
  clear hwa hba hxa hza HB
  go_loopw [6, 7] (fun p i wr => ∃ k : Nat, k ≤ s.length ∧ i = .int .i64 (k : Int) ∧ p = .int .i64 (prodL ((shB s).take k)) ∧ ∃ gv, RowKit.Hid (Bx wa wr w.heap.size #[.bool false, gv, .slice none 0 0] 3 gv (ints ((shB s).take k)))) (fun _ i _ => s.length - (RowKit.intOf i).toNat)
  case atStart => exact ⟨0, Nat.zero_le _, rfl, rfl, _, BX0.out⟩
  case round =>
    obtain ⟨k, hk, rfl, rfl, gv, hbx⟩ := hrel
    by_cases hlt : k < s.length
    · obtain ⟨b1, o1, rfl, -, -, hc1⟩ := HS1.out (by omega)
      obtain ⟨x, hx⟩ : ∃ x, s[k]? = some x := ⟨_, List.getElem?_eq_getElem hlt⟩
      have hchg := hbx.out.chg
      have cx0 := below_cell BA.out (hc1 k x hx)
      have hb1 : b1 < w.heap.size := World.block_lt_of_cell? w _ (hc1 k x hx)
      have cx := hchg.cell cx0 (show ¬ b1 = w.heap.size by omega)
      have cxa : ∀ o, (wr.alloc o).cell? ⟨b1, o1 + k, none⟩ = some (.int .u8 x) := fun o => below_cell ((Below.refl _ wr).alloc (Nat.le_refl _) o) cx
      have px : wr.cell? ⟨w.heap.size, 1, none⟩ = some gv := by rw [cell_of_row wr _ 1 _ _ _ hbx.out.box]; rfl
      have pxa : ∀ o, (wr.alloc o).cell? ⟨w.heap.size, 1, none⟩ = some gv := fun o => below_cell ((Below.refl _ wr).alloc (Nat.le_refl _) o) px
      have q5 : (k : Int) < (s.length : Int) := by omega
      obtain ⟨hx0, hx1⟩ := HIS.out x (List.mem_of_getElem? hx)
      have HX := Lib.hid hx
      have FZ := Lib.hid (fun wb w3 hwb hg => hbx.out.far (k := 1) (u := gv) (o := .cells #[.int .i64 (IntKind.i64.wrap (x.tmod 7))] 3) (wb := wb) (w3 := w3) rfl hwb hg)
      have HM7 : RowKit.Hid (IntKind.i64.wrap (x.tmod 7) = x % 7) := by
        show _ = _
        rw [Int.tmod_eq_emod_of_nonneg hx0]
        exact wrap_in (by omega) (by omega)
      have hm7 : IntKind.i64.wrap (x % 7) = x % 7 := wrap_in (by omega) (by omega)
      have hkl : (ints ((shB s).take k)).length ≤ 1000000 := by have := H4.out; simp [ints]; omega
      have hsx : (shB s)[k]? = some (x % 7) := by unfold shB; simp [hx]
      have HPT := Lib.hid (prod_take hsx)
      have HIT : RowKit.Hid (ints ((shB s).take (k + 1)) = ints ((shB s).take k) ++ [.int .i64 (x % 7)]) := by
        show _ = _
        rw [List.take_add_one, hsx]
        simp [ints]
      have CX0 := Lib.hid cx0
      have hpw : IntKind.i64.wrap (prodL ((shB s).take k) * (x % 7)) = prodL ((shB s).take k) * (x % 7) := by
        have := prod_le4 H4.out (s := s) (k + 1)
        rw [HPT.out] at this
        exact wrap_in (by omega) (by omega)
      clear hx hc1 hchg cx0 hsx
      go_upto_region 8 with fail
      go_region_law (refine step_int 25 3 i0 Tryd.underlying25 hi0 hz0 hz1 hz2 wa.heap.size wr (IntKind.i64.wrap (x.tmod 7)) gv _ _ hbx.out.own (hbx.out.chg.size) hkl rfl rfl _ _ rfl rfl rfl ?_; intro g cap w3 hown3 hgrow3; have g3 := FZ.out _ _ (by rfl) hgrow3; obtain ⟨g31, g32⟩ := g3)
      all_goals
        obtain ⟨w4, hw4⟩ : ∃ w4, w4 = w3.setCell ⟨w.heap.size, 1, none⟩ (.slice (some ⟨g, 0, none⟩) ((ints (List.take k (shB s))).length + 1) cap) := ⟨_, rfl⟩
        rw [← hw4]
        have BX4 := hbx.out.step (k := 1) (w4 := w4) (o := .cells #[.int .i64 (IntKind.i64.wrap (x.tmod 7))] 3) (by rfl) (by rfl) (by rfl) (by rfl) hgrow3 hown3 (by rw [hw4]) (by rw [hw4]; rfl) (by rw [hw4]; rfl) (by rw [hw4]; rfl)
        rw [HM7.out, ← HIT.out] at BX4
        have HBX4 := Lib.hid BX4
        have cx4 := BX4.chg.cell CX0.out (show ¬ b1 = w.heap.size by omega)
        clear BX4 hown3 hgrow3 g31 g32 hw4 cx cxa px pxa FZ
        go_wp2
        go_roundw
        case rel => exact ⟨k + 1, by omega, by go_num, by rw [HPT.out], _, HBX4.out⟩
        case measure => simp [RowKit.intOf]; omega
    · have hke : k = s.length := by omega
      subst hke
      have hlsh : (shB s).length = s.length := by simp [shB]
      have hta : (shB s).take s.length = shB s := List.take_of_length_le (by omega)
      rw [hta] at hbx ⊢
      have BW := Lib.hid (BA.out.trans (hbx.out.chg.below (B := w.heap.size) (by have := ZA.out; omega) (fun j hj => by omega)))
      obtain ⟨hp0, hp1⟩ := prod_le4 H4.out (s := s) s.length
      rw [hta] at hp0 hp1
      obtain ⟨P, hP⟩ : ∃ P : Nat, prodL (shB s) = (P : Int) := ⟨(prodL (shB s)).toNat, by omega⟩
      have HPP := Lib.hid hP
      rw [hP] at hp1 ⊢
      have hgv := hbx.out.own
      have hlen : (ints (shB s)).length = s.length := by simp [ints, hlsh]
      have HGV := Lib.hid hgv
      have HBO := Lib.hid hbx.out.box
      have HOLD := Lib.hid (Nat.lt_of_lt_of_le hbx.out.old hbx.out.chg.size)
      clear hbx hta hlsh hP hgv hp0 hlt hk
      by_cases h200 : 200 < P
      · have q5 : (200 : Int) < (P : Int) := by omega
        clear h200
        go_wp2_with fail
        refine (awake05_any wr (HT.out.below BW.out)).mono ?_
        rintro e w2 ⟨rfl, hb2⟩
        go_wp2
        go_ret
        exact ⟨rfl, BW.out.trans (hb2.mono BW.out.size)⟩
      have q5 : ¬ (200 : Int) < (P : Int) := by omega
      have h200' : P ≤ 200 := by omega
      have BX1 : RowKit.Hid (Bx wr wr w.heap.size #[.bool false, gv, .slice none 0 0] 2 (.slice none 0 0) (ints [])) := ⟨HOLD.out, HBO.out, World.ownsRow_nil _ _ _ _, Chg.refl _ _⟩
      obtain ⟨b2, o2, rfl, -, hb2, hc2⟩ := HD1.out (by omega)
      have HC2 := Lib.hid hc2
      obtain ⟨w2, hw2⟩ : ∃ w2, w2 = wr := ⟨_, rfl⟩
      rw [← hw2] at BX1 HGV HBO BW HOLD ⊢
      clear hc2 hw2 h200 HD1
      go_wp2_with fail
      go_loopw [8] (fun i wr => ∃ k : Nat, k ≤ P ∧ i = .int .i64 (k : Int) ∧ ∃ gd, RowKit.Hid (Bx w2 wr w.heap.size #[.bool false, gv, gd] 2 gd (ints ((daB data P).take k)))) (fun i _ => P - (RowKit.intOf i).toNat)
      case atStart => exact ⟨0, Nat.zero_le _, rfl, _, BX1.out⟩
      case round =>
        obtain ⟨k, hk, rfl, gd, hbx⟩ := hrel
        by_cases hlt : k < P
        · obtain ⟨r, hr⟩ : ∃ r, r = k % data.length := ⟨_, rfl⟩
          have hrl : r < data.length := by rw [hr]; exact Nat.mod_lt _ (by omega)
          have hri : ((k : Int).tmod (data.length : Int)) = (r : Int) := by rw [hr]; rfl
          have hri2 : ((k : Int) % (data.length : Int)) = (r : Int) := by rw [hr]; rfl
          obtain ⟨x, hx⟩ : ∃ x, data[r]? = some x := ⟨_, List.getElem?_eq_getElem hrl⟩
          have hda : (daB data P)[k]? = some x := by
            rw [daB_at hlt, ← hr, List.getD_eq_getElem?_getD, hx]
            rfl
          have hchg := hbx.out.chg
          have cx0 := below_cell BW.out (HC2.out r x hx)
          have cx := hchg.cell cx0 (show ¬ b2 = w.heap.size by omega)
          have cxa : ∀ o, (wr.alloc o).cell? ⟨b2, o2 + r, none⟩ = some (.int .i64 x) := fun o => below_cell ((Below.refl _ wr).alloc (Nat.le_refl _) o) cx
          have px : wr.cell? ⟨w.heap.size, 2, none⟩ = some gd := by rw [cell_of_row wr _ 2 _ _ _ hbx.out.box]; rfl
          have pxa : ∀ o, (wr.alloc o).cell? ⟨w.heap.size, 2, none⟩ = some gd := fun o => below_cell ((Below.refl _ wr).alloc (Nat.le_refl _) o) px
          have q6 : (k : Int) < (P : Int) := by omega
          have q7 : (r : Int) < (data.length : Int) := by omega
          have HIT : RowKit.Hid (ints ((daB data P).take (k + 1)) = ints ((daB data P).take k) ++ [.int .i64 x]) := by
            show _ = _
            rw [List.take_add_one, hda]
            simp [ints]
          have FZ := Lib.hid (fun wb w3 hwb hg => hbx.out.far (k := 2) (u := gd) (o := .cells #[.int .i64 x] 2) (wb := wb) (w3 := w3) rfl hwb hg)
          have hkl : (ints ((daB data P).take k)).length ≤ 1000000 := by simp [ints]; omega
          clear hx hchg cx0 hda hr
          go_upto_region 15 with fail
          go_region_law (refine step_int 23 2 j0 Tryd.underlying23 hj0 hy0 hy1 hy2 w2.heap.size wr x gd _ _ hbx.out.own (hbx.out.chg.size) hkl rfl rfl _ _ rfl rfl rfl ?_; intro g cap w3 hown3 hgrow3; have g3 := FZ.out _ _ (by rfl) hgrow3; obtain ⟨g31, g32⟩ := g3)
          all_goals
            obtain ⟨w4, hw4⟩ : ∃ w4, w4 = w3.setCell ⟨w.heap.size, 2, none⟩ (.slice (some ⟨g, 0, none⟩) ((ints (List.take k (daB data P))).length + 1) cap) := ⟨_, rfl⟩
            rw [← hw4]
            have BX4 := hbx.out.step (k := 2) (w4 := w4) (o := .cells #[.int .i64 x] 2) (by rfl) (by rfl) (by rfl) (by rfl) hgrow3 hown3 (by rw [hw4]) (by rw [hw4]; rfl) (by rw [hw4]; rfl) (by rw [hw4]; rfl)
            rw [← HIT.out] at BX4
            have HBX4 := Lib.hid BX4
            clear BX4 hown3 hgrow3 g31 g32 hw4 cx cxa px pxa FZ
            go_wp2
            go_roundw
            case rel => exact ⟨k + 1, by omega, by go_num, _, HBX4.out⟩
            case measure => simp [RowKit.intOf]; omega
        · have hke : k = P := by omega
          subst hke
          have htk : (daB data k).take k = daB data k := List.take_of_length_le (by rw [daB_len]; exact Nat.le_refl _)
          rw [htk] at hbx
          obtain ⟨da, hda⟩ : ∃ da, da = daB data k := ⟨_, rfl⟩
          obtain ⟨sh, hsh⟩ : ∃ sh, sh = shB s := ⟨_, rfl⟩
          have hR := back_right H4.out HPP.out (data := data) h200'
          have hdl : da.length = k := by rw [hda, daB_len]
          have hsl : sh.length = s.length := by rw [hsh]; simp [shB]
          have hdi : ∀ x ∈ da, i64 x := by
            intro x hx
            rw [hda] at hx
            unfold daB at hx
            obtain ⟨i, _, rfl⟩ := List.mem_map.1 hx
            exact getD_mem _ HI.out i64_zero
          rw [← hda] at hbx hR
          rw [← hsh] at hR HGV
          have hir : ∀ l : List Int, (ints l) = (intRows .i64 l).flatten := by
            intro l
            unfold intRows ints
            induction l with
            | nil => rfl
            | cons x l ih => simp only [List.map_cons, List.flatten_cons, List.singleton_append]; rw [ih]
          have hone : ∀ l : List Int, ∀ e ∈ intRows .i64 l, e.length = 1 ∧ ∀ u ∈ e, u.oneCell' = true := by
            intro l e he
            obtain ⟨x, _, rfl⟩ := List.mem_map.1 he
            exact ⟨rfl, by simp [Value.oneCell']⟩
          have hg1 := HGV.out
          have hg2 := hbx.out.own
          have hl1 : (ints sh).length = s.length := by simp [ints, hsl]
          have hl2 : (ints da).length = k := by simp [ints, hdl]
          rw [hl1, hir] at hg1
          rw [hl2, hir] at hg2
          obtain ⟨G1, c1, rfl, hr1⟩ := Rd.of_own hg1 (by simp [intRows, hsl]) (hone sh)
          obtain ⟨G2, c2, rfl, hr2⟩ := Rd.of_own hg2 (by simp [intRows, hdl]) (hone da)
          have hr1' := hr1.chg hbx.out.chg (fun j hj => by have := ZA.out; omega)
          have BR := Lib.hid (BW.out.trans (hbx.out.chg.below (B := w.heap.size) (by have := HOLD.out; omega) (fun j hj => by omega)))
          have HBX := Lib.hid hbx.out.box
          have HR1 := Lib.hid hr1'
          have HR2 := Lib.hid hr2
          have HLN := Lib.hid (lines05_good false G1 s.length c1 G2 k c2 sh da _ _ wr hr1' hr2 hdi hR (HT.out.below BR.out))
          have HLL := Lib.hid (linesL_le hR)
          have HTL := Lib.hid (lines_tok sh da)
          have HSN := Lib.hid (linesT_snd hR)
          have HSP := Lib.hid (linesT_sepd (s := sh) (data := da))
          have HPD := Lib.hid (linesT_pad (s := sh) (data := da) hdi)
          have HDI := Lib.hid hdi
          have HDL := Lib.hid hdl
          have HSG : RowKit.Hid (s.length = 2 → ∀ (i : Nat) (a b : List UInt8), (linesL false sh da)[i]? = some a → (linesL false sh da)[0]? = some b → signs a = signs b) := fun h2 i a b ha hb => lines_signs (by omega) ha hb
          obtain ⟨p0, p1, p2⟩ := agg_fields HBX.out
          clear hr1 hr1' hr2 hg1 hg2 hl1 hl2 hir hone hR hdi hda hsh htk hbx hlt hk HGV HBO BX1 BX0 HC2 HS1
          go_wp2_with fail
          refine HLN.out.mono ?_
          rintro e w5 ⟨v5, rfl, htx5, hb5⟩
          have B5 := Lib.hid (BR.out.trans (hb5.mono BR.out.size))
          have X5 := Lib.hid ((hb5.block _ (lt_of_block HBX.out)).trans HBX.out)
          have R5 := Lib.hid (HR2.out.below hb5)
          have T5 := Lib.hid htx5
          obtain ⟨T, hT⟩ : ∃ T, T = linesT sh da := ⟨_, rfl⟩
          have hTL : linesL false sh da = T.map tokL := by rw [hT]; exact HTL.out
          rw [hTL] at T5 HLL HSG
          rw [← hT] at HSN HSP HPD
          have htl : (T.map tokL).length = T.length := by simp
          rw [htl] at HLL
          obtain ⟨A5, c5, rfl, hc5, hc6⟩ := T5.out.form
          rw [htl] at hc5 ⊢
          have hll : T.length ≤ 40000 := HLL.out
          clear htx5 hb5 p0 p1 p2 HLN HR2 hT hTL HTL HBX HR1
          obtain ⟨p0, p1, p2⟩ := agg_fields X5.out
          go_wp2_with fail
          go_loopw [11, 12] (fun a i wr => ∃ j : Nat, j ≤ T.length ∧ i = .int .i64 (j : Int) ∧ a = .int .i64 (cntT T j : Int) ∧ RowKit.Hid (Below w5.heap.size w5 wr)) (fun _ i _ => T.length - (RowKit.intOf i).toNat)
          case atStart => exact ⟨0, Nat.zero_le _, rfl, rfl, Below.refl _ _⟩
          case round =>
            obtain ⟨j, hj, rfl, rfl, hbw⟩ := hrel
            by_cases hlt : j < T.length
            · obtain ⟨ts, hts⟩ : ∃ ts, T[j]? = some ts := ⟨_, List.getElem?_eq_getElem hlt⟩
              obtain ⟨g5, rfl, hc0⟩ := T5.out.at_ (k := j) (t := tokL ts) (by simp [hts])
              have cj := below_cell hbw.out hc0
              have hmem := List.mem_of_getElem? hts
              have hti : ∀ t ∈ ts, i64 t.2 := fun t ht => HDI.out _ (seg_mem HSN.out hts ht)
              have hsz := tok_size ts fun t ht => ⟨HPD.out ts hmem t ht, hti t ht⟩
              have hcl := seg_le HSN.out hts
              have hdl2 : da.length = k := HDL.out
              have htn : ts.length ≤ 200 := by omega
              have HRD := Lib.hid (fun w2 => reads05_any ts w2 (HSP.out ts hmem) hti (by omega))
              have HSZ := Lib.hid (show (tokL ts).length ≤ 8600 by omega)
              have HTS := Lib.hid hts
              have HCL := Lib.hid (show cntT T j + ts.length ≤ k by omega)
              have HCS := Lib.hid (cntT_succ hts)
              have q5 : (j : Int) < (T.length : Int) := by omega
              have HJ := Lib.hid (show j + 1 ≤ T.length from hlt)
              clear hts hc0 hmem hti hsz hcl hdl2 hlt
              go_wp2_with fail
              refine (HRD.out wr).mono ?_
              rintro e w6 ⟨v6, rfl, hnu6, hb6⟩
              have B6 := Lib.hid (hbw.out.trans (hb6.mono hbw.out.size))
              have c6 := below_cell hb6 cj
              obtain ⟨A6, c6', rfl, hrd6⟩ := hnu6.rd
              have N6 := Lib.hid hrd6
              simp only [List.length_map]
              clear hnu6 hrd6 hb6 cj HRD
              obtain ⟨C, hC⟩ : ∃ C, C = cntT T j := ⟨_, rfl⟩
              rw [← hC] at HCL HCS ⊢
              have HC := Lib.hid hC
              have hcl := HCL.out
              have hwc : IntKind.i64.wrap ((C : Int) + (ts.length : Int)) = (C : Int) + (ts.length : Int) := wrap_in (by omega) (by omega)
              have q6 : ¬ (k : Int) < (C : Int) + (ts.length : Int) := by omega
              have HZ := Lib.hid (bs_size (tokL ts))
              clear hC
              go_upto_region 24 with fail
              have HSZ2 : RowKit.Hid ((bs (tokL ts)).size ≤ 8600) := by show _ ≤ _; rw [HZ.out]; exact HSZ.out
              have HLB : RowKit.Hid (0 < (bs (tokL ts)).size → ∃ (Z : Nat) (hlt : Z < (bs (tokL ts)).size), ((bs (tokL ts)).size : Int) - 1 = (Z : Int) ∧ ((bs (tokL ts))[Z]'hlt).toNat = lastB (tokL ts) ∧ ((lastB (tokL ts) : Int) == 32) = false) := fun h => last_b ts h
              refine wp_region_facts (by kernel_rfl) (by kernel_rfl) (fun i v _ => match i with
                  | 0 => v = .bool true
                  | 1 => v = .bool false
                  | 2 => v = .bool false
                  | 3 => v = .int .i64 (C : Int)
                  | 4 => v = .slice A6 ts.length c6'
                  | 5 => v = .int .i64 (ts.length : Int)
                  | 6 => v = .int .i64 ((C : Int) + (ts.length : Int))
                  | 7 => v = .int .i64 (k : Int)
                  | 8 => v = .bool false
                  | 9 => v = .bool false
                  | 10 => v = .bool false
                  | 11 => v = .slice (some ⟨g5, 0, none⟩) T.length c5
                  | 12 => v = .int .i64 (j : Int)
                  | 13 => v = .pointer (some ⟨g5, j, none⟩)
                  | 14 => v = .string (bs (tokL ts))
                  | 15 => v = .int .i64 ((bs (tokL ts)).size : Int)
                  | 16 => v = .bool (decide (0 < (bs (tokL ts)).size))
                  | 17 => v = .bool (decide (0 < (bs (tokL ts)).size))
                  | 18 => (0 < (bs (tokL ts)).size → v = .slice (some ⟨g5, 0, none⟩) T.length c5)
                  | 19 => (0 < (bs (tokL ts)).size → v = .int .i64 (j : Int))
                  | 20 => (0 < (bs (tokL ts)).size → v = .pointer (some ⟨g5, j, none⟩))
                  | 21 => (0 < (bs (tokL ts)).size → v = .string (bs (tokL ts)))
                  | 22 => (0 < (bs (tokL ts)).size → v = .slice (some ⟨g5, 0, none⟩) T.length c5)
                  | 23 => (0 < (bs (tokL ts)).size → v = .int .i64 (j : Int))
                  | 24 => (0 < (bs (tokL ts)).size → v = .pointer (some ⟨g5, j, none⟩))
                  | 25 => (0 < (bs (tokL ts)).size → v = .string (bs (tokL ts)))
                  | 26 => (0 < (bs (tokL ts)).size → v = .int .i64 ((bs (tokL ts)).size : Int))
                  | 27 => (0 < (bs (tokL ts)).size → v = .int .i64 (((bs (tokL ts)).size : Int) - 1))
                  | 28 => (0 < (bs (tokL ts)).size → v = .int .u8 (lastB (tokL ts) : Int))
                  | 29 => (0 < (bs (tokL ts)).size → v = .bool false)
                  | 30 => v = .bool false
                  | 31 => v = .bool false
                  | _ => True) ?mkP ?hmkP (fun _ _ _ _ h _ => h) ?hsP ?hendP
              case hmkP =>
                intro X
                simp only [fillA, fillO, List.setIfInBounds_toArray, List.set_cons_succ, List.set_cons_zero, Nat.zero_add, Nat.reduceAdd]
                rfl
              case hsP =>
                refine ⟨?Pz0, ?Pz1, ?Pz2, ?Pz3, ?Pz4, ?Pz5, ?Pz6, ?Pz7, ?Pz8, ?Pz9, ?Pz10, ?Pz11, ?Pz12, ?Pz13, ?Pz14, ?Pz15, ?Pz16, ?Pz17, ?Pz18, ?Pz19, ?Pz20, ?Pz21, ?Pz22, ?Pz23, ?Pz24, ?Pz25, ?Pz26, ?Pz27, ?Pz28, ?Pz29, ?Pz30, ?Pz31, trivial⟩
                case Pz0 =>
                  intro X w8 hb f K' hK
                  clear f
                  simp only [Act.put, List.setIfInBounds_toArray, List.set_cons_succ, List.set_cons_zero] at hK
                  go_simp
                  exact hK _ _ rfl (Below.refl _ _)
                case Pz1 =>
                  intro X w8 hb f K' hK
                  simp only [List.foldr_cons, List.foldr_nil, and_true, true_and] at f
                  have e0 := f
                  clear f
                  simp only [Act.put, List.setIfInBounds_toArray, List.set_cons_succ, List.set_cons_zero, e0] at hK
                  go_simp
                  exact hK _ _ rfl (Below.refl _ _)
                case Pz2 =>
                  intro X w8 hb f K' hK
                  simp only [List.foldr_cons, List.foldr_nil, and_true, true_and] at f
                  have e1 := f
                  clear f
                  simp only [Act.put, List.setIfInBounds_toArray, List.set_cons_succ, List.set_cons_zero, e1] at hK
                  go_simp
                  exact hK _ _ rfl (Below.refl _ _)
                case Pz3 =>
                  intro X w8 hb f K' hK
                  simp only [List.foldr_cons, List.foldr_nil, and_true, true_and] at f
                  have e2 := f
                  clear f
                  simp only [Act.put, List.setIfInBounds_toArray, List.set_cons_succ, List.set_cons_zero, e2] at hK
                  go_simp
                  exact hK _ _ rfl (Below.refl _ _)
                case Pz4 =>
                  intro X w8 hb f K' hK
                  simp only [List.foldr_cons, List.foldr_nil, and_true, true_and] at f
                  have e2 := f
                  clear f
                  simp only [Act.put, List.setIfInBounds_toArray, List.set_cons_succ, List.set_cons_zero, e2] at hK
                  go_simp
                  exact hK _ _ rfl (Below.refl _ _)
                case Pz5 =>
                  intro X w8 hb f K' hK
                  simp only [List.foldr_cons, List.foldr_nil, and_true, true_and] at f
                  obtain ⟨e4, e2⟩ := f
                  simp only [Act.put, List.setIfInBounds_toArray, List.set_cons_succ, List.set_cons_zero, e4, e2] at hK
                  go_simp
                  exact hK _ _ rfl (Below.refl _ _)
                case Pz6 =>
                  intro X w8 hb f K' hK
                  simp only [List.foldr_cons, List.foldr_nil, and_true, true_and] at f
                  obtain ⟨e3, e5, e2⟩ := f
                  simp only [Act.put, List.setIfInBounds_toArray, List.set_cons_succ, List.set_cons_zero, e3, e5, e2] at hK
                  go_simp
                  exact hK _ _ rfl (Below.refl _ _)
                case Pz7 =>
                  intro X w8 hb f K' hK
                  simp only [List.foldr_cons, List.foldr_nil, and_true, true_and] at f
                  have e2 := f
                  clear f
                  simp only [Act.put, List.setIfInBounds_toArray, List.set_cons_succ, List.set_cons_zero, e2] at hK
                  go_simp
                  exact hK _ _ rfl (Below.refl _ _)
                case Pz8 =>
                  intro X w8 hb f K' hK
                  simp only [List.foldr_cons, List.foldr_nil, and_true, true_and] at f
                  obtain ⟨e6, e7, e2⟩ := f
                  simp only [Act.put, List.setIfInBounds_toArray, List.set_cons_succ, List.set_cons_zero, e6, e7, e2] at hK
                  go_simp
                  exact hK _ _ rfl (Below.refl _ _)
                case Pz9 =>
                  intro X w8 hb f K' hK
                  simp only [List.foldr_cons, List.foldr_nil, and_true, true_and] at f
                  obtain ⟨e2, e8⟩ := f
                  simp only [Act.put, List.setIfInBounds_toArray, List.set_cons_succ, List.set_cons_zero, e2, e8] at hK
                  go_simp
                  exact hK _ _ rfl (Below.refl _ _)
                case Pz10 =>
                  intro X w8 hb f K' hK
                  simp only [List.foldr_cons, List.foldr_nil, and_true, true_and] at f
                  obtain ⟨e9, e2⟩ := f
                  simp only [Act.put, List.setIfInBounds_toArray, List.set_cons_succ, List.set_cons_zero, e9, e2] at hK
                  go_simp
                  exact hK _ _ rfl (Below.refl _ _)
                case Pz11 =>
                  intro X w8 hb f K' hK
                  simp only [List.foldr_cons, List.foldr_nil, and_true, true_and] at f
                  have e10 := f
                  clear f
                  simp only [Act.put, List.setIfInBounds_toArray, List.set_cons_succ, List.set_cons_zero, e10] at hK
                  go_simp
                  exact hK _ _ rfl (Below.refl _ _)
                case Pz12 =>
                  intro X w8 hb f K' hK
                  simp only [List.foldr_cons, List.foldr_nil, and_true, true_and] at f
                  have e10 := f
                  clear f
                  simp only [Act.put, List.setIfInBounds_toArray, List.set_cons_succ, List.set_cons_zero, e10] at hK
                  go_simp
                  exact hK _ _ rfl (Below.refl _ _)
                case Pz13 =>
                  intro X w8 hb f K' hK
                  simp only [List.foldr_cons, List.foldr_nil, and_true, true_and] at f
                  obtain ⟨e11, e12, e10⟩ := f
                  simp only [Act.put, List.setIfInBounds_toArray, List.set_cons_succ, List.set_cons_zero, e11, e12, e10] at hK
                  go_simp
                  exact hK _ _ rfl (Below.refl _ _)
                case Pz14 =>
                  intro X w8 hb f K' hK
                  simp only [List.foldr_cons, List.foldr_nil, and_true, true_and] at f
                  obtain ⟨e13, e10⟩ := f
                  have c8 := below_cell hb c6
                  simp only [Act.put, List.setIfInBounds_toArray, List.set_cons_succ, List.set_cons_zero, e13, e10] at hK
                  go_simp
                  exact hK _ _ rfl (Below.refl _ _)
                case Pz15 =>
                  intro X w8 hb f K' hK
                  simp only [List.foldr_cons, List.foldr_nil, and_true, true_and] at f
                  obtain ⟨e14, e10⟩ := f
                  simp only [Act.put, List.setIfInBounds_toArray, List.set_cons_succ, List.set_cons_zero, e14, e10] at hK
                  go_simp
                  exact hK _ _ rfl (Below.refl _ _)
                case Pz16 =>
                  intro X w8 hb f K' hK
                  simp only [List.foldr_cons, List.foldr_nil, and_true, true_and] at f
                  obtain ⟨e15, e10⟩ := f
                  simp only [Act.put, List.setIfInBounds_toArray, List.set_cons_succ, List.set_cons_zero, e15, e10] at hK
                  go_simp
                  exact hK _ _ rfl (Below.refl _ _)
                case Pz17 =>
                  intro X w8 hb f K' hK
                  simp only [List.foldr_cons, List.foldr_nil, and_true, true_and] at f
                  obtain ⟨e16, e10, -⟩ := f
                  simp only [Act.put, List.setIfInBounds_toArray, List.set_cons_succ, List.set_cons_zero, e16, e10] at hK
                  go_simp
                  exact hK _ _ rfl (Below.refl _ _)
                case Pz18 =>
                  intro X w8 hb f K' hK
                  simp only [List.foldr_cons, List.foldr_nil, and_true, true_and] at f
                  have e17 := f
                  clear f
                  by_cases h0 : 0 < (bs (tokL ts)).size
                  · rw [decide_eq_true h0] at e17
                    simp only [Act.put, List.setIfInBounds_toArray, List.set_cons_succ, List.set_cons_zero, e17] at hK
                    go_simp
                    exact hK _ _ (fun _ => rfl) (Below.refl _ _)
                  · rw [decide_eq_false h0] at e17
                    simp only [Act.put, List.setIfInBounds_toArray, List.set_cons_succ, List.set_cons_zero, e17] at hK
                    go_simp
                    exact hK _ _ (fun h => absurd h h0) (Below.refl _ _)
                case Pz19 =>
                  intro X w8 hb f K' hK
                  simp only [List.foldr_cons, List.foldr_nil, and_true, true_and] at f
                  have e17 := f
                  clear f
                  by_cases h0 : 0 < (bs (tokL ts)).size
                  · rw [decide_eq_true h0] at e17
                    simp only [Act.put, List.setIfInBounds_toArray, List.set_cons_succ, List.set_cons_zero, e17] at hK
                    go_simp
                    exact hK _ _ (fun _ => rfl) (Below.refl _ _)
                  · rw [decide_eq_false h0] at e17
                    simp only [Act.put, List.setIfInBounds_toArray, List.set_cons_succ, List.set_cons_zero, e17] at hK
                    go_simp
                    exact hK _ _ (fun h => absurd h h0) (Below.refl _ _)
                case Pz20 =>
                  intro X w8 hb f K' hK
                  simp only [List.foldr_cons, List.foldr_nil, and_true, true_and] at f
                  obtain ⟨e18, e19, e17⟩ := f
                  by_cases h0 : 0 < (bs (tokL ts)).size
                  · rw [decide_eq_true h0] at e17
                    have e18' := e18 h0
                    have e19' := e19 h0
                    simp only [Act.put, List.setIfInBounds_toArray, List.set_cons_succ, List.set_cons_zero, e17, e18', e19'] at hK
                    go_simp
                    exact hK _ _ (fun _ => rfl) (Below.refl _ _)
                  · rw [decide_eq_false h0] at e17
                    simp only [Act.put, List.setIfInBounds_toArray, List.set_cons_succ, List.set_cons_zero, e17] at hK
                    go_simp
                    exact hK _ _ (fun h => absurd h h0) (Below.refl _ _)
                case Pz21 =>
                  intro X w8 hb f K' hK
                  simp only [List.foldr_cons, List.foldr_nil, and_true, true_and] at f
                  obtain ⟨e20, e17⟩ := f
                  by_cases h0 : 0 < (bs (tokL ts)).size
                  · rw [decide_eq_true h0] at e17
                    have e20' := e20 h0
                    have c8 := below_cell hb c6
                    simp only [Act.put, List.setIfInBounds_toArray, List.set_cons_succ, List.set_cons_zero, e17, e20'] at hK
                    go_simp
                    exact hK _ _ (fun _ => rfl) (Below.refl _ _)
                  · rw [decide_eq_false h0] at e17
                    simp only [Act.put, List.setIfInBounds_toArray, List.set_cons_succ, List.set_cons_zero, e17] at hK
                    go_simp
                    exact hK _ _ (fun h => absurd h h0) (Below.refl _ _)
                case Pz22 =>
                  intro X w8 hb f K' hK
                  simp only [List.foldr_cons, List.foldr_nil, and_true, true_and] at f
                  have e17 := f
                  clear f
                  by_cases h0 : 0 < (bs (tokL ts)).size
                  · rw [decide_eq_true h0] at e17
                    simp only [Act.put, List.setIfInBounds_toArray, List.set_cons_succ, List.set_cons_zero, e17] at hK
                    go_simp
                    exact hK _ _ (fun _ => rfl) (Below.refl _ _)
                  · rw [decide_eq_false h0] at e17
                    simp only [Act.put, List.setIfInBounds_toArray, List.set_cons_succ, List.set_cons_zero, e17] at hK
                    go_simp
                    exact hK _ _ (fun h => absurd h h0) (Below.refl _ _)
                case Pz23 =>
                  intro X w8 hb f K' hK
                  simp only [List.foldr_cons, List.foldr_nil, and_true, true_and] at f
                  have e17 := f
                  clear f
                  by_cases h0 : 0 < (bs (tokL ts)).size
                  · rw [decide_eq_true h0] at e17
                    simp only [Act.put, List.setIfInBounds_toArray, List.set_cons_succ, List.set_cons_zero, e17] at hK
                    go_simp
                    exact hK _ _ (fun _ => rfl) (Below.refl _ _)
                  · rw [decide_eq_false h0] at e17
                    simp only [Act.put, List.setIfInBounds_toArray, List.set_cons_succ, List.set_cons_zero, e17] at hK
                    go_simp
                    exact hK _ _ (fun h => absurd h h0) (Below.refl _ _)
                case Pz24 =>
                  intro X w8 hb f K' hK
                  simp only [List.foldr_cons, List.foldr_nil, and_true, true_and] at f
                  obtain ⟨e22, e23, e17⟩ := f
                  by_cases h0 : 0 < (bs (tokL ts)).size
                  · rw [decide_eq_true h0] at e17
                    have e22' := e22 h0
                    have e23' := e23 h0
                    simp only [Act.put, List.setIfInBounds_toArray, List.set_cons_succ, List.set_cons_zero, e17, e22', e23'] at hK
                    go_simp
                    exact hK _ _ (fun _ => rfl) (Below.refl _ _)
                  · rw [decide_eq_false h0] at e17
                    simp only [Act.put, List.setIfInBounds_toArray, List.set_cons_succ, List.set_cons_zero, e17] at hK
                    go_simp
                    exact hK _ _ (fun h => absurd h h0) (Below.refl _ _)
                case Pz25 =>
                  intro X w8 hb f K' hK
                  simp only [List.foldr_cons, List.foldr_nil, and_true, true_and] at f
                  obtain ⟨e24, e17⟩ := f
                  by_cases h0 : 0 < (bs (tokL ts)).size
                  · rw [decide_eq_true h0] at e17
                    have e24' := e24 h0
                    have c8 := below_cell hb c6
                    simp only [Act.put, List.setIfInBounds_toArray, List.set_cons_succ, List.set_cons_zero, e17, e24'] at hK
                    go_simp
                    exact hK _ _ (fun _ => rfl) (Below.refl _ _)
                  · rw [decide_eq_false h0] at e17
                    simp only [Act.put, List.setIfInBounds_toArray, List.set_cons_succ, List.set_cons_zero, e17] at hK
                    go_simp
                    exact hK _ _ (fun h => absurd h h0) (Below.refl _ _)
                case Pz26 =>
                  intro X w8 hb f K' hK
                  simp only [List.foldr_cons, List.foldr_nil, and_true, true_and] at f
                  obtain ⟨e25, e17⟩ := f
                  by_cases h0 : 0 < (bs (tokL ts)).size
                  · rw [decide_eq_true h0] at e17
                    have e25' := e25 h0
                    simp only [Act.put, List.setIfInBounds_toArray, List.set_cons_succ, List.set_cons_zero, e17, e25'] at hK
                    go_simp
                    exact hK _ _ (fun _ => rfl) (Below.refl _ _)
                  · rw [decide_eq_false h0] at e17
                    simp only [Act.put, List.setIfInBounds_toArray, List.set_cons_succ, List.set_cons_zero, e17] at hK
                    go_simp
                    exact hK _ _ (fun h => absurd h h0) (Below.refl _ _)
                case Pz27 =>
                  intro X w8 hb f K' hK
                  simp only [List.foldr_cons, List.foldr_nil, and_true, true_and] at f
                  obtain ⟨e26, e17⟩ := f
                  by_cases h0 : 0 < (bs (tokL ts)).size
                  · rw [decide_eq_true h0] at e17
                    have e26' := e26 h0
                    have hz8 := HSZ2.out
                    have hwz : IntKind.i64.wrap (((bs (tokL ts)).size : Int) - 1) = ((bs (tokL ts)).size : Int) - 1 := wrap_in (by omega) (by omega)
                    simp only [Act.put, List.setIfInBounds_toArray, List.set_cons_succ, List.set_cons_zero, e17, e26'] at hK
                    go_simp
                    exact hK _ _ (fun _ => rfl) (Below.refl _ _)
                  · rw [decide_eq_false h0] at e17
                    simp only [Act.put, List.setIfInBounds_toArray, List.set_cons_succ, List.set_cons_zero, e17] at hK
                    go_simp
                    exact hK _ _ (fun h => absurd h h0) (Below.refl _ _)
                case Pz28 =>
                  intro X w8 hb f K' hK
                  simp only [List.foldr_cons, List.foldr_nil, and_true, true_and] at f
                  obtain ⟨e21, e27, e17⟩ := f
                  by_cases h0 : 0 < (bs (tokL ts)).size
                  · rw [decide_eq_true h0] at e17
                    have e21' := e21 h0
                    have e27' := e27 h0
                    obtain ⟨Z, hlt2, hz1, hbb2, hbne⟩ := HLB.out (by omega)
                    rw [hz1] at e27'
                    have hzz : (Z : Int) < ((bs (tokL ts)).size : Int) := by omega
                    simp only [Act.put, List.setIfInBounds_toArray, List.set_cons_succ, List.set_cons_zero, e17, e21', e27'] at hK
                    go_simp
                    exact hK _ _ (fun _ => rfl) (Below.refl _ _)
                  · rw [decide_eq_false h0] at e17
                    simp only [Act.put, List.setIfInBounds_toArray, List.set_cons_succ, List.set_cons_zero, e17] at hK
                    go_simp
                    exact hK _ _ (fun h => absurd h h0) (Below.refl _ _)
                case Pz29 =>
                  intro X w8 hb f K' hK
                  simp only [List.foldr_cons, List.foldr_nil, and_true, true_and] at f
                  obtain ⟨e28, e17⟩ := f
                  by_cases h0 : 0 < (bs (tokL ts)).size
                  · rw [decide_eq_true h0] at e17
                    have e28' := e28 h0
                    obtain ⟨Z, hlt2, hz1, hbb2, hbne⟩ := HLB.out (by omega)
                    simp only [Act.put, List.setIfInBounds_toArray, List.set_cons_succ, List.set_cons_zero, e17, e28'] at hK
                    go_simp
                    exact hK _ _ (fun _ => rfl) (Below.refl _ _)
                  · rw [decide_eq_false h0] at e17
                    simp only [Act.put, List.setIfInBounds_toArray, List.set_cons_succ, List.set_cons_zero, e17] at hK
                    go_simp
                    exact hK _ _ (fun h => absurd h h0) (Below.refl _ _)
                case Pz30 =>
                  intro X w8 hb f K' hK
                  simp only [List.foldr_cons, List.foldr_nil, and_true, true_and] at f
                  obtain ⟨e17, e29, e10⟩ := f
                  by_cases h0 : 0 < (bs (tokL ts)).size
                  · rw [decide_eq_true h0] at e17
                    have e29' := e29 h0
                    simp only [Act.put, List.setIfInBounds_toArray, List.set_cons_succ, List.set_cons_zero, e17, e10, e29'] at hK
                    go_simp
                    exact hK _ _ rfl (Below.refl _ _)
                  · rw [decide_eq_false h0] at e17
                    simp only [Act.put, List.setIfInBounds_toArray, List.set_cons_succ, List.set_cons_zero, e17, e10] at hK
                    go_simp
                    exact hK _ _ rfl (Below.refl _ _)
                case Pz31 =>
                  intro X w8 hb f K' hK
                  simp only [List.foldr_cons, List.foldr_nil, and_true, true_and] at f
                  obtain ⟨e10, e30⟩ := f
                  simp only [Act.put, List.setIfInBounds_toArray, List.set_cons_succ, List.set_cons_zero, e10, e30] at hK
                  go_simp
                  exact hK _ _ rfl (Below.refl _ _)
              case hendP =>
                intro X w8 hb8 hf
                have hq : X 31 = .bool false := hf 31 (by decide)
                clear hf
                simp only [hq]
                clear hq
                have B8 := Lib.hid (B6.out.trans (hb8.mono B6.out.size))
                have c8 := below_cell hb8 c6
                have p8 := below_cell B8.out p2
                obtain ⟨-, hn8⟩ := (N6.out.below hb8).one
                obtain ⟨-, hr8⟩ := (R5.out.below B8.out).one
                have HN8 := Lib.hid hn8
                have HR8 := Lib.hid hr8
                have C8 := Lib.hid c8
                have hcc6 : ts.length ≤ c6' := by have := N6.out.le; simpa using this
                clear hb8 hn8 hr8 c6
                go_wp2_with fail
                go_loopw [15] (fun i wq => ∃ q : Nat, q ≤ ts.length ∧ i = .int .i64 (q : Int) ∧ RowKit.Hid (Below w8.heap.size w8 wq)) (fun i _ => ts.length - (RowKit.intOf i).toNat)
                case atStart => exact ⟨0, Nat.zero_le _, rfl, Below.refl _ _⟩
                case round =>
                  obtain ⟨q, hq, rfl, hbq⟩ := hrel
                  by_cases hlt : q < ts.length
                  · first
                    | fail
                    | (obtain ⟨x, hx⟩ : ∃ x, (ts.map Prod.snd)[q]? = some x := ⟨_, List.getElem?_eq_getElem (by simpa using hlt)⟩
                       have hxd := seg_at HSN.out HTS.out hx
                       rw [← HC.out] at hxd
                       obtain ⟨b1, o1, rfl, -, -, hc1⟩ := HN8.out (by simp; omega)
                       obtain ⟨b3, o3, rfl, -, -, hc3⟩ := HR8.out (by omega)
                       have cx := below_cell hbq.out (hc1 q x hx)
                       have cy := below_cell hbq.out (hc3 (C + q) x hxd)
                       have pq := below_cell hbq.out p8
                       have q8 : (q : Int) < (ts.length : Int) := by omega
                       have q9 : (C : Int) + (q : Int) < (k : Int) := by omega
                       have q10 : IntKind.i64.wrap ((C : Int) + (q : Int)) = (C : Int) + (q : Int) := wrap_in (by omega) (by omega)
                       have HQ := Lib.hid (show q + 1 ≤ ts.length from hlt)
                       clear hx hxd hc1 hc3 hlt
                       go_wp2_with fail
                       go_quiet (fail)
                       go_wp2
                       go_roundw
                       case rel => exact ⟨q + 1, HQ.out, by go_num, below_drewN hbq.out _⟩
                       case measure => have := HQ.out; simp [RowKit.intOf]; omega)
                  · have hqe : q = ts.length := by omega
                    subst hqe
                    have BQ := Lib.hid (B8.out.trans (hbq.out.mono B8.out.size))
                    have cq := below_cell hbq.out C8.out
                    have hcw : IntKind.i64.wrap ((C : Int) + (ts.length : Int)) = (C : Int) + (ts.length : Int) := wrap_in (by omega) (by omega)
                    clear c8 p8
                    go_upto_region 32 with fail
                    by_cases hs2 : s.length = 2
                    · obtain ⟨t0, ht0⟩ : ∃ t0, T[0]? = some t0 := ⟨_, List.getElem?_eq_getElem (by have := HJ.out; omega)⟩
                      obtain ⟨g0, hg0, hc0⟩ := (T5.out.below BQ.out).at_ (k := 0) (t := tokL t0) (by simp [ht0])
                      injection hg0 with hg0
                      injection hg0 with hg0 _ _
                      subst hg0
                      have hmem := List.mem_of_getElem? ht0
                      have hsz0 := tok_size t0 fun t ht => ⟨HPD.out t0 hmem t ht, HDI.out _ (seg_mem HSN.out ht0 ht)⟩
                      have hcl0 := seg_le HSN.out ht0
                      have hdl2 : da.length = k := HDL.out
                      have hz0 : (tokL t0).length ≤ 8600 := by omega
                      have hz1 := HSZ.out
                      have HSE := Lib.hid (HSG.out hs2 j (tokL ts) (tokL t0) (by simp [HTS.out]) (by simp [ht0]))
                      obtain ⟨SG, hSG⟩ : ∃ SG, SG = signs (tokL t0) := ⟨_, rfl⟩
                      have HG2 := Lib.hid hSG
                      have HG1 : RowKit.Hid (SG = signs (tokL ts)) := by show _ = _; rw [hSG, HSE.out]
                      have HS2 : RowKit.Hid (((s.length : Int) == 2) = true) := by show _ = _; rw [hs2]; rfl
                      have HT0 : RowKit.Hid (0 < T.length) := by show _ < _; have := HJ.out; omega
                      clear ht0 hmem hsz0 hcl0 hdl2 hSG hs2
                      refine wp_region_facts (by kernel_rfl) (by kernel_rfl) (fun i v _ => match i with
                          | 0 => v = .slice A s.length c
                          | 1 => v = .int .i64 (s.length : Int)
                          | 2 => v = .bool ((s.length : Int) == 2)
                          | 3 => v = .bool ((s.length : Int) == 2)
                          | 4 => v = .slice (some ⟨g5, 0, none⟩) T.length c5
                          | 5 => v = .int .i64 (j : Int)
                          | 6 => v = .pointer (some ⟨g5, j, none⟩)
                          | 7 => v = .string (bs (tokL ts))
                          | 8 => v = .int .i64 (SG : Int)
                          | 9 => v = .slice (some ⟨g5, 0, none⟩) T.length c5
                          | 10 => v = .pointer (some ⟨g5, 0, none⟩)
                          | 11 => v = .string (bs (tokL t0))
                          | 12 => v = .int .i64 (SG : Int)
                          | 13 => v = .bool false
                          | 14 => v = .bool false
                          | _ => True) ?mkS ?hmkS (fun _ _ _ _ h _ => h) ?hsS ?hendS
                      case hmkS =>
                        intro X
                        simp only [fillA, fillO, List.setIfInBounds_toArray, List.set_cons_succ, List.set_cons_zero, Nat.zero_add, Nat.reduceAdd]
                        rfl
                      case hsS =>
                        refine ⟨?Sz0, ?Sz1, ?Sz2, ?Sz3, ?Sz4, ?Sz5, ?Sz6, ?Sz7, ?Sz8, ?Sz9, ?Sz10, ?Sz11, ?Sz12, ?Sz13, ?Sz14, trivial⟩
                        case Sz0 =>
                          intro X w8 hb f K' hK
                          clear f
                          simp only [Act.put, List.setIfInBounds_toArray, List.set_cons_succ, List.set_cons_zero] at hK
                          go_simp
                          exact hK _ _ rfl (Below.refl _ _)
                        case Sz1 =>
                          intro X w8 hb f K' hK
                          simp only [List.foldr_cons, List.foldr_nil, and_true, true_and] at f
                          have e0 := f
                          clear f
                          simp only [Act.put, List.setIfInBounds_toArray, List.set_cons_succ, List.set_cons_zero, e0] at hK
                          go_simp
                          exact hK _ _ rfl (Below.refl _ _)
                        case Sz2 =>
                          intro X w8 hb f K' hK
                          simp only [List.foldr_cons, List.foldr_nil, and_true, true_and] at f
                          have e1 := f
                          clear f
                          simp only [Act.put, List.setIfInBounds_toArray, List.set_cons_succ, List.set_cons_zero, e1] at hK
                          go_simp
                          exact hK _ _ rfl (Below.refl _ _)
                        case Sz3 =>
                          intro X w8 hb f K' hK
                          simp only [List.foldr_cons, List.foldr_nil, and_true, true_and] at f
                          have e2 := f
                          clear f
                          simp only [Act.put, List.setIfInBounds_toArray, List.set_cons_succ, List.set_cons_zero, e2] at hK
                          go_simp
                          exact hK _ _ rfl (Below.refl _ _)
                        case Sz4 =>
                          intro X w8 hb f K' hK
                          simp only [List.foldr_cons, List.foldr_nil, and_true, true_and] at f
                          have e3 := f
                          clear f
                          rw [HS2.out] at e3
                          simp only [Act.put, List.setIfInBounds_toArray, List.set_cons_succ, List.set_cons_zero, e3] at hK
                          go_simp
                          exact hK _ _ rfl (Below.refl _ _)
                        case Sz5 =>
                          intro X w8 hb f K' hK
                          simp only [List.foldr_cons, List.foldr_nil, and_true, true_and] at f
                          have e3 := f
                          clear f
                          rw [HS2.out] at e3
                          simp only [Act.put, List.setIfInBounds_toArray, List.set_cons_succ, List.set_cons_zero, e3] at hK
                          go_simp
                          exact hK _ _ rfl (Below.refl _ _)
                        case Sz6 =>
                          intro X w8 hb f K' hK
                          simp only [List.foldr_cons, List.foldr_nil, and_true, true_and] at f
                          obtain ⟨e4, e5, e3⟩ := f
                          rw [HS2.out] at e3
                          simp only [Act.put, List.setIfInBounds_toArray, List.set_cons_succ, List.set_cons_zero, e4, e5, e3] at hK
                          go_simp
                          exact hK _ _ rfl (Below.refl _ _)
                        case Sz7 =>
                          intro X w8 hb f K' hK
                          simp only [List.foldr_cons, List.foldr_nil, and_true, true_and] at f
                          obtain ⟨e6, e3⟩ := f
                          rw [HS2.out] at e3
                          have c9 := below_cell hb cq
                          simp only [Act.put, List.setIfInBounds_toArray, List.set_cons_succ, List.set_cons_zero, e6, e3] at hK
                          go_simp
                          exact hK _ _ rfl (Below.refl _ _)
                        case Sz8 =>
                          intro X w8 hb f K' hK
                          simp only [List.foldr_cons, List.foldr_nil, and_true, true_and] at f
                          obtain ⟨e7, e3, -⟩ := f
                          rw [HS2.out] at e3
                          simp only [Act.put, List.setIfInBounds_toArray, List.set_cons_succ, List.set_cons_zero, e7, e3] at hK
                          go_simp
                          go_at_call 11
                          refine (rSigns05_any (tokL ts) w8 (by omega)).mono ?_
                          rintro e w9 ⟨rfl, rfl⟩
                          exact hK _ _ (by rw [← HG1.out]) (Below.refl _ _)
                        case Sz9 =>
                          intro X w8 hb f K' hK
                          simp only [List.foldr_cons, List.foldr_nil, and_true, true_and] at f
                          have e3 := f
                          clear f
                          rw [HS2.out] at e3
                          simp only [Act.put, List.setIfInBounds_toArray, List.set_cons_succ, List.set_cons_zero, e3] at hK
                          go_simp
                          exact hK _ _ rfl (Below.refl _ _)
                        case Sz10 =>
                          intro X w8 hb f K' hK
                          simp only [List.foldr_cons, List.foldr_nil, and_true, true_and] at f
                          obtain ⟨e9, e3⟩ := f
                          rw [HS2.out] at e3
                          have hT0 := HT0.out
                          simp only [Act.put, List.setIfInBounds_toArray, List.set_cons_succ, List.set_cons_zero, e9, e3] at hK
                          go_simp
                          exact hK _ _ rfl (Below.refl _ _)
                        case Sz11 =>
                          intro X w8 hb f K' hK
                          simp only [List.foldr_cons, List.foldr_nil, and_true, true_and] at f
                          obtain ⟨e10, e3⟩ := f
                          rw [HS2.out] at e3
                          have c9 := below_cell hb hc0
                          simp only [Act.put, List.setIfInBounds_toArray, List.set_cons_succ, List.set_cons_zero, e10, e3] at hK
                          go_simp
                          exact hK _ _ rfl (Below.refl _ _)
                        case Sz12 =>
                          intro X w8 hb f K' hK
                          simp only [List.foldr_cons, List.foldr_nil, and_true, true_and] at f
                          obtain ⟨e11, e8, e3⟩ := f
                          rw [HS2.out] at e3
                          simp only [Act.put, List.setIfInBounds_toArray, List.set_cons_succ, List.set_cons_zero, e11, e8, e3] at hK
                          go_simp
                          go_at_call 11
                          refine (rSigns05_any (tokL t0) w8 (by omega)).mono ?_
                          rintro e w9 ⟨rfl, rfl⟩
                          exact hK _ _ (by rw [← HG2.out]) (Below.refl _ _)
                        case Sz13 =>
                          intro X w8 hb f K' hK
                          simp only [List.foldr_cons, List.foldr_nil, and_true, true_and] at f
                          obtain ⟨e8, e12, e3⟩ := f
                          rw [HS2.out] at e3
                          simp only [Act.put, List.setIfInBounds_toArray, List.set_cons_succ, List.set_cons_zero, e8, e12, e3] at hK
                          go_simp
                          exact hK _ _ rfl (Below.refl _ _)
                        case Sz14 =>
                          intro X w8 hb f K' hK
                          simp only [List.foldr_cons, List.foldr_nil, and_true, true_and] at f
                          obtain ⟨e3, e13⟩ := f
                          rw [HS2.out] at e3
                          simp only [Act.put, List.setIfInBounds_toArray, List.set_cons_succ, List.set_cons_zero, e3, e13] at hK
                          go_simp
                          exact hK _ _ rfl (Below.refl _ _)
                      case hendS =>
                        intro X9 w9 hb9 hf
                        have hq9 : X9 14 = .bool false := hf 14 (by decide)
                        clear hf
                        simp only [hq9]
                        clear hq9
                        have B9 := Lib.hid (BQ.out.trans (hb9.mono BQ.out.size))
                        clear hb9 cq hc0
                        go_wp2
                        go_roundw
                        case rel => exact ⟨j + 1, HJ.out, by go_num, by rw [HCS.out]; go_num, B9.out⟩
                        case measure => have := HJ.out; simp [RowKit.intOf]; omega
                    · have HS2 : RowKit.Hid (((s.length : Int) == 2) = false) := by show _ = _; rw [beq_eq_false_iff_ne]; omega
                      clear hs2
                      refine wp_region_facts (by kernel_rfl) (by kernel_rfl) (fun i v _ => match i with
                          | 0 => v = .slice A s.length c
                          | 1 => v = .int .i64 (s.length : Int)
                          | 2 => v = .bool ((s.length : Int) == 2)
                          | 3 => v = .bool ((s.length : Int) == 2)
                          | 4 => True
                          | 5 => True
                          | 6 => True
                          | 7 => True
                          | 8 => True
                          | 9 => True
                          | 10 => True
                          | 11 => True
                          | 12 => True
                          | 13 => True
                          | 14 => v = .bool false
                          | _ => True) ?mkR ?hmkR (fun _ _ _ _ h _ => h) ?hsR ?hendR
                      case hmkR =>
                        intro X
                        simp only [fillA, fillO, List.setIfInBounds_toArray, List.set_cons_succ, List.set_cons_zero, Nat.zero_add, Nat.reduceAdd]
                        rfl
                      case hsR =>
                        refine ⟨?Rz0, ?Rz1, ?Rz2, ?Rz3, ?Rz4, ?Rz5, ?Rz6, ?Rz7, ?Rz8, ?Rz9, ?Rz10, ?Rz11, ?Rz12, ?Rz13, ?Rz14, trivial⟩
                        case Rz0 =>
                          intro X w8 hb f K' hK
                          clear f
                          simp only [Act.put, List.setIfInBounds_toArray, List.set_cons_succ, List.set_cons_zero] at hK
                          go_simp
                          exact hK _ _ rfl (Below.refl _ _)
                        case Rz1 =>
                          intro X w8 hb f K' hK
                          simp only [List.foldr_cons, List.foldr_nil, and_true, true_and] at f
                          have e0 := f
                          clear f
                          simp only [Act.put, List.setIfInBounds_toArray, List.set_cons_succ, List.set_cons_zero, e0] at hK
                          go_simp
                          exact hK _ _ rfl (Below.refl _ _)
                        case Rz2 =>
                          intro X w8 hb f K' hK
                          simp only [List.foldr_cons, List.foldr_nil, and_true, true_and] at f
                          have e1 := f
                          clear f
                          simp only [Act.put, List.setIfInBounds_toArray, List.set_cons_succ, List.set_cons_zero, e1] at hK
                          go_simp
                          exact hK _ _ rfl (Below.refl _ _)
                        case Rz3 =>
                          intro X w8 hb f K' hK
                          simp only [List.foldr_cons, List.foldr_nil, and_true, true_and] at f
                          have e2 := f
                          clear f
                          simp only [Act.put, List.setIfInBounds_toArray, List.set_cons_succ, List.set_cons_zero, e2] at hK
                          go_simp
                          exact hK _ _ rfl (Below.refl _ _)
                        case Rz4 =>
                          intro X w8 hb f K' hK
                          simp only [List.foldr_cons, List.foldr_nil, and_true, true_and] at f
                          have e3 := f
                          clear f
                          rw [HS2.out] at e3
                          simp only [Act.put, List.setIfInBounds_toArray, List.set_cons_succ, List.set_cons_zero, e3] at hK
                          go_simp
                          exact hK _ _ trivial (Below.refl _ _)
                        case Rz5 =>
                          intro X w8 hb f K' hK
                          simp only [List.foldr_cons, List.foldr_nil, and_true, true_and] at f
                          have e3 := f
                          clear f
                          rw [HS2.out] at e3
                          simp only [Act.put, List.setIfInBounds_toArray, List.set_cons_succ, List.set_cons_zero, e3] at hK
                          go_simp
                          exact hK _ _ trivial (Below.refl _ _)
                        case Rz6 =>
                          intro X w8 hb f K' hK
                          simp only [List.foldr_cons, List.foldr_nil, and_true, true_and] at f
                          have e3 := f
                          clear f
                          rw [HS2.out] at e3
                          simp only [Act.put, List.setIfInBounds_toArray, List.set_cons_succ, List.set_cons_zero, e3] at hK
                          go_simp
                          exact hK _ _ trivial (Below.refl _ _)
                        case Rz7 =>
                          intro X w8 hb f K' hK
                          simp only [List.foldr_cons, List.foldr_nil, and_true, true_and] at f
                          have e3 := f
                          clear f
                          rw [HS2.out] at e3
                          simp only [Act.put, List.setIfInBounds_toArray, List.set_cons_succ, List.set_cons_zero, e3] at hK
                          go_simp
                          exact hK _ _ trivial (Below.refl _ _)
                        case Rz8 =>
                          intro X w8 hb f K' hK
                          simp only [List.foldr_cons, List.foldr_nil, and_true, true_and] at f
                          obtain ⟨e3, -⟩ := f
                          rw [HS2.out] at e3
                          simp only [Act.put, List.setIfInBounds_toArray, List.set_cons_succ, List.set_cons_zero, e3] at hK
                          go_simp
                          exact hK _ _ trivial (Below.refl _ _)
                        case Rz9 =>
                          intro X w8 hb f K' hK
                          simp only [List.foldr_cons, List.foldr_nil, and_true, true_and] at f
                          have e3 := f
                          clear f
                          rw [HS2.out] at e3
                          simp only [Act.put, List.setIfInBounds_toArray, List.set_cons_succ, List.set_cons_zero, e3] at hK
                          go_simp
                          exact hK _ _ trivial (Below.refl _ _)
                        case Rz10 =>
                          intro X w8 hb f K' hK
                          simp only [List.foldr_cons, List.foldr_nil, and_true, true_and] at f
                          have e3 := f
                          clear f
                          rw [HS2.out] at e3
                          simp only [Act.put, List.setIfInBounds_toArray, List.set_cons_succ, List.set_cons_zero, e3] at hK
                          go_simp
                          exact hK _ _ trivial (Below.refl _ _)
                        case Rz11 =>
                          intro X w8 hb f K' hK
                          simp only [List.foldr_cons, List.foldr_nil, and_true, true_and] at f
                          have e3 := f
                          clear f
                          rw [HS2.out] at e3
                          simp only [Act.put, List.setIfInBounds_toArray, List.set_cons_succ, List.set_cons_zero, e3] at hK
                          go_simp
                          exact hK _ _ trivial (Below.refl _ _)
                        case Rz12 =>
                          intro X w8 hb f K' hK
                          simp only [List.foldr_cons, List.foldr_nil, and_true, true_and] at f
                          have e3 := f
                          clear f
                          rw [HS2.out] at e3
                          simp only [Act.put, List.setIfInBounds_toArray, List.set_cons_succ, List.set_cons_zero, e3] at hK
                          go_simp
                          exact hK _ _ trivial (Below.refl _ _)
                        case Rz13 =>
                          intro X w8 hb f K' hK
                          simp only [List.foldr_cons, List.foldr_nil, and_true, true_and] at f
                          have e3 := f
                          clear f
                          rw [HS2.out] at e3
                          simp only [Act.put, List.setIfInBounds_toArray, List.set_cons_succ, List.set_cons_zero, e3] at hK
                          go_simp
                          exact hK _ _ trivial (Below.refl _ _)
                        case Rz14 =>
                          intro X w8 hb f K' hK
                          simp only [List.foldr_cons, List.foldr_nil, and_true, true_and] at f
                          have e3 := f
                          clear f
                          rw [HS2.out] at e3
                          simp only [Act.put, List.setIfInBounds_toArray, List.set_cons_succ, List.set_cons_zero, e3] at hK
                          go_simp
                          exact hK _ _ rfl (Below.refl _ _)
                      case hendR =>
                        intro X9 w9 hb9 hf
                        have hq9 : X9 14 = .bool false := hf 14 (by decide)
                        clear hf
                        simp only [hq9]
                        clear hq9
                        have B9 := Lib.hid (BQ.out.trans (hb9.mono BQ.out.size))
                        clear hb9 cq
                        go_wp2
                        go_roundw
                        case rel => exact ⟨j + 1, HJ.out, by go_num, by rw [HCS.out]; go_num, B9.out⟩
                        case measure => have := HJ.out; simp [RowKit.intOf]; omega
            · have hje : j = T.length := by omega
              subst hje
              have HA := Lib.hid (cntT_all HSN.out)
              have hcu : cntT T T.length = k := by rw [HA.out]; exact HDL.out
              rw [hcu]
              have hkk : ((k : Int) == (k : Int)) = true := by simp
              have BZ := Lib.hid (B5.out.trans (hbw.out.mono B5.out.size))
              clear hcu
              go_wp2_with fail
              refine (awake05_any wr (HT.out.below BZ.out)).mono ?_
              rintro e w9 ⟨rfl, hb9⟩
              go_wp2
              go_ret
              exact ⟨rfl, BZ.out.trans (hb9.mono BZ.out.size)⟩
end Go.Proofs.YtjkofndnhmfnoaaDoor
