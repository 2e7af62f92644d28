/-
  layout.Lines (layer 05): contract: the lines of an array, in a slice that the call makes; of one that is not right: none. Of any array that can be read.
-/
import Derived.Test.YtjkofndnhmfnoaaDoorL7
import Derived.Deep.QuietTactic
import Derived.BigQuiet
namespace Go.Proofs.YtjkofndnhmfnoaaDoor
open Go Go.RowKit

theorem Rd.take {w : World} {D : Nat → Prop} {k : IntKind} {A : Option Addr} {n c j : Nat} {s : List Int} (h : Rd w D 1 A n c (intRows k s)) (hj : j ≤ n) : Rd w D 1 A j c (intRows k (s.take j)) := by
  have hl : s.length = n := by have := h.len; simpa [intRows] using this
  refine ⟨by simp [intRows]; omega, Nat.le_trans hj h.le, h.max, fun e he => ?_, fun h0 => ?_⟩
  · obtain ⟨x, _, rfl⟩ := List.mem_map.1 he
    exact ⟨rfl, by simp [Value.oneCell']⟩
  · obtain ⟨b, off, hA, hD, hc⟩ := h.at_ (by omega)
    refine ⟨b, off, hA, hD, fun i e hi k' u hk => hc i e ?_ k' u hk⟩
    unfold intRows at hi ⊢
    rw [List.getElem?_map, List.getElem?_take] at hi
    rw [List.getElem?_map]
    split at hi
    · exact hi
    · simp at hi
def blkTo (char : Bool) (s data : List Int) (k : Nat) : List (List UInt8) := ((List.range k).map (blockL char s data)).flatten
theorem blkTo_succ (char : Bool) (s data : List Int) (k : Nat) : blkTo char s data (k + 1) = blkTo char s data k ++ blockL char s data k := by
  unfold blkTo
  rw [List.range_succ, List.map_append, List.flatten_append]
  simp
theorem blockL_eq {char : Bool} {s data : List Int} {r cc k : Nat} (hr : rowsL s = r) (hc : colsL s = cc) : blockL char s data k = gapL s k ++ matL char data (k * r * cc) r cc := by unfold blockL; rw [hr, hc]
theorem gapL_len (s : List Int) (k : Nat) : (gapL s k).length ≤ 2 := by
  unfold gapL
  split
  · simp
  · split <;> simp
theorem blkTo_len (char : Bool) (s data : List Int) (k : Nat) : (blkTo char s data k).length ≤ k * (rowsL s + 2) := by
  induction k with
  | zero => simp [blkTo]
  | succ k ih =>
    rw [blkTo_succ, List.length_append, Nat.add_mul]
    have h := gapL_len s k
    have : (blockL char s data k).length ≤ rowsL s + 2 := by unfold blockL; rw [List.length_append, matL_len]; omega
    omega
theorem prod_step {k M r cc m : Nat} (hk : k < M) (h : M * r * cc = m) : k * r * cc + r * cc ≤ m := by
  have h1 : (k + 1) * (r * cc) ≤ M * (r * cc) := Nat.mul_le_mul_right _ hk
  rw [Nat.add_mul, Nat.one_mul, ← Nat.mul_assoc, ← Nat.mul_assoc, h] at h1
  exact h1
theorem agg_fields {w : World} {x : Nat} {a b c : Value} {t : TypeId} (h : w.heap[x]? = some (.cells #[a, b, c] t (0, 0))) : w.cell? ⟨x, 0, none⟩ = some a ∧ w.cell? ⟨x, 1, none⟩ = some b ∧ w.cell? ⟨x, 2, none⟩ = some c :=
  ⟨by rw [cell_of_row w x 0 _ _ _ h]; rfl, by rw [cell_of_row w x 1 _ _ _ h]; rfl, by rw [cell_of_row w x 2 _ _ _ h]; rfl⟩

theorem lines05_bad (char : Bool) (A : Option Addr) (n c : Nat) (B : Option Addr) (m d : Nat) (s data : List Int) (D D' : Nat → Prop) (w : World) (hs : Rd w D 1 A n c (intRows .i64 s)) (hd : Rd w D' 1 B m d (intRows .i64 data)) (hi : ∀ x ∈ s, i64 x) (hr : ¬ rightL char s data) :
    Calls Tryd.prog 9 #[.agg #[.bool char, .slice A n c, .slice B m d]] w fun e w' => e = .returned (.tuple #[.slice none 0 0, .int .i64 1]) ∧ Below w.heap.size w w' := by
  have HB := Lib.hid (fun o => (Below.refl w.heap.size w).alloc (Nat.le_refl _) o)
  have HR := Lib.hid (fun w2 (hb : Below w.heap.size w w2) => right02_any char A n c B m d s data D D' w2 (hs.below hb) (hd.below hb) hi false (decide_eq_false hr).symm)
  clear hs hd hi hr
  go_enter Tryd.func9, Tryd.ntmps9
  go_wp2_with fail
  refine (HR.out _ (HB.out _)).mono ?_
  rintro e w1 ⟨rfl, hb1⟩
  have B1 := Lib.hid ((HB.out _).trans (hb1.mono (HB.out _).size))
  clear hb1
  go_wp2
  go_ret2
  exact ⟨rfl, B1.out⟩

set_option maxRecDepth 100000 in
set_option maxHeartbeats 1600000 in
theorem lines05_flat (char : Bool) (A : Option Addr) (n c : Nat) (B : Option Addr) (m d : Nat) (s data : List Int) (D D' : Nat → Prop) (w : World) (hs : Rd w D 1 A n c (intRows .i64 s)) (hd : Rd w D' 1 B m d (intRows .i64 data)) (hi : ∀ x ∈ data, i64 x) (hr : rightL char s data) (ht : Tab w) (hn : n < 2) :
    Calls Tryd.prog 9 #[.agg #[.bool char, .slice A n c, .slice B m d]] w fun e w' => ∃ v, e = .returned (.tuple #[v, .int .i64 0]) ∧ Txs w' w.heap.size v (linesL char s data) ∧ Below w.heap.size w w' := by
  have hlen : s.length = n := by have := hs.len; simpa [intRows] using this
  have hmen : data.length = m := by have := hd.len; simpa [intRows] using this
  have hm : m ≤ 10000 := by have := hr.2.2.2.1; omega
  have HE : RowKit.Hid (linesL char s data = [flatL char data]) := by show _ = _; unfold linesL; rw [if_pos (by omega)]
  rw [HE.out]
  have q0 : (n : Int) < 2 := by omega
  have HB := Lib.hid (fun o => (Below.refl w.heap.size w).alloc (Nat.le_refl _) o)
  have HR := Lib.hid (fun w2 (hb : Below w.heap.size w w2) => right02_any char A n c B m d s data D D' w2 (hs.below hb) (hd.below hb) (fun x hx => by have := hr.2.1 x hx; unfold i64; omega) true (decide_eq_true hr).symm)
  have HTX := Lib.hid (fun w2 (hb : Below w.heap.size w w2) => texts05_any char (.slice A n c) B m d 0 m data D' w2 rfl (hd.below hb) hi hr.2.2.2.2 (by omega) (by omega) (ht.below hb))
  have HEL : RowKit.Hid (elsL char data 0 m = data.map (elL char)) := by show _ = _; unfold elsL; rw [List.drop_zero, List.take_of_length_le (by omega)]
  rw [HEL.out] at HTX
  have hml : (data.map (elL char)).length ≤ 1000000 := by simp; omega
  have HJ := Lib.hid (fun (w9 : World) (b9 : Nat) (v9 : Value) (h9 : Txs w9 b9 v9 (data.map (elL char))) => join_txs w9 b9 v9 (data.map (elL char)) (sepL char) h9 hml (fun y hy => by
    obtain ⟨x, hx, rfl⟩ := List.mem_map.1 hy
    have := elL_le (char := char) (hi x hx); omega) (sepL_le char))
  clear hs hd hi hr ht hlen hmen hml
  go_enter Tryd.func9, Tryd.ntmps9
  go_wp2_with fail
  obtain ⟨wa, hwa⟩ : ∃ wa, wa = w.alloc (.cells #[.bool char, .slice A n c, .slice B m d] 27) := ⟨_, rfl⟩
  have hba : Below w.heap.size w wa := by rw [hwa]; exact HB.out _
  have hxa : wa.heap[w.heap.size]? = some (.cells #[.bool char, .slice A n c, .slice B m d] 27 (0, 0)) := by rw [hwa]; exact heap_alloc_new w _
  rw [← hwa]
  have BA := Lib.hid hba
  have XA := Lib.hid hxa
  clear hwa hba hxa HB
  refine (HR.out wa BA.out).mono ?_
  rintro e w1 ⟨rfl, hb1⟩
  have B1 := Lib.hid hb1
  have X1 := Lib.hid ((hb1.block _ (lt_of_block XA.out)).trans XA.out)
  have hx3 := agg_fields X1.out
  obtain ⟨p0, p1, p2⟩ := hx3
  clear hb1 HR
  go_upto_region 6 with fail
  go_region_held3 (fun w' => w'.cell? ⟨w.heap.size, 0, none⟩ = some (.bool char) ∧ w'.cell? ⟨w.heap.size, 1, none⟩ = some (.slice A n c) ∧ w'.cell? ⟨w.heap.size, 2, none⟩ = some (.slice B m d))
    (first | (go_keep; done) | (go_split_ands; exact ⟨below_cell hb2 (by assumption), below_cell hb2 (by assumption), below_cell hb2 (by assumption)⟩) | (go_split_ands; exact ⟨below_cell hb3 (by assumption), below_cell hb3 (by assumption), below_cell hb3 (by assumption)⟩) | (go_split_ands; exact ⟨below_cell hb4 (by assumption), below_cell hb4 (by assumption), below_cell hb4 (by assumption)⟩))
    ((first
      | (go_at_call 36; refine (HTX.out _ ((BA.out.trans (B1.out.mono BA.out.size)).trans (below_drewN (Below.refl w1.heap.size w1) _ |>.mono (Nat.le_trans BA.out.size B1.out.size)))).mono ?_; rintro e w2 ⟨v2, rfl, htx2, hb2⟩)
      | (go_at_call 37; refine (between05_any char (.slice A n c) (.slice B m d) rfl rfl _).mono ?_; rintro e w3 ⟨rfl, hb3⟩)
      | (go_at_call 35; refine (HJ.out _ _ _ (htx2.below hb3)).mono ?_; rintro e w4 ⟨rfl, hb4⟩)))
  have B4 := Lib.hid (((below_drewN (Below.refl w1.heap.size w1) _).trans (hb2.trans ((hb3.trans (hb4.mono hb3.size)).mono hb2.size))))
  have BW := Lib.hid ((BA.out.trans (B1.out.mono BA.out.size)).trans (B4.out.mono (Nat.le_trans BA.out.size B1.out.size)))
  have PT := Lib.hid (txs_lit w4 w.heap.size [flatL char data] #[.string (bs (flatL char data))] rfl BW.out.size (by simp))
  have PB := Lib.hid (BW.out.alloc BW.out.size (.cells #[.string (bs (flatL char data))] 9))
  clear hb2 hb3 hb4 htx2 p0 p1 p2
  go_wp2
  go_ret2
  exact ⟨_, rfl, PT.out, PB.out⟩

theorem lines05_none (char : Bool) (A : Option Addr) (n c : Nat) (B : Option Addr) (m d : Nat) (s data : List Int) (D D' : Nat → Prop) (w : World) (hs : Rd w D 1 A n c (intRows .i64 s)) (hd : Rd w D' 1 B m d (intRows .i64 data)) (_hi : ∀ x ∈ data, i64 x) (hr : rightL char s data) (_ht : Tab w) (hn : 2 < n) (hm0 : m = 0) :
    Calls Tryd.prog 9 #[.agg #[.bool char, .slice A n c, .slice B m d]] w fun e w' => ∃ v, e = .returned (.tuple #[v, .int .i64 0]) ∧ Txs w' w.heap.size v (linesL char s data) ∧ Below w.heap.size w w' := by
  have hlen : s.length = n := by have := hs.len; simpa [intRows] using this
  have hmen : data.length = m := by have := hd.len; simpa [intRows] using this
  have hm : m ≤ 10000 := by have := hr.2.2.2.1; omega
  have HE : RowKit.Hid (linesL char s data = []) := by show _ = _; unfold linesL; rw [if_neg (by omega), if_pos ⟨by omega, List.eq_nil_of_length_eq_zero (by omega)⟩]
  rw [HE.out]
  have q0 : ¬ (n : Int) < 2 := by omega
  have q1 : (2 : Int) < (n : Int) := by omega
  have hn4 : n ≤ 4 := by have := hr.1; omega
  subst hm0
  have HB := Lib.hid (fun o => (Below.refl w.heap.size w).alloc (Nat.le_refl _) o)
  have HR := Lib.hid (fun w2 (hb : Below w.heap.size w w2) => right02_any char A n c B 0 d s data D D' w2 (hs.below hb) (hd.below hb) (fun x hx => by have := hr.2.1 x hx; unfold i64; omega) true (decide_eq_true hr).symm)
  clear hs hd hr hlen hmen
  go_enter Tryd.func9, Tryd.ntmps9
  go_wp2_with fail
  obtain ⟨wa, hwa⟩ : ∃ wa, wa = w.alloc (.cells #[.bool char, .slice A n c, .slice B 0 d] 27) := ⟨_, rfl⟩
  have hba : Below w.heap.size w wa := by rw [hwa]; exact HB.out _
  have hxa : wa.heap[w.heap.size]? = some (.cells #[.bool char, .slice A n c, .slice B 0 d] 27 (0, 0)) := by rw [hwa]; exact heap_alloc_new w _
  rw [← hwa]
  have BA := Lib.hid hba
  have XA := Lib.hid hxa
  clear hwa hba hxa HB
  refine (HR.out wa BA.out).mono ?_
  rintro e w1 ⟨rfl, hb1⟩
  have B1 := Lib.hid hb1
  have X1 := Lib.hid ((hb1.block _ (lt_of_block XA.out)).trans XA.out)
  have hx3 := agg_fields X1.out
  obtain ⟨p0, p1, p2⟩ := hx3
  clear hb1 HR
  go_wp2
  go_ret2
  exact ⟨_, rfl, Txs.nil _ _, BA.out.trans (B1.out.mono BA.out.size)⟩

set_option maxRecDepth 100000 in
set_option maxHeartbeats 3200000 in
theorem lines05_2 (char : Bool) (A : Option Addr) (c : Nat) (B : Option Addr) (m d : Nat) (data : List Int) (r cc : Nat) (D D' : Nat → Prop) (w : World) (hs : Rd w D 1 A 2 c (intRows .i64 [(r : Int), (cc : Int)])) (hd : Rd w D' 1 B m d (intRows .i64 data)) (hi : ∀ x ∈ data, i64 x) (hr : rightL char [(r : Int), (cc : Int)] data) (ht : Tab w) :
    Calls Tryd.prog 9 #[.agg #[.bool char, .slice A 2 c, .slice B m d]] w fun e w' => ∃ v, e = .returned (.tuple #[v, .int .i64 0]) ∧ Txs w' w.heap.size v (linesL char [(r : Int), (cc : Int)] data) ∧ Below w.heap.size w w' := by
  have hmen : data.length = m := by have := hd.len; simpa [intRows] using this
  have hm : m ≤ 10000 := by have := hr.2.2.2.1; omega
  have hcle := hs.le
  have hcm : c ≤ 9223372036854775807 := by have h2 := hs.max; unfold maxLen at h2; omega
  have hcz : ¬ c = 0 := by omega
  obtain ⟨s, hs0⟩ : ∃ s : List Int, s = [(r : Int), (cc : Int)] := ⟨_, rfl⟩
  rw [← hs0] at hs hr ⊢
  have hlen : s.length = 2 := by rw [hs0]; rfl
  obtain ⟨M, hM⟩ : ∃ M : Nat, M = 1 := ⟨_, rfl⟩
  have hb0 : r ≤ 10000 := by have := (hr.2.1 (r : Int) (by rw [hs0]; simp)).2; omega
  have hb1 : cc ≤ 10000 := by have := (hr.2.1 (cc : Int) (by rw [hs0]; simp)).2; omega
  have hprod : prodL s = ((M * r * cc : Nat) : Int) := by rw [hs0, hM]; simp [prodL, Int.natCast_mul]
  have hmul : M * r * cc = m := by have := hr.2.2.1; rw [hprod] at this; omega
  have hpt : prodL (s.take 0) = (M : Int) := by rw [hs0, hM]; simp [prodL]
  have hMb : M ≤ 10000 := by omega
  have hMr3 : M * (r + 2) ≤ 30000 := by rw [hM]; omega
  have hrl : rowsL s = r := by rw [hs0]; rfl
  have hcl : colsL s = cc := by rw [hs0]; rfl
  have hml : manyL s = M := by unfold manyL; rw [hlen]; show (prodL (s.take 0)).toNat = M; rw [hpt]; rfl
  have HLN : RowKit.Hid (linesL char s data = blkTo char s data M) := by show _ = _; unfold linesL blkTo; rw [if_neg (by omega), if_neg (fun h => by have := h.1; omega), hml]
  rw [HLN.out]
  obtain ⟨_, hx⟩ := hs.one
  obtain ⟨b, off, hA, -, hbl, hcx⟩ := hx (by omega)
  subst hA
  have cR := hcx 0 (r : Int) (by rw [hs0]; rfl)
  have cC := hcx 1 (cc : Int) (by rw [hs0]; rfl)
  rw [Nat.add_zero] at cR
  have HB := Lib.hid (fun o => (Below.refl w.heap.size w).alloc (Nat.le_refl _) o)
  have HR := Lib.hid (fun w2 (hb : Below w.heap.size w w2) => right02_any char (some ⟨b, off, none⟩) 2 c B m d s data D D' w2 (hs.below hb) (hd.below hb) (fun x hx => by have := hr.2.1 x hx; unfold i64; omega) true (decide_eq_true hr).symm)
  have HSZ := Lib.hid (fun w2 (hb : Below w.heap.size w w2) => size03_any (some ⟨b, off, none⟩) 0 c (s.take 0) D w2 ((hs.below hb).take (by omega)) (by rw [List.length_take]; omega) (fun x hx => hr.2.1 x (List.mem_of_mem_take hx)) (by rw [hpt]; omega))
  rw [hpt] at HSZ
  have HGP := Lib.hid (fun k (hk : k < M) w2 (hb : Below w.heap.size w w2) => gaps05_any (some ⟨b, off, none⟩) 2 c s k D w2 (hs.below hb) (by omega) (fun h => by rw [hlen] at h; omega))
  have HMX := Lib.hid (fun k (hk : k < M) w2 (hb : Below w.heap.size w w2) => matrix05_any char (.slice (some ⟨b, off, none⟩) 2 c) B m d (k * r * cc) r cc data D' w2 rfl (hd.below hb) hi hr.2.2.2.2 (prod_step hk hmul) (by omega) (by omega) (by omega) (ht.below hb))
  have HBL := Lib.hid (fun k => blockL_eq (char := char) (data := data) (k := k) hrl hcl)
  have HBN := Lib.hid (fun k => blkTo_len char s data k)
  rw [hrl] at HBN
  have HMUL := Lib.hid hmul
  have HBLS := Lib.hid hbl
  clear hs hd hi hr ht hlen hmen hs0 hM hprod hmul hpt hrl hcl hml hx hcx HLN
  go_enter Tryd.func9, Tryd.ntmps9
  go_wp2_with fail
  obtain ⟨wa, hwa⟩ : ∃ wa, wa = w.alloc (.cells #[.bool char, .slice (some ⟨b, off, none⟩) 2 c, .slice B m d] 27) := ⟨_, rfl⟩
  have hba : Below w.heap.size w wa := by rw [hwa]; exact HB.out _
  have hxa : wa.heap[w.heap.size]? = some (.cells #[.bool char, .slice (some ⟨b, off, none⟩) 2 c, .slice B m d] 27 (0, 0)) := by rw [hwa]; exact heap_alloc_new w _
  rw [← hwa]
  have BA := Lib.hid hba
  have XA := Lib.hid hxa
  clear hwa hba hxa HB
  refine (HR.out wa BA.out).mono ?_
  rintro e w1 ⟨rfl, hb1⟩
  have B1 := Lib.hid hb1
  have X1 := Lib.hid ((hb1.block _ (lt_of_block XA.out)).trans XA.out)
  have hx3 := agg_fields X1.out
  obtain ⟨p0, p1, p2⟩ := hx3
  clear hb1 HR
  have cR1 := below_cell B1.out (below_cell BA.out cR)
  have cC1 := below_cell B1.out (below_cell BA.out cC)
  clear cR cC
  go_wp2
  go_quiet (fail)
  go_wp2_with fail
  obtain ⟨w1', hw1'⟩ : ∃ w1', w1' = w1.drewN nq := ⟨_, rfl⟩
  have hd1 : Below w1.heap.size w1 w1' := by rw [hw1']; exact below_drewN (Below.refl _ w1) _
  rw [← hw1']
  have BD := Lib.hid hd1
  clear hw1' hd1 p0 p1 p2 cR1 cC1
  refine (HSZ.out w1' ((BA.out.trans (B1.out.mono BA.out.size)).trans (BD.out.mono (Nat.le_trans BA.out.size B1.out.size)))).mono ?_
  rintro e w2 ⟨rfl, hb2⟩
  have B2 := Lib.hid ((B1.out.trans (BD.out.mono B1.out.size)).trans (hb2.mono (Nat.le_trans B1.out.size BD.out.size)))
  clear hb2 HSZ BD B1 X1
  go_wp2
  go_loopw [10, 57] (fun v i wr => ∃ k : Nat, k ≤ M ∧ i = .int .i64 (k : Int) ∧ RowKit.Hid (Txs wr wa.heap.size v (blkTo char s data k)) ∧ RowKit.Hid (Below wa.heap.size wa wr)) (fun _ i _ => M - (RowKit.intOf i).toNat)
  case atStart => exact ⟨0, Nat.zero_le _, rfl, Txs.nil _ _, B2.out⟩
  case round =>
    obtain ⟨k, hk, rfl, htx, hbw⟩ := hrel
    by_cases hlt : k < M
    · have q1 : (k : Int) < (M : Int) := by omega
      obtain ⟨pp, hpp⟩ : ∃ pp, pp = k * r := ⟨_, rfl⟩
      obtain ⟨pq, hpq⟩ : ∃ pq, pq = k * r * cc := ⟨_, rfl⟩
      have e1 : (k : Int) * (r : Int) = (pp : Int) := by rw [hpp, Int.natCast_mul]
      have e2 : (pp : Int) * (cc : Int) = (pq : Int) := by rw [hpq, ← hpp, Int.natCast_mul]
      have hpqm : pq ≤ 10000 := by have := prod_step hlt HMUL.out; rw [hpq]; omega
      have hppm : pp ≤ 100000000 := by rw [hpp]; exact Nat.le_trans (Nat.mul_le_mul (show k ≤ 10000 by omega) (show r ≤ 10000 by omega)) (by decide)
      have HPQ := Lib.hid hpq
      have HLB : RowKit.Hid ((blkTo char s data k).length ≤ 30000) := by show _ ≤ _; have h1 := HBN.out k; have h2 : k * (r + 2) ≤ M * (r + 2) := Nat.mul_le_mul_right _ (by omega); omega
      have HLG : RowKit.Hid ((gapL s k).length ≤ 2) := gapL_len s k
      clear hpp hpq
      go_wp2_with fail
      refine (HGP.out k hlt wr (BA.out.trans (hbw.out.mono BA.out.size))).mono ?_
      rintro e w3 ⟨v3, rfl, htx3, hb3⟩
      have T3 := Lib.hid htx3
      have O3 := Lib.hid (htx.out.below hb3)
      have B3 := Lib.hid (hbw.out.trans (hb3.mono hbw.out.size))
      clear htx3 hb3
      go_wp2_with (at_builtin; refine wpList_append_txs _ rfl (.tmp 60) (.tmp 63) rfl wa.heap.size _ _ _ _ _ rfl rfl O3.out T3.out (by have := HLB.out; have := HLG.out; omega) B3.out.size ?_; intro v4 w4 htx4 hg4; have hx4 := agg_fields (((B3.out.grown hg4 B3.out.size (fun j hj => (World.ownsRow.lt O3.out j hj).1)).block _ (lt_of_block XA.out)).trans XA.out); obtain ⟨p0, p1, p2⟩ := hx4)
      have B4 := Lib.hid (B3.out.grown hg4 B3.out.size (fun j hj => (World.ownsRow.lt O3.out j hj).1))
      have T4 := Lib.hid htx4
      have HM4 := HMX.out k hlt w4 (BA.out.trans (B4.out.mono BA.out.size))
      rw [← HPQ.out] at HM4
      have HM5 := Lib.hid HM4
      clear htx4 hg4 HM4 T3 O3 B3
      refine HM5.out.mono ?_
      rintro e w5 ⟨v5, rfl, htx5, hb5⟩
      have T5 := Lib.hid htx5
      have O5 := Lib.hid (T4.out.below hb5)
      have B5 := Lib.hid (B4.out.trans (hb5.mono B4.out.size))
      clear htx5 hb5 HM5 p0 p1 p2 T4 B4
      go_wp2_with (at_builtin; refine wpList_append_txs _ rfl (.tmp 65) (.tmp 74) rfl wa.heap.size _ _ _ _ _ rfl rfl O5.out T5.out (by have := HLB.out; have := HLG.out; rw [List.length_append, matL_len]; omega) B5.out.size ?_; intro v6 w6 htx6 hg6)
      have PB := Lib.hid (B5.out.grown hg6 B5.out.size (fun j hj => (World.ownsRow.lt O5.out j hj).1))
      have PT : RowKit.Hid (Txs w6 wa.heap.size v6 (blkTo char s data (k + 1))) := by
        show Txs _ _ _ _
        rw [blkTo_succ, HBL.out k, ← HPQ.out, ← List.append_assoc]
        exact htx6
      clear htx6 hg6 T5 O5 B5 e1 e2
      go_wp2
      go_roundw
      case rel => exact ⟨k + 1, by omega, by go_num, PT.out, PB.out⟩
      case measure => simp [RowKit.intOf]; omega
    · have hkM : k = M := by omega
      subst hkM
      have PT := Lib.hid (htx.out.mono BA.out.size)
      have PB := Lib.hid (BA.out.trans (hbw.out.mono BA.out.size))
      go_wp2
      go_ret2
      exact ⟨_, rfl, PT.out, PB.out⟩

set_option maxRecDepth 100000 in
set_option maxHeartbeats 3200000 in
theorem lines05_3 (char : Bool) (A : Option Addr) (c : Nat) (B : Option Addr) (m d : Nat) (data : List Int) (a r cc : Nat) (D D' : Nat → Prop) (w : World) (hs : Rd w D 1 A 3 c (intRows .i64 [(a : Int), (r : Int), (cc : Int)])) (hd : Rd w D' 1 B m d (intRows .i64 data)) (hi : ∀ x ∈ data, i64 x) (hr : rightL char [(a : Int), (r : Int), (cc : Int)] data) (ht : Tab w) (hm0 : 0 < m) :
    Calls Tryd.prog 9 #[.agg #[.bool char, .slice A 3 c, .slice B m d]] w fun e w' => ∃ v, e = .returned (.tuple #[v, .int .i64 0]) ∧ Txs w' w.heap.size v (linesL char [(a : Int), (r : Int), (cc : Int)] data) ∧ Below w.heap.size w w' := by
  have hmen : data.length = m := by have := hd.len; simpa [intRows] using this
  have hm : m ≤ 10000 := by have := hr.2.2.2.1; omega
  have hcle := hs.le
  have hcm : c ≤ 9223372036854775807 := by have h2 := hs.max; unfold maxLen at h2; omega
  have hcz : ¬ c = 0 := by omega
  obtain ⟨s, hs0⟩ : ∃ s : List Int, s = [(a : Int), (r : Int), (cc : Int)] := ⟨_, rfl⟩
  rw [← hs0] at hs hr ⊢
  have hlen : s.length = 3 := by rw [hs0]; rfl
  obtain ⟨M, hM⟩ : ∃ M : Nat, M = a := ⟨_, rfl⟩
  have hb0 : a ≤ 10000 := by have := (hr.2.1 (a : Int) (by rw [hs0]; simp)).2; omega
  have hb1 : r ≤ 10000 := by have := (hr.2.1 (r : Int) (by rw [hs0]; simp)).2; omega
  have hb2 : cc ≤ 10000 := by have := (hr.2.1 (cc : Int) (by rw [hs0]; simp)).2; omega
  have hprod : prodL s = ((M * r * cc : Nat) : Int) := by rw [hs0, hM]; simp [prodL, Int.natCast_mul]
  have hmul : M * r * cc = m := by have := hr.2.2.1; rw [hprod] at this; omega
  have hpt : prodL (s.take 1) = (M : Int) := by rw [hs0, hM]; simp [prodL]
  have hMr : M * r * cc ≠ 0 := by omega
  have hr0 : 0 < r := Nat.pos_of_ne_zero fun e => hMr (by rw [e, Nat.mul_zero, Nat.zero_mul])
  have hc0 : 0 < cc := Nat.pos_of_ne_zero fun e => hMr (by rw [e, Nat.mul_zero])
  have hM0 : 0 < M := Nat.pos_of_ne_zero fun e => hMr (by rw [e, Nat.zero_mul, Nat.zero_mul])
  have hMr2 : M * r ≤ 10000 := by have : M * r * 1 ≤ M * r * cc := Nat.mul_le_mul_left _ hc0; omega
  have hMb : M ≤ 10000 := by have : M * 1 ≤ M * r := Nat.mul_le_mul_left _ hr0; omega
  have hMr3 : M * (r + 2) ≤ 30000 := by rw [Nat.mul_add]; omega
  have hm1 : data ≠ [] := fun e => by rw [e] at hmen; simp at hmen; omega
  have hrl : rowsL s = r := by rw [hs0]; rfl
  have hcl : colsL s = cc := by rw [hs0]; rfl
  have hml : manyL s = M := by unfold manyL; rw [hlen]; show (prodL (s.take 1)).toNat = M; rw [hpt]; rfl
  have HLN : RowKit.Hid (linesL char s data = blkTo char s data M) := by show _ = _; unfold linesL blkTo; rw [if_neg (by omega), if_neg (fun h => hm1 h.2), hml]
  rw [HLN.out]
  obtain ⟨_, hx⟩ := hs.one
  obtain ⟨b, off, hA, -, hbl, hcx⟩ := hx (by omega)
  subst hA
  have cR := hcx 1 (r : Int) (by rw [hs0]; rfl)
  have cC := hcx 2 (cc : Int) (by rw [hs0]; rfl)
  have HB := Lib.hid (fun o => (Below.refl w.heap.size w).alloc (Nat.le_refl _) o)
  have HR := Lib.hid (fun w2 (hb : Below w.heap.size w w2) => right02_any char (some ⟨b, off, none⟩) 3 c B m d s data D D' w2 (hs.below hb) (hd.below hb) (fun x hx => by have := hr.2.1 x hx; unfold i64; omega) true (decide_eq_true hr).symm)
  have HSZ := Lib.hid (fun w2 (hb : Below w.heap.size w w2) => size03_any (some ⟨b, off, none⟩) 1 c (s.take 1) D w2 ((hs.below hb).take (by omega)) (by rw [List.length_take]; omega) (fun x hx => hr.2.1 x (List.mem_of_mem_take hx)) (by rw [hpt]; omega))
  rw [hpt] at HSZ
  have HGP := Lib.hid (fun k (hk : k < M) w2 (hb : Below w.heap.size w w2) => gaps05_any (some ⟨b, off, none⟩) 3 c s k D w2 (hs.below hb) (by omega) (fun h => by rw [hlen] at h; omega))
  have HMX := Lib.hid (fun k (hk : k < M) w2 (hb : Below w.heap.size w w2) => matrix05_any char (.slice (some ⟨b, off, none⟩) 3 c) B m d (k * r * cc) r cc data D' w2 rfl (hd.below hb) hi hr.2.2.2.2 (prod_step hk hmul) (by omega) (by omega) (by omega) (ht.below hb))
  have HBL := Lib.hid (fun k => blockL_eq (char := char) (data := data) (k := k) hrl hcl)
  have HBN := Lib.hid (fun k => blkTo_len char s data k)
  rw [hrl] at HBN
  have HMUL := Lib.hid hmul
  have HBLS := Lib.hid hbl
  have e0 : ((m : Int) == 0) = false := by simp; omega
  clear hs hd hi hr ht hlen hmen hs0 hM hprod hmul hpt hrl hcl hml hx hcx HLN hMr hm1
  go_enter Tryd.func9, Tryd.ntmps9
  go_wp2_with fail
  obtain ⟨wa, hwa⟩ : ∃ wa, wa = w.alloc (.cells #[.bool char, .slice (some ⟨b, off, none⟩) 3 c, .slice B m d] 27) := ⟨_, rfl⟩
  have hba : Below w.heap.size w wa := by rw [hwa]; exact HB.out _
  have hxa : wa.heap[w.heap.size]? = some (.cells #[.bool char, .slice (some ⟨b, off, none⟩) 3 c, .slice B m d] 27 (0, 0)) := by rw [hwa]; exact heap_alloc_new w _
  rw [← hwa]
  have BA := Lib.hid hba
  have XA := Lib.hid hxa
  clear hwa hba hxa HB
  refine (HR.out wa BA.out).mono ?_
  rintro e w1 ⟨rfl, hb1⟩
  have B1 := Lib.hid hb1
  have X1 := Lib.hid ((hb1.block _ (lt_of_block XA.out)).trans XA.out)
  have hx3 := agg_fields X1.out
  obtain ⟨p0, p1, p2⟩ := hx3
  clear hb1 HR
  have cR1 := below_cell B1.out (below_cell BA.out cR)
  have cC1 := below_cell B1.out (below_cell BA.out cC)
  clear cR cC
  go_wp2
  go_quiet (fail)
  go_wp2_with fail
  obtain ⟨w1', hw1'⟩ : ∃ w1', w1' = w1.drewN nq := ⟨_, rfl⟩
  have hd1 : Below w1.heap.size w1 w1' := by rw [hw1']; exact below_drewN (Below.refl _ w1) _
  rw [← hw1']
  have BD := Lib.hid hd1
  clear hw1' hd1 p0 p1 p2 cR1 cC1
  refine (HSZ.out w1' ((BA.out.trans (B1.out.mono BA.out.size)).trans (BD.out.mono (Nat.le_trans BA.out.size B1.out.size)))).mono ?_
  rintro e w2 ⟨rfl, hb2⟩
  have B2 := Lib.hid ((B1.out.trans (BD.out.mono B1.out.size)).trans (hb2.mono (Nat.le_trans B1.out.size BD.out.size)))
  clear hb2 HSZ BD B1 X1
  go_wp2
  go_loopw [10, 57] (fun v i wr => ∃ k : Nat, k ≤ M ∧ i = .int .i64 (k : Int) ∧ RowKit.Hid (Txs wr wa.heap.size v (blkTo char s data k)) ∧ RowKit.Hid (Below wa.heap.size wa wr)) (fun _ i _ => M - (RowKit.intOf i).toNat)
  case atStart => exact ⟨0, Nat.zero_le _, rfl, Txs.nil _ _, B2.out⟩
  case round =>
    obtain ⟨k, hk, rfl, htx, hbw⟩ := hrel
    by_cases hlt : k < M
    · have q1 : (k : Int) < (M : Int) := by omega
      obtain ⟨pp, hpp⟩ : ∃ pp, pp = k * r := ⟨_, rfl⟩
      obtain ⟨pq, hpq⟩ : ∃ pq, pq = k * r * cc := ⟨_, rfl⟩
      have e1 : (k : Int) * (r : Int) = (pp : Int) := by rw [hpp, Int.natCast_mul]
      have e2 : (pp : Int) * (cc : Int) = (pq : Int) := by rw [hpq, ← hpp, Int.natCast_mul]
      have hpqm : pq ≤ 10000 := by have := prod_step hlt HMUL.out; rw [hpq]; omega
      have hppm : pp ≤ 100000000 := by rw [hpp]; exact Nat.le_trans (Nat.mul_le_mul (show k ≤ 10000 by omega) (show r ≤ 10000 by omega)) (by decide)
      have HPQ := Lib.hid hpq
      have HLB : RowKit.Hid ((blkTo char s data k).length ≤ 30000) := by show _ ≤ _; have h1 := HBN.out k; have h2 : k * (r + 2) ≤ M * (r + 2) := Nat.mul_le_mul_right _ (by omega); omega
      have HLG : RowKit.Hid ((gapL s k).length ≤ 2) := gapL_len s k
      clear hpp hpq
      go_wp2_with fail
      refine (HGP.out k hlt wr (BA.out.trans (hbw.out.mono BA.out.size))).mono ?_
      rintro e w3 ⟨v3, rfl, htx3, hb3⟩
      have T3 := Lib.hid htx3
      have O3 := Lib.hid (htx.out.below hb3)
      have B3 := Lib.hid (hbw.out.trans (hb3.mono hbw.out.size))
      clear htx3 hb3
      go_wp2_with (at_builtin; refine wpList_append_txs _ rfl (.tmp 60) (.tmp 63) rfl wa.heap.size _ _ _ _ _ rfl rfl O3.out T3.out (by have := HLB.out; have := HLG.out; omega) B3.out.size ?_; intro v4 w4 htx4 hg4; have hx4 := agg_fields (((B3.out.grown hg4 B3.out.size (fun j hj => (World.ownsRow.lt O3.out j hj).1)).block _ (lt_of_block XA.out)).trans XA.out); obtain ⟨p0, p1, p2⟩ := hx4)
      have B4 := Lib.hid (B3.out.grown hg4 B3.out.size (fun j hj => (World.ownsRow.lt O3.out j hj).1))
      have T4 := Lib.hid htx4
      have HM4 := HMX.out k hlt w4 (BA.out.trans (B4.out.mono BA.out.size))
      rw [← HPQ.out] at HM4
      have HM5 := Lib.hid HM4
      clear htx4 hg4 HM4 T3 O3 B3
      refine HM5.out.mono ?_
      rintro e w5 ⟨v5, rfl, htx5, hb5⟩
      have T5 := Lib.hid htx5
      have O5 := Lib.hid (T4.out.below hb5)
      have B5 := Lib.hid (B4.out.trans (hb5.mono B4.out.size))
      clear htx5 hb5 HM5 p0 p1 p2 T4 B4
      go_wp2_with (at_builtin; refine wpList_append_txs _ rfl (.tmp 65) (.tmp 74) rfl wa.heap.size _ _ _ _ _ rfl rfl O5.out T5.out (by have := HLB.out; have := HLG.out; rw [List.length_append, matL_len]; omega) B5.out.size ?_; intro v6 w6 htx6 hg6)
      have PB := Lib.hid (B5.out.grown hg6 B5.out.size (fun j hj => (World.ownsRow.lt O5.out j hj).1))
      have PT : RowKit.Hid (Txs w6 wa.heap.size v6 (blkTo char s data (k + 1))) := by
        show Txs _ _ _ _
        rw [blkTo_succ, HBL.out k, ← HPQ.out, ← List.append_assoc]
        exact htx6
      clear htx6 hg6 T5 O5 B5 e1 e2
      go_wp2
      go_roundw
      case rel => exact ⟨k + 1, by omega, by go_num, PT.out, PB.out⟩
      case measure => simp [RowKit.intOf]; omega
    · have hkM : k = M := by omega
      subst hkM
      have PT := Lib.hid (htx.out.mono BA.out.size)
      have PB := Lib.hid (BA.out.trans (hbw.out.mono BA.out.size))
      go_wp2
      go_ret2
      exact ⟨_, rfl, PT.out, PB.out⟩

set_option maxRecDepth 100000 in
set_option maxHeartbeats 3200000 in
theorem lines05_4 (char : Bool) (A : Option Addr) (c : Nat) (B : Option Addr) (m d : Nat) (data : List Int) (a b0 r cc : Nat) (D D' : Nat → Prop) (w : World) (hs : Rd w D 1 A 4 c (intRows .i64 [(a : Int), (b0 : Int), (r : Int), (cc : Int)])) (hd : Rd w D' 1 B m d (intRows .i64 data)) (hi : ∀ x ∈ data, i64 x) (hr : rightL char [(a : Int), (b0 : Int), (r : Int), (cc : Int)] data) (ht : Tab w) (hm0 : 0 < m) :
    Calls Tryd.prog 9 #[.agg #[.bool char, .slice A 4 c, .slice B m d]] w fun e w' => ∃ v, e = .returned (.tuple #[v, .int .i64 0]) ∧ Txs w' w.heap.size v (linesL char [(a : Int), (b0 : Int), (r : Int), (cc : Int)] data) ∧ Below w.heap.size w w' := by
  have hmen : data.length = m := by have := hd.len; simpa [intRows] using this
  have hm : m ≤ 10000 := by have := hr.2.2.2.1; omega
  have hcle := hs.le
  have hcm : c ≤ 9223372036854775807 := by have h2 := hs.max; unfold maxLen at h2; omega
  have hcz : ¬ c = 0 := by omega
  obtain ⟨s, hs0⟩ : ∃ s : List Int, s = [(a : Int), (b0 : Int), (r : Int), (cc : Int)] := ⟨_, rfl⟩
  rw [← hs0] at hs hr ⊢
  have hlen : s.length = 4 := by rw [hs0]; rfl
  obtain ⟨M, hM⟩ : ∃ M : Nat, M = a * b0 := ⟨_, rfl⟩
  have hb0 : a ≤ 10000 := by have := (hr.2.1 (a : Int) (by rw [hs0]; simp)).2; omega
  have hb1 : b0 ≤ 10000 := by have := (hr.2.1 (b0 : Int) (by rw [hs0]; simp)).2; omega
  have hb2 : r ≤ 10000 := by have := (hr.2.1 (r : Int) (by rw [hs0]; simp)).2; omega
  have hb3 : cc ≤ 10000 := by have := (hr.2.1 (cc : Int) (by rw [hs0]; simp)).2; omega
  have hprod : prodL s = ((M * r * cc : Nat) : Int) := by rw [hs0, hM]; simp [prodL, Int.natCast_mul, Int.mul_assoc]
  have hmul : M * r * cc = m := by have := hr.2.2.1; rw [hprod] at this; omega
  have hpt : prodL (s.take 2) = (M : Int) := by rw [hs0, hM]; simp [prodL]
  have hMr : M * r * cc ≠ 0 := by omega
  have hr0 : 0 < r := Nat.pos_of_ne_zero fun e => hMr (by rw [e, Nat.mul_zero, Nat.zero_mul])
  have hc0 : 0 < cc := Nat.pos_of_ne_zero fun e => hMr (by rw [e, Nat.mul_zero])
  have hM0 : 0 < M := Nat.pos_of_ne_zero fun e => hMr (by rw [e, Nat.zero_mul, Nat.zero_mul])
  have hMr2 : M * r ≤ 10000 := by have : M * r * 1 ≤ M * r * cc := Nat.mul_le_mul_left _ hc0; omega
  have hMb : M ≤ 10000 := by have : M * 1 ≤ M * r := Nat.mul_le_mul_left _ hr0; omega
  have hMr3 : M * (r + 2) ≤ 30000 := by rw [Nat.mul_add]; omega
  have hm1 : data ≠ [] := fun e => by rw [e] at hmen; simp at hmen; omega
  have hb00 : 0 < b0 := Nat.pos_of_ne_zero fun e => by rw [hM, e, Nat.mul_zero] at hM0; omega
  have hrl : rowsL s = r := by rw [hs0]; rfl
  have hcl : colsL s = cc := by rw [hs0]; rfl
  have hml : manyL s = M := by unfold manyL; rw [hlen]; show (prodL (s.take 2)).toNat = M; rw [hpt]; rfl
  have HLN : RowKit.Hid (linesL char s data = blkTo char s data M) := by show _ = _; unfold linesL blkTo; rw [if_neg (by omega), if_neg (fun h => hm1 h.2), hml]
  rw [HLN.out]
  obtain ⟨_, hx⟩ := hs.one
  obtain ⟨b, off, hA, -, hbl, hcx⟩ := hx (by omega)
  subst hA
  have cR := hcx 2 (r : Int) (by rw [hs0]; rfl)
  have cC := hcx 3 (cc : Int) (by rw [hs0]; rfl)
  have HB := Lib.hid (fun o => (Below.refl w.heap.size w).alloc (Nat.le_refl _) o)
  have HR := Lib.hid (fun w2 (hb : Below w.heap.size w w2) => right02_any char (some ⟨b, off, none⟩) 4 c B m d s data D D' w2 (hs.below hb) (hd.below hb) (fun x hx => by have := hr.2.1 x hx; unfold i64; omega) true (decide_eq_true hr).symm)
  have HSZ := Lib.hid (fun w2 (hb : Below w.heap.size w w2) => size03_any (some ⟨b, off, none⟩) 2 c (s.take 2) D w2 ((hs.below hb).take (by omega)) (by rw [List.length_take]; omega) (fun x hx => hr.2.1 x (List.mem_of_mem_take hx)) (by rw [hpt]; omega))
  rw [hpt] at HSZ
  have HGP := Lib.hid (fun k (hk : k < M) w2 (hb : Below w.heap.size w w2) => gaps05_any (some ⟨b, off, none⟩) 4 c s k D w2 (hs.below hb) (by omega) (fun h => by rw [hs0]; show 1 ≤ (b0 : Int) ∧ (b0 : Int) ≤ 10000; omega))
  have HMX := Lib.hid (fun k (hk : k < M) w2 (hb : Below w.heap.size w w2) => matrix05_any char (.slice (some ⟨b, off, none⟩) 4 c) B m d (k * r * cc) r cc data D' w2 rfl (hd.below hb) hi hr.2.2.2.2 (prod_step hk hmul) (by omega) (by omega) (by omega) (ht.below hb))
  have HBL := Lib.hid (fun k => blockL_eq (char := char) (data := data) (k := k) hrl hcl)
  have HBN := Lib.hid (fun k => blkTo_len char s data k)
  rw [hrl] at HBN
  have HMUL := Lib.hid hmul
  have HBLS := Lib.hid hbl
  have e0 : ((m : Int) == 0) = false := by simp; omega
  clear hs hd hi hr ht hlen hmen hs0 hM hprod hmul hpt hrl hcl hml hx hcx HLN hMr hm1
  go_enter Tryd.func9, Tryd.ntmps9
  go_wp2_with fail
  obtain ⟨wa, hwa⟩ : ∃ wa, wa = w.alloc (.cells #[.bool char, .slice (some ⟨b, off, none⟩) 4 c, .slice B m d] 27) := ⟨_, rfl⟩
  have hba : Below w.heap.size w wa := by rw [hwa]; exact HB.out _
  have hxa : wa.heap[w.heap.size]? = some (.cells #[.bool char, .slice (some ⟨b, off, none⟩) 4 c, .slice B m d] 27 (0, 0)) := by rw [hwa]; exact heap_alloc_new w _
  rw [← hwa]
  have BA := Lib.hid hba
  have XA := Lib.hid hxa
  clear hwa hba hxa HB
  refine (HR.out wa BA.out).mono ?_
  rintro e w1 ⟨rfl, hb1⟩
  have B1 := Lib.hid hb1
  have X1 := Lib.hid ((hb1.block _ (lt_of_block XA.out)).trans XA.out)
  have hx3 := agg_fields X1.out
  obtain ⟨p0, p1, p2⟩ := hx3
  clear hb1 HR
  have cR1 := below_cell B1.out (below_cell BA.out cR)
  have cC1 := below_cell B1.out (below_cell BA.out cC)
  clear cR cC
  go_wp2
  go_quiet (fail)
  go_wp2_with fail
  obtain ⟨w1', hw1'⟩ : ∃ w1', w1' = w1.drewN nq := ⟨_, rfl⟩
  have hd1 : Below w1.heap.size w1 w1' := by rw [hw1']; exact below_drewN (Below.refl _ w1) _
  rw [← hw1']
  have BD := Lib.hid hd1
  clear hw1' hd1 p0 p1 p2 cR1 cC1
  refine (HSZ.out w1' ((BA.out.trans (B1.out.mono BA.out.size)).trans (BD.out.mono (Nat.le_trans BA.out.size B1.out.size)))).mono ?_
  rintro e w2 ⟨rfl, hb2⟩
  have B2 := Lib.hid ((B1.out.trans (BD.out.mono B1.out.size)).trans (hb2.mono (Nat.le_trans B1.out.size BD.out.size)))
  clear hb2 HSZ BD B1 X1
  go_wp2
  go_loopw [10, 57] (fun v i wr => ∃ k : Nat, k ≤ M ∧ i = .int .i64 (k : Int) ∧ RowKit.Hid (Txs wr wa.heap.size v (blkTo char s data k)) ∧ RowKit.Hid (Below wa.heap.size wa wr)) (fun _ i _ => M - (RowKit.intOf i).toNat)
  case atStart => exact ⟨0, Nat.zero_le _, rfl, Txs.nil _ _, B2.out⟩
  case round =>
    obtain ⟨k, hk, rfl, htx, hbw⟩ := hrel
    by_cases hlt : k < M
    · have q1 : (k : Int) < (M : Int) := by omega
      obtain ⟨pp, hpp⟩ : ∃ pp, pp = k * r := ⟨_, rfl⟩
      obtain ⟨pq, hpq⟩ : ∃ pq, pq = k * r * cc := ⟨_, rfl⟩
      have e1 : (k : Int) * (r : Int) = (pp : Int) := by rw [hpp, Int.natCast_mul]
      have e2 : (pp : Int) * (cc : Int) = (pq : Int) := by rw [hpq, ← hpp, Int.natCast_mul]
      have hpqm : pq ≤ 10000 := by have := prod_step hlt HMUL.out; rw [hpq]; omega
      have hppm : pp ≤ 100000000 := by rw [hpp]; exact Nat.le_trans (Nat.mul_le_mul (show k ≤ 10000 by omega) (show r ≤ 10000 by omega)) (by decide)
      have HPQ := Lib.hid hpq
      have HLB : RowKit.Hid ((blkTo char s data k).length ≤ 30000) := by show _ ≤ _; have h1 := HBN.out k; have h2 : k * (r + 2) ≤ M * (r + 2) := Nat.mul_le_mul_right _ (by omega); omega
      have HLG : RowKit.Hid ((gapL s k).length ≤ 2) := gapL_len s k
      clear hpp hpq
      go_wp2_with fail
      refine (HGP.out k hlt wr (BA.out.trans (hbw.out.mono BA.out.size))).mono ?_
      rintro e w3 ⟨v3, rfl, htx3, hb3⟩
      have T3 := Lib.hid htx3
      have O3 := Lib.hid (htx.out.below hb3)
      have B3 := Lib.hid (hbw.out.trans (hb3.mono hbw.out.size))
      clear htx3 hb3
      go_wp2_with (at_builtin; refine wpList_append_txs _ rfl (.tmp 60) (.tmp 63) rfl wa.heap.size _ _ _ _ _ rfl rfl O3.out T3.out (by have := HLB.out; have := HLG.out; omega) B3.out.size ?_; intro v4 w4 htx4 hg4; have hx4 := agg_fields (((B3.out.grown hg4 B3.out.size (fun j hj => (World.ownsRow.lt O3.out j hj).1)).block _ (lt_of_block XA.out)).trans XA.out); obtain ⟨p0, p1, p2⟩ := hx4)
      have B4 := Lib.hid (B3.out.grown hg4 B3.out.size (fun j hj => (World.ownsRow.lt O3.out j hj).1))
      have T4 := Lib.hid htx4
      have HM4 := HMX.out k hlt w4 (BA.out.trans (B4.out.mono BA.out.size))
      rw [← HPQ.out] at HM4
      have HM5 := Lib.hid HM4
      clear htx4 hg4 HM4 T3 O3 B3
      refine HM5.out.mono ?_
      rintro e w5 ⟨v5, rfl, htx5, hb5⟩
      have T5 := Lib.hid htx5
      have O5 := Lib.hid (T4.out.below hb5)
      have B5 := Lib.hid (B4.out.trans (hb5.mono B4.out.size))
      clear htx5 hb5 HM5 p0 p1 p2 T4 B4
      go_wp2_with (at_builtin; refine wpList_append_txs _ rfl (.tmp 65) (.tmp 74) rfl wa.heap.size _ _ _ _ _ rfl rfl O5.out T5.out (by have := HLB.out; have := HLG.out; rw [List.length_append, matL_len]; omega) B5.out.size ?_; intro v6 w6 htx6 hg6)
      have PB := Lib.hid (B5.out.grown hg6 B5.out.size (fun j hj => (World.ownsRow.lt O5.out j hj).1))
      have PT : RowKit.Hid (Txs w6 wa.heap.size v6 (blkTo char s data (k + 1))) := by
        show Txs _ _ _ _
        rw [blkTo_succ, HBL.out k, ← HPQ.out, ← List.append_assoc]
        exact htx6
      clear htx6 hg6 T5 O5 B5 e1 e2
      go_wp2
      go_roundw
      case rel => exact ⟨k + 1, by omega, by go_num, PT.out, PB.out⟩
      case measure => simp [RowKit.intOf]; omega
    · have hkM : k = M := by omega
      subst hkM
      have PT := Lib.hid (htx.out.mono BA.out.size)
      have PB := Lib.hid (BA.out.trans (hbw.out.mono BA.out.size))
      go_wp2
      go_ret2
      exact ⟨_, rfl, PT.out, PB.out⟩

theorem len2 {s : List Int} (h : s.length = 2) : ∃ x y, s = [x, y] := by
  match s, h with
  | [x, y], _ => exact ⟨x, y, rfl⟩
theorem len3 {s : List Int} (h : s.length = 3) : ∃ x y z, s = [x, y, z] := by
  match s, h with
  | [x, y, z], _ => exact ⟨x, y, z, rfl⟩
theorem len4 {s : List Int} (h : s.length = 4) : ∃ x y z u, s = [x, y, z, u] := by
  match s, h with
  | [x, y, z, u], _ => exact ⟨x, y, z, u, rfl⟩
theorem toN {x : Int} (h : 0 ≤ x) : ∃ n : Nat, x = (n : Int) := ⟨x.toNat, by omega⟩
/-- The lines of an array that is right. -/
theorem lines05_good (char : Bool) (A : Option Addr) (n c : Nat) (B : Option Addr) (m d : Nat) (s data : List Int) (D D' : Nat → Prop) (w : World) (hs : Rd w D 1 A n c (intRows .i64 s)) (hd : Rd w D' 1 B m d (intRows .i64 data)) (hi : ∀ x ∈ data, i64 x) (hr : rightL char s data) (ht : Tab w) :
    Calls Tryd.prog 9 #[.agg #[.bool char, .slice A n c, .slice B m d]] w fun e w' => ∃ v, e = .returned (.tuple #[v, .int .i64 0]) ∧ Txs w' w.heap.size v (linesL char s data) ∧ Below w.heap.size w w' := by
  have hlen : s.length = n := by have := hs.len; simpa [intRows] using this
  have hmen : data.length = m := by have := hd.len; simpa [intRows] using this
  have hm : m ≤ 10000 := by have := hr.2.2.2.1; omega
  by_cases h2 : n < 2
  · exact lines05_flat char A n c B m d s data D D' w hs hd hi hr ht h2
  by_cases h0 : 2 < n ∧ m = 0
  · exact lines05_none char A n c B m d s data D D' w hs hd hi hr ht h0.1 h0.2
  have h4 := hr.1
  have hnn := fun x hx => (hr.2.1 x hx).1
  have hc3 : n = 2 ∨ n = 3 ∨ n = 4 := by omega
  rcases hc3 with rfl | rfl | rfl
  · obtain ⟨x, y, rfl⟩ := len2 hlen
    obtain ⟨r, rfl⟩ := toN (hnn x (by simp))
    obtain ⟨cc, rfl⟩ := toN (hnn y (by simp))
    exact lines05_2 char A c B m d data r cc D D' w hs hd hi hr ht
  · obtain ⟨x, y, z, rfl⟩ := len3 hlen
    obtain ⟨a, rfl⟩ := toN (hnn x (by simp))
    obtain ⟨r, rfl⟩ := toN (hnn y (by simp))
    obtain ⟨cc, rfl⟩ := toN (hnn z (by simp))
    exact lines05_3 char A c B m d data a r cc D D' w hs hd hi hr ht (by omega)
  · obtain ⟨x, y, z, u, rfl⟩ := len4 hlen
    obtain ⟨a, rfl⟩ := toN (hnn x (by simp))
    obtain ⟨b0, rfl⟩ := toN (hnn y (by simp))
    obtain ⟨r, rfl⟩ := toN (hnn z (by simp))
    obtain ⟨cc, rfl⟩ := toN (hnn u (by simp))
    exact lines05_4 char A c B m d data a b0 r cc D D' w hs hd hi hr ht (by omega)
end Go.Proofs.YtjkofndnhmfnoaaDoor
