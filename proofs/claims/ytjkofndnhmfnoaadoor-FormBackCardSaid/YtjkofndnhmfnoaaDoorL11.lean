/-
  The document's Lines (anamnesisref05): contract. Of any array that can be read.
-/
import Derived.Test.YtjkofndnhmfnoaaDoorL10
import Derived.Test.YtjkofndnhmfnoaaDoorL4
namespace Go.Proofs.YtjkofndnhmfnoaaDoor
open Go Go.RowKit

theorem rlines05_bad (char : Bool) (A : Option Addr) (n c : Nat) (B : Option Addr) (m d : Nat) (s data : List Int) (D D' : Nat → Prop) (w : World) (hs : Rd w D 1 A n c (intRows .i64 s)) (hd : Rd w D' 1 B m d (intRows .i64 data)) (hi : ∀ x ∈ s, i64 x) (hr : ¬ rightL char s data) :
    Calls Tryd.prog 18 #[.agg #[.bool char, .slice A n c, .slice B m d]] w fun e w' => e = .returned (.tuple #[.slice none 0 0, .bool false]) ∧ Below w.heap.size w w' := by
  have HB := Lib.hid (fun o => (Below.refl w.heap.size w).alloc (Nat.le_refl _) o)
  have HR := Lib.hid (fun w2 (hb : Below w.heap.size w w2) => rRight02_any char A n c B m d s data D D' w2 (hs.below hb) (hd.below hb) hi false (decide_eq_false hr).symm)
  clear hs hd hi hr
  go_enter Tryd.func18, Tryd.ntmps18
  go_wp2_with fail
  refine (HR.out _ (HB.out _)).mono ?_
  rintro e w1 ⟨rfl, hb1⟩
  have B1 := Lib.hid ((HB.out _).trans (hb1.mono (HB.out _).size))
  clear hb1
  go_wp2
  go_ret2
  exact ⟨rfl, B1.out⟩

set_option maxRecDepth 100000 in
set_option maxHeartbeats 1600000 in
theorem rlines05_flat (char : Bool) (A : Option Addr) (n c : Nat) (B : Option Addr) (m d : Nat) (s data : List Int) (D D' : Nat → Prop) (w : World) (hs : Rd w D 1 A n c (intRows .i64 s)) (hd : Rd w D' 1 B m d (intRows .i64 data)) (hi : ∀ x ∈ data, i64 x) (hr : rightL char s data) (hn : n < 2) :
    Calls Tryd.prog 18 #[.agg #[.bool char, .slice A n c, .slice B m d]] w fun e w' => ∃ v, e = .returned (.tuple #[v, .bool true]) ∧ Txs w' w.heap.size v (linesL char s data) ∧ Below w.heap.size w w' := by
  have hlen : s.length = n := by have := hs.len; simpa [intRows] using this
  have hmen : data.length = m := by have := hd.len; simpa [intRows] using this
  have hm : m ≤ 10000 := by have := hr.2.2.2.1; omega
  have HE : RowKit.Hid (linesL char s data = [flatL char data]) := by show _ = _; unfold linesL; rw [if_pos (by omega)]
  rw [HE.out]
  have q0 : (n : Int) < 2 := by omega
  have HB := Lib.hid (fun o => (Below.refl w.heap.size w).alloc (Nat.le_refl _) o)
  have HR := Lib.hid (fun w2 (hb : Below w.heap.size w w2) => rRight02_any char A n c B m d s data D D' w2 (hs.below hb) (hd.below hb) (fun x hx => by have := hr.2.1 x hx; unfold i64; omega) true (decide_eq_true hr).symm)
  have HRW := Lib.hid (fun w2 (hb : Below w.heap.size w w2) => rrow05_any char (.slice A n c) B m d 0 1 m 0 data D' w2 rfl (hd.below hb) hi hr.2.2.2.2 (by omega) (by omega) (by omega) (by omega) (by omega))
  have hro : rowL char data 0 1 m 0 = flatL char data := by rw [← hmen]; exact row_one char data
  rw [hro] at HRW
  clear hs hd hi hr hlen hmen hro
  go_enter Tryd.func18, Tryd.ntmps18
  go_wp2_with fail
  obtain ⟨wa, hwa⟩ : ∃ wa, wa = w.alloc (.cells #[.bool char, .slice A n c, .slice B m d] 27) := ⟨_, rfl⟩
  have hba : Below w.heap.size w wa := by rw [hwa]; exact HB.out _
  have hxa : wa.heap[w.heap.size]? = some (.cells #[.bool char, .slice A n c, .slice B m d] 27 (0, 0)) := by rw [hwa]; exact heap_alloc_new w _
  rw [← hwa]
  have BA := Lib.hid hba
  have XA := Lib.hid hxa
  clear hwa hba hxa HB
  refine (HR.out wa BA.out).mono ?_
  rintro e w1 ⟨rfl, hb1⟩
  have B1 := Lib.hid hb1
  have X1 := Lib.hid ((hb1.block _ (lt_of_block XA.out)).trans XA.out)
  have hx3 := agg_fields X1.out
  obtain ⟨p0, p1, p2⟩ := hx3
  clear hb1 HR
  go_wp2_with fail
  refine (HRW.out w1 (BA.out.trans (B1.out.mono BA.out.size))).mono ?_
  rintro e w2 ⟨rfl, hb2⟩
  have B2 := Lib.hid ((BA.out.trans (B1.out.mono BA.out.size)).trans (hb2.mono (Nat.le_trans BA.out.size B1.out.size)))
  clear hb2 p0 p1 p2
  go_wp2_with (at_builtin; refine wpList_append_txs _ rfl (.tmp 20) (.tmp 26) rfl w.heap.size _ (.slice none 0 0) _ [] [flatL char data] rfl rfl (Txs.nil _ _) (txs_lit w2 w2.heap.size [flatL char data] #[.string (bs (flatL char data))] rfl (Nat.le_refl _) (by simp)) (by simp) (by have := B2.out.size; simp; omega) ?_; intro v4 w4 htx4 hg4)
  have PB := Lib.hid ((B2.out.alloc B2.out.size _).grown hg4 (by have := B2.out.size; simp; omega) (fun j hj => by simp [Value.ownBlock] at hj))
  go_ret2
  exact ⟨_, rfl, htx4, PB.out⟩

theorem rlines05_none (char : Bool) (A : Option Addr) (n c : Nat) (B : Option Addr) (m d : Nat) (s data : List Int) (D D' : Nat → Prop) (w : World) (hs : Rd w D 1 A n c (intRows .i64 s)) (hd : Rd w D' 1 B m d (intRows .i64 data)) (_hi : ∀ x ∈ data, i64 x) (hr : rightL char s data) (hn : 2 < n) (hm0 : m = 0) :
    Calls Tryd.prog 18 #[.agg #[.bool char, .slice A n c, .slice B m d]] w fun e w' => ∃ v, e = .returned (.tuple #[v, .bool true]) ∧ Txs w' w.heap.size v (linesL char s data) ∧ Below w.heap.size w w' := by
  have hlen : s.length = n := by have := hs.len; simpa [intRows] using this
  have hmen : data.length = m := by have := hd.len; simpa [intRows] using this
  have hm : m ≤ 10000 := by have := hr.2.2.2.1; omega
  have HE : RowKit.Hid (linesL char s data = []) := by show _ = _; unfold linesL; rw [if_neg (by omega), if_pos ⟨by omega, List.eq_nil_of_length_eq_zero (by omega)⟩]
  rw [HE.out]
  have q0 : ¬ (n : Int) < 2 := by omega
  have q1 : (2 : Int) < (n : Int) := by omega
  have hn4 : n ≤ 4 := by have := hr.1; omega
  subst hm0
  have HB := Lib.hid (fun o => (Below.refl w.heap.size w).alloc (Nat.le_refl _) o)
  have HR := Lib.hid (fun w2 (hb : Below w.heap.size w w2) => rRight02_any char A n c B 0 d s data D D' w2 (hs.below hb) (hd.below hb) (fun x hx => by have := hr.2.1 x hx; unfold i64; omega) true (decide_eq_true hr).symm)
  clear hs hd hr hlen hmen
  go_enter Tryd.func18, Tryd.ntmps18
  go_wp2_with fail
  obtain ⟨wa, hwa⟩ : ∃ wa, wa = w.alloc (.cells #[.bool char, .slice A n c, .slice B 0 d] 27) := ⟨_, rfl⟩
  have hba : Below w.heap.size w wa := by rw [hwa]; exact HB.out _
  have hxa : wa.heap[w.heap.size]? = some (.cells #[.bool char, .slice A n c, .slice B 0 d] 27 (0, 0)) := by rw [hwa]; exact heap_alloc_new w _
  rw [← hwa]
  have BA := Lib.hid hba
  have XA := Lib.hid hxa
  clear hwa hba hxa HB
  refine (HR.out wa BA.out).mono ?_
  rintro e w1 ⟨rfl, hb1⟩
  have B1 := Lib.hid hb1
  have X1 := Lib.hid ((hb1.block _ (lt_of_block XA.out)).trans XA.out)
  have hx3 := agg_fields X1.out
  obtain ⟨p0, p1, p2⟩ := hx3
  clear hb1 HR
  go_wp2
  go_ret2
  exact ⟨_, rfl, Txs.nil _ _, BA.out.trans (B1.out.mono BA.out.size)⟩

set_option maxRecDepth 100000 in
set_option maxHeartbeats 6400000 in
theorem rlines05_2 (char : Bool) (A : Option Addr) (c : Nat) (B : Option Addr) (m d : Nat) (data : List Int) (r cc : Nat) (D D' : Nat → Prop) (w : World) (hs : Rd w D 1 A 2 c (intRows .i64 [(r : Int), (cc : Int)])) (hd : Rd w D' 1 B m d (intRows .i64 data)) (hi : ∀ x ∈ data, i64 x) (hr : rightL char [(r : Int), (cc : Int)] data) :
    Calls Tryd.prog 18 #[.agg #[.bool char, .slice A 2 c, .slice B m d]] w fun e w' => ∃ v, e = .returned (.tuple #[v, .bool true]) ∧ Txs w' w.heap.size v (linesL char [(r : Int), (cc : Int)] data) ∧ Below w.heap.size w w' := by
  have hmen : data.length = m := by have := hd.len; simpa [intRows] using this
  have hm : m ≤ 10000 := by have := hr.2.2.2.1; omega
  have hcle := hs.le
  have hcm : c ≤ 9223372036854775807 := by have h2 := hs.max; unfold maxLen at h2; omega
  obtain ⟨s, hs0⟩ : ∃ s : List Int, s = [(r : Int), (cc : Int)] := ⟨_, rfl⟩
  rw [← hs0] at hs hr ⊢
  have hlen : s.length = 2 := by rw [hs0]; rfl
  obtain ⟨M, hM⟩ : ∃ M : Nat, M = 1 := ⟨_, rfl⟩
  have hb0 : r ≤ 10000 := by have := (hr.2.1 (r : Int) (by rw [hs0]; simp)).2; omega
  have hb1 : cc ≤ 10000 := by have := (hr.2.1 (cc : Int) (by rw [hs0]; simp)).2; omega
  have hprod : prodL s = ((M * r * cc : Nat) : Int) := by rw [hs0, hM]; simp [prodL, Int.natCast_mul]
  have hmul : M * r * cc = m := by have := hr.2.2.1; rw [hprod] at this; omega
  have hpt : prodL (s.take 0) = (M : Int) := by rw [hs0, hM]; simp [prodL]
  have hMb : M ≤ 10000 := by omega
  have hM1 : M = 1 := hM
  have hMr3 : M * (r + 2) ≤ 30000 := by rw [hM]; omega
  have hrl : rowsL s = r := by rw [hs0]; rfl
  have hcl : colsL s = cc := by rw [hs0]; rfl
  have hml : manyL s = M := by unfold manyL; rw [hlen]; show (prodL (s.take 0)).toNat = M; rw [hpt]; rfl
  have HLN : RowKit.Hid (linesL char s data = blkTo char s data M) := by show _ = _; unfold linesL blkTo; rw [if_neg (by omega), if_neg (fun h => by have := h.1; omega), hml]
  rw [HLN.out]
  obtain ⟨_, hx⟩ := hs.one
  obtain ⟨b, off, hA, -, hbl, hcx⟩ := hx (by omega)
  subst hA
  have cR := hcx 0 (r : Int) (by rw [hs0]; rfl)
  have cC := hcx 1 (cc : Int) (by rw [hs0]; rfl)
  rw [Nat.add_zero] at cR
  have HCX := Lib.hid hcx
  have HRB : RowKit.Hid (∀ x ∈ s, 0 ≤ x ∧ x ≤ 10000) := hr.2.1
  have HS0 := Lib.hid hlen
  have HPT := Lib.hid hpt
  have HB := Lib.hid (fun o => (Below.refl w.heap.size w).alloc (Nat.le_refl _) o)
  have HR := Lib.hid (fun w2 (hb : Below w.heap.size w w2) => rRight02_any char (some ⟨b, off, none⟩) 2 c B m d s data D D' w2 (hs.below hb) (hd.below hb) (fun x hx => by have := hr.2.1 x hx; unfold i64; omega) true (decide_eq_true hr).symm)
  have HRW0 := Lib.hid (fun k (hk : k < M) j (hj : j < r) w2 (hb : Below w.heap.size w w2) => rrow05_any char (.slice (some ⟨b, off, none⟩) 2 c) B m d (k * r * cc) r cc j data D' w2 rfl (hd.below hb) hi hr.2.2.2.2 (prod_step hk hmul) (by omega) hj (by omega) (by omega))
  have HBL := Lib.hid (fun k => blockL_eq (char := char) (data := data) (k := k) hrl hcl)
  have HBN := Lib.hid (fun k => blkTo_len char s data k)
  rw [hrl] at HBN
  have HMUL := Lib.hid hmul
  clear hs hd hi hr hlen hmen hs0 hM hprod hmul hpt hrl hcl hml hx hcx HLN
  go_enter Tryd.func18, Tryd.ntmps18
  go_wp2_with fail
  obtain ⟨wa, hwa⟩ : ∃ wa, wa = w.alloc (.cells #[.bool char, .slice (some ⟨b, off, none⟩) 2 c, .slice B m d] 27) := ⟨_, rfl⟩
  have hba : Below w.heap.size w wa := by rw [hwa]; exact HB.out _
  have hxa : wa.heap[w.heap.size]? = some (.cells #[.bool char, .slice (some ⟨b, off, none⟩) 2 c, .slice B m d] 27 (0, 0)) := by rw [hwa]; exact heap_alloc_new w _
  rw [← hwa]
  have BA := Lib.hid hba
  have XA := Lib.hid hxa
  clear hwa hba hxa HB
  refine (HR.out wa BA.out).mono ?_
  rintro e w1 ⟨rfl, hb1⟩
  have B1 := Lib.hid hb1
  have X1 := Lib.hid ((hb1.block _ (lt_of_block XA.out)).trans XA.out)
  have hx3 := agg_fields X1.out
  obtain ⟨p0, p1, p2⟩ := hx3
  clear hb1 HR
  have HB1 := Lib.hid (BA.out.trans (B1.out.mono BA.out.size))
  have cR1 := below_cell HB1.out cR
  have cC1 := below_cell HB1.out cC
  clear cR cC
  go_wp2
  go_loop [8, 9] (fun z i => ∃ k : Nat, k ≤ 0 ∧ i = .int .i64 (k : Int) ∧ z = .int .i64 (prodL (s.take k))) (fun _ i => 0 - (RowKit.intOf i).toNat)
  case atStart => exact ⟨0, Nat.zero_le _, rfl, rfl⟩
  case round =>
    obtain ⟨k, hk, rfl, rfl⟩ := hrel
    by_cases hlt : k < 0
    · omega
    · have hk2 : k = 0 := by omega
      have q1 : ¬ (k : Int) < 0 := by omega
      have HPK : RowKit.Hid (prodL (s.take k) = (M : Int)) := by show _ = _; rw [hk2]; exact HPT.out
      rw [HPK.out]
      clear hk2 cR1 cC1
      clear p0 p1 p2
      go_wp2
      go_loopw [4, 10] (fun v i wr => ∃ k : Nat, k ≤ M ∧ i = .int .i64 (k : Int) ∧ RowKit.Hid (Txs wr wa.heap.size v (blkTo char s data k)) ∧ RowKit.Hid (Below wa.heap.size wa wr)) (fun _ i _ => M - (RowKit.intOf i).toNat)
      case atStart => exact ⟨0, Nat.zero_le _, rfl, Txs.nil _ _, B1.out⟩
      case round =>
        obtain ⟨k, hk, rfl, htx, hbw⟩ := hrel
        by_cases hlt : k < M
        · have q2 : (k : Int) < (M : Int) := by omega
          obtain ⟨pp, hpp⟩ : ∃ pp, pp = k * r := ⟨_, rfl⟩
          obtain ⟨pq, hpq⟩ : ∃ pq, pq = k * r * cc := ⟨_, rfl⟩
          have e1 : (k : Int) * (r : Int) = (pp : Int) := by rw [hpp, Int.natCast_mul]
          have e2 : (pp : Int) * (cc : Int) = (pq : Int) := by rw [hpq, ← hpp, Int.natCast_mul]
          have hpqm : pq ≤ 10000 := by have := prod_step hlt HMUL.out; rw [hpq]; omega
          have hppm : pp ≤ 100000000 := by rw [hpp]; exact Nat.le_trans (Nat.mul_le_mul (show k ≤ 10000 by omega) (show r ≤ 10000 by omega)) (by decide)
          have HPQ := Lib.hid hpq
          have HRW := Lib.hid (HRW0.out k hlt)
          rw [← hpq] at HRW
          have HLB : RowKit.Hid ((blkTo char s data k).length ≤ 30000) := by show _ ≤ _; have h1 := HBN.out k; have h2 : k * (r + 2) ≤ M * (r + 2) := Nat.mul_le_mul_right _ (by omega); omega
          have HLG : RowKit.Hid ((gapL s k).length ≤ 2) := gapL_len s k
          have hx4 := agg_fields ((hbw.out.block _ (lt_of_block XA.out)).trans XA.out)
          obtain ⟨p0, p1, p2⟩ := hx4
          clear hpp hpq
          have hk0 : k = 0 := by omega
          have e3 : ¬ (0 : Int) < (k : Int) := by omega
          have TG := Lib.hid (htx.out.eq (show blkTo char s data k = blkTo char s data k ++ gapL s k by unfold gapL; rw [if_pos hk0, List.append_nil]) (Nat.le_refl _))
          have BG := Lib.hid hbw.out
          clear hk0 p0 p1 p2
          go_wp2
          go_loopw [4, 11] (fun v i wr => ∃ j : Nat, j ≤ r ∧ i = .int .i64 (j : Int) ∧ RowKit.Hid (Txs wr wa.heap.size v (blkTo char s data k ++ gapL s k ++ (matL char data pq r cc).take j)) ∧ RowKit.Hid (Below wa.heap.size wa wr)) (fun _ i _ => r - (RowKit.intOf i).toNat)
          case atStart => exact ⟨0, Nat.zero_le _, rfl, by rw [List.take_zero, List.append_nil]; exact TG.out, BG.out⟩
          case round =>
            clear TG BG
            obtain ⟨j, hj, rfl, htj, hbj⟩ := hrel
            by_cases hlj : j < r
            · have q5 : (j : Int) < (r : Int) := by omega
              have HRj := Lib.hid (HRW.out j hlj wr (BA.out.trans (hbj.out.mono BA.out.size)))
              have hx4 := agg_fields ((hbj.out.block _ (lt_of_block XA.out)).trans XA.out)
              obtain ⟨p0, p1, p2⟩ := hx4
              go_wp2_with fail
              refine HRj.out.mono ?_
              rintro e w5 ⟨rfl, hb5⟩
              have B5 := Lib.hid (hbj.out.trans (hb5.mono hbj.out.size))
              have T5 := Lib.hid (htj.out.below hb5)
              have HLJ : RowKit.Hid ((blkTo char s data k ++ gapL s k ++ (matL char data pq r cc).take j).length ≤ 60000) := by show _ ≤ _; rw [List.length_append, List.length_append, List.length_take, matL_len]; have := HLB.out; have := HLG.out; omega
              clear hb5 p0 p1 p2 HRj
              go_wp2_with (at_builtin; refine wpList_append_txs _ rfl (.tmp 95) (.tmp 106) rfl wa.heap.size _ _ _ _ [rowL char data pq r cc j] rfl rfl (World.ownsRow.alloc T5.out _) (txs_lit w5 w5.heap.size [rowL char data pq r cc j] #[.string (bs (rowL char data pq r cc j))] rfl (Nat.le_refl _) (by simp)) (by have := HLJ.out; simp at this ⊢; omega) (by have := B5.out.size; simp; omega) ?_; intro v6 w6 htx6 hg6)
              have PB := Lib.hid ((B5.out.alloc B5.out.size _).grown hg6 (by have := B5.out.size; simp; omega) (fun j hj => (World.ownsRow.lt T5.out j hj).1))
              have PT : RowKit.Hid (Txs w6 wa.heap.size v6 (blkTo char s data k ++ gapL s k ++ (matL char data pq r cc).take (j + 1))) := by
                show Txs _ _ _ _
                rw [matL_take hlj, ← List.append_assoc]
                exact htx6
              clear htx6 hg6 T5 B5
              go_wp2
              go_roundw
              case rel => exact ⟨j + 1, by omega, by go_num, PT.out, PB.out⟩
              case measure => simp [RowKit.intOf]; omega
            · have hjr : j = r := by omega
              have PT := Lib.hid (htj.out.eq (show _ = blkTo char s data (k + 1) by rw [hjr, List.take_of_length_le (by rw [matL_len]; exact Nat.le_refl _), blkTo_succ, HBL.out k, ← HPQ.out, ← List.append_assoc]) (Nat.le_refl _))
              have q5 : ¬ (j : Int) < (r : Int) := by omega
              clear hjr
              go_wp2
              go_roundw
              case rel => exact ⟨k + 1, by omega, by go_num, PT.out, hbj.out⟩
              case measure => simp [RowKit.intOf]; omega
        · have hkM : k = M := by omega
          subst hkM
          have PT := Lib.hid (htx.out.mono BA.out.size)
          have PB := Lib.hid (BA.out.trans (hbw.out.mono BA.out.size))
          go_wp2
          go_ret2
          exact ⟨_, rfl, PT.out, PB.out⟩

set_option maxRecDepth 100000 in
set_option maxHeartbeats 6400000 in
theorem rlines05_3 (char : Bool) (A : Option Addr) (c : Nat) (B : Option Addr) (m d : Nat) (data : List Int) (a r cc : Nat) (D D' : Nat → Prop) (w : World) (hs : Rd w D 1 A 3 c (intRows .i64 [(a : Int), (r : Int), (cc : Int)])) (hd : Rd w D' 1 B m d (intRows .i64 data)) (hi : ∀ x ∈ data, i64 x) (hr : rightL char [(a : Int), (r : Int), (cc : Int)] data) (hm0 : 0 < m) :
    Calls Tryd.prog 18 #[.agg #[.bool char, .slice A 3 c, .slice B m d]] w fun e w' => ∃ v, e = .returned (.tuple #[v, .bool true]) ∧ Txs w' w.heap.size v (linesL char [(a : Int), (r : Int), (cc : Int)] data) ∧ Below w.heap.size w w' := by
  have hmen : data.length = m := by have := hd.len; simpa [intRows] using this
  have hm : m ≤ 10000 := by have := hr.2.2.2.1; omega
  have hcle := hs.le
  have hcm : c ≤ 9223372036854775807 := by have h2 := hs.max; unfold maxLen at h2; omega
  obtain ⟨s, hs0⟩ : ∃ s : List Int, s = [(a : Int), (r : Int), (cc : Int)] := ⟨_, rfl⟩
  rw [← hs0] at hs hr ⊢
  have hlen : s.length = 3 := by rw [hs0]; rfl
  obtain ⟨M, hM⟩ : ∃ M : Nat, M = a := ⟨_, rfl⟩
  have hb0 : a ≤ 10000 := by have := (hr.2.1 (a : Int) (by rw [hs0]; simp)).2; omega
  have hb1 : r ≤ 10000 := by have := (hr.2.1 (r : Int) (by rw [hs0]; simp)).2; omega
  have hb2 : cc ≤ 10000 := by have := (hr.2.1 (cc : Int) (by rw [hs0]; simp)).2; omega
  have hprod : prodL s = ((M * r * cc : Nat) : Int) := by rw [hs0, hM]; simp [prodL, Int.natCast_mul]
  have hmul : M * r * cc = m := by have := hr.2.2.1; rw [hprod] at this; omega
  have hpt : prodL (s.take 1) = (M : Int) := by rw [hs0, hM]; simp [prodL]
  have hMr : M * r * cc ≠ 0 := by omega
  have hr0 : 0 < r := Nat.pos_of_ne_zero fun e => hMr (by rw [e, Nat.mul_zero, Nat.zero_mul])
  have hc0 : 0 < cc := Nat.pos_of_ne_zero fun e => hMr (by rw [e, Nat.mul_zero])
  have hM0 : 0 < M := Nat.pos_of_ne_zero fun e => hMr (by rw [e, Nat.zero_mul, Nat.zero_mul])
  have hMr2 : M * r ≤ 10000 := by have : M * r * 1 ≤ M * r * cc := Nat.mul_le_mul_left _ hc0; omega
  have hMb : M ≤ 10000 := by have : M * 1 ≤ M * r := Nat.mul_le_mul_left _ hr0; omega
  have hMr3 : M * (r + 2) ≤ 30000 := by rw [Nat.mul_add]; omega
  have hm1 : data ≠ [] := fun e => by rw [e] at hmen; simp at hmen; omega
  have hrl : rowsL s = r := by rw [hs0]; rfl
  have hcl : colsL s = cc := by rw [hs0]; rfl
  have hml : manyL s = M := by unfold manyL; rw [hlen]; show (prodL (s.take 1)).toNat = M; rw [hpt]; rfl
  have HLN : RowKit.Hid (linesL char s data = blkTo char s data M) := by show _ = _; unfold linesL blkTo; rw [if_neg (by omega), if_neg (fun h => hm1 h.2), hml]
  rw [HLN.out]
  obtain ⟨_, hx⟩ := hs.one
  obtain ⟨b, off, hA, -, hbl, hcx⟩ := hx (by omega)
  subst hA
  have cR := hcx 1 (r : Int) (by rw [hs0]; rfl)
  have cC := hcx 2 (cc : Int) (by rw [hs0]; rfl)
  have HCX := Lib.hid hcx
  have HRB : RowKit.Hid (∀ x ∈ s, 0 ≤ x ∧ x ≤ 10000) := hr.2.1
  have HS0 := Lib.hid hlen
  have HPT := Lib.hid hpt
  have HGA := Lib.hid hs0
  have HB := Lib.hid (fun o => (Below.refl w.heap.size w).alloc (Nat.le_refl _) o)
  have HR := Lib.hid (fun w2 (hb : Below w.heap.size w w2) => rRight02_any char (some ⟨b, off, none⟩) 3 c B m d s data D D' w2 (hs.below hb) (hd.below hb) (fun x hx => by have := hr.2.1 x hx; unfold i64; omega) true (decide_eq_true hr).symm)
  have HRW0 := Lib.hid (fun k (hk : k < M) j (hj : j < r) w2 (hb : Below w.heap.size w w2) => rrow05_any char (.slice (some ⟨b, off, none⟩) 3 c) B m d (k * r * cc) r cc j data D' w2 rfl (hd.below hb) hi hr.2.2.2.2 (prod_step hk hmul) (by omega) hj (by omega) (by omega))
  have HBL := Lib.hid (fun k => blockL_eq (char := char) (data := data) (k := k) hrl hcl)
  have HBN := Lib.hid (fun k => blkTo_len char s data k)
  rw [hrl] at HBN
  have HMUL := Lib.hid hmul
  have e0 : ((m : Int) == 0) = false := by simp; omega
  clear hs hd hi hr hlen hmen hs0 hM hprod hmul hpt hrl hcl hml hx hcx HLN hMr hm1
  go_enter Tryd.func18, Tryd.ntmps18
  go_wp2_with fail
  obtain ⟨wa, hwa⟩ : ∃ wa, wa = w.alloc (.cells #[.bool char, .slice (some ⟨b, off, none⟩) 3 c, .slice B m d] 27) := ⟨_, rfl⟩
  have hba : Below w.heap.size w wa := by rw [hwa]; exact HB.out _
  have hxa : wa.heap[w.heap.size]? = some (.cells #[.bool char, .slice (some ⟨b, off, none⟩) 3 c, .slice B m d] 27 (0, 0)) := by rw [hwa]; exact heap_alloc_new w _
  rw [← hwa]
  have BA := Lib.hid hba
  have XA := Lib.hid hxa
  clear hwa hba hxa HB
  refine (HR.out wa BA.out).mono ?_
  rintro e w1 ⟨rfl, hb1⟩
  have B1 := Lib.hid hb1
  have X1 := Lib.hid ((hb1.block _ (lt_of_block XA.out)).trans XA.out)
  have hx3 := agg_fields X1.out
  obtain ⟨p0, p1, p2⟩ := hx3
  clear hb1 HR
  have HB1 := Lib.hid (BA.out.trans (B1.out.mono BA.out.size))
  have cR1 := below_cell HB1.out cR
  have cC1 := below_cell HB1.out cC
  clear cR cC
  go_wp2
  go_loop [8, 9] (fun z i => ∃ k : Nat, k ≤ 1 ∧ i = .int .i64 (k : Int) ∧ z = .int .i64 (prodL (s.take k))) (fun _ i => 1 - (RowKit.intOf i).toNat)
  case atStart => exact ⟨0, Nat.zero_le _, rfl, rfl⟩
  case round =>
    obtain ⟨k, hk, rfl, rfl⟩ := hrel
    by_cases hlt : k < 1
    · have q1 : (k : Int) < 1 := by omega
      have q1' : (k : Int) < (3 : Int) := by omega
      obtain ⟨x, hxk⟩ : ∃ x, s[k]? = some x := ⟨_, List.getElem?_eq_getElem (by rw [HS0.out]; omega)⟩
      have cx := below_cell HB1.out (HCX.out k x hxk)
      have HP := Lib.hid (prodL_take hxk)
      have hb := prodL_le (s := s.take (k + 1)) (by rw [List.length_take]; omega) (fun y hy => HRB.out y (List.mem_of_mem_take hy))
      rw [HP.out] at hb
      obtain ⟨hb0, hb1⟩ := hb
      have hb2 : -9223372036854775808 ≤ prodL (s.take k) * x := by omega
      have hb3 : prodL (s.take k) * x ≤ 9223372036854775807 := by omega
      generalize prodL (s.take k) = p at *
      clear hxk
      go_wp2
      go_round
      case rel => exact ⟨k + 1, by omega, by go_num, by rw [HP.out]⟩
      case measure => simp [RowKit.intOf]; omega
    · have hk2 : k = 1 := by omega
      have q1 : ¬ (k : Int) < 1 := by omega
      have HPK : RowKit.Hid (prodL (s.take k) = (M : Int)) := by show _ = _; rw [hk2]; exact HPT.out
      rw [HPK.out]
      clear hk2 cR1 cC1
      clear p0 p1 p2
      go_wp2
      go_loopw [4, 10] (fun v i wr => ∃ k : Nat, k ≤ M ∧ i = .int .i64 (k : Int) ∧ RowKit.Hid (Txs wr wa.heap.size v (blkTo char s data k)) ∧ RowKit.Hid (Below wa.heap.size wa wr)) (fun _ i _ => M - (RowKit.intOf i).toNat)
      case atStart => exact ⟨0, Nat.zero_le _, rfl, Txs.nil _ _, B1.out⟩
      case round =>
        obtain ⟨k, hk, rfl, htx, hbw⟩ := hrel
        by_cases hlt : k < M
        · have q2 : (k : Int) < (M : Int) := by omega
          obtain ⟨pp, hpp⟩ : ∃ pp, pp = k * r := ⟨_, rfl⟩
          obtain ⟨pq, hpq⟩ : ∃ pq, pq = k * r * cc := ⟨_, rfl⟩
          have e1 : (k : Int) * (r : Int) = (pp : Int) := by rw [hpp, Int.natCast_mul]
          have e2 : (pp : Int) * (cc : Int) = (pq : Int) := by rw [hpq, ← hpp, Int.natCast_mul]
          have hpqm : pq ≤ 10000 := by have := prod_step hlt HMUL.out; rw [hpq]; omega
          have hppm : pp ≤ 100000000 := by rw [hpp]; exact Nat.le_trans (Nat.mul_le_mul (show k ≤ 10000 by omega) (show r ≤ 10000 by omega)) (by decide)
          have HPQ := Lib.hid hpq
          have HRW := Lib.hid (HRW0.out k hlt)
          rw [← hpq] at HRW
          have HLB : RowKit.Hid ((blkTo char s data k).length ≤ 30000) := by show _ ≤ _; have h1 := HBN.out k; have h2 : k * (r + 2) ≤ M * (r + 2) := Nat.mul_le_mul_right _ (by omega); omega
          have HLG : RowKit.Hid ((gapL s k).length ≤ 2) := gapL_len s k
          have hx4 := agg_fields ((hbw.out.block _ (lt_of_block XA.out)).trans XA.out)
          obtain ⟨p0, p1, p2⟩ := hx4
          clear hpp hpq
          rcases Nat.eq_zero_or_pos k with hk0 | hk0
          · have e3 : ¬ (0 : Int) < (k : Int) := by omega
            have TG := Lib.hid (htx.out.eq (show blkTo char s data k = blkTo char s data k ++ gapL s k by unfold gapL; rw [if_pos hk0, List.append_nil]) (Nat.le_refl _))
            have BG := Lib.hid hbw.out
            clear hk0 p0 p1 p2
            go_wp2
            go_loopw [4, 11] (fun v i wr => ∃ j : Nat, j ≤ r ∧ i = .int .i64 (j : Int) ∧ RowKit.Hid (Txs wr wa.heap.size v (blkTo char s data k ++ gapL s k ++ (matL char data pq r cc).take j)) ∧ RowKit.Hid (Below wa.heap.size wa wr)) (fun _ i _ => r - (RowKit.intOf i).toNat)
            case atStart => exact ⟨0, Nat.zero_le _, rfl, by rw [List.take_zero, List.append_nil]; exact TG.out, BG.out⟩
            case round =>
              clear TG BG
              obtain ⟨j, hj, rfl, htj, hbj⟩ := hrel
              by_cases hlj : j < r
              · have q5 : (j : Int) < (r : Int) := by omega
                have HRj := Lib.hid (HRW.out j hlj wr (BA.out.trans (hbj.out.mono BA.out.size)))
                have hx4 := agg_fields ((hbj.out.block _ (lt_of_block XA.out)).trans XA.out)
                obtain ⟨p0, p1, p2⟩ := hx4
                go_wp2_with fail
                refine HRj.out.mono ?_
                rintro e w5 ⟨rfl, hb5⟩
                have B5 := Lib.hid (hbj.out.trans (hb5.mono hbj.out.size))
                have T5 := Lib.hid (htj.out.below hb5)
                have HLJ : RowKit.Hid ((blkTo char s data k ++ gapL s k ++ (matL char data pq r cc).take j).length ≤ 60000) := by show _ ≤ _; rw [List.length_append, List.length_append, List.length_take, matL_len]; have := HLB.out; have := HLG.out; omega
                clear hb5 p0 p1 p2 HRj
                go_wp2_with (at_builtin; refine wpList_append_txs _ rfl (.tmp 95) (.tmp 106) rfl wa.heap.size _ _ _ _ [rowL char data pq r cc j] rfl rfl (World.ownsRow.alloc T5.out _) (txs_lit w5 w5.heap.size [rowL char data pq r cc j] #[.string (bs (rowL char data pq r cc j))] rfl (Nat.le_refl _) (by simp)) (by have := HLJ.out; simp at this ⊢; omega) (by have := B5.out.size; simp; omega) ?_; intro v6 w6 htx6 hg6)
                have PB := Lib.hid ((B5.out.alloc B5.out.size _).grown hg6 (by have := B5.out.size; simp; omega) (fun j hj => (World.ownsRow.lt T5.out j hj).1))
                have PT : RowKit.Hid (Txs w6 wa.heap.size v6 (blkTo char s data k ++ gapL s k ++ (matL char data pq r cc).take (j + 1))) := by
                  show Txs _ _ _ _
                  rw [matL_take hlj, ← List.append_assoc]
                  exact htx6
                clear htx6 hg6 T5 B5
                go_wp2
                go_roundw
                case rel => exact ⟨j + 1, by omega, by go_num, PT.out, PB.out⟩
                case measure => simp [RowKit.intOf]; omega
              · have hjr : j = r := by omega
                have PT := Lib.hid (htj.out.eq (show _ = blkTo char s data (k + 1) by rw [hjr, List.take_of_length_le (by rw [matL_len]; exact Nat.le_refl _), blkTo_succ, HBL.out k, ← HPQ.out, ← List.append_assoc]) (Nat.le_refl _))
                have q5 : ¬ (j : Int) < (r : Int) := by omega
                clear hjr
                go_wp2
                go_roundw
                case rel => exact ⟨k + 1, by omega, by go_num, PT.out, hbj.out⟩
                case measure => simp [RowKit.intOf]; omega
          · have e3 : (0 : Int) < (k : Int) := by omega
            have hkn : (0 : Int) ≤ (k : Int) := by omega
            clear p0 p1 p2
            go_wp2_with (at_builtin; refine wpList_append_txs _ rfl (.tmp 69) (.tmp 70) rfl wa.heap.size _ _ _ _ [[]] rfl rfl (World.ownsRow.alloc htx.out _) (txs_lit wr wr.heap.size [[]] #[.string ⟨#[]⟩] rfl (Nat.le_refl _) (by simp)) (by have := HLB.out; simp; omega) (by have := hbw.out.size; simp; omega) ?_; intro v3 w3 htx3 hg3; have X3 := agg_fields (((((hbw.out.alloc hbw.out.size _).grown hg3 (by have := hbw.out.size; simp; omega) (fun j hj => (World.ownsRow.lt htx.out j hj).1))).block _ (lt_of_block XA.out)).trans XA.out); obtain ⟨p0, p1, p2⟩ := X3)
            have BG := Lib.hid ((hbw.out.alloc hbw.out.size _).grown hg3 (by have := hbw.out.size; simp; omega) (fun j hj => (World.ownsRow.lt htx.out j hj).1))
            have TG := Lib.hid (htx3.eq (show _ = blkTo char s data k ++ gapL s k by unfold gapL; rw [if_neg (by omega), if_neg (fun h => by have := h.1; rw [HS0.out] at this; omega)]) (Nat.le_refl _))
            clear htx3 hg3 p0 p1 p2
            first | done | skip
            go_loopw [4, 11] (fun v i wr => ∃ j : Nat, j ≤ r ∧ i = .int .i64 (j : Int) ∧ RowKit.Hid (Txs wr wa.heap.size v (blkTo char s data k ++ gapL s k ++ (matL char data pq r cc).take j)) ∧ RowKit.Hid (Below wa.heap.size wa wr)) (fun _ i _ => r - (RowKit.intOf i).toNat)
            case atStart => exact ⟨0, Nat.zero_le _, rfl, by rw [List.take_zero, List.append_nil]; exact TG.out, BG.out⟩
            case round =>
              clear TG BG
              obtain ⟨j, hj, rfl, htj, hbj⟩ := hrel
              by_cases hlj : j < r
              · have q5 : (j : Int) < (r : Int) := by omega
                have HRj := Lib.hid (HRW.out j hlj wr (BA.out.trans (hbj.out.mono BA.out.size)))
                have hx4 := agg_fields ((hbj.out.block _ (lt_of_block XA.out)).trans XA.out)
                obtain ⟨p0, p1, p2⟩ := hx4
                go_wp2_with fail
                refine HRj.out.mono ?_
                rintro e w5 ⟨rfl, hb5⟩
                have B5 := Lib.hid (hbj.out.trans (hb5.mono hbj.out.size))
                have T5 := Lib.hid (htj.out.below hb5)
                have HLJ : RowKit.Hid ((blkTo char s data k ++ gapL s k ++ (matL char data pq r cc).take j).length ≤ 60000) := by show _ ≤ _; rw [List.length_append, List.length_append, List.length_take, matL_len]; have := HLB.out; have := HLG.out; omega
                clear hb5 p0 p1 p2 HRj
                go_wp2_with (at_builtin; refine wpList_append_txs _ rfl (.tmp 95) (.tmp 106) rfl wa.heap.size _ _ _ _ [rowL char data pq r cc j] rfl rfl (World.ownsRow.alloc T5.out _) (txs_lit w5 w5.heap.size [rowL char data pq r cc j] #[.string (bs (rowL char data pq r cc j))] rfl (Nat.le_refl _) (by simp)) (by have := HLJ.out; simp at this ⊢; omega) (by have := B5.out.size; simp; omega) ?_; intro v6 w6 htx6 hg6)
                have PB := Lib.hid ((B5.out.alloc B5.out.size _).grown hg6 (by have := B5.out.size; simp; omega) (fun j hj => (World.ownsRow.lt T5.out j hj).1))
                have PT : RowKit.Hid (Txs w6 wa.heap.size v6 (blkTo char s data k ++ gapL s k ++ (matL char data pq r cc).take (j + 1))) := by
                  show Txs _ _ _ _
                  rw [matL_take hlj, ← List.append_assoc]
                  exact htx6
                clear htx6 hg6 T5 B5
                go_wp2
                go_roundw
                case rel => exact ⟨j + 1, by omega, by go_num, PT.out, PB.out⟩
                case measure => simp [RowKit.intOf]; omega
              · have hjr : j = r := by omega
                have PT := Lib.hid (htj.out.eq (show _ = blkTo char s data (k + 1) by rw [hjr, List.take_of_length_le (by rw [matL_len]; exact Nat.le_refl _), blkTo_succ, HBL.out k, ← HPQ.out, ← List.append_assoc]) (Nat.le_refl _))
                have q5 : ¬ (j : Int) < (r : Int) := by omega
                clear hjr
                go_wp2
                go_roundw
                case rel => exact ⟨k + 1, by omega, by go_num, PT.out, hbj.out⟩
                case measure => simp [RowKit.intOf]; omega
        · have hkM : k = M := by omega
          subst hkM
          have PT := Lib.hid (htx.out.mono BA.out.size)
          have PB := Lib.hid (BA.out.trans (hbw.out.mono BA.out.size))
          go_wp2
          go_ret2
          exact ⟨_, rfl, PT.out, PB.out⟩

set_option maxRecDepth 100000 in
set_option maxHeartbeats 6400000 in
theorem rlines05_4 (char : Bool) (A : Option Addr) (c : Nat) (B : Option Addr) (m d : Nat) (data : List Int) (a b0 r cc : Nat) (D D' : Nat → Prop) (w : World) (hs : Rd w D 1 A 4 c (intRows .i64 [(a : Int), (b0 : Int), (r : Int), (cc : Int)])) (hd : Rd w D' 1 B m d (intRows .i64 data)) (hi : ∀ x ∈ data, i64 x) (hr : rightL char [(a : Int), (b0 : Int), (r : Int), (cc : Int)] data) (hm0 : 0 < m) :
    Calls Tryd.prog 18 #[.agg #[.bool char, .slice A 4 c, .slice B m d]] w fun e w' => ∃ v, e = .returned (.tuple #[v, .bool true]) ∧ Txs w' w.heap.size v (linesL char [(a : Int), (b0 : Int), (r : Int), (cc : Int)] data) ∧ Below w.heap.size w w' := by
  have hmen : data.length = m := by have := hd.len; simpa [intRows] using this
  have hm : m ≤ 10000 := by have := hr.2.2.2.1; omega
  have hcle := hs.le
  have hcm : c ≤ 9223372036854775807 := by have h2 := hs.max; unfold maxLen at h2; omega
  obtain ⟨s, hs0⟩ : ∃ s : List Int, s = [(a : Int), (b0 : Int), (r : Int), (cc : Int)] := ⟨_, rfl⟩
  rw [← hs0] at hs hr ⊢
  have hlen : s.length = 4 := by rw [hs0]; rfl
  obtain ⟨M, hM⟩ : ∃ M : Nat, M = a * b0 := ⟨_, rfl⟩
  have hb0 : a ≤ 10000 := by have := (hr.2.1 (a : Int) (by rw [hs0]; simp)).2; omega
  have hb1 : b0 ≤ 10000 := by have := (hr.2.1 (b0 : Int) (by rw [hs0]; simp)).2; omega
  have hb2 : r ≤ 10000 := by have := (hr.2.1 (r : Int) (by rw [hs0]; simp)).2; omega
  have hb3 : cc ≤ 10000 := by have := (hr.2.1 (cc : Int) (by rw [hs0]; simp)).2; omega
  have hprod : prodL s = ((M * r * cc : Nat) : Int) := by rw [hs0, hM]; simp [prodL, Int.natCast_mul, Int.mul_assoc]
  have hmul : M * r * cc = m := by have := hr.2.2.1; rw [hprod] at this; omega
  have hpt : prodL (s.take 2) = (M : Int) := by rw [hs0, hM]; simp [prodL]
  have hMr : M * r * cc ≠ 0 := by omega
  have hr0 : 0 < r := Nat.pos_of_ne_zero fun e => hMr (by rw [e, Nat.mul_zero, Nat.zero_mul])
  have hc0 : 0 < cc := Nat.pos_of_ne_zero fun e => hMr (by rw [e, Nat.mul_zero])
  have hM0 : 0 < M := Nat.pos_of_ne_zero fun e => hMr (by rw [e, Nat.zero_mul, Nat.zero_mul])
  have hMr2 : M * r ≤ 10000 := by have : M * r * 1 ≤ M * r * cc := Nat.mul_le_mul_left _ hc0; omega
  have hMb : M ≤ 10000 := by have : M * 1 ≤ M * r := Nat.mul_le_mul_left _ hr0; omega
  have hMr3 : M * (r + 2) ≤ 30000 := by rw [Nat.mul_add]; omega
  have hm1 : data ≠ [] := fun e => by rw [e] at hmen; simp at hmen; omega
  have hb00 : 0 < b0 := Nat.pos_of_ne_zero fun e => by rw [hM, e, Nat.mul_zero] at hM0; omega
  have hrl : rowsL s = r := by rw [hs0]; rfl
  have hcl : colsL s = cc := by rw [hs0]; rfl
  have hml : manyL s = M := by unfold manyL; rw [hlen]; show (prodL (s.take 2)).toNat = M; rw [hpt]; rfl
  have HLN : RowKit.Hid (linesL char s data = blkTo char s data M) := by show _ = _; unfold linesL blkTo; rw [if_neg (by omega), if_neg (fun h => hm1 h.2), hml]
  rw [HLN.out]
  obtain ⟨_, hx⟩ := hs.one
  obtain ⟨b, off, hA, -, hbl, hcx⟩ := hx (by omega)
  subst hA
  have cR := hcx 2 (r : Int) (by rw [hs0]; rfl)
  have cC := hcx 3 (cc : Int) (by rw [hs0]; rfl)
  have CB := Lib.hid (hcx 1 (b0 : Int) (by rw [hs0]; rfl))
  have HCX := Lib.hid hcx
  have HRB : RowKit.Hid (∀ x ∈ s, 0 ≤ x ∧ x ≤ 10000) := hr.2.1
  have HS0 := Lib.hid hlen
  have HPT := Lib.hid hpt
  have HGB : RowKit.Hid (s.getD 1 0 = (b0 : Int)) := by show _ = _; rw [hs0]; rfl
  have HB := Lib.hid (fun o => (Below.refl w.heap.size w).alloc (Nat.le_refl _) o)
  have HR := Lib.hid (fun w2 (hb : Below w.heap.size w w2) => rRight02_any char (some ⟨b, off, none⟩) 4 c B m d s data D D' w2 (hs.below hb) (hd.below hb) (fun x hx => by have := hr.2.1 x hx; unfold i64; omega) true (decide_eq_true hr).symm)
  have HRW0 := Lib.hid (fun k (hk : k < M) j (hj : j < r) w2 (hb : Below w.heap.size w w2) => rrow05_any char (.slice (some ⟨b, off, none⟩) 4 c) B m d (k * r * cc) r cc j data D' w2 rfl (hd.below hb) hi hr.2.2.2.2 (prod_step hk hmul) (by omega) hj (by omega) (by omega))
  have HBL := Lib.hid (fun k => blockL_eq (char := char) (data := data) (k := k) hrl hcl)
  have HBN := Lib.hid (fun k => blkTo_len char s data k)
  rw [hrl] at HBN
  have HMUL := Lib.hid hmul
  have e0 : ((m : Int) == 0) = false := by simp; omega
  clear hs hd hi hr hlen hmen hs0 hM hprod hmul hpt hrl hcl hml hx hcx HLN hMr hm1
  go_enter Tryd.func18, Tryd.ntmps18
  go_wp2_with fail
  obtain ⟨wa, hwa⟩ : ∃ wa, wa = w.alloc (.cells #[.bool char, .slice (some ⟨b, off, none⟩) 4 c, .slice B m d] 27) := ⟨_, rfl⟩
  have hba : Below w.heap.size w wa := by rw [hwa]; exact HB.out _
  have hxa : wa.heap[w.heap.size]? = some (.cells #[.bool char, .slice (some ⟨b, off, none⟩) 4 c, .slice B m d] 27 (0, 0)) := by rw [hwa]; exact heap_alloc_new w _
  rw [← hwa]
  have BA := Lib.hid hba
  have XA := Lib.hid hxa
  clear hwa hba hxa HB
  refine (HR.out wa BA.out).mono ?_
  rintro e w1 ⟨rfl, hb1⟩
  have B1 := Lib.hid hb1
  have X1 := Lib.hid ((hb1.block _ (lt_of_block XA.out)).trans XA.out)
  have hx3 := agg_fields X1.out
  obtain ⟨p0, p1, p2⟩ := hx3
  clear hb1 HR
  have HB1 := Lib.hid (BA.out.trans (B1.out.mono BA.out.size))
  have cR1 := below_cell HB1.out cR
  have cC1 := below_cell HB1.out cC
  clear cR cC
  go_wp2
  go_loop [8, 9] (fun z i => ∃ k : Nat, k ≤ 2 ∧ i = .int .i64 (k : Int) ∧ z = .int .i64 (prodL (s.take k))) (fun _ i => 2 - (RowKit.intOf i).toNat)
  case atStart => exact ⟨0, Nat.zero_le _, rfl, rfl⟩
  case round =>
    obtain ⟨k, hk, rfl, rfl⟩ := hrel
    by_cases hlt : k < 2
    · have q1 : (k : Int) < 2 := by omega
      have q1' : (k : Int) < (4 : Int) := by omega
      obtain ⟨x, hxk⟩ : ∃ x, s[k]? = some x := ⟨_, List.getElem?_eq_getElem (by rw [HS0.out]; omega)⟩
      have cx := below_cell HB1.out (HCX.out k x hxk)
      have HP := Lib.hid (prodL_take hxk)
      have hb := prodL_le (s := s.take (k + 1)) (by rw [List.length_take]; omega) (fun y hy => HRB.out y (List.mem_of_mem_take hy))
      rw [HP.out] at hb
      obtain ⟨hb0, hb1⟩ := hb
      have hb2 : -9223372036854775808 ≤ prodL (s.take k) * x := by omega
      have hb3 : prodL (s.take k) * x ≤ 9223372036854775807 := by omega
      generalize prodL (s.take k) = p at *
      clear hxk
      go_wp2
      go_round
      case rel => exact ⟨k + 1, by omega, by go_num, by rw [HP.out]⟩
      case measure => simp [RowKit.intOf]; omega
    · have hk2 : k = 2 := by omega
      have q1 : ¬ (k : Int) < 2 := by omega
      have HPK : RowKit.Hid (prodL (s.take k) = (M : Int)) := by show _ = _; rw [hk2]; exact HPT.out
      rw [HPK.out]
      clear hk2 cR1 cC1
      clear p0 p1 p2
      go_wp2
      go_loopw [4, 10] (fun v i wr => ∃ k : Nat, k ≤ M ∧ i = .int .i64 (k : Int) ∧ RowKit.Hid (Txs wr wa.heap.size v (blkTo char s data k)) ∧ RowKit.Hid (Below wa.heap.size wa wr)) (fun _ i _ => M - (RowKit.intOf i).toNat)
      case atStart => exact ⟨0, Nat.zero_le _, rfl, Txs.nil _ _, B1.out⟩
      case round =>
        obtain ⟨k, hk, rfl, htx, hbw⟩ := hrel
        by_cases hlt : k < M
        · have q2 : (k : Int) < (M : Int) := by omega
          obtain ⟨pp, hpp⟩ : ∃ pp, pp = k * r := ⟨_, rfl⟩
          obtain ⟨pq, hpq⟩ : ∃ pq, pq = k * r * cc := ⟨_, rfl⟩
          have e1 : (k : Int) * (r : Int) = (pp : Int) := by rw [hpp, Int.natCast_mul]
          have e2 : (pp : Int) * (cc : Int) = (pq : Int) := by rw [hpq, ← hpp, Int.natCast_mul]
          have hpqm : pq ≤ 10000 := by have := prod_step hlt HMUL.out; rw [hpq]; omega
          have hppm : pp ≤ 100000000 := by rw [hpp]; exact Nat.le_trans (Nat.mul_le_mul (show k ≤ 10000 by omega) (show r ≤ 10000 by omega)) (by decide)
          have HPQ := Lib.hid hpq
          have HRW := Lib.hid (HRW0.out k hlt)
          rw [← hpq] at HRW
          have HLB : RowKit.Hid ((blkTo char s data k).length ≤ 30000) := by show _ ≤ _; have h1 := HBN.out k; have h2 : k * (r + 2) ≤ M * (r + 2) := Nat.mul_le_mul_right _ (by omega); omega
          have HLG : RowKit.Hid ((gapL s k).length ≤ 2) := gapL_len s k
          have hx4 := agg_fields ((hbw.out.block _ (lt_of_block XA.out)).trans XA.out)
          obtain ⟨p0, p1, p2⟩ := hx4
          clear hpp hpq
          rcases Nat.eq_zero_or_pos k with hk0 | hk0
          · have e3 : ¬ (0 : Int) < (k : Int) := by omega
            have TG := Lib.hid (htx.out.eq (show blkTo char s data k = blkTo char s data k ++ gapL s k by unfold gapL; rw [if_pos hk0, List.append_nil]) (Nat.le_refl _))
            have BG := Lib.hid hbw.out
            clear hk0 p0 p1 p2
            go_wp2
            go_loopw [4, 11] (fun v i wr => ∃ j : Nat, j ≤ r ∧ i = .int .i64 (j : Int) ∧ RowKit.Hid (Txs wr wa.heap.size v (blkTo char s data k ++ gapL s k ++ (matL char data pq r cc).take j)) ∧ RowKit.Hid (Below wa.heap.size wa wr)) (fun _ i _ => r - (RowKit.intOf i).toNat)
            case atStart => exact ⟨0, Nat.zero_le _, rfl, by rw [List.take_zero, List.append_nil]; exact TG.out, BG.out⟩
            case round =>
              clear TG BG
              obtain ⟨j, hj, rfl, htj, hbj⟩ := hrel
              by_cases hlj : j < r
              · have q5 : (j : Int) < (r : Int) := by omega
                have HRj := Lib.hid (HRW.out j hlj wr (BA.out.trans (hbj.out.mono BA.out.size)))
                have hx4 := agg_fields ((hbj.out.block _ (lt_of_block XA.out)).trans XA.out)
                obtain ⟨p0, p1, p2⟩ := hx4
                go_wp2_with fail
                refine HRj.out.mono ?_
                rintro e w5 ⟨rfl, hb5⟩
                have B5 := Lib.hid (hbj.out.trans (hb5.mono hbj.out.size))
                have T5 := Lib.hid (htj.out.below hb5)
                have HLJ : RowKit.Hid ((blkTo char s data k ++ gapL s k ++ (matL char data pq r cc).take j).length ≤ 60000) := by show _ ≤ _; rw [List.length_append, List.length_append, List.length_take, matL_len]; have := HLB.out; have := HLG.out; omega
                clear hb5 p0 p1 p2 HRj
                go_wp2_with (at_builtin; refine wpList_append_txs _ rfl (.tmp 95) (.tmp 106) rfl wa.heap.size _ _ _ _ [rowL char data pq r cc j] rfl rfl (World.ownsRow.alloc T5.out _) (txs_lit w5 w5.heap.size [rowL char data pq r cc j] #[.string (bs (rowL char data pq r cc j))] rfl (Nat.le_refl _) (by simp)) (by have := HLJ.out; simp at this ⊢; omega) (by have := B5.out.size; simp; omega) ?_; intro v6 w6 htx6 hg6)
                have PB := Lib.hid ((B5.out.alloc B5.out.size _).grown hg6 (by have := B5.out.size; simp; omega) (fun j hj => (World.ownsRow.lt T5.out j hj).1))
                have PT : RowKit.Hid (Txs w6 wa.heap.size v6 (blkTo char s data k ++ gapL s k ++ (matL char data pq r cc).take (j + 1))) := by
                  show Txs _ _ _ _
                  rw [matL_take hlj, ← List.append_assoc]
                  exact htx6
                clear htx6 hg6 T5 B5
                go_wp2
                go_roundw
                case rel => exact ⟨j + 1, by omega, by go_num, PT.out, PB.out⟩
                case measure => simp [RowKit.intOf]; omega
              · have hjr : j = r := by omega
                have PT := Lib.hid (htj.out.eq (show _ = blkTo char s data (k + 1) by rw [hjr, List.take_of_length_le (by rw [matL_len]; exact Nat.le_refl _), blkTo_succ, HBL.out k, ← HPQ.out, ← List.append_assoc]) (Nat.le_refl _))
                have q5 : ¬ (j : Int) < (r : Int) := by omega
                clear hjr
                go_wp2
                go_roundw
                case rel => exact ⟨k + 1, by omega, by go_num, PT.out, hbj.out⟩
                case measure => simp [RowKit.intOf]; omega
          · have e3 : (0 : Int) < (k : Int) := by omega
            have hkn : (0 : Int) ≤ (k : Int) := by omega
            have hbz : ¬ (b0 : Int) = 0 := by omega
            have hbz2 : ¬ b0 = 0 := by omega
            clear p0 p1 p2
            by_cases hmd : (k : Int) % (b0 : Int) = 0
            · have e4 : ((k : Int) % (b0 : Int) == 0) = true := by simp [hmd]
              have HGE : RowKit.Hid (gapL s k = [[], []]) := by show _ = _; unfold gapL; rw [if_neg (by omega), if_pos ⟨HS0.out, by rw [HGB.out]; exact hmd⟩]
              have FXB : RowKit.Hid (∀ w9, Below wa.heap.size wa w9 → w9.cell? ⟨b, off + 1, none⟩ = some (.int .i64 (b0 : Int))) := fun w9 h9 => below_cell h9 (below_cell BA.out CB.out)
              clear hmd
              go_upto_region 21 with (at_builtin; refine wpList_append_txs _ rfl (.tmp 69) (.tmp 70) rfl wa.heap.size _ _ _ _ [[]] rfl rfl (World.ownsRow.alloc htx.out _) (txs_lit wr wr.heap.size [[]] #[.string ⟨#[]⟩] rfl (Nat.le_refl _) (by simp)) (by have := HLB.out; simp; omega) (by have := hbw.out.size; simp; omega) ?_; intro v3 w3 htx3 hg3; have X3 := agg_fields (((((hbw.out.alloc hbw.out.size _).grown hg3 (by have := hbw.out.size; simp; omega) (fun j hj => (World.ownsRow.lt htx.out j hj).1))).block _ (lt_of_block XA.out)).trans XA.out); obtain ⟨p0, p1, p2⟩ := X3; have cb3 := FXB.out w3 ((hbw.out.alloc hbw.out.size _).grown hg3 (by have := hbw.out.size; simp; omega) (fun j hj => (World.ownsRow.lt htx.out j hj).1)); have B3 := Lib.hid ((hbw.out.alloc hbw.out.size _).grown hg3 (by have := hbw.out.size; simp; omega) (fun j hj => (World.ownsRow.lt htx.out j hj).1)); have T3 := Lib.hid htx3; clear htx3 hg3)
              clear p0
              go_wp2_with (at_builtin; refine wpList_append_txs _ rfl (.tmp 87) (.tmp 88) rfl wa.heap.size _ _ _ _ [[]] rfl rfl (World.ownsRow.alloc T3.out _) (txs_lit w3 w3.heap.size [[]] #[.string ⟨#[]⟩] rfl (Nat.le_refl _) (by simp)) (by have := HLB.out; simp; omega) (by have := B3.out.size; simp; omega) ?_; intro v4 w4 htx4 hg4; have X4 := agg_fields (((((B3.out.alloc B3.out.size _).grown hg4 (by have := B3.out.size; simp; omega) (fun j hj => (World.ownsRow.lt T3.out j hj).1))).block _ (lt_of_block XA.out)).trans XA.out); obtain ⟨p0, p1, p2⟩ := X4)
              have BG := Lib.hid ((B3.out.alloc B3.out.size _).grown hg4 (by have := B3.out.size; simp; omega) (fun j hj => (World.ownsRow.lt T3.out j hj).1))
              have TG := Lib.hid (htx4.eq (show _ = blkTo char s data k ++ gapL s k by rw [HGE.out]; simp) (Nat.le_refl _))
              clear htx4 hg4 p0 p1 p2 cb3 e4
              go_loopw [4, 11] (fun v i wr => ∃ j : Nat, j ≤ r ∧ i = .int .i64 (j : Int) ∧ RowKit.Hid (Txs wr wa.heap.size v (blkTo char s data k ++ gapL s k ++ (matL char data pq r cc).take j)) ∧ RowKit.Hid (Below wa.heap.size wa wr)) (fun _ i _ => r - (RowKit.intOf i).toNat)
              case atStart => exact ⟨0, Nat.zero_le _, rfl, by rw [List.take_zero, List.append_nil]; exact TG.out, BG.out⟩
              case round =>
                clear TG BG
                obtain ⟨j, hj, rfl, htj, hbj⟩ := hrel
                by_cases hlj : j < r
                · have q5 : (j : Int) < (r : Int) := by omega
                  have HRj := Lib.hid (HRW.out j hlj wr (BA.out.trans (hbj.out.mono BA.out.size)))
                  have hx4 := agg_fields ((hbj.out.block _ (lt_of_block XA.out)).trans XA.out)
                  obtain ⟨p0, p1, p2⟩ := hx4
                  go_wp2_with fail
                  refine HRj.out.mono ?_
                  rintro e w5 ⟨rfl, hb5⟩
                  have B5 := Lib.hid (hbj.out.trans (hb5.mono hbj.out.size))
                  have T5 := Lib.hid (htj.out.below hb5)
                  have HLJ : RowKit.Hid ((blkTo char s data k ++ gapL s k ++ (matL char data pq r cc).take j).length ≤ 60000) := by show _ ≤ _; rw [List.length_append, List.length_append, List.length_take, matL_len]; have := HLB.out; have := HLG.out; omega
                  clear hb5 p0 p1 p2 HRj
                  go_wp2_with (at_builtin; refine wpList_append_txs _ rfl (.tmp 95) (.tmp 106) rfl wa.heap.size _ _ _ _ [rowL char data pq r cc j] rfl rfl (World.ownsRow.alloc T5.out _) (txs_lit w5 w5.heap.size [rowL char data pq r cc j] #[.string (bs (rowL char data pq r cc j))] rfl (Nat.le_refl _) (by simp)) (by have := HLJ.out; simp at this ⊢; omega) (by have := B5.out.size; simp; omega) ?_; intro v6 w6 htx6 hg6)
                  have PB := Lib.hid ((B5.out.alloc B5.out.size _).grown hg6 (by have := B5.out.size; simp; omega) (fun j hj => (World.ownsRow.lt T5.out j hj).1))
                  have PT : RowKit.Hid (Txs w6 wa.heap.size v6 (blkTo char s data k ++ gapL s k ++ (matL char data pq r cc).take (j + 1))) := by
                    show Txs _ _ _ _
                    rw [matL_take hlj, ← List.append_assoc]
                    exact htx6
                  clear htx6 hg6 T5 B5
                  go_wp2
                  go_roundw
                  case rel => exact ⟨j + 1, by omega, by go_num, PT.out, PB.out⟩
                  case measure => simp [RowKit.intOf]; omega
                · have hjr : j = r := by omega
                  have PT := Lib.hid (htj.out.eq (show _ = blkTo char s data (k + 1) by rw [hjr, List.take_of_length_le (by rw [matL_len]; exact Nat.le_refl _), blkTo_succ, HBL.out k, ← HPQ.out, ← List.append_assoc]) (Nat.le_refl _))
                  have q5 : ¬ (j : Int) < (r : Int) := by omega
                  clear hjr
                  go_wp2
                  go_roundw
                  case rel => exact ⟨k + 1, by omega, by go_num, PT.out, hbj.out⟩
                  case measure => simp [RowKit.intOf]; omega
            · have e4 : ((k : Int) % (b0 : Int) == 0) = false := by simp [hmd]
              have HGE : RowKit.Hid (gapL s k = [[]]) := by show _ = _; unfold gapL; rw [if_neg (by omega), if_neg (fun h => hmd (by have := h.2; rw [HGB.out] at this; exact this))]
              have FXB : RowKit.Hid (∀ w9, Below wa.heap.size wa w9 → w9.cell? ⟨b, off + 1, none⟩ = some (.int .i64 (b0 : Int))) := fun w9 h9 => below_cell h9 (below_cell BA.out CB.out)
              clear hmd
              go_wp2_with (at_builtin; refine wpList_append_txs _ rfl (.tmp 69) (.tmp 70) rfl wa.heap.size _ _ _ _ [[]] rfl rfl (World.ownsRow.alloc htx.out _) (txs_lit wr wr.heap.size [[]] #[.string ⟨#[]⟩] rfl (Nat.le_refl _) (by simp)) (by have := HLB.out; simp; omega) (by have := hbw.out.size; simp; omega) ?_; intro v3 w3 htx3 hg3; have X3 := agg_fields (((((hbw.out.alloc hbw.out.size _).grown hg3 (by have := hbw.out.size; simp; omega) (fun j hj => (World.ownsRow.lt htx.out j hj).1))).block _ (lt_of_block XA.out)).trans XA.out); obtain ⟨p0, p1, p2⟩ := X3; have cb3 := FXB.out w3 ((hbw.out.alloc hbw.out.size _).grown hg3 (by have := hbw.out.size; simp; omega) (fun j hj => (World.ownsRow.lt htx.out j hj).1)); have B3 := Lib.hid ((hbw.out.alloc hbw.out.size _).grown hg3 (by have := hbw.out.size; simp; omega) (fun j hj => (World.ownsRow.lt htx.out j hj).1)); have T3 := Lib.hid htx3; clear htx3 hg3)
              have BG := Lib.hid B3.out
              have TG := Lib.hid (T3.out.eq (show _ = blkTo char s data k ++ gapL s k by rw [HGE.out]) (Nat.le_refl _))
              clear p0 p1 p2 cb3 e4
              go_loopw [4, 11] (fun v i wr => ∃ j : Nat, j ≤ r ∧ i = .int .i64 (j : Int) ∧ RowKit.Hid (Txs wr wa.heap.size v (blkTo char s data k ++ gapL s k ++ (matL char data pq r cc).take j)) ∧ RowKit.Hid (Below wa.heap.size wa wr)) (fun _ i _ => r - (RowKit.intOf i).toNat)
              case atStart => exact ⟨0, Nat.zero_le _, rfl, by rw [List.take_zero, List.append_nil]; exact TG.out, BG.out⟩
              case round =>
                clear TG BG
                obtain ⟨j, hj, rfl, htj, hbj⟩ := hrel
                by_cases hlj : j < r
                · have q5 : (j : Int) < (r : Int) := by omega
                  have HRj := Lib.hid (HRW.out j hlj wr (BA.out.trans (hbj.out.mono BA.out.size)))
                  have hx4 := agg_fields ((hbj.out.block _ (lt_of_block XA.out)).trans XA.out)
                  obtain ⟨p0, p1, p2⟩ := hx4
                  go_wp2_with fail
                  refine HRj.out.mono ?_
                  rintro e w5 ⟨rfl, hb5⟩
                  have B5 := Lib.hid (hbj.out.trans (hb5.mono hbj.out.size))
                  have T5 := Lib.hid (htj.out.below hb5)
                  have HLJ : RowKit.Hid ((blkTo char s data k ++ gapL s k ++ (matL char data pq r cc).take j).length ≤ 60000) := by show _ ≤ _; rw [List.length_append, List.length_append, List.length_take, matL_len]; have := HLB.out; have := HLG.out; omega
                  clear hb5 p0 p1 p2 HRj
                  go_wp2_with (at_builtin; refine wpList_append_txs _ rfl (.tmp 95) (.tmp 106) rfl wa.heap.size _ _ _ _ [rowL char data pq r cc j] rfl rfl (World.ownsRow.alloc T5.out _) (txs_lit w5 w5.heap.size [rowL char data pq r cc j] #[.string (bs (rowL char data pq r cc j))] rfl (Nat.le_refl _) (by simp)) (by have := HLJ.out; simp at this ⊢; omega) (by have := B5.out.size; simp; omega) ?_; intro v6 w6 htx6 hg6)
                  have PB := Lib.hid ((B5.out.alloc B5.out.size _).grown hg6 (by have := B5.out.size; simp; omega) (fun j hj => (World.ownsRow.lt T5.out j hj).1))
                  have PT : RowKit.Hid (Txs w6 wa.heap.size v6 (blkTo char s data k ++ gapL s k ++ (matL char data pq r cc).take (j + 1))) := by
                    show Txs _ _ _ _
                    rw [matL_take hlj, ← List.append_assoc]
                    exact htx6
                  clear htx6 hg6 T5 B5
                  go_wp2
                  go_roundw
                  case rel => exact ⟨j + 1, by omega, by go_num, PT.out, PB.out⟩
                  case measure => simp [RowKit.intOf]; omega
                · have hjr : j = r := by omega
                  have PT := Lib.hid (htj.out.eq (show _ = blkTo char s data (k + 1) by rw [hjr, List.take_of_length_le (by rw [matL_len]; exact Nat.le_refl _), blkTo_succ, HBL.out k, ← HPQ.out, ← List.append_assoc]) (Nat.le_refl _))
                  have q5 : ¬ (j : Int) < (r : Int) := by omega
                  clear hjr
                  go_wp2
                  go_roundw
                  case rel => exact ⟨k + 1, by omega, by go_num, PT.out, hbj.out⟩
                  case measure => simp [RowKit.intOf]; omega
        · have hkM : k = M := by omega
          subst hkM
          have PT := Lib.hid (htx.out.mono BA.out.size)
          have PB := Lib.hid (BA.out.trans (hbw.out.mono BA.out.size))
          go_wp2
          go_ret2
          exact ⟨_, rfl, PT.out, PB.out⟩

/-- The lines of an array that is right. -/
theorem rlines05_good (char : Bool) (A : Option Addr) (n c : Nat) (B : Option Addr) (m d : Nat) (s data : List Int) (D D' : Nat → Prop) (w : World) (hs : Rd w D 1 A n c (intRows .i64 s)) (hd : Rd w D' 1 B m d (intRows .i64 data)) (hi : ∀ x ∈ data, i64 x) (hr : rightL char s data) :
    Calls Tryd.prog 18 #[.agg #[.bool char, .slice A n c, .slice B m d]] w fun e w' => ∃ v, e = .returned (.tuple #[v, .bool true]) ∧ Txs w' w.heap.size v (linesL char s data) ∧ Below w.heap.size w w' := by
  have hlen : s.length = n := by have := hs.len; simpa [intRows] using this
  have hmen : data.length = m := by have := hd.len; simpa [intRows] using this
  have hm : m ≤ 10000 := by have := hr.2.2.2.1; omega
  by_cases h2 : n < 2
  · exact rlines05_flat char A n c B m d s data D D' w hs hd hi hr h2
  by_cases h0 : 2 < n ∧ m = 0
  · exact rlines05_none char A n c B m d s data D D' w hs hd hi hr h0.1 h0.2
  have h4 := hr.1
  have hnn := fun x hx => (hr.2.1 x hx).1
  have hc3 : n = 2 ∨ n = 3 ∨ n = 4 := by omega
  rcases hc3 with rfl | rfl | rfl
  · obtain ⟨x, y, rfl⟩ := len2 hlen
    obtain ⟨r, rfl⟩ := toN (hnn x (by simp))
    obtain ⟨cc, rfl⟩ := toN (hnn y (by simp))
    exact rlines05_2 char A c B m d data r cc D D' w hs hd hi hr
  · obtain ⟨x, y, z, rfl⟩ := len3 hlen
    obtain ⟨a, rfl⟩ := toN (hnn x (by simp))
    obtain ⟨r, rfl⟩ := toN (hnn y (by simp))
    obtain ⟨cc, rfl⟩ := toN (hnn z (by simp))
    exact rlines05_3 char A c B m d data a r cc D D' w hs hd hi hr (by omega)
  · obtain ⟨x, y, z, u, rfl⟩ := len4 hlen
    obtain ⟨a, rfl⟩ := toN (hnn x (by simp))
    obtain ⟨b0, rfl⟩ := toN (hnn y (by simp))
    obtain ⟨r, rfl⟩ := toN (hnn z (by simp))
    obtain ⟨cc, rfl⟩ := toN (hnn u (by simp))
    exact rlines05_4 char A c B m d data a b0 r cc D D' w hs hd hi hr (by omega)
end Go.Proofs.YtjkofndnhmfnoaaDoor
