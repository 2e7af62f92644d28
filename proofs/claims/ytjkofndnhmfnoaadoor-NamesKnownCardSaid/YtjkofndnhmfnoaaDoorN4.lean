/-
  Layer 20 (names): all, Fns: contracts. Of any store in memory whose keys are of moderate size.
-/
import Derived.Test.YtjkofndnhmfnoaaDoorN3
namespace Go.Proofs.YtjkofndnhmfnoaaDoor
open Go Go.RowKit Go.Maps

/-- A list of texts that the call is making. -/
def KRel (wa wr : World) (v : Value) (L : List ByteArray) : Prop := wr.ownsRow wa.heap.size 9 1 v L.length (strRows L).flatten ∧ Below wa.heap.size wa wr
theorem KRel.more {wa wr w5 : World} {v v5 : Value} {L : List ByteArray} {x : ByteArray} {o : Obj} (h : KRel wa wr v L) (hown : w5.ownsRow wa.heap.size 9 1 v5 (L.length + 1) ((strRows L).flatten ++ [.string x])) (hg : (wr.alloc o).grownBy w5 v.ownBlock) : KRel wa w5 v5 (L ++ [x]) := by
  refine ⟨?_, (h.2.alloc h.2.size _).grown hg (by have := h.2.size; simp; omega) (fun j hj => (h.1.lt j hj).1)⟩
  unfold strRows at hown ⊢
  rw [List.map_append, List.flatten_append]
  simpa using hown
theorem KRel.below {wa wr w' : World} {v : Value} {L : List ByteArray} (h : KRel wa wr v L) (hb : Below wr.heap.size wr w') : KRel wa w' v L :=
  ⟨ownsRow_chg h.1 (Chg.of_below (S := fun _ => False) hb) (fun _ _ h => h), h.2.trans (hb.mono h.2.size)⟩
/-- The name behind a key. -/
def nmK (k : ByteArray) : ByteArray := ⟨(Lib.trimPrefix k.data.toList [118, 47]).toArray⟩
def keepK (s : St) (kind : Int) (k : ByteArray) : Bool := decide ((s.look k).kind = kind) && nameB (nmK k)
/-- The keys of bindings. -/
def bound (K : List ByteArray) : List ByteArray := K.filter (begins ⟨#[118, 47]⟩)
def allN (s : St) (kind : Int) : List ByteArray := ((bound s.K).filter (keepK s kind)).map nmK
theorem nmK_size (k : ByteArray) : (nmK k).size ≤ k.size := by
  have e : k.size = k.data.toList.length := by rw [Array.length_toList]; rfl
  have e2 : (nmK k).size = (Lib.trimPrefix k.data.toList [118, 47]).length := by unfold nmK; exact List.size_toArray
  rw [e, e2]
  unfold Lib.trimPrefix
  split
  · rw [List.length_drop]; omega
  · exact Nat.le_refl _
set_option maxRecDepth 100000 in
set_option maxHeartbeats 3200000 in
theorem all_any (own D : Nat → Prop) (r : Nat) (s : St) (kind : Int) (w : World) (h : SS w own D r s) (hK : s.K.length ≤ 1000000) (hz : ∀ k ∈ s.K, k.size ≤ 1000000) :
    Calls Tryd.prog 48 #[.pointer (some ⟨r, 0, none⟩), .int .u8 kind] w fun e w' => ∃ A c, e = .returned (.slice A (allN s kind).length c) ∧ Rd w' (fun b => w.heap.size ≤ b) 1 A (allN s kind).length c (strRows (allN s kind)) ∧ Below w.heap.size w w' := by
  obtain ⟨i0, hi, hz0, hz1, hz2⟩ := strParts
  have HG := Lib.hid (fun w2 (hb : Below w.heap.size w w2) k (hk : k.size ≤ maxLen) => cGet_any own D r s.K s.T s.G k w2 (h.below hb) hk)
  have HKY := Lib.hid (cKeys_any own D r s.K s.T s.G ⟨#[118, 47]⟩ w h hK)
  have HZ := Lib.hid hz
  have HKL := Lib.hid hK
  have HB := Lib.hid (fun (w : World) o => (Below.refl w.heap.size w).alloc (Nat.le_refl _) o)
  clear h hz hK
  go_enter Tryd.func48, Tryd.ntmps48
  go_wp2_with fail
  refine HKY.out.mono ?_
  rintro e w1 ⟨A, c, rfl, hr, hb1⟩
  obtain ⟨L, hL⟩ : ∃ L, L = s.K.filter (begins ⟨#[118, 47]⟩) := ⟨_, rfl⟩
  rw [← hL] at hr ⊢
  have HL := Lib.hid (show L = bound s.K from hL)
  have HR := Lib.hid hr
  obtain ⟨_, hc⟩ := hr.one
  have HC := Lib.hid hc
  have HLZ : RowKit.Hid (∀ k ∈ L, k.size ≤ 1000000) := fun k hk => HZ.out k (by rw [hL] at hk; exact (List.mem_filter.1 hk).1)
  have hll : L.length ≤ 1000000 := by
    rw [hL]
    exact Nat.le_trans (List.length_filter_le _ _) HKL.out
  have hcl := hr.le
  have B1 := Lib.hid hb1
  clear hr hc hb1 HKY HZ HKL hL
  go_wp2_with fail
  go_loopw [5, 14] (fun v i wr => ∃ j : Nat, j ≤ L.length ∧ i = .int .i64 (j : Int) ∧ RowKit.Hid (KRel w1 wr v (((L.take j).filter (keepK s kind)).map nmK))) (fun _ i _ => L.length - (RowKit.intOf i).toNat)
  case atStart => exact ⟨0, Nat.zero_le _, rfl, World.ownsRow_nil _ _ _ _, Below.refl _ _⟩
  case round =>
    obtain ⟨j, hj, rfl, hst⟩ := hrel
    by_cases hlt : j < L.length
    · obtain ⟨k, hk⟩ : ∃ k, L[j]? = some k := ⟨_, List.getElem?_eq_getElem hlt⟩
      obtain ⟨b0, o0, rfl, -, -, hc⟩ := HC.out (by omega)
      have cx := below_cell hst.out.2 (hc j k hk)
      have q1 : (j : Int) < (L.length : Int) := by omega
      have hks := HLZ.out k (List.mem_of_getElem? hk)
      have HKS := Lib.hid hks
      have hts : L.take (j + 1) = L.take j ++ [k] := by rw [List.take_add_one, hk]; rfl
      have HTS := Lib.hid hts
      have HJ := Lib.hid (show j + 1 ≤ L.length from hlt)
      have hfl := List.length_filter_le (keepK s kind) (L.take j)
      rw [List.length_take] at hfl
      have hnl : (((L.take j).filter (keepK s kind)).map nmK).length ≤ 1000000 := by rw [List.length_map]; omega
      obtain ⟨M, hM⟩ : ∃ M, M = ((L.take j).filter (keepK s kind)).map nmK := ⟨_, rfl⟩
      rw [← hM] at hst hnl
      have HM := Lib.hid hM
      clear hk hc hks hts hfl hlt hM
      go_wp2_with fail
      refine (Tryd.strings_TrimPrefix k ⟨#[118, 47]⟩ wr).mono ?_
      rintro e w2 ⟨rfl, rfl⟩
      have hnk : (⟨(Lib.trimPrefix k.data.toList (⟨#[118, 47]⟩ : ByteArray).data.toList).toArray⟩ : ByteArray) = nmK k := rfl
      rw [hnk]
      go_wp2_with fail
      refine (HG.out w2 (B1.out.trans (hst.out.2.mono B1.out.size)) k (by have := HKS.out; unfold maxLen; omega)).mono ?_
      rintro e w3 ⟨ts, rfl, ht, hb3⟩
      obtain ⟨t, htt⟩ : ∃ t, t = getT s.K s.T k := ⟨_, rfl⟩
      rw [← htt] at ht
      obtain ⟨A1, n1, c1, A2, n2, c2, A3, n3, c3, A4, n4, c4, A5, n5, c5, rfl⟩ := ht.full
      have HTT := Lib.hid (show t = s.look k from htt)
      have ST3 := Lib.hid (hst.out.below hb3)
      clear ht hb3 cx htt hst
      by_cases hkk : t.kind = kind
      · have q2 : (t.kind == kind) = true := by rw [hkk]; simp
        have HKK := Lib.hid hkk
        clear hkk
        go_wp2_with fail
        refine (is_any (nmK k) _ (Nat.le_trans (nmK_size k) HKS.out)).mono ?_
        rintro e w4 ⟨rfl, hb4⟩
        have ST4 := Lib.hid ((ST3.out.below (HB.out _ _)).below hb4)
        clear hb4
        cases hnb : nameB (nmK k) with
        | true =>
          have HKP : RowKit.Hid (((L.take (j + 1)).filter (keepK s kind)).map nmK = M ++ [nmK k]) := by
            show _ = _
            rw [HTS.out, List.filter_append, List.map_append, ← HM.out, List.filter_cons_of_pos (by unfold keepK; rw [← HTT.out, HKK.out, hnb]; simp)]
            rfl
          have HS4 := ST4.out.2.size
          clear hnb
          go_wp2_with (at_builtin; refine wpList_append_own _ rfl (.tmp 34) (.tmp 36) 28 rfl w1.heap.size 9 i0 (.string ⟨#[]⟩) 1 16 Tryd.underlying28 hi hz0 hz1 hz2 rfl (by decide) _ _ _ rfl (World.ownsRow.alloc ST4.out.1 _) ⟨w4.heap.size, 0, none⟩ 1 1 [.string (nmK k)] rfl rfl (cell_one_new _ _ _) (by simp [Value.oneCell']) (by unfold maxLen; omega) (by omega) (by simp; omega) ?_; intro v5 w5 hown5 hgrow5 _)
          have H6 : RowKit.Hid (KRel w1 w5 v5 (((L.take (j + 1)).filter (keepK s kind)).map nmK)) := by
            show KRel _ _ _ _
            rw [HKP.out]
            exact ST4.out.more hown5 hgrow5
          clear hown5 hgrow5
          go_wp2
          go_roundw
          case rel => exact ⟨j + 1, HJ.out, by go_num, H6.out⟩
          case measure => have := HJ.out; simp [RowKit.intOf]; omega
        | false =>
          have HKP : RowKit.Hid (((L.take (j + 1)).filter (keepK s kind)).map nmK = M) := by
            show _ = _
            rw [HTS.out, List.filter_append, List.map_append, ← HM.out, List.filter_cons_of_neg (by unfold keepK; rw [hnb]; simp)]
            simp
          clear hnb
          go_wp2
          go_roundw
          case rel => exact ⟨j + 1, HJ.out, by go_num, by rw [HKP.out]; exact ST4.out⟩
          case measure => have := HJ.out; simp [RowKit.intOf]; omega
      · have q2 : (t.kind == kind) = false := by rw [beq_eq_false_iff_ne]; exact hkk
        have HKP : RowKit.Hid (((L.take (j + 1)).filter (keepK s kind)).map nmK = M) := by
          show _ = _
          rw [HTS.out, List.filter_append, List.map_append, ← HM.out, List.filter_cons_of_neg (by unfold keepK; rw [← HTT.out, decide_eq_false hkk]; simp)]
          simp
        have ST4 := Lib.hid (ST3.out.below (HB.out w3 (.cells #[.int .u8 t.kind, .bool t.v.char, .slice A1 n1 c1, .slice A2 n2 c2, .string t.f.name, .string t.f.result, .string t.f.left, .string t.f.right, .slice A3 n3 c3, .slice A4 n4 c4, .int .i64 t.f.version, .slice A5 n5 c5, .int .i64 t.n, .string t.s] 53)))
        clear hkk
        go_wp2
        go_roundw
        case rel => exact ⟨j + 1, HJ.out, by go_num, by rw [HKP.out]; exact ST4.out⟩
        case measure => have := HJ.out; simp [RowKit.intOf]; omega
    · have hje : j = L.length := by omega
      subst hje
      rw [List.take_length] at hst
      have HAN : RowKit.Hid ((L.filter (keepK s kind)).map nmK = allN s kind) := by show _ = _; rw [HL.out]; rfl
      rw [HAN.out] at hst
      obtain ⟨A9, c9, rfl, hr9⟩ := Rd.of_own hst.out.1 (by simp [strRows]) (strRows_ok _)
      have R9 := Lib.hid hr9
      clear hr9
      go_wp2
      go_ret
      exact ⟨A9, c9, rfl, R9.out.mono (fun b _ h => Nat.le_trans B1.out.size h) (by decide), B1.out.trans (hst.out.2.mono B1.out.size)⟩
theorem fns_any (own D : Nat → Prop) (r : Nat) (s : St) (w : World) (h : SS w own D r s) (hK : s.K.length ≤ 1000000) (hz : ∀ k ∈ s.K, k.size ≤ 1000000) :
    Calls Tryd.prog 27 #[.pointer (some ⟨r, 0, none⟩)] w fun e w' => ∃ A c, e = .returned (.slice A (allN s 2).length c) ∧ Rd w' (fun b => w.heap.size ≤ b) 1 A (allN s 2).length c (strRows (allN s 2)) ∧ Below w.heap.size w w' := by
  have HA := Lib.hid (all_any own D r s 2 w h hK hz)
  clear h hz
  go_enter Tryd.func27, Tryd.ntmps27
  go_wp2_with fail
  refine HA.out.mono ?_
  rintro e w1 ⟨A, c, rfl, hr, hb1⟩
  have R := Lib.hid hr
  have B := Lib.hid hb1
  clear hr hb1
  go_wp2
  go_ret
  exact ⟨A, c, rfl, R.out, B.out⟩
end Go.Proofs.YtjkofndnhmfnoaaDoor
