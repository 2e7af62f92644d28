/-
  The reference of layer 19 (anamnesisref19: put): contract. Of any rising list of cells.
-/
import Derived.Test.YtochdmbjlemfoaaC10
import Derived.Test.YtochdmbjlemfoaaC11
namespace Go.Proofs.Ytochdmbjlemfoaa
open Go Go.RowKit Go.Maps

/-- Go's '<' on texts, as the walk spells it. -/
theorem less_bytes : ∀ a b : List UInt8, Op.bytesLess a b = bytesBefore a b
  | [], [] => by simp [Op.bytesLess, bytesBefore]
  | [], _ :: _ => by simp [Op.bytesLess, bytesBefore]
  | _ :: _, [] => by simp [Op.bytesLess, bytesBefore]
  | a :: r, b :: s => by
    have ih := less_bytes r s
    simp only [Op.bytesLess, bytesBefore, ih]
theorem less_klt (x k : ByteArray) : Op.bytesLess x.toList k.toList = klt x k := by
  rw [ByteArray.toList_eq, ByteArray.toList_eq]
  exact less_bytes _ _
theorem cellsOf_snoc (P : List ByteArray) (x : ByteArray) (F : ByteArray → TD) : cellsOf (P ++ [x]) F = cellsOf P F ++ [⟨x, F x⟩] := by unfold cellsOf; rw [List.map_append]; rfl
theorem cellsOf_len (P : List ByteArray) (F : ByteArray → TD) : (cellsOf P F).length = P.length := by simp [cellsOf]
theorem CRel.step {w wr w5 : World} {D : Nat → Prop} {v v5 : Value} {P : List ByteArray} {F : ByteArray → TD} {x : ByteArray} {es : List (List Value)} {ts : List Value} {t : TD} {o : Obj} (hb : Below w.heap.size w wr) (hCA : CellsAre wr D es (cellsOf P F)) (hO : wr.ownsRow w.heap.size 67 15 v es.length es.flatten) (hD : ∀ b, D b → b < w.heap.size) (hE : TIs wr D ts t) (hF : F x = t)
    (hown : w5.ownsRow w.heap.size 67 15 v5 (es.length + 1) (es.flatten ++ ([.string x] ++ ts))) (hg : (wr.alloc o).grownBy w5 v.ownBlock) : CRel w w5 D v5 (cellsOf (P ++ [x]) F) := by
  rw [cellsOf_snoc, hF]
  exact CRel.more (E := ⟨x, t⟩) hb hCA hO hD ⟨ts, rfl, hE⟩ hown hg

set_option maxRecDepth 100000 in
set_option maxHeartbeats 4000000 in
theorem rput_any (A : Option Addr) (n c : Nat) (es : List (List Value)) (K : List ByteArray) (T : ByteArray → TD) (k : ByteArray) (ts : List Value) (t : TD) (D D' : Nat → Prop) (w : World) (hx : Rd w D' 15 A n c es) (hL : CellsAre w D es (cellsOf K T)) (hD : ∀ b, D b → b < w.heap.size) (hn : n ≤ 1000000) (hr : RisS K) (ht : TIs w D ts t) :
    Calls Try.prog 76 #[.slice A n c, .string k, .agg ts.toArray] w fun e w' => ∃ A' c' es', e = .returned (.slice A' (insKS k K).length c') ∧ Rd w' (fun b => w.heap.size ≤ b) 15 A' (insKS k K).length c' es' ∧ CellsAre w' D es' (cellsOf (insKS k K) (updT T k t)) ∧ Below w.heap.size w w' := by
  obtain ⟨A11, n11, c11, A12, n12, c12, A13, n13, c13, A14, n14, c14, A15, n15, c15, rfl⟩ := ht.full
  obtain ⟨F, hF⟩ : ∃ F, F = updT T k t := ⟨_, rfl⟩
  have HFk := Lib.hid (show F k = t by rw [hF, updT_same])
  have HFo := Lib.hid (show ∀ x, x ≠ k → F x = T x from fun x h => by rw [hF, updT_other _ _ _ _ h])
  rw [← hF]
  have HX := Lib.hid hx
  have HL := Lib.hid hL
  have HT := Lib.hid ht
  have HR := Lib.hid hr
  have HLn := Lib.hid (show K.length = n by rw [← cellsOf_len K T, ← hL.1]; exact hx.len)
  clear hx hL ht hr hF
  obtain ⟨i0, z0, hi, hz0, hz1, hz2, hz3⟩ := cellParts
  go_enter Try.func76, Try.ntmps76
  go_wp2
  obtain ⟨wa, hwa⟩ : ∃ wa, wa = w.alloc (.cells (tL t A11 n11 c11 A12 n12 c12 A13 n13 c13 A14 n14 c14 A15 n15 c15).toArray 45) := ⟨_, rfl⟩
  have hba : wa.heap[w.heap.size]? = some (.cells (tL t A11 n11 c11 A12 n12 c12 A13 n13 c13 A14 n14 c14 A15 n15 c15).toArray 45 (0, 0)) := by rw [hwa]; exact heap_alloc_new _ _
  have hbw : Below w.heap.size w wa := by rw [hwa]; exact (Below.refl _ w).alloc (Nat.le_refl _) _
  have e := hwa.symm
  unfold tL at e
  rw [e]
  have BX := Lib.hid hba
  have BW := Lib.hid hbw
  clear e hwa hba hbw
  have hDa := Lib.hid (show ∀ b, D b → b < wa.heap.size from fun b hb => Nat.lt_of_lt_of_le (hD b hb) BW.out.size)
  go_loopw [7, 8, 9] (fun v d i wr => ∃ j : Nat, j ≤ n ∧ i = .int .i64 (j : Int) ∧ d = .bool (dnS (K.take j) k) ∧ RowKit.Hid (CRel wa wr D v (cellsOf (oKS (K.take j) k) F))) (fun _ _ i _ => n - (RowKit.intOf i).toNat)
  case atStart => exact ⟨0, Nat.zero_le _, rfl, rfl, CRel.nil _ _⟩
  case round =>
    obtain ⟨j, hj, rfl, rfl, hrl⟩ := hrel
    by_cases hlt : j < n
    · have q5 : (j : Int) < (n : Int) := by omega
      obtain ⟨hb, es2, hCA, hown⟩ := hrl.out
      obtain ⟨b, off, hA, -, hc⟩ := HX.out.at_ (by omega)
      obtain ⟨e, he⟩ : ∃ e, es[j]? = some e := ⟨_, List.getElem?_eq_getElem (by rw [HX.out.len]; exact hlt)⟩
      obtain ⟨x, hxk⟩ : ∃ x, K[j]? = some x := ⟨_, List.getElem?_eq_getElem (by rw [HLn.out]; exact hlt)⟩
      have hcell := HL.out.2 j e ⟨x, T x⟩ he (by unfold cellsOf; rw [List.getElem?_map, hxk]; rfl)
      obtain ⟨ts, rfl, htx⟩ := hcell
      obtain ⟨A21, n21, c21, A22, n22, c22, A23, n23, c23, A24, n24, c24, A25, n25, c25, rfl⟩ := htx.full
      have HC := Lib.hid (hc j _ he)
      have hbw := BW.out.trans (hb.mono BW.out.size)
      have cx := row_cells HC.out hbw
      have HTX := Lib.hid htx
      have hTL := takeS_lt HR.out hxk
      have hts : K.take (j + 1) = K.take j ++ [x] := by rw [List.take_add_one, hxk]; rfl
      have HTL := Lib.hid hTL
      have HTS := Lib.hid hts
      have hbl := oKS_len (K.take j) k
      have hel : es2.length = (oKS (K.take j) k).length := by rw [hCA.1, cellsOf_len]
      rw [List.length_take] at hbl
      have hbx := (hb.block w.heap.size (lt_of_block BX.out)).trans BX.out
      have a0 := cx 0 _ rfl
      have a1 := cx 1 _ rfl
      have a2 := cx 2 _ rfl
      have a3 := cx 3 _ rfl
      have a4 := cx 4 _ rfl
      have a5 := cx 5 _ rfl
      have a6 := cx 6 _ rfl
      have a7 := cx 7 _ rfl
      have a8 := cx 8 _ rfl
      have a9 := cx 9 _ rfl
      have a10 := cx 10 _ rfl
      have a11 := cx 11 _ rfl
      have a12 := cx 12 _ rfl
      have a13 := cx 13 _ rfl
      have a14 := cx 14 _ rfl
      simp only [Nat.add_zero] at a0
      have x0 : wr.cell? ⟨w.heap.size, 0, none⟩ = some (.int .u8 t.kind) := by rw [cell_of_row wr _ 0 _ _ _ hbx]; rfl
      have x1 : wr.cell? ⟨w.heap.size, 1, none⟩ = some (.bool t.v.char) := by rw [cell_of_row wr _ 1 _ _ _ hbx]; rfl
      have x2 : wr.cell? ⟨w.heap.size, 2, none⟩ = some (.slice A11 n11 c11) := by rw [cell_of_row wr _ 2 _ _ _ hbx]; rfl
      have x3 : wr.cell? ⟨w.heap.size, 3, none⟩ = some (.slice A12 n12 c12) := by rw [cell_of_row wr _ 3 _ _ _ hbx]; rfl
      have x4 : wr.cell? ⟨w.heap.size, 4, none⟩ = some (.string t.f.name) := by rw [cell_of_row wr _ 4 _ _ _ hbx]; rfl
      have x5 : wr.cell? ⟨w.heap.size, 5, none⟩ = some (.string t.f.result) := by rw [cell_of_row wr _ 5 _ _ _ hbx]; rfl
      have x6 : wr.cell? ⟨w.heap.size, 6, none⟩ = some (.string t.f.left) := by rw [cell_of_row wr _ 6 _ _ _ hbx]; rfl
      have x7 : wr.cell? ⟨w.heap.size, 7, none⟩ = some (.string t.f.right) := by rw [cell_of_row wr _ 7 _ _ _ hbx]; rfl
      have x8 : wr.cell? ⟨w.heap.size, 8, none⟩ = some (.slice A13 n13 c13) := by rw [cell_of_row wr _ 8 _ _ _ hbx]; rfl
      have x9 : wr.cell? ⟨w.heap.size, 9, none⟩ = some (.slice A14 n14 c14) := by rw [cell_of_row wr _ 9 _ _ _ hbx]; rfl
      have x10 : wr.cell? ⟨w.heap.size, 10, none⟩ = some (.int .i64 t.f.version) := by rw [cell_of_row wr _ 10 _ _ _ hbx]; rfl
      have x11 : wr.cell? ⟨w.heap.size, 11, none⟩ = some (.slice A15 n15 c15) := by rw [cell_of_row wr _ 11 _ _ _ hbx]; rfl
      have x12 : wr.cell? ⟨w.heap.size, 12, none⟩ = some (.int .i64 t.n) := by rw [cell_of_row wr _ 12 _ _ _ hbx]; rfl
      have x13 : wr.cell? ⟨w.heap.size, 13, none⟩ = some (.string t.s) := by rw [cell_of_row wr _ 13 _ _ _ hbx]; rfl
      have HCA := Lib.hid hCA
      have HO := Lib.hid hown
      have HB := Lib.hid hb
      have hel2 : es2.length ≤ j + 1 := by omega
      have HS := hb.size
      have HBW := Lib.hid hbw
      subst hA
      clear hc he htx cx hxk hTL hts hbx hCA hown hb hrl hel hbw hbl
      cases hdn : dnS (K.take j) k with
      | true =>
        have hkx := dnS_true hdn HTL.out
        have e1 := oKS_old hdn HTL.out
        have e2 : dnS (K.take (j + 1)) k = true := by rw [HTS.out, dnS_snoc, hdn]; rfl
        rw [← HTS.out] at e1
        have E1 := Lib.hid e1
        have E2 := Lib.hid e2
        have HFx := Lib.hid (HFo.out x (klt_ne hkx).symm)
        have r2 := str_ne (klt_ne hkx).symm
        clear e1 e2 hdn hkx
        go_wp2_with (at_builtin; refine wpList_append_own _ rfl (.tmp 40) (.tmp 45) 60 rfl wa.heap.size 67 i0 z0 15 248 Try.underlying60 hi hz0 hz1 hz2 hz3 (by decide) _ _ _ rfl (World.ownsRow.alloc HO.out _) ⟨wr.heap.size, 0, none⟩ 1 1 [.string x, .int .u8 (T x).kind, .bool (T x).v.char, .slice A21 n21 c21, .slice A22 n22 c22, .string (T x).f.name, .string (T x).f.result, .string (T x).f.left, .string (T x).f.right, .slice A23 n23 c23, .slice A24 n24 c24, .int .i64 (T x).f.version, .slice A25 n25 c25, .int .i64 (T x).n, .string (T x).s] rfl rfl (World.news_of_block (cs := #[.string x, .int .u8 (T x).kind, .bool (T x).v.char, .slice A21 n21 c21, .slice A22 n22 c22, .string (T x).f.name, .string (T x).f.result, .string (T x).f.left, .string (T x).f.right, .slice A23 n23 c23, .slice A24 n24 c24, .int .i64 (T x).f.version, .slice A25 n25 c25, .int .i64 (T x).n, .string (T x).s]) (t := 67) (fr := (0, 0)) (heap_alloc_new wr _)) (by simp [Value.oneCell']) (by unfold maxLen; omega) (by omega) (by simp; omega) ?_; intro v5 w5 hown5 hgrow5 _)
        have H6 : RowKit.Hid (CRel wa w5 D v5 (cellsOf (oKS (K.take (j + 1)) k) F)) := by
          show CRel _ _ _ _ _
          rw [E1.out]
          exact CRel.step HB.out HCA.out HO.out hDa.out (HTX.out.below HBW.out) HFx.out hown5 hgrow5
        clear hown5 hgrow5
        go_wp2
        go_roundw
        case rel => exact ⟨j + 1, by omega, by go_num, by rw [E2.out], H6.out⟩
        case measure => simp [RowKit.intOf]; omega
      | false =>
        by_cases hxe : x = k
        · have e1 := oKS_here hdn hxe
          have e2 : dnS (K.take (j + 1)) k = true := by rw [HTS.out, dnS_snoc, hdn, hxe, klt_irrefl]; rfl
          rw [← HTS.out] at e1
          have E1 := Lib.hid e1
          have E2 := Lib.hid e2
          have r0 : Op.bytesLess x.toList k.toList = false := by rw [less_klt, hxe, klt_irrefl]
          have r2 : (x.toList == k.toList) = true := by rw [hxe]; simp
          clear e1 e2 hdn hxe
          go_upto_region 9 with (at_builtin; refine wpList_append_own _ rfl (.tmp 27) (.tmp 31) 60 rfl wa.heap.size 67 i0 z0 15 248 Try.underlying60 hi hz0 hz1 hz2 hz3 (by decide) _ _ _ rfl (World.ownsRow.alloc HO.out _) ⟨wr.heap.size, 0, none⟩ 1 1 [.string k, .int .u8 t.kind, .bool t.v.char, .slice A11 n11 c11, .slice A12 n12 c12, .string t.f.name, .string t.f.result, .string t.f.left, .string t.f.right, .slice A13 n13 c13, .slice A14 n14 c14, .int .i64 t.f.version, .slice A15 n15 c15, .int .i64 t.n, .string t.s] rfl rfl (World.news_of_block (cs := #[.string k, .int .u8 t.kind, .bool t.v.char, .slice A11 n11 c11, .slice A12 n12 c12, .string t.f.name, .string t.f.result, .string t.f.left, .string t.f.right, .slice A13 n13 c13, .slice A14 n14 c14, .int .i64 t.f.version, .slice A15 n15 c15, .int .i64 t.n, .string t.s]) (t := 67) (fr := (0, 0)) (heap_alloc_new wr _)) (by simp [Value.oneCell']) (by unfold maxLen; omega) (by omega) (by simp; omega) ?_; intro v5 w5 hown5 hgrow5 _)
          have H5 := CRel.step (x := k) HB.out HCA.out HO.out hDa.out (((HT.out.below BW.out)).below (HB.out)) HFk.out hown5 hgrow5
          have H6 : RowKit.Hid (CRel wa w5 D v5 (cellsOf (oKS (K.take (j + 1)) k) F)) := by show CRel _ _ _ _ _; rw [E1.out]; exact H5
          have c0 := (row_cells HC.out (BW.out.trans (H5.1.mono BW.out.size))) 0 _ rfl
          simp only [Nat.add_zero] at c0
          clear hown5 hgrow5 H5
          go_wp2
          go_roundw
          case rel => exact ⟨j + 1, by omega, by go_num, by rw [E2.out], H6.out⟩
          case measure => simp [RowKit.intOf]; omega
        · by_cases hkx : klt k x = true
          · have e1 := oKS_past hdn hkx
            have e2 : dnS (K.take (j + 1)) k = true := by rw [HTS.out, dnS_snoc, hdn, klt_asym hkx]; rfl
            rw [← HTS.out] at e1
            have E1 := Lib.hid e1
            have E2 := Lib.hid e2
            have HFx := Lib.hid (HFo.out x hxe)
            have r0 : Op.bytesLess x.toList k.toList = false := by rw [less_klt, klt_asym hkx]
            have r2 := str_ne hxe
            clear e1 e2 hdn hxe hkx
            go_upto_region 9 with (at_builtin; refine wpList_append_own _ rfl (.tmp 27) (.tmp 31) 60 rfl wa.heap.size 67 i0 z0 15 248 Try.underlying60 hi hz0 hz1 hz2 hz3 (by decide) _ _ _ rfl (World.ownsRow.alloc HO.out _) ⟨wr.heap.size, 0, none⟩ 1 1 [.string k, .int .u8 t.kind, .bool t.v.char, .slice A11 n11 c11, .slice A12 n12 c12, .string t.f.name, .string t.f.result, .string t.f.left, .string t.f.right, .slice A13 n13 c13, .slice A14 n14 c14, .int .i64 t.f.version, .slice A15 n15 c15, .int .i64 t.n, .string t.s] rfl rfl (World.news_of_block (cs := #[.string k, .int .u8 t.kind, .bool t.v.char, .slice A11 n11 c11, .slice A12 n12 c12, .string t.f.name, .string t.f.result, .string t.f.left, .string t.f.right, .slice A13 n13 c13, .slice A14 n14 c14, .int .i64 t.f.version, .slice A15 n15 c15, .int .i64 t.n, .string t.s]) (t := 67) (fr := (0, 0)) (heap_alloc_new wr _)) (by simp [Value.oneCell']) (by unfold maxLen; omega) (by omega) (by simp; omega) ?_; intro v5 w5 hown5 hgrow5 _)
            have H5 := CRel.step (x := k) HB.out HCA.out HO.out hDa.out (((HT.out.below BW.out)).below (HB.out)) HFk.out hown5 hgrow5
            obtain ⟨hb7, es7, hCA7, hown7⟩ := H5
            have cx := row_cells HC.out (BW.out.trans (hb7.mono BW.out.size))
            have HTX7 := Lib.hid (HTX.out.below (BW.out.trans (hb7.mono BW.out.size)))
            have hel7 : es7.length = (oKS (K.take j) k ++ [k]).length := by rw [hCA7.1, cellsOf_len]
            have hbl7 := oKS_len (K.take j) k
            rw [List.length_take] at hbl7
            simp only [List.length_append, List.length_singleton] at hel7
            have hel8 : es7.length ≤ j + 2 := by omega
            have d0 := cx 0 _ rfl
            have d1 := cx 1 _ rfl
            have d2 := cx 2 _ rfl
            have d3 := cx 3 _ rfl
            have d4 := cx 4 _ rfl
            have d5 := cx 5 _ rfl
            have d6 := cx 6 _ rfl
            have d7 := cx 7 _ rfl
            have d8 := cx 8 _ rfl
            have d9 := cx 9 _ rfl
            have d10 := cx 10 _ rfl
            have d11 := cx 11 _ rfl
            have d12 := cx 12 _ rfl
            have d13 := cx 13 _ rfl
            have d14 := cx 14 _ rfl
            simp only [Nat.add_zero] at d0
            have HCA7 := Lib.hid hCA7
            have HO7 := Lib.hid hown7
            have HB7 := Lib.hid hb7
            have HS7 := hb7.size
            clear hown5 hgrow5 hb7 hCA7 hown7 cx hel7 hbl7
            go_wp2_with (at_builtin; refine wpList_append_own _ rfl (.tmp 40) (.tmp 45) 60 rfl wa.heap.size 67 i0 z0 15 248 Try.underlying60 hi hz0 hz1 hz2 hz3 (by decide) _ _ _ rfl (World.ownsRow.alloc HO7.out _) ⟨w5.heap.size, 0, none⟩ 1 1 [.string x, .int .u8 (T x).kind, .bool (T x).v.char, .slice A21 n21 c21, .slice A22 n22 c22, .string (T x).f.name, .string (T x).f.result, .string (T x).f.left, .string (T x).f.right, .slice A23 n23 c23, .slice A24 n24 c24, .int .i64 (T x).f.version, .slice A25 n25 c25, .int .i64 (T x).n, .string (T x).s] rfl rfl (World.news_of_block (cs := #[.string x, .int .u8 (T x).kind, .bool (T x).v.char, .slice A21 n21 c21, .slice A22 n22 c22, .string (T x).f.name, .string (T x).f.result, .string (T x).f.left, .string (T x).f.right, .slice A23 n23 c23, .slice A24 n24 c24, .int .i64 (T x).f.version, .slice A25 n25 c25, .int .i64 (T x).n, .string (T x).s]) (t := 67) (fr := (0, 0)) (heap_alloc_new w5 _)) (by simp [Value.oneCell']) (by unfold maxLen; omega) (by omega) (by simp; omega) ?_; intro v9 w9 hown5 hgrow5 _)
            have H6 : RowKit.Hid (CRel wa w9 D v9 (cellsOf (oKS (K.take (j + 1)) k) F)) := by
              show CRel _ _ _ _ _
              rw [E1.out]
              exact CRel.step HB7.out HCA7.out HO7.out hDa.out HTX7.out HFx.out hown5 hgrow5
            clear hown5 hgrow5
            go_wp2
            go_roundw
            case rel => exact ⟨j + 1, by omega, by go_num, by rw [E2.out], H6.out⟩
            case measure => simp [RowKit.intOf]; omega
          · have hxk2 : klt x k = true := (klt_total hxe).resolve_right hkx
            have e1 := oKS_less hdn hxk2
            have e2 : dnS (K.take (j + 1)) k = false := by rw [HTS.out, dnS_snoc, hdn, hxk2]; rfl
            rw [← HTS.out] at e1
            have E1 := Lib.hid e1
            have E2 := Lib.hid e2
            have HFx := Lib.hid (HFo.out x hxe)
            have r0 : Op.bytesLess x.toList k.toList = true := by rw [less_klt, hxk2]
            have r2 := str_ne hxe
            clear e1 e2 hdn hxe hkx hxk2
            go_wp2_with (at_builtin; refine wpList_append_own _ rfl (.tmp 40) (.tmp 45) 60 rfl wa.heap.size 67 i0 z0 15 248 Try.underlying60 hi hz0 hz1 hz2 hz3 (by decide) _ _ _ rfl (World.ownsRow.alloc HO.out _) ⟨wr.heap.size, 0, none⟩ 1 1 [.string x, .int .u8 (T x).kind, .bool (T x).v.char, .slice A21 n21 c21, .slice A22 n22 c22, .string (T x).f.name, .string (T x).f.result, .string (T x).f.left, .string (T x).f.right, .slice A23 n23 c23, .slice A24 n24 c24, .int .i64 (T x).f.version, .slice A25 n25 c25, .int .i64 (T x).n, .string (T x).s] rfl rfl (World.news_of_block (cs := #[.string x, .int .u8 (T x).kind, .bool (T x).v.char, .slice A21 n21 c21, .slice A22 n22 c22, .string (T x).f.name, .string (T x).f.result, .string (T x).f.left, .string (T x).f.right, .slice A23 n23 c23, .slice A24 n24 c24, .int .i64 (T x).f.version, .slice A25 n25 c25, .int .i64 (T x).n, .string (T x).s]) (t := 67) (fr := (0, 0)) (heap_alloc_new wr _)) (by simp [Value.oneCell']) (by unfold maxLen; omega) (by omega) (by simp; omega) ?_; intro v5 w5 hown5 hgrow5 _)
            have H6 : RowKit.Hid (CRel wa w5 D v5 (cellsOf (oKS (K.take (j + 1)) k) F)) := by
              show CRel _ _ _ _ _
              rw [E1.out]
              exact CRel.step HB.out HCA.out HO.out hDa.out (HTX.out.below HBW.out) HFx.out hown5 hgrow5
            clear hown5 hgrow5
            go_wp2
            go_roundw
            case rel => exact ⟨j + 1, by omega, by go_num, by rw [E2.out], H6.out⟩
            case measure => simp [RowKit.intOf]; omega
    · have hjn : j = n := by omega
      subst hjn
      have eT : K.take j = K := List.take_of_length_le (by rw [HLn.out]; exact Nat.le_refl _)
      obtain ⟨hb, es2, hCA, hown⟩ := hrl.out
      rw [eT] at hCA ⊢
      have hbl := oKS_len K k
      have hend := oKS_end K k
      have hel : es2.length = (oKS K k).length := by rw [hCA.1, cellsOf_len]
      have hel2 : es2.length ≤ j + 1 := by rw [hel]; rw [HLn.out] at hbl; exact hbl
      have HS := hb.size
      have hbx := (hb.block w.heap.size (lt_of_block BX.out)).trans BX.out
      have x0 : wr.cell? ⟨w.heap.size, 0, none⟩ = some (.int .u8 t.kind) := by rw [cell_of_row wr _ 0 _ _ _ hbx]; rfl
      have x1 : wr.cell? ⟨w.heap.size, 1, none⟩ = some (.bool t.v.char) := by rw [cell_of_row wr _ 1 _ _ _ hbx]; rfl
      have x2 : wr.cell? ⟨w.heap.size, 2, none⟩ = some (.slice A11 n11 c11) := by rw [cell_of_row wr _ 2 _ _ _ hbx]; rfl
      have x3 : wr.cell? ⟨w.heap.size, 3, none⟩ = some (.slice A12 n12 c12) := by rw [cell_of_row wr _ 3 _ _ _ hbx]; rfl
      have x4 : wr.cell? ⟨w.heap.size, 4, none⟩ = some (.string t.f.name) := by rw [cell_of_row wr _ 4 _ _ _ hbx]; rfl
      have x5 : wr.cell? ⟨w.heap.size, 5, none⟩ = some (.string t.f.result) := by rw [cell_of_row wr _ 5 _ _ _ hbx]; rfl
      have x6 : wr.cell? ⟨w.heap.size, 6, none⟩ = some (.string t.f.left) := by rw [cell_of_row wr _ 6 _ _ _ hbx]; rfl
      have x7 : wr.cell? ⟨w.heap.size, 7, none⟩ = some (.string t.f.right) := by rw [cell_of_row wr _ 7 _ _ _ hbx]; rfl
      have x8 : wr.cell? ⟨w.heap.size, 8, none⟩ = some (.slice A13 n13 c13) := by rw [cell_of_row wr _ 8 _ _ _ hbx]; rfl
      have x9 : wr.cell? ⟨w.heap.size, 9, none⟩ = some (.slice A14 n14 c14) := by rw [cell_of_row wr _ 9 _ _ _ hbx]; rfl
      have x10 : wr.cell? ⟨w.heap.size, 10, none⟩ = some (.int .i64 t.f.version) := by rw [cell_of_row wr _ 10 _ _ _ hbx]; rfl
      have x11 : wr.cell? ⟨w.heap.size, 11, none⟩ = some (.slice A15 n15 c15) := by rw [cell_of_row wr _ 11 _ _ _ hbx]; rfl
      have x12 : wr.cell? ⟨w.heap.size, 12, none⟩ = some (.int .i64 t.n) := by rw [cell_of_row wr _ 12 _ _ _ hbx]; rfl
      have x13 : wr.cell? ⟨w.heap.size, 13, none⟩ = some (.string t.s) := by rw [cell_of_row wr _ 13 _ _ _ hbx]; rfl
      have HCA := Lib.hid hCA
      have HO := Lib.hid hown
      have HB := Lib.hid hb
      clear eT hbx hCA hown hb hrl hel hbl
      cases hdn : dnS K k with
      | true =>
        rw [if_pos hdn] at hend
        have HE := Lib.hid hend
        have hCA := HCA.out
        rw [HE.out] at hCA
        obtain ⟨A9, c9, rfl, hr9⟩ := Rd.of_own HO.out rfl hCA.ok
        have R9 := Lib.hid hr9
        have HC9 := Lib.hid hCA
        clear hCA hr9 hend hdn
        go_wp2
        go_ret
        have R := R9.out
        rw [HC9.out.1, cellsOf_len] at R ⊢
        exact ⟨A9, c9, es2, rfl, R.mono (fun b _ h => Nat.le_trans BW.out.size h) (by decide), HC9.out, BW.out.trans (HB.out.mono BW.out.size)⟩
      | false =>
        rw [if_neg (by rw [hdn]; simp)] at hend
        have HE := Lib.hid hend
        clear hend hdn
        go_wp2_with (at_builtin; refine wpList_append_own _ rfl (.tmp 49) (.tmp 53) 60 rfl wa.heap.size 67 i0 z0 15 248 Try.underlying60 hi hz0 hz1 hz2 hz3 (by decide) _ _ _ rfl (World.ownsRow.alloc HO.out _) ⟨wr.heap.size, 0, none⟩ 1 1 [.string k, .int .u8 t.kind, .bool t.v.char, .slice A11 n11 c11, .slice A12 n12 c12, .string t.f.name, .string t.f.result, .string t.f.left, .string t.f.right, .slice A13 n13 c13, .slice A14 n14 c14, .int .i64 t.f.version, .slice A15 n15 c15, .int .i64 t.n, .string t.s] rfl rfl (World.news_of_block (cs := #[.string k, .int .u8 t.kind, .bool t.v.char, .slice A11 n11 c11, .slice A12 n12 c12, .string t.f.name, .string t.f.result, .string t.f.left, .string t.f.right, .slice A13 n13 c13, .slice A14 n14 c14, .int .i64 t.f.version, .slice A15 n15 c15, .int .i64 t.n, .string t.s]) (t := 67) (fr := (0, 0)) (heap_alloc_new wr _)) (by simp [Value.oneCell']) (by unfold maxLen; omega) (by omega) (by simp; omega) ?_; intro v5 w5 hown5 hgrow5 _)
        have H5 := CRel.step (x := k) HB.out HCA.out HO.out hDa.out (((HT.out.below BW.out)).below (HB.out)) HFk.out hown5 hgrow5
        rw [HE.out] at H5
        obtain ⟨hb7, es7, hCA7, hown7⟩ := H5
        obtain ⟨A9, c9, rfl, hr9⟩ := Rd.of_own hown7 rfl hCA7.ok
        have R9 := Lib.hid hr9
        have HC9 := Lib.hid hCA7
        have HB9 := Lib.hid hb7
        clear hr9 hCA7 hb7 hown5 hgrow5 hown7
        go_wp2
        go_ret
        have R := R9.out
        rw [HC9.out.1, cellsOf_len] at R ⊢
        exact ⟨A9, c9, es7, rfl, R.mono (fun b _ h => Nat.le_trans BW.out.size h) (by decide), HC9.out, BW.out.trans (HB9.out.mono BW.out.size)⟩
end Go.Proofs.Ytochdmbjlemfoaa
