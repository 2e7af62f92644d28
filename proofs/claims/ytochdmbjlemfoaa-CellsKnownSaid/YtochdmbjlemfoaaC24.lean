/-
  A store of cells: contract of Of. Of any list of cells that can be read.
-/
import Derived.Test.YtochdmbjlemfoaaC10
import Derived.Test.YtochdmbjlemfoaaC14
namespace Go.Proofs.Ytochdmbjlemfoaa
open Go Go.RowKit Go.Maps Go.ChangeMaps

/-- What a store of cells has. -/
def ofK (L : List CD) : List ByteArray := L.foldl (fun K c => insKS c.key K) []
def ofT (T : ByteArray → TD) (L : List CD) : ByteArray → TD := L.foldl (fun T c => updT T c.key c.t) T
theorem ofK_snoc (L : List CD) (c : CD) : ofK (L ++ [c]) = insKS c.key (ofK L) := by simp [ofK]
theorem ofT_snoc (T : ByteArray → TD) (L : List CD) (c : CD) : ofT T (L ++ [c]) = updT (ofT T L) c.key c.t := by simp [ofT]
theorem mem_ofK (x : ByteArray) : ∀ L : List CD, x ∈ ofK L ↔ x ∈ L.map CD.key := by
  suffices h : ∀ (L : List CD) (K : List ByteArray), x ∈ L.foldl (fun K c => insKS c.key K) K ↔ x ∈ K ∨ x ∈ L.map CD.key by
    intro L
    have := h L []
    simpa [ofK] using this
  intro L
  induction L with
  | nil => intro K; simp
  | cons c L ih =>
    intro K
    rw [List.foldl_cons, ih, mem_insKS, List.map_cons, List.mem_cons]
    constructor
    · rintro ((h | h) | h)
      · exact .inr (.inl h)
      · exact .inl h
      · exact .inr (.inr h)
    · rintro (h | h | h)
      · exact .inl (.inr h)
      · exact .inl (.inl h)
      · exact .inr h
theorem ofK_len (L : List CD) : (ofK L).length ≤ L.length := by
  suffices h : ∀ (L : List CD) (K : List ByteArray), (L.foldl (fun K c => insKS c.key K) K).length ≤ K.length + L.length by
    have := h L []
    simpa [ofK] using this
  intro L
  induction L with
  | nil => intro K; simp
  | cons c L ih =>
    intro K
    have h1 := ih (insKS c.key K)
    have h2 := insKS_len c.key K
    simp only [List.foldl_cons, List.length_cons]
    omega

/-- What Of leaves. -/
def OfPost (w : World) (D : Nat → Prop) (L : List CD) (T : ByteArray → TD) (e : Ending) (w' : World) : Prop :=
  ((L.map CD.key).Nodup ∧ e = .returned (.tuple #[.pointer (some ⟨w.heap.size + 2, 0, none⟩), .int .i64 0]) ∧ SK w' (fun b => w.heap.size ≤ b ∧ b ≤ w.heap.size + 2) D (w.heap.size + 2) (ofK L) (ofT T L) [] ∧ Below w.heap.size w w') ∨
  (¬ (L.map CD.key).Nodup ∧ e = .returned (.tuple #[.pointer none, .int .i64 1]) ∧ Below w.heap.size w w')

set_option maxRecDepth 100000 in
set_option maxHeartbeats 6400000 in
theorem cOf_any (A : Option Addr) (n c : Nat) (es : List (List Value)) (L : List CD) (T : ByteArray → TD) (D Dd : Nat → Prop) (w : World) (hx : Rd w Dd 15 A n c es) (hL : CellsAre w D es L) (hD : ∀ b, D b → b < w.heap.size) (hks : ∀ x ∈ L, x.key.size ≤ maxLen) (hn : n ≤ 1000000) :
    Calls Try.prog 61 #[.slice A n c] w fun e w' => OfPost w D L T e w' := by
  have HX := Lib.hid hx
  have HL := Lib.hid hL
  have HLn := Lib.hid (show L.length = n by rw [← hL.1]; exact hx.len)
  have HKS := Lib.hid hks
  have HD := Lib.hid hD
  clear hx hL hks
  go_enter Try.func61, Try.ntmps61
  go_wp2_with fail
  refine (cNew_any D T w hD).mono ?_
  rintro e w1 ⟨rfl, hs1, hb1⟩
  have S1 := Lib.hid hs1
  have B1 := Lib.hid hb1
  clear hs1 hb1 hD
  go_wp2
  go_loopw [12] (fun i wr => ∃ j : Nat, j ≤ n ∧ i = .int .i64 (j : Int) ∧ RowKit.Hid (SK wr (fun b => w.heap.size ≤ b ∧ b ≤ w.heap.size + 2) D (w.heap.size + 2) (ofK (L.take j)) (ofT T (L.take j)) [] ∧ Below w.heap.size w wr) ∧ RowKit.Hid (((L.take j).map CD.key).Nodup)) (fun i _ => n - (RowKit.intOf i).toNat)
  case atStart => exact ⟨0, Nat.zero_le _, rfl, ⟨S1.out, B1.out⟩, by simp [RowKit.Hid]⟩
  case round =>
    clear S1 B1
    obtain ⟨j, hj, rfl, hst, hND⟩ := hrel
    by_cases hlt : j < n
    · have q1 : (j : Int) < (n : Int) := by omega
      obtain ⟨hsk, hbw⟩ := hst.out
      obtain ⟨b, off, hA, -, hc⟩ := HX.out.at_ (by omega)
      obtain ⟨e, he⟩ : ∃ e, es[j]? = some e := ⟨_, List.getElem?_eq_getElem (by rw [HX.out.len]; exact hlt)⟩
      obtain ⟨X, hX⟩ : ∃ X, L[j]? = some X := ⟨_, List.getElem?_eq_getElem (by rw [HLn.out]; exact hlt)⟩
      obtain ⟨ts, rfl, ht⟩ := HL.out.2 j e X he hX
      obtain ⟨A1, n1, c1, A2, n2, c2, A3, n3, c3, A4, n4, c4, A5, n5, c5, rfl⟩ := ht.full
      have cx := row_cells (hc j _ he) hbw
      have hts : L.take (j + 1) = L.take j ++ [X] := by rw [List.take_add_one, hX]; rfl
      have hks := HKS.out X (List.mem_of_getElem? hX)
      have HNL : RowKit.Hid (X.key ∈ ofK (L.take j) → ¬ (L.map CD.key).Nodup) := fun hm h1 => by
        rw [mem_ofK] at hm
        rw [← List.take_append_drop (j + 1) L, hts, List.map_append, List.map_append] at h1
        have h2 := (List.nodup_append.1 (List.nodup_append.1 h1).1).2.2
        exact h2 _ hm _ (by simp) rfl
      have HNN : RowKit.Hid (¬ X.key ∈ ofK (L.take j) → ((L.take (j + 1)).map CD.key).Nodup) := fun hm => by
        rw [mem_ofK] at hm
        rw [hts, List.map_append]
        exact List.nodup_append.2 ⟨hND.out, by simp, fun a ha b hb e => by simp at hb; subst hb; exact hm (by rw [← e]; exact ha)⟩
      have HTS := Lib.hid hts
      have HT := Lib.hid (ht.below hbw)
      have hkl := ofK_len (L.take j)
      rw [List.length_take] at hkl
      subst hA
      have H1 : ofK (L.take (j + 1)) = insKS X.key (ofK (L.take j)) := by rw [hts, ofK_snoc]
      have H2 : ofT T (L.take (j + 1)) = updT (ofT T (L.take j)) X.key X.t := by rw [hts, ofT_snoc]
      have HK1 := Lib.hid H1
      have HK2 := Lib.hid H2
      clear hc he hX ht hts hst H1 H2
      have a0 := cx 0 _ rfl
      have a1 := cx 1 _ rfl
      have a2 := cx 2 _ rfl
      have a3 := cx 3 _ rfl
      have a4 := cx 4 _ rfl
      have a5 := cx 5 _ rfl
      have a6 := cx 6 _ rfl
      have a7 := cx 7 _ rfl
      have a8 := cx 8 _ rfl
      have a9 := cx 9 _ rfl
      have a10 := cx 10 _ rfl
      have a11 := cx 11 _ rfl
      have a12 := cx 12 _ rfl
      have a13 := cx 13 _ rfl
      have a14 := cx 14 _ rfl
      simp only [Nat.add_zero] at a0
      generalize ofK (L.take j) = K at *
      generalize ofT T (L.take j) = T2 at *
      have HSK := Lib.hid hsk
      have HBW := Lib.hid hbw
      clear cx hsk hbw
      go_upto_region 5 with fail
      obtain ⟨wb, hwb⟩ : ∃ wb, wb = wr.alloc (.cells #[.string X.key, .int .u8 X.t.kind, .bool X.t.v.char, .slice A1 n1 c1, .slice A2 n2 c2, .string X.t.f.name, .string X.t.f.result, .string X.t.f.left, .string X.t.f.right, .slice A3 n3 c3, .slice A4 n4 c4, .int .i64 X.t.f.version, .slice A5 n5 c5, .int .i64 X.t.n, .string X.t.s] 67) := ⟨_, rfl⟩
      have hbb : wb.heap[wr.heap.size]? = some (.cells #[.string X.key, .int .u8 X.t.kind, .bool X.t.v.char, .slice A1 n1 c1, .slice A2 n2 c2, .string X.t.f.name, .string X.t.f.result, .string X.t.f.left, .string X.t.f.right, .slice A3 n3 c3, .slice A4 n4 c4, .int .i64 X.t.f.version, .slice A5 n5 c5, .int .i64 X.t.n, .string X.t.s] 67 (0, 0)) := by rw [hwb]; exact heap_alloc_new _ _
      have hbr : Below wr.heap.size wr wb := by rw [hwb]; exact (Below.refl _ wr).alloc (Nat.le_refl _) _
      rw [← hwb]
      obtain ⟨bt, hsb⟩ : ∃ bt, SB wb (fun b => w.heap.size ≤ b ∧ b ≤ w.heap.size + 2) D (w.heap.size + 2) K T2 [] bt := by
        obtain ⟨bt, h⟩ := HSK.out.below hbr
        exact ⟨bt, h⟩
      have HSB := Lib.hid hsb
      obtain ⟨bh, gv, f, Kh, es2, hm⟩ := hsb
      have d0 := hm.c0
      have e0 : wb.cell? ⟨wr.heap.size, 0, none⟩ = some (.string X.key) := by rw [cell_of_row wb _ 0 _ _ _ hbb]; rfl
      have BB := Lib.hid hbb
      have BR := Lib.hid hbr
      clear hwb hbb hbr
      by_cases hin : X.key ∈ K
      · obtain ⟨ts2, ef, ht2⟩ := hm.things X.key hin
        generalize T2 X.key = t2 at ht2
        obtain ⟨F1, g1, h1, F2, g2, h2, F3, g3, h3, F4, g4, h4, F5, g5, h5, rfl⟩ := ht2.full
        have HLK : RowKit.Hid (∀ w', Below wb.heap.size wb w' → (Instr.lookup 116 (.map (some bt)) (.string X.key) true).run Try.prog w' = .ok (.tuple #[.agg (tL t2 F1 g1 h1 F2 g2 h2 F3 g3 h3 F4 g4 h4 F5 g5 h5).toArray, .bool true]) w') := fun w' hb => by
          have := look_thing (ownsMap_chg (S := fun _ => False) hm.mt (Chg.of_below hb) (fun h => h)) hks
          rwa [if_pos hin, decide_eq_true hin, ef] at this
        have HBAD := Lib.hid (HNL.out hin)
        clear hm ef ht2 hin
        unfold tL at HLK
        go_region_held3 (fun w' => w'.cell? ⟨w.heap.size + 2, 0, none⟩ = some (.map (some bt)) ∧ w'.cell? ⟨wr.heap.size, 0, none⟩ = some (.string X.key) ∧ (Instr.lookup 116 (.map (some bt)) (.string X.key) true).run Try.prog w' = .ok (.tuple #[.agg #[.int .u8 t2.kind, .bool t2.v.char, .slice F1 g1 h1, .slice F2 g2 h2, .string t2.f.name, .string t2.f.result, .string t2.f.left, .string t2.f.right, .slice F3 g3 h3, .slice F4 g4 h4, .int .i64 t2.f.version, .slice F5 g5 h5, .int .i64 t2.n, .string t2.s], .bool true]) w')
          (first | (go_split_ands; exact ⟨d0, e0, HLK.out _ (below_drewN (Below.refl wb.heap.size wb) _)⟩) | (go_split_ands; exact ⟨below_cell ((Below.refl _ wb).alloc (Nat.le_refl _) _) d0, below_cell ((Below.refl _ wb).alloc (Nat.le_refl _) _) e0, HLK.out _ (below_drewN ((Below.refl wb.heap.size wb).alloc (Nat.le_refl _) _) _)⟩))
          (fail)
        all_goals
          go_wp2
          exact bodyPost_ret (v := .tuple #[.pointer none, .int .i64 1]) (by simp [results, Try.results61, go_sem]) rfl (.inr ⟨HBAD.out, rfl, HBW.out.trans ((BR.out.trans ((below_drewN ((Below.refl wb.heap.size wb).alloc (Nat.le_refl _) _) 1).mono BR.out.size)).mono HBW.out.size)⟩)
      · have HNX := Lib.hid (HNN.out hin)
        have HLK : RowKit.Hid (∀ w', Below wb.heap.size wb w' → (Instr.lookup 116 (.map (some bt)) (.string X.key) true).run Try.prog w' = .ok (.tuple #[.agg (numE 0 0).toArray, .bool false]) w') := fun w' hb => by
          have := look_thing (ownsMap_chg (S := fun _ => False) hm.mt (Chg.of_below hb) (fun h => h)) hks
          rwa [if_neg hin, decide_eq_false hin] at this
        clear hm
        go_region_held3 (fun w' => w'.cell? ⟨w.heap.size + 2, 0, none⟩ = some (.map (some bt)) ∧ w'.cell? ⟨wr.heap.size, 0, none⟩ = some (.string X.key) ∧ (Instr.lookup 116 (.map (some bt)) (.string X.key) true).run Try.prog w' = .ok (.tuple #[.agg #[.int .u8 0, .bool false, .slice none 0 0, .slice none 0 0, .string ⟨#[]⟩, .string ⟨#[]⟩, .string ⟨#[]⟩, .string ⟨#[]⟩, .slice none 0 0, .slice none 0 0, .int .i64 0, .slice none 0 0, .int .i64 0, .string ⟨#[]⟩], .bool false]) w')
          (first | (go_split_ands; exact ⟨d0, e0, HLK.out _ (below_drewN (Below.refl wb.heap.size wb) _)⟩) | (go_split_ands; exact ⟨below_cell ((Below.refl _ wb).alloc (Nat.le_refl _) _) d0, below_cell ((Below.refl _ wb).alloc (Nat.le_refl _) _) e0, HLK.out _ (below_drewN ((Below.refl wb.heap.size wb).alloc (Nat.le_refl _) _) _)⟩))
          (fail)
        all_goals
          go_upto_region 8 with fail
          obtain ⟨wz, hwz⟩ : ∃ wz, wz = (wb.alloc (.cells #[.int .u8 0, .bool false, .slice none 0 0, .slice none 0 0, .string ⟨#[]⟩, .string ⟨#[]⟩, .string ⟨#[]⟩, .string ⟨#[]⟩, .slice none 0 0, .slice none 0 0, .int .i64 0, .slice none 0 0, .int .i64 0, .string ⟨#[]⟩] 45)).drew := ⟨_, rfl⟩
          have hbz : Below wb.heap.size wb wz := by rw [hwz]; exact below_drewN ((Below.refl _ wb).alloc (Nat.le_refl _) _) 1
          rw [← hwz]
          obtain ⟨bh2, gv2, f2, Kh2, es3, hm2⟩ := HSB.out.below hbz
          have z0 := hm2.c0
          have hzb := (hbz.block _ (lt_of_block BB.out)).trans BB.out
          have b0 : wz.cell? ⟨wr.heap.size, 0, none⟩ = some (.string X.key) := by rw [cell_of_row wz _ 0 _ _ _ hzb]; rfl
          have b1 : wz.cell? ⟨wr.heap.size, 1, none⟩ = some (.int .u8 X.t.kind) := by rw [cell_of_row wz _ 1 _ _ _ hzb]; rfl
          have b2 : wz.cell? ⟨wr.heap.size, 2, none⟩ = some (.bool X.t.v.char) := by rw [cell_of_row wz _ 2 _ _ _ hzb]; rfl
          have b3 : wz.cell? ⟨wr.heap.size, 3, none⟩ = some (.slice A1 n1 c1) := by rw [cell_of_row wz _ 3 _ _ _ hzb]; rfl
          have b4 : wz.cell? ⟨wr.heap.size, 4, none⟩ = some (.slice A2 n2 c2) := by rw [cell_of_row wz _ 4 _ _ _ hzb]; rfl
          have b5 : wz.cell? ⟨wr.heap.size, 5, none⟩ = some (.string X.t.f.name) := by rw [cell_of_row wz _ 5 _ _ _ hzb]; rfl
          have b6 : wz.cell? ⟨wr.heap.size, 6, none⟩ = some (.string X.t.f.result) := by rw [cell_of_row wz _ 6 _ _ _ hzb]; rfl
          have b7 : wz.cell? ⟨wr.heap.size, 7, none⟩ = some (.string X.t.f.left) := by rw [cell_of_row wz _ 7 _ _ _ hzb]; rfl
          have b8 : wz.cell? ⟨wr.heap.size, 8, none⟩ = some (.string X.t.f.right) := by rw [cell_of_row wz _ 8 _ _ _ hzb]; rfl
          have b9 : wz.cell? ⟨wr.heap.size, 9, none⟩ = some (.slice A3 n3 c3) := by rw [cell_of_row wz _ 9 _ _ _ hzb]; rfl
          have b10 : wz.cell? ⟨wr.heap.size, 10, none⟩ = some (.slice A4 n4 c4) := by rw [cell_of_row wz _ 10 _ _ _ hzb]; rfl
          have b11 : wz.cell? ⟨wr.heap.size, 11, none⟩ = some (.int .i64 X.t.f.version) := by rw [cell_of_row wz _ 11 _ _ _ hzb]; rfl
          have b12 : wz.cell? ⟨wr.heap.size, 12, none⟩ = some (.slice A5 n5 c5) := by rw [cell_of_row wz _ 12 _ _ _ hzb]; rfl
          have b13 : wz.cell? ⟨wr.heap.size, 13, none⟩ = some (.int .i64 X.t.n) := by rw [cell_of_row wz _ 13 _ _ _ hzb]; rfl
          have b14 : wz.cell? ⟨wr.heap.size, 14, none⟩ = some (.string X.t.s) := by rw [cell_of_row wz _ 14 _ _ _ hzb]; rfl
          have M2 := Lib.hid hm2
          have HTZ := Lib.hid ((HT.out.below BR.out).below hbz)
          have HBZ := Lib.hid (HBW.out.trans ((BR.out.trans (hbz.mono BR.out.size)).mono HBW.out.size))
          clear hwz hbz hm2 hzb d0 e0 a0 a1 a2 a3 a4 a5 a6 a7 a8 a9 a10 a11 a12 a13 a14
          go_still_tail 8, (by kernel_rfl)
          change wpList _ _ _ _ _ wz.drew
          go_wp2_with (at_mapUpdate; refine wpList_mapUpdate_own _ rfl _ _ _ 116 rfl 9 45 slaw Try.underlying116 heldR bt K.length (smap K f2) rfl M2.out.mt.drew (by unfold maxLen; omega) (.string X.key) (.agg #[.int .u8 X.t.kind, .bool X.t.v.char, .slice A1 n1 c1, .slice A2 n2 c2, .string X.t.f.name, .string X.t.f.result, .string X.t.f.left, .string X.t.f.right, .slice A3 n3 c3, .slice A4 n4 c4, .int .i64 X.t.f.version, .slice A5 n5 c5, .int .i64 X.t.n, .string X.t.s]) (.string (kb X.key)) rfl rfl (keyS hks) (.held (.agg #[.int .u8 X.t.kind, .bool X.t.v.char, .slice A1 n1 c1, .slice A2 n2 c2, .string X.t.f.name, .string X.t.f.result, .string X.t.f.left, .string X.t.f.right, .slice A3 n3 c3, .slice A4 n4 c4, .int .i64 X.t.f.version, .slice A5 n5 c5, .int .i64 X.t.n, .string X.t.s])) [] rfl ?_; intro w5 hown5 hgrow5)
          obtain ⟨s1, s2⟩ := sk_set M2.out.drew hks (HTZ.out.chg (Chg.refl (fun _ => False) wz).drew (fun _ _ h => h)) hgrow5 hown5
          have PF : RowKit.Hid (SK w5 (fun b => w.heap.size ≤ b ∧ b ≤ w.heap.size + 2) D (w.heap.size + 2) (ofK (L.take (j + 1))) (ofT T (L.take (j + 1))) [] ∧ Below w.heap.size w w5) := by
            refine ⟨by rw [HK1.out, HK2.out]; exact s1, HBZ.out.trans (((Chg.refl _ wz).drew.trans s2).below HBZ.out.size (fun b hb => hb.1))⟩
          clear s1 s2 hown5 hgrow5
          go_wp2
          go_roundw
          case rel => exact ⟨j + 1, by omega, by go_num, PF.out, HNX.out⟩
          case measure => simp [RowKit.intOf]; omega
    · have hjn : j = n := by omega
      subst hjn
      have eT : L.take j = L := List.take_of_length_le (by rw [HLn.out]; exact Nat.le_refl _)
      rw [eT] at hst hND
      have HNE := Lib.hid hND.out
      clear eT
      go_wp2
      exact bodyPost_ret (v := .tuple #[.pointer (some ⟨w.heap.size + 2, 0, none⟩), .int .i64 0]) (by simp [results, Try.results61, go_sem]) rfl (.inl ⟨HNE.out, rfl, hst.out.1, hst.out.2⟩)
end Go.Proofs.Ytochdmbjlemfoaa
