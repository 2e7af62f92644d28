/-
  The reference of layer 19 (anamnesisref19): contract of Undo. Of any store, and any entries, that can be read.
-/
import Derived.Test.YtochdmbjlemfoaaC17
import Derived.Test.YtochdmbjlemfoaaC14
namespace Go.Proofs.Ytochdmbjlemfoaa
open Go Go.RowKit Go.Maps

/-- Those that have been undone when m are left. -/
def undone (L : List ED) (m : Nat) : List ED := (L.drop m).reverse
theorem undone_all (L : List ED) : undone L L.length = [] := by simp [undone]
theorem undone_zero (L : List ED) : undone L 0 = L.reverse := rfl
theorem undone_step {L : List ED} {m : Nat} {e : ED} (h : L[m]? = some e) : undone L m = undone L (m + 1) ++ [e] := by
  obtain ⟨hlt, he⟩ := List.getElem?_eq_some_iff.1 h
  unfold undone
  rw [← List.reverse_cons, List.drop_eq_getElem_cons hlt, he]
theorem undone_len (L : List ED) (m : Nat) : (undone L m).length ≤ L.length := by simp [undone]
theorem unK_rise : ∀ (L : List ED) (K : List ByteArray), RisS K → RisS (unK K L)
  | [], _, h => h
  | e :: L, K, h => by
    show RisS (unK (if e.had = true then _ else _) L)
    by_cases hh : e.had = true
    · rw [if_pos hh]; exact unK_rise L _ (risS_insKS _ _ h)
    · rw [if_neg hh]; exact unK_rise L _ (risS_filter _ _ h)
/-- The reference's store between two entries. -/
def URel (w wa wr : World) (E D : Nat → Prop) (B : Option Addr) (g d : Nat) (K : List ByteArray) (T : ByteArray → TD) : Prop :=
  ∃ P p es, wr.heap[w.heap.size]? = some (.cells #[.slice P K.length p, .slice B g d] 88 (0, 0)) ∧ Rd wr (fun b => E b ∨ wa.heap.size ≤ b ∧ b < wr.heap.size) 15 P K.length p es ∧ CellsAre wr D es (cellsOf K T) ∧ Chg (fun b => b = w.heap.size) wa wr
theorem URel.step {w wa wr w3 w4 : World} {E D : Nat → Prop} {B : Option Addr} {g d : Nat} {K K3 : List ByteArray} {T3 : ByteArray → TD} {P P3 : Option Addr} {p c3 : Nat} {es3 : List (List Value)} (hbx : wr.heap[w.heap.size]? = some (.cells #[.slice P K.length p, .slice B g d] 88 (0, 0))) (hc : Chg (fun b => b = w.heap.size) wa wr) (hlt : w.heap.size < wa.heap.size) (hD : ∀ b, D b → b < w.heap.size)
    (hb3 : Below wr.heap.size wr w3) (hr3 : Rd w3 (fun b => wr.heap.size ≤ b) 15 P3 K3.length c3 es3) (he3 : CellsAre w3 D es3 (cellsOf K3 T3)) (h4 : w4.heap = (w3.setCell ⟨w.heap.size, 0, none⟩ (.slice P3 K3.length c3)).heap) (ho : w4.os = w3.os) (ht : w4.tape = w3.tape) (hp : w4.output = w3.output) : URel w wa w4 E D B g d K3 T3 := by
  have h34 : Chg (fun b => b = w.heap.size) w3 w4 := ⟨ho, ht, hp, by rw [h4]; simp [World.setCell], fun i _ hn => by rw [h4]; exact Below.heap_setCell _ _ _ _ hn⟩
  have hs := hc.size
  have hs4 := h34.size
  refine ⟨P3, c3, es3, ?_, (hr3.chg h34 (fun b hb e => by omega)).mono (fun b hlt hb => .inr ⟨by omega, hlt⟩) (by decide), he3.chg h34 (fun b hb e => by have := hD b hb; omega), (hc.trans (Chg.of_below hb3)).trans h34⟩
  rw [h4]
  exact heap_setCell_same _ w.heap.size 0 _ _ _ ((hb3.block _ (lt_of_block hbx)).trans hbx)

set_option maxRecDepth 100000 in
set_option maxHeartbeats 6400000 in
theorem rUndo_any (E D Dz : Nat → Prop) (A : Option Addr) (c : Nat) (es : List (List Value)) (B : Option Addr) (g d : Nat) (K : List ByteArray) (T : ByteArray → TD) (Z : Option Addr) (n zc : Nat) (zes : List (List Value)) (L : List ED) (w : World) (hcs : Rd w E 15 A K.length c es) (hare : CellsAre w D es (cellsOf K T)) (helt : ∀ b, E b → b < w.heap.size) (hdlt : ∀ b, D b → b < w.heap.size) (hrise : RisS K)
    (hz : Rd w Dz 16 Z n zc zes) (hzl : EntsAre w D zes L) (hK : K.length ≤ 500000) (hn : n ≤ 400000) :
    Calls Try.prog 51 #[.agg #[.slice A K.length c, .slice B g d], .slice Z n zc] w fun e w' => RPost w E D (unK K L.reverse) (unT T L.reverse) [] e w' := by
  have hLn : L.length = n := by rw [← hzl.1]; exact hz.len
  have HC := Lib.hid hcs
  have HA := Lib.hid hare
  have HEL := Lib.hid helt
  have HDL := Lib.hid hdlt
  have HR := Lib.hid hrise
  have HZ := Lib.hid (hz.mono (D' := fun b => b < w.heap.size) (fun b hlt _ => hlt) (by decide))
  have HZL := Lib.hid hzl
  have HL := Lib.hid hLn
  obtain ⟨m0, hm0⟩ : ∃ m, m = K.length := ⟨_, rfl⟩
  have HM := Lib.hid hm0
  rw [← hm0]
  clear hcs hare helt hdlt hrise hz hzl hLn hm0
  go_enter Try.func51, Try.ntmps51
  go_upto_region 2 with fail
  obtain ⟨wa, hwa⟩ : ∃ wa, wa = (w.alloc (.cells #[.slice A m0 c, .slice B g d] 88)).alloc (.cells #[.slice none 0 0, .slice none 0 0] 88) := ⟨_, rfl⟩
  have hx := al2 w (.cells #[.slice A m0 c, .slice B g d] 88) (.cells #[.slice none 0 0, .slice none 0 0] 88)
  have hba := two_below w (.cells #[.slice A m0 c, .slice B g d] 88) (.cells #[.slice none 0 0, .slice none 0 0] 88)
  rw [← hwa] at hx hba
  have hsz : wa.heap.size = w.heap.size + 2 := by rw [hwa]; simp
  rw [← hwa]
  have HX := Lib.hid hx
  have BA := Lib.hid hba
  have SZ := Lib.hid hsz
  clear hwa hx hba hsz
  go_loopw [5] (fun i wr => ∃ m : Nat, m ≤ n ∧ i = .int .i64 ((m : Int) - 1) ∧ RowKit.Hid (URel w wa wr E D B g d (unK K (undone L m)) (unT T (undone L m)))) (fun i _ => left3 i)
  case atStart =>
    refine ⟨n, Nat.le_refl _, by first | rfl | simp, ?_⟩
    rw [← HL.out, undone_all]
    refine ⟨A, c, es, ?_, (HC.out.below BA.out).mono (fun b _ hb => .inl hb) (by decide), HA.out.below BA.out, Chg.refl _ _⟩
    have := HX.out.1
    rw [HM.out] at this
    exact this
  case round =>
    obtain ⟨m, hm, rfl, hst⟩ := hrel
    obtain ⟨P, p, es2, hbx, hr2, he2, hc2⟩ := hst.out
    have hkl := unK_len (undone L m) K
    have hul := undone_len L m
    rw [HL.out] at hul
    have s0 : wr.cell? ⟨w.heap.size, 0, none⟩ = some (.slice P (unK K (undone L m)).length p) := by rw [cell_of_row wr _ 0 _ _ _ hbx]; rfl
    have s1 : wr.cell? ⟨w.heap.size, 1, none⟩ = some (.slice B g d) := by rw [cell_of_row wr _ 1 _ _ _ hbx]; rfl
    have f0 : wr.frozen? ⟨w.heap.size, 0, none⟩ = false := fz_block hbx
    have f1 : wr.frozen? ⟨w.heap.size, 1, none⟩ = false := fz_block hbx
    have y1 := block_chg hc2 HX.out.2 (by omega)
    have Y1 := Lib.hid y1
    have HBX := Lib.hid hbx
    have R2 := Lib.hid hr2
    have E2 := Lib.hid he2
    have C2 := Lib.hid hc2
    have hs2 := hc2.size
    have hsz := SZ.out
    clear hst hbx hr2 he2 hc2 y1
    cases m with
    | zero =>
      have q : ¬ (0 : Int) ≤ ((0 : Nat) : Int) - 1 := by omega
      have g0 : wr.frozen? ⟨w.heap.size + 1, 0, none⟩ = false := fz_block Y1.out
      have g1 : wr.frozen? ⟨w.heap.size + 1, 1, none⟩ = false := fz_block Y1.out
      have v0 : wr.cell? ⟨w.heap.size + 1, 0, none⟩ = some (.slice none 0 0) := by rw [cell_of_row wr _ 0 _ _ _ Y1.out]; rfl
      have v1 : wr.cell? ⟨w.heap.size + 1, 1, none⟩ = some (.slice none 0 0) := by rw [cell_of_row wr _ 1 _ _ _ Y1.out]; rfl
      generalize hKm : unK K (undone L 0) = Km at *
      have HKm := Lib.hid hKm
      clear hKm
      go_wp2
      obtain ⟨w4, hw4⟩ : ∃ w4, w4 = ((wr.setCell ⟨w.heap.size, 1, none⟩ (.slice none 0 0)).setCell ⟨w.heap.size + 1, 0, none⟩ (.slice P Km.length p)).setCell ⟨w.heap.size + 1, 1, none⟩ (.slice none 0 0) := ⟨_, rfl⟩
      have h34 : Chg (fun b => b = w.heap.size ∨ b = w.heap.size + 1) wr w4 := by
        rw [hw4]
        exact Chg.setCell (Chg.setCell (Chg.setCell (Chg.refl _ wr) (.inl (.inl rfl)) _) (.inl (.inr rfl)) _) (.inl (.inr rfl)) _
      have r1 : w4.cell? ⟨w.heap.size + 1, 1, none⟩ = some (.slice none 0 0) := by
        rw [hw4]
        exact World.cell?_setCell_same' _ _ _ (by rw [World.cell?_setCell_other _ _ _ _ (by simp), World.cell?_setCell_other _ _ _ _ (by simp), v1]; rfl)
      have r0 : w4.cell? ⟨w.heap.size + 1, 0, none⟩ = some (.slice P Km.length p) := by
        rw [hw4]
        exact (World.cell?_setCell_other _ _ _ _ (by simp)).trans (World.cell?_setCell_same' _ _ _ (by rw [World.cell?_setCell_other _ _ _ _ (by simp), v0]; rfl))
      rw [← hw4]
      refine bodyPost_ret (v := .agg #[.slice P Km.length p, .slice none 0 0]) (by simp [results, Try.results51, go_sem, r0, r1]) rfl ?_
      have hw4b : Below w.heap.size w w4 := BA.out.trans ((C2.out.below BA.out.size (fun b hb => by omega)).trans (h34.below (by omega) (fun b hb => by omega)))
      have hl4 := h34.size
      rw [← undone_zero L, HKm.out]
      refine ⟨P, p, es2, none, 0, [], rfl, ?_, hw4b⟩
      exact {
        cells := (R2.out.chg h34 (fun b hb e => by
          rcases hb with hb | hb
          · have := HEL.out b hb; omega
          · omega)).mono (fun b hlt hb => hb.elim .inl (fun hb' => .inr ⟨by omega, hlt⟩)) (by decide)
        are := E2.out.chg h34 (fun b hb e => by have := HDL.out b hb; omega)
        grp := Rd.nil _ _ _
        ents := ⟨rfl, by simp⟩
        elt := fun b hb => hb.elim (fun hb => Nat.lt_of_lt_of_le (HEL.out b hb) hw4b.size) (fun hb => hb.2)
        dlt := fun b hb => Nat.lt_of_lt_of_le (HDL.out b hb) hw4b.size
        rise := by rw [← HKm.out]; exact unK_rise _ _ HR.out
        bnil := fun _ => rfl }
    | succ k =>
      have e : (((k + 1 : Nat) : Int) - 1) = (k : Int) := by omega
      rw [e]
      have hlt : k < n := by omega
      obtain ⟨b, off, hAz, hbz, hc⟩ := HZ.out.at_ (by omega)
      obtain ⟨ee, hee⟩ : ∃ e, zes[k]? = some e := ⟨_, List.getElem?_eq_getElem (by rw [HZ.out.len]; exact hlt)⟩
      obtain ⟨X, hX⟩ : ∃ X, L[k]? = some X := ⟨_, List.getElem?_eq_getElem (by rw [HL.out]; exact hlt)⟩
      obtain ⟨ts, rfl, ht⟩ := HZL.out.2 k ee X hee hX
      have hust := undone_step hX
      obtain ⟨A1, n1, c1, A2, n2, c2, A3, n3, c3, A4, n4, c4, A5, n5, c5, rfl⟩ := ht.full
      have cx : ∀ j u, ([.string X.key] ++ [.int .u8 X.was.kind, .bool X.was.v.char, .slice A1 n1 c1, .slice A2 n2 c2, .string X.was.f.name, .string X.was.f.result, .string X.was.f.left, .string X.was.f.right, .slice A3 n3 c3, .slice A4 n4 c4, .int .i64 X.was.f.version, .slice A5 n5 c5, .int .i64 X.was.n, .string X.was.s] ++ [.bool X.had] : List Value)[j]? = some u → wr.cell? ⟨b, off + k * 16 + j, none⟩ = some u := fun j u hj => by
        have h1 := below_cell BA.out (hc k _ hee j u hj)
        rw [Nat.add_assoc]
        exact C2.out.cell h1 (by simp only; omega)
      have a0 := cx 0 _ rfl
      simp only [Nat.add_zero] at a0
      have a15 := cx 15 _ rfl
      have HTw := Lib.hid ((ht.below BA.out).chg C2.out (fun b hb e => by have := HDL.out b hb; omega))
      have HUS := Lib.hid hust
      subst hAz
      have q1 : (k : Int) < (n : Int) := by omega
      have q2 : (0 : Int) ≤ (k : Int) := by omega
      generalize hKm : unK K (undone L (k + 1)) = Km at *
      generalize hTm : unT T (undone L (k + 1)) = Tm at *
      have HKm := Lib.hid hKm
      have HTm := Lib.hid hTm
      clear hc hee hX ht hust e hKm hTm
      cases hh : X.had with
      | false =>
        rw [hh] at a15
        have HP := Lib.hid (fun w9 h1 h2 h3 => rwithout_any P Km.length p es2 (cellsOf Km Tm) X.key D (fun b => E b ∨ wa.heap.size ≤ b ∧ b < wr.heap.size) w9 h1 h2 h3 (by omega))
        have hcf : (cellsOf Km Tm).filter (fun x => x.key ≠ X.key) = cellsOf (Km.filter (· ≠ X.key)) Tm := by unfold cellsOf; rw [List.filter_map]; rfl
        rw [hcf, cellsOf_len] at HP
        have HU1 : RowKit.Hid (unK K (undone L k) = Km.filter (· ≠ X.key)) := by show _ = _; rw [HUS.out, unK_snoc, HKm.out, hh]; rfl
        have HU2 : RowKit.Hid (unT T (undone L k) = Tm) := by show _ = _; rw [HUS.out, unT_snoc, HTm.out, hh]; rfl
        generalize hKf : Km.filter (· ≠ X.key) = Kf at HP HU1
        clear cx hcf hh hKf
        go_upto_region 6 with fail
        go_region_law (go_simp; go_at_call 77; refine (HP.out _ (R2.out.below (below_drewN (Below.refl _ wr) _)) (E2.out.below (below_drewN (Below.refl _ wr) _)) (fun b hb => Nat.lt_of_lt_of_le (HDL.out b hb) (by show _ ≤ wr.heap.size; omega))).mono ?_; rintro e w3 ⟨P3, p3, es3, rfl, hr3, he3, hb3⟩; have g0 : w3.frozen? ⟨w.heap.size, 0, none⟩ = false := fz_block ((hb3.block _ (lt_of_block HBX.out)).trans HBX.out); have g1 : w3.cell? ⟨w.heap.size, 0, none⟩ = some (.slice P Km.length p) := below_cell hb3 s0)
        all_goals
          have HU := URel.step (E := E) HBX.out C2.out (by omega) HDL.out (below_drewN (Below.refl _ wr) 1 |>.trans hb3) hr3 he3 (w4 := w3.setCell ⟨w.heap.size, 0, none⟩ (.slice P3 Kf.length p3)) rfl rfl rfl rfl
          have HUU := Lib.hid HU
          clear hr3 he3 hb3 s0 s1 HU a0 a15
          go_wp2
          go_roundw
          case rel => exact ⟨k, by omega, by first | rfl | go_num, by rw [HU1.out, HU2.out]; exact HUU.out⟩
          case measure => simp [left3, RowKit.intOf]
      | true =>
        rw [hh] at a15
        have a1 := cx 1 _ rfl
        have a2 := cx 2 _ rfl
        have a3 := cx 3 _ rfl
        have a4 := cx 4 _ rfl
        have a5 := cx 5 _ rfl
        have a6 := cx 6 _ rfl
        have a7 := cx 7 _ rfl
        have a8 := cx 8 _ rfl
        have a9 := cx 9 _ rfl
        have a10 := cx 10 _ rfl
        have a11 := cx 11 _ rfl
        have a12 := cx 12 _ rfl
        have a13 := cx 13 _ rfl
        have a14 := cx 14 _ rfl
        have HP := Lib.hid (fun w9 h1 h2 h3 h4 => rput_any P Km.length p es2 Km Tm X.key [.int .u8 X.was.kind, .bool X.was.v.char, .slice A1 n1 c1, .slice A2 n2 c2, .string X.was.f.name, .string X.was.f.result, .string X.was.f.left, .string X.was.f.right, .slice A3 n3 c3, .slice A4 n4 c4, .int .i64 X.was.f.version, .slice A5 n5 c5, .int .i64 X.was.n, .string X.was.s] X.was D (fun b => E b ∨ wa.heap.size ≤ b ∧ b < wr.heap.size) w9 h1 h2 h3 (by omega) (by rw [← HKm.out]; exact unK_rise _ _ HR.out) h4)
        have HU1 : RowKit.Hid (unK K (undone L k) = insKS X.key Km) := by show _ = _; rw [HUS.out, unK_snoc, HKm.out, hh]; rfl
        have HU2 : RowKit.Hid (unT T (undone L k) = updT Tm X.key X.was) := by show _ = _; rw [HUS.out, unT_snoc, HTm.out, hh]; rfl
        clear cx hh
        go_upto_region 5 with fail
        go_region_law (go_simp; go_at_call 76; refine (HP.out _ (R2.out.below (below_drewN (Below.refl _ wr) _)) (E2.out.below (below_drewN (Below.refl _ wr) _)) (fun b hb => Nat.lt_of_lt_of_le (HDL.out b hb) (by show _ ≤ wr.heap.size; omega)) (HTw.out.below (below_drewN (Below.refl _ wr) _))).mono ?_; rintro e w3 ⟨P3, p3, es3, rfl, hr3, he3, hb3⟩; have g0 : w3.frozen? ⟨w.heap.size, 0, none⟩ = false := fz_block ((hb3.block _ (lt_of_block HBX.out)).trans HBX.out); have g1 : w3.cell? ⟨w.heap.size, 0, none⟩ = some (.slice P Km.length p) := below_cell hb3 s0)
        all_goals
          have HU := URel.step (E := E) HBX.out C2.out (by omega) HDL.out (below_drewN (Below.refl _ wr) 1 |>.trans hb3) hr3 he3 (w4 := w3.setCell ⟨w.heap.size, 0, none⟩ (.slice P3 (insKS X.key Km).length p3)) rfl rfl rfl rfl
          have HUU := Lib.hid HU
          clear hr3 he3 hb3 s0 s1 HU a0 a15 a1 a2 a3 a4 a5 a6 a7 a8 a9 a10 a11 a12 a13 a14
          go_wp2
          go_roundw
          case rel => exact ⟨k, by omega, by first | rfl | go_num, by rw [HU1.out, HU2.out]; exact HUU.out⟩
          case measure => simp [left3, RowKit.intOf]
end Go.Proofs.Ytochdmbjlemfoaa
