/-
  The reference of layer 19 (anamnesisref19): contracts of Set, Drop. Of any store that can be read.
-/
import Derived.Test.YtochdmbjlemfoaaC16
namespace Go.Proofs.Ytochdmbjlemfoaa
open Go Go.RowKit Go.Maps

theorem al3 (w : World) (o1 o2 o3 : Obj) : (((w.alloc o1).alloc o2).alloc o3).heap[w.heap.size]? = some o1 ∧ (((w.alloc o1).alloc o2).alloc o3).heap[w.heap.size + 1]? = some o2 ∧ (((w.alloc o1).alloc o2).alloc o3).heap[w.heap.size + 1 + 1]? = some o3 := by
  have z1 : (w.alloc o1).heap.size = w.heap.size + 1 := by simp
  have z2 : ((w.alloc o1).alloc o2).heap.size = w.heap.size + 1 + 1 := by simp
  refine ⟨?_, ?_, ?_⟩
  · rw [Below.heap_alloc _ _ _ (by omega), Below.heap_alloc _ _ _ (by omega)]; exact heap_alloc_new _ _
  · rw [Below.heap_alloc _ _ _ (by omega)]; have h := heap_alloc_new (w.alloc o1) o2; rw [z1] at h; exact h
  · have h := heap_alloc_new ((w.alloc o1).alloc o2) o3; rw [z2] at h; exact h
theorem al3_below (w : World) (o1 o2 o3 : Obj) : Below w.heap.size w (((w.alloc o1).alloc o2).alloc o3) := (((Below.refl _ w).alloc (Nat.le_refl _) _).alloc (by simp) _).alloc (by simp; omega) _
theorem fz_block {w : World} {b i : Nat} {cs : Array Value} {t : TypeId} (h : w.heap[b]? = some (.cells cs t (0, 0))) : w.frozen? ⟨b, i, none⟩ = false := by unfold World.frozen?; rw [h]; rfl
theorem block_chg {w w' : World} {S : Nat → Prop} {b : Nat} {o : Obj} (hc : Chg S w w') (h : w.heap[b]? = some o) (hn : ¬ S b) : w'.heap[b]? = some o := (hc.block b (lt_of_block h) hn).trans h

theorem rset_fin {w wa w1 w3 w4 : World} {E D : Nat → Prop} {A A3 : Option Addr} {c c3 : Nat} {es es3 : List (List Value)} {B : Option Addr} {d : Nat} {gs : List (List Value)} {K K3 : List ByteArray} {T T3 : ByteArray → TD} {G : List ED} {N : Nat → Prop} (helt : ∀ b, E b → b < w.heap.size) (hbw : Below w.heap.size w wa)
    (h1 : RV w1 (fun b => E b ∨ wa.heap.size ≤ b ∧ b < w1.heap.size) D A c es B d gs K T G) (hb1 : Below wa.heap.size wa w1) (hDl : ∀ b, D b → b < w.heap.size)
    (hN : ∀ b, N b → w.heap.size ≤ b ∧ b < wa.heap.size) (h13 : Chg N w1 w3) (hr3 : Rd w3 (fun b => w1.heap.size ≤ b) 15 A3 K3.length c3 es3) (he3 : CellsAre w3 D es3 (cellsOf K3 T3)) (hrise : RisS K3) (h34 : Chg N w3 w4) :
    RPost w E D K3 T3 G (.returned (.agg #[.slice A3 K3.length c3, .slice B G.length d])) w4 := by
  have h14 := h13.trans h34
  have hw1 : Below w.heap.size w w1 := hbw.trans (hb1.mono hbw.size)
  have hw4 : Below w.heap.size w w4 := hw1.trans (h14.below hw1.size (fun b hb => (hN b hb).1))
  have hNE : ∀ b, (E b ∨ wa.heap.size ≤ b ∧ b < w1.heap.size) → ¬ N b := fun b hb hn => by
    have := hN b hn
    rcases hb with hb | hb
    · have := helt b hb; omega
    · omega
  have hND : ∀ b, D b → ¬ N b := fun b hb hn => by have := hN b hn; have := hDl b hb; omega
  have hlt4 := h14.size
  refine ⟨A3, c3, es3, B, d, gs, rfl, ?_, hw4⟩
  exact {
    cells := (hr3.chg h34 (fun b hb hn => by have := hN b hn; have := hb1.size; omega)).mono (fun b hlt hb => .inr ⟨Nat.le_trans hw1.size hb, hlt⟩) (by decide)
    are := he3.chg h34 hND
    grp := (h1.grp.chg h14 hNE).mono (fun b hlt hb => hb.elim .inl (fun hb' => .inr ⟨Nat.le_trans hbw.size hb'.1, hlt⟩)) (by decide)
    ents := h1.ents.chg h14 hND
    elt := fun b hb => hb.elim (fun hb => Nat.lt_of_lt_of_le (helt b hb) hw4.size) (fun hb => hb.2)
    dlt := fun b hb => Nat.lt_of_lt_of_le (hDl b hb) hw4.size
    rise := hrise
    bnil := h1.bnil }

set_option maxRecDepth 100000 in
set_option maxHeartbeats 3200000 in
theorem rSet_any (E D : Nat → Prop) (A : Option Addr) (c : Nat) (es : List (List Value)) (B : Option Addr) (d : Nat) (gs : List (List Value)) (K : List ByteArray) (T : ByteArray → TD) (G : List ED) (k : ByteArray) (ts : List Value) (t : TD) (w : World) (h : RV w E D A c es B d gs K T G) (ht : TIs w D ts t) (hG : G.length ≤ 1000000) (hK : K.length ≤ 1000000) :
    Calls Try.prog 48 #[.agg #[.slice A K.length c, .slice B G.length d], .string k, .agg ts.toArray] w fun e w' => RPost w E D (insKS k K) (updT T k t) (touchG K T G k) e w' := by
  obtain ⟨A1, n1, c1, A2, n2, c2, A3, n3, c3, A4, n4, c4, A5, n5, c5, rfl⟩ := ht.full
  have H := Lib.hid h
  have HT := Lib.hid ht
  obtain ⟨m, hm⟩ : ∃ m, m = K.length := ⟨_, rfl⟩
  obtain ⟨g, hg⟩ : ∃ g, g = G.length := ⟨_, rfl⟩
  have hct := fun wx hv => rtouch_any E D A c es B d gs K T G k wx hv hG
  rw [← hm, ← hg] at hct
  have HCT := Lib.hid hct
  rw [← hm, ← hg]
  clear h ht hct hm hg
  go_enter Try.func48, Try.ntmps48
  go_wp2_with fail
  obtain ⟨wa, hwa⟩ : ∃ wa, wa = ((w.alloc (.cells #[.slice A m c, .slice B g d] 88)).alloc (.cells (tL t A1 n1 c1 A2 n2 c2 A3 n3 c3 A4 n4 c4 A5 n5 c5).toArray 45)).alloc (.cells #[.slice none 0 0, .slice none 0 0] 88) := ⟨_, rfl⟩
  have hx := al3 w (.cells #[.slice A m c, .slice B g d] 88) (.cells (tL t A1 n1 c1 A2 n2 c2 A3 n3 c3 A4 n4 c4 A5 n5 c5).toArray 45) (.cells #[.slice none 0 0, .slice none 0 0] 88)
  have hba := al3_below w (.cells #[.slice A m c, .slice B g d] 88) (.cells (tL t A1 n1 c1 A2 n2 c2 A3 n3 c3 A4 n4 c4 A5 n5 c5).toArray 45) (.cells #[.slice none 0 0, .slice none 0 0] 88)
  rw [← hwa] at hx hba
  have e := hwa.symm
  unfold tL at e
  rw [e]
  have HX := Lib.hid hx
  have BA := Lib.hid hba
  clear e hwa hx hba
  refine (HCT.out wa (H.out.below BA.out)).mono ?_
  rintro e w1 ⟨P1, p1, es1, Q1, q1, gs1, rfl, hv1, hb1⟩
  obtain ⟨x0, x1, x2⟩ := HX.out
  have y0 := (hb1.block _ (lt_of_block x0)).trans x0
  have y1 := (hb1.block _ (lt_of_block x1)).trans x1
  have y2 := (hb1.block _ (lt_of_block x2)).trans x2
  have LT2 := Lib.hid (lt_of_block x2)
  have V1 := Lib.hid hv1
  have B1 := Lib.hid hb1
  have Y0 := Lib.hid y0
  have Y1 := Lib.hid y1
  have Y2 := Lib.hid y2
  have f0 : w1.frozen? ⟨w.heap.size, 0, none⟩ = false := fz_block y0
  have f1 : w1.frozen? ⟨w.heap.size, 1, none⟩ = false := fz_block y0
  have s0 : w1.cell? ⟨w.heap.size, 0, none⟩ = some (.slice A m c) := by rw [cell_of_row w1 _ 0 _ _ _ y0]; rfl
  have s1 : w1.cell? ⟨w.heap.size, 1, none⟩ = some (.slice B g d) := by rw [cell_of_row w1 _ 1 _ _ _ y0]; rfl
  have tt : ∀ i u, [.int .u8 t.kind, .bool t.v.char, .slice A1 n1 c1, .slice A2 n2 c2, .string t.f.name, .string t.f.result, .string t.f.left, .string t.f.right, .slice A3 n3 c3, .slice A4 n4 c4, .int .i64 t.f.version, .slice A5 n5 c5, .int .i64 t.n, .string t.s][i]? = some u → w1.cell? ⟨w.heap.size + 1, i, none⟩ = some u := fun i u hu => by rw [cell_of_row w1 _ i _ _ _ Y1.out]; unfold tL; simpa using hu
  have TT := Lib.hid tt
  clear x0 x1 x2 y0 y1 y2 hv1 hb1 tt HX HCT
  go_upto_region 2 with fail
  obtain ⟨w2, hw2⟩ : ∃ w2, w2 = (w1.setCell ⟨w.heap.size, 0, none⟩ (.slice P1 K.length p1)).setCell ⟨w.heap.size, 1, none⟩ (.slice Q1 (touchG K T G k).length q1) := ⟨_, rfl⟩
  have h12 : Chg (fun b => b = w.heap.size) w1 w2 := by
    rw [hw2]
    exact Chg.setCell (S := fun b => b = w.heap.size) (p := ⟨w.heap.size, 1, none⟩) (Chg.setCell (S := fun b => b = w.heap.size) (p := ⟨w.heap.size, 0, none⟩) (Chg.refl _ w1) (.inl rfl) _) (.inl rfl) _
  have x0 : w2.heap[w.heap.size]? = some (.cells #[.slice P1 K.length p1, .slice Q1 (touchG K T G k).length q1] 88 (0, 0)) := by
    rw [hw2]
    exact heap_setCell_same _ w.heap.size 1 _ _ _ (heap_setCell_same _ w.heap.size 0 _ _ (.slice P1 K.length p1) Y0.out)
  have t2 := block_chg h12 Y1.out (by omega)
  have x2 := block_chg h12 Y2.out (by omega)
  rw [← hw2]
  clear hw2 f0 f1 s0 s1
  have H12 := Lib.hid h12
  have s0 : w2.cell? ⟨w.heap.size, 0, none⟩ = some (.slice P1 K.length p1) := by rw [cell_of_row w2 _ 0 _ _ _ x0]; rfl
  have b0 : w2.cell? ⟨w.heap.size + 1, 0, none⟩ = some (.int .u8 t.kind) := by rw [cell_of_row w2 _ 0 _ _ _ t2]; rfl
  have b1 : w2.cell? ⟨w.heap.size + 1, 1, none⟩ = some (.bool t.v.char) := by rw [cell_of_row w2 _ 1 _ _ _ t2]; rfl
  have b2 : w2.cell? ⟨w.heap.size + 1, 2, none⟩ = some (.slice A1 n1 c1) := by rw [cell_of_row w2 _ 2 _ _ _ t2]; rfl
  have b3 : w2.cell? ⟨w.heap.size + 1, 3, none⟩ = some (.slice A2 n2 c2) := by rw [cell_of_row w2 _ 3 _ _ _ t2]; rfl
  have b4 : w2.cell? ⟨w.heap.size + 1, 4, none⟩ = some (.string t.f.name) := by rw [cell_of_row w2 _ 4 _ _ _ t2]; rfl
  have b5 : w2.cell? ⟨w.heap.size + 1, 5, none⟩ = some (.string t.f.result) := by rw [cell_of_row w2 _ 5 _ _ _ t2]; rfl
  have b6 : w2.cell? ⟨w.heap.size + 1, 6, none⟩ = some (.string t.f.left) := by rw [cell_of_row w2 _ 6 _ _ _ t2]; rfl
  have b7 : w2.cell? ⟨w.heap.size + 1, 7, none⟩ = some (.string t.f.right) := by rw [cell_of_row w2 _ 7 _ _ _ t2]; rfl
  have b8 : w2.cell? ⟨w.heap.size + 1, 8, none⟩ = some (.slice A3 n3 c3) := by rw [cell_of_row w2 _ 8 _ _ _ t2]; rfl
  have b9 : w2.cell? ⟨w.heap.size + 1, 9, none⟩ = some (.slice A4 n4 c4) := by rw [cell_of_row w2 _ 9 _ _ _ t2]; rfl
  have b10 : w2.cell? ⟨w.heap.size + 1, 10, none⟩ = some (.int .i64 t.f.version) := by rw [cell_of_row w2 _ 10 _ _ _ t2]; rfl
  have b11 : w2.cell? ⟨w.heap.size + 1, 11, none⟩ = some (.slice A5 n5 c5) := by rw [cell_of_row w2 _ 11 _ _ _ t2]; rfl
  have b12 : w2.cell? ⟨w.heap.size + 1, 12, none⟩ = some (.int .i64 t.n) := by rw [cell_of_row w2 _ 12 _ _ _ t2]; rfl
  have b13 : w2.cell? ⟨w.heap.size + 1, 13, none⟩ = some (.string t.s) := by rw [cell_of_row w2 _ 13 _ _ _ t2]; rfl
  have X0 := Lib.hid x0
  have X2 := Lib.hid x2
  have hsz2 := h12.size
  have hbz1 := B1.out.size
  have HTw := Lib.hid ((((HT.out.below BA.out).below B1.out)).chg h12 (fun b hb e => by have := H.out.dlt b hb; omega))
  have HP := Lib.hid (rput_any P1 K.length p1 es1 K T k _ t D (fun b => E b ∨ wa.heap.size ≤ b ∧ b < w1.heap.size) w2 (V1.out.cells.chg h12 (fun b hb e => by
      rcases hb with hb | hb
      · have := H.out.elt b hb; omega
      · have := LT2.out; omega)) (V1.out.are.chg h12 (fun b hb e => by have := H.out.dlt b hb; omega)) (fun b hb => by have := V1.out.dlt b hb; omega) hK H.out.rise HTw.out)
  clear x0 t2 x2 h12 TT
  go_wp2_with fail
  refine HP.out.mono ?_
  rintro e w3 ⟨P3, p3, es3, rfl, hr3, he3, hb3⟩
  have z0 := (hb3.block _ (lt_of_block X0.out)).trans X0.out
  have z2 := (hb3.block _ (lt_of_block X2.out)).trans X2.out
  have R3 := Lib.hid hr3
  have E3 := Lib.hid he3
  have B3 := Lib.hid hb3
  have f0 : w3.frozen? ⟨w.heap.size, 0, none⟩ = false := fz_block z0
  have g0 : w3.frozen? ⟨w.heap.size + 1 + 1, 0, none⟩ = false := fz_block z2
  have g1 : w3.frozen? ⟨w.heap.size + 1 + 1, 1, none⟩ = false := fz_block z2
  have u0 : w3.cell? ⟨w.heap.size, 0, none⟩ = some (.slice P1 K.length p1) := by rw [cell_of_row w3 _ 0 _ _ _ z0]; rfl
  have u1 : w3.cell? ⟨w.heap.size, 1, none⟩ = some (.slice Q1 (touchG K T G k).length q1) := by rw [cell_of_row w3 _ 1 _ _ _ z0]; rfl
  have v0 : w3.cell? ⟨w.heap.size + 1 + 1, 0, none⟩ = some (.slice none 0 0) := by rw [cell_of_row w3 _ 0 _ _ _ z2]; rfl
  have v1 : w3.cell? ⟨w.heap.size + 1 + 1, 1, none⟩ = some (.slice none 0 0) := by rw [cell_of_row w3 _ 1 _ _ _ z2]; rfl
  clear hr3 he3 hb3 z0 z2 b0 b1 b2 b3 b4 b5 b6 b7 b8 b9 b10 b11 b12 b13 s0 HP
  go_wp2
  obtain ⟨w4, hw4⟩ : ∃ w4, w4 = ((w3.setCell ⟨w.heap.size, 0, none⟩ (.slice P3 (insKS k K).length p3)).setCell ⟨w.heap.size + 1 + 1, 0, none⟩ (.slice P3 (insKS k K).length p3)).setCell ⟨w.heap.size + 1 + 1, 1, none⟩ (.slice Q1 (touchG K T G k).length q1) := ⟨_, rfl⟩
  have h34 : Chg (fun b => b = w.heap.size ∨ b = w.heap.size + 1 + 1) w3 w4 := by
    rw [hw4]
    exact Chg.setCell (Chg.setCell (Chg.setCell (Chg.refl _ w3) (.inl (.inl rfl)) _) (.inl (.inr rfl)) _) (.inl (.inr rfl)) _
  have r1 : w4.cell? ⟨w.heap.size + 1 + 1, 1, none⟩ = some (.slice Q1 (touchG K T G k).length q1) := by
    rw [hw4]
    exact World.cell?_setCell_same' _ _ _ (by rw [World.cell?_setCell_other _ _ _ _ (by simp), World.cell?_setCell_other _ _ _ _ (by simp), v1]; rfl)
  have r0 : w4.cell? ⟨w.heap.size + 1 + 1, 0, none⟩ = some (.slice P3 (insKS k K).length p3) := by
    rw [hw4]
    exact (World.cell?_setCell_other _ _ _ _ (by simp)).trans (World.cell?_setCell_same' _ _ _ (by rw [World.cell?_setCell_other _ _ _ _ (by simp), v0]; rfl))
  rw [← hw4]
  refine bodyPost_ret (v := .agg #[.slice P3 (insKS k K).length p3, .slice Q1 (touchG K T G k).length q1]) (by simp [results, Try.results48, go_sem, r0, r1]) rfl ?_
  have hl2 := LT2.out
  have h13 : Chg (fun b => b = w.heap.size ∨ b = w.heap.size + 1 + 1) w1 w3 := (H12.out.mono (fun b _ hb => .inl hb)).trans (Chg.of_below B3.out)
  exact rset_fin H.out.elt BA.out V1.out B1.out H.out.dlt (fun b hb => by omega) h13 (R3.out.mono (fun b _ hb => Nat.le_trans H12.out.size hb) (by decide)) E3.out (risS_insKS k K H.out.rise) h34
set_option maxRecDepth 100000 in
set_option maxHeartbeats 3200000 in
theorem rDrop_any (E D : Nat → Prop) (A : Option Addr) (c : Nat) (es : List (List Value)) (B : Option Addr) (d : Nat) (gs : List (List Value)) (K : List ByteArray) (T : ByteArray → TD) (G : List ED) (k : ByteArray) (w : World) (h : RV w E D A c es B d gs K T G) (hG : G.length ≤ 1000000) (hK : K.length ≤ 1000000) :
    Calls Try.prog 50 #[.agg #[.slice A K.length c, .slice B G.length d], .string k] w fun e w' => RPost w E D (K.filter (· ≠ k)) T (dropG K T G k) e w' := by
  have H := Lib.hid h
  obtain ⟨m, hm⟩ : ∃ m, m = K.length := ⟨_, rfl⟩
  obtain ⟨g, hg⟩ : ∃ g, g = G.length := ⟨_, rfl⟩
  have hct := fun wx hv => rtouch_any E D A c es B d gs K T G k wx hv hG
  have hgt := fun wx hv hl he => rGet_any E D A c es B g d K T k wx hv hl he
  rw [← hm, ← hg] at hct
  rw [← hm] at hgt
  have HCT := Lib.hid hct
  have HGT := Lib.hid hgt
  have HM := Lib.hid hm
  have HG := Lib.hid hg
  rw [← hm, ← hg]
  clear h hct hgt hm hg
  go_enter Try.func50, Try.ntmps50
  go_wp2_with fail
  obtain ⟨wa, hwa⟩ : ∃ wa, wa = (w.alloc (.cells #[.slice A m c, .slice B g d] 88)).alloc (.cells #[.slice none 0 0, .slice none 0 0] 88) := ⟨_, rfl⟩
  have hx := al2 w (.cells #[.slice A m c, .slice B g d] 88) (.cells #[.slice none 0 0, .slice none 0 0] 88)
  have hba := two_below w (.cells #[.slice A m c, .slice B g d] 88) (.cells #[.slice none 0 0, .slice none 0 0] 88)
  rw [← hwa] at hx hba
  rw [← hwa]
  have HX := Lib.hid hx
  have BA := Lib.hid hba
  clear hwa hx hba
  have hRA := H.out.cells.below BA.out
  rw [← HM.out] at hRA
  refine (HGT.out wa hRA (H.out.are.below BA.out) (fun b hb => Nat.lt_of_lt_of_le (H.out.elt b hb) BA.out.size)).mono ?_
  rintro e w0 ⟨ts, rfl, ht, hb0⟩
  obtain ⟨A1, n1, c1, A2, n2, c2, A3, n3, c3, A4, n4, c4, A5, n5, c5, rfl⟩ := ht.full
  generalize getT K T k = t at *
  have hgb := hb0.trans (((Below.refl _ w0).alloc (Nat.le_refl _) (.cells (tL t A1 n1 c1 A2 n2 c2 A3 n3 c3 A4 n4 c4 A5 n5 c5).toArray 45)).mono hb0.size)
  obtain ⟨wb, hwb⟩ : ∃ wb, wb = w0.alloc (.cells (tL t A1 n1 c1 A2 n2 c2 A3 n3 c3 A4 n4 c4 A5 n5 c5).toArray 45) := ⟨_, rfl⟩
  rw [← hwb] at hgb
  have e := hwb.symm
  unfold tL at e
  have EW := Lib.hid e
  obtain ⟨x0, x1⟩ := HX.out
  have y0 := (hgb.block _ (lt_of_block x0)).trans x0
  have y1 := (hgb.block _ (lt_of_block x1)).trans x1
  have LT1 := Lib.hid (Nat.lt_of_lt_of_le (lt_of_block x1) hgb.size)
  have BB := Lib.hid (BA.out.trans (hgb.mono BA.out.size))
  have Y0 := Lib.hid y0
  have Y1 := Lib.hid y1
  clear ht hb0 hgb hwb e x0 x1 hRA
  by_cases hin : k ∈ K
  · rw [decide_eq_true hin]
    have HD : RowKit.Hid (dropG K T G k = touchG K T G k) := by show _ = _; unfold dropG; rw [if_pos hin]
    clear hin
    go_upto_region 4 with fail
    rw [EW.out]
    have s0 : wb.cell? ⟨w.heap.size, 0, none⟩ = some (.slice A m c) := by rw [cell_of_row wb _ 0 _ _ _ y0]; rfl
    have s1 : wb.cell? ⟨w.heap.size, 1, none⟩ = some (.slice B g d) := by rw [cell_of_row wb _ 1 _ _ _ y0]; rfl
    clear y0 y1 HX EW
    go_wp2_with fail
    refine (HCT.out wb (H.out.below BB.out)).mono ?_
    rintro e w1 ⟨P1, p1, es1, Q1, q1, gs1, rfl, hv1, hb1⟩
    have y0 := (hb1.block _ (lt_of_block Y0.out)).trans Y0.out
    have y1 := (hb1.block _ (lt_of_block Y1.out)).trans Y1.out
    have V1 := Lib.hid hv1
    have B1 := Lib.hid hb1
    have Z0 := Lib.hid y0
    have Z1 := Lib.hid y1
    have f0 : w1.frozen? ⟨w.heap.size, 0, none⟩ = false := fz_block y0
    have f1 : w1.frozen? ⟨w.heap.size, 1, none⟩ = false := fz_block y0
    have k0 : w1.cell? ⟨w.heap.size, 0, none⟩ = some (.slice A m c) := by rw [cell_of_row w1 _ 0 _ _ _ y0]; rfl
    have k1 : w1.cell? ⟨w.heap.size, 1, none⟩ = some (.slice B g d) := by rw [cell_of_row w1 _ 1 _ _ _ y0]; rfl
    clear y0 y1 hv1 hb1 s0 s1
    go_upto_region 5 with fail
    obtain ⟨w2, hw2⟩ : ∃ w2, w2 = (w1.setCell ⟨w.heap.size, 0, none⟩ (.slice P1 K.length p1)).setCell ⟨w.heap.size, 1, none⟩ (.slice Q1 (touchG K T G k).length q1) := ⟨_, rfl⟩
    have h12 : Chg (fun b => b = w.heap.size) w1 w2 := by
      rw [hw2]
      exact Chg.setCell (S := fun b => b = w.heap.size) (p := ⟨w.heap.size, 1, none⟩) (Chg.setCell (S := fun b => b = w.heap.size) (p := ⟨w.heap.size, 0, none⟩) (Chg.refl _ w1) (.inl rfl) _) (.inl rfl) _
    have x0 : w2.heap[w.heap.size]? = some (.cells #[.slice P1 K.length p1, .slice Q1 (touchG K T G k).length q1] 88 (0, 0)) := by
      rw [hw2]
      exact heap_setCell_same _ w.heap.size 1 _ _ _ (heap_setCell_same _ w.heap.size 0 _ _ (.slice P1 K.length p1) Z0.out)
    have x2 := block_chg h12 Z1.out (by omega)
    rw [← hw2]
    clear hw2 f0 f1 k0 k1
    have H12 := Lib.hid h12
    have s0 : w2.cell? ⟨w.heap.size, 0, none⟩ = some (.slice P1 K.length p1) := by rw [cell_of_row w2 _ 0 _ _ _ x0]; rfl
    have X0 := Lib.hid x0
    have X2 := Lib.hid x2
    have hsz2 := h12.size
    have hbz1 := B1.out.size
    have hbb := BB.out.size
    have HP := Lib.hid (rwithout_any P1 K.length p1 es1 (cellsOf K T) k D (fun b => E b ∨ wb.heap.size ≤ b ∧ b < w1.heap.size) w2 (V1.out.cells.chg h12 (fun b hb e => by
        rcases hb with hb | hb
        · have := H.out.elt b hb; omega
        · have := LT1.out; omega)) (V1.out.are.chg h12 (fun b hb e => by have := H.out.dlt b hb; omega)) (fun b hb => by have := V1.out.dlt b hb; omega) hK)
    have hcf : (cellsOf K T).filter (fun x => x.key ≠ k) = cellsOf (K.filter (· ≠ k)) T := by unfold cellsOf; rw [List.filter_map]; rfl
    rw [hcf, cellsOf_len] at HP
    clear x0 x2 h12 hcf
    go_wp2_with fail
    refine HP.out.mono ?_
    rintro e w3 ⟨P3, p3, es3, rfl, hr3, he3, hb3⟩
    have z0 := (hb3.block _ (lt_of_block X0.out)).trans X0.out
    have z2 := (hb3.block _ (lt_of_block X2.out)).trans X2.out
    have R3 := Lib.hid hr3
    have E3 := Lib.hid he3
    have B3 := Lib.hid hb3
    have f0 : w3.frozen? ⟨w.heap.size, 0, none⟩ = false := fz_block z0
    have g0 : w3.frozen? ⟨w.heap.size + 1, 0, none⟩ = false := fz_block z2
    have g1 : w3.frozen? ⟨w.heap.size + 1, 1, none⟩ = false := fz_block z2
    have u0 : w3.cell? ⟨w.heap.size, 0, none⟩ = some (.slice P1 K.length p1) := by rw [cell_of_row w3 _ 0 _ _ _ z0]; rfl
    have u1 : w3.cell? ⟨w.heap.size, 1, none⟩ = some (.slice Q1 (touchG K T G k).length q1) := by rw [cell_of_row w3 _ 1 _ _ _ z0]; rfl
    have v0 : w3.cell? ⟨w.heap.size + 1, 0, none⟩ = some (.slice none 0 0) := by rw [cell_of_row w3 _ 0 _ _ _ z2]; rfl
    have v1 : w3.cell? ⟨w.heap.size + 1, 1, none⟩ = some (.slice none 0 0) := by rw [cell_of_row w3 _ 1 _ _ _ z2]; rfl
    generalize hKf : K.filter (· ≠ k) = Kf at *
    have HKF := Lib.hid hKf
    clear hr3 he3 hb3 z0 z2 s0 HP hKf
    go_wp2
    obtain ⟨w4, hw4⟩ : ∃ w4, w4 = ((w3.setCell ⟨w.heap.size, 0, none⟩ (.slice P3 Kf.length p3)).setCell ⟨w.heap.size + 1, 0, none⟩ (.slice P3 Kf.length p3)).setCell ⟨w.heap.size + 1, 1, none⟩ (.slice Q1 (touchG K T G k).length q1) := ⟨_, rfl⟩
    have h34 : Chg (fun b => b = w.heap.size ∨ b = w.heap.size + 1) w3 w4 := by
      rw [hw4]
      exact Chg.setCell (Chg.setCell (Chg.setCell (Chg.refl _ w3) (.inl (.inl rfl)) _) (.inl (.inr rfl)) _) (.inl (.inr rfl)) _
    have r1 : w4.cell? ⟨w.heap.size + 1, 1, none⟩ = some (.slice Q1 (touchG K T G k).length q1) := by
      rw [hw4]
      exact World.cell?_setCell_same' _ _ _ (by rw [World.cell?_setCell_other _ _ _ _ (by simp), World.cell?_setCell_other _ _ _ _ (by simp), v1]; rfl)
    have r0 : w4.cell? ⟨w.heap.size + 1, 0, none⟩ = some (.slice P3 Kf.length p3) := by
      rw [hw4]
      exact (World.cell?_setCell_other _ _ _ _ (by simp)).trans (World.cell?_setCell_same' _ _ _ (by rw [World.cell?_setCell_other _ _ _ _ (by simp), v0]; rfl))
    rw [← hw4]
    refine bodyPost_ret (v := .agg #[.slice P3 Kf.length p3, .slice Q1 (touchG K T G k).length q1]) (by simp [results, Try.results50, go_sem, r0, r1]) rfl ?_
    rw [HD.out, HKF.out]
    have hl2 := LT1.out
    have h13 : Chg (fun b => b = w.heap.size ∨ b = w.heap.size + 1) w1 w3 := (H12.out.mono (fun b _ hb => .inl hb)).trans (Chg.of_below B3.out)
    exact rset_fin H.out.elt BB.out V1.out B1.out H.out.dlt (fun b hb => by omega) h13 (R3.out.mono (fun b _ hb => Nat.le_trans H12.out.size hb) (by decide)) E3.out (by rw [← HKF.out]; exact risS_filter _ _ H.out.rise) h34
  · rw [decide_eq_false hin]
    have HD : RowKit.Hid (dropG K T G k = G) := by show _ = _; unfold dropG; rw [if_neg hin]
    have HIN := Lib.hid (filter_out hin)
    clear hin HCT
    go_upto_region 3 with fail
    rw [EW.out]
    have s0 : wb.cell? ⟨w.heap.size, 0, none⟩ = some (.slice A m c) := by rw [cell_of_row wb _ 0 _ _ _ y0]; rfl
    have s1 : wb.cell? ⟨w.heap.size, 1, none⟩ = some (.slice B g d) := by rw [cell_of_row wb _ 1 _ _ _ y0]; rfl
    have v0 : wb.cell? ⟨w.heap.size + 1, 0, none⟩ = some (.slice none 0 0) := by rw [cell_of_row wb _ 0 _ _ _ y1]; rfl
    have v1 : wb.cell? ⟨w.heap.size + 1, 1, none⟩ = some (.slice none 0 0) := by rw [cell_of_row wb _ 1 _ _ _ y1]; rfl
    have g0 : wb.frozen? ⟨w.heap.size + 1, 0, none⟩ = false := fz_block y1
    have g1 : wb.frozen? ⟨w.heap.size + 1, 1, none⟩ = false := fz_block y1
    clear y0 y1 HX EW
    go_wp2
    obtain ⟨w4, hw4⟩ : ∃ w4, w4 = (wb.setCell ⟨w.heap.size + 1, 0, none⟩ (.slice A m c)).setCell ⟨w.heap.size + 1, 1, none⟩ (.slice B g d) := ⟨_, rfl⟩
    have h34 : Chg (fun b => b = w.heap.size + 1) wb w4 := by
      rw [hw4]
      exact Chg.setCell (S := fun b => b = w.heap.size + 1) (p := ⟨w.heap.size + 1, 1, none⟩) (Chg.setCell (S := fun b => b = w.heap.size + 1) (p := ⟨w.heap.size + 1, 0, none⟩) (Chg.refl _ wb) (.inl rfl) _) (.inl rfl) _
    have r1 : w4.cell? ⟨w.heap.size + 1, 1, none⟩ = some (.slice B g d) := by
      rw [hw4]
      exact World.cell?_setCell_same' _ _ _ (by rw [World.cell?_setCell_other _ _ _ _ (by simp), v1]; rfl)
    have r0 : w4.cell? ⟨w.heap.size + 1, 0, none⟩ = some (.slice A m c) := by
      rw [hw4]
      exact (World.cell?_setCell_other _ _ _ _ (by simp)).trans (World.cell?_setCell_same' _ _ _ (by rw [v0]; rfl))
    rw [← hw4]
    refine bodyPost_ret (v := .agg #[.slice A m c, .slice B g d]) (by simp [results, Try.results50, go_sem, r0, r1]) rfl ?_
    have hw4b : Below w.heap.size w w4 := BB.out.trans (h34.below BB.out.size (fun b hb => by omega))
    rw [HD.out, HIN.out, HM.out, HG.out]
    exact ⟨A, c, es, B, d, gs, rfl, (H.out.below hw4b).wider (fun b _ hE => .inl hE) (fun b hb' => hb'.elim (fun h' => Nat.lt_of_lt_of_le (H.out.elt b h') hw4b.size) (fun h' => h'.2)), hw4b⟩
end Go.Proofs.Ytochdmbjlemfoaa
