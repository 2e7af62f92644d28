/-
  The law CellsPlay (package anamnesislaw19): the walk. Of any list of acts that can be read, any prefix.
-/
import Derived.Test.YtochdmbjlemfoaaC22
import Derived.Deep.CutBlock
namespace Go.Proofs.Ytochdmbjlemfoaa
open Go Go.RowKit Go.Maps

def playAll (l : List A19) : S19 := l.foldl (fun s a => act19 a s) ⟨[], awT0, []⟩
theorem playAll_snoc (l : List A19) (a : A19) : playAll (l ++ [a]) = act19 a (playAll l) := by simp [playAll]
theorem playAll_take {l : List A19} {j : Nat} {a : A19} (h : l[j]? = some a) : playAll (l.take (j + 1)) = act19 a (playAll (l.take j)) := by rw [List.take_add_one, h]; exact playAll_snoc _ _
theorem playAll_ok (l : List A19) (h : ∀ a ∈ l, a.ok) : (playAll l).ok l.length := by
  suffices hs : ∀ (l : List A19) (s : S19) (m : Nat), s.ok m → (∀ a ∈ l, a.ok) → (l.foldl (fun s a => act19 a s) s).ok (m + l.length) by
    have := hs l ⟨[], awT0, []⟩ 0 ⟨by simp, by simp⟩ h
    simpa [playAll] using this
  intro l
  induction l with
  | nil => intro s m hs _; exact hs
  | cons a l ih =>
    intro s m hs h
    have := ih (act19 a s) (m + 1) (act19_ok hs (h a List.mem_cons_self).2.1) (fun x hx => h x (List.mem_cons_of_mem _ hx))
    rw [List.length_cons, show m + (l.length + 1) = m + 1 + l.length by omega]
    exact this

/-- A thing's box, at zero. -/
theorem zbox {w7 : World} {y : Nat} (h : w7.heap[y]? = some (.cells (numE 0 0).toArray 45 (0, 0))) : w7.cell? ⟨y, 0, none⟩ = some (.int .u8 0) ∧ w7.cell? ⟨y, 1, none⟩ = some (.bool false) ∧ w7.cell? ⟨y, 2, none⟩ = some (.slice none 0 0) ∧ w7.cell? ⟨y, 3, none⟩ = some (.slice none 0 0) ∧ w7.cell? ⟨y, 4, none⟩ = some (.string ⟨#[]⟩) ∧ w7.cell? ⟨y, 5, none⟩ = some (.string ⟨#[]⟩) ∧ w7.cell? ⟨y, 6, none⟩ = some (.string ⟨#[]⟩) ∧ w7.cell? ⟨y, 7, none⟩ = some (.string ⟨#[]⟩) ∧ w7.cell? ⟨y, 8, none⟩ = some (.slice none 0 0) ∧ w7.cell? ⟨y, 9, none⟩ = some (.slice none 0 0) ∧ w7.cell? ⟨y, 10, none⟩ = some (.int .i64 0) ∧ w7.cell? ⟨y, 11, none⟩ = some (.slice none 0 0) ∧ w7.cell? ⟨y, 12, none⟩ = some (.int .i64 0) ∧ w7.cell? ⟨y, 13, none⟩ = some (.string ⟨#[]⟩) ∧ w7.frozen? ⟨y, 0, none⟩ = false ∧ w7.frozen? ⟨y, 1, none⟩ = false ∧ w7.frozen? ⟨y, 2, none⟩ = false ∧ w7.frozen? ⟨y, 3, none⟩ = false ∧ w7.frozen? ⟨y, 4, none⟩ = false ∧ w7.frozen? ⟨y, 5, none⟩ = false ∧ w7.frozen? ⟨y, 6, none⟩ = false ∧ w7.frozen? ⟨y, 7, none⟩ = false ∧ w7.frozen? ⟨y, 8, none⟩ = false ∧ w7.frozen? ⟨y, 9, none⟩ = false ∧ w7.frozen? ⟨y, 10, none⟩ = false ∧ w7.frozen? ⟨y, 11, none⟩ = false ∧ w7.frozen? ⟨y, 12, none⟩ = false ∧ w7.frozen? ⟨y, 13, none⟩ = false :=
  ⟨(cell_of_row w7 y 0 _ _ _ h).trans rfl, (cell_of_row w7 y 1 _ _ _ h).trans rfl, (cell_of_row w7 y 2 _ _ _ h).trans rfl, (cell_of_row w7 y 3 _ _ _ h).trans rfl, (cell_of_row w7 y 4 _ _ _ h).trans rfl, (cell_of_row w7 y 5 _ _ _ h).trans rfl, (cell_of_row w7 y 6 _ _ _ h).trans rfl, (cell_of_row w7 y 7 _ _ _ h).trans rfl, (cell_of_row w7 y 8 _ _ _ h).trans rfl, (cell_of_row w7 y 9 _ _ _ h).trans rfl, (cell_of_row w7 y 10 _ _ _ h).trans rfl, (cell_of_row w7 y 11 _ _ _ h).trans rfl, (cell_of_row w7 y 12 _ _ _ h).trans rfl, (cell_of_row w7 y 13 _ _ _ h).trans rfl, fz_block h, fz_block h, fz_block h, fz_block h, fz_block h, fz_block h, fz_block h, fz_block h, fz_block h, fz_block h, fz_block h, fz_block h, fz_block h, fz_block h⟩

/-- A thing, stored into its box. -/
theorem set14 {w6 : World} {y : Nat} (a0 a1 a2 a3 a4 a5 a6 a7 a8 a9 a10 a11 a12 a13 : Value) (h : w6.heap[y]? = some (.cells (numE 0 0).toArray 45 (0, 0))) : ((((((((((((((w6.setCell ⟨y, 0, none⟩ a0).setCell ⟨y, 1, none⟩ a1).setCell ⟨y, 2, none⟩ a2).setCell ⟨y, 3, none⟩ a3).setCell ⟨y, 4, none⟩ a4).setCell ⟨y, 5, none⟩ a5).setCell ⟨y, 6, none⟩ a6).setCell ⟨y, 7, none⟩ a7).setCell ⟨y, 8, none⟩ a8).setCell ⟨y, 9, none⟩ a9).setCell ⟨y, 10, none⟩ a10).setCell ⟨y, 11, none⟩ a11).setCell ⟨y, 12, none⟩ a12).setCell ⟨y, 13, none⟩ a13).heap[y]? = some (.cells #[a0, a1, a2, a3, a4, a5, a6, a7, a8, a9, a10, a11, a12, a13] 45 (0, 0)) ∧ Chg (fun b => b = y) w6 ((((((((((((((w6.setCell ⟨y, 0, none⟩ a0).setCell ⟨y, 1, none⟩ a1).setCell ⟨y, 2, none⟩ a2).setCell ⟨y, 3, none⟩ a3).setCell ⟨y, 4, none⟩ a4).setCell ⟨y, 5, none⟩ a5).setCell ⟨y, 6, none⟩ a6).setCell ⟨y, 7, none⟩ a7).setCell ⟨y, 8, none⟩ a8).setCell ⟨y, 9, none⟩ a9).setCell ⟨y, 10, none⟩ a10).setCell ⟨y, 11, none⟩ a11).setCell ⟨y, 12, none⟩ a12).setCell ⟨y, 13, none⟩ a13) := by
  refine ⟨(heap_setCell_same _ y 13 _ _ a13 (heap_setCell_same _ y 12 _ _ a12 (heap_setCell_same _ y 11 _ _ a11 (heap_setCell_same _ y 10 _ _ a10 (heap_setCell_same _ y 9 _ _ a9 (heap_setCell_same _ y 8 _ _ a8 (heap_setCell_same _ y 7 _ _ a7 (heap_setCell_same _ y 6 _ _ a6 (heap_setCell_same _ y 5 _ _ a5 (heap_setCell_same _ y 4 _ _ a4 (heap_setCell_same _ y 3 _ _ a3 (heap_setCell_same _ y 2 _ _ a2 (heap_setCell_same _ y 1 _ _ a1 (heap_setCell_same _ y 0 _ _ a0 h)))))))))))))).trans ?_, (Chg.setCell (S := fun b => b = y) (p := ⟨y, 13, none⟩) (Chg.setCell (S := fun b => b = y) (p := ⟨y, 12, none⟩) (Chg.setCell (S := fun b => b = y) (p := ⟨y, 11, none⟩) (Chg.setCell (S := fun b => b = y) (p := ⟨y, 10, none⟩) (Chg.setCell (S := fun b => b = y) (p := ⟨y, 9, none⟩) (Chg.setCell (S := fun b => b = y) (p := ⟨y, 8, none⟩) (Chg.setCell (S := fun b => b = y) (p := ⟨y, 7, none⟩) (Chg.setCell (S := fun b => b = y) (p := ⟨y, 6, none⟩) (Chg.setCell (S := fun b => b = y) (p := ⟨y, 5, none⟩) (Chg.setCell (S := fun b => b = y) (p := ⟨y, 4, none⟩) (Chg.setCell (S := fun b => b = y) (p := ⟨y, 3, none⟩) (Chg.setCell (S := fun b => b = y) (p := ⟨y, 2, none⟩) (Chg.setCell (S := fun b => b = y) (p := ⟨y, 1, none⟩) (Chg.setCell (S := fun b => b = y) (p := ⟨y, 0, none⟩) (Chg.refl _ w6) (.inl rfl) _) (.inl rfl) _) (.inl rfl) _) (.inl rfl) _) (.inl rfl) _) (.inl rfl) _) (.inl rfl) _) (.inl rfl) _) (.inl rfl) _) (.inl rfl) _) (.inl rfl) _) (.inl rfl) _) (.inl rfl) _) (.inl rfl) _)⟩
  simp [numE]

set_option maxRecDepth 100000 in
set_option maxHeartbeats 8000000 in
theorem cellsPlay_any (A : Option Addr) (n cc : Nat) (l : List A19) (p : ByteArray) (w : World) (hx : Rd w (Old w) 3 A n cc (a19Rows l)) (hl : ∀ x ∈ l, x.ok) :
    Calls Try.prog 12 #[.slice A n cc, .string p] w fun e w' => e = .returned (.bool true) ∧ Below w.heap.size w w' := by
  have hlen : l.length = n := by have := hx.len; simpa [a19Rows] using this
  have hn : n ≤ 9223372036854775807 := by have h1 := hx.le; have h2 := hx.max; unfold maxLen at h2; omega
  have HX := Lib.hid hx
  have H2 := Lib.hid hl
  have H3 := Lib.hid hlen
  clear hx hl hlen
  by_cases hgr : Great n l
  · have HG := Lib.hid (great19_any A n cc l (Old w) w HX.out true (decide_eq_true hgr).symm)
    clear hgr
    go_enter Try.func12, Try.ntmps12
    go_wp2_with fail
    refine HG.out.mono ?_
    rintro e w' ⟨rfl, rfl⟩
    go_wp2_with fail
    refine (awake19_any _).mono ?_
    rintro e w11 ⟨rfl, B11⟩
    go_wp2
    go_ret
    exact ⟨rfl, B11⟩
  have HG := Lib.hid (great19_any A n cc l (Old w) w HX.out false (decide_eq_false hgr).symm)
  have hn60 : n ≤ 60 := by
    refine Nat.le_of_not_lt fun h => hgr (.inl h)
  clear hgr
  go_enter Try.func12, Try.ntmps12
  go_wp2_with fail
  refine HG.out.mono ?_
  rintro e w' ⟨rfl, rfl⟩
  go_wp2_with fail
  refine (cNew_any (fun _ => False) awT0 w (fun _ h => h.elim)).mono ?_
  rintro e w1 ⟨rfl, hs1, hb1⟩
  have P1 := Lib.hid (ps_new w w1 awT0 hs1 hb1)
  have HXG : RowKit.Hid (w.heap.size ≤ w1.heap.size) := hb1.size
  clear hs1 hb1 HG
  go_wp2
  obtain ⟨x, hx⟩ : ∃ x, x = w1.heap.size := ⟨_, rfl⟩
  rw [← hx] at P1 ⊢
  clear hx
  go_loopw [7] (fun i wr => ∃ j : Nat, j ≤ n ∧ i = .int .i64 (j : Int) ∧ RowKit.Hid (PS w wr (w.heap.size + 2) x (playAll (l.take j)) (playAll (l.take j)))) (fun i _ => n - (RowKit.intOf i).toNat)
  case atStart => exact ⟨0, Nat.zero_le _, rfl, P1.out⟩
  case round =>
    clear P1
    obtain ⟨j, hj, rfl, hst⟩ := hrel
    by_cases hlt : j < n
    · have q1 : (j : Int) < (n : Int) := by omega
      obtain ⟨b, off, hA, -, hcell⟩ := a19_at HX.out (by omega)
      obtain ⟨a, hak⟩ : ∃ a, l[j]? = some a := ⟨_, List.getElem?_eq_getElem (by rw [H3.out]; exact hlt)⟩
      have hok := H2.out a (List.mem_of_getElem? hak)
      have hcj := hcell j a hak
      have HC := Lib.hid hcj
      have OK := Lib.hid hok
      have hsok := playAll_ok (l.take j) (fun y hy => H2.out y (List.mem_of_mem_take hy))
      have HTK := Lib.hid (playAll_take hak)
      rw [List.length_take] at hsok
      obtain ⟨own, E, A1, c1, es, B, d, gs, hp⟩ := hst.out
      generalize hS : playAll (l.take j) = s at *
      have SOK : RowKit.Hid (s.ok 60) := ⟨hsok.keys, by have := hsok.len; omega⟩
      have PP := Lib.hid hp
      have cx0 := below_cell hp.below hcj.1
      have cx1 := below_cell hp.below hcj.2.1
      have cx2 := below_cell hp.below hcj.2.2
      have hd0 : (0 : Int) ≤ (a.d : Int) := by omega
      have hd1 : (a.d : Int) ≤ 255 := by have := OK.out.1; omega
      subst hA
      clear hcell hak hok hcj hsok hp hst hS
      go_wp2_with fail
      refine (does19_any own (fun _ => False) _ s a 60 wr PP.out.sk SOK.out (by decide) OK.out).mono ?_
      rintro e w2 ⟨rfl, own2, hs2, hg2⟩
      have P2 := Lib.hid (PP.out.does hs2 hg2)
      clear hs2 hg2 cx0 cx1 cx2 PP
      have dx0 := below_cell P2.out.below HC.out.1
      have dx1 := below_cell P2.out.below HC.out.2.1
      have dx2 := below_cell P2.out.below HC.out.2.2
      have hbx := P2.out.box
      have ex0 : w2.cell? ⟨x, 0, none⟩ = some (.slice A1 s.K.length c1) := by rw [cell_of_row w2 _ 0 _ _ _ hbx]; rfl
      have ex1 : w2.cell? ⟨x, 1, none⟩ = some (.slice B s.G.length d) := by rw [cell_of_row w2 _ 1 _ _ _ hbx]; rfl
      have fx0 : w2.frozen? ⟨x, 0, none⟩ = false := fz_block hbx
      have fx1 : w2.frozen? ⟨x, 1, none⟩ = false := fz_block hbx
      have HBX := Lib.hid hbx
      clear hbx
      have FZ : RowKit.Hid (∀ w7 : World, Below w2.heap.size w2 w7 → w7.cell? ⟨b, off + j * 3 + 1, none⟩ = some (.string a.key) ∧ w7.cell? ⟨b, off + j * 3 + 2, none⟩ = some (.int .i64 a.n) ∧ w7.cell? ⟨x, 0, none⟩ = some (.slice A1 s.K.length c1) ∧ w7.cell? ⟨x, 1, none⟩ = some (.slice B s.G.length d) ∧ w7.frozen? ⟨x, 0, none⟩ = false ∧ w7.frozen? ⟨x, 1, none⟩ = false) := fun w7 hb7 => by
        have h0 := (hb7.block _ (lt_of_block HBX.out)).trans HBX.out
        exact ⟨below_cell hb7 dx1, below_cell hb7 dx2, below_cell hb7 ex0, below_cell hb7 ex1, fz_block h0, fz_block h0⟩
      go_upto_block 2 with fail
      go_cut [35] (fun _ wx => RowKit.Hid (PS w wx (w.heap.size + 2) x (act19 a s) (act19 a s)))
      case first =>
        by_cases q0 : a.d = 0
        · have HA : RowKit.Hid (act19 a s = ⟨insKS a.key s.K, updT s.T a.key (numT 5 a.n), touchG s.K s.T s.G a.key⟩) := by show _ = _; unfold act19; rw [if_pos q0]
          have e0 : ((a.d : Int) == 0) = true := by simp; omega
          clear q0
          have HS := Lib.hid (fun w9 hv => rSet_any E (fun _ => False) A1 c1 es B d gs s.K s.T s.G a.key _ (numT 5 a.n) w9 hv (numT_is w9 _ 5 a.n) (by have := SOK.out.len; omega) (by have := SOK.out.len; omega))
          go_upto_region 13 with fail
          go_region_law (first
            | (go_simp; go_at_call 49; refine (number19_any _ _).mono ?_; rintro e w4 ⟨rfl, hb4⟩; have g4 := FZ.out w4 ((below_drewN (Below.refl w2.heap.size w2) _).trans hb4); obtain ⟨g41, g42, g43, g44, g45, g46⟩ := g4)
            | (go_simp; go_at_call 48; refine (HS.out _ (P2.out.next ((below_drewN (Below.refl w2.heap.size w2) _).trans hb4)).rv).mono ?_; rintro e w5 ⟨A5, c5, es5, B5, d5, gs5, rfl, hv5, hb5⟩; have g5 := FZ.out w5 (((below_drewN (Below.refl w2.heap.size w2) _).trans hb4).trans (hb5.mono hb4.size)); obtain ⟨g51, g52, g53, g54, g55, g56⟩ := g5))
          all_goals
            have PF : RowKit.Hid (PS w ((w5.setCell ⟨x, 0, none⟩ (.slice A5 (insKS a.key s.K).length c5)).setCell ⟨x, 1, none⟩ (.slice B5 (touchG s.K s.T s.G a.key).length d5)) (w.heap.size + 2) x (act19 a s) (act19 a s)) := by
              show PS _ _ _ _ _ _
              have := P2.out.ref (t' := ⟨insKS a.key s.K, updT s.T a.key (numT 5 a.n), touchG s.K s.T s.G a.key⟩) ((below_drewN (Below.refl w2.heap.size w2) _).trans hb4) hv5 hb5 (w3 := (w5.setCell ⟨x, 0, none⟩ (.slice A5 (insKS a.key s.K).length c5)).setCell ⟨x, 1, none⟩ (.slice B5 (touchG s.K s.T s.G a.key).length d5)) rfl rfl rfl rfl
              rw [← HA.out] at this
              exact this
            clear hb4 hv5 hb5 g41 g42 g43 g44 g45 g46 g51 g52 g53 g54 g55 g56
            go_wp2
            go_meet
            exact PF.out
        · by_cases q1' : a.d = 1
          · have HA : RowKit.Hid (act19 a s = ⟨s.K.filter (· ≠ a.key), s.T, dropG s.K s.T s.G a.key⟩) := by show _ = _; unfold act19; rw [if_neg q0, if_pos q1']
            have e0 : ((a.d : Int) == 0) = false := by simp; omega
            have e1 : ((a.d : Int) == 1) = true := by simp; omega
            clear q0 q1'
            have HS := Lib.hid (fun w9 hv => rDrop_any E (fun _ => False) A1 c1 es B d gs s.K s.T s.G a.key w9 hv (by have := SOK.out.len; omega) (by have := SOK.out.len; omega))
            generalize hKf : s.K.filter (· ≠ a.key) = Kf at HS HA
            clear hKf
            go_upto_region 15 with fail
            go_region_law (go_simp; go_at_call 50; refine (HS.out _ (P2.out.next (below_drewN (Below.refl w2.heap.size w2) _)).rv).mono ?_; rintro e w5 ⟨A5, c5, es5, B5, d5, gs5, rfl, hv5, hb5⟩; have g5 := FZ.out w5 ((below_drewN (Below.refl w2.heap.size w2) _).trans hb5); obtain ⟨g51, g52, g53, g54, g55, g56⟩ := g5)
            all_goals
              have PF : RowKit.Hid (PS w ((w5.setCell ⟨x, 0, none⟩ (.slice A5 Kf.length c5)).setCell ⟨x, 1, none⟩ (.slice B5 (dropG s.K s.T s.G a.key).length d5)) (w.heap.size + 2) x (act19 a s) (act19 a s)) := by
                show PS _ _ _ _ _ _
                have := P2.out.ref (t' := ⟨Kf, s.T, dropG s.K s.T s.G a.key⟩) (below_drewN (Below.refl w2.heap.size w2) _) hv5 hb5 (w3 := (w5.setCell ⟨x, 0, none⟩ (.slice A5 Kf.length c5)).setCell ⟨x, 1, none⟩ (.slice B5 (dropG s.K s.T s.G a.key).length d5)) rfl rfl rfl rfl
                rw [← HA.out] at this
                exact this
              clear hv5 hb5 g51 g52 g53 g54 g55 g56
              go_wp2
              go_meet
              exact PF.out
          · by_cases q2 : a.d = 2
            · have HA : RowKit.Hid (act19 a s = ⟨s.K, s.T, []⟩) := by show _ = _; unfold act19; rw [if_neg q0, if_neg q1', if_pos q2]
              have e0 : ((a.d : Int) == 0) = false := by simp; omega
              have e1 : ((a.d : Int) == 1) = false := by simp; omega
              have e2 : ((a.d : Int) == 2) = true := by simp; omega
              clear q0 q1' q2
              have PF : RowKit.Hid (PS w (w2.setCell ⟨x, 1, none⟩ (.slice none 0 0)) (w.heap.size + 2) x (act19 a s) (act19 a s)) := by
                show PS _ _ _ _ _ _
                have := P2.out.wipe (w1 := w2.setCell ⟨x, 1, none⟩ (.slice none 0 0)) rfl rfl rfl rfl
                rw [HA.out] at this ⊢
                exact this
              go_wp2
              go_meet
              exact PF.out
            · by_cases q3 : a.d = 3
              · have HA : RowKit.Hid (act19 a s = ⟨unK s.K s.G.reverse, unT s.T s.G.reverse, []⟩) := by show _ = _; unfold act19; rw [if_neg q0, if_neg q1', if_neg q2, if_pos q3]
                have e0 : ((a.d : Int) == 0) = false := by simp; omega
                have e1 : ((a.d : Int) == 1) = false := by simp; omega
                have e2 : ((a.d : Int) == 2) = false := by simp; omega
                have e3 : ((a.d : Int) == 3) = true := by simp; omega
                clear q0 q1' q2 q3
                go_wp2_with fail
                refine (rUndo_any E (fun _ => False) E A1 c1 es B s.G.length d s.K s.T B s.G.length d gs s.G w2 P2.out.rv.cells P2.out.rv.are P2.out.rv.elt (fun _ h => h.elim) P2.out.rv.rise P2.out.rv.grp P2.out.rv.ents (by have := SOK.out.len; omega) (by have := SOK.out.len; omega)).mono ?_
                rintro e w5 ⟨A5, c5, es5, B5, d5, gs5, rfl, hv5, hb5⟩
                have g5 := FZ.out w5 hb5
                obtain ⟨g51, g52, g53, g54, g55, g56⟩ := g5
                generalize hKu : unK s.K s.G.reverse = Ku at *
                have PF : RowKit.Hid (PS w ((w5.setCell ⟨x, 0, none⟩ (.slice A5 Ku.length c5)).setCell ⟨x, 1, none⟩ (.slice B5 ([] : List ED).length d5)) (w.heap.size + 2) x (act19 a s) (act19 a s)) := by
                  show PS _ _ _ _ _ _
                  have := P2.out.ref (t' := ⟨Ku, unT s.T s.G.reverse, []⟩) (Below.refl _ _) hv5 hb5 (w3 := (w5.setCell ⟨x, 0, none⟩ (.slice A5 Ku.length c5)).setCell ⟨x, 1, none⟩ (.slice B5 ([] : List ED).length d5)) rfl rfl rfl rfl
                  rw [← HA.out] at this
                  exact this
                clear hv5 hb5 hKu
                go_wp2
                go_meet
                exact PF.out
              · have HA : RowKit.Hid (act19 a s = s) := by show _ = _; unfold act19; rw [if_neg q0, if_neg q1', if_neg q2, if_neg q3]
                have e0 : ((a.d : Int) == 0) = false := by simp; omega
                have e1 : ((a.d : Int) == 1) = false := by simp; omega
                have e2 : ((a.d : Int) == 2) = false := by simp; omega
                have e3 : ((a.d : Int) == 3) = false := by simp; omega
                clear q0 q1' q2 q3
                have PF : RowKit.Hid (PS w w2 (w.heap.size + 2) x (act19 a s) (act19 a s)) := by
                  show PS _ _ _ _ _ _
                  have := P2.out
                  rw [HA.out] at this ⊢
                  exact ⟨_, _, _, _, _, _, _, _, this⟩
                go_wp2
                go_meet
                exact PF.out
      case rest =>
        clear ex0 ex1 fx0 fx1 dx0 dx1 dx2 FZ HBX P2
        obtain ⟨own3, E3, A3, c3, es3, B3, d3, gs3, hp⟩ := hcut.out
        have SOK2 := Lib.hid (act19_ok SOK.out OK.out.2.1)
        generalize hS2 : act19 a s = s2 at *
        have HK := Lib.hid OK.out.2.1
        have P3 := Lib.hid hp
        have dx1 := below_cell hp.below HC.out.2.1
        have HGT := Lib.hid (cGet_any own3 (fun _ => False) _ s2.K s2.T s2.G a.key wc hp.sk OK.out.2.1)
        clear hp hS2
        go_wp2_with fail
        refine HGT.out.mono ?_
        rintro e w4 ⟨ts, rfl, ht, hb4⟩
        obtain ⟨A1, n1, c1, A2, n2, c2, A4, n4, c4, A5, n5, c5, A6, n6, c6, rfl⟩ := ht.full
        generalize hgt : getT s2.K s2.T a.key = t at *
        generalize hdk : decide (a.key ∈ s2.K) = is at *
        have HGE := Lib.hid hgt
        have HDK := Lib.hid hdk
        have HT := Lib.hid ht
        have B4 := Lib.hid hb4
        clear ht hb4 HGT dx1 hgt hdk
        go_upto_region 21 with fail
        obtain ⟨w5, hw5⟩ : ∃ w5, w5 = w4.alloc (.cells (tL t A1 n1 c1 A2 n2 c2 A4 n4 c4 A5 n5 c5 A6 n6 c6).toArray 45) := ⟨_, rfl⟩
        have y5 : w5.heap[w4.heap.size]? = some (.cells (tL t A1 n1 c1 A2 n2 c2 A4 n4 c4 A5 n5 c5 A6 n6 c6).toArray 45 (0, 0)) := by rw [hw5]; exact heap_alloc_new _ _
        have b45 : Below w4.heap.size w4 w5 := by rw [hw5]; exact (Below.refl _ w4).alloc (Nat.le_refl _) _
        have e := hw5.symm
        unfold tL at e
        rw [e]
        have Y5 := Lib.hid y5
        have B45 := Lib.hid b45
        have HT5 := Lib.hid (HT.out.below b45)
        have P5 := Lib.hid ((P3.out.next B4.out).next b45)
        clear e hw5 y5 b45
        have dx1 := below_cell P5.out.below HC.out.2.1
        have hbx := P5.out.box
        have ex0 : w5.cell? ⟨x, 0, none⟩ = some (.slice A3 s2.K.length c3) := by rw [cell_of_row w5 _ 0 _ _ _ hbx]; rfl
        have ex1 : w5.cell? ⟨x, 1, none⟩ = some (.slice B3 s2.G.length d3) := by rw [cell_of_row w5 _ 1 _ _ _ hbx]; rfl
        clear hbx
        have HRG := Lib.hid (fun w9 h1 h2 h3 => rGet_any E3 (fun _ => False) A3 c3 es3 B3 s2.G.length d3 s2.K s2.T a.key w9 h1 h2 h3)
        go_cut [10, 11] (fun v bb wx => ∃ y2 ts2, v = .pointer (some ⟨y2, 0, none⟩) ∧ bb = .bool is ∧ RowKit.Hid (wx.heap[y2]? = some (.cells (List.toArray ts2) 45 (0, 0))) ∧ RowKit.Hid (TIs wx (fun _ => False) ts2 t) ∧ RowKit.Hid (Below w5.heap.size w5 wx))
        case first =>
          have exa : ∀ o, (w5.alloc o).cell? ⟨x, 0, none⟩ = some (.slice A3 s2.K.length c3) := fun o => below_cell ((Below.refl _ w5).alloc (Nat.le_refl _) o) ex0
          have exb : ∀ o, (w5.alloc o).cell? ⟨x, 1, none⟩ = some (.slice B3 s2.G.length d3) := fun o => below_cell ((Below.refl _ w5).alloc (Nat.le_refl _) o) ex1
          have exc : ∀ o, (w5.alloc o).cell? ⟨b, off + j * 3 + 1, none⟩ = some (.string a.key) := fun o => below_cell ((Below.refl _ w5).alloc (Nat.le_refl _) o) dx1
          have HR1 := Lib.hid (fun k => HRG.out (w5.drewN k) (P5.out.rv.cells.below (below_drewN (Below.refl w5.heap.size w5) _)) (P5.out.rv.are.below (below_drewN (Below.refl w5.heap.size w5) _)) P5.out.rv.elt)
          have HR2 := Lib.hid (fun o k => HRG.out ((w5.alloc o).drewN k) (P5.out.rv.cells.below (below_drewN ((Below.refl w5.heap.size w5).alloc (Nat.le_refl _) o) _)) (P5.out.rv.are.below (below_drewN ((Below.refl w5.heap.size w5).alloc (Nat.le_refl _) o) _)) (fun b hb => Nat.lt_of_lt_of_le (P5.out.rv.elt b hb) (by show _ ≤ (w5.alloc o).heap.size; simp)))
          have ZB : RowKit.Hid (∀ w6 k, Below ((w5.alloc (.cells (numE 0 0).toArray 45)).drewN k).heap.size ((w5.alloc (.cells (numE 0 0).toArray 45)).drewN k) w6 → w6.heap[w5.heap.size]? = some (.cells (numE 0 0).toArray 45 (0, 0))) := fun w6 k hb => (hb.block w5.heap.size (by show _ < (w5.alloc _).heap.size; simp)).trans (heap_alloc_new w5 _)
          go_region_law (go_simp; go_at_call 53; first
            | (refine (HR1.out 1).mono ?_; rintro e w6 ⟨ts6, rfl, ht6, hb6⟩; rw [HGE.out] at ht6; rw [HDK.out]; obtain ⟨F1, g1, h1, F2, g2, h2, F4, g4, h4, F5, g5, h5, F6, g6, h6, rfl⟩ := ht6.full)
            | (refine (HR2.out _ 1).mono ?_; rintro e w6 ⟨ts6, rfl, ht6, hb6⟩; rw [HGE.out] at ht6; rw [HDK.out]; obtain ⟨F1, g1, h1, F2, g2, h2, F4, g4, h4, F5, g5, h5, F6, g6, h6, rfl⟩ := ht6.full; have hy6 := ZB.out w6 1 hb6; have hzz := zbox hy6; obtain ⟨m0, m1, m2, m3, m4, m5, m6, m7, m8, m9, m10, m11, m12, m13, n0', n1', n2', n3', n4', n5', n6', n7', n8', n9', n10', n11', n12', n13'⟩ := hzz))
          all_goals
            have HT6 := Lib.hid ht6
            have HB6 := Lib.hid hb6
            try have HY6 := Lib.hid hy6
            try clear hy6 m0 m1 m2 m3 m4 m5 m6 m7 m8 m9 m10 m11 m12 m13 n0' n1' n2' n3' n4' n5' n6' n7' n8' n9' n10' n11' n12' n13'
            clear ht6 hb6 exa exb exc ex0 ex1 dx1
            go_wp2
            go_meet
            first
              | (have hq := HY6.out; exact ⟨w5.heap.size, _, rfl, rfl, (set14 _ _ _ _ _ _ _ _ _ _ _ _ _ _ hq).1, HT6.out.chg (set14 _ _ _ _ _ _ _ _ _ _ _ _ _ _ hq).2 (fun _ h => h.elim), (below_drewN ((Below.refl w5.heap.size w5).alloc (Nat.le_refl _) _) 1).trans ((HB6.out.mono (by show _ ≤ (w5.alloc _).heap.size; simp)).trans ((set14 _ _ _ _ _ _ _ _ _ _ _ _ _ _ hq).2.below (Nat.le_trans (by show _ ≤ (w5.alloc _).heap.size; simp) HB6.out.size) (fun b hb => by rw [hb]; exact Nat.le_refl _)))⟩)
              | exact ⟨w6.heap.size, _, rfl, rfl, heap_alloc_new _ _, HT6.out.below ((Below.refl _ w6).alloc (Nat.le_refl _) _), (below_drewN (Below.refl w5.heap.size w5) 1).trans (HB6.out.trans (((Below.refl _ w6).alloc (Nat.le_refl _) _).mono HB6.out.size))⟩
        case rest =>
          obtain ⟨y2, ts2, rfl, rfl, Y2, T2, B2⟩ := hcut
          obtain ⟨F1, g1, h1, F2, g2, h2, F4, g4, h4, F5, g5, h5, F6, g6, h6, rfl⟩ := T2.out.full
          have y5 := (B2.out.block _ (lt_of_block Y5.out)).trans Y5.out
          have p0 : wc.cell? ⟨w4.heap.size, 0, none⟩ = some (.int .u8 t.kind) := (cell_of_row wc _ 0 _ _ _ y5).trans rfl
          have p1 : wc.cell? ⟨w4.heap.size, 1, none⟩ = some (.bool t.v.char) := (cell_of_row wc _ 1 _ _ _ y5).trans rfl
          have p2 : wc.cell? ⟨w4.heap.size, 2, none⟩ = some (.slice A1 n1 c1) := (cell_of_row wc _ 2 _ _ _ y5).trans rfl
          have p3 : wc.cell? ⟨w4.heap.size, 3, none⟩ = some (.slice A2 n2 c2) := (cell_of_row wc _ 3 _ _ _ y5).trans rfl
          have p4 : wc.cell? ⟨w4.heap.size, 4, none⟩ = some (.string t.f.name) := (cell_of_row wc _ 4 _ _ _ y5).trans rfl
          have p5 : wc.cell? ⟨w4.heap.size, 5, none⟩ = some (.string t.f.result) := (cell_of_row wc _ 5 _ _ _ y5).trans rfl
          have p6 : wc.cell? ⟨w4.heap.size, 6, none⟩ = some (.string t.f.left) := (cell_of_row wc _ 6 _ _ _ y5).trans rfl
          have p7 : wc.cell? ⟨w4.heap.size, 7, none⟩ = some (.string t.f.right) := (cell_of_row wc _ 7 _ _ _ y5).trans rfl
          have p8 : wc.cell? ⟨w4.heap.size, 8, none⟩ = some (.slice A4 n4 c4) := (cell_of_row wc _ 8 _ _ _ y5).trans rfl
          have p9 : wc.cell? ⟨w4.heap.size, 9, none⟩ = some (.slice A5 n5 c5) := (cell_of_row wc _ 9 _ _ _ y5).trans rfl
          have p10 : wc.cell? ⟨w4.heap.size, 10, none⟩ = some (.int .i64 t.f.version) := (cell_of_row wc _ 10 _ _ _ y5).trans rfl
          have p11 : wc.cell? ⟨w4.heap.size, 11, none⟩ = some (.slice A6 n6 c6) := (cell_of_row wc _ 11 _ _ _ y5).trans rfl
          have p12 : wc.cell? ⟨w4.heap.size, 12, none⟩ = some (.int .i64 t.n) := (cell_of_row wc _ 12 _ _ _ y5).trans rfl
          have p13 : wc.cell? ⟨w4.heap.size, 13, none⟩ = some (.string t.s) := (cell_of_row wc _ 13 _ _ _ y5).trans rfl
          have p0' : wc.cell? ⟨y2, 0, none⟩ = some (.int .u8 t.kind) := (cell_of_row wc _ 0 _ _ _ Y2.out).trans rfl
          have p1' : wc.cell? ⟨y2, 1, none⟩ = some (.bool t.v.char) := (cell_of_row wc _ 1 _ _ _ Y2.out).trans rfl
          have p2' : wc.cell? ⟨y2, 2, none⟩ = some (.slice F1 g1 h1) := (cell_of_row wc _ 2 _ _ _ Y2.out).trans rfl
          have p3' : wc.cell? ⟨y2, 3, none⟩ = some (.slice F2 g2 h2) := (cell_of_row wc _ 3 _ _ _ Y2.out).trans rfl
          have p4' : wc.cell? ⟨y2, 4, none⟩ = some (.string t.f.name) := (cell_of_row wc _ 4 _ _ _ Y2.out).trans rfl
          have p5' : wc.cell? ⟨y2, 5, none⟩ = some (.string t.f.result) := (cell_of_row wc _ 5 _ _ _ Y2.out).trans rfl
          have p6' : wc.cell? ⟨y2, 6, none⟩ = some (.string t.f.left) := (cell_of_row wc _ 6 _ _ _ Y2.out).trans rfl
          have p7' : wc.cell? ⟨y2, 7, none⟩ = some (.string t.f.right) := (cell_of_row wc _ 7 _ _ _ Y2.out).trans rfl
          have p8' : wc.cell? ⟨y2, 8, none⟩ = some (.slice F4 g4 h4) := (cell_of_row wc _ 8 _ _ _ Y2.out).trans rfl
          have p9' : wc.cell? ⟨y2, 9, none⟩ = some (.slice F5 g5 h5) := (cell_of_row wc _ 9 _ _ _ Y2.out).trans rfl
          have p10' : wc.cell? ⟨y2, 10, none⟩ = some (.int .i64 t.f.version) := (cell_of_row wc _ 10 _ _ _ Y2.out).trans rfl
          have p11' : wc.cell? ⟨y2, 11, none⟩ = some (.slice F6 g6 h6) := (cell_of_row wc _ 11 _ _ _ Y2.out).trans rfl
          have p12' : wc.cell? ⟨y2, 12, none⟩ = some (.int .i64 t.n) := (cell_of_row wc _ 12 _ _ _ Y2.out).trans rfl
          have p13' : wc.cell? ⟨y2, 13, none⟩ = some (.string t.s) := (cell_of_row wc _ 13 _ _ _ Y2.out).trans rfl
          have P6 := Lib.hid (P5.out.next B2.out)
          have HT6 := Lib.hid (HT5.out.below B2.out)
          have hbx := P6.out.box
          have px : wc.cell? ⟨x, 1, none⟩ = some (.slice B3 s2.G.length d3) := by rw [cell_of_row wc _ 1 _ _ _ hbx]; rfl
          have hbb : (is != is) = false := by simp
          clear y5 hbx ex0 ex1 dx1 HRG
          have HGR := Lib.hid (fun w9 hb => cGroup_any own3 (fun _ => False) _ s2.K s2.T s2.G w9 (P6.out.next hb).sk (by have := SOK2.out.len; omega))
          have HEN := Lib.hid (fun A9 c9 es9 D9 w9 hr he hb => entries_any A9 B3 s2.G.length c9 s2.G.length d3 es9 gs3 s2.G s2.G D9 E3 (fun _ => False) (fun _ => False) w9 hr (P6.out.next hb).rv.grp he (P6.out.next hb).rv.ents |>.mono (R' := fun e w' => e = .returned (.bool true) ∧ Below w9.heap.size w9 w') (by rintro e w' ⟨rfl, hb⟩; exact ⟨by simp, hb⟩))
          have HSM := Lib.hid (fun w9 (hb : Below wc.heap.size wc w9) => cSame_any (fun _ => False) (fun _ => False) _ _ t t w9 (HT6.out.below hb) (T2.out.below hb) true (decide_eq_true rfl).symm)
          go_upto_region 22 with fail
          go_region_held3 (fun w' => w'.cell? ⟨w4.heap.size, 0, none⟩ = some (.int .u8 t.kind) ∧ w'.cell? ⟨w4.heap.size, 1, none⟩ = some (.bool t.v.char) ∧ w'.cell? ⟨w4.heap.size, 2, none⟩ = some (.slice A1 n1 c1) ∧ w'.cell? ⟨w4.heap.size, 3, none⟩ = some (.slice A2 n2 c2) ∧ w'.cell? ⟨w4.heap.size, 4, none⟩ = some (.string t.f.name) ∧ w'.cell? ⟨w4.heap.size, 5, none⟩ = some (.string t.f.result) ∧ w'.cell? ⟨w4.heap.size, 6, none⟩ = some (.string t.f.left) ∧ w'.cell? ⟨w4.heap.size, 7, none⟩ = some (.string t.f.right) ∧ w'.cell? ⟨w4.heap.size, 8, none⟩ = some (.slice A4 n4 c4) ∧ w'.cell? ⟨w4.heap.size, 9, none⟩ = some (.slice A5 n5 c5) ∧ w'.cell? ⟨w4.heap.size, 10, none⟩ = some (.int .i64 t.f.version) ∧ w'.cell? ⟨w4.heap.size, 11, none⟩ = some (.slice A6 n6 c6) ∧ w'.cell? ⟨w4.heap.size, 12, none⟩ = some (.int .i64 t.n) ∧ w'.cell? ⟨w4.heap.size, 13, none⟩ = some (.string t.s) ∧ w'.cell? ⟨y2, 0, none⟩ = some (.int .u8 t.kind) ∧ w'.cell? ⟨y2, 1, none⟩ = some (.bool t.v.char) ∧ w'.cell? ⟨y2, 2, none⟩ = some (.slice F1 g1 h1) ∧ w'.cell? ⟨y2, 3, none⟩ = some (.slice F2 g2 h2) ∧ w'.cell? ⟨y2, 4, none⟩ = some (.string t.f.name) ∧ w'.cell? ⟨y2, 5, none⟩ = some (.string t.f.result) ∧ w'.cell? ⟨y2, 6, none⟩ = some (.string t.f.left) ∧ w'.cell? ⟨y2, 7, none⟩ = some (.string t.f.right) ∧ w'.cell? ⟨y2, 8, none⟩ = some (.slice F4 g4 h4) ∧ w'.cell? ⟨y2, 9, none⟩ = some (.slice F5 g5 h5) ∧ w'.cell? ⟨y2, 10, none⟩ = some (.int .i64 t.f.version) ∧ w'.cell? ⟨y2, 11, none⟩ = some (.slice F6 g6 h6) ∧ w'.cell? ⟨y2, 12, none⟩ = some (.int .i64 t.n) ∧ w'.cell? ⟨y2, 13, none⟩ = some (.string t.s) ∧ w'.cell? ⟨x, 1, none⟩ = some (.slice B3 s2.G.length d3))
            (first | (go_keep; done) | (go_split_ands; exact ⟨below_cell hbe (by assumption), below_cell hbe (by assumption), below_cell hbe (by assumption), below_cell hbe (by assumption), below_cell hbe (by assumption), below_cell hbe (by assumption), below_cell hbe (by assumption), below_cell hbe (by assumption), below_cell hbe (by assumption), below_cell hbe (by assumption), below_cell hbe (by assumption), below_cell hbe (by assumption), below_cell hbe (by assumption), below_cell hbe (by assumption), below_cell hbe (by assumption), below_cell hbe (by assumption), below_cell hbe (by assumption), below_cell hbe (by assumption), below_cell hbe (by assumption), below_cell hbe (by assumption), below_cell hbe (by assumption), below_cell hbe (by assumption), below_cell hbe (by assumption), below_cell hbe (by assumption), below_cell hbe (by assumption), below_cell hbe (by assumption), below_cell hbe (by assumption), below_cell hbe (by assumption), below_cell hbe (by assumption)⟩) | (go_split_ands; exact ⟨below_cell hbg (by assumption), below_cell hbg (by assumption), below_cell hbg (by assumption), below_cell hbg (by assumption), below_cell hbg (by assumption), below_cell hbg (by assumption), below_cell hbg (by assumption), below_cell hbg (by assumption), below_cell hbg (by assumption), below_cell hbg (by assumption), below_cell hbg (by assumption), below_cell hbg (by assumption), below_cell hbg (by assumption), below_cell hbg (by assumption), below_cell hbg (by assumption), below_cell hbg (by assumption), below_cell hbg (by assumption), below_cell hbg (by assumption), below_cell hbg (by assumption), below_cell hbg (by assumption), below_cell hbg (by assumption), below_cell hbg (by assumption), below_cell hbg (by assumption), below_cell hbg (by assumption), below_cell hbg (by assumption), below_cell hbg (by assumption), below_cell hbg (by assumption), below_cell hbg (by assumption), below_cell hbg (by assumption)⟩) | (go_split_ands; exact ⟨below_cell hbs (by assumption), below_cell hbs (by assumption), below_cell hbs (by assumption), below_cell hbs (by assumption), below_cell hbs (by assumption), below_cell hbs (by assumption), below_cell hbs (by assumption), below_cell hbs (by assumption), below_cell hbs (by assumption), below_cell hbs (by assumption), below_cell hbs (by assumption), below_cell hbs (by assumption), below_cell hbs (by assumption), below_cell hbs (by assumption), below_cell hbs (by assumption), below_cell hbs (by assumption), below_cell hbs (by assumption), below_cell hbs (by assumption), below_cell hbs (by assumption), below_cell hbs (by assumption), below_cell hbs (by assumption), below_cell hbs (by assumption), below_cell hbs (by assumption), below_cell hbs (by assumption), below_cell hbs (by assumption), below_cell hbs (by assumption), below_cell hbs (by assumption), below_cell hbs (by assumption), below_cell hbs (by assumption)⟩))
            ((first
              | (go_at_call 54; refine (HSM.out _ (below_drewN (Below.refl wc.heap.size wc) _)).mono ?_; rintro e w7 ⟨rfl, hbs⟩)
              | (go_at_call 55; refine (HGR.out _ ((below_drewN (Below.refl wc.heap.size wc) _).trans hbs)).mono ?_; rintro e w8 ⟨A9, c9, es9, rfl, hr9, he9, hbg⟩)
              | (go_at_call 23; refine (HEN.out A9 c9 es9 _ _ hr9 he9 (((below_drewN (Below.refl wc.heap.size wc) _).trans hbs).trans (hbg.mono hbs.size))).mono ?_; rintro e w9 ⟨rfl, hbe⟩)))
          have PF : RowKit.Hid (PS w w9 (w.heap.size + 2) x (playAll (l.take (j + 1))) (playAll (l.take (j + 1)))) := by
            show PS _ _ _ _ _ _
            rw [HTK.out]
            exact ⟨_, _, _, _, _, _, _, _, P6.out.next (((below_drewN (Below.refl wc.heap.size wc) _).trans hbs).trans ((hbg.trans (hbe.mono hbg.size)).mono hbs.size))⟩
          go_wp2
          go_roundw
          case rel => exact ⟨j + 1, by omega, by go_num, PF.out⟩
          case measure => simp [RowKit.intOf]; omega
    · have hjn : j = n := by omega
      subst hjn
      have hsok := playAll_ok (l.take j) (fun y hy => H2.out y (List.mem_of_mem_take hy))
      rw [List.length_take] at hsok
      obtain ⟨own, E, A1, c1, es, B, d, gs, hp⟩ := hst.out
      generalize playAll (l.take j) = s at *
      have hsl := hsok.len
      have PP := Lib.hid hp
      have hbx := hp.box
      have ex0 : wr.cell? ⟨x, 0, none⟩ = some (.slice A1 s.K.length c1) := by rw [cell_of_row wr _ 0 _ _ _ hbx]; rfl
      have ex1 : wr.cell? ⟨x, 1, none⟩ = some (.slice B s.G.length d) := by rw [cell_of_row wr _ 1 _ _ _ hbx]; rfl
      clear hst hbx hp hsok
      have HAL := Lib.hid (fun w9 hb => cAll_any own (fun _ => False) _ s.K s.T s.G w9 (PP.out.next hb).sk (by omega))
      have HKE := Lib.hid (fun w9 hb => cKeys_any own (fun _ => False) _ s.K s.T s.G p w9 (PP.out.next hb).sk (by omega))
      have HRC := Lib.hid (fun A9 c9 es9 D9 w9 hr he hb => rcells_any A9 A1 s.K.length c9 s.K.length c1 es9 es (cellsOf s.K s.T) (cellsOf s.K s.T) D9 E (fun _ => False) (fun _ => False) w9 hr (PP.out.next hb).rv.cells he (PP.out.next hb).rv.are |>.mono (R' := fun e w' => e = .returned (.bool true) ∧ Below w9.heap.size w9 w') (by rintro e w' ⟨rfl, hb⟩; exact ⟨by simp, hb⟩))
      have HRK := Lib.hid (fun w9 hb => rKeys_any E (fun _ => False) A1 c1 es B s.G.length d s.K s.T p w9 (PP.out.next hb).rv.cells (PP.out.next hb).rv.are (PP.out.next hb).rv.elt (by omega))
      have HTE := Lib.hid (fun A9 B9 c9 d9 D9 E9 w9 hx hy => texts19_any A9 B9 (s.K.filter (begins p)).length c9 (s.K.filter (begins p)).length d9 (s.K.filter (begins p)) (s.K.filter (begins p)) D9 E9 w9 hx hy |>.mono (R' := fun e w' => e = .returned (.bool true) ∧ Below w9.heap.size w9 w') (by rintro e w' ⟨rfl, k, rfl⟩; exact ⟨by simp, below_drewN (Below.refl _ _) _⟩))
      go_upto_region 24 with fail
      go_region_held3 (fun w' => w'.cell? ⟨x, 0, none⟩ = some (.slice A1 s.K.length c1) ∧ w'.cell? ⟨x, 1, none⟩ = some (.slice B s.G.length d))
        (first | (go_keep; done) | (go_split_ands; exact ⟨below_cell hb16 (by assumption), below_cell hb16 (by assumption)⟩) | (go_split_ands; exact ⟨below_cell hb15 (by assumption), below_cell hb15 (by assumption)⟩) | (go_split_ands; exact ⟨below_cell hb14 (by assumption), below_cell hb14 (by assumption)⟩) | (go_split_ands; exact ⟨below_cell hb13 (by assumption), below_cell hb13 (by assumption)⟩) | (go_split_ands; exact ⟨below_cell hb12 (by assumption), below_cell hb12 (by assumption)⟩) | (go_split_ands; exact ⟨below_cell hb11 (by assumption), below_cell hb11 (by assumption)⟩))
        ((first
          | (go_at_call 56; refine (HAL.out _ (below_drewN (Below.refl wr.heap.size wr) _)).mono ?_; rintro e w11 ⟨A9, c9, es9, rfl, hr9, he9, hb11⟩)
          | (go_at_call 41; refine (HRC.out A9 c9 es9 _ _ hr9 he9 ((below_drewN (Below.refl wr.heap.size wr) _).trans hb11)).mono ?_; rintro e w12 ⟨rfl, hb12⟩)
          | (go_at_call 58; refine (HKE.out _ (((below_drewN (Below.refl wr.heap.size wr) _).trans hb11).trans (hb12.mono hb11.size))).mono ?_; rintro e w13 ⟨A10, c10, rfl, hr10, hb13⟩)
          | (go_at_call 59; refine (HRK.out _ ((((below_drewN (Below.refl wr.heap.size wr) _).trans hb11).trans (hb12.mono hb11.size)).trans (hb13.mono (Nat.le_trans hb11.size hb12.size)))).mono ?_; rintro e w14 ⟨A11, c11, rfl, hr11, hb14⟩)
          | (go_at_call 57; refine (HTE.out A10 A11 c10 c11 _ _ _ (hr10.below hb14) hr11).mono ?_; rintro e w15 ⟨rfl, hb15⟩)
          | (go_at_call 45; refine (awake19_any _).mono ?_; rintro e w16 ⟨rfl, hb16⟩)))
      go_wp2
      go_ret
      have h1 : Below wr.heap.size wr w16 := (below_drewN (Below.refl wr.heap.size wr) _).trans (hb11.trans ((hb12.trans ((hb13.trans ((hb14.trans ((hb15.trans (hb16.mono hb15.size)).mono hb14.size)).mono hb13.size)).mono hb12.size)).mono hb11.size))
      exact ⟨rfl, PP.out.below.trans (h1.mono PP.out.below.size)⟩
end Go.Proofs.Ytochdmbjlemfoaa
