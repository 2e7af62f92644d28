/-
  The reference of layer 19 (anamnesisref19): contract of touch. Of any store that can be read.
-/
import Derived.Test.YtochdmbjlemfoaaC15
namespace Go.Proofs.Ytochdmbjlemfoaa
open Go Go.RowKit Go.Maps

theorem al2 (w : World) (o1 o2 : Obj) : ((w.alloc o1).alloc o2).heap[w.heap.size]? = some o1 ∧ ((w.alloc o1).alloc o2).heap[w.heap.size + 1]? = some o2 := by
  refine ⟨(Below.heap_alloc _ _ _ (by simp)).trans (heap_alloc_new w o1), ?_⟩
  have h := heap_alloc_new (w.alloc o1) o2
  rw [World.size_alloc] at h
  exact h
theorem hb_near {w w5 : World} {g0 e0 : Nat} {X : Obj} (hg : w.grownBy w5 (some g0)) (h : w.heap[e0]? = some X) (hne : e0 ≠ g0) : w5.heap[e0]? = some X := (hg.block e0 (lt_of_block h) (fun e => hne (Option.some.inj e))).trans h
theorem EntsAre.snoc {w : World} {D : Nat → Prop} {es : List (List Value)} {L : List ED} {e : List Value} {E : ED} (h : EntsAre w D es L) (he : EntIs w D e E) : EntsAre w D (es ++ [e]) (L ++ [E]) :=
  ⟨by simp [h.1], fun i e' E' h1 h2 => by
    rcases Nat.lt_trichotomy i es.length with hlt | heq | hgt
    · rw [List.getElem?_append_left hlt] at h1
      rw [List.getElem?_append_left (by rw [← h.1]; exact hlt)] at h2
      exact h.2 i e' E' h1 h2
    · subst heq
      rw [List.getElem?_append_right (Nat.le_refl _), Nat.sub_self] at h1
      rw [h.1, List.getElem?_append_right (Nat.le_refl _), Nat.sub_self] at h2
      simp at h1 h2
      subst h1 h2
      exact he
    · rw [List.getElem?_eq_none (by simp; omega)] at h1
      cases h1⟩

/-- What a call on the reference's store leaves. -/
def RPost (w : World) (E D : Nat → Prop) (K : List ByteArray) (T : ByteArray → TD) (G : List ED) (e : Ending) (w' : World) : Prop :=
  ∃ A c es B d gs, e = .returned (.agg #[.slice A K.length c, .slice B G.length d]) ∧ RV w' (fun b => E b ∨ w.heap.size ≤ b ∧ b < w'.heap.size) D A c es B d gs K T G ∧ Below w.heap.size w w'
theorem rtouch_fin {w wa w7 : World} {E D : Nat → Prop} {A : Option Addr} {c : Nat} {es : List (List Value)} {B : Option Addr} {d : Nat} {gs : List (List Value)} {K : List ByteArray} {T : ByteArray → TD} {G : List ED} {k : ByteArray} (h : RV w E D A c es B d gs K T G) (hb : Below w.heap.size w wa) (hsz : w.heap.size + 2 ≤ wa.heap.size)
    {t : TD} {ts : List Value} (ht : TIs wa D ts t) (ht0 : t = getT K T k) {had : Bool} (hhad : had = decide (k ∈ K)) {news : List Value} (hnews : news = [.string k] ++ ts ++ [.bool had]) {j g cap : Nat} (hj : j = G.length)
    (hown : w7.ownsRow wa.heap.size 47 16 (.slice (some ⟨g, 0, none⟩) (j + 1) cap) (j + 1) (gs.flatten ++ news)) (hb7 : Below wa.heap.size wa w7) (u1 u2 u3 : Value) :
    RPost w E D K T (G ++ [⟨k, getT K T k, decide (k ∈ K)⟩]) (.returned (.agg #[.slice A K.length c, .slice (some ⟨g, 0, none⟩) (j + 1) cap])) (((w7.setCell ⟨w.heap.size, 1, none⟩ u1).setCell ⟨w.heap.size + 1, 0, none⟩ u2).setCell ⟨w.heap.size + 1, 1, none⟩ u3) := by
  obtain ⟨w9, hw9⟩ : ∃ w9, w9 = ((w7.setCell ⟨w.heap.size, 1, none⟩ u1).setCell ⟨w.heap.size + 1, 0, none⟩ u2).setCell ⟨w.heap.size + 1, 1, none⟩ u3 := ⟨_, rfl⟩
  rw [← hw9]
  have hc : Chg (fun b => b = w.heap.size ∨ b = w.heap.size + 1) w7 w9 := by
    rw [hw9]
    exact Chg.setCell (Chg.setCell (Chg.setCell (Chg.refl _ w7) (.inl (.inl rfl)) _) (.inl (.inr rfl)) _) (.inl (.inr rfl)) _
  have h7 : Below w.heap.size w w7 := hb.trans (hb7.mono hb.size)
  have h9 : Below w.heap.size w w9 := h7.trans (hc.below h7.size (fun b hb => by omega))
  have hE : EntIs w7 D news ⟨k, getT K T k, decide (k ∈ K)⟩ := ⟨ts, by rw [hnews, hhad], by simp only; rw [← ht0]; exact ht.below hb7⟩
  have hents := (h.ents.below h7).snoc hE
  have hfl : gs.flatten ++ news = (gs ++ [news]).flatten := by simp
  rw [hfl] at hown
  have hlen : (gs ++ [news]).length = j + 1 := by rw [List.length_append, List.length_singleton, h.ents.1, hj]
  obtain ⟨A9, c9, e9, hr9⟩ := Rd.of_own hown hlen hents.ok
  simp only [Value.slice.injEq, true_and] at e9
  obtain ⟨rfl, rfl⟩ := e9
  have hl7 : ∀ b, wa.heap.size ≤ b → ¬ (b = w.heap.size ∨ b = w.heap.size + 1) := fun b hb => by omega
  have hr := hr9.chg hc hl7
  have hnl : (G ++ ([⟨k, getT K T k, decide (k ∈ K)⟩] : List ED)).length = j + 1 := by simp [hj]
  refine ⟨A, c, es, some ⟨g, 0, none⟩, cap, gs ++ [news], by rw [hnl], ?_, h9⟩
  exact {
    cells := (h.cells.below h9).mono (fun b _ hb => .inl hb) (by decide)
    are := h.are.below h9
    grp := by
      rw [hnl]
      exact hr.mono (fun b hlt hb => .inr ⟨by omega, hlt⟩) (by decide)
    ents := hents.chg hc (fun b hb hn => by have := h.dlt b hb; omega)
    elt := fun b hb => by
      rcases hb with hb | hb
      · exact Nat.lt_of_lt_of_le (h.elt b hb) h9.size
      · exact hb.2
    dlt := fun b hb => Nat.lt_of_lt_of_le (h.dlt b hb) h9.size
    rise := h.rise
    bnil := fun e => nomatch e }

set_option maxRecDepth 100000 in
set_option maxHeartbeats 1600000 in
/-- The key has an entry: nothing is changed. -/
theorem rtouch_old (E D : Nat → Prop) (A : Option Addr) (c : Nat) (es : List (List Value)) (B : Option Addr) (d : Nat) (gs : List (List Value)) (K : List ByteArray) (T : ByteArray → TD) (G : List ED) (k : ByteArray) (w : World) (h : RV w E D A c es B d gs K T G) (hin : k ∈ G.map ED.key) :
    Calls Try.prog 75 #[.agg #[.slice A K.length c, .slice B G.length d], .string k] w fun e w' => e = .returned (.agg #[.slice A K.length c, .slice B G.length d]) ∧ Below w.heap.size w w' := by
  have hn : G.length ≤ 9223372036854775807 := by have h1 := h.grp.le; have h2 := h.grp.max; unfold maxLen at h2; omega
  obtain ⟨n, hnn⟩ : ∃ n, n = G.length := ⟨_, rfl⟩
  obtain ⟨m, hm⟩ : ∃ m, m = K.length := ⟨_, rfl⟩
  have hgr := h.grp
  rw [← hnn] at hgr hn ⊢
  rw [← hm]
  have HN := Lib.hid hnn
  have HX := Lib.hid hgr
  have HL := Lib.hid h.ents
  have HE := Lib.hid h.elt
  have HI := Lib.hid hin
  have HB := Lib.hid (two_below w)
  clear h hgr hnn hm hin
  go_enter Try.func75, Try.ntmps75
  go_wp2
  go_loop [5] (fun i => ∃ j : Nat, j ≤ n ∧ i = .int .i64 (j : Int) ∧ RowKit.Hid (∀ x ∈ G.take j, x.key ≠ k)) (fun i => n - (RowKit.intOf i).toNat)
  case atStart => exact ⟨0, Nat.zero_le _, rfl, by intro x hx; simp at hx⟩
  case round =>
    obtain ⟨j, hj, rfl, hh⟩ := hrel
    by_cases hlt : j < n
    · have q1 : (j : Int) < (n : Int) := by omega
      obtain ⟨b, off, hA, hEb, hc⟩ := HX.out.at_ (by omega)
      obtain ⟨e, he⟩ : ∃ e, gs[j]? = some e := ⟨_, List.getElem?_eq_getElem (by rw [HX.out.len]; exact hlt)⟩
      obtain ⟨X, hX⟩ : ∃ X, G[j]? = some X := ⟨_, List.getElem?_eq_getElem (by rw [← HN.out]; exact hlt)⟩
      obtain ⟨ts, rfl, ht⟩ := HL.out.2 j e X he hX
      have hbl := HE.out b hEb
      have cx := row_cells (hc j _ he) (Below.refl w.heap.size w)
      have HK := Lib.hid hX
      subst hA
      have a0 := cx 0 _ rfl
      simp only [Nat.add_zero] at a0
      clear hc he ht hX cx
      by_cases hxe : X.key = k
      · have q2 : (X.key.toList == k.toList) = true := by rw [hxe]; simp
        clear hxe
        go_wp2
        refine bodyPost_ret (v := .agg #[.slice A m c, .slice (some ⟨b, off, none⟩) n d]) (by simp [results, Try.results75, go_sem]) rfl ⟨rfl, HB.out _ _⟩
      · have q2 := str_ne hxe
        have hts : G.take (j + 1) = G.take j ++ [X] := by rw [List.take_add_one, HK.out]; rfl
        have HH : RowKit.Hid (∀ y ∈ G.take (j + 1), y.key ≠ k) := fun y hy => by
          rw [hts] at hy
          rcases List.mem_append.1 hy with hy | hy
          · exact hh.out y hy
          · simp at hy; rw [hy]; exact hxe
        clear hxe hts hh
        go_wp2
        go_round
        case rel => exact ⟨j + 1, by omega, by go_num, HH.out⟩
        case measure => simp [RowKit.intOf]; omega
    · exfalso
      have hjn : j = n := by omega
      subst hjn
      obtain ⟨x, hx, e⟩ := List.mem_map.1 HI.out
      exact hh.out x (by rw [HN.out, List.take_of_length_le (Nat.le_refl _)]; exact hx) e

set_option maxRecDepth 100000 in
set_option maxHeartbeats 6400000 in
/-- The key has no entry: one more. -/
theorem rtouch_new (E D : Nat → Prop) (A : Option Addr) (c : Nat) (es : List (List Value)) (B : Option Addr) (d : Nat) (gs : List (List Value)) (K : List ByteArray) (T : ByteArray → TD) (G : List ED) (k : ByteArray) (w : World) (h : RV w E D A c es B d gs K T G) (hin : ¬ k ∈ G.map ED.key) (hG : G.length ≤ 1000000) :
    Calls Try.prog 75 #[.agg #[.slice A K.length c, .slice B G.length d], .string k] w fun e w' => RPost w E D K T (G ++ [⟨k, getT K T k, decide (k ∈ K)⟩]) e w' := by
  have hn : G.length ≤ 9223372036854775807 := by omega
  obtain ⟨n, hnn⟩ : ∃ n, n = G.length := ⟨_, rfl⟩
  have H := Lib.hid h
  have hgr := h.grp
  rw [← hnn] at hgr hn hG ⊢
  have HN := Lib.hid hnn
  have HX := Lib.hid hgr
  have HL := Lib.hid h.ents
  have HE := Lib.hid h.elt
  have HI := Lib.hid hin
  have HB := Lib.hid (two_below w)
  clear h hgr hnn hin
  go_enter Try.func75, Try.ntmps75
  go_wp2
  go_loop [5] (fun i => ∃ j : Nat, j ≤ n ∧ i = .int .i64 (j : Int)) (fun i => n - (RowKit.intOf i).toNat)
  case atStart => exact ⟨0, Nat.zero_le _, rfl⟩
  case round =>
    obtain ⟨j, hj, rfl⟩ := hrel
    by_cases hlt : j < n
    · have q1 : (j : Int) < (n : Int) := by omega
      obtain ⟨b, off, hA, hEb, hc⟩ := HX.out.at_ (by omega)
      obtain ⟨e, he⟩ : ∃ e, gs[j]? = some e := ⟨_, List.getElem?_eq_getElem (by rw [HX.out.len]; exact hlt)⟩
      obtain ⟨X, hX⟩ : ∃ X, G[j]? = some X := ⟨_, List.getElem?_eq_getElem (by rw [← HN.out]; exact hlt)⟩
      obtain ⟨ts, rfl, ht⟩ := HL.out.2 j e X he hX
      have hbl := HE.out b hEb
      have cx := row_cells (hc j _ he) (Below.refl w.heap.size w)
      have hxe : X.key ≠ k := fun e => HI.out (List.mem_map.2 ⟨X, List.mem_of_getElem? hX, e⟩)
      subst hA
      have a0 := cx 0 _ rfl
      simp only [Nat.add_zero] at a0
      have q2 := str_ne hxe
      clear hc he ht hX cx hxe
      go_wp2
      go_round
      case rel => exact ⟨j + 1, by omega, by go_num⟩
      case measure => simp [RowKit.intOf]; omega
    · have hjn : j = n := by omega
      subst hjn
      obtain ⟨wz, hwz⟩ : ∃ wz, wz = (w.alloc (.cells #[.slice A K.length c, .slice B j d] 88)).alloc (.cells #[.slice none 0 0, .slice none 0 0] 88) := ⟨_, rfl⟩
      have hzb : Below w.heap.size w wz := by rw [hwz]; exact HB.out _ _
      have hzs : wz.heap.size = w.heap.size + 2 := by rw [hwz]; simp
      have hz0 : wz.heap[w.heap.size]? = some (.cells #[.slice A K.length c, .slice B j d] 88 (0, 0)) := by
        rw [hwz]; exact (Below.heap_alloc _ _ _ (by simp)).trans (heap_alloc_new w _)
      have hz1 : wz.heap[w.heap.size + 1]? = some (.cells #[.slice none 0 0, .slice none 0 0] 88 (0, 0)) := by
        have := heap_alloc_new (w.alloc (.cells #[.slice A K.length c, .slice B j d] 88)) (.cells #[.slice none 0 0, .slice none 0 0] 88)
        rw [World.size_alloc] at this
        rw [hwz]; exact this
      have z0 : wz.cell? ⟨w.heap.size, 0, none⟩ = some (.slice A K.length c) := by rw [cell_of_row wz _ 0 _ _ _ hz0]; rfl
      have z1 : wz.cell? ⟨w.heap.size, 1, none⟩ = some (.slice B j d) := by rw [cell_of_row wz _ 1 _ _ _ hz0]; rfl
      rw [← hwz]
      clear hwz
      have Z0 := Lib.hid hz0
      have Z1 := Lib.hid hz1
      have ZB := Lib.hid hzb
      have ZS := Lib.hid hzs
      have HG := Lib.hid (rGet_any E D A c es B j d K T k wz (H.out.cells.below hzb) (H.out.are.below hzb) (fun b hb => Nat.lt_of_lt_of_le (HE.out b hb) hzb.size))
      clear hz0 hz1 hzb hzs
      go_wp2_with fail
      refine HG.out.mono ?_
      rintro e w2 ⟨ts, rfl, ht, hb2⟩
      obtain ⟨t, ht0⟩ : ∃ t, t = getT K T k := ⟨_, rfl⟩
      rw [← ht0] at ht
      obtain ⟨A1, n1, c1, A2, n2, c2, A3, n3, c3, A4, n4, c4, A5, n5, c5, rfl⟩ := ht.full
      have HT0 := Lib.hid ht0
      have HT := Lib.hid ht
      have B2 := Lib.hid hb2
      obtain ⟨had, hhad⟩ : ∃ had, had = decide (k ∈ K) := ⟨_, rfl⟩
      rw [← hhad]
      have HHAD := Lib.hid hhad
      clear ht0 ht hb2 hhad z0 z1 HG
      go_upto_region 7 with fail
      obtain ⟨wa, hwa⟩ : ∃ wa, wa = w2.alloc (.cells (tL t A1 n1 c1 A2 n2 c2 A3 n3 c3 A4 n4 c4 A5 n5 c5).toArray 45) := ⟨_, rfl⟩
      have hba : wa.heap[w2.heap.size]? = some (.cells (tL t A1 n1 c1 A2 n2 c2 A3 n3 c3 A4 n4 c4 A5 n5 c5).toArray 45 (0, 0)) := by rw [hwa]; exact heap_alloc_new _ _
      have hbz : Below wz.heap.size wz wa := by rw [hwa]; exact B2.out.trans (((Below.refl _ w2).alloc (Nat.le_refl _) _).mono B2.out.size)
      have WA := Lib.hid (show Below w2.heap.size w2 wa by rw [hwa]; exact (Below.refl _ w2).alloc (Nat.le_refl _) _)
      have e := hwa.symm
      unfold tL at e
      rw [e]
      clear e hwa
      have BZ := Lib.hid hbz
      have x0 : wa.heap[w.heap.size]? = some (.cells #[.slice A K.length c, .slice B j d] 88 (0, 0)) := (hbz.block w.heap.size (by rw [ZS.out]; omega)).trans Z0.out
      have x1 : wa.heap[w.heap.size + 1]? = some (.cells #[.slice none 0 0, .slice none 0 0] 88 (0, 0)) := (hbz.block (w.heap.size + 1) (by rw [ZS.out]; omega)).trans Z1.out
      have X0 := Lib.hid x0
      have X1 := Lib.hid x1
      have y1 : wa.cell? ⟨w.heap.size, 1, none⟩ = some (.slice B j d) := by rw [cell_of_row wa _ 1 _ _ _ x0]; rfl
      have b0 : wa.cell? ⟨w2.heap.size, 0, none⟩ = some (.int .u8 t.kind) := by rw [cell_of_row wa _ 0 _ _ _ hba]; rfl
      have b1 : wa.cell? ⟨w2.heap.size, 1, none⟩ = some (.bool t.v.char) := by rw [cell_of_row wa _ 1 _ _ _ hba]; rfl
      have b2 : wa.cell? ⟨w2.heap.size, 2, none⟩ = some (.slice A1 n1 c1) := by rw [cell_of_row wa _ 2 _ _ _ hba]; rfl
      have b3 : wa.cell? ⟨w2.heap.size, 3, none⟩ = some (.slice A2 n2 c2) := by rw [cell_of_row wa _ 3 _ _ _ hba]; rfl
      have b4 : wa.cell? ⟨w2.heap.size, 4, none⟩ = some (.string t.f.name) := by rw [cell_of_row wa _ 4 _ _ _ hba]; rfl
      have b5 : wa.cell? ⟨w2.heap.size, 5, none⟩ = some (.string t.f.result) := by rw [cell_of_row wa _ 5 _ _ _ hba]; rfl
      have b6 : wa.cell? ⟨w2.heap.size, 6, none⟩ = some (.string t.f.left) := by rw [cell_of_row wa _ 6 _ _ _ hba]; rfl
      have b7 : wa.cell? ⟨w2.heap.size, 7, none⟩ = some (.string t.f.right) := by rw [cell_of_row wa _ 7 _ _ _ hba]; rfl
      have b8 : wa.cell? ⟨w2.heap.size, 8, none⟩ = some (.slice A3 n3 c3) := by rw [cell_of_row wa _ 8 _ _ _ hba]; rfl
      have b9 : wa.cell? ⟨w2.heap.size, 9, none⟩ = some (.slice A4 n4 c4) := by rw [cell_of_row wa _ 9 _ _ _ hba]; rfl
      have b10 : wa.cell? ⟨w2.heap.size, 10, none⟩ = some (.int .i64 t.f.version) := by rw [cell_of_row wa _ 10 _ _ _ hba]; rfl
      have b11 : wa.cell? ⟨w2.heap.size, 11, none⟩ = some (.slice A5 n5 c5) := by rw [cell_of_row wa _ 11 _ _ _ hba]; rfl
      have b12 : wa.cell? ⟨w2.heap.size, 12, none⟩ = some (.int .i64 t.n) := by rw [cell_of_row wa _ 12 _ _ _ hba]; rfl
      have b13 : wa.cell? ⟨w2.heap.size, 13, none⟩ = some (.string t.s) := by rw [cell_of_row wa _ 13 _ _ _ hba]; rfl
      have y1a : ∀ o, (wa.alloc o).cell? ⟨w.heap.size, 1, none⟩ = some (.slice B j d) := fun o => below_cell ((Below.refl _ wa).alloc (Nat.le_refl _) o) y1
      have y1b : ∀ o o', ((wa.alloc o).alloc o').cell? ⟨w.heap.size, 1, none⟩ = some (.slice B j d) := fun o o' => below_cell (two_below wa o o') y1
      have ba0 : ∀ o, (wa.alloc o).cell? ⟨w2.heap.size, 0, none⟩ = some (.int .u8 t.kind) := fun o => below_cell ((Below.refl _ wa).alloc (Nat.le_refl _) o) b0
      have ba1 : ∀ o, (wa.alloc o).cell? ⟨w2.heap.size, 1, none⟩ = some (.bool t.v.char) := fun o => below_cell ((Below.refl _ wa).alloc (Nat.le_refl _) o) b1
      have ba2 : ∀ o, (wa.alloc o).cell? ⟨w2.heap.size, 2, none⟩ = some (.slice A1 n1 c1) := fun o => below_cell ((Below.refl _ wa).alloc (Nat.le_refl _) o) b2
      have ba3 : ∀ o, (wa.alloc o).cell? ⟨w2.heap.size, 3, none⟩ = some (.slice A2 n2 c2) := fun o => below_cell ((Below.refl _ wa).alloc (Nat.le_refl _) o) b3
      have ba4 : ∀ o, (wa.alloc o).cell? ⟨w2.heap.size, 4, none⟩ = some (.string t.f.name) := fun o => below_cell ((Below.refl _ wa).alloc (Nat.le_refl _) o) b4
      have ba5 : ∀ o, (wa.alloc o).cell? ⟨w2.heap.size, 5, none⟩ = some (.string t.f.result) := fun o => below_cell ((Below.refl _ wa).alloc (Nat.le_refl _) o) b5
      have ba6 : ∀ o, (wa.alloc o).cell? ⟨w2.heap.size, 6, none⟩ = some (.string t.f.left) := fun o => below_cell ((Below.refl _ wa).alloc (Nat.le_refl _) o) b6
      have ba7 : ∀ o, (wa.alloc o).cell? ⟨w2.heap.size, 7, none⟩ = some (.string t.f.right) := fun o => below_cell ((Below.refl _ wa).alloc (Nat.le_refl _) o) b7
      have ba8 : ∀ o, (wa.alloc o).cell? ⟨w2.heap.size, 8, none⟩ = some (.slice A3 n3 c3) := fun o => below_cell ((Below.refl _ wa).alloc (Nat.le_refl _) o) b8
      have ba9 : ∀ o, (wa.alloc o).cell? ⟨w2.heap.size, 9, none⟩ = some (.slice A4 n4 c4) := fun o => below_cell ((Below.refl _ wa).alloc (Nat.le_refl _) o) b9
      have ba10 : ∀ o, (wa.alloc o).cell? ⟨w2.heap.size, 10, none⟩ = some (.int .i64 t.f.version) := fun o => below_cell ((Below.refl _ wa).alloc (Nat.le_refl _) o) b10
      have ba11 : ∀ o, (wa.alloc o).cell? ⟨w2.heap.size, 11, none⟩ = some (.slice A5 n5 c5) := fun o => below_cell ((Below.refl _ wa).alloc (Nat.le_refl _) o) b11
      have ba12 : ∀ o, (wa.alloc o).cell? ⟨w2.heap.size, 12, none⟩ = some (.int .i64 t.n) := fun o => below_cell ((Below.refl _ wa).alloc (Nat.le_refl _) o) b12
      have ba13 : ∀ o, (wa.alloc o).cell? ⟨w2.heap.size, 13, none⟩ = some (.string t.s) := fun o => below_cell ((Below.refl _ wa).alloc (Nat.le_refl _) o) b13
      have FB : RowKit.Hid (∀ w7 : World, Below wa.heap.size wa w7 → w7.cell? ⟨w2.heap.size, 0, none⟩ = some (.int .u8 t.kind) ∧ w7.cell? ⟨w2.heap.size, 1, none⟩ = some (.bool t.v.char) ∧ w7.cell? ⟨w2.heap.size, 2, none⟩ = some (.slice A1 n1 c1) ∧ w7.cell? ⟨w2.heap.size, 3, none⟩ = some (.slice A2 n2 c2) ∧ w7.cell? ⟨w2.heap.size, 4, none⟩ = some (.string t.f.name) ∧ w7.cell? ⟨w2.heap.size, 5, none⟩ = some (.string t.f.result) ∧ w7.cell? ⟨w2.heap.size, 6, none⟩ = some (.string t.f.left) ∧ w7.cell? ⟨w2.heap.size, 7, none⟩ = some (.string t.f.right) ∧ w7.cell? ⟨w2.heap.size, 8, none⟩ = some (.slice A3 n3 c3) ∧ w7.cell? ⟨w2.heap.size, 9, none⟩ = some (.slice A4 n4 c4) ∧ w7.cell? ⟨w2.heap.size, 10, none⟩ = some (.int .i64 t.f.version) ∧ w7.cell? ⟨w2.heap.size, 11, none⟩ = some (.slice A5 n5 c5) ∧ w7.cell? ⟨w2.heap.size, 12, none⟩ = some (.int .i64 t.n) ∧ w7.cell? ⟨w2.heap.size, 13, none⟩ = some (.string t.s)) := fun w7 hb7 => ⟨below_cell hb7 b0, below_cell hb7 b1, below_cell hb7 b2, below_cell hb7 b3, below_cell hb7 b4, below_cell hb7 b5, below_cell hb7 b6, below_cell hb7 b7, below_cell hb7 b8, below_cell hb7 b9, below_cell hb7 b10, below_cell hb7 b11, below_cell hb7 b12, below_cell hb7 b13⟩
      have FZ : RowKit.Hid (∀ w7 : World, Below wa.heap.size wa w7 → w7.cell? ⟨w.heap.size, 0, none⟩ = some (.slice A K.length c) ∧ w7.cell? ⟨w.heap.size, 1, none⟩ = some (.slice B j d) ∧ w7.frozen? ⟨w.heap.size, 1, none⟩ = false ∧ w7.cell? ⟨w.heap.size + 1, 0, none⟩ = some (.slice none 0 0) ∧ w7.cell? ⟨w.heap.size + 1, 1, none⟩ = some (.slice none 0 0) ∧ w7.frozen? ⟨w.heap.size + 1, 0, none⟩ = false ∧ w7.frozen? ⟨w.heap.size + 1, 1, none⟩ = false) := fun w7 hb7 => by
        have h0 := (hb7.block _ (lt_of_block X0.out)).trans X0.out
        have h1 := (hb7.block _ (lt_of_block X1.out)).trans X1.out
        refine ⟨by rw [cell_of_row w7 _ 0 _ _ _ h0]; rfl, by rw [cell_of_row w7 _ 1 _ _ _ h0]; rfl, ?_, by rw [cell_of_row w7 _ 0 _ _ _ h1]; rfl, by rw [cell_of_row w7 _ 1 _ _ _ h1]; rfl, ?_, ?_⟩
        · unfold World.frozen?; rw [h0]; rfl
        · unfold World.frozen?; rw [h1]; rfl
        · unfold World.frozen?; rw [h1]; rfl
      have RG := Lib.hid (H.out.grp.below (ZB.out.trans (hbz.mono ZB.out.size)))
      rw [← HN.out] at RG
      have HBN := Lib.hid H.out.bnil
      clear hba x0 x1 hbz
      go_cut [39] (fun v wx => ∃ g cap w7, v = .slice (some ⟨g, 0, none⟩) (j + 1) cap ∧ RowKit.Hid (w7.ownsRow wa.heap.size 47 16 (.slice (some ⟨g, 0, none⟩) (j + 1) cap) (j + 1) (gs.flatten ++ [.string k, .int .u8 t.kind, .bool t.v.char, .slice A1 n1 c1, .slice A2 n2 c2, .string t.f.name, .string t.f.result, .string t.f.left, .string t.f.right, .slice A3 n3 c3, .slice A4 n4 c4, .int .i64 t.f.version, .slice A5 n5 c5, .int .i64 t.n, .string t.s, .bool had])) ∧ RowKit.Hid (Below wa.heap.size wa w7) ∧ wx = w7.setCell ⟨w.heap.size, 1, none⟩ (.slice (some ⟨g, 0, none⟩) (j + 1) cap))
      case first =>
        go_region_law (first
          | (refine step_all wa RG.out HBN.out hG rfl _ _ rfl _ rfl rfl (by first | exact heap_alloc_new _ _ | exact (al2 wa _ _).1 | exact (al2 wa _ _).2) (by first | exact Nat.le_refl _ | exact Nat.le_succ _) (by first | exact ((Below.refl _ wa).alloc (Nat.le_refl _) _).drew | exact (two_below wa _ _).drew) ?_; intro v5 w5 hown5 hb5 hg5; have g5 := FB.out w5 hb5; obtain ⟨bb0, bb1, bb2, bb3, bb4, bb5, bb6, bb7, bb8, bb9, bb10, bb11, bb12, bb13⟩ := g5)
          | (refine step_one wa #[.string k, .int .u8 t.kind, .bool t.v.char, .slice A1 n1 c1, .slice A2 n2 c2, .string t.f.name, .string t.f.result, .string t.f.left, .string t.f.right, .slice A3 n3 c3, .slice A4 n4 c4, .int .i64 t.f.version, .slice A5 n5 c5, .int .i64 t.n, .string t.s, .bool had] v5 j gs.flatten rfl (by simp [Value.oneCell']) hG rfl _ _ rfl _ rfl rfl (by first | exact hown5 | exact hown5.alloc _) (by first | exact heap_alloc_new _ _ | exact hb_near hg5 (al2 wa _ _).2 (Nat.succ_ne_self _) | exact hb_near hg5 (al2 wa _ _).1 (Nat.succ_ne_self _).symm) (by first | exact hb5 | exact hb5.alloc hb5.size _) ?_; intro g cap w7 hown7 hb7; have g3 := FZ.out w7 hb7; obtain ⟨g30, g31, g32, g33, g34, g35, g36⟩ := g3))
        all_goals
          clear y1 y1a y1b b0 b1 b2 b3 b4 b5 b6 b7 b8 b9 b10 b11 b12 b13 ba0 ba1 ba2 ba3 ba4 ba5 ba6 ba7 ba8 ba9 ba10 ba11 ba12 ba13 bb0 bb1 bb2 bb3 bb4 bb5 bb6 bb7 bb8 bb9 bb10 bb11 bb12 bb13 hown5 hb5 hg5 g30 g31 g32 g33 g34 g35 g36
          go_wp2
          go_meet
          exact ⟨g, cap, w7, rfl, hown7, hb7, rfl⟩
      case rest =>
        obtain ⟨g, cap, w7, rfl, O7, B7, rfl⟩ := hcut
        have g3 := FZ.out w7 B7.out
        obtain ⟨g30, g31, g32, g33, g34, g35, g36⟩ := g3
        clear y1 y1a y1b b0 b1 b2 b3 b4 b5 b6 b7 b8 b9 b10 b11 b12 b13 ba0 ba1 ba2 ba3 ba4 ba5 ba6 ba7 ba8 ba9 ba10 ba11 ba12 ba13
        go_wp2
        have r1 : (((w7.setCell ⟨w.heap.size, 1, none⟩ (.slice (some ⟨g, 0, none⟩) (j + 1) cap)).setCell ⟨w.heap.size + 1, 0, none⟩ (.slice A K.length c)).setCell ⟨w.heap.size + 1, 1, none⟩ (.slice (some ⟨g, 0, none⟩) (j + 1) cap)).cell? ⟨w.heap.size + 1, 1, none⟩ = some (.slice (some ⟨g, 0, none⟩) (j + 1) cap) := World.cell?_setCell_same' _ _ _ (by rw [World.cell?_setCell_other _ _ _ _ (by simp), World.cell?_setCell_other _ _ _ _ (by simp), g34]; rfl)
        have r0 : (((w7.setCell ⟨w.heap.size, 1, none⟩ (.slice (some ⟨g, 0, none⟩) (j + 1) cap)).setCell ⟨w.heap.size + 1, 0, none⟩ (.slice A K.length c)).setCell ⟨w.heap.size + 1, 1, none⟩ (.slice (some ⟨g, 0, none⟩) (j + 1) cap)).cell? ⟨w.heap.size + 1, 0, none⟩ = some (.slice A K.length c) := (World.cell?_setCell_other _ _ _ _ (by simp)).trans (World.cell?_setCell_same' _ _ _ (by rw [World.cell?_setCell_other _ _ _ _ (by simp), g33]; rfl))
        refine bodyPost_ret (v := .agg #[.slice A K.length c, .slice (some ⟨g, 0, none⟩) (j + 1) cap]) (by simp [results, Try.results75, go_sem, r0, r1]) rfl ?_
        have hfin := rtouch_fin H.out (ZB.out.trans (BZ.out.mono ZB.out.size)) (by have := BZ.out.size; rw [ZS.out] at this; exact this) (HT.out.below WA.out) HT0.out HHAD.out rfl HN.out O7.out B7.out (.slice (some ⟨g, 0, none⟩) (j + 1) cap) (.slice A K.length c) (.slice (some ⟨g, 0, none⟩) (j + 1) cap)
        exact hfin

theorem rtouch_any (E D : Nat → Prop) (A : Option Addr) (c : Nat) (es : List (List Value)) (B : Option Addr) (d : Nat) (gs : List (List Value)) (K : List ByteArray) (T : ByteArray → TD) (G : List ED) (k : ByteArray) (w : World) (h : RV w E D A c es B d gs K T G) (hG : G.length ≤ 1000000) :
    Calls Try.prog 75 #[.agg #[.slice A K.length c, .slice B G.length d], .string k] w fun e w' => RPost w E D K T (touchG K T G k) e w' := by
  unfold touchG
  by_cases hin : k ∈ G.map ED.key
  · rw [if_pos hin]
    refine (rtouch_old E D A c es B d gs K T G k w h hin).mono ?_
    rintro e w' ⟨rfl, hb⟩
    exact ⟨A, c, es, B, d, gs, rfl, (h.below hb).wider (fun b _ hE => .inl hE) (fun b hb' => hb'.elim (fun h' => Nat.lt_of_lt_of_le (h.elt b h') hb.size) (fun h' => h'.2)), hb⟩
  · rw [if_neg hin]
    exact rtouch_new E D A c es B d gs K T G k w h hin hG
end Go.Proofs.Ytochdmbjlemfoaa
