/-
  A store of cells: contracts of Mark, Group, touches. Of any store in memory.
-/
import Derived.Test.YtjkofndnhmfnoaaDoorC5
namespace Go.Proofs.YtjkofndnhmfnoaaDoor
open Go Go.RowKit Go.Maps Go.ChangeMaps

theorem cg_grown {w w' : World} {b : Nat} (h : w.grownBy w' (some b)) : Chg (fun j => j = b) w w' := ⟨h.os, h.tape, h.output, h.size, fun k hk hS => h.block k hk (fun e => hS (by injection e))⟩
theorem cg_turned {w w' : World} {b : Nat} (h : w.mapTurned w' b) : Chg (fun j => j = b) w w' := cg_grown h.grown
/-- The map's bound is its size. -/
theorem tightS {H : Type} {P : Program} {k : TypeId} {R : Value → Option (DataW H × List MemPlace)} {w : World} {b n m : Nat} {D : DataW H} (h : w.ownsMap P k R b n D) (hm : Maps.size D = m) : w.ownsMap P k R b m D := by
  obtain ⟨es, clock, hb, Ft, hs, rfl⟩ := h
  refine ⟨es, clock, hb, Ft, ?_, rfl⟩
  have e1 : Maps.size (DataW.map ((es.toList.map (WideElems.rg P k R)).foldr DataW.insert [])) = es.size := by simp [Maps.size, length_sorted]
  omega
theorem ownsRow_heap {w w' : World} {base : Nat} {e : TypeId} {size : Nat} {v : Value} {n : Nat} {xs : List Value} (hh : w'.heap = w.heap) (h : w.ownsRow base e size v n xs) : w'.ownsRow base e size v n xs := by
  refine ⟨h.1, h.2.imp id ?_⟩
  rintro ⟨g, cap, cur, rfl, h1, h2, h3⟩
  exact ⟨g, cap, cur, rfl, h1, by rw [hh]; exact h2, h3⟩
/-- append of one entry, at a step of a region that draws: the entry lies in a block that was laid last. -/
theorem step_entry {ops : Array Oper} {o : Oper} {a : Act} {w : World} {K : Act → World → Prop} {Q : Exit → Act → World → Prop} {E : Prop} (w1 : World) (news : Array Value) (gv : Value) (n : Nat) (xs : List Value)
    (hrow : w1.ownsRow 0 129 16 gv n xs) (hl : news.size = 16) (h1 : ∀ u ∈ news.toList, u.oneCell' = true) (hn : n ≤ 1000000) (hw : w.heap = (w1.alloc (.cells news 129)).heap)
    (hgd : o.guard = none) (s x : Operand) (ho : o.op = .call { callee := .builtin .append, args := #[s, x], argTypes := #[75, 75] }) (hs : a.eval s = gv) (hx : a.eval x = .slice (some ⟨w1.heap.size, 0, none⟩) 1 1)
    (h : ∀ g cap w', w'.ownsRow 0 129 16 (.slice (some ⟨g, 0, none⟩) (n + 1) cap) (n + 1) (xs ++ news.toList) → w.grownBy w' gv.ownBlock → (gv.ownBlock = some g ∨ g = w1.heap.size + 1) → g < w'.heap.size → K (a.put o.dst (.slice (some ⟨g, 0, none⟩) (n + 1) cap)) w') :
    if Region.wanted o (yielded ops a.tmps) = true then Oper.wp Tryd.prog o a w K Q else E := by
  obtain ⟨i0, z, hi, hz, hz1, hz2, hz3⟩ := entParts
  have hb : w.heap[w1.heap.size]? = some (.cells news 129 (0, 0)) := by rw [hw]; exact heap_alloc_new _ _
  exact step_append_lies w hgd s x 75 ho 0 129 i0 z 16 256 Tryd.underlying75 hi hz hz1 hz2 hz3 (by omega) gv n xs hs (ownsRow_heap hw (hrow.alloc _)) ⟨w1.heap.size, 0, none⟩ 1 1 news.toList hx (by simpa using hl) (World.news_of_block hb) h1 (by omega) (by unfold maxLen; omega) (by omega) (Nat.zero_le _) (w1.heap.size + 1) (by rw [hw]; simp) h
theorem upd_const (k : ByteArray) (v : Value) : upd (fun _ => v) k v = fun _ => v := by
  funext x
  simp [upd]
theorem sm_row {w : World} {own D : Nat → Prop} {r : Nat} {K : List ByteArray} {T : ByteArray → TD} {G : List ED} {bt bh : Nat} {gv : Value} {f : ByteArray → Value} {Kh : List ByteArray} {es : List (List Value)} (h : SM w own D r K T G bt bh gv f Kh es) :
    ∃ A c, gv = .slice A G.length c ∧ Rd w (fun b => 0 ≤ b) 16 A G.length c es := Rd.of_own h.row h.ents.1 h.ents.ok

theorem map_not_row {w : World} {b g base n k m : Nat} {t : TypeId} {gv : Value} {xs : List Value} {H : Type} {P : Program} {kt : TypeId} {R : Value → Option (DataW H × List MemPlace)} {D : DataW H} (hm : w.ownsMap P kt R b m D) (hr : w.ownsRow base t k gv n xs) (hg : gv.ownBlock = some g) : b ≠ g := by
  rintro rfl
  rcases hr.2 with ⟨hn, _⟩ | ⟨g', cap, cur, hv, _, hh, _⟩
  · rw [hn] at hg; cases hg
  · rw [hv] at hg
    simp only [Value.ownBlock, Option.some.injEq] at hg
    subst hg
    obtain ⟨_, _, hb, _⟩ := hm
    rw [hh] at hb
    simp at hb
/-- What a touch leaves. -/
theorem sk_touched {w w1 wb w3 w' : World} {own D : Nat → Prop} {r : Nat} {K : List ByteArray} {T : ByteArray → TD} {G : List ED} {bt bh : Nat} {gv : Value} {f : ByteArray → Value} {Kh : List ByteArray} {es : List (List Value)} (h : SM w own D r K T G bt bh gv f Kh es)
    {k : ByteArray} {ts : List Value} {had : Bool} {news : Array Value} {g cap : Nat} (hts : TIs w D ts (getT K T k)) (hhad : had = decide (k ∈ K)) (hnews : news.toList = [.string k] ++ ts ++ [.bool had])
    (hcw : Chg (fun j => j = bh) w w1) (hom : w1.ownsMap Tryd.prog 9 heldR bh (Kh.length + 1) (smap (insKS k Kh) (upd (fun _ => .bool true) k (.bool true))))
    (hwb : wb.heap = (w1.alloc (.cells news 129)).heap) (h1 : wb.os = w1.os) (h2 : wb.tape = w1.tape) (h3 : wb.output = w1.output)
    (hown : w3.ownsRow 0 129 16 (.slice (some ⟨g, 0, none⟩) (G.length + 1) cap) (G.length + 1) (es.flatten ++ news.toList)) (hg : wb.grownBy w3 gv.ownBlock) (hat : gv.ownBlock = some g ∨ g = w1.heap.size + 1) (hlt : g < w3.heap.size)
    (hf : w'.heap = (w3.setCell ⟨r, 1, none⟩ (.slice (some ⟨g, 0, none⟩) (G.length + 1) cap)).heap) (h4 : w'.os = w3.os) (h5 : w'.tape = w3.tape) (h6 : w'.output = w3.output) :
    ∃ own', SK w' own' D r K T (G ++ [⟨k, getT K T k, decide (k ∈ K)⟩]) ∧ Grow own own' w w' := by
  have hrw : r < w.heap.size := lt_of_block h.hdr
  have hz1 := hcw.size
  have hzb : wb.heap.size = w1.heap.size + 1 := by rw [hwb]; simp
  have cb : Chg (fun _ => False) w1 wb := ⟨h1, h2, h3, by omega, fun i hi _ => by rw [hwb]; exact Below.heap_alloc w1 _ i hi⟩
  have cg : Chg (fun j => gv.ownBlock = some j) wb w3 := ⟨hg.os, hg.tape, hg.output, hg.size, fun i hi hn => hg.block i hi (fun e => hn e.symm)⟩
  have cs : Chg (fun j => j = r) w3 w' := ⟨h4, h5, h6, by rw [hf]; simp [World.setCell], fun i _ hn => by rw [hf]; exact Below.heap_setCell _ _ _ _ hn⟩
  have c13 : Chg (fun j => gv.ownBlock = some j) w1 w3 := (cb.mono (fun _ _ h => h.elim)).trans cg
  have c1' : Chg (fun j => j = r ∨ gv.ownBlock = some j) w1 w' := (c13.mono (fun _ _ h => .inr h)).trans (cs.mono (fun _ _ h => .inl h))
  have cw' : Chg (fun j => j = bh ∨ j = r ∨ gv.ownBlock = some j) w w' := (hcw.mono (fun _ _ h => .inl h)).trans (c1'.mono (fun _ _ h => .inr h))
  have co : Chg own w w' := cw'.mono (fun j _ hj => by
    rcases hj with rfl | rfl | hj
    · exact h.owh
    · exact h.owr
    · exact h.owg _ hj)
  have hd3 : w3.heap[r]? = some (.cells #[.map (some bt), gv, .map (some bh)] 77 (0, 0)) := (c13.block r (by omega) h.ner).trans ((hcw.block r hrw h.rh).trans h.hdr)
  have hgr : g ≠ r := by
    rintro rfl
    rcases hat with hat | hat
    · exact h.ner hat
    · omega
  have hEnt : EntIs w' D news.toList ⟨k, getT K T k, decide (k ∈ K)⟩ := ⟨ts, by rw [hnews, hhad], hts.chg co h.dis⟩
  refine ⟨fun b => own b ∨ b = g, ⟨bt, bh, .slice (some ⟨g, 0, none⟩) (G.length + 1) cap, f, insKS k Kh, es ++ [news.toList], ?_⟩, co, fun b hb => by
    rcases hb with hb | hb
    · exact .inl hb
    · subst hb
      rcases hat with hat | hat
      · exact .inl (h.owg _ hat)
      · right; omega⟩
  · exact {
      hdr := by rw [hf]; exact heap_setCell_same w3 r 1 _ _ _ hd3
      mt := ownsMap_chg h.mt cw' (fun e => by
        rcases e with e | e | e
        · exact h.ne e
        · exact h.rt e.symm
        · exact map_not_row h.mt h.row e rfl)
      mh := by
        have := ownsMap_chg hom c1' (fun e => by
          rcases e with e | e
          · exact h.rh e.symm
          · exact map_not_row h.mh h.row e rfl)
        rw [upd_const] at this
        exact tightS this (smap_size _ _)
      row := by
        have := ownsRow_chg hown cs (fun g' hg' => by simp only [Value.ownBlock, Option.some.injEq] at hg'; subst hg'; exact hgr)
        rw [List.length_append, List.flatten_append]
        simpa using this
      ne := h.ne
      ner := by simpa [Value.ownBlock] using hgr
      owr := .inl h.owr
      owt := .inl h.owt
      owh := .inl h.owh
      owg := fun g' hg' => by simp only [Value.ownBlock, Option.some.injEq] at hg'; exact .inr hg'.symm
      lt := fun b hb => by
        have e1 := cs.size
        have e2 := co.size
        rcases hb with hb | hb
        · have := h.lt b hb; omega
        · omega
      dlt := fun b hb => Nat.lt_of_lt_of_le (h.dlt b hb) co.size
      dis := fun b hb ho => by
        rcases ho with ho | ho
        · exact h.dis b hb ho
        · subst ho
          rcases hat with hat | hat
          · exact h.dis _ hb (h.owg _ hat)
          · have := h.dlt _ hb; omega
      rise := h.rise
      sz := h.sz
      things := fun x hx => by
        obtain ⟨ts', e1, e2⟩ := h.things x hx
        exact ⟨ts', e1, e2.chg co h.dis⟩
      ents := ⟨by simp [h.ents.1], fun i e E he hE => by
        have hh := h.ents.chg co h.dis
        rcases Nat.lt_trichotomy i es.length with hlt' | heq | hgt
        · rw [List.getElem?_append_left hlt'] at he
          rw [List.getElem?_append_left (by rw [← h.ents.1]; exact hlt')] at hE
          exact hh.2 i e E he hE
        · subst heq
          rw [List.getElem?_append_right (Nat.le_refl _), Nat.sub_self] at he
          rw [h.ents.1, List.getElem?_append_right (Nat.le_refl _), Nat.sub_self] at hE
          simp at he hE
          subst he hE
          exact hEnt
        · rw [List.getElem?_eq_none (by simp; omega)] at he
          cases he⟩
      keys := fun x => by
        rw [mem_insKS, h.keys x, List.map_append, List.mem_append]
        simp [or_comm]
      hle := by
        have := insKS_len k Kh
        have := h.hle
        simp; omega }
/-- The group behind a touch. -/
def touchG (K : List ByteArray) (T : ByteArray → TD) (G : List ED) (k : ByteArray) : List ED := if k ∈ G.map ED.key then G else G ++ [⟨k, getT K T k, decide (k ∈ K)⟩]

theorem ctouches_old (own D : Nat → Prop) (r : Nat) (K : List ByteArray) (T : ByteArray → TD) (G : List ED) (k : ByteArray) (w : World) (h : SK w own D r K T G) (hk : k.size ≤ maxLen) (hin : k ∈ G.map ED.key) :
    Calls Tryd.prog 80 #[.pointer (some ⟨r, 0, none⟩), .string k] w fun e w' => e = .returned (.tuple #[]) ∧ w = w' := by
  obtain ⟨bt, bh, gv, f, Kh, es, h⟩ := h
  have c2 := h.c2
  have hlk := look_bool h.mh hk
  rw [decide_eq_true ((h.keys k).2 hin)] at hlk
  clear h hin
  go_enter Tryd.func80, Tryd.ntmps80
  go_wp2
  go_end0
  exact ⟨rfl, rfl⟩
set_option maxRecDepth 100000 in
set_option maxHeartbeats 3200000 in
theorem ctouches_new (own D : Nat → Prop) (r : Nat) (K : List ByteArray) (T : ByteArray → TD) (G : List ED) (k : ByteArray) (w : World) (h : SK w own D r K T G) (hk : k.size ≤ maxLen) (hin : ¬ k ∈ G.map ED.key) (hG : G.length ≤ 1000000) :
    Calls Tryd.prog 80 #[.pointer (some ⟨r, 0, none⟩), .string k] w fun e w' => e = .returned (.tuple #[]) ∧ ∃ own', SK w' own' D r K T (G ++ [⟨k, getT K T k, decide (k ∈ K)⟩]) ∧ Grow own own' w w' := by
  obtain ⟨bt, bh, gv, f, Kh, es, h⟩ := h
  have c0 := h.c0
  have c1 := h.c1
  have c2 := h.c2
  have f1 := h.fz 1
  have hlb := look_bool h.mh hk
  rw [decide_eq_false (fun hh => hin ((h.keys k).1 hh))] at hlb
  have hlt := look_thing h.mt hk
  obtain ⟨A1, n1, k1, A2, n2, k2, A3, n3, k3, A4, n4, k4, A5, n5, k5, t, hts, hval⟩ : ∃ A1 n1 k1 A2 n2 k2 A3 n3 k3 A4 n4 k4 A5 n5 k5 t, TIs w D (tL t A1 n1 k1 A2 n2 k2 A3 n3 k3 A4 n4 k4 A5 n5 k5) (getT K T k) ∧ (if k ∈ K then f k else .agg (numE 0 0).toArray) = .agg (tL t A1 n1 k1 A2 n2 k2 A3 n3 k3 A4 n4 k4 A5 n5 k5).toArray := by
    by_cases hm : k ∈ K
    · obtain ⟨ts, e1, ht⟩ := h.things k hm
      obtain ⟨A1, n1, c1, A2, n2, c2, A3, n3, c3, A4, n4, c4, A5, n5, c5, rfl⟩ := ht.full
      exact ⟨A1, n1, c1, A2, n2, c2, A3, n3, c3, A4, n4, c4, A5, n5, c5, T k, getT_pos hm ht, by rw [if_pos hm, e1]; rfl⟩
    · exact ⟨none, 0, 0, none, 0, 0, none, 0, 0, none, 0, 0, none, 0, 0, tz, getT_neg hm, by rw [if_neg hm]; rfl⟩
  rw [hval] at hlt
  unfold tL at hlt
  obtain ⟨had, hhad⟩ : ∃ b, b = decide (k ∈ K) := ⟨_, rfl⟩
  rw [← hhad] at hlt
  have HTS := Lib.hid hts
  have HHAD := Lib.hid hhad
  have H := Lib.hid h
  clear h hts hval hhad
  go_enter Tryd.func80, Tryd.ntmps80
  go_upto_region 2 with fail
  obtain ⟨wa, hwa⟩ : ∃ wa, wa = w.alloc (.cells (tL t A1 n1 k1 A2 n2 k2 A3 n3 k3 A4 n4 k4 A5 n5 k5).toArray 53) := ⟨_, rfl⟩
  have hba : wa.heap[w.heap.size]? = some (.cells (tL t A1 n1 k1 A2 n2 k2 A3 n3 k3 A4 n4 k4 A5 n5 k5).toArray 53 (0, 0)) := by rw [hwa]; exact heap_alloc_new _ _
  have hbw : Below w.heap.size w wa := by rw [hwa]; exact (Below.refl _ w).alloc (Nat.le_refl _) _
  have hza : wa.heap.size = w.heap.size + 1 := by rw [hwa]; simp
  have e := hwa.symm
  unfold tL at e
  rw [e]
  have BX := Lib.hid hba
  have BW := Lib.hid hbw
  have MA := Lib.hid (ownsMap_chg (S := fun _ => False) H.out.mh (Chg.of_below hbw) (fun h => h))
  have ZA := Lib.hid hza
  have C2 := Lib.hid (below_cell hbw c2)
  have c2a := below_cell hbw c2
  clear e hwa hba hbw hza c0 c2 hlb hlt
  go_upto_region 3 with (at_mapUpdate; refine wpList_mapUpdate_own _ rfl _ _ _ 74 rfl 9 4 slaw Tryd.underlying74 heldR bh Kh.length (smap Kh fun _ => .bool true) rfl MA.out (by have := H.out.hle; unfold maxLen; omega) (.string k) (.bool true) (.string (kb k)) rfl rfl (keyS hk) (.held (.bool true)) [] rfl ?_; intro w1 hown1 hgrow1)
  rw [smap_put] at hown1
  have hrb := H.out.rh
  have hc1 := cg_grown hgrow1
  have hrw : r < w.heap.size := lt_of_block H.out.hdr
  have hbhw : bh < w.heap.size := H.out.mh.lt
  have hz1' : w.heap.size + 1 ≤ w1.heap.size := by have := hgrow1.size; have := ZA.out; omega
  have hcw : Chg (fun j => j = bh) w w1 := (Chg.of_below BW.out).trans hc1
  have hd1 : w1.heap[r]? = some (.cells #[.map (some bt), gv, .map (some bh)] 77 (0, 0)) := (hcw.block r hrw hrb).trans H.out.hdr
  have hb1 : w1.heap[w.heap.size]? = some (.cells (tL t A1 n1 k1 A2 n2 k2 A3 n3 k3 A4 n4 k4 A5 n5 k5).toArray 53 (0, 0)) := (hc1.block w.heap.size (by rw [ZA.out]; omega) (by omega)).trans BX.out
  have d1 : w1.cell? ⟨r, 1, none⟩ = some gv := by rw [cell_of_row w1 r 1 _ _ _ hd1]; rfl
  have g1 : w1.frozen? ⟨r, 1, none⟩ = false := by unfold World.frozen?; rw [hd1]; rfl
  have b0 : w1.cell? ⟨w.heap.size, 0, none⟩ = some (.int .u8 t.kind) := by rw [cell_of_row w1 _ 0 _ _ _ hb1]; rfl
  have b1 : w1.cell? ⟨w.heap.size, 1, none⟩ = some (.bool t.v.char) := by rw [cell_of_row w1 _ 1 _ _ _ hb1]; rfl
  have b2 : w1.cell? ⟨w.heap.size, 2, none⟩ = some (.slice A1 n1 k1) := by rw [cell_of_row w1 _ 2 _ _ _ hb1]; rfl
  have b3 : w1.cell? ⟨w.heap.size, 3, none⟩ = some (.slice A2 n2 k2) := by rw [cell_of_row w1 _ 3 _ _ _ hb1]; rfl
  have b4 : w1.cell? ⟨w.heap.size, 4, none⟩ = some (.string t.f.name) := by rw [cell_of_row w1 _ 4 _ _ _ hb1]; rfl
  have b5 : w1.cell? ⟨w.heap.size, 5, none⟩ = some (.string t.f.result) := by rw [cell_of_row w1 _ 5 _ _ _ hb1]; rfl
  have b6 : w1.cell? ⟨w.heap.size, 6, none⟩ = some (.string t.f.left) := by rw [cell_of_row w1 _ 6 _ _ _ hb1]; rfl
  have b7 : w1.cell? ⟨w.heap.size, 7, none⟩ = some (.string t.f.right) := by rw [cell_of_row w1 _ 7 _ _ _ hb1]; rfl
  have b8 : w1.cell? ⟨w.heap.size, 8, none⟩ = some (.slice A3 n3 k3) := by rw [cell_of_row w1 _ 8 _ _ _ hb1]; rfl
  have b9 : w1.cell? ⟨w.heap.size, 9, none⟩ = some (.slice A4 n4 k4) := by rw [cell_of_row w1 _ 9 _ _ _ hb1]; rfl
  have b10 : w1.cell? ⟨w.heap.size, 10, none⟩ = some (.int .i64 t.f.version) := by rw [cell_of_row w1 _ 10 _ _ _ hb1]; rfl
  have b11 : w1.cell? ⟨w.heap.size, 11, none⟩ = some (.slice A5 n5 k5) := by rw [cell_of_row w1 _ 11 _ _ _ hb1]; rfl
  have b12 : w1.cell? ⟨w.heap.size, 12, none⟩ = some (.int .i64 t.n) := by rw [cell_of_row w1 _ 12 _ _ _ hb1]; rfl
  have b13 : w1.cell? ⟨w.heap.size, 13, none⟩ = some (.string t.s) := by rw [cell_of_row w1 _ 13 _ _ _ hb1]; rfl
  have R1 := Lib.hid (ownsRow_chg H.out.row hcw (fun g hg e => by
    rcases H.out.row.2 with ⟨hn, _⟩ | ⟨g', cap, cur, hv, _, hh, _⟩
    · rw [hn] at hg; cases hg
    · rw [hv] at hg
      simp only [Value.ownBlock, Option.some.injEq] at hg
      subst hg
      obtain ⟨_, _, hb, _⟩ := H.out.mh
      rw [← e, hh] at hb
      simp at hb))
  have hne1 : RowKit.Hid (some r ≠ gv.ownBlock) := fun e => H.out.ner e.symm
  have hne2 : RowKit.Hid (some w.heap.size ≠ gv.ownBlock) := fun e => by have := H.out.lt _ (H.out.owg _ e.symm); omega
  have FZ : RowKit.Hid (∀ (wb w3 : World), wb.heap = (w1.alloc (.cells #[.string k, .int .u8 t.kind, .bool t.v.char, .slice A1 n1 k1, .slice A2 n2 k2, .string t.f.name, .string t.f.result, .string t.f.left, .string t.f.right, .slice A3 n3 k3, .slice A4 n4 k4, .int .i64 t.f.version, .slice A5 n5 k5, .int .i64 t.n, .string t.s, .bool had] 129)).heap → wb.grownBy w3 gv.ownBlock → w3.frozen? ⟨r, 1, none⟩ = false ∧ w3.cell? ⟨r, 1, none⟩ = some gv) := fun wb w3 hwb hg => by
    have hzb : wb.heap.size = w1.heap.size + 1 := by rw [hwb]; simp
    have hbb : wb.heap[r]? = w1.heap[r]? := by rw [hwb]; exact Below.heap_alloc w1 _ r (by omega)
    rw [hg.frozen_far _ (by simp; omega) hne1.out, hg.cell_far _ (by simp; omega) hne1.out]
    exact ⟨(World.frozen?_of_block hbb).trans g1, (World.cell?_of_block (a := ⟨r, 1, none⟩) hbb).trans d1⟩
  have d1a : ∀ o, (w1.alloc o).cell? ⟨r, 1, none⟩ = some gv := fun o => below_cell ((Below.refl _ w1).alloc (Nat.le_refl _) o) d1
  have OM := Lib.hid hown1
  have CW := Lib.hid hcw
  have HD1 := Lib.hid hd1
  obtain ⟨i0, z, hi, hz, hz1, hz2, hz3⟩ := entParts
  clear hown1 hgrow1 hc1 hcw hd1 hb1 c2a f1 c1 hrb
  go_region_law (refine step_entry w1 #[.string k, .int .u8 t.kind, .bool t.v.char, .slice A1 n1 k1, .slice A2 n2 k2, .string t.f.name, .string t.f.result, .string t.f.left, .string t.f.right, .slice A3 n3 k3, .slice A4 n4 k4, .int .i64 t.f.version, .slice A5 n5 k5, .int .i64 t.n, .string t.s, .bool had] gv G.length es.flatten R1.out rfl (by simp [Value.oneCell']) hG rfl rfl _ _ rfl rfl rfl ?_; intro g cap w3 hown3 hgrow3 hat hlt3; have g3 := FZ.out _ _ (by rfl) hgrow3; obtain ⟨g31, g32⟩ := g3)
  all_goals
    go_end0
    exact ⟨rfl, sk_touched H.out HTS.out HHAD.out (by rfl) CW.out OM.out (by rfl) (by rfl) (by rfl) (by rfl) hown3 hgrow3 hat hlt3 (by rfl) (by rfl) (by rfl) (by rfl)⟩
end Go.Proofs.YtjkofndnhmfnoaaDoor
