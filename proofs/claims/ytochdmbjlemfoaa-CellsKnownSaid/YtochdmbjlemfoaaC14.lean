/-
  A store of cells: contract of Undo. Of any store in memory, any entries that can be read; and of nil ones.
-/
import Derived.Test.YtochdmbjlemfoaaC7
import Derived.Test.YtochdmbjlemfoaaC13
namespace Go.Proofs.Ytochdmbjlemfoaa
open Go Go.RowKit Go.Maps Go.ChangeMaps

/-- What keys there are, and what they have, when entries have been undone, one behind the other. -/
def unK (K : List ByteArray) (L : List ED) : List ByteArray := L.foldl (fun K e => if e.had = true then insKS e.key K else K.filter (· ≠ e.key)) K
def unT (T : ByteArray → TD) (L : List ED) : ByteArray → TD := L.foldl (fun T e => if e.had = true then updT T e.key e.was else T) T
theorem unK_snoc (K : List ByteArray) (L : List ED) (e : ED) : unK K (L ++ [e]) = if e.had = true then insKS e.key (unK K L) else (unK K L).filter (· ≠ e.key) := by simp [unK]
theorem unT_snoc (T : ByteArray → TD) (L : List ED) (e : ED) : unT T (L ++ [e]) = if e.had = true then updT (unT T L) e.key e.was else unT T L := by simp [unT]
theorem unK_len : ∀ (L : List ED) (K : List ByteArray), (unK K L).length ≤ K.length + L.length
  | [], K => by simp [unK]
  | e :: L, K => by
    have h1 := insKS_len e.key K
    have h2 := List.length_filter_le (fun x : ByteArray => decide (x ≠ e.key)) K
    show (unK (if e.had = true then _ else _) L).length ≤ _
    have h3 := unK_len L (if e.had = true then insKS e.key K else K.filter (· ≠ e.key))
    rw [List.length_cons]
    by_cases hh : e.had = true
    · rw [if_pos hh] at h3 ⊢; omega
    · rw [if_neg hh] at h3 ⊢; omega

/-- A store in memory, the block of its things named. -/
def SB (w : World) (own D : Nat → Prop) (r : Nat) (K : List ByteArray) (T : ByteArray → TD) (G : List ED) (bt : Nat) : Prop := ∃ bh gv f Kh es, SM w own D r K T G bt bh gv f Kh es
theorem SB.sk {w : World} {own D : Nat → Prop} {r : Nat} {K : List ByteArray} {T : ByteArray → TD} {G : List ED} {bt : Nat} (h : SB w own D r K T G bt) : SK w own D r K T G := by
  obtain ⟨bh, gv, f, Kh, es, h⟩ := h
  exact ⟨bt, bh, gv, f, Kh, es, h⟩
theorem SB.chg {w w' : World} {S own D : Nat → Prop} {r : Nat} {K : List ByteArray} {T : ByteArray → TD} {G : List ED} {bt : Nat} (h : SB w own D r K T G bt) (hc : Chg S w w') (hS : ∀ b, S b → ¬ own b ∧ ¬ D b) : SB w' own D r K T G bt := by
  obtain ⟨bh, gv, f, Kh, es, h⟩ := h
  have hn : ∀ b, own b → ¬ S b := fun b hb hs => (hS b hs).1 hb
  have hd : ∀ b, D b → ¬ S b := fun b hb hs => (hS b hs).2 hb
  exact ⟨bh, gv, f, Kh, es, {
    hdr := (hc.block r (lt_of_block h.hdr) (hn r h.owr)).trans h.hdr
    mt := ownsMap_chg h.mt hc (hn _ h.owt)
    mh := ownsMap_chg h.mh hc (hn _ h.owh)
    row := ownsRow_chg h.row hc (fun g hg => hn _ (h.owg g hg))
    ne := h.ne, ner := h.ner, owr := h.owr, owt := h.owt, owh := h.owh, owg := h.owg
    lt := fun b hb => Nat.lt_of_lt_of_le (h.lt b hb) hc.size
    dlt := fun b hb => Nat.lt_of_lt_of_le (h.dlt b hb) hc.size
    dis := h.dis, rise := h.rise, sz := h.sz
    things := fun k hk => by
      obtain ⟨ts, h1, h2⟩ := h.things k hk
      exact ⟨ts, h1, h2.chg hc hd⟩
    ents := h.ents.chg hc hd
    keys := h.keys, hle := h.hle }⟩
theorem SB.below {w w' : World} {own D : Nat → Prop} {r : Nat} {K : List ByteArray} {T : ByteArray → TD} {G : List ED} {bt : Nat} (h : SB w own D r K T G bt) (hb : Below w.heap.size w w') : SB w' own D r K T G bt := h.chg (S := fun _ => False) (Chg.of_below hb) (fun _ h => h.elim)
section
variable {w w' : World} {own D : Nat → Prop} {r : Nat} {K : List ByteArray} {T : ByteArray → TD} {G : List ED} {bt bh : Nat} {gv : Value} {f : ByteArray → Value} {Kh : List ByteArray} {es : List (List Value)}
theorem sb_set (h : SM w own D r K T G bt bh gv f Kh es) {k : ByteArray} {ts : List Value} {t : TD} {n : Nat} (hk : k.size ≤ maxLen) (ht : TIs w D ts t) (hg : w.grownBy w' (some bt)) (hm : w'.ownsMap Try.prog 9 heldR bt n ((smap K f).put (.string (kb k)) (.held (.agg ts.toArray)))) :
    SB w' own D r (insKS k K) (updT T k t) G bt ∧ Chg (fun j => j = bt) w w' := by
  rw [smap_put] at hm
  obtain ⟨h1, h2⟩ := h.turn (T' := updT T k t) (cg_grown hg) hm (risS_insKS k K h.rise) (fun x hx => ((mem_insKS k K x).1 hx).elim (fun e => by rw [e]; exact hk) (h.sz x)) (fun x hx => by
    by_cases hxk : x = k
    · subst hxk
      exact ⟨ts, upd_same _ _ _, by rw [updT_same]; exact ht⟩
    · obtain ⟨ts', e1, e2⟩ := h.things x (((mem_insKS k K x).1 hx).resolve_left hxk)
      exact ⟨ts', (upd_other _ _ _ _ hxk).trans e1, by rw [updT_other _ _ _ _ hxk]; exact e2⟩)
  exact ⟨⟨_, _, _, _, _, h1⟩, cg_grown hg⟩
theorem sb_del (h : SM w own D r K T G bt bh gv f Kh es) {k : ByteArray} {n : Nat} (hg : w.mapTurned w' bt) (hm : w'.ownsMap Try.prog 9 heldR bt n ((smap K f).del (.string (kb k)))) :
    SB w' own D r (K.filter (· ≠ k)) T G bt ∧ Chg (fun j => j = bt) w w' := by
  rw [smap_del] at hm
  obtain ⟨h1, h2⟩ := h.turn (T' := T) (cg_turned hg) hm (risS_filter _ _ h.rise) (fun x hx => h.sz x (List.mem_filter.1 hx).1) (fun x hx => h.things x (List.mem_filter.1 hx).1)
  exact ⟨⟨_, _, _, _, _, h1⟩, cg_turned hg⟩
end
theorem keepsFrom_chg {w w' : World} {S : Nat → Prop} {B : Nat} (h : Chg S w w') (hS : ∀ b, S b → b < B) : KeepsFrom B w w' := ⟨h.size, fun k o hB hk _ => (h.block k (Array.getElem?_eq_some_iff.1 hk).1 (fun hs => by have := hS k hs; omega)).trans hk⟩
theorem cg_own {A B : World} {row : Option Nat} (h : A.grownBy B row) : Chg (fun j => row = some j) A B := ⟨h.os, h.tape, h.output, h.size, fun k hk hn => h.block k hk (fun e => hn e.symm)⟩

attribute [local go_sem] Oper.semAt_some

theorem cUndo_nil (A : Option Addr) (n c : Nat) (w : World) : Calls Try.prog 62 #[.pointer none, .slice A n c] w fun e w' => e = .returned (.int .i64 2) ∧ Below w.heap.size w w' := by
  have HB := Lib.hid (fun o => (Below.refl w.heap.size w).alloc (Nat.le_refl _) o)
  go_enter Try.func62, Try.ntmps62
  go_wp2
  go_ret
  exact ⟨rfl, HB.out _⟩
set_option maxRecDepth 100000 in
set_option maxHeartbeats 3200000 in
theorem cUndo_any (own D Dd : Nat → Prop) (r : Nat) (K : List ByteArray) (T : ByteArray → TD) (G : List ED) (A : Option Addr) (n c : Nat) (es : List (List Value)) (L : List ED) (w : World) (h : SK w own D r K T G) (hx : Rd w Dd 16 A n c es) (hE : EntsAre w D es L) (hdd : ∀ b, Dd b → ¬ own b)
    (hks : ∀ e ∈ L, e.key.size ≤ maxLen) (hn : n ≤ 1000000) (hK : K.length ≤ 1000000) :
    Calls Try.prog 62 #[.pointer (some ⟨r, 0, none⟩), .slice A n c] w fun e w' => e = .returned (.int .i64 0) ∧ ∃ own', SK w' own' D r (unK K L.reverse) (unT T L.reverse) [] ∧ Grow own own' w w' := by
  have HX := Lib.hid (hx.mono (D' := fun b => Dd b ∧ b < w.heap.size) (fun b hlt hb => ⟨hb, hlt⟩) (by decide))
  have HE := Lib.hid hE
  have HKS := Lib.hid hks
  have HDD := Lib.hid hdd
  have HOL := Lib.hid h.lt
  have HDL := Lib.hid h.dlt
  have HDI := Lib.hid h.dis
  obtain ⟨bt, h⟩ : ∃ bt, SB w own D r K T G bt := by
    obtain ⟨bt, bh, gv, f, Kh, es', h⟩ := h
    exact ⟨bt, bh, gv, f, Kh, es', h⟩
  have HS := Lib.hid h
  have hbt : own bt := by
    obtain ⟨_, _, _, _, _, h⟩ := h
    exact h.owt
  have HBT := Lib.hid hbt
  clear hx hE hks hdd h hbt
  have HB := Lib.hid (fun o => (Below.refl w.heap.size w).alloc (Nat.le_refl _) o)
  refine (callsIn_wide (n := 9)).1 ?_
  refine callsIn_of_wp_marks Try.func62 rfl trivial ?_ rfl
  simp only [Try.ntmps62, List.size_toArray, List.length_cons, List.length_nil, Nat.reduceAdd, Nat.reduceSub, Array.replicate_succ, Array.replicate_zero, List.push_toArray, List.append_toArray, List.nil_append, List.cons_append]
  have c0 : (w.alloc (.cells #[.pointer (some ⟨r, 0, none⟩)] 85)).cell? ⟨r, 0, none⟩ = some (.map (some bt)) := by
    obtain ⟨_, _, _, _, _, h⟩ := HS.out
    exact below_cell (HB.out _) h.c0
  have C0 := Lib.hid c0
  clear c0
  gi_wp2_with (first
    | (refine ⟨trivial, ?_⟩; gi_at_call 86; refine (callsIn_wide.2 (cready_any r bt _ C0.out)).mono ?_; rintro e w' ⟨rfl, rfl⟩)
    | (refine ⟨trivial, ?_⟩; gi_at_call 87; refine (callsIn_wide.2 (back_any A n c _)).mono ?_; rintro e w' ⟨rfl, rfl⟩))
  obtain ⟨W1, hW1⟩ : ∃ W1, (w.alloc (.cells #[.pointer (some ⟨r, 0, none⟩)] 85)).alloc (.cells #[.slice A n c] 24) = W1 := ⟨_, rfl⟩
  have hsz : W1.heap.size = w.heap.size + 2 := by rw [← hW1]; simp
  have hB1 : Below w.heap.size w W1 := by rw [← hW1]; exact ((Below.refl _ w).alloc (Nat.le_refl _) _).alloc (by simp) _
  have cS : W1.cell? ⟨w.heap.size, 0, none⟩ = some (.pointer (some ⟨r, 0, none⟩)) := by
    rw [← hW1]
    exact below_cell ((Below.refl _ _).alloc (Nat.le_refl _) _) (by rw [cell_of_row _ _ 0 _ _ _ (heap_alloc_new w _)]; rfl)
  have cN : W1.cell? ⟨w.heap.size + 1, 0, none⟩ = some (.slice A n c) := by
    rw [← hW1]
    have := heap_alloc_new (w.alloc (.cells #[.pointer (some ⟨r, 0, none⟩)] 85)) (.cells #[.slice A n c] 24)
    rw [World.size_alloc] at this
    rw [cell_of_row _ _ 0 _ _ _ this]; rfl
  rw [hW1]
  clear hW1
  have hLn : L.length = n := by rw [← HE.out.1]; exact HX.out.len
  have hbtl := HOL.out bt HBT.out
  refine wpIn_rangeFunc_ownH rfl (by decide) (gf := 99) (lb := #[.pointer (some ⟨w.heap.size + 1, 0, none⟩)]) rfl trivial (enters_of Try.func99 (by kernel_rfl) rfl)
    (back_stops 8 (by decide) (w.heap.size + 1) A n c es (fun b => b = bt ∨ W1.heap.size ≤ b) (fun b => Dd b ∧ b < w.heap.size) hn W1 cN (by omega) (HX.out.below hB1) (fun b hb hx => by
      rcases hx with hx | hx
      · exact HDD.out b hb.1 (by rw [hx]; exact HBT.out)
      · have := hb.2; omega))
    (fun h k => h.trans k)
    (fun W l o o' hl h _ _ => ⟨rfl, rfl, rfl, by simp [World.putObj], fun i hi hn => World.putObj_heap_other (fun e => hn (.inr (by omega)))⟩)
    (Below.refl _ _) (fun _ => rfl)
    (fun pre W => SB W own D r (unK K (pre.map fun i => L.getD i zent)) (unT T (pre.map fun i => L.getD i zent)) G bt ∧ W.cell? ⟨w.heap.size, 0, none⟩ = some (.pointer (some ⟨r, 0, none⟩)) ∧ Chg (fun b => b = bt ∨ W1.heap.size ≤ b) W1 W)
    (fun _ _ _ => False)
    (fun s X Y row hs hg hr => by
      obtain ⟨h1, h2, h3⟩ := hs
      have hc := cg_own hg
      refine ⟨h1.chg hc (fun b hb => ?_), hc.cell h2 (fun e => ?_), h3.trans (hc.mono (fun b _ hb => .inr (hr b hb).1))⟩
      · have := (hr b hb).1
        exact ⟨fun h => by have := HOL.out b h; omega, fun h => by have := HDL.out b h; omega⟩
      · have := (hr _ e).1
        simp at this
        omega)
    (fun _ _ _ _ _ hs _ _ => hs)
    ⟨HS.out.below hB1, cS, Chg.refl _ _⟩
    (fun x a' W => ∃ Bx, W1.heap.size ≤ Bx ∧ W.heap[Bx]? = some (.cells (es.getD x zrow).toArray 47 (0, 0)) ∧ a' = { tmps := #[.pointer (some ⟨r, 0, none⟩), .slice A n c, .pointer (some ⟨w.heap.size, 0, none⟩), undef, .int .i64 0, undef, .pointer (some ⟨Bx, 0, none⟩), .pointer (some ⟨r, 0, none⟩), .bool false, .pointer (some ⟨r, 0, none⟩), .tuple #[], .slice A n c, .func (.func 99) #[] #[.pointer (some ⟨w.heap.size + 1, 0, none⟩)], .int .i64 (x : Int), .agg (es.getD x zrow).toArray, undef, undef, undef, undef, undef, undef, undef, undef, undef, undef, undef, undef, undef, undef, undef, undef, undef, undef], defers := [] })
    (fun x a' _ X Y row hs hg hr => by
      obtain ⟨Bx, h1, h2, h3⟩ := hs
      refine ⟨Bx, h1, (hg.block Bx (lt_of_block h2) (fun e => ?_)).trans h2, h3⟩
      obtain ⟨_, o, ho, hc⟩ := hr Bx e.symm
      rw [h2] at ho
      injection ho with ho
      rw [← ho] at hc
      cases hc)
    ?assign ?body ?done ?stop
  case assign =>
    rintro l pre x W K ⟨h1, h2, h3⟩ hK
    obtain ⟨ts, e, ht⟩ := HE.out.getD x
    obtain ⟨A1, n1, c1, A2, n2, c2, A3, n3, c3, A4, n4, c4, A5, n5, c5, rfl⟩ := ht.full
    unfold backE
    rw [e] at hK ⊢
    have H1 := Lib.hid h1
    have H2 := Lib.hid h2
    have H3 := Lib.hid h3
    have hszW := h3.size
    clear h1 h2 h3 e ht
    gi_wp2
    refine hK _ _ ((KeepsOthers.alloc _ _).from _) ((Chg.refl _ W).alloc _) ⟨H1.out.below ((Below.refl _ W).alloc (Nat.le_refl _) _), below_cell ((Below.refl _ W).alloc (Nat.le_refl _) _) H2.out, H3.out.alloc _⟩ ⟨W.heap.size, hszW, heap_alloc_new W _, rfl⟩
  case body =>
    rintro l pre x a' W hl ⟨rr, hr⟩ ⟨h1, h2, h3⟩ ⟨Bx, hBx, hbx, rfl⟩ hlt
    obtain ⟨ts, e, ht⟩ := HE.out.getD x
    obtain ⟨A1, n1, c1, A2, n2, c2, A3, n3, c3, A4, n4, c4, A5, n5, c5, rfl⟩ := ht.full
    have hks : (L.getD x zent).key.size ≤ maxLen := by
      rw [List.getD_eq_getElem?_getD]
      cases hq : L[x]? with
      | none => exact Nat.zero_le _
      | some y => exact HKS.out y (List.mem_of_getElem? hq)
    have hlen : (pre.map fun i => L.getD i zent).length = pre.length := by simp
    have hKl := unK_len (pre.map fun i => L.getD i zent) K
    rw [hlen] at hKl
    have hmapK : unK K ((pre ++ [x]).map fun i => L.getD i zent) = if (L.getD x zent).had = true then insKS (L.getD x zent).key (unK K (pre.map fun i => L.getD i zent)) else (unK K (pre.map fun i => L.getD i zent)).filter (· ≠ (L.getD x zent).key) := by rw [List.map_append]; exact unK_snoc _ _ _
    have hmapT : unT T ((pre ++ [x]).map fun i => L.getD i zent) = if (L.getD x zent).had = true then updT (unT T (pre.map fun i => L.getD i zent)) (L.getD x zent).key (L.getD x zent).was else unT T (pre.map fun i => L.getD i zent) := by rw [List.map_append]; exact unT_snoc _ _ _
    have htW : TIs W D [.int .u8 (L.getD x zent).was.kind, .bool (L.getD x zent).was.v.char, .slice A1 n1 c1, .slice A2 n2 c2, .string (L.getD x zent).was.f.name, .string (L.getD x zent).was.f.result, .string (L.getD x zent).was.f.left, .string (L.getD x zent).was.f.right, .slice A3 n3 c3, .slice A4 n4 c4, .int .i64 (L.getD x zent).was.f.version, .slice A5 n5 c5, .int .i64 (L.getD x zent).was.n, .string (L.getD x zent).was.s] (L.getD x zent).was := (ht.below (hB1.mono (Nat.le_refl _))).chg h3 (fun b hb hx => by
      rcases hx with hx | hx
      · exact HDI.out b hb (by rw [hx]; exact HBT.out)
      · have := HDL.out b hb; omega)
    obtain ⟨K2, hK2⟩ : ∃ K2, K2 = unK K (pre.map fun i => L.getD i zent) := ⟨_, rfl⟩
    obtain ⟨T2, hT2⟩ : ∃ T2, T2 = unT T (pre.map fun i => L.getD i zent) := ⟨_, rfl⟩
    rw [← hK2] at h1 hmapK hKl
    rw [← hT2] at h1 hmapT
    have HMK := Lib.hid hmapK
    have HMT := Lib.hid hmapT
    clear hmapK hmapT hK2 hT2 hlen
    rw [e] at hbx ⊢
    clear e ht
    generalize L.getD x zent = E at *
    have b0 : W.cell? ⟨Bx, 0, none⟩ = some (.string E.key) := by rw [cell_of_row W _ 0 _ _ _ hbx]; rfl
    have b1 : W.cell? ⟨Bx, 1, none⟩ = some (.int .u8 E.was.kind) := by rw [cell_of_row W _ 1 _ _ _ hbx]; rfl
    have b2 : W.cell? ⟨Bx, 2, none⟩ = some (.bool E.was.v.char) := by rw [cell_of_row W _ 2 _ _ _ hbx]; rfl
    have b3 : W.cell? ⟨Bx, 3, none⟩ = some (.slice A1 n1 c1) := by rw [cell_of_row W _ 3 _ _ _ hbx]; rfl
    have b4 : W.cell? ⟨Bx, 4, none⟩ = some (.slice A2 n2 c2) := by rw [cell_of_row W _ 4 _ _ _ hbx]; rfl
    have b5 : W.cell? ⟨Bx, 5, none⟩ = some (.string E.was.f.name) := by rw [cell_of_row W _ 5 _ _ _ hbx]; rfl
    have b6 : W.cell? ⟨Bx, 6, none⟩ = some (.string E.was.f.result) := by rw [cell_of_row W _ 6 _ _ _ hbx]; rfl
    have b7 : W.cell? ⟨Bx, 7, none⟩ = some (.string E.was.f.left) := by rw [cell_of_row W _ 7 _ _ _ hbx]; rfl
    have b8 : W.cell? ⟨Bx, 8, none⟩ = some (.string E.was.f.right) := by rw [cell_of_row W _ 8 _ _ _ hbx]; rfl
    have b9 : W.cell? ⟨Bx, 9, none⟩ = some (.slice A3 n3 c3) := by rw [cell_of_row W _ 9 _ _ _ hbx]; rfl
    have b10 : W.cell? ⟨Bx, 10, none⟩ = some (.slice A4 n4 c4) := by rw [cell_of_row W _ 10 _ _ _ hbx]; rfl
    have b11 : W.cell? ⟨Bx, 11, none⟩ = some (.int .i64 E.was.f.version) := by rw [cell_of_row W _ 11 _ _ _ hbx]; rfl
    have b12 : W.cell? ⟨Bx, 12, none⟩ = some (.slice A5 n5 c5) := by rw [cell_of_row W _ 12 _ _ _ hbx]; rfl
    have b13 : W.cell? ⟨Bx, 13, none⟩ = some (.int .i64 E.was.n) := by rw [cell_of_row W _ 13 _ _ _ hbx]; rfl
    have b14 : W.cell? ⟨Bx, 14, none⟩ = some (.string E.was.s) := by rw [cell_of_row W _ 14 _ _ _ hbx]; rfl
    have b15 : W.cell? ⟨Bx, 15, none⟩ = some (.bool E.had) := by rw [cell_of_row W _ 15 _ _ _ hbx]; rfl
    obtain ⟨bh, gv, f, Kh, es2, hm⟩ := h1
    have c0 := hm.c0
    have M1 := Lib.hid hm
    have H3 := Lib.hid h3
    have H2 := Lib.hid h2
    have HT := Lib.hid htW
    have hKb : K2.length ≤ 3000000 := by omega
    clear hm h3 htW hr hbx hKl hl hlt
    cases hh : E.had with
    | false =>
      rw [hh] at b15
      have HM1 : RowKit.Hid (unK K ((pre ++ [x]).map fun i => L.getD i zent) = K2.filter (· ≠ E.key)) := by show _ = _; rw [HMK.out, hh]; rfl
      have HM2 : RowKit.Hid (unT T ((pre ++ [x]).map fun i => L.getD i zent) = T2) := by show _ = _; rw [HMT.out, hh]; rfl
      clear hh
      gi_wp2
      refine inRound_still_tail l _ 6 (by kernel_rfl) (by kernel_rfl) (by kernel_rfl) (by rintro ⟨_, _, h⟩; exact h) ?_
      simp only [List.take_succ_cons, List.take_zero, List.drop_succ_cons, List.drop_zero]
      repeat still_step
      try refine wpStill_nil ?_
      change wpList _ _ _ _ _ W.drew
      go_wp2_with (at_delete; refine wpList_delete_own _ rfl _ _ 116 9 rfl 45 slaw Try.underlying116 heldR bt K2.length (smap K2 f) rfl M1.out.mt.drew (.string E.key) (.string (kb E.key)) rfl (keyS hks) ?_; intro w2 hown2 hturn2)
      obtain ⟨s1, s2⟩ := sb_del M1.out.drew hturn2 hown2
      have s3 : Chg (fun j => j = bt) W w2 := (Chg.refl _ W).drew.trans s2
      exact ⟨keepsFrom_chg s3 (fun b hb => by omega), s3.mono (fun b _ hb => .inl hb), by rw [HM1.out, HM2.out]; exact s1, s3.cell H2.out (by simp only; omega), H3.out.trans (s3.mono (fun b _ hb => .inl hb))⟩
    | true =>
      rw [hh] at b15
      have HM1 : RowKit.Hid (unK K ((pre ++ [x]).map fun i => L.getD i zent) = insKS E.key K2) := by show _ = _; rw [HMK.out, hh]; rfl
      have HM2 : RowKit.Hid (unT T ((pre ++ [x]).map fun i => L.getD i zent) = updT T2 E.key E.was) := by show _ = _; rw [HMT.out, hh]; rfl
      clear hh
      gi_wp2
      refine inRound_still_tail l _ 8 (by kernel_rfl) (by kernel_rfl) (by kernel_rfl) (by rintro ⟨_, _, h⟩; exact h) ?_
      simp only [List.take_succ_cons, List.take_zero, List.drop_succ_cons, List.drop_zero]
      repeat still_step
      try refine wpStill_nil ?_
      change wpList _ _ _ _ _ W.drew
      go_wp2_with (at_mapUpdate; refine wpList_mapUpdate_own _ rfl _ _ _ 116 rfl 9 45 slaw Try.underlying116 heldR bt K2.length (smap K2 f) rfl M1.out.mt.drew (by unfold maxLen; omega) (.string E.key) (.agg #[.int .u8 E.was.kind, .bool E.was.v.char, .slice A1 n1 c1, .slice A2 n2 c2, .string E.was.f.name, .string E.was.f.result, .string E.was.f.left, .string E.was.f.right, .slice A3 n3 c3, .slice A4 n4 c4, .int .i64 E.was.f.version, .slice A5 n5 c5, .int .i64 E.was.n, .string E.was.s]) (.string (kb E.key)) rfl rfl (keyS hks) (.held (.agg #[.int .u8 E.was.kind, .bool E.was.v.char, .slice A1 n1 c1, .slice A2 n2 c2, .string E.was.f.name, .string E.was.f.result, .string E.was.f.left, .string E.was.f.right, .slice A3 n3 c3, .slice A4 n4 c4, .int .i64 E.was.f.version, .slice A5 n5 c5, .int .i64 E.was.n, .string E.was.s])) [] rfl ?_; intro w2 hown2 hgrow2)
      obtain ⟨s1, s2⟩ := sb_set M1.out.drew hks (HT.out.chg (Chg.refl own W).drew M1.out.dis) hgrow2 hown2
      have s3 : Chg (fun j => j = bt) W w2 := (Chg.refl _ W).drew.trans s2
      exact ⟨keepsFrom_chg s3 (fun b hb => by omega), s3.mono (fun b _ hb => .inl hb), by rw [HM1.out, HM2.out]; exact s1, s3.cell H2.out (by simp only; omega), H3.out.trans (s3.mono (fun b _ hb => .inl hb))⟩
  case done =>
    rintro Dk ys W hD rfl ⟨h1, h2, h3⟩ hK
    have hm := came_map L zent
    rw [hLn] at hm
    rw [hm] at h1
    have HSB := Lib.hid h1.sk
    have H3 := Lib.hid h3
    have HK0 := Lib.hid hK
    clear h1 h3 hK hm
    gi_wp2_with (refine ⟨trivial, ?_⟩; gi_at_call 63; refine (callsIn_wide.2 (cMark_any own D r _ _ G W HSB.out)).mono ?_; rintro e w' ⟨rfl, own', s1, s2⟩)
    have hK' : w'.heap[Dk]? = some (.deferred (some [])) := (s2.chg.block Dk (lt_of_block HK0.out) (fun ho => by have := HOL.out Dk ho; omega)).trans HK0.out
    have hgr : Chg (fun j => j = Dk) w' (w'.putObj Dk (.deferred none)) := ⟨rfl, rfl, rfl, by simp [World.putObj], fun i hi hn => World.putObj_heap_other (fun e => hn e)⟩
    refine ⟨by simp, .inl ⟨_, _, rfl, run_takeDeferred hK', ?_⟩⟩
    have hDo : ¬ own' Dk := fun ho => by
      rcases s2.new Dk ho with h | h
      · have := HOL.out Dk h; omega
      · have := lt_of_block HK0.out; omega
    refine ⟨_, results_tmp rfl _ _ _, rfl, own', s1.chg hgr (fun b hb => ⟨fun h => hDo (by rw [← hb]; exact h), fun h => by have := HDL.out b h; omega⟩), ?_⟩
    have g1 : Grow own own w W := ⟨(Chg.of_below hB1).trans (H3.out.mono (fun b hb hx => hx.elim (fun e => by rw [e]; exact HBT.out) (fun e => by omega))), fun b h => .inl h⟩
    have gt := g1.trans s2
    exact ⟨⟨hgr.os.trans gt.chg.os, hgr.tape.trans gt.chg.tape, hgr.output.trans gt.chg.output, Nat.le_trans gt.chg.size hgr.size, fun i hi hn => (hgr.block i (Nat.lt_of_lt_of_le hi gt.chg.size) (fun e => by omega)).trans (gt.chg.block i hi hn)⟩, gt.new⟩
  case stop =>
    rintro D c pre W _ _ h _
    exact h.elim
end Go.Proofs.Ytochdmbjlemfoaa
