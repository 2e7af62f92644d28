/-
  A store of cells: look-ups; contracts of Get, ready, Mark, Group. Of any store in memory, and of nil ones.
-/
import Derived.Test.YtjkofndnhmfnoaaDoorC2
import Derived.Deep.DeepCutAuto
namespace Go.Proofs.YtjkofndnhmfnoaaDoor
open Go Go.RowKit Go.Maps Go.ChangeMaps
theorem two_below (w : World) (o1 o2 : Obj) : Below w.heap.size w ((w.alloc o1).alloc o2) := ((Below.refl _ w).alloc (Nat.le_refl _) o1).alloc (by simp) o2

/-- A thing's cells, each written out. -/
def tL (t : TD) (A1 : Option Addr) (n1 c1 : Nat) (A2 : Option Addr) (n2 c2 : Nat) (A3 : Option Addr) (n3 c3 : Nat) (A4 : Option Addr) (n4 c4 : Nat) (A5 : Option Addr) (n5 c5 : Nat) : List Value :=
  [.int .u8 t.kind, .bool t.v.char, .slice A1 n1 c1, .slice A2 n2 c2, .string t.f.name, .string t.f.result, .string t.f.left, .string t.f.right, .slice A3 n3 c3, .slice A4 n4 c4, .int .i64 t.f.version, .slice A5 n5 c5, .int .i64 t.n, .string t.s]
/-- The shape of a thing's cells, each written out. -/
theorem TIs.full {w : World} {D : Nat → Prop} {ts : List Value} {T : TD} (h : TIs w D ts T) :
    ∃ A n c B m d P pn pc Q qn qc O on oc, ts = [.int .u8 T.kind, .bool T.v.char, .slice A n c, .slice B m d, .string T.f.name, .string T.f.result, .string T.f.left, .string T.f.right, .slice P pn pc, .slice Q qn qc, .int .i64 T.f.version, .slice O on oc, .int .i64 T.n, .string T.s] := by
  obtain ⟨vs, fs, O, on, oc, oes, rfl, hv, hf, _⟩ := h
  obtain ⟨A, n, c, B, m, d, rfl, _, _⟩ := hv
  obtain ⟨P, pn, pc, Q, qn, qc, rfl, _, _⟩ := hf
  exact ⟨A, n, c, B, m, d, P, pn, pc, Q, qn, qc, O, on, oc, rfl⟩
/-- What a key has. -/
def getT (K : List ByteArray) (T : ByteArray → TD) (k : ByteArray) : TD := if k ∈ K then T k else tz
theorem getT_pos {w : World} {D : Nat → Prop} {ts : List Value} {K : List ByteArray} {T : ByteArray → TD} {k : ByteArray} (hm : k ∈ K) (h : TIs w D ts (T k)) : TIs w D ts (getT K T k) := by unfold getT; rw [if_pos hm]; exact h
theorem getT_neg {w : World} {D : Nat → Prop} {K : List ByteArray} {T : ByteArray → TD} {k : ByteArray} (hm : ¬ k ∈ K) : TIs w D (numE 0 0) (getT K T k) := by unfold getT; rw [if_neg hm]; exact tz_is w D
theorem keyS {k : ByteArray} (h : k.size ≤ maxLen) : keyOf Tryd.prog 9 (.string k) = some (.string (kb k)) := WideMaps.keyOf_string_mk Tryd.underlying9 h
theorem zeroT (w : World) : (zeroValue 53).run Tryd.prog w = .ok (.agg (numE 0 0).toArray) w := by kernel_rfl
theorem zeroB (w : World) : (zeroValue 4).run Tryd.prog w = .ok (.bool false) w := by kernel_rfl
theorem look_thing {w : World} {bt n : Nat} {K : List ByteArray} {f : ByteArray → Value} (h : w.ownsMap Tryd.prog 9 heldR bt n (smap K f)) {k : ByteArray} (hk : k.size ≤ maxLen) :
    (Instr.lookup 73 (.map (some bt)) (.string k) true).run Tryd.prog w = .ok (.tuple #[if k ∈ K then f k else .agg (numE 0 0).toArray, .bool (decide (k ∈ K))]) w := by
  obtain ⟨v, ps, hr, hv⟩ := h.look_ok slaw Tryd.underlying73 (zeroT w) (zd := .held (.agg (numE 0 0).toArray)) (zp := []) rfl (keyS hk)
  rw [smap_at] at hv
  rw [smap_has] at hr
  unfold heldR at hv
  simp only [Option.some.injEq, Prod.mk.injEq] at hv
  rw [hr]
  by_cases hm : k ∈ K
  · rw [if_pos hm] at hv ⊢
    rw [DataW.held.inj hv.1]
  · rw [if_neg hm] at hv ⊢
    rw [DataW.held.inj hv.1]
theorem look_thing1 {w : World} {bt n : Nat} {K : List ByteArray} {f : ByteArray → Value} (h : w.ownsMap Tryd.prog 9 heldR bt n (smap K f)) {k : ByteArray} (hk : k.size ≤ maxLen) (hm : k ∈ K) :
    (Instr.lookup 73 (.map (some bt)) (.string k) false).run Tryd.prog w = .ok (f k) w := by
  obtain ⟨v, ps, hr, hv⟩ := h.lookup slaw Tryd.underlying73 (zeroT w) (zd := .held (.agg (numE 0 0).toArray)) (zp := []) rfl (keyS hk)
  rw [smap_at, if_pos hm] at hv
  unfold heldR at hv
  simp only [Option.some.injEq, Prod.mk.injEq] at hv
  rw [hr, DataW.held.inj hv.1]
theorem look_bool {w : World} {bh n : Nat} {K : List ByteArray} (h : w.ownsMap Tryd.prog 9 heldR bh n (smap K fun _ => .bool true)) {k : ByteArray} (hk : k.size ≤ maxLen) :
    (Instr.lookup 74 (.map (some bh)) (.string k) false).run Tryd.prog w = .ok (.bool (decide (k ∈ K))) w := by
  obtain ⟨v, ps, hr, hv⟩ := h.lookup slaw Tryd.underlying74 (zeroB w) (zd := .held (.bool false)) (zp := []) rfl (keyS hk)
  rw [smap_at] at hv
  unfold heldR at hv
  simp only [Option.some.injEq, Prod.mk.injEq] at hv
  rw [hr]
  by_cases hm : k ∈ K
  · rw [if_pos hm] at hv
    rw [DataW.held.inj hv.1, decide_eq_true hm]
  · rw [if_neg hm] at hv
    rw [DataW.held.inj hv.1, decide_eq_false hm]

section
variable {w : World} {own D : Nat → Prop} {r : Nat} {K : List ByteArray} {T : ByteArray → TD} {G : List ED} {bt bh : Nat} {gv : Value} {f : ByteArray → Value} {Kh : List ByteArray} {es : List (List Value)}
theorem SM.c0 (h : SM w own D r K T G bt bh gv f Kh es) : w.cell? ⟨r, 0, none⟩ = some (.map (some bt)) := by rw [cell_of_row w r 0 _ _ _ h.hdr]; rfl
theorem SM.c1 (h : SM w own D r K T G bt bh gv f Kh es) : w.cell? ⟨r, 1, none⟩ = some gv := by rw [cell_of_row w r 1 _ _ _ h.hdr]; rfl
theorem SM.c2 (h : SM w own D r K T G bt bh gv f Kh es) : w.cell? ⟨r, 2, none⟩ = some (.map (some bh)) := by rw [cell_of_row w r 2 _ _ _ h.hdr]; rfl
theorem SM.fz (h : SM w own D r K T G bt bh gv f Kh es) (i : Nat) : w.frozen? ⟨r, i, none⟩ = false := by unfold World.frozen?; rw [h.hdr]; rfl
theorem SM.rt (h : SM w own D r K T G bt bh gv f Kh es) : r ≠ bt := by
  rintro rfl
  obtain ⟨_, _, hb, _⟩ := h.mt
  have := h.hdr
  rw [hb] at this
  simp at this
theorem SM.rh (h : SM w own D r K T G bt bh gv f Kh es) : r ≠ bh := by
  rintro rfl
  obtain ⟨_, _, hb, _⟩ := h.mh
  have := h.hdr
  rw [hb] at this
  simp at this
end


theorem cGet_nil (k : ByteArray) (w : World) : Calls Tryd.prog 50 #[.pointer none, .string k] w fun e w' => e = .returned (.tuple #[.agg (numE 0 0).toArray, .bool false]) ∧ Below w.heap.size w w' := by
  have HB := Lib.hid (fun o => (Below.refl w.heap.size w).alloc (Nat.le_refl _) o)
  go_enter Tryd.func50, Tryd.ntmps50
  go_wp2
  exact bodyPost_ret (v := .tuple #[.agg (numE 0 0).toArray, .bool false]) (by simp [results, Tryd.results50, go_sem]; rfl) rfl ⟨rfl, HB.out _⟩

set_option maxRecDepth 100000 in
set_option maxHeartbeats 1600000 in
theorem cGet_any (own D : Nat → Prop) (r : Nat) (K : List ByteArray) (T : ByteArray → TD) (G : List ED) (k : ByteArray) (w : World) (h : SK w own D r K T G) (hk : k.size ≤ maxLen) :
    Calls Tryd.prog 50 #[.pointer (some ⟨r, 0, none⟩), .string k] w fun e w' => ∃ ts, e = .returned (.tuple #[.agg ts.toArray, .bool (decide (k ∈ K))]) ∧ TIs w' D ts (getT K T k) ∧ Below w.heap.size w w' := by
  obtain ⟨bt, bh, gv, f, Kh, es, h⟩ := h
  have c0 := h.c0
  have HB := Lib.hid (fun o o' => two_below w o o')
  have hrb : r < w.heap.size := lt_of_block h.hdr
  have hlk := fun o => look_thing (w := w.alloc o) (h.mt.alloc o) hk
  by_cases hm : k ∈ K
  · obtain ⟨ts, e1, ht⟩ := h.things k hm
    obtain ⟨A1, n1, c1, A2, n2, c2, A3, n3, c3, A4, n4, c4, A5, n5, c5, rfl⟩ := ht.full
    simp only [if_pos hm, e1, decide_eq_true hm] at hlk
    have HT := Lib.hid (getT_pos hm ht)
    have HD := Lib.hid (decide_eq_true hm)
    clear h ht hm e1
    go_enter Tryd.func50, Tryd.ntmps50
    go_wp2
    refine bodyPost_ret (v := .tuple #[.agg (tL (T k) A1 n1 c1 A2 n2 c2 A3 n3 c3 A4 n4 c4 A5 n5 c5).toArray, .bool true]) (by simp [results, Tryd.results50, go_sem]; rfl) rfl ⟨_, by rw [HD.out]; rfl, HT.out.below ?_, ?_⟩
    · exact HB.out _ _
    · exact HB.out _ _
  · simp only [if_neg hm, decide_eq_false hm] at hlk
    unfold numE at hlk
    have HT := Lib.hid (getT_neg (w := w) (D := D) (T := T) hm)
    have HD := Lib.hid (decide_eq_false hm)
    clear h hm
    go_enter Tryd.func50, Tryd.ntmps50
    go_wp2
    refine bodyPost_ret (v := .tuple #[.agg (numE 0 0).toArray, .bool false]) (by simp [results, Tryd.results50, go_sem]; rfl) rfl ⟨_, by rw [HD.out], HT.out.below ?_, ?_⟩
    · exact HB.out _ _
    · exact HB.out _ _

/-- The store's own maps are there: ready does nothing. -/
theorem cready_any (r : Nat) (bt : Nat) (w : World) (c0 : w.cell? ⟨r, 0, none⟩ = some (.map (some bt))) :
    Calls Tryd.prog 79 #[.pointer (some ⟨r, 0, none⟩)] w fun e w' => e = .returned (.tuple #[]) ∧ w = w' := by
  have hq := run_eql_map_nil w 73 9 53 (some bt) Tryd.underlying73
  go_enter Tryd.func79, Tryd.ntmps79
  go_wp2
  go_end0
  exact ⟨rfl, rfl⟩
end Go.Proofs.YtjkofndnhmfnoaaDoor
