/-
  The law of layer 19: Number, has, texts, Great: contracts. Of any that can be read.
-/
import Derived.Test.YtochdmbjlemfoaaC8
namespace Go.Proofs.Ytochdmbjlemfoaa
open Go Go.RowKit Go.Maps

theorem texts19_lens (A B : Option Addr) (n c m d : Nat) (w : World) (h : n ≠ m) :
    Calls Try.prog 57 #[.slice A n c, .slice B m d] w fun e w' => e = .returned (.bool false) ∧ w = w' := by
  have h3 : ((n : Int) == (m : Int)) = false := by simp; omega
  clear h
  go_enter Try.func57, Try.ntmps57
  go_wp2
  go_ret
  exact ⟨rfl, rfl⟩
set_option maxRecDepth 100000 in
set_option maxHeartbeats 800000 in
theorem texts19_same (A B : Option Addr) (n c d : Nat) (xs ys : List ByteArray) (D D' : Nat → Prop) (w : World) (hx : Rd w D 1 A n c (strRows xs)) (hy : Rd w D' 1 B n d (strRows ys)) :
    Calls Try.prog 57 #[.slice A n c, .slice B n d] w fun e w' => e = .returned (.bool (decide (xs = ys))) ∧ ∃ k, w' = w.drewN k := by
  have hn : n ≤ 9223372036854775807 := by have h1 := hx.le; have h2 := hx.max; unfold maxLen at h2; omega
  obtain ⟨lx, hx⟩ := hx.one
  obtain ⟨ly, hy⟩ := hy.one
  have H1 := Lib.hid hx
  have H2 := Lib.hid hy
  have L1 := Lib.hid lx
  have L2 := Lib.hid ly
  clear hx hy lx ly
  go_enter Try.func57, Try.ntmps57
  go_wp2
  go_loopw [5] (fun i wr => ∃ k d : Nat, k ≤ n ∧ i = .int .i64 (k : Int) ∧ wr = w.drewN d ∧ RowKit.Hid (xs.take k = ys.take k)) (fun i _ => n - (RowKit.intOf i).toNat)
  case atStart => exact ⟨0, 0, Nat.zero_le _, rfl, rfl, rfl⟩
  case round =>
    obtain ⟨k, d, hk, rfl, rfl, hh⟩ := hrel
    by_cases hlt : k < n
    · obtain ⟨b, off, hA, -, hb, hc⟩ := H1.out (by omega)
      obtain ⟨b', off', hB, -, hb', hc'⟩ := H2.out (by omega)
      obtain ⟨x, hxk⟩ : ∃ x, xs[k]? = some x := ⟨_, List.getElem?_eq_getElem (by rw [L1.out]; exact hlt)⟩
      obtain ⟨y, hyk⟩ : ∃ y, ys[k]? = some y := ⟨_, List.getElem?_eq_getElem (by rw [L2.out]; exact hlt)⟩
      subst hA hB
      have cx := hc k x hxk
      have cy := hc' k y hyk
      have Hx := Lib.hid hxk
      have Hy := Lib.hid hyk
      clear hc hc' hxk hyk
      have h1 : (k : Int) < (n : Int) := by omega
      have h2 : (0 : Int) ≤ (k : Int) := by omega
      by_cases he : x = y
      · subst he
        go_wp2
        go_quiet (fail)
        go_wp2
        go_roundw
        case rel => exact ⟨k + 1, _, by omega, by go_num, rfl, take_step hh.out Hx.out Hy.out⟩
        case measure => simp [RowKit.intOf]; omega
      · have h3 : (x.toList == y.toList) = false := str_ne he
        have HE := Lib.hid he
        clear he
        go_wp2
        go_quiet (fail)
        go_wp2
        go_ret
        exact ⟨by rw [decide_eq_false (fun h => ne_at Hx.out Hy.out HE.out h)]; rfl, d + nq, World.drewN_drewN _ _ _⟩
    · have hkn : k = n := by omega
      subst hkn
      have hh2 : RowKit.Hid (xs = ys) := take_all hh.out L1.out L2.out
      clear hh
      go_wp2
      go_ret
      exact ⟨by rw [decide_eq_true hh2.out]; rfl, _, rfl⟩
theorem texts19_any (A B : Option Addr) (n c m d : Nat) (xs ys : List ByteArray) (D D' : Nat → Prop) (w : World) (hx : Rd w D 1 A n c (strRows xs)) (hy : Rd w D' 1 B m d (strRows ys)) :
    Calls Try.prog 57 #[.slice A n c, .slice B m d] w fun e w' => e = .returned (.bool (decide (xs = ys))) ∧ ∃ k, w' = w.drewN k := by
  by_cases h : n = m
  · subst h
    exact texts19_same A B n c d xs ys D D' w hx hy
  · refine (texts19_lens A B n c m d w h).mono ?_
    rintro e w' ⟨rfl, rfl⟩
    refine ⟨?_, 0, rfl⟩
    rw [decide_eq_false]
    rintro rfl
    exact h (hx.one.1.symm.trans hy.one.1)

theorem number19_any (n : Int) (w : World) : Calls Try.prog 49 #[.int .i64 n] w fun e w' => e = .returned (.agg (numE 5 n).toArray) ∧ Below w.heap.size w w' := by
  have HB := Lib.hid (fun o => (Below.refl w.heap.size w).alloc (Nat.le_refl _) o)
  go_enter Try.func49, Try.ntmps49
  go_wp2
  exact bodyPost_ret (v := .agg (numE 5 n).toArray) (by simp [results, Try.results49, go_sem]; rfl) rfl ⟨rfl, HB.out _⟩

/-- An act of layer 19. -/
structure A19 where
  d : Nat
  key : ByteArray
  n : Int
def A19.cells (a : A19) : List Value := [.int .u8 (a.d : Int), .string a.key, .int .i64 a.n]
def A19.ok (a : A19) : Prop := a.d < 256 ∧ a.key.size ≤ maxLen ∧ (-9223372036854775808 ≤ a.n ∧ a.n ≤ 9223372036854775807)
def a19Rows (l : List A19) : List (List Value) := l.map A19.cells
theorem a19_at {w : World} {D : Nat → Prop} {A : Option Addr} {n c : Nat} {l : List A19} (h : Rd w D 3 A n c (a19Rows l)) (hn : 0 < n) : ∃ b off, A = some ⟨b, off, none⟩ ∧ D b ∧ ∀ (i : Nat) a, l[i]? = some a →
    w.cell? ⟨b, off + i * 3, none⟩ = some (.int .u8 (a.d : Int)) ∧ w.cell? ⟨b, off + i * 3 + 1, none⟩ = some (.string a.key) ∧ w.cell? ⟨b, off + i * 3 + 2, none⟩ = some (.int .i64 a.n) := by
  obtain ⟨b, off, e, hb, hc⟩ := h.at_ hn
  refine ⟨b, off, e, hb, fun i a hi => ?_⟩
  have hr : (a19Rows l)[i]? = some a.cells := by unfold a19Rows; rw [List.getElem?_map, hi]; rfl
  exact ⟨hc i _ hr 0 _ rfl, hc i _ hr 1 _ rfl, hc i _ hr 2 _ rfl⟩
/-- Are acts more than statements go through? -/
def Great (n : Nat) (l : List A19) : Prop := 60 < n ∨ ∃ a ∈ l, 20 < a.key.size
instance (n : Nat) (l : List A19) : Decidable (Great n l) := by unfold Great; infer_instance

theorem great19_any (A : Option Addr) (n c : Nat) (l : List A19) (D : Nat → Prop) (w : World) (h : Rd w D 3 A n c (a19Rows l)) (res : Bool) (hres : res = decide (Great n l)) :
    Calls Try.prog 44 #[.slice A n c] w fun e w' => e = .returned (.bool res) ∧ w = w' := by
  have hlen : l.length = n := by have := h.len; simpa [a19Rows] using this
  have hn : n ≤ 9223372036854775807 := by have h1 := h.le; have h2 := h.max; unfold maxLen at h2; omega
  have H1 := Lib.hid h
  have H3 := Lib.hid hlen
  have HR := Lib.hid hres
  clear h hlen hres
  by_cases h60 : 60 < n
  · have q : (60 : Int) < (n : Int) := by omega
    go_enter Try.func44, Try.ntmps44
    go_wp2
    go_ret
    exact ⟨congrArg (fun b => Ending.returned (Value.bool b)) (HR.out.trans (decide_eq_true (.inl h60))).symm, rfl⟩
  have q : ¬ (60 : Int) < (n : Int) := by omega
  go_enter Try.func44, Try.ntmps44
  go_wp2
  go_loop [3] (fun i => ∃ k : Nat, k ≤ n ∧ i = .int .i64 (k : Int) ∧ RowKit.Hid (∀ a ∈ l.take k, a.key.size ≤ 20)) (fun i => n - (RowKit.intOf i).toNat)
  case atStart => exact ⟨0, Nat.zero_le _, rfl, by intro g hg; simp at hg⟩
  case round =>
    obtain ⟨k, hk, rfl, hh⟩ := hrel
    by_cases hlt : k < n
    · obtain ⟨b, off, hA, -, hcell⟩ := a19_at H1.out (by omega)
      obtain ⟨a, hak⟩ : ∃ a, l[k]? = some a := ⟨_, List.getElem?_eq_getElem (by rw [H3.out]; exact hlt)⟩
      have cx := (hcell k a hak).2.1
      have Hk := Lib.hid hak
      subst hA
      clear hcell hak
      have h1 : (k : Int) < (n : Int) := by omega
      by_cases h6 : 20 < a.key.size
      · have q6 : (20 : Int) < (a.key.size : Int) := by omega
        go_wp2
        go_ret
        exact ⟨congrArg (fun b => Ending.returned (Value.bool b)) (HR.out.trans (decide_eq_true (.inr ⟨a, List.mem_of_getElem? Hk.out, h6⟩))).symm, rfl⟩
      · have q6 : ¬ (20 : Int) < (a.key.size : Int) := by omega
        go_wp2
        go_round
        case rel =>
          refine ⟨k + 1, by omega, by go_num, fun x hx => ?_⟩
          rw [List.take_add_one, Hk.out] at hx
          rcases List.mem_append.1 hx with hx | hx
          · exact hh.out x hx
          · simp at hx; subst hx; omega
        case measure => simp [RowKit.intOf]; omega
    · have hkn : k = n := by omega
      subst hkn
      have h6 : RowKit.Hid (∀ a ∈ l, a.key.size ≤ 20) := fun g hg => hh.out g (by rw [List.take_of_length_le (by rw [H3.out]; exact Nat.le_refl _)]; exact hg)
      clear hh
      go_wp2
      go_ret
      refine ⟨congrArg (fun b => Ending.returned (Value.bool b)) (HR.out.trans (decide_eq_false ?_)).symm, rfl⟩
      rintro (h | ⟨a, ha, h⟩)
      · omega
      · have := h6.out a ha; omega

set_option maxRecDepth 100000 in
set_option maxHeartbeats 1600000 in
theorem has19_any (own D : Nat → Prop) (r : Nat) (K : List ByteArray) (T : ByteArray → TD) (G : List ED) (k : ByteArray) (n : Int) (w : World) (h : SK w own D r K T G) (hk : k.size ≤ maxLen) (res : Bool) (hres : res = decide (k ∈ K ∧ T k = numT 5 n)) :
    Calls Try.prog 67 #[.pointer (some ⟨r, 0, none⟩), .string k, .int .i64 n] w fun e w' => e = .returned (.bool res) ∧ Below w.heap.size w w' := by
  have HR := Lib.hid hres
  have HG := Lib.hid (cGet_any own D r K T G k w h hk)
  clear hres h
  go_enter Try.func67, Try.ntmps67
  go_wp2_with fail
  refine HG.out.mono ?_
  rintro e w1 ⟨ts, rfl, ht, hb1⟩
  obtain ⟨A1, n1, c1, A2, n2, c2, A3, n3, c3, A4, n4, c4, A5, n5, c5, e1⟩ := ht.full
  obtain ⟨t, ht0⟩ : ∃ t, t = getT K T k := ⟨_, rfl⟩
  rw [← ht0] at ht e1
  subst e1
  have HT := Lib.hid ht
  have HT0 := Lib.hid ht0
  have B1 := Lib.hid hb1
  clear ht ht0 hb1
  by_cases hm : k ∈ K
  · rw [decide_eq_true hm]
    have hT : t = T k := by rw [HT0.out]; unfold getT; rw [if_pos hm]
    have FIN : RowKit.Hid (res = decide (t = numT 5 n)) := by show _ = _; rw [HR.out, hT]; simp [hm]
    clear hT hm
    go_upto_region 2 with fail
    obtain ⟨wb, hwb⟩ : ∃ wb, wb = w1.alloc (.cells (tL t A1 n1 c1 A2 n2 c2 A3 n3 c3 A4 n4 c4 A5 n5 c5).toArray 45) := ⟨_, rfl⟩
    have hbb : wb.heap[w1.heap.size]? = some (.cells (tL t A1 n1 c1 A2 n2 c2 A3 n3 c3 A4 n4 c4 A5 n5 c5).toArray 45 (0, 0)) := by rw [hwb]; exact heap_alloc_new _ _
    have BW := Lib.hid (show Below w1.heap.size w1 wb by rw [hwb]; exact (Below.refl _ w1).alloc (Nat.le_refl _) _)
    have e := hwb.symm
    unfold tL at e
    rw [e]
    clear e hwb
    have b0 : wb.cell? ⟨w1.heap.size, 0, none⟩ = some (.int .u8 t.kind) := by rw [cell_of_row wb _ 0 _ _ _ hbb]; rfl
    have b1 : wb.cell? ⟨w1.heap.size, 1, none⟩ = some (.bool t.v.char) := by rw [cell_of_row wb _ 1 _ _ _ hbb]; rfl
    have b2 : wb.cell? ⟨w1.heap.size, 2, none⟩ = some (.slice A1 n1 c1) := by rw [cell_of_row wb _ 2 _ _ _ hbb]; rfl
    have b3 : wb.cell? ⟨w1.heap.size, 3, none⟩ = some (.slice A2 n2 c2) := by rw [cell_of_row wb _ 3 _ _ _ hbb]; rfl
    have b4 : wb.cell? ⟨w1.heap.size, 4, none⟩ = some (.string t.f.name) := by rw [cell_of_row wb _ 4 _ _ _ hbb]; rfl
    have b5 : wb.cell? ⟨w1.heap.size, 5, none⟩ = some (.string t.f.result) := by rw [cell_of_row wb _ 5 _ _ _ hbb]; rfl
    have b6 : wb.cell? ⟨w1.heap.size, 6, none⟩ = some (.string t.f.left) := by rw [cell_of_row wb _ 6 _ _ _ hbb]; rfl
    have b7 : wb.cell? ⟨w1.heap.size, 7, none⟩ = some (.string t.f.right) := by rw [cell_of_row wb _ 7 _ _ _ hbb]; rfl
    have b8 : wb.cell? ⟨w1.heap.size, 8, none⟩ = some (.slice A3 n3 c3) := by rw [cell_of_row wb _ 8 _ _ _ hbb]; rfl
    have b9 : wb.cell? ⟨w1.heap.size, 9, none⟩ = some (.slice A4 n4 c4) := by rw [cell_of_row wb _ 9 _ _ _ hbb]; rfl
    have b10 : wb.cell? ⟨w1.heap.size, 10, none⟩ = some (.int .i64 t.f.version) := by rw [cell_of_row wb _ 10 _ _ _ hbb]; rfl
    have b11 : wb.cell? ⟨w1.heap.size, 11, none⟩ = some (.slice A5 n5 c5) := by rw [cell_of_row wb _ 11 _ _ _ hbb]; rfl
    have b12 : wb.cell? ⟨w1.heap.size, 12, none⟩ = some (.int .i64 t.n) := by rw [cell_of_row wb _ 12 _ _ _ hbb]; rfl
    have b13 : wb.cell? ⟨w1.heap.size, 13, none⟩ = some (.string t.s) := by rw [cell_of_row wb _ 13 _ _ _ hbb]; rfl
    clear hbb
    have HTB := Lib.hid (HT.out.below BW.out)
    go_region_held3 (fun w' => w'.cell? ⟨w1.heap.size, 0, none⟩ = some (.int .u8 t.kind) ∧ w'.cell? ⟨w1.heap.size, 1, none⟩ = some (.bool t.v.char) ∧ w'.cell? ⟨w1.heap.size, 2, none⟩ = some (.slice A1 n1 c1) ∧ w'.cell? ⟨w1.heap.size, 3, none⟩ = some (.slice A2 n2 c2) ∧ w'.cell? ⟨w1.heap.size, 4, none⟩ = some (.string t.f.name) ∧ w'.cell? ⟨w1.heap.size, 5, none⟩ = some (.string t.f.result) ∧ w'.cell? ⟨w1.heap.size, 6, none⟩ = some (.string t.f.left) ∧ w'.cell? ⟨w1.heap.size, 7, none⟩ = some (.string t.f.right) ∧ w'.cell? ⟨w1.heap.size, 8, none⟩ = some (.slice A3 n3 c3) ∧ w'.cell? ⟨w1.heap.size, 9, none⟩ = some (.slice A4 n4 c4) ∧ w'.cell? ⟨w1.heap.size, 10, none⟩ = some (.int .i64 t.f.version) ∧ w'.cell? ⟨w1.heap.size, 11, none⟩ = some (.slice A5 n5 c5) ∧ w'.cell? ⟨w1.heap.size, 12, none⟩ = some (.int .i64 t.n) ∧ w'.cell? ⟨w1.heap.size, 13, none⟩ = some (.string t.s))
      (first | (go_keep; done) | (go_split_ands; exact ⟨below_cell hb3 (by assumption), below_cell hb3 (by assumption), below_cell hb3 (by assumption), below_cell hb3 (by assumption), below_cell hb3 (by assumption), below_cell hb3 (by assumption), below_cell hb3 (by assumption), below_cell hb3 (by assumption), below_cell hb3 (by assumption), below_cell hb3 (by assumption), below_cell hb3 (by assumption), below_cell hb3 (by assumption), below_cell hb3 (by assumption), below_cell hb3 (by assumption)⟩) | (go_split_ands; exact ⟨below_cell hb2 (by assumption), below_cell hb2 (by assumption), below_cell hb2 (by assumption), below_cell hb2 (by assumption), below_cell hb2 (by assumption), below_cell hb2 (by assumption), below_cell hb2 (by assumption), below_cell hb2 (by assumption), below_cell hb2 (by assumption), below_cell hb2 (by assumption), below_cell hb2 (by assumption), below_cell hb2 (by assumption), below_cell hb2 (by assumption), below_cell hb2 (by assumption)⟩))
      ((first
        | (go_at_call 49; refine (number19_any _ _).mono ?_; rintro e w2 ⟨rfl, hb2⟩)
        | (go_at_call 54; refine (cSame_any D D _ _ t (numT 5 n) _ ((HTB.out.below (below_drewN (Below.refl _ wb) _)).below hb2) (numT_is _ _ _ _) res FIN.out).mono ?_; rintro e w3 ⟨rfl, hb3⟩)))
    go_wp2
    go_ret
    exact ⟨rfl, B1.out.trans ((BW.out.trans ((below_drewN (Below.refl _ wb) _).trans (hb2.trans (hb3.mono hb2.size)) |>.mono BW.out.size)).mono B1.out.size)⟩
  · rw [decide_eq_false hm]
    have FIN : RowKit.Hid (res = false) := HR.out.trans (decide_eq_false (fun h => hm h.1))
    clear hm
    go_wp2
    go_quiet (fail)
    go_wp2
    go_ret
    exact ⟨by rw [FIN.out]; rfl, below_drewN (B1.out.trans (((Below.refl _ w1).alloc (Nat.le_refl _) _).mono B1.out.size)) _⟩
end Go.Proofs.Ytochdmbjlemfoaa
