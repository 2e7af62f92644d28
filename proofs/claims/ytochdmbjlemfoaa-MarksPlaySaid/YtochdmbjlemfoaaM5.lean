/-
  Marks: Clear, Len, Below, Near. Of any marks in memory.
-/
import Derived.Test.YtochdmbjlemfoaaM4
import Derived.StillTailTactics
namespace Go.Proofs.Ytochdmbjlemfoaa
open Go Go.RowKit Go.Maps

theorem mclear_any (r b most : Nat) (per : Int) (K : List Int) (f : Int → Value) (w : World) (h : MK w r b most per K f) :
    Calls Try.prog 43 #[.pointer (some ⟨r, 0, none⟩)] w fun e w' => e = .returned (.tuple #[]) ∧ MK w' r b most per [] f ∧ Chg (fun j => j = b) w w' := by
  have c2 := h.c2
  obtain ⟨w1, hcl, ho, hc⟩ := clearM h.map 0 f
  have H := Lib.hid h
  have HO := Lib.hid ho
  have HC := Lib.hid hc
  clear h ho hc
  go_enter Try.func43, Try.ntmps43
  go_wp2
  go_end0
  exact ⟨rfl, H.out.turn HC.out HO.out (by simp [Rising]) (by simp), HC.out⟩

theorem mlen_nil (w : World) : Calls Try.prog 40 #[.pointer none] w fun e w' => e = .returned (.int .i64 0) ∧ w = w' := by
  go_enter Try.func40, Try.ntmps40
  go_wp2_with (go_at_call 34; refine (mkeys_nil _).mono ?_; rintro e w' ⟨rfl, rfl⟩)
  go_ret
  exact ⟨rfl, rfl⟩
theorem mlen_any (r b most : Nat) (per : Int) (K : List Int) (f : Int → Value) (w : World) (h : MK w r b most per K f) (hK : K.length ≤ 2000000) :
    Calls Try.prog 40 #[.pointer (some ⟨r, 0, none⟩)] w fun e w' => e = .returned (.int .i64 (K.length : Int)) ∧ Below w.heap.size w w' := by
  have HK := Lib.hid (mkeys_any r b most per K f w h hK)
  clear h
  go_enter Try.func40, Try.ntmps40
  go_wp2_with (go_at_call 34; refine HK.out.mono ?_; rintro e w' ⟨A, c, rfl, -, hb⟩)
  go_ret
  exact ⟨rfl, hb⟩

/-- What Below leaves. -/
def belowK (K : List Int) (k : Int) : List Int := K.filter (fun x => decide (k ≤ x))
/-- .. behind j of the keys. -/
def bK (K : List Int) (k : Int) (j : Nat) : List Int := (K.take j).filter (fun x => decide (k ≤ x)) ++ K.drop j
theorem bK_zero (K : List Int) (k : Int) : bK K k 0 = K := by simp [bK]
theorem bK_end (K : List Int) (k : Int) : bK K k K.length = belowK K k := by simp [bK, belowK]
theorem bK_keep (K : List Int) (k : Int) (j : Nat) (x : Int) (hx : K[j]? = some x) (h : k ≤ x) : bK K k (j + 1) = bK K k j := by
  have hj := (List.getElem?_eq_some_iff.1 hx).1
  have hd : K.drop j = x :: K.drop (j + 1) := by
    rw [List.drop_eq_getElem_cons hj]
    have := (List.getElem?_eq_some_iff.1 hx).2
    rw [this]
  unfold bK
  rw [List.take_add_one, hx, List.filter_append, hd]
  simp [h]
theorem bK_drop (K : List Int) (k : Int) (j : Nat) (x : Int) (hr : Rising K) (hx : K[j]? = some x) (h : x < k) : (bK K k j).filter (· ≠ x) = bK K k (j + 1) := by
  have hj := (List.getElem?_eq_some_iff.1 hx).1
  have hd : K.drop j = x :: K.drop (j + 1) := by
    rw [List.drop_eq_getElem_cons hj]
    have := (List.getElem?_eq_some_iff.1 hx).2
    rw [this]
  have hr' := hr
  unfold Rising at hr'
  rw [← List.take_append_drop j K, hd] at hr'
  have h1 := List.pairwise_append.1 hr'
  have h2 := List.pairwise_cons.1 h1.2.1
  unfold bK
  rw [List.take_add_one, hx, List.filter_append, hd, List.filter_append]
  have e1 : ((K.take j).filter (fun x => decide (k ≤ x))).filter (· ≠ x) = (K.take j).filter (fun x => decide (k ≤ x)) := List.filter_eq_self.2 fun y hy => by
    have := h1.2.2 y (List.mem_filter.1 hy).1 x List.mem_cons_self
    simp; omega
  have e2 : (K.drop (j + 1)).filter (· ≠ x) = K.drop (j + 1) := List.filter_eq_self.2 fun y hy => by
    have := h2.1 y hy
    simp; omega
  rw [e1, List.filter_cons_of_neg (by simp), e2]
  simp [h]
theorem mem_bK (K : List Int) (k : Int) (j : Nat) (x : Int) (h : x ∈ bK K k j) : x ∈ K := by
  unfold bK at h
  rcases List.mem_append.1 h with h | h
  · exact List.mem_of_mem_take (List.mem_filter.1 h).1
  · exact List.mem_of_mem_drop h
theorem rising_bK (K : List Int) (k : Int) (j : Nat) (h : Rising K) : Rising (bK K k j) := by
  refine List.Pairwise.sublist ?_ h
  unfold bK
  conv => rhs; rw [← List.take_append_drop j K]
  exact List.Sublist.append List.filter_sublist (List.Sublist.refl _)

set_option maxRecDepth 100000 in
theorem mbelow_any (r b most : Nat) (per : Int) (K : List Int) (f : Int → Value) (k : Int) (w : World) (h : MK w r b most per K f) (hK : K.length ≤ 2000000) :
    Calls Try.prog 42 #[.pointer (some ⟨r, 0, none⟩), .int .i64 k] w fun e w' => e = .returned (.tuple #[]) ∧ MK w' r b most per (belowK K k) f ∧ Chg (fun j => j = b) w w' := by
  have HK := Lib.hid (mkeys_any r b most per K f w h hK)
  have H := Lib.hid h
  clear h
  go_enter Try.func42, Try.ntmps42
  go_wp2_with fail
  refine HK.out.mono ?_
  rintro e w1 ⟨A, c, rfl, hr, hb⟩
  have H1 := Lib.hid (H.out.below hb)
  have R1 := Lib.hid hr
  have B1 := Lib.hid hb
  clear hr hb HK
  go_wp2
  go_loopw [9] (fun i wr => ∃ j : Nat, j ≤ K.length ∧ i = .int .i64 (j : Int) ∧ RowKit.Hid (MK wr r b most per (bK K k j) f) ∧ RowKit.Hid (Chg (fun j => j = b) w1 wr)) (fun i _ => K.length - (RowKit.intOf i).toNat)
  case atStart => exact ⟨0, Nat.zero_le _, rfl, by rw [bK_zero]; exact H1.out, Chg.refl _ _⟩
  case round =>
    obtain ⟨j, hj, rfl, hm, hc⟩ := hrel
    by_cases hlt : j < K.length
    · have q1 : (j : Int) < (K.length : Int) := by omega
      obtain ⟨b3, o3, rfl, hD, hc3⟩ := iRows_at R1.out (by omega)
      obtain ⟨x, hxk⟩ : ∃ x, K[j]? = some x := ⟨_, List.getElem?_eq_getElem hlt⟩
      have hbl := H.out.lt.2
      have cx := hc.out.cell (hc3 j x hxk) (show ¬ b3 = b by omega)
      have c2 := hm.out.c2
      have XK := Lib.hid hxk
      have HWF := Lib.hid (H.out.wf x (List.mem_of_getElem? hxk))
      clear hc3 hxk
      by_cases hxk : x < k
      · go_wp2_with (at_delete; refine wpList_delete_own _ rfl _ _ 125 2 rfl 60 mlaw Try.underlying125 heldR b _ _ rfl hm.out.map (.int .i64 x) (.int .i64 x) rfl (keyM HWF.out.1 HWF.out.2) ?_; intro w4 hown4 hturn4)
        have e1 := bK_drop K k j x H.out.rise XK.out hxk
        rw [imap_del, e1] at hown4
        have C4 := chg_turned hturn4
        have M4 := Lib.hid (hm.out.turn C4 hown4 (rising_bK K k (j + 1) H.out.rise) (fun y hy => H.out.wf y (mem_bK K k _ y hy)))
        have C5 := Lib.hid (hc.out.trans C4)
        clear hown4 hturn4 C4 e1
        go_wp2
        go_roundw
        case rel => exact ⟨j + 1, by omega, by go_num, M4.out, C5.out⟩
        case measure => simp [RowKit.intOf]; omega
      · have e1 := bK_keep K k j x XK.out (by omega)
        have M4 : RowKit.Hid (MK wr r b most per (bK K k (j + 1)) f) := by show MK _ _ _ _ _ _ _; rw [e1]; exact hm.out
        clear e1
        go_wp2
        go_roundw
        case rel => exact ⟨j + 1, by omega, by go_num, M4.out, hc.out⟩
        case measure => simp [RowKit.intOf]; omega
    · have hjk : j = K.length := by omega
      subst hjk
      go_wp2
      go_end0
      exact ⟨rfl, by rw [← bK_end]; exact hm.out, (Chg.of_below B1.out).trans hc.out⟩

/-- The last key up to k. -/
def nearK (K : List Int) (k : Int) : Option Int := (K.filter (fun x => decide (x ≤ k))).getLast?
theorem nearK_mem {K : List Int} {k a : Int} (h : nearK K k = some a) : a ∈ K ∧ a ≤ k := by
  have := List.mem_of_getLast? h
  have := List.mem_filter.1 this
  exact ⟨this.1, by simpa using this.2⟩
theorem nearK_hit (K : List Int) (k : Int) (j : Nat) (x : Int) (hx : K[j]? = some x) (h : x ≤ k) : nearK (K.take (j + 1)) k = some x := by
  unfold nearK
  rw [List.take_add_one, hx, List.filter_append]
  simp [h]
theorem nearK_miss (K : List Int) (k : Int) (j : Nat) (x : Int) (hx : K[j]? = some x) (h : ¬ x ≤ k) : nearK (K.take (j + 1)) k = nearK (K.take j) k := by
  unfold nearK
  rw [List.take_add_one, hx, List.filter_append]
  simp [h]
theorem lookM {w : World} {b n : Nat} {K : List Int} {f : Int → Value} (h : w.ownsMap Try.prog 2 heldR b n (imap K f)) {a : Int} (ha : a ∈ K) (h0 : -9223372036854775808 ≤ a) (h1 : a ≤ 9223372036854775807) :
    (Instr.lookup 125 (.map (some b)) (.int .i64 a) false).run Try.prog w = .ok (f a) w := by
  obtain ⟨v, ps, hr, hv⟩ := h.lookup mlaw Try.underlying125 (z := .slice none 0 0) (by kernel_rfl) (zd := .held (.slice none 0 0)) (zp := []) rfl (keyM h0 h1)
  rw [imap_at, if_pos ha] at hv
  unfold heldR at hv
  simp only [Option.some.injEq, Prod.mk.injEq, DataW.held.injEq] at hv
  rw [hr, hv.1]

def optI (o : Option Int) : Int := o.getD 0
/-- What Near hands back. -/
def nearV (f : Int → Value) : Option Int → Value
  | none => .tuple #[.int .i64 0, .slice none 0 0, .bool false]
  | some a => .tuple #[.int .i64 a, f a, .bool true]
set_option maxRecDepth 100000 in
theorem mnear_any (r b most : Nat) (per : Int) (K : List Int) (f : Int → Value) (k : Int) (w : World) (h : MK w r b most per K f) (hK : K.length ≤ 2000000) :
    Calls Try.prog 35 #[.pointer (some ⟨r, 0, none⟩), .int .i64 k] w fun e w' => e = .returned (nearV f (nearK K k)) ∧ Below w.heap.size w w' := by
  have HK := Lib.hid (mkeys_any r b most per K f w h hK)
  have H := Lib.hid h
  clear h
  go_enter Try.func35, Try.ntmps35
  go_wp2_with fail
  refine HK.out.mono ?_
  rintro e w1 ⟨A, c, rfl, hr, hb⟩
  have H1 := Lib.hid (H.out.below hb)
  have R1 := Lib.hid hr
  have B1 := Lib.hid hb
  clear hr hb HK
  go_wp2
  go_loop [4, 6, 12] (fun a o i => ∃ j : Nat, j ≤ K.length ∧ i = .int .i64 (j : Int) ∧ ∃ q : Option Int, RowKit.Hid (nearK (K.take j) k = q) ∧ a = .int .i64 (optI q) ∧ o = .bool q.isSome) (fun _ _ i => K.length - (RowKit.intOf i).toNat)
  case atStart => exact ⟨0, Nat.zero_le _, rfl, none, rfl, rfl, rfl⟩
  case round =>
    obtain ⟨j, hj, rfl, q, hq, rfl, rfl⟩ := hrel
    by_cases hlt : j < K.length
    · have q1 : (j : Int) < (K.length : Int) := by omega
      obtain ⟨b3, o3, rfl, hD, hc3⟩ := iRows_at R1.out (by omega)
      obtain ⟨x, hxk⟩ : ∃ x, K[j]? = some x := ⟨_, List.getElem?_eq_getElem hlt⟩
      have cx := hc3 j x hxk
      have XK := Lib.hid hxk
      clear hc3 hxk
      by_cases hxk : x ≤ k
      · go_wp2
        go_round
        case rel => exact ⟨j + 1, by omega, by go_num, some x, nearK_hit K k j x XK.out hxk, rfl, rfl⟩
        case measure => simp [RowKit.intOf]; omega
      · go_wp2
        go_round
        case rel => exact ⟨j + 1, by omega, by go_num, q, (nearK_miss K k j x XK.out hxk).trans hq.out, rfl, rfl⟩
        case measure => simp [RowKit.intOf]; omega
    · have hjk : j = K.length := by omega
      subst hjk
      have hq' : RowKit.Hid (nearK K k = q) := by have := hq.out; rwa [List.take_length] at this
      clear hq
      cases q with
      | none =>
        simp only [optI, Option.getD_none, Option.isSome_none]
        go_wp2
        go_ret3
        exact ⟨by rw [hq'.out]; rfl, B1.out⟩
      | some a =>
        have c2 := H1.out.c2
        have hm := nearK_mem hq'.out
        have hwf := H.out.wf a hm.1
        have hlk : ∀ d, (Instr.lookup 125 (.map (some b)) (.int .i64 a) false).run Try.prog (w1.drewN d) = .ok (f a) (w1.drewN d) := fun d => lookM (w := w1.drewN d) H1.out.map hm.1 hwf.1 hwf.2
        have hlk0 : (Instr.lookup 125 (.map (some b)) (.int .i64 a) false).run Try.prog w1 = .ok (f a) w1 := hlk 0
        clear hm hwf
        simp only [optI, Option.getD_some, Option.isSome_some]
        go_wp2
        go_quiet (fail)
        go_wp2
        go_ret3
        exact ⟨by rw [hq'.out]; rfl, below_drewN B1.out _⟩
end Go.Proofs.Ytochdmbjlemfoaa
