/-
  Layer 21 (fns): set: the ways on which it does not go well.
-/
import Derived.Test.YtjkofndnhmfnoaaN11
namespace Go.Proofs.Ytjkofndnhmfnoaa
open Go Go.RowKit

set_option maxRecDepth 100000 in
set_option maxHeartbeats 1600000 in
theorem set_none (own D : Nat → Prop) (r : Nat) (s : St) (pre name : ByteArray) (v : Value) (w : World) (h : SS w own D r s) (hk : name.size ≤ 900000) (hn : nameB name = false ∨ (s.name name).kind ≠ 2) :
    Calls Try.prog 29 #[.pointer (some ⟨r, 0, none⟩), .string pre, .string name, v] w fun e w' => e = .returned (.int .i64 4) ∧ Below w.heap.size w w' := by
  have HG := Lib.hid (fun w2 (hb : Below w.heap.size w w2) => getN_any own D r s.K s.T s.G name w2 (h.below hb) (by omega))
  have HN := Lib.hid hn
  clear h hn
  go_enter Try.func29, Try.ntmps29
  go_wp2_with fail
  refine (is_any name _ (by omega)).mono ?_
  rintro e w1 ⟨rfl, hb1⟩
  have Y1 := Lib.hid hb1
  clear hb1
  cases hnb : nameB name with
  | false =>
    clear hnb
    go_wp2
    go_ret
    exact ⟨rfl, Y1.out⟩
  | true =>
    have HK : RowKit.Hid ((s.name name).kind ≠ 2) := by
      show _ ≠ _
      rcases HN.out with h | h
      · rw [hnb] at h; cases h
      · exact h
    clear hnb
    go_wp2_with fail
    refine (HG.out w1 Y1.out).mono ?_
    rintro e w2 ⟨ts, rfl, ht, hb2⟩
    obtain ⟨t, htt⟩ : ∃ t, t = getN s.K s.T name := ⟨_, rfl⟩
    rw [← htt] at ht
    obtain ⟨A1, n1, c1, A2, n2, c2, A3, n3, c3, A4, n4, c4, A5, n5, c5, rfl⟩ := ht.full
    have hfk := field_kind w2 t.kind t.n t.f.version t.v.char A1 A2 A3 A4 A5 n1 c1 n2 c2 n3 c3 n4 c4 n5 c5 t.f.name t.f.result t.f.left t.f.right t.s
    have e1 : (t.kind != 2) = true := by
      have := HK.out
      unfold St.name at this
      rw [← htt] at this
      rw [bne_iff_ne]; exact this
    have Y2 := Lib.hid (Y1.out.trans (hb2.mono Y1.out.size))
    clear ht hb2 htt HG
    go_wp2
    go_ret
    exact ⟨rfl, Y2.out⟩
set_option maxRecDepth 100000 in
theorem set_nil (pre name v : Value) (w : World) : Calls Try.prog 29 #[.pointer none, pre, name, v] w fun e w' => e = .returned (.int .i64 2) ∧ w' = w := by
  go_enter Try.func29, Try.ntmps29
  go_wp2
  go_ret
  exact ⟨rfl, rfl⟩
set_option maxRecDepth 100000 in
set_option maxHeartbeats 1600000 in
theorem set_arg (own D Dl : Nat → Prop) (r : Nat) (s : St) (pre name : ByteArray) (A : Option Addr) (c : Nat) (zs : List Int) (w : World) (h : SS w own D r s) (hk : name.size ≤ 900000) (hn : nameB name = true) (hd : (s.name name).kind = 2) (hr : ∃ x ∈ zs, x < 1 ∨ 100 < x) (hz : Rd w Dl 1 A zs.length c (intRows .i64 zs)) :
    Calls Try.prog 29 #[.pointer (some ⟨r, 0, none⟩), .string pre, .string name, .slice A zs.length c] w fun e w' => e = .returned (.int .i64 1) ∧ Below w.heap.size w w' := by
  have HG := Lib.hid (fun w2 (hb : Below w.heap.size w w2) => getN_any own D r s.K s.T s.G name w2 (h.below hb) (by omega))
  have HD := Lib.hid hd
  have HN := Lib.hid hn
  have HZ := Lib.hid (fun w2 (hb : Below w.heap.size w w2) => hz.below hb)
  have HA : RowKit.Hid ((zs.any fun x => decide (x < 1 ∨ 100 < x)) = true) := by
    show _ = _
    rw [List.any_eq_true]
    obtain ⟨x, hx, h1⟩ := hr
    exact ⟨x, hx, decide_eq_true h1⟩
  clear h hd hn hz hr
  go_enter Try.func29, Try.ntmps29
  go_wp2_with fail
  refine (is_any name _ (by omega)).mono ?_
  rintro e w1 ⟨rfl, hb1⟩
  rw [HN.out]
  have Y1 := Lib.hid hb1
  clear hb1
  go_wp2_with fail
  refine (HG.out w1 Y1.out).mono ?_
  rintro e w2 ⟨ts, rfl, ht, hb2⟩
  obtain ⟨t, htt⟩ : ∃ t, t = getN s.K s.T name := ⟨_, rfl⟩
  rw [← htt] at ht
  obtain ⟨A1, n1, c1, A2, n2, c2, A3, n3, c3, A4, n4, c4, A5, n5, c5, rfl⟩ := ht.full
  have hfk := field_kind w2 t.kind t.n t.f.version t.v.char A1 A2 A3 A4 A5 n1 c1 n2 c2 n3 c3 n4 c4 n5 c5 t.f.name t.f.result t.f.left t.f.right t.s
  have e1 : (t.kind != 2) = false := by
    have := HD.out
    unfold St.name at this
    rw [← htt] at this
    rw [this]; rfl
  have Y2 := Lib.hid (Y1.out.trans (hb2.mono Y1.out.size))
  clear ht hb2 htt HG
  go_wp2_with fail
  refine (cfi21 A zs.length c zs Dl w2 (HZ.out w2 Y2.out)).mono ?_
  rintro e w3 ⟨rfl, hb3⟩
  rw [HA.out]
  have Y3 := Lib.hid (Y2.out.trans (hb3.mono Y2.out.size))
  clear hb3 e1 hfk
  go_wp2
  go_ret
  exact ⟨rfl, Y3.out⟩
end Go.Proofs.Ytjkofndnhmfnoaa
