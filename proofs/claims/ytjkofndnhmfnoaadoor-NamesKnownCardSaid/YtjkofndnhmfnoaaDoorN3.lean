/-
  Layer 20 (names): put, may, Bind: contracts, over a store's state (St). Of any store in memory, any name, any thing.
-/
import Derived.Test.YtjkofndnhmfnoaaDoorN2
namespace Go.Proofs.YtjkofndnhmfnoaaDoor
open Go Go.RowKit

/-- A store's keys, its things, its group. -/
structure St where
  K : List ByteArray
  T : ByteArray → TD
  G : List ED
def St.put (s : St) (k : ByteArray) (t : TD) : St := ⟨insKS k s.K, updT s.T k t, touchG s.K s.T s.G k⟩
def St.del (s : St) (k : ByteArray) : St := ⟨s.K.filter (· ≠ k), s.T, dropG s.K s.T s.G k⟩
def St.look (s : St) (k : ByteArray) : TD := getT s.K s.T k
def St.name (s : St) (n : ByteArray) : TD := getN s.K s.T n
def St.bind (s : St) (n : ByteArray) (t : TD) : St := if bindsB t.kind = true then s.put (vkey n) t else s.del (vkey n)
/-- A store in memory, in that state. -/
def SS (w : World) (own D : Nat → Prop) (r : Nat) (s : St) : Prop := SK w own D r s.K s.T s.G
/-- What a call on a store leaves. -/
def After (w w' : World) (own D : Nat → Prop) (r : Nat) (s : St) : Prop := ∃ own', SS w' own' D r s ∧ Grow own own' w w'
theorem After.of_below {w w1 w2 : World} {own D : Nat → Prop} {r : Nat} {s : St} (hb : Below w.heap.size w w1) (h : After w1 w2 own D r s) : After w w2 own D r s := by
  obtain ⟨own', h1, h2⟩ := h
  exact ⟨own', h1, (Grow.below hb).trans h2⟩
theorem After.below {w w1 w2 : World} {own D : Nat → Prop} {r : Nat} {s : St} (h : After w w1 own D r s) (hb : Below w1.heap.size w1 w2) : After w w2 own D r s := by
  obtain ⟨own', h1, h2⟩ := h
  exact ⟨own', h1.below hb, h2.trans (Grow.below hb)⟩
theorem After.refl {w : World} {own D : Nat → Prop} {r : Nat} {s : St} (h : SS w own D r s) : After w w own D r s := ⟨own, h, Grow.refl _ _⟩
theorem After.trans {w w1 w2 : World} {own D : Nat → Prop} {r : Nat} {s s' : St} (h : After w w1 own D r s) (k : ∀ own', SS w1 own' D r s → After w1 w2 own' D r s') : After w w2 own D r s' := by
  obtain ⟨own', h1, h2⟩ := h
  obtain ⟨own2, k1, k2⟩ := k own' h1
  exact ⟨own2, k1, h2.trans k2⟩
set_option maxRecDepth 100000 in
set_option maxHeartbeats 1600000 in
theorem put_any (own D : Nat → Prop) (r : Nat) (s : St) (name : ByteArray) (ts : List Value) (t : TD) (w : World) (h : SS w own D r s) (hk : name.size ≤ 1000000) (hG : s.G.length ≤ 1000000) (hK : s.K.length ≤ 1000000) (ht : TIs w D ts t) :
    Calls Tryd.prog 47 #[.pointer (some ⟨r, 0, none⟩), .string name, .agg ts.toArray] w fun e w' => e = .returned (.tuple #[]) ∧ After w w' own D r (s.bind name t) := by
  have HB := Lib.hid (fun o => (Below.refl w.heap.size w).alloc (Nat.le_refl _) o)
  have hvk : (vkey name).size ≤ maxLen := by
    rw [vkey_size]
    unfold maxLen
    omega
  have HS := Lib.hid (fun w2 (hb : Below w.heap.size w w2) ts' (ht' : TIs w2 D ts' t) => cSet_any own D r s.K s.T s.G (vkey name) ts' t w2 (h.below hb) hvk hG hK ht')
  have HD := Lib.hid (fun w2 (hb : Below w.heap.size w w2) => cDrop_any own D r s.K s.T s.G (vkey name) w2 (h.below hb) hvk hG)
  have hsz : ¬ 9223372036854775807 < 2 + name.size := by omega
  obtain ⟨A1, n1, c1, A2, n2, c2, A3, n3, c3, A4, n4, c4, A5, n5, c5, rfl⟩ := ht.full
  have H1 := Lib.hid ht
  clear h hvk ht hG hK
  go_enter Tryd.func47, Tryd.ntmps47
  go_wp2_with fail
  refine (binds_any D _ t _ (H1.out.below (HB.out _))).mono ?_
  rintro e w1 ⟨rfl, hb1⟩
  have Z1 := Lib.hid ((hb1.block w.heap.size (by simp)).trans (heap_alloc_new w _))
  have Y1 := Lib.hid ((HB.out _).trans (hb1.mono (HB.out _).size))
  have HT1 := Lib.hid (H1.out.below Y1.out)
  clear hb1
  obtain ⟨y0, y1, y2, y3, y4, y5, y6, y7, y8, y9, y10, y11, y12, y13⟩ := box14 Z1.out
  cases hbb : bindsB t.kind with
  | true =>
    have HR : RowKit.Hid (s.bind name t = s.put (vkey name) t) := by show _ = _; unfold St.bind; rw [hbb, if_pos rfl]
    clear hbb
    go_wp2_with fail
    refine (HS.out w1 Y1.out _ HT1.out).mono ?_
    rintro e w2 ⟨rfl, own', h2, hg2⟩
    go_wp2
    go_end0
    exact ⟨rfl, by rw [HR.out]; exact After.of_below Y1.out ⟨own', h2, hg2⟩⟩
  | false =>
    have HR : RowKit.Hid (s.bind name t = s.del (vkey name)) := by show _ = _; unfold St.bind; rw [hbb]; rfl
    clear hbb
    go_wp2_with fail
    refine (HD.out w1 Y1.out).mono ?_
    rintro e w2 ⟨rfl, own', h2, hg2⟩
    go_wp2
    go_end0
    exact ⟨rfl, by rw [HR.out]; exact After.of_below Y1.out ⟨own', h2, hg2⟩⟩
def mayE (name : ByteArray) : Int := if nameB name = true then 0 else 1
theorem may_any (r : Nat) (name : ByteArray) (w : World) (hz : name.size ≤ 1000000) : Calls Tryd.prog 45 #[.pointer (some ⟨r, 0, none⟩), .string name] w fun e w' => e = .returned (.int .i64 (mayE name)) ∧ Below w.heap.size w w' := by
  go_enter Tryd.func45, Tryd.ntmps45
  go_wp2_with fail
  refine (is_any name w hz).mono ?_
  rintro e w1 ⟨rfl, hb1⟩
  have HB1 := Lib.hid hb1
  clear hb1
  cases hb : nameB name with
  | true =>
    have HR : RowKit.Hid (mayE name = 0) := by show _ = _; unfold mayE; rw [if_pos hb]
    clear hb
    go_wp2
    go_ret
    exact ⟨by rw [HR.out]; rfl, HB1.out⟩
  | false =>
    have HR : RowKit.Hid (mayE name = 1) := by show _ = _; unfold mayE; rw [hb]; rfl
    clear hb
    go_wp2
    go_ret
    exact ⟨by rw [HR.out]; rfl, HB1.out⟩
theorem may_nil (name : ByteArray) (w : World) : Calls Tryd.prog 45 #[.pointer none, .string name] w fun e w' => e = .returned (.int .i64 2) ∧ w' = w := by
  go_enter Tryd.func45, Tryd.ntmps45
  go_wp2
  go_ret
  exact ⟨rfl, rfl⟩
/-- What Bind answers. -/
def bindE (name : ByteArray) (k : Int) : Int := if nameB name = true then (if bindsB k = true ∨ k = 0 then 0 else 1) else 1
set_option maxRecDepth 100000 in
set_option maxHeartbeats 1600000 in
theorem bind_good (own D : Nat → Prop) (r : Nat) (s : St) (name : ByteArray) (ts : List Value) (t : TD) (w : World) (h : SS w own D r s) (hk : name.size ≤ 1000000) (hG : s.G.length ≤ 1000000) (hK : s.K.length ≤ 1000000) (ht : TIs w D ts t) (hn : nameB name = true) (hb : bindsB t.kind = true) :
    Calls Tryd.prog 22 #[.pointer (some ⟨r, 0, none⟩), .string name, .agg ts.toArray] w fun e w' => e = .returned (.int .i64 0) ∧ After w w' own D r (s.bind name t) := by
  have HB := Lib.hid (fun o => (Below.refl w.heap.size w).alloc (Nat.le_refl _) o)
  have HM : RowKit.Hid (mayE name = 0) := by show _ = _; unfold mayE; rw [if_pos hn]
  obtain ⟨A1, n1, c1, A2, n2, c2, A3, n3, c3, A4, n4, c4, A5, n5, c5, rfl⟩ := ht.full
  have HP := Lib.hid (fun w2 (hb : Below w.heap.size w w2) => put_any own D r s name _ t w2 (h.below hb) hk hG hK (ht.below hb))
  have H1 := Lib.hid ht
  have HBB := Lib.hid hb
  clear h ht hG hK hn hb
  go_enter Tryd.func22, Tryd.ntmps22
  go_wp2_with fail
  refine (may_any r name _ hk).mono ?_
  rintro e w1 ⟨rfl, hb1⟩
  rw [HM.out]
  have Z1 := Lib.hid ((hb1.block w.heap.size (by simp)).trans (heap_alloc_new w _))
  have Y1 := Lib.hid ((HB.out _).trans (hb1.mono (HB.out _).size))
  clear hb1
  obtain ⟨y0, y1, y2, y3, y4, y5, y6, y7, y8, y9, y10, y11, y12, y13⟩ := box14 Z1.out
  go_wp2_with fail
  refine (binds_any D _ t _ (H1.out.below Y1.out)).mono ?_
  rintro e w2 ⟨rfl, hb2⟩
  rw [HBB.out]
  have Z2 := Lib.hid ((hb2.block _ (lt_of_block Z1.out)).trans Z1.out)
  have Y2 := Lib.hid (Y1.out.trans (hb2.mono Y1.out.size))
  clear hb2 y0 y1 y2 y3 y4 y5 y6 y7 y8 y9 y10 y11 y12 y13
  obtain ⟨y0, y1, y2, y3, y4, y5, y6, y7, y8, y9, y10, y11, y12, y13⟩ := box14 Z2.out
  go_wp2_with fail
  refine (HP.out w2 Y2.out).mono ?_
  rintro e w3 ⟨rfl, ha⟩
  go_wp2
  go_ret
  exact ⟨rfl, After.of_below Y2.out ha⟩
end Go.Proofs.YtjkofndnhmfnoaaDoor
