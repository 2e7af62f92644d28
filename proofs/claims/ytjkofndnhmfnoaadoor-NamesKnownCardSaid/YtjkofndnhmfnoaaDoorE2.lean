/-
  Layer 20 (names): Save when all goes well; Contains, Join of texts, the law's texts: contracts. Of any store in memory, where strconv's table of powers of ten lies as the library lays it.
-/
import Derived.Test.YtjkofndnhmfnoaaDoorE1
import Derived.Test.YtjkofndnhmfnoaaDoorLayN
import Derived.Deep.AppendLies
namespace Go.Proofs.YtjkofndnhmfnoaaDoor
open Go Go.RowKit

theorem texts20_lens (A B : Option Addr) (n c m d : Nat) (w : World) (h : n ≠ m) :
    Calls Tryd.prog 26 #[.slice A n c, .slice B m d] w fun e w' => e = .returned (.bool false) ∧ w = w' := by
  have h3 : ((n : Int) == (m : Int)) = false := by simp; omega
  clear h
  go_enter Tryd.func26, Tryd.ntmps26
  go_wp2
  go_ret
  exact ⟨rfl, rfl⟩
set_option maxRecDepth 100000 in
set_option maxHeartbeats 800000 in
theorem texts20_same (A B : Option Addr) (n c d : Nat) (xs ys : List ByteArray) (D D' : Nat → Prop) (w : World) (hx : Rd w D 1 A n c (strRows xs)) (hy : Rd w D' 1 B n d (strRows ys)) :
    Calls Tryd.prog 26 #[.slice A n c, .slice B n d] w fun e w' => e = .returned (.bool (decide (xs = ys))) ∧ ∃ k, w' = w.drewN k := by
  have hn : n ≤ 9223372036854775807 := by have h1 := hx.le; have h2 := hx.max; unfold maxLen at h2; omega
  obtain ⟨lx, hx⟩ := hx.one
  obtain ⟨ly, hy⟩ := hy.one
  have H1 := Lib.hid hx
  have H2 := Lib.hid hy
  have L1 := Lib.hid lx
  have L2 := Lib.hid ly
  clear hx hy lx ly
  go_enter Tryd.func26, Tryd.ntmps26
  go_wp2
  go_loopw [5] (fun i wr => ∃ k d : Nat, k ≤ n ∧ i = .int .i64 (k : Int) ∧ wr = w.drewN d ∧ RowKit.Hid (xs.take k = ys.take k)) (fun i _ => n - (RowKit.intOf i).toNat)
  case atStart => exact ⟨0, 0, Nat.zero_le _, rfl, rfl, rfl⟩
  case round =>
    obtain ⟨k, d, hk, rfl, rfl, hh⟩ := hrel
    by_cases hlt : k < n
    · obtain ⟨b, off, hA, -, hb, hc⟩ := H1.out (by omega)
      obtain ⟨b', off', hB, -, hb', hc'⟩ := H2.out (by omega)
      obtain ⟨x, hxk⟩ : ∃ x, xs[k]? = some x := ⟨_, List.getElem?_eq_getElem (by rw [L1.out]; exact hlt)⟩
      obtain ⟨y, hyk⟩ : ∃ y, ys[k]? = some y := ⟨_, List.getElem?_eq_getElem (by rw [L2.out]; exact hlt)⟩
      subst hA hB
      have cx := hc k x hxk
      have cy := hc' k y hyk
      have Hx := Lib.hid hxk
      have Hy := Lib.hid hyk
      clear hc hc' hxk hyk
      have h1 : (k : Int) < (n : Int) := by omega
      have h2 : (0 : Int) ≤ (k : Int) := by omega
      by_cases he : x = y
      · subst he
        go_wp2
        go_quiet (fail)
        go_wp2
        go_roundw
        case rel => exact ⟨k + 1, _, by omega, by go_num, rfl, take_step hh.out Hx.out Hy.out⟩
        case measure => simp [RowKit.intOf]; omega
      · have h3 : (x.toList == y.toList) = false := str_ne he
        have HE := Lib.hid he
        clear he
        go_wp2
        go_quiet (fail)
        go_wp2
        go_ret
        exact ⟨by rw [decide_eq_false (fun h => ne_at Hx.out Hy.out HE.out h)]; rfl, d + nq, World.drewN_drewN _ _ _⟩
    · have hkn : k = n := by omega
      subst hkn
      have hh2 : RowKit.Hid (xs = ys) := take_all hh.out L1.out L2.out
      clear hh
      go_wp2
      go_ret
      exact ⟨by rw [decide_eq_true hh2.out]; rfl, _, rfl⟩
theorem texts20_any (A B : Option Addr) (n c m d : Nat) (xs ys : List ByteArray) (D D' : Nat → Prop) (w : World) (hx : Rd w D 1 A n c (strRows xs)) (hy : Rd w D' 1 B m d (strRows ys)) :
    Calls Tryd.prog 26 #[.slice A n c, .slice B m d] w fun e w' => e = .returned (.bool (decide (xs = ys))) ∧ ∃ k, w' = w.drewN k := by
  by_cases h : n = m
  · subst h
    exact texts20_same A B n c d xs ys D D' w hx hy
  · refine (texts20_lens A B n c m d w h).mono ?_
    rintro e w' ⟨rfl, rfl⟩
    refine ⟨?_, 0, rfl⟩
    rw [decide_eq_false]
    rintro rfl
    exact h (hx.one.1.symm.trans hy.one.1)

theorem contains20_any (A : Option Addr) (n c : Nat) (L : List ByteArray) (x : ByteArray) (D : Nat → Prop) (w : World) (h : Rd w D 1 A n c (strRows L)) : Calls Tryd.prog 52 #[.slice A n c, .string x] w fun e w' => e = .returned (.bool (decide (x ∈ L))) ∧ w' = w := by
  have hn : n ≤ 9223372036854775807 := by have h1 := h.le; have h2 := h.max; unfold maxLen at h2; omega
  obtain ⟨hl, hx⟩ := h.one
  rcases Nat.eq_zero_or_pos n with h0 | h0
  · subst h0
    have hL : L = [] := List.eq_nil_of_length_eq_zero hl
    subst hL
    exact Tryd.slices_Contains_string_empty A c x w
  · obtain ⟨b, off, rfl, -, -, hc⟩ := hx h0
    have hh := Tryd.slices_Contains_string b off n c L x w (by omega) hn (fun j hj => by
      have := hc j _ (List.getElem?_eq_getElem hj)
      rw [this, List.getD_eq_getElem?_getD, List.getElem?_eq_getElem hj]; rfl)
    rw [List.take_of_length_le (by omega)] at hh
    have e : Lib.containsS L x = decide (x ∈ L) := by
      rw [Bool.eq_iff_iff, Lib.containsS_iff, decide_eq_true_eq]
    rw [e] at hh
    exact hh
theorem join_le (xs : List (List UInt8)) (sep : List UInt8) (b : Nat) (h : ∀ x ∈ xs, x.length ≤ b) (hs : sep.length ≤ 1) : (Lib.join xs sep).length ≤ xs.length * (b + 1) := by
  cases xs with
  | nil => simp [Lib.join_nil]
  | cons x r =>
    rw [Lib.join_cons, List.length_append, Lib.joinTail_length]
    have h1 := h x List.mem_cons_self
    have h2 : ∀ r : List (List UInt8), (∀ x ∈ r, x.length ≤ b) → sep.length * r.length + Lib.lens r ≤ r.length * (b + 1) := by
      intro r
      induction r with
      | nil => intro _; simp [Lib.lens]
      | cons y r ih =>
        intro h
        have := ih (fun z hz => h z (List.mem_cons_of_mem _ hz))
        have hy := h y List.mem_cons_self
        simp only [Lib.lens, List.map_cons, List.sum_cons, List.length_cons] at this ⊢
        rw [Nat.mul_add, Nat.add_mul]
        omega
    have := h2 r (fun z hz => h z (List.mem_cons_of_mem _ hz))
    rw [List.length_cons, Nat.add_mul]
    omega
/-- Names in one text. -/
def joinB (L : List ByteArray) : ByteArray := ⟨(Lib.join (L.map (·.data.toList)) [32]).toArray⟩
theorem join20_any (A : Option Addr) (n c : Nat) (L : List ByteArray) (D : Nat → Prop) (w : World) (h : Rd w D 1 A n c (strRows L)) (hn : n ≤ 1000) (hz : (Lib.join (L.map (·.data.toList)) [32]).length ≤ 1000000) : Calls Tryd.prog 35 #[.slice A n c, .string ⟨#[32]⟩] w fun e w' => e = .returned (.string (joinB L)) ∧ Below w.heap.size w w' := by
  obtain ⟨hl, hx⟩ := h.one
  have hle := h.le
  rcases Nat.eq_zero_or_pos n with h0 | h0
  · subst h0
    have hL : L = [] := List.eq_nil_of_length_eq_zero hl
    subst hL
    refine (Tryd.strings_Join_none A c ⟨#[32]⟩ w).mono ?_
    rintro e w' ⟨rfl, rfl⟩
    exact ⟨rfl, Below.refl _ _⟩
  · obtain ⟨b, off, rfl, -, hb, hc⟩ := hx h0
    have hh := Tryd.strings_Join b off c L ⟨#[32]⟩ w hc hb (by omega) (by omega) (by
      show (Lib.join (L.map (·.data.toList)) [32]).length ≤ _
      omega)
    rw [hl] at hh
    exact hh

/-! ### What Save makes -/
def svStep (l : List UInt8) (p : St × List ByteArray) (n : ByteArray) : St × List ByteArray := if n ∈ p.2 then p else ((p.1.put (skey l n) (p.1.name n)).del (vkey n), p.2 ++ [n])
def svAll (l : List UInt8) (s : St) (L : List ByteArray) : St × List ByteArray := L.foldl (svStep l) (s, [])
def txT (x : ByteArray) : TD := ⟨6, vz, fz, [], 0, x⟩
def txE (x : ByteArray) : List Value := [.int .u8 6, .bool false, .slice none 0 0, .slice none 0 0, .string ⟨#[]⟩, .string ⟨#[]⟩, .string ⟨#[]⟩, .string ⟨#[]⟩, .slice none 0 0, .slice none 0 0, .int .i64 0, .slice none 0 0, .int .i64 0, .string x]
theorem txT_is (w : World) (D : Nat → Prop) (x : ByteArray) : TIs w D (txE x) (txT x) :=
  ⟨[.bool false, .slice none 0 0, .slice none 0 0], [.string ⟨#[]⟩, .string ⟨#[]⟩, .string ⟨#[]⟩, .string ⟨#[]⟩, .slice none 0 0, .slice none 0 0, .int .i64 0], none, 0, 0, [], rfl, ⟨none, 0, 0, none, 0, 0, rfl, Rd.nil _ _ _, Rd.nil _ _ _⟩, ⟨none, 0, 0, none, 0, 0, rfl, Rd.nil _ _ _, Rd.nil _ _ _⟩, Rd.nil _ _ _, rfl, by simp [txT]⟩
def St.save (s : St) (l : List UInt8) (L : List ByteArray) : St := (svAll l s L).1.put (lkey l) (txT (joinB (svAll l s L).2))
theorem svAll_snoc (l : List UInt8) (s : St) (L : List ByteArray) (x : ByteArray) : svAll l s (L ++ [x]) = svStep l (svAll l s L) x := by
  unfold svAll
  rw [List.foldl_append]
  rfl
theorem svStep_in {l : List UInt8} {p : St × List ByteArray} {n : ByteArray} (h : n ∈ p.2) : svStep l p n = p := by unfold svStep; rw [if_pos h]
theorem svStep_out {l : List UInt8} {p : St × List ByteArray} {n : ByteArray} (h : ¬ n ∈ p.2) : svStep l p n = ((p.1.put (skey l n) (p.1.name n)).del (vkey n), p.2 ++ [n]) := by unfold svStep; rw [if_neg h]
theorem set20_any (own D : Nat → Prop) (r : Nat) (s : St) (key : ByteArray) (ts : List Value) (t : TD) (w : World) (h : SS w own D r s) (hk : key.size ≤ maxLen) (hG : s.G.length ≤ 1000000) (hK : s.K.length ≤ 1000000) (ht : TIs w D ts t) :
    Calls Tryd.prog 53 #[.pointer (some ⟨r, 0, none⟩), .string key, .agg ts.toArray] w fun e w' => e = .returned (.int .i64 0) ∧ After w w' own D r (s.put key t) := cSet_any own D r s.K s.T s.G key ts t w h hk hG hK ht
theorem drop20_any (own D : Nat → Prop) (r : Nat) (s : St) (key : ByteArray) (w : World) (h : SS w own D r s) (hk : key.size ≤ maxLen) (hG : s.G.length ≤ 1000000) :
    Calls Tryd.prog 57 #[.pointer (some ⟨r, 0, none⟩), .string key] w fun e w' => e = .returned (.int .i64 0) ∧ After w w' own D r (s.del key) := cDrop_any own D r s.K s.T s.G key w h hk hG
theorem KX.push {w0 wr w5 : World} {r g : Nat} {s : St} {X : Nat → Prop} {v : Value} {o : Obj} (h : KX w0 wr r s (fun b => X b ∨ v.ownBlock = some b)) (hg : (wr.alloc o).grownBy w5 v.ownBlock) (hl : v.ownBlock = some g ∨ g = wr.heap.size + 1) (hlt : g < w5.heap.size) (hv : ∀ k, v.ownBlock = some k → w0.heap.size ≤ k) : KX w0 w5 r s (fun b => X b ∨ g = b) ∧ Chg (fun j => v.ownBlock = some j) wr w5 := by
  have hz := hg.size
  have hsz : (wr.alloc o).heap.size = wr.heap.size + 1 := by simp
  have hc : Chg (fun j => v.ownBlock = some j) wr w5 := ⟨hg.os, hg.tape, hg.output, by omega, fun k hk hS => by
    rw [hg.block k (by omega) (fun e => hS e.symm), Below.heap_alloc wr _ k hk]⟩
  obtain ⟨own, D, h1, h2, h3⟩ := h.ex
  refine ⟨⟨⟨own, D, SK.chg h1 hc (fun b hb => ⟨fun ho => (h2 b ho).2 (.inr hb), fun hd => h3 b hd (.inr hb)⟩), fun b ho => ⟨(h2 b ho).1, ?_⟩, fun b hd => ?_⟩, fun b hb => ?_, h.below.trans (hc.below h.below.size hv)⟩, hc⟩
  · rintro (hx | rfl)
    · exact (h2 b ho).2 (.inl hx)
    · rcases hl with hl | hl
      · exact (h2 g ho).2 (.inr hl)
      · have := SK.lt h1 g ho
        omega
  · rintro (hx | rfl)
    · exact h3 b hd (.inl hx)
    · rcases hl with hl | hl
      · exact h3 g hd (.inr hl)
      · have := SK.dlt h1 g hd
        omega
  · rcases hb with hx | rfl
    · have := h.lt b (.inl hx)
      omega
    · exact hlt
theorem str_flat (L : List ByteArray) : (strRows L).flatten = L.map Value.string := by
  unfold strRows
  induction L with
  | nil => rfl
  | cons x L ih => simp only [List.map_cons, List.flatten_cons, List.singleton_append, ih]
end Go.Proofs.YtjkofndnhmfnoaaDoor
