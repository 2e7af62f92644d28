/-
  Layer 20 (names): digits, list, kept, deep: contracts, where strconv's table of powers of ten lies as the library lays it; a store in memory that keeps clear of some blocks (KX).
-/
import Derived.Test.YtjkofndnhmfnoaaDoorL1
import Derived.Test.YtjkofndnhmfnoaaDoorN4
namespace Go.Proofs.YtjkofndnhmfnoaaDoor
open Go Go.RowKit

set_option maxRecDepth 100000 in
theorem digits20_any (d : Int) (k : UInt8) (l : List UInt8) (w : World) (ht : Tab w) (h0 : 0 ≤ d) (h1 : d ≤ 999) (hl : Lib.itoa (1000 + d) = k :: l) (hz : l.length ≤ 20) : Calls Tryd.prog 77 #[.int .i64 d] w fun e w' => e = .returned (.string (bs l)) ∧ Below w.heap.size w w' := by
  have HI := Lib.hid (itoa_any (1000 + d) w ⟨by omega, by omega⟩ ht)
  have HX := Lib.hid (bs_tail k l)
  have hz1 : 1 ≤ (bs (k :: l)).size := by rw [bs_size, List.length_cons]; omega
  have hz2 : (bs (k :: l)).size ≤ 21 := by rw [bs_size, List.length_cons]; omega
  have HL := Lib.hid hl
  clear hl ht hz
  go_enter Tryd.func77, Tryd.ntmps77
  go_wp2_with fail
  refine HI.out.mono ?_
  rintro e w1 ⟨rfl, hb⟩
  rw [HL.out]
  have B1 := Lib.hid hb
  clear hb HI
  go_wp2
  go_ret
  exact ⟨by rw [← HX.out]; rfl, B1.out⟩
/-- The keys of a depth's names, and of a binding that is saved there. -/
def lkey (l : List UInt8) : ByteArray := ⟨#[99, 47]⟩ ++ bs l ++ ⟨#[47, 110]⟩
def skey (l : List UInt8) (name : ByteArray) : ByteArray := ⟨#[115, 47]⟩ ++ bs l ++ ⟨#[47]⟩ ++ name
theorem lkey_size (l : List UInt8) : (lkey l).size = l.length + 4 := by
  unfold lkey
  rw [ByteArray.size_append, ByteArray.size_append, bs_size]
  show 2 + l.length + 2 = _
  omega
theorem skey_size (l : List UInt8) (name : ByteArray) : (skey l name).size = l.length + 3 + name.size := by
  unfold skey
  rw [ByteArray.size_append, ByteArray.size_append, ByteArray.size_append, bs_size]
  show 2 + l.length + 1 + name.size = _
  omega
set_option maxRecDepth 100000 in
theorem list20_any (d : Int) (k : UInt8) (l : List UInt8) (w : World) (ht : Tab w) (h0 : 0 ≤ d) (h1 : d ≤ 999) (hl : Lib.itoa (1000 + d) = k :: l) (hz : l.length ≤ 20) : Calls Tryd.prog 51 #[.int .i64 d] w fun e w' => e = .returned (.string (lkey l)) ∧ Below w.heap.size w w' := by
  have HI := Lib.hid (digits20_any d k l w ht h0 h1 hl hz)
  have hs : (bs l).size = l.length := bs_size _
  have hz1 : ¬ 9223372036854775807 < 2 + (bs l).size := by omega
  have hz2 : ¬ 9223372036854775807 < ((⟨#[99, 47]⟩ : ByteArray) ++ bs l).size + 2 := by
    rw [ByteArray.size_append]
    show ¬ _ < 2 + (bs l).size + 2
    omega
  have hz2' : ¬ 9223372036854775807 < 2 + (bs l).size + 2 := by omega
  clear hl ht hz hs
  go_enter Tryd.func51, Tryd.ntmps51
  go_wp2_with fail
  refine HI.out.mono ?_
  rintro e w1 ⟨rfl, hb⟩
  have B1 := Lib.hid hb
  clear hb HI
  go_wp2
  go_ret
  exact ⟨rfl, B1.out⟩
set_option maxRecDepth 100000 in
theorem kept20_any (d : Int) (k : UInt8) (l : List UInt8) (name : ByteArray) (w : World) (ht : Tab w) (h0 : 0 ≤ d) (h1 : d ≤ 999) (hl : Lib.itoa (1000 + d) = k :: l) (hz : l.length ≤ 20) (hn : name.size ≤ 900000) : Calls Tryd.prog 54 #[.int .i64 d, .string name] w fun e w' => e = .returned (.string (skey l name)) ∧ Below w.heap.size w w' := by
  have HI := Lib.hid (digits20_any d k l w ht h0 h1 hl hz)
  have hs : (bs l).size = l.length := bs_size _
  have e2 : ((⟨#[115, 47]⟩ : ByteArray) ++ bs l).size = 2 + (bs l).size := ByteArray.size_append
  have e3 : ((⟨#[115, 47]⟩ : ByteArray) ++ bs l ++ ⟨#[47]⟩).size = 2 + (bs l).size + 1 := by rw [ByteArray.size_append, e2]; rfl
  have hz1 : ¬ 9223372036854775807 < 2 + (bs l).size := by omega
  have hz2 : ¬ 9223372036854775807 < ((⟨#[115, 47]⟩ : ByteArray) ++ bs l).size + 1 := by rw [e2]; omega
  have hz3 : ¬ 9223372036854775807 < ((⟨#[115, 47]⟩ : ByteArray) ++ bs l ++ ⟨#[47]⟩).size + name.size := by rw [e3]; omega
  have hz2' : ¬ 9223372036854775807 < 2 + (bs l).size + 1 := by omega
  have hz3' : ¬ 9223372036854775807 < 2 + (bs l).size + 1 + name.size := by omega
  clear hl ht hz hs e2 e3
  go_enter Tryd.func54, Tryd.ntmps54
  go_wp2_with fail
  refine HI.out.mono ?_
  rintro e w1 ⟨rfl, hb⟩
  have B1 := Lib.hid hb
  clear hb HI
  go_wp2
  go_ret
  exact ⟨rfl, B1.out⟩
theorem deep_ok (r : Nat) (d : Int) (w : World) (h0 : 0 ≤ d) (h1 : d ≤ 999) : Calls Tryd.prog 49 #[.pointer (some ⟨r, 0, none⟩), .int .i64 d] w fun e w' => e = .returned (.int .i64 0) ∧ w' = w := by
  have q0 : ¬ d < 0 := by omega
  have q1 : ¬ 999 < d := by omega
  go_enter Tryd.func49, Tryd.ntmps49
  go_wp2
  go_ret
  exact ⟨rfl, rfl⟩
theorem deep_low (r : Nat) (d : Int) (w : World) (h0 : d < 0) : Calls Tryd.prog 49 #[.pointer (some ⟨r, 0, none⟩), .int .i64 d] w fun e w' => e = .returned (.int .i64 1) ∧ w' = w := by
  go_enter Tryd.func49, Tryd.ntmps49
  go_wp2
  go_ret
  exact ⟨rfl, rfl⟩
theorem deep_high (r : Nat) (d : Int) (w : World) (h1 : 999 < d) : Calls Tryd.prog 49 #[.pointer (some ⟨r, 0, none⟩), .int .i64 d] w fun e w' => e = .returned (.int .i64 1) ∧ w' = w := by
  have q0 : ¬ d < 0 := by omega
  go_enter Tryd.func49, Tryd.ntmps49
  go_wp2
  go_ret
  exact ⟨rfl, rfl⟩
theorem deep_nil (d : Value) (w : World) : Calls Tryd.prog 49 #[.pointer none, d] w fun e w' => e = .returned (.int .i64 2) ∧ w' = w := by
  go_enter Tryd.func49, Tryd.ntmps49
  go_wp2
  go_ret
  exact ⟨rfl, rfl⟩

/-- A store in memory; what it owns, and what its things are told by, keeps clear of the blocks X. -/
structure KX (w0 wr : World) (r : Nat) (s : St) (X : Nat → Prop) : Prop where
  ex : ∃ own D, SS wr own D r s ∧ (∀ b, own b → w0.heap.size ≤ b ∧ ¬ X b) ∧ ∀ b, D b → ¬ X b
  lt : ∀ b, X b → b < wr.heap.size
  below : Below w0.heap.size w0 wr
theorem KX.on {w0 wr w2 : World} {r : Nat} {s : St} {X : Nat → Prop} (h : KX w0 wr r s X) (hb : Below wr.heap.size wr w2) : KX w0 w2 r s X := by
  obtain ⟨own, D, h1, h2, h3⟩ := h.ex
  exact ⟨⟨own, D, SK.below h1 hb, h2, h3⟩, fun b hx => Nat.lt_of_lt_of_le (h.lt b hx) hb.size, h.below.trans (hb.mono h.below.size)⟩
theorem KX.after {w0 wr w2 : World} {r : Nat} {s s' : St} {X own D : Nat → Prop} (h : KX w0 wr r s X) (hn : ∀ b, own b → w0.heap.size ≤ b ∧ ¬ X b) (hd : ∀ b, D b → ¬ X b) (ha : After wr w2 own D r s') : KX w0 w2 r s' X ∧ Chg (fun b => ¬ X b) wr w2 := by
  obtain ⟨own', h1, h2⟩ := ha
  refine ⟨⟨⟨own', D, h1, fun b hb => ?_, hd⟩, fun b hx => Nat.lt_of_lt_of_le (h.lt b hx) h2.chg.size, h.below.trans (h2.chg.below h.below.size (fun b hb => (hn b hb).1))⟩, h2.chg.mono (fun b _ hb => (hn b hb).2)⟩
  rcases h2.new b hb with h3 | h3
  · exact hn b h3
  · exact ⟨Nat.le_trans h.below.size h3, fun hx => by have := h.lt b hx; omega⟩
theorem KX.fewer {w0 wr : World} {r : Nat} {s : St} {X Y : Nat → Prop} (h : KX w0 wr r s X) (hy : ∀ b, Y b → X b) : KX w0 wr r s Y := by
  obtain ⟨own, D, h1, h2, h3⟩ := h.ex
  exact ⟨⟨own, D, h1, fun b hb => ⟨(h2 b hb).1, fun hx => (h2 b hb).2 (hy b hx)⟩, fun b hb hx => h3 b hb (hy b hx)⟩, fun b hx => h.lt b (hy b hx), h.below⟩
/-- New blocks to keep clear of. -/
theorem KX.more {w0 wr w2 : World} {r : Nat} {s : St} {X Y : Nat → Prop} (h : KX w0 wr r s X) (hb : Below wr.heap.size wr w2) (hy : ∀ b, Y b → wr.heap.size ≤ b ∧ b < w2.heap.size) : KX w0 w2 r s (fun b => X b ∨ Y b) := by
  obtain ⟨own, D, h1, h2, h3⟩ := h.ex
  refine ⟨⟨own, D, SK.below h1 hb, fun b ho => ⟨(h2 b ho).1, fun hx => ?_⟩, fun b hd hx => ?_⟩, fun b hx => ?_, h.below.trans (hb.mono h.below.size)⟩
  · rcases hx with hx | hx
    · exact (h2 b ho).2 hx
    · have := SK.lt h1 b ho
      have := (hy b hx).1
      omega
  · rcases hx with hx | hx
    · exact h3 b hd hx
    · have := SK.dlt h1 b hd
      have := (hy b hx).1
      omega
  · rcases hx with hx | hx
    · exact Nat.lt_of_lt_of_le (h.lt b hx) hb.size
    · exact (hy b hx).2
theorem KX.tab {w0 wr : World} {r : Nat} {s : St} {X : Nat → Prop} (h : KX w0 wr r s X) (ht : Tab w0) : Tab wr := ht.below h.below
theorem touchG_len (K : List ByteArray) (T : ByteArray → TD) (G : List ED) (k : ByteArray) : (touchG K T G k).length ≤ G.length + 1 := by
  unfold touchG
  split
  · omega
  · simp
theorem dropG_len (K : List ByteArray) (T : ByteArray → TD) (G : List ED) (k : ByteArray) : (dropG K T G k).length ≤ G.length + 1 := by
  unfold dropG touchG
  split
  · split
    · omega
    · simp
  · omega
end Go.Proofs.YtjkofndnhmfnoaaDoor
