/-
  A store of cells (package cells) in memory (SK), and contracts of New, Mark, Group, Get. Of any store in memory, and of nil ones.
-/
import Derived.Test.YtjkofndnhmfnoaaDoorC1
import Derived.Test.YtjkofndnhmfnoaaDoorQ
import Derived.Test.YtjkofndnhmfnoaaDoorU1
import Derived.Deep.RegionLaw
import Derived.Deep.RegionHeld3
import Derived.Deep.AppendLies
import Derived.MapFrom
namespace Go.Proofs.YtjkofndnhmfnoaaDoor
open Go Go.RowKit Go.Maps Go.ChangeMaps

theorem slaw : Keyed Tryd.prog 9 := string_keyed Tryd.underlying9

section
variable {w : World} {D D' : Nat → Prop} {cs : List Value}
theorem VIs.mono {v : VD} (h : VIs w D cs v) (hD : ∀ b, b < w.heap.size → D b → D' b) : VIs w D' cs v := by
  obtain ⟨A, n, c, A', n', c', h1, h2, h3⟩ := h
  exact ⟨A, n, c, A', n', c', h1, h2.mono hD (by decide), h3.mono hD (by decide)⟩
theorem FIs.mono {v : FD} (h : FIs w D cs v) (hD : ∀ b, b < w.heap.size → D b → D' b) : FIs w D' cs v := by
  obtain ⟨A, n, c, A', n', c', h1, h2, h3⟩ := h
  exact ⟨A, n, c, A', n', c', h1, h2.mono hD (by decide), h3.mono hD (by decide)⟩
theorem OIs.mono {v : OD} (h : OIs w D cs v) (hD : ∀ b, b < w.heap.size → D b → D' b) : OIs w D' cs v := by
  obtain ⟨vs, h1, h2⟩ := h
  exact ⟨vs, h1, h2.mono hD⟩
theorem TIs.mono {v : TD} (h : TIs w D cs v) (hD : ∀ b, b < w.heap.size → D b → D' b) : TIs w D' cs v := by
  obtain ⟨vs, fs, A, n, c, oes, h1, h2, h3, h4, h5, h6⟩ := h
  exact ⟨vs, fs, A, n, c, oes, h1, h2.mono hD, h3.mono hD, h4.mono hD (by decide), h5, fun i oe o a b => (h6 i oe o a b).mono hD⟩
end
theorem EntsAre.mono {w : World} {D D' : Nat → Prop} {es : List (List Value)} {L : List ED} (h : EntsAre w D es L) (hD : ∀ b, b < w.heap.size → D b → D' b) : EntsAre w D' es L :=
  ⟨h.1, fun i e E he hE => by
    obtain ⟨ts, h1, h2⟩ := h.2 i e E he hE
    exact ⟨ts, h1, h2.mono hD⟩⟩
/-- The shape of a thing's cells. -/
theorem TIs.form {w : World} {D : Nat → Prop} {ts : List Value} {T : TD} (h : TIs w D ts T) :
    ∃ x0 x1 x2 x3 x4 x5 x6 x7 x8 x9 x10 x11 x12 x13 : Value, ts = [x0, x1, x2, x3, x4, x5, x6, x7, x8, x9, x10, x11, x12, x13] := by
  obtain ⟨vs, fs, A, n, c, oes, rfl, hv, hf, _⟩ := h
  obtain ⟨_, _, _, _, _, _, rfl, _, _⟩ := hv
  obtain ⟨_, _, _, _, _, _, rfl, _, _⟩ := hf
  exact ⟨_, _, _, _, _, _, _, _, _, _, _, _, _, _, rfl⟩
theorem EntsAre.ok {w : World} {D : Nat → Prop} {es : List (List Value)} {L : List ED} (h : EntsAre w D es L) : ∀ e ∈ es, e.length = 16 ∧ ∀ u ∈ e, u.oneCell' = true := by
  intro e he
  obtain ⟨i, hi⟩ := List.mem_iff_getElem?.1 he
  have hlt := (List.getElem?_eq_some_iff.1 hi).1
  have hE := List.getElem?_eq_getElem (l := L) (i := i) (by rw [← h.1]; exact hlt)
  have hx := h.2 i e _ hi hE
  refine ⟨?_, hx.one⟩
  obtain ⟨ts, rfl, hT⟩ := hx
  obtain ⟨x0, x1, x2, x3, x4, x5, x6, x7, x8, x9, x10, x11, x12, x13, rfl⟩ := hT.form
  rfl

/-- No thing. -/
def vz : VD := ⟨false, [], []⟩
def fz : FD := ⟨⟨#[]⟩, ⟨#[]⟩, ⟨#[]⟩, ⟨#[]⟩, [], [], 0⟩
def tz : TD := ⟨0, vz, fz, [], 0, ⟨#[]⟩⟩
/-- A thing's cells, its kind and its number given, all else at zero. -/
def numE (k n : Int) : List Value := [.int .u8 k, .bool false, .slice none 0 0, .slice none 0 0, .string ⟨#[]⟩, .string ⟨#[]⟩, .string ⟨#[]⟩, .string ⟨#[]⟩, .slice none 0 0, .slice none 0 0, .int .i64 0, .slice none 0 0, .int .i64 n, .string ⟨#[]⟩]
def numT (k n : Int) : TD := ⟨k, vz, fz, [], n, ⟨#[]⟩⟩
theorem numT_is (w : World) (D : Nat → Prop) (k n : Int) : TIs w D (numE k n) (numT k n) :=
  ⟨[.bool false, .slice none 0 0, .slice none 0 0], [.string ⟨#[]⟩, .string ⟨#[]⟩, .string ⟨#[]⟩, .string ⟨#[]⟩, .slice none 0 0, .slice none 0 0, .int .i64 0], none, 0, 0, [], rfl,
    ⟨none, 0, 0, none, 0, 0, rfl, Rd.nil _ _ _, Rd.nil _ _ _⟩, ⟨none, 0, 0, none, 0, 0, rfl, Rd.nil _ _ _, Rd.nil _ _ _⟩, Rd.nil _ _ _, rfl, by simp⟩
theorem tz_is (w : World) (D : Nat → Prop) : TIs w D (numE 0 0) tz := numT_is w D 0 0

/-- A store, each part named. -/
structure SM (w : World) (own D : Nat → Prop) (r : Nat) (K : List ByteArray) (T : ByteArray → TD) (G : List ED) (bt bh : Nat) (gv : Value) (f : ByteArray → Value) (Kh : List ByteArray) (es : List (List Value)) : Prop where
  hdr : w.heap[r]? = some (.cells #[.map (some bt), gv, .map (some bh)] 77 (0, 0))
  mt : w.ownsMap Tryd.prog 9 heldR bt K.length (smap K f)
  mh : w.ownsMap Tryd.prog 9 heldR bh Kh.length (smap Kh fun _ => .bool true)
  row : w.ownsRow 0 129 16 gv G.length es.flatten
  ne : bt ≠ bh
  ner : gv.ownBlock ≠ some r
  owr : own r
  owt : own bt
  owh : own bh
  owg : ∀ g, gv.ownBlock = some g → own g
  lt : ∀ b, own b → b < w.heap.size
  dlt : ∀ b, D b → b < w.heap.size
  dis : ∀ b, D b → ¬ own b
  rise : RisS K
  sz : ∀ k ∈ K, k.size ≤ maxLen
  things : ∀ k ∈ K, ∃ ts, f k = .agg ts.toArray ∧ TIs w D ts (T k)
  ents : EntsAre w D es G
  keys : ∀ x, x ∈ Kh ↔ x ∈ G.map ED.key
  hle : Kh.length ≤ G.length
/-- A store in memory: 'own' are its own blocks, D those where its things' slices lie; its keys, their things, its group. -/
def SK (w : World) (own D : Nat → Prop) (r : Nat) (K : List ByteArray) (T : ByteArray → TD) (G : List ED) : Prop := ∃ bt bh gv f Kh es, SM w own D r K T G bt bh gv f Kh es
/-- What a call on a store changes: its own blocks, and new ones. -/
structure Grow (own own' : Nat → Prop) (w w' : World) : Prop where
  chg : Chg own w w'
  new : ∀ b, own' b → own b ∨ w.heap.size ≤ b
theorem Grow.refl (own : Nat → Prop) (w : World) : Grow own own w w := ⟨Chg.refl _ _, fun _ h => .inl h⟩
theorem Grow.trans {a b c : Nat → Prop} {w w1 w2 : World} (h : Grow a b w w1) (k : Grow b c w1 w2) : Grow a c w w2 :=
  ⟨⟨k.chg.os.trans h.chg.os, k.chg.tape.trans h.chg.tape, k.chg.output.trans h.chg.output, Nat.le_trans h.chg.size k.chg.size,
      fun i hi hn => (k.chg.block i (Nat.lt_of_lt_of_le hi h.chg.size) (fun hb => (h.new i hb).elim hn (fun hge => by omega))).trans (h.chg.block i hi hn)⟩,
    fun x hx => (k.new x hx).elim (h.new x) (fun hge => .inr (Nat.le_trans h.chg.size hge))⟩
theorem Grow.below {a : Nat → Prop} {w w' : World} (h : Below w.heap.size w w') : Grow a a w w' := ⟨Chg.of_below h, fun _ h => .inl h⟩

theorem ownsMap_chg {w w' : World} {S : Nat → Prop} {H : Type} {P : Program} {k : TypeId} {R : Value → Option (DataW H × List MemPlace)} {b n : Nat} {D : DataW H} (h : w.ownsMap P k R b n D) (hc : Chg S w w') (hb : ¬ S b) : w'.ownsMap P k R b n D := by
  have hlt := h.lt
  obtain ⟨es, clock, hb0, Ft, hs, hD⟩ := h
  exact ⟨es, clock, (hc.block b hlt hb).trans hb0, Ft, hs, hD⟩
theorem ownsRow_chg {w w' : World} {S : Nat → Prop} {base : Nat} {e : TypeId} {size : Nat} {v : Value} {n : Nat} {xs : List Value} (h : w.ownsRow base e size v n xs) (hc : Chg S w w') (hb : ∀ g, v.ownBlock = some g → ¬ S g) : w'.ownsRow base e size v n xs := by
  refine ⟨h.1, h.2.imp id ?_⟩
  rintro ⟨g, cap, cur, rfl, h1, h2, h3⟩
  exact ⟨g, cap, cur, rfl, h1, (hc.block g (lt_of_block h2) (hb g rfl)).trans h2, h3⟩
/-- A store that only other blocks have changed beside. -/
theorem SK.chg {w w' : World} {S own D : Nat → Prop} {r : Nat} {K : List ByteArray} {T : ByteArray → TD} {G : List ED} (h : SK w own D r K T G) (hc : Chg S w w') (hS : ∀ b, S b → ¬ own b ∧ ¬ D b) : SK w' own D r K T G := by
  obtain ⟨bt, bh, gv, f, Kh, es, h⟩ := h
  have hn : ∀ b, own b → ¬ S b := fun b hb hs => (hS b hs).1 hb
  have hd : ∀ b, D b → ¬ S b := fun b hb hs => (hS b hs).2 hb
  exact ⟨bt, bh, gv, f, Kh, es, {
    hdr := (hc.block r (lt_of_block h.hdr) (hn r h.owr)).trans h.hdr
    mt := ownsMap_chg h.mt hc (hn _ h.owt)
    mh := ownsMap_chg h.mh hc (hn _ h.owh)
    row := ownsRow_chg h.row hc (fun g hg => hn _ (h.owg g hg))
    ne := h.ne, ner := h.ner, owr := h.owr, owt := h.owt, owh := h.owh, owg := h.owg
    lt := fun b hb => Nat.lt_of_lt_of_le (h.lt b hb) hc.size
    dlt := fun b hb => Nat.lt_of_lt_of_le (h.dlt b hb) hc.size
    dis := h.dis, rise := h.rise, sz := h.sz
    things := fun k hk => by
      obtain ⟨ts, h1, h2⟩ := h.things k hk
      exact ⟨ts, h1, h2.chg hc hd⟩
    ents := h.ents.chg hc hd
    keys := h.keys, hle := h.hle }⟩
theorem SK.below {w w' : World} {own D : Nat → Prop} {r : Nat} {K : List ByteArray} {T : ByteArray → TD} {G : List ED} (h : SK w own D r K T G) (hb : Below w.heap.size w w') : SK w' own D r K T G := h.chg (S := fun _ => False) (Chg.of_below hb) (fun _ h => h.elim)
theorem SK.drew {w : World} {own D : Nat → Prop} {r : Nat} {K : List ByteArray} {T : ByteArray → TD} {G : List ED} (h : SK w own D r K T G) (n : Nat) : SK (w.drewN n) own D r K T G := h.below (below_drewN (Below.refl _ _) n)
/-- Things may lie in more blocks. -/
theorem SK.wider {w : World} {own D D' : Nat → Prop} {r : Nat} {K : List ByteArray} {T : ByteArray → TD} {G : List ED} (h : SK w own D r K T G) (hD : ∀ b, D b → D' b) (hl : ∀ b, D' b → b < w.heap.size) (hd : ∀ b, D' b → ¬ own b) : SK w own D' r K T G := by
  obtain ⟨bt, bh, gv, f, Kh, es, h⟩ := h
  exact ⟨bt, bh, gv, f, Kh, es, { h with
    dlt := hl
    dis := hd
    things := fun k hk => by
      obtain ⟨ts, h1, h2⟩ := h.things k hk
      exact ⟨ts, h1, h2.mono (fun b _ => hD b)⟩
    ents := h.ents.mono (fun b _ => hD b) }⟩
theorem SK.dis {w : World} {own D : Nat → Prop} {r : Nat} {K : List ByteArray} {T : ByteArray → TD} {G : List ED} (h : SK w own D r K T G) : ∀ b, D b → ¬ own b := by obtain ⟨_, _, _, _, _, _, h⟩ := h; exact h.dis
theorem SK.lt {w : World} {own D : Nat → Prop} {r : Nat} {K : List ByteArray} {T : ByteArray → TD} {G : List ED} (h : SK w own D r K T G) : ∀ b, own b → b < w.heap.size := by obtain ⟨_, _, _, _, _, _, h⟩ := h; exact h.lt
theorem SK.dlt {w : World} {own D : Nat → Prop} {r : Nat} {K : List ByteArray} {T : ByteArray → TD} {G : List ED} (h : SK w own D r K T G) : ∀ b, D b → b < w.heap.size := by obtain ⟨_, _, _, _, _, _, h⟩ := h; exact h.dlt
theorem SK.rise {w : World} {own D : Nat → Prop} {r : Nat} {K : List ByteArray} {T : ByteArray → TD} {G : List ED} (h : SK w own D r K T G) : RisS K := by obtain ⟨_, _, _, _, _, _, h⟩ := h; exact h.rise
theorem SK.sz {w : World} {own D : Nat → Prop} {r : Nat} {K : List ByteArray} {T : ByteArray → TD} {G : List ED} (h : SK w own D r K T G) : ∀ k ∈ K, k.size ≤ maxLen := by obtain ⟨_, _, _, _, _, _, h⟩ := h; exact h.sz

theorem sk_new (w : World) (D : Nat → Prop) (T : ByteArray → TD) (hD : ∀ b, D b → b < w.heap.size) :
    SK (((w.alloc (.map #[] 0)).alloc (.map #[] 0)).alloc (.cells #[.map (some w.heap.size), .slice none 0 0, .map (some (w.heap.size + 1))] 77)) (fun b => w.heap.size ≤ b ∧ b ≤ w.heap.size + 2) D (w.heap.size + 2) [] T [] := by
  have hz1 : (w.alloc (.map #[] 0)).heap.size = w.heap.size + 1 := by simp
  have hz2 : ((w.alloc (.map #[] 0)).alloc (.map #[] 0)).heap.size = w.heap.size + 2 := by simp
  have m2 := World.ownsMap_made (w.alloc (.map #[] 0)) Tryd.prog 9 heldR
  rw [hz1] at m2
  have hh := heap_alloc_new ((w.alloc (.map #[] 0)).alloc (.map #[] 0)) (.cells #[.map (some w.heap.size), .slice none 0 0, .map (some (w.heap.size + 1))] 77)
  rw [hz2] at hh
  exact ⟨w.heap.size, w.heap.size + 1, .slice none 0 0, fun _ => undef, [], [], {
    hdr := hh
    mt := ((World.ownsMap_made w _ _ _).alloc _).alloc _
    mh := m2.alloc _
    row := World.ownsRow_nil _ _ _ _
    ne := by omega
    ner := by simp [Value.ownBlock]
    owr := by omega
    owt := by omega
    owh := by omega
    owg := by simp [Value.ownBlock]
    lt := fun b hb => by simp; omega
    dlt := fun b hb => by have := hD b hb; simp; omega
    dis := fun b hb => by have := hD b hb; omega
    rise := List.Pairwise.nil
    sz := by simp
    things := by simp
    ents := ⟨rfl, by simp⟩
    keys := by simp
    hle := by simp }⟩

theorem cNew_any (D : Nat → Prop) (T : ByteArray → TD) (w : World) (hD : ∀ b, D b → b < w.heap.size) :
    Calls Tryd.prog 21 #[] w fun e w' => e = .returned (.pointer (some ⟨w.heap.size + 2, 0, none⟩)) ∧ SK w' (fun b => w.heap.size ≤ b ∧ b ≤ w.heap.size + 2) D (w.heap.size + 2) [] T [] ∧ Below w.heap.size w w' := by
  have hmm := @run_makeMap Tryd.prog
  have HX := Lib.hid (sk_new w D T hD)
  have HB := Lib.hid ((((Below.refl _ w).alloc (Nat.le_refl _) (.map #[] 0)).alloc (by simp) (.map #[] 0)).alloc (by simp; omega) (.cells #[.map (some w.heap.size), .slice none 0 0, .map (some (w.heap.size + 1))] 77))
  go_enter Tryd.func21, Tryd.ntmps21
  go_wp2
  go_ret
  exact ⟨rfl, HX.out, HB.out⟩
end Go.Proofs.YtjkofndnhmfnoaaDoor
