/-
  A store and the document's store beside it, between the acts of layer 19 (PSt): plain words on memory.
-/
import Derived.Test.YtochdmbjlemfoaaC19
import Derived.Test.YtochdmbjlemfoaaC20
import Derived.Test.YtochdmbjlemfoaaC21
namespace Go.Proofs.Ytochdmbjlemfoaa
open Go Go.RowKit Go.Maps

/-- A store that reads as s, and the document's store that reads as t, in a box at x. -/
structure PSt (w wr : World) (r x : Nat) (s t : S19) (own E : Nat → Prop) (A : Option Addr) (c : Nat) (es : List (List Value)) (B : Option Addr) (d : Nat) (gs : List (List Value)) : Prop where
  sk : SK wr own (fun _ => False) r s.K s.T s.G
  rv : RV wr E (fun _ => False) A c es B d gs t.K t.T t.G
  box : wr.heap[x]? = some (.cells #[.slice A t.K.length c, .slice B t.G.length d] 88 (0, 0))
  dis : ∀ b, own b → ¬ E b ∧ b ≠ x ∧ w.heap.size ≤ b
  ex : ∀ b, E b → b ≠ x
  xge : w.heap.size ≤ x
  below : Below w.heap.size w wr
def PS (w wr : World) (r x : Nat) (s t : S19) : Prop := ∃ own E A c es B d gs, PSt w wr r x s t own E A c es B d gs
section
variable {w wr w1 : World} {r x : Nat} {s s' t t' : S19} {own E : Nat → Prop} {A : Option Addr} {c : Nat} {es : List (List Value)} {B : Option Addr} {d : Nat} {gs : List (List Value)}
theorem PSt.next (h : PSt w wr r x s t own E A c es B d gs) (hb : Below wr.heap.size wr w1) : PSt w w1 r x s t own E A c es B d gs where
  sk := h.sk.below hb
  rv := h.rv.below hb
  box := (hb.block _ (lt_of_block h.box)).trans h.box
  dis := h.dis
  ex := h.ex
  xge := h.xge
  below := h.below.trans (hb.mono h.below.size)
theorem PSt.does {own' : Nat → Prop} (h : PSt w wr r x s t own E A c es B d gs) (hs : SK w1 own' (fun _ => False) r s'.K s'.T s'.G) (hg : Grow own own' wr w1) : PSt w w1 r x s' t own' E A c es B d gs where
  sk := hs
  rv := h.rv.chg hg.chg (fun b hb => ⟨(h.dis b hb).1, fun h => h⟩)
  box := (hg.chg.block _ (lt_of_block h.box) (fun ho => (h.dis _ ho).2.1 rfl)).trans h.box
  dis := fun b hb => by
    rcases hg.new b hb with ho | hn
    · exact h.dis b ho
    · have h1 := h.below.size
      have h2 := lt_of_block h.box
      exact ⟨fun hE => by have := h.rv.elt b hE; omega, by omega, by omega⟩
  ex := h.ex
  xge := h.xge
  below := h.below.trans (hg.chg.below h.below.size (fun b hb => (h.dis b hb).2.2))
theorem PSt.ref {w2 w3 : World} {A' : Option Addr} {c' : Nat} {es' : List (List Value)} {B' : Option Addr} {d' : Nat} {gs' : List (List Value)} (h : PSt w wr r x s t own E A c es B d gs) (hb1 : Below wr.heap.size wr w1) (hv : RV w2 (fun b => E b ∨ w1.heap.size ≤ b ∧ b < w2.heap.size) (fun _ => False) A' c' es' B' d' gs' t'.K t'.T t'.G) (hb2 : Below w1.heap.size w1 w2)
    (hh : w3.heap = ((w2.setCell ⟨x, 0, none⟩ (.slice A' t'.K.length c')).setCell ⟨x, 1, none⟩ (.slice B' t'.G.length d')).heap) (ho : w3.os = w2.os) (ht : w3.tape = w2.tape) (hp : w3.output = w2.output) : PS w w3 r x s t' := by
  have hx := lt_of_block h.box
  have hs1 := hb1.size
  have hs2 := hb2.size
  have hb02 : Below wr.heap.size wr w2 := hb1.trans (hb2.mono hs1)
  have h23 : Chg (fun b => b = x) w2 w3 := ⟨ho, ht, hp, by rw [hh]; simp [World.setCell], fun i _ hn => by rw [hh, Below.heap_setCell _ _ _ _ hn, Below.heap_setCell _ _ _ _ hn]⟩
  refine ⟨own, fun b => E b ∨ w1.heap.size ≤ b ∧ b < w2.heap.size, A', c', es', B', d', gs', ?_⟩
  exact {
    sk := (h.sk.below hb02).chg h23 (fun b hb => ⟨fun h' => (h.dis b h').2.1 hb, fun h => h⟩)
    rv := hv.chg h23 (fun b hb => ⟨fun hE => by
      rcases hE with hE | hE
      · exact h.ex b hE hb
      · omega, fun h => h⟩)
    box := by
      rw [hh]
      exact heap_setCell_same _ x 1 _ _ _ (heap_setCell_same _ x 0 _ _ (.slice A' t'.K.length c') ((hb02.block _ hx).trans h.box))
    dis := fun b hb => ⟨fun hE => by
      rcases hE with hE | hE
      · exact (h.dis b hb).1 hE
      · have := h.sk.lt b hb; omega, (h.dis b hb).2⟩
    ex := fun b hE => by
      rcases hE with hE | hE
      · exact h.ex b hE
      · omega
    xge := h.xge
    below := (h.below.trans (hb02.mono h.below.size)).trans (h23.below (Nat.le_trans h.below.size hb02.size) (fun b hb => by rw [hb]; exact h.xge)) }
theorem PSt.wipe (h : PSt w wr r x s t own E A c es B d gs) (hh : w1.heap = (wr.setCell ⟨x, 1, none⟩ (.slice none 0 0)).heap) (ho : w1.os = wr.os) (ht : w1.tape = wr.tape) (hp : w1.output = wr.output) : PS w w1 r x s ⟨t.K, t.T, []⟩ := by
  have hx := lt_of_block h.box
  have h23 : Chg (fun b => b = x) wr w1 := ⟨ho, ht, hp, by rw [hh]; simp [World.setCell], fun i _ hn => by rw [hh, Below.heap_setCell _ _ _ _ hn]⟩
  have hv := h.rv.chg h23 (fun b hb => ⟨fun hE => h.ex b hE hb, fun h => h⟩)
  refine ⟨own, E, A, c, es, none, 0, [], ?_⟩
  exact {
    sk := h.sk.chg h23 (fun b hb => ⟨fun h' => (h.dis b h').2.1 hb, fun h => h⟩)
    rv := { hv with grp := Rd.nil _ _ _, ents := ⟨rfl, by simp⟩, bnil := fun _ => rfl }
    box := by
      rw [hh]
      exact heap_setCell_same _ x 1 _ _ _ h.box
    dis := h.dis
    ex := h.ex
    xge := h.xge
    below := h.below.trans (h23.below h.below.size (fun b hb => by rw [hb]; exact h.xge)) }
end
/-- A new store and a new document's one. -/
theorem ps_new (w w1 : World) (T : ByteArray → TD) (hs : SK w1 (fun b => w.heap.size ≤ b ∧ b ≤ w.heap.size + 2) (fun _ => False) (w.heap.size + 2) [] T []) (hb : Below w.heap.size w w1) :
    PS w (w1.alloc (.cells #[.slice none 0 0, .slice none 0 0] 88)) (w.heap.size + 2) w1.heap.size ⟨[], T, []⟩ ⟨[], T, []⟩ := by
  have hal : Below w1.heap.size w1 (w1.alloc (.cells #[.slice none 0 0, .slice none 0 0] 88)) := (Below.refl _ w1).alloc (Nat.le_refl _) _
  refine ⟨fun b => w.heap.size ≤ b ∧ b ≤ w.heap.size + 2, fun _ => False, none, 0, [], none, 0, [], ?_⟩
  exact {
    sk := hs.below hal
    rv := { cells := Rd.nil _ _ _, are := ⟨rfl, by simp⟩, grp := Rd.nil _ _ _, ents := ⟨rfl, by simp⟩, elt := fun _ h => h.elim, dlt := fun _ h => h.elim, rise := List.Pairwise.nil, bnil := fun _ => rfl }
    box := heap_alloc_new _ _
    dis := fun b hb => ⟨fun h => h, by have := hs.lt b hb; omega, hb.1⟩
    ex := fun _ h => h.elim
    xge := hb.size
    below := hb.trans (hal.mono hb.size) }
end Go.Proofs.Ytochdmbjlemfoaa
