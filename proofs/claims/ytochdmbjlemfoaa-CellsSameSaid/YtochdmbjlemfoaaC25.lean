/-
  The document's store in a box, between the statements of CellsSame (RB): plain words on memory.
-/
import Derived.Test.YtochdmbjlemfoaaC19
import Derived.Test.YtochdmbjlemfoaaC20
import Derived.Test.YtochdmbjlemfoaaC24
namespace Go.Proofs.Ytochdmbjlemfoaa
open Go Go.RowKit Go.Maps

structure RB (w wr : World) (x : Nat) (K : List ByteArray) (T : ByteArray → TD) (G : List ED) (E : Nat → Prop) (A : Option Addr) (c : Nat) (es : List (List Value)) (B : Option Addr) (d : Nat) (gs : List (List Value)) : Prop where
  rv : RV wr E (fun b => b < w.heap.size) A c es B d gs K T G
  box : wr.heap[x]? = some (.cells #[.slice A K.length c, .slice B G.length d] 88 (0, 0))
  ex : ∀ b, E b → b ≠ x ∧ w.heap.size ≤ b
  xge : w.heap.size ≤ x
  below : Below w.heap.size w wr
def RBx (w wr : World) (x : Nat) (K : List ByteArray) (T : ByteArray → TD) (G : List ED) : Prop := ∃ E A c es B d gs, RB w wr x K T G E A c es B d gs
section
variable {w wr w1 : World} {x : Nat} {K K' : List ByteArray} {T T' : ByteArray → TD} {G G' : List ED} {E : Nat → Prop} {A : Option Addr} {c : Nat} {es : List (List Value)} {B : Option Addr} {d : Nat} {gs : List (List Value)}
theorem RB.next (h : RB w wr x K T G E A c es B d gs) (hb : Below wr.heap.size wr w1) : RB w w1 x K T G E A c es B d gs where
  rv := h.rv.below hb
  box := (hb.block _ (lt_of_block h.box)).trans h.box
  ex := h.ex
  xge := h.xge
  below := h.below.trans (hb.mono h.below.size)
theorem RB.beside {own : Nat → Prop} (h : RB w wr x K T G E A c es B d gs) (hc : Chg own wr w1) (ho : ∀ b, own b → ¬ E b ∧ b ≠ x ∧ w.heap.size ≤ b) : RB w w1 x K T G E A c es B d gs where
  rv := h.rv.chg hc (fun b hb => ⟨(ho b hb).1, fun hD => by have := (ho b hb).2.2; omega⟩)
  box := (hc.block _ (lt_of_block h.box) (fun hb => (ho _ hb).2.1 rfl)).trans h.box
  ex := h.ex
  xge := h.xge
  below := h.below.trans (hc.below h.below.size (fun b hb => (ho b hb).2.2))
theorem RB.ref {w2 w3 : World} {A' : Option Addr} {c' : Nat} {es' : List (List Value)} {B' : Option Addr} {d' : Nat} {gs' : List (List Value)} (h : RB w wr x K T G E A c es B d gs) (hb1 : Below wr.heap.size wr w1) (hv : RV w2 (fun b => E b ∨ w1.heap.size ≤ b ∧ b < w2.heap.size) (fun b => b < w.heap.size) A' c' es' B' d' gs' K' T' G') (hb2 : Below w1.heap.size w1 w2)
    (hh : w3.heap = ((w2.setCell ⟨x, 0, none⟩ (.slice A' K'.length c')).setCell ⟨x, 1, none⟩ (.slice B' G'.length d')).heap) (ho : w3.os = w2.os) (ht : w3.tape = w2.tape) (hp : w3.output = w2.output) :
    RB w w3 x K' T' G' (fun b => E b ∨ w1.heap.size ≤ b ∧ b < w2.heap.size) A' c' es' B' d' gs' := by
  have hx := lt_of_block h.box
  have hs1 := hb1.size
  have hs2 := hb2.size
  have hw := h.below.size
  have hb02 : Below wr.heap.size wr w2 := hb1.trans (hb2.mono hs1)
  have h23 : Chg (fun b => b = x) w2 w3 := ⟨ho, ht, hp, by rw [hh]; simp [World.setCell], fun i _ hn => by rw [hh, Below.heap_setCell _ _ _ _ hn, Below.heap_setCell _ _ _ _ hn]⟩
  have hxg := h.xge
  exact {
    rv := hv.chg h23 (fun b hb => ⟨fun hE => by
      rcases hE with hE | hE
      · exact (h.ex b hE).1 hb
      · omega, fun hD => by omega⟩)
    box := by
      rw [hh]
      exact heap_setCell_same _ x 1 _ _ _ (heap_setCell_same _ x 0 _ _ (.slice A' K'.length c') ((hb02.block _ hx).trans h.box))
    ex := fun b hE => by
      rcases hE with hE | hE
      · exact h.ex b hE
      · exact ⟨by omega, by omega⟩
    xge := h.xge
    below := (h.below.trans (hb02.mono h.below.size)).trans (h23.below (Nat.le_trans h.below.size hb02.size) (fun b hb => by rw [hb]; exact h.xge)) }
end
theorem rb_new (w w1 : World) (T : ByteArray → TD) (hb : Below w.heap.size w w1) : RBx w (w1.alloc (.cells #[.slice none 0 0, .slice none 0 0] 88)) w1.heap.size [] T [] := by
  have hal : Below w1.heap.size w1 (w1.alloc (.cells #[.slice none 0 0, .slice none 0 0] 88)) := (Below.refl _ w1).alloc (Nat.le_refl _) _
  refine ⟨fun _ => False, none, 0, [], none, 0, [], ?_⟩
  exact {
    rv := { cells := Rd.nil _ _ _, are := ⟨rfl, by simp⟩, grp := Rd.nil _ _ _, ents := ⟨rfl, by simp⟩, elt := fun _ h => h.elim, dlt := fun b hb' => Nat.lt_of_lt_of_le hb' (Nat.le_trans hb.size hal.size), rise := List.Pairwise.nil, bnil := fun _ => rfl }
    box := heap_alloc_new _ _
    ex := fun _ h => h.elim
    xge := hb.size
    below := hb.trans (hal.mono hb.size) }
/-- The group of a document's store into which cells are set, one behind the other. -/
def ofG (T : ByteArray → TD) (L : List CD) : List ED := (L.foldl (fun (s : List CD × List ED) c => (s.1 ++ [c], touchG (ofK s.1) (ofT T s.1) s.2 c.key)) ([], [])).2
theorem ofG_fst (T : ByteArray → TD) (L : List CD) : (L.foldl (fun (s : List CD × List ED) c => (s.1 ++ [c], touchG (ofK s.1) (ofT T s.1) s.2 c.key)) ([], [])).1 = L := by
  suffices h : ∀ (L : List CD) (s : List CD × List ED), (L.foldl (fun (s : List CD × List ED) c => (s.1 ++ [c], touchG (ofK s.1) (ofT T s.1) s.2 c.key)) s).1 = s.1 ++ L by simpa using h L ([], [])
  intro L
  induction L with
  | nil => intro s; simp
  | cons c L ih => intro s; rw [List.foldl_cons, ih]; simp
theorem ofG_snoc (T : ByteArray → TD) (L : List CD) (c : CD) : ofG T (L ++ [c]) = touchG (ofK L) (ofT T L) (ofG T L) c.key := by
  unfold ofG
  rw [List.foldl_append, List.foldl_cons, List.foldl_nil]
  simp only [ofG_fst]
theorem ofG_len (T : ByteArray → TD) (L : List CD) : (ofG T L).length ≤ L.length := by
  suffices h : ∀ (L : List CD) (s : List CD × List ED), ((L.foldl (fun (s : List CD × List ED) c => (s.1 ++ [c], touchG (ofK s.1) (ofT T s.1) s.2 c.key)) s).2).length ≤ s.2.length + L.length by simpa [ofG] using h L ([], [])
  intro L
  induction L with
  | nil => intro s; simp
  | cons c L ih =>
    intro s
    have h1 := ih (s.1 ++ [c], touchG (ofK s.1) (ofT T s.1) s.2 c.key)
    simp only at h1
    have h2 := touchG_len (ofK s.1) (ofT T s.1) s.2 c.key
    simp only [List.foldl_cons, List.length_cons]
    omega
theorem nodup_step {L : List CD} {j : Nat} {X : CD} (hX : L[j]? = some X) : decide (¬ ((L.take (j + 1)).map CD.key).Nodup) = (decide (¬ ((L.take j).map CD.key).Nodup) || decide (X.key ∈ ofK (L.take j))) := by
  have e : L.take (j + 1) = L.take j ++ [X] := by rw [List.take_add_one, hX]; rfl
  have h1 : ((L.take (j + 1)).map CD.key).Nodup ↔ ((L.take j).map CD.key).Nodup ∧ ¬ X.key ∈ (L.take j).map CD.key := by
    rw [e, List.map_append, List.nodup_append]
    constructor
    · rintro ⟨a, _, c⟩
      exact ⟨a, fun hm => c _ hm _ (by simp) rfl⟩
    · rintro ⟨a, b⟩
      exact ⟨a, by simp, fun u hu v hv e => by simp at hv; subst hv; exact b (by rw [← e]; exact hu)⟩
  rw [Bool.eq_iff_iff, Bool.or_eq_true, decide_eq_true_eq, decide_eq_true_eq, decide_eq_true_eq, h1, mem_ofK]
  by_cases ha : ((L.take j).map CD.key).Nodup
  · by_cases hb : X.key ∈ (L.take j).map CD.key
    · simp only [ha, hb, not_true_eq_false, and_false, not_false_eq_true, or_true]
    · simp only [ha, hb, not_false_eq_true, and_self, not_true_eq_false, or_self]
  · simp only [ha, false_and, not_false_eq_true, true_or]
end Go.Proofs.Ytochdmbjlemfoaa
