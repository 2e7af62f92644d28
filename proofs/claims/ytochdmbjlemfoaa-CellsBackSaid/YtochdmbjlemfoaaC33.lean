/-
  What CellsBack keeps in memory: a store, a row of lists of cells, a row of lists of entries.
-/
import Derived.Test.YtochdmbjlemfoaaC32
import Derived.Test.YtochdmbjlemfoaaC22
namespace Go.Proofs.Ytochdmbjlemfoaa
open Go Go.RowKit Go.Maps

structure BSt (w wr : World) (r : Nat) (s : S19) (sv gv : Value) (Ss : List S19) (Gs : List (List ED)) (own P : Nat → Prop) (vs us : List Value) : Prop where
  sk : SK wr own (fun _ => False) r s.K s.T s.G
  lc : ListsC wr P vs Ss
  lg : ListsG wr P us Gs
  rowc : wr.ownsRow w.heap.size 60 1 sv vs.length vs
  rowg : wr.ownsRow w.heap.size 24 1 gv us.length us
  cdis : ∀ g, sv.ownBlock = some g → ¬ own g ∧ ¬ P g
  gdis : ∀ g, gv.ownBlock = some g → ¬ own g ∧ ¬ P g ∧ sv.ownBlock ≠ some g
  plt : ∀ b, P b → b < wr.heap.size ∧ ¬ own b
  oge : ∀ b, own b → w.heap.size ≤ b
  below : Below w.heap.size w wr
section
variable {w wr w1 : World} {r : Nat} {s s' : S19} {sv gv : Value} {Ss : List S19} {Gs : List (List ED)} {own own' P : Nat → Prop} {vs us : List Value}
theorem BSt.next (h : BSt w wr r s sv gv Ss Gs own P vs us) (hb : Below wr.heap.size wr w1) : BSt w w1 r s sv gv Ss Gs own P vs us where
  sk := h.sk.below hb
  lc := h.lc.chg (Chg.of_below hb) (fun _ _ h => h)
  lg := h.lg.chg (Chg.of_below hb) (fun _ _ h => h)
  rowc := ownsRow_chg h.rowc (Chg.of_below hb) (fun _ _ h => h)
  rowg := ownsRow_chg h.rowg (Chg.of_below hb) (fun _ _ h => h)
  cdis := h.cdis
  gdis := h.gdis
  plt := fun b hp => ⟨Nat.lt_of_lt_of_le (h.plt b hp).1 hb.size, (h.plt b hp).2⟩
  oge := h.oge
  below := h.below.trans (hb.mono h.below.size)
theorem BSt.does (h : BSt w wr r s sv gv Ss Gs own P vs us) (hs : SK w1 own' (fun _ => False) r s'.K s'.T s'.G) (hg : Grow own own' wr w1) : BSt w w1 r s' sv gv Ss Gs own' P vs us where
  sk := hs
  lc := h.lc.chg hg.chg (fun b hp => (h.plt b hp).2)
  lg := h.lg.chg hg.chg (fun b hp => (h.plt b hp).2)
  rowc := ownsRow_chg h.rowc hg.chg (fun g hg' => (h.cdis g hg').1)
  rowg := ownsRow_chg h.rowg hg.chg (fun g hg' => (h.gdis g hg').1)
  cdis := fun g hg' => ⟨fun ho => (hg.new g ho).elim (h.cdis g hg').1 (fun hl => by have := (h.rowc.lt g hg').2; omega), (h.cdis g hg').2⟩
  gdis := fun g hg' => ⟨fun ho => (hg.new g ho).elim (h.gdis g hg').1 (fun hl => by have := (h.rowg.lt g hg').2; omega), (h.gdis g hg').2⟩
  plt := fun b hp => ⟨Nat.lt_of_lt_of_le (h.plt b hp).1 hg.chg.size, fun ho => (hg.new b ho).elim (h.plt b hp).2 (fun hl => by have := (h.plt b hp).1; omega)⟩
  oge := fun b hb => (hg.new b hb).elim (h.oge b) (fun hl => Nat.le_trans h.below.size hl)
  below := h.below.trans (hg.chg.below h.below.size (fun b hb => h.oge b hb))
end
end Go.Proofs.Ytochdmbjlemfoaa
