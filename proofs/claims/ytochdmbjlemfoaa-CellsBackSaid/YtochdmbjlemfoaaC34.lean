/-
  CellsBack: what it keeps in memory when a group, or a list of cells, is appended. Plain words on memory.
-/
import Derived.Test.YtochdmbjlemfoaaC33
namespace Go.Proofs.Ytochdmbjlemfoaa
open Go Go.RowKit Go.Maps

section
variable {w wr w2 w3 : World} {r : Nat} {s : S19} {sv gv : Value} {Ss : List S19} {Gs : List (List ED)} {own P : Nat → Prop} {vs us : List Value} {o : Obj} {row : Option Nat} {g cap : Nat} {A : Option Addr} {c : Nat} {es : List (List Value)}
theorem chg_app (hb : Below wr.heap.size wr w2) (hgrow : (w2.alloc o).grownBy w3 row) : Chg (fun b => row = some b) wr w3 :=
  ((Chg.of_below hb).alloc o).trans ⟨hgrow.os, hgrow.tape, hgrow.output, hgrow.size, fun k hk hn => hgrow.block k hk (fun e => hn e.symm)⟩
theorem chg_app2 (hgrow : (w2.alloc o).grownBy w3 row) : Chg (fun b => row = some b) w2 w3 := chg_app (Below.refl _ w2) hgrow
theorem size_app (hgrow : (w2.alloc o).grownBy w3 row) : w2.heap.size + 1 ≤ w3.heap.size := by have := hgrow.size; simp at this; exact this
theorem BSt.snocG {G : List ED} (h : BSt w wr r s sv gv Ss Gs own P vs us) (hb : Below wr.heap.size wr w2) (hr : Rd w2 (fun b => wr.heap.size ≤ b) 16 A G.length c es) (he : EntsAre w2 (fun _ => False) es G)
    (hown : w3.ownsRow w.heap.size 24 1 (.slice (some ⟨g, 0, none⟩) (us.length + 1) cap) (us.length + 1) (us ++ [.slice A G.length c])) (hgrow : (w2.alloc o).grownBy w3 gv.ownBlock) (hat : gv.ownBlock = some g ∨ g = w2.heap.size + 1) :
    BSt w w3 r s sv (.slice (some ⟨g, 0, none⟩) (us.length + 1) cap) Ss (Gs ++ [G]) own (fun b => P b ∨ wr.heap.size ≤ b ∧ b < w2.heap.size) vs (us ++ [.slice A G.length c]) := by
  have hc := chg_app hb hgrow
  have hc2 := chg_app2 hgrow
  have hz := size_app hgrow
  have hz2 := hb.size
  have hgo : ∀ b, gv.ownBlock = some b → ¬ own b ∧ ¬ P b ∧ sv.ownBlock ≠ some b ∧ b < wr.heap.size := fun b hb' => ⟨(h.gdis b hb').1, (h.gdis b hb').2.1, (h.gdis b hb').2.2, (h.rowg.lt b hb').2⟩
  have hP : ∀ b, P b → ¬ gv.ownBlock = some b := fun b hp e => (hgo b e).2.1 hp
  exact {
    sk := h.sk.chg hc (fun b e => ⟨(hgo b e).1, fun h => h⟩)
    lc := (h.lc.chg hc hP).wider (fun _ hp => .inl hp)
    lg := snoc_both ((h.lg.chg hc hP).wider (fun _ hp => .inl hp)) ⟨A, c, es, rfl, (hr.mono (D' := fun b => P b ∨ wr.heap.size ≤ b ∧ b < w2.heap.size) (fun b hlt hge => .inr ⟨hge, hlt⟩) (by decide)).chg hc2 (fun b hd e => by
      have := (hgo b e).2.2.2
      rcases hd with hp | hd
      · exact (hgo b e).2.1 hp
      · omega), he.chg hc2 (fun _ h => h.elim)⟩
    rowc := ownsRow_chg h.rowc hc (fun b hb' e => (hgo b e).2.2.1 hb')
    rowg := by rw [List.length_append, List.length_singleton]; exact hown
    cdis := fun b hb' => ⟨(h.cdis b hb').1, fun hd => hd.elim (h.cdis b hb').2 (fun hd => by have := (h.rowc.lt b hb').2; omega)⟩
    gdis := fun b hb' => by
      have hbg : g = b := by simpa [Value.ownBlock] using hb'
      subst hbg
      rcases hat with hat | hat
      · have := hgo g hat
        exact ⟨this.1, fun hd => hd.elim this.2.1 (fun hd => by omega), this.2.2.1⟩
      · refine ⟨fun ho => by have := h.sk.lt g ho; omega, fun hd => hd.elim (fun hp => by have := (h.plt g hp).1; omega) (fun hd => by omega), fun e => by have := (h.rowc.lt g e).2; omega⟩
    plt := fun b hd => hd.elim (fun hp => ⟨by have := (h.plt b hp).1; omega, (h.plt b hp).2⟩) (fun hd => ⟨by omega, fun ho => by have := h.sk.lt b ho; omega⟩)
    oge := h.oge
    below := h.below.trans (hc.below h.below.size (fun b e => (h.rowg.lt b e).1)) }
theorem BSt.snocC {S1 : S19} (h : BSt w wr r s sv gv Ss Gs own P vs us) (hb : Below wr.heap.size wr w2) (hr : Rd w2 (fun b => wr.heap.size ≤ b) 15 A S1.K.length c es) (he : CellsAre w2 (fun _ => False) es (cellsOf S1.K S1.T))
    (hown : w3.ownsRow w.heap.size 60 1 (.slice (some ⟨g, 0, none⟩) (vs.length + 1) cap) (vs.length + 1) (vs ++ [.slice A S1.K.length c])) (hgrow : (w2.alloc o).grownBy w3 sv.ownBlock) (hat : sv.ownBlock = some g ∨ g = w2.heap.size + 1) :
    BSt w w3 r s (.slice (some ⟨g, 0, none⟩) (vs.length + 1) cap) gv (Ss ++ [S1]) Gs own (fun b => P b ∨ wr.heap.size ≤ b ∧ b < w2.heap.size) (vs ++ [.slice A S1.K.length c]) us := by
  have hc := chg_app hb hgrow
  have hc2 := chg_app2 hgrow
  have hz := size_app hgrow
  have hz2 := hb.size
  have hgo : ∀ b, sv.ownBlock = some b → ¬ own b ∧ ¬ P b ∧ b < wr.heap.size := fun b hb' => ⟨(h.cdis b hb').1, (h.cdis b hb').2, (h.rowc.lt b hb').2⟩
  have hP : ∀ b, P b → ¬ sv.ownBlock = some b := fun b hp e => (hgo b e).2.1 hp
  exact {
    sk := h.sk.chg hc (fun b e => ⟨(hgo b e).1, fun h => h⟩)
    lg := (h.lg.chg hc hP).wider (fun _ hp => .inl hp)
    lc := snoc_both ((h.lc.chg hc hP).wider (fun _ hp => .inl hp)) ⟨A, c, es, rfl, (hr.mono (D' := fun b => P b ∨ wr.heap.size ≤ b ∧ b < w2.heap.size) (fun b hlt hge => .inr ⟨hge, hlt⟩) (by decide)).chg hc2 (fun b hd e => by
      have := (hgo b e).2.2
      rcases hd with hp | hd
      · exact (hgo b e).2.1 hp
      · omega), he.chg hc2 (fun _ h => h.elim)⟩
    rowg := ownsRow_chg h.rowg hc (fun b hb' e => (h.gdis b hb').2.2 e)
    rowc := by rw [List.length_append, List.length_singleton]; exact hown
    gdis := fun b hb' => ⟨(h.gdis b hb').1, fun hd => hd.elim (h.gdis b hb').2.1 (fun hd => by have := (h.rowg.lt b hb').2; omega), fun e => by
      have hbg : g = b := by simpa [Value.ownBlock] using e
      subst hbg
      rcases hat with hat | hat
      · exact (h.gdis g hb').2.2 hat
      · have := (h.rowg.lt g hb').2; omega⟩
    cdis := fun b hb' => by
      have hbg : g = b := by simpa [Value.ownBlock] using hb'
      subst hbg
      rcases hat with hat | hat
      · have := hgo g hat
        exact ⟨this.1, fun hd => hd.elim this.2.1 (fun hd => by omega)⟩
      · refine ⟨fun ho => by have := h.sk.lt g ho; omega, fun hd => hd.elim (fun hp => by have := (h.plt g hp).1; omega) (fun hd => by omega)⟩
    plt := fun b hd => hd.elim (fun hp => ⟨by have := (h.plt b hp).1; omega, (h.plt b hp).2⟩) (fun hd => ⟨by omega, fun ho => by have := h.sk.lt b ho; omega⟩)
    oge := h.oge
    below := h.below.trans (hc.below h.below.size (fun b e => (h.rowc.lt b e).1)) }
/-- The first list of cells. -/
theorem BSt.start (hs : SK wr own (fun _ => False) r s.K s.T s.G) (ho : ∀ b, own b → w.heap.size ≤ b) (hw : Below w.heap.size w wr) (hb : Below wr.heap.size wr w2) (hr : Rd w2 (fun b => wr.heap.size ≤ b) 15 A s.K.length c es) (he : CellsAre w2 (fun _ => False) es (cellsOf s.K s.T)) :
    BSt w (w2.alloc (.cells #[.slice A s.K.length c] 60)) r s (.slice (some ⟨w2.heap.size, 0, none⟩) 1 1) (.slice none 0 0) [s] [] own (fun b => wr.heap.size ≤ b ∧ b < w2.heap.size) [.slice A s.K.length c] [] := by
  have hz2 := hb.size
  have hal : Below w2.heap.size w2 (w2.alloc (.cells #[.slice A s.K.length c] 60)) := (Below.refl _ w2).alloc (Nat.le_refl _) _
  exact {
    sk := (hs.below hb).below hal
    lc := ⟨rfl, fun i v s' h1 h2 => by
      cases i with
      | zero =>
        simp only [List.getElem?_cons_zero, Option.some.injEq] at h1 h2
        subst h1 h2
        exact ⟨A, c, es, rfl, (hr.mono (D' := fun b => wr.heap.size ≤ b ∧ b < w2.heap.size) (fun b hlt hge => ⟨hge, hlt⟩) (by decide)).below hal, he.below hal⟩
      | succ i => simp at h1⟩
    lg := ⟨rfl, by simp⟩
    rowc := World.ownsRow_lit w2 #[.slice A s.K.length c] 1 (Nat.le_trans hw.size hz2) (by decide) rfl
    rowg := World.ownsRow_nil _ _ _ _
    cdis := fun b hb' => by
      have hbg : w2.heap.size = b := by simpa [Value.ownBlock] using hb'
      subst hbg
      exact ⟨fun ho => by have := hs.lt _ ho; omega, fun hd => by omega⟩
    gdis := fun b hb' => by simp [Value.ownBlock] at hb'
    plt := fun b hd => ⟨by simp; omega, fun ho => by have := hs.lt b ho; omega⟩
    oge := ho
    below := (hw.trans (hb.mono hw.size)).trans (hal.mono (Nat.le_trans hw.size hz2)) }
end
/-- Behind the last Mark the store is what the last list tells. -/
theorem Hist.done {Ss : List S19} {Gs : List (List ED)} {s S0 : S19} (h : Hist Ss Gs s) (h0 : Ss[Gs.length]? = some S0) (hG : s.G = []) : s.K = S0.K ∧ ∀ x ∈ S0.K, s.T x = S0.T x := by
  have hs := h.last S0 h0
  have hn : ∀ x, ¬ x ∈ s.G.map ED.key := by rw [hG]; simp
  exact ⟨risS_ext hs.rise (h.rise S0 (List.mem_of_getElem? h0)) (fun x => hs.keys x (hn x)), fun x hx => hs.rest x (hn x) hx⟩
/-- How great what is kept may be. -/
structure Small (Ss : List S19) (Gs : List (List ED)) : Prop where
  cs : ∀ x ∈ Ss, x.K.length ≤ 1000
  gs : ∀ G ∈ Gs, G.length ≤ 1000 ∧ ∀ e ∈ G, e.key.size ≤ maxLen
theorem Small.mark {Ss : List S19} {Gs : List (List ED)} {s : S19} {m : Nat} (h : Small Ss Gs) (hs : s.ok m) (hm : m ≤ 500) : Small (Ss ++ [s]) (Gs ++ [s.G]) where
  cs := fun x hx => by
    rcases List.mem_append.1 hx with hx | hx
    · exact h.cs x hx
    · simp at hx; subst hx; have := hs.len; omega
  gs := fun G hG => by
    rcases List.mem_append.1 hG with hG | hG
    · exact h.gs G hG
    · simp at hG; subst hG; exact ⟨by have := hs.len; omega, hs.keys⟩
theorem S19.ok.unG {s : S19} {m : Nat} (h : s.ok m) : S19.ok ⟨s.K, s.T, []⟩ m := ⟨by simp, by have := h.len; show s.K.length + 0 ≤ _; omega⟩
theorem S19.ok.more {s : S19} {m k : Nat} (h : s.ok m) (hk : m ≤ k) : s.ok k := ⟨h.keys, by have := h.len; omega⟩
end Go.Proofs.Ytochdmbjlemfoaa
