/-
  slices.Clone at []api.Entry: a new slice with the same rows. Of any slice whose bytes are at most 2^47.
-/
import Derived.Test.YtochdmbjlemfoaaProg
import Derived.Test.YtochdmbjlemfoaaW
import Derived.WalkSpells
import Derived.WalkLawsBesides
import Derived.KernelRfl
import Derived.Lib.LazyBuf
import Derived.Lib.Hide
import Derived.Outline
import Derived.Handy
namespace Go.Proofs.Ytochdmbjlemfoaa
open Go Go.RowKit

theorem entInfo : (Try.prog.info? 47).map (fun i => (i.size, i.bytes)) = some (16, 256) := by kernel_rfl
theorem entZero : ((Try.prog.info? 47).bind (·.zero)).map (fun z => z.cells.size) = some 16 := by kernel_rfl
theorem entParts : ∃ i z, Try.prog.info? 47 = some i ∧ i.zero = some z ∧ i.size = 16 ∧ i.bytes = 256 ∧ z.cells.size = 16 := by
  have h1 := entInfo
  have h2 := entZero
  cases h : Try.prog.info? 47 with
  | none => rw [h] at h1; cases h1
  | some i =>
    rw [h] at h1 h2
    simp only [Option.map_some, Option.some.injEq, Prod.mk.injEq] at h1
    cases hz : i.zero with
    | none => simp [hz] at h2
    | some z => exact ⟨i, z, rfl, hz, h1.1, h1.2, by simpa [hz] using h2⟩

/-- The block of that address may be written. -/
def Wr (w : World) (A : Option Addr) : Prop := ∀ b off, A = some ⟨b, off, none⟩ → ∀ j, w.frozen? ⟨b, j, none⟩ = false

theorem own_wr {w : World} {base n c : Nat} {e : TypeId} {size : Nat} {A : Option Addr} {xs : List Value} (h : w.ownsRow base e size (.slice A n c) n xs) : Wr w A := by
  intro b off hA j
  rcases h.2 with ⟨h1, _⟩ | ⟨g, cap, cur, h1, _, hh, _⟩
  · injection h1 with h1
    rw [hA] at h1
    cases h1
  · injection h1 with h1
    rw [hA] at h1
    injection h1 with h1
    injection h1 with h1 h2
    subst h1
    exact frozen_of_row w b j cur e hh

set_option maxRecDepth 100000 in
set_option maxHeartbeats 400000 in
theorem clone_wr (A : Option Addr) (n c : Nat) (es : List (List Value)) (D : Nat → Prop) (w : World) (h : Rd w D 16 A n c es) (hb : n * 256 ≤ 140737488355328) :
    Calls Try.prog 70 #[.slice A n c] w fun e w' => ∃ A' c', e = .returned (.slice A' n c') ∧ Rd w' (fun b => w.heap.size ≤ b) 16 A' n c' es ∧ Below w.heap.size w w' ∧ Wr w' A' := by
  obtain ⟨i0, z, hi, hz, hz1, hz2, hz3⟩ := entParts
  have hq := fun w => Lib.run_eql_slice_nil (P := Try.prog) w 24 47 A n c 0 0 Try.underlying24
  cases A with
  | none =>
    have hn : n = 0 := by
      rcases Nat.eq_zero_or_pos n with h0 | h0
      · exact h0
      · obtain ⟨b, off, e, _⟩ := h.at_ h0; cases e
    subst hn
    have he : es = [] := List.eq_nil_of_length_eq_zero h.len
    subst he
    clear hi hz h
    go_enter Try.func70, Try.ntmps70
    go_wp2
    go_ret
    exact ⟨none, 0, rfl, Rd.nil _ _ _, Below.refl _ _, fun b off h => by cases h⟩
  | some ad =>
    have hl : es.flatten.length = n * 16 := by rw [flat_len (fun e he => (h.rows e he).1), h.len]
    have hnews : ∀ j u, es.flatten[j]? = some u → w.cell? (ad.add j) = some u := by
      intro j u hj
      rcases Nat.eq_zero_or_pos n with h0 | h0
      · have he : es = [] := List.eq_nil_of_length_eq_zero (by rw [h.len, h0])
        subst he
        simp at hj
      · exact h.news rfl h0 j u hj
    have hm := h.max
    have hle := h.le
    have h1 := flat_one (fun e he => (h.rows e he).2)
    have H1 : RowKit.Hid (∀ j u, es.flatten[j]? = some u → (w.alloc (.cells #[] 47)).cell? (ad.add j) = some u) :=
      Lib.hid (fun j u hj => below_cell ((Below.refl _ w).alloc (Nat.le_refl _) _) (hnews j u hj))
    have H2 := Lib.hid hl
    have H3 := Lib.hid h
    have H4 := Lib.hid h1
    clear hnews hl h h1
    go_enter Try.func70, Try.ntmps70
    go_wp2_with (at_builtin; refine wpList_append_own _ rfl (.tmp 5) (.tmp 6) 24 rfl w.heap.size 47 i0 z 16 256 Try.underlying24 hi hz hz1 hz2 hz3 (by decide) _ 0 [] rfl (World.ownsRow_lit w #[] 0 (Nat.le_refl _) (by decide) rfl) ad n c es.flatten rfl H2.out H1.out H4.out (by omega) (by omega) (by simp) ?_; intro v' w1 hown hgrow _)
    rw [Nat.zero_add, List.nil_append] at hown
    obtain ⟨A', c', rfl, hr⟩ := Rd.of_own hown H3.out.len H3.out.rows
    have hwr := Lib.hid (own_wr hown)
    go_ret
    exact ⟨A', c', rfl, hr, ((Below.refl _ w).alloc (Nat.le_refl _) _).grown hgrow (by simp) (fun k hk => by cases hk; exact Nat.le_refl _), hwr.out⟩
theorem clone_any (A : Option Addr) (n c : Nat) (es : List (List Value)) (D : Nat → Prop) (w : World) (h : Rd w D 16 A n c es) (hb : n * 256 ≤ 140737488355328) :
    Calls Try.prog 70 #[.slice A n c] w fun e w' => ∃ A' c', e = .returned (.slice A' n c') ∧ Rd w' (fun b => w.heap.size ≤ b) 16 A' n c' es ∧ Below w.heap.size w w' :=
  (clone_wr A n c es D w h hb).mono fun _ _ ⟨A', c', he, h1, h2, _⟩ => ⟨A', c', he, h1, h2⟩
end Go.Proofs.Ytochdmbjlemfoaa
