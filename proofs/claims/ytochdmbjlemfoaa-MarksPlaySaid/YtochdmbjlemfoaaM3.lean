/-
  Marks: Keys tells the keys, rising. Of any marks in memory, and of nil ones.
-/
import Derived.Test.YtochdmbjlemfoaaLayM
import Derived.Test.YtochdmbjlemfoaaM2
namespace Go.Proofs.Ytochdmbjlemfoaa
open Go Go.RowKit Go.Maps Go.Sort Go.Shelf

theorem sortsM (m : Nat) : AnyZI.SortsIn Try.prog Try.sortedA_ren Fence.wide m :=
  ⟨fun blk off cap ss W hH hblk hsz => callsIn_wide.2 (AnyM.slices_Sort_int Try.sortA blk off cap ss W hH hblk hsz),
   fun p cap W => callsIn_wide.2 (AnyM.slices_Sort_int_none Try.sortA p cap W)⟩
theorem mapsKeys_any (mb : Option Nat) (W : World) : Calls Try.prog 73 #[.map mb] W fun e w' => e = .returned (.func (.func 92) #[] #[.pointer (some ⟨W.heap.size, 0, none⟩)]) ∧ w' = W.alloc (.cells #[.map mb] 125) :=
  (callsIn_wide (n := 5)).1 (AnyZI.keys_in Try.keysA Fence.wide 5 trivial rfl mb W)
set_option maxHeartbeats 1000000 in
theorem sortedM_any (b nn : Nat) (D0 : DataW Value) (w : World) (hown : w.ownsMap Try.prog 2 heldR b nn D0) (hmax : Maps.size D0 ≤ maxLen) (hbytes : Maps.size D0 * 8 ≤ 140737488355328) :
    Calls Try.prog 72 #[.func (.func 92) #[] #[.pointer (some ⟨w.heap.size, 0, none⟩)]] (w.alloc (.cells #[.map (some b)] 125)) fun e w' => ∃ (v : Value) (ss : List Int), e = .returned v ∧ ss.Perm (intKeys D0) ∧
      w'.ownsRow (w.alloc (.cells #[.map (some b)] 125)).heap.size 2 1 v ss.length ((ss.mergeSort (fun x y => decide (x ≤ y))).map encZ) ∧ (v = .slice none 0 0 ↔ ss = []) ∧ Below (w.alloc (.cells #[.map (some b)] 125)).heap.size (w.alloc (.cells #[.map (some b)] 125)) w' := by
  have hbl := hown.lt
  have hseq : SeqGives Fence.wide 2 Try.prog 92 #[.pointer (some ⟨w.heap.size, 0, none⟩)] encZ (fun ss => ss.Perm (intKeys D0)) (Maps.size D0) (w.alloc (.cells #[.map (some b)] 125)) :=
    AnyZI.keys_gives (ρ := Try.keysA_ren) { Try.keysA with } Fence.wide _ trivial rfl (by omega) w.heap.size b nn D0 _ (by simp) (by simp) (by
      obtain ⟨es, clock, hb, Ft, hs, hD⟩ := hown
      exact ⟨es, clock, (Below.heap_alloc _ _ b hbl).trans hb, Ft, hs, hD⟩)
  exact (callsIn_wide (n := 5)).1 (AnyZI.sorted_in Try.sortedA Fence.wide 5 trivial trivial trivial trivial rfl (by omega) (sortsM _) (enters_of Try.func91 (by kernel_rfl) rfl) 92 #[.pointer (some ⟨w.heap.size, 0, none⟩)] trivial (enters_of Try.func92 (by kernel_rfl) rfl) _ _ hmax hbytes _ hseq)

theorem MK.c0 {w : World} {r b most : Nat} {per : Int} {K : List Int} {f : Int → Value} (h : MK w r b most per K f) : w.cell? ⟨r, 0, none⟩ = some (.int .i64 (most : Int)) := by rw [cell_of_row w r 0 _ _ _ h.hdr]; rfl
theorem MK.c1 {w : World} {r b most : Nat} {per : Int} {K : List Int} {f : Int → Value} (h : MK w r b most per K f) : w.cell? ⟨r, 1, none⟩ = some (.int .i64 per) := by rw [cell_of_row w r 1 _ _ _ h.hdr]; rfl
theorem MK.c2 {w : World} {r b most : Nat} {per : Int} {K : List Int} {f : Int → Value} (h : MK w r b most per K f) : w.cell? ⟨r, 2, none⟩ = some (.map (some b)) := by rw [cell_of_row w r 2 _ _ _ h.hdr]; rfl
theorem MK.lt {w : World} {r b most : Nat} {per : Int} {K : List Int} {f : Int → Value} (h : MK w r b most per K f) : r < w.heap.size ∧ b < w.heap.size := ⟨lt_of_block h.hdr, h.map.lt⟩
/-- Marks that only other blocks have changed beside. -/
theorem MK.chg {w w' : World} {S : Nat → Prop} {r b most : Nat} {per : Int} {K : List Int} {f : Int → Value} (h : MK w r b most per K f) (hc : Chg S w w') (h1 : ¬ S r) (h2 : ¬ S b) : MK w' r b most per K f := by
  refine ⟨h.ne, (hc.block r h.lt.1 h1).trans h.hdr, ?_, h.rise, h.wf⟩
  obtain ⟨es, clock, hb, Ft, hs, hD⟩ := h.map
  exact ⟨es, clock, (hc.block b h.lt.2 h2).trans hb, Ft, hs, hD⟩
theorem MK.below {w w' : World} {r b most : Nat} {per : Int} {K : List Int} {f : Int → Value} (h : MK w r b most per K f) (hb : Below w.heap.size w w') : MK w' r b most per K f := h.chg (S := fun _ => False) (Chg.of_below hb) (fun h => h) (fun h => h)

theorem encZ_rows (xs : List Int) : (xs.map encZ) = (iRows xs).flatten := by
  induction xs with
  | nil => rfl
  | cons x xs ih => simp [iRows, encZ] at *; exact ih
theorem iRows_ok (xs : List Int) : ∀ e ∈ iRows xs, e.length = 1 ∧ ∀ u ∈ e, u.oneCell' = true := by
  intro e he
  obtain ⟨x, _, rfl⟩ := List.mem_map.1 he
  exact ⟨rfl, by simp [Value.oneCell']⟩

theorem mkeys_nil (w : World) : Calls Try.prog 34 #[.pointer none] w fun e w' => e = .returned (.slice none 0 0) ∧ w = w' := by
  go_enter Try.func34, Try.ntmps34
  go_wp2
  go_ret
  exact ⟨rfl, rfl⟩
set_option maxRecDepth 100000 in
theorem mkeys_any (r b most : Nat) (per : Int) (K : List Int) (f : Int → Value) (w : World) (h : MK w r b most per K f) (hK : K.length ≤ 2000000) :
    Calls Try.prog 34 #[.pointer (some ⟨r, 0, none⟩)] w fun e w' => ∃ A c, e = .returned (.slice A K.length c) ∧ Rd w' (fun b => w.heap.size ≤ b) 1 A K.length c (iRows K) ∧ Below w.heap.size w w' := by
  have c2 := h.c2
  have hz := imap_size K f
  have hs := sortedM_any b K.length (imap K f) w h.map (by rw [hz]; unfold maxLen; omega) (by rw [hz]; omega)
  have H := Lib.hid h
  have HS := Lib.hid hs
  clear h hs hz
  go_enter Try.func34, Try.ntmps34
  go_wp2_with fail
  refine (mapsKeys_any _ _).mono ?_
  rintro e w1 ⟨rfl, rfl⟩
  go_wp2_with fail
  refine HS.out.mono ?_
  rintro e w2 ⟨v, ss, rfl, hp, hown, -, hb⟩
  have hp' : ss.Perm K := by rwa [imap_keys] at hp
  rw [rising_sorted K ss H.out.rise hp', encZ_rows] at hown
  obtain ⟨A, c, rfl, hr⟩ := Rd.of_own hown (by rw [iRows_len]; exact hp'.length_eq.symm) (iRows_ok K)
  have hl := hp'.length_eq
  rw [hl] at hr ⊢
  have HR := Lib.hid hr
  have HB := Lib.hid hb
  clear hown hp hp' hr hb
  go_wp2
  go_ret
  exact ⟨A, c, rfl, HR.out.mono (fun b _ hb => by simp at hb; omega) (by decide), ((Below.refl _ w).alloc (Nat.le_refl _) _).trans (HB.out.mono (by simp))⟩
end Go.Proofs.Ytochdmbjlemfoaa
