/-
  Marks: Put, Below, Clear, Near, Len. Of any marks in memory, and of nil ones.
-/
import Derived.Test.YtochdmbjlemfoaaM3
import Derived.Deep.RegionLaw
import Derived.MapFrom
namespace Go.Proofs.Ytochdmbjlemfoaa
open Go Go.RowKit Go.Maps Go.ChangeMaps

theorem chg_grown {w w' : World} {b : Nat} (h : w.grownBy w' (some b)) : Chg (fun j => j = b) w w' := ⟨h.os, h.tape, h.output, h.size, fun k hk hS => h.block k hk (fun e => hS (by injection e))⟩
theorem chg_turned {w w' : World} {b : Nat} (h : w.mapTurned w' b) : Chg (fun j => j = b) w w' := chg_grown h.grown
/-- The map's bound is its size. -/
theorem tight {H : Type} {P : Program} {k : TypeId} {R : Value → Option (DataW H × List MemPlace)} {w : World} {b n m : Nat} {D : DataW H} (h : w.ownsMap P k R b n D) (hm : Maps.size D = m) : w.ownsMap P k R b m D := by
  obtain ⟨es, clock, hb, Ft, hs, rfl⟩ := h
  refine ⟨es, clock, hb, Ft, ?_, rfl⟩
  have e1 : Maps.size (DataW.map ((es.toList.map (WideElems.rg P k R)).foldr DataW.insert [])) = es.size := by simp [Maps.size, length_sorted]
  omega

/-- What Put makes of the keys and the values. -/
def bad (per k : Int) : Prop := k < 0 ∨ ¬ k % per = 0
instance (per k : Int) : Decidable (bad per k) := by unfold bad; infer_instance
def mputK (most : Nat) (per : Int) (K : List Int) (k : Int) : List Int := if bad per k then K else if most < (insK k K).length then (insK k K).tail else insK k K
def mputF (per : Int) (f : Int → Value) (k : Int) (v : Value) : Int → Value := if bad per k then f else upd f k v

theorem MK.turn {w w' : World} {r b most : Nat} {per : Int} {K K' : List Int} {f f' : Int → Value} (h : MK w r b most per K f) (hc : Chg (fun j => j = b) w w') {n : Nat} (hm : w'.ownsMap Try.prog 2 heldR b n (imap K' f')) (hr : Rising K') (hw : ∀ k ∈ K', -9223372036854775808 ≤ k ∧ k ≤ 9223372036854775807) : MK w' r b most per K' f' :=
  ⟨h.ne, (hc.block r h.lt.1 h.ne).trans h.hdr, tight hm (imap_size K' f'), hr, hw⟩

theorem keyM {k : Int} (h0 : -9223372036854775808 ≤ k) (h1 : k ≤ 9223372036854775807) : keyOf Try.prog 2 (.int .i64 k) = some (.int .i64 k) := keyOf_int_mk Try.underlying2 (WalkArith.wf_i64 (by omega))

theorem mput_nil (k : Int) (v : Value) (w : World) : Calls Try.prog 31 #[.pointer none, .int .i64 k, v] w fun e w' => e = .returned (.tuple #[]) ∧ w = w' := by
  go_enter Try.func31, Try.ntmps31
  go_wp2
  exact bodyPost_ret (results_none rfl _ _ _) rfl ⟨rfl, rfl⟩
set_option maxRecDepth 100000 in
theorem mput_bad (r b most : Nat) (per : Int) (K : List Int) (f : Int → Value) (k : Int) (v : Value) (w : World) (h : MK w r b most per K f) (hper : 1 ≤ per) (hb : bad per k) :
    Calls Try.prog 31 #[.pointer (some ⟨r, 0, none⟩), .int .i64 k, v] w fun e w' => e = .returned (.tuple #[]) ∧ w = w' := by
  have c1 := h.c1
  have q0 : ¬ per = 0 := by omega
  have q1 : (per == 0) = false := by simp; omega
  clear h
  by_cases hk : k < 0
  · clear hb
    go_enter Try.func31, Try.ntmps31
    go_wp2
    exact bodyPost_ret (results_none rfl _ _ _) rfl ⟨rfl, rfl⟩
  · have hm : ¬ k % per = 0 := by rcases hb with h | h; exact absurd h hk; exact h
    clear hb
    have q2 : ((k % per) != 0) = true := by simp [hm]
    have q3 : 0 ≤ k := by omega
    go_enter Try.func31, Try.ntmps31
    go_wp2
    exact bodyPost_ret (results_none rfl _ _ _) rfl ⟨rfl, rfl⟩

theorem insK_len (k : Int) (K : List Int) : (insK k K).length ≤ K.length + 1 := by
  have h : ∀ l : List Int, (insI k l).length = l.length + 1 := fun l => by
    induction l with
    | nil => rfl
    | cons y l ih => unfold insI; split <;> simp [ih]
  unfold insK
  rw [h]
  have := List.length_filter_le (fun x => decide (x ≠ k)) K
  omega
/-- 'delete' at a step of a region that draws its order. -/
theorem step_delete_own {H : Type} {P : Program} {ops : Array Oper} {o : Oper} {a : Act} {w : World} {K : Act → World → Prop} {Q : Exit → Act → World → Prop} {E : Prop} (hg : o.guard = none) (m x : Operand) (t k : TypeId)
    (hop : o.op = Op.call { callee := Callee.builtin Builtin.delete, args := #[m, x], argTypes := #[t, k] }) (e : TypeId) (L : Keyed P k) (ht : P.underlying t = some (.map k e)) (R : Value → Option (DataW H × List MemPlace)) (b n : Nat) (D : DataW H)
    (hm : a.eval m = .map (some b)) (hown : w.ownsMap P k R b n D) (key : Value) (kl : Lit) (hx : a.eval x = key) (hkey : keyOf P k key = some kl)
    (hK : ∀ w', w'.ownsMap P k R b n (D.del kl) → w.mapTurned w' b → K (a.put o.dst (.tuple #[])) w') :
    if Region.wanted o (yielded ops a.tmps) = true then Oper.wp P o a w K Q else E := by
  have hw : Region.wanted o (yielded ops a.tmps) = true := by simp [Region.wanted, hg]
  rw [if_pos hw]
  obtain ⟨w', hrun, r1, r2⟩ := hown.drop L ht hkey o.type
  unfold Oper.wp
  simp [execOp, hop, resolve, invoke, builtin, hm, hx, hrun, Result.andThen]
  exact hK w' r1 r2
set_option maxRecDepth 100000 in
theorem mput_good (r b most : Nat) (per : Int) (K : List Int) (f : Int → Value) (k : Int) (v : Value) (w : World) (h : MK w r b most per K f) (hper : 1 ≤ per) (hb : ¬ bad per k) (hk : k ≤ 9223372036854775807) (hKl : K.length ≤ 1000000) :
    Calls Try.prog 31 #[.pointer (some ⟨r, 0, none⟩), .int .i64 k, v] w fun e w' => e = .returned (.tuple #[]) ∧ MK w' r b most per (mputK most per K k) (mputF per f k v) ∧ Chg (fun j => j = b) w w' := by
  have c1 := h.c1
  have c2 := h.c2
  have hk0 : 0 ≤ k := by unfold bad at hb; omega
  have hm0 : k % per = 0 := by unfold bad at hb; omega
  have q0 : ¬ per = 0 := by omega
  have q1 : (per == 0) = false := by simp; omega
  have q2 : ((k % per) != 0) = false := by simp [hm0]
  have eK : RowKit.Hid (mputK most per K k = if most < (insK k K).length then (insK k K).tail else insK k K) := by show _ = _; unfold mputK; rw [if_neg hb]
  have eF : RowKit.Hid (mputF per f k v = upd f k v) := by show _ = _; unfold mputF; rw [if_neg hb]
  have hwf := fun x hx => (mem_insK k K x).1 hx |>.elim (fun e => e ▸ ⟨by omega, hk⟩ : x = k → -9223372036854775808 ≤ x ∧ x ≤ 9223372036854775807) (h.wf x)
  have HW := Lib.hid hwf
  have HI := insK_len k K
  have hm : per = 0 ∨ True := .inr trivial
  clear hb hm0 hm hwf
  have H := Lib.hid h
  clear h
  go_enter Try.func31, Try.ntmps31
  go_wp2_with (first | (at_mapUpdate; refine wpList_mapUpdate_own _ rfl _ _ _ 125 rfl 2 60 mlaw Try.underlying125 heldR b K.length (imap K f) rfl H.out.map (by unfold maxLen; omega) (.int .i64 k) v (.int .i64 k) rfl rfl (keyM (by omega) hk) (.held v) [] rfl ?_; intro w1 hown1 hgrow1))
  rw [imap_put] at hown1
  have hch := chg_grown hgrow1
  have K1 := Lib.hid (H.out.turn hch hown1 (rising_insK k K H.out.rise) HW.out)
  have C1 := Lib.hid hch
  have d0 := K1.out.c0
  have d2 := K1.out.c2
  have hlen : ∀ d ty, (Builtin.len_ #[125] ty #[.map (some b)]).run Try.prog (w1.drewN d) = .ok (.int .i64 ((insK k K).length : Int)) (w1.drewN d) := fun d ty => by
    have := World.ownsMap.len (w := w1.drewN d) (P := Try.prog) (R := heldR) (b := b) (n := _) K1.out.map Try.underlying125 ty
    rw [imap_size] at this
    exact this
  have hlen0 := hlen 0
  clear hown1 hgrow1 hch c1 c2 q1 q2
  go_frame
  by_cases hgt : most < (insK k K).length
  · have q3 : (most : Int) < ((insK k K).length : Int) := by omega
    go_quiet (fail)
    go_wp2
    have K2 := Lib.hid (K1.out.below (below_drewN (Below.refl _ w1) nq))
    have C2 := Lib.hid (C1.out.drewN nq)
    clear d0 d2 hlen hlen0 K1 C1
    generalize w1.drewN nq = w2 at *
    have d2 := K2.out.c2
    obtain ⟨k0, K0, hK0⟩ : ∃ k0 K0, insK k K = k0 :: K0 := by
      cases hc : insK k K with
      | nil => rw [hc] at hgt; simp at hgt
      | cons x l => exact ⟨x, l, rfl⟩
    have HK0 : RowKit.Hid ((insK k K)[0]? = some k0) := by show _ = _; rw [hK0]; rfl
    have HKK := Lib.hid hK0
    clear hK0
    have h01 : (0 : Int) < ((insK k K).length : Int) := by omega
    have h02 : 0 < (insK k K).length := by omega
    go_region_law (first
      | (refine step_delete_own rfl _ _ 125 2 rfl 60 mlaw Try.underlying125 heldR b _ _ rfl (by first | exact K4.out.map | exact K4.out.map.drew | exact K4.out.map.drew.drew) (.int .i64 k0) (.int .i64 k0) rfl (keyM (HW.out k0 (by rw [HKK.out]; exact List.mem_cons_self)).1 (HW.out k0 (by rw [HKK.out]; exact List.mem_cons_self)).2) ?_; intro w4 hown4 hturn4)
      | (go_simp; go_at_call 34; refine (mkeys_any r b most per _ _ _ (K2.out.below (by first | exact below_drewN (Below.refl _ w2) 1 | exact below_drewN (Below.refl _ w2) 2 | exact below_drewN (Below.refl _ w2) 3)) (by omega)).mono ?_; rintro e w3 ⟨A3, c3, rfl, hr3, hb3⟩; obtain ⟨b3, o3, rfl, -, hc3⟩ := iRows_at hr3 (by omega); have cx3 := hc3 0 k0 HK0.out; rw [Nat.add_zero] at cx3; have d3 := below_cell hb3 (p := ⟨r, 2, none⟩) (u := .map (some b)) d2; have K4 := Lib.hid (K2.out.below ((below_drewN (Below.refl _ w2) 1).trans hb3)); clear hc3 hr3))
    all_goals
      go_wp2
      go_end0
      have hS := K4.out
      have eT : (insK k K).filter (· ≠ k0) = K0 := by
        have := hS.rise
        rw [HKK.out] at this ⊢
        exact filter_head k0 K0 this
      rw [imap_del, eT] at hown4
      have C4 : Chg (fun j => j = b) w3 w4 := by first | exact chg_turned hturn4 | exact ((Chg.refl _ w3).drew).trans (chg_turned hturn4) | exact ((Chg.refl _ w3).drew.drew).trans (chg_turned hturn4)
      have hr := hS.rise
      rw [HKK.out] at hr
      refine ⟨rfl, ?_, C2.out.trans ((Chg.of_below ((below_drewN (Below.refl _ w2) 1).trans hb3)).trans C4)⟩
      rw [eK.out, if_pos hgt, eF.out, HKK.out]
      exact hS.turn C4 hown4 hr.tail (fun x hx => HW.out x (by rw [HKK.out]; exact List.mem_cons_of_mem _ hx))
  · have q3 : ¬ (most : Int) < ((insK k K).length : Int) := by omega
    go_quiet (fail)
    go_wp2
    go_end0
    refine ⟨rfl, ?_, C1.out.drewN _⟩
    rw [eK.out, if_neg hgt, eF.out]
    exact K1.out.below (below_drewN (Below.refl _ _) _)

theorem mput_any (r b most : Nat) (per : Int) (K : List Int) (f : Int → Value) (k : Int) (v : Value) (w : World) (h : MK w r b most per K f) (hper : 1 ≤ per) (hk : k ≤ 9223372036854775807) (hKl : K.length ≤ 1000000) :
    Calls Try.prog 31 #[.pointer (some ⟨r, 0, none⟩), .int .i64 k, v] w fun e w' => e = .returned (.tuple #[]) ∧ MK w' r b most per (mputK most per K k) (mputF per f k v) ∧ Chg (fun j => j = b) w w' := by
  by_cases hb : bad per k
  · refine (mput_bad r b most per K f k v w h hper hb).mono ?_
    rintro e w' ⟨rfl, rfl⟩
    unfold mputK mputF
    rw [if_pos hb, if_pos hb]
    exact ⟨rfl, h, Chg.refl _ _⟩
  · exact mput_good r b most per K f k v w h hper hb hk hKl

theorem mclear_nil (w : World) : Calls Try.prog 43 #[.pointer none] w fun e w' => e = .returned (.tuple #[]) ∧ w = w' := by
  go_enter Try.func43, Try.ntmps43
  go_wp2
  go_end0
  exact ⟨rfl, rfl⟩
theorem clearM {w : World} {b n : Nat} {D : DataW Value} (h : w.ownsMap Try.prog 2 heldR b n D) (ty : TypeId) (f : Int → Value) :
    ∃ w', (Builtin.clear_ #[125] ty #[.map (some b)]).run Try.prog w = .ok (.tuple #[]) w' ∧ w'.ownsMap Try.prog 2 heldR b 0 (imap [] f) ∧ Chg (fun j => j = b) w w' := by
  obtain ⟨es, clock, hb, Ft, hs, rfl⟩ := h
  refine ⟨_, by simp [Builtin.clear_, run_underlying Try.underlying125, MapKept.run_getObj_map hb, MapKept.run_setObj_map _ hb, Result.andThen]; rfl, ?_, ?_⟩
  · refine ⟨#[], clock, heap_setBlock_same hb _, ?_, by simp, rfl⟩
    exact ⟨by simp [maxLen], ⟨by simp, by simp⟩, by simp⟩
  · exact ⟨rfl, rfl, rfl, by simp, fun k hk hS => heap_setBlock_other hb _ hS⟩
end Go.Proofs.Ytochdmbjlemfoaa
