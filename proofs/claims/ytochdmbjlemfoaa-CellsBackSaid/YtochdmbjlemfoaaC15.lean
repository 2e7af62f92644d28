/-
  The reference of layer 19 (anamnesisref19): what its store reads as (RV); contracts of Get, touch. Of any store that can be read.
-/
import Derived.Test.YtochdmbjlemfoaaC12
import Derived.Laws.AppendOwnNone
namespace Go.Proofs.Ytochdmbjlemfoaa
open Go Go.RowKit Go.Maps

/-- The reference's store: two slices, and what they read as. E: where the rows lie; D: where the things' slices do. -/
structure RV (w : World) (E D : Nat → Prop) (A : Option Addr) (c : Nat) (es : List (List Value)) (B : Option Addr) (d : Nat) (gs : List (List Value)) (K : List ByteArray) (T : ByteArray → TD) (G : List ED) : Prop where
  cells : Rd w E 15 A K.length c es
  are : CellsAre w D es (cellsOf K T)
  grp : Rd w E 16 B G.length d gs
  ents : EntsAre w D gs G
  elt : ∀ b, E b → b < w.heap.size
  dlt : ∀ b, D b → b < w.heap.size
  rise : RisS K
  bnil : B = none → d = 0
theorem RV.chg {w w' : World} {S E D : Nat → Prop} {A : Option Addr} {c : Nat} {es : List (List Value)} {B : Option Addr} {d : Nat} {gs : List (List Value)} {K : List ByteArray} {T : ByteArray → TD} {G : List ED} (h : RV w E D A c es B d gs K T G) (hc : Chg S w w') (hS : ∀ b, S b → ¬ E b ∧ ¬ D b) : RV w' E D A c es B d gs K T G where
  cells := h.cells.chg hc (fun b hb hs => (hS b hs).1 hb)
  are := h.are.chg hc (fun b hb hs => (hS b hs).2 hb)
  grp := h.grp.chg hc (fun b hb hs => (hS b hs).1 hb)
  ents := h.ents.chg hc (fun b hb hs => (hS b hs).2 hb)
  elt := fun b hb => Nat.lt_of_lt_of_le (h.elt b hb) hc.size
  dlt := fun b hb => Nat.lt_of_lt_of_le (h.dlt b hb) hc.size
  rise := h.rise
  bnil := h.bnil
theorem RV.below {w w' : World} {E D : Nat → Prop} {A : Option Addr} {c : Nat} {es : List (List Value)} {B : Option Addr} {d : Nat} {gs : List (List Value)} {K : List ByteArray} {T : ByteArray → TD} {G : List ED} (h : RV w E D A c es B d gs K T G) (hb : Below w.heap.size w w') : RV w' E D A c es B d gs K T G := h.chg (S := fun _ => False) (Chg.of_below hb) (fun _ h => h.elim)
theorem RV.wider {w : World} {E E' D : Nat → Prop} {A : Option Addr} {c : Nat} {es : List (List Value)} {B : Option Addr} {d : Nat} {gs : List (List Value)} {K : List ByteArray} {T : ByteArray → TD} {G : List ED} (h : RV w E D A c es B d gs K T G) (hE : ∀ b, b < w.heap.size → E b → E' b) (hl : ∀ b, E' b → b < w.heap.size) : RV w E' D A c es B d gs K T G :=
  { h with cells := h.cells.mono hE (by decide), grp := h.grp.mono hE (by decide), elt := hl }
theorem CellsAre.mono {w : World} {D D' : Nat → Prop} {es : List (List Value)} {L : List CD} (h : CellsAre w D es L) (hD : ∀ b, b < w.heap.size → D b → D' b) : CellsAre w D' es L :=
  ⟨h.1, fun i e E he hE => by
    obtain ⟨ts, h1, h2⟩ := h.2 i e E he hE
    exact ⟨ts, h1, h2.mono hD⟩⟩
theorem getT_hit {K : List ByteArray} {T : ByteArray → TD} {k : ByteArray} (hm : k ∈ K) : getT K T k = T k := by unfold getT; rw [if_pos hm]

set_option maxRecDepth 100000 in
set_option maxHeartbeats 1600000 in
theorem rGet_any (E D : Nat → Prop) (A : Option Addr) (c : Nat) (es : List (List Value)) (B : Option Addr) (m d : Nat) (K : List ByteArray) (T : ByteArray → TD) (k : ByteArray) (w : World) (hx : Rd w E 15 A K.length c es) (hL : CellsAre w D es (cellsOf K T)) (hE : ∀ b, E b → b < w.heap.size) :
    Calls Try.prog 53 #[.agg #[.slice A K.length c, .slice B m d], .string k] w fun e w' => ∃ ts, e = .returned (.tuple #[.agg ts.toArray, .bool (decide (k ∈ K))]) ∧ TIs w' D ts (getT K T k) ∧ Below w.heap.size w w' := by
  have hn : K.length ≤ 9223372036854775807 := by have h1 := hx.le; have h2 := hx.max; unfold maxLen at h2; omega
  obtain ⟨n, hnn⟩ : ∃ n, n = K.length := ⟨_, rfl⟩
  rw [← hnn] at hx hn ⊢
  have HN := Lib.hid hnn
  have HX := Lib.hid hx
  have HL := Lib.hid hL
  have HB := Lib.hid (two_below w)
  clear hx hL hnn
  go_enter Try.func53, Try.ntmps53
  go_wp2
  go_loop [6] (fun i => ∃ j : Nat, j ≤ n ∧ i = .int .i64 (j : Int) ∧ RowKit.Hid (∀ x ∈ K.take j, x ≠ k)) (fun i => n - (RowKit.intOf i).toNat)
  case atStart => exact ⟨0, Nat.zero_le _, rfl, by intro x hx; simp at hx⟩
  case round =>
    obtain ⟨j, hj, rfl, hh⟩ := hrel
    by_cases hlt : j < n
    · have q1 : (j : Int) < (n : Int) := by omega
      obtain ⟨b, off, hA, hEb, hc⟩ := HX.out.at_ (by omega)
      obtain ⟨e, he⟩ : ∃ e, es[j]? = some e := ⟨_, List.getElem?_eq_getElem (by rw [HX.out.len]; exact hlt)⟩
      obtain ⟨x, hxk⟩ : ∃ x, K[j]? = some x := ⟨_, List.getElem?_eq_getElem (by rw [← HN.out]; exact hlt)⟩
      obtain ⟨ts, rfl, ht⟩ := HL.out.2 j e ⟨x, T x⟩ he (by unfold cellsOf; rw [List.getElem?_map, hxk]; rfl)
      have hbl := hE b hEb
      simp only at ht
      obtain ⟨t, ht0⟩ : ∃ t, t = T x := ⟨_, rfl⟩
      rw [← ht0] at ht
      obtain ⟨A1, n1, c1, A2, n2, c2, A3, n3, c3, A4, n4, c4, A5, n5, c5, rfl⟩ := ht.full
      have cx := row_cells (hc j _ he) (Below.refl w.heap.size w)
      have HT := Lib.hid ht
      have HT0 := Lib.hid ht0
      have HK := Lib.hid hxk
      subst hA
      have a0 := cx 0 _ rfl
      simp only [Nat.add_zero] at a0
      clear hc he ht ht0 hxk
      by_cases hxe : x = k
      · have a1 := cx 1 _ rfl
        have a2 := cx 2 _ rfl
        have a3 := cx 3 _ rfl
        have a4 := cx 4 _ rfl
        have a5 := cx 5 _ rfl
        have a6 := cx 6 _ rfl
        have a7 := cx 7 _ rfl
        have a8 := cx 8 _ rfl
        have a9 := cx 9 _ rfl
        have a10 := cx 10 _ rfl
        have a11 := cx 11 _ rfl
        have a12 := cx 12 _ rfl
        have a13 := cx 13 _ rfl
        have a14 := cx 14 _ rfl
        have q2 : (x.toList == k.toList) = true := by rw [hxe]; simp
        have hkm : k ∈ K := by rw [← hxe]; exact List.mem_of_getElem? HK.out
        have HD := Lib.hid (decide_eq_true hkm)
        have HG : RowKit.Hid (getT K T k = t) := by show _ = _; rw [getT_hit hkm, HT0.out, hxe]
        clear cx hxe hkm
        go_wp2
        refine bodyPost_ret (v := .tuple #[.agg (tL t A1 n1 c1 A2 n2 c2 A3 n3 c3 A4 n4 c4 A5 n5 c5).toArray, .bool true]) (by simp [results, Try.results53, go_sem, tL]) rfl ⟨_, by rw [HD.out], ?_, HB.out _ _⟩
        rw [HG.out]
        exact HT.out.below (HB.out _ _)
      · have q2 := str_ne hxe
        have hts : K.take (j + 1) = K.take j ++ [x] := by rw [List.take_add_one, HK.out]; rfl
        have HH : RowKit.Hid (∀ y ∈ K.take (j + 1), y ≠ k) := fun y hy => by
          rw [hts] at hy
          rcases List.mem_append.1 hy with hy | hy
          · exact hh.out y hy
          · simp at hy; rw [hy]; exact hxe
        clear cx hxe hts hh
        go_wp2
        go_round
        case rel => exact ⟨j + 1, by omega, by go_num, HH.out⟩
        case measure => simp [RowKit.intOf]; omega
    · have hjn : j = n := by omega
      subst hjn
      have hkm : ¬ k ∈ K := fun h => hh.out k (by rw [HN.out, List.take_of_length_le (Nat.le_refl _)]; exact h) rfl
      have HD := Lib.hid (decide_eq_false hkm)
      have HG := Lib.hid (getT_neg (w := w) (D := D) (T := T) hkm)
      clear hkm hh
      go_wp2
      refine bodyPost_ret (v := .tuple #[.agg (numE 0 0).toArray, .bool false]) (by simp [results, Try.results53, go_sem]; rfl) rfl ⟨_, by rw [HD.out], HG.out.below ?_, ?_⟩
      · exact HB.out _ _
      · exact HB.out _ _

/-- append of a slice's entries to a new empty one, at a step of a region that draws. -/
theorem step_all {ops : Array Oper} {o : Oper} {a : Act} {w : World} {K : Act → World → Prop} {Q : Exit → Act → World → Prop} {E : Prop} (wa : World) {D : Nat → Prop} {es : List (List Value)} {A : Option Addr} {n c : Nat} (hR : Rd wa D 16 A n c es) (hnil : A = none → c = 0) (hn : n ≤ 1000000)
    (hgd : o.guard = none) (s x : Operand) (ho : o.op = .call { callee := .builtin .append, args := #[s, x], argTypes := #[24, 24] }) (g0 : Nat) (hs : a.eval s = .slice (some ⟨g0, 0, none⟩) 0 0) (hx : a.eval x = .slice A n c)
    (hg0 : w.heap[g0]? = some (.cells #[] 47 (0, 0))) (hge : wa.heap.size ≤ g0) (hb : Below wa.heap.size wa w)
    (h : ∀ v' w', w'.ownsRow wa.heap.size 47 16 v' n es.flatten → Below wa.heap.size wa w' → w.grownBy w' (some g0) → K (a.put o.dst v') w') :
    if Region.wanted o (yielded ops a.tmps) = true then Oper.wp Try.prog o a w K Q else E := by
  obtain ⟨i0, z, hi, hz, hz1, hz2, hz3⟩ := entParts
  have hown : w.ownsRow wa.heap.size 47 16 (.slice (some ⟨g0, 0, none⟩) 0 0) 0 [] := ⟨rfl, .inr ⟨g0, 0, #[], rfl, hge, hg0, Nat.le_refl _, Nat.zero_le _, rfl, rfl⟩⟩
  have hw : Region.wanted o (yielded ops a.tmps) = true := by simp [Region.wanted, hgd]
  have hlen := hR.len
  rw [if_pos hw]
  cases A with
  | none =>
    have hc0 : c = 0 := hnil rfl
    subst hc0
    have hn0 : n = 0 := by have := hR.le; omega
    subst hn0
    have he : es = [] := List.eq_nil_of_length_eq_zero hlen
    subst he
    have hrun := run_append_owned_none (P := Try.prog) (w := w) wa.heap.size 24 o.type 47 i0 16 Try.underlying24 hi _ 0 [] hown
    unfold Oper.wp
    simp [execOp, ho, resolve, invoke, builtin, hs, hx, hrun, Result.andThen]
    exact h _ _ hown hb (World.grownBy.refl _ _)
  | some ad =>
    have hl : es.flatten.length = n * 16 := by rw [flat_len (fun e he => (hR.rows e he).1), hlen]
    have hnews : ∀ j u, es.flatten[j]? = some u → w.cell? (ad.add j) = some u := fun j u hj => by
      rcases Nat.eq_zero_or_pos n with h0 | h0
      · have he : es = [] := List.eq_nil_of_length_eq_zero (by rw [hlen, h0])
        subst he
        simp at hj
      · exact below_cell hb (hR.news rfl h0 j u hj)
    obtain ⟨v', w', hrun, h1, h2, -, h4⟩ := run_append_own_at (P := Try.prog) (w := w) wa.heap.size 24 o.type 47 i0 z 16 256 Try.underlying24 hi hz hz1 hz2 hz3 (by omega) _ 0 [] hown ad n c es.flatten hl hnews (flat_one (fun e he => (hR.rows e he).2)) (by unfold maxLen; omega) (by omega) hb.size
    rw [Nat.zero_add, List.nil_append] at h1
    unfold Oper.wp
    simp [execOp, ho, resolve, invoke, builtin, hs, hx, hrun, Result.andThen]
    exact h _ _ h1 (hb.grown h2 hb.size (fun j hj => by cases hj; exact hge)) h2
/-- append of one entry to a row of the call's own, at a step of a region that draws. -/
theorem step_one {ops : Array Oper} {o : Oper} {a : Act} {w : World} {K : Act → World → Prop} {Q : Exit → Act → World → Prop} {E : Prop} (wa : World) (news : Array Value) (gv : Value) (n : Nat) (xs : List Value)
    (hl : news.size = 16) (h1 : ∀ u ∈ news.toList, u.oneCell' = true) (hn : n ≤ 1000000)
    (hgd : o.guard = none) (s x : Operand) (ho : o.op = .call { callee := .builtin .append, args := #[s, x], argTypes := #[24, 24] }) (e0 : Nat) (hs : a.eval s = gv) (hx : a.eval x = .slice (some ⟨e0, 0, none⟩) 1 1)
    (hrow : w.ownsRow wa.heap.size 47 16 gv n xs) (hb : w.heap[e0]? = some (.cells news 47 (0, 0))) (hbl : Below wa.heap.size wa w)
    (h : ∀ g cap w', w'.ownsRow wa.heap.size 47 16 (.slice (some ⟨g, 0, none⟩) (n + 1) cap) (n + 1) (xs ++ news.toList) → Below wa.heap.size wa w' → K (a.put o.dst (.slice (some ⟨g, 0, none⟩) (n + 1) cap)) w') :
    if Region.wanted o (yielded ops a.tmps) = true then Oper.wp Try.prog o a w K Q else E := by
  obtain ⟨i0, z, hi, hz, hz1, hz2, hz3⟩ := entParts
  exact step_append_lies w hgd s x 24 ho wa.heap.size 47 i0 z 16 256 Try.underlying24 hi hz hz1 hz2 hz3 (by omega) gv n xs hs hrow ⟨e0, 0, none⟩ 1 1 news.toList hx (by simpa using hl) (World.news_of_block hb) h1 (by omega) (by unfold maxLen; omega) (by omega) hbl.size _ rfl
    (fun g cap w' h1 h2 _ _ => h g cap w' h1 (hbl.grown h2 hbl.size (fun j hj => (hrow.lt j hj).1)))
end Go.Proofs.Ytochdmbjlemfoaa
