/-
  The reference of layer 25 (anamnesisref25: Most, Put, Below): contracts, of any rising list of marks; and what the law's Do leaves beside the marks.
-/
import Derived.Test.YtochdmbjlemfoaaM10
import Derived.Deep.AppendLies
namespace Go.Proofs.Ytochdmbjlemfoaa
open Go Go.RowKit Go.Maps

/-- Rows of marks: their numbers, their values. -/
def mkRows (K : List Int) (f : Int → Value) : List (List Value) := K.map fun k => [.int .i64 k, f k]
def OneS (v : Value) : Prop := ∃ g, v = .slice (some ⟨g, 0, none⟩) 1 1
theorem mkRows_len (K : List Int) (f : Int → Value) : (mkRows K f).length = K.length := by simp [mkRows]
theorem mkRows_ok (K : List Int) (f : Int → Value) (h : ∀ k ∈ K, OneS (f k)) : ∀ e ∈ mkRows K f, e.length = 2 ∧ ∀ u ∈ e, u.oneCell' = true := by
  intro e he
  obtain ⟨x, hx, rfl⟩ := List.mem_map.1 he
  obtain ⟨g, hg⟩ := h x hx
  refine ⟨rfl, fun u hu => ?_⟩
  rw [hg] at hu
  simp at hu
  rcases hu with rfl | rfl <;> rfl
theorem mkRows_at {w : World} {D : Nat → Prop} {A : Option Addr} {n c : Nat} {K : List Int} {f : Int → Value} (h : Rd w D 2 A n c (mkRows K f)) (hn : 0 < n) : ∃ b off, A = some ⟨b, off, none⟩ ∧ D b ∧ ∀ (i : Nat) x, K[i]? = some x →
    w.cell? ⟨b, off + i * 2, none⟩ = some (.int .i64 x) ∧ w.cell? ⟨b, off + i * 2 + 1, none⟩ = some (f x) := by
  obtain ⟨b, off, e, hb, hc⟩ := h.at_ hn
  refine ⟨b, off, e, hb, fun i x hi => ?_⟩
  have hr : (mkRows K f)[i]? = some [.int .i64 x, f x] := by unfold mkRows; rw [List.getElem?_map, hi]; rfl
  exact ⟨hc i _ hr 0 _ rfl, hc i _ hr 1 _ rfl⟩
theorem mkRows_flat (K : List Int) (x : Int) (f : Int → Value) : (mkRows (K ++ [x]) f).flatten = (mkRows K f).flatten ++ [.int .i64 x, f x] := by simp [mkRows]
theorem mkInfo : (Try.prog.info? 77).map (fun i => (i.zero, i.size, i.bytes)) = some (some (.agg #[.int .i64 0, .slice none 0 0]), 2, 32) := by kernel_rfl
theorem mkParts : ∃ i, Try.prog.info? 77 = some i ∧ i.zero = some (.agg #[.int .i64 0, .slice none 0 0]) ∧ i.size = 2 ∧ i.bytes = 32 := by
  have h1 := mkInfo
  cases h : Try.prog.info? 77 with
  | none => rw [h] at h1; cases h1
  | some i =>
    rw [h] at h1
    simp only [Option.map_some, Option.some.injEq, Prod.mk.injEq] at h1
    exact ⟨i, rfl, h1.1, h1.2.1, h1.2.2⟩
theorem new_two (w : World) (x y : Value) (t : TypeId) : ∀ j u, [x, y][j]? = some u → (w.alloc (.cells #[x, y] t)).cell? ((⟨w.heap.size, 0, none⟩ : Addr).add j) = some u :=
  World.news_of_block (heap_alloc_new w _)

set_option maxRecDepth 100000 in
theorem ref25Below_any (A : Option Addr) (n c : Nat) (K : List Int) (f : Int → Value) (k : Int) (D : Nat → Prop) (w : World) (hx : Rd w D 2 A n c (mkRows K f)) (hf : ∀ x ∈ K, OneS (f x)) (hn : n ≤ 1000000) :
    Calls Try.prog 38 #[.slice A n c, .int .i64 k] w fun e w' => ∃ A' c', e = .returned (.slice A' (belowK K k).length c') ∧ Rd w' (fun b => w.heap.size ≤ b) 2 A' (belowK K k).length c' (mkRows (belowK K k) f) ∧ Below w.heap.size w w' := by
  have hlen : K.length = n := by have := hx.len; rwa [mkRows_len] at this
  have HX := Lib.hid hx
  have HL := Lib.hid hlen
  have HF := Lib.hid hf
  clear hx hlen hf
  obtain ⟨i0, hi, hz, hz1, hz2⟩ := mkParts
  go_enter Try.func38, Try.ntmps38
  go_wp2
  go_loopw [5, 6] (fun v i wr => ∃ j : Nat, j ≤ n ∧ i = .int .i64 (j : Int) ∧ RowKit.Hid (wr.ownsRow w.heap.size 77 2 v (belowK (K.take j) k).length (mkRows (belowK (K.take j) k) f).flatten) ∧ RowKit.Hid (Below w.heap.size w wr)) (fun _ i _ => n - (RowKit.intOf i).toNat)
  case atStart => exact ⟨0, Nat.zero_le _, rfl, World.ownsRow_nil _ _ _ _, Below.refl _ _⟩
  case round =>
    obtain ⟨j, hj, rfl, hown, hb⟩ := hrel
    by_cases hlt : j < n
    · have q1 : (j : Int) < (n : Int) := by omega
      obtain ⟨b3, o3, rfl, hD, hc3⟩ := mkRows_at HX.out (by omega)
      obtain ⟨x, hxk⟩ : ∃ x, K[j]? = some x := ⟨_, List.getElem?_eq_getElem (by rw [HL.out]; exact hlt)⟩
      obtain ⟨g, hg⟩ := HF.out x (List.mem_of_getElem? hxk)
      have cx := below_cell hb.out (hc3 j x hxk).1
      have cy := below_cell hb.out (hc3 j x hxk).2
      rw [hg] at cy
      have XK := Lib.hid hxk
      have HG := Lib.hid hg
      have hbl := belowK_len (K.take j) k
      rw [List.length_take] at hbl
      clear hc3 hxk hg
      by_cases hxa : k ≤ x
      · have HS := hb.out.size
        go_wp2_with (at_builtin; refine wpList_append_own _ rfl (.tmp 20) (.tmp 25) 70 rfl w.heap.size 77 i0 (.agg #[.int .i64 0, .slice none 0 0]) 2 32 Try.underlying70 hi hz hz1 hz2 rfl (by decide) _ _ _ rfl (World.ownsRow.alloc hown.out _) ⟨wr.heap.size, 0, none⟩ 1 1 [.int .i64 x, .slice (some ⟨g, 0, none⟩) 1 1] rfl rfl (new_two _ _ _ _) (by intro u hu; simp at hu; rcases hu with rfl | rfl <;> rfl) (by unfold maxLen; omega) (by omega) (by simp; omega) ?_; intro v5 w5 hown5 hgrow5 _)
        have e1 := belowK_hit K k j x XK.out hxa
        have hown6 : w5.ownsRow w.heap.size 77 2 v5 (belowK (K.take (j + 1)) k).length (mkRows (belowK (K.take (j + 1)) k) f).flatten := by
          rw [e1, mkRows_flat, HG.out]
          simpa using hown5
        have O6 := Lib.hid hown6
        have B6 : RowKit.Hid (Below w.heap.size w w5) := (hb.out.alloc HS _).grown hgrow5 (by simp; omega) (fun j hj => (hown.out.lt j hj).1)
        clear hown5 hown6 hgrow5 e1
        go_wp2
        go_roundw
        case rel => exact ⟨j + 1, by omega, by go_num, O6.out, B6.out⟩
        case measure => simp [RowKit.intOf]; omega
      · have e1 := belowK_miss K k j x XK.out hxa
        have O6 : RowKit.Hid (wr.ownsRow w.heap.size 77 2 u5 (belowK (K.take (j + 1)) k).length (mkRows (belowK (K.take (j + 1)) k) f).flatten) := by show World.ownsRow _ _ _ _ _ _ _; rw [e1]; exact hown.out
        clear e1
        go_wp2
        go_roundw
        case rel => exact ⟨j + 1, by omega, by go_num, O6.out, hb.out⟩
        case measure => simp [RowKit.intOf]; omega
    · have hjn : j = n := by omega
      subst hjn
      have hown' := hown.out
      rw [List.take_of_length_le (by rw [HL.out]; exact Nat.le_refl _)] at hown'
      obtain ⟨A9, c9, rfl, hr9⟩ := Rd.of_own hown' (mkRows_len _ _) (mkRows_ok _ _ (fun x hx => HF.out x (List.mem_filter.1 hx).1))
      have R9 := Lib.hid hr9
      clear hr9 hown hown'
      go_wp2
      go_ret
      exact ⟨A9, c9, rfl, R9.out, hb.out⟩

set_option maxRecDepth 100000 in
theorem ref25Most_any (c p : Int) (w : World) (hc0 : -9223372036854775808 ≤ c) (hc1 : c ≤ 9223372036854775807) (hp0 : 1 ≤ p) (hp1 : p ≤ 9223372036854775807) :
    Calls Try.prog 74 #[.int .i64 c, .int .i64 p] w fun e w' => e = .returned (.int .i64 (mostOf c p : Int)) ∧ w = w' := by
  have EP : perOf p = p := by unfold perOf; rw [if_neg (by omega)]
  have hE := mostOf_eq c p
  rw [EP] at hE
  have hcl := capOf_le c
  have hd1 := Int.ediv_nonneg (a := capOf c) (b := p) (by omega) (by omega)
  have hd2 := Int.ediv_le_self p (a := capOf c) (by omega)
  have HE := Lib.hid hE
  have q1 : ¬ p < 1 := by omega
  have q2 : ¬ p = 0 := by omega
  clear EP hE
  by_cases h2 : c < 0
  · have EC : capOf c = 0 := by unfold capOf; rw [if_pos h2]
    rw [EC] at HE hcl hd1 hd2
    clear EC
    go_enter Try.func74, Try.ntmps74
    go_wp2
    go_ret
    exact ⟨congrArg (fun z => Ending.returned (Value.int .i64 z)) (by rw [HE.out]; simp), rfl⟩
  · by_cases h3 : 1000000 < c
    · have EC : capOf c = 1000000 := by unfold capOf; rw [if_neg h2, if_pos h3]
      rw [EC] at HE hcl hd1 hd2
      clear EC
      go_enter Try.func74, Try.ntmps74
      go_wp2
      go_ret
      exact ⟨congrArg (fun z => Ending.returned (Value.int .i64 z)) (by rw [HE.out]; try rw [wrap64_small (by omega) (by omega)]), rfl⟩
    · have EC : capOf c = c := by unfold capOf; rw [if_neg h2, if_neg h3]
      rw [EC] at HE hcl hd1 hd2
      clear EC
      go_enter Try.func74, Try.ntmps74
      go_wp2
      go_ret
      exact ⟨congrArg (fun z => Ending.returned (Value.int .i64 z)) (by rw [HE.out]; try rw [wrap64_small (by omega) (by omega)]), rfl⟩

/-! ### Put, as the document's text has it -/
theorem insI_snoc (k x : Int) (K : List Int) (h : k < x) : insI k (K ++ [x]) = insI k K ++ [x] := by
  induction K with
  | nil => simp [insI, h]
  | cons y K ih =>
    simp only [List.cons_append, insI]
    split
    · rfl
    · rw [ih]; rfl
def dn (P : List Int) (k : Int) : Bool := P.any (fun x => decide (k ≤ x))
def oK (P : List Int) (k : Int) : List Int := if dn P k = true then insK k P else P
theorem dn_snoc (P : List Int) (k x : Int) : dn (P ++ [x]) k = (dn P k || decide (k ≤ x)) := by simp [dn]
theorem dn_false {P : List Int} {k : Int} (h : dn P k = false) : ∀ x ∈ P, x < k := by
  intro x hx
  unfold dn at h
  have := List.any_eq_false.1 h x hx
  simp at this
  exact this
theorem dn_true {P : List Int} {k x : Int} (h : dn P k = true) (hr : ∀ y ∈ P, y < x) : k < x := by
  unfold dn at h
  obtain ⟨y, hy, hk⟩ := List.any_eq_true.1 h
  have := hr y hy
  simp at hk
  omega
theorem oK_old {P : List Int} {k x : Int} (h : dn P k = true) (hr : ∀ y ∈ P, y < x) : oK (P ++ [x]) k = oK P k ++ [x] := by
  have hk := dn_true h hr
  unfold oK
  rw [dn_snoc, h, Bool.true_or, if_pos rfl, if_pos rfl]
  unfold insK
  rw [List.filter_append, List.filter_cons_of_pos (by simp; omega), List.filter_nil, insI_snoc _ _ _ hk]
theorem oK_less {P : List Int} {k x : Int} (h : dn P k = false) (hx : ¬ k ≤ x) : oK (P ++ [x]) k = oK P k ++ [x] := by
  unfold oK
  rw [dn_snoc, h]
  simp [hx]
theorem oK_here {P : List Int} {k x : Int} (h : dn P k = false) (hx : x = k) : oK (P ++ [x]) k = oK P k ++ [k] := by
  subst hx
  have hl := dn_false h
  unfold oK
  rw [dn_snoc, h]
  simp only [Int.le_refl, decide_true, Bool.or_true, if_true]
  rw [if_neg (by simp)]
  unfold insK
  rw [List.filter_append, List.filter_cons_of_neg (by simp), List.filter_nil, List.append_nil]
  exact insK_end x P hl
theorem oK_past {P : List Int} {k x : Int} (h : dn P k = false) (hx : k < x) : oK (P ++ [x]) k = oK P k ++ [k] ++ [x] := by
  have hl := dn_false h
  unfold oK
  rw [dn_snoc, h, show decide (k ≤ x) = true from decide_eq_true (by omega)]
  simp only [Bool.or_true, if_true]
  rw [if_neg (by simp)]
  have e := insK_end k P hl
  unfold insK at e ⊢
  rw [List.filter_append, List.filter_cons_of_pos (by simp; omega), List.filter_nil, insI_snoc _ _ _ hx, e]
theorem oK_end (K : List Int) (k : Int) : (if dn K k = true then oK K k else oK K k ++ [k]) = insK k K := by
  by_cases h : dn K k = true
  · rw [if_pos h]; unfold oK; rw [if_pos h]
  · rw [if_neg h]; unfold oK; rw [if_neg h]
    exact (insK_end k K (dn_false (by simpa using h))).symm
theorem oK_len (P : List Int) (k : Int) : (oK P k).length ≤ P.length + 1 := by
  unfold oK
  split
  · exact insK_len k P
  · omega
theorem mem_oK {P : List Int} {k x : Int} (h : x ∈ oK P k) : x = k ∨ x ∈ P := by
  unfold oK at h
  split at h
  · exact (mem_insK k P x).1 h
  · exact .inr h
theorem take_lt {K : List Int} {j : Nat} {x : Int} (hr : Rising K) (hx : K[j]? = some x) : ∀ y ∈ K.take j, y < x := by
  intro y hy
  obtain ⟨i, hi⟩ := List.mem_iff_getElem?.1 hy
  rw [List.getElem?_take] at hi
  split at hi
  · obtain ⟨h1, e1⟩ := List.getElem?_eq_some_iff.1 hi
    obtain ⟨h2, e2⟩ := List.getElem?_eq_some_iff.1 hx
    rw [← e1, ← e2]
    exact List.pairwise_iff_getElem.1 hr i j h1 h2 (by assumption)
  · cases hi
theorem take_snoc {α : Type} {K : List α} {j : Nat} {x : α} (hx : K[j]? = some x) : K.take (j + 1) = K.take j ++ [x] := by rw [List.take_add_one, hx]; rfl
theorem Rd.rest {w : World} {D : Nat → Prop} {size g o n c : Nat} {e : List Value} {es : List (List Value)} (h : Rd w D size (some ⟨g, o, none⟩) (n + 1) c (e :: es)) : Rd w D size (some ⟨g, o + size, none⟩) n (c - 1) es := by
  obtain ⟨b, off, hA, hD, hc⟩ := h.at_ (by omega)
  simp only [Option.some.injEq, Addr.mk.injEq, and_true] at hA
  obtain ⟨rfl, rfl⟩ := hA
  have hl := h.len
  have h1 := h.le
  have h2 := h.max
  simp only [List.length_cons] at hl
  refine ⟨by omega, by omega, by omega, fun x hx => h.rows x (List.mem_cons_of_mem _ hx), fun _ => ⟨g, o + size, rfl, hD, fun i e' hi k u hk => ?_⟩⟩
  have := hc (i + 1) e' (by simpa using hi) k u hk
  rw [Nat.add_mul, Nat.one_mul] at this
  rw [show o + size + (i * size + k) = o + (i * size + size + k) by omega]
  exact this
/-- A list of marks that the call is making. -/
def PutRel (w wr : World) (v : Value) (L : List Int) (f : Int → Value) : Prop := wr.ownsRow w.heap.size 77 2 v L.length (mkRows L f).flatten ∧ Below w.heap.size w wr
theorem PutRel.more {w wr w5 : World} {v v5 : Value} {L : List Int} {f : Int → Value} {x : Int} {o : Obj} {vx : Value} (h : PutRel w wr v L f) (hv : f x = vx) (hown : w5.ownsRow w.heap.size 77 2 v5 (L.length + 1) ((mkRows L f).flatten ++ [.int .i64 x, vx])) (hg : (wr.alloc o).grownBy w5 v.ownBlock) :
    PutRel w w5 v5 (L ++ [x]) f := by
  refine ⟨?_, (h.2.alloc h.2.size _).grown hg (by have := h.2.size; simp; omega) (fun j hj => (h.1.lt j hj).1)⟩
  rw [mkRows_flat, hv]
  simpa using hown
theorem mkRows_congr {K : List Int} {f g : Int → Value} (h : ∀ x ∈ K, f x = g x) : mkRows K f = mkRows K g := by
  unfold mkRows
  exact List.map_congr_left fun x hx => by rw [h x hx]

set_option maxRecDepth 100000 in
set_option maxHeartbeats 4000000 in
theorem ref25Put_good (A : Option Addr) (n cc : Nat) (K : List Int) (f : Int → Value) (c p0 p k : Int) (g : Nat) (D : Nat → Prop) (w : World) (hx : Rd w D 2 A n cc (mkRows K f)) (hf : ∀ x ∈ K, OneS (f x)) (hr : Rising K) (hn : n ≤ 1000000)
    (hc0 : -9223372036854775808 ≤ c) (hc1 : c ≤ 9223372036854775807) (hpp : p = perOf p0) (hp1 : p ≤ 9223372036854775807) (hb : ¬ bad p k) :
    Calls Try.prog 39 #[.slice A n cc, .int .i64 c, .int .i64 p0, .int .i64 k, .slice (some ⟨g, 0, none⟩) 1 1] w fun e w' => ∃ A' c', e = .returned (.slice A' (mputK (mostOf c p) p K k).length c') ∧
      Rd w' (fun b => w.heap.size ≤ b) 2 A' (mputK (mostOf c p) p K k).length c' (mkRows (mputK (mostOf c p) p K k) (upd f k (.slice (some ⟨g, 0, none⟩) 1 1))) ∧ Below w.heap.size w w' := by
  have hlen : K.length = n := by have := hx.len; rwa [mkRows_len] at this
  have hp0 : 1 ≤ p := by rw [hpp]; exact perOf_pos p0
  obtain ⟨v, hv⟩ : ∃ v, v = Value.slice (some ⟨g, 0, none⟩) 1 1 := ⟨_, rfl⟩
  obtain ⟨F, hF⟩ : ∃ F, F = upd f k v := ⟨_, rfl⟩
  have hFk : F k = .slice (some ⟨g, 0, none⟩) 1 1 := by rw [hF, upd_same, hv]
  have hFo : ∀ x, x ≠ k → F x = f x := fun x hx => by rw [hF, upd_other _ _ _ _ hx]
  have hFs : ∀ x, x = k ∨ x ∈ K → OneS (F x) := fun x hx => by
    by_cases h : x = k
    · rw [h]; exact ⟨g, hFk⟩
    · rw [hFo x h]; exact hf x (hx.resolve_left h)
  rw [← hv, ← hF, hv]
  have HX := Lib.hid hx
  have HL := Lib.hid hlen
  have HF := Lib.hid hf
  have HFk := Lib.hid hFk
  have HFo := Lib.hid hFo
  have HFs := Lib.hid hFs
  have HR := Lib.hid hr
  have hk0 : 0 ≤ k := by unfold bad at hb; omega
  have hm0 : k % p = 0 := by unfold bad at hb; omega
  have q1 : ¬ p < 1 := by omega
  have q0 : ¬ k < 0 := by omega
  have q2 : ¬ p = 0 := by omega
  have q3 : ((k % p) != 0) = false := by simp [hm0]
  have HPK : RowKit.Hid (mputK (mostOf c p) p K k = if mostOf c p < (insK k K).length then (insK k K).tail else insK k K) := by show _ = _; unfold mputK; rw [if_neg hb]
  have HPP := Lib.hid hpp
  clear hx hlen hf hFk hFo hFs hr hF hv hb hm0 hpp
  obtain ⟨i0, hi, hz, hz1, hz2⟩ := mkParts
  go_enter Try.func39, Try.ntmps39
  go_upto_if 15 with fail
  go_cut [2] (fun s wx => s = .int .i64 p ∧ w = wx)
  case first =>
    by_cases h1 : p0 < 1
    · have e : RowKit.Hid (1 = p) := by show _ = _; rw [HPP.out]; unfold perOf; rw [if_pos h1]
      go_wp2
      go_meet
      exact ⟨congrArg _ e.out, rfl⟩
    · have e : RowKit.Hid (p0 = p) := by show _ = _; rw [HPP.out]; unfold perOf; rw [if_neg h1]
      go_wp2
      go_meet
      exact ⟨congrArg _ e.out, rfl⟩
  case rest =>
    obtain ⟨rfl, rfl⟩ := hcut
    go_wp2
    go_loopw [11, 12, 13] (fun v d i wr => ∃ j : Nat, j ≤ n ∧ i = .int .i64 (j : Int) ∧ d = .bool (dn (K.take j) k) ∧ RowKit.Hid (PutRel w wr v (oK (K.take j) k) F)) (fun _ _ i _ => n - (RowKit.intOf i).toNat)
    case atStart => exact ⟨0, Nat.zero_le _, rfl, rfl, World.ownsRow_nil _ _ _ _, Below.refl _ _⟩
    case round =>
      obtain ⟨j, hj, rfl, rfl, hrl⟩ := hrel
      by_cases hlt : j < n
      · have q5 : (j : Int) < (n : Int) := by omega
        obtain ⟨b3, o3, rfl, hD, hc3⟩ := mkRows_at HX.out (by omega)
        obtain ⟨x, hxk⟩ : ∃ x, K[j]? = some x := ⟨_, List.getElem?_eq_getElem (by rw [HL.out]; exact hlt)⟩
        obtain ⟨gx, hg⟩ := HF.out x (List.mem_of_getElem? hxk)
        have hcj := hc3 j x hxk
        rw [hg] at hcj
        have HC := Lib.hid hcj
        have cx := below_cell hrl.out.2 hcj.1
        have cy := below_cell hrl.out.2 hcj.2
        have hTL := take_lt HR.out hxk
        have hts := take_snoc hxk
        have HTL := Lib.hid hTL
        have HTS := Lib.hid hts
        have HG := Lib.hid hg
        have hbl := oK_len (K.take j) k
        have HS := hrl.out.2.size
        rw [List.length_take] at hbl
        clear hc3 hxk hg hTL hts hcj
        cases hdn : dn (K.take j) k with
        | true =>
          have hkx := dn_true hdn HTL.out
          have e1 := oK_old hdn HTL.out
          have e2 : dn (K.take (j + 1)) k = true := by rw [HTS.out, dn_snoc, hdn]; rfl
          rw [← HTS.out] at e1
          have E1 := Lib.hid e1
          have E2 := Lib.hid e2
          have HFx := Lib.hid ((HFo.out x (by omega)).trans HG.out)
          have r1 : (x != k) = true := by simp; omega
          have r2 : (x == k) = false := by simp; omega
          clear e1 e2 hdn
          go_wp2_with (at_builtin; refine wpList_append_own _ rfl (.tmp 55) (.tmp 60) 70 rfl w.heap.size 77 i0 (.agg #[.int .i64 0, .slice none 0 0]) 2 32 Try.underlying70 hi hz hz1 hz2 rfl (by decide) _ _ _ rfl (World.ownsRow.alloc hrl.out.1 _) ⟨wr.heap.size, 0, none⟩ 1 1 [.int .i64 x, .slice (some ⟨gx, 0, none⟩) 1 1] rfl rfl (new_two _ _ _ _) (by intro u hu; simp at hu; rcases hu with rfl | rfl <;> rfl) (by unfold maxLen; omega) (by omega) (by simp; omega) ?_; intro v5 w5 hown5 hgrow5 _)
          have H6 : RowKit.Hid (PutRel w w5 v5 (oK (K.take (j + 1)) k) F) := by
            show PutRel _ _ _ _ _
            rw [E1.out]
            exact hrl.out.more HFx.out hown5 hgrow5
          clear hown5 hgrow5
          go_wp2
          go_roundw
          case rel => exact ⟨j + 1, by omega, by go_num, by rw [E2.out], H6.out⟩
          case measure => simp [RowKit.intOf]; omega
        | false =>
          by_cases hkx : k ≤ x
          · have e2 : dn (K.take (j + 1)) k = true := by rw [HTS.out, dn_snoc, hdn, decide_eq_true hkx]; rfl
            have E2 := Lib.hid e2
            by_cases hxe : x = k
            · have e1 := oK_here hdn hxe
              rw [← HTS.out] at e1
              have E1 := Lib.hid e1
              have r1 : (x != k) = false := by simp [hxe]
              have r2 : (x == k) = true := by simp [hxe]
              clear e1 e2 hdn
              go_upto_region 13 with (at_builtin; refine wpList_append_own _ rfl (.tmp 42) (.tmp 46) 70 rfl w.heap.size 77 i0 (.agg #[.int .i64 0, .slice none 0 0]) 2 32 Try.underlying70 hi hz hz1 hz2 rfl (by decide) _ _ _ rfl (World.ownsRow.alloc hrl.out.1 _) ⟨wr.heap.size, 0, none⟩ 1 1 [.int .i64 k, .slice (some ⟨g, 0, none⟩) 1 1] rfl rfl (new_two _ _ _ _) (by intro u hu; simp at hu; rcases hu with rfl | rfl <;> rfl) (by unfold maxLen; omega) (by omega) (by simp; omega) ?_; intro v5 w5 hown5 hgrow5 _)
              have H5 := hrl.out.more HFk.out hown5 hgrow5
              have cx5 := below_cell H5.2 HC.out.1
              have H6 : RowKit.Hid (PutRel w w5 v5 (oK (K.take (j + 1)) k) F) := by
                show PutRel _ _ _ _ _
                rw [E1.out]
                exact H5
              clear hown5 hgrow5 H5
              go_wp2
              go_roundw
              case rel => exact ⟨j + 1, by omega, by go_num, by rw [E2.out], H6.out⟩
              case measure => simp [RowKit.intOf]; omega
            · have e1 := oK_past hdn (show k < x by omega)
              rw [← HTS.out] at e1
              have E1 := Lib.hid e1
              have HFx := Lib.hid ((HFo.out x hxe).trans HG.out)
              have r1 : (x != k) = true := by simp [hxe]
              have r2 : (x == k) = false := by simp [hxe]
              clear e1 e2 hdn
              go_upto_region 13 with (at_builtin; refine wpList_append_own _ rfl (.tmp 42) (.tmp 46) 70 rfl w.heap.size 77 i0 (.agg #[.int .i64 0, .slice none 0 0]) 2 32 Try.underlying70 hi hz hz1 hz2 rfl (by decide) _ _ _ rfl (World.ownsRow.alloc hrl.out.1 _) ⟨wr.heap.size, 0, none⟩ 1 1 [.int .i64 k, .slice (some ⟨g, 0, none⟩) 1 1] rfl rfl (new_two _ _ _ _) (by intro u hu; simp at hu; rcases hu with rfl | rfl <;> rfl) (by unfold maxLen; omega) (by omega) (by simp; omega) ?_; intro v5 w5 hown5 hgrow5 _)
              have H5 := hrl.out.more HFk.out hown5 hgrow5
              have cx5 := below_cell H5.2 HC.out.1
              have cy5 := below_cell H5.2 HC.out.2
              have HS5 := H5.2.size
              have hl5 : (oK (K.take j) k ++ [k]).length = (oK (K.take j) k).length + 1 := by simp
              have HL5 := Lib.hid hl5
              have HH5 := Lib.hid H5
              clear hown5 hgrow5 H5 hl5
              go_wp2_with (at_builtin; refine wpList_append_own _ rfl (.tmp 55) (.tmp 60) 70 rfl w.heap.size 77 i0 (.agg #[.int .i64 0, .slice none 0 0]) 2 32 Try.underlying70 hi hz hz1 hz2 rfl (by decide) _ _ _ rfl (World.ownsRow.alloc HH5.out.1 _) ⟨w5.heap.size, 0, none⟩ 1 1 [.int .i64 x, .slice (some ⟨gx, 0, none⟩) 1 1] rfl rfl (new_two _ _ _ _) (by intro u hu; simp at hu; rcases hu with rfl | rfl <;> rfl) (by rw [HL5.out]; unfold maxLen; omega) (by rw [HL5.out]; omega) (by simp; omega) ?_; intro v7 w7 hown7 hgrow7 _)
              have H6 : RowKit.Hid (PutRel w w7 v7 (oK (K.take (j + 1)) k) F) := by
                show PutRel _ _ _ _ _
                rw [E1.out]
                exact HH5.out.more HFx.out hown7 hgrow7
              clear hown7 hgrow7
              go_wp2
              go_roundw
              case rel => exact ⟨j + 1, by omega, by go_num, by rw [E2.out], H6.out⟩
              case measure => simp [RowKit.intOf]; omega
          · have e2 : dn (K.take (j + 1)) k = false := by rw [HTS.out, dn_snoc, hdn, decide_eq_false hkx]; rfl
            have E2 := Lib.hid e2
            have e1 := oK_less hdn hkx
            rw [← HTS.out] at e1
            have E1 := Lib.hid e1
            have HFx := Lib.hid ((HFo.out x (by omega)).trans HG.out)
            have r1 : (x != k) = true := by simp; omega
            have r2 : (x == k) = false := by simp; omega
            clear e1 e2 hdn
            go_wp2_with (at_builtin; refine wpList_append_own _ rfl (.tmp 55) (.tmp 60) 70 rfl w.heap.size 77 i0 (.agg #[.int .i64 0, .slice none 0 0]) 2 32 Try.underlying70 hi hz hz1 hz2 rfl (by decide) _ _ _ rfl (World.ownsRow.alloc hrl.out.1 _) ⟨wr.heap.size, 0, none⟩ 1 1 [.int .i64 x, .slice (some ⟨gx, 0, none⟩) 1 1] rfl rfl (new_two _ _ _ _) (by intro u hu; simp at hu; rcases hu with rfl | rfl <;> rfl) (by unfold maxLen; omega) (by omega) (by simp; omega) ?_; intro v5 w5 hown5 hgrow5 _)
            have H6 : RowKit.Hid (PutRel w w5 v5 (oK (K.take (j + 1)) k) F) := by
              show PutRel _ _ _ _ _
              rw [E1.out]
              exact hrl.out.more HFx.out hown5 hgrow5
            clear hown5 hgrow5
            go_wp2
            go_roundw
            case rel => exact ⟨j + 1, by omega, by go_num, by rw [E2.out], H6.out⟩
            case measure => simp [RowKit.intOf]; omega
      · have hjn : j = n := by omega
        subst hjn
        have eT : K.take j = K := List.take_of_length_le (by rw [HL.out]; exact Nat.le_refl _)
        rw [eT] at hrl ⊢
        have hbl := oK_len K k
        have hend := oK_end K k
        have HS := hrl.out.2.size
        have HLL := HL.out
        clear eT
        go_upto_if 63 with fail
        go_cut [11, 12] (fun s _ wx => ∃ A' c', s = .slice A' (insK k K).length c' ∧ RowKit.Hid (Rd wx (fun b => w.heap.size ≤ b) 2 A' (insK k K).length c' (mkRows (insK k K) F)) ∧ RowKit.Hid (Below w.heap.size w wx))
        case first =>
          cases hdn : dn K k with
          | true =>
            rw [if_pos hdn] at hend
            have h1 := hrl.out.1
            rw [hend] at h1
            obtain ⟨A9, c9, rfl, hr9⟩ := Rd.of_own h1 (mkRows_len _ _) (mkRows_ok _ _ (fun x hx => HFs.out x ((mem_insK k K x).1 hx)))
            have R9 := Lib.hid hr9
            clear h1 hr9 hend hbl
            go_wp2
            go_meet
            exact ⟨A9, c9, rfl, R9.out, hrl.out.2⟩
          | false =>
            rw [if_neg (by rw [hdn]; simp)] at hend
            have HE := Lib.hid hend
            clear hend
            go_wp2_with (at_builtin; refine wpList_append_own _ rfl (.tmp 64) (.tmp 68) 70 rfl w.heap.size 77 i0 (.agg #[.int .i64 0, .slice none 0 0]) 2 32 Try.underlying70 hi hz hz1 hz2 rfl (by decide) _ _ _ rfl (World.ownsRow.alloc hrl.out.1 _) ⟨wr.heap.size, 0, none⟩ 1 1 [.int .i64 k, .slice (some ⟨g, 0, none⟩) 1 1] rfl rfl (new_two _ _ _ _) (by intro u hu; simp at hu; rcases hu with rfl | rfl <;> rfl) (by unfold maxLen; omega) (by omega) (by simp; omega) ?_; intro v5 w5 hown5 hgrow5 _)
            have H5 := hrl.out.more HFk.out hown5 hgrow5
            rw [HE.out] at H5
            obtain ⟨A9, c9, rfl, hr9⟩ := Rd.of_own H5.1 (mkRows_len _ _) (mkRows_ok _ _ (fun x hx => HFs.out x ((mem_insK k K x).1 hx)))
            have R9 := Lib.hid hr9
            have B9 := Lib.hid H5.2
            clear hown5 hgrow5 H5 hr9
            go_wp2
            go_meet
            exact ⟨A9, c9, rfl, R9.out, B9.out⟩
        case rest =>
          obtain ⟨A9, c9, rfl, R9, B9⟩ := hcut
          have hI := insK_len k K
          have hpos : 1 ≤ mostOf c p := (mostOf_le c p).1
          have hmx := (mostOf_le c p).2
          clear hend hrl
          go_wp2_with fail
          refine (ref25Most_any c p _ hc0 hc1 hp0 hp1).mono ?_
          rintro e w6 ⟨rfl, rfl⟩
          by_cases hgt : mostOf c p < (insK k K).length
          · rw [if_pos hgt] at HPK
            obtain ⟨y, t, hht⟩ : ∃ y t, insK k K = y :: t := by
              cases hc : insK k K with
              | nil => rw [hc] at hgt; simp at hgt
              | cons y t => exact ⟨y, t, rfl⟩
            rw [hht] at R9 HPK hgt hI ⊢
            simp only [List.length_cons] at hgt hI R9 ⊢
            rw [List.tail_cons] at HPK
            obtain ⟨b9, o9, rfl, hD9, hc9⟩ := R9.out.at_ (by omega)
            have T9 := Lib.hid (Rd.rest (e := [.int .i64 y, F y]) (es := mkRows t F) R9.out)
            have hle := R9.out.le
            have r1 : ¬ c9 = 1 := by omega
            have r2 : 1 < c9 := by omega
            have r3 : ¬ 1 = c9 := by omega
            clear hc9 hD9 hht
            go_wp2
            go_ret
            rw [HPK.out]
            exact ⟨_, _, rfl, T9.out, B9.out⟩
          · rw [if_neg hgt] at HPK
            go_wp2
            go_ret
            rw [HPK.out]
            exact ⟨A9, c9, rfl, R9.out, B9.out⟩

set_option maxRecDepth 100000 in
theorem ref25Put_bad (A : Option Addr) (n cc : Nat) (c p0 p k : Int) (v : Value) (w : World) (hpp : p = perOf p0) (hb : bad p k) :
    Calls Try.prog 39 #[.slice A n cc, .int .i64 c, .int .i64 p0, .int .i64 k, v] w fun e w' => e = .returned (.slice A n cc) ∧ w = w' := by
  have HPP := Lib.hid hpp
  have hp0 : 1 ≤ p := by rw [hpp]; exact perOf_pos p0
  have q2 : ¬ p = 0 := by omega
  clear hpp
  go_enter Try.func39, Try.ntmps39
  go_upto_if 15 with fail
  go_cut [2] (fun s wx => s = .int .i64 p ∧ w = wx)
  case first =>
    by_cases h1 : p0 < 1
    · have e : RowKit.Hid (1 = p) := by show _ = _; rw [HPP.out]; unfold perOf; rw [if_pos h1]
      go_wp2
      go_meet
      exact ⟨congrArg _ e.out, rfl⟩
    · have e : RowKit.Hid (p0 = p) := by show _ = _; rw [HPP.out]; unfold perOf; rw [if_neg h1]
      go_wp2
      go_meet
      exact ⟨congrArg _ e.out, rfl⟩
  case rest =>
    obtain ⟨rfl, rfl⟩ := hcut
    by_cases hk : k < 0
    · go_wp2
      go_ret
      exact ⟨rfl, rfl⟩
    · have hm : ¬ k % p = 0 := by rcases hb with h | h; exact absurd h hk; exact h
      have q3 : ((k % p) != 0) = true := by simp [hm]
      have q4 : 0 ≤ k := by omega
      clear hb
      go_wp2
      go_ret
      exact ⟨rfl, rfl⟩

theorem mostOf_per (c p : Int) : mostOf c (perOf p) = mostOf c p := by
  have h := perOf_pos p
  have e : perOf (perOf p) = perOf p := by
    have : ¬ perOf p < 1 := by omega
    rw [perOf, if_neg this]
  unfold mostOf
  rw [e]
theorem mputK_short {most : Nat} {per : Int} {K : List Int} {k : Int} (h : K.length ≤ most) : (mputK most per K k).length ≤ most ∨ K.length + 1 ≤ most := by
  have := insK_len k K
  unfold mputK
  split
  · exact .inl h
  · split
    · simp; omega
    · exact .inl (by omega)

theorem ref25Put_any (A : Option Addr) (n cc : Nat) (K : List Int) (f : Int → Value) (c p k : Int) (g : Nat) (D : Nat → Prop) (w : World) (hx : Rd w D 2 A n cc (mkRows K f)) (hf : ∀ x ∈ K, OneS (f x)) (hr : Rising K) (hn : n ≤ 1000000)
    (hc0 : -9223372036854775808 ≤ c) (hc1 : c ≤ 9223372036854775807) (hp1 : p ≤ 9223372036854775807) :
    Calls Try.prog 39 #[.slice A n cc, .int .i64 c, .int .i64 p, .int .i64 k, .slice (some ⟨g, 0, none⟩) 1 1] w fun e w' => ∃ A' c', e = .returned (.slice A' (mputK (mostOf c p) (perOf p) K k).length c') ∧
      Rd w' (fun b => D b ∨ w.heap.size ≤ b) 2 A' (mputK (mostOf c p) (perOf p) K k).length c' (mkRows (mputK (mostOf c p) (perOf p) K k) (mputF (perOf p) f k (.slice (some ⟨g, 0, none⟩) 1 1))) ∧ Below w.heap.size w w' := by
  by_cases hb : bad (perOf p) k
  · refine (ref25Put_bad A n cc c p (perOf p) k _ w rfl hb).mono ?_
    rintro e w' ⟨rfl, rfl⟩
    have hlen : K.length = n := by have := hx.len; rwa [mkRows_len] at this
    have e1 : mputK (mostOf c p) (perOf p) K k = K := last_stay _ _ _ _ hb
    have e2 : mputF (perOf p) f k (.slice (some ⟨g, 0, none⟩) 1 1) = f := by unfold mputF; rw [if_pos hb]
    rw [e1, e2, hlen]
    exact ⟨A, cc, rfl, hx.mono (fun b _ h => .inl h) (by decide), Below.refl _ _⟩
  · have hp2 : perOf p ≤ 9223372036854775807 := by unfold perOf; split <;> omega
    refine (ref25Put_good A n cc K f c p (perOf p) k g D w hx hf hr hn hc0 hc1 rfl hp2 hb).mono ?_
    rintro e w' ⟨A', c', rfl, h1, h2⟩
    have e2 : mputF (perOf p) f k (.slice (some ⟨g, 0, none⟩) 1 1) = upd f k (.slice (some ⟨g, 0, none⟩) 1 1) := by unfold mputF; rw [if_neg hb]
    rw [mostOf_per] at h1 ⊢
    rw [e2]
    exact ⟨A', c', rfl, h1.mono (fun b _ h => .inr h) (by decide), h2⟩
end Go.Proofs.Ytochdmbjlemfoaa
