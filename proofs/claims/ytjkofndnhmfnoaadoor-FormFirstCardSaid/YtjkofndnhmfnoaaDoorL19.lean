/-
  The law FormFirst (package anamnesislaw05): the walk. Of any array that can be read, any many; strconv's table lies as the library lays it.
-/
import Derived.Test.YtjkofndnhmfnoaaDoorL18
import Derived.Test.YtjkofndnhmfnoaaDoorRG
import Derived.Deep.QuietTactic
import Derived.BigQuiet
namespace Go.Proofs.YtjkofndnhmfnoaaDoor
open Go Go.RowKit

theorem Rd.tail {w : World} {D : Nat → Prop} {b off n c : Nat} {x : List Value} {es : List (List Value)} (h : Rd w D 1 (some ⟨b, off, none⟩) (n + 1) (c + 1) (x :: es)) : Rd w D 1 (some ⟨b, off + 1, none⟩) n c es :=
  ⟨by have := h.len; simpa using this, by have := h.le; omega, by have := h.max; omega, fun e he => h.rows e (List.mem_cons_of_mem _ he), fun _ => by
    obtain ⟨b', off', e, hb, hc⟩ := h.at_ (by omega)
    injection e with e
    injection e with e1 e2
    subst e1 e2
    refine ⟨b, off + 1, rfl, hb, fun i e hi k u hk => ?_⟩
    have := hc (i + 1) e (by simpa using hi) k u hk
    rwa [show off + ((i + 1) * 1 + k) = off + 1 + (i * 1 + k) from by omega] at this⟩

theorem Rd.tail' {w : World} {D : Nat → Prop} {b off n c : Nat} {x : List Value} {es : List (List Value)} (h : Rd w D 1 (some ⟨b, off, none⟩) (n + 1) (c + 1) (x :: es)) : Rd w D 1 (if c = 0 then some ⟨b, off, none⟩ else some ⟨b, off + 1, none⟩) n c es := by
  have ht := h.tail
  split
  · have hn : n = 0 := by have := ht.le; omega
    exact ⟨ht.len, ht.le, ht.max, ht.rows, fun h0 => by omega⟩
  · exact ht
/-- One awake at the end. -/
theorem shape_i64 {char : Bool} {s data : List Int} (hr : rightL char s data) : ∀ t ∈ sepT (s.map fun x => ((0 : Nat), x)), i64 t.2 := by
  intro t ht
  have h : t.2 ∈ (sepT (s.map fun x => ((0 : Nat), x))).map Prod.snd := List.mem_map.2 ⟨t, ht, rfl⟩
  rw [sepT_snd, List.map_map] at h
  have h2 : t.2 ∈ s := by simpa [Function.comp_def] using h
  have := hr.2.1 _ h2
  unfold i64
  omega
theorem shape_snd (s : List Int) : (sepT (s.map fun x => ((0 : Nat), x))).map Prod.snd = s := by
  rw [sepT_snd, List.map_map]
  simp [Function.comp_def]
theorem num_len {x : Int} (h : i64 x) : (numL x).length ≤ 22 := by
  have h1 := dec_len x.natAbs (by have := h.1; have := h.2; omega)
  unfold numL
  split <;> simp <;> omega
theorem shape_len {char : Bool} {s data : List Int} (hr : rightL char s data) : (tokL (sepT (s.map fun x => ((0 : Nat), x)))).length ≤ 1000 := by
  have h4 := hr.1
  have h : ∀ l : List (Nat × Int), (∀ t ∈ l, t.1 ≤ 1 ∧ i64 t.2) → (tokL l).length ≤ 23 * l.length := by
    intro l
    induction l with
    | nil => intro _; simp [tokL]
    | cons t l ih =>
      intro hl
      obtain ⟨p, x⟩ := t
      have h1 := hl (p, x) List.mem_cons_self
      have h2 := num_len h1.2
      have h3 := ih fun t ht => hl t (List.mem_cons_of_mem _ ht)
      simp only [tokL, padL, List.length_append, List.length_replicate, List.length_cons]
      have h4 : p ≤ 1 := h1.1
      have h5 : (numL x).length ≤ 22 := h2
      omega
  have h2 := h (sepT (s.map fun x => ((0 : Nat), x))) fun t ht => ⟨by
    cases s with
    | nil => cases ht
    | cons a s =>
      simp only [List.map_cons, sepT] at ht
      rcases List.mem_cons.1 ht with rfl | ht
      · simp
      · obtain ⟨u, hu, rfl⟩ := List.mem_map.1 ht
        obtain ⟨y, _, rfl⟩ := List.mem_map.1 hu
        simp, shape_i64 hr t ht⟩
  rw [sepT_len, List.length_map] at h2
  omega
set_option linter.unusedSimpArgs false in
set_option maxRecDepth 100000 in
set_option maxHeartbeats 6400000 in
theorem formFirst_any (char : Bool) (A : Option Addr) (n c : Nat) (B : Option Addr) (m d : Nat) (s data : List Int) (most : Int) (D D' : Nat → Prop) (w : World) (hs : Rd w D 1 A n c (intRows .i64 s)) (hd : Rd w D' 1 B m d (intRows .i64 data)) (his : ∀ x ∈ s, i64 x) (hi : ∀ x ∈ data, i64 x) (hm0 : 0 ≤ most) (hm1 : most ≤ 255) (ht : Tab w) :
    Calls Tryd.prog 6 #[.agg #[.bool char, .slice A n c, .slice B m d], .int .u8 most] w fun e w' => e = .returned (.bool true) ∧ Below w.heap.size w w' := by
  have hmo : i64 most := by unfold i64; omega
  have hlen : s.length = n := by have := hs.len; simpa [intRows] using this
  subst hlen
  have HT := Lib.hid ht
  have HB := Lib.hid (fun o => (Below.refl w.heap.size w).alloc (Nat.le_refl _) o)
  by_cases hg : GreatA m s
  · have HG := Lib.hid (fun w2 (hb : Below w.heap.size w w2) => great05_any char A s.length c B m d s D w2 (hs.below hb) true (decide_eq_true hg).symm)
    clear hs hd his hi hmo ht hg hm0 hm1
    go_enter Tryd.func6, Tryd.ntmps6
    go_wp2_with fail
    refine (HG.out _ (HB.out _)).mono ?_
    rintro e w1 ⟨rfl, hb1⟩
    have B1 := Lib.hid ((HB.out _).trans (hb1.mono (HB.out _).size))
    clear hb1
    go_wp2_with fail
    refine (awake05_any w1 (HT.out.below B1.out)).mono ?_
    rintro e w2 ⟨rfl, hb2⟩
    go_wp2
    go_ret
    exact ⟨rfl, B1.out.trans (hb2.mono B1.out.size)⟩
  have HG := Lib.hid (fun w2 (hb : Below w.heap.size w w2) => great05_any char A s.length c B m d s D w2 (hs.below hb) false (decide_eq_false hg).symm)
  clear hg
  by_cases hr : rightL char s data
  · have hll := linesL_le hr
    have hsl : s.length ≤ 4 := hr.1
    have HL := Lib.hid (fun w2 (hb : Below w.heap.size w w2) => lines05_good char A s.length c B m d s data D D' w2 (hs.below hb) (hd.below hb) hi hr (ht.below hb))
    have HF := Lib.hid (fun w2 (hb : Below w.heap.size w w2) => first05_good char A s.length c B m d s data most D D' w2 (hs.below hb) (hd.below hb) hi hr (ht.below hb) hmo (by omega))
    have HRD : RowKit.Hid (∀ w2, Calls Tryd.prog 10 #[.string (bs (shapeL s))] w2 fun e w' => ∃ v, e = .returned (.tuple #[v, .bool true]) ∧ Nums w' w2.heap.size v s ∧ Below w2.heap.size w2 w') := by
      intro w2
      have h := reads05_any (sepT (s.map fun x => (0, x))) w2 (sepT_sepd _) (shape_i64 hr) (by have := shape_len hr; omega)
      rw [← shape_tok, shape_snd] at h
      exact h
    have HS := Lib.hid hs
    have HLL := Lib.hid hll
    clear hs hd his hi hmo ht hr hll
    go_enter Tryd.func6, Tryd.ntmps6
    go_wp2_with fail
    obtain ⟨wa, hwa⟩ : ∃ wa, wa = w.alloc (.cells #[.bool char, .slice A s.length c, .slice B m d] 27) := ⟨_, rfl⟩
    have hba : Below w.heap.size w wa := by rw [hwa]; exact HB.out _
    have hxa : wa.heap[w.heap.size]? = some (.cells #[.bool char, .slice A s.length c, .slice B m d] 27 (0, 0)) := by rw [hwa]; exact heap_alloc_new w _
    rw [← hwa]
    have BA := Lib.hid hba
    have XA := Lib.hid hxa
    clear hwa hba hxa HB
    refine (HG.out wa BA.out).mono ?_
    rintro e w1 ⟨rfl, hb1⟩
    have B1 := Lib.hid (BA.out.trans (hb1.mono BA.out.size))
    have X1 := Lib.hid ((hb1.block _ (lt_of_block XA.out)).trans XA.out)
    obtain ⟨p0, p1, p2⟩ := agg_fields X1.out
    clear hb1 HG
    go_wp2_with fail
    refine (HL.out w1 B1.out).mono ?_
    rintro e w2 ⟨v2, rfl, htx2, hb2⟩
    have B2 := Lib.hid (B1.out.trans (hb2.mono B1.out.size))
    have X2 := Lib.hid ((hb2.block _ (lt_of_block X1.out)).trans X1.out)
    have T2 := Lib.hid htx2
    clear hb2 p0 p1 p2 HL htx2
    obtain ⟨p0, p1, p2⟩ := agg_fields X2.out
    go_wp2_with fail
    refine (HF.out w2 B2.out).mono ?_
    rintro e w3 ⟨v3, rfl, htx3, hb3⟩
    have B3 := Lib.hid (B2.out.trans (hb3.mono B2.out.size))
    have X3 := Lib.hid ((hb3.block _ (lt_of_block X2.out)).trans X2.out)
    have T3 := Lib.hid (T2.out.below hb3)
    have F3 := Lib.hid htx3
    clear hb3 p0 p1 p2 HF T2 htx3
    obtain ⟨p0, p1, p2⟩ := agg_fields X3.out
    obtain ⟨A2, c2, rfl, hc2, -⟩ := T3.out.form
    obtain ⟨A3, c3, rfl, hc3, hc4⟩ := F3.out.form
    obtain ⟨L, hL⟩ : ∃ L, L = linesL char s data := ⟨_, rfl⟩
    rw [← hL] at T3 F3 HLL ⊢
    obtain ⟨M, rfl⟩ : ∃ M : Nat, most = (M : Int) := ⟨most.toNat, by omega⟩
    obtain ⟨K, hK⟩ : ∃ K, K = min M L.length := ⟨_, rfl⟩
    have hlen3 : (shapeL s :: L.take (M : Int).toNat).length = K + 1 := by
      simp
      omega
    have hmin : min (M : Int) (L.length : Int) = (K : Int) := by omega
    rw [← hL] at hc2 hc3
    rw [hlen3] at hc3 F3 ⊢
    have hll : L.length ≤ 40000 := HLL.out
    obtain ⟨g3, rfl, hf0⟩ := F3.out.at_ (k := 0) (t := shapeL s) rfl
    obtain ⟨c3, rfl⟩ : ∃ c, c3 = c + 1 := ⟨c3 - 1, by omega⟩
    have q1 : (0 : Int) < ((K + 1 : Nat) : Int) := by omega
    have hkm : K ≤ L.length := by omega
    have HTK : RowKit.Hid (L.take (M : Int).toNat = L.take K) := by
      show _ = _
      rw [hK, Int.toNat_natCast]
      rcases Nat.le_total M L.length with h | h
      · rw [Nat.min_eq_left h]
      · rw [Nat.min_eq_right h, List.take_of_length_le h, List.take_length]
    clear hK
    have HLE := Lib.hid hL
    clear hL
    have hll2 : L.length ≤ 9223372036854775806 := by omega
    go_wp2_with fail
    refine (HRD.out w3).mono ?_
    rintro e w4 ⟨v4, rfl, hnu4, hb4⟩
    have B4 := Lib.hid (B3.out.trans (hb4.mono B3.out.size))
    have X4 := Lib.hid ((hb4.block _ (lt_of_block X3.out)).trans X3.out)
    have T4 := Lib.hid (T3.out.below hb4)
    have F4 := Lib.hid (F3.out.below hb4)
    obtain ⟨A4, c4, rfl, hrd4⟩ := hnu4.rd
    obtain ⟨_, hy4⟩ := hrd4.one
    have HY4 := Lib.hid hy4
    have hc5 : s.length ≤ c4 := hrd4.le
    have S4 := Lib.hid (HS.out.below B4.out)
    obtain ⟨_, hs4⟩ := S4.out.one
    have HS4 := Lib.hid hs4
    clear hb4 p0 p1 p2 HRD T3 F3 hf0 hnu4 hrd4 hy4 hs4 HS
    obtain ⟨p0, p1, p2⟩ := agg_fields X4.out
    go_wp2_with fail
    all_goals
      go_loopw [10] (fun i wr => ∃ k : Nat, k ≤ s.length ∧ i = .int .i64 (k : Int) ∧ RowKit.Hid (Below w4.heap.size w4 wr)) (fun i _ => s.length - (RowKit.intOf i).toNat)
      case atStart => exact ⟨0, Nat.zero_le _, rfl, Below.refl _ _⟩
      case round =>
        obtain ⟨k, hk, rfl, hbw⟩ := hrel
        by_cases hlt : k < s.length
        · obtain ⟨b1, o1, rfl, -, -, hc1⟩ := HS4.out (by omega)
          obtain ⟨b4, o4, rfl, -, -, hd1⟩ := HY4.out (by omega)
          obtain ⟨x, hx⟩ : ∃ x, s[k]? = some x := ⟨_, List.getElem?_eq_getElem hlt⟩
          have cx := below_cell hbw.out (hc1 k _ hx)
          have cy := below_cell hbw.out (hd1 k _ hx)
          have px := below_cell hbw.out p1
          have q5 : (k : Int) < (s.length : Int) := by omega
          have HLT := Lib.hid (show k + 1 ≤ s.length from hlt)
          clear hx hc1 hd1 p0 p1 p2 hlt
          go_wp2_with fail
          go_quiet (fail)
          go_wp2
          go_roundw
          case rel => exact ⟨k + 1, HLT.out, by go_num, below_drewN hbw.out _⟩
          case measure => have := HLT.out; simp [RowKit.intOf]; omega
        · have hke : k = s.length := by omega
          subst hke
          have px := below_cell hbw.out p0
          clear p0 p1 p2
          have BW := Lib.hid (B4.out.trans (hbw.out.mono B4.out.size))
          have T5 := Lib.hid (T4.out.below hbw.out)
          have F5 := Lib.hid (F4.out.below hbw.out)
          have q6 : (1 : Int) ≤ ((K + 1 : Nat) : Int) := by omega
          have q7 : (K : Int) ≤ (c2 : Int) := by omega
          have HR1 : RowKit.Hid (Rd wr (fun b => w2.heap.size ≤ b) 1 (if c3 = 0 then some ⟨g3, 0, none⟩ else some ⟨g3, 1, none⟩) K c3 (strRows ((L.take K).map bs))) := by
            obtain ⟨Ax, cx, ex, hx⟩ := F5.out.rd
            rw [hlen3] at ex hx
            injection ex with e1 e2 e3
            subst e1 e3
            rw [HTK.out] at hx
            exact hx.tail'
          have HR2 : RowKit.Hid (Rd wr (fun b => w1.heap.size ≤ b) 1 A2 K c2 (strRows ((L.take K).map bs))) := by
            have ht := T5.out.take (k := K) (by omega)
            obtain ⟨Ax, cx, ex, hx⟩ := ht.rd
            have hlk : (L.take K).length = K := by rw [List.length_take]; omega
            rw [hlk] at ex hx
            injection ex with e1 e2 e3
            subst e1 e3
            exact hx
          go_wp2_with fail
          refine wp_region_facts (by kernel_rfl) (by kernel_rfl) (fun i v _ => match i with
            | 0 => v = .slice (some ⟨g3, 0, none⟩) (K + 1) (c3 + 1)
            | 1 => v = .slice (if c3 = 0 then some ⟨g3, 0, none⟩ else some ⟨g3, 1, none⟩) K c3
            | 2 => v = .slice A2 L.length c2
            | 3 => v = .slice (some ⟨g3, 0, none⟩) (K + 1) (c3 + 1)
            | 4 => v = .int .i64 ((K + 1 : Nat) : Int)
            | 5 => v = .int .i64 (K : Int)
            | 6 => v = .slice A2 K c2
            | 7 => v = .bool true
            | 8 => v = .bool true
            | 9 => v = .bool true
            | 10 => v = .bool true
            | 11 => v = .bool true
            | _ => True) ?mkZ ?hmkZ (fun _ _ _ _ h _ => h) ?hsZ ?hendZ
          case hmkZ =>
            intro X
            simp only [fillA, fillO, List.setIfInBounds_toArray, List.set_cons_succ, List.set_cons_zero, Nat.zero_add, Nat.reduceAdd]
            rfl
          case hsZ =>
            refine ⟨?z0, ?z1, ?z2, ?z3, ?z4, ?z5, ?z6, ?z7, ?z8, ?z9, ?z10, ?z11, trivial⟩
            case z0 =>
              intro X w5 hb f K' hK
              clear f
              simp only [Act.put, List.setIfInBounds_toArray, List.set_cons_succ, List.set_cons_zero] at hK
              go_simp
              exact hK _ _ rfl (Below.refl _ _)
            case z1 =>
              intro X w5 hb f K' hK
              simp only [List.foldr_cons, List.foldr_nil, and_true] at f
              have e0 := f
              simp only [Act.put, List.setIfInBounds_toArray, List.set_cons_succ, List.set_cons_zero, e0] at hK
              have q11 : (1 : Int) ≤ (K : Int) + 1 := by omega
              go_simp
              exact hK _ _ rfl (Below.refl _ _)
            case z2 =>
              intro X w5 hb f K' hK
              clear f
              simp only [Act.put, List.setIfInBounds_toArray, List.set_cons_succ, List.set_cons_zero] at hK
              go_simp
              exact hK _ _ rfl (Below.refl _ _)
            case z3 =>
              intro X w5 hb f K' hK
              clear f
              simp only [Act.put, List.setIfInBounds_toArray, List.set_cons_succ, List.set_cons_zero] at hK
              go_simp
              exact hK _ _ rfl (Below.refl _ _)
            case z4 =>
              intro X w5 hb f K' hK
              simp only [List.foldr_cons, List.foldr_nil, and_true] at f
              have e3 := f
              simp only [Act.put, List.setIfInBounds_toArray, List.set_cons_succ, List.set_cons_zero, e3] at hK
              go_simp
              exact hK _ _ rfl (Below.refl _ _)
            case z5 =>
              intro X w5 hb f K' hK
              simp only [List.foldr_cons, List.foldr_nil, and_true] at f
              have e4 := f
              simp only [Act.put, List.setIfInBounds_toArray, List.set_cons_succ, List.set_cons_zero, e4] at hK
              have hwk : IntKind.i64.wrap (K : Int) = (K : Int) := wrap_in (by omega) (by omega)
              go_simp
              exact hK _ _ rfl (Below.refl _ _)
            case z6 =>
              intro X w5 hb f K' hK
              simp only [List.foldr_cons, List.foldr_nil, and_true] at f
              obtain ⟨e2, e5⟩ := f
              simp only [Act.put, List.setIfInBounds_toArray, List.set_cons_succ, List.set_cons_zero, e2, e5] at hK
              go_simp
              exact hK _ _ rfl (Below.refl _ _)
            case z7 =>
              intro X w5 hb f K' hK
              simp only [List.foldr_cons, List.foldr_nil, and_true] at f
              obtain ⟨e1, e6⟩ := f
              simp only [Act.put, List.setIfInBounds_toArray, List.set_cons_succ, List.set_cons_zero, e1, e6] at hK
              go_simp
              go_at_call 16
              refine (ltexts05_any _ _ _ _ _ _ _ _ _ _ w5 (HR1.out.below (hb)) (HR2.out.below hb)).mono ?_
              rintro e w6 ⟨rfl, k6, rfl⟩
              rw [decide_eq_true rfl] at *
              exact hK _ _ rfl (below_drewN (Below.refl _ _) _)
            case z8 =>
              intro X w5 hb f K' hK
              simp only [List.foldr_cons, List.foldr_nil, and_true] at f
              obtain ⟨e7, -⟩ := f
              simp only [Act.put, List.setIfInBounds_toArray, List.set_cons_succ, List.set_cons_zero, e7] at hK
              go_simp
              exact hK _ _ rfl (Below.refl _ _)
            case z9 =>
              intro X w5 hb f K' hK
              simp only [List.foldr_cons, List.foldr_nil, and_true] at f
              obtain ⟨e8, -⟩ := f
              simp only [Act.put, List.setIfInBounds_toArray, List.set_cons_succ, List.set_cons_zero, e8] at hK
              go_simp
              go_at_call 8
              refine (awake05_any w5 (HT.out.below (BW.out.trans (hb.mono BW.out.size)))).mono ?_
              rintro e w6 ⟨rfl, hb6⟩
              exact hK _ _ rfl hb6
            case z10 =>
              intro X w5 hb f K' hK
              simp only [List.foldr_cons, List.foldr_nil, and_true] at f
              obtain ⟨e8, e9⟩ := f
              simp only [Act.put, List.setIfInBounds_toArray, List.set_cons_succ, List.set_cons_zero, e8, e9] at hK
              go_simp
              exact hK _ _ rfl (Below.refl _ _)
            case z11 =>
              intro X w5 hb f K' hK
              simp only [List.foldr_cons, List.foldr_nil, and_true] at f
              obtain ⟨e10, e9, e0, e1, e2, e3, e4, e5, e6, e7, e8, -, -⟩ := f
              simp only [Act.put, List.setIfInBounds_toArray, List.set_cons_succ, List.set_cons_zero, e10, e9, e0, e1, e2, e3, e4, e5, e6, e7, e8] at hK
              go_simp
              exact hK _ _ rfl (Below.refl _ _)
          case hendZ =>
            intro X w5 hb5 hf
            have hq : X 11 = .bool true := hf 11 (by decide)
            clear hf
            simp only [hq]
            clear hq
            go_wp2
            go_ret
            exact ⟨rfl, BW.out.trans (hb5.mono BW.out.size)⟩
  · have HL := Lib.hid (fun w2 (hb : Below w.heap.size w w2) => lines05_bad char A s.length c B m d s data D D' w2 (hs.below hb) (hd.below hb) his hr)
    have HF := Lib.hid (fun w2 (hb : Below w.heap.size w w2) => first05_bad char A s.length c B m d s data most D D' w2 (hs.below hb) (hd.below hb) his hr)
    clear hs hd his hi ht hr hmo
    go_enter Tryd.func6, Tryd.ntmps6
    go_wp2_with fail
    obtain ⟨wa, hwa⟩ : ∃ wa, wa = w.alloc (.cells #[.bool char, .slice A s.length c, .slice B m d] 27) := ⟨_, rfl⟩
    have hba : Below w.heap.size w wa := by rw [hwa]; exact HB.out _
    have hxa : wa.heap[w.heap.size]? = some (.cells #[.bool char, .slice A s.length c, .slice B m d] 27 (0, 0)) := by rw [hwa]; exact heap_alloc_new w _
    rw [← hwa]
    have BA := Lib.hid hba
    have XA := Lib.hid hxa
    clear hwa hba hxa HB
    refine (HG.out wa BA.out).mono ?_
    rintro e w1 ⟨rfl, hb1⟩
    have B1 := Lib.hid (BA.out.trans (hb1.mono BA.out.size))
    have X1 := Lib.hid ((hb1.block _ (lt_of_block XA.out)).trans XA.out)
    obtain ⟨p0, p1, p2⟩ := agg_fields X1.out
    clear hb1 HG
    go_wp2_with fail
    refine (HL.out w1 B1.out).mono ?_
    rintro e w2 ⟨rfl, hb2⟩
    have B2 := Lib.hid (B1.out.trans (hb2.mono B1.out.size))
    have X2 := Lib.hid ((hb2.block _ (lt_of_block X1.out)).trans X1.out)
    clear hb2 p0 p1 p2 HL
    obtain ⟨p0, p1, p2⟩ := agg_fields X2.out
    go_wp2_with fail
    refine (HF.out w2 B2.out).mono ?_
    rintro e w3 ⟨rfl, hb3⟩
    have B3 := Lib.hid (B2.out.trans (hb3.mono B2.out.size))
    clear hb3 p0 p1 p2 HF
    go_wp2_with fail
    refine (awake05_any w3 (HT.out.below B3.out)).mono ?_
    rintro e w4 ⟨rfl, hb4⟩
    go_wp2
    go_ret
    exact ⟨rfl, B3.out.trans (hb4.mono B3.out.size)⟩
end Go.Proofs.YtjkofndnhmfnoaaDoor
