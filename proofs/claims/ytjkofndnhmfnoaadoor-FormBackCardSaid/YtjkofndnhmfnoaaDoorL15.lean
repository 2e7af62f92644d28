/-
  The law of layer 05: num, prints, awake: contracts; how many lines an array has at most.
-/
import Derived.Test.YtjkofndnhmfnoaaDoorL14
import Derived.Test.YtjkofndnhmfnoaaDoorL12
namespace Go.Proofs.YtjkofndnhmfnoaaDoor
open Go Go.RowKit

instance (x : Int) : Decidable (i64 x) := by unfold i64; exact inferInstance
theorem ltexts_txs (w : World) (b1 b2 : Nat) (v1 v2 : Value) (l1 l2 : List (List UInt8)) (h1 : Txs w b1 v1 l1) (h2 : Txs w b2 v2 l2) :
    Calls Tryd.prog 16 #[v1, v2] w fun e w' => e = .returned (.bool (decide (l1 = l2))) ∧ Below w.heap.size w w' := by
  obtain ⟨A, c, rfl, hr1⟩ := h1.rd
  obtain ⟨B, d, rfl, hr2⟩ := h2.rd
  refine (ltexts05_any A B l1.length c l2.length d (l1.map bs) (l2.map bs) _ _ w hr1 hr2).mono ?_
  rintro e w' ⟨rfl, k, rfl⟩
  have e : decide (l1.map bs = l2.map bs) = decide (l1 = l2) := by
    rw [Bool.eq_iff_iff, decide_eq_true_eq, decide_eq_true_eq]
    exact ⟨fun h => (List.map_inj_right (fun x y hxy => bs_inj hxy)).1 h, fun h => by rw [h]⟩
  exact ⟨by rw [e], below_drewN (Below.refl _ _) _⟩
theorem linesL_le {char : Bool} {s data : List Int} (hr : rightL char s data) : (linesL char s data).length ≤ 40000 := by
  unfold linesL
  by_cases h2 : s.length < 2
  · rw [if_pos h2]; simp
  rw [if_neg h2]
  by_cases h0 : 2 < s.length ∧ data = []
  · rw [if_pos h0]; simp
  rw [if_neg h0]
  have hb := blkTo_len char s data (manyL s)
  unfold blkTo at hb
  refine Nat.le_trans hb ?_
  have h4 := hr.1
  have hnn := fun x hx => (hr.2.1 x hx).1
  have hle := fun x hx => (hr.2.1 x hx).2
  have hpr := hr.2.2.1
  have hdl := hr.2.2.2.1
  have key : ∀ M r cc : Nat, M * r * cc = data.length → (M = 1 ∨ 0 < data.length) → r ≤ 10000 → M * (r + 2) ≤ 40000 := by
    intro M r cc h hM hr'
    rcases hM with rfl | hM
    · omega
    · have hne : M * r * cc ≠ 0 := by omega
      have hc0 : 0 < cc := Nat.pos_of_ne_zero fun e => hne (by rw [e, Nat.mul_zero])
      have hr0 : 0 < r := Nat.pos_of_ne_zero fun e => hne (by rw [e, Nat.mul_zero, Nat.zero_mul])
      have h1 : M * r * 1 ≤ M * r * cc := Nat.mul_le_mul_left _ hc0
      have h3 : M * 1 ≤ M * r := Nat.mul_le_mul_left _ hr0
      rw [Nat.mul_add]; omega
  have hc3 : s.length = 2 ∨ s.length = 3 ∨ s.length = 4 := by omega
  have hdpos : 2 < s.length → 0 < data.length := fun h => List.length_pos_iff.2 fun e => h0 ⟨h, e⟩
  rcases hc3 with h | h | h
  · obtain ⟨x, y, rfl⟩ := len2 h
    obtain ⟨r, rfl⟩ := toN (hnn x (by simp))
    obtain ⟨cc, rfl⟩ := toN (hnn y (by simp))
    have e : (prodL [(r : Int), (cc : Int)]) = ((1 * r * cc : Nat) : Int) := by simp [prodL, Int.natCast_mul]
    exact key 1 r cc (by rw [e] at hpr; omega) (.inl rfl) (by have := hle (r : Int) (by simp); omega)
  · obtain ⟨x, y, z, rfl⟩ := len3 h
    obtain ⟨a, rfl⟩ := toN (hnn x (by simp))
    obtain ⟨r, rfl⟩ := toN (hnn y (by simp))
    obtain ⟨cc, rfl⟩ := toN (hnn z (by simp))
    have e : (prodL [(a : Int), (r : Int), (cc : Int)]) = ((a * r * cc : Nat) : Int) := by simp [prodL, Int.natCast_mul]
    have hm : manyL [(a : Int), (r : Int), (cc : Int)] = a := by simp [manyL, prodL]
    rw [hm]
    exact key a r cc (by rw [e] at hpr; omega) (.inr (hdpos (by simp))) (by have := hle (r : Int) (by simp); omega)
  · obtain ⟨x, y, z, u, rfl⟩ := len4 h
    obtain ⟨a, rfl⟩ := toN (hnn x (by simp))
    obtain ⟨b, rfl⟩ := toN (hnn y (by simp))
    obtain ⟨r, rfl⟩ := toN (hnn z (by simp))
    obtain ⟨cc, rfl⟩ := toN (hnn u (by simp))
    have e : (prodL [(a : Int), (b : Int), (r : Int), (cc : Int)]) = ((a * b * r * cc : Nat) : Int) := by simp [prodL, Int.natCast_mul]
    have hm : manyL [(a : Int), (b : Int), (r : Int), (cc : Int)] = a * b := by simp only [manyL, prodL]; simp; rw [← Int.natCast_mul]; rfl
    rw [hm]
    exact key (a * b) r cc (by rw [e] at hpr; omega) (.inr (hdpos (by simp))) (by have := hle (r : Int) (by simp); omega)
theorem aw1 : numL (-5) = [194, 175, 53] := by decide +kernel
theorem aw2 : linesL false [3] [1, -2, 3] = [[49, 32, 194, 175, 50, 32, 51]] := by decide +kernel
theorem aw3 : linesL false [2, 2] [1, 20, -3, 4] = [[32, 49, 32, 50, 48], [194, 175, 51, 32, 32, 52]] := by decide +kernel
theorem aw4 : rightL false [3] [1, -2, 3] := by decide +kernel
theorem aw5 : rightL false [2, 2] [1, 20, -3, 4] := by decide +kernel
theorem num05_any (A : Option Addr) (n c : Nat) (B : Option Addr) (m d : Nat) (w : World) : Calls Tryd.prog 12 #[.slice A n c, .slice B m d] w fun e w' => e = .returned (.agg #[.bool false, .slice A n c, .slice B m d]) ∧ Below w.heap.size w w' := by
  have HB := Lib.hid (fun o => (Below.refl w.heap.size w).alloc (Nat.le_refl _) o)
  go_enter Tryd.func12, Tryd.ntmps12
  go_wp2
  exact bodyPost_ret (v := .agg #[.bool false, .slice A n c, .slice B m d]) (by simp [results, Tryd.results12, go_sem]) rfl ⟨rfl, HB.out _⟩
theorem prints05_any (char : Bool) (A : Option Addr) (n c : Nat) (B : Option Addr) (m d : Nat) (s data : List Int) (D D' : Nat → Prop) (w : World) (base : Nat) (v : Value) (l : List (List UInt8)) (hs : Rd w D 1 A n c (intRows .i64 s)) (hd : Rd w D' 1 B m d (intRows .i64 data)) (hi : ∀ x ∈ data, i64 x) (hr : rightL char s data) (ht : Tab w) (hv : Txs w base v l) :
    Calls Tryd.prog 15 #[.agg #[.bool char, .slice A n c, .slice B m d], v] w fun e w' => e = .returned (.bool (decide (linesL char s data = l))) ∧ Below w.heap.size w w' := by
  have HB := Lib.hid (fun o => (Below.refl w.heap.size w).alloc (Nat.le_refl _) o)
  have HR := Lib.hid (fun w2 (hb : Below w.heap.size w w2) => lines05_good char A n c B m d s data D D' w2 (hs.below hb) (hd.below hb) hi hr (ht.below hb))
  have HV := Lib.hid hv
  clear hs hd hi hr ht hv
  go_enter Tryd.func15, Tryd.ntmps15
  go_wp2_with fail
  refine (HR.out _ (HB.out _)).mono ?_
  rintro e w1 ⟨v1, rfl, htx, hb1⟩
  have T1 := Lib.hid htx
  have B1 := Lib.hid ((HB.out _).trans (hb1.mono (HB.out _).size))
  clear htx hb1
  go_wp2_with fail
  refine (ltexts_txs w1 _ _ v1 v _ _ T1.out (HV.out.below B1.out)).mono ?_
  rintro e w2 ⟨rfl, hb2⟩
  obtain ⟨r, hr⟩ : ∃ r, r = decide (linesL char s data = l) := ⟨_, rfl⟩
  rw [← hr]
  have HR2 := Lib.hid hr
  clear hr
  go_wp2
  go_ret
  exact ⟨by rw [← HR2.out]; rfl, B1.out.trans (hb2.mono B1.out.size)⟩
/-- A row of numbers that the call lays. -/
theorem rd_ints (w : World) (k : IntKind) (t : TypeId) (xs : List Int) (cs : Array Value) (hcs : cs = (xs.map (Value.int k)).toArray) (hl : xs.length ≤ 1000) : Rd (w.alloc (.cells cs t)) (fun b => w.heap.size ≤ b) 1 (some ⟨w.heap.size, 0, none⟩) xs.length xs.length (intRows k xs) := by
  have h := World.ownsRow_lit (base := w.heap.size) (e := t) (size := 1) w cs xs.length (Nat.le_refl _) (by unfold maxLen; omega) (by rw [hcs]; simp)
  have e : cs.toList = (intRows k xs).flatten := by
    rw [hcs]
    unfold intRows
    have : ∀ l : List Int, (l.map (Value.int k)) = (l.map fun x => [Value.int k x]).flatten := by
      intro l
      induction l with
      | nil => rfl
      | cons x l ih => simp only [List.map_cons, List.flatten_cons, List.singleton_append]; rw [ih]
    simpa using this xs
  rw [e] at h
  obtain ⟨A, c, hv, hr⟩ := Rd.of_own h (by simp [intRows]) (fun e he => by
    obtain ⟨x, _, rfl⟩ := List.mem_map.1 he
    exact ⟨rfl, by simp [Value.oneCell']⟩)
  injection hv with e1 e2 e3
  subst e1 e3
  exact hr
theorem nb5 : bs (numL (-5)) = ⟨#[194, 175, 53]⟩ := by rw [aw1]; rfl
set_option maxRecDepth 100000 in
set_option maxHeartbeats 1600000 in
theorem awake05_any (w : World) (ht : Tab w) : Calls Tryd.prog 8 #[] w fun e w' => e = .returned (.bool true) ∧ Below w.heap.size w w' := by
  have HT := Lib.hid ht
  clear ht
  go_enter Tryd.func8, Tryd.ntmps8
  go_wp2_with fail
  refine (number05_any (-5) w (by unfold i64; omega) HT.out).mono ?_
  rintro e w1 ⟨rfl, hb1⟩
  rw [nb5]
  have N1 := Lib.hid hb1
  clear hb1
  go_wp2_with fail
  refine (num05_any _ _ _ _ _ _ _).mono ?_
  rintro e w2 ⟨rfl, hb2⟩
  have R2 : Rd w2 (fun b => w1.heap.size ≤ b) 1 (some ⟨w1.heap.size, 0, none⟩) 1 1 (intRows .i64 [3]) := ((rd_ints w1 .i64 3 [3] #[.int .i64 3] rfl (by decide)).below ((Below.refl _ _).alloc (Nat.le_refl _) _)).below hb2
  have Q2 : Rd w2 (fun b => (w1.alloc (.cells #[.int .i64 3] 3)).heap.size ≤ b) 1 (some ⟨(w1.alloc (.cells #[.int .i64 3] 3)).heap.size, 0, none⟩) 3 3 (intRows .i64 [1, (-2), 3]) := (rd_ints (w1.alloc (.cells #[.int .i64 3] 3)) .i64 2 [1, (-2), 3] #[.int .i64 1, .int .i64 (-2), .int .i64 3] rfl (by decide)).below hb2
  rw [show (w1.alloc (.cells #[.int .i64 3] 3)).heap.size = w1.heap.size + 1 by simp] at Q2
  have N2 := Lib.hid (((N1.out.alloc N1.out.size _).alloc (by have := N1.out.size; simp; omega) _).trans (hb2.mono (by have := N1.out.size; simp; omega)))
  have RR := Lib.hid R2
  have QQ := Lib.hid Q2
  clear R2 Q2 hb2
  go_wp2_with fail
  refine (prints05_any false _ 1 1 _ 3 3 [3] [1, (-2), 3] _ _ _ _ _ [[49, 32, 194, 175, 50, 32, 51]] (RR.out.below ((Below.refl _ w2).alloc (Nat.le_refl _) _)) (QQ.out.below ((Below.refl _ w2).alloc (Nat.le_refl _) _)) (by decide) aw4 ((HT.out.below N2.out).below ((Below.refl _ w2).alloc (Nat.le_refl _) _)) (txs_lit w2 w2.heap.size [[49, 32, 194, 175, 50, 32, 51]] #[.string ⟨#[49, 32, 194, 175, 50, 32, 51]⟩] rfl (Nat.le_refl _) (by decide))).mono ?_
  rintro e w3 ⟨rfl, hb3⟩
  rw [decide_eq_true aw2]
  have N3 := Lib.hid ((N2.out.alloc N2.out.size _).trans (hb3.mono (by have := N2.out.size; simp; omega)))
  clear hb3 RR QQ
  go_wp2_with fail
  refine (num05_any _ _ _ _ _ _ _).mono ?_
  rintro e w4 ⟨rfl, hb4⟩
  have R4 : Rd w4 (fun b => w3.heap.size ≤ b) 1 (some ⟨w3.heap.size, 0, none⟩) 2 2 (intRows .i64 [2, 2]) := ((rd_ints w3 .i64 3 [2, 2] #[.int .i64 2, .int .i64 2] rfl (by decide)).below ((Below.refl _ _).alloc (Nat.le_refl _) _)).below hb4
  have Q4 : Rd w4 (fun b => (w3.alloc (.cells #[.int .i64 2, .int .i64 2] 3)).heap.size ≤ b) 1 (some ⟨(w3.alloc (.cells #[.int .i64 2, .int .i64 2] 3)).heap.size, 0, none⟩) 4 4 (intRows .i64 [1, 20, (-3), 4]) := (rd_ints (w3.alloc (.cells #[.int .i64 2, .int .i64 2] 3)) .i64 2 [1, 20, (-3), 4] #[.int .i64 1, .int .i64 20, .int .i64 (-3), .int .i64 4] rfl (by decide)).below hb4
  rw [show (w3.alloc (.cells #[.int .i64 2, .int .i64 2] 3)).heap.size = w3.heap.size + 1 by simp] at Q4
  have N4 := Lib.hid (((N3.out.alloc N3.out.size _).alloc (by have := N3.out.size; simp; omega) _).trans (hb4.mono (by have := N3.out.size; simp; omega)))
  have RR := Lib.hid R4
  have QQ := Lib.hid Q4
  clear R4 Q4 hb4
  go_wp2_with fail
  refine (prints05_any false _ 2 2 _ 4 4 [2, 2] [1, 20, (-3), 4] _ _ _ _ _ [[32, 49, 32, 50, 48], [194, 175, 51, 32, 32, 52]] (RR.out.below ((Below.refl _ w4).alloc (Nat.le_refl _) _)) (QQ.out.below ((Below.refl _ w4).alloc (Nat.le_refl _) _)) (by decide) aw5 ((HT.out.below N4.out).below ((Below.refl _ w4).alloc (Nat.le_refl _) _)) (txs_lit w4 w4.heap.size [[32, 49, 32, 50, 48], [194, 175, 51, 32, 32, 52]] #[.string ⟨#[32, 49, 32, 50, 48]⟩, .string ⟨#[194, 175, 51, 32, 32, 52]⟩] rfl (Nat.le_refl _) (by decide))).mono ?_
  rintro e w5 ⟨rfl, hb5⟩
  rw [decide_eq_true aw3]
  have N5 := Lib.hid ((N4.out.alloc N4.out.size _).trans (hb5.mono (by have := N4.out.size; simp; omega)))
  clear hb5 RR QQ
  go_wp2
  go_ret
  exact ⟨rfl, N5.out⟩
end Go.Proofs.YtjkofndnhmfnoaaDoor
