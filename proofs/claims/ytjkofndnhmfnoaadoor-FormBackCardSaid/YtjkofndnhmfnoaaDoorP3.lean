/-
  Layer 05, plain words on reading back: texts of numbers behind blanks (tokL); the lines of an array of numbers are such texts, and hold its elements row by row; the last sign of a line is no blank; lines of a matrix are alike long. No program in sight.
-/
import Derived.Test.YtjkofndnhmfnoaaDoorP2
namespace Go.Proofs.YtjkofndnhmfnoaaDoor
open Go

/-- Numbers, each behind some blanks. -/
def tokL : List (Nat × Int) → List UInt8
  | [] => []
  | (p, x) :: l => padL p ++ (numL x ++ tokL l)
/-- No number touches the one before it. -/
def sepd : List (Nat × Int) → Prop
  | [] => True
  | _ :: l => ∀ t ∈ l, 1 ≤ t.1
def sepT : List (Nat × Int) → List (Nat × Int)
  | [] => []
  | t :: l => t :: l.map fun t => (t.1 + 1, t.2)
theorem sepT_sepd (l : List (Nat × Int)) : sepd (sepT l) := by
  cases l with
  | nil => trivial
  | cons t l =>
    intro u hu
    obtain ⟨v, _, rfl⟩ := List.mem_map.1 hu
    simp
theorem sepT_snd (l : List (Nat × Int)) : (sepT l).map Prod.snd = l.map Prod.snd := by
  cases l with
  | nil => rfl
  | cons t l => simp [sepT, List.map_map, Function.comp_def]
theorem sepT_len (l : List (Nat × Int)) : (sepT l).length = l.length := by
  cases l <;> simp [sepT]
theorem tokL_app (a b : List (Nat × Int)) : tokL (a ++ b) = tokL a ++ tokL b := by
  induction a with
  | nil => rfl
  | cons t a ih => obtain ⟨p, x⟩ := t; simp only [List.cons_append, tokL, ih, List.append_assoc]
theorem join_tok (l : List (Nat × Int)) : Lib.join (l.map fun t => padL t.1 ++ numL t.2) [32] = tokL (sepT l) := by
  cases l with
  | nil => rfl
  | cons t l =>
    obtain ⟨p, x⟩ := t
    have h : ∀ r : List (Nat × Int), Lib.joinTail [32] (r.map fun t => padL t.1 ++ numL t.2) = tokL (r.map fun t => (t.1 + 1, t.2)) := by
      intro r
      induction r with
      | nil => rfl
      | cons u r ih =>
        have e : Lib.joinTail [32] ((padL u.1 ++ numL u.2) :: r.map fun t => padL t.1 ++ numL t.2) = [32] ++ (padL u.1 ++ numL u.2) ++ Lib.joinTail [32] (r.map fun t => padL t.1 ++ numL t.2) := by simp [Lib.joinTail]
        rw [List.map_cons, e, ih, List.map_cons, tokL]
        simp [padL, List.replicate_succ]
    rw [List.map_cons, Lib.join_cons, h]
    simp only [sepT, tokL, List.append_assoc]

/-! ### Decimal digits -/
def valL (l : List UInt8) : Nat := l.foldl (fun a b => 10 * a + (b.toNat - 48)) 0
theorem valL_snoc (l : List UInt8) (b : UInt8) : valL (l ++ [b]) = 10 * valL l + (b.toNat - 48) := by simp [valL, List.foldl_append]
theorem val_dec (n : Nat) : valL (Lib.decDigits n) = n := by
  induction n using Nat.strongRecOn with
  | _ n ih =>
    rw [Lib.decDigits]
    by_cases h : n < 10
    · rw [dif_pos h]
      simp only [valL, List.foldl_cons, List.foldl_nil, UInt8.toNat_ofNat']
      omega
    · rw [dif_neg h, valL_snoc, ih (n / 10) (by omega), UInt8.toNat_ofNat']
      omega
theorem valL_take (l : List UInt8) {j : Nat} {b : UInt8} (h : l[j]? = some b) : valL (l.take (j + 1)) = 10 * valL (l.take j) + (b.toNat - 48) := by
  rw [List.take_add_one, h]
  exact valL_snoc _ _
theorem foldl_val_le (l : List UInt8) : ∀ a : Nat, a ≤ l.foldl (fun a b => 10 * a + (b.toNat - 48)) a := by
  induction l with
  | nil => intro a; exact Nat.le_refl _
  | cons b l ih =>
    intro a
    have := ih (10 * a + (b.toNat - 48))
    rw [List.foldl_cons]
    omega
theorem valL_take_le (l : List UInt8) (j : Nat) : valL (l.take j) ≤ valL l := by
  have e : valL l = valL (l.take j ++ l.drop j) := by rw [List.take_append_drop]
  rw [e]
  unfold valL
  rw [List.foldl_append]
  exact foldl_val_le _ _
theorem dec_last (n : Nat) : ∃ l b, Lib.decDigits n = l ++ [b] ∧ 48 ≤ b.toNat := by
  rw [Lib.decDigits]
  by_cases h : n < 10
  · rw [dif_pos h]
    exact ⟨[], _, rfl, by rw [UInt8.toNat_ofNat']; omega⟩
  · rw [dif_neg h]
    exact ⟨_, _, rfl, by rw [UInt8.toNat_ofNat']; omega⟩
theorem num_last (x : Int) : ∃ l b, numL x = l ++ [b] ∧ 48 ≤ b.toNat := by
  obtain ⟨l, b, e, h⟩ := dec_last x.natAbs
  unfold numL
  split
  · exact ⟨194 :: 175 :: l, b, by rw [e]; rfl, h⟩
  · exact ⟨l, b, e, h⟩
/-- The last sign of a line of numbers is no blank. -/
theorem tok_last {l : List (Nat × Int)} (h : l ≠ []) : ∃ m b, tokL l = m ++ [b] ∧ 48 ≤ b.toNat := by
  induction l with
  | nil => exact absurd rfl h
  | cons t l ih =>
    obtain ⟨p, x⟩ := t
    cases l with
    | nil =>
      obtain ⟨m, b, e, hb⟩ := num_last x
      exact ⟨padL p ++ m, b, by simp [tokL, e], hb⟩
    | cons u l =>
      obtain ⟨m, b, e, hb⟩ := ih (by simp)
      exact ⟨padL p ++ (numL x ++ m), b, by rw [tokL, e]; simp, hb⟩

/-! ### The lines of an array of numbers -/
def rowT (data : List Int) (at' rows cols r : Nat) : List (Nat × Int) :=
  sepT ((List.range cols).map fun c => (wMax false data at' rows cols c - wd false (data.getD (at' + r * cols + c) 0), data.getD (at' + r * cols + c) 0))
theorem row_tok (data : List Int) (at' rows cols r : Nat) : rowL false data at' rows cols r = tokL (rowT data at' rows cols r) := by
  unfold rowL rowT
  rw [← join_tok, List.map_map]
  rfl
theorem flat_tok (data : List Int) : flatL false data = tokL (sepT (data.map fun x => (0, x))) := by
  unfold flatL
  rw [← join_tok, List.map_map]
  rfl
theorem shape_tok (s : List Int) : shapeL s = tokL (sepT (s.map fun x => (0, x))) := by
  unfold shapeL
  rw [← join_tok, List.map_map]
  rfl
def gapT (shape : List Int) (k : Nat) : List (List (Nat × Int)) := (gapL shape k).map fun _ => []
def blockT (s data : List Int) (k : Nat) : List (List (Nat × Int)) := gapT s k ++ (List.range (rowsL s)).map (rowT data (k * rowsL s * colsL s) (rowsL s) (colsL s))
def linesT (s data : List Int) : List (List (Nat × Int)) :=
  if s.length < 2 then [sepT (data.map fun x => (0, x))]
  else if 2 < s.length ∧ data = [] then []
  else ((List.range (manyL s)).map (blockT s data)).flatten
theorem gap_tok (shape : List Int) (k : Nat) : gapL shape k = (gapT shape k).map tokL := by
  unfold gapT gapL
  split
  · rfl
  · split <;> rfl
theorem block_tok (s data : List Int) (k : Nat) : blockL false s data k = (blockT s data k).map tokL := by
  unfold blockL blockT matL
  rw [List.map_append, gap_tok, List.map_map]
  congr 1
  exact List.map_congr_left fun r _ => row_tok data _ _ _ r
theorem lines_tok (s data : List Int) : linesL false s data = (linesT s data).map tokL := by
  unfold linesL linesT
  split
  · rw [flat_tok]; rfl
  · split
    · rfl
    · rw [List.map_flatten, List.map_map]
      congr 1
      exact List.map_congr_left fun k _ => block_tok s data k
theorem rowT_snd (data : List Int) (at' rows cols r : Nat) (h : at' + r * cols + cols ≤ data.length) : (rowT data at' rows cols r).map Prod.snd = (data.drop (at' + r * cols)).take cols := by
  unfold rowT
  rw [sepT_snd, List.map_map]
  refine List.ext_getElem (by simp; omega) fun i h1 h2 => ?_
  have hi : i < cols := by simpa using h1
  simp [List.getD_eq_getElem?_getD, show at' + r * cols + i < data.length by omega]
theorem take_more (l : List Int) (a b c : Nat) : (l.drop a).take b ++ (l.drop (a + b)).take c = (l.drop a).take (b + c) := by
  rw [List.take_add, List.drop_drop]
theorem matT_snd (data : List Int) (at' cols R : Nat) : ∀ rows, at' + rows * cols ≤ data.length → (((List.range rows).map (rowT data at' R cols)).map (·.map Prod.snd)).flatten = (data.drop at').take (rows * cols)
  | 0, _ => by simp
  | rows + 1, h => by
    rw [Nat.add_mul, Nat.one_mul] at h ⊢
    rw [List.range_succ, List.map_append, List.map_append, List.flatten_append, matT_snd data at' cols R rows (by omega), ← take_more]
    congr 1
    simp only [List.map_cons, List.map_nil, List.flatten_cons, List.flatten_nil, List.append_nil]
    exact rowT_snd data at' R cols rows (by omega)
theorem gapT_snd (s : List Int) (k : Nat) : ((gapT s k).map (·.map Prod.snd)).flatten = ([] : List Int) := by
  unfold gapT
  induction gapL s k with
  | nil => rfl
  | cons x l ih => simp only [List.map_cons, List.map_nil, List.flatten_cons, List.nil_append]; exact ih
theorem blocksT_snd (s data : List Int) : ∀ many, many * rowsL s * colsL s ≤ data.length → ((((List.range many).map (blockT s data)).flatten).map (·.map Prod.snd)).flatten = data.take (many * rowsL s * colsL s)
  | 0, _ => by simp
  | many + 1, h => by
    have e : (many + 1) * rowsL s * colsL s = many * rowsL s * colsL s + rowsL s * colsL s := by rw [Nat.add_mul, Nat.one_mul, Nat.add_mul]
    rw [e] at h ⊢
    rw [List.range_succ, List.map_append, List.flatten_append, List.map_append, List.flatten_append, blocksT_snd s data many (by omega)]
    simp only [List.map_cons, List.map_nil, List.flatten_cons, List.flatten_nil, List.append_nil]
    unfold blockT
    rw [List.map_append, List.flatten_append, gapT_snd, List.nil_append, matT_snd data _ _ _ _ (by omega)]
    have := take_more data 0 (many * rowsL s * colsL s) (rowsL s * colsL s)
    simpa using this
theorem prodL_snoc (l : List Int) (x : Int) : prodL (l ++ [x]) = prodL l * x := by simp [prodL, List.foldl_append]
theorem foldl_nn {l : List Int} : (∀ x ∈ l, 0 ≤ x) → ∀ a : Int, 0 ≤ a → 0 ≤ l.foldl (· * ·) a := by
  induction l with
  | nil => intro _ a ha; exact ha
  | cons x l ih =>
    intro h a ha
    rw [List.foldl_cons]
    exact ih (fun y hy => h y (List.mem_cons_of_mem _ hy)) _ (Int.mul_nonneg ha (h x List.mem_cons_self))
theorem prodL_nn {l : List Int} (h : ∀ x ∈ l, 0 ≤ x) : 0 ≤ prodL l := foldl_nn h 1 (by decide)
theorem last_two {s : List Int} (h : 2 ≤ s.length) : ∃ p r c, s = p ++ [r, c] ∧ p = s.take (s.length - 2) := by
  have hd : (s.drop (s.length - 2)).length = 2 := by simp; omega
  match hq : s.drop (s.length - 2), hd with
  | [r, c], _ =>
    refine ⟨s.take (s.length - 2), r, c, ?_, rfl⟩
    rw [← hq, List.take_append_drop]
/-- As many elements as matrices, rows and columns. -/
theorem size_parts {s data : List Int} (h2 : 2 ≤ s.length) (hr : rightL false s data) : manyL s * rowsL s * colsL s = data.length := by
  obtain ⟨p, r, c, e, ep⟩ := last_two h2
  have hnn := fun x hx => (hr.2.1 x hx).1
  have hp : 0 ≤ prodL p := prodL_nn fun x hx => hnn x (by rw [e]; simp [hx])
  have hr0 : 0 ≤ r := hnn r (by rw [e]; simp)
  have hc0 : 0 ≤ c := hnn c (by rw [e]; simp)
  have hl : s.length = p.length + 2 := by rw [e]; simp
  have e1 : manyL s = (prodL p).toNat := by unfold manyL; rw [← ep]
  have e2 : rowsL s = r.toNat := by
    unfold rowsL
    rw [hl, e]
    simp
  have e3 : colsL s = c.toNat := by
    unfold colsL
    rw [hl, e]
    simp
  have hpr := hr.2.2.1
  rw [e, show p ++ [r, c] = (p ++ [r]) ++ [c] by simp, prodL_snoc, prodL_snoc] at hpr
  rw [e1, e2, e3]
  obtain ⟨P, hP⟩ : ∃ P : Nat, prodL p = (P : Int) := ⟨(prodL p).toNat, by omega⟩
  obtain ⟨R, rfl⟩ : ∃ R : Nat, r = (R : Int) := ⟨r.toNat, by omega⟩
  obtain ⟨C, rfl⟩ : ∃ C : Nat, c = (C : Int) := ⟨c.toNat, by omega⟩
  rw [hP] at hpr ⊢
  simp only [Int.toNat_natCast]
  rw [← Int.natCast_mul, ← Int.natCast_mul] at hpr
  exact_mod_cast hpr
/-- The lines hold the elements, row by row. -/
theorem linesT_snd {s data : List Int} (hr : rightL false s data) : ((linesT s data).map (·.map Prod.snd)).flatten = data := by
  unfold linesT
  split
  · simp [sepT_snd, Function.comp_def]
  · rename_i h2
    split
    · rename_i h0
      rw [h0.2]
      rfl
    · have e := size_parts (by omega) hr
      rw [blocksT_snd s data (manyL s) (by omega), e, List.take_length]
theorem rowT_sepd (data : List Int) (at' rows cols r : Nat) : sepd (rowT data at' rows cols r) := sepT_sepd _
theorem linesT_sepd {s data : List Int} : ∀ l ∈ linesT s data, sepd l := by
  intro l hl
  unfold linesT at hl
  split at hl
  · rw [List.mem_singleton] at hl
    subst hl
    exact sepT_sepd _
  · split at hl
    · cases hl
    · obtain ⟨b, hb, hl⟩ := List.mem_flatten.1 hl
      obtain ⟨k, _, rfl⟩ := List.mem_map.1 hb
      unfold blockT at hl
      rcases List.mem_append.1 hl with hl | hl
      · unfold gapT at hl
        obtain ⟨_, _, rfl⟩ := List.mem_map.1 hl
        trivial
      · obtain ⟨r, _, rfl⟩ := List.mem_map.1 hl
        exact sepT_sepd _
theorem join_signs {a b : List (List UInt8)} {sep : List UInt8} (h : a.map signs = b.map signs) : signs (Lib.join a sep) = signs (Lib.join b sep) := by
  have aux : ∀ a b : List (List UInt8), a.map signs = b.map signs → signs (Lib.joinTail sep a) = signs (Lib.joinTail sep b) := by
    intro a
    induction a with
    | nil =>
      intro b h
      cases b with
      | nil => rfl
      | cons y b => simp at h
    | cons x a ih =>
      intro b h
      cases b with
      | nil => simp at h
      | cons y b =>
        simp only [List.map_cons, List.cons.injEq] at h
        have e : ∀ (z : List UInt8) (r : List (List UInt8)), Lib.joinTail sep (z :: r) = sep ++ z ++ Lib.joinTail sep r := fun z r => by simp [Lib.joinTail]
        rw [e, e, signs_app, signs_app, signs_app, signs_app, h.1, ih b h.2]
  cases a with
  | nil =>
    cases b with
    | nil => rfl
    | cons y b => simp at h
  | cons x a =>
    cases b with
    | nil => simp at h
    | cons y b =>
      simp only [List.map_cons, List.cons.injEq] at h
      rw [Lib.join_cons, Lib.join_cons, signs_app, signs_app, h.1, aux a b h.2]
theorem signs_pad (n : Nat) : signs (padL n) = n := by
  unfold padL
  rw [signs_ascii (fun b hb => by rw [(List.mem_replicate.1 hb).2]; decide), List.length_replicate]
/-- Lines of a matrix are alike long. -/
theorem row_signs {data : List Int} {at' rows cols r q : Nat} (hr : r < rows) (hq : q < rows) : signs (rowL false data at' rows cols r) = signs (rowL false data at' rows cols q) := by
  unfold rowL
  refine join_signs ?_
  rw [List.map_map, List.map_map]
  refine List.map_congr_left fun c _ => ?_
  have h : ∀ r, r < rows → signs (cellL false data at' rows cols r c) = wMax false data at' rows cols c := by
    intro r hr
    have := wMax_ge (char := false) (data := data) (f := at') (cols := cols) (c := c) hr
    unfold cellL
    rw [signs_app, signs_pad, signs_el (fun h => by cases h)]
    omega
  simp only [Function.comp_apply]
  rw [h r hr, h q hq]
theorem lines_signs {s data : List Int} (h2 : s.length = 2) {i : Nat} {a b : List UInt8} (ha : (linesL false s data)[i]? = some a) (hb : (linesL false s data)[0]? = some b) : signs a = signs b := by
  unfold linesL at ha hb
  rw [if_neg (by omega), if_neg (by omega)] at ha hb
  have hm : manyL s = 1 := by unfold manyL; rw [h2]; rfl
  rw [hm] at ha hb
  have e : ((List.range 1).map (blockL false s data)).flatten = matL false data (0 * rowsL s * colsL s) (rowsL s) (colsL s) := by
    simp [blockL, gapL]
  rw [e] at ha hb
  unfold matL at ha hb
  rw [List.getElem?_map] at ha hb
  obtain ⟨r, hr, rfl⟩ := Option.map_eq_some_iff.1 ha
  obtain ⟨q, hq, rfl⟩ := Option.map_eq_some_iff.1 hb
  have hr' := List.mem_range.1 (List.mem_of_getElem? hr)
  have hq' := List.mem_range.1 (List.mem_of_getElem? hq)
  exact row_signs hr' hq'
end Go.Proofs.YtjkofndnhmfnoaaDoor
