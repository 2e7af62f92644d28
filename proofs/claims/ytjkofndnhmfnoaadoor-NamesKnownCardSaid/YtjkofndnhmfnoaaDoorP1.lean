/-
  Layer 05 (layout), plain words: a number's text, an element's text, how many signs these have, the lines of an array, its first ones. No program in sight.
-/
import Derived.Lib.ItoaNum
import Derived.Lib.RuneCount
import Derived.Lib.Join
import Derived.Lib.Repeat
import Derived.Stop.FmtQuoteTie
namespace Go.Proofs.YtjkofndnhmfnoaaDoor
open Go Go.Extern.FmtText

/-- A text of bytes. -/
def bs (l : List UInt8) : ByteArray := ⟨l.toArray⟩
theorem bs_app (a b : List UInt8) : bs a ++ bs b = bs (a ++ b) := by
  unfold bs
  rw [ByteArray.ext_iff]
  simp
theorem bs_toList (l : List UInt8) : (bs l).toList = l := by rw [ByteArray.toList_eq]; simp [bs]
theorem bs_get (l : List UInt8) (j : Nat) (h : j < (bs l).size) (h' : j < l.length) : (bs l)[j]'h = l[j] := by
  show (l.toArray)[j]'(by simpa using h') = l[j]
  simp
theorem bs_size (l : List UInt8) : (bs l).size = l.length := by simp [bs, ByteArray.size]
theorem bs_inj {a b : List UInt8} (h : bs a = bs b) : a = b := by
  unfold bs at h
  injection h with h
  simpa using h
/-- A number's text. -/
def numL (n : Int) : List UInt8 := if n < 0 then 194 :: 175 :: Lib.decDigits n.natAbs else Lib.decDigits n.natAbs
/-- An element's text. -/
def elL (char : Bool) (x : Int) : List UInt8 := if char then (Utf8.encode x).data.toList else numL x
/-- How many signs an element has. -/
def wd (char : Bool) (x : Int) : Nat := if char then 1 else (Lib.decDigits x.natAbs).length + if x < 0 then 1 else 0
/-- Is a byte the first of a sign? -/
def lead (b : UInt8) : Bool := b.toNat < 128 || 191 < b.toNat
def signs (l : List UInt8) : Nat := (l.filter lead).length

theorem dec_ascii (n : Nat) : ∀ b ∈ Lib.decDigits n, 48 ≤ b.toNat ∧ b.toNat ≤ 57 := by
  induction n using Nat.strongRecOn with
  | _ n ih =>
    intro b hb
    rw [Lib.decDigits] at hb
    by_cases h : n < 10
    · rw [dif_pos h] at hb
      simp only [List.mem_singleton] at hb
      subst hb
      rw [UInt8.toNat_ofNat']
      omega
    · rw [dif_neg h] at hb
      rcases List.mem_append.1 hb with hb | hb
      · exact ih (n / 10) (by omega) b hb
      · simp only [List.mem_singleton] at hb
        subst hb
        rw [UInt8.toNat_ofNat']
        omega
theorem dec_ne (n : Nat) : 0 < (Lib.decDigits n).length := by
  rw [Lib.decDigits]
  split <;> simp
theorem signs_app (a b : List UInt8) : signs (a ++ b) = signs a + signs b := by simp [signs]
theorem signs_ascii {l : List UInt8} (h : ∀ b ∈ l, b.toNat < 128) : signs l = l.length := by
  unfold signs
  rw [List.filter_eq_self.2 (fun b hb => by have := h b hb; simp [lead, this])]
theorem signs_dec (n : Nat) : signs (Lib.decDigits n) = (Lib.decDigits n).length := signs_ascii fun b hb => by have := dec_ascii n b hb; omega
theorem signs_num (n : Int) : signs (numL n) = wd false n := by
  unfold numL wd
  by_cases h : n < 0
  · rw [if_pos h, if_neg (by decide), if_pos h]
    have e : signs (194 :: 175 :: Lib.decDigits n.natAbs) = 1 + signs (Lib.decDigits n.natAbs) := by
      rw [show (194 :: 175 :: Lib.decDigits n.natAbs : List UInt8) = [194, 175] ++ Lib.decDigits n.natAbs from rfl, signs_app]
      rfl
    rw [e, signs_dec]; omega
  · rw [if_neg h, if_neg (by decide), if_neg h, signs_dec]; rfl
/-- A character that an array may have. -/
def chOk (x : Int) : Prop := 0 ≤ x ∧ x ≤ 1114111 ∧ ¬ (55296 ≤ x ∧ x ≤ 57343)
instance (x : Int) : Decidable (chOk x) := by unfold chOk; exact inferInstance
theorem lead_hi {n : Nat} (h1 : 128 ≤ n) (h2 : n < 192) : lead (UInt8.ofNat n) = false := by
  simp [lead, UInt8.toNat_ofNat']; omega
theorem lead_first {n : Nat} (h1 : 192 ≤ n) (h2 : n < 256) : lead (UInt8.ofNat n) = true := by
  simp [lead, UInt8.toNat_ofNat']; omega
theorem signs_enc {x : Int} (h : chOk x) : signs (Utf8.encode x).data.toList = 1 := by
  obtain ⟨h0, h1, h2⟩ := h
  obtain ⟨r, rfl⟩ : ∃ r : Nat, x = (r : Int) := ⟨x.toNat, by omega⟩
  unfold signs
  by_cases c1 : r < 128
  · rw [enc1 r c1, List.filter_cons, if_pos (by simp only [lead, UInt8.toNat_ofNat', Bool.or_eq_true, decide_eq_true_eq]; omega)]
    rfl
  by_cases c2 : r < 2048
  · rw [enc2 r c1 c2, List.filter_cons, if_pos (lead_first (by omega) (by omega)), List.filter_cons, if_neg (by rw [lead_hi (by omega) (by omega)]; simp)]
    rfl
  by_cases c3 : r < 65536
  · rw [enc3 r c2 c3 (by omega), List.filter_cons, if_pos (lead_first (by omega) (by omega)), List.filter_cons, if_neg (by rw [lead_hi (by omega) (by omega)]; simp), List.filter_cons, if_neg (by rw [lead_hi (by omega) (by omega)]; simp)]
    rfl
  · rw [enc4 r c3 (by omega), List.filter_cons, if_pos (lead_first (by omega) (by omega)), List.filter_cons, if_neg (by rw [lead_hi (by omega) (by omega)]; simp), List.filter_cons, if_neg (by rw [lead_hi (by omega) (by omega)]; simp), List.filter_cons, if_neg (by rw [lead_hi (by omega) (by omega)]; simp)]
    rfl
theorem signs_el {char : Bool} {x : Int} (h : char = true → chOk x) : signs (elL char x) = wd char x := by
  cases char with
  | false => exact signs_num x
  | true => exact signs_enc (h rfl)
/-- Behind a place there are ASCII bytes only: as many runes as bytes. -/
theorem rc_tail (s : ByteArray) (p : Nat) (ha : ∀ (j : Nat) (h : j < s.size), p ≤ j → (s[j]'h).toNat < 128) : ∀ fuel pos, p ≤ pos → s.size ≤ pos + fuel → Lib.runeCountFrom s fuel pos = s.size - pos
  | 0, pos, _, h => by unfold Lib.runeCountFrom; omega
  | f + 1, pos, hp, h => by
    unfold Lib.runeCountFrom
    by_cases hlt : pos < s.size
    · rw [if_pos hlt, decode_ascii s pos hlt (ha pos hlt hp), rc_tail s p ha f (pos + 1) (by omega) (by omega)]
      omega
    · rw [if_neg hlt]; omega
theorem rc_num (n : Int) : Lib.runeCount (bs (numL n)) = wd false n := by
  unfold numL wd
  have hd := dec_ascii n.natAbs
  by_cases h : n < 0
  · rw [if_pos h, if_neg (by decide), if_pos h]
    generalize Lib.decDigits n.natAbs = l at *
    have hz : (bs (194 :: 175 :: l)).size = l.length + 2 := by rw [bs_size]; rfl
    have h0 : Utf8.decode (bs (194 :: 175 :: l)) 0 = (175, 2) := by
      have e0 : (bs (194 :: 175 :: l)).get! 0 = 194 := rfl
      have e1 : (bs (194 :: 175 :: l)).get! 1 = 175 := rfl
      unfold Utf8.decode
      simp [e0, e1, hz]
    unfold Lib.runeCount
    rw [hz, show l.length + 2 = (l.length + 1) + 1 from rfl]
    unfold Lib.runeCountFrom
    rw [if_pos (by omega), h0, rc_tail _ 2 (fun j hj h2 => ?_) _ _ (by simp) (by omega)]
    · omega
    · obtain ⟨i, rfl⟩ : ∃ i, j = i + 2 := ⟨j - 2, by omega⟩
      have hi : i < l.length := by omega
      rw [bs_get _ _ hj (by simpa using hi)]
      show (l[i]).toNat < 128
      have := hd l[i] (List.getElem_mem hi)
      omega
  · rw [if_neg h, if_neg (by decide), if_neg h, Lib.runeCount_ascii _ (fun j hj => ?_), bs_size]; · rfl
    have hi : j < (Lib.decDigits n.natAbs).length := by rw [bs_size] at hj; exact hj
    rw [bs_get _ _ hj hi]
    have := hd _ (List.getElem_mem hi)
    omega
theorem bs_data (s : ByteArray) : bs s.data.toList = s := by cases s; simp [bs]
theorem rc_one (l : List UInt8) (c : Nat) (hl : 0 < l.length) (h : Utf8.decode (bs l) 0 = (c, l.length)) : Lib.runeCount (bs l) = 1 := by
  obtain ⟨k, hk⟩ : ∃ k, l.length = k + 1 := ⟨l.length - 1, by omega⟩
  have hz := bs_size l
  unfold Lib.runeCount
  rw [hz, hk]
  unfold Lib.runeCountFrom
  rw [if_pos (by omega), h, Lib.runeCountFrom_end _ _ _ (by simp only; omega)]
theorem rc_enc {x : Int} (h : chOk x) : Lib.runeCount (Utf8.encode x) = 1 := by
  obtain ⟨h0, h1, h2⟩ := h
  obtain ⟨r, rfl⟩ : ∃ r : Nat, x = (r : Int) := ⟨x.toNat, by omega⟩
  rw [← bs_data (Utf8.encode _)]
  by_cases c1 : r < 128
  · rw [enc1 r c1]
    have e0 : ((bs [UInt8.ofNat r]).get! 0).toNat = r := by show (UInt8.ofNat r).toNat = r; rw [UInt8.toNat_ofNat']; omega
    refine rc_one _ r (by simp) ?_
    unfold Utf8.decode
    simp only [Nat.add_zero, e0]
    rw [if_pos (by omega)]
    rfl
  by_cases c2 : r < 2048
  · rw [enc2 r c1 c2]
    have e0 : ((bs [UInt8.ofNat (192 + r / 64), UInt8.ofNat (128 + r % 64)]).get! 0).toNat = 192 + r / 64 := by show (UInt8.ofNat _).toNat = _; rw [UInt8.toNat_ofNat']; omega
    have e1 : ((bs [UInt8.ofNat (192 + r / 64), UInt8.ofNat (128 + r % 64)]).get! 1).toNat = 128 + r % 64 := by show (UInt8.ofNat _).toNat = _; rw [UInt8.toNat_ofNat']; omega
    have hz : (bs [UInt8.ofNat (192 + r / 64), UInt8.ofNat (128 + r % 64)]).size = 2 := rfl
    refine rc_one _ r (by simp) ?_
    unfold Utf8.decode
    simp only [Nat.add_zero, Nat.zero_add, e0, e1, hz, Bool.and_eq_true, beq_iff_eq, decide_eq_true_eq]
    rw [if_neg (by omega), if_pos (by omega), if_pos (by omega)]
    exact Prod.ext (by simp only; omega) rfl
  by_cases c3 : r < 65536
  · rw [enc3 r c2 c3 (by omega)]
    have e0 : ((bs [UInt8.ofNat (224 + r / 4096), UInt8.ofNat (128 + r / 64 % 64), UInt8.ofNat (128 + r % 64)]).get! 0).toNat = 224 + r / 4096 := by show (UInt8.ofNat _).toNat = _; rw [UInt8.toNat_ofNat']; omega
    have e1 : ((bs [UInt8.ofNat (224 + r / 4096), UInt8.ofNat (128 + r / 64 % 64), UInt8.ofNat (128 + r % 64)]).get! 1).toNat = 128 + r / 64 % 64 := by show (UInt8.ofNat _).toNat = _; rw [UInt8.toNat_ofNat']; omega
    have e2 : ((bs [UInt8.ofNat (224 + r / 4096), UInt8.ofNat (128 + r / 64 % 64), UInt8.ofNat (128 + r % 64)]).get! 2).toNat = 128 + r % 64 := by show (UInt8.ofNat _).toNat = _; rw [UInt8.toNat_ofNat']; omega
    have hz : (bs [UInt8.ofNat (224 + r / 4096), UInt8.ofNat (128 + r / 64 % 64), UInt8.ofNat (128 + r % 64)]).size = 3 := rfl
    have hc : (224 + r / 4096) % 16 * 4096 + (128 + r / 64 % 64) % 64 * 64 + (128 + r % 64) % 64 = r := by omega
    have hv : Utf8.valid ((r : Nat) : Int) = true := by simp [Utf8.valid]; omega
    refine rc_one _ r (by simp) ?_
    unfold Utf8.decode
    simp only [Nat.add_zero, Nat.zero_add, e0, e1, e2, hz, hc, hv, Bool.and_eq_true, beq_iff_eq, decide_eq_true_eq, and_true]
    rw [if_neg (by omega), if_neg (by omega), if_pos (by omega), if_pos (by omega)]
    rfl
  · rw [enc4 r c3 (by omega)]
    have e0 : ((bs [UInt8.ofNat (240 + r / 262144), UInt8.ofNat (128 + r / 4096 % 64), UInt8.ofNat (128 + r / 64 % 64), UInt8.ofNat (128 + r % 64)]).get! 0).toNat = 240 + r / 262144 := by show (UInt8.ofNat _).toNat = _; rw [UInt8.toNat_ofNat']; omega
    have e1 : ((bs [UInt8.ofNat (240 + r / 262144), UInt8.ofNat (128 + r / 4096 % 64), UInt8.ofNat (128 + r / 64 % 64), UInt8.ofNat (128 + r % 64)]).get! 1).toNat = 128 + r / 4096 % 64 := by show (UInt8.ofNat _).toNat = _; rw [UInt8.toNat_ofNat']; omega
    have e2 : ((bs [UInt8.ofNat (240 + r / 262144), UInt8.ofNat (128 + r / 4096 % 64), UInt8.ofNat (128 + r / 64 % 64), UInt8.ofNat (128 + r % 64)]).get! 2).toNat = 128 + r / 64 % 64 := by show (UInt8.ofNat _).toNat = _; rw [UInt8.toNat_ofNat']; omega
    have e3 : ((bs [UInt8.ofNat (240 + r / 262144), UInt8.ofNat (128 + r / 4096 % 64), UInt8.ofNat (128 + r / 64 % 64), UInt8.ofNat (128 + r % 64)]).get! 3).toNat = 128 + r % 64 := by show (UInt8.ofNat _).toNat = _; rw [UInt8.toNat_ofNat']; omega
    have hz : (bs [UInt8.ofNat (240 + r / 262144), UInt8.ofNat (128 + r / 4096 % 64), UInt8.ofNat (128 + r / 64 % 64), UInt8.ofNat (128 + r % 64)]).size = 4 := rfl
    have hc : (240 + r / 262144) % 8 * 262144 + (128 + r / 4096 % 64) % 64 * 4096 + (128 + r / 64 % 64) % 64 * 64 + (128 + r % 64) % 64 = r := by omega
    have hv : Utf8.valid ((r : Nat) : Int) = true := by simp [Utf8.valid]; omega
    refine rc_one _ r (by simp) ?_
    unfold Utf8.decode
    simp only [Nat.add_zero, Nat.zero_add, e0, e1, e2, e3, hz, hc, hv, Bool.and_eq_true, beq_iff_eq, decide_eq_true_eq, and_true]
    rw [if_neg (by omega), if_neg (by omega), if_neg (by omega), if_pos (by omega), if_pos (by omega)]
    rfl
theorem rc_el {char : Bool} {x : Int} (h : char = true → chOk x) : Lib.runeCount (bs (elL char x)) = wd char x := by
  cases char with
  | false => exact rc_num x
  | true => unfold elL wd; rw [if_pos rfl, if_pos rfl, bs_data]; exact rc_enc (h rfl)
end Go.Proofs.YtjkofndnhmfnoaaDoor
