/-
  Layer 20 (anamnesisref20): Digits: contract; plain words for FnsKnown: what its stores have.
-/
import Derived.Test.YtjkofndnhmfnoaaN19
import Derived.Test.YtjkofndnhmfnoaaN20
namespace Go.Proofs.Ytjkofndnhmfnoaa
open Go Go.RowKit

/-- A depth's three digits. -/
def d3 (n : Int) : ByteArray := ⟨#[UInt8.ofNat (48 + n / 100).toNat, UInt8.ofNat (48 + n / 10 % 10).toNat, UInt8.ofNat (48 + n % 10).toNat]⟩
theorem byteIn (a : Int) (h0 : 0 ≤ a) (h1 : a ≤ 255) : IntKind.u8.wrap a = a := by
  simp [IntKind.wrap, IntKind.bits, IntKind.signed]
  omega
theorem three_digits (w : World) (n : Int) (h0 : 0 ≤ n) (h1 : n ≤ 999) :
    (convert 22 9 (.slice (some ⟨w.heap.size, 0, none⟩) 3 3)).run Try.prog (w.alloc (.cells #[.int .u8 (48 + n / 100), .int .u8 (48 + n / 10 % 10), .int .u8 (48 + n % 10)] 5)) = .ok (.string (d3 n)) (w.alloc (.cells #[.int .u8 (48 + n / 100), .int .u8 (48 + n / 10 % 10), .int .u8 (48 + n % 10)] 5)) := by
  have h := run_convert_bytes_back (P := Try.prog) (w.alloc (.cells #[.int .u8 (48 + n / 100), .int .u8 (48 + n / 10 % 10), .int .u8 (48 + n % 10)] 5)) 22 9 5 ⟨w.heap.size, 0, none⟩ 3 [UInt8.ofNat (48 + n / 100).toNat, UInt8.ofNat (48 + n / 10 % 10).toNat, UInt8.ofNat (48 + n % 10).toNat] Try.underlying22 Try.underlying5 Try.underlying9 (fun j hj => by
    have e : (⟨w.heap.size, 0, none⟩ : Addr).add j = ⟨w.heap.size, j, none⟩ := by unfold Addr.add; split <;> simp_all
    rw [e, World.cell?_alloc_mark]
    match j, hj with
    | 0, _ =>
      show _ = some (Value.int .u8 ((UInt8.ofNat (48 + n / 100).toNat).toNat : Int))
      rw [u8_back _ (by omega) (by omega)]
      rfl
    | 1, _ =>
      show _ = some (Value.int .u8 ((UInt8.ofNat (48 + n / 10 % 10).toNat).toNat : Int))
      rw [u8_back _ (by omega) (by omega)]
      rfl
    | 2, _ =>
      show _ = some (Value.int .u8 ((UInt8.ofNat (48 + n % 10).toNat).toNat : Int))
      rw [u8_back _ (by omega) (by omega)]
      rfl)
  exact h
set_option maxRecDepth 100000 in
theorem digits20_any (n : Int) (w : World) (h0 : 0 ≤ n) (h1 : n ≤ 999) : Calls Try.prog 15 #[.int .i64 n] w fun e w' => e = .returned (.string (d3 n)) ∧ Below w.heap.size w w' := by
  have hcv := three_digits w n h0 h1
  have w1 := byteIn (48 + n / 100) (by omega) (by omega)
  have w2 := byteIn (48 + n / 10 % 10) (by omega) (by omega)
  have w3 := byteIn (48 + n % 10) (by omega) (by omega)
  have HB := Lib.hid (fun (w : World) o => (Below.refl w.heap.size w).alloc (Nat.le_refl _) o)
  go_enter Try.func15, Try.ntmps15
  go_wp2
  go_ret
  exact ⟨rfl, HB.out _ _⟩

/-! ### The stores of FnsKnown -/
/-- A store in memory, whatever it owns. -/
structure KS (w0 wr : World) (r : Nat) (s : St) : Prop where
  ex : ∃ own D, SS wr own D r s ∧ ∀ b, own b → w0.heap.size ≤ b
  below : Below w0.heap.size w0 wr
theorem KS.on {w0 wr w2 : World} {r : Nat} {s : St} (h : KS w0 wr r s) (hb : Below wr.heap.size wr w2) : KS w0 w2 r s := by
  obtain ⟨own, D, h1, h2⟩ := h.ex
  exact ⟨⟨own, D, SK.below h1 hb, h2⟩, h.below.trans (hb.mono h.below.size)⟩
theorem KS.afterD {w0 wr w2 : World} {r : Nat} {s s' : St} {own : Nat → Prop} (h : KS w0 wr r s) (hn : ∀ b, own b → w0.heap.size ≤ b) (ha : AfterD wr w2 own r s') : KS w0 w2 r s' := by
  obtain ⟨own', D', h1, h2⟩ := ha
  refine ⟨⟨own', D', h1, fun b hb => ?_⟩, h.below.trans (h2.chg.below h.below.size hn)⟩
  rcases h2.new b hb with h3 | h3
  · exact hn b h3
  · exact Nat.le_trans h.below.size h3
theorem KS.after {w0 wr w2 : World} {r : Nat} {s s' : St} {own D : Nat → Prop} (h : KS w0 wr r s) (hn : ∀ b, own b → w0.heap.size ≤ b) (ha : After wr w2 own D r s') : KS w0 w2 r s' := by
  obtain ⟨own', h1, h2⟩ := ha
  exact h.afterD hn ⟨own', D, h1, h2⟩
theorem St.name_eq (s : St) (x : ByteArray) : s.name x = if bindsB (s.look (vkey x)).kind = true then s.look (vkey x) else tz := rfl
theorem St.name_of {s : St} {x : ByteArray} (h : bindsB (s.look (vkey x)).kind = true) : s.name x = s.look (vkey x) := by rw [St.name_eq, if_pos h]
theorem St.name_same {s s' : St} {x : ByteArray} (h : s'.look (vkey x) = s.look (vkey x)) : s'.name x = s.name x := by rw [St.name_eq, St.name_eq, h]

def nX : ByteArray := ⟨#[88]⟩
def nL : ByteArray := ⟨#[76]⟩
def nQ : ByteArray := ⟨#[63]⟩
def nY : ByteArray := ⟨#[89]⟩
def sc5 : TD := valT ⟨false, [], [5]⟩
def kw1 : St := wk0.put (vkey nX) sc5
def kw2 : St := kw1.bind nL (numT 3 0)
def kw3 : St := kw2.erase nX
theorem nX_name : nameB nX = true := by decide +kernel
theorem nL_name : nameB nL = true := by decide +kernel
theorem nQ_name : nameB nQ = false := by decide +kernel
theorem wk0_X : (wk0.name nX).kind = 0 := by decide +kernel
theorem kw1_K : kw1.K.length ≤ 1000 := by decide +kernel
theorem kw1_G : kw1.G.length ≤ 1000 := by decide +kernel
theorem kw2_K : kw2.K.length ≤ 1000 := by decide +kernel
theorem kw2_G : kw2.G.length ≤ 1000 := by decide +kernel
theorem kw2_z : ∀ k ∈ kw2.K, k.size ≤ 1000000 := by decide +kernel
theorem kw2_X : (kw2.name nX).kind = 1 := by decide +kernel
theorem kw2_L : (kw2.name nL).kind = 3 := by decide +kernel
theorem kw3_X : (kw3.name nX).kind = 0 := by decide +kernel
theorem kw3_L : (kw3.name nL).kind = 3 := by decide +kernel
theorem kw3_Y : (kw3.name nY).kind = 0 := by decide +kernel
theorem kw3_ris : RisS kw3.K := by unfold RisS; decide +kernel
theorem kw3_last : lastV kw3 = 0 := by decide +kernel
theorem kw3_K : kw3.K.length ≤ 30 := by decide +kernel
theorem kw3_G : kw3.G.length ≤ 30 := by decide +kernel
theorem kw3_z : ∀ k ∈ kw3.K, k.size ≤ 1000 := by decide +kernel
theorem kw2_eq : kw2 = kw1.put (vkey nL) (numT 3 0) := rfl
theorem kw3_look (x : ByteArray) : (kw3.look (vkey x)).kind = 0 ∨ (x = nL ∧ (kw3.look (vkey x)).kind = 3) := by
  by_cases hX : x = nX
  · subst hX
    left
    unfold kw3
    rw [erase_look]
    rfl
  · unfold kw3
    rw [erase_other _ hX, kw2_eq]
    by_cases hL : x = nL
    · subst hL
      right
      rw [St.look_put]
      exact ⟨rfl, rfl⟩
    · left
      rw [St.look_put_other _ _ _ (fun e => hL (vkey_inj e))]
      unfold kw1
      rw [St.look_put_other _ _ _ (fun e => hX (vkey_inj e))]
      rfl
theorem kw3_FM : FM nL kw3 [] 0 10 := by
  refine ⟨List.Pairwise.nil, kw3_ris, fun x => ?_, fun x => ?_, by simp, kw3_last, by decide, by decide, kw3_K, kw3_G, kw3_z⟩
  · exact .inr (kw3_look x)
  · rcases kw3_look x with h | ⟨_, h⟩ <;> rw [h] <;> simp
/-- The names of the fifty functions. -/
def dn (n : Int) : ByteArray := ⟨#[70]⟩ ++ d3 n
theorem dn_all : ∀ i : Fin 50, nameB (dn (i.val : Int)) = true := by decide +kernel
theorem dn_ne : ∀ i j : Fin 50, dn (i.val : Int) = dn (j.val : Int) → i = j := by decide +kernel
theorem dn_name {i : Nat} (h : i < 50) : nameB (dn (i : Int)) = true := dn_all ⟨i, h⟩
theorem dn_inj {i j : Nat} (hi : i < 50) (hj : j < 50) (h : dn (i : Int) = dn (j : Int)) : i = j := congrArg Fin.val (dn_ne ⟨i, hi⟩ ⟨j, hj⟩ h)
theorem dn_size (n : Int) : (dn n).size = 4 := by
  unfold dn d3
  rw [ByteArray.size_append]
  rfl
/-- The names of the first functions. -/
structure DH (H : List ByteArray) (i : Nat) : Prop where
  mem : ∀ x, x ∈ H ↔ ∃ j, j < i ∧ x = dn (j : Int)
  len : H.length = i
theorem DH.zero : DH [] 0 := ⟨fun x => ⟨fun h => by simp at h, fun ⟨j, h, _⟩ => absurd h (by omega)⟩, rfl⟩
theorem DH.out {H : List ByteArray} {i : Nat} (h : DH H i) (hi : i < 50) : ¬ dn (i : Int) ∈ H := fun hm => by
  obtain ⟨j, hj, e⟩ := (h.mem _).1 hm
  have := dn_inj hi (by omega) e
  omega
theorem DH.next {H : List ByteArray} {i : Nat} (h : DH H i) (hi : i < 50) : DH (insKS (dn (i : Int)) H) (i + 1) := by
  refine ⟨fun x => ?_, by rw [insKS_out (h.out hi), h.len]⟩
  rw [mem_insKS, h.mem]
  constructor
  · rintro (rfl | ⟨j, hj, rfl⟩)
    · exact ⟨i, by omega, rfl⟩
    · exact ⟨j, by omega, rfl⟩
  · rintro ⟨j, hj, rfl⟩
    by_cases e : j = i
    · left; rw [e]
    · exact .inr ⟨j, by omega, rfl⟩
theorem dn_short {x : ByteArray} (h : x.size = 1) {H : List ByteArray} {i : Nat} (hd : DH H i) : ¬ x ∈ H := fun hm => by
  obtain ⟨j, _, e⟩ := (hd.mem x).1 hm
  have := dn_size (j : Int)
  rw [← e, h] at this
  cases this
theorem dn_L (n : Int) : dn n ≠ nL := fun e => by
  have := dn_size n
  rw [e] at this
  cases this
def n000 : ByteArray := ⟨#[70, 48, 48, 48]⟩
def n007 : ByteArray := ⟨#[70, 48, 48, 55]⟩
theorem dn0 : dn ((0 : Nat) : Int) = n000 := by decide +kernel
theorem dn7 : dn ((7 : Nat) : Int) = n007 := by decide +kernel
theorem n000_name : nameB n000 = true := by decide +kernel
theorem n007_name : nameB n007 = true := by decide +kernel
theorem uniqA : uniq21 [100, 2] = [2, 100] := by
  have h : rising21 [100, 2] = [2, 100] := by simp [rising21, List.mergeSort, List.MergeSort.Internal.splitInTwo]
  unfold uniq21
  rw [h]
  decide +kernel
/-- Behind the functions: a trace is set, told, dropped; a stop is set; the function is erased. -/
def ka (s : St) : St := s.put (tkey n000) (lineT (uniq21 [100, 2]))
def kb2 (s : St) : St := (ka s).del (tkey n000)
def kc (s : St) : St := (kb2 s).put (pkey n000) (lineT (uniq21 [4]))
def kd (s : St) : St := (kc s).erase n000
theorem ka_t (s : St) : (ka s).look (tkey n000) = lineT [2, 100] := by
  unfold ka
  rw [St.look_put, uniqA]
theorem ka_n (s : St) : (ka s).name n000 = s.name n000 := St.name_same (St.look_put_other _ _ _ (vkey_tkey _ _))
theorem kb_t (s : St) : ((kb2 s).look (tkey n000)).kind = 0 := by
  unfold kb2
  rw [St.look_del]
  rfl
theorem kb_n (s : St) : (kb2 s).name n000 = s.name n000 := (St.name_same (St.look_del_other _ _ (vkey_tkey _ _))).trans (ka_n s)
theorem kc_n (s : St) : (kc s).name n000 = s.name n000 := (St.name_same (St.look_put_other _ _ _ (vkey_pkey _ _))).trans (kb_n s)
theorem pkey_tkey (x y : ByteArray) : pkey x ≠ tkey y := fun h => by
  have h1 := congrArg (fun z => z.data.toList) h
  simp [pkey, tkey, ByteArray.data_append] at h1
theorem kd_p (s : St) : ((kd s).look (pkey n000)).kind = 0 := by
  unfold kd St.erase
  rw [St.look_del_other _ _ (Ne.symm (vkey_pkey _ _)), St.look_del_other _ _ (pkey_tkey _ _), St.look_del]
  rfl
theorem ka_sizes {s : St} (hK : s.K.length ≤ 1000) (hG : s.G.length ≤ 1000) : (ka s).K.length ≤ 1001 ∧ (ka s).G.length ≤ 1001 := by
  have h1 := insKS_len (tkey n000) s.K
  have h2 := touchG_len s.K s.T s.G (tkey n000)
  exact ⟨Nat.le_trans h1 (by omega), Nat.le_trans h2 (by omega)⟩
theorem kb_sizes {s : St} (hK : s.K.length ≤ 1000) (hG : s.G.length ≤ 1000) : (kb2 s).K.length ≤ 1001 ∧ (kb2 s).G.length ≤ 1002 := by
  obtain ⟨h1, h2⟩ := ka_sizes hK hG
  have h3 := dropG_len (ka s).K (ka s).T (ka s).G (tkey n000)
  exact ⟨Nat.le_trans (List.length_filter_le _ _) h1, Nat.le_trans h3 (by omega)⟩
theorem kc_sizes {s : St} (hK : s.K.length ≤ 1000) (hG : s.G.length ≤ 1000) : (kc s).K.length ≤ 1002 ∧ (kc s).G.length ≤ 1003 := by
  obtain ⟨h1, h2⟩ := kb_sizes hK hG
  have h3 := insKS_len (pkey n000) (kb2 s).K
  have h4 := touchG_len (kb2 s).K (kb2 s).T (kb2 s).G (pkey n000)
  exact ⟨Nat.le_trans h3 (by omega), Nat.le_trans h4 (by omega)⟩
end Go.Proofs.Ytjkofndnhmfnoaa
