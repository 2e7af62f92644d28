/-
  Layer 21 (anamnesislaw21): awake: contract.
-/
import Derived.Test.YtjkofndnhmfnoaaN16
namespace Go.Proofs.Ytjkofndnhmfnoaa
open Go Go.RowKit

/-- A row of numbers that the call lays. -/
theorem rd_nums (w : World) (k : IntKind) (t : TypeId) (xs : List Int) (cs : Array Value) (hcs : cs = (xs.map (Value.int k)).toArray) (hl : xs.length ≤ 1000) : Rd (w.alloc (.cells cs t)) (fun b => w.heap.size ≤ b) 1 (some ⟨w.heap.size, 0, none⟩) xs.length xs.length (intRows k xs) := by
  have h := World.ownsRow_lit (base := w.heap.size) (e := t) (size := 1) w cs xs.length (Nat.le_refl _) (by unfold maxLen; omega) (by rw [hcs]; simp)
  have e : cs.toList = (intRows k xs).flatten := by
    rw [hcs]
    unfold intRows
    have : ∀ l : List Int, (l.map (Value.int k)) = (l.map fun x => [Value.int k x]).flatten := by
      intro l
      induction l with
      | nil => rfl
      | cons x l ih => simp only [List.map_cons, List.flatten_cons, List.singleton_append]; rw [ih]
    simpa using this xs
  rw [e] at h
  obtain ⟨A, c, hv, hr⟩ := Rd.of_own h (by simp [intRows]) (fun e he => by
    obtain ⟨x, _, rfl⟩ := List.mem_map.1 he
    exact ⟨rfl, by simp [Value.oneCell']⟩)
  injection hv with e1 e2 e3
  subst e1 e3
  exact hr
set_option maxRecDepth 100000 in
theorem stop_none (own D : Nat → Prop) (r : Nat) (s : St) (name : ByteArray) (w : World) (h : SS w own D r s) (hk : name.size ≤ 900000) (hd : (s.look (pkey name)).kind ≠ 1) :
    Calls Try.prog 19 #[.pointer (some ⟨r, 0, none⟩), .string name] w fun e w' => e = .returned (.slice none 0 0) ∧ Below w.heap.size w w' := by
  have HS := Lib.hid (lines_none own D r s (pkey name) w h (by rw [pkey_size]; omega) hd)
  have HPK : RowKit.Hid ((⟨#[112, 47]⟩ : ByteArray) ++ name = pkey name) := rfl
  have hsz : ¬ 9223372036854775807 < 2 + name.size := by omega
  clear h hd
  go_enter Try.func19, Try.ntmps19
  go_wp2_with fail
  rw [HPK.out]
  refine HS.out.mono ?_
  rintro e w1 ⟨rfl, h2⟩
  have H2 := Lib.hid h2
  clear h2 HS
  go_wp2
  go_ret
  exact ⟨rfl, H2.out⟩
set_option maxRecDepth 100000 in
theorem trace_none (own D : Nat → Prop) (r : Nat) (s : St) (name : ByteArray) (w : World) (h : SS w own D r s) (hk : name.size ≤ 900000) (hd : (s.look (tkey name)).kind ≠ 1) :
    Calls Try.prog 18 #[.pointer (some ⟨r, 0, none⟩), .string name] w fun e w' => e = .returned (.slice none 0 0) ∧ Below w.heap.size w w' := by
  have HS := Lib.hid (lines_none own D r s (tkey name) w h (by rw [tkey_size]; omega) hd)
  have HPK : RowKit.Hid ((⟨#[116, 47]⟩ : ByteArray) ++ name = tkey name) := rfl
  have hsz : ¬ 9223372036854775807 < 2 + name.size := by omega
  clear h hd
  go_enter Try.func18, Try.ntmps18
  go_wp2_with fail
  rw [HPK.out]
  refine HS.out.mono ?_
  rintro e w1 ⟨rfl, h2⟩
  have H2 := Lib.hid h2
  clear h2 HS
  go_wp2
  go_ret
  exact ⟨rfl, H2.out⟩
set_option maxRecDepth 100000 in
set_option maxHeartbeats 4000000 in
theorem awake21_any (w : World) : Calls Try.prog 5 #[] w fun e w' => e = .returned (.bool true) ∧ Below w.heap.size w w' := by
  have ZF : nF.size ≤ 1000 := by decide
  have ZG : nG.size ≤ 1000 := by decide
  have HNF : RowKit.Hid ((⟨#[70]⟩ : ByteArray) = nF) := rfl
  have HNG : RowKit.Hid ((⟨#[71]⟩ : ByteArray) = nG) := rfl
  go_enter Try.func5, Try.ntmps5
  go_wp2_with fail
  refine (cNew_any (fun _ => False) wk0.T w (fun _ h => h.elim)).mono ?_
  rintro e w1 ⟨rfl, hs1, hb1⟩
  have S1 : RowKit.Hid (SS w1 (fun b => w.heap.size ≤ b ∧ b ≤ w.heap.size + 2) (fun _ => False) (w.heap.size + 2) wk0) := hs1
  have B1 := Lib.hid hb1
  obtain ⟨r, hr⟩ : ∃ r, r = w.heap.size + 2 := ⟨_, rfl⟩
  rw [← hr] at S1 ⊢
  obtain ⟨own, hown⟩ : ∃ own : Nat → Prop, own = (fun b => w.heap.size ≤ b ∧ b ≤ r) := ⟨_, rfl⟩
  rw [← hown] at S1
  have HO : RowKit.Hid (∀ b, own b → w.heap.size ≤ b) := fun b hb => by rw [hown] at hb; exact hb.1
  clear hs1 hb1 hr hown
  go_wp2_with fail
  refine (fix_ok _ _ _ wk0 nF w1 S1.out (by decide) (by decide) (by simp [wk0]) nF_name (by decide) (by decide) (.inl ⟨wk0_F, wk0_len⟩) (by rw [wk0_last]; decide)).mono ?_
  rintro e w2 ⟨rfl, own2, s2, g2⟩
  have S2 : RowKit.Hid (SS w2 own2 (fun _ => False) r wk1) := s2
  have G2 := Lib.hid g2
  clear s2 g2 S1
  go_wp2_with fail
  refine (fix_ok _ _ _ wk1 nG w2 S2.out (by decide) (Nat.le_trans wk1_K (by decide)) wk1_z nG_name (Nat.le_trans wk1_G (by decide)) (Nat.le_trans wk1_K (by decide)) (.inl ⟨wk1_G0, wk1_len⟩) (by rw [wk1_last]; decide)).mono ?_
  rintro e w3 ⟨rfl, own3, s3, g3⟩
  have S3 : RowKit.Hid (SS w3 own3 (fun _ => False) r wk2) := s3
  have G3 := Lib.hid (G2.out.trans g3)
  clear s3 g3 S2 G2
  go_wp2_with fail
  refine (setStop_ok own3 (fun _ => False) _ r wk2 nF _ 3 [3, 1, 3] _ (SK.below S3.out ((Below.refl _ _).alloc (Nat.le_refl _) _)) (by decide) (Nat.le_trans wk2_G (by decide)) (Nat.le_trans wk2_K (by decide)) nF_name wk2_F (by decide) (by decide) (by decide) (rd_nums w3 .i64 3 [3, 1, 3] _ rfl (by decide))).mono ?_
  rintro e w4 ⟨rfl, own4, D4, s4, g4⟩
  have S4 : RowKit.Hid (SS w4 own4 D4 r wk3) := s4
  have G4 := Lib.hid (G3.out.trans ((Grow.below ((Below.refl _ w3).alloc (Nat.le_refl _) _)).trans g4))
  have B4 := Lib.hid (B1.out.trans (G4.out.chg.below B1.out.size HO.out))
  clear s4 g4 S3 G3 G4
  go_wp2_with fail
  refine (getN_any _ _ _ wk3.K wk3.T wk3.G nF w4 S4.out (by decide)).mono ?_
  rintro e w5 ⟨ts, rfl, ht, hb5⟩
  obtain ⟨t, htt⟩ : ∃ t, t = getN wk3.K wk3.T nF := ⟨_, rfl⟩
  rw [← htt] at ht
  have hv : t.f.version = 1 := by rw [htt]; exact wk3_F
  obtain ⟨A1, n1, c1, A2, n2, c2, A3, n3, c3, A4, n4, c4, A5, n5, c5, rfl⟩ := ht.full
  rw [hv]
  have f1 := field_func w5 t.kind t.n 1 t.v.char A1 A2 A3 A4 A5 n1 c1 n2 c2 n3 c3 n4 c4 n5 c5 t.f.name t.f.result t.f.left t.f.right t.s
  have f2 := field_ver w5 1 A3 A4 n3 c3 n4 c4 t.f.name t.f.result t.f.left t.f.right
  have S5 := Lib.hid (SK.below S4.out hb5)
  have B5 := Lib.hid (B4.out.trans (hb5.mono B4.out.size))
  clear ht hv htt hb5 S4 B4
  go_wp2_with fail
  refine (getN_any _ _ _ wk3.K wk3.T wk3.G nG w5 S5.out (by decide)).mono ?_
  rintro e w6 ⟨us, rfl, hu, hb6⟩
  obtain ⟨u, huu⟩ : ∃ u, u = getN wk3.K wk3.T nG := ⟨_, rfl⟩
  rw [← huu] at hu
  have hv : u.f.version = 2 := by rw [huu]; exact wk3_G
  obtain ⟨X1, x1, d1, X2, x2, d2, X3, x3, d3, X4, x4, d4, X5, x5, d5, rfl⟩ := hu.full
  rw [hv]
  have f3 := field_func w6 u.kind u.n 2 u.v.char X1 X2 X3 X4 X5 x1 d1 x2 d2 x3 d3 x4 d4 x5 d5 u.f.name u.f.result u.f.left u.f.right u.s
  have f4 := field_ver w6 2 X3 X4 x3 d3 x4 d4 u.f.name u.f.result u.f.left u.f.right
  have S6 := Lib.hid (SK.below S5.out hb6)
  have B6 := Lib.hid (B5.out.trans (hb6.mono B5.out.size))
  clear hu hv huu hb6 S5 B5
  go_wp2_with fail
  have HST := Lib.hid (stop_good own4 D4 r wk3 nF w6 S6.out (by decide) (by rw [wk3_p]; rfl) (by rw [wk3_p]; rfl) (by rw [wk3_p]; rfl) (by rw [wk3_p]; decide) (by rw [wk3_p]; decide))
  rw [wk3_p] at HST
  refine HST.out.mono ?_
  rintro e w7 ⟨A7, c7, rfl, hr7, hb7⟩
  have R7 : RowKit.Hid (Rd w7 (fun b => w6.heap.size ≤ b) 1 A7 2 c7 (intRows .i64 [1, 3])) := hr7
  have S7 := Lib.hid (SK.below S6.out hb7)
  have B7 := Lib.hid (B6.out.trans (hb7.mono B6.out.size))
  clear hr7 hb7 S6 B6 HST
  go_wp2_with fail
  refine (ints21_any A7 _ 2 c7 2 2 [1, 3] [1, 3] _ _ _ (R7.out.below ((Below.refl _ w7).alloc (Nat.le_refl _) _)) (rd_nums w7 .i64 3 [1, 3] _ rfl (by decide)) true (by decide)).mono ?_
  rintro e w8 ⟨rfl, hb8⟩
  have Y8 := Lib.hid (((Below.refl w7.heap.size w7).alloc (Nat.le_refl _) (.cells #[.int .i64 1, .int .i64 3] 3)).trans (hb8.mono (by simp)))
  have S8 := Lib.hid (SK.below S7.out Y8.out)
  have B8 := Lib.hid (B7.out.trans (Y8.out.mono B7.out.size))
  clear hb8 S7 B7 R7
  go_wp2_with fail
  refine (trace_none own4 D4 r wk3 nF w8 S8.out (by decide) (by rw [wk3_t]; decide)).mono ?_
  rintro e w9 ⟨rfl, hb9⟩
  have B9 := Lib.hid (B8.out.trans (hb9.mono B8.out.size))
  clear hb9 S8 B8
  go_wp2
  go_ret
  exact ⟨rfl, B9.out⟩
end Go.Proofs.Ytjkofndnhmfnoaa
