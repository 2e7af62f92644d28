/-
  Layer 21 (fns): Erase: contracts; Bind at no thing. Of any store in memory.
-/
import Derived.Test.YtjkofndnhmfnoaaN3
namespace Go.Proofs.Ytjkofndnhmfnoaa
open Go Go.RowKit

set_option maxRecDepth 100000 in
/-- The kind of a thing that is told. -/
theorem field_kind (w : World) (k n v : Int) (b : Bool) (A1 A2 A3 A4 A5 : Option Addr) (n1 c1 n2 c2 n3 c3 n4 c4 n5 c5 : Nat) (s1 s2 s3 s4 s5 : ByteArray) :
    (Instr.field 39 (.agg #[.int .u8 k, .bool b, .slice A1 n1 c1, .slice A2 n2 c2, .string s1, .string s2, .string s3, .string s4, .slice A3 n3 c3, .slice A4 n4 c4, .int .i64 v, .slice A5 n5 c5, .int .i64 n, .string s5]) 0).run Try.prog w = .ok (.int .u8 k) w := by
  kernel_rfl
set_option maxRecDepth 100000 in
set_option maxHeartbeats 1600000 in
theorem bind_zero (own D : Nat → Prop) (r : Nat) (s : St) (name : ByteArray) (w : World) (h : SS w own D r s) (hk : name.size ≤ 1000000) (hG : s.G.length ≤ 1000000) (hK : s.K.length ≤ 1000000) (hn : nameB name = true) :
    Calls Try.prog 13 #[.pointer (some ⟨r, 0, none⟩), .string name, .agg (numE 0 0).toArray] w fun e w' => e = .returned (.int .i64 0) ∧ After w w' own D r (s.del (vkey name)) := by
  have HB := Lib.hid (fun o => (Below.refl w.heap.size w).alloc (Nat.le_refl _) o)
  have HM : RowKit.Hid (mayE name = 0) := by show _ = _; unfold mayE; rw [if_pos hn]
  have HP := Lib.hid (fun w2 (hb : Below w.heap.size w w2) => put_any own D r s name _ tz w2 (h.below hb) hk hG hK (tz_is w2 D))
  have HBD : RowKit.Hid (s.bind name tz = s.del (vkey name)) := rfl
  unfold numE at HP ⊢
  clear h hG hK hn
  go_enter Try.func13, Try.ntmps13
  go_wp2_with fail
  refine (may_any r name _ hk).mono ?_
  rintro e w1 ⟨rfl, hb1⟩
  rw [HM.out]
  have Z1 := Lib.hid ((hb1.block w.heap.size (by simp)).trans (heap_alloc_new w _))
  have Y1 := Lib.hid ((HB.out _).trans (hb1.mono (HB.out _).size))
  clear hb1
  obtain ⟨y0, y1, y2, y3, y4, y5, y6, y7, y8, y9, y10, y11, y12, y13⟩ := box14 Z1.out
  go_wp2_with fail
  refine (binds_any D (numE 0 0) tz _ (tz_is _ D)).mono ?_
  rintro e w2 ⟨rfl, hb2⟩
  rw [show bindsB tz.kind = false from rfl]
  have Z2 := Lib.hid ((hb2.block _ (lt_of_block Z1.out)).trans Z1.out)
  have Y2 := Lib.hid (Y1.out.trans (hb2.mono Y1.out.size))
  clear hb2 y0 y1 y2 y3 y4 y5 y6 y7 y8 y9 y10 y11 y12 y13
  obtain ⟨y0, y1, y2, y3, y4, y5, y6, y7, y8, y9, y10, y11, y12, y13⟩ := box14 Z2.out
  go_wp2_with fail
  refine (HP.out w2 Y2.out).mono ?_
  rintro e w3 ⟨rfl, ha⟩
  rw [HBD.out] at ha
  go_wp2
  go_ret
  exact ⟨rfl, After.of_below Y2.out ha⟩
/-- The keys of a function's lines. -/
def pkey (name : ByteArray) : ByteArray := ⟨#[112, 47]⟩ ++ name
def tkey (name : ByteArray) : ByteArray := ⟨#[116, 47]⟩ ++ name
theorem pkey_size (name : ByteArray) : (pkey name).size = name.size + 2 := by
  unfold pkey
  rw [ByteArray.size_append]
  show 2 + name.size = _
  omega
theorem tkey_size (name : ByteArray) : (tkey name).size = name.size + 2 := by
  unfold tkey
  rw [ByteArray.size_append]
  show 2 + name.size = _
  omega
def St.erase (s : St) (name : ByteArray) : St := ((s.del (pkey name)).del (tkey name)).del (vkey name)
theorem dropG_len (K : List ByteArray) (T : ByteArray → TD) (G : List ED) (k : ByteArray) : (dropG K T G k).length ≤ G.length + 1 := by
  unfold dropG touchG
  split
  · split
    · omega
    · simp
  · omega
set_option maxRecDepth 100000 in
set_option maxHeartbeats 1600000 in
theorem erase_none (own D : Nat → Prop) (r : Nat) (s : St) (name : ByteArray) (w : World) (h : SS w own D r s) (hk : name.size ≤ 1000000) (hd : (s.name name).kind ≠ 1 ∧ (s.name name).kind ≠ 2) :
    Calls Try.prog 7 #[.pointer (some ⟨r, 0, none⟩), .string name] w fun e w' => e = .returned (.int .i64 4) ∧ Below w.heap.size w w' := by
  have HG := Lib.hid (getN_any own D r s.K s.T s.G name w h hk)
  have HD := Lib.hid hd
  clear h hd
  go_enter Try.func7, Try.ntmps7
  go_wp2_with fail
  refine HG.out.mono ?_
  rintro e w1 ⟨ts, rfl, ht, hb1⟩
  obtain ⟨t, htt⟩ : ∃ t, t = getN s.K s.T name := ⟨_, rfl⟩
  rw [← htt] at ht
  obtain ⟨A1, n1, c1, A2, n2, c2, A3, n3, c3, A4, n4, c4, A5, n5, c5, rfl⟩ := ht.full
  have e1 : (t.kind != 1) = true := by rw [bne_iff_ne, htt]; exact HD.out.1
  have e2 : (t.kind != 2) = true := by rw [bne_iff_ne, htt]; exact HD.out.2
  have hfk := field_kind w1 t.kind t.n t.f.version t.v.char A1 A2 A3 A4 A5 n1 c1 n2 c2 n3 c3 n4 c4 n5 c5 t.f.name t.f.result t.f.left t.f.right t.s
  have Y1 := Lib.hid hb1
  clear ht hb1 htt HG
  go_wp2_with fail
  refine (is_any name _ hk).mono ?_
  rintro e w2 ⟨rfl, hb2⟩
  have Y2 := Lib.hid (Y1.out.trans (hb2.mono Y1.out.size))
  clear hb2
  cases nameB name
  · go_wp2
    go_ret
    exact ⟨rfl, Y2.out⟩
  · go_wp2
    go_ret
    exact ⟨rfl, Y2.out⟩
set_option maxRecDepth 100000 in
set_option maxHeartbeats 3200000 in
theorem erase_ok (own D : Nat → Prop) (r : Nat) (s : St) (name : ByteArray) (w : World) (h : SS w own D r s) (hk : name.size ≤ 900000) (hG : s.G.length ≤ 900000) (hK : s.K.length ≤ 900000) (hn : nameB name = true) (hd : (s.name name).kind = 1 ∨ (s.name name).kind = 2) :
    Calls Try.prog 7 #[.pointer (some ⟨r, 0, none⟩), .string name] w fun e w' => e = .returned (.int .i64 0) ∧ After w w' own D r (s.erase name) := by
  have HG := Lib.hid (getN_any own D r s.K s.T s.G name w h (by omega))
  have HD := Lib.hid hd
  have HN := Lib.hid hn
  have HH := Lib.hid h
  have hsz : ¬ 9223372036854775807 < 2 + name.size := by omega
  have hpz : (pkey name).size ≤ maxLen := by rw [pkey_size]; unfold maxLen; omega
  have htz : (tkey name).size ≤ maxLen := by rw [tkey_size]; unfold maxLen; omega
  have hg1 := dropG_len s.K s.T s.G (pkey name)
  have hg2 := dropG_len (s.K.filter (· ≠ pkey name)) s.T (dropG s.K s.T s.G (pkey name)) (tkey name)
  have hf1 := List.length_filter_le (fun x => decide (x ≠ pkey name)) s.K
  have hf2 := List.length_filter_le (fun x => decide (x ≠ tkey name)) (s.K.filter (· ≠ pkey name))
  have HGB := Lib.hid (show ((s.del (pkey name)).del (tkey name)).G.length ≤ 1000000 by
    show (dropG _ _ _ _).length ≤ _
    exact Nat.le_trans hg2 (by omega))
  have HKB := Lib.hid (show ((s.del (pkey name)).del (tkey name)).K.length ≤ 1000000 from Nat.le_trans hf2 (Nat.le_trans hf1 (by omega)))
  have HGB1 := Lib.hid (show (dropG s.K s.T s.G (pkey name)).length ≤ 1000000 by omega)
  clear hg1 hg2 hf1 hf2
  have HPK : RowKit.Hid ((⟨#[112, 47]⟩ : ByteArray) ++ name = pkey name) := rfl
  have HTK : RowKit.Hid ((⟨#[116, 47]⟩ : ByteArray) ++ name = tkey name) := rfl
  clear h hd hn
  go_enter Try.func7, Try.ntmps7
  go_wp2_with fail
  refine HG.out.mono ?_
  rintro e w1 ⟨ts, rfl, ht, hb1⟩
  obtain ⟨t, htt⟩ : ∃ t, t = getN s.K s.T name := ⟨_, rfl⟩
  rw [← htt] at ht
  obtain ⟨A1, n1, c1, A2, n2, c2, A3, n3, c3, A4, n4, c4, A5, n5, c5, rfl⟩ := ht.full
  have HTT := Lib.hid (show t = s.name name from htt)
  have hfk := field_kind w1 t.kind t.n t.f.version t.v.char A1 A2 A3 A4 A5 n1 c1 n2 c2 n3 c3 n4 c4 n5 c5 t.f.name t.f.result t.f.left t.f.right t.s
  have Y1 := Lib.hid hb1
  clear ht hb1 htt HG
  go_wp2_with fail
  refine (is_any name _ (by omega)).mono ?_
  rintro e w2 ⟨rfl, hb2⟩
  rw [HN.out]
  have Y2 := Lib.hid (Y1.out.trans (hb2.mono Y1.out.size))
  clear hb2
  by_cases h1 : t.kind = 1
  · have e1 : (t.kind != 1) = false := by rw [h1]; rfl
    clear h1
    go_wp2_with fail
    rw [HPK.out]
    refine (cDrop_any own D r s.K s.T s.G (pkey name) w2 (HH.out.below Y2.out) hpz (by omega)).mono ?_
    rintro e w3 ⟨rfl, own3, h3, hg3⟩
    have H3 := Lib.hid h3
    have G3 := Lib.hid hg3
    clear h3 hg3
    go_wp2_with fail
    rw [HTK.out]
    refine (cDrop_any own3 D r (s.K.filter (· ≠ pkey name)) s.T (dropG s.K s.T s.G (pkey name)) (tkey name) w3 H3.out htz HGB1.out).mono ?_
    rintro e w4 ⟨rfl, own4, h4, hg4⟩
    have H4 := Lib.hid (show SS w4 own4 D r ((s.del (pkey name)).del (tkey name)) from h4)
    have G4 := Lib.hid hg4
    have HBZ := Lib.hid (bind_zero own4 D r ((s.del (pkey name)).del (tkey name)) name w4 H4.out (by omega) HGB.out HKB.out HN.out)
    unfold numE at HBZ
    clear h4 hg4
    go_wp2_with fail
    refine HBZ.out.mono ?_
    rintro e w5 ⟨rfl, own5, h5, hg5⟩
    have H5 := Lib.hid (show SS w5 own5 D r (s.erase name) from h5)
    have G5 := Lib.hid hg5
    clear h5 hg5
    go_wp2
    go_ret
    exact ⟨rfl, own5, H5.out, (((Grow.below Y2.out).trans G3.out).trans G4.out).trans G5.out⟩
  · have h2 : t.kind = 2 := by
      have := HD.out
      rw [← HTT.out] at this
      omega
    have e1 : (t.kind != 1) = true := by rw [h2]; rfl
    have e2 : (t.kind != 2) = false := by rw [h2]; rfl
    clear h1 h2
    go_wp2_with fail
    rw [HPK.out]
    refine (cDrop_any own D r s.K s.T s.G (pkey name) w2 (HH.out.below Y2.out) hpz (by omega)).mono ?_
    rintro e w3 ⟨rfl, own3, h3, hg3⟩
    have H3 := Lib.hid h3
    have G3 := Lib.hid hg3
    clear h3 hg3
    go_wp2_with fail
    rw [HTK.out]
    refine (cDrop_any own3 D r (s.K.filter (· ≠ pkey name)) s.T (dropG s.K s.T s.G (pkey name)) (tkey name) w3 H3.out htz HGB1.out).mono ?_
    rintro e w4 ⟨rfl, own4, h4, hg4⟩
    have H4 := Lib.hid (show SS w4 own4 D r ((s.del (pkey name)).del (tkey name)) from h4)
    have G4 := Lib.hid hg4
    have HBZ := Lib.hid (bind_zero own4 D r ((s.del (pkey name)).del (tkey name)) name w4 H4.out (by omega) HGB.out HKB.out HN.out)
    unfold numE at HBZ
    clear h4 hg4
    go_wp2_with fail
    refine HBZ.out.mono ?_
    rintro e w5 ⟨rfl, own5, h5, hg5⟩
    have H5 := Lib.hid (show SS w5 own5 D r (s.erase name) from h5)
    have G5 := Lib.hid hg5
    clear h5 hg5
    go_wp2
    go_ret
    exact ⟨rfl, own5, H5.out, (((Grow.below Y2.out).trans G3.out).trans G4.out).trans G5.out⟩
end Go.Proofs.Ytjkofndnhmfnoaa
