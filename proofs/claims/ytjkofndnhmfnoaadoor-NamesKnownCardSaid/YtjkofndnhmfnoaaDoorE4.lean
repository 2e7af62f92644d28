/-
  Layer 20 (names): Restore when all goes well: the walk.
-/
import Derived.Test.YtjkofndnhmfnoaaDoorE3
namespace Go.Proofs.YtjkofndnhmfnoaaDoor
open Go Go.RowKit Go.Shelf

theorem blank_any (c : Nat) (w : World) : Calls Tryd.prog 56 #[.int .i32 (c : Int)] w fun e w' => e = .returned (.bool (decide (c = 32))) ∧ w' = w := by
  by_cases h : c = 32
  · have HR := Lib.hid (decide_eq_true h)
    have q : ((c : Int) == 32) = true := by rw [beq_iff_eq]; omega
    rw [HR.out]
    clear h
    go_enter Tryd.func56, Tryd.ntmps56
    go_wp2
    go_ret
    exact ⟨rfl, rfl⟩
  · have HR := Lib.hid (decide_eq_false h)
    have q : ((c : Int) == 32) = false := by rw [beq_eq_false_iff_ne]; omega
    rw [HR.out]
    clear h
    go_enter Tryd.func56, Tryd.ntmps56
    go_wp2
    go_ret
    exact ⟨rfl, rfl⟩
theorem blank_pays (w : World) : PredAt Tryd.prog 56 #[] encR (fun c => decide (c = 32)) w := fun W x _ => by
  show Calls Tryd.prog 56 #[.int .i32 (x : Int)] W _
  exact (blank_any x W).mono fun e w' h => ⟨h.1, 0, h.2⟩
/-- The names of a text. -/
def splitB (x : ByteArray) : List ByteArray := Lib.goFieldsP (fun c => decide (c = 32)) x
theorem fields20_any (x : ByteArray) (w : World) (hx : x.size ≤ 1000000) : Calls Tryd.prog 55 #[.string x, .func (.func 56) #[] #[]] w fun e w' => ∃ A, e = .returned (.slice (some ⟨A, 0, none⟩) (splitB x).length (splitB x).length) ∧ Rd w' (fun b => b = A) 1 (some ⟨A, 0, none⟩) (splitB x).length (splitB x).length (strRows (splitB x)) ∧ w.heap.size ≤ A ∧ A < w'.heap.size ∧ Below w.heap.size w w' := by
  refine (Tryd.strings_FieldsFunc 56 #[] (enters_of Tryd.func56 (by kernel_rfl) rfl) (fun c => decide (c = 32)) x w (by omega) (blank_pays w)).mono ?_
  rintro e w' ⟨A, rfl, hA, hown, hb⟩
  have hlt := (World.ownsRow.lt hown A rfl).2
  refine ⟨A, rfl, ?_, hA, hlt, hb⟩
  obtain ⟨A', c', hv, hr⟩ := Rd.of_own (es := strRows (splitB x)) (w := w') (by rw [str_flat]; exact hown) (by simp [strRows, splitB]) (strRows_ok _)
  injection hv with e1 e2 e3
  subst e1 e3
  exact ⟨hr.len, hr.le, hr.max, hr.rows, fun hn => by
    obtain ⟨b, off, e, _, hc⟩ := hr.at_ hn
    injection e with e
    injection e with e1 e2 e3
    subst e1 e2
    exact ⟨A, 0, rfl, rfl, hc⟩⟩

/-! ### What Restore makes -/
def rsStep (l : List UInt8) (s : St) (n : ByteArray) : St := (s.bind n (s.look (skey l n))).del (skey l n)
def rsAll (l : List UInt8) (s : St) (F : List ByteArray) : St := F.foldl (rsStep l) s
def St.restore (s : St) (l : List UInt8) (F : List ByteArray) : St := (rsAll l s F).del (lkey l)
theorem rsAll_snoc (l : List UInt8) (s : St) (F : List ByteArray) (x : ByteArray) : rsAll l s (F ++ [x]) = rsStep l (rsAll l s F) x := by
  unfold rsAll
  rw [List.foldl_append]
  rfl
theorem bind_len (s : St) (n : ByteArray) (t : TD) : (s.bind n t).K.length ≤ s.K.length + 1 ∧ (s.bind n t).G.length ≤ s.G.length + 1 := by
  unfold St.bind
  split
  · exact ⟨insKS_len _ _, touchG_len _ _ _ _⟩
  · exact ⟨Nat.le_trans (List.length_filter_le _ _) (Nat.le_succ _), dropG_len _ _ _ _⟩
/-- Restore's loop, behind some names. -/
structure RsInv (w0 wa wr : World) (r : Nat) (X : Nat → Prop) (l : List UInt8) (s : St) (F : List ByteArray) (j : Nat) (p : St) : Prop where
  eq : p = rsAll l s (F.take j)
  kx : KX w0 wr r p X
  chg : Chg (fun b => ¬ X b) wa wr
  lK : p.K.length ≤ s.K.length + j
  lG : p.G.length ≤ s.G.length + 2 * j
set_option maxRecDepth 100000 in
set_option maxHeartbeats 4000000 in
theorem restore_ok (w0 : World) (r : Nat) (s : St) (d : Int) (k : UInt8) (l : List UInt8) (X : Nat → Prop) (F : List ByteArray) (x0 : ByteArray) (w : World) (h : KX w0 w r s X) (ht : Tab w0) (h0 : 0 ≤ d) (h1 : d ≤ 999) (hl : Lib.itoa (1000 + d) = k :: l) (hz : l.length ≤ 20)
    (hK : s.K.length ≤ 1000) (hG : s.G.length ≤ 1000) (hin : lkey l ∈ s.K) (hs : (s.look (lkey l)).s = x0) (hx0 : x0.size ≤ 1000) (hF : splitB x0 = F) (hn : F.length ≤ 8) (hnm : ∀ x ∈ F, x.size ≤ 40) :
    Calls Tryd.prog 31 #[.pointer (some ⟨r, 0, none⟩), .int .i64 d] w fun e w' => e = .returned (.int .i64 0) ∧ KX w0 w' r (s.restore l F) X ∧ Chg (fun b => ¬ X b) w w' := by
  have HT := Lib.hid ht
  have HNM := Lib.hid hnm
  have S1 := Lib.hid h
  have HIN := Lib.hid (decide_eq_true hin)
  have HSX : RowKit.Hid ((getT s.K s.T (lkey l)).s = x0) := hs
  have HFF := Lib.hid hF
  have HB := Lib.hid (fun (w : World) o => (Below.refl w.heap.size w).alloc (Nat.le_refl _) o)
  have HLI := Lib.hid (fun (w : World) (ht : Tab w) => list20_any d k l w ht h0 h1 hl hz)
  have HKE := Lib.hid (fun (w : World) (ht : Tab w) name (hn : name.size ≤ 900000) => kept20_any d k l name w ht h0 h1 hl hz hn)
  have HDP := Lib.hid (deep_ok r d w h0 h1)
  have HLZ := Lib.hid (show (lkey l).size ≤ 24 by rw [lkey_size]; omega)
  clear ht hnm hl h h0 h1 hin hs hF
  go_enter Tryd.func31, Tryd.ntmps31
  go_wp2_with fail
  refine HDP.out.mono ?_
  rintro e w' ⟨rfl, rfl⟩
  go_wp2_with fail
  refine (HLI.out w' (S1.out.tab HT.out)).mono ?_
  rintro e w2 ⟨rfl, hb⟩
  have S2 := Lib.hid (S1.out.on hb)
  have C2 := Lib.hid (Chg.of_below (S := fun b => ¬ X b) hb)
  clear hb S1 HDP
  go_wp2_with fail
  obtain ⟨own, D, hs, hn2, hd2⟩ := S2.out.ex
  refine (cGet_any own D r s.K s.T s.G (lkey l) w2 hs (by have := HLZ.out; unfold maxLen; omega)).mono ?_
  rintro e w3 ⟨ts, rfl, hts, hb⟩
  rw [HIN.out]
  obtain ⟨t, htt⟩ : ∃ t, t = getT s.K s.T (lkey l) := ⟨_, rfl⟩
  rw [← htt] at hts
  have hsx : t.s = x0 := by rw [htt]; exact HSX.out
  obtain ⟨A1, n1, c1, A2, n2, c2, A3, n3, c3, A4, n4, c4, A5, n5, c5, rfl⟩ := hts.full
  rw [hsx]
  have S3 := Lib.hid (S2.out.on hb)
  have C3 := Lib.hid (C2.out.trans (Chg.of_below (S := fun b => ¬ X b) hb))
  clear hs hn2 hd2 hts hb S2 C2 htt hsx own D
  go_wp2_with fail
  refine (fields20_any x0 _ (by omega)).mono ?_
  rw [HFF.out]
  rintro e wa ⟨AF, rfl, hrF, hAF, hAF2, hb⟩
  have hb3 := (HB.out w3 _).trans (hb.mono (HB.out w3 _).size)
  have hz3 := (HB.out w3 (.cells #[.int .u8 t.kind, .bool t.v.char, .slice A1 n1 c1, .slice A2 n2 c2, .string t.f.name, .string t.f.result, .string t.f.left, .string t.f.right, .slice A3 n3 c3, .slice A4 n4 c4, .int .i64 t.f.version, .slice A5 n5 c5, .int .i64 t.n, .string x0] 53)).size
  have S5 := Lib.hid (S3.out.more (Y := fun b => b = AF) hb3 (fun b hb => by subst hb; exact ⟨Nat.le_trans hz3 hAF, hAF2⟩))
  have C5 := Lib.hid (C3.out.trans (Chg.of_below (S := fun b => ¬ X b) hb3))
  have RF := Lib.hid hrF
  have HAF := Lib.hid (show ¬ X AF from fun hx => by
    have := S3.out.lt AF hx
    omega)
  clear hrF hAF hAF2 hb hb3 hz3 S3 C3
  go_wp2_with fail
  obtain ⟨N, hN⟩ : ∃ N, N = F.length := ⟨_, rfl⟩
  have HN := Lib.hid hN
  rw [← hN] at hn ⊢
  clear hN
  go_loopw [31] (fun i wr => ∃ (m : Nat) (p : St), m ≤ N ∧ i = .int .i64 (m : Int) ∧ RowKit.Hid (RsInv w0 wa wr r (fun b => X b ∨ b = AF) l s F m p)) (fun i _ => N - (RowKit.intOf i).toNat)
  case atStart => exact ⟨0, s, Nat.zero_le _, rfl, rfl, S5.out, Chg.refl _ _, Nat.le_refl _, Nat.le_refl _⟩
  case round =>
    obtain ⟨m, p, hm, rfl, hiv⟩ := hrel
    by_cases hlt : m < N
    · have q1 : (m : Int) < (N : Int) := by omega
      have RW := RF.out.chg hiv.out.chg (fun b hb hx => hx (.inr hb))
      obtain ⟨-, hx⟩ := RW.one
      obtain ⟨b, off, hA, -, -, hc⟩ := hx (by rw [← HN.out]; omega)
      obtain ⟨x, hxk⟩ : ∃ x, F[m]? = some x := ⟨_, List.getElem?_eq_getElem (by rw [← HN.out]; exact hlt)⟩
      have cx := hc m x hxk
      injection hA with hA
      injection hA with hA1 hA2 hA3
      subst hA1 hA2
      rw [Nat.zero_add] at cx
      have hns := HNM.out x (List.mem_of_getElem? hxk)
      have HP : RowKit.Hid (rsStep l p x = rsAll l s (F.take (m + 1))) := by
        show _ = _
        have hts : F.take (m + 1) = F.take m ++ [x] := by rw [List.take_add_one, hxk]; rfl
        rw [hts, rsAll_snoc, ← hiv.out.eq]
      have K7 := Lib.hid hiv.out.kx
      have CH7 := Lib.hid hiv.out.chg
      have hpK := hiv.out.lK
      have hpG := hiv.out.lG
      clear hc hxk hx RW hiv
      go_wp2_with fail
      refine (HKE.out wr (K7.out.tab HT.out) x (by omega)).mono ?_
      rintro e w8 ⟨rfl, hb⟩
      have K8 := Lib.hid (K7.out.on hb)
      have CH8 := Lib.hid (CH7.out.trans (Chg.of_below hb))
      clear hb K7 CH7 cx
      go_wp2_with fail
      obtain ⟨own, D, hs, ho2, hd2⟩ := K8.out.ex
      refine (cGet_any own D r p.K p.T p.G (skey l x) w8 hs (by rw [skey_size]; unfold maxLen; omega)).mono ?_
      rintro e w9 ⟨ts, rfl, hts, hb⟩
      obtain ⟨X1, x1, y1, X2, x2, y2, X3, x3, y3, X4, x4, y4, X5, x5, y5, rfl⟩ := hts.full
      have K9 := Lib.hid (K8.out.on hb)
      have CH9 := Lib.hid (CH8.out.trans (Chg.of_below hb))
      have HPU := Lib.hid (fun w2 (hb2 : Below w9.heap.size w9 w2) => put_any own D r p x _ (p.look (skey l x)) w2 (SK.below (SK.below hs hb) hb2) (by omega) (by omega) (by omega) (TIs.below hts hb2))
      have HO2 := Lib.hid ho2
      have HD2 := Lib.hid hd2
      obtain ⟨u, huu⟩ : ∃ u, u = getT p.K p.T (skey l x) := ⟨_, rfl⟩
      have HU : RowKit.Hid (p.look (skey l x) = u) := huu.symm
      rw [← huu] at HPU ⊢
      rw [HU.out] at HPU
      obtain ⟨bo, hbo⟩ : ∃ bo, bo = decide (skey l x ∈ p.K) := ⟨_, rfl⟩
      rw [← hbo]
      clear hs ho2 hd2 hts hb huu hbo K8 CH8
      go_wp2_with fail
      refine (HPU.out _ (HB.out w9 _)).mono ?_
      rintro e w11 ⟨rfl, ha⟩
      obtain ⟨k11, ch11⟩ := (K9.out.on (HB.out w9 _)).after HO2.out HD2.out ha
      have CH11 := Lib.hid ((CH9.out.trans (Chg.of_below (HB.out w9 _))).trans ch11)
      have hbl := bind_len p x u
      obtain ⟨p1, hp1⟩ : ∃ p1, p1 = p.bind x u := ⟨_, rfl⟩
      rw [← hp1] at k11 hbl
      have HP1 := Lib.hid hp1
      have K11 := Lib.hid k11
      obtain ⟨hl1, hl2⟩ := hbl
      clear k11 ch11 ha HPU HO2 HD2 K9 CH9 hp1
      go_wp2_with fail
      refine (HKE.out w11 (K11.out.tab HT.out) x (by omega)).mono ?_
      rintro e w12 ⟨rfl, hb⟩
      have K12 := Lib.hid (K11.out.on hb)
      have CH12 := Lib.hid (CH11.out.trans (Chg.of_below hb))
      clear hb K11 CH11
      obtain ⟨own, D, hs, ho2, hd2⟩ := K12.out.ex
      have HDR := Lib.hid (drop20_any own D r p1 (skey l x) w12 hs (by rw [skey_size]; unfold maxLen; omega) (by omega))
      have HO2 := Lib.hid ho2
      have HD2 := Lib.hid hd2
      clear hs ho2 hd2
      go_wp2_with fail
      refine HDR.out.mono ?_
      rintro e w13 ⟨rfl, ha⟩
      obtain ⟨k13, ch13⟩ := K12.out.after HO2.out HD2.out ha
      have hG2 := dropG_len p1.K p1.T p1.G (skey l x)
      have hK2 := List.length_filter_le (fun z => decide (z ≠ skey l x)) p1.K
      have IV : RowKit.Hid (RsInv w0 wa w13 r (fun b => X b ∨ b = AF) l s F (m + 1) (p1.del (skey l x))) :=
        { eq := by rw [← HP.out, HP1.out, ← HU.out]; rfl
          kx := k13
          chg := CH12.out.trans ch13
          lK := Nat.le_trans hK2 (by omega)
          lG := Nat.le_trans hG2 (by omega) }
      clear k13 ch13 ha HDR K12 CH12 HO2 HD2 hG2 hK2
      go_wp2
      go_roundw
      case rel => exact ⟨m + 1, _, by omega, by go_num, IV.out⟩
      case measure => simp [RowKit.intOf]; omega
    · have hme : m = N := by omega
      subst hme
      have HPE : RowKit.Hid (p = rsAll l s F) := by
        have := hiv.out.eq
        rwa [List.take_of_length_le (by rw [← HN.out]; exact Nat.le_refl _)] at this
      have K6 := Lib.hid (hiv.out.kx.fewer (Y := X) (fun b hb => .inl hb))
      have CH6 := Lib.hid (C5.out.trans (hiv.out.chg.mono (fun b _ hb hx => hb (.inl hx))))
      have hpG := hiv.out.lG
      clear hiv hlt hm
      go_wp2_with fail
      refine (HLI.out wr (K6.out.tab HT.out)).mono ?_
      rintro e w8 ⟨rfl, hb⟩
      have K8 := Lib.hid (K6.out.on hb)
      have CH8 := Lib.hid (CH6.out.trans (Chg.of_below hb))
      clear hb K6 CH6
      obtain ⟨own, D, hs, ho2, hd2⟩ := K8.out.ex
      have HDR := Lib.hid (drop20_any own D r p (lkey l) w8 hs (by have := HLZ.out; unfold maxLen; omega) (by omega))
      have HO2 := Lib.hid ho2
      have HD2 := Lib.hid hd2
      clear hs ho2 hd2
      go_wp2_with fail
      refine HDR.out.mono ?_
      rintro e w10 ⟨rfl, ha⟩
      obtain ⟨k10, ch10⟩ := K8.out.after HO2.out HD2.out ha
      have K10 : RowKit.Hid (KX w0 w10 r (s.restore l F) X) := by
        show KX _ _ _ _ _
        unfold St.restore
        rw [← HPE.out]
        exact k10
      have CH10 := Lib.hid (CH8.out.trans ch10)
      clear k10 ch10 ha
      go_wp2
      go_ret
      exact ⟨rfl, K10.out, CH10.out⟩
end Go.Proofs.YtjkofndnhmfnoaaDoor
