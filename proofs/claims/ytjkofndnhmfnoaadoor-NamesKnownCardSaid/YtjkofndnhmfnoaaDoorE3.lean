/-
  Layer 20 (names): Save when all goes well: the walk.
-/
import Derived.Test.YtjkofndnhmfnoaaDoorE2
namespace Go.Proofs.YtjkofndnhmfnoaaDoor
open Go Go.RowKit

/-- Save's second loop, behind some names. -/
structure SvInv (w0 wa wr : World) (r : Nat) (X : Nat → Prop) (l : List UInt8) (s : St) (L : List ByteArray) (j : Nat) (v : Value) (p : St × List ByteArray) : Prop where
  eq : p = svAll l s (L.take j)
  kx : KX w0 wr r p.1 (fun b => X b ∨ v.ownBlock = some b)
  row : wr.ownsRow wa.heap.size 9 1 v p.2.length (strRows p.2).flatten
  chg : Chg (fun b => ¬ X b) wa wr
  lK : p.1.K.length ≤ s.K.length + j
  lG : p.1.G.length ≤ s.G.length + 2 * j
  lL : p.2.length ≤ j
  sub : ∀ x ∈ p.2, x ∈ L
theorem SvInv.on {w0 wa wr w2 : World} {r : Nat} {X : Nat → Prop} {l : List UInt8} {s : St} {L : List ByteArray} {j : Nat} {v : Value} {p : St × List ByteArray} (h : SvInv w0 wa wr r X l s L j v p) (hb : Below wr.heap.size wr w2) : SvInv w0 wa w2 r X l s L j v p :=
  { h with kx := h.kx.on hb, row := ownsRow_chg h.row (Chg.of_below (S := fun _ => False) hb) (fun _ _ h => h), chg := h.chg.trans (Chg.of_below hb) }
set_option maxRecDepth 100000 in
set_option maxHeartbeats 4000000 in
theorem save_ok (w0 : World) (r : Nat) (s : St) (d : Int) (k : UInt8) (l : List UInt8) (A : Option Addr) (n c : Nat) (L : List ByteArray) (X : Nat → Prop) (w : World) (h : KX w0 w r s X) (ht : Tab w0) (h0 : 0 ≤ d) (h1 : d ≤ 999) (hl : Lib.itoa (1000 + d) = k :: l) (hz : l.length ≤ 20)
    (hL : Rd w X 1 A n c (strRows L)) (hn : n ≤ 8) (hnm : ∀ x ∈ L, nameB x = true ∧ x.size ≤ 40) (hK : s.K.length ≤ 1000) (hG : s.G.length ≤ 1000) (hno : ¬ lkey l ∈ s.K) :
    Calls Tryd.prog 29 #[.pointer (some ⟨r, 0, none⟩), .int .i64 d, .slice A n c] w fun e w' => e = .returned (.int .i64 0) ∧ KX w0 w' r (s.save l L) X ∧ Chg (fun b => ¬ X b) w w' := by
  obtain ⟨i0, hi, hz0, hz1, hz2⟩ := strParts
  have hlen : L.length = n := hL.one.1
  have HT := Lib.hid ht
  have HL := Lib.hid hL
  have HNM := Lib.hid hnm
  have HLE := Lib.hid hl
  have HLN := Lib.hid hlen
  have S1 := Lib.hid h
  have HNO := Lib.hid (decide_eq_false hno)
  have HB := Lib.hid (fun (w : World) o => (Below.refl w.heap.size w).alloc (Nat.le_refl _) o)
  have HLI := Lib.hid (fun (w : World) (ht : Tab w) => list20_any d k l w ht h0 h1 hl hz)
  have HKE := Lib.hid (fun (w : World) (ht : Tab w) name (hn : name.size ≤ 900000) => kept20_any d k l name w ht h0 h1 hl hz hn)
  have HDP := Lib.hid (deep_ok r d w h0 h1)
  have hlz : (lkey l).size ≤ 24 := by rw [lkey_size]; omega
  have HLZ := Lib.hid hlz
  clear ht hL hnm hl hno h hlen h0 h1 hlz
  go_enter Tryd.func29, Tryd.ntmps29
  go_wp2_with fail
  refine HDP.out.mono ?_
  rintro e w' ⟨rfl, rfl⟩
  go_wp2_with fail
  refine (HLI.out w' (S1.out.tab HT.out)).mono ?_
  rintro e w2 ⟨rfl, hb⟩
  have S2 := Lib.hid (S1.out.on hb)
  have C2 := Lib.hid (Chg.of_below (S := fun b => ¬ X b) hb)
  clear hb S1 HDP
  go_wp2_with fail
  obtain ⟨own, D, hs, hn2, hd2⟩ := S2.out.ex
  refine (cGet_any own D r s.K s.T s.G (lkey l) w2 hs (by have := HLZ.out; unfold maxLen; omega)).mono ?_
  rintro e w3 ⟨ts, rfl, hts, hb⟩
  rw [HNO.out]
  obtain ⟨A1, n1, c1, A2, n2, c2, A3, n3, c3, A4, n4, c4, A5, n5, c5, rfl⟩ := hts.full
  obtain ⟨t, htt⟩ : ∃ t, t = getT s.K s.T (lkey l) := ⟨_, rfl⟩
  rw [← htt]
  have S3 := Lib.hid (S2.out.on hb)
  have C3 := Lib.hid (C2.out.trans (Chg.of_below (S := fun b => ¬ X b) hb))
  clear hs hn2 hd2 hts hb S2 C2 htt own D
  go_wp2_with fail
  have S4 := Lib.hid (S3.out.on (HB.out w3 (.cells #[.int .u8 t.kind, .bool t.v.char, .slice A1 n1 c1, .slice A2 n2 c2, .string t.f.name, .string t.f.result, .string t.f.left, .string t.f.right, .slice A3 n3 c3, .slice A4 n4 c4, .int .i64 t.f.version, .slice A5 n5 c5, .int .i64 t.n, .string t.s] 53)))
  have C4 := Lib.hid (C3.out.trans (Chg.of_below (S := fun b => ¬ X b) (HB.out w3 (.cells #[.int .u8 t.kind, .bool t.v.char, .slice A1 n1 c1, .slice A2 n2 c2, .string t.f.name, .string t.f.result, .string t.f.left, .string t.f.right, .slice A3 n3 c3, .slice A4 n4 c4, .int .i64 t.f.version, .slice A5 n5 c5, .int .i64 t.n, .string t.s] 53))))
  generalize hwa : World.alloc w3 _ = w4
  rw [hwa] at S4 C4
  clear hwa S3 C3
  go_loopw [9, 30] (fun b i wr => ∃ j : Nat, j ≤ n ∧ b = .bool false ∧ i = .int .i64 (j : Int) ∧ RowKit.Hid (Below w4.heap.size w4 wr)) (fun _ i _ => n - (RowKit.intOf i).toNat)
  case atStart => exact ⟨0, Nat.zero_le _, rfl, rfl, Below.refl _ _⟩
  case round =>
    obtain ⟨j, hj, rfl, rfl, hbr⟩ := hrel
    by_cases hlt : j < n
    · have q1 : (j : Int) < (n : Int) := by omega
      obtain ⟨-, hx⟩ := HL.out.one
      obtain ⟨b, off, hA, hXb, -, hc⟩ := hx (by omega)
      obtain ⟨x, hxk⟩ : ∃ x, L[j]? = some x := ⟨_, List.getElem?_eq_getElem (by rw [HLN.out]; exact hlt)⟩
      have cx := below_cell hbr.out (C4.out.cell (p := ⟨b, off + j, none⟩) (hc j x hxk) (fun hh => hh hXb))
      obtain ⟨hnb, hns⟩ := HNM.out x (List.mem_of_getElem? hxk)
      have HNB := Lib.hid hnb
      subst hA
      clear hc hxk hnb hx
      go_wp2_with fail
      refine (is_any x wr (by omega)).mono ?_
      rintro e w5 ⟨rfl, hb5⟩
      rw [HNB.out]
      have B5 := Lib.hid (hbr.out.trans (hb5.mono hbr.out.size))
      clear hb5 cx
      go_wp2
      go_roundw
      case rel => exact ⟨j + 1, by omega, rfl, by go_num, B5.out⟩
      case measure => simp [RowKit.intOf]; omega
    · have hje : j = n := by omega
      subst hje
      have S5 := Lib.hid (S4.out.on hbr.out)
      have C5 := Lib.hid (C4.out.trans (Chg.of_below (S := fun b => ¬ X b) hbr.out))
      clear S4 C4 hbr
      obtain ⟨wa, hwa⟩ : ∃ wa, wa = wr := ⟨_, rfl⟩
      rw [← hwa] at S5 C5 ⊢
      clear hwa
      go_wp2_with fail
      clear hlt hj
      go_loopw [12, 44] (fun v i wr => ∃ (m : Nat) (p : St × List ByteArray), m ≤ j ∧ i = .int .i64 (m : Int) ∧ RowKit.Hid (SvInv w0 wa wr r X l s L m v p)) (fun _ i _ => j - (RowKit.intOf i).toNat)
      case atStart => exact ⟨0, (s, []), Nat.zero_le _, rfl, rfl, S5.out.fewer (fun b hb => hb.elim id (fun h => by cases h)), World.ownsRow_nil _ _ _ _, Chg.refl _ _, Nat.le_refl _, Nat.le_refl _, Nat.le_refl _, fun x hx => by simp at hx⟩
      case round =>
        obtain ⟨m, p, hm, rfl, hiv⟩ := hrel
        obtain ⟨A9, c9, hv9, hr9⟩ := Rd.of_own hiv.out.row (by simp [strRows]) (strRows_ok _)
        subst hv9
        have R9 := Lib.hid hr9
        have hpl := hiv.out.lL
        clear hr9
        by_cases hlt : m < j
        · have q1 : (m : Int) < (j : Int) := by omega
          obtain ⟨-, hx⟩ := HL.out.one
          obtain ⟨b, off, hA, hXb, -, hc⟩ := hx (by omega)
          obtain ⟨x, hxk⟩ : ∃ x, L[m]? = some x := ⟨_, List.getElem?_eq_getElem (by rw [HLN.out]; exact hlt)⟩
          have cx := hiv.out.chg.cell (p := ⟨b, off + m, none⟩) (C5.out.cell (p := ⟨b, off + m, none⟩) (hc m x hxk) (fun hh => hh hXb)) (fun hh => hh hXb)
          obtain ⟨hnb, hns⟩ := HNM.out x (List.mem_of_getElem? hxk)
          have HNB := Lib.hid hnb
          have HXM := Lib.hid (List.mem_of_getElem? hxk)
          have hts : L.take (m + 1) = L.take m ++ [x] := by rw [List.take_add_one, hxk]; rfl
          have HTS := Lib.hid hts
          subst hA
          clear hc hxk hnb hx hts
          go_wp2_with fail
          refine (contains20_any A9 p.2.length c9 p.2 x _ wr R9.out).mono ?_
          rintro e w6 ⟨rfl, rfl⟩
          by_cases hin : x ∈ p.2
          · have HIN := Lib.hid (decide_eq_true hin)
            have HP : RowKit.Hid (p = svAll l s (L.take (m + 1))) := by
              show _ = _
              rw [HTS.out, svAll_snoc, ← hiv.out.eq, svStep_in hin]
            rw [HIN.out]
            clear hin cx
            go_wp2
            go_roundw
            case rel =>
              refine ⟨m + 1, p, by omega, by go_num, ?_⟩
              have hh := hiv.out
              exact { hh with eq := HP.out, lK := by have := hh.lK; omega, lG := by have := hh.lG; omega, lL := by have := hh.lL; omega }
            case measure => simp [RowKit.intOf]; omega
          · have HIN := Lib.hid (decide_eq_false hin)
            have HP : RowKit.Hid (((p.1.put (skey l x) (p.1.name x)).del (vkey x), p.2 ++ [x]) = svAll l s (L.take (m + 1))) := by
              show _ = _
              rw [HTS.out, svAll_snoc, ← hiv.out.eq, svStep_out hin]
            rw [HIN.out]
            clear hin cx
            go_wp2_with (at_builtin; refine wpList_append_lies _ rfl (.tmp 51) (.tmp 53) 28 rfl wa.heap.size 9 i0 (.string ⟨#[]⟩) 1 16 Tryd.underlying28 hi hz0 hz1 hz2 rfl (by decide) _ _ _ rfl (World.ownsRow.alloc hiv.out.row _) ⟨w6.heap.size, 0, none⟩ 1 1 [.string x] rfl rfl (cell_one_new _ _ _) (by simp [Value.oneCell']) (by decide) (by unfold maxLen; omega) (by omega) (by have := hiv.out.chg.size; simp; omega) _ rfl ?_; intro g cap w7 hown7 hgrow7 hlie7 hlt7)
            have hbase : w0.heap.size ≤ wa.heap.size := S5.out.below.size
            obtain ⟨k7, ch7⟩ := hiv.out.kx.push (g := g) hgrow7 (by rcases hlie7 with h | h; exact .inl h; exact .inr (by rw [h]; simp)) hlt7 (fun b hb => Nat.le_trans hbase (hiv.out.row.lt b hb).1)
            have K7 := Lib.hid k7
            have CH7 : RowKit.Hid (Chg (fun b => ¬ X b) wa w7) := hiv.out.chg.trans (ch7.mono (fun b _ hb hx => by
              have h1 := (hiv.out.row.lt b hb).1
              have h2 := S5.out.lt b hx
              omega))
            have RW7 : RowKit.Hid (w7.ownsRow wa.heap.size 9 1 (.slice (some ⟨g, 0, none⟩) (p.2.length + 1) cap) (p.2 ++ [x]).length (strRows (p.2 ++ [x])).flatten) := by
              show World.ownsRow _ _ _ _ _ _ _
              rw [List.length_append, str_flat, List.map_append, ← str_flat p.2]
              exact hown7
            have hpK := hiv.out.lK
            have hpG := hiv.out.lG
            have HSUB : RowKit.Hid (∀ y ∈ p.2 ++ [x], y ∈ L) := fun y hy => by
              rcases List.mem_append.1 hy with h | h
              · exact hiv.out.sub y h
              · rw [List.mem_singleton.1 h]; exact HXM.out
            clear hown7 hgrow7 hlie7 hlt7 hbase k7 ch7 R9 hiv
            go_wp2_with fail
            refine (HKE.out w7 (K7.out.tab HT.out) x (by omega)).mono ?_
            rintro e w8 ⟨rfl, hb⟩
            have K8 := Lib.hid (K7.out.on hb)
            have CH8 := Lib.hid (CH7.out.trans (Chg.of_below hb))
            have RW8 := Lib.hid (ownsRow_chg RW7.out (Chg.of_below (S := fun _ => False) hb) (fun _ _ h => h))
            clear hb K7 CH7 RW7
            go_wp2_with fail
            obtain ⟨own, D, hs, ho2, hd2⟩ := K8.out.ex
            refine (getN_any own D r p.1.K p.1.T p.1.G x w8 hs (by omega)).mono ?_
            rintro e w9 ⟨ts, rfl, hts, hb⟩
            obtain ⟨X1, x1, y1, X2, x2, y2, X3, x3, y3, X4, x4, y4, X5, x5, y5, rfl⟩ := hts.full
            have K9 := Lib.hid (K8.out.on hb)
            have CH9 := Lib.hid (CH8.out.trans (Chg.of_below hb))
            have RW9 := Lib.hid (ownsRow_chg RW8.out (Chg.of_below (S := fun _ => False) hb) (fun _ _ h => h))
            have HSE := Lib.hid (set20_any own D r p.1 (skey l x) _ (p.1.name x) w9 (SK.below hs hb) (by rw [skey_size]; unfold maxLen; omega) (by omega) (by omega) hts)
            have HO2 := Lib.hid ho2
            have HD2 := Lib.hid hd2
            have HNA : RowKit.Hid (p.1.name x = getN p.1.K p.1.T x) := rfl
            clear hs ho2 hd2 hts hb K8 CH8 RW8
            go_wp2_with fail
            refine HSE.out.mono ?_
            rintro e w10 ⟨rfl, ha⟩
            obtain ⟨k10, ch10⟩ := K9.out.after HO2.out HD2.out ha
            have K10 := Lib.hid k10
            have CH10 := Lib.hid (CH9.out.trans (ch10.mono (fun b _ hb hx => hb (.inl hx))))
            have RW10 := Lib.hid (ownsRow_chg RW9.out ch10 (fun b hb hx => hx (.inr (by simpa [Value.ownBlock] using hb))))
            obtain ⟨t1, ht1⟩ : ∃ t1, t1 = p.1.name x := ⟨_, rfl⟩
            have hK1 : (p.1.put (skey l x) (p.1.name x)).K.length ≤ s.K.length + (m + 1) := by
              have := insKS_len (skey l x) p.1.K
              show (insKS _ _).length ≤ _
              omega
            have hG1 : (p.1.put (skey l x) (p.1.name x)).G.length ≤ s.G.length + (2 * m + 1) := by
              have := touchG_len p.1.K p.1.T p.1.G (skey l x)
              show (touchG _ _ _ _).length ≤ _
              omega
            rw [← ht1] at K10 hK1 hG1 HP
            obtain ⟨s1, hs1⟩ : ∃ s1, s1 = p.1.put (skey l x) t1 := ⟨_, rfl⟩
            rw [← hs1] at K10 hK1 hG1 HP
            obtain ⟨own1, D1, hs2, ho1, hd1⟩ := K10.out.ex
            have HPU := Lib.hid (put_any own1 D1 r s1 x _ tz w10 hs2 (by omega) (by omega) (by omega) (tz_is w10 D1))
            unfold numE at HPU
            have HO1 := Lib.hid ho1
            have HD1 := Lib.hid hd1
            have HBZ : RowKit.Hid (s1.bind x tz = s1.del (vkey x)) := rfl
            clear k10 ch10 ha hs2 ho1 hd1 ht1 hs1 HSE HNA HO2 HD2 K9 CH9 RW9
            go_wp2_with fail
            refine HPU.out.mono ?_
            rintro e w11 ⟨rfl, ha⟩
            rw [HBZ.out] at ha
            obtain ⟨k11, ch11⟩ := K10.out.after HO1.out HD1.out ha
            have hG2 : (s1.del (vkey x)).G.length ≤ s.G.length + (2 * m + 2) := by
              have := dropG_len s1.K s1.T s1.G (vkey x)
              show (dropG _ _ _ _).length ≤ _
              omega
            have IV : RowKit.Hid (SvInv w0 wa w11 r X l s L (m + 1) (.slice (some ⟨g, 0, none⟩) (p.2.length + 1) cap) (s1.del (vkey x), p.2 ++ [x])) :=
              { eq := HP.out
                kx := k11.fewer (fun b hb => hb.imp id (fun h => by simpa [Value.ownBlock] using h))
                row := ownsRow_chg RW10.out ch11 (fun b hb hx => hx (.inr (by simpa [Value.ownBlock] using hb)))
                chg := CH10.out.trans (ch11.mono (fun b _ hb hx => hb (.inl hx)))
                lK := Nat.le_trans (List.length_filter_le _ _) hK1
                lG := hG2
                lL := by simp; omega
                sub := HSUB.out }
            clear k11 ch11 ha HPU K10 CH10 RW10 hK1 hG1 hG2
            go_wp2
            go_roundw
            case rel => exact ⟨m + 1, _, by omega, by go_num, IV.out⟩
            case measure => simp [RowKit.intOf]; omega
        · have hme : m = j := by omega
          subst hme
          have HPE : RowKit.Hid (p = svAll l s L) := by
            have := hiv.out.eq
            rwa [List.take_of_length_le (by rw [HLN.out]; exact Nat.le_refl _)] at this
          have K6 := Lib.hid (hiv.out.kx.fewer (Y := X) (fun b hb => .inl hb))
          have CH6 := Lib.hid (C5.out.trans hiv.out.chg)
          have hpK := hiv.out.lK
          have hpG := hiv.out.lG
          have HJ : RowKit.Hid ((Lib.join (p.2.map (·.data.toList)) [32]).length ≤ 1000000) := by
            have h1 := join_le (p.2.map (·.data.toList)) [32] 40 (fun y hy => by
              obtain ⟨z, hz, rfl⟩ := List.mem_map.1 hy
              have := (HNM.out z (hiv.out.sub z hz)).2
              rw [Array.length_toList]
              exact this) (by decide)
            rw [List.length_map] at h1
            have h2 : p.2.length * 41 ≤ 8 * 41 := Nat.mul_le_mul_right _ (by omega)
            show _ ≤ _
            omega
          clear hiv hlt hm
          go_wp2_with fail
          refine (HLI.out wr (K6.out.tab HT.out)).mono ?_
          rintro e w8 ⟨rfl, hb⟩
          have K8 := Lib.hid (K6.out.on hb)
          have CH8 := Lib.hid (CH6.out.trans (Chg.of_below hb))
          have R8 := Lib.hid (R9.out.below hb)
          clear hb K6 CH6 R9
          go_wp2_with fail
          refine (join20_any A9 p.2.length c9 p.2 _ w8 R8.out (by omega) HJ.out).mono ?_
          rintro e w9 ⟨rfl, hb⟩
          have K9 := Lib.hid (K8.out.on hb)
          have CH9 := Lib.hid (CH8.out.trans (Chg.of_below hb))
          clear hb K8 CH8 R8
          obtain ⟨own, D, hs, ho2, hd2⟩ := K9.out.ex
          have HSE := Lib.hid (set20_any own D r p.1 (lkey l) _ (txT (joinB p.2)) w9 hs (by have := HLZ.out; unfold maxLen; omega) (by omega) (by omega) (txT_is w9 D _))
          unfold txE at HSE
          have HO2 := Lib.hid ho2
          have HD2 := Lib.hid hd2
          clear hs ho2 hd2
          go_wp2_with fail
          refine HSE.out.mono ?_
          rintro e w10 ⟨rfl, ha⟩
          obtain ⟨k10, ch10⟩ := K9.out.after HO2.out HD2.out ha
          have K10 : RowKit.Hid (KX w0 w10 r (s.save l L) X) := by
            show KX _ _ _ _ _
            unfold St.save
            rw [← HPE.out]
            exact k10
          have CH10 := Lib.hid (CH9.out.trans ch10)
          clear k10 ch10 ha
          go_wp2
          go_ret
          exact ⟨rfl, K10.out, CH10.out⟩
end Go.Proofs.YtjkofndnhmfnoaaDoor
