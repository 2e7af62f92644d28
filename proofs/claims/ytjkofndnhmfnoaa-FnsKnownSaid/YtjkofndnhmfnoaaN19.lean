/-
  The law FnsMost (package anamnesislaw21): the walk, for any list of bytes that can be read.
-/
import Derived.Test.YtjkofndnhmfnoaaN17
import Derived.Test.YtjkofndnhmfnoaaN18
import Derived.Laws.IdiomStrings
import Derived.StillTailTactics
namespace Go.Proofs.Ytjkofndnhmfnoaa
open Go Go.RowKit Go.Maps

theorem zeroI21 (w : World) : (zeroValue 3).run Try.prog w = .ok (.int .i64 0) w := by kernel_rfl
/-- The map of the names that are there. -/
def oneMap (H : List ByteArray) : DataW Value := smap H fun _ => .int .i64 1
theorem look_in {w : World} {b n : Nat} {H : List ByteArray} (h : w.ownsMap Try.prog 9 heldR b n (oneMap H)) {k : ByteArray} (hk : k.size ≤ maxLen) (hm : k ∈ H) :
    (Instr.lookup 26 (.map (some b)) (.string k) false).run Try.prog w = .ok (.int .i64 1) w := by
  obtain ⟨v, ps, hr, hv⟩ := h.lookup slaw Try.underlying26 (zeroI21 w) (zd := .held (.int .i64 0)) (zp := []) rfl (keyS hk)
  unfold oneMap at hv
  rw [smap_at, if_pos hm] at hv
  unfold heldR at hv
  simp only [Option.some.injEq, Prod.mk.injEq] at hv
  rw [hr, DataW.held.inj hv.1]
theorem look_out {w : World} {b n : Nat} {H : List ByteArray} (h : w.ownsMap Try.prog 9 heldR b n (oneMap H)) {k : ByteArray} (hk : k.size ≤ maxLen) (hm : ¬ k ∈ H) :
    (Instr.lookup 26 (.map (some b)) (.string k) false).run Try.prog w = .ok (.int .i64 0) w := by
  obtain ⟨v, ps, hr, hv⟩ := h.lookup slaw Try.underlying26 (zeroI21 w) (zd := .held (.int .i64 0)) (zp := []) rfl (keyS hk)
  unfold oneMap at hv
  rw [smap_at, if_neg hm] at hv
  unfold heldR at hv
  simp only [Option.some.injEq, Prod.mk.injEq] at hv
  rw [hr, DataW.held.inj hv.1]
theorem len_map {w : World} {b n : Nat} {H : List ByteArray} (h : w.ownsMap Try.prog 9 heldR b n (oneMap H)) (ty : TypeId) :
    (Builtin.len_ #[26] ty #[.map (some b)]).run Try.prog w = .ok (.int .i64 (H.length : Int)) w := by
  have := World.ownsMap.len (w := w) (P := Try.prog) (R := heldR) (b := b) (n := n) h Try.underlying26 ty
  unfold oneMap at this
  rw [smap_size] at this
  exact this
/-- The map's bound is its size. -/
theorem tight21 {w : World} {b n : Nat} {H : List ByteArray} (h : w.ownsMap Try.prog 9 heldR b n (oneMap H)) : w.ownsMap Try.prog 9 heldR b H.length (oneMap H) := by
  have hm : Maps.size (oneMap H) = H.length := smap_size _ _
  obtain ⟨es, clock, hb, Ft, hs, hD⟩ := h
  refine ⟨es, clock, hb, Ft, ?_, hD⟩
  rw [hD] at hm
  have e1 : Maps.size (DataW.map ((es.toList.map (WideElems.rg Try.prog 9 heldR)).foldr DataW.insert [])) = es.size := by simp [Maps.size, length_sorted]
  omega
theorem oneMap_put (H : List ByteArray) (k : ByteArray) : (oneMap H).put (.string (kb k)) (.held (.int .i64 1)) = oneMap (insKS k H) := by
  unfold oneMap
  rw [smap_put]
  congr 1
  funext x
  unfold upd
  split <;> rfl
theorem oneMap_del (H : List ByteArray) (k : ByteArray) : (oneMap H).del (.string (kb k)) = oneMap (H.filter (· ≠ k)) := smap_del _ _ _
/-- The store and the map beside it, in memory. -/
structure FS (w0 wr : World) (r bm : Nat) (own : Nat → Prop) (s : St) (H : List ByteArray) : Prop where
  ss : SS wr own (fun _ => False) r s
  map : wr.ownsMap Try.prog 9 heldR bm H.length (oneMap H)
  nb : ¬ own bm
  new : ∀ b, own b → w0.heap.size ≤ b
  nbm : w0.heap.size ≤ bm
  lbm : bm < wr.heap.size
  below : Below w0.heap.size w0 wr
theorem FS.on {w0 wr w2 : World} {r bm : Nat} {own : Nat → Prop} {s : St} {H : List ByteArray} (h : FS w0 wr r bm own s H) (hb : Below wr.heap.size wr w2) : FS w0 w2 r bm own s H :=
  ⟨SK.below h.ss hb, ownsMap_chg h.map (S := fun _ => False) (Chg.of_below hb) id, h.nb, h.new, h.nbm, Nat.lt_of_lt_of_le h.lbm hb.size, h.below.trans (hb.mono h.below.size)⟩
theorem FS.after {w0 wr w2 : World} {r bm : Nat} {own : Nat → Prop} {s s' : St} {H : List ByteArray} (h : FS w0 wr r bm own s H) (ha : After wr w2 own (fun _ => False) r s') : ∃ own', FS w0 w2 r bm own' s' H := by
  obtain ⟨own', h1, h2⟩ := ha
  refine ⟨own', h1, ownsMap_chg h.map h2.chg h.nb, fun hb => ?_, fun b hb => ?_, h.nbm, Nat.lt_of_lt_of_le h.lbm h2.chg.size, h.below.trans (h2.chg.below h.below.size h.new)⟩
  · rcases h2.new bm hb with h3 | h3
    · exact h.nb h3
    · have := h.lbm
      omega
  · rcases h2.new b hb with h3 | h3
    · exact h.new b h3
    · exact Nat.le_trans h.below.size h3
theorem FS.turn {w0 wr w2 : World} {r bm n : Nat} {own : Nat → Prop} {s : St} {H H' : List ByteArray} (h : FS w0 wr r bm own s H) (hg : wr.grownBy w2 (some bm)) (hm : w2.ownsMap Try.prog 9 heldR bm n (oneMap H')) : FS w0 w2 r bm own s H' := by
  have hc : Chg (fun j => j = bm) wr w2 := ⟨hg.os, hg.tape, hg.output, hg.size, fun k hk hS => hg.block k hk (fun e => hS (by cases e; rfl))⟩
  refine ⟨SK.chg h.ss hc (fun b hb => ⟨by rw [hb]; exact h.nb, id⟩), tight21 hm, h.nb, h.new, h.nbm, Nat.lt_of_lt_of_le h.lbm hc.size, h.below.trans (hc.below h.below.size (fun b hb => by rw [hb]; exact h.nbm))⟩
theorem byteUp (a : Int) (h0 : 0 ≤ a) (h1 : a ≤ 15) : IntKind.u8.wrap (65 + a) = 65 + a := by
  simp [IntKind.wrap, IntKind.bits, IntKind.signed]
  omega
theorem u8_back (a : Int) (h0 : 0 ≤ a) (h1 : a ≤ 255) : ((UInt8.ofNat a.toNat).toNat : Int) = a := by
  have h2 : a.toNat < 256 := by omega
  have h3 : (UInt8.ofNat a.toNat).toNat = a.toNat := by
    rw [UInt8.toNat_ofNat']
    exact Nat.mod_eq_of_lt h2
  rw [h3]
  omega
theorem two_letters (w : World) (x : Int) (h0 : 0 ≤ x) (h1 : x ≤ 255) :
    (convert 22 9 (.slice (some ⟨w.heap.size, 0, none⟩) 2 2)).run Try.prog (w.alloc (.cells #[.int .u8 (65 + x / 16), .int .u8 (65 + x % 16)] 5)) = .ok (.string ⟨#[UInt8.ofNat (65 + x / 16).toNat, UInt8.ofNat (65 + x % 16).toNat]⟩) (w.alloc (.cells #[.int .u8 (65 + x / 16), .int .u8 (65 + x % 16)] 5)) := by
  have h := run_convert_bytes_back (P := Try.prog) (w.alloc (.cells #[.int .u8 (65 + x / 16), .int .u8 (65 + x % 16)] 5)) 22 9 5 ⟨w.heap.size, 0, none⟩ 2 [UInt8.ofNat (65 + x / 16).toNat, UInt8.ofNat (65 + x % 16).toNat] Try.underlying22 Try.underlying5 Try.underlying9 (fun j hj => by
    have e : (⟨w.heap.size, 0, none⟩ : Addr).add j = ⟨w.heap.size, j, none⟩ := by unfold Addr.add; split <;> simp_all
    rw [e, World.cell?_alloc_mark]
    match j, hj with
    | 0, _ =>
      show _ = some (Value.int .u8 ((UInt8.ofNat (65 + x / 16).toNat).toNat : Int))
      rw [u8_back _ (by omega) (by omega)]
      rfl
    | 1, _ =>
      show _ = some (Value.int .u8 ((UInt8.ofNat (65 + x % 16).toNat).toNat : Int))
      rw [u8_back _ (by omega) (by omega)]
      rfl)
  exact h
set_option maxRecDepth 100000 in
set_option maxHeartbeats 4000000 in
theorem fnsMost_any (A : Option Addr) (n c : Nat) (l : List Int) (w : World) (hx : Rd w (Old w) 1 A n c (intRows .u8 l)) (hl : ∀ x ∈ l, 0 ≤ x ∧ x ≤ 255) :
    Calls Try.prog 3 #[.slice A n c] w fun e w' => e = .returned (.bool true) ∧ Below w.heap.size w w' := by
  have hlen : l.length = n := by have := hx.len; simpa [intRows] using this
  have hn : n ≤ 9223372036854775807 := by have h1 := hx.le; have h2 := hx.max; unfold maxLen at h2; omega
  obtain ⟨-, hcc⟩ := hx.one
  have HC := Lib.hid hcc
  have H2 := Lib.hid hl
  have H3 := Lib.hid hlen
  clear hx hcc hl hlen
  by_cases h120 : 120 < n
  · have q : (120 : Int) < (n : Int) := by omega
    go_enter Try.func3, Try.ntmps3
    go_wp2_with fail
    refine (awake21_any _).mono ?_
    rintro e w1 ⟨rfl, hb1⟩
    have B1 := Lib.hid hb1
    clear hb1
    go_wp2
    go_ret
    exact ⟨rfl, B1.out⟩
  have q : ¬ (120 : Int) < (n : Int) := by omega
  have hmm := @run_makeMap Try.prog
  go_enter Try.func3, Try.ntmps3
  go_wp2_with fail
  refine (cNew_any (fun _ => False) (fun _ => tz) w (fun _ h => h.elim)).mono ?_
  rintro e w1 ⟨rfl, hs1, hb1⟩
  have F1 : RowKit.Hid (∃ own, FS w (w1.alloc (.map #[] 0)) (w.heap.size + 2) w1.heap.size own ⟨[], fun _ => tz, []⟩ []) :=
    ⟨_, SK.below hs1 ((Below.refl _ _).alloc (Nat.le_refl _) _), World.ownsMap_made w1 _ _ _, fun h => by have := SK.lt hs1 _ h; omega, fun b hb => hb.1, hb1.size, by simp, (hb1.alloc hb1.size _)⟩
  obtain ⟨r, hr⟩ : ∃ r, r = w.heap.size + 2 := ⟨_, rfl⟩
  obtain ⟨bm, hbm⟩ : ∃ bm, bm = w1.heap.size := ⟨_, rfl⟩
  rw [← hr, ← hbm] at F1
  rw [← hr]
  clear hs1 hb1 hr
  go_upto_region 6 with fail
  go_wp2_with fail
  rw [← hbm]
  obtain ⟨wm, hwm⟩ : ∃ wm, wm = w1.alloc (.map #[] 0) := ⟨_, rfl⟩
  rw [← hwm] at F1 ⊢
  clear hwm hbm hmm
  go_loopg [5, 6] n (fun z la i wr => ∃ (j : Nat) (la' : Int), j + z = n ∧ la = .int .i64 la' ∧ i = .int .i64 (j : Int) ∧ RowKit.Hid (∃ own s H, FS w wr r bm own s H ∧ FM ⟨#[]⟩ s H la' j ∧ H.length ≤ 50))
  case atStart =>
    obtain ⟨own, h⟩ := F1.out
    exact ⟨0, 0, by omega, rfl, rfl, own, _, _, h, FM.zero _ _, by decide⟩
  case round =>
    clear F1
    obtain ⟨j, la, hjz, rfl, rfl, hst⟩ := hrel
    obtain ⟨own, s, H, hfs, hfm, hH⟩ := hst.out
    have FS1 := Lib.hid hfs
    have FM1 := Lib.hid hfm
    have hla0 := hfm.l0
    have hla1 := hfm.l1
    clear hfs hfm hst
    by_cases hlt : j < n
    · have q1 : (j : Int) < (n : Int) := by omega
      obtain ⟨b, off, hA, hb, hbl, hc⟩ := HC.out (by omega)
      obtain ⟨x, hxk⟩ : ∃ x, l[j]? = some x := ⟨_, List.getElem?_eq_getElem (by rw [H3.out]; exact hlt)⟩
      have hx01 := H2.out x (List.mem_of_getElem? hxk)
      obtain ⟨hx0, hx1⟩ := hx01
      have cx := below_cell FS1.out.below (hc j x hxk)
      subst hA
      clear hc hxk hb hbl
      go_upto_region 11 with fail
      go_still_tail 12, (by kernel_rfl)
      change wpList _ _ _ _ _ wr.drew
      have FS2 := Lib.hid (FS1.out.on (below_drewN (Below.refl _ wr) 1))
      change RowKit.Hid (FS w wr.drew r bm own s H) at FS2
      generalize wr.drew = wd at *
      clear FS1 cx
      have hcv := two_letters wd x hx0 hx1
      have w1 := byteUp (x / 16) (by omega) (by omega)
      have w2 := byteUp (x % 16) (by omega) (by omega)
      have HNM : RowKit.Hid ((⟨#[70]⟩ : ByteArray) ++ (⟨#[UInt8.ofNat (65 + x / 16).toNat, UInt8.ofNat (65 + x % 16).toNat]⟩ : ByteArray) = nm3 x) := rfl
      have HNB := Lib.hid (nm3_name hx0 hx1)
      have hns : (nm3 x).size = 3 := rfl
      go_upto_region 12 with fail
      rw [HNM.out]
      have FS3 := Lib.hid (FS2.out.on ((Below.refl _ wd).alloc (Nat.le_refl _) (.cells #[.int .u8 (65 + x / 16), .int .u8 (65 + x % 16)] 5)))
      generalize hwe : World.alloc wd _ = we
      rw [hwe] at FS3
      clear hwe hcv w1 w2 FS2 HNM
      generalize nm3 x = nm at *
      have hne : nm ≠ ⟨#[]⟩ := fun e => by rw [e] at hns; cases hns
      by_cases h5 : j % 5 = 4
      · have e5 : ((j : Int) % 5 == 4) = true := by rw [beq_iff_eq]; omega
        clear h5
        by_cases hin : nm ∈ H
        · go_wp2_with fail
          refine (erase_ok own (fun _ => False) r s nm we FS3.out.ss (by omega) (Nat.le_trans FM1.out.lG (by omega)) (Nat.le_trans FM1.out.lK (by omega)) HNB.out (.inr (FM1.out.in_ hin))).mono ?_
          rintro e w2 ⟨rfl, ha⟩
          obtain ⟨own2, fs2⟩ := FS3.out.after ha
          have FS4 := Lib.hid fs2
          have lk := look_in fs2.map (k := nm) (by unfold maxLen; omega) hin
          have FM2 := Lib.hid (FM1.out.erase nm)
          have hk := keyS (k := nm) (by unfold maxLen; omega)
          have hH2 := List.length_filter_le (fun y => decide (y ≠ nm)) H
          clear ha fs2 hin hns
          go_wp2_with (at_delete; refine wpList_delete_own _ rfl _ _ 26 9 rfl 3 slaw Try.underlying26 heldR bm H.length (oneMap H) rfl FS4.out.map (.string nm) (.string (kb nm)) rfl hk ?_; intro w4 hown4 hturn4)
          rw [oneMap_del] at hown4
          have FS5 := Lib.hid (FS4.out.turn hturn4.grown hown4)
          clear hown4 hturn4 lk hk
          go_wp2
          go_roundg (n - (j + 1))
          case measure => omega
          case rel => exact ⟨j + 1, la, by omega, rfl, by go_num, own2, _, _, FS5.out, FM2.out, by omega⟩
        · go_wp2_with fail
          refine (erase_none own (fun _ => False) r s nm we FS3.out.ss (by omega) (by rw [FM1.out.out hin hne]; decide)).mono ?_
          rintro e w2 ⟨rfl, ha⟩
          have fs2 := FS3.out.on ha
          have FS4 := Lib.hid fs2
          have lk := look_out fs2.map (k := nm) (by unfold maxLen; omega) hin
          have FM2 := Lib.hid (FM1.out.none hin)
          have hk := keyS (k := nm) (by unfold maxLen; omega)
          have hH2 := List.length_filter_le (fun y => decide (y ≠ nm)) H
          clear ha fs2 hin hns
          go_wp2_with (at_delete; refine wpList_delete_own _ rfl _ _ 26 9 rfl 3 slaw Try.underlying26 heldR bm H.length (oneMap H) rfl FS4.out.map (.string nm) (.string (kb nm)) rfl hk ?_; intro w4 hown4 hturn4)
          rw [oneMap_del] at hown4
          have FS5 := Lib.hid (FS4.out.turn hturn4.grown hown4)
          clear hown4 hturn4 lk hk
          go_wp2
          go_roundg (n - (j + 1))
          case measure => omega
          case rel => exact ⟨j + 1, la, by omega, rfl, by go_num, own, _, _, FS5.out, FM2.out, by omega⟩
      · have e5 : ((j : Int) % 5 == 4) = false := by rw [beq_eq_false_iff_ne]; omega
        clear h5
        by_cases hin : nm ∈ H
        · have HF := Lib.hid (fix_ok own (fun _ => False) r s nm we FS3.out.ss (by omega) (Nat.le_trans FM1.out.lK (by omega)) (fun k hk => Nat.le_trans (FM1.out.zK k hk) (by decide)) HNB.out (Nat.le_trans FM1.out.lG (by omega)) (Nat.le_trans FM1.out.lK (by omega)) (.inr (FM1.out.in_ hin)) (by rw [FM1.out.lst]; omega))
          go_wp2_with fail
          refine HF.out.mono ?_
          rintro e w2 ⟨rfl, ha⟩
          obtain ⟨own2, fs2⟩ := FS3.out.after ha
          have FS4 := Lib.hid fs2
          have lk := look_in fs2.map (k := nm) (by unfold maxLen; omega) hin
          have ln := len_map fs2.map
          have FM2 := Lib.hid (FM1.out.fix HNB.out (by omega))
          have hk := keyS (k := nm) (by unfold maxLen; omega)
          have HL2 : RowKit.Hid ((insKS nm H).length ≤ 50) := by
            rw [insKS_in FM1.out.ris hin]; exact hH
          have HGN := Lib.hid (fix_name s nm)
          have HLV := Lib.hid FM1.out.lst
          
          clear ha fs2 hin
          go_wp2_with (at_mapUpdate; refine wpList_mapUpdate_own _ rfl _ _ _ 26 rfl 9 3 slaw Try.underlying26 heldR bm H.length (oneMap H) rfl FS4.out.map (by unfold maxLen; omega) (.string nm) (.int .i64 1) (.string (kb nm)) rfl rfl hk (.held (.int .i64 1)) [] rfl ?_; intro w4 hown4 hgrow4)
          rw [oneMap_put] at hown4
          have FS5 := Lib.hid (FS4.out.turn hgrow4 hown4)
          clear hown4 hgrow4 lk hk ln
          go_wp2_with fail
          refine (getN_any _ _ _ (s.fix nm).K (s.fix nm).T (s.fix nm).G nm w4 FS5.out.ss (by omega)).mono ?_
          rintro e w5 ⟨ts, rfl, ht, hb5⟩
          obtain ⟨t, htt⟩ : ∃ t, t = getN (s.fix nm).K (s.fix nm).T nm := ⟨_, rfl⟩
          rw [← htt] at ht
          have hv : t.f.version = la + 1 := by
            rw [htt, ← HLV.out]
            exact congrArg (fun z : TD => z.f.version) HGN.out
          obtain ⟨A1, n1, c1, A2, n2, c2, A3, n3, c3, A4, n4, c4, A5, n5, c5, rfl⟩ := ht.full
          rw [hv]
          have f1 := field_func w5 t.kind t.n (la + 1) t.v.char A1 A2 A3 A4 A5 n1 c1 n2 c2 n3 c3 n4 c4 n5 c5 t.f.name t.f.result t.f.left t.f.right t.s
          have f2 := field_ver w5 (la + 1) A3 A4 n3 c3 n4 c4 t.f.name t.f.result t.f.left t.f.right
          have fne : ((la + 1) != (la + 1)) = false := by simp
          have FS6 := Lib.hid (FS5.out.on hb5)
          clear ht hv htt hb5 FS5
          go_wp2_with fail
          refine (fns_any _ _ _ (s.fix nm) w5 FS6.out.ss (Nat.le_trans FM2.out.lK (by omega)) (fun k hk => Nat.le_trans (FM2.out.zK k hk) (by decide))).mono ?_
          rintro e w6 ⟨A6, c6, rfl, -, hb6⟩
          have FS7 := Lib.hid (FS6.out.on hb6)
          rw [FM2.out.len]
          have ln := len_map FS7.out.map
          have nne : (((insKS nm H).length : Int) != ((insKS nm H).length : Int)) = false := by simp
          have h50 : ¬ (50 : Int) < ((insKS nm H).length : Int) := by have := HL2.out; omega
          clear hb6 FS6 f1 f2 fne
          go_wp2
          go_roundg (n - (j + 1))
          case measure => omega
          case rel => exact ⟨j + 1, la + 1, by omega, rfl, by go_num, own2, _, _, FS7.out, FM2.out, HL2.out⟩
        · by_cases hroom : H.length < 50
          · have HF := Lib.hid (fix_ok own (fun _ => False) r s nm we FS3.out.ss (by omega) (Nat.le_trans FM1.out.lK (by omega)) (fun k hk => Nat.le_trans (FM1.out.zK k hk) (by decide)) HNB.out (Nat.le_trans FM1.out.lG (by omega)) (Nat.le_trans FM1.out.lK (by omega)) (.inl ⟨FM1.out.out hin hne, by rw [FM1.out.len]; exact hroom⟩) (by rw [FM1.out.lst]; omega))
            go_wp2_with fail
            refine HF.out.mono ?_
            rintro e w2 ⟨rfl, ha⟩
            obtain ⟨own2, fs2⟩ := FS3.out.after ha
            have FS4 := Lib.hid fs2
            have lk := look_out fs2.map (k := nm) (by unfold maxLen; omega) hin
            have ln := len_map fs2.map
            have FM2 := Lib.hid (FM1.out.fix HNB.out (by omega))
            have hk := keyS (k := nm) (by unfold maxLen; omega)
            have HL2 : RowKit.Hid ((insKS nm H).length ≤ 50) := by
              rw [insKS_out hin]; exact hroom
            have HGN := Lib.hid (fix_name s nm)
            have HLV := Lib.hid FM1.out.lst
            have hroomi : (H.length : Int) < 50 := by omega
            clear ha fs2 hin
            go_wp2_with (at_mapUpdate; refine wpList_mapUpdate_own _ rfl _ _ _ 26 rfl 9 3 slaw Try.underlying26 heldR bm H.length (oneMap H) rfl FS4.out.map (by unfold maxLen; omega) (.string nm) (.int .i64 1) (.string (kb nm)) rfl rfl hk (.held (.int .i64 1)) [] rfl ?_; intro w4 hown4 hgrow4)
            rw [oneMap_put] at hown4
            have FS5 := Lib.hid (FS4.out.turn hgrow4 hown4)
            clear hown4 hgrow4 lk hk ln
            go_wp2_with fail
            refine (getN_any _ _ _ (s.fix nm).K (s.fix nm).T (s.fix nm).G nm w4 FS5.out.ss (by omega)).mono ?_
            rintro e w5 ⟨ts, rfl, ht, hb5⟩
            obtain ⟨t, htt⟩ : ∃ t, t = getN (s.fix nm).K (s.fix nm).T nm := ⟨_, rfl⟩
            rw [← htt] at ht
            have hv : t.f.version = la + 1 := by
              rw [htt, ← HLV.out]
              exact congrArg (fun z : TD => z.f.version) HGN.out
            obtain ⟨A1, n1, c1, A2, n2, c2, A3, n3, c3, A4, n4, c4, A5, n5, c5, rfl⟩ := ht.full
            rw [hv]
            have f1 := field_func w5 t.kind t.n (la + 1) t.v.char A1 A2 A3 A4 A5 n1 c1 n2 c2 n3 c3 n4 c4 n5 c5 t.f.name t.f.result t.f.left t.f.right t.s
            have f2 := field_ver w5 (la + 1) A3 A4 n3 c3 n4 c4 t.f.name t.f.result t.f.left t.f.right
            have fne : ((la + 1) != (la + 1)) = false := by simp
            have FS6 := Lib.hid (FS5.out.on hb5)
            clear ht hv htt hb5 FS5
            go_wp2_with fail
            refine (fns_any _ _ _ (s.fix nm) w5 FS6.out.ss (Nat.le_trans FM2.out.lK (by omega)) (fun k hk => Nat.le_trans (FM2.out.zK k hk) (by decide))).mono ?_
            rintro e w6 ⟨A6, c6, rfl, -, hb6⟩
            have FS7 := Lib.hid (FS6.out.on hb6)
            rw [FM2.out.len]
            have ln := len_map FS7.out.map
            have nne : (((insKS nm H).length : Int) != ((insKS nm H).length : Int)) = false := by simp
            have h50 : ¬ (50 : Int) < ((insKS nm H).length : Int) := by have := HL2.out; omega
            clear hb6 FS6 f1 f2 fne
            go_wp2
            go_roundg (n - (j + 1))
            case measure => omega
            case rel => exact ⟨j + 1, la + 1, by omega, rfl, by go_num, own2, _, _, FS7.out, FM2.out, HL2.out⟩
          · have hfull : 50 ≤ H.length := by omega
            clear hroom
            have HF := Lib.hid (fix_full own (fun _ => False) r s nm we FS3.out.ss (by omega) (Nat.le_trans FM1.out.lK (by omega)) (fun k hk => Nat.le_trans (FM1.out.zK k hk) (by decide)) HNB.out (FM1.out.out hin hne) (by rw [FM1.out.len]; exact hfull))
            go_wp2_with fail
            refine HF.out.mono ?_
            rintro e w2 ⟨rfl, ha⟩
            have fs2 := FS3.out.on ha
            have FS4 := Lib.hid fs2
            have lk := look_out fs2.map (k := nm) (by unfold maxLen; omega) hin
            have ln := len_map fs2.map
            
            have hk := keyS (k := nm) (by unfold maxLen; omega)
            have hfulli : ¬ (H.length : Int) < 50 := by omega
            clear ha fs2 hin hk hns
            go_wp2_with fail
            refine (fns_any _ _ _ s w2 FS4.out.ss (Nat.le_trans FM1.out.lK (by omega)) (fun k hk => Nat.le_trans (FM1.out.zK k hk) (by decide))).mono ?_
            rintro e w6 ⟨A6, c6, rfl, -, hb6⟩
            have FS7 := Lib.hid (FS4.out.on hb6)
            rw [FM1.out.len]
            have ln := len_map FS7.out.map
            have nne : ((H.length : Int) != (H.length : Int)) = false := by simp
            have h50 : ¬ (50 : Int) < (H.length : Int) := by omega
            have FM2 := Lib.hid FM1.out.more
            clear hb6 FS4 lk
            go_wp2
            go_roundg (n - (j + 1))
            case measure => omega
            case rel => exact ⟨j + 1, la, by omega, rfl, by go_num, own, _, _, FS7.out, FM2.out, hH⟩
    · have hjn : j = n := by omega
      subst hjn
      have BL := Lib.hid FS1.out.below
      clear FS1 FM1
      go_wp2_with fail
      refine (awake21_any _).mono ?_
      rintro e w2 ⟨rfl, hb2⟩
      have B2 := Lib.hid (BL.out.trans (hb2.mono BL.out.size))
      clear hb2
      go_wp2
      go_ret
      exact ⟨rfl, B2.out⟩
end Go.Proofs.Ytjkofndnhmfnoaa
