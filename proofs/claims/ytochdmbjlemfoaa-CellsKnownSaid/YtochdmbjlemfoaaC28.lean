/-
  maps.Copy of things into a new map, and the contract of Copy of a store. Of any store in memory; and of nil ones.
-/
import Derived.Test.YtochdmbjlemfoaaC8
import Derived.Test.YtochdmbjlemfoaaC14
namespace Go.Proofs.Ytochdmbjlemfoaa
open Go Go.RowKit Go.Maps Go.ChangeMaps

theorem held_at {K : List ByteArray} {f : ByteArray → Value} {x : List UInt8} {c : Value} {y : DataW Value × List MemPlace} (hv : heldR c = some y) (hat : ∀ zd, (smap K f).atKey (.string x) zd = y.1) : (⟨x.toArray⟩ : ByteArray) ∈ K ∧ f ⟨x.toArray⟩ = c := by
  have hx : kb ⟨x.toArray⟩ = x := rfl
  unfold heldR at hv
  simp only [Option.some.injEq] at hv
  rw [← hv] at hat
  have h := fun zd => (smap_at K f ⟨x.toArray⟩ zd).symm.trans (hat zd)
  by_cases hm : (⟨x.toArray⟩ : ByteArray) ∈ K
  · have h1 := h (.held c)
    rw [if_pos hm] at h1
    exact ⟨hm, DataW.held.inj h1⟩
  · exfalso
    have h1 := h (.map [])
    rw [if_neg hm] at h1
    cases h1
/-- What has been copied. -/
structure CopyRel (w wr : World) (bs bd r : Nat) (K : List ByteArray) (f : ByteArray → Value) (left : Lit → Bool) (cnt : Nat) (ss : List (List UInt8)) (Kd : List ByteArray) (fd : ByteArray → Value) : Prop where
  rg : wr.ranges Try.prog 9 heldR bs r K.length (smap K f) left cnt
  cnt : ss.length + cnt ≤ Maps.size (smap K f)
  dst : wr.ownsMap Try.prog 9 heldR bd Kd.length (smap Kd fd)
  rise : RisS Kd
  has : ∀ x ∈ Kd, x ∈ K ∧ fd x = f x
  mem : ∀ x, x ∈ Kd ↔ kb x ∈ ss
  col : Collected (smap K f) left ss
  chg : Chg (fun b => b = bd) w wr
  rge : w.heap.size ≤ r

set_option maxRecDepth 100000 in
set_option maxHeartbeats 1600000 in
theorem mpCopy_any (bs bd : Nat) (K : List ByteArray) (f fd0 : ByteArray → Value) (T : ByteArray → TD) (D : Nat → Prop) (w : World) (hs : w.ownsMap Try.prog 9 heldR bs K.length (smap K f)) (hd : w.ownsMap Try.prog 9 heldR bd 0 (smap [] fd0)) (hne : bs ≠ bd) (hr : RisS K) (hsz : ∀ k ∈ K, k.size ≤ maxLen) (hK : K.length ≤ 1000000) (ht : ∀ k ∈ K, ∃ ts, f k = .agg (List.toArray ts) ∧ TIs w D ts (T k)) :
    Calls Try.prog 89 #[.map (some bd), .map (some bs)] w fun e w' => e = .returned (.tuple #[]) ∧ (∃ fd, w'.ownsMap Try.prog 9 heldR bd K.length (smap K fd) ∧ ∀ k ∈ K, fd k = f k) ∧ Chg (fun b => b = bd) w w' := by
  have hsize := smap_size K f
  have HM := Lib.hid hs
  have HD := Lib.hid hd
  have HR := Lib.hid hr
  have HSZ := Lib.hid hsz
  have HT := Lib.hid ht
  have HZ := Lib.hid hsize
  have HNE := Lib.hid hne
  have hbl := hs.lt
  have hdl := hd.lt
  clear hs hd hr hsz ht hsize hne
  go_enter Try.func89, Try.ntmps89
  go_wp2_with (at_range; refine wpList_range_own _ rfl _ 116 rfl 9 45 slaw Try.underlying116 _ bs K.length (smap K f) rfl HM.out ?_; intro w0 hrg0 hg0 hs0)
  go_frame
  have C0 : RowKit.Hid (CopyRel w w0 bs bd w.heap.size K f _ _ [] [] fd0) := ⟨hrg0, by simp, HD.out.kept hg0 (by simp), List.Pairwise.nil, by simp, by simp, Collected.start _, ⟨hg0.os, hg0.tape, hg0.output, hg0.size, fun k hk _ => hg0.block k hk (by simp)⟩, Nat.le_refl _⟩
  clear hs0 hrg0 hg0
  go_loopw [4] (fun _ wr => ∃ (left : Lit → Bool) (cnt : Nat) (ss : List (List UInt8)) (Kd : List ByteArray) (fd : ByteArray → Value), RowKit.Hid (CopyRel w wr bs bd w.heap.size K f left cnt ss Kd fd)) (fun _ wr => wr.rangeLeft bs w.heap.size)
  case atStart => exact ⟨_, _, _, _, _, C0.out⟩
  case round =>
    clear C0
    obtain ⟨left, cnt, ss, Kd, fd, hst⟩ := hrel
    have hcs2 := hst.out.cnt
    rw [HZ.out] at hcs2
    go_wp2_with (at_next; refine wpList_next_ranges _ rfl _ rfl 9 slaw heldR encStr (fun v => v) (fun key kl hk => by obtain ⟨x, hx, _⟩ := Maps.keyOf_str Try.underlying9 hk; exact ⟨x, hx⟩) (fun v y _ => ⟨v, rfl⟩) bs w.heap.size K.length _ _ _ rfl hst.out.rg ?_ ?_)
    · intro hc0 hl0
      have hp := hst.out.col.perm HM.out slaw Try.underlying9 hl0
      rw [smap_keys] at hp
      have hkk : Kd = K := risS_ext hst.out.rise HR.out (fun x => by
        rw [hst.out.mem, hp.mem_iff]
        constructor
        · intro hx
          obtain ⟨y, hy, e⟩ := List.mem_map.1 hx
          rw [← kb_inj e]; exact hy
        · intro hx
          exact List.mem_map.2 ⟨x, hx, rfl⟩)
      subst hkk
      have HF := Lib.hid (show ∀ k ∈ Kd, fd k = f k from fun k hk => (hst.out.has k hk).2)
      clear hp hl0 hc0
      go_wp2
      go_end0
      exact ⟨rfl, ⟨fd, hst.out.dst, HF.out⟩, hst.out.chg⟩
    · intro x c kl yd yp w2 cnt2 hkey hlk hv hat hrg2 hlt hg2 hs2 hen
      obtain ⟨x', ex, rfl, hxl⟩ := Maps.keyOf_str Try.underlying9 hkey
      obtain rfl : x = x' := encStr_inj ex
      obtain ⟨hkm, hfc⟩ := held_at hv hat
      obtain ⟨ts, e1, ht⟩ := HT.out _ hkm
      rw [hfc] at e1
      obtain ⟨A1, n1, c1, A2, n2, c2, A3, n3, c3, A4, n4, c4, A5, n5, c5, rfl⟩ := ht.full
      obtain ⟨k, hkx⟩ : ∃ k : ByteArray, k = ⟨x.toArray⟩ := ⟨_, rfl⟩
      rw [← hkx] at hkm hfc e1 ht
      generalize T k = t at *
      subst e1
      have hsr := hst.out.rg.lt
      have hdn : w.heap.size ≠ bd := by omega
      have hD2 := hst.out.dst.kept hg2 (by intro e; injection e with e; omega)
      have hC2 := hst.out.col.step hlk hat
      have hX2 : Chg (fun b => b = bd) w w2 := ⟨hg2.os.trans hst.out.chg.os, hg2.tape.trans hst.out.chg.tape, hg2.output.trans hst.out.chg.output, Nat.le_trans hst.out.chg.size hg2.size, fun i hi hn => (hg2.block i (Nat.lt_of_lt_of_le hi hst.out.chg.size) (fun e => by injection e with e; omega)).trans (hst.out.chg.block i hi hn)⟩
      have HOLD := Lib.hid hst.out.rg
      have HD2 := Lib.hid hD2
      have HC2 := Lib.hid hC2
      have HX2 := Lib.hid hX2
      have HRG := Lib.hid hrg2
      have HLT := Lib.hid hlt
      have HST := Lib.hid hst.out
      have HKEY := Lib.hid hkey
      have HKX := Lib.hid (show kb k = x by rw [hkx]; rfl)
      have HKM := Lib.hid hkm
      have HFC := Lib.hid hfc
      have hkdl : Kd.length ≤ 1000000 := by
        have h1 := List.Nodup.length_le_of_subset (risS_nodup hst.out.rise) (fun y hy => (hst.out.has y hy).1)
        omega
      clear hst hD2 hC2 hX2 hrg2 hlt hkey hkx hkm hfc hlk hv hat hg2 ht hsr
      go_wp2_with (at_mapUpdate; refine wpList_mapUpdate_own _ rfl _ _ _ 116 rfl 9 45 slaw Try.underlying116 heldR bd Kd.length (smap Kd fd) rfl (HD2.out.alloc _) (by unfold maxLen; omega) (encStr x) (.agg #[.int .u8 t.kind, .bool t.v.char, .slice A1 n1 c1, .slice A2 n2 c2, .string t.f.name, .string t.f.result, .string t.f.left, .string t.f.right, .slice A3 n3 c3, .slice A4 n4 c4, .int .i64 t.f.version, .slice A5 n5 c5, .int .i64 t.n, .string t.s]) (.string x) rfl rfl HKEY.out (.held (.agg #[.int .u8 t.kind, .bool t.v.char, .slice A1 n1 c1, .slice A2 n2 c2, .string t.f.name, .string t.f.result, .string t.f.left, .string t.f.right, .slice A3 n3 c3, .slice A4 n4 c4, .int .i64 t.f.version, .slice A5 n5 c5, .int .i64 t.n, .string t.s])) [] rfl ?_; intro w5 hown5 hgrow5)
      have hrg5 := (HRG.out.alloc (.cells #[.int .u8 t.kind, .bool t.v.char, .slice A1 n1 c1, .slice A2 n2 c2, .string t.f.name, .string t.f.result, .string t.f.left, .string t.f.right, .slice A3 n3 c3, .slice A4 n4 c4, .int .i64 t.f.version, .slice A5 n5 c5, .int .i64 t.n, .string t.s] 45)).kept hgrow5 (by intro e; injection e with e; exact HNE.out e) (by intro e; injection e with e; exact hdn e)
      have HR5 := Lib.hid hrg5
      have PF : RowKit.Hid (CopyRel w w5 bs bd w.heap.size K f (fun z => left z && !z.sameKey (.string x)) cnt2 (ss ++ [x]) (insKS k Kd) (upd fd k (.agg #[.int .u8 t.kind, .bool t.v.char, .slice A1 n1 c1, .slice A2 n2 c2, .string t.f.name, .string t.f.result, .string t.f.left, .string t.f.right, .slice A3 n3 c3, .slice A4 n4 c4, .int .i64 t.f.version, .slice A5 n5 c5, .int .i64 t.n, .string t.s]))) := by
        have hput := hown5
        rw [← HKX.out, smap_put] at hput
        have hlt := HLT.out
        refine ⟨hrg5, ?_, tightS hput (smap_size _ _), risS_insKS _ _ HST.out.rise, fun y hy => ?_, fun y => ?_, HC2.out, ?_, HST.out.rge⟩
        · rw [HZ.out]; simp; omega
        · by_cases hyk : y = k
          · rw [hyk]
            exact ⟨HKM.out, by rw [upd_same, HFC.out]⟩
          · rw [upd_other _ _ _ _ hyk]
            exact HST.out.has y (((mem_insKS k Kd y).1 hy).resolve_left hyk)
        · rw [mem_insKS, List.mem_append, List.mem_singleton, HST.out.mem, ← HKX.out]
          constructor
          · rintro (h | h)
            · exact .inr (by rw [h])
            · exact .inl h
          · rintro (h | h)
            · exact .inr h
            · exact .inl (kb_inj h)
        · exact (HX2.out.alloc _).trans (cg_grown hgrow5)
      clear hown5 hgrow5 hrg5
      go_wp2
      go_roundw
      case rel => exact ⟨_, _, _, _, _, PF.out⟩
      case measure => rw [HR5.out.left_eq, HOLD.out.left_eq]; exact HLT.out

theorem cCopy_nil (w : World) : Calls Try.prog 68 #[.pointer none] w fun e w' => e = .returned (.pointer none) ∧ w = w' := by
  go_enter Try.func68, Try.ntmps68
  go_wp2
  go_ret
  exact ⟨rfl, rfl⟩
set_option maxRecDepth 100000 in
set_option maxHeartbeats 1600000 in
theorem cCopy_any (own D : Nat → Prop) (r : Nat) (K : List ByteArray) (T : ByteArray → TD) (G : List ED) (w : World) (h : SK w own D r K T G) (hK : K.length ≤ 1000000) :
    Calls Try.prog 68 #[.pointer (some ⟨r, 0, none⟩)] w fun e w' => e = .returned (.pointer (some ⟨w.heap.size + 2, 0, none⟩)) ∧ SK w' (fun b => w.heap.size ≤ b ∧ b ≤ w.heap.size + 2) D (w.heap.size + 2) K T [] ∧ Below w.heap.size w w' := by
  have HN := Lib.hid (cNew_any D T w h.dlt)
  obtain ⟨bt, bh, gv, f, Kh, es, hm⟩ := h
  have HS := Lib.hid hm
  clear hm
  go_enter Try.func68, Try.ntmps68
  go_wp2_with fail
  refine HN.out.mono ?_
  rintro e w1 ⟨rfl, ⟨bt2, bh2, gv2, f2, Kh2, es2, hm2⟩, hb1⟩
  have c0 := hm2.c0
  have d0 := below_cell hb1 HS.out.c0
  have hbd : w.heap.size ≤ bt2 := hm2.owt.1
  have hbs := HS.out.mt.lt
  have M2 := Lib.hid hm2
  have B1 := Lib.hid hb1
  have HM := Lib.hid (ownsMap_chg (S := fun _ => False) HS.out.mt (Chg.of_below hb1) (fun h => h))
  have HTH := Lib.hid (show ∀ k ∈ K, ∃ ts, f k = .agg (List.toArray ts) ∧ TIs w1 D ts (T k) from fun k hk => by
    obtain ⟨ts, h1, h2⟩ := HS.out.things k hk
    exact ⟨ts, h1, h2.below hb1⟩)
  have HCP := Lib.hid (fun k => mpCopy_any bt bt2 K f f2 T D (w1.drewN k) HM.out M2.out.mt (by omega) HS.out.rise HS.out.sz hK (fun x hx => by
    obtain ⟨ts, h1, h2⟩ := HTH.out x hx
    exact ⟨ts, h1, h2.below (below_drewN (Below.refl _ w1) k)⟩))
  have HNE : RowKit.Hid (¬ w.heap.size + 2 = bt2 ∧ ¬ r = bt2) := ⟨fun e => hm2.rt e, fun e => by have := HS.out.lt r HS.out.owr; omega⟩
  clear hm2 hb1
  go_wp2
  go_region_held3 (fun w' => w'.cell? ⟨w.heap.size + 2, 0, none⟩ = some (.map (some bt2)) ∧ w'.cell? ⟨r, 0, none⟩ = some (.map (some bt)))
    (first | (go_keep; done) | (go_split_ands; exact ⟨hc3.cell (by assumption) HNE.out.1, hc3.cell (by assumption) HNE.out.2⟩))
    ((go_at_call 89; refine (HCP.out _).mono ?_; rintro e w3 ⟨rfl, ⟨fd, ho3, hf3⟩, hc3⟩))
  go_wp2
  go_ret
  obtain ⟨s1, s2⟩ := SM.turn (w' := w3) (K' := K) (T' := T) (f' := fd) (M2.out) (((Chg.refl _ w1).drewN _).trans hc3) ho3 HS.out.rise HS.out.sz (fun k hk => by
    obtain ⟨ts, h1, h2⟩ := HTH.out k hk
    exact ⟨ts, (hf3 k hk).trans h1, h2⟩)
  exact ⟨rfl, ⟨_, _, _, _, _, _, s1⟩, B1.out.trans (s2.below B1.out.size (fun b hb => hb.1))⟩
end Go.Proofs.Ytochdmbjlemfoaa
