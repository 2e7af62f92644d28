/-
  The law CellsApart (package anamnesislaw19): the walk. Of any two lists of acts that can be read.
-/
import Derived.Test.YtochdmbjlemfoaaC23
import Derived.Test.YtochdmbjlemfoaaC28
import Derived.Test.YtochdmbjlemfoaaC29
namespace Go.Proofs.Ytochdmbjlemfoaa
open Go Go.RowKit Go.Maps

def F0 : Nat → Prop := fun _ => False
/-- A store, played on since wL. -/
def PlayOn (wL wr : World) (own0 : Nat → Prop) (r : Nat) (s : S19) : Prop := ∃ own', SK wr own' F0 r s.K s.T s.G ∧ Grow own0 own' wL wr
theorem PlayOn.start {wL : World} {own0 : Nat → Prop} {r : Nat} {s : S19} (h : SK wL own0 F0 r s.K s.T s.G) : PlayOn wL wL own0 r s := ⟨own0, h, Grow.refl _ _⟩
theorem Rd.upto {w w' : World} {size : Nat} {A : Option Addr} {n c : Nat} {es : List (List Value)} (h : Rd w' (fun b => w.heap.size ≤ b) size A n c es) (hs : 0 < size) : Rd w' (fun b => w.heap.size ≤ b ∧ b < w'.heap.size) size A n c es := h.mono (fun _ h1 h2 => ⟨h2, h1⟩) hs
theorem CellsAre.keeps {w w' : World} {es : List (List Value)} {L : List CD} {S : Nat → Prop} (h : CellsAre w F0 es L) (hc : Chg S w w') : CellsAre w' F0 es L := h.chg hc (fun _ h => h.elim)

set_option maxRecDepth 100000 in
set_option maxHeartbeats 8000000 in
theorem cellsApart_any (A : Option Addr) (n cc : Nat) (l : List A19) (B : Option Addr) (m dd : Nat) (more : List A19) (w : World) (hx : Rd w (Old w) 3 A n cc (a19Rows l)) (hl : ∀ x ∈ l, x.ok) (hy : Rd w (Old w) 3 B m dd (a19Rows more)) (hm : ∀ x ∈ more, x.ok) :
    Calls Try.prog 16 #[.slice A n cc, .slice B m dd] w fun e w' => e = .returned (.bool true) ∧ Below w.heap.size w w' := by
  have hlen : l.length = n := by have := hx.len; simpa [a19Rows] using this
  have hmen : more.length = m := by have := hy.len; simpa [a19Rows] using this
  have hn : n ≤ 9223372036854775807 := by have h1 := hx.le; have h2 := hx.max; unfold maxLen at h2; omega
  have hmn : m ≤ 9223372036854775807 := by have h1 := hy.le; have h2 := hy.max; unfold maxLen at h2; omega
  have HX := Lib.hid hx
  have HY := Lib.hid hy
  have H2 := Lib.hid hl
  have H4 := Lib.hid hm
  have H3 := Lib.hid hlen
  have H5 := Lib.hid hmen
  clear hx hl hlen hy hm hmen
  by_cases hgr : Great n l
  · have HG := Lib.hid (great19_any A n cc l (Old w) w HX.out true (decide_eq_true hgr).symm)
    clear hgr
    go_enter Try.func16, Try.ntmps16
    go_wp2_with fail
    refine HG.out.mono ?_
    rintro e w' ⟨rfl, rfl⟩
    go_wp2_with fail
    refine (awake19_any _).mono ?_
    rintro e w11 ⟨rfl, B11⟩
    go_wp2
    go_ret
    exact ⟨rfl, B11⟩
  have HG := Lib.hid (great19_any A n cc l (Old w) w HX.out false (decide_eq_false hgr).symm)
  have hn60 : n ≤ 60 := by
    refine Nat.le_of_not_lt fun h => hgr (.inl h)
  clear hgr
  by_cases hgr : Great m more
  · have HG2 := Lib.hid (great19_any B m dd more (Old w) w HY.out true (decide_eq_true hgr).symm)
    clear hgr
    go_enter Try.func16, Try.ntmps16
    go_wp2_with fail
    refine HG.out.mono ?_
    rintro e w' ⟨rfl, rfl⟩
    go_wp2_with fail
    refine HG2.out.mono ?_
    rintro e w' ⟨rfl, rfl⟩
    go_wp2_with fail
    refine (awake19_any _).mono ?_
    rintro e w11 ⟨rfl, B11⟩
    go_wp2
    go_ret
    exact ⟨rfl, B11⟩
  have HG2 := Lib.hid (great19_any B m dd more (Old w) w HY.out false (decide_eq_false hgr).symm)
  have hm60 : m ≤ 60 := by
    refine Nat.le_of_not_lt fun h => hgr (.inl h)
  clear hgr
  go_enter Try.func16, Try.ntmps16
  go_wp2_with fail
  refine HG.out.mono ?_
  rintro e w' ⟨rfl, rfl⟩
  go_wp2_with fail
  refine HG2.out.mono ?_
  rintro e w' ⟨rfl, rfl⟩
  clear HG HG2
  go_wp2_with fail
  refine (cNew_any F0 awT0 w (fun _ h => h.elim)).mono ?_
  rintro e w1 ⟨rfl, hs1, hb1⟩
  obtain ⟨o1, ho1⟩ : ∃ o1 : Nat → Prop, o1 = fun b => w.heap.size ≤ b ∧ b ≤ w.heap.size + 2 := ⟨_, rfl⟩
  have HO1 : RowKit.Hid (∀ b, o1 b → w.heap.size ≤ b) := fun b hb => by rw [ho1] at hb; exact hb.1
  rw [← ho1] at hs1
  obtain ⟨r1, hr1⟩ : ∃ r1, r1 = w.heap.size + 2 := ⟨_, rfl⟩
  rw [← hr1] at hs1 ⊢
  have P1 := Lib.hid (PlayOn.start (s := ⟨[], awT0, []⟩) hs1)
  have B1 := Lib.hid hb1
  clear ho1 hr1 hs1 hb1
  go_wp2
  go_loopw [6] (fun i wr => ∃ j : Nat, j ≤ n ∧ i = .int .i64 (j : Int) ∧ RowKit.Hid (PlayOn w1 wr o1 r1 (playOn ⟨[], awT0, []⟩ (l.take j)))) (fun i _ => n - (RowKit.intOf i).toNat)
  case atStart => exact ⟨0, Nat.zero_le _, rfl, P1.out⟩
  case round =>
    clear P1
    obtain ⟨j, hj, rfl, hst⟩ := hrel
    by_cases hlt : j < n
    · have q1 : (j : Int) < (n : Int) := by omega
      obtain ⟨b, off, hA, -, hcell⟩ := a19_at HX.out (by omega)
      obtain ⟨a, hak⟩ : ∃ a, l[j]? = some a := ⟨_, List.getElem?_eq_getElem (by rw [H3.out]; exact hlt)⟩
      have hok := H2.out a (List.mem_of_getElem? hak)
      have hcj := hcell j a hak
      have OK := Lib.hid hok
      have hsok := playOn_ok (l.take j) ⟨[], awT0, []⟩ 0 ⟨by simp, by simp⟩ (fun y hy => H2.out y (List.mem_of_mem_take hy))
      have HTK := Lib.hid (playOn_take (s := ⟨[], awT0, []⟩) hak)
      rw [List.length_take] at hsok
      obtain ⟨own, hsk, hg⟩ := hst.out
      generalize hS : playOn ⟨[], awT0, []⟩ (l.take j) = s at *
      have SOK : RowKit.Hid (s.ok 200) := ⟨hsok.keys, by have := hsok.len; omega⟩
      have SS := Lib.hid hsk
      have GG := Lib.hid hg
      have hbw : Below w.heap.size w wr := B1.out.trans (hg.chg.below B1.out.size (fun b hb => HO1.out b hb))
      have cx0 := below_cell hbw hcj.1
      have cx1 := below_cell hbw hcj.2.1
      have cx2 := below_cell hbw hcj.2.2
      have hd0 : (0 : Int) ≤ (a.d : Int) := by omega
      have hd1 : (a.d : Int) ≤ 255 := by have := OK.out.1; omega
      subst hA
      clear hcell hak hok hcj hsok hsk hg hbw hst hS
      go_wp2_with fail
      refine (does19_any own F0 _ s a 200 wr SS.out SOK.out (by decide) OK.out).mono ?_
      rintro e w2 ⟨rfl, own2, hs2, hg2⟩
      have PF : RowKit.Hid (PlayOn w1 w2 o1 r1 (playOn ⟨[], awT0, []⟩ (l.take (j + 1)))) := by rw [HTK.out]; exact ⟨own2, hs2, GG.out.trans hg2⟩
      clear hs2 hg2 cx0 cx1 cx2
      go_wp2
      go_roundw
      case rel => exact ⟨j + 1, by omega, by go_num, PF.out⟩
      case measure => simp [RowKit.intOf]; omega
    · have hjn : n = j := by omega
      subst hjn
      have hall : l.take n = l := List.take_of_length_le (by rw [H3.out]; omega)
      rw [hall] at hst
      clear hall hlt
      obtain ⟨o2, hsk, hg⟩ := hst.out
      have HN1 : RowKit.Hid ((playOn ⟨[], awT0, []⟩ l).neat) := playOn_neat l _ ⟨List.Pairwise.nil, by simp⟩
      have HK1 : RowKit.Hid ((playOn ⟨[], awT0, []⟩ l).ok 60) := by
        have := playOn_ok l ⟨[], awT0, []⟩ 0 ⟨by simp, by simp⟩ H2.out
        exact ⟨this.keys, by have := this.len; have := H3.out; omega⟩
      generalize playOn ⟨[], awT0, []⟩ l = s1 at *
      have hkl := HK1.out.len
      obtain ⟨K, T, G⟩ := s1
      simp only at hsk hkl
      have BW := Lib.hid (B1.out.trans (hg.chg.below B1.out.size (fun b hb => HO1.out b hb)))
      have HO2 : RowKit.Hid (∀ b, o2 b → w.heap.size ≤ b ∧ b < wr.heap.size) := fun b hb => ⟨(hg.new b hb).elim (HO1.out b) (fun h => Nat.le_trans B1.out.size h), hsk.lt b hb⟩
      have RK := Lib.hid hsk.rise
      have SZ := Lib.hid hsk.sz
      have S1 := Lib.hid hsk
      clear hst hsk hg B1 HO1
      go_wp2_with fail
      refine (cAll_any o2 F0 r1 K T G wr S1.out (by omega)).mono ?_
      rintro e w2 ⟨A7, c7, es7, rfl, hr7, he7, hb2⟩
      have R7 := Lib.hid (Rd.upto hr7 (by decide))
      have E7 := Lib.hid he7
      have S2 := Lib.hid (S1.out.below hb2)
      have B2 := Lib.hid (BW.out.trans (hb2.mono BW.out.size))
      have Z2 : RowKit.Hid (wr.heap.size ≤ w2.heap.size) := hb2.size
      clear hr7 he7 hb2 S1
      go_wp2_with fail
      refine (cCopy_any o2 F0 r1 K T G w2 S2.out (by omega)).mono ?_
      rintro e w3 ⟨rfl, hs3, hb3⟩
      obtain ⟨oc, hoc⟩ : ∃ oc : Nat → Prop, oc = fun b => w2.heap.size ≤ b ∧ b ≤ w2.heap.size + 2 := ⟨_, rfl⟩
      have HOC : RowKit.Hid (∀ b, oc b → w2.heap.size ≤ b ∧ b < w3.heap.size) := fun b hb => ⟨by rw [hoc] at hb; exact hb.1, by rw [← hoc] at hs3; exact hs3.lt b hb⟩
      rw [← hoc] at hs3
      obtain ⟨rc, hrc⟩ : ∃ rc, rc = w2.heap.size + 2 := ⟨_, rfl⟩
      rw [← hrc] at hs3 ⊢
      have C3 := Lib.hid hs3
      have S3 := Lib.hid (S2.out.below hb3)
      have R73 := Lib.hid (R7.out.below hb3)
      have E73 := Lib.hid (E7.out.below hb3)
      have B3 := Lib.hid (B2.out.trans (hb3.mono B2.out.size))
      have Z3 : RowKit.Hid (w2.heap.size ≤ w3.heap.size) := hb3.size
      clear hoc hrc hs3 hb3 S2 R7 E7
      have HOF := Lib.hid (cOf_any A7 K.length c7 es7 (cellsOf K T) awT0 F0 _ w3 R73.out E73.out (fun _ h => h.elim) (fun x hx => SZ.out x.key (by
        have h1 : x.key ∈ (cellsOf K T).map CD.key := List.mem_map.2 ⟨x, hx, rfl⟩
        rw [cellsOf_keys] at h1
        exact h1)) (by omega))
      go_wp2_with fail
      refine HOF.out.mono ?_
      rintro e w4 hof
      rcases hof with ⟨-, rfl, hs4, hb4⟩ | ⟨hnd, -, -⟩
      rotate_left
      · exact absurd (by rw [cellsOf_keys]; exact risS_nodup RK.out) hnd
      clear HOF
      have hcc := of_cells (T := T) (T0 := awT0) RK.out
      rw [ofK_cells RK.out] at hs4 hcc
      generalize ofT awT0 (cellsOf K T) = Td at *
      have CC := Lib.hid hcc
      obtain ⟨od, hod⟩ : ∃ od : Nat → Prop, od = fun b => w3.heap.size ≤ b ∧ b ≤ w3.heap.size + 2 := ⟨_, rfl⟩
      have HOD : RowKit.Hid (∀ b, od b → w3.heap.size ≤ b ∧ b < w4.heap.size) := fun b hb => ⟨by rw [hod] at hb; exact hb.1, by rw [← hod] at hs4; exact hs4.lt b hb⟩
      rw [← hod] at hs4
      obtain ⟨rd, hrd⟩ : ∃ rd, rd = w3.heap.size + 2 := ⟨_, rfl⟩
      rw [← hrd] at hs4 ⊢
      have D4 := Lib.hid hs4
      have C4 := Lib.hid (C3.out.below hb4)
      have S4 := Lib.hid (S3.out.below hb4)
      have R74 := Lib.hid (R73.out.below hb4)
      have E74 := Lib.hid (E73.out.below hb4)
      have B4 := Lib.hid (B3.out.trans (hb4.mono B3.out.size))
      have Z4 : RowKit.Hid (w2.heap.size ≤ w3.heap.size ∧ w3.heap.size ≤ w4.heap.size) := ⟨Z3.out, hb4.size⟩
      clear hod hrd hs4 hb4 hcc S3 C3 R73 E73 B2 B3
      have Q4 := Lib.hid (Below.refl w4.heap.size w4)

      go_wp2_with fail
      refine (cAll_any oc F0 rc K T [] w4 (C4.out.below Q4.out) (by omega)).mono ?_
      rintro e w5 ⟨A5, c5, es5, rfl, hr5, he5, hb5⟩
      have Q5 := Lib.hid (Q4.out.trans (hb5.mono Q4.out.size))
      have HAL := Lib.hid (alike19_same _ _ _ _ _ _ _ _ _ _ _ _ _ w5 hr5 (R74.out.below Q5.out) he5 (E74.out.below Q5.out) true (decide_eq_true rfl).symm)
      clear hr5 he5 hb5
      go_wp2_with fail
      refine HAL.out.mono ?_
      rintro e w6 ⟨rfl, hb6⟩
      have Q6 := Lib.hid (Q5.out.trans (hb6.mono Q5.out.size))
      clear hb6 HAL

      go_wp2_with fail
      refine (cAll_any od F0 rd K Td [] w6 (D4.out.below Q6.out) (by omega)).mono ?_
      rintro e w7 ⟨A7, c7, es7, rfl, hr7, he7, hb7⟩
      have Q7 := Lib.hid (Q6.out.trans (hb7.mono Q6.out.size))
      have HAL := Lib.hid (alike19_same _ _ _ _ _ _ _ _ _ _ _ _ _ w7 hr7 (R74.out.below Q7.out) he7 (E74.out.below Q7.out) true (decide_eq_true CC.out).symm)
      clear hr7 he7 hb7
      go_wp2_with fail
      refine HAL.out.mono ?_
      rintro e w8 ⟨rfl, hb8⟩
      have Q8 := Lib.hid (Q7.out.trans (hb8.mono Q7.out.size))
      clear hb8 HAL

      go_wp2_with fail
      refine (cGroup_any oc F0 rc K T [] w8 (C4.out.below Q8.out) (by simp)).mono ?_
      rintro e w9 ⟨A9, c9, es9, rfl, -, -, hb9⟩
      have Q9 := Lib.hid (Q8.out.trans (hb9.mono Q8.out.size))
      have C9 := Lib.hid (C4.out.below Q9.out)
      have D9 := Lib.hid (D4.out.below Q9.out)
      have S9 := Lib.hid (S4.out.below Q9.out)
      have R79 := Lib.hid (R74.out.below Q9.out)
      have E79 := Lib.hid (E74.out.below Q9.out)
      have B9 := Lib.hid (B4.out.trans (Q9.out.mono B4.out.size))
      have Z9 : RowKit.Hid (w4.heap.size ≤ w9.heap.size) := Q9.out.size
      have HOCw : RowKit.Hid (∀ b, oc b → w.heap.size ≤ b) := fun b hb => by have := HOC.out b hb; have := BW.out.size; have := Z2.out; omega
      have HKc : RowKit.Hid (S19.ok ⟨K, T, []⟩ 60) := ⟨by simp, by show K.length + 0 ≤ _; omega⟩
      have P1 := Lib.hid (PlayOn.start (s := ⟨K, T, []⟩) C9.out)
      clear hb9 C4 D4 S4 R74 E74 Q4 Q5 Q6 Q7 Q8 Q9 B4
      go_wp2
      go_loopw [11] (fun i wr => ∃ j : Nat, j ≤ m ∧ i = .int .i64 (j : Int) ∧ RowKit.Hid (PlayOn w9 wr oc rc (playOn ⟨K, T, []⟩ (more.take j)))) (fun i _ => m - (RowKit.intOf i).toNat)
      case atStart => exact ⟨0, Nat.zero_le _, rfl, P1.out⟩
      case round =>
        clear P1
        obtain ⟨j, hj, rfl, hst⟩ := hrel
        by_cases hlt : j < m
        · have q1 : (j : Int) < (m : Int) := by omega
          obtain ⟨b, off, hA, -, hcell⟩ := a19_at HY.out (by omega)
          obtain ⟨a, hak⟩ : ∃ a, more[j]? = some a := ⟨_, List.getElem?_eq_getElem (by rw [H5.out]; exact hlt)⟩
          have hok := H4.out a (List.mem_of_getElem? hak)
          have hcj := hcell j a hak
          have OK := Lib.hid hok
          have hsok := playOn_ok (more.take j) ⟨K, T, []⟩ 60 HKc.out (fun y hy => H4.out y (List.mem_of_mem_take hy))
          have HTK := Lib.hid (playOn_take (s := ⟨K, T, []⟩) hak)
          rw [List.length_take] at hsok
          obtain ⟨own, hsk, hg⟩ := hst.out
          generalize hS : playOn ⟨K, T, []⟩ (more.take j) = s at *
          have SOK : RowKit.Hid (s.ok 200) := ⟨hsok.keys, by have := hsok.len; omega⟩
          have SS := Lib.hid hsk
          have GG := Lib.hid hg
          have hbw : Below w.heap.size w wr := B9.out.trans (hg.chg.below B9.out.size (fun b hb => HOCw.out b hb))
          have cx0 := below_cell hbw hcj.1
          have cx1 := below_cell hbw hcj.2.1
          have cx2 := below_cell hbw hcj.2.2
          have hd0 : (0 : Int) ≤ (a.d : Int) := by omega
          have hd1 : (a.d : Int) ≤ 255 := by have := OK.out.1; omega
          subst hA
          clear hcell hak hok hcj hsok hsk hg hbw hst hS
          go_wp2_with fail
          refine (does19_any own F0 _ s a 200 wr SS.out SOK.out (by decide) OK.out).mono ?_
          rintro e w2 ⟨rfl, own2, hs2, hg2⟩
          have PF : RowKit.Hid (PlayOn w9 w2 oc rc (playOn ⟨K, T, []⟩ (more.take (j + 1)))) := by rw [HTK.out]; exact ⟨own2, hs2, GG.out.trans hg2⟩
          clear hs2 hg2 cx0 cx1 cx2
          go_wp2
          go_roundw
          case rel => exact ⟨j + 1, by omega, by go_num, PF.out⟩
          case measure => simp [RowKit.intOf]; omega
        · have hjn : m = j := by omega
          subst hjn
          have hall : more.take m = more := List.take_of_length_le (by rw [H5.out]; omega)
          rw [hall] at hst
          clear hall hlt
          obtain ⟨oc2, hsk, hg⟩ := hst.out
          have HN2 : RowKit.Hid ((playOn ⟨K, T, []⟩ more).neat) := playOn_neat more _ ⟨RK.out, by simp⟩
          have HK2 : RowKit.Hid ((playOn ⟨K, T, []⟩ more).ok 120) := by
            have := playOn_ok more ⟨K, T, []⟩ 60 HKc.out H4.out
            exact ⟨this.keys, by have := this.len; have := H5.out; omega⟩
          generalize playOn ⟨K, T, []⟩ more = s2 at *
          have hkl2 := HK2.out.len
          obtain ⟨Kc, Tc, Gc⟩ := s2
          simp only at hsk hkl2
          have hB10 := B9.out.trans (hg.chg.below B9.out.size (fun b hb => HOCw.out b hb))
          have HOC2 : RowKit.Hid (∀ b, oc2 b → w2.heap.size ≤ b ∧ b < wr.heap.size) := fun b hb => ⟨(hg.new b hb).elim (fun h => (HOC.out b h).1) (fun h => by have := Z4.out; have := Z9.out; omega), hsk.lt b hb⟩
          have S10 := Lib.hid (S9.out.chg hg.chg (fun b hb => ⟨fun ho => by have := HO2.out b ho; have := HOC.out b hb; have := Z2.out; omega, fun h => h⟩))
          have D10 := Lib.hid (D9.out.chg hg.chg (fun b hb => ⟨fun ho => by have := HOD.out b ho; have := HOC.out b hb; omega, fun h => h⟩))
          have R10 := Lib.hid (R79.out.chg hg.chg (fun b hb ho => by have := HOC.out b ho; omega))
          have E10 := Lib.hid (E79.out.keeps hg.chg)
          have C10 := Lib.hid hsk
          have B10 := Lib.hid hB10
          have Z10 : RowKit.Hid (w9.heap.size ≤ wr.heap.size) := hg.chg.size
          clear hst hsk hg hB10 S9 D9 R79 E79 C9 B9
          obtain ⟨w10, hw10⟩ : ∃ w10, w10 = wr := ⟨_, rfl⟩
          rw [← hw10] at HOC2 S10 D10 R10 E10 C10 B10 Z10 ⊢
          clear hw10
          have Q10 := Lib.hid (Below.refl w10.heap.size w10)

          go_wp2_with fail
          refine (cAll_any o2 F0 r1 K T G w10 (S10.out.below Q10.out) (by omega)).mono ?_
          rintro e w11 ⟨A11, c11, es11, rfl, hr11, he11, hb11⟩
          have Q11 := Lib.hid (Q10.out.trans (hb11.mono Q10.out.size))
          have HAL := Lib.hid (alike19_same _ _ _ _ _ _ _ _ _ _ _ _ _ w11 hr11 (R10.out.below Q11.out) he11 (E10.out.below Q11.out) true (decide_eq_true rfl).symm)
          clear hr11 he11 hb11
          go_wp2_with fail
          refine HAL.out.mono ?_
          rintro e w12 ⟨rfl, hb12⟩
          have Q12 := Lib.hid (Q11.out.trans (hb12.mono Q11.out.size))
          clear hb12 HAL

          go_wp2_with fail
          refine (cAll_any od F0 rd K Td [] w12 (D10.out.below Q12.out) (by omega)).mono ?_
          rintro e w13 ⟨A13, c13, es13, rfl, hr13, he13, hb13⟩
          have Q13 := Lib.hid (Q12.out.trans (hb13.mono Q12.out.size))
          have HAL := Lib.hid (alike19_same _ _ _ _ _ _ _ _ _ _ _ _ _ w13 hr13 (R10.out.below Q13.out) he13 (E10.out.below Q13.out) true (decide_eq_true CC.out).symm)
          clear hr13 he13 hb13
          go_wp2_with fail
          refine HAL.out.mono ?_
          rintro e w14 ⟨rfl, hb14⟩
          have Q14 := Lib.hid (Q13.out.trans (hb14.mono Q13.out.size))
          clear hb14 HAL

          go_wp2_with fail
          refine (cAll_any oc2 F0 rc Kc Tc Gc w14 (C10.out.below Q14.out) (by omega)).mono ?_
          rintro e w15 ⟨A15, c15, es15, rfl, hr15, he15, hb15⟩
          have Q15 := Lib.hid (Q14.out.trans (hb15.mono Q14.out.size))
          have R15 := Lib.hid (Rd.upto hr15 (by decide))
          have E15 := Lib.hid he15
          have Z14 : RowKit.Hid (w10.heap.size ≤ w14.heap.size ∧ w14.heap.size ≤ w15.heap.size) := ⟨Q14.out.size, hb15.size⟩
          have C15 := Lib.hid (C10.out.below Q15.out)
          have S15 := Lib.hid (S10.out.below Q15.out)
          have B15 := Lib.hid (B10.out.trans (Q15.out.mono B10.out.size))
          have HO2w : RowKit.Hid (∀ b, o2 b → w.heap.size ≤ b) := fun b hb => (HO2.out b hb).1
          have P1 := Lib.hid (PlayOn.start (s := ⟨K, T, G⟩) S15.out)
          clear hr15 he15 hb15 Q10 Q11 Q12 Q13 Q14 Q15 C10 S10 B10 D10 R10 E10 S15
          go_wp2
          go_loopw [13] (fun i wr => ∃ j : Nat, j ≤ n ∧ i = .int .i64 (j : Int) ∧ RowKit.Hid (PlayOn w15 wr o2 r1 (playOn ⟨K, T, G⟩ (l.take j)))) (fun i _ => n - (RowKit.intOf i).toNat)
          case atStart => exact ⟨0, Nat.zero_le _, rfl, P1.out⟩
          case round =>
            clear P1
            obtain ⟨j, hj, rfl, hst⟩ := hrel
            by_cases hlt : j < n
            · have q1 : (j : Int) < (n : Int) := by omega
              obtain ⟨b, off, hA, -, hcell⟩ := a19_at HX.out (by omega)
              obtain ⟨a, hak⟩ : ∃ a, l[j]? = some a := ⟨_, List.getElem?_eq_getElem (by rw [H3.out]; exact hlt)⟩
              have hok := H2.out a (List.mem_of_getElem? hak)
              have hcj := hcell j a hak
              have OK := Lib.hid hok
              have hsok := playOn_ok (l.take j) ⟨K, T, G⟩ 60 HK1.out (fun y hy => H2.out y (List.mem_of_mem_take hy))
              have HTK := Lib.hid (playOn_take (s := ⟨K, T, G⟩) hak)
              rw [List.length_take] at hsok
              obtain ⟨own, hsk, hg⟩ := hst.out
              generalize hS : playOn ⟨K, T, G⟩ (l.take j) = s at *
              have SOK : RowKit.Hid (s.ok 200) := ⟨hsok.keys, by have := hsok.len; omega⟩
              have SS := Lib.hid hsk
              have GG := Lib.hid hg
              have hbw : Below w.heap.size w wr := B15.out.trans (hg.chg.below B15.out.size (fun b hb => HO2w.out b hb))
              have cx0 := below_cell hbw hcj.1
              have cx1 := below_cell hbw hcj.2.1
              have cx2 := below_cell hbw hcj.2.2
              have hd0 : (0 : Int) ≤ (a.d : Int) := by omega
              have hd1 : (a.d : Int) ≤ 255 := by have := OK.out.1; omega
              subst hA
              clear hcell hak hok hcj hsok hsk hg hbw hst hS
              go_wp2_with fail
              refine (does19_any own F0 _ s a 200 wr SS.out SOK.out (by decide) OK.out).mono ?_
              rintro e w2 ⟨rfl, own2, hs2, hg2⟩
              have PF : RowKit.Hid (PlayOn w15 w2 o2 r1 (playOn ⟨K, T, G⟩ (l.take (j + 1)))) := by rw [HTK.out]; exact ⟨own2, hs2, GG.out.trans hg2⟩
              clear hs2 hg2 cx0 cx1 cx2
              go_wp2
              go_roundw
              case rel => exact ⟨j + 1, by omega, by go_num, PF.out⟩
              case measure => simp [RowKit.intOf]; omega
            · have hjn : n = j := by omega
              subst hjn
              have hall : l.take n = l := List.take_of_length_le (by rw [H3.out]; omega)
              rw [hall] at hst
              clear hall hlt
              obtain ⟨o3, hsk, hg⟩ := hst.out
              have C16 := Lib.hid (C15.out.chg hg.chg (fun b hb => ⟨fun ho => by have := HO2.out b hb; have := HOC2.out b ho; have := Z2.out; omega, fun h => h⟩))
              have R16 := Lib.hid (R15.out.chg hg.chg (fun b hb ho => by have := HO2.out b ho; have := Z2.out; have := Z4.out; have := Z9.out; have := Z10.out; have := Z14.out; omega))
              have E16 := Lib.hid (E15.out.keeps hg.chg)
              have B16 := Lib.hid (B15.out.trans (hg.chg.below B15.out.size (fun b hb => HO2w.out b hb)))
              clear hst hsk hg C15 R15 E15 B15
              obtain ⟨w16, hw16⟩ : ∃ w16, w16 = wr := ⟨_, rfl⟩
              rw [← hw16] at C16 R16 E16 B16 ⊢
              clear hw16
              go_wp2_with fail
              refine (cGroup_any oc2 F0 rc Kc Tc Gc w16 C16.out (by omega)).mono ?_
              rintro e w17 ⟨A17, c17, es17, rfl, hr17, he17, hb17⟩
              have R17 := Lib.hid hr17
              have G17 := Lib.hid he17
              have C17 := Lib.hid (C16.out.below hb17)
              have RA17 := Lib.hid (R16.out.below hb17)
              have EA17 := Lib.hid (E16.out.below hb17)
              have B17 := Lib.hid (B16.out.trans (hb17.mono B16.out.size))
              have hgl : Gc.length ≤ 240 := by omega
              clear hr17 he17 hb17 C16 R16 E16 B16
              go_wp2
              go_loopw [15] (fun i wr => ∃ j1 : Nat, j1 ≤ Gc.length ∧ i = .int .i64 (j1 : Int) ∧ RowKit.Hid (Below w17.heap.size w17 wr)) (fun i _ => Gc.length - (RowKit.intOf i).toNat)
              case atStart => exact ⟨0, Nat.zero_le _, rfl, Below.refl _ _⟩
              case round =>
                obtain ⟨j1, hj1, rfl, hbo⟩ := hrel
                by_cases hlt : j1 < Gc.length
                · have q1 : (j1 : Int) < (Gc.length : Int) := by omega
                  go_wp2
                  go_loopw [16] (fun i wx => ∃ k : Nat, k ≤ j1 ∧ i = .int .i64 (k : Int) ∧ RowKit.Hid (Below w17.heap.size w17 wx)) (fun i _ => j1 - (RowKit.intOf i).toNat)
                  case atStart => exact ⟨0, Nat.zero_le _, rfl, hbo.out⟩
                  case round =>
                    clear hbo
                    obtain ⟨k, hk, rfl, hbi⟩ := hrel
                    by_cases hlt2 : k < j1
                    · have q2 : (k : Int) < (j1 : Int) := by omega
                      have q3 : (k : Int) < (Gc.length : Int) := by omega
                      have q4 : k < Gc.length := by omega
                      obtain ⟨bg, og, hA, -, hc⟩ := R17.out.at_ (by omega)
                      obtain ⟨e1, he1⟩ : ∃ e, es17[j1]? = some e := ⟨_, List.getElem?_eq_getElem (by rw [R17.out.len]; exact hlt)⟩
                      obtain ⟨e2, he2⟩ : ∃ e, es17[k]? = some e := ⟨_, List.getElem?_eq_getElem (by rw [R17.out.len]; exact q4)⟩
                      obtain ⟨X1, hX1⟩ : ∃ X, Gc[j1]? = some X := ⟨_, List.getElem?_eq_getElem hlt⟩
                      obtain ⟨X2, hX2⟩ : ∃ X, Gc[k]? = some X := ⟨_, List.getElem?_eq_getElem q4⟩
                      obtain ⟨t1, rfl, -⟩ := G17.out.2 j1 e1 X1 he1 hX1
                      obtain ⟨t2, rfl, -⟩ := G17.out.2 k e2 X2 he2 hX2
                      have a1 := row_cells (hc j1 _ he1) hbi.out 0 _ rfl
                      have a2 := row_cells (hc k _ he2) hbi.out 0 _ rfl
                      simp only [Nat.add_zero] at a1 a2
                      have hne : X1.key ≠ X2.key := by
                        intro h
                        have hu := HN2.out.uniq
                        have h1 : (Gc.map ED.key)[j1]? = some X1.key := by rw [List.getElem?_map, hX1]; rfl
                        have h2 : (Gc.map ED.key)[k]? = some X1.key := by rw [List.getElem?_map, hX2, h]; rfl
                        have hl1 := (List.getElem?_eq_some_iff.1 h1).1
                        have h3 := (List.getElem?_inj hl1 hu).1 (h1.trans h2.symm)
                        omega
                      have q5 : (X1.key.toList == X2.key.toList) = false := str_ne hne
                      generalize X1.key = x1 at *
                      generalize X2.key = x2 at *
                      subst hA
                      clear hc he1 he2 hX1 hX2
                      go_upto_region 33 with fail
                      go_quiet (fail)
                      go_wp2
                      go_roundw
                      case rel => exact ⟨k + 1, by omega, by go_num, hbi.out.trans ((below_drewN (Below.refl _ wr) _).mono hbi.out.size)⟩
                      case measure => simp [RowKit.intOf]; omega
                    · have hkj : k = j1 := by omega
                      go_wp2
                      go_roundw
                      case rel => exact ⟨j1 + 1, by omega, by go_num, hbi.out⟩
                      case measure => simp [RowKit.intOf]; omega
                · have hjn : j1 = Gc.length := by omega
                  have q1 : ¬ (j1 : Int) < (Gc.length : Int) := by omega
                  go_wp2_with fail
                  refine (cAll_any oc2 F0 rc Kc Tc Gc wr (C17.out.below hbo.out) (by omega)).mono ?_
                  rintro e w21 ⟨A21, c21, es21, rfl, hr21, he21, hb21⟩
                  have Q21 := Lib.hid (hbo.out.trans (hb21.mono hbo.out.size))
                  have HAL := Lib.hid (alike19_same _ _ _ _ _ _ _ _ _ _ _ _ _ w21 hr21 (RA17.out.below Q21.out) he21 (EA17.out.below Q21.out) true (decide_eq_true rfl).symm)
                  clear hr21 he21 hb21
                  go_wp2_with fail
                  refine HAL.out.mono ?_
                  rintro e w22 ⟨rfl, hb22⟩
                  have Q22 := Lib.hid (Q21.out.trans (hb22.mono Q21.out.size))
                  clear hb22 HAL

                  go_wp2_with fail
                  refine (awake19_any _).mono ?_
                  rintro e w24 ⟨rfl, hb24⟩
                  go_wp2
                  go_ret
                  have h1 := Q22.out.trans (hb24.mono Q22.out.size)
                  exact ⟨rfl, B17.out.trans (h1.mono B17.out.size)⟩
end Go.Proofs.Ytochdmbjlemfoaa
