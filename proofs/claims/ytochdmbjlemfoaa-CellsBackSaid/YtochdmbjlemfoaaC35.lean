/-
  The law CellsBack (package anamnesislaw19): the walk. Of any two lists of acts that can be read.
-/
import Derived.Test.YtochdmbjlemfoaaC34
import Derived.Test.YtochdmbjlemfoaaC30
import Derived.Test.YtochdmbjlemfoaaC23
namespace Go.Proofs.Ytochdmbjlemfoaa
open Go Go.RowKit Go.Maps

/-- What is kept between two acts. -/
def Keep (w wr : World) (r m j : Nat) (sv gv : Value) : Prop := ∃ s Ss Gs own P vs us, BSt w wr r s sv gv Ss Gs own P vs us ∧ Hist Ss Gs s ∧ s.ok (60 + j) ∧ Small Ss Gs ∧ Gs.length ≤ j ∧ (j = m → s.G = [])
/-- What is kept between two groups that are undone. -/
def Undone (w wr : World) (r k : Nat) (sv gv : Value) (Ss : List S19) (Gs : List (List ED)) (vs us : List Value) : Prop := ∃ S0 T own P, Ss[k]? = some S0 ∧ (∀ x ∈ S0.K, T x = S0.T x) ∧ BSt w wr r ⟨S0.K, T, []⟩ sv gv Ss Gs own P vs us
theorem clInfo : (Try.prog.info? 60).map (fun i => (i.zero, i.size, i.bytes)) = some (some (.slice none 0 0), 1, 24) := by kernel_rfl
theorem clParts : ∃ i, Try.prog.info? 60 = some i ∧ i.zero = some (.slice none 0 0) ∧ i.size = 1 ∧ i.bytes = 24 := by
  have h := clInfo
  cases hh : Try.prog.info? 60 with
  | none => rw [hh] at h; cases h
  | some i => rw [hh] at h; simp only [Option.map_some, Option.some.injEq, Prod.mk.injEq] at h; exact ⟨i, rfl, h.1, h.2.1, h.2.2⟩
theorem elInfo : (Try.prog.info? 24).map (fun i => (i.zero, i.size, i.bytes)) = some (some (.slice none 0 0), 1, 24) := by kernel_rfl
theorem elParts : ∃ i, Try.prog.info? 24 = some i ∧ i.zero = some (.slice none 0 0) ∧ i.size = 1 ∧ i.bytes = 24 := by
  have h := elInfo
  cases hh : Try.prog.info? 24 with
  | none => rw [hh] at h; cases h
  | some i => rw [hh] at h; simp only [Option.map_some, Option.some.injEq, Prod.mk.injEq] at h; exact ⟨i, rfl, h.1, h.2.1, h.2.2⟩
/-- An element of a row. -/
theorem row_at {w : World} {base : Nat} {e : TypeId} {v : Value} {n : Nat} {xs : List Value} (h : w.ownsRow base e 1 v n xs) {i : Nat} (hi : i < n) : ∃ g cap u, v = .slice (some ⟨g, 0, none⟩) n cap ∧ xs[i]? = some u ∧ w.cell? ⟨g, i, none⟩ = some u ∧ n ≤ maxLen := by
  have hl : xs.length = n := by have := h.1; omega
  obtain ⟨u, hu⟩ : ∃ u, xs[i]? = some u := ⟨_, List.getElem?_eq_getElem (by omega)⟩
  rcases h.2 with ⟨rfl, h0⟩ | ⟨g, cap, cur, rfl, hb, hg, h1, h2, _⟩
  · omega
  · exact ⟨g, cap, u, rfl, hu, by rw [h.cellAt i (by omega)]; exact hu, by omega⟩

set_option maxRecDepth 100000 in
set_option maxHeartbeats 8000000 in
theorem cellsBack_any (A : Option Addr) (n cc : Nat) (l : List A19) (B : Option Addr) (m dd : Nat) (more : List A19) (w : World) (hx : Rd w (Old w) 3 A n cc (a19Rows l)) (hl : ∀ x ∈ l, x.ok) (hy : Rd w (Old w) 3 B m dd (a19Rows more)) (hm : ∀ x ∈ more, x.ok) :
    Calls Try.prog 14 #[.slice A n cc, .slice B m dd] w fun e w' => e = .returned (.bool true) ∧ Below w.heap.size w w' := by
  have hlen : l.length = n := by have := hx.len; simpa [a19Rows] using this
  have hmen : more.length = m := by have := hy.len; simpa [a19Rows] using this
  have hn : n ≤ 9223372036854775807 := by have h1 := hx.le; have h2 := hx.max; unfold maxLen at h2; omega
  have hmn : m ≤ 9223372036854775807 := by have h1 := hy.le; have h2 := hy.max; unfold maxLen at h2; omega
  have HX := Lib.hid hx
  have HY := Lib.hid hy
  have H2 := Lib.hid hl
  have H4 := Lib.hid hm
  have H3 := Lib.hid hlen
  have H5 := Lib.hid hmen
  clear hx hl hlen hy hm hmen
  by_cases hgr : Great n l
  · have HG := Lib.hid (great19_any A n cc l (Old w) w HX.out true (decide_eq_true hgr).symm)
    clear hgr
    go_enter Try.func14, Try.ntmps14
    go_wp2_with fail
    refine HG.out.mono ?_
    rintro e w' ⟨rfl, rfl⟩
    go_wp2_with fail
    refine (awake19_any _).mono ?_
    rintro e w11 ⟨rfl, B11⟩
    go_wp2
    go_ret
    exact ⟨rfl, B11⟩
  obtain ⟨iC, hiC, hzC, hzC1, hzC2⟩ := clParts
  obtain ⟨iE, hiE, hzE, hzE1, hzE2⟩ := elParts
  have HG := Lib.hid (great19_any A n cc l (Old w) w HX.out false (decide_eq_false hgr).symm)
  have hn60 : n ≤ 60 := by
    refine Nat.le_of_not_lt fun h => hgr (.inl h)
  clear hgr
  by_cases hgr : Great m more
  · have HG2 := Lib.hid (great19_any B m dd more (Old w) w HY.out true (decide_eq_true hgr).symm)
    clear hgr
    go_enter Try.func14, Try.ntmps14
    go_wp2_with fail
    refine HG.out.mono ?_
    rintro e w' ⟨rfl, rfl⟩
    go_wp2_with fail
    refine HG2.out.mono ?_
    rintro e w' ⟨rfl, rfl⟩
    go_wp2_with fail
    refine (awake19_any _).mono ?_
    rintro e w11 ⟨rfl, B11⟩
    go_wp2
    go_ret
    exact ⟨rfl, B11⟩
  have HG2 := Lib.hid (great19_any B m dd more (Old w) w HY.out false (decide_eq_false hgr).symm)
  have hm60 : m ≤ 60 := by
    refine Nat.le_of_not_lt fun h => hgr (.inl h)
  clear hgr
  go_enter Try.func14, Try.ntmps14
  go_wp2_with fail
  refine HG.out.mono ?_
  rintro e w' ⟨rfl, rfl⟩
  go_wp2_with fail
  refine HG2.out.mono ?_
  rintro e w' ⟨rfl, rfl⟩
  clear HG HG2
  go_wp2_with fail
  refine (cNew_any F0 awT0 w (fun _ h => h.elim)).mono ?_
  rintro e w1 ⟨rfl, hs1, hb1⟩
  obtain ⟨o1, ho1⟩ : ∃ o1 : Nat → Prop, o1 = fun b => w.heap.size ≤ b ∧ b ≤ w.heap.size + 2 := ⟨_, rfl⟩
  have HO1 : RowKit.Hid (∀ b, o1 b → w.heap.size ≤ b) := fun b hb => by rw [ho1] at hb; exact hb.1
  rw [← ho1] at hs1
  obtain ⟨r1, hr1⟩ : ∃ r1, r1 = w.heap.size + 2 := ⟨_, rfl⟩
  rw [← hr1] at hs1 ⊢
  have P1 := Lib.hid (PlayOn.start (s := ⟨[], awT0, []⟩) hs1)
  have B1 := Lib.hid hb1
  clear ho1 hr1 hs1 hb1
  go_wp2
  go_loopw [6] (fun i wr => ∃ j : Nat, j ≤ n ∧ i = .int .i64 (j : Int) ∧ RowKit.Hid (PlayOn w1 wr o1 r1 (playOn ⟨[], awT0, []⟩ (l.take j)))) (fun i _ => n - (RowKit.intOf i).toNat)
  case atStart => exact ⟨0, Nat.zero_le _, rfl, P1.out⟩
  case round =>
    clear P1
    obtain ⟨j, hj, rfl, hst⟩ := hrel
    by_cases hlt : j < n
    · have q1 : (j : Int) < (n : Int) := by omega
      obtain ⟨b, off, hA, -, hcell⟩ := a19_at HX.out (by omega)
      obtain ⟨a, hak⟩ : ∃ a, l[j]? = some a := ⟨_, List.getElem?_eq_getElem (by rw [H3.out]; exact hlt)⟩
      have hok := H2.out a (List.mem_of_getElem? hak)
      have hcj := hcell j a hak
      have OK := Lib.hid hok
      have hsok := playOn_ok (l.take j) ⟨[], awT0, []⟩ 0 ⟨by simp, by simp⟩ (fun y hy => H2.out y (List.mem_of_mem_take hy))
      have HTK := Lib.hid (playOn_take (s := ⟨[], awT0, []⟩) hak)
      rw [List.length_take] at hsok
      obtain ⟨own, hsk, hg⟩ := hst.out
      generalize hS : playOn ⟨[], awT0, []⟩ (l.take j) = s at *
      have SOK : RowKit.Hid (s.ok 200) := ⟨hsok.keys, by have := hsok.len; omega⟩
      have SS := Lib.hid hsk
      have GG := Lib.hid hg
      have hbw : Below w.heap.size w wr := B1.out.trans (hg.chg.below B1.out.size (fun b hb => HO1.out b hb))
      have cx0 := below_cell hbw hcj.1
      have cx1 := below_cell hbw hcj.2.1
      have cx2 := below_cell hbw hcj.2.2
      have hd0 : (0 : Int) ≤ (a.d : Int) := by omega
      have hd1 : (a.d : Int) ≤ 255 := by have := OK.out.1; omega
      subst hA
      clear hcell hak hok hcj hsok hsk hg hbw hst hS
      go_wp2_with fail
      refine (does19_any own F0 _ s a 200 wr SS.out SOK.out (by decide) OK.out).mono ?_
      rintro e w2 ⟨rfl, own2, hs2, hg2⟩
      have PF : RowKit.Hid (PlayOn w1 w2 o1 r1 (playOn ⟨[], awT0, []⟩ (l.take (j + 1)))) := by rw [HTK.out]; exact ⟨own2, hs2, GG.out.trans hg2⟩
      clear hs2 hg2 cx0 cx1 cx2
      go_wp2
      go_roundw
      case rel => exact ⟨j + 1, by omega, by go_num, PF.out⟩
      case measure => simp [RowKit.intOf]; omega
    · have hjn : n = j := by omega
      subst hjn
      have hall : l.take n = l := List.take_of_length_le (by rw [H3.out]; omega)
      rw [hall] at hst
      clear hall hlt
      obtain ⟨o2, hsk, hg⟩ := hst.out
      have HK1 : RowKit.Hid ((playOn ⟨[], awT0, []⟩ l).ok 60) := by
        have := playOn_ok l ⟨[], awT0, []⟩ 0 ⟨by simp, by simp⟩ H2.out
        exact ⟨this.keys, by have := this.len; have := H3.out; omega⟩
      generalize playOn ⟨[], awT0, []⟩ l = s1 at *
      have hkl := HK1.out.len
      obtain ⟨K, T, G⟩ := s1
      simp only at hsk hkl
      have BW := Lib.hid (B1.out.trans (hg.chg.below B1.out.size (fun b hb => HO1.out b hb)))
      have HO2 : RowKit.Hid (∀ b, o2 b → w.heap.size ≤ b) := fun b hb => (hg.new b hb).elim (HO1.out b) (fun h => Nat.le_trans B1.out.size h)
      have RK := Lib.hid hsk.rise
      have S1 := Lib.hid hsk
      clear hst hsk hg B1 HO1
      go_wp2_with fail
      refine (cMark_any o2 F0 r1 K T G wr S1.out).mono ?_
      rintro e w2 ⟨rfl, o3, hs2, hg2⟩
      have S2 := Lib.hid hs2
      have B2 := Lib.hid (BW.out.trans (hg2.chg.below BW.out.size (fun b hb => HO2.out b hb)))
      have HO3 : RowKit.Hid (∀ b, o3 b → w.heap.size ≤ b) := fun b hb => (hg2.new b hb).elim (HO2.out b) (fun h => Nat.le_trans BW.out.size h)
      clear hs2 hg2 S1 BW HO2
      go_wp2_with fail
      refine (cAll_any o3 F0 r1 K T [] w2 S2.out (by omega)).mono ?_
      rintro e w3 ⟨A7, c7, es7, rfl, hr7, he7, hb3⟩
      have KP : RowKit.Hid (Keep w (w3.alloc (.cells #[.slice A7 K.length c7] 60)) r1 m 0 (.slice (some ⟨w3.heap.size, 0, none⟩) 1 1) (.slice none 0 0)) :=
        ⟨⟨K, T, []⟩, _, _, _, _, _, _, BSt.start (s := ⟨K, T, []⟩) S2.out HO3.out B2.out hb3 hr7 he7, Hist.start (s := ⟨K, T, []⟩) RK.out, HK1.out.unG, ⟨fun x hx => by simp at hx; subst hx; show K.length ≤ 1000; omega, by simp⟩, Nat.le_refl _, fun _ => rfl⟩
      clear hr7 he7 hb3 S2 B2 HO3 HK1 RK
      go_wp2
      obtain ⟨gl, hgl⟩ : ∃ g, g = w3.heap.size := ⟨_, rfl⟩
      rw [← hgl] at KP ⊢
      clear hgl
      go_loopw [7, 8, 9] (fun sv gv i wr => ∃ (j : Nat) (x y : Value), j ≤ m ∧ i = .int .i64 (j : Int) ∧ x = sv ∧ y = gv ∧ RowKit.Hid (Keep w wr r1 m j x y)) (fun _ _ i _ => m - (RowKit.intOf i).toNat)
      case atStart => exact ⟨0, _, _, Nat.zero_le _, rfl, rfl, rfl, KP.out⟩
      case round =>
        clear KP
        obtain ⟨j, sv, gv, hj, rfl, rfl, rfl, hst⟩ := hrel
        obtain ⟨wo, hwo⟩ : ∃ wo, wo = wr := ⟨_, rfl⟩
        by_cases hlt : j < m
        · have q1 : (j : Int) < (m : Int) := by omega
          obtain ⟨b, off, hA, -, hcell⟩ := a19_at HY.out (by omega)
          obtain ⟨a, hak⟩ : ∃ a, more[j]? = some a := ⟨_, List.getElem?_eq_getElem (by rw [H5.out]; exact hlt)⟩
          have hok := H4.out a (List.mem_of_getElem? hak)
          have hcj := hcell j a hak
          have OK := Lib.hid hok
          obtain ⟨s, Ss, Gs, own, P, vs, us, hbs, hh, hso, hsm, hgl, -⟩ := hst.out
          have BS := Lib.hid hbs
          have HH := Lib.hid hh
          have SO := Lib.hid hso
          have SM := Lib.hid hsm
          have HC := Lib.hid hcj
          have cx0 := below_cell hbs.below hcj.1
          have cx1 := below_cell hbs.below hcj.2.1
          have cx2 := below_cell hbs.below hcj.2.2
          have hd0 : (0 : Int) ≤ (a.d : Int) := by omega
          have hd1 : (a.d : Int) ≤ 255 := by have := OK.out.1; omega
          subst hA
          clear hcell hak hok hcj hst hwo hbs hh hso hsm
          obtain ⟨pl, hpl⟩ : ∃ pl, pl = decide (a.d = 0 ∨ a.d = 1) := ⟨_, rfl⟩
          have HPL := Lib.hid hpl
          clear hpl
          go_upto_region 16 with fail
          go_cut [57] (fun v wx => v = .bool pl ∧ wr = wx)
          case first =>
            by_cases d0 : a.d = 0
            · have HV : RowKit.Hid (true = pl) := by show _ = _; rw [HPL.out]; simp [d0]
              have e0 : ((a.d : Int) == 0) = true := by simp; omega
              clear d0
              go_wp2
              go_meet
              exact ⟨congrArg Value.bool HV.out, rfl⟩
            · have e0 : ((a.d : Int) == 0) = false := by simp; omega
              by_cases d1 : a.d = 1
              · have HV : RowKit.Hid (true = pl) := by show _ = _; rw [HPL.out]; simp [d1]
                have e1 : ((a.d : Int) == 1) = true := by simp; omega
                clear d0 d1
                go_wp2
                go_meet
                exact ⟨congrArg Value.bool HV.out, rfl⟩
              · have HV : RowKit.Hid (false = pl) := by show _ = _; rw [HPL.out]; simp [d0, d1]
                have e1 : ((a.d : Int) == 1) = false := by simp; omega
                clear d0 d1
                go_wp2
                go_meet
                exact ⟨congrArg Value.bool HV.out, rfl⟩
          case rest =>
            obtain ⟨rfl, rfl⟩ := hcut
            go_upto_if 57 with fail
            go_cut [63] (fun _ wx => RowKit.Hid (∃ s own, BSt w wx r1 s sv gv Ss Gs own P vs us ∧ Hist Ss Gs s ∧ s.ok (60 + (j + 1))))
            case first =>
              cases pl with
              | true =>
                have hda : RowKit.Hid (a.d = 0 ∨ a.d = 1) := by show a.d = 0 ∨ a.d = 1; exact of_decide_eq_true HPL.out.symm
                go_wp2_with fail
                refine (does19_any own F0 _ s a (60 + j) _ BS.out.sk SO.out (by omega) OK.out).mono ?_
                rintro e w4 ⟨rfl, own4, hs4, hg4⟩
                have PF : RowKit.Hid (∃ s own, BSt w w4 r1 s sv gv Ss Gs own P vs us ∧ Hist Ss Gs s ∧ s.ok (60 + (j + 1))) := ⟨act19 a s, own4, BS.out.does hs4 hg4, HH.out.act hda.out, act19_ok SO.out OK.out.2.1⟩
                clear hs4 hg4 cx0 cx1 cx2
                go_wp2
                go_meet
                exact PF.out
              | false =>
                have PF : RowKit.Hid (∃ s own, BSt w wr r1 s sv gv Ss Gs own P vs us ∧ Hist Ss Gs s ∧ s.ok (60 + (j + 1))) := ⟨s, own, BS.out, HH.out, SO.out.more (by omega)⟩
                clear cx0 cx1 cx2
                go_wp2
                go_meet
                exact PF.out
            case rest =>
              obtain ⟨w5, hw5⟩ : ∃ w5, w5 = wc := ⟨_, rfl⟩
              obtain ⟨s1, own1, hbs, hh, hso⟩ := hcut.out
              rw [← hw5] at hbs ⊢
              have cx0 := below_cell hbs.below HC.out.1
              have hul : us.length ≤ 60 := by have := hbs.lg.1; omega
              have hvl : vs.length ≤ 61 := by have := hbs.lc.1; have := hh.len; omega
              clear BS HH SO hw5
              have BS := Lib.hid hbs
              have HH := Lib.hid hh
              have SO := Lib.hid hso
              have hsl := hso.len
              have Z5 : RowKit.Hid (w.heap.size ≤ w5.heap.size) := hbs.below.size
              clear hbs hh hso hcut HPL
              obtain ⟨mk, hmk⟩ : ∃ mk, mk = decide (a.d = 2 ∨ j + 1 = m) := ⟨_, rfl⟩
              have HMK := Lib.hid hmk
              clear hmk
              go_upto_region 18 with fail
              go_cut [76] (fun v wx => v = .bool mk ∧ w5 = wx)
              case first =>
                by_cases d2 : a.d = 2
                · have HV : RowKit.Hid (true = mk) := by show _ = _; rw [HMK.out]; simp [d2]
                  have e2 : ((a.d : Int) == 2) = true := by simp; omega
                  clear d2
                  go_wp2
                  go_meet
                  exact ⟨congrArg Value.bool HV.out, rfl⟩
                · have e2 : ((a.d : Int) == 2) = false := by simp; omega
                  by_cases d3 : j + 1 = m
                  · have HV : RowKit.Hid (true = mk) := by show _ = _; rw [HMK.out]; simp [d3]
                    have e3 : ((j : Int) == (m : Int) - 1) = true := by simp; omega
                    clear d2 d3
                    go_wp2
                    go_meet
                    exact ⟨congrArg Value.bool HV.out, rfl⟩
                  · have HV : RowKit.Hid (false = mk) := by show _ = _; rw [HMK.out]; simp [d2, d3]
                    have e3 : ((j : Int) == (m : Int) - 1) = false := by simp; omega
                    clear d2 d3
                    go_wp2
                    go_meet
                    exact ⟨congrArg Value.bool HV.out, rfl⟩
              case rest =>
                obtain ⟨rfl, rfl⟩ := hcut
                cases mk with
                | true =>
                  go_wp2_with fail
                  refine (cGroup_any own1 F0 r1 s1.K s1.T s1.G w5 BS.out.sk (by omega)).mono ?_
                  rintro e w6 ⟨A6, c6, es6, rfl, hr6, he6, hb6⟩
                  have Z6 : RowKit.Hid (w.heap.size ≤ w6.heap.size) := Nat.le_trans Z5.out hb6.size
                  have RG := Lib.hid (BS.out.next hb6).rowg
                  have R6 := Lib.hid hr6
                  have E6 := Lib.hid he6
                  have B6 := Lib.hid hb6
                  clear hr6 he6 hb6
                  go_wp2_with (at_builtin; refine wpList_append_lies _ rfl (.tmp 77) (.tmp 80) 22 rfl w.heap.size 24 iE (.slice none 0 0) 1 24 Try.underlying22 hiE hzE hzE1 hzE2 rfl (by decide) gv us.length us rfl (World.ownsRow.alloc RG.out _) ⟨w6.heap.size, 0, none⟩ 1 1 [.slice A6 s1.G.length c6] rfl rfl (cell_one_new _ _ _) (by intro u hu; simp at hu; subst hu; rfl) (by decide) (by unfold maxLen; omega) (by omega) (by have := Z6.out; simp; omega) (w6.heap.size + 1) (by simp) ?_; intro g7 cap7 w7 hown7 hgrow7 hat7 hlt7)
                  have BG := Lib.hid (BS.out.snocG B6.out R6.out E6.out hown7 hgrow7 hat7)
                  clear hown7 hgrow7 hat7 hlt7 R6 E6 B6 RG Z6 BS
                  go_wp2_with fail
                  refine (cMark_any own1 F0 r1 s1.K s1.T s1.G w7 BG.out.sk).mono ?_
                  rintro e w8 ⟨rfl, own8, hs8, hg8⟩
                  have BM := Lib.hid (BG.out.does (s' := ⟨s1.K, s1.T, []⟩) hs8 hg8)
                  clear hs8 hg8 BG
                  go_wp2_with fail
                  refine (cAll_any own8 F0 r1 s1.K s1.T [] w8 BM.out.sk (by omega)).mono ?_
                  rintro e w9 ⟨A9, c9, es9, rfl, hr9, he9, hb9⟩
                  have Z9 : RowKit.Hid (w.heap.size ≤ w9.heap.size) := Nat.le_trans BM.out.below.size hb9.size
                  have RC := Lib.hid (BM.out.next hb9).rowc
                  have R9 := Lib.hid hr9
                  have E9 := Lib.hid he9
                  have B9 := Lib.hid hb9
                  clear hr9 he9 hb9
                  go_wp2_with (at_builtin; refine wpList_append_lies _ rfl (.tmp 84) (.tmp 87) 111 rfl w.heap.size 60 iC (.slice none 0 0) 1 24 Try.underlying111 hiC hzC hzC1 hzC2 rfl (by decide) sv vs.length vs rfl (World.ownsRow.alloc RC.out _) ⟨w9.heap.size, 0, none⟩ 1 1 [.slice A9 s1.K.length c9] rfl rfl (cell_one_new _ _ _) (by intro u hu; simp at hu; subst hu; rfl) (by decide) (by unfold maxLen; omega) (by omega) (by have := Z9.out; simp; omega) (w9.heap.size + 1) (by simp) ?_; intro g10 cap10 w10 hown10 hgrow10 hat10 hlt10)
                  have KP : RowKit.Hid (Keep w w10 r1 m (j + 1) (.slice (some ⟨g10, 0, none⟩) (vs.length + 1) cap10) (.slice (some ⟨g7, 0, none⟩) (us.length + 1) cap7)) :=
                    ⟨⟨s1.K, s1.T, []⟩, _, _, _, _, _, _, BM.out.snocC (S1 := s1) B9.out R9.out E9.out hown10 hgrow10 hat10, HH.out.mark, SO.out.unG, SM.out.mark SO.out (by omega), by simp; omega, fun _ => rfl⟩
                  clear hown10 hgrow10 hat10 hlt10 R9 E9 B9 RC Z9 BM
                  go_wp2
                  go_roundw
                  case rel => exact ⟨j + 1, _, _, by omega, by go_num, rfl, rfl, KP.out⟩
                  case measure => simp [RowKit.intOf]; omega
                | false =>
                  have hnl : RowKit.Hid (¬ (a.d = 2 ∨ j + 1 = m)) := by show ¬ (a.d = 2 ∨ j + 1 = m); exact of_decide_eq_false HMK.out.symm
                  have KP : RowKit.Hid (Keep w w5 r1 m (j + 1) sv gv) := ⟨s1, _, _, _, _, _, _, BS.out, HH.out, SO.out, SM.out, by omega, fun e => absurd (.inr e) hnl.out⟩
                  go_wp2
                  go_roundw
                  case rel => exact ⟨j + 1, _, _, by omega, by go_num, rfl, rfl, KP.out⟩
                  case measure => simp [RowKit.intOf]; omega
        · have hjn : m = j := by omega
          subst hjn
          obtain ⟨s, Ss, Gs, own, P, vs, us, hbs, hh, hso, hsm, hgl, hG⟩ := hst.out
          have hG := hG rfl
          have hL := hh.len
          obtain ⟨S0, h0⟩ : ∃ S0, Ss[Gs.length]? = some S0 := ⟨_, List.getElem?_eq_getElem (by omega)⟩
          obtain ⟨hd1, hd2⟩ := hh.done h0 hG
          have UD : RowKit.Hid (Undone w wr r1 Gs.length sv gv Ss Gs vs us) := by
            obtain ⟨sK, sT, sG⟩ := s
            simp only at hG hd1 hd2
            subst hG hd1
            exact ⟨S0, sT, own, P, h0, hd2, hbs⟩
          have hvl : vs.length = Gs.length + 1 := by rw [hbs.lc.1, hL]
          have hul : us.length = Gs.length := hbs.lg.1
          have HVL := Lib.hid hvl
          have HUL := Lib.hid hul
          obtain ⟨Ag, cg, rfl⟩ : ∃ A c, gv = .slice A us.length c := by
            rcases hbs.rowg.2 with ⟨e, h⟩ | ⟨g, cap, cur, e, _⟩
            · exact ⟨none, 0, by rw [e, h]⟩
            · exact ⟨_, _, e⟩
          obtain ⟨As, cs, rfl⟩ : ∃ A c, sv = .slice A vs.length c := by
            rcases hbs.rowc.2 with ⟨e, h⟩ | ⟨g, cap, cur, e, _⟩
            · exact ⟨none, 0, by rw [e, h]⟩
            · exact ⟨_, _, e⟩
          have HH := Lib.hid hh
          have SM := Lib.hid hsm
          have hgl' : us.length ≤ 60 := by omega
          have HL := Lib.hid hL
          clear hst hbs hh hso hsm hG hL h0 hd1 hd2 hvl hul hlt hwo
          rw [← HUL.out] at UD
          go_wp2
          go_loopw [10] (fun i wx => ∃ k : Nat, k ≤ us.length ∧ i = .int .i64 ((k : Int) - 1) ∧ RowKit.Hid (Undone w wx r1 k (.slice As vs.length cs) (.slice Ag us.length cg) Ss Gs vs us)) (fun i _ => ((RowKit.intOf i) + 1).toNat)
          case atStart => exact ⟨us.length, Nat.le_refl _, rfl, UD.out⟩
          case round =>
            clear UD
            obtain ⟨k, hk, rfl, hud⟩ := hrel
            obtain ⟨S1, T, own, P, h1, ht, hbs⟩ := hud.out
            cases k with
            | zero =>
              have e : (((0 : Nat) : Int) - 1) = -1 := rfl
              rw [e]
              have S9 := Lib.hid hbs.sk
              have B9 := Lib.hid hbs.below
              clear hud h1 ht hbs e
              go_wp2_with fail
              refine (cGroup_any own F0 r1 S1.K T [] _ S9.out (by simp)).mono ?_
              rintro e w20 ⟨A20, c20, es20, rfl, -, -, hb20⟩
              have B20 := Lib.hid (B9.out.trans (hb20.mono B9.out.size))
              clear hb20
              go_wp2_with fail
              refine (awake19_any _).mono ?_
              rintro e w24 ⟨rfl, hb24⟩
              go_wp2
              go_ret
              exact ⟨rfl, B20.out.trans (hb24.mono B20.out.size)⟩
            | succ k =>
              have e : (((k + 1 : Nat) : Int) - 1) = (k : Int) := by omega
              rw [e]
              have hk2 : k < us.length := by omega
              have hk3 : k < vs.length := by rw [HVL.out, ← HUL.out]; omega
              obtain ⟨S0, h0⟩ : ∃ S0, Ss[k]? = some S0 := ⟨_, List.getElem?_eq_getElem (by rw [HL.out, ← HUL.out]; omega)⟩
              obtain ⟨G0, hg0⟩ : ∃ G0, Gs[k]? = some G0 := ⟨_, List.getElem?_eq_getElem (by rw [← HUL.out]; omega)⟩
              obtain ⟨hb1, hb2⟩ := HH.out.back h0 h1 hg0 ht
              obtain ⟨gg, capg, u, hgv, hu, hcu, -⟩ := row_at hbs.rowg hk2
              obtain ⟨gs, caps, v, hsv, hv, hcv, -⟩ := row_at hbs.rowc hk3
              obtain ⟨A30, c30, es30, rfl, hr30, he30⟩ := hbs.lg.2 k u G0 hu hg0
              obtain ⟨A31, c31, es31, rfl, hr31, he31⟩ := hbs.lc.2 k v S0 hv h0
              have hG0 := SM.out.gs G0 (List.mem_of_getElem? hg0)
              have hS0 := SM.out.cs S0 (List.mem_of_getElem? h0)
              have hS1 := SM.out.cs S1 (List.mem_of_getElem? h1)
              have BS := Lib.hid hbs
              have H0 := Lib.hid h0
              injection hgv with eg1 eg2 eg3
              injection hsv with es1 es2 es3
              subst eg1 eg3 es1 es3
              have HNG : RowKit.Hid (¬ own gg) := (hbs.gdis gg rfl).1
              have HNS : RowKit.Hid (¬ own gs) := (hbs.cdis gs rfl).1
              have HT : RowKit.Hid (∀ x ∈ S0.K, unT T G0.reverse x = S0.T x) := hb2
              obtain ⟨T0, hT0⟩ : ∃ T0, T0 = unT T G0.reverse := ⟨_, rfl⟩
              have HU := Lib.hid (fun w9 (hb : Below wr.heap.size wr w9) => (cUndo_any own F0 P r1 S1.K T [] A30 G0.length c30 es30 G0 w9 (hbs.sk.below hb) (hr30.below hb) (he30.below hb) (fun b hp => (hbs.plt b hp).2) hG0.2 (by omega) (by omega)).mono (R' := fun e w' => e = .returned (.int .i64 0) ∧ ∃ own', SK w' own' F0 r1 S0.K T0 [] ∧ Grow own own' w9 w') (by rintro e w' ⟨rfl, o', h1, h2⟩; rw [hb1, ← hT0] at h1; exact ⟨rfl, o', h1, h2⟩))
              rw [← hT0] at HT
              have HEQ : cellsOf S0.K T0 = cellsOf S0.K S0.T := List.map_congr_left fun x hx => by rw [HT.out x hx]
              have HAL := Lib.hid (fun w9 (hq : Chg own wr w9) A22 c22 es22 D9 hr he => alike19_same A22 A31 S0.K.length c22 c31 es22 es31 (cellsOf S0.K T0) (cellsOf S0.K S0.T) D9 P F0 F0 w9 hr (hr31.chg hq (fun b hp => (hbs.plt b hp).2)) he (he31.chg hq (fun _ h => h.elim)) true (decide_eq_true HEQ).symm)
              have hkb : k ≤ 9223372036854775807 := by omega
              clear hud h1 ht hbs e h0 hg0 hb1 hb2 hu hv hr30 he30 hr31 he31 hT0 HEQ
              go_upto_region 25 with fail
              go_region_held3 (fun w' => w'.cell? ⟨gg, k, none⟩ = some (.slice A30 G0.length c30) ∧ w'.cell? ⟨gs, k, none⟩ = some (.slice A31 S0.K.length c31))
                (first | (go_keep; done) | (go_split_ands; exact ⟨hg21.chg.cell (by assumption) HNG.out, hg21.chg.cell (by assumption) HNS.out⟩) | (go_split_ands; exact ⟨below_cell hb22 (by assumption), below_cell hb22 (by assumption)⟩) | (go_split_ands; exact ⟨below_cell hb23 (by assumption), below_cell hb23 (by assumption)⟩))
                ((first
                  | (go_at_call 62; refine (HU.out _ (below_drewN (Below.refl _ wr) _)).mono ?_; rintro e w21 ⟨rfl, own21, hs21, hg21⟩)
                  | (go_at_call 56; refine (cAll_any own21 F0 r1 S0.K T0 [] _ hs21 (by omega)).mono ?_; rintro e w22 ⟨A22, c22, es22, rfl, hr22, he22, hb22⟩)
                  | (go_at_call 64; refine (HAL.out _ (((Chg.of_below (below_drewN (Below.refl _ wr) _)).trans hg21.chg).trans (Chg.of_below hb22)) A22 c22 es22 _ hr22 he22).mono ?_; rintro e w23 ⟨rfl, hb23⟩)))
              have UD : RowKit.Hid (Undone w w23 r1 k (.slice (some ⟨gs, 0, none⟩) vs.length cs) (.slice (some ⟨gg, 0, none⟩) us.length cg) Ss Gs vs us) :=
                ⟨S0, T0, own21, P, H0.out, HT.out, (BS.out.does (s' := ⟨S0.K, T0, []⟩) hs21 ((Grow.below (below_drewN (Below.refl _ wr) _)).trans hg21)).next (hb22.trans (hb23.mono hb22.size))⟩
              clear hs21 hg21 hr22 he22 hb22 hb23 hcu hcv HU HAL
              go_wp2
              go_roundw
              case rel => exact ⟨k, by omega, rfl, UD.out⟩
              case measure => simp [RowKit.intOf]
end Go.Proofs.Ytochdmbjlemfoaa
