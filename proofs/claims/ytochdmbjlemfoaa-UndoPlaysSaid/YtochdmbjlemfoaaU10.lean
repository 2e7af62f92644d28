/-
  The law UndoPlays (package anamnesislaw24): the walk, for any capacity and any list of acts that can be read.
-/
import Derived.Test.YtochdmbjlemfoaaU9
import Derived.Deep.CutBlock
import Derived.Deep.CutRange
namespace Go.Proofs.Ytochdmbjlemfoaa
open Go Go.RowKit

theorem snoc_cases {α : Type} (l : List α) : l = [] ∨ ∃ ini x, l = ini ++ [x] := by
  rcases List.eq_nil_or_concat l with h | ⟨i, x, h⟩
  · exact .inl h
  · exact .inr ⟨i, x, by rw [h, List.concat_eq_append]⟩
/-- What the document's Push makes of the list. -/
def pushP (gps : List GP) (g : GP) (m : Nat) : List GP := (gps ++ [g]).drop (gps.length + 1 - m)
theorem pushP_rows (gps : List GP) (g : GP) (m : Nat) : gpRows (pushP gps g m) = (gpRows gps ++ [[g.val]]).drop (gps.length + 1 - m) := by simp [gpRows, pushP]
theorem pushP_es (gps : List GP) (g : GP) (m : Nat) (h : gps.length ≤ m) : (pushP gps g m).map (·.es) = pushG (gps.map (·.es)) g.es m := by
  unfold pushP pushG
  rw [List.length_map]
  by_cases h0 : m = 0
  · subst h0
    have : gps = [] := List.eq_nil_of_length_eq_zero (by omega)
    subst this
    rfl
  · rw [if_neg h0]
    by_cases h1 : gps.length = m
    · rw [if_pos h1, h1, show m + 1 - m = 1 by omega]
      cases gps with
      | nil => simp at h1; omega
      | cons x xs => simp
    · rw [if_neg h1, show gps.length + 1 - m = 0 by omega]
      simp
theorem gpRows_len (gps : List GP) : (gpRows gps).length = gps.length := by simp [gpRows]

/-- The ring and the document's list between two acts. -/
structure PSt (w0 w : World) (m : Nat) (gps : List GP) (B : Option Addr) (k d : Nat) : Prop where
  st : RSt w0 w (w0.heap.size + 1) w0.heap.size m (gps.map (·.es))
  rd : Rd w (fun b => b ≠ w0.heap.size + 1 ∧ b ≠ w0.heap.size) 1 B k d (gpRows gps)
  nil : B = none → d = 0
  ok : ∀ g ∈ gps, g.ok w0 (Old w0)
theorem PSt.len {w0 w : World} {m : Nat} {gps : List GP} {B : Option Addr} {k d : Nat} (h : PSt w0 w m gps B k d) : gps.length = k := by
  have := h.rd.len
  rwa [gpRows_len] at this
theorem PSt.le {w0 w : World} {m : Nat} {gps : List GP} {B : Option Addr} {k d : Nat} (h : PSt w0 w m gps B k d) : k ≤ m := by
  obtain ⟨f, cs, hr⟩ := h.st.ring
  have := hr.n_le
  rw [List.length_map, h.len] at this
  exact this
theorem PSt.stay {w0 w w' : World} {m : Nat} {gps : List GP} {B : Option Addr} {k d : Nat} (h : PSt w0 w m gps B k d) (hb : Below w.heap.size w w') : PSt w0 w' m gps B k d :=
  ⟨h.st.stay hb, h.rd.below hb, h.nil, h.ok⟩

theorem RSt.sizes {w0 w : World} {r Lr c : Nat} {gs : List (List (List Value))} (h : RSt w0 w r Lr c gs) : r < w.heap.size ∧ Lr < w.heap.size := h.ring.lt
theorem PSt.push {w0 w w1 w2 : World} {m : Nat} {gps : List GP} {B B' : Option Addr} {k d l d' : Nat} {g : GP} (h : PSt w0 w m gps B k d) (hR : RingAt w1 (w0.heap.size + 1) w0.heap.size m (pushG (gps.map (·.es)) g.es m)) (hC : Chg (RS (w0.heap.size + 1) w0.heap.size) w w1)
    (hne : B' ≠ none) (hrd : Rd w2 (fun b => w1.heap.size ≤ b) 1 B' l d' ((gpRows gps ++ [[g.val]]).drop (k + 1 - m))) (hb : Below w1.heap.size w1 w2) (hg : g.ok w0 (Old w0)) : PSt w0 w2 m (pushP gps g m) B' l d' := by
  have hl := h.len
  have hz := hR.lt
  refine ⟨?_, ?_, fun e => absurd e hne, fun x hx => ?_⟩
  · rw [pushP_es gps g m (by rw [hl]; exact h.le)]
    exact (h.st.next hR hC).stay hb
  · rw [pushP_rows, hl]
    exact hrd.mono (fun b _ hb => by omega) (by decide)
  · rcases List.mem_append.1 (List.mem_of_mem_drop hx) with hx | hx
    · exact h.ok x hx
    · simp at hx; subst hx; exact hg
theorem Rd.init {w : World} {D : Nat → Prop} {B : Option Addr} {n c : Nat} {x : List Value} {es : List (List Value)} (h : Rd w D 1 B (n + 1) c (es ++ [x])) : Rd w D 1 B n c es :=
  ⟨by have := h.len; simpa using this, by have := h.le; omega, h.max, fun e he => h.rows e (List.mem_append_left _ he), fun _ => by
    obtain ⟨b', off', e, hb, hc⟩ := h.at_ (by omega)
    exact ⟨b', off', e, hb, fun i e hi k u hk => hc i e (by rw [List.getElem?_append_left (List.getElem?_eq_some_iff.1 hi).1]; exact hi) k u hk⟩⟩
theorem PSt.pop {w0 w w1 w2 : World} {m : Nat} {ini : List GP} {g : GP} {B : Option Addr} {k d : Nat} (h : PSt w0 w m (ini ++ [g]) B (k + 1) d) (hR : RingAt w1 (w0.heap.size + 1) w0.heap.size m (ini.map (·.es))) (hC : Chg (RS (w0.heap.size + 1) w0.heap.size) w w1)
    (hb : Below w1.heap.size w1 w2) : PSt w0 w2 m ini B k d := by
  have hz := hR.lt
  refine ⟨(h.st.next hR hC).stay hb, ?_, h.nil, fun x hx => h.ok x (List.mem_append_left _ hx)⟩
  have := h.rd
  unfold gpRows at this
  rw [List.map_append] at this
  exact ((Rd.init this).chg hC (fun b h1 h2 => by rcases h2 with h2 | h2 <;> omega)).below hb
theorem PSt.clear {w0 w w1 : World} {m : Nat} {gps : List GP} {B : Option Addr} {k d : Nat} (h : PSt w0 w m gps B k d) (hR : RingAt w1 (w0.heap.size + 1) w0.heap.size m []) (hC : Chg (RS (w0.heap.size + 1) w0.heap.size) w w1) : PSt w0 w1 m [] none 0 0 :=
  ⟨h.st.next hR hC, Rd.nil _ _ _, fun _ => rfl, by simp⟩

set_option maxRecDepth 100000 in
set_option maxHeartbeats 4000000 in
theorem undoPlays_any (c : Nat) (A : Option Addr) (n cc : Nat) (acs : List AC) (w : World) (hc : c < 256) (hx : Rd w (Old w) 3 A n cc (acRows acs)) (hg : ∀ a ∈ acs, a.g.ok w (Old w)) :
    Calls Try.prog 6 #[.int .u8 (c : Int), .slice A n cc] w fun e w' => e = .returned (.bool true) ∧ Below w.heap.size w w' := by
  have hlen : acs.length = n := by have := hx.len; simpa [acRows] using this
  have hn : n ≤ 9223372036854775807 := by have h1 := hx.le; have h2 := hx.max; unfold maxLen at h2; omega
  have HX := Lib.hid hx
  have H2 := Lib.hid hg
  have H3 := Lib.hid hlen
  have h0c : (0 : Int) ≤ (c : Int) := by omega
  have h1c : (c : Int) < 256 := by omega
  clear hx hg hlen
  by_cases hgr : 60 < n ∨ ∃ a ∈ acs, 6 < a.g.n
  · have G := great24_any A n cc acs (Old w) w HX.out true (decide_eq_true hgr).symm
    have HG := Lib.hid G
    clear G hgr
    go_enter Try.func6, Try.ntmps6
    go_wp2_with (go_at_call 27; refine HG.out.mono ?_; rintro e w' ⟨rfl, rfl⟩)
    refine (awake24_any _).mono ?_
    rintro e w11 ⟨rfl, B11⟩
    go_wp2
    go_ret
    exact ⟨rfl, B11⟩
  · have G := great24_any A n cc acs (Old w) w HX.out false (decide_eq_false hgr).symm
    have HG := Lib.hid G
    have h60 : n ≤ 60 := by have : ¬ 60 < n := fun h => hgr (.inl h); omega
    have H6 : RowKit.Hid (∀ a ∈ acs, a.g.n ≤ 6) := fun a ha => by
      have : ¬ 6 < a.g.n := fun h => hgr (.inr ⟨a, ha, h⟩)
      omega
    clear G hgr
    go_enter Try.func6, Try.ntmps6
    go_wp2_with (go_at_call 27; refine HG.out.mono ?_; rintro e w' ⟨rfl, rfl⟩)
    rw [show ((c : Int) % 21) = ((c % 21 : Nat) : Int) from by omega]
    have hm20 : c % 21 ≤ 20 := by omega
    generalize c % 21 = m at *
    refine (new_ring' m w (by omega)).mono ?_
    rintro e w1 ⟨rfl, R1, -, B1, -⟩
    have K1 : RowKit.Hid (PSt w w1 m [] none 0 0) := ⟨⟨R1, B1, by omega, by omega⟩, Rd.nil _ _ _, fun _ => rfl, by simp⟩
    clear R1 B1
    go_wp2
    go_loopg [8, 9] n (fun z s i wr => ∃ (j : Nat) (B : Option Addr) (k d : Nat), j + z = n ∧ i = .int .i64 (j : Int) ∧ s = .slice B k d ∧ RowKit.Hid (∃ gps, PSt w wr m gps B k d))
    case atStart => exact ⟨0, none, 0, 0, by omega, rfl, rfl, [], K1.out⟩
    case round =>
      clear K1
      obtain ⟨j, B, k, d, hjz, rfl, rfl, hst⟩ := hrel
      obtain ⟨gps, hst⟩ := hst.out
      have K := Lib.hid hst
      have hkm : k ≤ m := hst.le
      clear hst
      by_cases hlt : j < n
      · have q1 : (j : Int) < (n : Int) := by omega
        obtain ⟨b, off, hA, hb, hcell⟩ := ac_at HX.out (by omega)
        obtain ⟨a, hak⟩ : ∃ a, acs[j]? = some a := ⟨_, List.getElem?_eq_getElem (by rw [H3.out]; exact hlt)⟩
        have ha := List.mem_of_getElem? hak
        have hc3 := hcell j a hak
        have G6 : a.g.n ≤ 6 := H6.out a ha
        have OK := Lib.hid (H2.out a ha)
        obtain ⟨dd, g, z⟩ := a
        simp only at hc3 G6 OK
        have cx := below_cell K.out.st.below hc3.1
        have HC := Lib.hid hc3.2
        subst hA
        clear hcell hc3 hak ha
        go_upto_block 2 with fail
        go_cut [8, 9] (fun s i wx => ∃ (B : Option Addr) (k d : Nat), s = .slice B k d ∧ i = .int .i64 (j : Int) ∧ RowKit.Hid (∃ gps, PSt w wx m gps B k d))
        case first =>
          by_cases d0 : dd = 0
          · subst d0
            have cx1 := below_cell K.out.st.below HC.out.1
            unfold GP.val at cx1
            go_wp2_with fail
            refine (push_at K.out.st.ring (OK.out.1.below K.out.st.below) (fun b hb => by have : b < w.heap.size := hb; omega) (by omega)).mono ?_
            rintro e w2 ⟨rfl, R2, C2⟩
            have cx2 := below_cell (K.out.st.next R2 C2).below HC.out.1
            unfold GP.val at cx2
            have HR := Lib.hid R2
            have HCg := Lib.hid C2
            clear R2 C2 cx1 cx
            go_wp2_with fail
            have hlt := HR.out.lt
            refine (refPush_any B k d g.c g.n g.A m _ _ _ (K.out.rd.chg HCg.out (fun b h1 h2 => by rcases h2 with h2 | h2 <;> omega)) (by omega) K.out.nil).mono ?_
            rintro e w3 ⟨B', l, d', rfl, hne, hrd, hb⟩
            have hP := Lib.hid (K.out.push HR.out HCg.out hne hrd hb OK.out)
            clear hne hrd hb cx2 hlt
            go_wp2
            go_meet
            exact ⟨_, _, _, rfl, rfl, _, hP.out⟩
          have q0 : (dd == 0) = false := by simp [d0]
          by_cases d1 : dd = 1
          · subst d1
            clear d0 q0
            rcases snoc_cases gps with rfl | ⟨ini, g1, rfl⟩
            · have hk0 : k = 0 := by have := K.out.len; simpa using this.symm
              subst hk0
              obtain ⟨f7, hd7⟩ := K.out.st.ring.hd
              have HD := Lib.hid hd7
              clear hd7
              go_wp2_with fail
              refine (pop_empty _ _ _ _ _ HD.out).mono ?_
              rintro e w8 ⟨rfl, rfl⟩
              go_wp2_with fail
              refine (refAt_out B 0 d 0 _ (by omega) (.inr (by omega))).mono ?_
              rintro e w8 ⟨rfl, rfl⟩
              go_wp2_with fail
              refine (entries_any none none 0 0 0 0 [] [] [] [] (Old w) (Old w) (Old w) (Old w) _ (Rd.nil _ _ _) (Rd.nil _ _ _) ⟨rfl, by simp⟩ ⟨rfl, by simp⟩).mono ?_
              rintro e w8 ⟨rfl, B8⟩
              have K9 := Lib.hid (K.out.stay B8)
              clear B8 HD K
              rw [decide_eq_true (rfl : ([] : List ED) = [])]
              go_wp2
              go_meet
              exact ⟨_, _, _, rfl, rfl, _, K9.out⟩
            · have hk0 : k = ini.length + 1 := by have := K.out.len; simpa using this.symm
              subst hk0
              have hring := K.out.st.ring
              rw [List.map_append] at hring
              have HG1 := Lib.hid hring
              have hv : (gpRows (ini ++ [g1]))[ini.length + 1 - 1 - 0]? = some [g1.val] := by simp [gpRows]
              have HV := Lib.hid hv
              clear hring hv
              go_wp2_with fail
              refine (pop_at _ _ m _ _ _ HG1.out).mono ?_
              rintro e w7 ⟨A7, m7, rfl, D7, C7, R7⟩
              have hlt := R7.lt
              have B7 := (K.out.st.next R7 C7).below
              have OK1 := Lib.hid ((K.out.ok g1 (by simp)).below B7)
              have D7' := Lib.hid D7
              have HR := Lib.hid R7
              have HCg := Lib.hid C7
              have RD := Lib.hid (K.out.rd.chg C7 (fun b h1 h2 => by rcases h2 with h2 | h2 <;> omega))
              clear R7 C7 D7 B7 hlt HG1
              go_wp2_with fail
              refine (refAt_in B (ini.length + 1) d 0 _ _ g1.val _ RD.out (by omega) (by omega) HV.out).mono ?_
              rintro e w8 ⟨rfl, rfl⟩
              unfold GP.val
              go_wp2_with fail
              refine (entries_any _ _ _ _ _ _ _ _ _ _ _ _ _ _ _ D7'.out OK1.out.1 OK1.out.2 OK1.out.2).mono ?_
              rintro e w9 ⟨rfl, B9⟩
              have K9 := Lib.hid (K.out.pop HR.out HCg.out B9)
              have hd1 := K.out.rd.le
              have hd2 := K.out.rd.max
              unfold maxLen at hd2
              obtain ⟨b3, o3, hB, -, -⟩ := K.out.rd.at_ (by omega)
              clear B9 K HR HCg RD D7' OK1 HV
              subst hB
              rw [decide_eq_true (rfl : g1.L = g1.L)]
              go_wp2
              go_meet
              exact ⟨_, _, _, rfl, rfl, _, K9.out⟩
          · have q1' : (dd == 1) = false := by simp [d1]
            by_cases d2 : dd = 2
            · subst d2
              go_wp2_with fail
              refine (clear_at K.out.st.ring).mono ?_
              rintro e w7 ⟨rfl, R7, C7⟩
              have K9 := Lib.hid (K.out.clear R7 C7)
              clear R7 C7 K
              go_wp2
              go_meet
              exact ⟨_, _, _, rfl, rfl, _, K9.out⟩
            · have q2' : (dd == 2) = false := by simp [d2]
              go_wp2
              go_meet
              exact ⟨_, _, _, rfl, rfl, _, K.out⟩
        case rest =>
          obtain ⟨B', k', d', rfl, rfl, hst⟩ := hcut
          obtain ⟨gps', hst⟩ := hst.out
          have K' := Lib.hid hst
          have hlen' : gps'.length = k' := hst.len
          have hkm' : k' ≤ m := hst.le
          have cx2 := below_cell hst.st.below HC.out.2
          have c0 := hst.st.ring.c0
          have c2 := hst.st.ring.c2
          rw [List.length_map, hlen'] at c2
          have HL := Lib.hid hlen'
          have HRt := Lib.hid (rcap_any _ _ _ wc c0)
          clear hst hlen' c0
          by_cases hz : 0 ≤ z ∧ z < (k' : Int)
          · obtain ⟨i, rfl⟩ : ∃ i : Nat, z = (i : Int) := ⟨z.toNat, by omega⟩
            have hik : i < k' := by omega
            obtain ⟨g1, hg1⟩ : ∃ g1, gps'[k' - 1 - i]? = some g1 := ⟨_, List.getElem?_eq_getElem (by rw [HL.out]; omega)⟩
            have hv1 : RowKit.Hid ((gps'.map (·.es))[(gps'.map (·.es)).length - 1 - i]? = some g1.es) := by show _ = _; rw [List.length_map, HL.out, List.getElem?_map, hg1]; rfl
            have hv2 : RowKit.Hid ((gpRows gps')[k' - 1 - i]? = some [g1.val]) := by show _ = _; unfold gpRows; rw [List.getElem?_map, hg1]; rfl
            have OK0 := Lib.hid (K'.out.ok g1 (List.mem_of_getElem? hg1))
            clear hz hg1 c2
            go_wp2_with fail
            refine (rat_at _ _ m _ i wc K'.out.st.ring (by rw [List.length_map, HL.out]; exact hik) g1.es hv1.out).mono ?_
            rintro e w7 ⟨A7, m7, rfl, D7, B7⟩
            have K8 := Lib.hid (K'.out.stay B7)
            have cx3 := below_cell K8.out.st.below HC.out.2
            have D7' := Lib.hid D7
            clear B7 D7 cx2
            go_wp2_with fail
            refine (refAt_in B' k' d' i _ _ g1.val _ K8.out.rd (by omega) hik hv2.out).mono ?_
            rintro e w8 ⟨rfl, rfl⟩
            have OK1 := Lib.hid (OK0.out.below K8.out.st.below)
            unfold GP.val
            go_wp2_with fail
            refine (entries_any _ _ _ _ _ _ _ _ _ _ _ _ _ _ _ D7'.out OK1.out.1 OK1.out.2 OK1.out.2).mono ?_
            rintro e w8 ⟨rfl, B8⟩
            have K9 := Lib.hid (K8.out.stay B8)
            have c2' := K9.out.st.ring.c2
            rw [List.length_map, HL.out] at c2'
            have c0' := K9.out.st.ring.c0
            clear B8 cx3
            rw [decide_eq_true (rfl : g1.L = g1.L)]
            go_wp2_with (go_at_call 21; refine (rlen_any _ _ _ c2').mono ?_; rintro e w' ⟨rfl, rfl⟩)
            refine (rcap_any _ _ _ _ c0').mono ?_
            rintro e w9 ⟨rfl, rfl⟩
            go_wp2
            go_roundg (gk - 1)
            case measure => omega
            case rel => exact ⟨j + 1, _, _, _, by omega, by go_num, rfl, _, K9.out⟩
          · have hz' : z < 0 ∨ (k' : Int) ≤ z := by omega
            clear hz
            go_wp2_with fail
            refine (rat_out _ k' z _ c2 hz').mono ?_
            rintro e w8 ⟨rfl, rfl⟩
            go_wp2_with fail
            refine (refAt_out B' k' d' z _ (by omega) hz').mono ?_
            rintro e w8 ⟨rfl, rfl⟩
            go_wp2_with fail
            refine (entries_any none none 0 0 0 0 [] [] [] [] (Old w) (Old w) (Old w) (Old w) _ (Rd.nil _ _ _) (Rd.nil _ _ _) ⟨rfl, by simp⟩ ⟨rfl, by simp⟩).mono ?_
            rintro e w8 ⟨rfl, B8⟩
            have K9 := Lib.hid (K'.out.stay B8)
            have c2' := K9.out.st.ring.c2
            rw [List.length_map, HL.out] at c2'
            have c0' := K9.out.st.ring.c0
            clear B8 cx2 c2
            rw [decide_eq_true (rfl : ([] : List ED) = [])]
            go_wp2_with (go_at_call 21; refine (rlen_any _ _ _ c2').mono ?_; rintro e w' ⟨rfl, rfl⟩)
            refine (rcap_any _ _ _ _ c0').mono ?_
            rintro e w9 ⟨rfl, rfl⟩
            go_wp2
            go_roundg (gk - 1)
            case measure => omega
            case rel => exact ⟨j + 1, _, _, _, by omega, by go_num, rfl, _, K9.out⟩
      · have q1 : ¬ (j : Int) < (n : Int) := by omega
        have B7 := Lib.hid K.out.st.below
        clear K
        go_wp2_with fail
        refine (awake24_any _).mono ?_
        rintro e w11 ⟨rfl, B11⟩
        go_wp2
        go_ret
        exact ⟨rfl, B7.out.trans (B11.mono B7.out.size)⟩
end Go.Proofs.Ytochdmbjlemfoaa
