/-
  Layer 21 (fns): SetStop, SetTrace, Stop, Trace: contracts over set and lines. (Printed by tools/gen_n11.py.)
-/
import Derived.Test.YtjkofndnhmfnoaaN10
namespace Go.Proofs.Ytjkofndnhmfnoaa
open Go Go.RowKit

set_option maxRecDepth 100000 in
theorem setStop_ok (own D Dl : Nat → Prop) (r : Nat) (s : St) (name : ByteArray) (A : Option Addr) (c : Nat) (zs : List Int) (w : World) (h : SS w own D r s) (hk : name.size ≤ 900000) (hG : s.G.length ≤ 900000) (hK : s.K.length ≤ 900000) (hn : nameB name = true) (hd : (s.name name).kind = 2) (hl : zs.length ≤ 1000) (h0 : zs ≠ []) (hr : ∀ x ∈ zs, 1 ≤ x ∧ x ≤ 100) (hz : Rd w Dl 1 A zs.length c (intRows .i64 zs)) :
    Calls Try.prog 14 #[.pointer (some ⟨r, 0, none⟩), .string name, .slice A zs.length c] w fun e w' => e = .returned (.int .i64 0) ∧ AfterD w w' own r (s.put (pkey name) (lineT (uniq21 zs))) := by
  have HS := Lib.hid (set_ok own D Dl r s ⟨#[112, 47]⟩ name A c zs w h rfl hk hG hK hn hd hl h0 hr hz)
  clear h hG hK hn hd hl h0 hr hz
  go_enter Try.func14, Try.ntmps14
  go_wp2_with fail
  refine HS.out.mono ?_
  rintro e w1 ⟨rfl, h1⟩
  have H1 := Lib.hid h1
  clear h1 HS
  go_wp2
  go_ret
  exact ⟨rfl, H1.out⟩
set_option maxRecDepth 100000 in
theorem stop_good (own D : Nat → Prop) (r : Nat) (s : St) (name : ByteArray) (w : World) (h : SS w own D r s) (hk : name.size ≤ 900000) (hd : (s.look (pkey name)).kind = 1) (hc : (s.look (pkey name)).v.char = false) (hs : (s.look (pkey name)).v.shape.length = 1) (hl : ∀ x ∈ (s.look (pkey name)).v.data, 1 ≤ x ∧ x ≤ 100) (hn : (s.look (pkey name)).v.data.length ≤ 1000) :
    Calls Try.prog 19 #[.pointer (some ⟨r, 0, none⟩), .string name] w fun e w' => ∃ A c, e = .returned (.slice A (s.look (pkey name)).v.data.length c) ∧ Rd w' (fun b => w.heap.size ≤ b) 1 A (s.look (pkey name)).v.data.length c (intRows .i64 (s.look (pkey name)).v.data) ∧ Below w.heap.size w w' := by
  have HS := Lib.hid (lines_good own D r s (pkey name) w h (by rw [pkey_size]; omega) hd hc hs hl hn)
  have HPK : RowKit.Hid ((⟨#[112, 47]⟩ : ByteArray) ++ name = pkey name) := rfl
  have hsz : ¬ 9223372036854775807 < 2 + name.size := by omega
  clear h hd hc hs hl hn
  go_enter Try.func19, Try.ntmps19
  go_wp2_with fail
  rw [HPK.out]
  refine HS.out.mono ?_
  rintro e w1 ⟨A, c, rfl, h1, h2⟩
  have H1 := Lib.hid h1
  have H2 := Lib.hid h2
  clear h1 h2 HS
  go_wp2
  go_ret
  exact ⟨A, c, rfl, H1.out, H2.out⟩

set_option maxRecDepth 100000 in
theorem setTrace_ok (own D Dl : Nat → Prop) (r : Nat) (s : St) (name : ByteArray) (A : Option Addr) (c : Nat) (zs : List Int) (w : World) (h : SS w own D r s) (hk : name.size ≤ 900000) (hG : s.G.length ≤ 900000) (hK : s.K.length ≤ 900000) (hn : nameB name = true) (hd : (s.name name).kind = 2) (hl : zs.length ≤ 1000) (h0 : zs ≠ []) (hr : ∀ x ∈ zs, 1 ≤ x ∧ x ≤ 100) (hz : Rd w Dl 1 A zs.length c (intRows .i64 zs)) :
    Calls Try.prog 16 #[.pointer (some ⟨r, 0, none⟩), .string name, .slice A zs.length c] w fun e w' => e = .returned (.int .i64 0) ∧ AfterD w w' own r (s.put (tkey name) (lineT (uniq21 zs))) := by
  have HS := Lib.hid (set_ok own D Dl r s ⟨#[116, 47]⟩ name A c zs w h rfl hk hG hK hn hd hl h0 hr hz)
  clear h hG hK hn hd hl h0 hr hz
  go_enter Try.func16, Try.ntmps16
  go_wp2_with fail
  refine HS.out.mono ?_
  rintro e w1 ⟨rfl, h1⟩
  have H1 := Lib.hid h1
  clear h1 HS
  go_wp2
  go_ret
  exact ⟨rfl, H1.out⟩
set_option maxRecDepth 100000 in
theorem trace_good (own D : Nat → Prop) (r : Nat) (s : St) (name : ByteArray) (w : World) (h : SS w own D r s) (hk : name.size ≤ 900000) (hd : (s.look (tkey name)).kind = 1) (hc : (s.look (tkey name)).v.char = false) (hs : (s.look (tkey name)).v.shape.length = 1) (hl : ∀ x ∈ (s.look (tkey name)).v.data, 1 ≤ x ∧ x ≤ 100) (hn : (s.look (tkey name)).v.data.length ≤ 1000) :
    Calls Try.prog 18 #[.pointer (some ⟨r, 0, none⟩), .string name] w fun e w' => ∃ A c, e = .returned (.slice A (s.look (tkey name)).v.data.length c) ∧ Rd w' (fun b => w.heap.size ≤ b) 1 A (s.look (tkey name)).v.data.length c (intRows .i64 (s.look (tkey name)).v.data) ∧ Below w.heap.size w w' := by
  have HS := Lib.hid (lines_good own D r s (tkey name) w h (by rw [tkey_size]; omega) hd hc hs hl hn)
  have HPK : RowKit.Hid ((⟨#[116, 47]⟩ : ByteArray) ++ name = tkey name) := rfl
  have hsz : ¬ 9223372036854775807 < 2 + name.size := by omega
  clear h hd hc hs hl hn
  go_enter Try.func18, Try.ntmps18
  go_wp2_with fail
  rw [HPK.out]
  refine HS.out.mono ?_
  rintro e w1 ⟨A, c, rfl, h1, h2⟩
  have H1 := Lib.hid h1
  have H2 := Lib.hid h2
  clear h1 h2 HS
  go_wp2
  go_ret
  exact ⟨A, c, rfl, H1.out, H2.out⟩
end Go.Proofs.Ytjkofndnhmfnoaa
