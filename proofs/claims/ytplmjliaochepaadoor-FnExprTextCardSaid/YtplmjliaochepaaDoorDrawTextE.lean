/- The reference's DrawParseExpr: some text. Conditions: those of each contract. -/
import Derived.Test.YtplmjliaochepaaDoorDrawText
namespace Go.Proofs.YtplmjliaochepaaDoor
open Go.RowKit
namespace Expr

set_option maxRecDepth 100000 in
set_option maxHeartbeats 2000000 in
theorem drawText_any (w : World) (a : Option Addr) (len cap : Nat) (hb : ByteArg w a len cap) : Calls Tryd.prog 11 #[.slice a len cap] w (TextPost w) := by
  go_enter Tryd.func11, Tryd.ntmps11
  go_wp2_with fail
  refine (open_any w a len cap hb).mono ?_
  rintro e w1 ⟨v, rfl, ⟨R, B, rfl, hRw, hr⟩, hb1⟩
  have hRl := hr.lt
  have HR := hid hr
  clear hb hr
  go_wp2_with fail
  refine (form_any w1 R B 0 HR.out (by omega)).mono ?_
  rintro e w2 ⟨v2, t, p2, rfl, hn, hnt, hv, hb2, hr2, hp2⟩
  obtain ⟨a2, n2, rfl⟩ := TrIn_shape hn.any
  have HN := hid hn.any
  have HR2 := hid hr2
  have HB2 := hid (hb2.new hb1 hRw)
  have hl := exprT.txt_len t
  have hsz : (bs (fmt t)).size ≤ 200 := by
    rw [bs_size, show fmt t = exprT.txt t by simp [fmt, hv]]
    omega
  have HSZ := hid hsz
  have hs2 := hb2.size
  have hs1 := hb1.size
  clear hn hb2 hr2 hb1 hsz hv hl
  go_wp2_with fail
  refine (specFmt_any t _ _ HN.out).mono ?_
  rintro e w3 ⟨rfl, hb3⟩
  have HB3 := hid hb3
  have hs3 := hb3.size
  clear hb3
  generalize bs (fmt t) = S at *
  go_wp2_with fail
  have hT := Texts.new [⟨#[]⟩, ⟨#[40]⟩, ⟨#[41]⟩, ⟨#[120]⟩, ⟨#[48]⟩, ⟨#[52]⟩, ⟨#[33]⟩, ⟨#[38]⟩, ⟨#[43]⟩, ⟨#[32]⟩] (by decide) w3 9
  have HX := bend_any B (w3.alloc (.cells #[.string ⟨#[]⟩, .string ⟨#[40]⟩, .string ⟨#[41]⟩, .string ⟨#[120]⟩, .string ⟨#[48]⟩, .string ⟨#[52]⟩, .string ⟨#[33]⟩, .string ⟨#[38]⟩, .string ⟨#[43]⟩, .string ⟨#[32]⟩] 9)) R p2 w3.heap.size 10 S (by have := HSZ.out; omega) ((HR2.out.next HB3.out).next (below_alloc _ _)) (by omega) (by omega) (by omega) (by omega) hT
  refine HX.mono ?_
  clear HX hT
  rintro e w4 ⟨s, rfl, hs, hb4, _⟩
  have HF := hid (hb4.new (below_next (below_next HB2.out HB3.out) (below_alloc _ _)) hRw)
  have HS := hid (show s.size ≤ 1000 by have := HSZ.out; omega)
  clear hb4 hs
  go_wp2_with fail
  go_ret
  exact ⟨s, rfl, HS.out, HF.out⟩
end Expr
end Go.Proofs.YtplmjliaochepaaDoor
