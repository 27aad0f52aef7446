/- FnExactLabelState returns true for every state and every list of expressions. Conditions: none. -/
import Derived.Test.YtdmieedfddgmjaaLetterV
import Derived.Test.YtdmieedfddgmjaaExprA
import Derived.Test.YtdmieedfddgmjaaRegOrd
namespace Go.Proofs.Ytdmieedfddgmjaa
open Go.RowKit
set_option linter.unusedVariables false
set_option linter.unusedSimpArgs false

theorem smallL_len2 {l : List Tr} {left : Int} (hle : left ≤ 1048576) (h : 0 ≤ szL l (left - l.length)) : l.length ≤ 1048576 ∧ SmallL l := by
  by_cases hn : left - l.length < 0
  · rw [szL_neg _ _ hn] at h; omega
  · exact ⟨by omega, smallL_of_sz l (left - l.length) (by omega) h⟩
theorem own_trs {w : World} {l : List Tr} {R : Nat} {f : Nat → Value} {bs : List Nat} (hr : Row w R (l.length * 3) f) (ho : TrsOwn w f l 0 bs) : TrsIn Any w l (some ⟨R, 0, none⟩) :=
  TrOwn_in.2 l f 0 bs ho (fun _ _ => trivial) R trivial (by simpa using hr)

set_option maxRecDepth 100000 in
set_option maxHeartbeats 1000000 in
theorem walk_FnExactLabelState (s l : List Int) (ts : List Tr) (w : World) (x : Value) (e : Option Addr) (f : Nat) (hx : State.PairIn Any w s l x) (ht : TrsIn Any w ts e) (hf : ts.length ≤ f) (hf2 : f ≤ maxLen) : Calls Try.prog 3 #[x, .slice e ts.length f] w (Ret (.bool true) w) := by
  have HX := hid hx
  have HTS := hid ht
  obtain ⟨a, b, c, d, rfl, h1, h2, _⟩ := hx
  have hI := hid (And.intro h1.2 h2.2)
  have hbd := State.szP_bd (l := s) (m := l) (left := 1048576) (by omega)
  have HSZ := hid (fun (W : World) (M : Below w.heap.size w W) => State.sz_any s l W _ 1048576 (HX.out.below M) (by omega) (by omega))
  have HSF := hid (fun (W : World) (M : Below w.heap.size w W) => Expr.szL_any ts W e f (State.szP s l 1048576) (TrsIn_below M HTS.out) hbd.2 hbd.1 hf hf2)
  have hbd2 := szL_bd ts (State.szP s l 1048576 - ts.length) (by omega)
  have HS1 := hid (fun (h : 0 ≤ State.szP s l 1048576) => State.szP_len (by omega) h)
  have HS2 := hid (fun (h : 0 ≤ szL ts (State.szP s l 1048576 - ts.length)) => smallL_len2 hbd.2 h)
  generalize State.szP s l 1048576 = g at *
  generalize szL ts (g - ts.length) = g2 at *
  clear ht h1 h2
  by_cases k1 : g < 0
  · go_enter Try.func3, Try.ntmps3
    go_wp2_with fail
    refine (HSZ.out _ (by repeat (first | exact Below.refl _ _ | assumption | refine below_a ?_ _ | refine below_o ?_ _ | refine below_d ?_ | refine below_n ?_ _ | refine below_s ?_ (by first | (simp; done) | (simp; omega) | omega) _))).mono ?_
    rintro y w1 ⟨rfl, hb⟩
    go_wp2_with fail
    go_ret
    exact Ret.mk rfl (below_next (by repeat (first | exact Below.refl _ _ | assumption | refine below_a ?_ _ | refine below_o ?_ _ | refine below_d ?_ | refine below_n ?_ _ | refine below_s ?_ (by first | (simp; done) | (simp; omega) | omega) _)) hb)
  by_cases k2 : g2 < 0
  · go_enter Try.func3, Try.ntmps3
    go_wp2_with fail
    refine (HSZ.out _ (by repeat (first | exact Below.refl _ _ | assumption | refine below_a ?_ _ | refine below_o ?_ _ | refine below_d ?_ | refine below_n ?_ _ | refine below_s ?_ (by first | (simp; done) | (simp; omega) | omega) _))).mono ?_
    rintro y w1 ⟨rfl, hb⟩
    have B1 := hid (below_next (show Below w.heap.size w _ from (by repeat (first | exact Below.refl _ _ | assumption | refine below_a ?_ _ | refine below_o ?_ _ | refine below_d ?_ | refine below_n ?_ _ | refine below_s ?_ (by first | (simp; done) | (simp; omega) | omega) _))) hb)
    clear hb
    go_wp2_with fail
    refine (HSF.out _ B1.out).mono ?_
    rintro y w2 ⟨rfl, hb⟩
    go_wp2_with fail
    go_ret
    exact Ret.mk rfl (below_next B1.out hb)
  have hl := hid (HS1.out (by omega))
  have hsm := hid (HS2.out (by omega))
  have HTO := hid (fun (W : World) (M : Below w.heap.size w W) => State.to_any s l W _ (HX.out.below M) hl.out.1 hl.out.2)
  have HTL := hid (fun (W : World) (M : Below w.heap.size w W) => Expr.toL_any ts hsm.out.1 W e f (TrsIn_below M HTS.out) hsm.out.2 hf hf2)
  have hlen := hsm.out.1
  clear HS1 HS2
  go_enter Try.func3, Try.ntmps3
  go_wp2_with fail
  refine (HSZ.out _ (by repeat (first | exact Below.refl _ _ | assumption | refine below_a ?_ _ | refine below_o ?_ _ | refine below_d ?_ | refine below_n ?_ _ | refine below_s ?_ (by first | (simp; done) | (simp; omega) | omega) _))).mono ?_
  rintro y w1 ⟨rfl, hb⟩
  have P := hid (State.pbox_next hb (State.pbox_at (w := w) (B := w.heap.size) (a := .slice a s.length c) (b := .slice b l.length d) rfl))
  have B := hid (below_next (show Below w.heap.size w _ from below_alloc _ _) hb)
  clear hb
  go_wp2_with fail
  refine (HSF.out _ B.out).mono ?_
  rintro y w2 ⟨rfl, hb⟩
  replace P := hid (State.pbox_next hb P.out)
  replace B := hid (below_next B.out hb)
  clear hb HSZ HSF
  obtain ⟨p0, p1, p2, p3, p4⟩ := id P.out
  go_wp2_with fail
  refine (HTO.out _ B.out).mono ?_
  rintro y w3 ⟨v1, rfl, hn1, hb⟩
  have N1 := hid (hn1.any hI.out.1 hI.out.2 (Nat.le_trans hl.out.1 (by unfold maxLen; omega)) (Nat.le_trans hl.out.2 (by unfold maxLen; omega)))
  replace P := hid (State.pbox_next hb P.out)
  replace B := hid (below_next B.out hb)
  clear hb hn1 p0 p1 p2 p3 p4
  go_wp2_with fail
  refine (HTL.out _ B.out).mono ?_
  rintro y w4 ⟨v2, rfl, ⟨c2, f2, bs2, rfl, k2a, m2, r2, o2, _⟩, hb⟩
  have T2 := hid (own_trs r2 o2)
  replace N1 := hid (N1.out.below hb)
  replace P := hid (State.pbox_next hb P.out)
  replace B := hid (below_next B.out hb)
  clear hb r2 o2
  go_wp2_with fail
  refine (State.specLabel_any s l ts _ _ _ c2 N1.out T2.out k2a m2).mono ?_
  rintro y w5 ⟨rfl, hb⟩
  replace P := hid (State.pbox_next hb P.out)
  replace B := hid (below_next B.out hb)
  clear hb N1 T2
  obtain ⟨p0, p1, p2, p3, p4⟩ := id P.out
  go_wp2_with fail
  refine (HTO.out _ B.out).mono ?_
  rintro y w6 ⟨v1, rfl, hn1, hb⟩
  have N1 := hid (hn1.any hI.out.1 hI.out.2 (Nat.le_trans hl.out.1 (by unfold maxLen; omega)) (Nat.le_trans hl.out.2 (by unfold maxLen; omega)))
  obtain ⟨r3, r4, rfl, _⟩ := hn1
  replace P := hid (State.pbox_next hb P.out)
  replace B := hid (below_next B.out hb)
  clear hb p0 p1 p2 p3 p4
  go_wp2_with fail
  refine (HTL.out _ (below_next B.out (below_alloc _ _))).mono ?_
  rintro y w7 ⟨v2, rfl, ⟨c3, f3, bs3, rfl, k3a, m3, r3', o3, _⟩, hb⟩
  have T3' := own_trs r3' o3
  simp only [World.size_alloc] at T3'
  have T3 := hid T3'
  have X := hid (State.pbox_next hb (State.pbox_at (w := w6) (B := w6.heap.size) (a := .slice (some ⟨r3, 0, none⟩) s.length s.length) (b := .slice (some ⟨r4, 0, none⟩) l.length l.length) (t := 30) rfl))
  replace hb := below_next (below_alloc _ _) hb
  replace N1 := hid (N1.out.below hb)
  replace P := hid (State.pbox_next hb P.out)
  replace B := hid (below_next B.out hb)
  clear hb r3' o3 T3'
  obtain ⟨x0, x1, x2, x3, x4⟩ := id X.out
  go_wp2_with fail
  refine (State.label_any s l ts _ _ _ c3 N1.out T3.out k3a m3).mono ?_
  rintro y w8 ⟨rfl, hb⟩
  replace X := hid (State.pbox_next hb X.out)
  replace T3 := hid (TrsIn_below hb T3.out)
  replace N1 := hid (N1.out.below hb)
  replace P := hid (State.pbox_next hb P.out)
  replace B := hid (below_next B.out hb)
  clear hb x0 x1 x2 x3 x4
  have e1 : (State.letV l ts != State.letV l ts) = false := by simp
  have e2 : (State.letOk l ts != State.letOk l ts) = false := by simp
  generalize State.letV l ts = z at *
  generalize State.letOk l ts = q at *
  obtain ⟨x0, x1, x2, x3, x4⟩ := id X.out
  obtain ⟨p0, p1, p2, p3, p4⟩ := id P.out
  go_wp2_with fail
  refine wp_region_ord (C := fun wZ => ∃ xZ, wZ = World.over _ xZ) [0,1] (.one 2 (.one 3 (.one 4 .done))) [] (by kernel_rfl) (by kernel_rfl) (fun d _ _ _ _ h => by cases d <;> exact h) (bex (Below.refl _ _).drew) ?_; simp only [pick, List.getElem?_cons_succ, List.getElem?_cons_zero]; (repeat (go_big_quiet_step (fail))); refine wpQuiet_nil ?_; simp only [ordW, pick, List.getElem?_cons_succ, List.getElem?_cons_zero]
  have C := hid (below_d (Below.refl w8.heap.size w8))
  go_wp2_with fail
  refine (HTO.out _ (below_next B.out C.out)).mono ?_
  rintro y w9 ⟨v3, rfl, hn3, hb⟩
  have N3 := hid (hn3.any hI.out.1 hI.out.2 (Nat.le_trans hl.out.1 (by unfold maxLen; omega)) (Nat.le_trans hl.out.2 (by unfold maxLen; omega)))
  replace C := hid (below_next C.out hb)
  clear hb hn3
  go_wp2_with fail
  refine ⟨bex C.out, ?_⟩
  go_wp2_with fail
  refine (State.eq_any s l s l _ _ _ (N1.out.below C.out) N3.out).mono ?_
  rintro y w10 ⟨rfl, hb⟩
  replace C := hid (below_next C.out hb)
  have hee : (s == s && l == l) = true := by simp
  rw [hee]
  clear hb N3 hee
  go_wp2_with fail
  refine ⟨bex C.out, ?_⟩
  go_wp2_with fail
  refine ⟨bex C.out, ?_⟩
  replace T3 := hid (TrsIn_below C.out T3.out)
  replace B := hid (below_next B.out C.out)
  clear C P X x0 x1 x2 x3 x4 p0 p1 p2 p3 p4 N1
  go_wp2_with fail
  refine (HTL.out _ B.out).mono ?_
  rintro y w11 ⟨v2, rfl, ⟨c4, f4, bs4, rfl, k4a, m4, r4', o4, _⟩, hb⟩
  have T4 := hid (own_trs r4' o4)
  replace T3 := hid (TrsIn_below hb T3.out)
  replace B := hid (below_next B.out hb)
  clear hb r4' o4
  go_wp2_with fail
  refine (Expr.eqL_any ts _ ts _ _ c3 c4 T3.out T4.out k3a m3 k4a m4).mono ?_
  rintro y w12 ⟨rfl, hb⟩
  rw [eqL_refl]
  replace B := hid (below_next B.out hb)
  clear hb
  go_wp2_with fail
  go_ret
  exact Ret.mk rfl B.out
end Go.Proofs.Ytdmieedfddgmjaa
