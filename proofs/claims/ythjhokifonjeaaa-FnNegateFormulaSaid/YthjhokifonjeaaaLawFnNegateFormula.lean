/- FnNegateFormula returns true for every argument. Conditions: none. -/
import Derived.Test.YthjhokifonjeaaaDrawNegateFormula
import Derived.Test.YthjhokifonjeaaaNormX
import Derived.Test.YthjhokifonjeaaaNegS
import Derived.Test.YthjhokifonjeaaaDualFix
namespace Go.Proofs.Ythjhokifonjeaaa
open Go.RowKit
open Go.Proofs.Ythjhokifonjeaaa.Formula

/-- what stands behind two negations -/
def twiceT (t : Tr) : Tr := if t.kind = 3 ∧ (t.kids.headD zeroT).kind = 3 then (t.kids.headD zeroT).kids.headD zeroT else t
theorem neg_facts {t : Tr} (h : negOk t = true) : (negOk (negV t) = true → negV (negV t) = twiceT t) ∧ DualR (nfT t false) (nfT (negV t) false) ∧
    ((t.kind = 3 ∧ ∃ u, t = .mk 3 0 [u] ∧ (u.kind = 3 → ∃ z, u = .mk 3 0 [z] ∧ twiceT t = z) ∧ (u.kind ≠ 3 → twiceT t = t)) ∨ (t.kind ≠ 3 ∧ twiceT t = t)) := by
  have h0 := h
  rw [negOk, Bool.and_eq_true] at h
  obtain ⟨hv, hg⟩ := h
  have e : negV t = negT t := by rw [negV, if_pos h0]
  have hs : formL.shape t (6 : Nat) = true := by rw [Lang.valid, Bool.and_eq_true] at hv; exact hv.1
  rw [e]
  have key : ∀ u, formL.valid u = true → u.kind = 3 → ∃ z, u = .mk 3 0 [z] ∧ formL.valid z = true := by
    intro u hu h3
    cases u with
    | mk k v kids =>
    have h3' : k = 3 := h3
    obtain ⟨z, rfl, hz⟩ := neg_kid hu h3'
    have hsu : formL.shape (.mk k v [z]) (6 : Nat) = true := by rw [Lang.valid, Bool.and_eq_true] at hu; exact hu.1
    obtain ⟨m, _, _, _, h4, h5, _⟩ := formL.shape_mk hsu
    subst h3'
    rw [formL_most, if_neg (by omega)] at h5
    obtain rfl : v = 0 := by omega
    exact ⟨z, rfl, hz⟩
  by_cases h3 : t.kind = 3
  · obtain ⟨u, rfl, hu⟩ := key t hv h3
    have en : negT (.mk 3 0 [u]) = u := rfl
    rw [en]
    refine ⟨fun hok => ?_, ?_, .inl ⟨rfl, u, rfl, fun hu3 => ?_, fun hu3 => by simp [twiceT, Tr.kind, Tr.kids] at hu3 ⊢; omega⟩⟩
    · have eu : negV u = negT u := by rw [negV, if_pos hok]
      rw [eu]
      by_cases hu3 : u.kind = 3
      · obtain ⟨z, rfl, hz⟩ := key u hu hu3
        rfl
      · cases u with
        | mk k v kids =>
        have hk : k ≠ 3 := hu3
        simp [negT, hk, twiceT, Tr.kind, Tr.kids]
    · have hsu : formL.shape u (6 : Nat) = true := by rw [Lang.valid, Bool.and_eq_true] at hu; exact hu.1
      have := nf_dual u 6 true hsu
      simp [nfT, nfL, nfNode] at this ⊢
      exact this
    · obtain ⟨z, rfl, hz⟩ := key u hu hu3
      exact ⟨z, rfl, rfl⟩
  · cases t with
    | mk k v kids =>
    have hk : k ≠ 3 := h3
    have en : negT (.mk k v kids) = .mk 3 0 [.mk k v kids] := by simp [negT, hk]
    rw [en]
    refine ⟨fun hok => ?_, ?_, .inr ⟨h3, by simp [twiceT, Tr.kind, hk]⟩⟩
    · rw [negV, if_pos hok]; simp [negT, twiceT, Tr.kind, hk]
    · have := nf_dual _ 6 false hs
      have e2 : nfT (.mk 3 0 [.mk k v kids]) false = nfT (.mk k v kids) true := by rw [nfT]; simp [nfNode, nfL]
      rw [e2]; exact this

/-- behind 'twice := ..' -/
def NegSt (t r : Tr) (w4 : World) (P1 P2 : Nat) (a1 : Option Addr) (n1 : Nat) (aG : Option Addr) (cG : Nat) (W : World) : Prop := Below w4.heap.size w4 W ∧ (Box3 W P1 (.int .i64 t.kind) (.int .i64 t.val) (.slice a1 t.kids.length n1) ∧ Box3 W P2 (.int .i64 r.kind) (.int .i64 r.val) (.slice aG r.kids.length cG)) ∧
  ∃ tw atw ctw, Box3 W w4.heap.size (.int .i64 tw.kind) (.int .i64 tw.val) (.slice atw tw.kids.length ctw) ∧ TrIn Any W tw (.agg #[.int .i64 tw.kind, .int .i64 tw.val, .slice atw tw.kids.length ctw]) ∧ twiceT t = tw

set_option maxRecDepth 100000 in
set_option maxHeartbeats 4000000 in
theorem walk_FnNegateFormula (w : World) (a : Option Addr) (len cap : Nat) (hb : ByteArg w a len cap) : Calls Try.prog 6 #[.slice a len cap] w (Ret (.bool true) w) := by
  have hcap := hb.2.1
  have hcap1 := hb.1
  unfold maxLen at hcap
  by_cases hlen : len > 1048576
  · have hlen2 : (len : Int) > 1048576 := by omega
    go_enter Try.func6, Try.ntmps6
    go_wp2_with fail
    go_ret
    exact Ret.mk rfl (by repeat (first | exact Below.refl _ _ | assumption | refine below_a ?_ _ | refine below_o ?_ _ | refine below_d ?_ | refine below_n ?_ _ | refine below_s ?_ (by first | (simp; done) | (simp; omega) | omega) _))
  have hlen2 : ¬ ((len : Int) > 1048576) := by omega
  go_enter Try.func6, Try.ntmps6
  go_wp2_with fail
  refine (Formula.drawNegateFormula_any _ a len cap hb).mono ?_
  rintro e w1 ⟨v, rfl, ⟨t, hn, hnt⟩, B1⟩
  obtain ⟨a1, n1, rfl⟩ := TrIn_shape hn.any
  have hx := hn.any
  have hsm := small_nodes t (by omega)
  clear hn hb
  go_wp2_with fail
  refine (Formula.negate_any t _ _ (TrIn_below (by repeat (first | exact Below.refl _ _ | assumption | refine below_a ?_ _ | refine below_o ?_ _ | refine below_d ?_ | refine below_n ?_ _ | refine below_s ?_ (by first | (simp; done) | (simp; omega) | omega) _)) hx) hsm).mono ?_
  rintro e w2 ⟨vG, rfl, hG, hb2⟩
  obtain ⟨aG, cG, rfl⟩ := TrIn_shape hG.any
  have b3 := box3_next hb2 (box3_new w1 (.int .i64 t.kind) (.int .i64 t.val) (.slice a1 t.kids.length n1) 25)
  replace hb2 := below_next (below_alloc _ _) hb2
  have hx2 := TrIn_below hb2 hx
  replace B1 := below_next B1 hb2
  clear hb2 hx
  go_wp2_with fail
  refine (Formula.specNegate_any t _ _ (TrIn_below (by repeat (first | exact Below.refl _ _ | assumption | refine below_a ?_ _ | refine below_o ?_ _ | refine below_d ?_ | refine below_n ?_ _ | refine below_s ?_ (by first | (simp; done) | (simp; omega) | omega) _)) hx2) hsm).mono ?_
  rintro e w3 ⟨vW, rfl, hW, hb3⟩
  obtain ⟨aW, cW, rfl⟩ := TrIn_shape hW.any
  have b4 := box3_next hb3 (box3_new w2 (.int .i64 (negV t).kind) (.int .i64 (negV t).val) (.slice aG (negV t).kids.length cG) 25)
  replace hb3 := below_next (below_alloc _ _) hb3
  replace b3 := box3_next hb3 b3
  have hTa := TrIn_below hb3 hx2
  have hGa := TrIn_below hb3 hG.any
  have hWa := hW.any
  replace B1 := below_next B1 hb3
  clear hb3 hG hW hx2
  have hbb : (negOk t != negOk t) = false := by simp
  have hbb2 : (negOk t == negOk t) = true := by simp
  have HE0 := hid (fun (w : World) (u : Tr) x y (h1 : TrIn Any w u x) (h2 : TrIn Any w u y) => Formula.same_any u w u x y h1 h2)
  have HE2 := HE0.out
  simp only [eqT_refl] at HE2
  replace HE0 := hid HE2
  clear HE2
  have HF := hid (fun h => neg_facts (t := t) h)
  have HSM := hid (small_nodes (negV t) (by have := negV_small t; omega))
  generalize negV t = r at *
  cases hok : negOk t with
  | false =>
    rw [hok] at *
    clear HF
    go_wp2_with fail
    refine (HE0.out _ r _ _ (TrIn_below (by repeat (first | exact Below.refl _ _ | assumption | refine below_a ?_ _ | refine below_o ?_ _ | refine below_d ?_ | refine below_n ?_ _ | refine below_s ?_ (by first | (simp; done) | (simp; omega) | omega) _)) hGa) (TrIn_below (by repeat (first | exact Below.refl _ _ | assumption | refine below_a ?_ _ | refine below_o ?_ _ | refine below_d ?_ | refine below_n ?_ _ | refine below_s ?_ (by first | (simp; done) | (simp; omega) | omega) _)) hWa)).mono ?_
    rintro e w4 ⟨rfl, hb4⟩
    have b6 := box3_next hb4 (box3_new w3 (.int .i64 r.kind) (.int .i64 r.val) (.slice aW r.kids.length cW) 25)
    replace hb4 := below_next (below_alloc _ _) hb4
    replace b4 := box3_next hb4 b4
    replace B1 := below_next B1 hb4
    replace hGa := TrIn_below hb4 hGa
    replace hWa := TrIn_below hb4 hWa
    clear hb4
    go_wp2_with fail
    refine (HE0.out _ r _ _ (TrIn_below (by repeat (first | exact Below.refl _ _ | assumption | refine below_a ?_ _ | refine below_o ?_ _ | refine below_d ?_ | refine below_n ?_ _ | refine below_s ?_ (by first | (simp; done) | (simp; omega) | omega) _)) hGa) (TrIn_below (by repeat (first | exact Below.refl _ _ | assumption | refine below_a ?_ _ | refine below_o ?_ _ | refine below_d ?_ | refine below_n ?_ _ | refine below_s ?_ (by first | (simp; done) | (simp; omega) | omega) _)) hWa)).mono ?_
    rintro e w5 ⟨rfl, hb5⟩
    replace B1 := below_next B1 hb5
    go_wp2_with fail
    go_ret
    exact Ret.mk rfl B1
  | true =>
    obtain ⟨hback, hdual, hcase⟩ := HF.out hok
    rw [hok] at *
    clear HF hok
    go_wp2_with fail
    refine (HE0.out _ r _ _ (TrIn_below (by repeat (first | exact Below.refl _ _ | assumption | refine below_a ?_ _ | refine below_o ?_ _ | refine below_d ?_ | refine below_n ?_ _ | refine below_s ?_ (by first | (simp; done) | (simp; omega) | omega) _)) hGa) (TrIn_below (by repeat (first | exact Below.refl _ _ | assumption | refine below_a ?_ _ | refine below_o ?_ _ | refine below_d ?_ | refine below_n ?_ _ | refine below_s ?_ (by first | (simp; done) | (simp; omega) | omega) _)) hWa)).mono ?_
    rintro e w4 ⟨rfl, hb4⟩
    replace hb4 := below_next (below_alloc _ _) hb4
    replace b4 := box3_next hb4 b4
    replace b3 := box3_next hb4 b3
    replace B1 := below_next B1 hb4
    replace hGa := TrIn_below hb4 hGa
    replace hTa := TrIn_below hb4 hTa
    clear hb4 hWa
    have hne1 : w1.heap.size ≠ w4.heap.size := by have := b3.1; omega
    have hne2 : w2.heap.size ≠ w4.heap.size := by have := b4.1; omega
    have hb30 := b3
    have hb40 := b4
    obtain ⟨p0, p1, p2, p3, p4⟩ := b3
    obtain ⟨q0, q1, q2, q3, q4⟩ := b4
    have HR := hid (show ∀ (W : World), Below w4.heap.size w4 W → ∀ (tw : Tr) atw ctw, Box3 W w4.heap.size (.int .i64 tw.kind) (.int .i64 tw.val) (.slice atw tw.kids.length ctw) → TrIn Any w4 tw (.agg #[.int .i64 tw.kind, .int .i64 tw.val, .slice atw tw.kids.length ctw]) → twiceT t = tw → NegSt t r w4 w1.heap.size w2.heap.size a1 n1 aG cG W from
      fun W M tw atw ctw b8 hw e => ⟨M, ⟨box3_next M hb30, box3_next M hb40⟩, tw, atw, ctw, b8, TrIn_below M hw, e⟩)
    clear hb30 hb40
    have HT4 := hid hTa
    have hlt : w4.heap.size < (w4.alloc (.cells #[.int .i64 t.kind, .int .i64 t.val, .slice a1 t.kids.length n1] 25)).heap.size := by simp
    have HKid := hid (fun (v k : Int) (u : Tr) (e : t = .mk k v [u]) => (show ∃ b o c0 c1 c2, a1 = some ⟨b, o, none⟩ ∧ t.kids.length = 1 ∧ 1 ≤ n1 ∧ n1 ≤ maxLen ∧ b < w4.heap.size ∧ w4.cell? ⟨b, o, none⟩ = some c0 ∧ w4.cell? ⟨b, o + 1, none⟩ = some c1 ∧ w4.cell? ⟨b, o + 2, none⟩ = some c2 ∧ TrIn Any w4 u (.agg #[c0, c1, c2]) by
      have h := hTa
      rw [e] at h
      obtain ⟨b, o, c, c0, c1, c2, he, hb, hc, hc2, g0, g1, g2, hT⟩ := kid_one h
      simp at he
      exact ⟨b, o, c0, c1, c2, he.2.2.1, by rw [e]; rfl, by rw [he.2.2.2.2]; exact hc, by rw [he.2.2.2.2]; exact hc2, hb, g0, g1, g2, hT⟩))
    clear hTa
    rcases hcase with ⟨hk3, u, htu, hu3, hun⟩ | ⟨hk3, htw⟩
    · have e3 : (t.kind == 3) = true := by simpa using hk3
      obtain ⟨b, o, c0, c1, c2, ha1, hl1, hc1, hc2, hb, g0, g1, g2, hT⟩ := HKid.out _ _ _ htu
      obtain ⟨au, nu, hsh⟩ := TrIn_shape hT
      simp only [Value.agg.injEq, Array.mk.injEq, List.cons.injEq, and_true] at hsh
      obtain ⟨rfl, rfl, rfl⟩ := hsh
      unfold maxLen at hc2
      rw [ha1, hl1] at p3
      have HA1 := hid ha1
      have HL1 := hid hl1
      have HTU := hid htu
      clear ha1 hl1 htu
      by_cases hu : u.kind = 3
      · have e3u : (u.kind == 3) = true := by simpa using hu
        obtain ⟨z, hzu, hz⟩ := hu3 hu
        obtain ⟨b2, o2, cu, d0, d1, d2, he, hb2, hcu, hcu2, k0, k1, k2, hZ⟩ := kid_one (show TrIn Any w4 (.mk 3 0 [z]) (.agg #[.int .i64 u.kind, .int .i64 u.val, .slice au u.kids.length nu]) by rw [← hzu]; exact hT)
        simp at he
        obtain ⟨he1, he2, he3, he4, he5⟩ := he
        rw [he3, he4, he5] at g2
        obtain ⟨az, nz, hsh⟩ := TrIn_shape hZ
        simp only [Value.agg.injEq, Array.mk.injEq, List.cons.injEq, and_true] at hsh
        obtain ⟨rfl, rfl, rfl⟩ := hsh
        unfold maxLen at hcu2
        have HZ := hid hZ
        have HZZ := hid hz
        have HZU := hid hzu
        clear hZ hT HKid hz hzu hu3 hun hu hk3 he1 he2 he3 he4 he5 HTU
        go_upto_region 11 with fail
        refine wp_gen (NegSt t r w4 w1.heap.size w2.heap.size a1 n1 aG cG) (HR.out _ (by repeat (first | exact Below.refl _ _ | assumption | refine below_a ?_ _ | refine below_o ?_ _ | refine below_d ?_ | refine below_n ?_ _ | refine below_s ?_ (by first | (simp; done) | (simp; omega) | omega) _)) z az nz ?_ HZ.out HZZ.out) ?_
        · exact box3_new ..
        · rintro W ⟨MW, ⟨b3, b4⟩, tw, atw, ctw, b8, hw, etw⟩
          have hGW := TrIn_below MW hGa
          have hTW := TrIn_below MW HT4.out
          have BW := below_next B1 MW
          rw [etw] at hback
          have HBK := hid hback
          have HDU := hid (fun (h1 : normOk t = true) (h2 : normOk r = true) => (show DualR (normV t) (normV r) by rw [normV, if_pos h1, normV, if_pos h2]; exact hdual))
          clear hback hdual MW HR hGa HT4
          have c4 := b4
          obtain ⟨q0, q1, q2, q3, q4⟩ := c4
          go_wp2_with fail
          refine (Formula.negate_any r _ _ (TrIn_below (by repeat (first | exact Below.refl _ _ | assumption | refine below_a ?_ _ | refine below_o ?_ _ | refine below_d ?_ | refine below_n ?_ _ | refine below_s ?_ (by first | (simp; done) | (simp; omega) | omega) _)) hGW) HSM.out).mono ?_
          rintro e w5 ⟨vB, rfl, hB, hb5⟩
          obtain ⟨aB, cB, rfl⟩ := TrIn_shape hB.any
          replace b3 := box3_next hb5 b3
          replace b4 := box3_next hb5 b4
          replace b8 := box3_next hb5 b8
          replace hw := TrIn_below hb5 hw
          replace BW := below_next BW hb5
          replace hGW := TrIn_below hb5 hGW
          replace hTW := TrIn_below hb5 hTW
          have hBa := hB.any
          clear hb5 hB q0 q1 q2 q3 q4
          have c3 := b3
          obtain ⟨q0, q1, q2, q3, q4⟩ := c3
          go_wp2_with fail
          refine (Formula.norm_any t _ _ (TrIn_below (by repeat (first | exact Below.refl _ _ | assumption | refine below_a ?_ _ | refine below_o ?_ _ | refine below_d ?_ | refine below_n ?_ _ | refine below_s ?_ (by first | (simp; done) | (simp; omega) | omega) _)) hTW) hsm).mono ?_
          rintro e w6 ⟨vA, rfl, hA, hb6⟩
          obtain ⟨aA, cA, rfl⟩ := TrIn_shape hA.any
          have b9 := box3_next hb6 (box3_new w5 (.int .i64 (negV r).kind) (.int .i64 (negV r).val) (.slice aB (negV r).kids.length cB) 25)
          replace hb6 := below_next (below_alloc _ _) hb6
          replace b4 := box3_next hb6 b4
          replace b8 := box3_next hb6 b8
          replace hw := TrIn_below hb6 hw
          replace BW := below_next BW hb6
          replace hGW := TrIn_below hb6 hGW
          replace hBa := TrIn_below hb6 hBa
          have hAa := hA.any
          clear hb6 hA hTW b3 q0 q1 q2 q3 q4
          have c4 := b4
          obtain ⟨q0, q1, q2, q3, q4⟩ := c4
          go_wp2_with fail
          refine (Formula.norm_any r _ _ (TrIn_below (by repeat (first | exact Below.refl _ _ | assumption | refine below_a ?_ _ | refine below_o ?_ _ | refine below_d ?_ | refine below_n ?_ _ | refine below_s ?_ (by first | (simp; done) | (simp; omega) | omega) _)) hGW) HSM.out).mono ?_
          rintro e w7 ⟨vC, rfl, hC, hb7⟩
          obtain ⟨aC, cC, rfl⟩ := TrIn_shape hC.any
          have b11 := box3_next hb7 (box3_new w6 (.int .i64 (normV t).kind) (.int .i64 (normV t).val) (.slice aA (normV t).kids.length cA) 25)
          replace hb7 := below_next (below_alloc _ _) hb7
          replace b9 := box3_next hb7 b9
          replace b8 := box3_next hb7 b8
          replace hw := TrIn_below hb7 hw
          replace BW := below_next BW hb7
          replace hBa := TrIn_below hb7 hBa
          replace hAa := TrIn_below hb7 hAa
          have hCa := hC.any
          clear hb7 hC hGW b4 q0 q1 q2 q3 q4
          generalize negV r = B' at *
          generalize negOk r = pb at *
          generalize normV t = A' at *
          generalize normOk t = qb at *
          generalize normV r = C' at *
          generalize normOk r = rb at *
          cases pb
          · cases qb
            · go_wp2_with fail
              go_ret
              exact Ret.mk rfl (by repeat (first | exact Below.refl _ _ | assumption | refine below_a ?_ _ | refine below_o ?_ _ | refine below_d ?_ | refine below_n ?_ _ | refine below_s ?_ (by first | (simp; done) | (simp; omega) | omega) _))
            · cases rb
              · go_wp2_with fail
                go_ret
                exact Ret.mk rfl (by repeat (first | exact Below.refl _ _ | assumption | refine below_a ?_ _ | refine below_o ?_ _ | refine below_d ?_ | refine below_n ?_ _ | refine below_s ?_ (by first | (simp; done) | (simp; omega) | omega) _))
              · obtain ⟨k0, k1, k2, k3, k4⟩ := b11
                have HWd := hid (wd_any (HDU.out rfl rfl))
                go_wp2_with fail
                refine (HWd.out _ _ _ (TrIn_below (by repeat (first | exact Below.refl _ _ | assumption | refine below_a ?_ _ | refine below_o ?_ _ | refine below_d ?_ | refine below_n ?_ _ | refine below_s ?_ (by first | (simp; done) | (simp; omega) | omega) _)) hAa) (TrIn_below (by repeat (first | exact Below.refl _ _ | assumption | refine below_a ?_ _ | refine below_o ?_ _ | refine below_d ?_ | refine below_n ?_ _ | refine below_s ?_ (by first | (simp; done) | (simp; omega) | omega) _)) hCa)).mono ?_
                rintro e w8 ⟨rfl, hb8⟩
                replace BW := below_next (below_a BW _) hb8
                go_wp2_with fail
                go_ret
                exact Ret.mk rfl BW
          · obtain rfl := HBK.out rfl
            obtain ⟨j0, j1, j2, j3, j4⟩ := b9
            obtain ⟨i0, i1, i2, i3, i4⟩ := b8
            go_wp2_with fail
            refine (HE0.out _ B' _ _ (TrIn_below (by repeat (first | exact Below.refl _ _ | assumption | refine below_a ?_ _ | refine below_o ?_ _ | refine below_d ?_ | refine below_n ?_ _ | refine below_s ?_ (by first | (simp; done) | (simp; omega) | omega) _)) hBa) (TrIn_below (by repeat (first | exact Below.refl _ _ | assumption | refine below_a ?_ _ | refine below_o ?_ _ | refine below_d ?_ | refine below_n ?_ _ | refine below_s ?_ (by first | (simp; done) | (simp; omega) | omega) _)) hw)).mono ?_
            rintro e w8 ⟨rfl, hb8⟩
            have b13 := box3_next hb8 (box3_new w7 (.int .i64 C'.kind) (.int .i64 C'.val) (.slice aC C'.kids.length cC) 25)
            replace hb8 := below_next (below_alloc _ _) hb8
            replace BW := below_next BW hb8
            replace b11 := box3_next hb8 b11
            replace hAa := TrIn_below hb8 hAa
            replace hCa := TrIn_below hb8 hCa
            clear hb8 j0 j1 j2 j3 j4 i0 i1 i2 i3 i4 hBa hw
            cases qb
            · go_wp2_with fail
              go_ret
              exact Ret.mk rfl (by repeat (first | exact Below.refl _ _ | assumption | refine below_a ?_ _ | refine below_o ?_ _ | refine below_d ?_ | refine below_n ?_ _ | refine below_s ?_ (by first | (simp; done) | (simp; omega) | omega) _))
            · cases rb
              · go_wp2_with fail
                go_ret
                exact Ret.mk rfl (by repeat (first | exact Below.refl _ _ | assumption | refine below_a ?_ _ | refine below_o ?_ _ | refine below_d ?_ | refine below_n ?_ _ | refine below_s ?_ (by first | (simp; done) | (simp; omega) | omega) _))
              · obtain ⟨k0, k1, k2, k3, k4⟩ := b11
                obtain ⟨l0, l1, l2, l3, l4⟩ := b13
                have HWd := hid (wd_any (HDU.out rfl rfl))
                go_wp2_with fail
                refine (HWd.out _ _ _ (TrIn_below (by repeat (first | exact Below.refl _ _ | assumption | refine below_a ?_ _ | refine below_o ?_ _ | refine below_d ?_ | refine below_n ?_ _ | refine below_s ?_ (by first | (simp; done) | (simp; omega) | omega) _)) hAa) (TrIn_below (by repeat (first | exact Below.refl _ _ | assumption | refine below_a ?_ _ | refine below_o ?_ _ | refine below_d ?_ | refine below_n ?_ _ | refine below_s ?_ (by first | (simp; done) | (simp; omega) | omega) _)) hCa)).mono ?_
                rintro e w9 ⟨rfl, hb9⟩
                replace BW := below_next BW hb9
                go_wp2_with fail
                go_ret
                exact Ret.mk rfl BW
      · have e3u : (u.kind == 3) = false := by simpa using hu
        have HTW := hid (hun hu)
        clear hT HKid hu3 hun hu hk3
        go_upto_region 11 with fail
        refine wp_gen (NegSt t r w4 w1.heap.size w2.heap.size a1 n1 aG cG) (HR.out _ (by repeat (first | exact Below.refl _ _ | assumption | refine below_a ?_ _ | refine below_o ?_ _ | refine below_d ?_ | refine below_n ?_ _ | refine below_s ?_ (by first | (simp; done) | (simp; omega) | omega) _)) t a1 n1 ?_ HT4.out HTW.out) ?_
        · rw [HA1.out, HL1.out]; exact box3_new ..
        · rintro W ⟨MW, ⟨b3, b4⟩, tw, atw, ctw, b8, hw, etw⟩
          have hGW := TrIn_below MW hGa
          have hTW := TrIn_below MW HT4.out
          have BW := below_next B1 MW
          rw [etw] at hback
          have HBK := hid hback
          have HDU := hid (fun (h1 : normOk t = true) (h2 : normOk r = true) => (show DualR (normV t) (normV r) by rw [normV, if_pos h1, normV, if_pos h2]; exact hdual))
          clear hback hdual MW HR hGa HT4
          have c4 := b4
          obtain ⟨q0, q1, q2, q3, q4⟩ := c4
          go_wp2_with fail
          refine (Formula.negate_any r _ _ (TrIn_below (by repeat (first | exact Below.refl _ _ | assumption | refine below_a ?_ _ | refine below_o ?_ _ | refine below_d ?_ | refine below_n ?_ _ | refine below_s ?_ (by first | (simp; done) | (simp; omega) | omega) _)) hGW) HSM.out).mono ?_
          rintro e w5 ⟨vB, rfl, hB, hb5⟩
          obtain ⟨aB, cB, rfl⟩ := TrIn_shape hB.any
          replace b3 := box3_next hb5 b3
          replace b4 := box3_next hb5 b4
          replace b8 := box3_next hb5 b8
          replace hw := TrIn_below hb5 hw
          replace BW := below_next BW hb5
          replace hGW := TrIn_below hb5 hGW
          replace hTW := TrIn_below hb5 hTW
          have hBa := hB.any
          clear hb5 hB q0 q1 q2 q3 q4
          have c3 := b3
          obtain ⟨q0, q1, q2, q3, q4⟩ := c3
          go_wp2_with fail
          refine (Formula.norm_any t _ _ (TrIn_below (by repeat (first | exact Below.refl _ _ | assumption | refine below_a ?_ _ | refine below_o ?_ _ | refine below_d ?_ | refine below_n ?_ _ | refine below_s ?_ (by first | (simp; done) | (simp; omega) | omega) _)) hTW) hsm).mono ?_
          rintro e w6 ⟨vA, rfl, hA, hb6⟩
          obtain ⟨aA, cA, rfl⟩ := TrIn_shape hA.any
          have b9 := box3_next hb6 (box3_new w5 (.int .i64 (negV r).kind) (.int .i64 (negV r).val) (.slice aB (negV r).kids.length cB) 25)
          replace hb6 := below_next (below_alloc _ _) hb6
          replace b4 := box3_next hb6 b4
          replace b8 := box3_next hb6 b8
          replace hw := TrIn_below hb6 hw
          replace BW := below_next BW hb6
          replace hGW := TrIn_below hb6 hGW
          replace hBa := TrIn_below hb6 hBa
          have hAa := hA.any
          clear hb6 hA hTW b3 q0 q1 q2 q3 q4
          have c4 := b4
          obtain ⟨q0, q1, q2, q3, q4⟩ := c4
          go_wp2_with fail
          refine (Formula.norm_any r _ _ (TrIn_below (by repeat (first | exact Below.refl _ _ | assumption | refine below_a ?_ _ | refine below_o ?_ _ | refine below_d ?_ | refine below_n ?_ _ | refine below_s ?_ (by first | (simp; done) | (simp; omega) | omega) _)) hGW) HSM.out).mono ?_
          rintro e w7 ⟨vC, rfl, hC, hb7⟩
          obtain ⟨aC, cC, rfl⟩ := TrIn_shape hC.any
          have b11 := box3_next hb7 (box3_new w6 (.int .i64 (normV t).kind) (.int .i64 (normV t).val) (.slice aA (normV t).kids.length cA) 25)
          replace hb7 := below_next (below_alloc _ _) hb7
          replace b9 := box3_next hb7 b9
          replace b8 := box3_next hb7 b8
          replace hw := TrIn_below hb7 hw
          replace BW := below_next BW hb7
          replace hBa := TrIn_below hb7 hBa
          replace hAa := TrIn_below hb7 hAa
          have hCa := hC.any
          clear hb7 hC hGW b4 q0 q1 q2 q3 q4
          generalize negV r = B' at *
          generalize negOk r = pb at *
          generalize normV t = A' at *
          generalize normOk t = qb at *
          generalize normV r = C' at *
          generalize normOk r = rb at *
          cases pb
          · cases qb
            · go_wp2_with fail
              go_ret
              exact Ret.mk rfl (by repeat (first | exact Below.refl _ _ | assumption | refine below_a ?_ _ | refine below_o ?_ _ | refine below_d ?_ | refine below_n ?_ _ | refine below_s ?_ (by first | (simp; done) | (simp; omega) | omega) _))
            · cases rb
              · go_wp2_with fail
                go_ret
                exact Ret.mk rfl (by repeat (first | exact Below.refl _ _ | assumption | refine below_a ?_ _ | refine below_o ?_ _ | refine below_d ?_ | refine below_n ?_ _ | refine below_s ?_ (by first | (simp; done) | (simp; omega) | omega) _))
              · obtain ⟨k0, k1, k2, k3, k4⟩ := b11
                have HWd := hid (wd_any (HDU.out rfl rfl))
                go_wp2_with fail
                refine (HWd.out _ _ _ (TrIn_below (by repeat (first | exact Below.refl _ _ | assumption | refine below_a ?_ _ | refine below_o ?_ _ | refine below_d ?_ | refine below_n ?_ _ | refine below_s ?_ (by first | (simp; done) | (simp; omega) | omega) _)) hAa) (TrIn_below (by repeat (first | exact Below.refl _ _ | assumption | refine below_a ?_ _ | refine below_o ?_ _ | refine below_d ?_ | refine below_n ?_ _ | refine below_s ?_ (by first | (simp; done) | (simp; omega) | omega) _)) hCa)).mono ?_
                rintro e w8 ⟨rfl, hb8⟩
                replace BW := below_next (below_a BW _) hb8
                go_wp2_with fail
                go_ret
                exact Ret.mk rfl BW
          · obtain rfl := HBK.out rfl
            obtain ⟨j0, j1, j2, j3, j4⟩ := b9
            obtain ⟨i0, i1, i2, i3, i4⟩ := b8
            go_wp2_with fail
            refine (HE0.out _ B' _ _ (TrIn_below (by repeat (first | exact Below.refl _ _ | assumption | refine below_a ?_ _ | refine below_o ?_ _ | refine below_d ?_ | refine below_n ?_ _ | refine below_s ?_ (by first | (simp; done) | (simp; omega) | omega) _)) hBa) (TrIn_below (by repeat (first | exact Below.refl _ _ | assumption | refine below_a ?_ _ | refine below_o ?_ _ | refine below_d ?_ | refine below_n ?_ _ | refine below_s ?_ (by first | (simp; done) | (simp; omega) | omega) _)) hw)).mono ?_
            rintro e w8 ⟨rfl, hb8⟩
            have b13 := box3_next hb8 (box3_new w7 (.int .i64 C'.kind) (.int .i64 C'.val) (.slice aC C'.kids.length cC) 25)
            replace hb8 := below_next (below_alloc _ _) hb8
            replace BW := below_next BW hb8
            replace b11 := box3_next hb8 b11
            replace hAa := TrIn_below hb8 hAa
            replace hCa := TrIn_below hb8 hCa
            clear hb8 j0 j1 j2 j3 j4 i0 i1 i2 i3 i4 hBa hw
            cases qb
            · go_wp2_with fail
              go_ret
              exact Ret.mk rfl (by repeat (first | exact Below.refl _ _ | assumption | refine below_a ?_ _ | refine below_o ?_ _ | refine below_d ?_ | refine below_n ?_ _ | refine below_s ?_ (by first | (simp; done) | (simp; omega) | omega) _))
            · cases rb
              · go_wp2_with fail
                go_ret
                exact Ret.mk rfl (by repeat (first | exact Below.refl _ _ | assumption | refine below_a ?_ _ | refine below_o ?_ _ | refine below_d ?_ | refine below_n ?_ _ | refine below_s ?_ (by first | (simp; done) | (simp; omega) | omega) _))
              · obtain ⟨k0, k1, k2, k3, k4⟩ := b11
                obtain ⟨l0, l1, l2, l3, l4⟩ := b13
                have HWd := hid (wd_any (HDU.out rfl rfl))
                go_wp2_with fail
                refine (HWd.out _ _ _ (TrIn_below (by repeat (first | exact Below.refl _ _ | assumption | refine below_a ?_ _ | refine below_o ?_ _ | refine below_d ?_ | refine below_n ?_ _ | refine below_s ?_ (by first | (simp; done) | (simp; omega) | omega) _)) hAa) (TrIn_below (by repeat (first | exact Below.refl _ _ | assumption | refine below_a ?_ _ | refine below_o ?_ _ | refine below_d ?_ | refine below_n ?_ _ | refine below_s ?_ (by first | (simp; done) | (simp; omega) | omega) _)) hCa)).mono ?_
                rintro e w9 ⟨rfl, hb9⟩
                replace BW := below_next BW hb9
                go_wp2_with fail
                go_ret
                exact Ret.mk rfl BW
    · have e3 : (t.kind == 3) = false := by simpa using hk3
      have HTW := hid htw
      clear HKid hk3 htw
      go_upto_region 11 with fail
      refine wp_gen (NegSt t r w4 w1.heap.size w2.heap.size a1 n1 aG cG) (HR.out _ (by repeat (first | exact Below.refl _ _ | assumption | refine below_a ?_ _ | refine below_o ?_ _ | refine below_d ?_ | refine below_n ?_ _ | refine below_s ?_ (by first | (simp; done) | (simp; omega) | omega) _)) t a1 n1 ?_ HT4.out HTW.out) ?_
      · exact box3_new ..
      · rintro W ⟨MW, ⟨b3, b4⟩, tw, atw, ctw, b8, hw, etw⟩
        have hGW := TrIn_below MW hGa
        have hTW := TrIn_below MW HT4.out
        have BW := below_next B1 MW
        rw [etw] at hback
        have HBK := hid hback
        have HDU := hid (fun (h1 : normOk t = true) (h2 : normOk r = true) => (show DualR (normV t) (normV r) by rw [normV, if_pos h1, normV, if_pos h2]; exact hdual))
        clear hback hdual MW HR hGa HT4
        have c4 := b4
        obtain ⟨q0, q1, q2, q3, q4⟩ := c4
        go_wp2_with fail
        refine (Formula.negate_any r _ _ (TrIn_below (by repeat (first | exact Below.refl _ _ | assumption | refine below_a ?_ _ | refine below_o ?_ _ | refine below_d ?_ | refine below_n ?_ _ | refine below_s ?_ (by first | (simp; done) | (simp; omega) | omega) _)) hGW) HSM.out).mono ?_
        rintro e w5 ⟨vB, rfl, hB, hb5⟩
        obtain ⟨aB, cB, rfl⟩ := TrIn_shape hB.any
        replace b3 := box3_next hb5 b3
        replace b4 := box3_next hb5 b4
        replace b8 := box3_next hb5 b8
        replace hw := TrIn_below hb5 hw
        replace BW := below_next BW hb5
        replace hGW := TrIn_below hb5 hGW
        replace hTW := TrIn_below hb5 hTW
        have hBa := hB.any
        clear hb5 hB q0 q1 q2 q3 q4
        have c3 := b3
        obtain ⟨q0, q1, q2, q3, q4⟩ := c3
        go_wp2_with fail
        refine (Formula.norm_any t _ _ (TrIn_below (by repeat (first | exact Below.refl _ _ | assumption | refine below_a ?_ _ | refine below_o ?_ _ | refine below_d ?_ | refine below_n ?_ _ | refine below_s ?_ (by first | (simp; done) | (simp; omega) | omega) _)) hTW) hsm).mono ?_
        rintro e w6 ⟨vA, rfl, hA, hb6⟩
        obtain ⟨aA, cA, rfl⟩ := TrIn_shape hA.any
        have b9 := box3_next hb6 (box3_new w5 (.int .i64 (negV r).kind) (.int .i64 (negV r).val) (.slice aB (negV r).kids.length cB) 25)
        replace hb6 := below_next (below_alloc _ _) hb6
        replace b4 := box3_next hb6 b4
        replace b8 := box3_next hb6 b8
        replace hw := TrIn_below hb6 hw
        replace BW := below_next BW hb6
        replace hGW := TrIn_below hb6 hGW
        replace hBa := TrIn_below hb6 hBa
        have hAa := hA.any
        clear hb6 hA hTW b3 q0 q1 q2 q3 q4
        have c4 := b4
        obtain ⟨q0, q1, q2, q3, q4⟩ := c4
        go_wp2_with fail
        refine (Formula.norm_any r _ _ (TrIn_below (by repeat (first | exact Below.refl _ _ | assumption | refine below_a ?_ _ | refine below_o ?_ _ | refine below_d ?_ | refine below_n ?_ _ | refine below_s ?_ (by first | (simp; done) | (simp; omega) | omega) _)) hGW) HSM.out).mono ?_
        rintro e w7 ⟨vC, rfl, hC, hb7⟩
        obtain ⟨aC, cC, rfl⟩ := TrIn_shape hC.any
        have b11 := box3_next hb7 (box3_new w6 (.int .i64 (normV t).kind) (.int .i64 (normV t).val) (.slice aA (normV t).kids.length cA) 25)
        replace hb7 := below_next (below_alloc _ _) hb7
        replace b9 := box3_next hb7 b9
        replace b8 := box3_next hb7 b8
        replace hw := TrIn_below hb7 hw
        replace BW := below_next BW hb7
        replace hBa := TrIn_below hb7 hBa
        replace hAa := TrIn_below hb7 hAa
        have hCa := hC.any
        clear hb7 hC hGW b4 q0 q1 q2 q3 q4
        generalize negV r = B' at *
        generalize negOk r = pb at *
        generalize normV t = A' at *
        generalize normOk t = qb at *
        generalize normV r = C' at *
        generalize normOk r = rb at *
        cases pb
        · cases qb
          · go_wp2_with fail
            go_ret
            exact Ret.mk rfl (by repeat (first | exact Below.refl _ _ | assumption | refine below_a ?_ _ | refine below_o ?_ _ | refine below_d ?_ | refine below_n ?_ _ | refine below_s ?_ (by first | (simp; done) | (simp; omega) | omega) _))
          · cases rb
            · go_wp2_with fail
              go_ret
              exact Ret.mk rfl (by repeat (first | exact Below.refl _ _ | assumption | refine below_a ?_ _ | refine below_o ?_ _ | refine below_d ?_ | refine below_n ?_ _ | refine below_s ?_ (by first | (simp; done) | (simp; omega) | omega) _))
            · obtain ⟨k0, k1, k2, k3, k4⟩ := b11
              have HWd := hid (wd_any (HDU.out rfl rfl))
              go_wp2_with fail
              refine (HWd.out _ _ _ (TrIn_below (by repeat (first | exact Below.refl _ _ | assumption | refine below_a ?_ _ | refine below_o ?_ _ | refine below_d ?_ | refine below_n ?_ _ | refine below_s ?_ (by first | (simp; done) | (simp; omega) | omega) _)) hAa) (TrIn_below (by repeat (first | exact Below.refl _ _ | assumption | refine below_a ?_ _ | refine below_o ?_ _ | refine below_d ?_ | refine below_n ?_ _ | refine below_s ?_ (by first | (simp; done) | (simp; omega) | omega) _)) hCa)).mono ?_
              rintro e w8 ⟨rfl, hb8⟩
              replace BW := below_next (below_a BW _) hb8
              go_wp2_with fail
              go_ret
              exact Ret.mk rfl BW
        · obtain rfl := HBK.out rfl
          obtain ⟨j0, j1, j2, j3, j4⟩ := b9
          obtain ⟨i0, i1, i2, i3, i4⟩ := b8
          go_wp2_with fail
          refine (HE0.out _ B' _ _ (TrIn_below (by repeat (first | exact Below.refl _ _ | assumption | refine below_a ?_ _ | refine below_o ?_ _ | refine below_d ?_ | refine below_n ?_ _ | refine below_s ?_ (by first | (simp; done) | (simp; omega) | omega) _)) hBa) (TrIn_below (by repeat (first | exact Below.refl _ _ | assumption | refine below_a ?_ _ | refine below_o ?_ _ | refine below_d ?_ | refine below_n ?_ _ | refine below_s ?_ (by first | (simp; done) | (simp; omega) | omega) _)) hw)).mono ?_
          rintro e w8 ⟨rfl, hb8⟩
          have b13 := box3_next hb8 (box3_new w7 (.int .i64 C'.kind) (.int .i64 C'.val) (.slice aC C'.kids.length cC) 25)
          replace hb8 := below_next (below_alloc _ _) hb8
          replace BW := below_next BW hb8
          replace b11 := box3_next hb8 b11
          replace hAa := TrIn_below hb8 hAa
          replace hCa := TrIn_below hb8 hCa
          clear hb8 j0 j1 j2 j3 j4 i0 i1 i2 i3 i4 hBa hw
          cases qb
          · go_wp2_with fail
            go_ret
            exact Ret.mk rfl (by repeat (first | exact Below.refl _ _ | assumption | refine below_a ?_ _ | refine below_o ?_ _ | refine below_d ?_ | refine below_n ?_ _ | refine below_s ?_ (by first | (simp; done) | (simp; omega) | omega) _))
          · cases rb
            · go_wp2_with fail
              go_ret
              exact Ret.mk rfl (by repeat (first | exact Below.refl _ _ | assumption | refine below_a ?_ _ | refine below_o ?_ _ | refine below_d ?_ | refine below_n ?_ _ | refine below_s ?_ (by first | (simp; done) | (simp; omega) | omega) _))
            · obtain ⟨k0, k1, k2, k3, k4⟩ := b11
              obtain ⟨l0, l1, l2, l3, l4⟩ := b13
              have HWd := hid (wd_any (HDU.out rfl rfl))
              go_wp2_with fail
              refine (HWd.out _ _ _ (TrIn_below (by repeat (first | exact Below.refl _ _ | assumption | refine below_a ?_ _ | refine below_o ?_ _ | refine below_d ?_ | refine below_n ?_ _ | refine below_s ?_ (by first | (simp; done) | (simp; omega) | omega) _)) hAa) (TrIn_below (by repeat (first | exact Below.refl _ _ | assumption | refine below_a ?_ _ | refine below_o ?_ _ | refine below_d ?_ | refine below_n ?_ _ | refine below_s ?_ (by first | (simp; done) | (simp; omega) | omega) _)) hCa)).mono ?_
              rintro e w9 ⟨rfl, hb9⟩
              replace BW := below_next BW hb9
              go_wp2_with fail
              go_ret
              exact Ret.mk rfl BW
end Go.Proofs.Ythjhokifonjeaaa
