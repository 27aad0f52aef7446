/- FnEvalExpr returns true for every argument. Conditions: none. -/
import Derived.Test.YtplogaapgolaiaaEvalDraw
import Derived.Test.YtplogaapgolaiaaEvalX
import Derived.Test.YtplogaapgolaiaaVarsX
import Derived.Test.YtplogaapgolaiaaAppInts
import Derived.Test.YtplogaapgolaiaaMore
namespace Go.Proofs.Ytplogaapgolaiaa
open Go.RowKit
open Go.Proofs.Ytplogaapgolaiaa.Expr

-- a value hangs on the variables that occur, and on no other
mutual
theorem evalT_occ (g g' : Int → Int) : ∀ (t : Tr) (d : Int), exprL.shape t d = true → (∀ v, occT v t = true → g v = g' v) → evalT g t = evalT g' t
  | .mk k v kids, d, hs, h => by
    simp only [Lang.shape, Bool.and_eq_true, Lang.okB_iff] at hs
    obtain ⟨_, ⟨⟨k1, k9⟩, _, har⟩, hsl⟩ := hs
    have hk := evalTs_occ g g' kids (d - 1) hsl (fun x hx => h x (by simp [occT, hx]))
    simp only [evalT, hk]
    rw [exprL_ar] at har
    rw [exprL_K] at k9
    match kids, har with
    | [], har =>
      simp only [evalTs, nodeVal]
      by_cases hk1 : k = 1
      · simp [hk1]
      · have hk2 : k = 2 := by
          by_cases h2 : k = 2
          · exact h2
          · rw [if_neg (by omega)] at har
            by_cases h3 : k = 3
            · rw [if_pos h3] at har; simp at har
            · rw [if_neg h3] at har; simp at har
        rw [if_neg hk1, if_neg hk1]
        exact h v (by simp [occT, hk2])
    | [_], _ => simp only [evalTs, nodeVal]
    | _ :: _ :: _, _ => simp only [evalTs, nodeVal]
theorem evalTs_occ (g g' : Int → Int) : ∀ (l : List Tr) (d : Int), exprL.shapeL l d = true → (∀ v, occL v l = true → g v = g' v) → evalTs g l = evalTs g' l
  | [], _, _, _ => rfl
  | t :: ts, d, hs, h => by
    simp only [Lang.shapeL, Bool.and_eq_true] at hs
    simp only [evalTs]
    rw [evalT_occ g g' t d hs.1 (fun v hv => h v (by simp [occL, hv])), evalTs_occ g g' ts d hs.2 (fun v hv => h v (by simp [occL, hv]))]
end
-- variables that occur are 0, 1, 2
mutual
theorem occT_bd : ∀ (t : Tr) (d : Int) (v : Int), exprL.shape t d = true → occT v t = true → 0 ≤ v ∧ v ≤ 2
  | .mk k u kids, d, v, hs, h => by
    simp only [Lang.shape, Bool.and_eq_true, Lang.okB_iff] at hs
    obtain ⟨_, ⟨_, ⟨u0, u1⟩, _⟩, hsl⟩ := hs
    simp only [occT, Bool.or_eq_true, Bool.and_eq_true, beq_iff_eq] at h
    rcases h with ⟨rfl, rfl⟩ | h
    · rw [exprL_most] at u1; simp at u1; omega
    · exact occL_bd kids (d - 1) v hsl h
theorem occL_bd : ∀ (l : List Tr) (d : Int) (v : Int), exprL.shapeL l d = true → occL v l = true → 0 ≤ v ∧ v ≤ 2
  | [], _, _, _, h => by simp [occL] at h
  | t :: ts, d, v, hs, h => by
    simp only [Lang.shapeL, Bool.and_eq_true] at hs
    simp only [occL, Bool.or_eq_true] at h
    rcases h with h | h
    · exact occT_bd t d v hs.1 h
    · exact occL_bd ts d v hs.2 h
end
/-- the other numbers -/
def othV (L : Int) (t : Tr) (l : List Int) (i : Nat) : Int := if occT (i : Int) t = true then l.getD i 0 else (l.getD i 0 + 1 + L) % 4
def othL (L : Int) (t : Tr) (l : List Int) : List Int := [othV L t l 0, othV L t l 1, othV L t l 2]
theorem eval_oth {L : Int} {t : Tr} {l : List Int} (h : evalOk t l = true) : evalOk t (othL L t l) = true ∧ evalV t (othL L t l) = evalV t l ∧ 0 ≤ evalV t l ∧ evalV t l ≤ 3 := by
  have h0 := h
  rw [evalOk, Bool.and_eq_true] at h
  obtain ⟨hv, ho⟩ := h
  have hs := valid_shape hv
  rw [okVals, Bool.and_eq_true, decide_eq_true_eq] at ho
  obtain ⟨ho, hl⟩ := ho
  obtain ⟨x, y, z, rfl⟩ : ∃ x y z, l = [x, y, z] := by
    match l, hl with
    | [x, y, z], _ => exact ⟨x, y, z, rfl⟩
  simp [inV] at ho
  have hb : ∀ i : Nat, i < 3 → 0 ≤ othV L t [x, y, z] i ∧ othV L t [x, y, z] i ≤ 3 := by
    intro i hi
    unfold othV
    split
    · rcases (by omega : i = 0 ∨ i = 1 ∨ i = 2) with rfl | rfl | rfl <;> simp <;> omega
    · omega
  have hok : evalOk t (othL L t [x, y, z]) = true := by
    rw [evalOk, hv, Bool.true_and, okVals, Bool.and_eq_true]
    have h1 := hb 0 (by omega)
    have h2 := hb 1 (by omega)
    have h3 := hb 2 (by omega)
    exact ⟨by simp [othL, inV, h1, h2, h3], by simp [othL]⟩
  refine ⟨hok, ?_, ?_⟩
  · rw [evalV, if_pos hok, evalV, if_pos h0]
    refine evalT_occ _ _ t 6 hs fun v hv => ?_
    have := occT_bd t 6 v hs hv
    rcases (by omega : v = 0 ∨ v = 1 ∨ v = 2) with rfl | rfl | rfl <;> simp [gOf, othL, othV, hv]
  · rw [evalV, if_pos h0]
    refine evalT_bd _ (fun v h1 h2 => ?_) 6 t hs
    rcases (by omega : v = 0 ∨ v = 1 ∨ v = 2) with rfl | rfl | rfl <;> simp [gOf] <;> omega

set_option maxRecDepth 100000 in
set_option maxHeartbeats 4000000 in
theorem walk_FnEvalExpr (w : World) (a : Option Addr) (len cap : Nat) (hb : ByteArg w a len cap) : Calls Try.prog 6 #[.slice a len cap] w (Ret (.bool true) w) := by
  have hcap := hb.2.1
  have hcap1 := hb.1
  unfold maxLen at hcap
  by_cases hlen : len > 1048576
  · have hlen2 : (len : Int) > 1048576 := by omega
    go_enter Try.func6, Try.ntmps6
    go_wp2_with fail
    go_ret
    exact Ret.mk rfl (by repeat (first | exact Below.refl _ _ | assumption | refine below_a ?_ _ | refine below_o ?_ _ | refine below_d ?_ | refine below_n ?_ _ | refine below_s ?_ (by first | (simp; done) | (simp; omega) | omega) _))
  have hlen2 : ¬ ((len : Int) > 1048576) := by omega
  go_enter Try.func6, Try.ntmps6
  go_wp2_with fail
  refine (Expr.drawEval_any _ a len cap hb).mono ?_
  rintro e w1 ⟨x, v, t, l, rfl, hn, hnt, hV, hl3, hi, B1⟩
  obtain ⟨a1, n1, rfl⟩ := TrIn_shape hn.any
  obtain ⟨aV, cV, bV, rfl, hcV, hcV2, oV, gV⟩ := hV
  rw [List.length_map] at hcV ⊢
  have hI : IntsIn Any w1 aV l := ⟨oV.any, hi⟩
  have hx := hn.any
  have HE := hid (fun (w' : World) (M : Below w1.heap.size w1 w') => Expr.eval_any t l w' _ aV cV (TrIn_below M hx) (hI.below M) hcV hcV2)
  have HS := hid (fun (w' : World) (M : Below w1.heap.size w1 w') => Expr.specEval_any t l w' _ aV cV (TrIn_below M hx) (hI.below M) hcV hcV2)
  clear hn oV gV hb
  have HP := hid (fun (h : evalOk t l = true) => eval_oth (L := (len : Int)) h)
  have HL := hid (fun (h : evalOk t l = true) => (show l.length = 3 ∧ exprL.valid t = true by rw [evalOk, Bool.and_eq_true] at h; rw [okVals, Bool.and_eq_true, decide_eq_true_eq] at h; exact ⟨h.2.2, h.1⟩))
  have hee : (evalV t l != evalV t l) = false := by simp
  have hee2 : (evalV t l == evalV t l) = true := by simp
  cases hok : evalOk t l with
  | false =>
    rw [hok] at HE HS
    clear HP HL hok
    generalize evalV t l = q at *
    go_wp2_with fail
    refine (HE.out _ (below_alloc _ _)).mono ?_
    rintro e w2 ⟨rfl, hb2⟩
    have c3 := box3_next hb2 (box3_new w1 (.int .i64 t.kind) (.int .i64 t.val) (.slice a1 t.kids.length n1) 25)
    have M2 := below_next (below_alloc w1 _) hb2
    clear hb2
    go_wp2_with fail
    refine (HS.out _ M2).mono ?_
    rintro e w3 ⟨rfl, hb3⟩
    have M3 := below_next M2 hb3
    clear hb3
    go_wp2_with fail
    go_ret
    exact Ret.mk (by simp) (below_next B1 M3)
  | true =>
    obtain ⟨hp1, hp2, hp3, hp4⟩ := HP.out hok
    have hok2 := hok
    rw [evalOk, Bool.and_eq_true, okVals, Bool.and_eq_true] at hok2
    have hokl := List.all_eq_true.1 hok2.2.1
    obtain ⟨hl, hv⟩ := HL.out hok
    rw [hok] at HE HS
    clear HP HL hok
    have hbd : ∀ n, n ∈ l → 0 ≤ n ∧ n ≤ 3 := by
      intro n hn
      have := hokl n hn
      simpa [inV] using this
    have HBD := hid hbd
    have HI := hid hI
    obtain ⟨bv, ov, rfl, hbv⟩ : ∃ b o, aV = some ⟨b, o, none⟩ ∧ b < w1.heap.size := by
      obtain ⟨b, o, h1, h2, _⟩ := ints_at (k := 0) hI (Below.refl _ _) (by omega)
      exact ⟨b, o, h1, h2⟩
    have HVt := hid (show (varsB t).map Value.bool = [.bool (occT 0 t), .bool (occT 1 t), .bool (occT 2 t)] by simp [varsB, hv])
    have HOK := hid hp1
    have HV2 := hid hp2
    have HX := hid hx
    have HOI := hid (show ∀ n, n ∈ othL (len : Int) t l → i64 n by
      intro n hn
      rw [evalOk, Bool.and_eq_true, okVals, Bool.and_eq_true] at hp1
      have := List.all_eq_true.1 hp1.2.1 n hn
      simp [inV] at this
      unfold i64; omega)
    clear hp1 hp2 hx hI hbd hok2 hokl
    have hc3 : 3 ≤ cV := by omega
    have hl' := hid hl
    rw [hl] at HE HS
    simp only [hl]
    clear hl
    replace hl' := hl'.out
    generalize evalV t l = q at *
    go_wp2_with fail
    refine (HE.out _ (below_alloc _ _)).mono ?_
    rintro e w2 ⟨rfl, hb2⟩
    have c3 := box3_next hb2 (box3_new w1 (.int .i64 t.kind) (.int .i64 t.val) (.slice a1 t.kids.length n1) 25)
    have M2 := below_next (below_alloc w1 _) hb2
    clear hb2
    go_wp2_with fail
    refine (HS.out _ M2).mono ?_
    rintro e w3 ⟨rfl, hb3⟩
    replace c3 := box3_next hb3 c3
    have M3 := below_next M2 hb3
    clear hb3 M2
    go_wp2_with fail
    refine (Expr.vars_any t _ _ (TrIn_below M3 HX.out)).mono ?_
    rintro e w4 ⟨vv, rfl, hV, hb4⟩
    rw [HVt.out] at hV
    obtain ⟨aO, cO, bO, rfl, hcO, hcO2, oO, gO⟩ := hV
    obtain ⟨V, rfl, rfl, hrow⟩ : ∃ V, aO = some ⟨V, 0, none⟩ ∧ bO = [V] ∧ Row w4 V 3 (fun i => ([.bool (occT 0 t), .bool (occT 1 t), .bool (occT 2 t)] : List Value).getD i undef) := by
      rcases oO with ⟨h, _⟩ | h
      · simp at h
      · exact h
    replace hrow : Three w4 V (fun i => occT (i : Int) t) := hrow.congr fun i hi => by
      match i, hi with
      | 0, _ => rfl
      | 1, _ => rfl
      | 2, _ => rfl
    have HR := hid hrow
    clear oO gO hrow
    simp only [List.length_cons, List.length_nil, Nat.zero_add, Nat.reduceAdd] at hcO ⊢
    unfold maxLen at hcO2
    replace c3 := box3_next hb4 c3
    have M4 := below_next M3 hb4
    clear hb4 M3
    have hI4 : IntsIn Any w4 (some ⟨bv, ov, none⟩) l := HI.out.below M4
    go_wp2_with (refine wp_app_ints rfl (.tmp 56) (.tmp 57) rfl ⟨bv, ov, none⟩ l cV rfl (by rw [hl']; rfl) hI4 (by omega) ?_)
    intro vO wO hO bO
    obtain ⟨aN, cN, bN, rfl, hcN, hcN2, oN, gN⟩ := hO
    rw [List.length_map, hl'] at hcN ⊢
    obtain ⟨RO, rfl, rfl, hrow⟩ : ∃ RO, aN = some ⟨RO, 0, none⟩ ∧ bN = [RO] ∧ Row wO RO 3 (fun i => (l.map (Value.int .i64)).getD i undef) := by
      rcases oN with ⟨h, _⟩ | ⟨RO, h1, h2, h3⟩
      · exfalso
        have := congrArg List.length h
        rw [List.length_map, hl'] at this
        simp at this
      · exact ⟨RO, h1, h2, by rw [List.length_map, hl'] at h3; exact h3⟩
    have hRO := gN RO (by simp)
    replace hrow : Row wO RO 3 (fun i => .int .i64 (l.getD i 0)) := hrow.congr fun i hi => by
      simp [List.getD_eq_getElem?_getD, List.getElem?_eq_getElem (show i < l.length by omega)]
    have HRO := hid hrow
    have hc4 := c3
    replace c3 := box3_next bO c3
    have M5 := below_next M4 bO
    have M45 := hid bO
    have hVlt := HR.out.1
    clear oN gN hrow bO hI4
    unfold maxLen at hcN2
    obtain ⟨p0, p1, p2, p3, p4⟩ := c3
    go_wp2_with fail
    go_loopw [11] (fun z wr => ∃ m : Nat, m ≤ 3 ∧ z = .int .i64 m ∧ Below w4.heap.size w4 wr ∧ Row wr RO 3 (fun i => .int .i64 (if i < m then othV (len : Int) t l i else l.getD i 0))) (fun z _ => 3 - (intOf z).toNat)
    case atStart => exact ⟨0, Nat.zero_le _, rfl, M45.out, HRO.out.congr (fun i _ => by simp)⟩
    case round =>
      obtain ⟨m, hm, rfl, Bw, hr⟩ := hrel
      have M6 := below_next M4 Bw
      by_cases hlt : m < 3
      · have hlt2 : (m : Int) < 3 := by omega
        obtain ⟨bv', ov', hbo, hbv', _, g0, hgi⟩ := ints_at (k := m) HI.out M6 (by omega)
        simp only [Option.some.injEq, Addr.mk.injEq, and_true] at hbo
        obtain ⟨rfl, rfl⟩ := hbo
        have hgb := HBD.out _ (List.getElem_mem (show m < l.length by omega))
        have hge : l[m]'(by omega) = l.getD m 0 := by simp [List.getD_eq_getElem?_getD, List.getElem?_eq_getElem (show m < l.length by omega)]
        rw [hge] at g0 hgb
        have hV6 := HR.out.below Bw
        have v0 : wr.cell? ⟨V, m, none⟩ = some (.bool (occT (m : Int) t)) := hV6.2.1 m hlt
        have v1 := hV6.1
        have r0 : wr.cell? ⟨RO, m, none⟩ = some (.int .i64 (l.getD m 0)) := by simpa using hr.2.1 m hlt
        have rz := hr.2.2
        have rl := hr.1
        have HST := hid (show ∀ x, x = othV (len : Int) t l m → Below w4.heap.size w4 (wr.setCell ⟨RO, m, none⟩ (.int .i64 x)) ∧ Row (wr.setCell ⟨RO, m, none⟩ (.int .i64 x)) RO 3 (fun i => .int .i64 (if i < m + 1 then othV (len : Int) t l i else l.getD i 0)) from
          fun x hx => ⟨Bw.setCell hRO _, (hr.set hlt (.int .i64 x)).congr (fun i hi => by
            by_cases e : i = m
            · subst e; simp [hx]
            · by_cases e2 : i < m
              · simp [e, e2, show i < m + 1 by omega]
              · simp [e, e2, show ¬ i < m + 1 by omega])⟩)
        have HSK := hid (show l.getD m 0 = othV (len : Int) t l m → Row wr RO 3 (fun i => .int .i64 (if i < m + 1 then othV (len : Int) t l i else l.getD i 0)) from
          fun hx => hr.congr (fun i hi => by
            by_cases e : i = m
            · subst e; rw [if_neg (by omega), if_pos (by omega), hx]
            · by_cases e2 : i < m
              · simp [e2, show i < m + 1 by omega]
              · simp [e2, show ¬ i < m + 1 by omega]))
        have HO := hid (show othV (len : Int) t l m = if occT (m : Int) t = true then l.getD m 0 else (l.getD m 0 + 1 + len) % 4 from rfl)
        have HBw := hid Bw
        clear hr Bw hV6 hge
        generalize othV (len : Int) t l m = ot at HST HSK HO
        generalize l.getD m 0 = xm at *
        cases hoc : occT (m : Int) t with
        | true =>
          have HS2 := hid (HSK.out (by rw [HO.out, hoc]; simp))
          rw [hoc] at v0
          clear hoc HST HO
          go_wp2_with fail
          go_roundw
          case rel => exact ⟨m + 1, by omega, by go_num, HBw.out, HS2.out⟩
          case measure => simp [intOf]; omega
        | false =>
          have HS2 := hid (HST.out ((xm + 1 + len) % 4) (by rw [HO.out, hoc]; simp))
          rw [hoc] at v0
          clear hoc HSK HO
          go_wp2_with fail
          go_roundw
          case rel => exact ⟨m + 1, by omega, by go_num, HS2.out⟩
          case measure => simp [intOf]; omega
      · have hlt2 : ¬ ((m : Int) < 3) := by omega
        have hIN : IntsIn Any wr (some ⟨RO, 0, none⟩) (othL (len : Int) t l) := Row.ints (hr.congr (fun i hi => by
          rw [if_pos (show i < m by omega)]
          rcases (by omega : i = 0 ∨ i = 1 ∨ i = 2) with rfl | rfl | rfl <;> rfl)) HOI.out trivial
        have hc6 := box3_next Bw hc4
        have HEV := hid (Expr.eval_any t (othL (len : Int) t l) wr _ (some ⟨RO, 0, none⟩) cN (TrIn_below M6 HX.out) hIN (show 3 ≤ cN by omega) (by unfold maxLen; omega))
        have hev := HEV.out
        rw [HOK.out, HV2.out, show (othL (len : Int) t l).length = 3 from rfl] at hev
        replace HEV := hid hev
        clear hr hIN hev
        obtain ⟨p0, p1, p2, p3, p4⟩ := hc6
        go_wp2_with fail
        refine HEV.out.mono ?_
        rintro e w7 ⟨rfl, hb7⟩
        have hqq : (q == q) = true := by simp
        go_wp2_with fail
        go_ret
        exact Ret.mk (by simp) (below_next B1 (below_next M6 hb7))
end Go.Proofs.Ytplogaapgolaiaa
