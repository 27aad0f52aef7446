/- FnSatisfiesExpand returns true for every argument. Conditions: none. -/
import Derived.Test.YtbeljjalfhogdaaJL7
import Derived.Test.YtbeljjalfhogdaaJL11
import Derived.Test.YtbeljjalfhogdaazLetterI
namespace Go.Proofs.Ytbeljjalfhogdaa
open Go.RowKit
open Go.Proofs.Ytbeljjalfhogdaa.Lasso
set_option linter.unusedVariables false
set_option linter.unusedSimpArgs false

theorem row_two (w : World) (x y : Value) (t : TypeId) : Row (w.alloc (.cells #[x, y] t)) w.heap.size 2 (fun i => #[x, y].getD i undef) :=
  ⟨by simp, fun i hi => by
    rw [World.cell?_alloc_new]
    rcases (by omega : i = 0 ∨ i = 1) with rfl | rfl <;> rfl, fun i => by simp⟩
theorem word_bd (s l : List Int) (h : ok s l = true) : 0 ≤ wordOf s l 0 ∧ wordOf s l 0 ≤ 7 := by
  obtain ⟨_, h1, _, h2⟩ := ok_len h
  unfold wordOf
  split
  · rename_i h0; exact h2 _ (List.mem_append_left _ (getD_mem h0))
  · exact h2 _ (List.mem_append_right _ (getD_mem (Nat.mod_lt _ (by omega))))
/-- the operands' truth values at the first position -/
noncomputable def kv (s l : List Int) (kids : List Tr) (i : Nat) : Bool := ((kids[i]?).map fun t => satV s l t).getD false
theorem kv_at {s l : List Int} {kids : List Tr} {i : Nat} {t : Tr} (h : kids[i]? = some t) : kv s l kids i = satV s l t := by simp [kv, h]
/-- the expansion of a formula: r0, r1 its operands, L: at the next position, X: its operand at the next position, z: the first letter -/
def ExpOk (k v : Int) (V r0 r1 L X : Bool) (z : Int) : Prop :=
  (k = 7 → V = (r1 || r0 && L)) ∧ (k = 8 → V = (r1 && (r0 || L))) ∧ (k = 9 → V = (r0 || L)) ∧ (k = 10 → V = (r0 && L)) ∧ (k = 6 → V = X) ∧ (k = 4 → V = (r0 && r1)) ∧ (k = 5 → V = (r0 || r1)) ∧ (k = 3 → V = !r0) ∧ (k = 1 → V = true) ∧ (k = 2 → V = bit z v ∧ 0 ≤ v ∧ v ≤ 2)
theorem exp_ok {s l : List Int} {k v : Int} {kids : List Tr} (h : satOk s l (.mk k v kids) = true) : ExpOk k v (satV s l (.mk k v kids)) (kv s l kids 0) (kv s l kids 1) (sem (wordOf s l) (.mk k v kids) 1) (sem (wordOf s l) (kids.headD (.mk 0 0 [])) 1) (wordOf s l 0) := by
  obtain ⟨k1, k2, v1, v2, har⟩ := exp_of h
  rw [formL_ar] at har
  refine ⟨fun e => ?_, fun e => ?_, fun e => ?_, fun e => ?_, fun e => ?_, fun e => ?_, fun e => ?_, fun e => ?_, fun e => ?_, fun e => ?_⟩
  · subst e; obtain ⟨a, b, rfl⟩ := len2 (by simpa using har); exact exp7 h
  · subst e; obtain ⟨a, b, rfl⟩ := len2 (by simpa using har); exact exp8 h
  · subst e; obtain ⟨a, rfl⟩ := len1 (by simpa using har); exact exp9 h
  · subst e; obtain ⟨a, rfl⟩ := len1 (by simpa using har); exact exp10 h
  · subst e; obtain ⟨a, rfl⟩ := len1 (by simpa using har); exact exp6 h
  · subst e; obtain ⟨a, b, rfl⟩ := len2 (by simpa using har); exact exp4 h
  · subst e; obtain ⟨a, b, rfl⟩ := len2 (by simpa using har); exact exp5 h
  · subst e; obtain ⟨a, rfl⟩ := len1 (by simpa using har); exact exp3 h
  · subst e; obtain rfl : kids = [] := by simpa using har
    exact exp1 h
  · subst e; obtain rfl : kids = [] := by simpa using har
    rw [formL_most] at v2
    exact ⟨exp2 h, v1, by simpa using v2⟩

set_option maxRecDepth 100000 in
set_option maxHeartbeats 4000000 in
theorem walk_FnSatisfiesExpand (w : World) (a : Option Addr) (len cap : Nat) (hb : ByteArg w a len cap) : Calls Try.prog 7 #[.slice a len cap] w (Ret (.bool true) w) := by
  have hcap := hb.2.1
  have hcap1 := hb.1
  unfold maxLen at hcap
  by_cases hlen : len > 1048576
  · have hlen2 : (len : Int) > 1048576 := by omega
    go_enter Try.func7, Try.ntmps7
    go_wp2_with fail
    go_ret
    exact Ret.mk rfl (by repeat (first | exact Below.refl _ _ | assumption | refine below_a ?_ _ | refine below_o ?_ _ | refine below_d ?_ | refine below_n ?_ _ | refine below_s ?_ (by first | (simp; done) | (simp; omega) | omega) _))
  have hlen2 : ¬ ((len : Int) > 1048576) := by omega
  have HB := hid hb
  clear hb
  go_enter Try.func7, Try.ntmps7
  go_wp2_with fail
  refine (Lasso.drawSat_any _ a len cap HB.out).mono ?_
  rintro e w1 ⟨x, y, s, l, f, rfl, hn, hs1, hl1, hf, hfn, B0⟩
  obtain ⟨aS, cS, aL, cL, rfl⟩ := hn.shape
  obtain ⟨aF, cF, rfl⟩ := TrIn_shape hf.any
  obtain ⟨hP, hN⟩ := hn.any
  have hF := hid hf.any
  have HU := hid (fun (W : World) (M : Below w1.heap.size w1 W) => suffix_any s l 1 (by omega) W _ (hP.below M) hN)
  have HL0 := hid (fun (hok : ok s l = true) (W : World) (M : Below w1.heap.size w1 W) => letter0_any s l hok W _ (hP.below M))
  have HS := hid (fun (t : Tr) (W : World) (y : Value) (M : Below w1.heap.size w1 W) (h : TrIn Any W t y) => sat_any s l t W _ y (hP.below M) h hN)
  have HW := hid (fun (t : Tr) (W : World) (y : Value) (M : Below w1.heap.size w1 W) (h : TrIn Any W t y) => specSat_any s l t W _ y (hP.below M) h)
  clear hn hf hP hN HB
  go_wp2_with fail
  have h0 : Below w1.heap.size w1 ((w1.alloc (.cells #[.slice aS s.length cS, .slice aL l.length cL] 25)).alloc (.cells #[.int .i64 f.kind, .int .i64 f.val, .slice aF f.kids.length cF] 29)) := (by repeat (first | exact Below.refl _ _ | assumption | refine below_a ?_ _ | refine below_o ?_ _ | refine below_d ?_ | refine below_n ?_ _ | refine below_s ?_ (by first | (simp; done) | (simp; omega) | omega) _))
  refine (HS.out f _ _ h0 (TrIn_below h0 hF.out)).mono ?_
  rintro e w2 ⟨rfl, hb⟩
  have P := hid (boxp_next hb (boxp_next (below_alloc _ _) (boxp_at (w := w1) (B := w1.heap.size) (a := .slice aS s.length cS) (b := .slice aL l.length cL) (t := 25) rfl)))
  have Q := hid (box3_next hb (box3_at (w := w1.alloc _) (B := w1.heap.size + 1) (a := .int .i64 f.kind) (b := .int .i64 f.val) (c := .slice aF f.kids.length cF) (t := 29) (by simp)))
  have M := hid (below_next h0 hb)
  clear hb h0
  obtain ⟨p0, p1, p2, p3, p4⟩ := id P.out
  obtain ⟨q0, q1, q2, q3, _⟩ := id Q.out
  go_wp2_with fail
  refine (HW.out f _ _ M.out (TrIn_below M.out hF.out)).mono ?_
  rintro e w3 ⟨rfl, hb⟩
  replace P := hid (boxp_next hb P.out)
  replace Q := hid (box3_next hb Q.out)
  replace M := hid (below_next M.out hb)
  clear hb p0 p1 p2 p3 p4 q0 q1 q2 q3 HW
  obtain ⟨p0, p1, p2, p3, p4⟩ := id P.out
  obtain ⟨q0, q1, q2, q3, _⟩ := id Q.out
  have hvv : (satV s l f != satV s l f) = false := by simp
  have hvv2 : (satV s l f == satV s l f) = true := by simp
  cases hok : satOk s l f with
  | false =>
    generalize satV s l f = vf at *
    clear HS hok
    go_wp2_with fail
    go_ret
    exact Ret.mk (by simp) (below_next B0 M.out)
  | true =>
    have h3 := sat_ok hok
    have hO : ok s l = true := h3.2.1
    have HL1 := hid (HL0.out hO)
    have hlets := hid (ok_len hO).2.2.2
    have hkids := hid (fun t ht => sat_kid (s := s) (l := l) (k := f.kind) (v := f.val) (kids := f.kids) (by cases f; exact hok) t ht)
    have hexp := hid (exp_ok (s := s) (l := l) (k := f.kind) (v := f.val) (kids := f.kids) (by cases f; exact hok))
    have hef : Tr.mk f.kind f.val f.kids = f := by cases f; rfl
    have hek := hid (exp_of (s := s) (l := l) (k := f.kind) (v := f.val) (kids := f.kids) (by cases f; exact hok))
    have hexp2 := hexp.out
    rw [hef] at hexp2
    have HE := hid hexp2
    clear hexp hexp2 hef
    have hw : ∀ i, wordOf (sufS s 1) (sufL s l 1) i = wordOf s l (i + 1) := fun i => suf_word s l 1 i (ok_len hO).2.1
    have E1 : ∀ t, satOk (sufS s 1) (sufL s l 1) t = satOk s l t := fun t => by rw [satOk, satOk, hO, suf_ok hO]
    have HSF := hid (fun t (h : satOk s l t = true) => (sat_shf (f := t) (k := 1) hw (by rw [E1]; exact h)))
    have HE1 := hid E1
    have HO := hid hO
    clear h3 hO hw E1 HL0
    obtain ⟨p0, p1, p2, p3, p4⟩ := id P.out
    go_wp2_with fail
    refine (HU.out _ M.out).mono ?_
    rintro e w4 ⟨v, rfl, hn', hb⟩
    rw [if_pos HO.out, if_pos HO.out] at hn'
    rw [HO.out]
    obtain ⟨s2, hs2⟩ : ∃ s2, Hid (s2 = sufS s 1) := ⟨_, hid rfl⟩
    obtain ⟨l2, hl2⟩ : ∃ l2, Hid (l2 = sufL s l 1) := ⟨_, hid rfl⟩
    rw [← hs2.out, ← hl2.out] at hn' HSF HE1
    obtain ⟨aS', cS', aL', cL', rfl⟩ := hn'.shape
    obtain ⟨hP', hN'⟩ := hn'.any
    have HS' := hid (fun (t : Tr) (W : World) (y : Value) (h0 : satOk s l t = true) (M : Below w4.heap.size w4 W) (h : TrIn Any W t y) => (by
      have h1 := sat_any s2 l2 t W _ y (hP'.below M) h hN'
      rw [HE1.out, HSF.out t h0, h0] at h1
      exact h1 : Calls Try.prog 11 #[.agg #[.slice aS' s2.length cS', .slice aL' l2.length cL'], y] W (Ret2 (.bool (sem (wordOf s l) t 1)) (.bool true) W)))
    replace P := hid (boxp_next hb P.out)
    replace Q := hid (box3_next hb Q.out)
    replace M := hid (below_next M.out hb)
    clear hb hn' hP' hN' p0 p1 p2 p3 p4 HU hs2 hl2 HSF HE1
    obtain ⟨q0, q1, q2, q3, _⟩ := id Q.out
    replace hF := hid (TrIn_below M.out hF.out)
    go_wp2_with fail
    have h0 := below_alloc w4 (.cells #[.slice aS' s2.length cS', .slice aL' l2.length cL'] 25)
    refine (HS'.out f _ _ hok h0 (TrIn_below h0 hF.out)).mono ?_
    rintro e w5 ⟨rfl, hb⟩
    have R := hid (boxp_next hb (boxp_at (w := w4) (B := w4.heap.size) (a := .slice aS' s2.length cS') (b := .slice aL' l2.length cL') (t := 25) rfl))
    replace hb := below_next h0 hb
    replace P := hid (boxp_next hb P.out)
    replace Q := hid (box3_next hb Q.out)
    replace M := hid (below_next M.out hb)
    have N := hid hb
    replace hF := hid (TrIn_below hb hF.out)
    clear hb h0 q0 q1 q2 q3
    have HB := hid B0
    have sP := P.out.1
    have sQ := Q.out.1
    have sR := R.out.1
    clear B0 hvv hvv2 hlen2 hlen
    have hFk : TrsIn Any w5 f.kids aF ∧ f.kids.length ≤ cF ∧ cF ≤ maxLen := by
      have h := hF.out
      cases f with
      | mk k' v' kids' =>
        have h := TrIn_kids h
        obtain ⟨a', c', _, _, e, _, _, h1, h2, h3⟩ := h
        simp at e
        obtain ⟨rfl, _, rfl⟩ := e
        exact ⟨h3, h1, h2⟩
    have HK := hid hFk.1
    have hcF := hFk.2.1
    have hcF2 := hFk.2.2
    unfold maxLen at hcF2
    have hkl : f.kids.length ≤ 2 := by
      have h := hek.out.2.2.2.2
      rw [formL_ar] at h
      split at h
      · omega
      · split at h <;> omega
    clear hFk hF
    generalize satV s l f = V at *
    generalize sem (wordOf s l) f 1 = L at *
    generalize f.kind = k at *
    generalize f.val = v at *
    generalize f.kids = kids at *
    obtain ⟨q0, q1, q2, q3, _⟩ := id Q.out
    go_wp2_with fail
    have hK := row_two w5 (.bool false) (.bool false) 4
    have hA := below_alloc w5 (.cells #[.bool false, .bool false] 4)
    have HA := hid hA
    have HKR := hid hK
    clear hK hA q0 q1 q2 q3
    go_loopw [14] (fun i wr => ∃ (j : Nat), j ≤ kids.length ∧ i = .int .i64 j ∧ Hid (Below w5.heap.size w5 wr) ∧ Hid (Row wr w5.heap.size 2 (fun i => .bool (if i < j then kv s l kids i else false)))) (fun i _ => kids.length - (intOf i).toNat)
    case atStart => exact ⟨0, Nat.zero_le _, rfl, HA, hid (HKR.out.congr fun i hi => by rcases (by omega : i = 0 ∨ i = 1) with rfl | rfl <;> rfl)⟩
    case round =>
      obtain ⟨j, hj, rfl, BW, HR⟩ := hrel
      have P2 := hid (boxp_next BW.out P.out)
      have Q2 := hid (box3_next BW.out Q.out)
      obtain ⟨p0, p1, p2, p3, p4⟩ := id P2.out
      obtain ⟨q0, q1, q2, q3, _⟩ := id Q2.out
      by_cases hlt : j < kids.length
      · have hlt2 : (j : Int) < (kids.length : Int) := by omega
        have hj2 : j < 2 := by omega
        have hj3 : (j : Int) < 2 := by omega
        have hj0 : (0 : Int) ≤ (j : Int) := by omega
        obtain ⟨b, o, c0, c1, c2, t, rfl, gb, g0, g1, g2, hT⟩ := TrsIn_round HK.out BW.out hlt
        obtain ⟨e1, e2, e3⟩ := TrIn_shape hT.out.1
        simp only [Value.agg.injEq, Array.mk.injEq, List.cons.injEq, and_true] at e3
        obtain ⟨rfl, rfl, rfl⟩ := e3
        have hsat := hkids.out t hT.out.2.1
        have hkv := hid (kv_at (s := s) (l := l) (kids := kids) (i := j) hT.out.2.2.2)
        have HC := hid (HS.out t)
        have HC2 := HC.out
        rw [hsat.1] at HC2
        have HC3 := hid HC2
        have HT := hid hT.out.1
        have hne1 : w1.heap.size ≠ w5.heap.size := by omega
        have hne2 : w1.heap.size + 1 ≠ w5.heap.size := by omega
        have r0 := HR.out.2.1 j hj2
        have rz := HR.out.2.2
        have rl := HR.out.1
        clear HC HC2 hsat hT
        generalize satV s l t = bv at *
        go_wp2_with fail
        refine wp_region_ord (C := fun wZ => ∃ xZ, wZ = World.overP _ ([w1.heap.size, w1.heap.size + 1, b]) xZ) [0,1,2,3,4,5,6,7] (.one 8 (.one 9 (.two 10 11 (.two 11 12 (.one 12 (.one 13 .done)) (.two 11 13 (.one 13 .done) (.one 11 .done))) (.one 10 (.one 12 (.one 13 .done)))))) [] (by kernel_rfl) (by kernel_rfl) (fun d _ _ _ _ h => by cases d <;> exact h) (KeepP.refl _ _).drew.ex ?_; simp only [pick, List.getElem?_cons_succ, List.getElem?_cons_zero]; (repeat (go_big_quiet_step (fail))); refine wpQuiet_nil ?_; simp only [ordW, pick, List.getElem?_cons_succ, List.getElem?_cons_zero]
        have hbK := (TrsIn_addr HK.out (by omega))
        obtain ⟨b', o', hbe, hbl, _⟩ := hbK
        obtain ⟨rfl, rfl⟩ : b = b' ∧ o = o' := by simpa using hbe
        have h0 := below_d (Below.refl wr.heap.size wr)
        have BWd := below_next BW.out h0
        go_wp2_with fail
        refine (HC3.out _ _ (below_next M.out BWd) (TrIn_below h0 HT.out)).mono ?_
        rintro e w6 ⟨rfl, hb⟩
        have K6 := hid ((KeepP.below (S := [w1.heap.size, w1.heap.size + 1, b]) h0).trans (KeepP.below hb))
        have K7 := hid (K6.out.set (a := ⟨w5.heap.size, j, none⟩) (by simp; omega) (.bool bv))
        have B6 := hid (below_next BWd hb)
        have HR6 := HR.out.below (below_next h0 hb)
        have HR7 := hid ((HR6.set hj2 (.bool bv)).congr (g := fun i => .bool (if i < j + 1 then kv s l kids i else false)) (fun i hi => by
          show (if i = j then _ else (Value.bool (if i < j then kv s l kids i else false))) = _
          by_cases e : i = j
          · subst e; rw [if_pos rfl, if_pos (by omega), hkv.out]
          · rw [if_neg e]
            by_cases e2 : i < j
            · rw [if_pos e2, if_pos (by omega)]
            · rw [if_neg e2, if_neg (by omega)]))
        have r0 := HR6.2.1 j hj2
        have rz := HR6.2.2
        have rl := HR6.1
        clear hb h0 BWd HR HR6 HT HC3 p0 p1 p2 p3 p4 q0 q1 q2 q3 g0 g1 g2 hbe hkv
        go_wp2_with fail
        refine ⟨K6.out.ex, ?_⟩
        go_wp2_with fail
        refine ⟨K6.out.ex, ?_⟩
        refine ⟨?_, ?_⟩
        · go_wp2_with fail
          refine ⟨K6.out.ex, ?_⟩
          refine ⟨?_, ?_⟩
          · go_wp2_with fail
            refine ⟨K6.out.ex, ?_⟩
            go_wp2_with fail
            refine ⟨K6.out.ex, ?_⟩
            go_wp2_with fail
            refine ⟨K7.out.ex, ?_⟩
            go_wp2_with fail
            go_roundw
            case rel => exact ⟨j + 1, by omega, by go_num, hid (B6.out.setCell (Nat.le_refl _) _), HR7⟩
            case measure => simp [intOf]; omega
          · go_wp2_with fail
            refine ⟨K6.out.ex, ?_⟩
            refine ⟨?_, ?_⟩
            · go_wp2_with fail
              refine ⟨K6.out.ex, ?_⟩
              go_wp2_with fail
              refine ⟨K7.out.ex, ?_⟩
              go_wp2_with fail
              go_roundw
              case rel => exact ⟨j + 1, by omega, by go_num, hid (B6.out.setCell (Nat.le_refl _) _), HR7⟩
              case measure => simp [intOf]; omega
            · go_wp2_with fail
              refine ⟨K7.out.ex, ?_⟩
              go_wp2_with fail
              refine ⟨K7.out.ex, ?_⟩
              go_wp2_with fail
              go_roundw
              case rel => exact ⟨j + 1, by omega, by go_num, hid (B6.out.setCell (Nat.le_refl _) _), HR7⟩
              case measure => simp [intOf]; omega
        · go_wp2_with fail
          refine ⟨K6.out.ex, ?_⟩
          go_wp2_with fail
          refine ⟨K6.out.ex, ?_⟩
          go_wp2_with fail
          refine ⟨K6.out.ex, ?_⟩
          go_wp2_with fail
          refine ⟨K7.out.ex, ?_⟩
          go_wp2_with fail
          go_roundw
          case rel => exact ⟨j + 1, by omega, by go_num, hid (B6.out.setCell (Nat.le_refl _) _), HR7⟩
          case measure => simp [intOf]; omega
      · have hlt2 : ¬ ((j : Int) < (kids.length : Int)) := by omega
        have hjl : j = kids.length := by omega
        subst hjl
        have HR2 := HR.out.congr (g := fun i => .bool (kv s l kids i)) (fun i hi => by
          show Value.bool (if i < kids.length then kv s l kids i else false) = _
          by_cases e : i < kids.length
          · rw [if_pos e]
          · rw [if_neg e, kv, List.getElem?_eq_none (by omega)]; rfl)
        have r0 : wr.cell? ⟨w5.heap.size, 0, none⟩ = some (.bool (kv s l kids 0)) := HR2.2.1 0 (by omega)
        have r1 : wr.cell? ⟨w5.heap.size, 1, none⟩ = some (.bool (kv s l kids 1)) := HR2.2.1 1 (by omega)
        have rz := HR2.2.2
        have rl := HR2.1
        have hE := HE.out
        have hXH := hid (fun (t : Tr) (ts : List Tr) (h : kids = t :: ts) => show sem (wordOf s l) (kids.headD (.mk 0 0 [])) 1 = sem (wordOf s l) t 1 by rw [h]; rfl)
        have hz := hlets.out
        have HBW := hid (below_next HB.out (below_next M.out BW.out))
        obtain ⟨hk1, hk2, _, _, har⟩ := hek.out
        rw [formL_ar] at har
        have R2 := hid (boxp_next BW.out R.out)
        have HK2 := hid (TrsIn_below BW.out HK.out)
        have HS2 := hid (fun t h0 (W : World) y (M : Below wr.heap.size wr W) (h : TrIn Any W t y) => HS'.out t W y h0 (below_next N.out (below_next BW.out M)) h)
        have HL2 := hid (fun (W : World) (M2 : Below wr.heap.size wr W) => HL1.out W (below_next M.out (below_next BW.out M2)))
        have hkd := hid (fun t ht => (hkids.out t ht).1)
        have hz0 := hid (word_bd s l HO.out)
        clear HR HR2 HE hlets hek HKR HS' HL1 HS hkids
        generalize kv s l kids 0 = b0 at *
        generalize kv s l kids 1 = b1 at *
        generalize wordOf s l 0 = z at *
        generalize sem (wordOf s l) (kids.headD (.mk 0 0 [])) 1 = X at *
        obtain ⟨h7, h8, h9, h10, h6, h4, h5, h3', h1', h2'⟩ := hE
        rcases (by omega : k = 7 ∨ k = 8 ∨ k = 9 ∨ k = 10 ∨ k = 4 ∨ k = 5 ∨ k = 3 ∨ k = 6 ∨ k = 1 ∨ k = 2) with rfl | rfl | rfl | rfl | rfl | rfl | rfl | rfl | rfl | rfl
        · obtain rfl := h7 rfl
          clear h7 h8 h9 h10 h6 h4 h5 h3' h1' h2' hXH HS2 HL2 HK2 hkd har hz0 hz
          cases b0 <;> cases b1 <;> cases L
          all_goals
            go_wp2_with fail
            go_ret
            exact Ret.mk (by simp) HBW.out
        · obtain rfl := h8 rfl
          clear h7 h8 h9 h10 h6 h4 h5 h3' h1' h2' hXH HS2 HL2 HK2 hkd har hz0 hz
          cases b0 <;> cases b1 <;> cases L
          all_goals
            go_wp2_with fail
            go_ret
            exact Ret.mk (by simp) HBW.out
        · obtain rfl := h9 rfl
          clear h7 h8 h9 h10 h6 h4 h5 h3' h1' h2' hXH HS2 HL2 HK2 hkd har hz0 hz
          cases b0 <;> cases b1 <;> cases L
          all_goals
            go_wp2_with fail
            go_ret
            exact Ret.mk (by simp) HBW.out
        · obtain rfl := h10 rfl
          clear h7 h8 h9 h10 h6 h4 h5 h3' h1' h2' hXH HS2 HL2 HK2 hkd har hz0 hz
          cases b0 <;> cases b1 <;> cases L
          all_goals
            go_wp2_with fail
            go_ret
            exact Ret.mk (by simp) HBW.out
        · obtain rfl := h4 rfl
          clear h7 h8 h9 h10 h6 h4 h5 h3' h1' h2' hXH HS2 HL2 HK2 hkd har hz0 hz
          cases b0 <;> cases b1 <;> cases L
          all_goals
            go_wp2_with fail
            go_ret
            exact Ret.mk (by simp) HBW.out
        · obtain rfl := h5 rfl
          clear h7 h8 h9 h10 h6 h4 h5 h3' h1' h2' hXH HS2 HL2 HK2 hkd har hz0 hz
          cases b0 <;> cases b1 <;> cases L
          all_goals
            go_wp2_with fail
            go_ret
            exact Ret.mk (by simp) HBW.out
        · obtain rfl := h3' rfl
          clear h7 h8 h9 h10 h6 h4 h5 h3' h1' h2' hXH HS2 HL2 HK2 hkd har hz0 hz
          cases b0 <;> cases b1 <;> cases L
          all_goals
            go_wp2_with fail
            go_ret
            exact Ret.mk (by simp) HBW.out
        · obtain rfl := h6 rfl
          obtain ⟨t, rfl⟩ := len1 (by simpa using har)
          have hX := hXH.out t [] rfl
          have hkt := hkd.out t (by simp)
          obtain ⟨b, o, c0, c1, c2, t', rfl, gb, g0, g1, g2, hT⟩ := TrsIn_round (k := 0) HK2.out (Below.refl _ _) (by simp)
          have htt : t = t' := by have := hT.out.2.2.2; simpa using this
          subst htt
          obtain ⟨e1, e2, e3⟩ := TrIn_shape hT.out.1
          simp only [Value.agg.injEq, Array.mk.injEq, List.cons.injEq, and_true] at e3
          obtain ⟨rfl, rfl, rfl⟩ := e3
          simp at g0 g1 g2
          have HT := hid hT.out.1
          have HC := HS2.out t hkt
          rw [← hX] at HC
          have HC2 := hid HC
          clear h7 h8 h9 h10 h6 h4 h5 h3' h1' h2' hXH HS2 HL2 HK2 hkd har hT HC hX hz0 hz
          obtain ⟨p0, p1, p2, p3, p4⟩ := id R2.out
          go_wp2_with fail
          refine wp_region_over (by kernel_rfl) (by kernel_rfl) ?_; (repeat (go_big_quiet_step ((go_at_call 11; exact Calls.over (HC2.out _ _ (over_below _ _) (TrIn_over HT.out _)))))); refine wpQuiet_nil ?_; rintro _ ⟨xq, rfl⟩
          have HM2 := hid (below_next HBW.out (over_below wr xq))
          cases V
          all_goals
            go_wp2_with fail
            go_ret
            exact Ret.mk (by simp) HM2.out
        · obtain rfl := h1' rfl
          clear h7 h8 h9 h10 h6 h4 h5 h3' h1' h2' hXH HS2 HK2 hkd har hz0
          go_wp2_with fail
          refine (HL2.out _ (Below.refl _ _)).mono ?_
          rintro e w7 ⟨rfl, hb⟩
          have Q3 := hid (box3_next hb Q2.out)
          have HM2 := hid (below_next HBW.out hb)
          clear hb q0 q1 q2 q3
          obtain ⟨q0, q1, q2, q3, _⟩ := id Q3.out
          go_wp2_with fail
          go_ret
          exact Ret.mk (by simp) HM2.out
        · obtain ⟨rfl, v0, v2⟩ := h2' rfl
          clear h7 h8 h9 h10 h6 h4 h5 h3' h1' h2' hXH HS2 HK2 hkd har
          obtain ⟨z0, z7⟩ := hz0.out
          go_wp2_with fail
          refine (HL2.out _ (Below.refl _ _)).mono ?_
          rintro e w7 ⟨rfl, hb⟩
          have Q3 := hid (box3_next hb Q2.out)
          have HM2 := hid (below_next HBW.out hb)
          clear hb q0 q1 q2 q3
          rcases (by omega : v = 0 ∨ v = 1 ∨ v = 2) with rfl | rfl | rfl
          all_goals
            rcases (by omega : z = 0 ∨ z = 1 ∨ z = 2 ∨ z = 3 ∨ z = 4 ∨ z = 5 ∨ z = 6 ∨ z = 7) with rfl | rfl | rfl | rfl | rfl | rfl | rfl | rfl
            all_goals
              obtain ⟨q0, q1, q2, q3, _⟩ := id Q3.out
              go_wp2_with fail
              go_ret
              exact Ret.mk (by simp [bit]) (below_next HM2.out (below_alloc _ _))
end Go.Proofs.Ytbeljjalfhogdaa
