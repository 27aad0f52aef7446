/- The reference's ReduceLasso: what it returns. Conditions: those of the contract. -/
import Derived.Test.YtkjnmkjdooebmaazRedS
set_option linter.unusedVariables false
set_option linter.unusedSimpArgs false
namespace Go.Proofs.Ytkjnmkjdooebmaa
open Go.RowKit
set_option linter.unusedVariables false
set_option linter.unusedSimpArgs false

theorem OwnI.one (w : World) (x : Int) : OwnI w.heap.size (.slice (some ⟨w.heap.size, 0, none⟩) 1 1) [x] (w.alloc (.cells #[.int .i64 x] 3)) :=
  ⟨by simp, .inr ⟨w.heap.size, 1, #[.int .i64 x], rfl, Nat.le_refl _, heap_alloc_new w _, Nat.le_refl _, by unfold maxLen; omega, rfl, by simp⟩⟩
namespace Lasso

noncomputable def redA (s l : List Int) : List Int := if ok s l = true then (red s l).1 else []
noncomputable def redB (s l : List Int) : List Int := if ok s l = true then (red s l).2 else []
/-- what ReduceLasso comes to -/
def RedPost (s l : List Int) (w : World) (e : Ending) (w' : World) : Prop := ∃ v, e = .returned (.tuple #[v, .bool (ok s l)]) ∧ PairIn Any w' (redA s l) (redB s l) v ∧ Below w.heap.size w w'
/-- the length of a slice -/
def lenV (v : Value) : Nat := match v with | .slice _ n _ => n | _ => 0
/-- a row that may be appended -/
def Arr (t : List Int) (v : Value) (w : World) : Prop := ∃ a c, v = .slice a t.length c ∧ IntsIn Any w a t ∧ t.length ≤ c ∧ c ≤ maxLen ∧ (a = none → c = 0)
theorem Arr.below {t : List Int} {v : Value} {w w' : World} (h : Arr t v w) (hb : Below w.heap.size w w') : Arr t v w' := by
  obtain ⟨a, c, h1, h2, h3⟩ := h
  exact ⟨a, c, h1, h2.below hb, h3⟩
theorem _root_.Go.Proofs.Ytkjnmkjdooebmaa.OwnI.arr {B : Nat} {v : Value} {t : List Int} {w : World} (h : OwnI B v t w) (hi : ∀ n, n ∈ t → i64 n) : Arr t v w := by
  obtain ⟨a, c, rfl, h1, h2, h3⟩ := h.shape
  exact ⟨a, c, rfl, h.ints2 hi, h1, h2, h3⟩
theorem lst_at {t u : List Int} (h : u.length + 1 = t.length) : ∃ hh : u.length < t.length, lst t = t[u.length] := by
  refine ⟨by omega, ?_⟩
  rw [lst, show t.length - 1 = u.length by omega, getD_zero]
theorem rot_yes {t m u n : List Int} (h : lst t = lst m) (hu : u = t.take (t.length - 1)) (hn : n = m.take (m.length - 1)) (h1 : u.length + 1 = t.length) : rot t.length t m = rot u.length u (lst m :: n) := by
  have e : rot (u.length + 1) t m = rot u.length (t.take (t.length - 1)) (rotR m) := by rw [rot, if_pos h]
  rw [← h1, e, ← hu, hn]
  rfl
theorem rot_no {t m : List Int} (h : lst t ≠ lst m) : rot t.length t m = (t, m) := by
  cases e : t.length with
  | zero => rfl
  | succ k => rw [rot, if_neg h]
/-- while the stem is taken into the loop -/
def RotAt (s l : List Int) (w : World) (t m : List Int) (vt vm : Value) (wr : World) : Prop := Arr t vt wr ∧ Arr m vm wr ∧ 0 < m.length ∧ m.length ≤ 1000 ∧ t.length ≤ 1000 ∧ rot t.length t m = red s l ∧ Below w.heap.size w wr ∧ BoxP wr (w.heap.size + 1) (.slice none 0 0) (.slice none 0 0)

/-- a store over what is no number keeps all rows of numbers -/
theorem ints_keep {w : World} {a : Option Addr} {l : List Int} {p : Addr} {x : Value} (h : IntsIn Any w a l) (hp : w.cell? p = some x) (hx : ∀ n, x ≠ .int .i64 n) (v : Value) : IntsIn Any (w.setCell p v) a l := by
  refine ⟨?_, h.2⟩
  rcases h.1 with h1 | ⟨b, o, h1, h2, h3, h4⟩
  · exact .inl h1
  · refine .inr ⟨b, o, h1, h2, by simpa using h3, fun i u hu => ?_⟩
    have hc := h4 i u hu
    rw [World.cell?_setCell_other _ _ _ _ (fun e => ?_)]
    · exact hc
    · rw [e, hc] at hp
      have hm := List.mem_of_getElem? hu
      rw [List.mem_map] at hm
      obtain ⟨n, _, rfl⟩ := hm
      exact hx n (Option.some.inj hp).symm
theorem red_ret {s l t q : List Int} {w W : World} {a1 a2 : Option Addr} {k1 k2 : Nat} (h : ok s l = true) (hE : (t, q) = red s l) (hB : Below w.heap.size w W) (g : IntsIn Any W a1 t) (f : IntsIn Any W a2 q) (g2 : t.length ≤ k1) (g3 : k1 ≤ maxLen) (f2 : q.length ≤ k2) (f3 : k2 ≤ maxLen) (hz : BoxP W (w.heap.size + 1) (.slice none 0 0) (.slice none 0 0)) :
    RedPost s l w (.returned (.tuple #[.agg #[.slice a1 t.length k1, .slice a2 q.length k2], .bool true])) ((W.setCell ⟨w.heap.size + 1, 0, none⟩ (.slice a1 t.length k1)).setCell ⟨w.heap.size + 1, 1, none⟩ (.slice a2 q.length k2)) := by
  have e1 : redA s l = t := by rw [redA, if_pos h, ← hE]
  have e2 : redB s l = q := by rw [redB, if_pos h, ← hE]
  obtain ⟨z0, z1, z2, z3, z4⟩ := boxp_set0 hz (.slice a1 t.length k1)
  refine ⟨_, by rw [h], ?_, below_s (below_s hB (by simp) _) (by simp) _⟩
  rw [e1, e2]
  exact ⟨a1, a2, k1, k2, rfl, ints_keep (ints_keep g hz.2.1 (by simp) _) z2 (by simp) _, ints_keep (ints_keep f hz.2.1 (by simp) _) z2 (by simp) _, g2, g3, f2, f3⟩

set_option maxRecDepth 100000 in
set_option maxHeartbeats 4000000 in
theorem specRed_any (s l : List Int) (w : World) (x : Value) (hx : PairIn Any w s l x) (hn : NilOk x) : Calls Try.prog 19 #[x] w (RedPost s l w) := by
  obtain ⟨a, b, c, d, rfl, hi1, hi2, c1, c2, d1, d2⟩ := id hx
  obtain ⟨n1, n2⟩ := hn _ _ _ _ _ _ rfl
  have I1 := hid hi1
  have I2 := hid hi2
  have HV := hid (fun (W : World) (M : Below w.heap.size w W) => specValid_any s l W _ (hx.below M))
  clear hn hi1 hi2 hx
  go_enter Try.func19, Try.ntmps19
  go_wp2_with fail
  refine (HV.out _ (by repeat (first | exact Below.refl _ _ | assumption | refine below_a ?_ _ | refine below_o ?_ _ | refine below_d ?_ | refine below_n ?_ _ | refine below_s ?_ (by first | (simp; done) | (simp; omega) | omega) _))).mono ?_
  rintro e w1 ⟨rfl, hb⟩
  have P0 := boxp_next hb (boxp_next (below_alloc _ _) (boxp_at (w := w) (B := w.heap.size) (a := .slice a s.length c) (b := .slice b l.length d) (t := 25) rfl))
  have Z0 := boxp_next hb (boxp_at (w := w.alloc (.cells #[.slice a s.length c, .slice b l.length d] 25)) (B := w.heap.size + 1) (a := .slice none 0 0) (b := .slice none 0 0) (t := 25) (by simp))
  have B0 := below_next (show Below w.heap.size w _ from (by repeat (first | exact Below.refl _ _ | assumption | refine below_a ?_ _ | refine below_o ?_ _ | refine below_d ?_ | refine below_n ?_ _ | refine below_s ?_ (by first | (simp; done) | (simp; omega) | omega) _))) hb
  clear hb
  cases hok : ok s l with
  | false =>
    have HO := hid hok
    have HF := hid (show RedPost s l w (.returned (.tuple #[.agg #[.slice none 0 0, .slice none 0 0], .bool false])) ((w1.setCell ⟨w.heap.size + 1, 0, none⟩ (.slice none 0 0)).setCell ⟨w.heap.size + 1, 1, none⟩ (.slice none 0 0)) from
      ⟨_, by rw [hok], by
        have e1 : redA s l = [] := by rw [redA, hok]; rfl
        have e2 : redB s l = [] := by rw [redB, hok]; rfl
        rw [e1, e2]
        exact ⟨none, none, 0, 0, rfl, ⟨.inl rfl, by simp⟩, ⟨.inl rfl, by simp⟩, Nat.le_refl _, Nat.zero_le _, Nat.le_refl _, Nat.zero_le _⟩, below_s (below_s B0 (by simp) _) (by simp) _⟩)
    have T2 := hid (boxp_set1 (boxp_set0 Z0 (.slice none 0 0)) (.slice none 0 0))
    clear hok
    obtain ⟨z0, z1, z2, z3, z4⟩ := Z0
    go_wp2_with fail
    obtain ⟨_, t0, t1, _, _⟩ := T2.out
    refine bodyPost_ret (v := .tuple #[.agg #[.slice none 0 0, .slice none 0 0], .bool false]) (by simp [results, Try.results19, go_sem, t0, t1]) rfl ?_
    exact HF.out
  | true =>
    have hlen := ok_len hok
    obtain ⟨m, hm⟩ : ∃ m, Hid (m = l.take (perN l)) := ⟨_, hid rfl⟩
    have hper := per_n (l := l) hlen.2.1
    have hml : perN l = m.length := by rw [hm.out, List.length_take]; have := hper.2.1; omega
    have HPER := hid (fun (W : World) (M : Below w.heap.size w W) => specPer_any l W b d (I2.out.below M) d1 d2 hlen.2.1)
    rw [hml] at HPER
    have hm0 : 0 < m.length := by rw [← hml]; exact hper.1
    have hm1 : m.length ≤ l.length := by rw [← hml]; exact hper.2.1
    have hs80 := hlen.1
    have hl80 := hlen.2.2.1
    have HIM := hid (fun (W : World) (M : Below w.heap.size w W) => show IntsIn Any W b m from by rw [hm.out]; exact ints_take (I2.out.below M) _)
    have HR := hid (show rot s.length s m = red s l by rw [hm.out]; rfl)
    have HO := hid hok
    clear hok hlen hper hml hm
    unfold maxLen at c2 d2
    go_upto_region 3 with fail
    refine wp_gen (fun W => Below w.heap.size w W ∧ BoxP W w.heap.size (.slice a s.length c) (.slice b l.length d) ∧ BoxP W (w.heap.size + 1) (.slice none 0 0) (.slice none 0 0)) ⟨B0, P0, Z0⟩ ?_
    clear B0 P0 Z0
    rintro W0 ⟨B0, P0, Z0⟩
    have MB := hid B0
    have ZB := hid Z0
    have PB := hid P0
    have hW := B0.size
    obtain ⟨_, _, _, _, _⟩ := id Z0
    clear B0 Z0
    go_cut [4] (fun s4 wx => ∃ vm, vm = s4 ∧ Hid (Arr m vm wx ∧ Below w.heap.size w wx ∧ BoxP wx w.heap.size (.slice a s.length c) (.slice b l.length d) ∧ BoxP wx (w.heap.size + 1) (.slice none 0 0) (.slice none 0 0)))
    case first =>
      obtain ⟨p0, p1, p2, p3, p4⟩ := P0
      have hmd : m.length ≤ d := by omega
      refine wp_region_ord (C := fun wZ => ∃ xZ, wZ = World.over _ xZ) [1,2,3,4] (.two 0 5 (.one 5 (.one 6 (.one 7 (.one 8 .done)))) (.two 0 6 (.one 6 (.one 7 (.one 8 .done))) (.one 0 (.one 7 (.one 8 .done))))) [] (by kernel_rfl) (by kernel_rfl) (fun d _ _ _ _ h => by cases d <;> exact h) (bex (Below.refl _ _).drew) ?_; simp only [pick, List.getElem?_cons_succ, List.getElem?_cons_zero]; (repeat (go_big_quiet_step (fail))); refine wpQuiet_nil ?_; simp only [ordW, pick, List.getElem?_cons_succ, List.getElem?_cons_zero]
      have D := hid (below_d (Below.refl W0.heap.size W0))
      have hwv := D.out.size
      generalize W0.drew = v0 at *
      clear p0 p1 p2 p3 p4
      constructor
      · go_wp2_with fail
        have h0 := below_alloc v0 (.cells #[] 3)
        have D1 := hid (below_next D.out h0)
        have M1 := hid (OwnI.made v0)
        have hlt := hid (show v0.heap.size < (v0.alloc (.cells #[] 3)).heap.size by simp)
        refine ⟨bex D1.out, ?_⟩
        clear h0
        generalize v0.alloc (.cells #[] 3) = v1 at *
        go_wp2_with fail
        refine (HPER.out _ (below_next MB.out D1.out)).mono ?_
        rintro e v2 ⟨rfl, hb⟩
        replace D1 := hid (below_next D1.out hb)
        replace M1 := hid (M1.out.next hb)
        replace hlt := hid (Nat.lt_of_lt_of_le hlt.out hb.size)
        clear hb
        go_wp2_with fail
        refine ⟨bex D1.out, ?_⟩
        go_wp2_with fail
        refine ⟨bex D1.out, ?_⟩
        go_wp2_with (at_builtin; refine wp_app_clone rfl _ _ rfl v0.heap.size m b d rfl rfl M1.out hlt.out n2 (HIM.out _ (below_next MB.out D1.out)) (by omega) ?_; intro g' c' v3 hor hown hg hlt')
        have D2 := hid (below_own D1.out M1.out hwv hg)
        have HA := hid (And.intro (hown.arr (HIM.out v0 (below_next MB.out D.out)).2) (And.intro (below_next MB.out D2.out) (And.intro (boxp_next D2.out PB.out) (boxp_next D2.out ZB.out))))
        clear hor hown hg hlt'
        refine ⟨bex D2.out, ?_⟩
        go_wp2_with fail
        refine ⟨bex D2.out, ?_⟩
        go_wp2_with fail
        go_meet
        exact ⟨_, rfl, HA⟩
      · go_wp2_with fail
        refine (HPER.out _ (below_next MB.out D.out)).mono ?_
        rintro e v1 ⟨rfl, hb⟩
        replace D := hid (below_next D.out hb)
        have hwv1 := D.out.size
        clear hb hwv
        go_wp2_with fail
        refine ⟨bex D.out, ?_⟩
        constructor
        · go_wp2_with fail
          have h0 := below_alloc v1 (.cells #[] 3)
          have D1 := hid (below_next D.out h0)
          have M1 := hid (OwnI.made v1)
          have hlt := hid (show v1.heap.size < (v1.alloc (.cells #[] 3)).heap.size by simp)
          refine ⟨bex D1.out, ?_⟩
          clear h0
          generalize v1.alloc (.cells #[] 3) = v2 at *
          go_wp2_with fail
          refine ⟨bex D1.out, ?_⟩
          go_wp2_with (at_builtin; refine wp_app_clone rfl _ _ rfl v1.heap.size m b d rfl rfl M1.out hlt.out n2 (HIM.out _ (below_next MB.out D1.out)) (by omega) ?_; intro g' c' v3 hor hown hg hlt')
          have D2 := hid (below_own D1.out M1.out hwv1 hg)
          have HA := hid (And.intro (hown.arr (HIM.out v1 (below_next MB.out D.out)).2) (And.intro (below_next MB.out D2.out) (And.intro (boxp_next D2.out PB.out) (boxp_next D2.out ZB.out))))
          clear hor hown hg hlt'
          refine ⟨bex D2.out, ?_⟩
          go_wp2_with fail
          refine ⟨bex D2.out, ?_⟩
          go_wp2_with fail
          go_meet
          exact ⟨_, rfl, HA⟩
        · go_wp2_with fail
          refine ⟨bex D.out, ?_⟩
          go_wp2_with fail
          have h0 := below_alloc v1 (.cells #[] 3)
          have D1 := hid (below_next D.out h0)
          have M1 := hid (OwnI.made v1)
          have hlt := hid (show v1.heap.size < (v1.alloc (.cells #[] 3)).heap.size by simp)
          refine ⟨bex D1.out, ?_⟩
          clear h0
          generalize v1.alloc (.cells #[] 3) = v2 at *
          go_wp2_with (at_builtin; refine wp_app_clone rfl _ _ rfl v1.heap.size m b d rfl rfl M1.out hlt.out n2 (HIM.out _ (below_next MB.out D1.out)) (by omega) ?_; intro g' c' v3 hor hown hg hlt')
          have D2 := hid (below_own D1.out M1.out hwv1 hg)
          have HA := hid (And.intro (hown.arr (HIM.out v1 (below_next MB.out D.out)).2) (And.intro (below_next MB.out D2.out) (And.intro (boxp_next D2.out PB.out) (boxp_next D2.out ZB.out))))
          clear hor hown hg hlt'
          refine ⟨bex D2.out, ?_⟩
          go_wp2_with fail
          refine ⟨bex D2.out, ?_⟩
          go_wp2_with fail
          go_meet
          exact ⟨_, rfl, HA⟩
    case rest =>
      obtain ⟨vm, rfl, HC⟩ := hcut
      have hwc := HC.out.2.1.size
      obtain ⟨p0, p1, p2, p3, p4⟩ := HC.out.2.2.1
      go_wp2_with (at_builtin; refine wp_app_clone rfl _ _ rfl wc.heap.size s a c rfl rfl (OwnI.made wc) (by simp) n1 (I1.out.below (below_next HC.out.2.1 (below_alloc wc (.cells #[] 3)))) (by omega) ?_; intro g' c' v3 hor hown hg hlt')
      have D2 := below_own (below_alloc wc (.cells #[] 3)) (OwnI.made wc) (Nat.le_refl _) hg
      have HA := hid (show RotAt s l w s m (.slice (some ⟨g', 0, none⟩) s.length c') vm v3 from ⟨hown.arr (I1.out).2, HC.out.1.below D2, hm0, by omega, by omega, HR.out, below_next HC.out.2.1 D2, boxp_next D2 HC.out.2.2.2⟩)
      clear hor hown hg hlt' D2 p0 p1 p2 p3 p4 HC HPER HIM HR HV I1 I2 ZB PB MB hwc
      go_wp2_with fail
      go_loopw [5, 4] (fun vt vq wr => ∃ t q, Hid (RotAt s l w t q vt vq wr)) (fun vt _ _ => lenV vt)
      case atStart => exact ⟨s, m, HA⟩
      case round =>
        obtain ⟨t, q, HRA⟩ := hrel
        obtain ⟨wo, rfl⟩ : ∃ wo : World, wo = wr := ⟨_, rfl⟩
        obtain ⟨⟨a1, k1, rfl, g1, g2, g3, g4⟩, ⟨a2, k2, rfl, f1, f2, f3, f4⟩, hq0, hq1, ht1, hrot, hB, hZ⟩ := HRA.out
        have G1 := hid g1
        have F1 := hid f1
        have HR := hid hrot
        have HB := hid hB
        have hZs := hB.size
        obtain ⟨z0, z1, z2, z3, z4⟩ := id hZ
        clear g1 f1 hrot hB HA hZ
        unfold maxLen at g3 f3
        by_cases ht0 : 0 < t.length
        · have ht02 : (0 : Int) < (t.length : Int) := by omega
          obtain ⟨u, hu⟩ : ∃ u, Hid (u = t.take (t.length - 1)) := ⟨_, hid rfl⟩
          obtain ⟨n, hn⟩ : ∃ n, Hid (n = q.take (q.length - 1)) := ⟨_, hid rfl⟩
          have hul : u.length + 1 = t.length := by rw [hu.out, List.length_take]; omega
          have hnl : n.length + 1 = q.length := by rw [hn.out, List.length_take]; omega
          have hut : (t.length : Int) - 1 = (u.length : Int) := by omega
          have hnq : (q.length : Int) - 1 = (n.length : Int) := by omega
          obtain ⟨hu1, hu2⟩ := lst_at hul
          obtain ⟨hn1, hn2⟩ := lst_at hnl
          obtain ⟨b1, o1, rfl, hb1, _, y1, hi1⟩ := ints_at G1.out (Below.refl _ _) hu1
          obtain ⟨b2, o2, rfl, hb2, _, y2, hi2⟩ := ints_at F1.out (Below.refl _ _) hn1
          rw [← hu2] at y1 hi1
          rw [← hn2] at y2 hi2
          have HY := hid (fun (e : lst t = lst q) => rot_yes e hu.out hn.out hul)
          have HNo := hid (fun (e : lst t ≠ lst q) => rot_no e)
          have HU := hid (show IntsIn Any wo (some ⟨b1, o1, none⟩) u by rw [hu.out]; exact ints_take G1.out _)
          have HN := hid (show IntsIn Any wo (some ⟨b2, o2, none⟩) n by rw [hn.out]; exact ints_take F1.out _)
          have hul' : u.length < t.length := hu1
          have hnl' : n.length < q.length := hn1
          clear hu2 hn2
          generalize lst t = x at *
          generalize lst q = y at *
          have HUL := hid hul
          have HNL := hid hnl
          clear hul hnl hu hn
          by_cases hxy : x = y
          · subst hxy
            have hxx : (x == x) = true := by simp
            have HE := hid ((HY.out rfl).symm.trans HR.out)
            clear HY HNo
            go_wp2_with fail
            refine wp_region_over (by kernel_rfl) (by kernel_rfl) ?_; (repeat (go_big_quiet_step ((fail)))); refine wpQuiet_nil ?_; rintro _ ⟨xq, rfl⟩
            have D := hid (over_below wo xq)
            obtain ⟨W, hW⟩ : ∃ W, wo.over xq = W := ⟨_, rfl⟩
            rw [hW] at D ⊢
            have y3 : W.cell? ⟨b2, o2 + n.length, none⟩ = some (.int .i64 x) := by rw [D.out.cell (p := ⟨b2, o2 + n.length, none⟩) hb2]; exact y2
            have hb3 : b2 < W.heap.size := Nat.lt_of_lt_of_le hb2 D.out.size
            clear hW y1 y2
            go_wp2_with fail
            have hnk : n.length ≤ k2 := by omega
            refine wp_region_ord (C := fun wZ => ∃ xZ, wZ = World.over _ xZ) [0,1,2,3,4,5,7,8,9,10,11] (.one 6 (.one 12 (.one 13 .done))) [] (by kernel_rfl) (by kernel_rfl) (fun d _ _ _ _ h => by cases d <;> exact h) (bex (Below.refl _ _).drew) ?_; simp only [pick, List.getElem?_cons_succ, List.getElem?_cons_zero]; (repeat (go_big_quiet_step (fail))); refine wpQuiet_nil ?_; simp only [ordW, pick, List.getElem?_cons_succ, List.getElem?_cons_zero]
            have D0 := hid (below_d (Below.refl W.heap.size W))
            generalize W.drew = v0 at *
            clear y3
            go_wp2_with fail
            have h0 := below_alloc v0 (.cells #[.int .i64 x] 3)
            have D1 := hid (below_next D0.out h0)
            refine ⟨bex D1.out, ?_⟩
            have M1 := hid (OwnI.one v0 x)
            have hsz := h0.size
            clear h0
            generalize v0.alloc (.cells #[.int .i64 x] 3) = v1 at *
            go_wp2_with (at_builtin; refine wp_app_own2 rfl _ _ rfl v0.heap.size _ [x] n (some ⟨b2, o2, none⟩) k2 rfl rfl (fun e => by cases e) M1.out hsz ((HN.out.below D.out).below D1.out) (by simp) (by omega) ?_; intro v' v2 hown hg hor)
            have D2 := hid (below_own D1.out M1.out D0.out.size hg)
            have D3 := hid (below_next D.out D2.out)
            have HX := hid (show RotAt s l w u (x :: n) (.slice (some ⟨b1, o1, none⟩) u.length k1) v' v2 from
              ⟨⟨_, k1, rfl, HU.out.below D3.out, by omega, by unfold maxLen; omega, fun e => by cases e⟩, hown.arr (fun m hm => by
                rcases List.mem_append.1 hm with h | h
                · simp at h; subst h; exact hi1
                · exact HN.out.2 m h), by simp, by have := HNL.out; simp; omega, by omega, HE.out, below_next HB.out D3.out, boxp_next D3.out ⟨z0, z1, z2, z3, z4⟩⟩)
            clear hown hg hor M1 HE
            refine ⟨bex D2.out, ?_⟩
            go_wp2_with fail
            refine ⟨bex D2.out, ?_⟩
            go_wp2_with fail
            go_roundw
            case rel => exact ⟨u, x :: n, HX⟩
            case measure => simp [lenV]; omega
          · have hxx : (x == y) = false := by simpa using hxy
            have HE := hid ((HNo.out hxy).symm.trans HR.out)
            clear HY HNo hxy
            go_wp2_with fail
            refine wp_region_over (by kernel_rfl) (by kernel_rfl) ?_; (repeat (go_big_quiet_step ((fail)))); refine wpQuiet_nil ?_; rintro _ ⟨xq, rfl⟩
            have D := hid (over_below wo xq)
            obtain ⟨W, hW⟩ : ∃ W, wo.over xq = W := ⟨_, rfl⟩
            rw [hW] at D ⊢
            have Z := boxp_next D.out ⟨z0, z1, z2, z3, z4⟩
            clear hW y1 y2 z0 z1 z2 z3 z4
            obtain ⟨z0, z1, z2, z3, z4⟩ := id Z
            have HF := hid (red_ret HO.out HE.out (below_next HB.out D.out) (G1.out.below D.out) (F1.out.below D.out) g2 g3 f2 f3 Z)
            have T2 := hid (boxp_set1 (boxp_set0 Z (.slice (some ⟨b1, o1, none⟩) t.length k1)) (.slice (some ⟨b2, o2, none⟩) q.length k2))
            clear Z
            go_wp2_with fail
            obtain ⟨_, t0, t1, _, _⟩ := T2.out
            refine bodyPost_ret (v := .tuple #[.agg #[.slice (some ⟨b1, o1, none⟩) t.length k1, .slice (some ⟨b2, o2, none⟩) q.length k2], .bool true]) (by simp [results, Try.results19, go_sem, t0, t1]) rfl ?_
            exact HF.out
        · have ht : t = [] := List.length_eq_zero_iff.1 (by omega)
          subst ht
          have HE := hid (show (([] : List Int), q) = red s l from HR.out)
          go_wp2_with fail
          refine wp_region_over (by kernel_rfl) (by kernel_rfl) ?_; (repeat (go_big_quiet_step ((fail)))); refine wpQuiet_nil ?_; rintro _ ⟨xq, rfl⟩
          have D := hid (over_below wo xq)
          obtain ⟨W, hW⟩ : ∃ W, wo.over xq = W := ⟨_, rfl⟩
          rw [hW] at D ⊢
          have Z := boxp_next D.out ⟨z0, z1, z2, z3, z4⟩
          clear hW z0 z1 z2 z3 z4
          obtain ⟨z0, z1, z2, z3, z4⟩ := id Z
          have HF := hid (red_ret HO.out HE.out (below_next HB.out D.out) (G1.out.below D.out) (F1.out.below D.out) g2 g3 f2 f3 Z)
          have T2 := hid (boxp_set1 (boxp_set0 Z (.slice a1 0 k1)) (.slice a2 q.length k2))
          clear Z
          go_wp2_with fail
          obtain ⟨_, t0, t1, _, _⟩ := T2.out
          refine bodyPost_ret (v := .tuple #[.agg #[.slice a1 0 k1, .slice a2 q.length k2], .bool true]) (by simp [results, Try.results19, go_sem, t0, t1]) rfl ?_
          exact HF.out
end Lasso
end Go.Proofs.Ytkjnmkjdooebmaa
