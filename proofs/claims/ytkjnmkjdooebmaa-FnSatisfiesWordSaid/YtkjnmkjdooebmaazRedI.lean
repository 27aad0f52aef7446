/- The program's reduced, SameWord: what they return. Conditions: those of each contract. -/
import Derived.Test.YtkjnmkjdooebmaazRedS3
import Derived.Test.YtkjnmkjdooebmaazRepI
set_option linter.unusedVariables false
set_option linter.unusedSimpArgs false
namespace Go.Proofs.Ytkjnmkjdooebmaa
open Go.RowKit
set_option linter.unusedVariables false
set_option linter.unusedSimpArgs false
namespace Lasso

theorem RowV.arr {N : Nat} {l : List Int} {v : Value} {w : World} (h : RowV N l v w) (hi : ∀ n, n ∈ l → i64 n) : Arr l v w := by
  obtain ⟨a, c, bs, rfl, h2, h3, h4, h5, h6⟩ := h
  exact ⟨a, c, rfl, ⟨h5.any, hi⟩, h2, h3, h4⟩
/-- what reduced comes to -/
def RedV (s l : List Int) (v : Value) (w : World) : Prop := PairIn Any w (red s l).1 (red s l).2 v
/-- while the stem is taken into the loop -/
def RotI (s l : List Int) (w : World) (t m : List Int) (vt vm : Value) (wr : World) : Prop := Arr t vt wr ∧ Arr m vm wr ∧ 0 < m.length ∧ m.length ≤ 100 ∧ t.length ≤ 100 ∧ rot t.length t m = red s l ∧ Below w.heap.size w wr ∧ BoxP wr (w.heap.size + 1) (.slice none 0 0) (.slice none 0 0)

theorem red_retI {s l t q : List Int} {X : Nat} {W : World} {vs vl : Value} (hE : (t, q) = red s l) (h1 : Arr t vs W) (h2 : Arr q vl W) (hz : BoxP W X (.slice none 0 0) (.slice none 0 0)) : RedV s l (.agg #[vs, vl]) ((W.setCell ⟨X, 0, none⟩ vs).setCell ⟨X, 1, none⟩ vl) := by
  obtain ⟨a1, k1, rfl, g, g2, g3, _⟩ := h1
  obtain ⟨a2, k2, rfl, f, f2, f3, _⟩ := h2
  obtain ⟨z0, z1, z2, z3, z4⟩ := boxp_set0 hz (.slice a1 t.length k1)
  unfold RedV
  rw [← hE]
  exact ⟨a1, a2, k1, k2, rfl, ints_keep (ints_keep g hz.2.1 (by simp) _) z2 (by simp) _, ints_keep (ints_keep f hz.2.1 (by simp) _) z2 (by simp) _, g2, g3, f2, f3⟩

set_option maxRecDepth 100000 in
set_option maxHeartbeats 4000000 in
theorem red_any (s l : List Int) (w : World) (x : Value) (hx : PairIn Any w s l x) (hn : NilOk x) (hok : ok s l = true) : Calls Try.prog 18 #[x] w (RetP (RedV s l) w) := by
  obtain ⟨a, b, c, d, rfl, hi1, hi2, c1, c2, d1, d2⟩ := id hx
  obtain ⟨n1, n2⟩ := hn _ _ _ _ _ _ rfl
  have hlen := ok_len hok
  have hs80 := hlen.1
  have hl80 := hlen.2.2.1
  have hl1 := hlen.2.1
  have HC1 := hid (fun (W : World) (M : Below w.heap.size w W) => clone2_any s W a c (hi1.below M) (by omega) n1)
  have HC2 := hid (fun (W : World) (M : Below w.heap.size w W) => clone2_any l W b d (hi2.below M) (by omega) n2)
  have I1 := hid hi1.2
  have I2 := hid hi2.2
  have HP := hid (fun n (h : IsPer l n) => h.n)
  clear hn hi1 hi2 hx hlen hok
  go_enter Try.func18, Try.ntmps18
  go_upto_region 1 with fail
  refine wp_gen (fun W => Below w.heap.size w W ∧ BoxP W w.heap.size (.slice a s.length c) (.slice b l.length d) ∧ BoxP W (w.heap.size + 1) (.slice none 0 0) (.slice none 0 0)) ⟨(by repeat (first | exact Below.refl _ _ | assumption | refine below_a ?_ _ | refine below_o ?_ _ | refine below_d ?_ | refine below_n ?_ _ | refine below_s ?_ (by first | (simp; done) | (simp; omega) | omega) _)), boxp_next (below_alloc _ _) (boxp_at rfl), boxp_at (by simp)⟩ ?_
  rintro W0 ⟨B0, P0, Z0⟩
  have MB := hid B0
  have ZB := hid Z0
  have hW := B0.size
  have hZ1 := Z0.1
  clear B0 Z0
  obtain ⟨p0, p1, p2, p3, p4⟩ := P0
  refine wp_region_ord (C := fun wZ => ∃ xZ, wZ = World.over _ xZ) [0,1,3,4] (.one 2 (.one 5 (.one 6 (.one 7 .done)))) [] (by kernel_rfl) (by kernel_rfl) (fun d _ _ _ _ h => by cases d <;> exact h) (bex (Below.refl _ _).drew) ?_; simp only [pick, List.getElem?_cons_succ, List.getElem?_cons_zero]; (repeat (go_big_quiet_step (fail))); refine wpQuiet_nil ?_; simp only [ordW, pick, List.getElem?_cons_succ, List.getElem?_cons_zero]
  have D := hid (below_d (Below.refl W0.heap.size W0))
  generalize W0.drew = v0 at *
  clear p0 p1 p2 p3 p4
  go_wp2_with fail
  refine (HC1.out _ (below_next MB.out D.out)).mono ?_
  rintro e v1 ⟨vs, rfl, hvs, hb⟩
  have VS := hid (hvs.arr I1.out)
  replace D := hid (below_next D.out hb)
  clear hb hvs
  go_wp2_with fail
  refine ⟨bex D.out, ?_⟩
  go_wp2_with fail
  refine (HC2.out _ (below_next MB.out D.out)).mono ?_
  rintro e v2 ⟨vl, rfl, hvl, hb⟩
  replace VS := hid (VS.out.below hb)
  have VL := hid (hvl.arr I2.out)
  replace D := hid (below_next D.out hb)
  clear hb hvl
  go_wp2_with fail
  refine ⟨bex D.out, ?_⟩
  go_wp2_with fail
  refine ⟨bex D.out, ?_⟩
  go_wp2_with fail
  refine ⟨bex D.out, ?_⟩
  have M2 := hid (below_next MB.out D.out)
  have Z2 := hid (boxp_next D.out ZB.out)
  clear D MB ZB HC1 HC2
  obtain ⟨a1, k1, rfl, g1, g2, g3, g4⟩ := VS.out
  obtain ⟨a2, k2, rfl, f1, f2, f3, f4⟩ := VL.out
  have HF1 := hid f1
  obtain ⟨b2, o2, rfl, hb2, _, _, _⟩ := ints_at f1 (Below.refl _ _) (show 0 < l.length by omega)
  clear g1 f1 g4 f4
  unfold maxLen at g3 f3
  go_wp2_with fail
  go_loopw [4, 5] (fun vq n wr => ∃ k : Nat, vq = .slice (some ⟨b2, o2, none⟩) l.length k2 ∧ 1 ≤ k ∧ k ≤ l.length ∧ n = .int .i64 k ∧ Hid (Below v2.heap.size v2 wr) ∧ Hid (∀ m, 1 ≤ m → m < k → perB l m = false)) (fun _ n _ => l.length + 1 - (intOf n).toNat)
  case atStart => exact ⟨1, rfl, by omega, by omega, rfl, hid (Below.refl _ _), hid (fun m h1 h2 => by omega)⟩
  case round =>
    obtain ⟨k, rfl, hk1, hk2, rfl, B, HN⟩ := hrel
    obtain ⟨wo, rfl⟩ : ∃ wo : World, wo = wr := ⟨_, rfl⟩
    have hkl : (k : Int) ≤ (l.length : Int) := by omega
    have hk0 : (0 : Int) < (k : Int) := by omega
    go_wp2_with fail
    have T1 : Int.tmod (l.length : Int) (k : Int) = (l.length : Int) % (k : Int) := Int.tmod_eq_emod_of_nonneg (by omega)
    have T3 := hid (show Int.tdiv (l.length : Int) (k : Int) = (l.length : Int) / (k : Int) from Int.tdiv_eq_ediv_of_nonneg (by omega))
    have hm : (l.length : Int) % (k : Int) = ((l.length % k : Nat) : Int) := by simp
    by_cases hmod : l.length % k = 0
    · have hm0 : ((l.length : Int) % (k : Int) == 0) = true := by rw [hm, hmod]; rfl
      obtain ⟨q, hq⟩ : ∃ q : Nat, Hid (l.length / k = q) := ⟨_, hid rfl⟩
      have hdv : Int.tdiv (l.length : Int) (k : Int) = (q : Int) := by rw [T3.out, ← hq.out]; simp
      obtain ⟨m, hmm⟩ : ∃ m, Hid (m = l.take k) := ⟨_, hid rfl⟩
      have hml : m.length = k := by rw [hmm.out, List.length_take]; omega
      have hqk : q * k = l.length := by rw [← hq.out]; exact Nat.div_mul_cancel (Nat.dvd_of_mod_eq_zero hmod)
      have HRI := hid (show rep m q = l ↔ perB l k = true by rw [hmm.out, ← hq.out]; exact rep_iff hk1 hk2 hmod)
      have hq1 : q ≤ l.length := by rw [← hq.out]; exact Nat.div_le_self _ _
      have hwq : IntKind.i64.wrap (q : Int) = (q : Int) := IntWalk.i64_in _ (by omega)
      have hq0 : 0 < q := by
        rcases Nat.eq_zero_or_pos q with h | h
        · rw [h, Nat.zero_mul] at hqk; omega
        · exact h
      have HM := hid (fun (W : World) (M : Below v2.heap.size v2 W) => show IntsIn Any W (some ⟨b2, o2, none⟩) m by rw [hmm.out]; exact ints_take (HF1.out.below M) _)
      have HREP := hid (fun (W : World) (M : Below v2.heap.size v2 W) => show Calls Try.prog 33 #[.slice (some ⟨b2, o2, none⟩) k k2, .int .i64 q] W (RetP (Arr (rep m q)) W) from by
        rw [← hml]
        exact rep_any m q W (some ⟨b2, o2, none⟩) k2 (HM.out W M) (by omega) (by unfold maxLen; omega) (by omega) hq0 (by rw [hml, hqk]; omega))
      have HML := hid hml
      clear hm hmod hqk hml
      refine wp_region_ord (C := fun wZ => ∃ xZ, wZ = World.over _ xZ) [0,1,2,3,4,5,6,7,8,9,10,11,12,14] (.one 13 (.one 15 (.one 16 .done))) [] (by kernel_rfl) (by kernel_rfl) (fun d _ _ _ _ h => by cases d <;> exact h) (bex (Below.refl _ _).drew) ?_; simp only [pick, List.getElem?_cons_succ, List.getElem?_cons_zero]; (repeat (go_big_quiet_step (fail))); refine wpQuiet_nil ?_; simp only [ordW, pick, List.getElem?_cons_succ, List.getElem?_cons_zero]
      have D := hid (below_d (Below.refl wo.heap.size wo))
      generalize wo.drew = v3 at *
      clear T1 T3 hm0 hdv
      go_wp2_with fail
      clear hwq
      with_reducible refine (HREP.out _ (below_next B.out D.out)).mono ?_
      rintro e v4 ⟨vr, rfl, ⟨ar, cr, rfl, hr1, hr2, hr3, _⟩, hb⟩
      replace D := hid (below_next D.out hb)
      have HR1 := hid hr1
      clear hb hr1
      go_wp2_with fail
      refine ⟨bex D.out, ?_⟩
      go_wp2_with fail
      with_reducible refine (eqSl_any (rep m q) l _ ar (some ⟨b2, o2, none⟩) cr k2 HR1.out (HF1.out.below (below_next B.out D.out)) ⟨hr2, hr3⟩ ⟨f2, by unfold maxLen; omega⟩).mono ?_
      rintro e v5 ⟨rfl, hb⟩
      replace D := hid (below_next D.out hb)
      have B5 := hid (below_next B.out D.out)
      clear hb HR1 hr2 hr3
      by_cases hpb : perB l k = true
      · have e1 : decide (rep m q = l) = true := by rw [decide_eq_true_eq]; exact HRI.out.2 hpb
        rw [e1]
        have HPR := hid (show IsPer l k from ⟨hk1, hk2, hpb, HN.out⟩)
        clear e1 hpb
        go_wp2_with fail
        refine ⟨bex D.out, ?_⟩
        go_wp2_with fail
        refine ⟨bex D.out, ?_⟩
        have HA := hid (show RotI s l w s m (.slice a1 s.length k1) (.slice (some ⟨b2, o2, none⟩) k k2) v5 from
          ⟨VS.out.below B5.out, ⟨_, k2, by rw [HML.out], HM.out _ B5.out, by rw [HML.out]; omega, by unfold maxLen; omega, fun e => by cases e⟩, by rw [HML.out]; exact hk1, by rw [HML.out]; omega, by omega, by
            rw [red, HPR.out.n, hmm.out], below_next M2.out B5.out, boxp_next B5.out Z2.out⟩)
        clear D B5 HREP HM HRI HN B HPR hmm M2 Z2 VS VL HF1 HP
        have hkk := HML.out
        clear hkl hk0 hq0 hq1 hq
        go_wp2_with fail
        go_loopw [3, 4] (fun vt vq wr => ∃ t q, Hid (RotI s l w t q vt vq wr)) (fun vt _ _ => lenV vt)
        case atStart => exact ⟨s, m, HA⟩
        case round =>
          obtain ⟨t, q, HRA⟩ := hrel
          obtain ⟨wi, rfl⟩ : ∃ wi : World, wi = wr := ⟨_, rfl⟩
          obtain ⟨⟨a1, k1, rfl, g1, g2, g3, g4⟩, ⟨a2, k2, rfl, f1, f2, f3, f4⟩, hq0, hq1, ht1, hrot, hB, hZ⟩ := HRA.out
          have G1 := hid g1
          have F1 := hid f1
          have HR := hid hrot
          have HB := hid hB
          have hZs := hB.size
          have HZ := hid hZ
          clear g1 f1 hrot hB HA hZ HRA
          unfold maxLen at g3 f3
          by_cases ht0 : 0 < t.length
          · have ht02 : (0 : Int) < (t.length : Int) := by omega
            obtain ⟨u, hu⟩ : ∃ u, Hid (u = t.take (t.length - 1)) := ⟨_, hid rfl⟩
            obtain ⟨n, hn⟩ : ∃ n, Hid (n = q.take (q.length - 1)) := ⟨_, hid rfl⟩
            have hul : u.length + 1 = t.length := by rw [hu.out, List.length_take]; omega
            have hnl : n.length + 1 = q.length := by rw [hn.out, List.length_take]; omega
            have hut : (t.length : Int) - 1 = (u.length : Int) := by omega
            have hnq : (q.length : Int) - 1 = (n.length : Int) := by omega
            obtain ⟨hu1, hu2⟩ := lst_at hul
            obtain ⟨hn1, hn2⟩ := lst_at hnl
            obtain ⟨b1, o1, rfl, hb1, _, y1, hi1⟩ := ints_at G1.out (Below.refl _ _) hu1
            obtain ⟨b3, o3, rfl, hb3, _, y2, hi2⟩ := ints_at F1.out (Below.refl _ _) hn1
            rw [← hu2] at y1 hi1
            rw [← hn2] at y2 hi2
            have HY := hid (fun (e : lst t = lst q) => rot_yes e hu.out hn.out hul)
            have HNo := hid (fun (e : lst t ≠ lst q) => rot_no e)
            have HU := hid (show IntsIn Any wi (some ⟨b1, o1, none⟩) u by rw [hu.out]; exact ints_take G1.out _)
            have HN := hid (show IntsIn Any wi (some ⟨b3, o3, none⟩) n by rw [hn.out]; exact ints_take F1.out _)
            have HL := hid (show IntsIn Any wi (some ⟨b3, o3 + n.length, none⟩) [lst q] by
              have h8 := ints_drop F1.out n.length
              have h9 : q.drop n.length = [lst q] := by
                rw [List.drop_eq_getElem_cons hn1, ← hn2, List.drop_of_length_le (by omega)]
              rw [h9] at h8; exact h8)
            have hul' : u.length < t.length := hu1
            have hnl' : n.length < q.length := hn1
            clear hu2 hn2
            generalize lst t = x at *
            generalize lst q = y at *
            have HUL := hid hul
            have HNL := hid hnl
            clear hul hnl hu hn
            by_cases hxy : x = y
            · subst hxy
              have hxx : (x == x) = true := by simp
              have HE := hid ((HY.out rfl).symm.trans HR.out)
              clear HY HNo
              go_wp2_with fail
              refine wp_region_over (by kernel_rfl) (by kernel_rfl) ?_; (repeat (go_big_quiet_step ((fail)))); refine wpQuiet_nil ?_; rintro _ ⟨xq, rfl⟩
              have D := hid (over_below wi xq)
              obtain ⟨W, hW⟩ : ∃ W, wi.over xq = W := ⟨_, rfl⟩
              rw [hW] at D ⊢
              clear hW y1 y2 HR
              go_wp2_with fail
              have hnk : n.length ≤ k2 := by omega
              have hql : q.length - n.length = 1 := by have := HNL.out; omega
              refine wp_region_ord (C := fun wZ => ∃ xZ, wZ = World.over _ xZ) [0,1,2,3,4,5] (.one 6 (.one 7 (.one 8 .done))) [] (by kernel_rfl) (by kernel_rfl) (fun d _ _ _ _ h => by cases d <;> exact h) (bex (Below.refl _ _).drew) ?_; simp only [pick, List.getElem?_cons_succ, List.getElem?_cons_zero]; (repeat (go_big_quiet_step (fail))); refine wpQuiet_nil ?_; simp only [ordW, pick, List.getElem?_cons_succ, List.getElem?_cons_zero]
              have D0 := hid (below_d (Below.refl W.heap.size W))
              generalize W.drew = v0 at *
              go_wp2_with fail
              have h0 := below_alloc v0 (.cells #[.slice (some ⟨b3, o3 + n.length, none⟩) 1 (k2 - n.length), .slice (some ⟨b3, o3, none⟩) n.length k2] 23)
              have D1 := hid (below_next D0.out h0)
              have HTW := hid (show Two2 (v0.alloc (.cells #[.slice (some ⟨b3, o3 + n.length, none⟩) 1 (k2 - n.length), .slice (some ⟨b3, o3, none⟩) n.length k2] 23)) v0.heap.size (some ⟨b3, o3 + n.length, none⟩) (some ⟨b3, o3, none⟩) [x] n (k2 - n.length) k2 from ⟨by simp, by simp, by simp⟩)
              clear h0
              refine ⟨bex D1.out, ?_⟩
              generalize v0.alloc (.cells #[.slice (some ⟨b3, o3 + n.length, none⟩) 1 (k2 - n.length), .slice (some ⟨b3, o3, none⟩) n.length k2] 23) = v1 at *
              go_wp2_with fail
              refine (concat_any v1 v0.heap.size (some ⟨b3, o3 + n.length, none⟩) (some ⟨b3, o3, none⟩) [x] n (k2 - n.length) k2 HTW.out ((HL.out.below D.out).below D1.out) ((HN.out.below D.out).below D1.out) (fun e => by cases e) (fun e => by cases e) (by simp) (by omega)).mono ?_
              rintro e v2 ⟨vc, rfl, hvc, hb⟩
              have D2 := hid (below_next D1.out hb)
              have D3 := hid (below_next D.out D2.out)
              have HX := hid (show RotI s l w u (x :: n) (.slice (some ⟨b1, o1, none⟩) u.length k1) vc v2 from
                ⟨⟨_, k1, rfl, HU.out.below D3.out, by omega, by unfold maxLen; omega, fun e => by cases e⟩, hvc.arr (fun m hm => by
                  rcases List.mem_append.1 hm with h | h
                  · simp at h; subst h; exact hi1
                  · exact HN.out.2 m h), by simp, by have := HNL.out; simp; omega, by omega, HE.out, below_next HB.out D3.out, boxp_next D3.out HZ.out⟩)
              clear hvc hb HTW HE hql
              go_wp2_with fail
              refine ⟨bex D2.out, ?_⟩
              go_wp2_with fail
              refine ⟨bex D2.out, ?_⟩
              go_wp2_with fail
              go_roundw
              case rel => exact ⟨u, x :: n, HX⟩
              case measure => simp [lenV]; omega
            · have hxx : (x == y) = false := by simpa using hxy
              have HE := hid ((HNo.out hxy).symm.trans HR.out)
              clear HY HNo hxy
              go_wp2_with fail
              refine wp_region_over (by kernel_rfl) (by kernel_rfl) ?_; (repeat (go_big_quiet_step ((fail)))); refine wpQuiet_nil ?_; rintro _ ⟨xq, rfl⟩
              have D := hid (over_below wi xq)
              obtain ⟨W, hW⟩ : ∃ W, wi.over xq = W := ⟨_, rfl⟩
              rw [hW] at D ⊢
              clear hW y1 y2 HL
              go_wp2_with fail
              refine (clone2_any t _ (some ⟨b1, o1, none⟩) k1 (G1.out.below D.out) (by first | (simp; done) | omega) (fun e => by cases e)).mono ?_
              rintro e z1 ⟨vs, rfl, hvs, hb⟩
              have VS := hid (hvs.arr (G1.out.below D.out).2)
              have F2 := hid ((F1.out.below D.out).below hb)
              have B2 := hid (below_next (below_next HB.out D.out) hb)
              have Z2 := hid (boxp_next hb (boxp_next D.out HZ.out))
              clear hb hvs
              go_wp2_with fail
              refine (clone2_any q _ (some ⟨b3, o3, none⟩) k2 F2.out (by omega) (fun e => by cases e)).mono ?_
              rintro e z2 ⟨vl, rfl, hvl, hb⟩
              have VL := hid (hvl.arr F2.out.2)
              replace VS := hid (VS.out.below hb)
              have HF := hid (red_retI HE.out VS.out VL.out (boxp_next hb Z2.out))
              have HBF := hid (below_s (below_s (below_next B2.out hb) (p := ⟨w.heap.size + 1, 0, none⟩) (by simp) vs) (p := ⟨w.heap.size + 1, 1, none⟩) (by simp) vl)
              obtain ⟨y1, m1, rfl, _⟩ := VS.out
              obtain ⟨y2, m2, rfl, _⟩ := VL.out
              have Z3 := boxp_next hb Z2.out
              have T2 := hid (boxp_set1 (boxp_set0 Z3 (.slice y1 t.length m1)) (.slice y2 q.length m2))
              clear hb hvl F2 VS VL
              obtain ⟨x0, x1, x2, x3, x4⟩ := Z3
              go_wp2_with fail
              obtain ⟨_, t0, t1, _, _⟩ := T2.out
              refine bodyPost_ret (v := .agg #[.slice y1 t.length m1, .slice y2 q.length m2]) (by simp [results, Try.results18, go_sem, t0, t1]) rfl ?_
              exact RetP.mk HF.out HBF.out
          · have ht : t = [] := List.length_eq_zero_iff.1 (by omega)
            subst ht
            have HE := hid (show (([] : List Int), q) = red s l from HR.out)
            go_wp2_with fail
            refine wp_region_over (by kernel_rfl) (by kernel_rfl) ?_; (repeat (go_big_quiet_step ((fail)))); refine wpQuiet_nil ?_; rintro _ ⟨xq, rfl⟩
            have D := hid (over_below wi xq)
            obtain ⟨W, hW⟩ : ∃ W, wi.over xq = W := ⟨_, rfl⟩
            rw [hW] at D ⊢
            clear hW
            go_wp2_with fail
            refine (clone2_any [] _ a1 k1 (G1.out.below D.out) (by first | (simp; done) | omega) g4).mono ?_
            rintro e z1 ⟨vs, rfl, hvs, hb⟩
            have VS := hid (hvs.arr (G1.out.below D.out).2)
            have F2 := hid ((F1.out.below D.out).below hb)
            have B2 := hid (below_next (below_next HB.out D.out) hb)
            have Z2 := hid (boxp_next hb (boxp_next D.out HZ.out))
            clear hb hvs
            go_wp2_with fail
            refine (clone2_any q _ a2 k2 F2.out (by omega) f4).mono ?_
            rintro e z2 ⟨vl, rfl, hvl, hb⟩
            have VL := hid (hvl.arr F2.out.2)
            replace VS := hid (VS.out.below hb)
            have HF := hid (red_retI HE.out VS.out VL.out (boxp_next hb Z2.out))
            have HBF := hid (below_s (below_s (below_next B2.out hb) (p := ⟨w.heap.size + 1, 0, none⟩) (by simp) vs) (p := ⟨w.heap.size + 1, 1, none⟩) (by simp) vl)
            obtain ⟨y1, m1, rfl, _⟩ := VS.out
            obtain ⟨y2, m2, rfl, _⟩ := VL.out
            have Z3 := boxp_next hb Z2.out
            have T2 := hid (boxp_set1 (boxp_set0 Z3 (.slice y1 0 m1)) (.slice y2 q.length m2))
            clear hb hvl F2 VS VL
            obtain ⟨x0, x1, x2, x3, x4⟩ := Z3
            go_wp2_with fail
            obtain ⟨_, t0, t1, _, _⟩ := T2.out
            refine bodyPost_ret (v := .agg #[.slice y1 0 m1, .slice y2 q.length m2]) (by simp [results, Try.results18, go_sem, t0, t1]) rfl ?_
            exact RetP.mk HF.out HBF.out
      · have e1 : decide (rep m q = l) = false := by rw [decide_eq_false_iff_not]; exact fun h => hpb (HRI.out.1 h)
        rw [e1]
        have hpf : perB l k = false := by simpa using hpb
        have HX := hid hpf
        have hkn : k < l.length := by
          rcases Nat.lt_or_ge k l.length with h | h
          · exact h
          · have : k = l.length := by omega
            rw [this, perB_full] at hpf; cases hpf
        clear e1 hpb hpf
        go_wp2_with fail
        refine ⟨bex D.out, ?_⟩
        go_wp2_with fail
        refine ⟨bex D.out, ?_⟩
        go_wp2_with fail
        go_roundw
        case rel => exact ⟨k + 1, rfl, by omega, by omega, by go_num, B5, hid (fun j m1 m2 => by
          by_cases e : j = k
          · rw [e]; exact HX.out
          · exact HN.out j m1 (by omega))⟩
        case measure => simp [intOf]; omega
    · have hm0 : ((l.length : Int) % (k : Int) == 0) = false := by rw [hm]; simp; omega
      have HX := hid (show perB l k = false by
        cases h : perB l k with
        | false => rfl
        | true => exact absurd (perB_iff.1 h).1 hmod)
      have hkn : k < l.length := by
        rcases Nat.lt_or_ge k l.length with h | h
        · exact h
        · have : k = l.length := by omega
          rw [this, Nat.mod_self] at hmod; exact absurd rfl hmod
      clear hmod hm T3
      refine wp_region_over (by kernel_rfl) (by kernel_rfl) ?_; (repeat (go_big_quiet_step ((fail)))); refine wpQuiet_nil ?_; rintro _ ⟨xq, rfl⟩
      have B3 := hid (below_next B.out (over_below wo xq))
      clear T1 hm0
      go_wp2_with fail
      go_roundw
      case rel => exact ⟨k + 1, rfl, by omega, by omega, by go_num, B3, hid (fun m m1 m2 => by
        by_cases e : m = k
        · rw [e]; exact HX.out
        · exact HN.out m m1 (by omega))⟩
      case measure => simp [intOf]; omega
end Lasso
end Go.Proofs.Ytkjnmkjdooebmaa
