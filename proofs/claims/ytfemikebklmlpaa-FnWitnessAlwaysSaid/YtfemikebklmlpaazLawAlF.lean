/- FnWitnessAlways returns true for all bytes. Conditions: none beyond the bytes' place. -/
import Derived.Test.YtfemikebklmlpaaJV22
import Derived.Test.YtfemikebklmlpaaJV23
import Derived.Test.YtfemikebklmlpaaJV24
import Derived.Test.YtfemikebklmlpaaJV26
set_option linter.unusedVariables false
set_option linter.unusedSimpArgs false
namespace Go.Proofs.Ytfemikebklmlpaa
open Go.RowKit
set_option linter.unusedVariables false
set_option linter.unusedSimpArgs false
namespace Alw
open Gr Bfs

set_option maxRecDepth 100000 in
set_option maxHeartbeats 8000000 in
theorem walk_FnWitnessAlways (w : World) (a : Option Addr) (len cap : Nat) (hb : ByteArg w a len cap) : Calls Try.prog 6 #[.slice a len cap] w (Ret (.bool true) w) := by
  have hcap := hb.2.1
  have hcap1 := hb.1
  unfold maxLen at hcap
  by_cases hlen : len > 1048576
  · have hlen2 : (len : Int) > 1048576 := by omega
    go_enter Try.func6, Try.ntmps6
    go_wp2_with fail
    go_ret
    exact Ret.mk rfl (by repeat (first | exact Below.refl _ _ | assumption | refine below_a ?_ _ | refine below_o ?_ _ | refine below_d ?_ | refine below_n ?_ _ | refine below_s ?_ (by first | (simp; done) | (simp; omega) | omega) _))
  have hlen2 : ¬ ((len : Int) > 1048576) := by omega
  have HBA := hid hb
  clear hb
  go_enter Try.func6, Try.ntmps6
  go_wp2_with fail
  refine (drawAl_any w a len cap HBA.out).mono ?_
  rintro e w1 ⟨g, thr, s, x, ta, tc, rfl, hx, ht, htc, htc2, hs, hsl, hb⟩
  obtain ⟨av, cv, bv, dv, rfl⟩ := hx.shape
  have HX := hid hx
  have HTB := hid ht
  have HI := hid (fun (W : World) (M : Below w1.heap.size w1 W) => implAl_any g thr s W _ ta tc (HX.out.below M) (ht.below M) htc htc2 hs hsl)
  have HS := hid (fun (W : World) (M : Below w1.heap.size w1 W) => specAl_any g thr s W _ ta tc (HX.out.below M) (ht.below M) htc htc2 hs)
  have HPV := hid (fun (W : World) (M : Below w1.heap.size w1 W) (hok : okG g = true) (l : List Nat) (hl0 : 0 < l.length) (hlt : ∀ n, n ∈ l → n < g.states.length) (hed : ∀ (a u v : Nat), l[a]? = some u → l[a + 1]? = some v → v ∈ adjOf g.next u) (al : Option Addr) (cl : Nat) (hl : IntsIn Any W al (ints l)) (hcl : l.length ≤ cl) (hcl2 : cl ≤ maxLen) => pvalid_any g hok l hl0 hlt hed W _ al cl (HX.out.below M) hl hcl hcl2)
  have hres := alwT_small g thr s
  have HFINE := hid (fun h => al_fine (g := g) (thr := thr) (s := s) h)
  have HB1 := hid hb
  clear hx ht hb HBA
  generalize alwT g thr s = res at *
  have hint : ∀ (l : List Nat), (∀ n, n ∈ l → n < 60) → ∀ n, n ∈ ints l → i64 n := fun l h n hn => by
    unfold ints at hn
    rw [List.mem_map] at hn
    obtain ⟨m, hm, rfl⟩ := hn
    have := h m hm
    unfold i64; omega
  obtain ⟨q, hq⟩ : ∃ q : Bool, Hid (q = !res.2.isEmpty) := ⟨_, hid rfl⟩
  have hqq : (q != q) = false := by simp
  obtain ⟨l, hl⟩ : ∃ l, Hid (l = ints res.1) := ⟨_, hid rfl⟩
  obtain ⟨m, hm⟩ : ∃ m, Hid (m = ints res.2) := ⟨_, hid rfl⟩
  have hll : l.length ≤ 60 := by rw [hl.out, ints_len]; exact hres.1.1
  have hml : m.length ≤ 60 := by rw [hm.out, ints_len]; exact hres.2.1
  have HLI := hid (show ∀ n, n ∈ l → i64 n by rw [hl.out]; exact hint _ hres.1.2)
  have HMI := hid (show ∀ n, n ∈ m → i64 n by rw [hm.out]; exact hint _ hres.2.2)
  have HWV := hid (show ∀ v W, AlV res v W → ∃ u c u' c', v = .tuple #[.agg #[.slice u l.length c, .slice u' m.length c'], .bool q] ∧ IntsIn Any W u l ∧ IntsIn Any W u' m ∧ l.length ≤ c ∧ c ≤ maxLen ∧ m.length ≤ c' ∧ c' ≤ maxLen from fun v W h => by
    obtain ⟨x, y, rfl, ⟨a, c, rfl, h1, h2, h3, _⟩, ⟨a', c', rfl, k1, k2, k3, _⟩⟩ := h
    rw [← hl.out] at h1 h2 ⊢
    rw [← hm.out] at k1 k2 ⊢
    exact ⟨a, c, a', c', by rw [hq.out], h1, k1, h2, h3, k2, k3⟩)
  have HWN := hid (show ∀ B v W, AlN B res v W → ∃ u c u' c', v = .tuple #[.agg #[.slice u l.length c, .slice u' m.length c'], .bool q] ∧ IntsIn Any W u l ∧ (IntsIn Any W u' m ∧ (m ≠ [] → ∃ g, u' = some ⟨g, 0, none⟩)) ∧ l.length ≤ c ∧ c ≤ maxLen ∧ m.length ≤ c' ∧ c' ≤ maxLen from fun B v W h => by
    obtain ⟨a, c, bs, a', c', bs', rfl, ⟨h1, h2, h3, h4⟩, ⟨k1, k2, k3, k4⟩, hd⟩ := h
    rw [← hl.out] at h1 h3 ⊢
    rw [← hm.out] at k1 k3 ⊢
    refine ⟨a, c, a', c', by rw [hq.out], ⟨h3.any, HLI.out⟩, ⟨⟨k3.any, HMI.out⟩, fun hne => ?_⟩, h1, h2, k1, k2⟩
    rcases k3 with ⟨h, _⟩ | ⟨R, h, _⟩
    · exact absurd (List.map_eq_nil_iff.1 h) hne
    · exact ⟨R, h⟩)
  have HFQ := hid (show q = true → ∃ (L : List Nat) (l0 : Nat), l ++ m = ints L ∧ m ≠ [] ∧ (∃ M, m = (l0 : Int) :: M) ∧ okG g = true ∧ 1 ≤ L.length ∧ L.length ≤ g.states.length ∧ (∀ n, n ∈ L → thr[n]? = some true) ∧ (∃ n0 : Nat, L[0]? = some n0 ∧ (n0 : Int) = s) ∧ (∀ n, n ∈ L ++ [l0] → n < g.states.length) ∧ (∀ (a u v : Nat), (L ++ [l0])[a]? = some u → (L ++ [l0])[a + 1]? = some v → v ∈ adjOf g.next u) ∧ L.length ≤ 120 from fun h => by
    have hne : res.2 ≠ [] := fun e => by rw [hq.out, e] at h; cases h
    obtain ⟨l0, F⟩ := HFINE.out hne
    obtain ⟨M, hM⟩ : ∃ M, res.2 = l0 :: M := by
      have h0 := F.loop0
      cases h2 : res.2 with
      | nil => exact absurd h2 hne
      | cons b bs => rw [h2] at h0; simp at h0; subst h0; exact ⟨bs, rfl⟩
    refine ⟨res.1 ++ res.2, l0, by rw [hl.out, hm.out]; simp [ints], by rw [hm.out, hM]; simp [ints], ⟨ints M, by rw [hm.out, hM]; simp [ints]⟩, F.ok, F.pos, F.len, F.set, F.start, F.small, F.edge, by rw [List.length_append]; have := hres.1.1; have := hres.2.1; omega⟩)
  clear hres hint HFINE hl hm hq
  have hh0 := below_alloc w1 (.cells #[.slice av g.states.length cv, .slice bv g.next.length dv] 26)
  have M0 := hid hh0
  have P0 := hid (boxp_at (w := w1) (a := .slice av g.states.length cv) (b := .slice bv g.next.length dv) (t := 26) rfl)
  clear hh0
  go_upto_region 4 with fail
  obtain ⟨O3, hO3⟩ : ∃ O, O = w1.heap.size := ⟨_, rfl⟩
  rw [← hO3] at P0 ⊢
  clear hO3
  generalize w1.alloc (.cells #[.slice av g.states.length cv, .slice bv g.next.length dv] 26) = w2 at *
  obtain ⟨p0, p1, p2, p3, p4⟩ := P0.out
  go_wp2_with fail
  refine (HI.out w2 M0.out).mono ?_
  rintro e w3 ⟨v, rfl, hv, hb⟩
  obtain ⟨aG, cG, aH, cH, rfl, o1, ⟨o2, o3⟩, k1, k2, k3, k4⟩ := HWN.out _ _ _ hv
  have h0 := below_alloc w3 (.cells #[.slice aG l.length cG, .slice aH m.length cH] 50)
  replace M0 := hid (below_next (below_next M0.out hb) h0)
  replace P0 := hid (boxp_next (below_next hb h0) P0.out)
  have X6 := hid (boxp_at (w := w3) (B := w3.heap.size) (a := .slice aG l.length cG) (b := .slice aH m.length cH) (t := 50) rfl)
  have OG := hid (o1.below h0)
  have OH := hid (o2.below h0)
  have ON := hid o3
  clear hv o1 o2 o3 hb h0 p0 p1 p2 p3 p4 HI HWN
  go_upto_region 5 with fail
  obtain ⟨O6, hO6⟩ : ∃ O, O = w3.heap.size := ⟨_, rfl⟩
  rw [← hO6] at X6 ⊢
  clear hO6
  generalize w3.alloc (.cells #[.slice aG l.length cG, .slice aH m.length cH] 50) = w4 at *
  obtain ⟨p0, p1, p2, p3, p4⟩ := P0.out
  go_wp2_with fail
  refine (HS.out w4 M0.out).mono ?_
  rintro e w5 ⟨v, rfl, hv, hb⟩
  obtain ⟨aS, cS, aT, cT, rfl, o1, o2, j1, j2, j3, j4⟩ := HWV.out _ _ hv
  have h0 := below_alloc w5 (.cells #[.slice aS l.length cS, .slice aT m.length cT] 50)
  have hbb := below_next hb h0
  replace M0 := hid (below_next M0.out hbb)
  replace P0 := hid (boxp_next hbb P0.out)
  replace X6 := hid (boxp_next hbb X6.out)
  replace OG := hid (OG.out.below hbb)
  replace OH := hid (OH.out.below hbb)
  have X8 := hid (boxp_at (w := w5) (B := w5.heap.size) (a := .slice aS l.length cS) (b := .slice aT m.length cT) (t := 50) rfl)
  have OS := hid (o1.below h0)
  have OT := hid (o2.below h0)
  clear hv o1 o2 hb h0 hbb p0 p1 p2 p3 p4 HS HWV
  go_upto_region 6 with fail
  obtain ⟨O8, hO8⟩ : ∃ O, O = w5.heap.size := ⟨_, rfl⟩
  rw [← hO8] at X8 ⊢
  clear hO8
  generalize w5.alloc (.cells #[.slice aS l.length cS, .slice aT m.length cT] 50) = w6 at *
  have HW1 := hid (fun (W : World) (M : Below w6.heap.size w6 W) => wpInts_any l W aG aS cG cS (OG.out.below M) (OS.out.below M) k1 k2 j1 j2)
  have HW2 := hid (fun (W : World) (M : Below w6.heap.size w6 W) => wpInts_any m W aH aT cH cT (OH.out.below M) (OT.out.below M) k3 k4 j3 j4)
  obtain ⟨x0, x1, x2, x3, x4⟩ := X6.out
  obtain ⟨y0, y1, y2, y3, y4⟩ := X8.out
  cases q with
  | false =>
    go_wp2_with fail
    refine (HW1.out w6 (Below.refl _ _)).mono ?_
    rintro e w7 ⟨rfl, hb⟩
    have M7 := hid hb
    clear hb x0 x1 x2 x3 x4 y0 y1 y2 y3 y4
    obtain ⟨x0, x1, x2, x3, x4⟩ := boxp_next M7.out X6.out
    obtain ⟨y0, y1, y2, y3, y4⟩ := boxp_next M7.out X8.out
    go_wp2_with fail
    refine (HW2.out w7 M7.out).mono ?_
    rintro e w8 ⟨rfl, hb⟩
    have M8 := hid (below_next M7.out hb)
    clear hb x0 x1 x2 x3 x4 y0 y1 y2 y3 y4 M7
    obtain ⟨x0, x1, x2, x3, x4⟩ := boxp_next M8.out X6.out
    obtain ⟨y0, y1, y2, y3, y4⟩ := boxp_next M8.out X8.out
    go_wp2_with fail
    refine (HW1.out w8 M8.out).mono ?_
    rintro e w9 ⟨rfl, hb⟩
    have M9 := hid (below_next M8.out hb)
    clear hb x0 x1 x2 x3 x4 y0 y1 y2 y3 y4 M8
    obtain ⟨x0, x1, x2, x3, x4⟩ := boxp_next M9.out X6.out
    obtain ⟨y0, y1, y2, y3, y4⟩ := boxp_next M9.out X8.out
    go_wp2_with fail
    refine (HW2.out w9 M9.out).mono ?_
    rintro e w10 ⟨rfl, hb⟩
    have M10 := hid (below_next HB1.out (below_next M0.out (below_next M9.out hb)))
    clear hb
    go_wp2_with fail
    go_ret
    exact Ret.mk rfl M10.out
  | true =>
    go_wp2_with fail
    refine (HW1.out w6 (Below.refl _ _)).mono ?_
    rintro e w7 ⟨rfl, hb⟩
    have M7 := hid hb
    clear hb x0 x1 x2 x3 x4 y0 y1 y2 y3 y4
    obtain ⟨x0, x1, x2, x3, x4⟩ := boxp_next M7.out X6.out
    obtain ⟨y0, y1, y2, y3, y4⟩ := boxp_next M7.out X8.out
    go_wp2_with fail
    refine (HW2.out w7 M7.out).mono ?_
    rintro e w8 ⟨rfl, hb⟩
    have M8 := hid (below_next M7.out hb)
    clear hb x0 x1 x2 x3 x4 y0 y1 y2 y3 y4 M7
    replace X6 := hid (boxp_next M8.out X6.out)
    replace P0 := hid (boxp_next M8.out P0.out)
    replace M0 := hid (below_next M0.out M8.out)
    replace OG := hid (OG.out.below M8.out)
    replace OH := hid (OH.out.below M8.out)
    clear X8 OS OT HW1 HW2 M8 hqq
    obtain ⟨x0, x1, x2, x3, x4⟩ := X6.out
    go_wp2_with fail
    refine wp_region_ord (C := fun wZ => ∃ xZ, wZ = World.over _ xZ) [1,2,4,5] (.one 0 (.one 3 (.one 6 (.fre 7 .done)))) [7] (by kernel_rfl) (by kernel_rfl) (fun d _ _ _ _ h => by cases d <;> exact h) (bex (Below.refl _ _).drew) ?_; simp only [pick, List.getElem?_cons_succ, List.getElem?_cons_zero]; (repeat (go_big_quiet_step (fail))); refine wpQuiet_nil ?_; simp only [ordW, pick, List.getElem?_cons_succ, List.getElem?_cons_zero]
    have hd := below_d (Below.refl w8.heap.size w8)
    obtain ⟨v0, hv0⟩ : ∃ v0, v0 = w8.drew := ⟨_, rfl⟩
    rw [← hv0] at hd ⊢
    clear hv0
    have h0 := below_alloc v0 (.cells #[] 3)
    have D1 := hid (below_next hd h0)
    have E1 := hid (OwnI.made v0)
    have G1 := hid (show v0.heap.size ≤ (v0.alloc (.cells #[] 3)).heap.size from h0.size)
    have hv8 := hd.size
    clear h0 hd
    go_wp2_with fail
    refine ⟨bex D1.out, ?_⟩
    generalize v0.alloc (.cells #[] 3) = v1 at *
    have OG1 := hid (OG.out.below D1.out)
    go_wp2_with (at_builtin; refine wp_app_own3 rfl _ _ rfl v0.heap.size (.slice (some ⟨v0.heap.size, 0, none⟩) 0 0) [] l aG cG rfl rfl E1.out G1.out OG1.out (by simp) (by omega) ?_; intro vA v2 hv hg hor)
    have E2 := hid hv
    have D2 := hid (show Below w8.heap.size w8 v2 from below_own D1.out (E1.out.mono hv8) (Nat.le_refl _) hg)
    have G2 := hid (Nat.le_trans G1.out hg.size)
    obtain ⟨aA, cA, hA, _⟩ := hv.shape
    subst hA
    clear hv hg hor E1 G1 OG1 D1
    go_wp2_with fail
    refine ⟨bex D2.out, ?_⟩
    have OH2 := hid (OH.out.below D2.out)
    have hnl : ([] ++ l).length ≤ 1000000 := by simp; omega
    go_wp2_with (at_builtin; refine wp_app_own3 rfl _ _ rfl v0.heap.size (.slice aA ([] ++ l).length cA) ([] ++ l) m aH cH rfl rfl E2.out G2.out OH2.out hnl (by omega) ?_; intro vB v3 hv hg hor)
    rw [List.nil_append] at hv
    have D3 := hid (show Below w8.heap.size w8 v3 from below_own D2.out (E2.out.mono hv8) (Nat.le_refl _) hg)
    have G3 := hid (Nat.le_trans G2.out hg.size)
    obtain ⟨L, l0, hLL, hmne, ⟨M, hmM⟩, hokG, hL1, hLN, hLT, ⟨n0, hn0, hn0s⟩, hLs, hLe, hL120⟩ := HFQ.out (by first | rfl | trivial)
    subst hn0s
    rw [hLL] at hv
    have EL := hid hv
    obtain ⟨aB, cB, hvB, f1, f2, f3⟩ := hv.shape
    rw [ints_len] at hvB f1
    subst hvB
    have hBs : ∃ gB, aB = some ⟨gB, 0, none⟩ := by
      rcases hv.row with ⟨h, _⟩ | ⟨g', c', h, _⟩
      · have h8 : (ints L).length = 0 := by (rw [h]; rfl)
        rw [ints_len] at h8; omega
      · simp at h; exact ⟨g', h.1⟩
    obtain ⟨gB, rfl⟩ := hBs
    obtain ⟨gH, rfl⟩ := ON.out hmne
    have hmp : 0 < m.length := by rw [hmM]; simp
    have hm0 := OH.out.1
    have HM0 := hid (show w8.cell? ⟨gH, 0, none⟩ = some (.int .i64 l0) ∧ gH < w8.heap.size from by
      rcases OH.out.1 with h | ⟨b, o, h1, _, h2, h3⟩
      · rw [hmM] at h; cases h
      · simp at h1
        obtain ⟨rfl, rfl⟩ := h1
        exact ⟨by have := h3 0 (.int .i64 l0) (by rw [hmM]; rfl); rw [Nat.zero_add] at this; exact this, h2⟩)
    have HLT := hid hLT
    have HLS := hid hLs
    have HLE := hid hLe
    have HN0 := hid hn0
    have HOKG := hid hokG
    unfold maxLen at f2
    clear hm0 hLL hmM hv hg hor E2 G2 OH2 D2 hn0 hLT hLs hLe hokG hmne HFQ ON f3 x0 x1 x2 x3 x4
    go_wp2_with fail
    refine ⟨bex D3.out, ?_⟩
    go_wp2_with fail
    have HTA := hid (HTB.out.below (below_next M0.out D3.out))
    go_loopw [11] (fun i wr => ∃ k : Nat, i = .int .i64 k ∧ k ≤ L.length ∧ wr = v3) (fun i _ => L.length - (intOf i).toNat)
    case atStart => exact ⟨0, rfl, Nat.zero_le _, rfl⟩
    case round =>
      obtain ⟨k, rfl, hk, rfl⟩ := hrel
      by_cases hkl : k < L.length
      · have hkl2 : (k : Int) < (L.length : Int) := by omega
        obtain ⟨u, hu⟩ : ∃ u, L[k]? = some u := ⟨_, List.getElem?_eq_getElem hkl⟩
        have hth := HLT.out u (List.mem_of_getElem? hu)
        have hut : u < thr.length := (List.getElem?_eq_some_iff.1 hth).1
        have hut2 : (u : Int) < (thr.length : Int) := by omega
        have c1 : wr.cell? ⟨gB, k, none⟩ = some (.int .i64 u) := by
          rcases EL.out.row with ⟨h, _⟩ | ⟨g', c', h, _, _, _, h4⟩
          · have h8 : (ints L).length = 0 := by (rw [h]; rfl)
            rw [ints_len] at h8; omega
          · simp at h
            obtain ⟨rfl, _⟩ := h
            rw [h4.2.1 k (by rw [ints_len]; exact hkl)]
            show some (((ints L).map (Value.int .i64)).getD k undef) = _
            rw [List.getD_eq_getElem?_getD, List.getElem?_map]
            simp [ints, hu]
        obtain ⟨bt, ot, hta, hbt, c2⟩ : ∃ bt ot, ta = some ⟨bt, ot, none⟩ ∧ bt < wr.heap.size ∧ wr.cell? ⟨bt, ot + u, none⟩ = some (.bool true) := by
          rcases HTA.out with h | ⟨b, o, h1, _, h2, h3⟩
          · have h8 : (thr.map Value.bool).length = 0 := by (rw [h]; rfl)
            rw [List.length_map] at h8; omega
          · exact ⟨b, o, h1, h2, h3 u (.bool true) (by rw [List.getElem?_map, hth]; rfl)⟩
        subst hta
        clear hu hth
        go_wp2_with fail
        go_roundw
        case rel => exact ⟨k + 1, by go_num, hkl, by first | rfl | trivial⟩
        case measure => (simp [intOf]; try omega)
      · obtain rfl : k = L.length := by omega
        have hkk : ¬ ((L.length : Int) < (L.length : Int)) := by omega
        clear hkl
        obtain ⟨p0, p1, p2, p3, p4⟩ := boxp_next D3.out P0.out
        obtain ⟨x0, x1, x2, x3, x4⟩ := boxp_next D3.out X6.out
        have cH : wr.cell? ⟨gH, 0, none⟩ = some (.int .i64 l0) := (World.cell?_of_block (w := w8) (a := ⟨gH, 0, none⟩) (D3.out.block gH HM0.out.2)).trans HM0.out.1
        have hgH : gH < wr.heap.size := Nat.lt_of_lt_of_le HM0.out.2 D3.out.size
        have hmi : (0 : Int) < (m.length : Int) := by omega
        have K0 := hid (KeepC.drew (⟨KeepP.refl [O3, O6, gH] wr, rfl⟩ : KeepC [O3, O6, gH] gB wr wr))
        have hgBl := (EL.out.blk gB rfl).2
        have cBr : wr.cell? ⟨gB, 0, none⟩ = some (.int .i64 n0) := by
          rcases EL.out.row with ⟨h, _⟩ | ⟨g', c', h, _, _, _, h4⟩
          · have h8 : (ints L).length = 0 := by (rw [h]; rfl)
            rw [ints_len] at h8; omega
          · simp at h
            obtain ⟨rfl, _⟩ := h
            rw [h4.2.1 0 (by rw [ints_len]; omega)]
            show some (((ints L).map (Value.int .i64)).getD 0 undef) = _
            rw [List.getD_eq_getElem?_getD, List.getElem?_map]
            simp [ints, HN0.out]
        have hL1i : (0 : Int) < (L.length : Int) := by omega
        have hN : (L.length : Int) ≤ (g.states.length : Int) := by omega
        have hO3l : O3 < wr.heap.size := Nat.lt_of_lt_of_le P0.out.1 D3.out.size
        have hgB4 : gB < wr.drew.heap.size := hgBl
        have hgBn : gB ≠ O3 ∧ gB ≠ O6 ∧ gB ≠ gH := by
          have h1 := (EL.out.blk gB rfl).1
          have h2 := P0.out.1
          have h3 := X6.out.1
          have h4 := HM0.out.2
          exact ⟨by omega, by omega, by omega⟩
        have HBN := hid hgBn
        clear hgBn
        go_wp2_with fail
        refine wp_region_seg (C := fun wZ => ∃ xZ, wZ = World.overC _ ([O3, O6, gH]) gB xZ) [.pre [0,1,2,3,4,5], .op 6, .op 7, .op 8, .op 9, .pre [10,11,12,13,14], .op 15, .op 16, .pre [17,18,19,20,21,22], .op 23, .op 24] (by kernel_rfl) (by kernel_rfl) (fun d _ _ _ _ h => by cases d <;> exact h) (KeepC.drew ⟨KeepP.refl _ _, rfl⟩).ex ?_
        rw [segW_pre]; simp only [pick, List.getElem?_cons_succ, List.getElem?_cons_zero]; (repeat (go_big_quiet_step (fail))); refine wpQuiet_nil ?_
        rw [segW_op]; simp only [pick, List.getElem?_cons_succ, List.getElem?_cons_zero]
        have hd := below_d (Below.refl wr.heap.size wr)
        obtain ⟨v4, hv4⟩ : ∃ v4, v4 = wr.drew := ⟨_, rfl⟩
        rw [← hv4] at hd K0 hgB4 ⊢
        clear hv4
        have h0 := below_alloc v4 (.cells #[.int .i64 (l0 : Int)] 3)
        have hb5 := below_next hd h0
        have hl0i : i64 (l0 : Int) := by have := HLS.out l0 (by simp); unfold i64; omega
        have IQ := hid (row_one v4 (l0 : Int) hl0i)
        have EL5 := hid (EL.out.next hb5)
        have K5 := hid (K0.out.below h0 hgB4)
        have P5 := hid (boxp_next (below_next D3.out hb5) P0.out)
        have FB5 := hid (below_next HB1.out (below_next M0.out (below_next D3.out hb5)))
        have W15 := hid (below_next M0.out (below_next D3.out hb5))
        have G5 := hid (show v0.heap.size ≤ (v4.alloc (.cells #[.int .i64 (l0 : Int)] 3)).heap.size from Nat.le_trans G3.out hb5.size)
        clear h0 hd hb5 x0 x1 x2 x3 x4 cH hgH
        go_wp2_with fail
        refine ⟨K5.out.ex, ?_⟩
        rw [segW_op]; simp only [pick, List.getElem?_cons_succ, List.getElem?_cons_zero]
        obtain ⟨gq, hgq⟩ : ∃ gq, gq = v4.heap.size := ⟨_, rfl⟩
        rw [← hgq] at IQ ⊢
        clear hgq
        generalize v4.alloc (.cells #[.int .i64 (l0 : Int)] 3) = v5 at *
        have EL6 := hid (show OwnI v0.heap.size (.slice (some ⟨gB, 0, none⟩) (ints L).length cB) (ints L) v5 from by rw [ints_len]; exact EL5.out)
        have hLi : (ints L).length ≤ 1000000 := by rw [ints_len]; omega
        go_wp2_with (at_builtin; refine wp_app_cells rfl _ _ rfl v0.heap.size gB cB (ints L) [(l0 : Int)] ⟨gq, 0, none⟩ 1 (by rw [ints_len]; rfl) rfl EL6.out G5.out IQ.out hLi (by simp) ?_; intro vC v6 hv hg hcell)
        have K6 := hid (⟨K5.out.keep.trans (KeepP.grown hg (fun b hb e => by simp at e; subst e; simp at hb; have := HBN.out; omega)), (hcell 0 (by rw [ints_len]; omega)).trans K5.out.cell⟩ : KeepC [O3, O6, gH] gB wr v6)
        have hLq : ints L ++ [(l0 : Int)] = ints (L ++ [l0]) := by simp [ints]
        rw [hLq] at hv
        obtain ⟨aC, cC, hvC, u1, u2, u3⟩ := hv.shape
        have hlen1 : (L ++ [l0]).length = L.length + 1 := by simp
        rw [ints_len] at hvC u1
        rw [hlen1] at hvC
        subst hvC
        have hgB5 := EL5.out.blk gB rfl
        have B6 := hid (show ∀ b, b < v0.heap.size → v6.heap[b]? = v5.heap[b]? from fun b hb => hg.block b (Nat.lt_of_lt_of_le hb G5.out) (fun e => by simp at e; omega))
        have IC := hid (show IntsIn Any v6 aC (ints (L ++ [l0])) from hv.ints2 (fun n hn => by
          simp [ints] at hn
          rcases hn with ⟨a, h1, rfl⟩ | rfl
          · have := HLS.out a (by simp [h1]); unfold i64; omega
          · exact hl0i))
        have hgB6 : gB < v6.heap.size := Nat.lt_of_lt_of_le hgB5.2 hg.size
        have W16 := hid (Gr.below_grown W15.out W15.out.size hg (fun b e => by simp at e; subst e; have h1 := (EL5.out.blk gB rfl).1; have := M0.out.size; have := P0.out.1; omega))
        have FB6 := hid (below_next HB1.out W16.out)
        have P6 := hid (boxp_keep hg.size (hg.block O3 P5.out.1 (fun e => by simp at e; exact HBN.out.1 e.symm)) P5.out)
        have CPV0 := HPV.out v6 W16.out HOKG.out (L ++ [l0]) (by simp) HLS.out HLE.out aC cC IC.out u1 u2
        rw [hlen1] at CPV0
        have CPV := hid CPV0
        clear CPV0 hlen1 u1 u2 hLq
        clear hv hg hcell EL5 EL6 IQ K5 P5 FB5 W15 G5 hgB5
        go_wp2_with fail
        refine ⟨K6.out.ex, ?_⟩
        rw [segW_op]; simp only [pick, List.getElem?_cons_succ, List.getElem?_cons_zero]
        go_wp2_with fail
        refine CPV.out.mono ?_
        rintro e v7 ⟨rfl, hb⟩
        have K := hid (K6.out.below hb hgB6)
        have FB := hid (below_next FB6.out hb)
        clear hb CPV IC hgB6 K6 P6 FB6 W16 B6
        go_wp2_with fail
        refine ⟨K.out.ex, ?_⟩
        rw [segW_op]; simp only [pick, List.getElem?_cons_succ, List.getElem?_cons_zero]
        go_wp2_with fail
        refine ⟨K.out.ex, ?_⟩
        rw [segW_pre]; simp only [pick, List.getElem?_cons_succ, List.getElem?_cons_zero]; (repeat (go_big_quiet_step (fail))); refine wpQuiet_nil ?_
        rw [segW_op]; simp only [pick, List.getElem?_cons_succ, List.getElem?_cons_zero]
        go_wp2_with fail
        refine ⟨K.out.ex, ?_⟩
        rw [segW_op]; simp only [pick, List.getElem?_cons_succ, List.getElem?_cons_zero]
        go_wp2_with fail
        refine ⟨K.out.ex, ?_⟩
        rw [segW_pre]; simp only [pick, List.getElem?_cons_succ, List.getElem?_cons_zero]; (repeat (go_big_quiet_step (fail))); refine wpQuiet_nil ?_
        rw [segW_op]; simp only [pick, List.getElem?_cons_succ, List.getElem?_cons_zero]
        go_wp2_with fail
        refine ⟨K.out.ex, ?_⟩
        rw [segW_op]; simp only [pick, List.getElem?_cons_succ, List.getElem?_cons_zero]
        go_wp2_with fail
        refine ⟨K.out.ex, ?_⟩
        rw [segW_nil]
        go_wp2_with fail
        go_ret
        exact Ret.mk rfl FB.out
end Alw
end Go.Proofs.Ytfemikebklmlpaa
