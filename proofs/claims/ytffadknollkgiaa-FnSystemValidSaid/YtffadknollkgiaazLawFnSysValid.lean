/- FnSystemValid returns true for every argument. Conditions: none. -/
import Derived.Test.YtffadknollkgiaaJS10
import Derived.Test.YtffadknollkgiaaJS12
import Derived.Test.YtffadknollkgiaaJS11
import Derived.Test.YtffadknollkgiaazProcsApp
set_option linter.unusedVariables false
set_option linter.unusedSimpArgs false
namespace Go.Proofs.Ytffadknollkgiaa
open Go.RowKit
open Go.Proofs.Ytffadknollkgiaa.Sys
set_option linter.unusedVariables false
set_option linter.unusedSimpArgs false

theorem okSy_okB {s : Sy} (h : okSy s = true) {q : Pr} (hq : q ∈ s.procs) {e : Ed} (he : e ∈ q.edges) : Edge.okB e q.locs = true := by
  simp only [okSy, Bool.and_eq_true, List.all_eq_true] at h
  have h1 := h.1 q hq
  simp only [okP, Bool.and_eq_true, List.all_eq_true] at h1
  exact h1.1 e he
theorem okSy_len {s : Sy} (h : okSy s = true) : 1 ≤ s.procs.length ∧ s.procs.length ≤ 3 := by
  simp only [okSy, Bool.and_eq_true, decide_eq_true_eq] at h
  exact ⟨h.2.2.1, h.2.2.2⟩
/-- many processes: those of s and further ones -/
def Many (s : Sy) (l : List Pr) : Prop := (∀ q, q ∈ l → okP q = true) ∧ 1 ≤ l.length ∧ okSy s = true
theorem Many.start {s : Sy} (h : okSy s = true) : Many s s.procs := by
  refine ⟨fun q hq => ?_, (okSy_len h).1, h⟩
  have h0 := h
  simp only [okSy, Bool.and_eq_true, List.all_eq_true] at h0
  exact h0.1 q hq
theorem Many.next {s : Sy} {l : List Pr} (h : Many s l) : Many s (l ++ [⟨1, []⟩]) := by
  refine ⟨fun q hq => ?_, by simp, h.2.2⟩
  rcases List.mem_append.1 hq with h1 | h1
  · exact h.1 q h1
  · simp at h1; subst h1; rfl
theorem Many.ok {s : Sy} {l : List Pr} (h : Many s l) : okSy ⟨s.init, l⟩ = decide (l.length ≤ 3) := by
  obtain ⟨h1, h2, h3⟩ := h
  simp only [okSy, Bool.and_eq_true] at h3
  have e : l.all okP = true := List.all_eq_true.2 h1
  have e2 : decide (1 ≤ l.length) = true := by simpa using h2
  simp only [okSy, e, e2, h3.2.1, Bool.true_and]
theorem cells_nw (w : World) (cs : List Value) (e : TypeId) (j : Nat) (u : Value) (h : cs[j]? = some u) : (w.alloc (.cells cs.toArray e)).cell? ⟨w.heap.size, j, none⟩ = some u := by
  rw [World.cell?_alloc_new]; simpa using h
theorem procs_first {wq w4 : World} {v' : Value} {cs : List (List Value)} (hown : OwnR 41 2 wq.heap.size v' ([] ++ cs) w4) (hg : (wq.alloc (.cells #[] 41)).grownBy w4 (Value.slice (some ⟨wq.heap.size, 0, none⟩) 0 0).ownBlock) (hbk : v'.ownBlock = (Value.slice (some ⟨wq.heap.size, 0, none⟩) 0 0).ownBlock ∨ v'.ownBlock = some (wq.alloc (.cells #[] 41)).heap.size) :
    Below wq.heap.size wq w4 ∧ (∀ k, v'.ownBlock = some k → wq.heap.size ≤ k) ∧ OwnR 41 2 wq.heap.size v' cs (w4.alloc (.cells #[.int .i64 1, .slice none 0 0] 41)) := by
  refine ⟨below_grown2 (below_alloc wq (.cells #[] 41)) hg (fun k hk => by simp [Value.ownBlock] at hk; omega), fun k hk => ?_, ?_⟩
  · rcases hbk with h | h
    · rw [h] at hk; simp [Value.ownBlock] at hk; omega
    · rw [h] at hk; simp at hk; omega
  · rw [List.nil_append] at hown
    exact hown.next (below_alloc w4 _)
theorem procs_second {X : Nat} {wq w4 w5 : World} {v' v'' : Value} {l : List Pr} {cs : List (List Value)} (hX : X < wq.heap.size) (HF : Below wq.heap.size wq w4 ∧ (∀ k, v'.ownBlock = some k → wq.heap.size ≤ k) ∧ OwnR 41 2 wq.heap.size v' cs (w4.alloc (.cells #[.int .i64 1, .slice none 0 0] 41)))
    (K1 : AllR (PrC0 (fun b => b ≠ X) wq) l cs) (hcl : cs.length = l.length) (hown2 : OwnR 41 2 wq.heap.size v'' (cs ++ [[.int .i64 1, .slice none 0 0]]) w5) (hg2 : (w4.alloc (.cells #[.int .i64 1, .slice none 0 0] 41)).grownBy w5 v'.ownBlock) (hbk2 : v''.ownBlock = v'.ownBlock ∨ v''.ownBlock = some (w4.alloc (.cells #[.int .i64 1, .slice none 0 0] 41)).heap.size) :
    ∃ a' c', v'' = .slice a' (l.length + 1) c' ∧ (l.length + 1 ≤ c' ∧ c' ≤ maxLen) ∧ PrsIn (fun b => b ≠ X) w5 (l ++ [⟨1, []⟩]) a' ∧ Below wq.heap.size wq w5 := by
  obtain ⟨B8, hvo, hO4⟩ := HF
  have hA2 := below_alloc w4 (.cells #[.int .i64 1, .slice none 0 0] 41)
  have hs4 := B8.size
  have B9 := below_grown2 (below_next B8 hA2) hg2 hvo
  have hvo2 : ∀ k, v''.ownBlock = some k → wq.heap.size ≤ k := fun k hk => by
    rcases hbk2 with h | h
    · exact hvo k (h ▸ hk)
    · rw [h] at hk; simp at hk; omega
  obtain ⟨a', c', rfl, s1, s2, _⟩ := hown2.shape
  have e : (cs ++ [[Value.int .i64 1, Value.slice none 0 0]]).length = l.length + 1 := by rw [List.length_append, List.length_singleton, hcl]
  rw [e] at s1 hown2 hvo2 ⊢
  exact ⟨a', c', rfl, ⟨s1, s2⟩, prs_of0 hown2 (AllR.snoc ⟨none, 0, rfl, none, 0, rfl, by unfold i64; simp, by simp, by simp, .inl rfl⟩ (K1.mono fun t c h => h.frame B9)) (fun g hg => by have := hvo2 g (by rw [hg]; rfl); omega), B9⟩
def lenC : Option Value → Nat
  | some (.slice _ n _) => n
  | _ => 0

set_option maxRecDepth 100000 in
set_option maxHeartbeats 4000000 in
theorem walk_FnSystemValid (w : World) (a : Option Addr) (len cap : Nat) (hb : ByteArg w a len cap) : Calls Try.prog 4 #[.slice a len cap] w (Ret (.bool true) w) := by
  have hcap := hb.2.1
  have hcap1 := hb.1
  unfold maxLen at hcap
  by_cases hlen : len > 1048576
  · have hlen2 : (len : Int) > 1048576 := by omega
    go_enter Try.func4, Try.ntmps4
    go_wp2_with fail
    go_ret
    exact Ret.mk rfl (by repeat (first | exact Below.refl _ _ | assumption | refine below_a ?_ _ | refine below_o ?_ _ | refine below_d ?_ | refine below_n ?_ _ | refine below_s ?_ (by first | (simp; done) | (simp; omega) | omega) _))
  have hlen2 : ¬ ((len : Int) > 1048576) := by omega
  have HB := hid hb
  clear hb
  go_enter Try.func4, Try.ntmps4
  go_wp2_with fail
  refine (drawSysValid_any _ a len cap HB.out).mono ?_
  rintro e w1 ⟨v, rfl, ⟨s, hs, hbn⟩, B0⟩
  replace hs := hs.any
  obtain ⟨a1, c1, a2, c2, rfl, hc1, hc2, hI, hd1, hd2, hP⟩ := id hs
  have HP0 := hid hP
  have HI0 := hid hI
  have HCI := hid (And.intro hc1 hc2)
  have HCP := hid (And.intro hd1 hd2)
  have HI := hid (fun (W : World) (M : Below w1.heap.size w1 W) => valid_any s W _ (hs.below M))
  have HS := hid (fun (W : World) (M : Below w1.heap.size w1 W) => specValid_any s W _ (hs.below M))
  have hpb : s.procs.length ≤ 6 := hbn.2.1
  have HEB := hid (fun q (hq : q ∈ s.procs) => (hbn.2.2 q hq).1)
  clear HB hs hbn hc1 hc2 hI hd1 hd2 hP
  go_wp2_with fail
  have h0 := below_alloc w1 (.cells #[.slice a1 s.init.length c1, .slice a2 s.procs.length c2] 36)
  refine (HI.out _ h0).mono ?_
  rintro e w2 ⟨rfl, hb⟩
  have P := hid (boxp_next hb (boxp_at (w := w1) (a := .slice a1 s.init.length c1) (b := .slice a2 s.procs.length c2) (t := 36) rfl))
  have M := hid (below_next h0 hb)
  clear hb h0
  obtain ⟨p0, p1, p2, p3, p4⟩ := id P.out
  go_wp2_with fail
  refine (HS.out _ M.out).mono ?_
  rintro e w3 ⟨rfl, hb⟩
  replace P := hid (boxp_next hb P.out)
  replace M := hid (below_next M.out hb)
  clear hb p0 p1 p2 p3 p4
  obtain ⟨p0, p1, p2, p3, p4⟩ := id P.out
  by_cases hok : okSy s = true
  · rw [hok]
    have HOK := hid hok
    clear hok HI HS
    go_wp2_with fail
    go_loopw [5] (fun i wr => ∃ p : Nat, p ≤ s.procs.length ∧ i = .int .i64 p ∧ Hid (Below w3.heap.size w3 wr)) (fun i _ => s.procs.length - (intOf i).toNat)
    case atStart => exact ⟨0, Nat.zero_le _, rfl, hid (Below.refl _ _)⟩
    case round =>
      obtain ⟨p, hp, rfl, B1⟩ := hrel
      clear p0 p1 p2 p3 p4
      obtain ⟨p0, p1, p2, p3, p4⟩ := boxp_next B1.out P.out
      obtain ⟨wo, rfl⟩ : ∃ wo : World, wo = wr := ⟨_, rfl⟩
      by_cases hpl : p < s.procs.length
      · have hpl2 : (p : Int) < (s.procs.length : Int) := by omega
        obtain ⟨b', o, rfl, _, hbp, ea, ec, ⟨g0, g1⟩, _, _, he, i1, i2, i3, i4⟩ := SeqIn.at (PrsIn.below HP0.out M.out) hpl
        simp at he
        obtain ⟨rfl, rfl⟩ := he
        have HE := hid i4
        unfold maxLen at i3
        have hqe := HEB.out s.procs[p] (List.getElem_mem hpl)
        have HED := hid (fun e (he : e ∈ s.procs[p].edges) => okSy_okB HOK.out (List.getElem_mem hpl) he)
        generalize s.procs[p] = q at *
        have g1' := cell_bel B1.out hbp g1
        clear i4
        go_wp2_with fail
        go_loopw [6] (fun i wj => ∃ k : Nat, k ≤ q.edges.length ∧ i = .int .i64 k ∧ Hid (Below w3.heap.size w3 wj)) (fun i _ => q.edges.length - (intOf i).toNat)
        case atStart => exact ⟨0, Nat.zero_le _, rfl, B1⟩
        case round =>
          obtain ⟨k, hk, rfl, B2⟩ := hrel
          clear p0 p1 p2 p3 p4 g1'
          obtain ⟨p0, p1, p2, p3, p4⟩ := boxp_next B2.out P.out
          have g1' := cell_bel B2.out hbp g1
          have g0' := cell_bel B2.out hbp g0
          obtain ⟨wn, rfl⟩ : ∃ wn : World, wn = wr := ⟨_, rfl⟩
          by_cases hkl : k < q.edges.length
          · have hkl2 : (k : Int) < (q.edges.length : Int) := by omega
            obtain ⟨be, oe, rfl, _, hbe, a3, c3, a4, c4, ⟨e0, e1, e2, e3, e4, e5, e6, e7, e8, e9⟩, hEd⟩ := SeqIn.at HE.out hkl
            have HVV := HED.out q.edges[k] (List.getElem_mem hkl)
            generalize q.edges[k] = e at *
            have HEdge := hid (fun (W : World) (M : Below w3.heap.size w3 W) => by
              have h := Edge.edge_any e q.locs W _ (EdIn_below M hEd)
              rw [HVV] at h
              exact h)
            replace e0 := cell_bel B2.out hbe e0
            replace e1 := cell_bel B2.out hbe e1
            replace e2 := cell_bel B2.out hbe e2
            replace e3 := cell_bel B2.out hbe e3
            replace e4 := cell_bel B2.out hbe e4
            replace e5 := cell_bel B2.out hbe e5
            replace e6 := cell_bel B2.out hbe e6
            replace e7 := cell_bel B2.out hbe e7
            replace e8 := cell_bel B2.out hbe e8
            replace e9 := cell_bel B2.out hbe e9
            have hbp' := Nat.lt_of_lt_of_le hbp B2.out.size
            have hbe' := Nat.lt_of_lt_of_le hbe B2.out.size
            clear hEd HVV
            go_wp2_with fail
            refine wp_region_over (by kernel_rfl) (by kernel_rfl) ?_; (repeat (go_big_quiet_step ((go_at_call 11; exact Calls.over (HEdge.out _ (below_next B2.out (over_below wn _))))))); refine wpQuiet_nil ?_; rintro _ ⟨xq, rfl⟩
            have B3 := hid (below_next B2.out (over_below wn xq))
            go_wp2_with fail
            go_roundw
            case rel => exact ⟨k + 1, hkl, by go_num, B3⟩
            case measure => simp [intOf]; omega
          · obtain rfl : k = q.edges.length := by omega
            clear hk hkl
            go_wp2_with fail
            go_roundw
            case rel => exact ⟨p + 1, hpl, by go_num, B2⟩
            case measure => simp [intOf]; omega
      · obtain rfl : p = s.procs.length := by omega
        have hnl : ¬ ((s.procs.length : Int) < (s.procs.length : Int)) := by omega
        clear hp hpl
        have BO := hid (below_alloc wo (.cells #[.slice a1 s.init.length c1, .slice a2 s.procs.length c2] 36))
        have P7 := hid (boxp_at (w := wo) (a := .slice a1 s.init.length c1) (b := .slice a2 s.procs.length c2) (t := 36) rfl)
        have hso := (below_next M.out B1.out).size
        have HPo := hid ((HP0.out.frame (q := fun b => b ≠ wo.heap.size) (below_next M.out B1.out).size (fun b _ hl => ⟨by omega, (below_next M.out B1.out).block b hl⟩)).below BO.out)
        have HIo := hid ((HI0.out.frame (q := fun b => b ≠ wo.heap.size) (below_next M.out B1.out).size (fun b _ hl => ⟨by omega, (below_next M.out B1.out).block b hl⟩)).below BO.out)
        have hcp2 := HCP.out
        clear p0 p1 p2 p3 p4
        obtain ⟨p0, p1, p2, p3, p4⟩ := boxp_next B1.out P.out
        go_wp2_with fail
        go_loopw [79] (fun _ wr => ∃ (l : List Pr) (bp : Option Addr) (cp : Nat), Hid (Many s l) ∧ l.length ≤ 4 ∧ Hid (l.length ≤ cp ∧ cp ≤ maxLen) ∧ Hid (BoxP wr wo.heap.size (.slice a1 s.init.length c1) (.slice bp l.length cp)) ∧ Hid (PrsIn (fun b => b ≠ wo.heap.size) wr l bp) ∧ Hid (IntsIn (fun b => b ≠ wo.heap.size) wr a1 s.init) ∧ Hid (Below wo.heap.size wo wr)) (fun _ W => 4 - lenC (W.cell? ⟨wo.heap.size, 1, none⟩))
        case atStart => exact ⟨s.procs, a2, c2, hid (Many.start HOK.out), by have := okSy_len HOK.out; omega, HCP, P7, HPo, HIo, BO⟩
        case round =>
          obtain ⟨l, bp, cp, HMy, hl4, HC7, HX7, HPs, HIs, B7⟩ := hrel
          clear p0 p1 p2 p3 p4
          obtain ⟨z0, z1, z2, z3, z4⟩ := id HX7.out
          obtain ⟨wq, rfl⟩ : ∃ wq : World, wq = wr := ⟨_, rfl⟩
          by_cases hl3 : l.length ≤ 3
          · have hl3i : (l.length : Int) ≤ 3 := by omega
            have hl1 := HMy.out.2.1
            obtain ⟨b, o, rfl, hbp7, hb7, hx7⟩ : ∃ b o, bp = some ⟨b, o, none⟩ ∧ b ≠ wo.heap.size ∧ b < wq.heap.size ∧ ∀ i t, l[i]? = some t → PrAt (fun b => b ≠ wo.heap.size) wq t b (o + i * 2) := by
              rcases HPs.out with h | ⟨b, o, h1, h2, h3, h4⟩
              · rw [h] at hl1; simp at hl1
              · exact ⟨b, o, h1, h2, h3, h4⟩
            obtain ⟨cs, k1, k2⟩ := prs_cells l o hx7
            have K1 := hid k1
            have hcl := k1.len
            have hA := below_alloc wq (.cells #[] 41)
            have h1 : ∀ j u, cs.flatten[j]? = some u → (wq.alloc (.cells #[] 41)).cell? ⟨b, o + j, none⟩ = some u := fun j u hj => cell_bel hA hb7 (k2 j u hj)
            have hc2 := prc0_len k1
            have hc3 := prc0_one k1
            have hOm := OwnR.made wq
            clear hx7 k1 k2
            go_wp2_with (at_builtin; first | (refine wp_app_procs rfl _ _ rfl wq.heap.size (.slice (some ⟨wq.heap.size, 0, none⟩) 0 0) [] cs l.length b o cp rfl rfl hOm (by simp) hcl hc2 hc3 h1 (by simp; omega) ?_; intro v' w4 hown hg hbk; have HF := hid (procs_first hown hg hbk); clear hown hg hbk) | (refine wp_app_proc rfl _ _ rfl wq.heap.size v' cs [.int .i64 1, .slice none 0 0] w4.heap.size 1 rfl rfl HF.out.2.2 (by have := HF.out.1.size; simp; omega) (cells_nw w4 [.int .i64 1, .slice none 0 0] _) rfl (by intro u hu; simp at hu; rcases hu with rfl | rfl <;> rfl) (by omega) ?_; intro v'' w5 hown2 hg2 hbk2; have HG := hid (procs_second HX7.out.1 HF.out K1.out hcl hown2 hg2 hbk2); clear hown2 hg2 hbk2; obtain ⟨a', c', rfl, HL5, HP5, B9⟩ := HG.out; replace HL5 := hid HL5; replace HP5 := hid HP5; replace B9 := hid B9; clear HG; obtain ⟨y0, y1, y2, y3, y4⟩ := boxp_next B9.out HX7.out; clear z0 z1 z2 z3 z4 hOm h1))
            have hX5 := hid (boxp_set1 (boxp_next B9.out HX7.out) (.slice a' (l.length + 1) c'))
            have hP6 := hid (HP5.out.frame (q := fun b => b ≠ wo.heap.size) (w' := (w5.setCell ⟨wo.heap.size, 1, none⟩ (.slice a' (l.length + 1) c'))) (by simp) (fun b hb hl => ⟨hb, Below.heap_setCell _ _ _ _ hb⟩))
            have hI6 := hid ((HIs.out.below B9.out).frame (q := fun b => b ≠ wo.heap.size) (w' := (w5.setCell ⟨wo.heap.size, 1, none⟩ (.slice a' (l.length + 1) c'))) (by simp) (fun b hb hl => ⟨hb, Below.heap_setCell _ _ _ _ hb⟩))
            have hM6 := hid HMy.out.next
            have hB6 := hid (show Below wo.heap.size wo (w5.setCell ⟨wo.heap.size, 1, none⟩ (.slice a' (l.length + 1) c')) from Below.setCell (below_next B7.out B9.out) (Nat.le_refl wo.heap.size) _)
            have HZ := hid HX7.out.2.2.1
            refine wp_gen (fun W => BoxP W wo.heap.size (.slice a1 s.init.length c1) (.slice a' (l.length + 1) c') ∧ PrsIn (fun b => b ≠ wo.heap.size) W (l ++ [⟨1, []⟩]) a' ∧ IntsIn (fun b => b ≠ wo.heap.size) W a1 s.init ∧ Below wo.heap.size wo W) ⟨hX5.out, hP6.out, hI6.out, hB6.out⟩ ?_
            clear hX5 hP6 hI6 hB6 y0 y1 y2 y3 y4 HP5 HIs B9 HX7
            rintro W6 ⟨x6, r6, j6, b6⟩
            have X6 := hid x6
            have R6 := hid r6
            have J6 := hid j6
            have B6 := hid b6
            have hle : (l ++ [(⟨1, []⟩ : Pr)]).length = l.length + 1 := by simp
            have hsy : ∀ W, Below W6.heap.size W6 W → SyIn Any W ⟨s.init, l ++ [⟨1, []⟩]⟩ (.agg #[.slice a1 s.init.length c1, .slice a' (l.length + 1) c']) := fun W M =>
              ⟨a1, c1, a', c', by rw [hle], HCI.out.1, HCI.out.2, (J6.out.below M).frame (Nat.le_refl _) (fun _ _ _ => ⟨trivial, rfl⟩), by rw [hle]; exact HL5.out.1, HL5.out.2, (R6.out.below M).frame (Nat.le_refl _) (fun _ _ _ => ⟨trivial, rfl⟩)⟩
            have HVal := hid (fun (W : World) (M : Below W6.heap.size W6 W) => by
              have h := valid_any ⟨s.init, l ++ [⟨1, []⟩]⟩ W _ (hsy W M)
              rw [hM6.out.ok, hle] at h
              exact h)
            obtain ⟨z0, z1, z2, z3, z4⟩ := id x6
            clear x6 r6 j6 b6 hsy hle
            by_cases h4 : l.length + 1 ≤ 3
            · have h4i : (l.length : Int) + 1 ≤ 3 := by omega
              have hd : decide (l.length + 1 ≤ 3) = true := by simpa using h4
              rw [hd] at HVal
              clear hd
              refine wp_region_over (by kernel_rfl) (by kernel_rfl) ?_; (repeat (go_big_quiet_step ((go_at_call 15; exact Calls.over (HVal.out _ (over_below W6 _)))))); refine wpQuiet_nil ?_; rintro _ ⟨xq, rfl⟩
              have HBe := hid (over_below W6 xq)
              go_wp2_with fail
              go_roundw
              case rel => exact ⟨l ++ [⟨1, []⟩], a', c', hM6, by simp; omega, hid (by simp only [List.length_append, List.length_singleton]; exact HL5.out), hid (by simp only [List.length_append, List.length_singleton]; exact boxp_next HBe.out X6.out), hid (R6.out.below HBe.out), hid (J6.out.below HBe.out), hid (below_next B6.out HBe.out)⟩
              case measure =>
                have q1 := (boxp_next HBe.out X6.out).2.2.1
                simp only [q1, HZ.out, lenC]
                omega
            · have h4i : ¬ ((l.length : Int) + 1 ≤ 3) := by omega
              have hd : decide (l.length + 1 ≤ 3) = false := by simpa using h4
              rw [hd] at HVal
              clear hd
              refine wp_region_over (by kernel_rfl) (by kernel_rfl) ?_; (repeat (go_big_quiet_step ((go_at_call 15; exact Calls.over (HVal.out _ (over_below W6 _)))))); refine wpQuiet_nil ?_; rintro _ ⟨xq, rfl⟩
              have HBe := hid (over_below W6 xq)
              go_wp2_with fail
              go_roundw
              case rel => exact ⟨l ++ [⟨1, []⟩], a', c', hM6, by simp; omega, hid (by simp only [List.length_append, List.length_singleton]; exact HL5.out), hid (by simp only [List.length_append, List.length_singleton]; exact boxp_next HBe.out X6.out), hid (R6.out.below HBe.out), hid (J6.out.below HBe.out), hid (below_next B6.out HBe.out)⟩
              case measure =>
                have q1 := (boxp_next HBe.out X6.out).2.2.1
                simp only [q1, HZ.out, lenC]
                omega
          · have hl3i : ¬ ((l.length : Int) ≤ 3) := by omega
            clear hl3
            go_wp2_with fail
            go_ret
            exact Ret.mk rfl (below_next B0 (below_next (below_next M.out B1.out) B7.out))
  · have hok2 : okSy s = false := by simpa using hok
    rw [hok2]
    clear hok
    have HI2 := hid (fun (W : World) (M : Below w1.heap.size w1 W) => by have h := HS.out W M; rw [hok2] at h; exact h)
    clear hok2
    go_wp2_with fail
    refine (HI2.out _ M.out).mono ?_
    rintro e w4 ⟨rfl, hb⟩
    go_wp2_with fail
    go_ret
    exact Ret.mk rfl (below_next B0 (below_next M.out hb))
end Go.Proofs.Ytffadknollkgiaa
