/- Joined texts (GrVS, AlwS3): contracts and plain laws. Conditions: those of each theorem. -/
import Derived.Test.YtfemikebklmlpaaJV11
import Derived.Test.YtfemikebklmlpaaJV22
import Derived.Test.YtfemikebklmlpaaJV2
set_option linter.unusedVariables false
set_option linter.unusedSimpArgs false
namespace Go.Proofs.Ytfemikebklmlpaa
open Go.RowKit
set_option linter.unusedVariables false
set_option linter.unusedSimpArgs false
namespace Gr

/-- states and rows, one beside the other -/
def gz (n : Nat) : List S2 → List (List Int) → Bool
  | s :: ss, r :: rs => (rowOk n r && stOk s) && gz n ss rs
  | _, _ => true
theorem gz_eq (n : Nat) : ∀ (ss : List S2) (rs : List (List Int)), rs.length = ss.length → gz n ss rs = (ss.all stOk && rs.all (rowOk n))
  | [], [], _ => rfl
  | s :: ss, r :: rs, h => by
    rw [gz, gz_eq n ss rs (by simpa using h), List.all_cons, List.all_cons]
    cases rowOk n r <;> cases stOk s <;> simp
  | [], r :: rs, h => by simp at h
  | s :: ss, [], h => by simp at h
theorem rowOk_len {n : Nat} {r : List Int} (h : r.length < 1 ∨ n < r.length) : rowOk n r = false := by
  cases e : rowOk n r with
  | false => rfl
  | true =>
    unfold rowOk at e
    rw [Bool.and_eq_true] at e
    have := dst_len e.2
    rcases h with h | h
    · rw [List.length_eq_zero_iff.1 (by omega : r.length = 0)] at e; simp at e
    · omega
theorem rowOk_dst {n : Nat} {r : List Int} (h : ¬ r.length < 1) : rowOk n r = dst n [] r := by
  unfold rowOk
  cases r with
  | nil => simp at h
  | cons y t => simp

set_option maxRecDepth 100000 in
set_option maxHeartbeats 4000000 in
theorem specValid_any (g : G2) (w : World) (x : Value) (hx : GrIn Any w g x) : Calls Try.prog 39 #[x] w (Ret (.bool (okG g)) w) := by
  obtain ⟨a, c, b, d, rfl, hc, hc2, hi, hd, hd2, hp⟩ := hx
  have HI := hid hi
  have HP := hid hp
  have E := hid (show okG g = (decide (1 ≤ g.states.length ∧ g.states.length ≤ 60) && decide (g.next.length = g.states.length) && g.states.all stOk && g.next.all (rowOk g.states.length)) from rfl)
  unfold maxLen at hc2 hd2
  generalize okG g = r at *
  obtain ⟨ss, hss⟩ : ∃ ss, ss = g.states := ⟨_, rfl⟩
  obtain ⟨rs, hrs⟩ : ∃ rs, rs = g.next := ⟨_, rfl⟩
  rw [← hss, ← hrs] at E
  rw [← hss] at hc HI
  rw [← hrs] at hd HP
  rw [← hss, ← hrs]
  clear hss hrs hi hp
  by_cases h1 : 1 ≤ ss.length ∧ ss.length ≤ 60
  · by_cases h2 : rs.length = ss.length
    · have E2 := hid (show r = gz ss.length ss rs by rw [E.out, gz_eq _ _ _ h2]; simp [h1, h2])
      have HL := hid h2
      have hn1 : ¬ ((ss.length : Int) < 1) := by omega
      have hn2 : ¬ ((ss.length : Int) > 60) := by omega
      have hn3 : ((rs.length : Int) != (ss.length : Int)) = false := by rw [bne_eq_false_iff_eq]; omega
      have hrl : rs.length ≤ ss.length := by omega
      have hrl2 : ss.length ≤ rs.length := by omega
      clear E h2
      go_enter Try.func39, Try.ntmps39
      go_wp2_with fail
      have P := hid (boxp_at (w := w) (a := .slice a ss.length c) (b := .slice b rs.length d) (t := 26) rfl)
      go_loopw [3] (fun i wr => ∃ k : Nat, k ≤ ss.length ∧ i = .int .i64 k ∧ Hid (Below w.heap.size w wr) ∧ Hid (BoxP wr w.heap.size (.slice a ss.length c) (.slice b rs.length d)) ∧ Hid (gz ss.length (ss.drop k) (rs.drop k) = gz ss.length ss rs)) (fun i _ => ss.length - (intOf i).toNat)
      case atStart => exact ⟨0, Nat.zero_le _, rfl, hid (by repeat (first | exact Below.refl _ _ | assumption | refine below_a ?_ _ | refine below_o ?_ _ | refine below_d ?_ | refine below_n ?_ _ | refine below_s ?_ (by first | (simp; done) | (simp; omega) | omega) _)), P, hid rfl⟩
      case round =>
        obtain ⟨k, hk, rfl, B, PB, HG⟩ := hrel
        obtain ⟨wo, rfl⟩ : ∃ wo : World, wo = wr := ⟨_, rfl⟩
        obtain ⟨p0, p1, p2, p3, p4⟩ := PB.out
        by_cases hlt : k < ss.length
        · have hltr : k < rs.length := by omega
          obtain ⟨b1, o1, a1, c1, a2, c2, rfl, hb1, _, g0, g1, hr1, hr2v⟩ := sts_at (HI.out.below B.out) hlt
          obtain ⟨b2, o2, a3, c3, rfl, hb2, _, g3, k1, k2, hrow⟩ := rows_at (HP.out.below B.out) hltr
          obtain ⟨_, _, e2, v1, v2, v3⟩ := hr2v
          simp at e2
          obtain ⟨rfl, rfl⟩ := e2
          have HROW := hid hrow
          have HVAL := hid (fun (W : World) (M : Below wo.heap.size wo W) => Expr.specVals_any ss[k].vals W a2 c2 (v3.below M) v1 v2)
          have HG2 := HG.out
          rw [List.drop_eq_getElem_cons hlt, List.drop_eq_getElem_cons hltr] at HG2
          simp only [gz] at HG2
          have HGG := hid HG2
          have HST := hid (show stOk ss[k] = Expr.okVals ss[k].vals from rfl)
          unfold maxLen at k2
          clear hr1 hrow HG2 HG P v3
          have hlt2 : (k : Int) < (ss.length : Int) := by omega
          have hltr2 : (k : Int) < (rs.length : Int) := by omega
          generalize ss[k] = t at *
          generalize rs[k] = u at *
          go_wp2_with fail
          by_cases hu1 : u.length < 1
          · have hu2 : (u.length : Int) < 1 := by omega
            have HF := hid (show r = false by rw [E2.out, ← HGG.out, rowOk_len (.inl hu1)]; rfl)
            refine wp_region_over (by kernel_rfl) (by kernel_rfl) ?_; (repeat (go_big_quiet_step ((fail)))); refine wpQuiet_nil ?_; rintro _ ⟨xq, rfl⟩
            go_wp2_with fail
            go_ret
            exact Ret.mk (bool_val HF.out.symm) (below_next B.out (over_below wo xq))
          · have hu2 : ¬ ((u.length : Int) < 1) := by omega
            by_cases hu3 : ss.length < u.length
            · have hu4 : (u.length : Int) > (ss.length : Int) := by omega
              have HF := hid (show r = false by rw [E2.out, ← HGG.out, rowOk_len (.inr hu3)]; rfl)
              refine wp_region_over (by kernel_rfl) (by kernel_rfl) ?_; (repeat (go_big_quiet_step ((fail)))); refine wpQuiet_nil ?_; rintro _ ⟨xq, rfl⟩
              go_wp2_with fail
              go_ret
              exact Ret.mk (bool_val HF.out.symm) (below_next B.out (over_below wo xq))
            · have hu4 : ¬ ((u.length : Int) > (ss.length : Int)) := by omega
              have HDS := hid (rowOk_dst (n := ss.length) hu1)
              generalize Expr.okVals t.vals = q at *
              refine wp_region_over (by kernel_rfl) (by kernel_rfl) ?_; (repeat (go_big_quiet_step ((go_at_call 72; exact Calls.over (HVAL.out _ (over_below wo _)))))); refine wpQuiet_nil ?_; rintro _ ⟨xq, rfl⟩
              have B3 := hid (below_next B.out (over_below wo xq))
              have HO := hid (over_below wo xq)
              obtain ⟨W, hW⟩ : ∃ W, wo.over xq = W := ⟨_, rfl⟩
              rw [hW] at B3 HO ⊢
              have PB3 := hid (boxp_next HO.out PB.out)
              have RW := hid (HROW.out.below HO.out)
              have g3' : W.cell? ⟨b2, o2 + k, none⟩ = some (.slice a3 u.length c3) := by rw [HO.out.cell (p := ⟨b2, o2 + k, none⟩) hb2]; exact g3
              have hb2' : b2 < W.heap.size := Nat.lt_of_lt_of_le hb2 HO.out.size
              clear hW g0 g1 g3 hb1 hb2 p0 p1 p2 p3 p4 HROW HVAL
              cases q with
              | false =>
                have HF := hid (show r = false by rw [E2.out, ← HGG.out, HST.out]; simp)
                go_wp2_with fail
                go_ret
                exact Ret.mk (bool_val HF.out.symm) B3.out
              | true =>
                have HGH := hid (show (dst ss.length [] u && gz ss.length (ss.drop (k + 1)) (rs.drop (k + 1))) = gz ss.length ss rs by rw [← HGG.out, HST.out, HDS.out, Bool.and_true])
                clear HGG HDS HST
                have HPW := hid (HP.out.below B3.out)
                have HG3 := hid g3'
                obtain ⟨p0, p1, p2, p3, p4⟩ := PB3.out
                go_wp2_with fail
                clear p0 p1 p2 p3 p4 g3'
                go_loopw [4] (fun i wr => ∃ j : Nat, j ≤ u.length ∧ i = .int .i64 j ∧ Hid (Below W.heap.size W wr) ∧ Hid (dst ss.length (u.take j) (u.drop j) = dst ss.length [] u)) (fun i _ => u.length - (intOf i).toNat)
                case atStart => exact ⟨0, Nat.zero_le _, rfl, hid (Below.refl _ _), hid rfl⟩
                case round =>
                  obtain ⟨j, hj, rfl, BL, HD⟩ := hrel
                  obtain ⟨wi, rfl⟩ : ∃ wi : World, wi = wr := ⟨_, rfl⟩
                  obtain ⟨p0, p1, p2, p3, p4⟩ := boxp_next BL.out PB3.out
                  have g3 : wi.cell? ⟨b2, o2 + k, none⟩ = some (.slice a3 u.length c3) := by rw [BL.out.cell (p := ⟨b2, o2 + k, none⟩) hb2']; exact HG3.out
                  have hb2 : b2 < wi.heap.size := Nat.lt_of_lt_of_le hb2' BL.out.size
                  by_cases hjl : j < u.length
                  · have hjl2 : (j : Int) < (u.length : Int) := by omega
                    obtain ⟨b4, o4, rfl, hb4, _, g4, _⟩ := ints_at RW.out BL.out hjl
                    have HD2 := HD.out
                    rw [List.drop_eq_getElem_cons hjl] at HD2
                    simp only [dst] at HD2
                    have hts : u.take (j + 1) = u.take j ++ [u[j]] := by rw [List.take_add_one, List.getElem?_eq_getElem hjl]; rfl
                    rw [← hts] at HD2
                    have HDD := hid HD2
                    have hlj : (u.take j).length = j := by rw [List.length_take]; omega
                    have HC := hid (fun (V : World) (M : Below wi.heap.size wi V) => show Calls Try.prog 73 #[.slice (some ⟨b4, o4, none⟩) j c3, .int .i64 u[j]] V (Ret (.bool (hasI (u.take j) u[j])) V) from by
                      have h9 := l4In_any (u.take j) u[j] V (some ⟨b4, o4, none⟩) c3 (ints_take' ((RW.out.below BL.out).below M) j) (by rw [hlj]; omega) (by unfold maxLen; omega)
                      rw [hlj] at h9; exact h9)
                    have hjc : j ≤ c3 := by omega
                    clear HD2 HD hts hlj
                    generalize u[j] = x at *
                    generalize hasI (u.take j) x = q at *
                    go_wp2_with fail
                    by_cases hx1 : x < 0
                    · have HF := hid (show r = false by rw [E2.out, ← HGH.out, ← HDD.out]; simp [show ¬ (0 ≤ x) by omega])
                      refine wp_region_over (by kernel_rfl) (by kernel_rfl) ?_; (repeat (go_big_quiet_step ((fail)))); refine wpQuiet_nil ?_; rintro _ ⟨xq, rfl⟩
                      go_wp2_with fail
                      go_ret
                      exact Ret.mk (bool_val HF.out.symm) (below_next B3.out (below_next BL.out (over_below wi xq)))
                    · by_cases hx2 : x ≥ (ss.length : Int)
                      · have HF := hid (show r = false by rw [E2.out, ← HGH.out, ← HDD.out]; simp [show ¬ (x < (ss.length : Int)) by omega])
                        refine wp_region_over (by kernel_rfl) (by kernel_rfl) ?_; (repeat (go_big_quiet_step ((fail)))); refine wpQuiet_nil ?_; rintro _ ⟨xq, rfl⟩
                        go_wp2_with fail
                        go_ret
                        exact Ret.mk (bool_val HF.out.symm) (below_next B3.out (below_next BL.out (over_below wi xq)))
                      · have HDE := hid (show (!q && dst ss.length (u.take (j + 1)) (u.drop (j + 1))) = dst ss.length [] u by rw [← HDD.out]; simp [show 0 ≤ x by omega, show x < (ss.length : Int) by omega])
                        clear HDD
                        refine wp_region_over (by kernel_rfl) (by kernel_rfl) ?_; (repeat (go_big_quiet_step ((go_at_call 73; exact Calls.over (HC.out _ (over_below wi _)))))); refine wpQuiet_nil ?_; rintro _ ⟨xq, rfl⟩
                        have BL2 := hid (below_next BL.out (over_below wi xq))
                        clear p0 p1 p2 p3 p4 g3 g4 hb2 hb4 HC
                        cases q with
                        | true =>
                          have HF := hid (show r = false by rw [E2.out, ← HGH.out, ← HDE.out]; simp)
                          go_wp2_with fail
                          go_ret
                          exact Ret.mk (bool_val HF.out.symm) (below_next B3.out BL2.out)
                        | false =>
                          have HDF := hid (show dst ss.length (u.take (j + 1)) (u.drop (j + 1)) = dst ss.length [] u by rw [← HDE.out]; simp)
                          clear HDE
                          go_wp2_with fail
                          go_roundw
                          case rel => exact ⟨j + 1, by omega, by go_num, BL2, HDF⟩
                          case measure => simp [intOf]; omega
                  · have HF := hid (show gz ss.length (ss.drop (k + 1)) (rs.drop (k + 1)) = gz ss.length ss rs by
                      rw [← HGH.out, ← HD.out, List.drop_of_length_le (show u.length ≤ j by omega)]; rfl)
                    have hjl2 : ¬ ((j : Int) < (u.length : Int)) := by omega
                    have B4 := hid (below_next B3.out BL.out)
                    have PB4 := hid (boxp_next BL.out PB3.out)
                    clear HGH HD
                    go_wp2_with fail
                    go_roundw
                    case rel => exact ⟨k + 1, by omega, by go_num, B4, PB4, HF⟩
                    case measure => simp [intOf]; omega
        · have HF := hid (show r = true by rw [E2.out, ← HG.out, List.drop_of_length_le (by omega)]; rfl)
          have hlt2 : ¬ ((k : Int) < (rs.length : Int)) := by omega
          clear P
          go_wp2_with fail
          go_ret
          exact Ret.mk (bool_val HF.out.symm) B.out
    · have E2 := hid (show r = false by rw [E.out]; simp [h2])
      have hn1 : ¬ ((ss.length : Int) < 1) := by omega
      have hn2 : ¬ ((ss.length : Int) > 60) := by omega
      have hn3 : ((rs.length : Int) != (ss.length : Int)) = true := by rw [bne_iff_ne]; omega
      clear h2 E
      go_enter Try.func39, Try.ntmps39
      go_wp2_with fail
      go_ret
      exact Ret.mk (bool_val E2.out.symm) (by repeat (first | exact Below.refl _ _ | assumption | refine below_a ?_ _ | refine below_o ?_ _ | refine below_d ?_ | refine below_n ?_ _ | refine below_s ?_ (by first | (simp; done) | (simp; omega) | omega) _))
  · have E2 := hid (show r = false by rw [E.out]; simp [h1])
    clear E
    by_cases h3 : ss.length < 1
    · have hn1 : (ss.length : Int) < 1 := by omega
      clear h1
      go_enter Try.func39, Try.ntmps39
      go_wp2_with fail
      go_ret
      exact Ret.mk (bool_val E2.out.symm) (by repeat (first | exact Below.refl _ _ | assumption | refine below_a ?_ _ | refine below_o ?_ _ | refine below_d ?_ | refine below_n ?_ _ | refine below_s ?_ (by first | (simp; done) | (simp; omega) | omega) _))
    · have hn1 : ¬ ((ss.length : Int) < 1) := by omega
      have hn2 : (ss.length : Int) > 60 := by omega
      clear h1
      go_enter Try.func39, Try.ntmps39
      go_wp2_with fail
      go_ret
      exact Ret.mk (bool_val E2.out.symm) (by repeat (first | exact Below.refl _ _ | assumption | refine below_a ?_ _ | refine below_o ?_ _ | refine below_d ?_ | refine below_n ?_ _ | refine below_s ?_ (by first | (simp; done) | (simp; omega) | omega) _))
end Gr
end Go.Proofs.Ytfemikebklmlpaa
namespace Go.Proofs.Ytfemikebklmlpaa
open Go.RowKit
set_option linter.unusedVariables false
set_option linter.unusedSimpArgs false
namespace Alw
open Gr Bfs Gfp

/-- a trace, and whether there is one -/
def AlV (p : List Nat × List Nat) (v : Value) (w : World) : Prop := ∃ x y, v = .tuple #[.agg #[x, y], .bool (!p.2.isEmpty)] ∧ Arr (ints p.1) x w ∧ Arr (ints p.2) y w
theorem arr_none (w : World) : Arr (ints []) (.slice none 0 0) w := ⟨none, 0, rfl, ⟨.inl rfl, fun n hn => by cases hn⟩, Nat.le_refl _, by unfold maxLen; omega, fun _ => rfl⟩
theorem ints_drop' {w : World} {b o : Nat} {l : List Int} (h : IntsIn Any w (some ⟨b, o, none⟩) l) (k : Nat) : IntsIn Any w (some ⟨b, o + k, none⟩) (l.drop k) := by
  refine ⟨?_, fun n hn => h.2 n (List.mem_of_mem_drop hn)⟩
  rcases h.1 with h1 | ⟨b', o', e, _, h3, h4⟩
  · have : l = [] := by simpa using h1
    subst this
    exact .inl (by simp)
  · simp at e
    obtain ⟨rfl, rfl⟩ := e
    refine .inr ⟨b, o + k, rfl, trivial, h3, fun i v hv => ?_⟩
    rw [List.map_drop, List.getElem?_drop] at hv
    rw [Nat.add_assoc]
    exact h4 _ v hv
theorem al_fin {L : List Nat} {m : Nat} {res : List Nat × List Nat} {x y : Value} {w : World} (hm : m < L.length) (hres : res = (L.take m, L.drop m)) (h1 : Arr ((ints L).take m) x w) (h2 : Arr ((ints L).drop m) y w) : AlV res (.tuple #[.agg #[x, y], .bool true]) w := by
  subst hres
  refine ⟨x, y, ?_, by unfold ints; rw [List.map_take]; exact h1, by unfold ints; rw [List.map_drop]; exact h2⟩
  have : (L.drop m).isEmpty = false := by
    cases h : L.drop m with
    | nil => have := congrArg List.length h; rw [List.length_drop] at this; simp at this; omega
    | cons => rfl
  show _ = Value.tuple #[.agg #[x, y], .bool (!(L.drop m).isEmpty)]
  rw [this]; rfl
def toI (p : Option Nat) : Int := match p with
  | none => -1
  | some m => m
set_option maxRecDepth 100000 in
set_option maxHeartbeats 8000000 in
theorem specAl_any (g : G2) (thr : List Bool) (s : Int) (w : World) (x : Value) (ta : Option Addr) (tc : Nat) (hx : GrIn Any w g x) (ht : BoolsIn Any w ta thr) (htc : thr.length ≤ tc) (htc2 : tc ≤ maxLen) (hs : i64 s) :
    Calls Try.prog 23 #[x, .slice ta thr.length tc, .int .i64 s] w (RetP (AlV (alwT g thr s)) w) := by
  obtain ⟨a, c, b, d, rfl, hc, hc2, hi, hd, hd2, hp⟩ := hx
  have HGR := hid (show GrIn Any w g (.agg #[.slice a g.states.length c, .slice b g.next.length d]) from ⟨a, c, b, d, rfl, hc, hc2, hi, hd, hd2, hp⟩)
  have HP := hid hp
  have HT := hid ht
  have HE := hid (show ∀ h : okG g = true, _ from fun h => okG_len h)
  have HV := hid (show ∀ W, GrIn Any W g (.agg #[.slice a g.states.length c, .slice b g.next.length d]) → Calls Try.prog 39 #[.agg #[.slice a g.states.length c, .slice b g.next.length d]] W (Ret (.bool (okG g)) W) from fun W h => specValid_any g W _ h)
  have HNO := hid (show ¬ OkA g thr s → alwT g thr s = ([], []) from alwT_no)
  have HYES := hid (fun (h : OkA g thr s) (k i : Nat) ht => alwT_yes h (k := k) (i := i) ht)
  have HFA := hid (fun (h : OkA g thr s) => okA_facts h)
  have HOK := hid (show OkA g thr s ↔ (okG g = true ∧ thr.length = g.states.length ∧ 0 ≤ s ∧ s < g.states.length ∧ gfp (adjOf g.next) (goalOf thr) s.toNat = true) from Iff.rfl)
  have HALW := hid (fun (h1 : thr.length = g.states.length) (h2 : okG g = true) (W : World) (M : Below w.heap.size w W) => always_any g thr g.states.length h1 (okG_len h2).2.1 (okG_len h2).1.2 (okG_len h2).1.1 (okG_len h2).2.2.1 W ta tc a b g.states.length c d (by have := HGR.out.below M; rw [(okG_len h2).2.1] at this; exact this) (ht.below M) (by omega) htc2)
  generalize alwT g thr s = res at *
  generalize OkA g thr s = OKA at *
  obtain ⟨ok, hok⟩ : ∃ ok, ok = okG g := ⟨_, rfl⟩
  rw [← hok] at HV HE HOK
  rw [← hok] at HALW
  obtain ⟨sn, hsn⟩ : ∃ sn, sn = g.states.length := ⟨_, rfl⟩
  rw [← hsn] at HGR HV HOK HE hc HFA HALW
  obtain ⟨nx, hnx⟩ : ∃ nx, nx = g.next := ⟨_, rfl⟩
  rw [← hnx] at HGR HV HE HOK HFA HYES hd HP HALW
  rw [← hsn, ← hnx]
  unfold maxLen at hc2 hd2 htc2
  clear hok hsn hnx hi hp ht
  go_enter Try.func23, Try.ntmps23
  go_wp2_with fail
  have B0 := hid (below_next (below_alloc w (.cells #[.slice a sn c, .slice b nx.length d] 26)) (below_alloc _ (.cells #[.slice none 0 0, .slice none 0 0] 50)))
  have P0 := hid (boxp_next (below_alloc _ (.cells #[.slice none 0 0, .slice none 0 0] 50)) (boxp_at (w := w) (a := .slice a sn c) (b := .slice b nx.length d) (t := 26) rfl))
  have R0 := hid (boxp_at (w := w.alloc (.cells #[.slice a sn c, .slice b nx.length d] 26)) (B := w.heap.size + 1) (a := .slice none 0 0) (b := .slice none 0 0) (t := 50) (by simp))
  generalize (w.alloc (.cells #[.slice a sn c, .slice b nx.length d] 26)).alloc (.cells #[.slice none 0 0, .slice none 0 0] 50) = wA at *
  obtain ⟨p0, p1, p2, p3, p4⟩ := P0.out
  go_wp2_with fail
  refine (HV.out wA (HGR.out.below B0.out)).mono ?_
  rintro e wB ⟨rfl, hb⟩
  replace B0 := hid (below_next B0.out hb)
  replace P0 := hid (boxp_next hb P0.out)
  replace R0 := hid (boxp_next hb R0.out)
  clear p0 p1 p2 p3 p4 hb HV
  obtain ⟨p0, p1, p2, p3, p4⟩ := P0.out
  obtain ⟨r0, r1, r2, r3, r4⟩ := R0.out
  cases ok with
  | false =>
    obtain rfl := HNO.out (fun h => by have := (HOK.out.1 h).1; cases this)
    clear HNO HYES HE HFA HOK HALW
    go_wp2_with fail
    obtain ⟨y0, y1, y2, _⟩ := boxp_set1 (boxp_set0 R0.out (.slice none 0 0)) (.slice none 0 0)
    refine bodyPost_ret (v := .tuple #[.agg #[.slice none 0 0, .slice none 0 0], .bool false]) (by simp [results, Try.results23, go_sem, y1, y2]) rfl ?_
    exact RetP.mk ⟨_, _, rfl, arr_none _, arr_none _⟩ ((B0.out.setCell (by simp) _).setCell (by simp) _)
  | true =>
    obtain ⟨⟨e1, e2⟩, e3, e4, e5⟩ := HE.out rfl
    have HGD := hid e4
    have HEQ := hid e3
    clear e4 e5 HE
    by_cases a1 : thr.length = sn
    · subst a1
      have b1 : ((thr.length : Int) != (thr.length : Int)) = false := by simp
      by_cases a2 : 0 ≤ s ∧ s < thr.length
      · obtain ⟨sN, rfl⟩ : ∃ m : Nat, s = m := ⟨s.toNat, by omega⟩
        rw [Int.toNat_natCast] at HOK HFA HYES
        have b3 : ¬ (sN : Int) < 0 := by omega
        have b4 : ¬ (sN : Int) ≥ (thr.length : Int) := by omega
        have hsN : (sN : Int) < (thr.length : Int) := by omega
        have hsN2 : sN < thr.length := by omega
        rw [HEQ.out] at P0 p2
        have HAW := hid (HALW.out rfl rfl)
        clear HALW e3
        have HROWS := hid (show ∀ u, u < thr.length → ∃ r : List Int, (∀ x, x ∈ r → 0 ≤ x ∧ x < (thr.length : Int)) ∧ adjOf nx u = r.map Int.toNat ∧ ∃ b1 o1 a1 c1, b = some ⟨b1, o1, none⟩ ∧ b1 < w.heap.size ∧ w.cell? ⟨b1, o1 + u, none⟩ = some (.slice a1 r.length c1) ∧ r.length ≤ c1 ∧ c1 ≤ maxLen ∧ IntsIn Any w a1 r from fun u hu => by
          have hun : u < nx.length := by have := HEQ.out; omega
          obtain ⟨b1, o1, a1, c1, e3, hb1, _, g0, k1, k2, hrow⟩ := rows_at HP.out hun
          exact ⟨nx[u], fun x hx => by have := HGD.out nx[u] (List.getElem_mem hun) x hx; have := HEQ.out; omega, adj_at hun, b1, o1, a1, c1, e3, hb1, g0, k1, k2, hrow⟩)
        have hd1 : thr.length ≤ d := by have := HEQ.out; omega
        clear HEQ HGD HP hd
        generalize adjOf nx = adj at *
        generalize gfp adj (goalOf thr) = f at *
        go_wp2_with fail
        refine (HAW.out wB B0.out).mono ?_
        rintro e wC ⟨v, rfl, ⟨R, cR, rfl, hcR, hcR2, hBR, hrow⟩, hb⟩
        replace B0 := hid (below_next B0.out hb)
        replace P0 := hid (boxp_next hb P0.out)
        replace R0 := hid (boxp_next hb R0.out)
        have HR := hid hrow
        unfold maxLen at hcR2
        clear p0 p1 p2 p3 p4 r0 r1 r2 r3 r4 hb hrow HAW
        obtain ⟨r0, r1, r2, r3, r4⟩ := R0.out
        have f1 : wC.cell? ⟨R, sN, none⟩ = some (.bool (f sN)) := HR.out.2.1 sN hsN2
        have f3 := HR.out.1
        cases hfs : f sN with
        | false =>
          rw [hfs] at f1
          obtain rfl := HNO.out (fun h => by have := (HOK.out.1 h).2.2.2.2; rw [hfs] at this; cases this)
          clear hfs HNO HYES HFA HOK
          go_wp2_with fail
          obtain ⟨y0, y1, y2, _⟩ := boxp_set1 (boxp_set0 R0.out (.slice none 0 0)) (.slice none 0 0)
          refine bodyPost_ret (v := .tuple #[.agg #[.slice none 0 0, .slice none 0 0], .bool false]) (by simp [results, Try.results23, go_sem, y1, y2]) rfl ?_
          exact RetP.mk ⟨_, _, rfl, arr_none _, arr_none _⟩ ((B0.out.setCell (by simp) _).setCell (by simp) _)
        | true =>
          rw [hfs] at f1
          have hO : OKA := HOK.out.2 (by refine ⟨by first | rfl | trivial, by first | rfl | trivial, by omega, by omega, hfs⟩)
          have HF := hid (HFA.out hO)
          have HY := hid (fun k i ht => HYES.out hO k i ht)
          have O1 := hid (show OwnI wC.heap.size (.slice (some ⟨wC.heap.size, 0, none⟩) 1 1) (ints (orbL adj f sN (0 + 1))) (wC.alloc (.cells #[.int .i64 sN] 3)) from OwnI.one wC sN)
          have M1 := hid (below_alloc wC (.cells #[.int .i64 sN] 3))
          have ND1 := hid (show (orbL adj f sN (0 + 1)).Nodup by simp [orbL])
          clear hfs HNO HYES HFA HOK hO
          go_wp2_with fail
          clear f1 f3 r0 r1 r2 r3 r4
          go_loopw [9] (fun vo wr => ∃ (k : Nat) (v : Value), v = vo ∧ Hid (OwnI wC.heap.size v (ints (orbL adj f sN (k + 1))) wr) ∧ Hid (orbL adj f sN (k + 1)).Nodup ∧ Hid (Below wC.heap.size wC wr)) (fun vo _ => 61 - lenV vo)
          case atStart => exact ⟨0, _, rfl, O1, ND1, M1⟩
          case round =>
            obtain ⟨k, vo, rfl, HO, HN, HM⟩ := hrel
            obtain ⟨wi, rfl⟩ : ∃ wi : World, wi = wr := ⟨_, rfl⟩
            clear O1 M1 ND1
            have P1 := hid (boxp_next HM.out P0.out)
            have HRw := hid (HR.out.below HM.out)
            have HBw := hid (below_next B0.out HM.out)
            obtain ⟨p0, p1, p2, p3, p4⟩ := P1.out
            have hkN := HF.out.lt HN.out
            obtain ⟨huN, hfu, hfind⟩ := HF.out.orb k
            obtain ⟨hvN, hfv, _⟩ := HF.out.orb (k + 1)
            have HCELL := hid (show ∃ gp cp, vo = .slice (some ⟨gp, 0, none⟩) (k + 1) cp ∧ wC.heap.size ≤ gp ∧ gp < wi.heap.size ∧ k + 1 ≤ cp ∧ cp ≤ maxLen ∧ ∀ m, m < k + 1 → wi.cell? ⟨gp, m, none⟩ = some (.int .i64 (Gfp.orb adj f sN m)) from by
              obtain ⟨aq, cq, e, _⟩ := HO.out.shape
              subst e
              obtain ⟨g, e, h1, h2, h3, h4, h5, _⟩ := own_at HO.out (orbL_at adj f sN (show 0 < k + 1 by omega))
              subst e
              rw [ints_len, orbL_len] at h3 h4 ⊢
              refine ⟨g, cq, rfl, h1, h2, h4, h5, fun m hm => ?_⟩
              obtain ⟨g', e', _, _, _, _, _, h6⟩ := own_at HO.out (orbL_at adj f sN hm)
              obtain rfl : g = g' := by simpa using e'
              exact h6)
            obtain ⟨gp, cp, rfl, z1, z2, z3, z4, hcell⟩ := HCELL.out
            have HC := hid hcell
            have gk := hcell k (by omega)
            obtain ⟨r, hr, hadj, bb, ob, a1, c1, rfl, hb1, g0, k1, k2, hrow⟩ := HROWS.out _ huN
            rw [hadj] at hfind
            have hpos : 0 < r.length := by
              cases r with
              | nil => simp at hfind
              | cons => simp
            obtain ⟨b5, o5, rfl⟩ : ∃ b5 o5, a1 = some ⟨b5, o5, none⟩ := by
              obtain ⟨b5, o5, e, _⟩ := ints_at hrow (Below.refl _ _) hpos
              exact ⟨b5, o5, e⟩
            have g0' : wi.cell? ⟨bb, ob + Gfp.orb adj f sN k, none⟩ = some (.slice (some ⟨b5, o5, none⟩) r.length c1) := by rw [HBw.out.cell (p := ⟨bb, ob + Gfp.orb adj f sN k, none⟩) hb1]; exact g0
            have hb1' := Nat.lt_of_lt_of_le hb1 HBw.out.size
            have HRI := hid (hrow.below HBw.out)
            have HRR := hid hr
            have HFI := hid hfind
            obtain ⟨u, hu⟩ : ∃ u, Hid (Gfp.orb adj f sN k = u) := ⟨_, hid rfl⟩
            obtain ⟨t, htt⟩ : ∃ t, Hid (Gfp.orb adj f sN (k + 1) = t) := ⟨_, hid rfl⟩
            rw [hu.out] at gk g0' huN
            rw [htt.out] at hvN HFI
            have huN2 : (u : Int) < (thr.length : Int) := by omega
            have hlast : ((k + 1 : Nat) : Int) - 1 = (k : Int) := by omega
            have hkn : (k : Int) < ((k + 1 : Nat) : Int) := by omega
            have hR1 := HRw.out.1
            unfold maxLen at z4 k2
            clear hcell hr hadj hfind hrow g0 hb1 hfu hfv HCELL
            go_wp2_with fail
            go_loopw [10, 12] (fun vt i wr => ∃ j : Nat, j ≤ r.length ∧ i = .int .i64 ((j : Int) - 1) ∧ vt = .int .i64 (toI (((r.map Int.toNat).drop j).find? f)) ∧ wr = wi) (fun _ i _ => (intOf i + 1).toNat)
            case atStart => exact ⟨r.length, Nat.le_refl _, by first | rfl | go_num, by rw [List.drop_of_length_le (by simp)]; rfl, rfl⟩
            case round =>
              obtain ⟨j, hj, rfl, rfl, rfl⟩ := hrel
              by_cases hj0 : 0 < j
              · obtain ⟨i, rfl⟩ : ∃ i, j = i + 1 := ⟨j - 1, by omega⟩
                have hi : i < r.length := by omega
                have hij : ((i + 1 : Nat) : Int) - 1 = (i : Int) := by omega
                rw [hij]
                have hi2 : (i : Int) < (r.length : Int) := by omega
                obtain ⟨b6, o6, e6, hb6, _, g6, _⟩ := ints_at HRI.out (Below.refl _ _) hi
                simp only [Option.some.injEq, Addr.mk.injEq, and_true] at e6
                obtain ⟨rfl, rfl⟩ := e6
                obtain ⟨hx0, hxN⟩ := HRR.out r[i] (List.getElem_mem hi)
                obtain ⟨n, hn⟩ : ∃ n : Nat, r[i] = (n : Int) := ⟨r[i].toNat, by omega⟩
                have HD := hid (show (r.map Int.toNat).drop i = n :: (r.map Int.toNat).drop (i + 1) by
                  rw [List.drop_eq_getElem_cons (by simpa using hi)]
                  simp [hn])
                rw [hn] at g6 hxN
                have hnN : n < thr.length := by omega
                have q1 : wr.cell? ⟨R, n, none⟩ = some (.bool (f n)) := HRw.out.2.1 n hnN
                clear hn hx0 hij
                cases hfn : f n with
                | false =>
                  rw [hfn] at q1
                  have HD2 := hid (show ((r.map Int.toNat).drop i).find? f = ((r.map Int.toNat).drop (i + 1)).find? f by rw [HD.out, List.find?_cons, hfn])
                  clear hfn
                  go_wp2_with fail
                  go_roundw
                  case rel => exact ⟨i, by omega, by go_num, by rw [HD2.out], by first | rfl | trivial⟩
                  case measure => (simp [intOf]; try omega)
                | true =>
                  rw [hfn] at q1
                  have HD2 := hid (show ((r.map Int.toNat).drop i).find? f = some n by rw [HD.out, List.find?_cons, hfn])
                  clear hfn
                  go_wp2_with fail
                  go_roundw
                  case rel => exact ⟨i, by omega, by go_num, by rw [HD2.out]; rfl, by first | rfl | trivial⟩
                  case measure => (simp [intOf]; try omega)
              · obtain rfl : j = 0 := by omega
                have HTO := hid (show toI (((r.map Int.toNat).drop 0).find? f) = (t : Int) by rw [List.drop_zero, HFI.out]; rfl)
                rw [HTO.out]
                clear g0' gk hb1'
                go_wp2_with fail
                go_loopw [13] (fun i wq => ∃ m : Nat, m ≤ k + 1 ∧ i = .int .i64 m ∧ wq = wr ∧ Hid (∀ q, q < m → Gfp.orb adj f sN q ≠ t)) (fun i _ => k + 1 - (intOf i).toNat)
                case atStart => exact ⟨0, Nat.zero_le _, rfl, rfl, hid (fun q h => by omega)⟩
                case round =>
                  obtain ⟨m, hm, rfl, rfl, HNE⟩ := hrel
                  by_cases hmk : m < k + 1
                  · have hmk2 : (m : Int) < ((k + 1 : Nat) : Int) := by omega
                    have gm := HC.out m hmk
                    by_cases he : Gfp.orb adj f sN m = t
                    · rw [he] at gm
                      have HTR := hid (show Trc adj f sN (k + 1) m from ⟨HN.out, hmk, he.trans htt.out.symm⟩)
                      have HRES := hid (HY.out _ _ HTR.out)
                      clear he
                      go_wp2_with fail
                      have hmk3 : m ≤ k + 1 := by omega
                      have hmc : m ≤ cp := by omega
                      obtain ⟨lX, hlX⟩ : ∃ lX, Hid (lX = (ints (orbL adj f sN (k + 1))).take m) := ⟨_, hid rfl⟩
                      obtain ⟨lY, hlY⟩ : ∃ lY, Hid (lY = (ints (orbL adj f sN (k + 1))).drop m) := ⟨_, hid rfl⟩
                      have HLX := hid (show lX.length = m by rw [hlX.out, List.length_take, ints_len, orbL_len]; omega)
                      have HLY := hid (show lY.length = k + 1 - m by rw [hlY.out, List.length_drop, ints_len, orbL_len])
                      have HINT := hid (show IntsIn Any wr (some ⟨gp, 0, none⟩) (ints (orbL adj f sN (k + 1))) from HO.out.ints2 (fun q hq => by
                        unfold ints orbL at hq
                        rw [List.mem_map] at hq
                        obtain ⟨n, hn, rfl⟩ := hq
                        rw [List.mem_map] at hn
                        obtain ⟨j, _, rfl⟩ := hn
                        have := (HF.out.orb j).1
                        unfold i64; omega))
                      have SX0 := hid (show IntsIn Any wr (some ⟨gp, 0, none⟩) lX by rw [hlX.out]; exact ints_take' HINT.out m)
                      have SY0 := hid (show IntsIn Any wr (some ⟨gp, m, none⟩) lY by rw [hlY.out]; have h := ints_drop' HINT.out m; rw [Nat.zero_add] at h; exact h)
                      have hrp := (boxp_next HM.out R0.out)
                      obtain ⟨v0, hv0⟩ : ∃ v0, v0 = wr.drew := ⟨_, rfl⟩
                      have SX := hid (show IntsIn Any v0 (some ⟨gp, 0, none⟩) lX by rw [hv0]; exact SX0.out.below (below_d (Below.refl _ _)))
                      have SY := hid (show IntsIn Any v0 (some ⟨gp, m, none⟩) lY by rw [hv0]; exact SY0.out.below (below_d (Below.refl _ _)))
                      have RB := hid (show BoxP v0 (w.heap.size + 1) (.slice none 0 0) (.slice none 0 0) by rw [hv0]; exact boxp_next (below_d (Below.refl _ _)) hrp)
                      have BV := hid (show Below w.heap.size w v0 by rw [hv0]; exact below_d HBw.out)
                      have FINF := hid (fun (W : World) (x y : Value) (B B' : Nat) (h1 : OwnI B x lX W) (h2 : OwnI B' y lY W) => show AlV res (.tuple #[.agg #[x, y], .bool true]) W from al_fin (show m < (orbL adj f sN (k + 1)).length by rw [orbL_len]; omega) HRES.out
                        (by rw [← hlX.out]; exact own_arr h1 (by rw [hlX.out]; intro n hn; exact HINT.out.2 n (List.mem_of_mem_take hn)))
                        (by rw [← hlY.out]; exact own_arr h2 (by rw [hlY.out]; intro n hn; exact HINT.out.2 n (List.mem_of_mem_drop hn))))
                      clear SX0 SY0 hrp HINT HO HN HM HC HRw HRI P1 HNE hlX hlY
                      refine wp_region_ord (C := fun _ => True) [1,2,3,6,7,8] (.two 0 5 (.two 4 5 (.one 5 (.one 9 (.one 10 (.one 11 (.one 12 .done))))) (.one 4 (.one 9 (.one 10 (.one 11 (.one 12 .done)))))) (.one 0 (.one 4 (.one 9 (.one 10 (.one 11 (.one 12 .done))))))) [] (by kernel_rfl) (by kernel_rfl) (fun d _ _ _ _ h => by cases d <;> exact h) trivial ?_; simp only [pick, List.getElem?_cons_succ, List.getElem?_cons_zero]; (repeat (go_big_quiet_step (fail))); refine wpQuiet_nil ?_; simp only [ordW, pick, List.getElem?_cons_succ, List.getElem?_cons_zero]
                      rw [← hv0]
                      have D := hid (Below.refl v0.heap.size v0)
                      clear hv0
                      constructor
                      · go_wp2_with fail
                        refine ⟨trivial, ?_⟩
                        have h0 := below_alloc v0 (.cells #[] 3)
                        have EX := hid (OwnI.made v0)
                        have SXs := hid (show v0.heap.size < (v0.alloc (.cells #[] 3)).heap.size by simp)
                        obtain ⟨gX, hgX⟩ : ∃ g, g = v0.heap.size := ⟨_, rfl⟩
                        have GX := hid (show v0.heap.size ≤ gX by rw [hgX]; exact D.out.size)
                        rw [← hgX] at EX SXs ⊢
                        replace D := hid (below_next D.out h0)
                        clear hgX h0
                        generalize v0.alloc (.cells #[] 3) = v1 at *
                        constructor
                        · go_wp2_with (at_builtin; refine wp_app_clone rfl _ _ rfl gX lX (some ⟨gp, 0, none⟩) cp rfl (by rw [HLX.out]; rfl) EX.out SXs.out (fun e => by cases e) (SX.out.below D.out) (by rw [HLX.out]; omega) ?_; intro hX cX v2 hor hown hg hlt)
                          have OX := hid hown
                          have LX := hid hlt
                          replace D := hid (below_own D.out EX.out GX.out hg)
                          clear hor hown hg hlt EX SXs
                          go_wp2_with fail
                          refine ⟨trivial, ?_⟩
                          go_wp2_with fail
                          refine ⟨trivial, ?_⟩
                          have h0 := below_alloc v2 (.cells #[] 3)
                          have EY := hid (OwnI.made v2)
                          have SYs := hid (show v2.heap.size < (v2.alloc (.cells #[] 3)).heap.size by simp)
                          obtain ⟨gY, hgY⟩ : ∃ g, g = v2.heap.size := ⟨_, rfl⟩
                          have GY := hid (show v0.heap.size ≤ gY by rw [hgY]; exact D.out.size)
                          rw [← hgY] at EY SYs ⊢
                          have NE := hid (show hX ≠ gY by have := LX.out; omega)
                          replace OX := hid (OX.out.next h0)
                          replace LX := hid (Nat.lt_of_lt_of_le LX.out h0.size)
                          replace D := hid (below_next D.out h0)
                          clear hgY h0
                          generalize v2.alloc (.cells #[] 3) = v3 at *
                          go_wp2_with (at_builtin; refine wp_app_clone rfl _ _ rfl gY lY (some ⟨gp, m, none⟩) (cp - m) rfl (by rw [HLY.out]; rfl) EY.out SYs.out (fun e => by cases e) (SY.out.below D.out) (by rw [HLY.out]; omega) ?_; intro hY cY v4 hor hown hg hlt)
                          have OY := hid hown
                          have LY := hid hlt
                          replace OX := hid (OX.out.grow hg NE.out)
                          replace D := hid (below_own D.out EY.out GY.out hg)
                          clear hor hown hg hlt EY SYs
                          go_wp2_with fail
                          refine ⟨trivial, ?_⟩
                          have RX := hid (boxp_next D.out RB.out)
                          obtain ⟨r0, r1, r2, r3, r4⟩ := RX.out
                          go_wp2_with fail
                          refine ⟨trivial, ?_⟩
                          go_wp2_with fail
                          refine ⟨trivial, ?_⟩
                          go_wp2_with fail
                          refine ⟨trivial, ?_⟩
                          go_wp2_with fail
                          obtain ⟨y0, y1, y2, _⟩ := boxp_set1 (boxp_set0 RX.out (.slice (some ⟨hX, 0, none⟩) lX.length cX)) (.slice (some ⟨hY, 0, none⟩) lY.length cY)
                          refine bodyPost_ret (v := .tuple #[.agg #[.slice (some ⟨hX, 0, none⟩) lX.length cX, .slice (some ⟨hY, 0, none⟩) lY.length cY], .bool true]) (by simp [results, Try.results23, go_sem, y1, y2]) rfl ?_
                          have hv0 := RB.out.1
                          exact RetP.mk (FINF.out _ _ _ _ _ ((OX.out.set (a := ⟨w.heap.size + 1, 0, none⟩) (fun g _ h2 => by have := GX.out; show g ≠ w.heap.size + 1; omega) _).set (a := ⟨w.heap.size + 1, 1, none⟩) (fun g _ h2 => by have := GX.out; show g ≠ w.heap.size + 1; omega) _) ((OY.out.set (a := ⟨w.heap.size + 1, 0, none⟩) (fun g _ h2 => by have := GY.out; show g ≠ w.heap.size + 1; omega) _).set (a := ⟨w.heap.size + 1, 1, none⟩) (fun g _ h2 => by have := GY.out; show g ≠ w.heap.size + 1; omega) _)) (((below_next BV.out D.out).setCell (by simp) _).setCell (by simp) _)
                        · go_wp2_with fail
                          refine ⟨trivial, ?_⟩
                          have h0 := below_alloc v1 (.cells #[] 3)
                          have EY := hid (OwnI.made v1)
                          have SYs := hid (show v1.heap.size < (v1.alloc (.cells #[] 3)).heap.size by simp)
                          obtain ⟨gY, hgY⟩ : ∃ g, g = v1.heap.size := ⟨_, rfl⟩
                          have GY := hid (show v0.heap.size ≤ gY by rw [hgY]; exact D.out.size)
                          rw [← hgY] at EY SYs ⊢
                          have NE := hid (show gY ≠ gX by have := SXs.out; omega)
                          replace EX := hid (EX.out.next h0)
                          replace SXs := hid (Nat.lt_of_lt_of_le SXs.out h0.size)
                          replace D := hid (below_next D.out h0)
                          clear hgY h0
                          generalize v1.alloc (.cells #[] 3) = v2 at *
                          go_wp2_with (at_builtin; refine wp_app_clone rfl _ _ rfl gX lX (some ⟨gp, 0, none⟩) cp rfl (by rw [HLX.out]; rfl) EX.out SXs.out (fun e => by cases e) (SX.out.below D.out) (by rw [HLX.out]; omega) ?_; intro hX cX v3 hor hown hg hlt)
                          have OX := hid hown
                          have LX := hid hlt
                          replace EY := hid (EY.out.grow hg (by have h2 := NE.out; omega))
                          replace NE := hid (show hX ≠ gY by have h1 := SYs.out; have h2 := NE.out; rcases hor with h | h <;> omega)
                          replace SYs := hid (Nat.lt_of_lt_of_le SYs.out hg.size)
                          replace D := hid (below_own D.out EX.out GX.out hg)
                          clear hor hown hg hlt EX SXs
                          go_wp2_with fail
                          refine ⟨trivial, ?_⟩
                          go_wp2_with (at_builtin; refine wp_app_clone rfl _ _ rfl gY lY (some ⟨gp, m, none⟩) (cp - m) rfl (by rw [HLY.out]; rfl) EY.out SYs.out (fun e => by cases e) (SY.out.below D.out) (by rw [HLY.out]; omega) ?_; intro hY cY v4 hor hown hg hlt)
                          have OY := hid hown
                          have LY := hid hlt
                          replace OX := hid (OX.out.grow hg NE.out)
                          replace D := hid (below_own D.out EY.out GY.out hg)
                          clear hor hown hg hlt EY SYs
                          go_wp2_with fail
                          refine ⟨trivial, ?_⟩
                          have RX := hid (boxp_next D.out RB.out)
                          obtain ⟨r0, r1, r2, r3, r4⟩ := RX.out
                          go_wp2_with fail
                          refine ⟨trivial, ?_⟩
                          go_wp2_with fail
                          refine ⟨trivial, ?_⟩
                          go_wp2_with fail
                          refine ⟨trivial, ?_⟩
                          go_wp2_with fail
                          obtain ⟨y0, y1, y2, _⟩ := boxp_set1 (boxp_set0 RX.out (.slice (some ⟨hX, 0, none⟩) lX.length cX)) (.slice (some ⟨hY, 0, none⟩) lY.length cY)
                          refine bodyPost_ret (v := .tuple #[.agg #[.slice (some ⟨hX, 0, none⟩) lX.length cX, .slice (some ⟨hY, 0, none⟩) lY.length cY], .bool true]) (by simp [results, Try.results23, go_sem, y1, y2]) rfl ?_
                          have hv0 := RB.out.1
                          exact RetP.mk (FINF.out _ _ _ _ _ ((OX.out.set (a := ⟨w.heap.size + 1, 0, none⟩) (fun g _ h2 => by have := GX.out; show g ≠ w.heap.size + 1; omega) _).set (a := ⟨w.heap.size + 1, 1, none⟩) (fun g _ h2 => by have := GX.out; show g ≠ w.heap.size + 1; omega) _) ((OY.out.set (a := ⟨w.heap.size + 1, 0, none⟩) (fun g _ h2 => by have := GY.out; show g ≠ w.heap.size + 1; omega) _).set (a := ⟨w.heap.size + 1, 1, none⟩) (fun g _ h2 => by have := GY.out; show g ≠ w.heap.size + 1; omega) _)) (((below_next BV.out D.out).setCell (by simp) _).setCell (by simp) _)
                      · go_wp2_with fail
                        refine ⟨trivial, ?_⟩
                        have h0 := below_alloc v0 (.cells #[] 3)
                        have EY := hid (OwnI.made v0)
                        have SYs := hid (show v0.heap.size < (v0.alloc (.cells #[] 3)).heap.size by simp)
                        obtain ⟨gY, hgY⟩ : ∃ g, g = v0.heap.size := ⟨_, rfl⟩
                        have GY := hid (show v0.heap.size ≤ gY by rw [hgY]; exact D.out.size)
                        rw [← hgY] at EY SYs ⊢
                        replace D := hid (below_next D.out h0)
                        clear hgY h0
                        generalize v0.alloc (.cells #[] 3) = v1 at *
                        go_wp2_with fail
                        refine ⟨trivial, ?_⟩
                        have h0 := below_alloc v1 (.cells #[] 3)
                        have EX := hid (OwnI.made v1)
                        have SXs := hid (show v1.heap.size < (v1.alloc (.cells #[] 3)).heap.size by simp)
                        obtain ⟨gX, hgX⟩ : ∃ g, g = v1.heap.size := ⟨_, rfl⟩
                        have GX := hid (show v0.heap.size ≤ gX by rw [hgX]; exact D.out.size)
                        rw [← hgX] at EX SXs ⊢
                        have NE := hid (show gX ≠ gY by have := SYs.out; omega)
                        replace EY := hid (EY.out.next h0)
                        replace SYs := hid (Nat.lt_of_lt_of_le SYs.out h0.size)
                        replace D := hid (below_next D.out h0)
                        clear hgX h0
                        generalize v1.alloc (.cells #[] 3) = v2 at *
                        go_wp2_with (at_builtin; refine wp_app_clone rfl _ _ rfl gX lX (some ⟨gp, 0, none⟩) cp rfl (by rw [HLX.out]; rfl) EX.out SXs.out (fun e => by cases e) (SX.out.below D.out) (by rw [HLX.out]; omega) ?_; intro hX cX v3 hor hown hg hlt)
                        have OX := hid hown
                        have LX := hid hlt
                        replace EY := hid (EY.out.grow hg (by have h2 := NE.out; omega))
                        replace NE := hid (show hX ≠ gY by have h1 := SYs.out; have h2 := NE.out; rcases hor with h | h <;> omega)
                        replace SYs := hid (Nat.lt_of_lt_of_le SYs.out hg.size)
                        replace D := hid (below_own D.out EX.out GX.out hg)
                        clear hor hown hg hlt EX SXs
                        go_wp2_with fail
                        refine ⟨trivial, ?_⟩
                        go_wp2_with (at_builtin; refine wp_app_clone rfl _ _ rfl gY lY (some ⟨gp, m, none⟩) (cp - m) rfl (by rw [HLY.out]; rfl) EY.out SYs.out (fun e => by cases e) (SY.out.below D.out) (by rw [HLY.out]; omega) ?_; intro hY cY v4 hor hown hg hlt)
                        have OY := hid hown
                        have LY := hid hlt
                        replace OX := hid (OX.out.grow hg NE.out)
                        replace D := hid (below_own D.out EY.out GY.out hg)
                        clear hor hown hg hlt EY SYs
                        go_wp2_with fail
                        refine ⟨trivial, ?_⟩
                        have RX := hid (boxp_next D.out RB.out)
                        obtain ⟨r0, r1, r2, r3, r4⟩ := RX.out
                        go_wp2_with fail
                        refine ⟨trivial, ?_⟩
                        go_wp2_with fail
                        refine ⟨trivial, ?_⟩
                        go_wp2_with fail
                        refine ⟨trivial, ?_⟩
                        go_wp2_with fail
                        obtain ⟨y0, y1, y2, _⟩ := boxp_set1 (boxp_set0 RX.out (.slice (some ⟨hX, 0, none⟩) lX.length cX)) (.slice (some ⟨hY, 0, none⟩) lY.length cY)
                        refine bodyPost_ret (v := .tuple #[.agg #[.slice (some ⟨hX, 0, none⟩) lX.length cX, .slice (some ⟨hY, 0, none⟩) lY.length cY], .bool true]) (by simp [results, Try.results23, go_sem, y1, y2]) rfl ?_
                        have hv0 := RB.out.1
                        exact RetP.mk (FINF.out _ _ _ _ _ ((OX.out.set (a := ⟨w.heap.size + 1, 0, none⟩) (fun g _ h2 => by have := GX.out; show g ≠ w.heap.size + 1; omega) _).set (a := ⟨w.heap.size + 1, 1, none⟩) (fun g _ h2 => by have := GX.out; show g ≠ w.heap.size + 1; omega) _) ((OY.out.set (a := ⟨w.heap.size + 1, 0, none⟩) (fun g _ h2 => by have := GY.out; show g ≠ w.heap.size + 1; omega) _).set (a := ⟨w.heap.size + 1, 1, none⟩) (fun g _ h2 => by have := GY.out; show g ≠ w.heap.size + 1; omega) _)) (((below_next BV.out D.out).setCell (by simp) _).setCell (by simp) _)
                    · have HNE2 := hid (show ∀ q, q < m + 1 → Gfp.orb adj f sN q ≠ t from fun q hq => by
                        by_cases e : q = m
                        · rw [e]; exact he
                        · exact HNE.out q (by omega))
                      have hne : ((Gfp.orb adj f sN m : Int) == (t : Int)) = false := by
                        rw [beq_eq_false_iff_ne]; omega
                      generalize Gfp.orb adj f sN m = om at *
                      clear he
                      go_wp2_with fail
                      go_roundw
                      case rel => exact ⟨m + 1, by omega, by go_num, by first | rfl | trivial, HNE2⟩
                      case measure => (simp [intOf]; try omega)
                  · obtain rfl : m = k + 1 := by omega
                    have HN2 := hid (orb_succ_nodup HN.out (fun i hi => by rw [htt.out]; exact HNE.out i hi))
                    have h0 := below_alloc wr (.cells #[.int .i64 t] 3)
                    have HI := hid (row_one wr t (by unfold i64; omega))
                    have HO1 := hid (HO.out.next h0)
                    have HM1 := hid (below_next HM.out h0)
                    have hMs := HM1.out.size
                    have hkk : ¬ (((k + 1 : Nat) : Int) < ((k + 1 : Nat) : Int)) := by omega
                    have HLEN := hid (show (ints (orbL adj f sN (k + 1))).length = k + 1 by rw [ints_len, orbL_len])
                    clear h0 HO HRI
                    go_wp2_with (at_builtin; refine wp_app_own2 rfl _ _ rfl wC.heap.size (.slice (some ⟨gp, 0, none⟩) (k + 1) cp) (ints (orbL adj f sN (k + 1))) [(t : Int)] (some ⟨wr.heap.size, 0, none⟩) 1 rfl rfl (fun h => by cases h) HO1.out hMs HI.out (by rw [HLEN.out]; omega) (by simp) ?_; intro v' w' hv hg hor)
                    have HV := hid (show OwnI wC.heap.size v' (ints (orbL adj f sN (k + 1 + 1))) w' by
                      rw [orbL_succ, htt.out, show ints (orbL adj f sN (k + 1) ++ [t]) = ints (orbL adj f sN (k + 1)) ++ [(t : Int)] by simp [ints]]; exact hv)
                    have HM2 := hid (below_own HM1.out HO1.out (Nat.le_refl _) hg)
                    have HLV := hid (show lenV v' = k + 1 + 1 by
                      obtain ⟨aq, cq, e, _⟩ := hv.shape
                      rw [e]
                      show (ints (orbL adj f sN (k + 1)) ++ [(t : Int)]).length = _
                      rw [List.length_append, HLEN.out]; rfl)
                    clear hv hg hor HO1 HI
                    go_wp2_with fail
                    go_roundw
                    case rel => exact ⟨k + 1, _, rfl, HV, HN2, HM2⟩
                    case measure => rw [HLV.out]; simp only [lenV]; omega
      · have b5 : s < 0 ∨ (0 ≤ s ∧ s ≥ (thr.length : Int)) := by omega
        obtain rfl := HNO.out (fun h => by have := HOK.out.1 h; omega)
        clear HNO HYES HFA HOK HALW HEQ HGD e3
        rcases b5 with b5 | ⟨b5, b6⟩
        · go_wp2_with fail
          obtain ⟨y0, y1, y2, _⟩ := boxp_set1 (boxp_set0 R0.out (.slice none 0 0)) (.slice none 0 0)
          refine bodyPost_ret (v := .tuple #[.agg #[.slice none 0 0, .slice none 0 0], .bool false]) (by simp [results, Try.results23, go_sem, y1, y2]) rfl ?_
          exact RetP.mk ⟨_, _, rfl, arr_none _, arr_none _⟩ ((B0.out.setCell (by simp) _).setCell (by simp) _)
        · have b7 : ¬ s < 0 := by omega
          clear b5 a2
          go_wp2_with fail
          obtain ⟨y0, y1, y2, _⟩ := boxp_set1 (boxp_set0 R0.out (.slice none 0 0)) (.slice none 0 0)
          refine bodyPost_ret (v := .tuple #[.agg #[.slice none 0 0, .slice none 0 0], .bool false]) (by simp [results, Try.results23, go_sem, y1, y2]) rfl ?_
          exact RetP.mk ⟨_, _, rfl, arr_none _, arr_none _⟩ ((B0.out.setCell (by simp) _).setCell (by simp) _)
    · have b1 : ((thr.length : Int) != (sn : Int)) = true := by rw [bne_iff_ne]; omega
      obtain rfl := HNO.out (fun h => a1 (HOK.out.1 h).2.1)
      clear HNO HYES HFA HOK HALW HEQ HGD e3 a1
      go_wp2_with fail
      obtain ⟨y0, y1, y2, _⟩ := boxp_set1 (boxp_set0 R0.out (.slice none 0 0)) (.slice none 0 0)
      refine bodyPost_ret (v := .tuple #[.agg #[.slice none 0 0, .slice none 0 0], .bool false]) (by simp [results, Try.results23, go_sem, y1, y2]) rfl ?_
      exact RetP.mk ⟨_, _, rfl, arr_none _, arr_none _⟩ ((B0.out.setCell (by simp) _).setCell (by simp) _)
end Alw
end Go.Proofs.Ytfemikebklmlpaa
