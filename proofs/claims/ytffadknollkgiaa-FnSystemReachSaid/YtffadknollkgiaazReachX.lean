/- SystemReach, of the program and of the reference: what each returns. Conditions: those of each contract. -/
import Derived.Test.YtffadknollkgiaazReachV
set_option linter.unusedVariables false
set_option linter.unusedSimpArgs false
namespace Go.Proofs.Ytffadknollkgiaa
open Go.RowKit
set_option linter.unusedVariables false
namespace Sys

theorem reachV_bad {s : Sy} {n : Int} (h : ¬(okSy s = true ∧ 0 ≤ n ∧ n < s.procs.length)) : reachV s n = [] := by rw [reachV, if_neg h]
theorem reachV_good {s : Sy} {n : Nat} (h : okSy s = true) (hn : n < s.procs.length) : reachV s n = rchL s.procs[n] := by
  rw [reachV, if_pos ⟨h, by omega, by omega⟩, List.getD_eq_getElem?_getD, Int.toNat_natCast, List.getElem?_eq_getElem hn]; rfl

set_option maxRecDepth 100000 in
set_option maxHeartbeats 2000000 in
theorem sysReach_any (s : Sy) (n : Int) (w : World) (x : Value) (hx : SyIn Any w s x) : Calls Try.prog 18 #[x, .int .i64 n] w (RetP (NewV w.heap.size ((reachV s n).map Value.bool)) w) := by
  have HX := hid hx
  have HV := hid (fun (W : World) (M : Below w.heap.size w W) => valid_any s W x (HX.out.below M))
  obtain ⟨a, c, b, d, rfl, hc, hc2, hi, hd, hd2, hp⟩ := hx
  have HP := hid hp
  clear hi hp hc hc2 hd hd2
  cases ho : okSy s with
  | false =>
    have E := hid (reachV_bad (s := s) (n := n) (by rw [ho]; simp))
    rw [ho] at HV
    clear ho HX
    go_enter Try.func18, Try.ntmps18
    go_wp2_with fail
    refine (HV.out _ (by repeat (first | exact Below.refl _ _ | assumption | refine below_a ?_ _ | refine below_o ?_ _ | refine below_d ?_ | refine below_n ?_ _ | refine below_s ?_ (by first | (simp; done) | (simp; omega) | omega) _))).mono ?_
    rintro y w1 ⟨rfl, hb⟩
    go_wp2_with fail
    go_ret
    exact RetP.mk (by rw [E.out]; exact NewV.nil _ _ _ (by simp) _) (below_next (by repeat (first | exact Below.refl _ _ | assumption | refine below_a ?_ _ | refine below_o ?_ _ | refine below_d ?_ | refine below_n ?_ _ | refine below_s ?_ (by first | (simp; done) | (simp; omega) | omega) _)) hb)
  | true =>
    have hn3 := (okSy_procs ho).1
    have HOK := hid (okSy_procs ho).2
    have HO := hid ho
    rw [ho] at HV
    clear ho HX
    by_cases hin : 0 ≤ n ∧ n ≤ (s.procs.length : Int) - 1
    · obtain ⟨m, rfl⟩ := Int.eq_ofNat_of_zero_le hin.1
      have hm : m < s.procs.length := by omega
      have E := hid (reachV_good HO.out hm)
      have HIN := hid (in_yes hin)
      have hm2 : (m : Int) < (s.procs.length : Int) := by omega
      clear hin
      go_enter Try.func18, Try.ntmps18
      go_wp2_with fail
      refine (HV.out _ (by repeat (first | exact Below.refl _ _ | assumption | refine below_a ?_ _ | refine below_o ?_ _ | refine below_d ?_ | refine below_n ?_ _ | refine below_s ?_ (by first | (simp; done) | (simp; omega) | omega) _))).mono ?_
      rintro y w1 ⟨rfl, hb⟩
      have X := hid (box2_next hb (box2_at (w := w) (a := .slice a s.init.length c) (b := .slice b s.procs.length d) rfl))
      have B1 := hid (below_next (show Below w.heap.size w _ from below_alloc _ _) hb)
      obtain ⟨p0, p1, p2, p3, p4⟩ := id X.out
      have sz1 := B1.out.size
      clear hb
      obtain ⟨bb, ob, hbb, _, hb3, ac, cc, ⟨g0, g1⟩, hpr⟩ := SeqIn.at (PrsIn.below HP.out B1.out) hm
      have HQ := hid (reach_any s.procs[m] (HOK.out _ (List.getElem_mem hm)) w1 _ hpr)
      clear hpr
      generalize s.procs[m] = q at *
      subst hbb
      go_wp2_with fail
      refine (HIN.out _).mono ?_
      rintro _ _ ⟨rfl, rfl⟩
      go_wp2_with fail
      refine HQ.out.mono ?_
      rintro _ w2 ⟨v, rfl, hv, hb2⟩
      have B2 := hid (below_next B1.out hb2)
      have HV2 := hid hv
      clear hb2 hv
      go_wp2_with fail
      go_ret
      exact RetP.mk (by rw [E.out]; obtain ⟨a, c, bs, e1, e2, e3, e4, e5⟩ := HV2.out; exact ⟨a, c, bs, e1, e2, e3, e4, fun b hb => Nat.le_trans sz1 (e5 b hb)⟩) B2.out
    · have E := hid (reachV_bad (s := s) (n := n) (by omega))
      have HIN := hid (in_no hin)
      clear hin
      go_enter Try.func18, Try.ntmps18
      go_wp2_with fail
      refine (HV.out _ (by repeat (first | exact Below.refl _ _ | assumption | refine below_a ?_ _ | refine below_o ?_ _ | refine below_d ?_ | refine below_n ?_ _ | refine below_s ?_ (by first | (simp; done) | (simp; omega) | omega) _))).mono ?_
      rintro y w1 ⟨rfl, hb⟩
      have X := hid (box2_next hb (box2_at (w := w) (a := .slice a s.init.length c) (b := .slice b s.procs.length d) rfl))
      have B1 := hid (below_next (show Below w.heap.size w _ from below_alloc _ _) hb)
      obtain ⟨p0, p1, p2, p3, p4⟩ := id X.out
      have sz1 := B1.out.size
      clear hb
      go_wp2_with fail
      refine (HIN.out _).mono ?_
      rintro _ _ ⟨rfl, rfl⟩
      go_wp2_with fail
      go_ret
      exact RetP.mk (by rw [E.out]; exact NewV.nil _ _ _ (by simp) _) B1.out

/-- how many of n cells are false, in memory -/
def isF : Option Value → Bool
  | some (.bool false) => true
  | _ => false
def cntF (w : World) (R n : Nat) : Nat := (List.range n).countP fun (k : Nat) => isF (w.cell? ⟨R, k, none⟩)
theorem cntF_set {w : World} {R n k : Nat} {o : Nat → Bool} (h : BRw w R n o) (hk : k < n) (ho : o k = false) : cntF (w.setCell ⟨R, k, none⟩ (.bool true)) R n < cntF w R n := by
  have e1 : ∀ m, m ≤ n → (List.range m).countP (fun (k : Nat) => isF (w.cell? ⟨R, k, none⟩)) = (List.range m).countP fun (k : Nat) => !(o k) := fun m hm => List.countP_congr fun i hi => by
    rw [h.2.1 i (by simp at hi; omega)]
    show isF (some (.bool (o i))) = true ↔ (!(o i)) = true
    cases o i <;> simp [isF]
  have e2 : ∀ m, m ≤ n → (List.range m).countP (fun (i : Nat) => isF ((w.setCell ⟨R, k, none⟩ (.bool true)).cell? ⟨R, i, none⟩)) = (List.range m).countP fun (i : Nat) => !(updB o k true i) := fun m hm => List.countP_congr fun i hi => by
    rw [(brw_upd h hk true).2.1 i (by simp at hi; omega)]
    show isF (some (.bool (updB o k true i))) = true ↔ (!(updB o k true i)) = true
    cases updB o k true i <;> simp [isF]
  rw [cntF, cntF, e1 n (Nat.le_refl _), e2 n (Nat.le_refl _)]
  clear e1 e2 h
  induction n with
  | zero => omega
  | succ n ih =>
    rw [List.range_succ, List.countP_append, List.countP_append]
    have hmono : (List.range n).countP (fun (i : Nat) => !(updB o k true i)) ≤ (List.range n).countP fun (i : Nat) => !(o i) := List.countP_mono_left fun i _ hi => by
      unfold updB at hi
      split at hi
      · simp at hi
      · exact hi
    by_cases e : k = n
    · subst e
      simp [updB, ho]
      simpa [updB] using Nat.lt_succ_of_le hmono
    · have := ih (by omega)
      have e2 : updB o k true n = o n := by unfold updB; rw [if_neg (Ne.symm e)]
      simp only [List.countP_cons, List.countP_nil, e2]
      omega
theorem sweep_lt {a b L i : Nat} (h : a < b) (hi : i < L) : a * (L + 1) + L < b * (L + 1) + (L - i) := by
  have : (a + 1) * (L + 1) ≤ b * (L + 1) := Nat.mul_le_mul_right _ h
  rw [Nat.add_mul] at this
  omega
/-- the reference's sweep: sound, and the first i edges are closed -/
structure SRel (es : List Ed) (i : Nat) (o : Nat → Bool) : Prop where
  zero : o 0 = true
  snd : ∀ k, o k = true → Rch es k
  clo : ∀ e, e ∈ es.take i → o e.src.toNat = true → o e.dst.toNat = true
theorem SRel.start (es : List Ed) : SRel es 0 (updB (fun _ => false) 0 true) := ⟨rfl, (rr_start es).snd, by simp⟩
theorem SRel.keep {es : List Ed} {i : Nat} {o : Nat → Bool} (h : SRel es i o) (hi : i < es.length) (hk : o es[i].src.toNat = true → o es[i].dst.toNat = true) : SRel es (i + 1) o := ⟨h.zero, h.snd, fun e he hs => by
  have htk : es.take (i + 1) = es.take i ++ [es[i]] := by rw [List.take_add_one, List.getElem?_eq_getElem hi]; rfl
  rw [htk] at he
  rcases List.mem_append.1 he with he | he
  · exact h.clo e he hs
  · obtain rfl : e = es[i] := by simpa using he
    exact hk hs⟩
theorem SRel.again {es : List Ed} {i : Nat} {o : Nat → Bool} (h : SRel es i o) (hi : i < es.length) (hs : o es[i].src.toNat = true) : SRel es 0 (updB o es[i].dst.toNat true) := by
  refine ⟨?_, fun k hk => ?_, by simp⟩
  · unfold updB; split
    · rfl
    · exact h.zero
  · unfold updB at hk
    split at hk
    · rename_i e; rw [e]; exact .step _ (List.getElem_mem hi) (h.snd _ hs)
    · exact h.snd k hk
theorem SRel.done {es : List Ed} {o : Nat → Bool} (h : SRel es es.length o) (k : Nat) : o k = rchB es k :=
  clo_done h.zero h.snd (fun e he => h.clo e (by rw [List.take_of_length_le (Nat.le_refl _)]; exact he)) k

set_option maxRecDepth 100000 in
set_option maxHeartbeats 4000000 in
theorem specReach_any (s : Sy) (n : Int) (w : World) (x : Value) (hx : SyIn Any w s x) : Calls Try.prog 19 #[x, .int .i64 n] w (RetP (NewV w.heap.size ((reachV s n).map Value.bool)) w) := by
  have HX := hid hx
  have HV := hid (fun (W : World) (M : Below w.heap.size w W) => specValid_any s W x (HX.out.below M))
  obtain ⟨a, c, b, d, rfl, hc, hc2, hi, hd, hd2, hp⟩ := hx
  have HP := hid hp
  clear hi hp hc hc2 hd hd2
  cases ho : okSy s with
  | false =>
    have E := hid (reachV_bad (s := s) (n := n) (by rw [ho]; simp))
    rw [ho] at HV
    clear ho HX
    go_enter Try.func19, Try.ntmps19
    go_wp2_with fail
    refine (HV.out _ (by repeat (first | exact Below.refl _ _ | assumption | refine below_a ?_ _ | refine below_o ?_ _ | refine below_d ?_ | refine below_n ?_ _ | refine below_s ?_ (by first | (simp; done) | (simp; omega) | omega) _))).mono ?_
    rintro y w1 ⟨rfl, hb⟩
    go_wp2_with fail
    go_ret
    exact RetP.mk (by rw [E.out]; exact NewV.nil _ _ _ (by simp) _) (by exact (below_next (by repeat (first | exact Below.refl _ _ | assumption | refine below_a ?_ _ | refine below_o ?_ _ | refine below_d ?_ | refine below_n ?_ _ | refine below_s ?_ (by first | (simp; done) | (simp; omega) | omega) _)) hb).alloc (by have := hb.size; simp at this; omega) _)
  | true =>
    have hn3 := (okSy_procs ho).1
    have HOK := hid (okSy_procs ho).2
    have HO := hid ho
    rw [ho] at HV
    clear ho HX
    by_cases hin : 0 ≤ n ∧ n < (s.procs.length : Int)
    · obtain ⟨m, rfl⟩ := Int.eq_ofNat_of_zero_le hin.1
      have hm : m < s.procs.length := by omega
      have E := hid (reachV_good HO.out hm)
      have hm2 : (m : Int) < (s.procs.length : Int) := by omega
      clear hin
      go_enter Try.func19, Try.ntmps19
      go_wp2_with fail
      refine (HV.out _ (by repeat (first | exact Below.refl _ _ | assumption | refine below_a ?_ _ | refine below_o ?_ _ | refine below_d ?_ | refine below_n ?_ _ | refine below_s ?_ (by first | (simp; done) | (simp; omega) | omega) _))).mono ?_
      rintro y w1 ⟨rfl, hb⟩
      have X := hid (box2_next hb (box2_at (w := w) (a := .slice a s.init.length c) (b := .slice b s.procs.length d) rfl))
      have B1 := hid (below_next (show Below w.heap.size w _ from below_alloc _ _) hb)
      obtain ⟨p0, p1, p2, p3, p4⟩ := id X.out
      have sz1 := B1.out.size
      clear hb
      obtain ⟨bb, ob, hbb, _, hb3, ac, cc, ⟨g0, g1⟩, hpr⟩ := SeqIn.at (PrsIn.below HP.out B1.out) hm
      subst hbb
      obtain ⟨k1, k2, k3, k4⟩ := okP_locs (HOK.out _ (List.getElem_mem hm))
      generalize s.procs[m] = q at *
      obtain ⟨a5, c5, e5, hi5, hc5, hc6, he5⟩ := hpr
      cases e5
      have HE := hid he5
      have HK := hid k4
      have HNEW := hid (fun (w' : World) (R : Nat) (o : Nat → Bool) => brw_new (w := w) (w' := w') (R := R) (q := q) (o := o) (by omega))
      obtain ⟨locs, es⟩ := q
      obtain ⟨ln, rfl⟩ := Int.eq_ofNat_of_zero_le (show (0 : Int) ≤ locs by simp at k1; omega)
      simp only [Int.toNat_natCast] at HNEW k1 k2 k3 HK hc5 HE g0 g1
      have hn1 : 1 ≤ ln := by omega
      have hn4 : ln ≤ 4 := by omega
      have hmk := make_bools ln (by omega)
      have hz0 := zerosB_at (n := ln) (i := 0) (by omega)
      unfold maxLen at hc6
      clear he5 k4 hi5 k1 k2
      go_wp2_with fail
      have Y := hid (box2_next (below_alloc _ (.cells ((zerosB ln).setIfInBounds 0 (.bool true)) 4)) (box2_at (w := w1) (a := .int .i64 ln) (b := .slice ac es.length cc) (t := 41) rfl))
      have HZ := hid (brw_one (w1.alloc (.cells #[.int .i64 ln, .slice ac es.length cc] 41)) ln)
      have BW := hid (show Below w1.heap.size w1 ((w1.alloc (.cells #[.int .i64 ln, .slice ac es.length cc] 41)).alloc (.cells ((zerosB ln).setIfInBounds 0 (.bool true)) 4)) from below_next (below_alloc _ _) (below_alloc _ _))
      clear p0 p1 p2 p3 p4 g0 g1 hz0 hmk
      go_loopw [7] (fun i wr => ∃ (j : Nat) (o : Nat → Bool), j ≤ es.length ∧ i = .int .i64 j ∧ Hid (Below w1.heap.size w1 wr) ∧ Box2 wr w1.heap.size (.int .i64 ln) (.slice ac es.length cc) ∧ BRw wr (w1.heap.size + 1) ln o ∧ Hid (SRel es j o)) (fun i wr => cntF wr (w1.heap.size + 1) ln * (es.length + 1) + (es.length - (intOf i).toNat))
      case atStart => exact ⟨0, _, Nat.zero_le _, rfl, BW, Y.out, by simpa using HZ.out, hid (SRel.start es)⟩
      case round =>
        obtain ⟨j, o, hj, rfl, B, bx, hrow, hrel2⟩ := hrel
        have BX := hid bx
        have HROW := hid hrow
        obtain ⟨p0, p1, p2, p3, p4⟩ := bx
        by_cases hlt : j < es.length
        · obtain ⟨be, oe, rfl, _, hbe, a1, c1, a2, c2, ⟨g0, g1, g2, g3, g4, g5, g6, g7, g8, g9⟩, _⟩ := SeqIn.at (EdsIn.below HE.out B.out) hlt
          have HKP := hid (SRel.keep hrel2.out hlt)
          have HAG := hid (SRel.again hrel2.out hlt)
          obtain ⟨s1, s2, s3, s4⟩ := HK.out _ (List.getElem_mem hlt)
          have hlt2 : (j : Int) < (es.length : Int) := by omega
          generalize es[j] = e at *
          obtain ⟨sn, hsn⟩ := Int.eq_ofNat_of_zero_le s1
          obtain ⟨dn, hdn⟩ := Int.eq_ofNat_of_zero_le s3
          rw [hsn] at g0
          rw [hdn] at g1
          have hs7 : e.src.toNat = sn := by omega
          have hd7 : e.dst.toNat = dn := by omega
          rw [hs7, hd7] at HKP HAG
          have hs5 : sn < ln := by omega
          have hd5 : dn < ln := by omega
          have hs6 : (sn : Int) < (ln : Int) := by omega
          have hd6 : (dn : Int) < (ln : Int) := by omega
          have r1 : wr.cell? ⟨w1.heap.size + 1, sn, none⟩ = some (.bool (o sn)) := hrow.2.1 sn hs5
          have r2 : wr.cell? ⟨w1.heap.size + 1, dn, none⟩ = some (.bool (o dn)) := hrow.2.1 dn hd5
          have rz := hrow.2.2
          have rl := hrow.1
          clear hsn hdn s1 s2 s3 s4 hrow hs7 hd7 g2 g3 g4 g5 g6 g7 g8 g9
          cases x1 : o sn with
          | false =>
            have HN := hid (HKP.out (by rw [x1]; intro h; cases h))
            rw [x1] at r1
            clear x1
            go_wp2_with fail
            go_roundw
            case rel => exact ⟨j + 1, o, by omega, by go_num, B, BX.out, HROW.out, HN⟩
            case measure => simp [intOf]; omega
          | true =>
            rw [x1] at r1
            cases x2 : o dn with
            | true =>
              have HN := hid (HKP.out (fun _ => x2))
              rw [x2] at r2
              clear x1 x2
              go_wp2_with fail
              go_roundw
              case rel => exact ⟨j + 1, o, by omega, by go_num, B, BX.out, HROW.out, HN⟩
              case measure => simp [intOf]; omega
            | false =>
              have HN := hid (HAG.out x1)
              have HC := hid (sweep_lt (cntF_set HROW.out hd5 x2) hlt)
              rw [x2] at r2
              clear x1 x2
              go_wp2_with fail
              go_roundw
              case rel => exact ⟨0, _, Nat.zero_le _, by go_num, hid (B.out.setCell (by simp) _), box2_but (But.set _ _ _ _) (by omega) BX.out, brw_upd HROW.out hd5 _, HN⟩
              case measure => have := HC.out; simp [intOf]; omega
        · have e : j = es.length := by omega
          subst e
          have HF := hid (HNEW.out wr _ _ (by omega) hrow (SRel.done hrel2.out))
          have hlt2 : ¬ ((es.length : Int) < (es.length : Int)) := by omega
          clear hrow
          go_wp2_with fail
          go_ret
          exact RetP.mk (by rw [E.out]; exact HF.out) (below_next B1.out B.out)
    · have E := hid (reachV_bad (s := s) (n := n) (by omega))
      by_cases h0 : n < 0
      · have h0' : ¬ (0 ≤ n) := by omega
        clear hin
        go_enter Try.func19, Try.ntmps19
        go_wp2_with fail
        refine (HV.out _ (by repeat (first | exact Below.refl _ _ | assumption | refine below_a ?_ _ | refine below_o ?_ _ | refine below_d ?_ | refine below_n ?_ _ | refine below_s ?_ (by first | (simp; done) | (simp; omega) | omega) _))).mono ?_
        rintro y w1 ⟨rfl, hb⟩
        have B1 := hid (below_next (show Below w.heap.size w _ from below_alloc _ _) hb)
        have sz1 := B1.out.size
        clear hb
        go_wp2_with fail
        go_ret
        exact RetP.mk (by rw [E.out]; exact NewV.nil _ _ _ (by simp) _) (by exact B1.out.alloc (by omega) _)
      · have h1 : (s.procs.length : Int) ≤ n := by omega
        clear hin
        go_enter Try.func19, Try.ntmps19
        go_wp2_with fail
        refine (HV.out _ (by repeat (first | exact Below.refl _ _ | assumption | refine below_a ?_ _ | refine below_o ?_ _ | refine below_d ?_ | refine below_n ?_ _ | refine below_s ?_ (by first | (simp; done) | (simp; omega) | omega) _))).mono ?_
        rintro y w1 ⟨rfl, hb⟩
        have X := hid (box2_next hb (box2_at (w := w) (a := .slice a s.init.length c) (b := .slice b s.procs.length d) rfl))
        have B1 := hid (below_next (show Below w.heap.size w _ from below_alloc _ _) hb)
        obtain ⟨p0, p1, p2, p3, p4⟩ := id X.out
        have sz1 := B1.out.size
        clear hb
        go_wp2_with fail
        go_ret
        exact RetP.mk (by rw [E.out]; exact NewV.nil _ _ _ (by simp) _) (by exact B1.out.alloc (by omega) _)
end Sys
end Go.Proofs.Ytffadknollkgiaa
