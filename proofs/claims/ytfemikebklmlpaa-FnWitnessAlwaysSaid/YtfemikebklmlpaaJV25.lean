/- Joined texts (ShortI, ShortP, WuLaw): contracts and plain laws. Conditions: those of each theorem. -/
import Derived.Test.YtfemikebklmlpaaJV21
import Derived.Test.YtfemikebklmlpaaJV24
set_option linter.unusedVariables false
set_option linter.unusedSimpArgs false
namespace Go.Proofs.Ytfemikebklmlpaa
open Go.RowKit
set_option linter.unusedVariables false
set_option linter.unusedSimpArgs false
namespace Bfs
open Gr

set_option maxRecDepth 100000 in
theorem goal_any (goal : List Bool) (n : Nat) (hn : n < goal.length) (w : World) (O td : Nat) (tb : Option Addr) (htd : goal.length ≤ td) (htd2 : td ≤ maxLen) (hO : w.cell? ⟨O, 0, none⟩ = some (.slice tb goal.length td)) (hg : BoolsIn Any w tb goal) :
    Calls Try.prog 38 #[.int .i64 n, .pointer (some ⟨O, 0, none⟩)] w (Ret (.bool (goalOf goal n)) w) := by
  obtain ⟨bg, og, rfl, hbg, _, gg⟩ := bools_at hg (Below.refl _ _) hn
  have hgo : goal[n] = goalOf goal n := by simp [goalOf, List.getD_eq_getElem?_getD, hn]
  rw [hgo] at gg
  generalize goalOf goal n = r at *
  have hO2 := blt hO
  have h1 : (n : Int) < (goal.length : Int) := by omega
  unfold maxLen at htd2
  clear hgo hg
  go_enter Try.func38, Try.ntmps38
  go_wp2_with fail
  go_ret
  exact Ret.mk rfl (Below.refl _ _)
/-- in the program's search: the first new block holds the predecessors, vq is the queue -/
structure ShAt (w : World) (N : Nat) (vq : Value) (par : Nat → Int) (q : List Nat) (wr : World) : Prop where
  below : Below w.heap.size w wr
  rpar : Row wr w.heap.size N (fun m => .int .i64 (par m))
  own : OwnI (w.heap.size + 1) vq (ints q) wr
theorem ShAt.next {w : World} {N : Nat} {vq : Value} {par : Nat → Int} {q : List Nat} {wr w' : World} (h : ShAt w N vq par q wr) (hb : Below wr.heap.size wr w') : ShAt w N vq par q w' :=
  ⟨below_next h.below hb, h.rpar.below hb, h.own.next hb⟩
theorem ShAt.mark {w : World} {N : Nat} {vq : Value} {par par' : Nat → Int} {q : List Nat} {wr : World} {n : Nat} {u : Int} (h : ShAt w N vq par q wr) (hn : n < N) (hp : ∀ m, par' m = if m = n then u else par m) : ShAt w N vq par' q (wr.setCell ⟨w.heap.size, n, none⟩ (.int .i64 u)) where
  below := h.below.setCell (Nat.le_refl _) _
  rpar := (h.rpar.set hn _).congr fun i hi => by
    rw [hp]
    by_cases e : i = n
    · rw [if_pos e, if_pos e]
    · rw [if_neg e, if_neg e]
  own := h.own.set (fun g _ h2 => by show g ≠ w.heap.size; omega) _
theorem ShAt.app {w : World} {N : Nat} {vq v' : Value} {par : Nat → Int} {q : List Nat} {wr w' : World} {n : Nat} (h : ShAt w N vq par q wr) (hv : OwnI (w.heap.size + 1) v' (ints q ++ [(n : Int)]) w') (hg : wr.grownBy w' vq.ownBlock) : ShAt w N v' par (q ++ [n]) w' where
  below := below_own h.below (h.own.mono (Nat.le_succ _)) (Nat.le_refl _) hg
  rpar := h.rpar.kept hg.size (hg.block _ h.rpar.1 (fun e => by have := (h.own.blk _ e.symm).1; omega))
  own := by rw [show ints (q ++ [n]) = ints q ++ [(n : Int)] by simp [ints]]; exact hv
/-- the way back, under way -/
def Way (par : Nat → Int) (l m : List Nat) (x : Int) : Prop := (x = -1 ∧ m = l.reverse) ∨ ∃ (u : Nat) (l1 : List Nat), x = (u : Int) ∧ Chain par u l1 ∧ l1 ++ m.reverse = l
theorem way_step {par : Nat → Int} {l m : List Nat} {u : Nat} {l1 : List Nat} (h : Chain par u l1) (e : l1 ++ m.reverse = l) : Way par l (m ++ [u]) (par u) := by
  rcases chain_cases h with ⟨h1, h2⟩ | ⟨v, l2, h1, h2, h3⟩
  · left
    refine ⟨h1, ?_⟩
    rw [← e, h2, List.reverse_append, List.reverse_reverse]; simp
  · right
    refine ⟨v, l2, h1, h2, ?_⟩
    rw [← e, h3]; simp
theorem push_q {u : Nat} {S : St} {n : Nat} (h : S.par n = -2) : (push u S n).q = S.q ++ [n] := by rw [push_new h]
set_option maxRecDepth 100000 in
set_option maxHeartbeats 4000000 in
theorem shortest_any (nx : List (List Int)) (s : Nat) (goal : List Bool) (w : World) (a b tb : Option Addr) (c cb td O : Nat) (hl : Gr.RowsIn Any w nx a) (hc : nx.length ≤ c) (hc2 : c ≤ maxLen) (hs : s < nx.length) (hN : nx.length ≤ 60) (hgood : Good nx) (hf : IntsIn Any w b [(s : Int)]) (hcb : 1 ≤ cb) (hcb2 : cb ≤ maxLen)
    (hgl : goal.length = nx.length) (htd : goal.length ≤ td) (htd2 : td ≤ maxLen) (hO : w.cell? ⟨O, 0, none⟩ = some (.slice tb goal.length td)) (hg : BoolsIn Any w tb goal) :
    Calls Try.prog 37 #[.slice a nx.length c, .slice b 1 cb, .func (.func 38) #[] #[.pointer (some ⟨O, 0, none⟩)]] w (RetP (NewV w.heap.size ((ints (wuL (adjOf nx) nx.length s (goalOf goal))).map (Value.int .i64))) w) := by
  have HL := hid hl
  have HGD := hid hgood
  have HAD := hid hgood.adj
  have HF := hid (show ∀ W, Below w.heap.size w W → ∃ bf of, b = some ⟨bf, of, none⟩ ∧ bf < W.heap.size ∧ W.cell? ⟨bf, of, none⟩ = some (.int .i64 s) from fun W M => by
    obtain ⟨bf, of, e, h1, _, h2, _⟩ := ints_at (hf.below M) (Below.refl _ _) (k := 0) (by simp)
    exact ⟨bf, of, e, h1, by simpa using h2⟩)
  have HCLO := hid (show ∀ W, Below w.heap.size w W → ∀ n, n < nx.length → Calls Try.prog 38 #[.int .i64 n, .pointer (some ⟨O, 0, none⟩)] W (Ret (.bool (goalOf goal n)) W) from fun W M n hn =>
    goal_any goal n (by omega) W O td tb htd htd2 (by rw [M.cell (p := ⟨O, 0, none⟩) (blt hO)]; exact hO) (hg.below M))
  have HINV := hid (fun (i : Nat) (h : i ≤ (bfs (adjOf nx) s i).q.length) => bfs_inv hs HAD.out i h)
  have HRES1 := hid (fun (j n : Nat) (l : List Nat) (h1 : j ≤ (bfs (adjOf nx) s j).q.length) (h2 : (bfs (adjOf nx) s j).q[j]? = some n) (h3 : goalOf goal n = true) (h4 : ∀ k m, k < j → (bfs (adjOf nx) s j).q[k]? = some m → goalOf goal m = false) (h5 : Chain (bfs (adjOf nx) s j).par n l) => wu_at hs HAD.out h1 h2 h3 h4 h5)
  have HPATH := hid (fun (j n : Nat) (h1 : j ≤ (bfs (adjOf nx) s j).q.length) (h2 : (bfs (adjOf nx) s j).q[j]? = some n) => wu_path hs HAD.out hN h1 h2)
  have HRES2 := hid (fun (k : Nat) (h1 : (bfs (adjOf nx) s k).q.length = k) (h2 : ∀ i m, (bfs (adjOf nx) s k).q[i]? = some m → goalOf goal m = false) => wu_none hs HAD.out h1 h2)
  generalize wuL (adjOf nx) nx.length s (goalOf goal) = res at *
  have hmk := make_ints nx.length (by omega)
  have hs2 : (s : Int) < (nx.length : Int) := by omega
  unfold maxLen at hc2 hcb2
  clear hl hgood hf hO hg hgl htd htd2
  go_enter Try.func37, Try.ntmps37
  go_wp2_with fail
  have D0 := hid (below_alloc w (.cells (zerosI nx.length) 3))
  have R0 := hid (show Row (w.alloc (.cells (zerosI nx.length) 3)) w.heap.size nx.length (fun i => .int .i64 (if i < 0 then -2 else 0)) from by
    have h := row_new (w := w) (cs := zerosI nx.length) (n := nx.length) (by rw [zerosI, size_madeCells]) 3
    exact h.congr fun i hi => by simp [zerosI, madeCells, hi, Nat.mod_one, Array.getD])
  go_loopw [8, 22] (fun _ i wr => ∃ k : Nat, k ≤ nx.length ∧ i = .int .i64 k ∧ Hid (Row wr w.heap.size nx.length (fun i => .int .i64 (if i < k then -2 else 0))) ∧ Hid (Below w.heap.size w wr)) (fun _ i _ => nx.length - (intOf i).toNat)
  case atStart => exact ⟨0, Nat.zero_le _, rfl, R0, D0⟩
  case round =>
    obtain ⟨k, hk, rfl, HR, HB⟩ := hrel
    obtain ⟨wo, rfl⟩ : ∃ wo : World, wo = wr := ⟨_, rfl⟩
    clear R0 D0
    by_cases hlt : k < nx.length
    · have hlt2 : (k : Int) < (nx.length : Int) := by omega
      have r1 := HR.out.2.1 k hlt
      have r2 := HR.out.2.2 k
      have r3 := HR.out.1
      have HR2 := hid ((HR.out.set hlt (.int .i64 (-2))).congr (g := fun i => .int .i64 (if i < k + 1 then -2 else 0)) fun i hi => by
        by_cases e : i = k
        · rw [if_pos e, if_pos (by omega)]
        · rw [if_neg e]
          by_cases e2 : i < k
          · rw [if_pos e2, if_pos (by omega)]
          · rw [if_neg e2, if_neg (by omega)])
      have HB2 := hid (HB.out.setCell (p := ⟨w.heap.size, k, none⟩) (Nat.le_refl _) (.int .i64 (-2)))
      go_wp2_with fail
      go_roundw
      case rel => exact ⟨k + 1, by omega, by go_num, HR2, HB2⟩
      case measure => simp [intOf]; omega
    · obtain rfl : k = nx.length := by omega
      have SA0 := hid (show ShAt w nx.length (.slice none 0 0) (fun _ => -2) [] wo from ⟨HB.out, HR.out.congr fun i hi => by rw [if_pos hi], World.ownsRow_nil ..⟩)
      clear HR HB
      go_wp2_with fail
      go_loopw [9, 11, 31] (fun vq _ i wr => ∃ v, v = vq ∧ ((i = .int .i64 0 ∧ v = .slice none 0 0 ∧ Hid (ShAt w nx.length (.slice none 0 0) (fun _ => -2) [] wr)) ∨ (i = .int .i64 1 ∧ Hid (ShAt w nx.length v (bfs (adjOf nx) s 0).par (bfs (adjOf nx) s 0).q wr)))) (fun _ _ i _ => 1 - (intOf i).toNat)
      case atStart => exact ⟨_, rfl, .inl ⟨rfl, rfl, SA0⟩⟩
      case round =>
        obtain ⟨vq, rfl, h⟩ := hrel
        obtain ⟨wi, rfl⟩ : ∃ wi : World, wi = wr := ⟨_, rfl⟩
        clear SA0
        rcases h with ⟨rfl, rfl, HS⟩ | ⟨rfl, HS⟩
        · obtain ⟨bf, of, rfl, hbf, gf⟩ := HF.out _ HS.out.below
          have r1 := HS.out.rpar.2.1 s hs
          have r2 := HS.out.rpar.2.2 s
          have r3 := HS.out.rpar.1
          have HM := hid (HS.out.mark (par' := (bfs (adjOf nx) s 0).par) (u := -1) hs (fun m => rfl))
          clear HS
          go_upto_region 12 with fail
          refine wp_gen (fun W => ShAt w nx.length (.slice none 0 0) (bfs (adjOf nx) s 0).par [] W) HM.out ?_
          clear HM r1 r2 r3 gf hbf
          rintro W1 HM1
          have h0 := below_alloc W1 (.cells #[.int .i64 s] 3)
          have HI := hid (row_one W1 s (by unfold i64; omega))
          have HM2 := hid (HM1.next h0)
          have hz2 := HM1.below.size
          have hz3 : w.heap.size < W1.heap.size := HM1.rpar.1
          clear HM1 h0
          go_wp2_with (at_builtin; refine wp_app_own2 rfl _ _ rfl (w.heap.size + 1) (.slice none 0 0) ([] : List Int) [(s : Int)] (some ⟨W1.heap.size, 0, none⟩) 1 rfl rfl (fun h => by cases h) HM2.out.own (by simp; omega) HI.out (by simp) (by simp) ?_; intro v' w' hv hg hor)
          have HF2 := hid (show ShAt w nx.length v' (bfs (adjOf nx) s 0).par (bfs (adjOf nx) s 0).q w' from HM2.out.app (n := s) hv hg)
          clear hv hg hor HI HM2
          go_wp2_with fail
          go_roundw
          case rel => exact ⟨_, rfl, .inr ⟨by go_num, HF2⟩⟩
          case measure => simp [intOf]
        · have HS0 := HS
          clear HS
          go_wp2_with fail
          go_loopw [9, 12] (fun vq i wr => ∃ (k : Nat) (v : Value), v = vq ∧ i = .int .i64 k ∧ Hid (k ≤ (bfs (adjOf nx) s k).q.length) ∧ Hid (ShAt w nx.length v (bfs (adjOf nx) s k).par (bfs (adjOf nx) s k).q wr) ∧ Hid (∀ (j m : Nat), j < k → (bfs (adjOf nx) s k).q[j]? = some m → goalOf goal m = false)) (fun _ i _ => nx.length - (intOf i).toNat)
          case atStart => exact ⟨0, _, rfl, rfl, hid (Nat.zero_le _), HS0, hid (fun j m h => by omega)⟩
          case round =>
            obtain ⟨k, vq, rfl, rfl, HK, HS, HNG⟩ := hrel
            obtain ⟨wi, rfl⟩ : ∃ wi : World, wi = wr := ⟨_, rfl⟩
            clear HS0
            obtain ⟨S, hS⟩ : ∃ S, Hid (bfs (adjOf nx) s k = S) := ⟨_, hid rfl⟩
            have HI := hid (HINV.out k HK.out)
            have HR1 := hid (HRES1.out k)
            have HR2 := hid (HRES2.out k)
            have HPT := hid (HPATH.out k)
            have hlen := HI.out.len
            rw [hS.out] at HK HS HI hlen HNG HR1 HR2 HPT
            by_cases hkq : k < S.q.length
            · obtain ⟨u, hu⟩ : ∃ u, S.q[k]? = some u := ⟨_, List.getElem?_eq_getElem hkq⟩
              have HU := hid hu
              have huN : u < nx.length := HI.out.lt u (q_at hu)
              have hkN : k < nx.length := by omega
              obtain ⟨gq, nq, cq, rfl, z1, z2, z3, z4, z5, z6⟩ : ∃ gq nq cq, vq = .slice (some ⟨gq, 0, none⟩) nq cq ∧ w.heap.size + 1 ≤ gq ∧ gq < wi.heap.size ∧ nq = S.q.length ∧ nq ≤ cq ∧ cq ≤ maxLen ∧ wi.cell? ⟨gq, k, none⟩ = some (.int .i64 u) := by
                obtain ⟨aq, cq, e, _⟩ := HS.out.own.shape
                subst e
                obtain ⟨g, e, h1, h2, h3, h4, h5, h6⟩ := own_at HS.out.own hu
                subst e
                exact ⟨g, _, cq, rfl, h1, h2, h3, h4, h5, h6⟩
              have hkn : (k : Int) < (nq : Int) := by omega
              have hu2 : (u : Int) < (nx.length : Int) := by omega
              have hNQ := hid z3
              have z6' := hid z6
              unfold maxLen at z5
              clear z3 hlen
              go_wp2_with fail
              refine (HCLO.out wi HS.out.below u huN).mono ?_
              rintro e w1 ⟨rfl, hb⟩
              have HS1 := hid (HS.out.next hb)
              have z7 : w1.cell? ⟨gq, k, none⟩ = some (.int .i64 u) := by rw [hb.cell (p := ⟨gq, k, none⟩) z2]; exact z6
              have z8 : gq < w1.heap.size := Nat.lt_of_lt_of_le z2 hb.size
              clear hb HS z6 z2
              generalize hw1 : w1 = wk at *
              clear hw1 z6'
              cases hgv : goalOf goal u with
              | true =>
                obtain ⟨l, c1, c2, c3⟩ := HPT.out u HK.out hu
                obtain rfl := HR1.out u l HK.out hu hgv HNG.out c1
                have C1 := hid c1
                have C2 := hid c2
                have C3 := hid c3
                obtain ⟨par, hpar⟩ : ∃ par, Hid (S.par = par) := ⟨_, hid rfl⟩
                rw [hpar.out] at C1 C2
                have RP := hid (show Row wk w.heap.size nx.length (fun m => .int .i64 (par m)) by rw [← hpar.out]; exact HS1.out.rpar)
                have BB := hid HS1.out.below
                clear c1 c2 c3 hgv hu HR1 HR2 HPT HI hS HU
                go_wp2_with fail
                go_loopw [13, 14] (fun x vp wr => ∃ (y : Int) (v : Value) (m : List Nat), v = vp ∧ x = .int .i64 y ∧ Hid (Way par res m y) ∧ Hid (OwnI (w.heap.size + 1) v (ints m) wr) ∧ Hid (Below w.heap.size w wr) ∧ Hid (Row wr w.heap.size nx.length (fun m => .int .i64 (par m)))) (fun _ v _ => 101 - lenV v)
                case atStart => exact ⟨u, _, [], rfl, rfl, hid (.inr ⟨u, res, rfl, C1.out, by simp⟩), hid (World.ownsRow_nil ..), BB, RP⟩
                case round =>
                  obtain ⟨y, vp, m, rfl, rfl, HW, HO, HB, HR⟩ := hrel
                  obtain ⟨wo, rfl⟩ : ∃ wo : World, wo = wr := ⟨_, rfl⟩
                  clear RP BB HS1 z7 z8
                  rcases HW.out with ⟨rfl, hm⟩ | ⟨v, l1, rfl, h1, h2⟩
                  · have hne : 0 < m.length := by rw [hm, List.length_reverse]; exact C1.out.pos
                    obtain ⟨gm, cm, rfl, _⟩ : ∃ gm cm, vp = .slice (some ⟨gm, 0, none⟩) (ints m).length cm ∧ w.heap.size + 1 ≤ gm := by
                      rcases HO.out.row with ⟨e, _⟩ | ⟨g, c', e, h1, _⟩
                      · have := congrArg List.length e; rw [ints_len, List.length_nil] at this; omega
                      · exact ⟨g, c', e, h1⟩
                    have hgm := (HO.out.blk gm rfl).1
                    have HRE := hid (reverse_any (ints m) wo (w.heap.size + 1) gm cm HO.out)
                    have HEQ := hid (show (ints m).reverse = ints res by rw [hm]; simp [ints])
                    clear HW hm
                    go_wp2_with fail
                    refine HRE.out.mono ?_
                    rintro e w2 ⟨rfl, ho2, hb2⟩
                    have HO2 := hid ho2
                    have HB2 := hid (hb2.new HB.out (by omega))
                    rw [HEQ.out] at HO2
                    have hlm : (ints m).length = (ints res).length := by rw [← HEQ.out, List.length_reverse]
                    rw [hlm] at HO2
                    have HLM := hid hlm
                    clear ho2 hb2 HRE HO HB HR hlm
                    go_wp2_with fail
                    rw [HLM.out]
                    refine (sclip_any (ints res) w2 _ (fun _ => trivial) (w.heap.size + 1) HO2.out (by rw [ints_len]; have := C2.out.small; omega)).mono ?_
                    rintro e w3 ⟨v, rfl, hv, hb⟩
                    have HV := hid hv
                    have HB3 := hid (below_next HB2.out hb)
                    clear hv hb
                    go_wp2_with fail
                    go_ret
                    exact RetP.mk (by obtain ⟨a, c, bs, h1, h2, h3, h4, h5⟩ := HV.out; exact ⟨a, c, bs, h1, h2, h3, h4, fun b hb => by have := h5 b hb; omega⟩) HB3.out
                  · have hvN : v < nx.length := C2.out.lt v (by
                      rw [← h2]
                      exact List.mem_append.2 (.inl (by rcases chain_cases h1 with ⟨_, e⟩ | ⟨_, _, _, _, e⟩ <;> simp [e])))
                    have HW2 := hid (way_step h1 h2)
                    have hml : m.length ≤ 100 := by
                      have := C2.out.small
                      have h3 := congrArg List.length h2
                      rw [List.length_append, List.length_reverse] at h3
                      omega
                    have r1 := HR.out.2.1 v hvN
                    have r3 := HR.out.1
                    have hv2 : (v : Int) < (nx.length : Int) := by omega
                    obtain ⟨am, cm, rfl, m1, m2, _⟩ := HO.out.shape
                    have h0 := below_alloc wo (.cells #[.int .i64 v] 3)
                    have HI := hid (row_one wo v (by unfold i64; omega))
                    have HO1 := hid (HO.out.next h0)
                    have HB1 := hid (below_next HB.out h0)
                    have HR1 := hid (HR.out.below h0)
                    have hz2 := HB.out.size
                    clear HW h1 h2
                    go_wp2_with (at_builtin; refine wp_app_own2 rfl _ _ rfl (w.heap.size + 1) (.slice am (ints m).length cm) (ints m) [(v : Int)] (some ⟨wo.heap.size, 0, none⟩) 1 rfl rfl (fun h => by cases h) HO1.out (by simp; omega) HI.out (by rw [ints_len]; omega) (by simp) ?_; intro v' w' hv hg hor; (have HOF := hid (show OwnI (w.heap.size + 1) v' (ints (m ++ [v])) w' by rw [show ints (m ++ [v]) = ints m ++ [(v : Int)] by simp [ints]]; exact hv)); (have HBF := hid (below_own HB1.out (HO1.out.mono (Nat.le_succ _)) (Nat.le_refl _) hg)); (have HRF := hid (HR1.out.kept hg.size (hg.block _ HR1.out.1 (fun e => by have := (HO1.out.blk _ e.symm).1; omega)))); (have q1 := HRF.out.2.1 v hvN); (have q3 := HRF.out.1); (have HLV := hid (show lenV v' = (ints m).length + 1 by obtain ⟨aq, cq, e, _⟩ := hv.shape; rw [e]; show (ints m ++ [(v : Int)]).length = _; simp)); clear hv hg hor)
                    go_roundw
                    case rel => exact ⟨_, _, m ++ [v], rfl, rfl, HW2, HOF, HBF, HRF⟩
                    case measure => rw [HLV.out]; simp only [lenV]; rw [ints_len]; omega
              | false =>
                have HNG2 := hid (show ∀ (j m : Nat), j < k + 1 → (bfs (adjOf nx) s (k + 1)).q[j]? = some m → goalOf goal m = false from fun j m hj hm => by
                  have hE := bfs_ext hs HAD.out k 1
                  rw [hS.out] at hE
                  have hjl : j < S.q.length := by omega
                  have h3 := hE.at (List.getElem?_eq_getElem hjl)
                  rw [h3] at hm
                  obtain rfl := Option.some.inj hm
                  by_cases e : j = k
                  · subst e
                    rw [List.getElem?_eq_getElem hjl] at hu
                    obtain rfl := Option.some.inj hu
                    exact hgv
                  · exact HNG.out j _ (by omega) (List.getElem?_eq_getElem hjl))
                obtain ⟨r, hr⟩ : ∃ r, Hid (nx[u] = r) := ⟨_, hid rfl⟩
                have HADJ := hid (show adjOf nx u = r.map Int.toNat by rw [adj_at huN, hr.out])
                have HRG := hid (show ∀ x, x ∈ r → 0 ≤ x ∧ x < nx.length from fun x hx => HGD.out r (by rw [← hr.out]; exact List.getElem_mem huN) x hx)
                have HPU := hid (show ∀ m, Inv nx.length (adjOf nx) s (pushes u S ((r.map Int.toNat).take m)) k ([] ++ (r.map Int.toNat).take m) ∧ (pushes u S ((r.map Int.toNat).take m)).q[k]? = some u from fun m =>
                  Inv.pushes _ [] S HI.out hu fun n hn => ⟨by rw [HADJ.out]; exact List.mem_of_mem_take hn, HAD.out u huN n (by rw [HADJ.out]; exact List.mem_of_mem_take hn)⟩)
                have HFIN := hid (show pushes u S ((r.map Int.toNat).take r.length) = bfs (adjOf nx) s (k + 1) by
                  rw [bfs, hS.out, opn_eq hu, HADJ.out, List.take_of_length_le (by simp)])
                obtain ⟨b0, o0, a1, c1, rfl, hb0, _, g0, k1, k2, hrow⟩ := rows_at HL.out huN
                rw [hr.out] at g0 k1 hrow
                have HRI := hid (show ∀ W, Below w.heap.size w W → IntsIn Any W a1 r from fun W M => hrow.below M)
                replace g0 : wk.cell? ⟨b0, o0 + u, none⟩ = some (.slice a1 r.length c1) := by rw [HS1.out.below.cell (p := ⟨b0, o0 + u, none⟩) hb0]; exact g0
                replace hb0 : b0 < wk.heap.size := Nat.lt_of_lt_of_le hb0 HS1.out.below.size
                have HSS0 := hid (show ShAt w nx.length (.slice (some ⟨gq, 0, none⟩) nq cq) (pushes u S ((r.map Int.toNat).take 0)).par (pushes u S ((r.map Int.toNat).take 0)).q wk from HS1.out)
                unfold maxLen at k2
                clear hrow hu HI hS HR1 HR2 HPT HNG hgv
                go_wp2_with fail
                go_loopw [9, 16, 78] (fun vq _ i wr => ∃ (m : Nat) (v : Value), v = vq ∧ i = .int .i64 m ∧ m ≤ r.length ∧ Hid (ShAt w nx.length v (pushes u S ((r.map Int.toNat).take m)).par (pushes u S ((r.map Int.toNat).take m)).q wr)) (fun _ _ i _ => r.length - (intOf i).toNat)
                case atStart => exact ⟨0, _, rfl, rfl, Nat.zero_le _, HSS0⟩
                case round =>
                  obtain ⟨m, vq, rfl, rfl, hm, HS⟩ := hrel
                  obtain ⟨wj, rfl⟩ : ∃ wj : World, wj = wr := ⟨_, rfl⟩
                  obtain ⟨T, hT⟩ : ∃ T, Hid (pushes u S ((r.map Int.toNat).take m) = T) := ⟨_, hid rfl⟩
                  obtain ⟨hiT, hqT⟩ := HPU.out m
                  rw [hT.out] at HS hiT hqT
                  have HIT := hid hiT
                  have hTlen := hiT.len
                  have HROW := hid (HRI.out wj HS.out.below)
                  clear hiT HSS0 HS1 z7 z8 g0 hb0
                  obtain ⟨gq, nq, cq, rfl, z1, z2, z3, z4, z5, z6⟩ : ∃ gq nq cq, vq = .slice (some ⟨gq, 0, none⟩) nq cq ∧ w.heap.size + 1 ≤ gq ∧ gq < wj.heap.size ∧ nq = T.q.length ∧ nq ≤ cq ∧ cq ≤ maxLen ∧ wj.cell? ⟨gq, k, none⟩ = some (.int .i64 u) := by
                    obtain ⟨aq, cq, e, _⟩ := HS.out.own.shape
                    subst e
                    obtain ⟨g, e, h1, h2, h3, h4, h5, h6⟩ := own_at HS.out.own hqT
                    subst e
                    exact ⟨g, _, cq, rfl, h1, h2, h3, h4, h5, h6⟩
                  have hkn2 : (k : Int) < (nq : Int) := by have := (List.getElem?_eq_some_iff.1 hqT).1; omega
                  have hNQ2 := hid z3
                  unfold maxLen at z5
                  clear z3
                  by_cases hmr : m < r.length
                  · have hmr2 : (m : Int) < (r.length : Int) := by omega
                    obtain ⟨b5, o5, rfl, hb5, _, g5, _⟩ := ints_at HROW.out (Below.refl _ _) hmr
                    obtain ⟨hx0, hxN⟩ := HRG.out r[m] (List.getElem_mem hmr)
                    obtain ⟨n, hn⟩ : ∃ n : Nat, r[m] = (n : Int) := ⟨r[m].toNat, by omega⟩
                    have hnm : (r.map Int.toNat)[m]? = some n := by rw [List.getElem?_map, List.getElem?_eq_getElem hmr, hn]; rfl
                    have HT1 := hid (show pushes u S ((r.map Int.toNat).take (m + 1)) = push u T n by rw [pushes_succ hnm, hT.out])
                    rw [hn] at g5 hx0 hxN
                    have hnN : n < nx.length := by omega
                    have p1 : wj.cell? ⟨w.heap.size, n, none⟩ = some (.int .i64 (T.par n)) := HS.out.rpar.2.1 n hnN
                    have p2 := HS.out.rpar.2.2 n
                    have p3 := HS.out.rpar.1
                    clear hn hnm hqT hT
                    by_cases hse : T.par n = -2
                    · rw [hse] at p1
                      have hpn := push_new (u := u) hse
                      rw [hpn] at HT1
                      have HM := hid (HS.out.mark (par' := fun m => if m = n then (u : Int) else T.par m) hnN (fun m => rfl))
                      clear hse hpn
                      go_upto_region 30 with fail
                      refine wp_gen (fun W => ShAt w nx.length (.slice (some ⟨gq, 0, none⟩) nq cq) (fun m => if m = n then (u : Int) else T.par m) T.q W) HM.out ?_
                      clear HM p1 p2 p3 g5 hb5 z6 z2 HS HROW
                      rintro W1 HM1
                      have h0 := below_alloc W1 (.cells #[.int .i64 n] 3)
                      have HI := hid (row_one W1 n (by unfold i64; omega))
                      have HM2 := hid (HM1.next h0)
                      have hz2 := HM1.below.size
                      have hz3 : w.heap.size < W1.heap.size := HM1.rpar.1
                      clear HM1 h0
                      go_wp2_with (at_builtin; refine wp_app_own2 rfl _ _ rfl (w.heap.size + 1) (.slice (some ⟨gq, 0, none⟩) nq cq) (ints T.q) [(n : Int)] (some ⟨W1.heap.size, 0, none⟩) 1 rfl rfl (fun h => by cases h) HM2.out.own (by simp; omega) HI.out (by rw [ints_len]; omega) (by simp) ?_; intro v' w' hv hg hor)
                      have HF2 := hid (HM2.out.app hv hg)
                      clear hv hg hor HI HM2
                      go_wp2_with fail
                      go_roundw
                      case rel => exact ⟨m + 1, _, rfl, by go_num, by omega, hid (by rw [HT1.out]; exact HF2.out)⟩
                      case measure => simp [intOf]; omega
                    · have e1 : (T.par n == -2) = false := by simpa using hse
                      have HT2 := hid (show pushes u S ((r.map Int.toNat).take (m + 1)) = T by rw [HT1.out, push_old hse])
                      clear hse HT1
                      generalize T.par n = pn at *
                      go_wp2_with fail
                      go_roundw
                      case rel => exact ⟨m + 1, _, rfl, by go_num, by omega, hid (by rw [HT2.out]; exact HS.out)⟩
                      case measure => simp [intOf]; omega
                  · obtain rfl : m = r.length := by omega
                    have hml : ¬ ((r.length : Int) < (r.length : Int)) := by omega
                    have HS2 := hid (show ShAt w nx.length (.slice (some ⟨gq, 0, none⟩) nq cq) (bfs (adjOf nx) s (k + 1)).par (bfs (adjOf nx) s (k + 1)).q wj by rw [← HFIN.out, hT.out]; exact HS.out)
                    have HK2 := hid (show k + 1 ≤ (bfs (adjOf nx) s (k + 1)).q.length by
                      rw [← HFIN.out, hT.out]
                      have := (List.getElem?_eq_some_iff.1 hqT).1; omega)
                    clear HS hT hqT
                    go_wp2_with fail
                    go_roundw
                    case rel => exact ⟨k + 1, _, rfl, by go_num, HK2, HS2, HNG2⟩
                    case measure => simp [intOf]; omega
            · have hkk : k = S.q.length := by have := HK.out; omega
              have HN := hid (show res = [] from HR2.out hkk.symm (fun i m hm => HNG.out i m (by have := (List.getElem?_eq_some_iff.1 hm).1; omega) hm))
              obtain rfl := HN.out
              obtain ⟨aq, cq, rfl, e1, e2, e3⟩ := HS.out.own.shape
              obtain ⟨L, hL⟩ : ∃ L, Hid ((ints S.q).length = L) := ⟨_, hid rfl⟩
              have hkL : ¬ ((k : Int) < (L : Int)) := by have := hL.out; rw [ints_len] at this; omega
              have HB := hid HS.out.below
              rw [hL.out]
              clear HS HI HK HR1 HR2 HPT HNG hS hkk hkq
              go_wp2_with fail
              go_ret
              exact RetP.mk ⟨none, 0, [], rfl, Nat.le_refl _, by simp, .inl ⟨rfl, rfl⟩, by simp⟩ HB.out
end Bfs
end Go.Proofs.Ytfemikebklmlpaa
namespace Go.Proofs.Ytfemikebklmlpaa
open Go.RowKit
set_option linter.unusedVariables false
set_option linter.unusedSimpArgs false
namespace Bfs
open Gr

def isN (tgt n : Nat) : Bool := decide (n = tgt)
set_option maxRecDepth 100000 in
theorem pgoal_any (tgt n : Nat) (w : World) (O : Nat) (hO : w.cell? ⟨O, 0, none⟩ = some (.int .i64 tgt)) : Calls Try.prog 74 #[.int .i64 n, .pointer (some ⟨O, 0, none⟩)] w (Ret (.bool (isN tgt n)) w) := by
  have hO2 := blt hO
  have E := hid (show isN tgt n = ((n : Int) == (tgt : Int)) by
    unfold isN
    by_cases h : n = tgt
    · simp [h]
    · have : ((n : Int) == (tgt : Int)) = false := by rw [beq_eq_false_iff_ne]; omega
      rw [this]; simp [h])
  go_enter Try.func74, Try.ntmps74
  go_wp2_with fail
  go_ret
  exact Ret.mk (bool_val (by rw [E.out])) (Below.refl _ _)
set_option maxRecDepth 100000 in
set_option maxHeartbeats 4000000 in
theorem shortestP_any (nx : List (List Int)) (s : Nat) (tgt : Nat) (w : World) (a b : Option Addr) (c cb O : Nat) (hl : Gr.RowsIn Any w nx a) (hc : nx.length ≤ c) (hc2 : c ≤ maxLen) (hs : s < nx.length) (hN : nx.length ≤ 60) (hgood : Good nx) (hf : IntsIn Any w b [(s : Int)]) (hcb : 1 ≤ cb) (hcb2 : cb ≤ maxLen)
    (hO : w.cell? ⟨O, 0, none⟩ = some (.int .i64 tgt)) :
    Calls Try.prog 37 #[.slice a nx.length c, .slice b 1 cb, .func (.func 74) #[] #[.pointer (some ⟨O, 0, none⟩)]] w (RetP (NewV w.heap.size ((ints (wuL (adjOf nx) nx.length s (isN tgt))).map (Value.int .i64))) w) := by
  have HL := hid hl
  have HGD := hid hgood
  have HAD := hid hgood.adj
  have HF := hid (show ∀ W, Below w.heap.size w W → ∃ bf of, b = some ⟨bf, of, none⟩ ∧ bf < W.heap.size ∧ W.cell? ⟨bf, of, none⟩ = some (.int .i64 s) from fun W M => by
    obtain ⟨bf, of, e, h1, _, h2, _⟩ := ints_at (hf.below M) (Below.refl _ _) (k := 0) (by simp)
    exact ⟨bf, of, e, h1, by simpa using h2⟩)
  have HCLO := hid (show ∀ W, Below w.heap.size w W → ∀ n, n < nx.length → Calls Try.prog 74 #[.int .i64 n, .pointer (some ⟨O, 0, none⟩)] W (Ret (.bool (isN tgt n)) W) from fun W M n hn =>
    pgoal_any tgt n W O (by rw [M.cell (p := ⟨O, 0, none⟩) (blt hO)]; exact hO))
  have HINV := hid (fun (i : Nat) (h : i ≤ (bfs (adjOf nx) s i).q.length) => bfs_inv hs HAD.out i h)
  have HRES1 := hid (fun (j n : Nat) (l : List Nat) (h1 : j ≤ (bfs (adjOf nx) s j).q.length) (h2 : (bfs (adjOf nx) s j).q[j]? = some n) (h3 : isN tgt n = true) (h4 : ∀ k m, k < j → (bfs (adjOf nx) s j).q[k]? = some m → isN tgt m = false) (h5 : Chain (bfs (adjOf nx) s j).par n l) => wu_at hs HAD.out h1 h2 h3 h4 h5)
  have HPATH := hid (fun (j n : Nat) (h1 : j ≤ (bfs (adjOf nx) s j).q.length) (h2 : (bfs (adjOf nx) s j).q[j]? = some n) => wu_path hs HAD.out hN h1 h2)
  have HRES2 := hid (fun (k : Nat) (h1 : (bfs (adjOf nx) s k).q.length = k) (h2 : ∀ i m, (bfs (adjOf nx) s k).q[i]? = some m → isN tgt m = false) => wu_none hs HAD.out h1 h2)
  generalize wuL (adjOf nx) nx.length s (isN tgt) = res at *
  have hmk := make_ints nx.length (by omega)
  have hs2 : (s : Int) < (nx.length : Int) := by omega
  unfold maxLen at hc2 hcb2
  clear hl hgood hf hO
  go_enter Try.func37, Try.ntmps37
  go_wp2_with fail
  have D0 := hid (below_alloc w (.cells (zerosI nx.length) 3))
  have R0 := hid (show Row (w.alloc (.cells (zerosI nx.length) 3)) w.heap.size nx.length (fun i => .int .i64 (if i < 0 then -2 else 0)) from by
    have h := row_new (w := w) (cs := zerosI nx.length) (n := nx.length) (by rw [zerosI, size_madeCells]) 3
    exact h.congr fun i hi => by simp [zerosI, madeCells, hi, Nat.mod_one, Array.getD])
  go_loopw [8, 22] (fun _ i wr => ∃ k : Nat, k ≤ nx.length ∧ i = .int .i64 k ∧ Hid (Row wr w.heap.size nx.length (fun i => .int .i64 (if i < k then -2 else 0))) ∧ Hid (Below w.heap.size w wr)) (fun _ i _ => nx.length - (intOf i).toNat)
  case atStart => exact ⟨0, Nat.zero_le _, rfl, R0, D0⟩
  case round =>
    obtain ⟨k, hk, rfl, HR, HB⟩ := hrel
    obtain ⟨wo, rfl⟩ : ∃ wo : World, wo = wr := ⟨_, rfl⟩
    clear R0 D0
    by_cases hlt : k < nx.length
    · have hlt2 : (k : Int) < (nx.length : Int) := by omega
      have r1 := HR.out.2.1 k hlt
      have r2 := HR.out.2.2 k
      have r3 := HR.out.1
      have HR2 := hid ((HR.out.set hlt (.int .i64 (-2))).congr (g := fun i => .int .i64 (if i < k + 1 then -2 else 0)) fun i hi => by
        by_cases e : i = k
        · rw [if_pos e, if_pos (by omega)]
        · rw [if_neg e]
          by_cases e2 : i < k
          · rw [if_pos e2, if_pos (by omega)]
          · rw [if_neg e2, if_neg (by omega)])
      have HB2 := hid (HB.out.setCell (p := ⟨w.heap.size, k, none⟩) (Nat.le_refl _) (.int .i64 (-2)))
      go_wp2_with fail
      go_roundw
      case rel => exact ⟨k + 1, by omega, by go_num, HR2, HB2⟩
      case measure => simp [intOf]; omega
    · obtain rfl : k = nx.length := by omega
      have SA0 := hid (show ShAt w nx.length (.slice none 0 0) (fun _ => -2) [] wo from ⟨HB.out, HR.out.congr fun i hi => by rw [if_pos hi], World.ownsRow_nil ..⟩)
      clear HR HB
      go_wp2_with fail
      go_loopw [9, 11, 31] (fun vq _ i wr => ∃ v, v = vq ∧ ((i = .int .i64 0 ∧ v = .slice none 0 0 ∧ Hid (ShAt w nx.length (.slice none 0 0) (fun _ => -2) [] wr)) ∨ (i = .int .i64 1 ∧ Hid (ShAt w nx.length v (bfs (adjOf nx) s 0).par (bfs (adjOf nx) s 0).q wr)))) (fun _ _ i _ => 1 - (intOf i).toNat)
      case atStart => exact ⟨_, rfl, .inl ⟨rfl, rfl, SA0⟩⟩
      case round =>
        obtain ⟨vq, rfl, h⟩ := hrel
        obtain ⟨wi, rfl⟩ : ∃ wi : World, wi = wr := ⟨_, rfl⟩
        clear SA0
        rcases h with ⟨rfl, rfl, HS⟩ | ⟨rfl, HS⟩
        · obtain ⟨bf, of, rfl, hbf, gf⟩ := HF.out _ HS.out.below
          have r1 := HS.out.rpar.2.1 s hs
          have r2 := HS.out.rpar.2.2 s
          have r3 := HS.out.rpar.1
          have HM := hid (HS.out.mark (par' := (bfs (adjOf nx) s 0).par) (u := -1) hs (fun m => rfl))
          clear HS
          go_upto_region 12 with fail
          refine wp_gen (fun W => ShAt w nx.length (.slice none 0 0) (bfs (adjOf nx) s 0).par [] W) HM.out ?_
          clear HM r1 r2 r3 gf hbf
          rintro W1 HM1
          have h0 := below_alloc W1 (.cells #[.int .i64 s] 3)
          have HI := hid (row_one W1 s (by unfold i64; omega))
          have HM2 := hid (HM1.next h0)
          have hz2 := HM1.below.size
          have hz3 : w.heap.size < W1.heap.size := HM1.rpar.1
          clear HM1 h0
          go_wp2_with (at_builtin; refine wp_app_own2 rfl _ _ rfl (w.heap.size + 1) (.slice none 0 0) ([] : List Int) [(s : Int)] (some ⟨W1.heap.size, 0, none⟩) 1 rfl rfl (fun h => by cases h) HM2.out.own (by simp; omega) HI.out (by simp) (by simp) ?_; intro v' w' hv hg hor)
          have HF2 := hid (show ShAt w nx.length v' (bfs (adjOf nx) s 0).par (bfs (adjOf nx) s 0).q w' from HM2.out.app (n := s) hv hg)
          clear hv hg hor HI HM2
          go_wp2_with fail
          go_roundw
          case rel => exact ⟨_, rfl, .inr ⟨by go_num, HF2⟩⟩
          case measure => simp [intOf]
        · have HS0 := HS
          clear HS
          go_wp2_with fail
          go_loopw [9, 12] (fun vq i wr => ∃ (k : Nat) (v : Value), v = vq ∧ i = .int .i64 k ∧ Hid (k ≤ (bfs (adjOf nx) s k).q.length) ∧ Hid (ShAt w nx.length v (bfs (adjOf nx) s k).par (bfs (adjOf nx) s k).q wr) ∧ Hid (∀ (j m : Nat), j < k → (bfs (adjOf nx) s k).q[j]? = some m → isN tgt m = false)) (fun _ i _ => nx.length - (intOf i).toNat)
          case atStart => exact ⟨0, _, rfl, rfl, hid (Nat.zero_le _), HS0, hid (fun j m h => by omega)⟩
          case round =>
            obtain ⟨k, vq, rfl, rfl, HK, HS, HNG⟩ := hrel
            obtain ⟨wi, rfl⟩ : ∃ wi : World, wi = wr := ⟨_, rfl⟩
            clear HS0
            obtain ⟨S, hS⟩ : ∃ S, Hid (bfs (adjOf nx) s k = S) := ⟨_, hid rfl⟩
            have HI := hid (HINV.out k HK.out)
            have HR1 := hid (HRES1.out k)
            have HR2 := hid (HRES2.out k)
            have HPT := hid (HPATH.out k)
            have hlen := HI.out.len
            rw [hS.out] at HK HS HI hlen HNG HR1 HR2 HPT
            by_cases hkq : k < S.q.length
            · obtain ⟨u, hu⟩ : ∃ u, S.q[k]? = some u := ⟨_, List.getElem?_eq_getElem hkq⟩
              have HU := hid hu
              have huN : u < nx.length := HI.out.lt u (q_at hu)
              have hkN : k < nx.length := by omega
              obtain ⟨gq, nq, cq, rfl, z1, z2, z3, z4, z5, z6⟩ : ∃ gq nq cq, vq = .slice (some ⟨gq, 0, none⟩) nq cq ∧ w.heap.size + 1 ≤ gq ∧ gq < wi.heap.size ∧ nq = S.q.length ∧ nq ≤ cq ∧ cq ≤ maxLen ∧ wi.cell? ⟨gq, k, none⟩ = some (.int .i64 u) := by
                obtain ⟨aq, cq, e, _⟩ := HS.out.own.shape
                subst e
                obtain ⟨g, e, h1, h2, h3, h4, h5, h6⟩ := own_at HS.out.own hu
                subst e
                exact ⟨g, _, cq, rfl, h1, h2, h3, h4, h5, h6⟩
              have hkn : (k : Int) < (nq : Int) := by omega
              have hu2 : (u : Int) < (nx.length : Int) := by omega
              have hNQ := hid z3
              have z6' := hid z6
              unfold maxLen at z5
              clear z3 hlen
              go_wp2_with fail
              refine (HCLO.out wi HS.out.below u huN).mono ?_
              rintro e w1 ⟨rfl, hb⟩
              have HS1 := hid (HS.out.next hb)
              have z7 : w1.cell? ⟨gq, k, none⟩ = some (.int .i64 u) := by rw [hb.cell (p := ⟨gq, k, none⟩) z2]; exact z6
              have z8 : gq < w1.heap.size := Nat.lt_of_lt_of_le z2 hb.size
              clear hb HS z6 z2
              generalize hw1 : w1 = wk at *
              clear hw1 z6'
              cases hgv : isN tgt u with
              | true =>
                obtain ⟨l, c1, c2, c3⟩ := HPT.out u HK.out hu
                obtain rfl := HR1.out u l HK.out hu hgv HNG.out c1
                have C1 := hid c1
                have C2 := hid c2
                have C3 := hid c3
                obtain ⟨par, hpar⟩ : ∃ par, Hid (S.par = par) := ⟨_, hid rfl⟩
                rw [hpar.out] at C1 C2
                have RP := hid (show Row wk w.heap.size nx.length (fun m => .int .i64 (par m)) by rw [← hpar.out]; exact HS1.out.rpar)
                have BB := hid HS1.out.below
                clear c1 c2 c3 hgv hu HR1 HR2 HPT HI hS HU
                go_wp2_with fail
                go_loopw [13, 14] (fun x vp wr => ∃ (y : Int) (v : Value) (m : List Nat), v = vp ∧ x = .int .i64 y ∧ Hid (Way par res m y) ∧ Hid (OwnI (w.heap.size + 1) v (ints m) wr) ∧ Hid (Below w.heap.size w wr) ∧ Hid (Row wr w.heap.size nx.length (fun m => .int .i64 (par m)))) (fun _ v _ => 101 - lenV v)
                case atStart => exact ⟨u, _, [], rfl, rfl, hid (.inr ⟨u, res, rfl, C1.out, by simp⟩), hid (World.ownsRow_nil ..), BB, RP⟩
                case round =>
                  obtain ⟨y, vp, m, rfl, rfl, HW, HO, HB, HR⟩ := hrel
                  obtain ⟨wo, rfl⟩ : ∃ wo : World, wo = wr := ⟨_, rfl⟩
                  clear RP BB HS1 z7 z8
                  rcases HW.out with ⟨rfl, hm⟩ | ⟨v, l1, rfl, h1, h2⟩
                  · have hne : 0 < m.length := by rw [hm, List.length_reverse]; exact C1.out.pos
                    obtain ⟨gm, cm, rfl, _⟩ : ∃ gm cm, vp = .slice (some ⟨gm, 0, none⟩) (ints m).length cm ∧ w.heap.size + 1 ≤ gm := by
                      rcases HO.out.row with ⟨e, _⟩ | ⟨g, c', e, h1, _⟩
                      · have := congrArg List.length e; rw [ints_len, List.length_nil] at this; omega
                      · exact ⟨g, c', e, h1⟩
                    have hgm := (HO.out.blk gm rfl).1
                    have HRE := hid (reverse_any (ints m) wo (w.heap.size + 1) gm cm HO.out)
                    have HEQ := hid (show (ints m).reverse = ints res by rw [hm]; simp [ints])
                    clear HW hm
                    go_wp2_with fail
                    refine HRE.out.mono ?_
                    rintro e w2 ⟨rfl, ho2, hb2⟩
                    have HO2 := hid ho2
                    have HB2 := hid (hb2.new HB.out (by omega))
                    rw [HEQ.out] at HO2
                    have hlm : (ints m).length = (ints res).length := by rw [← HEQ.out, List.length_reverse]
                    rw [hlm] at HO2
                    have HLM := hid hlm
                    clear ho2 hb2 HRE HO HB HR hlm
                    go_wp2_with fail
                    rw [HLM.out]
                    refine (sclip_any (ints res) w2 _ (fun _ => trivial) (w.heap.size + 1) HO2.out (by rw [ints_len]; have := C2.out.small; omega)).mono ?_
                    rintro e w3 ⟨v, rfl, hv, hb⟩
                    have HV := hid hv
                    have HB3 := hid (below_next HB2.out hb)
                    clear hv hb
                    go_wp2_with fail
                    go_ret
                    exact RetP.mk (by obtain ⟨a, c, bs, h1, h2, h3, h4, h5⟩ := HV.out; exact ⟨a, c, bs, h1, h2, h3, h4, fun b hb => by have := h5 b hb; omega⟩) HB3.out
                  · have hvN : v < nx.length := C2.out.lt v (by
                      rw [← h2]
                      exact List.mem_append.2 (.inl (by rcases chain_cases h1 with ⟨_, e⟩ | ⟨_, _, _, _, e⟩ <;> simp [e])))
                    have HW2 := hid (way_step h1 h2)
                    have hml : m.length ≤ 100 := by
                      have := C2.out.small
                      have h3 := congrArg List.length h2
                      rw [List.length_append, List.length_reverse] at h3
                      omega
                    have r1 := HR.out.2.1 v hvN
                    have r3 := HR.out.1
                    have hv2 : (v : Int) < (nx.length : Int) := by omega
                    obtain ⟨am, cm, rfl, m1, m2, _⟩ := HO.out.shape
                    have h0 := below_alloc wo (.cells #[.int .i64 v] 3)
                    have HI := hid (row_one wo v (by unfold i64; omega))
                    have HO1 := hid (HO.out.next h0)
                    have HB1 := hid (below_next HB.out h0)
                    have HR1 := hid (HR.out.below h0)
                    have hz2 := HB.out.size
                    clear HW h1 h2
                    go_wp2_with (at_builtin; refine wp_app_own2 rfl _ _ rfl (w.heap.size + 1) (.slice am (ints m).length cm) (ints m) [(v : Int)] (some ⟨wo.heap.size, 0, none⟩) 1 rfl rfl (fun h => by cases h) HO1.out (by simp; omega) HI.out (by rw [ints_len]; omega) (by simp) ?_; intro v' w' hv hg hor; (have HOF := hid (show OwnI (w.heap.size + 1) v' (ints (m ++ [v])) w' by rw [show ints (m ++ [v]) = ints m ++ [(v : Int)] by simp [ints]]; exact hv)); (have HBF := hid (below_own HB1.out (HO1.out.mono (Nat.le_succ _)) (Nat.le_refl _) hg)); (have HRF := hid (HR1.out.kept hg.size (hg.block _ HR1.out.1 (fun e => by have := (HO1.out.blk _ e.symm).1; omega)))); (have q1 := HRF.out.2.1 v hvN); (have q3 := HRF.out.1); (have HLV := hid (show lenV v' = (ints m).length + 1 by obtain ⟨aq, cq, e, _⟩ := hv.shape; rw [e]; show (ints m ++ [(v : Int)]).length = _; simp)); clear hv hg hor)
                    go_roundw
                    case rel => exact ⟨_, _, m ++ [v], rfl, rfl, HW2, HOF, HBF, HRF⟩
                    case measure => rw [HLV.out]; simp only [lenV]; rw [ints_len]; omega
              | false =>
                have HNG2 := hid (show ∀ (j m : Nat), j < k + 1 → (bfs (adjOf nx) s (k + 1)).q[j]? = some m → isN tgt m = false from fun j m hj hm => by
                  have hE := bfs_ext hs HAD.out k 1
                  rw [hS.out] at hE
                  have hjl : j < S.q.length := by omega
                  have h3 := hE.at (List.getElem?_eq_getElem hjl)
                  rw [h3] at hm
                  obtain rfl := Option.some.inj hm
                  by_cases e : j = k
                  · subst e
                    rw [List.getElem?_eq_getElem hjl] at hu
                    obtain rfl := Option.some.inj hu
                    exact hgv
                  · exact HNG.out j _ (by omega) (List.getElem?_eq_getElem hjl))
                obtain ⟨r, hr⟩ : ∃ r, Hid (nx[u] = r) := ⟨_, hid rfl⟩
                have HADJ := hid (show adjOf nx u = r.map Int.toNat by rw [adj_at huN, hr.out])
                have HRG := hid (show ∀ x, x ∈ r → 0 ≤ x ∧ x < nx.length from fun x hx => HGD.out r (by rw [← hr.out]; exact List.getElem_mem huN) x hx)
                have HPU := hid (show ∀ m, Inv nx.length (adjOf nx) s (pushes u S ((r.map Int.toNat).take m)) k ([] ++ (r.map Int.toNat).take m) ∧ (pushes u S ((r.map Int.toNat).take m)).q[k]? = some u from fun m =>
                  Inv.pushes _ [] S HI.out hu fun n hn => ⟨by rw [HADJ.out]; exact List.mem_of_mem_take hn, HAD.out u huN n (by rw [HADJ.out]; exact List.mem_of_mem_take hn)⟩)
                have HFIN := hid (show pushes u S ((r.map Int.toNat).take r.length) = bfs (adjOf nx) s (k + 1) by
                  rw [bfs, hS.out, opn_eq hu, HADJ.out, List.take_of_length_le (by simp)])
                obtain ⟨b0, o0, a1, c1, rfl, hb0, _, g0, k1, k2, hrow⟩ := rows_at HL.out huN
                rw [hr.out] at g0 k1 hrow
                have HRI := hid (show ∀ W, Below w.heap.size w W → IntsIn Any W a1 r from fun W M => hrow.below M)
                replace g0 : wk.cell? ⟨b0, o0 + u, none⟩ = some (.slice a1 r.length c1) := by rw [HS1.out.below.cell (p := ⟨b0, o0 + u, none⟩) hb0]; exact g0
                replace hb0 : b0 < wk.heap.size := Nat.lt_of_lt_of_le hb0 HS1.out.below.size
                have HSS0 := hid (show ShAt w nx.length (.slice (some ⟨gq, 0, none⟩) nq cq) (pushes u S ((r.map Int.toNat).take 0)).par (pushes u S ((r.map Int.toNat).take 0)).q wk from HS1.out)
                unfold maxLen at k2
                clear hrow hu HI hS HR1 HR2 HPT HNG hgv
                go_wp2_with fail
                go_loopw [9, 16, 78] (fun vq _ i wr => ∃ (m : Nat) (v : Value), v = vq ∧ i = .int .i64 m ∧ m ≤ r.length ∧ Hid (ShAt w nx.length v (pushes u S ((r.map Int.toNat).take m)).par (pushes u S ((r.map Int.toNat).take m)).q wr)) (fun _ _ i _ => r.length - (intOf i).toNat)
                case atStart => exact ⟨0, _, rfl, rfl, Nat.zero_le _, HSS0⟩
                case round =>
                  obtain ⟨m, vq, rfl, rfl, hm, HS⟩ := hrel
                  obtain ⟨wj, rfl⟩ : ∃ wj : World, wj = wr := ⟨_, rfl⟩
                  obtain ⟨T, hT⟩ : ∃ T, Hid (pushes u S ((r.map Int.toNat).take m) = T) := ⟨_, hid rfl⟩
                  obtain ⟨hiT, hqT⟩ := HPU.out m
                  rw [hT.out] at HS hiT hqT
                  have HIT := hid hiT
                  have hTlen := hiT.len
                  have HROW := hid (HRI.out wj HS.out.below)
                  clear hiT HSS0 HS1 z7 z8 g0 hb0
                  obtain ⟨gq, nq, cq, rfl, z1, z2, z3, z4, z5, z6⟩ : ∃ gq nq cq, vq = .slice (some ⟨gq, 0, none⟩) nq cq ∧ w.heap.size + 1 ≤ gq ∧ gq < wj.heap.size ∧ nq = T.q.length ∧ nq ≤ cq ∧ cq ≤ maxLen ∧ wj.cell? ⟨gq, k, none⟩ = some (.int .i64 u) := by
                    obtain ⟨aq, cq, e, _⟩ := HS.out.own.shape
                    subst e
                    obtain ⟨g, e, h1, h2, h3, h4, h5, h6⟩ := own_at HS.out.own hqT
                    subst e
                    exact ⟨g, _, cq, rfl, h1, h2, h3, h4, h5, h6⟩
                  have hkn2 : (k : Int) < (nq : Int) := by have := (List.getElem?_eq_some_iff.1 hqT).1; omega
                  have hNQ2 := hid z3
                  unfold maxLen at z5
                  clear z3
                  by_cases hmr : m < r.length
                  · have hmr2 : (m : Int) < (r.length : Int) := by omega
                    obtain ⟨b5, o5, rfl, hb5, _, g5, _⟩ := ints_at HROW.out (Below.refl _ _) hmr
                    obtain ⟨hx0, hxN⟩ := HRG.out r[m] (List.getElem_mem hmr)
                    obtain ⟨n, hn⟩ : ∃ n : Nat, r[m] = (n : Int) := ⟨r[m].toNat, by omega⟩
                    have hnm : (r.map Int.toNat)[m]? = some n := by rw [List.getElem?_map, List.getElem?_eq_getElem hmr, hn]; rfl
                    have HT1 := hid (show pushes u S ((r.map Int.toNat).take (m + 1)) = push u T n by rw [pushes_succ hnm, hT.out])
                    rw [hn] at g5 hx0 hxN
                    have hnN : n < nx.length := by omega
                    have p1 : wj.cell? ⟨w.heap.size, n, none⟩ = some (.int .i64 (T.par n)) := HS.out.rpar.2.1 n hnN
                    have p2 := HS.out.rpar.2.2 n
                    have p3 := HS.out.rpar.1
                    clear hn hnm hqT hT
                    by_cases hse : T.par n = -2
                    · rw [hse] at p1
                      have hpn := push_new (u := u) hse
                      rw [hpn] at HT1
                      have HM := hid (HS.out.mark (par' := fun m => if m = n then (u : Int) else T.par m) hnN (fun m => rfl))
                      clear hse hpn
                      go_upto_region 30 with fail
                      refine wp_gen (fun W => ShAt w nx.length (.slice (some ⟨gq, 0, none⟩) nq cq) (fun m => if m = n then (u : Int) else T.par m) T.q W) HM.out ?_
                      clear HM p1 p2 p3 g5 hb5 z6 z2 HS HROW
                      rintro W1 HM1
                      have h0 := below_alloc W1 (.cells #[.int .i64 n] 3)
                      have HI := hid (row_one W1 n (by unfold i64; omega))
                      have HM2 := hid (HM1.next h0)
                      have hz2 := HM1.below.size
                      have hz3 : w.heap.size < W1.heap.size := HM1.rpar.1
                      clear HM1 h0
                      go_wp2_with (at_builtin; refine wp_app_own2 rfl _ _ rfl (w.heap.size + 1) (.slice (some ⟨gq, 0, none⟩) nq cq) (ints T.q) [(n : Int)] (some ⟨W1.heap.size, 0, none⟩) 1 rfl rfl (fun h => by cases h) HM2.out.own (by simp; omega) HI.out (by rw [ints_len]; omega) (by simp) ?_; intro v' w' hv hg hor)
                      have HF2 := hid (HM2.out.app hv hg)
                      clear hv hg hor HI HM2
                      go_wp2_with fail
                      go_roundw
                      case rel => exact ⟨m + 1, _, rfl, by go_num, by omega, hid (by rw [HT1.out]; exact HF2.out)⟩
                      case measure => simp [intOf]; omega
                    · have e1 : (T.par n == -2) = false := by simpa using hse
                      have HT2 := hid (show pushes u S ((r.map Int.toNat).take (m + 1)) = T by rw [HT1.out, push_old hse])
                      clear hse HT1
                      generalize T.par n = pn at *
                      go_wp2_with fail
                      go_roundw
                      case rel => exact ⟨m + 1, _, rfl, by go_num, by omega, hid (by rw [HT2.out]; exact HS.out)⟩
                      case measure => simp [intOf]; omega
                  · obtain rfl : m = r.length := by omega
                    have hml : ¬ ((r.length : Int) < (r.length : Int)) := by omega
                    have HS2 := hid (show ShAt w nx.length (.slice (some ⟨gq, 0, none⟩) nq cq) (bfs (adjOf nx) s (k + 1)).par (bfs (adjOf nx) s (k + 1)).q wj by rw [← HFIN.out, hT.out]; exact HS.out)
                    have HK2 := hid (show k + 1 ≤ (bfs (adjOf nx) s (k + 1)).q.length by
                      rw [← HFIN.out, hT.out]
                      have := (List.getElem?_eq_some_iff.1 hqT).1; omega)
                    clear HS hT hqT
                    go_wp2_with fail
                    go_roundw
                    case rel => exact ⟨k + 1, _, rfl, by go_num, HK2, HS2, HNG2⟩
                    case measure => simp [intOf]; omega
            · have hkk : k = S.q.length := by have := HK.out; omega
              have HN := hid (show res = [] from HR2.out hkk.symm (fun i m hm => HNG.out i m (by have := (List.getElem?_eq_some_iff.1 hm).1; omega) hm))
              obtain rfl := HN.out
              obtain ⟨aq, cq, rfl, e1, e2, e3⟩ := HS.out.own.shape
              obtain ⟨L, hL⟩ : ∃ L, Hid ((ints S.q).length = L) := ⟨_, hid rfl⟩
              have hkL : ¬ ((k : Int) < (L : Int)) := by have := hL.out; rw [ints_len] at this; omega
              have HB := hid HS.out.below
              rw [hL.out]
              clear HS HI HK HR1 HR2 HPT HNG hS hkk hkq
              go_wp2_with fail
              go_ret
              exact RetP.mk ⟨none, 0, [], rfl, Nat.le_refl _, by simp, .inl ⟨rfl, rfl⟩, by simp⟩ HB.out
end Bfs
end Go.Proofs.Ytfemikebklmlpaa
namespace Go.Proofs.Ytfemikebklmlpaa
set_option linter.unusedVariables false
set_option linter.unusedSimpArgs false
namespace Bfs
open Gr

theorem chain_good {N s : Nat} {adj : Nat → List Nat} {S : St} {i : Nat} {r : List Nat} (hI : Inv N adj s S i r) : ∀ (m n : Nat) (l : List Nat), S.q[m]? = some n → Chain S.par n l →
    l[0]? = some s ∧ l.getLast? = some n ∧ ∀ (a u v : Nat), l[a]? = some u → l[a + 1]? = some v → v ∈ adj u ∧ ∃ j, j < m ∧ S.q[j]? = some u := by
  intro m
  induction m using Nat.strongRecOn with
  | ind m ih =>
    intro n l hn hc
    have hlast := hc.last
    by_cases e : m = 0
    · subst e
      rw [hI.fst] at hn
      obtain rfl := Option.some.inj hn
      obtain rfl := hc.det (.root hI.root.1)
      exact ⟨rfl, rfl, fun a u v h1 h2 => by cases a <;> simp at h2⟩
    · obtain ⟨j, u, h1, _, _, h4, h5, h6, _⟩ := hI.par m n (by omega) hn
      cases hc with
      | root h => omega
      | @step _ u' l' h k =>
        have hu : u' = u := by omega
        subst hu
        obtain ⟨k1, k2, k3⟩ := ih j h1 u' l' h4 k
        have hpos := k.pos
        refine ⟨by rw [List.getElem?_append_left hpos]; exact k1, hlast, fun a x y hx hy => ?_⟩
        by_cases ha : a + 1 < l'.length
        · rw [List.getElem?_append_left (by omega)] at hx
          rw [List.getElem?_append_left ha] at hy
          obtain ⟨q1, jj, q2, q3⟩ := k3 a x y hx hy
          exact ⟨q1, jj, by omega, q3⟩
        · have hal : a + 1 = l'.length := by
            have := (List.getElem?_eq_some_iff.1 hy).1
            simp at this; omega
          rw [List.getElem?_append_right (by omega)] at hy
          have e0 : a + 1 - l'.length = 0 := by omega
          rw [e0] at hy
          simp at hy
          subst hy
          rw [List.getElem?_append_left (by omega)] at hx
          rw [List.getLast?_eq_getElem?, show l'.length - 1 = a by omega, hx] at k2
          obtain rfl := Option.some.inj k2
          exact ⟨h6, j, h1, h4⟩
/-- what is good about a way -/
structure WuGood (adj : Nat → List Nat) (s : Nat) (goal : Nat → Bool) (l : List Nat) : Prop where
  fst : l[0]? = some s
  last : ∃ n, l.getLast? = some n ∧ goal n = true
  edge : ∀ (a u v : Nat), l[a]? = some u → l[a + 1]? = some v → v ∈ adj u ∧ goal u = false
section
variable {N s : Nat} {adj : Nat → List Nat}
theorem wu_cases (hs : s < N) (hA : ∀ u, u < N → ∀ n, n ∈ adj u → n < N) (goal : Nat → Bool) :
    (wuL adj N s goal = [] ∧ ∀ (k : Nat), (bfs adj s k).q.length = k → ∀ (n : Nat), n ∈ (bfs adj s k).q → goal n = false) ∨ (WuGood adj s goal (wuL adj N s goal) ∧ ∃ (k m n : Nat), (bfs adj s k).q.length = k ∧ (bfs adj s k).q[m]? = some n ∧ goal n = true ∧ Chain (bfs adj s k).par n (wuL adj N s goal)) := by
  obtain ⟨k, hk, hkN⟩ := bfs_end (s := s) (adj := adj) hs hA
  have hj := Nat.le_of_eq hk.symm
  have hI := bfs_inv hs hA k hj
  have hfin : bfs adj s N = bfs adj s k := bfs_done (Nat.le_of_eq hk) N hkN
  cases hf : (bfs adj s k).q.find? goal with
  | none =>
    left
    refine ⟨by unfold wuL; rw [hfin, hf], fun k' hk' n hn => ?_⟩
    have : (bfs adj s k').q = (bfs adj s k).q := by
      rcases Nat.le_total k k' with h | h
      · rw [bfs_done (Nat.le_of_eq hk) k' h]
      · rw [bfs_done (Nat.le_of_eq hk') k h]
    rw [this] at hn
    have h2 := List.find?_eq_none.1 hf n hn
    cases hg : goal n with
    | false => rfl
    | true => exact absurd hg h2
  | some n =>
    right
    obtain ⟨hg, m, hm, hmn, hbef⟩ := List.find?_eq_some_iff_getElem.1 hf
    have hq : (bfs adj s k).q[m]? = some n := by rw [List.getElem?_eq_getElem hm, hmn]
    have hb : ∀ (j x : Nat), j < m → (bfs adj s k).q[j]? = some x → goal x = false := fun j x hjm hx => by
      have h2 := hbef j hjm
      obtain ⟨_, h3⟩ := List.getElem?_eq_some_iff.1 hx
      rw [h3] at h2
      simpa using h2
    obtain ⟨l, c1, _, _, _⟩ := hI.chain m n hq
    have hl : wuL adj N s goal = l := wu_at hs hA hj hq hg hb c1
    rw [hl]
    obtain ⟨k1, k2, k3⟩ := chain_good hI m n l hq c1
    exact ⟨⟨k1, ⟨n, k2, hg⟩, fun a u v h1 h2 => by
      obtain ⟨q1, j, q2, q3⟩ := k3 a u v h1 h2
      exact ⟨q1, hb j u q2 q3⟩⟩, k, m, n, hk, hq, hg, c1⟩
/-- whatever a path leads to is found, and not deeper than the path is long -/
theorem depth_le (hs : s < N) (hA : ∀ u, u < N → ∀ n, n ∈ adj u → n < N) {k : Nat} (hk : (bfs adj s k).q.length = k) {p : List Nat} (h0 : p[0]? = some s) (he : ∀ (a u v : Nat), p[a]? = some u → p[a + 1]? = some v → v ∈ adj u) :
    ∀ (i n : Nat), p[i]? = some n → n ∈ (bfs adj s k).q ∧ (bfs adj s k).d n ≤ i + 1
  | 0, n, h => by
    have hI := bfs_inv hs hA k (Nat.le_of_eq hk.symm)
    rw [h0] at h
    obtain rfl := Option.some.inj h
    exact ⟨List.mem_of_getElem? hI.fst, by rw [hI.root.2]; omega⟩
  | i + 1, n, h => by
    have hI := bfs_inv hs hA k (Nat.le_of_eq hk.symm)
    have hil : i < p.length := by have := (List.getElem?_eq_some_iff.1 h).1; omega
    obtain ⟨u, hu⟩ : ∃ u, p[i]? = some u := ⟨_, List.getElem?_eq_getElem hil⟩
    obtain ⟨h1, h2⟩ := depth_le hs hA hk h0 he i u hu
    obtain ⟨j, hj⟩ := List.mem_iff_getElem?.1 h1
    obtain ⟨h3, h4⟩ := hI.done j u (by have := (List.getElem?_eq_some_iff.1 hj).1; omega) hj n (he i u n hu h)
    exact ⟨h3, by omega⟩
/-- the shortest way in a wider graph is no longer -/
theorem short_le (hs : s < N) (hA : ∀ u, u < N → ∀ n, n ∈ adj u → n < N) {p : List Nat} {t : Nat} (h0 : p[0]? = some s) (hl : p.getLast? = some t) (he : ∀ (a u v : Nat), p[a]? = some u → p[a + 1]? = some v → v ∈ adj u) :
    (wuL adj N s (isN t)).length ≤ p.length := by
  rcases wu_cases hs hA (isN t) with ⟨h, _⟩ | ⟨_, k, m, n, hk, hm, hg, hc⟩
  · rw [h]; exact Nat.zero_le _
  · have hI := bfs_inv hs hA k (Nat.le_of_eq hk.symm)
    obtain rfl : n = t := by simpa [isN] using hg
    obtain ⟨l, c1, c2, _⟩ := hI.chain m n hm
    rw [hc.det c1, c2]
    rw [List.getLast?_eq_getElem?] at hl
    have hpos : 0 < p.length := (List.getElem?_eq_some_iff.1 h0).1
    have := (depth_le hs hA hk h0 he (p.length - 1) n hl).2
    omega
end
end Bfs
end Go.Proofs.Ytfemikebklmlpaa
