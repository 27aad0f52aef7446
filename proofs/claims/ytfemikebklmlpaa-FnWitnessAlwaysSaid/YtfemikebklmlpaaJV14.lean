/- Joined texts (SeaS, CountS, StatesS): contracts and plain laws. Conditions: those of each theorem. -/
import Derived.Test.YtfemikebklmlpaaJV1
import Derived.Test.YtfemikebklmlpaaJV13
import Derived.Test.YtfemikebklmlpaaJV3
import Derived.Test.YtfemikebklmlpaaJV4
import Derived.Test.YtfemikebklmlpaaJV2
import Derived.Test.YtfemikebklmlpaaJV5
import Derived.Deep.DeepCutAuto
import Derived.Deep.CutBlock
set_option linter.unusedVariables false
set_option linter.unusedSimpArgs false
namespace Go.Proofs.Ytfemikebklmlpaa
open Go.RowKit
set_option linter.unusedVariables false
set_option linter.unusedSimpArgs false

theorem OwnI.one (w : World) (x : Int) : OwnI w.heap.size (.slice (some ⟨w.heap.size, 0, none⟩) 1 1) [x] (w.alloc (.cells #[.int .i64 x] 3)) :=
  ⟨by simp, .inr ⟨w.heap.size, 1, #[.int .i64 x], rfl, Nat.le_refl _, heap_alloc_new w _, Nat.le_refl _, by unfold maxLen; omega, rfl, by simp⟩⟩
namespace Bfs
open Gr

/-- a row that may be appended -/
def Arr (t : List Int) (v : Value) (w : World) : Prop := ∃ a c, v = .slice a t.length c ∧ IntsIn Any w a t ∧ t.length ≤ c ∧ c ≤ maxLen ∧ (a = none → c = 0)
theorem Arr.below {t : List Int} {v : Value} {w w' : World} (h : Arr t v w) (hb : Below w.heap.size w w') : Arr t v w' := by
  obtain ⟨a, c, h1, h2, h3⟩ := h
  exact ⟨a, c, h1, h2.below hb, h3⟩
theorem own_arr {B : Nat} {v : Value} {t : List Int} {w : World} (h : OwnI B v t w) (hi : ∀ n, n ∈ t → i64 n) : Arr t v w := by
  obtain ⟨a, c, rfl, h1, h2, h3⟩ := h.shape
  exact ⟨a, c, rfl, h.ints2 hi, h1, h2, h3⟩
/-- nodes as numbers -/
def ints (q : List Nat) : List Int := q.map fun (n : Nat) => (n : Int)
theorem ints_len (q : List Nat) : (ints q).length = q.length := by simp [ints]
def adjOf (nx : List (List Int)) (u : Nat) : List Nat := (nx.getD u []).map Int.toNat
/-- rows of numbers below N -/
def Good (nx : List (List Int)) : Prop := ∀ r, r ∈ nx → ∀ x, x ∈ r → 0 ≤ x ∧ x < nx.length
theorem Good.adj {nx : List (List Int)} (h : Good nx) : ∀ u, u < nx.length → ∀ n, n ∈ adjOf nx u → n < nx.length := by
  intro u hu n hn
  unfold adjOf at hn
  rw [List.mem_map] at hn
  obtain ⟨x, hx, rfl⟩ := hn
  have hr : nx.getD u [] ∈ nx := by
    rw [List.getD_eq_getElem?_getD, List.getElem?_eq_getElem hu]; exact List.getElem_mem hu
  have := h _ hr x hx
  omega
theorem adj_at {nx : List (List Int)} {u : Nat} (hu : u < nx.length) : adjOf nx u = nx[u].map Int.toNat := by
  rw [adjOf, List.getD_eq_getElem?_getD, List.getElem?_eq_getElem hu]; rfl
theorem pushes_succ {u : Nat} {S : St} {l : List Nat} {m n : Nat} (h : l[m]? = some n) : pushes u S (l.take (m + 1)) = push u (pushes u S (l.take m)) n := by
  have : l.take (m + 1) = l.take m ++ [n] := by rw [List.take_add_one, h]; rfl
  rw [this]; unfold pushes; rw [List.foldl_append]; rfl
theorem opn_eq {adj : Nat → List Nat} {S : St} {k u : Nat} (h : S.q[k]? = some u) : opn adj S k = pushes u S (adj u) := by unfold opn; rw [h]
theorem own_at {B : Nat} {a : Option Addr} {n c : Nat} {q : List Nat} {w : World} {k u : Nat} (h : OwnI B (.slice a n c) (ints q) w) (hk : q[k]? = some u) : ∃ g, a = some ⟨g, 0, none⟩ ∧ B ≤ g ∧ g < w.heap.size ∧ n = q.length ∧ n ≤ c ∧ c ≤ maxLen ∧ w.cell? ⟨g, k, none⟩ = some (.int .i64 u) := by
  have hkl : k < q.length := (List.getElem?_eq_some_iff.1 hk).1
  rcases h.row with ⟨e, _⟩ | ⟨g, c', e, h1, h2, h3, h4⟩
  · have : q.length = 0 := by rw [← ints_len, e]; rfl
    omega
  · simp at e
    obtain ⟨rfl, rfl, rfl⟩ := e
    refine ⟨g, rfl, h1, h4.1, ints_len q, h2, h3, ?_⟩
    rw [h4.2.1 k (by rw [ints_len]; exact hkl)]
    show some (((ints q).map (Value.int .i64)).getD k undef) = _
    rw [List.getD_eq_getElem?_getD, ints, List.map_map, List.getElem?_map, hk]; rfl

/-- what a predecessor is to the reference -/
def pv (p : Int) : Int := if p = -2 then -1 else p
/-- in the reference's search: gp holds the predecessors, gs what was seen, vq is the queue -/
structure SeaAt (w : World) (gp gs N : Nat) (vq : Value) (par : Nat → Int) (q : List Nat) (wr : World) : Prop where
  below : Below w.heap.size w wr
  rpar : Row wr gp N (fun m => .int .i64 (pv (par m)))
  rseen : Row wr gs N (fun m => .bool (decide (par m ≠ -2)))
  own : OwnI w.heap.size vq (ints q) wr
  newp : w.heap.size ≤ gp
  news : w.heap.size ≤ gs
  ne : gp ≠ gs
  nep : ∀ g, vq.ownBlock = some g → g ≠ gp ∧ g ≠ gs
theorem SeaAt.next {w : World} {gp gs N : Nat} {vq : Value} {par : Nat → Int} {q : List Nat} {wr w' : World} (h : SeaAt w gp gs N vq par q wr) (hb : Below wr.heap.size wr w') : SeaAt w gp gs N vq par q w' :=
  { h with below := below_next h.below hb, rpar := h.rpar.below hb, rseen := h.rseen.below hb, own := h.own.next hb }
theorem SeaAt.mark {w : World} {gp gs N : Nat} {vq : Value} {par par' : Nat → Int} {q : List Nat} {wr : World} {n : Nat} {u : Int} (h : SeaAt w gp gs N vq par q wr) (hn : n < N) (hu : u ≠ -2) (hp : ∀ m, par' m = if m = n then u else par m) :
    SeaAt w gp gs N vq par' q ((wr.setCell ⟨gs, n, none⟩ (.bool true)).setCell ⟨gp, n, none⟩ (.int .i64 u)) where
  below := (h.below.setCell h.news _).setCell h.newp _
  rpar := ((h.rpar.setOther (a := ⟨gs, n, none⟩) (show gp ≠ gs from h.ne) _).set hn _).congr fun i hi => by
    rw [hp]
    by_cases e : i = n
    · rw [if_pos e, if_pos e, pv, if_neg hu]
    · rw [if_neg e, if_neg e]
  rseen := ((h.rseen.set hn _).setOther (a := ⟨gp, n, none⟩) (show gs ≠ gp from Ne.symm h.ne) _).congr fun i hi => by
    rw [hp]
    by_cases e : i = n
    · rw [if_pos e, if_pos e]; simp [hu]
    · rw [if_neg e, if_neg e]
  own := (h.own.set (fun g h1 _ => (h.nep g h1).2) _).set (fun g h1 _ => (h.nep g h1).1) _
  newp := h.newp
  news := h.news
  ne := h.ne
  nep := h.nep
theorem SeaAt.app {w : World} {gp gs N : Nat} {vq v' : Value} {par : Nat → Int} {q : List Nat} {wr w' : World} {n : Nat} (h : SeaAt w gp gs N vq par q wr) (hv : OwnI w.heap.size v' (ints q ++ [(n : Int)]) w') (hg : wr.grownBy w' vq.ownBlock) (hor : v'.ownBlock = vq.ownBlock ∨ v'.ownBlock = some wr.heap.size) :
    SeaAt w gp gs N v' par (q ++ [n]) w' where
  below := below_own h.below h.own (Nat.le_refl _) hg
  rpar := h.rpar.kept hg.size (hg.block gp h.rpar.1 (fun e => (h.nep gp e.symm).1 rfl))
  rseen := h.rseen.kept hg.size (hg.block gs h.rseen.1 (fun e => (h.nep gs e.symm).2 rfl))
  own := by rw [show ints (q ++ [n]) = ints q ++ [(n : Int)] by simp [ints]]; exact hv
  newp := h.newp
  news := h.news
  ne := h.ne
  nep g hg' := by
    rcases hor with e | e
    · exact h.nep g (by rw [← e]; exact hg')
    · rw [e] at hg'
      have e2 : wr.heap.size = g := by simpa using hg'
      have := h.rpar.1
      have := h.rseen.1
      constructor <;> omega

/-- what the reference's search comes to -/
def SeaPost (nx : List (List Int)) (s : Nat) (w : World) (e : Ending) (w' : World) : Prop := ∃ k vp vq, e = .returned (.tuple #[vp, vq]) ∧ (bfs (adjOf nx) s k).q.length = k ∧
  Arr ((List.range nx.length).map fun m => pv ((bfs (adjOf nx) s k).par m)) vp w' ∧ Arr (ints (bfs (adjOf nx) s k).q) vq w' ∧ Below w.heap.size w w'

set_option maxRecDepth 100000 in
set_option maxHeartbeats 4000000 in
theorem search_any (nx : List (List Int)) (s : Nat) (w : World) (a : Option Addr) (c : Nat) (hl : Gr.RowsIn Any w nx a) (hc : nx.length ≤ c) (hc2 : c ≤ maxLen) (hs : s < nx.length) (hN : nx.length ≤ 60) (hgood : Good nx) : Calls Try.prog 40 #[.slice a nx.length c, .int .i64 s] w (SeaPost nx s w) := by
  have HL := hid hl
  have HGD := hid hgood
  have HAD := hid hgood.adj
  have hmk := make_bools nx.length (by omega)
  unfold maxLen at hc2
  clear hl hgood
  go_enter Try.func40, Try.ntmps40
  go_wp2_with fail
  have D0 := below_next (below_alloc w (.cells #[] 3)) (below_alloc _ (.cells (zerosB nx.length) 4))
  have O0 := hid ((OwnI.made w).next (below_alloc (w.alloc (.cells #[] 3)) (.cells (zerosB nx.length) 4)))
  have R0 := hid (show Row ((w.alloc (.cells #[] 3)).alloc (.cells (zerosB nx.length) 4)) (w.heap.size + 1) nx.length (fun _ => .bool false) from by
    have h := row_new (w := w.alloc (.cells #[] 3)) (cs := zerosB nx.length) (n := nx.length) (by rw [zerosB, size_madeCells]) 4
    rw [World.size_alloc] at h
    exact h.congr fun i hi => by simp [zerosB, madeCells, hi, Nat.mod_one, Array.getD])
  go_loopw [6, 8] (fun vp i wr => ∃ (k : Nat) (v : Value), v = vp ∧ k ≤ nx.length ∧ i = .int .i64 k ∧ Hid (OwnI w.heap.size v (List.replicate k (-1)) wr) ∧ Hid (Below w.heap.size w wr) ∧ Hid (Row wr (w.heap.size + 1) nx.length (fun _ => .bool false)) ∧ Hid (∀ g, v.ownBlock = some g → g ≠ w.heap.size + 1)) (fun _ i _ => nx.length - (intOf i).toNat)
  case atStart => exact ⟨0, _, rfl, Nat.zero_le _, rfl, O0, hid D0, R0, hid (fun g h => by simp [Value.ownBlock] at h; omega)⟩
  case round =>
    obtain ⟨k, vp, rfl, hk, rfl, HO, HB, HR, HNE⟩ := hrel
    obtain ⟨wo, rfl⟩ : ∃ wo : World, wo = wr := ⟨_, rfl⟩
    clear O0 R0
    by_cases hlt : k < nx.length
    · have hlt2 : (k : Int) < (nx.length : Int) := by omega
      have h0 := below_alloc wo (.cells #[.int .i64 (-1)] 3)
      have hbs := HB.out.size
      obtain ⟨a1, c1, rfl, e1, e2, e3⟩ := HO.out.shape
      have HO1 := hid (HO.out.next h0)
      have HI := hid (row_one wo (-1) (by unfold i64; omega))
      go_wp2_with (at_builtin; refine wp_app_own2 rfl _ _ rfl w.heap.size (.slice a1 (List.replicate k (-1)).length c1) (List.replicate k (-1)) [-1] (some ⟨wo.heap.size, 0, none⟩) 1 rfl rfl (fun h => by cases h) HO1.out (by simp; omega) HI.out (by simp; omega) (by simp) ?_; intro v' w' hv hg hor)
      have BB := hid (below_own (below_next HB.out h0) HO1.out (Nat.le_refl _) hg)
      have HV := hid (show OwnI w.heap.size v' (List.replicate (k + 1) (-1)) w' by rw [List.replicate_succ']; exact hv)
      have RR := hid ((HR.out.below h0).kept hg.size (hg.block (w.heap.size + 1) (by have := HR.out.1; simp; omega) (fun e => HNE.out _ e.symm rfl)))
      have NN := hid (show ∀ g, v'.ownBlock = some g → g ≠ w.heap.size + 1 from fun g hg' => by
        rcases hor with e | e
        · exact HNE.out g (by rw [← e]; exact hg')
        · rw [e] at hg'; simp at hg'; have := HR.out.1; omega)
      clear hv hg hor h0 HO1 HI HO HB HR HNE
      go_wp2_with fail
      go_roundw
      case rel => exact ⟨k + 1, _, rfl, by omega, by go_num, HV, BB, RR, NN⟩
      case measure => simp [intOf]; omega
    · obtain rfl : k = nx.length := by omega
      obtain ⟨gp, cp, rfl, g1, g2, g3, g4⟩ : ∃ gp cp, vp = .slice (some ⟨gp, 0, none⟩) nx.length cp ∧ w.heap.size ≤ gp ∧ nx.length ≤ cp ∧ cp ≤ maxLen ∧ Row wo gp nx.length (fun _ => .int .i64 (-1)) := by
        rcases HO.out.row with ⟨e, _⟩ | ⟨g, c', e, h1, h2, h3, h4⟩
        · have : nx.length = 0 := by simpa using congrArg List.length e
          omega
        · simp only [List.length_replicate] at e h2 h4
          exact ⟨g, c', e, h1, h2, h3, h4.congr fun i hi => by simp [List.getD_eq_getElem?_getD, hi]⟩
      have hgs := HR.out.1
      have hgp := g4.1
      have hne : gp ≠ w.heap.size + 1 := HNE.out gp rfl
      have hwo := HB.out.size
      obtain ⟨W0, hW0⟩ : ∃ W0, W0 = wo.setCell ⟨w.heap.size + 1, s, none⟩ (.bool true) := ⟨_, rfl⟩
      have hWs : W0.heap.size = wo.heap.size := by rw [hW0]; simp
      have h0 := below_alloc W0 (.cells #[.int .i64 s] 3)
      have hone := OwnI.one W0 s
      rw [hWs] at hone
      have SA := hid (show SeaAt w gp (w.heap.size + 1) nx.length (.slice (some ⟨wo.heap.size, 0, none⟩) 1 1) (bfs (adjOf nx) s 0).par (bfs (adjOf nx) s 0).q (W0.alloc (.cells #[.int .i64 s] 3)) from
        { below := below_next (by rw [hW0]; exact HB.out.setCell (by simp) _) h0
          rpar := (show Row W0 gp nx.length (fun _ => .int .i64 (-1)) by rw [hW0]; exact g4.setOther (show gp ≠ w.heap.size + 1 from hne) _).below h0 |>.congr fun i hi => by
            show Value.int .i64 (-1) = .int .i64 (pv (if i = s then -1 else -2))
            split <;> rfl
          rseen := (show Row W0 (w.heap.size + 1) nx.length (fun i => if i = s then .bool true else .bool false) by rw [hW0]; exact HR.out.set hs _).below h0 |>.congr fun i hi => by
            show (if i = s then Value.bool true else Value.bool false) = Value.bool (decide ((if i = s then (-1 : Int) else -2) ≠ -2))
            by_cases e : i = s
            · rw [if_pos e, if_pos e]; rfl
            · rw [if_neg e, if_neg e]; rfl
          own := hone.mono (B' := w.heap.size) hwo
          newp := g1
          news := by omega
          ne := hne
          nep := fun g h => by simp [Value.ownBlock] at h; omega })
      rw [hW0] at SA
      have c0 := HR.out.2.1 s hs
      have cf := HR.out.2.2 s
      have hs2 : (s : Int) < (nx.length : Int) := by omega
      unfold maxLen at g3
      have HINV := hid (fun (i : Nat) (h : i ≤ (bfs (adjOf nx) s i).q.length) => bfs_inv hs HAD.out i h)
      clear HO HB HR HNE g4 h0 hone hWs hW0 W0
      go_wp2_with fail
      clear c0 cf
      go_loopw [9, 10] (fun vq i wr => ∃ (k : Nat) (v : Value), v = vq ∧ i = .int .i64 k ∧ Hid (k ≤ (bfs (adjOf nx) s k).q.length) ∧ Hid (SeaAt w gp (w.heap.size + 1) nx.length v (bfs (adjOf nx) s k).par (bfs (adjOf nx) s k).q wr)) (fun _ i _ => nx.length - (intOf i).toNat)
      case atStart => exact ⟨0, _, rfl, rfl, hid (Nat.zero_le _), SA⟩
      case round =>
        obtain ⟨k, vq, rfl, rfl, HK, HS⟩ := hrel
        obtain ⟨wi, rfl⟩ : ∃ wi : World, wi = wr := ⟨_, rfl⟩
        obtain ⟨S, hS⟩ : ∃ S, Hid (bfs (adjOf nx) s k = S) := ⟨_, hid rfl⟩
        have HI := hid (HINV.out k HK.out)
        have hlen := HI.out.len
        rw [hS.out] at HK HS HI hlen
        clear SA
        by_cases hkq : k < S.q.length
        · obtain ⟨u, hu⟩ : ∃ u, S.q[k]? = some u := ⟨_, List.getElem?_eq_getElem hkq⟩
          have HU := hid hu
          have huN : u < nx.length := HI.out.lt u (q_at hu)
          have hkN : k < nx.length := by omega
          obtain ⟨r, hr⟩ : ∃ r, Hid (nx[u] = r) := ⟨_, hid rfl⟩
          have HRW := hid (show ∀ W, Below w.heap.size w W → ∃ b o a1 c1, a = some ⟨b, o, none⟩ ∧ b < W.heap.size ∧ W.cell? ⟨b, o + u, none⟩ = some (.slice a1 r.length c1) ∧ r.length ≤ c1 ∧ c1 ≤ maxLen ∧ IntsIn Any W a1 r from fun W M => by
            obtain ⟨b, o, a1, c1, q1, q2, _, q3, q4, q5, q6⟩ := rows_at (HL.out.below M) huN
            rw [hr.out] at q3 q4 q6
            exact ⟨b, o, a1, c1, q1, q2, q3, q4, q5, q6⟩)
          have HADJ := hid (show adjOf nx u = r.map Int.toNat by rw [adj_at huN, hr.out])
          have HRG := hid (show ∀ x, x ∈ r → 0 ≤ x ∧ x < nx.length from fun x hx => HGD.out r (by rw [← hr.out]; exact List.getElem_mem huN) x hx)
          have HPU := hid (show ∀ m, Inv nx.length (adjOf nx) s (pushes u S ((r.map Int.toNat).take m)) k ([] ++ (r.map Int.toNat).take m) ∧ (pushes u S ((r.map Int.toNat).take m)).q[k]? = some u from fun m =>
            Inv.pushes _ [] S HI.out hu fun n hn => ⟨by rw [HADJ.out]; exact List.mem_of_mem_take hn, HAD.out u huN n (by rw [HADJ.out]; exact List.mem_of_mem_take hn)⟩)
          have HFIN := hid (show pushes u S ((r.map Int.toNat).take r.length) = bfs (adjOf nx) s (k + 1) by
            rw [bfs, hS.out, opn_eq hu, HADJ.out, List.take_of_length_le (by simp)])
          obtain ⟨gq, nq, cq, rfl, z1, z2, z3, z4, z5, z6⟩ : ∃ gq nq cq, vq = .slice (some ⟨gq, 0, none⟩) nq cq ∧ w.heap.size ≤ gq ∧ gq < wi.heap.size ∧ nq = S.q.length ∧ nq ≤ cq ∧ cq ≤ maxLen ∧ wi.cell? ⟨gq, k, none⟩ = some (.int .i64 u) := by
            obtain ⟨aq, cq, e, _⟩ := HS.out.own.shape
            subst e
            obtain ⟨g, e, h1, h2, h3, h4, h5, h6⟩ := own_at HS.out.own hu
            subst e
            exact ⟨g, _, cq, rfl, h1, h2, h3, h4, h5, h6⟩
          have hkn : (k : Int) < (nq : Int) := by omega
          have HS0 := hid (show SeaAt w gp (w.heap.size + 1) nx.length (.slice (some ⟨gq, 0, none⟩) nq cq) (pushes u S ((r.map Int.toNat).take 0)).par (pushes u S ((r.map Int.toNat).take 0)).q wi from HS.out)
          clear HS HI hS hr hu z2 z3 z4 z5 z6
          go_wp2_with fail
          go_loopw [9, 11] (fun vq i wr => ∃ (m : Nat) (v : Value), v = vq ∧ i = .int .i64 m ∧ m ≤ r.length ∧ Hid (SeaAt w gp (w.heap.size + 1) nx.length v (pushes u S ((r.map Int.toNat).take m)).par (pushes u S ((r.map Int.toNat).take m)).q wr)) (fun _ i _ => r.length - (intOf i).toNat)
          case atStart => exact ⟨0, _, rfl, rfl, Nat.zero_le _, HS0⟩
          case round =>
            obtain ⟨m, vq, rfl, rfl, hm, HS⟩ := hrel
            obtain ⟨wj, rfl⟩ : ∃ wj : World, wj = wr := ⟨_, rfl⟩
            obtain ⟨T, hT⟩ : ∃ T, Hid (pushes u S ((r.map Int.toNat).take m) = T) := ⟨_, hid rfl⟩
            obtain ⟨hiT, hqT⟩ := HPU.out m
            rw [hT.out] at HS hiT hqT
            have HIT := hid hiT
            have hTlen := hiT.len
            clear hiT HS0
            obtain ⟨gq, nq, cq, rfl, z1, z2, z3, z4, z5, z6⟩ : ∃ gq nq cq, vq = .slice (some ⟨gq, 0, none⟩) nq cq ∧ w.heap.size ≤ gq ∧ gq < wj.heap.size ∧ nq = T.q.length ∧ nq ≤ cq ∧ cq ≤ maxLen ∧ wj.cell? ⟨gq, k, none⟩ = some (.int .i64 u) := by
              obtain ⟨aq, cq, e, _⟩ := HS.out.own.shape
              subst e
              obtain ⟨g, e, h1, h2, h3, h4, h5, h6⟩ := own_at HS.out.own hqT
              subst e
              exact ⟨g, _, cq, rfl, h1, h2, h3, h4, h5, h6⟩
            have hkn : (k : Int) < (nq : Int) := by have := (List.getElem?_eq_some_iff.1 hqT).1; omega
            have hu2 : (u : Int) < (nx.length : Int) := by omega
            obtain ⟨b, o, a1, c1, rfl, hb, g0, k1, k2, hrow⟩ := HRW.out _ HS.out.below
            obtain ⟨hq1, hq2⟩ := HS.out.nep gq rfl
            have HROW := hid hrow
            have hNQ := hid z3
            unfold maxLen at k2 z5
            clear hrow z3
            by_cases hmr : m < r.length
            · have hmr2 : (m : Int) < (r.length : Int) := by omega
              obtain ⟨b5, o5, rfl, hb5, _, g5, _⟩ := ints_at HROW.out (Below.refl _ _) hmr
              obtain ⟨hx0, hxN⟩ := HRG.out r[m] (List.getElem_mem hmr)
              obtain ⟨n, hn⟩ : ∃ n : Nat, r[m] = (n : Int) := ⟨r[m].toNat, by omega⟩
              have hnm : (r.map Int.toNat)[m]? = some n := by rw [List.getElem?_map, List.getElem?_eq_getElem hmr, hn]; rfl
              have HT1 := hid (show pushes u S ((r.map Int.toNat).take (m + 1)) = push u T n by rw [pushes_succ hnm, hT.out])
              rw [hn] at g5 hx0 hxN
              have hnN : n < nx.length := by omega
              have s1 : wj.cell? ⟨w.heap.size + 1, n, none⟩ = some (.bool (decide (T.par n ≠ -2))) := HS.out.rseen.2.1 n hnN
              have s2 := HS.out.rseen.2.2 n
              have s3 := HS.out.rseen.1
              have p1 : wj.cell? ⟨gp, n, none⟩ = some (.int .i64 (pv (T.par n))) := HS.out.rpar.2.1 n hnN
              have p2 := HS.out.rpar.2.2 n
              have p3 := HS.out.rpar.1
              have hne2 := HS.out.ne
              clear hn hnm hqT hT
              by_cases hse : T.par n = -2
              · have e1 : decide (T.par n ≠ -2) = false := by simp [hse]
                rw [e1] at s1
                have hpn := push_new (u := u) hse
                rw [hpn] at HT1
                have HM := hid (HS.out.mark (par' := fun m => if m = n then (u : Int) else T.par m) hnN (by omega) (fun m => rfl))
                clear e1 hse hpn
                go_upto_region 19 with fail
                refine wp_gen (fun W => SeaAt w gp (w.heap.size + 1) nx.length (.slice (some ⟨gq, 0, none⟩) nq cq) (fun m => if m = n then (u : Int) else T.par m) T.q W) HM.out ?_
                clear HM s1 s2 s3 p1 p2 p3 g5 hb5 g0 hb z6 z2 HS
                rintro W1 HM1
                have h0 := below_alloc W1 (.cells #[.int .i64 n] 3)
                have HI := hid (row_one W1 n (by unfold i64; omega))
                have HM2 := hid (HM1.next h0)
                have hz2 := HM1.below.size
                clear HM1 h0
                go_wp2_with (at_builtin; refine wp_app_own2 rfl _ _ rfl w.heap.size (.slice (some ⟨gq, 0, none⟩) nq cq) (ints T.q) [(n : Int)] (some ⟨W1.heap.size, 0, none⟩) 1 rfl rfl (fun h => by cases h) HM2.out.own (by simp; omega) HI.out (by rw [ints_len]; omega) (by simp) ?_; intro v' w' hv hg hor)
                have HF := hid (HM2.out.app hv hg hor)
                clear hv hg hor HI HM2
                go_wp2_with fail
                go_roundw
                case rel => exact ⟨m + 1, _, rfl, by go_num, by omega, hid (by rw [HT1.out]; exact HF.out)⟩
                case measure => simp [intOf]; omega
              · have e1 : decide (T.par n ≠ -2) = true := by simp [hse]
                rw [e1] at s1
                have HT2 := hid (show pushes u S ((r.map Int.toNat).take (m + 1)) = T by rw [HT1.out, push_old hse])
                clear e1 hse HT1
                go_wp2_with fail
                go_roundw
                case rel => exact ⟨m + 1, _, rfl, by go_num, by omega, hid (by rw [HT2.out]; exact HS.out)⟩
                case measure => simp [intOf]; omega
            · obtain rfl : m = r.length := by omega
              have hml : ¬ ((r.length : Int) < (r.length : Int)) := by omega
              have HS2 := hid (show SeaAt w gp (w.heap.size + 1) nx.length (.slice (some ⟨gq, 0, none⟩) nq cq) (bfs (adjOf nx) s (k + 1)).par (bfs (adjOf nx) s (k + 1)).q wj by rw [← HFIN.out, hT.out]; exact HS.out)
              have HK2 := hid (show k + 1 ≤ (bfs (adjOf nx) s (k + 1)).q.length by
                rw [← HFIN.out, hT.out]
                have := (List.getElem?_eq_some_iff.1 hqT).1; omega)
              clear HS hT hqT
              go_wp2_with fail
              go_roundw
              case rel => exact ⟨k + 1, _, rfl, by go_num, HK2, HS2⟩
              case measure => simp [intOf]; omega
        · have hkk : k = S.q.length := by have := HK.out; omega
          obtain ⟨aq, cq, rfl, e1, e2, e3⟩ := HS.out.own.shape
          obtain ⟨L, hL⟩ : ∃ L, Hid ((ints S.q).length = L) := ⟨_, hid rfl⟩
          have hkL : ¬ ((k : Int) < (L : Int)) := by have := hL.out; rw [ints_len] at this; omega
          have HF := hid (show SeaPost nx s w (.returned (.tuple #[.slice (some ⟨gp, 0, none⟩) nx.length cp, .slice aq (ints S.q).length cq])) wi from
            ⟨k, _, _, rfl, by rw [hS.out, hkk], ⟨some ⟨gp, 0, none⟩, cp, by simp, ⟨.inr ⟨gp, 0, rfl, trivial, HS.out.rpar.1, fun i v hv => by
                have hi : i < nx.length := by have := (List.getElem?_eq_some_iff.1 hv).1; simpa using this
                rw [Nat.zero_add, HS.out.rpar.2.1 i hi]
                rw [List.getElem?_map, List.getElem?_map, List.getElem?_range hi] at hv
                rw [hS.out] at hv
                simpa using hv⟩, fun q hq => by
                  rw [List.mem_map] at hq
                  obtain ⟨m, hm, rfl⟩ := hq
                  rw [hS.out]
                  have hmN := List.mem_range.1 hm
                  by_cases hmq : m ∈ S.q
                  · obtain ⟨j, hj⟩ := List.getElem?_of_mem hmq
                    by_cases hj0 : j = 0
                    · subst hj0
                      rw [HI.out.fst] at hj
                      obtain rfl := Option.some.inj hj
                      rw [HI.out.root.1]; unfold pv i64; simp
                    · obtain ⟨j', u, _, _, _, h4, h5, _⟩ := HI.out.par j m (by omega) hj
                      have := HI.out.lt u (q_at h4)
                      rw [h5]; unfold pv i64; split <;> omega
                  · have : S.par m = -2 := by
                      by_cases h : S.par m = -2
                      · exact h
                      · exact absurd ((HI.out.seen m).2 h) hmq
                    rw [this]; unfold pv i64; simp⟩, by simp; omega, by unfold maxLen; omega, fun e => by cases e⟩,
              by rw [hS.out]; exact ⟨aq, cq, rfl, HS.out.own.ints2 (fun q hq => by
                  unfold ints at hq
                  rw [List.mem_map] at hq
                  obtain ⟨m, hm, rfl⟩ := hq
                  have := HI.out.lt m hm
                  unfold i64; omega), e1, e2, e3⟩, HS.out.below⟩)
          rw [hL.out] at HF ⊢
          clear HS HI HK hkq e1 e2 hkk
          go_wp2_with fail
          go_ret2
          exact HF.out
end Bfs
end Go.Proofs.Ytfemikebklmlpaa
namespace Go.Proofs.Ytfemikebklmlpaa
open Go.RowKit
set_option linter.unusedVariables false
set_option linter.unusedSimpArgs false
namespace Bfs

set_option maxRecDepth 100000 in
set_option maxHeartbeats 1000000 in
theorem count_any (n : Nat) (hn : n ≤ 1000) (w : World) : Calls Try.prog 85 #[.int .i64 n] w (RetP (fun v w' => OwnI w.heap.size v (ints (List.range n)) w') w) := by
  go_enter Try.func85, Try.ntmps85
  go_wp2_with fail
  have D0 := hid (below_alloc w (.cells #[] 3))
  have O0 := hid (show OwnI w.heap.size (.slice (some ⟨w.heap.size, 0, none⟩) 0 0) (ints (List.range 0)) (w.alloc (.cells #[] 3)) from OwnI.made w)
  go_loopw [3, 4] (fun vo i wr => ∃ (k : Nat) (v : Value), v = vo ∧ k ≤ n ∧ i = .int .i64 k ∧ Hid (OwnI w.heap.size v (ints (List.range k)) wr) ∧ Hid (Below w.heap.size w wr)) (fun _ i _ => n - (intOf i).toNat)
  case atStart => exact ⟨0, _, rfl, Nat.zero_le _, rfl, O0, D0⟩
  case round =>
    obtain ⟨k, vo, rfl, hk, rfl, HO, HB⟩ := hrel
    obtain ⟨wo, rfl⟩ : ∃ wo : World, wo = wr := ⟨_, rfl⟩
    clear O0 D0
    by_cases hlt : k < n
    · have hlt2 : (k : Int) < (n : Int) := by omega
      have h0 := below_alloc wo (.cells #[.int .i64 k] 3)
      have hbs := HB.out.size
      obtain ⟨a1, c1, rfl, e1, e2, e3⟩ := HO.out.shape
      have HO1 := hid (HO.out.next h0)
      have HB1 := hid (below_next HB.out h0)
      have HI := hid (row_one wo k (by unfold i64; omega))
      go_wp2_with (at_builtin; refine wp_app_own2 rfl _ _ rfl w.heap.size (.slice a1 (ints (List.range k)).length c1) (ints (List.range k)) [(k : Int)] (some ⟨wo.heap.size, 0, none⟩) 1 rfl rfl (fun h => by cases h) HO1.out HB1.out.size HI.out (by rw [ints_len]; simp; omega) (by simp) ?_; intro v' w' hv hg hor)
      have HV := hid (show OwnI w.heap.size v' (ints (List.range (k + 1))) w' by rw [List.range_succ, show ints (List.range k ++ [k]) = ints (List.range k) ++ [(k : Int)] by simp [ints]]; exact hv)
      have HB2 := hid (below_own HB1.out HO1.out (Nat.le_refl _) hg)
      clear hv hg hor HO1 HB1 HI h0
      go_wp2_with fail
      go_roundw
      case rel => exact ⟨k + 1, _, rfl, by omega, by go_num, HV, HB2⟩
      case measure => (simp [intOf]; try omega)
    · obtain rfl : k = n := by omega
      have hkk : ¬ ((k : Int) < (k : Int)) := by omega
      go_wp2_with fail
      go_ret
      exact RetP.mk HO.out HB.out
end Bfs
end Go.Proofs.Ytfemikebklmlpaa
namespace Go.Proofs.Ytfemikebklmlpaa
open Go.RowKit
set_option linter.unusedVariables false
set_option linter.unusedSimpArgs false
namespace Gr

theorem count_at {w : World} {a : Option Addr} {n k : Nat} (h : IntsIn Any w a (Bfs.ints (List.range n))) (hk : k < n) : ∃ b o, a = some ⟨b, o, none⟩ ∧ b < w.heap.size ∧ w.cell? ⟨b, o + k, none⟩ = some (.int .i64 k) := by
  rcases h.1 with h0 | ⟨b, o, e, _, h1, h2⟩
  · have := congrArg List.length h0; simp [Bfs.ints] at this; omega
  · exact ⟨b, o, e, h1, h2 k _ (by simp [Bfs.ints, List.getElem?_range, hk])⟩
set_option maxRecDepth 100000 in
set_option maxHeartbeats 4000000 in
theorem states_any (L O : Nat) (x : Option Nat) (vs vn : Value) (g : G2) (w : World) (a : Option Addr) (c : Nat) (h : GOwn L O x vs vn g w) (hn : g.states.length ≤ 900) (hi : IntsIn Any w a (Bfs.ints (List.range g.states.length))) (hc : g.states.length ≤ c) (hc2 : c ≤ maxLen) :
    Calls Try.prog 84 #[.agg #[vs, vn], .slice a g.states.length c] w (RetP (fun v w' => ∃ sts : List S2, sts.length = g.states.length ∧ GOwn w.heap.size w.heap.size none v (.slice none 0 0) ⟨sts, []⟩ w') w) := by
  have HG := hid h
  have HI := hid hi
  obtain ⟨av, cv, bv, dv, rfl, rfl, q1, q2, q3, q4, _, _⟩ := h.shape
  have HST := hid (fun (W : World) (M : Below w.heap.size w W) (k : Nat) (hk : k < g.states.length) => (HG.out.next M).stAt hk)
  obtain ⟨n, hn0⟩ : ∃ n, n = g.states.length := ⟨_, rfl⟩
  have HN := hid hn0
  rw [← hn0] at hn hc q1 HI ⊢
  unfold maxLen at hc2 q2 q4
  clear h hi HG hn0
  generalize g.next.length = gn at *
  go_enter Try.func84, Try.ntmps84
  go_wp2_with fail
  have P0 := hid (boxp_next (below_alloc _ (.cells #[] 91)) (boxp_at (w := w) (a := .slice av n cv) (b := .slice bv gn dv) (t := 26) rfl))
  have B0 := hid (below_next (below_alloc w (.cells #[.slice av n cv, .slice bv gn dv] 26)) (below_alloc _ (.cells #[] 91)))
  have O0 := hid (GOwn.made w.heap.size w.heap.size (w.alloc (.cells #[.slice av n cv, .slice bv gn dv] 26)) (by simp) (by simp))
  simp only [World.size_alloc] at O0
  go_loopw [5, 6] (fun vo i wr => ∃ (k : Nat) (v : Value) (sts : List S2), v = vo ∧ k ≤ n ∧ i = .int .i64 k ∧ sts.length = k ∧ Hid (GOwn w.heap.size w.heap.size none v (.slice none 0 0) ⟨sts, []⟩ wr) ∧ Hid (Below w.heap.size w wr) ∧ Hid (BoxP wr w.heap.size (.slice av n cv) (.slice bv gn dv))) (fun _ i _ => n - (intOf i).toNat)
  case atStart => exact ⟨0, _, [], rfl, Nat.zero_le _, rfl, rfl, O0, B0, P0⟩
  case round =>
    obtain ⟨k, v, sts, rfl, hk, rfl, hls, HO0, HB0, HP0⟩ := hrel
    obtain ⟨wi, rfl⟩ : ∃ wi : World, wi = wr := ⟨_, rfl⟩
    have HLS := hid hls
    clear O0 B0 P0 hls
    by_cases hkn : k < n
    · have hkn2 : (k : Int) < (n : Int) := by omega
      obtain ⟨p0, p1, p2, p3, p4⟩ := HP0.out
      obtain ⟨bi, oi, rfl, hbi, hci⟩ := count_at (HI.out.below HB0.out) hkn
      obtain ⟨bs, cs, a1, n1, a2, n2, e, hbs, c0, c1, r1, r2⟩ := HST.out wi HB0.out k (by have := HN.out; omega)
      simp at e
      obtain ⟨rfl, _, rfl⟩ := e
      obtain ⟨lX, hlX⟩ : ∃ lX, lX = g.states[k].locs := ⟨_, rfl⟩
      obtain ⟨lY, hlY⟩ : ∃ lY, lY = g.states[k].vals := ⟨_, rfl⟩
      rw [← hlX] at c0 r1
      rw [← hlY] at c1 r2
      have RX0 := hid (r1.frame (q := Any) (Nat.le_refl _) fun b _ _ => ⟨trivial, rfl⟩)
      have RY0 := hid (r2.frame (q := Any) (Nat.le_refl _) fun b _ _ => ⟨trivial, rfl⟩)
      clear hlX hlY r1 r2
      go_wp2_with fail
      refine wp_region_ord (C := fun wZ => ∃ xZ, wZ = World.overP _ ([w.heap.size, bi, bs]) xZ) [0,1,2,3,4,5,6,7] (.one 8 (.fre 9 .done)) [9] (by kernel_rfl) (by kernel_rfl) (fun d _ _ _ _ h => by cases d <;> exact h) (KeepP.refl _ _).drew.ex ?_; simp only [pick, List.getElem?_cons_succ, List.getElem?_cons_zero]; (repeat (go_big_quiet_step (fail))); refine wpQuiet_nil ?_; simp only [ordW, pick, List.getElem?_cons_succ, List.getElem?_cons_zero]
      go_wp2_with fail
      refine ⟨((KeepP.refl _ _).drew.trans (KeepP.below (below_alloc _ _))).ex, ?_⟩
      go_wp2_with fail
      have X7 := hid (boxp_next (below_d (Below.refl _ _)) (boxp_at (w := wi) (B := wi.heap.size) (a := .slice a1 lX.length n1) (b := .slice a2 lY.length n2) (t := 91) rfl))
      have F7 := hid (below_d (below_alloc wi (.cells #[.slice a1 lX.length n1, .slice a2 lY.length n2] 91)))
      clear p0 p1 p2 p3 p4 hbi hci hbs c0 c1
      go_upto_region 6 with fail
      obtain ⟨O7, hO7⟩ : ∃ O, O = wi.heap.size := ⟨_, rfl⟩
      rw [← hO7] at X7 ⊢
      refine wp_gen (fun W => BoxP W O7 (.slice a1 lX.length n1) (.slice a2 lY.length n2) ∧ Below wi.heap.size wi W) ⟨X7.out, F7.out⟩ ?_
      clear X7 F7
      rintro W0 ⟨X7, hb⟩
      have HOB := hid (show (∀ b, v.ownBlock = some b → w.heap.size ≤ b ∧ b < O7) ∧ w.heap.size < O7 from ⟨fun b e => by have := HO0.out.blk.1 b e; omega, by have := HP0.out.1; omega⟩)
      have hO0 := HO0.out.next hb
      have hB0 := below_next HB0.out hb
      have hP0 := boxp_next hb HP0.out
      have hRX := RX0.out.frame hb.size (fun b hp hl => ⟨hp, hb.block b hl⟩)
      have hRY := RY0.out.frame hb.size (fun b hp hl => ⟨hp, hb.block b hl⟩)
      clear hb HO0 HB0 HP0 RX0 RY0 hO7
      obtain ⟨v0, hv0⟩ : ∃ v0, v0 = W0.drew := ⟨_, rfl⟩
      have h1 := below_d (Below.refl W0.heap.size W0)
      rw [← hv0] at h1
      have HO0 := hid (hO0.next h1)
      have B0 := hid (below_next hB0 h1)
      have P0 := hid (boxp_next h1 hP0)
      have RX := hid (hRX.frame h1.size (fun b hp hl => ⟨hp, h1.block b hl⟩))
      have RY := hid (hRY.frame h1.size (fun b hp hl => ⟨hp, h1.block b hl⟩))
      have hO7 := hid (show O7 < v0.heap.size from Nat.lt_of_lt_of_le X7.1 h1.size)
      have K := hid (show KeepP [O7] W0 v0 by rw [hv0]; exact (KeepP.refl [O7] W0).drew)
      clear hO0 hB0 hP0 hRX hRY h1
      obtain ⟨x0, x1, x2, x3, x4⟩ := X7
      go_wp2_with fail
      refine wp_region_ord (C := fun wZ => ∃ xZ, wZ = World.overP _ ([O7]) xZ) [0,2,3,6,7] (.two 1 5 (.two 4 5 (.one 5 (.one 8 (.one 9 (.one 10 (.one 11 (.fre 12 .done)))))) (.one 4 (.one 8 (.one 9 (.one 10 (.one 11 (.fre 12 .done))))))) (.one 1 (.one 4 (.one 8 (.one 9 (.one 10 (.one 11 (.fre 12 .done)))))))) [12] (by kernel_rfl) (by kernel_rfl) (fun d _ _ _ _ h => by cases d <;> exact h) (KeepP.refl _ _).drew.ex ?_; simp only [pick, List.getElem?_cons_succ, List.getElem?_cons_zero]; (repeat (go_big_quiet_step (fail))); refine wpQuiet_nil ?_; simp only [ordW, pick, List.getElem?_cons_succ, List.getElem?_cons_zero]
      rw [← hv0]
      have D := hid (Below.refl v0.heap.size v0)
      clear hv0 x0 x1 x2 x3 x4
      refine ⟨?_, ?_⟩
      · go_wp2_with fail
        refine ⟨(K.out.trans (KeepP.below (below_alloc _ _))).ex, ?_⟩
        have h0 := below_alloc v0 (.cells #[] 3)
        have EX := hid (OwnI.made v0)
        have SXs := hid (show v0.heap.size < (v0.alloc (.cells #[] 3)).heap.size by simp)
        obtain ⟨gX, hgX⟩ : ∃ g, g = v0.heap.size := ⟨_, rfl⟩
        have GX := hid (show v0.heap.size ≤ gX by rw [hgX]; exact D.out.size)
        rw [← hgX] at EX SXs ⊢
        replace D := hid (below_next D.out h0)
        replace K := hid (K.out.trans (KeepP.below h0))
        clear hgX h0
        generalize v0.alloc (.cells #[] 3) = v1 at *
        refine ⟨?_, ?_⟩
        · go_wp2_with (at_builtin; refine wp_app_clone rfl _ _ rfl gX lX a1 n1 rfl rfl EX.out SXs.out RX.out.2.2.2.1 ((RX.out.2.2.1).below D.out) (by have := RX.out.2.2.2.2; omega) ?_; intro hX cX v2 hor hown hg hlt)
          have OX := hid hown
          have LX := hid hlt
          have HX := hid (show v0.heap.size ≤ hX by rcases hor with rfl | rfl; exact GX.out; exact D.out.size)
          replace K := hid (K.out.trans (KeepP.grown hg (fun b hb e => by simp at hb; simp at e; have := GX.out; have := hO7.out; omega)))
          replace D := hid (below_own D.out EX.out GX.out hg)
          clear hor hown hg hlt EX SXs
          go_wp2_with fail
          refine ⟨K.out.ex, ?_⟩
          go_wp2_with fail
          refine ⟨(K.out.trans (KeepP.below (below_alloc _ _))).ex, ?_⟩
          have h0 := below_alloc v2 (.cells #[] 3)
          have EY := hid (OwnI.made v2)
          have SYs := hid (show v2.heap.size < (v2.alloc (.cells #[] 3)).heap.size by simp)
          obtain ⟨gY, hgY⟩ : ∃ g, g = v2.heap.size := ⟨_, rfl⟩
          have GY := hid (show v0.heap.size ≤ gY by rw [hgY]; exact D.out.size)
          rw [← hgY] at EY SYs ⊢
          have NE := hid (show hX ≠ gY by have := LX.out; omega)
          replace OX := hid (OX.out.next h0)
          replace LX := hid (Nat.lt_of_lt_of_le LX.out h0.size)
          replace D := hid (below_next D.out h0)
          replace K := hid (K.out.trans (KeepP.below h0))
          clear hgY h0
          generalize v2.alloc (.cells #[] 3) = v3 at *
          go_wp2_with (at_builtin; refine wp_app_clone rfl _ _ rfl gY lY a2 n2 rfl rfl EY.out SYs.out RY.out.2.2.2.1 ((RY.out.2.2.1).below D.out) (by have := RY.out.2.2.2.2; omega) ?_; intro hY cY v4 hor hown hg hlt)
          have OY := hid hown
          have LY := hid hlt
          have HY := hid (show v0.heap.size ≤ hY by rcases hor with rfl | rfl; exact GY.out; exact D.out.size)
          have NF := hid (show hX ≠ hY by rcases hor with rfl | rfl; (have := NE.out; omega); (have := LX.out; omega))
          replace OX := hid (OX.out.grow hg (by have := NE.out; omega))
          replace LX := hid (Nat.lt_of_lt_of_le LX.out hg.size)
          replace K := hid (K.out.trans (KeepP.grown hg (fun b hb e => by simp at hb; simp at e; have := GY.out; have := hO7.out; omega)))
          replace D := hid (below_own D.out EY.out GY.out hg)
          clear hor hown hg hlt EY SYs
          go_wp2_with fail
          refine ⟨K.out.ex, ?_⟩
          have hx0 := HX.out
          have hy0 := HY.out
          have hov := HOB.out.2
          have ho7 := hO7.out
          have hdf := hid (show hX ≠ hY from by have := NF.out; omega)
          have T1 := hid (RN.own (p := pX w.heap.size w.heap.size none v (.slice none 0 0)) OX.out RX.out.2.2.1.2 RX.out.2.2.2.2 (fun g hg => by
            simp [Value.ownBlock] at hg; subst hg
            exact ⟨by omega, by omega, by simp, fun e => by have := (HOB.out.1 _ e).2; omega, by simp [Value.ownBlock]⟩))
          have T2 := hid (RN.own (p := pX w.heap.size w.heap.size none v (.slice none 0 0)) OY.out RY.out.2.2.1.2 RY.out.2.2.2.2 (fun g hg => by
            simp [Value.ownBlock] at hg; subst hg
            exact ⟨by omega, by omega, by simp, fun e => by have := (HOB.out.1 _ e).2; omega, by simp [Value.ownBlock]⟩))
          have FO := hid (HO0.out.next D.out)
          have FB := hid (below_next B0.out D.out)
          have FP := hid (boxp_next D.out P0.out)
          clear OX OY LX LY HX HY hx0 hy0 hov ho7 hdf
          generalize v4 = vz at *
          go_wp2_with fail
          refine ⟨K.out.ex, ?_⟩
          have h0 := below_alloc vz (.cells #[.slice (some ⟨hX, 0, none⟩) lX.length cX, .slice (some ⟨hY, 0, none⟩) lY.length cY] 91)
          have KK := hid (K.out.trans (KeepP.below h0))
          replace T1 := hid (T1.out.frame h0.size (fun b hp hl => ⟨hp, h0.block b hl⟩))
          replace T2 := hid (T2.out.frame h0.size (fun b hp hl => ⟨hp, h0.block b hl⟩))
          replace FO := hid (FO.out.next h0)
          replace FB := hid (below_next FB.out h0)
          replace FP := hid (boxp_next h0 FP.out)
          clear h0 K D
          go_wp2_with fail
          refine ⟨KK.out.ex, ?_⟩
          have CC := hid (And.intro (show (vz.alloc (.cells #[.slice (some ⟨hX, 0, none⟩) lX.length cX, .slice (some ⟨hY, 0, none⟩) lY.length cY] 91)).cell? ⟨vz.heap.size, 0, none⟩ = some (.slice (some ⟨hX, 0, none⟩) lX.length cX) by simp) (show (vz.alloc (.cells #[.slice (some ⟨hX, 0, none⟩) lX.length cX, .slice (some ⟨hY, 0, none⟩) lY.length cY] 91)).cell? ⟨vz.heap.size, 1, none⟩ = some (.slice (some ⟨hY, 0, none⟩) lY.length cY) by simp))
          obtain ⟨bz, hbz⟩ : ∃ bz, bz = vz.heap.size := ⟨_, rfl⟩
          rw [← hbz] at CC ⊢
          clear hbz
          generalize vz.alloc (.cells #[.slice (some ⟨hX, 0, none⟩) lX.length cX, .slice (some ⟨hY, 0, none⟩) lY.length cY] 91) = vy at *
          have hFB := FB.out.size
          have hFP := FP.out.1
          go_wp2_with (at_builtin; refine wp_own_st rfl _ _ rfl w.heap.size w.heap.size none v (.slice none 0 0) sts [] ⟨lX, lY⟩ bz 1 (some ⟨hX, 0, none⟩) (some ⟨hY, 0, none⟩) cX cY rfl rfl FO.out CC.out.1 CC.out.2 T1.out T2.out hFB hFP (by simp) (by have := HLS.out; omega) ?_; intro v' w' i1 i2 i3)
          have NO := hid i1
          have NP := hid (boxp_keep i2.size (i2.block _ FP.out.1 (fun e => by obtain ⟨cs, cn, _, _, _, _, h5, _⟩ := FO.out; exact (h5 _ e.symm).1 rfl)) FP.out)
          have NB := hid (show Below w.heap.size w w' from ⟨i2.os.trans FB.out.os, i2.tape.trans FB.out.tape, i2.output.trans FB.out.output, Nat.le_trans FB.out.size i2.size, fun x hx => (i2.block x (Nat.lt_of_lt_of_le hx FB.out.size) (fun e => by have := (FO.out.blk.1 x e.symm).1; omega)).trans (FB.out.block x hx)⟩)
          have KG := hid (KK.out.trans (KeepP.grown i2 (fun b hb e => by simp at hb; have := (HOB.out.1 b e).2; have := hO7.out; omega)))
          clear i1 i2 i3 FO FB FP CC T1 T2 KK hFB hFP
          go_wp2_with fail
          refine ⟨KG.out.ex, ?_⟩
          go_wp2_with fail
          go_roundw
          case rel => exact ⟨k + 1, _, sts ++ [⟨lX, lY⟩], rfl, by omega, by go_num, by rw [List.length_append, HLS.out]; rfl, NO, NB, NP⟩
          case measure => (simp [intOf]; try omega)
        · go_wp2_with fail
          refine ⟨(K.out.trans (KeepP.below (below_alloc _ _))).ex, ?_⟩
          have h0 := below_alloc v1 (.cells #[] 3)
          have EY := hid (OwnI.made v1)
          have SYs := hid (show v1.heap.size < (v1.alloc (.cells #[] 3)).heap.size by simp)
          obtain ⟨gY, hgY⟩ : ∃ g, g = v1.heap.size := ⟨_, rfl⟩
          have GY := hid (show v0.heap.size ≤ gY by rw [hgY]; exact D.out.size)
          rw [← hgY] at EY SYs ⊢
          have NE := hid (show gX ≠ gY by have := SXs.out; omega)
          replace EX := hid (EX.out.next h0)
          replace SXs := hid (Nat.lt_of_lt_of_le SXs.out h0.size)
          replace D := hid (below_next D.out h0)
          replace K := hid (K.out.trans (KeepP.below h0))
          clear hgY h0
          generalize v1.alloc (.cells #[] 3) = v5 at *
          go_wp2_with (at_builtin; refine wp_app_clone rfl _ _ rfl gX lX a1 n1 rfl rfl EX.out SXs.out RX.out.2.2.2.1 ((RX.out.2.2.1).below D.out) (by have := RX.out.2.2.2.2; omega) ?_; intro hX cX v6 hor hown hg hlt)
          have OX := hid hown
          have LX := hid hlt
          have HX := hid (show v0.heap.size ≤ hX by rcases hor with rfl | rfl; exact GX.out; exact D.out.size)
          have NF := hid (show gY ≠ hX by rcases hor with rfl | rfl; (have := NE.out; omega); (have := SYs.out; omega))
          replace EY := hid (EY.out.grow hg (by have := NE.out; omega))
          replace SYs := hid (Nat.lt_of_lt_of_le SYs.out hg.size)
          clear NE; have NE := hid (show hX ≠ gY by have := NF.out; omega); clear NF
          replace K := hid (K.out.trans (KeepP.grown hg (fun b hb e => by simp at hb; simp at e; have := GX.out; have := hO7.out; omega)))
          replace D := hid (below_own D.out EX.out GX.out hg)
          clear hor hown hg hlt EX SXs
          go_wp2_with fail
          refine ⟨K.out.ex, ?_⟩
          go_wp2_with (at_builtin; refine wp_app_clone rfl _ _ rfl gY lY a2 n2 rfl rfl EY.out SYs.out RY.out.2.2.2.1 ((RY.out.2.2.1).below D.out) (by have := RY.out.2.2.2.2; omega) ?_; intro hY cY v7 hor hown hg hlt)
          have OY := hid hown
          have LY := hid hlt
          have HY := hid (show v0.heap.size ≤ hY by rcases hor with rfl | rfl; exact GY.out; exact D.out.size)
          have NF := hid (show hX ≠ hY by rcases hor with rfl | rfl; (have := NE.out; omega); (have := LX.out; omega))
          replace OX := hid (OX.out.grow hg (by have := NE.out; omega))
          replace LX := hid (Nat.lt_of_lt_of_le LX.out hg.size)
          replace K := hid (K.out.trans (KeepP.grown hg (fun b hb e => by simp at hb; simp at e; have := GY.out; have := hO7.out; omega)))
          replace D := hid (below_own D.out EY.out GY.out hg)
          clear hor hown hg hlt EY SYs
          go_wp2_with fail
          refine ⟨K.out.ex, ?_⟩
          have hx0 := HX.out
          have hy0 := HY.out
          have hov := HOB.out.2
          have ho7 := hO7.out
          have hdf := hid (show hX ≠ hY from by have := NF.out; omega)
          have T1 := hid (RN.own (p := pX w.heap.size w.heap.size none v (.slice none 0 0)) OX.out RX.out.2.2.1.2 RX.out.2.2.2.2 (fun g hg => by
            simp [Value.ownBlock] at hg; subst hg
            exact ⟨by omega, by omega, by simp, fun e => by have := (HOB.out.1 _ e).2; omega, by simp [Value.ownBlock]⟩))
          have T2 := hid (RN.own (p := pX w.heap.size w.heap.size none v (.slice none 0 0)) OY.out RY.out.2.2.1.2 RY.out.2.2.2.2 (fun g hg => by
            simp [Value.ownBlock] at hg; subst hg
            exact ⟨by omega, by omega, by simp, fun e => by have := (HOB.out.1 _ e).2; omega, by simp [Value.ownBlock]⟩))
          have FO := hid (HO0.out.next D.out)
          have FB := hid (below_next B0.out D.out)
          have FP := hid (boxp_next D.out P0.out)
          clear OX OY LX LY HX HY hx0 hy0 hov ho7 hdf
          generalize v7 = vz at *
          go_wp2_with fail
          refine ⟨K.out.ex, ?_⟩
          have h0 := below_alloc vz (.cells #[.slice (some ⟨hX, 0, none⟩) lX.length cX, .slice (some ⟨hY, 0, none⟩) lY.length cY] 91)
          have KK := hid (K.out.trans (KeepP.below h0))
          replace T1 := hid (T1.out.frame h0.size (fun b hp hl => ⟨hp, h0.block b hl⟩))
          replace T2 := hid (T2.out.frame h0.size (fun b hp hl => ⟨hp, h0.block b hl⟩))
          replace FO := hid (FO.out.next h0)
          replace FB := hid (below_next FB.out h0)
          replace FP := hid (boxp_next h0 FP.out)
          clear h0 K D
          go_wp2_with fail
          refine ⟨KK.out.ex, ?_⟩
          have CC := hid (And.intro (show (vz.alloc (.cells #[.slice (some ⟨hX, 0, none⟩) lX.length cX, .slice (some ⟨hY, 0, none⟩) lY.length cY] 91)).cell? ⟨vz.heap.size, 0, none⟩ = some (.slice (some ⟨hX, 0, none⟩) lX.length cX) by simp) (show (vz.alloc (.cells #[.slice (some ⟨hX, 0, none⟩) lX.length cX, .slice (some ⟨hY, 0, none⟩) lY.length cY] 91)).cell? ⟨vz.heap.size, 1, none⟩ = some (.slice (some ⟨hY, 0, none⟩) lY.length cY) by simp))
          obtain ⟨bz, hbz⟩ : ∃ bz, bz = vz.heap.size := ⟨_, rfl⟩
          rw [← hbz] at CC ⊢
          clear hbz
          generalize vz.alloc (.cells #[.slice (some ⟨hX, 0, none⟩) lX.length cX, .slice (some ⟨hY, 0, none⟩) lY.length cY] 91) = vy at *
          have hFB := FB.out.size
          have hFP := FP.out.1
          go_wp2_with (at_builtin; refine wp_own_st rfl _ _ rfl w.heap.size w.heap.size none v (.slice none 0 0) sts [] ⟨lX, lY⟩ bz 1 (some ⟨hX, 0, none⟩) (some ⟨hY, 0, none⟩) cX cY rfl rfl FO.out CC.out.1 CC.out.2 T1.out T2.out hFB hFP (by simp) (by have := HLS.out; omega) ?_; intro v' w' i1 i2 i3)
          have NO := hid i1
          have NP := hid (boxp_keep i2.size (i2.block _ FP.out.1 (fun e => by obtain ⟨cs, cn, _, _, _, _, h5, _⟩ := FO.out; exact (h5 _ e.symm).1 rfl)) FP.out)
          have NB := hid (show Below w.heap.size w w' from ⟨i2.os.trans FB.out.os, i2.tape.trans FB.out.tape, i2.output.trans FB.out.output, Nat.le_trans FB.out.size i2.size, fun x hx => (i2.block x (Nat.lt_of_lt_of_le hx FB.out.size) (fun e => by have := (FO.out.blk.1 x e.symm).1; omega)).trans (FB.out.block x hx)⟩)
          have KG := hid (KK.out.trans (KeepP.grown i2 (fun b hb e => by simp at hb; have := (HOB.out.1 b e).2; have := hO7.out; omega)))
          clear i1 i2 i3 FO FB FP CC T1 T2 KK hFB hFP
          go_wp2_with fail
          refine ⟨KG.out.ex, ?_⟩
          go_wp2_with fail
          go_roundw
          case rel => exact ⟨k + 1, _, sts ++ [⟨lX, lY⟩], rfl, by omega, by go_num, by rw [List.length_append, HLS.out]; rfl, NO, NB, NP⟩
          case measure => (simp [intOf]; try omega)
      · go_wp2_with fail
        refine ⟨(K.out.trans (KeepP.below (below_alloc _ _))).ex, ?_⟩
        have h0 := below_alloc v0 (.cells #[] 3)
        have EY := hid (OwnI.made v0)
        have SYs := hid (show v0.heap.size < (v0.alloc (.cells #[] 3)).heap.size by simp)
        obtain ⟨gY, hgY⟩ : ∃ g, g = v0.heap.size := ⟨_, rfl⟩
        have GY := hid (show v0.heap.size ≤ gY by rw [hgY]; exact D.out.size)
        rw [← hgY] at EY SYs ⊢
        replace D := hid (below_next D.out h0)
        replace K := hid (K.out.trans (KeepP.below h0))
        clear hgY h0
        generalize v0.alloc (.cells #[] 3) = v8 at *
        go_wp2_with fail
        refine ⟨(K.out.trans (KeepP.below (below_alloc _ _))).ex, ?_⟩
        have h0 := below_alloc v8 (.cells #[] 3)
        have EX := hid (OwnI.made v8)
        have SXs := hid (show v8.heap.size < (v8.alloc (.cells #[] 3)).heap.size by simp)
        obtain ⟨gX, hgX⟩ : ∃ g, g = v8.heap.size := ⟨_, rfl⟩
        have GX := hid (show v0.heap.size ≤ gX by rw [hgX]; exact D.out.size)
        rw [← hgX] at EX SXs ⊢
        have NE := hid (show gY ≠ gX by have := SYs.out; omega)
        replace EY := hid (EY.out.next h0)
        replace SYs := hid (Nat.lt_of_lt_of_le SYs.out h0.size)
        replace D := hid (below_next D.out h0)
        replace K := hid (K.out.trans (KeepP.below h0))
        clear hgX h0
        generalize v8.alloc (.cells #[] 3) = v9 at *
        go_wp2_with (at_builtin; refine wp_app_clone rfl _ _ rfl gX lX a1 n1 rfl rfl EX.out SXs.out RX.out.2.2.2.1 ((RX.out.2.2.1).below D.out) (by have := RX.out.2.2.2.2; omega) ?_; intro hX cX v10 hor hown hg hlt)
        have OX := hid hown
        have LX := hid hlt
        have HX := hid (show v0.heap.size ≤ hX by rcases hor with rfl | rfl; exact GX.out; exact D.out.size)
        have NF := hid (show gY ≠ hX by rcases hor with rfl | rfl; (have := NE.out; omega); (have := SYs.out; omega))
        replace EY := hid (EY.out.grow hg (by have := NE.out; omega))
        replace SYs := hid (Nat.lt_of_lt_of_le SYs.out hg.size)
        clear NE; have NE := hid (show hX ≠ gY by have := NF.out; omega); clear NF
        replace K := hid (K.out.trans (KeepP.grown hg (fun b hb e => by simp at hb; simp at e; have := GX.out; have := hO7.out; omega)))
        replace D := hid (below_own D.out EX.out GX.out hg)
        clear hor hown hg hlt EX SXs
        go_wp2_with fail
        refine ⟨K.out.ex, ?_⟩
        go_wp2_with (at_builtin; refine wp_app_clone rfl _ _ rfl gY lY a2 n2 rfl rfl EY.out SYs.out RY.out.2.2.2.1 ((RY.out.2.2.1).below D.out) (by have := RY.out.2.2.2.2; omega) ?_; intro hY cY v11 hor hown hg hlt)
        have OY := hid hown
        have LY := hid hlt
        have HY := hid (show v0.heap.size ≤ hY by rcases hor with rfl | rfl; exact GY.out; exact D.out.size)
        have NF := hid (show hX ≠ hY by rcases hor with rfl | rfl; (have := NE.out; omega); (have := LX.out; omega))
        replace OX := hid (OX.out.grow hg (by have := NE.out; omega))
        replace LX := hid (Nat.lt_of_lt_of_le LX.out hg.size)
        replace K := hid (K.out.trans (KeepP.grown hg (fun b hb e => by simp at hb; simp at e; have := GY.out; have := hO7.out; omega)))
        replace D := hid (below_own D.out EY.out GY.out hg)
        clear hor hown hg hlt EY SYs
        go_wp2_with fail
        refine ⟨K.out.ex, ?_⟩
        have hx0 := HX.out
        have hy0 := HY.out
        have hov := HOB.out.2
        have ho7 := hO7.out
        have hdf := hid (show hX ≠ hY from by have := NF.out; omega)
        have T1 := hid (RN.own (p := pX w.heap.size w.heap.size none v (.slice none 0 0)) OX.out RX.out.2.2.1.2 RX.out.2.2.2.2 (fun g hg => by
          simp [Value.ownBlock] at hg; subst hg
          exact ⟨by omega, by omega, by simp, fun e => by have := (HOB.out.1 _ e).2; omega, by simp [Value.ownBlock]⟩))
        have T2 := hid (RN.own (p := pX w.heap.size w.heap.size none v (.slice none 0 0)) OY.out RY.out.2.2.1.2 RY.out.2.2.2.2 (fun g hg => by
          simp [Value.ownBlock] at hg; subst hg
          exact ⟨by omega, by omega, by simp, fun e => by have := (HOB.out.1 _ e).2; omega, by simp [Value.ownBlock]⟩))
        have FO := hid (HO0.out.next D.out)
        have FB := hid (below_next B0.out D.out)
        have FP := hid (boxp_next D.out P0.out)
        clear OX OY LX LY HX HY hx0 hy0 hov ho7 hdf
        generalize v11 = vz at *
        go_wp2_with fail
        refine ⟨K.out.ex, ?_⟩
        have h0 := below_alloc vz (.cells #[.slice (some ⟨hX, 0, none⟩) lX.length cX, .slice (some ⟨hY, 0, none⟩) lY.length cY] 91)
        have KK := hid (K.out.trans (KeepP.below h0))
        replace T1 := hid (T1.out.frame h0.size (fun b hp hl => ⟨hp, h0.block b hl⟩))
        replace T2 := hid (T2.out.frame h0.size (fun b hp hl => ⟨hp, h0.block b hl⟩))
        replace FO := hid (FO.out.next h0)
        replace FB := hid (below_next FB.out h0)
        replace FP := hid (boxp_next h0 FP.out)
        clear h0 K D
        go_wp2_with fail
        refine ⟨KK.out.ex, ?_⟩
        have CC := hid (And.intro (show (vz.alloc (.cells #[.slice (some ⟨hX, 0, none⟩) lX.length cX, .slice (some ⟨hY, 0, none⟩) lY.length cY] 91)).cell? ⟨vz.heap.size, 0, none⟩ = some (.slice (some ⟨hX, 0, none⟩) lX.length cX) by simp) (show (vz.alloc (.cells #[.slice (some ⟨hX, 0, none⟩) lX.length cX, .slice (some ⟨hY, 0, none⟩) lY.length cY] 91)).cell? ⟨vz.heap.size, 1, none⟩ = some (.slice (some ⟨hY, 0, none⟩) lY.length cY) by simp))
        obtain ⟨bz, hbz⟩ : ∃ bz, bz = vz.heap.size := ⟨_, rfl⟩
        rw [← hbz] at CC ⊢
        clear hbz
        generalize vz.alloc (.cells #[.slice (some ⟨hX, 0, none⟩) lX.length cX, .slice (some ⟨hY, 0, none⟩) lY.length cY] 91) = vy at *
        have hFB := FB.out.size
        have hFP := FP.out.1
        go_wp2_with (at_builtin; refine wp_own_st rfl _ _ rfl w.heap.size w.heap.size none v (.slice none 0 0) sts [] ⟨lX, lY⟩ bz 1 (some ⟨hX, 0, none⟩) (some ⟨hY, 0, none⟩) cX cY rfl rfl FO.out CC.out.1 CC.out.2 T1.out T2.out hFB hFP (by simp) (by have := HLS.out; omega) ?_; intro v' w' i1 i2 i3)
        have NO := hid i1
        have NP := hid (boxp_keep i2.size (i2.block _ FP.out.1 (fun e => by obtain ⟨cs, cn, _, _, _, _, h5, _⟩ := FO.out; exact (h5 _ e.symm).1 rfl)) FP.out)
        have NB := hid (show Below w.heap.size w w' from ⟨i2.os.trans FB.out.os, i2.tape.trans FB.out.tape, i2.output.trans FB.out.output, Nat.le_trans FB.out.size i2.size, fun x hx => (i2.block x (Nat.lt_of_lt_of_le hx FB.out.size) (fun e => by have := (FO.out.blk.1 x e.symm).1; omega)).trans (FB.out.block x hx)⟩)
        have KG := hid (KK.out.trans (KeepP.grown i2 (fun b hb e => by simp at hb; have := (HOB.out.1 b e).2; have := hO7.out; omega)))
        clear i1 i2 i3 FO FB FP CC T1 T2 KK hFB hFP
        go_wp2_with fail
        refine ⟨KG.out.ex, ?_⟩
        go_wp2_with fail
        go_roundw
        case rel => exact ⟨k + 1, _, sts ++ [⟨lX, lY⟩], rfl, by omega, by go_num, by rw [List.length_append, HLS.out]; rfl, NO, NB, NP⟩
        case measure => (simp [intOf]; try omega)
    · obtain rfl : k = n := by omega
      have hkk : ¬ ((k : Int) < (k : Int)) := by omega
      go_wp2_with fail
      go_ret
      exact RetP.mk ⟨sts, HLS.out, HO0.out⟩ HB0.out
end Gr
end Go.Proofs.Ytfemikebklmlpaa
