/- Joined texts (AlwI4, AlwLaw, RevI): contracts and plain laws. Conditions: those of each theorem. -/
import Derived.Test.YtfemikebklmlpaaJV23
import Derived.Test.YtfemikebklmlpaaJV5
import Derived.Test.YtfemikebklmlpaaJV22
import Derived.Test.YtfemikebklmlpaaJV14
import Derived.Test.YtfemikebklmlpaaJV2
set_option linter.unusedVariables false
set_option linter.unusedSimpArgs false
namespace Go.Proofs.Ytfemikebklmlpaa
open Go.RowKit
set_option linter.unusedVariables false
set_option linter.unusedSimpArgs false
namespace Alw
open Gr Bfs Gfp

/-- a new trace, and whether there is one -/
def AlN (B : Nat) (p : List Nat × List Nat) (v : Value) (w : World) : Prop := ∃ a c bs a' c' bs', v = .tuple #[.agg #[.slice a (ints p.1).length c, .slice a' (ints p.2).length c'], .bool (!p.2.isEmpty)] ∧
  ((ints p.1).length ≤ c ∧ c ≤ maxLen ∧ OwnV ((ints p.1).map (Value.int .i64)) a bs w ∧ ∀ b, b ∈ bs → B ≤ b) ∧ ((ints p.2).length ≤ c' ∧ c' ≤ maxLen ∧ OwnV ((ints p.2).map (Value.int .i64)) a' bs' w ∧ ∀ b, b ∈ bs' → B ≤ b) ∧ ∀ b, b ∈ bs → b ∉ bs'
theorem AlN.nil (B : Nat) (w : World) : AlN B ([], []) (.tuple #[.agg #[.slice none 0 0, .slice none 0 0], .bool false]) w := ⟨none, 0, [], none, 0, [], rfl, ⟨Nat.le_refl _, by unfold maxLen; omega, .inl ⟨rfl, rfl⟩, by simp⟩, ⟨Nat.le_refl _, by unfold maxLen; omega, .inl ⟨rfl, rfl⟩, by simp⟩, by simp⟩
theorem aln_fin {B : Nat} {L : List Nat} {m : Nat} {res : List Nat × List Nat} {a a' : Option Addr} {c c' : Nat} {bs bs' : List Nat} {w : World} (hm : m < L.length) (hres : res = (L.take m, L.drop m))
    (h1 : OwnV (((ints L).take m).map (Value.int .i64)) a bs w) (h2 : OwnV (((ints L).drop m).map (Value.int .i64)) a' bs' w) (n1 n2 : Nat) (e1 : n1 = ((ints L).take m).length) (e2 : n2 = ((ints L).drop m).length) (k1 : n1 ≤ c) (k2 : c ≤ maxLen) (k3 : n2 ≤ c') (k4 : c' ≤ maxLen) (b1 : ∀ b, b ∈ bs → B ≤ b) (b2 : ∀ b, b ∈ bs' → B ≤ b) (hd : ∀ b, b ∈ bs → b ∉ bs') :
    AlN B res (.tuple #[.agg #[.slice a n1 c, .slice a' n2 c'], .bool true]) w := by
  subst hres e1 e2
  have q1 : ints (L.take m) = (ints L).take m := by unfold ints; rw [List.map_take]
  have q2 : ints (L.drop m) = (ints L).drop m := by unfold ints; rw [List.map_drop]
  have : (L.drop m).isEmpty = false := by
    cases h : L.drop m with
    | nil => have := congrArg List.length h; rw [List.length_drop] at this; simp at this; omega
    | cons => rfl
  refine ⟨a, c, bs, a', c', bs', ?_, ?_, ?_, hd⟩
  · show _ = Value.tuple #[.agg #[.slice a (ints (L.take m)).length c, .slice a' (ints (L.drop m)).length c'], .bool (!(L.drop m).isEmpty)]
    rw [this, q1, q2]; rfl
  · show (ints (L.take m)).length ≤ c ∧ _ ∧ OwnV ((ints (L.take m)).map _) a bs w ∧ _
    rw [q1]; exact ⟨k1, k2, h1, b1⟩
  · show (ints (L.drop m)).length ≤ c' ∧ _ ∧ OwnV ((ints (L.drop m)).map _) a' bs' w ∧ _
    rw [q2]; exact ⟨k3, k4, h2, b2⟩
theorem find_congr {f g : Nat → Bool} : ∀ (l : List Nat), (∀ m, m ∈ l → f m = g m) → l.find? f = l.find? g
  | [], _ => rfl
  | a :: l, h => by rw [List.find?_cons, List.find?_cons, h a (by simp), find_congr l fun m hm => h m (by simp [hm])]
set_option maxRecDepth 100000 in
set_option maxHeartbeats 8000000 in
theorem implAl_any (g : G2) (thr : List Bool) (s : Int) (w : World) (x : Value) (ta : Option Addr) (tc : Nat) (hx : GrIn Any w g x) (ht : BoolsIn Any w ta thr) (htc : thr.length ≤ tc) (htc2 : tc ≤ maxLen) (hs : i64 s) (hsl : g.states.length ≤ 1048576) :
    Calls Try.prog 24 #[x, .slice ta thr.length tc, .int .i64 s] w (RetP (AlN w.heap.size (alwT g thr s)) w) := by
  obtain ⟨a, c, b, d, rfl, hc, hc2, hi, hd, hd2, hp⟩ := hx
  have HGR := hid (show GrIn Any w g (.agg #[.slice a g.states.length c, .slice b g.next.length d]) from ⟨a, c, b, d, rfl, hc, hc2, hi, hd, hd2, hp⟩)
  have HP := hid hp
  have HT := hid ht
  have HE := hid (show ∀ h : okG g = true, _ from fun h => okG_len h)
  have HV := hid (show ∀ W, GrIn Any W g (.agg #[.slice a g.states.length c, .slice b g.next.length d]) → Calls Try.prog 35 #[.agg #[.slice a g.states.length c, .slice b g.next.length d]] W (Ret (.bool (okG g)) W) from fun W h => valid_any g W _ h)
  have HNO := hid (show ¬ OkA g thr s → alwT g thr s = ([], []) from alwT_no)
  have HYES := hid (fun (h : OkA g thr s) (k i : Nat) ht => alwT_yes h (k := k) (i := i) ht)
  have HFA := hid (fun (h : OkA g thr s) => okA_facts h)
  have HOK := hid (show OkA g thr s ↔ (okG g = true ∧ thr.length = g.states.length ∧ 0 ≤ s ∧ s < g.states.length ∧ gfp (adjOf g.next) (goalOf thr) s.toNat = true) from Iff.rfl)
  have HFIX := hid (fun (h1 : thr.length = g.states.length) (h2 : okG g = true) (W : World) (M : Below w.heap.size w W) (OT OG : Nat) (hT : W.cell? ⟨OT, 0, none⟩ = some (.slice ta g.states.length tc)) (hG : BoxP W OG (.slice a g.states.length c) (.slice b g.states.length d)) => fix_any g thr g.states.length h1 rfl (okG_len h2).2.1 (okG_len h2).1.2 (okG_len h2).2.2.1 W ta tc OT OG hT (by omega) htc2 (ht.below M) a b c d hG (by have := HGR.out.below M; rw [(okG_len h2).2.1] at this; exact this))
  generalize alwT g thr s = res at *
  generalize OkA g thr s = OKA at *
  obtain ⟨ok, hok⟩ : ∃ ok, ok = okG g := ⟨_, rfl⟩
  rw [← hok] at HV HE HOK
  rw [← hok] at HFIX
  obtain ⟨sn, hsn⟩ : ∃ sn, sn = g.states.length := ⟨_, rfl⟩
  rw [← hsn] at HGR HV HOK HE hc HFA HFIX hsl
  obtain ⟨nx, hnx⟩ : ∃ nx, nx = g.next := ⟨_, rfl⟩
  rw [← hnx] at HGR HV HE HOK HFA HYES hd HP HFIX
  rw [← hsn, ← hnx]
  unfold maxLen at hc2 hd2 htc2
  clear hok hsn hnx hi hp ht
  go_enter Try.func24, Try.ntmps24
  go_wp2_with fail
  have B0 := hid (below_next (below_next (below_alloc w (.cells #[.slice a sn c, .slice b nx.length d] 26)) (below_alloc _ (.cells #[.slice ta thr.length tc] 27))) (below_alloc _ (.cells #[.slice none 0 0, .slice none 0 0] 50)))
  have P0 := hid (boxp_next (below_alloc _ (.cells #[.slice none 0 0, .slice none 0 0] 50)) (boxp_next (below_alloc _ (.cells #[.slice ta thr.length tc] 27)) (boxp_at (w := w) (a := .slice a sn c) (b := .slice b nx.length d) (t := 26) rfl)))
  have T0 := hid (show (((w.alloc (.cells #[.slice a sn c, .slice b nx.length d] 26)).alloc (.cells #[.slice ta thr.length tc] 27)).alloc (.cells #[.slice none 0 0, .slice none 0 0] 50)).cell? ⟨w.heap.size + 1, 0, none⟩ = some (.slice ta thr.length tc) by
    rw [(below_alloc _ (.cells #[.slice none 0 0, .slice none 0 0] 50)).cell (p := ⟨w.heap.size + 1, 0, none⟩) (by simp)]
    simp)
  have R0 := hid (boxp_at (w := (w.alloc (.cells #[.slice a sn c, .slice b nx.length d] 26)).alloc (.cells #[.slice ta thr.length tc] 27)) (B := w.heap.size + 1 + 1) (a := .slice none 0 0) (b := .slice none 0 0) (t := 50) (by simp))
  generalize ((w.alloc (.cells #[.slice a sn c, .slice b nx.length d] 26)).alloc (.cells #[.slice ta thr.length tc] 27)).alloc (.cells #[.slice none 0 0, .slice none 0 0] 50) = wA at *
  obtain ⟨p0, p1, p2, p3, p4⟩ := P0.out
  go_wp2_with fail
  refine (HV.out wA (HGR.out.below B0.out)).mono ?_
  rintro e wB ⟨rfl, hb⟩
  replace T0 := hid (show wB.cell? ⟨w.heap.size + 1, 0, none⟩ = some (.slice ta thr.length tc) by rw [hb.cell (p := ⟨w.heap.size + 1, 0, none⟩) (blt T0.out)]; exact T0.out)
  replace B0 := hid (below_next B0.out hb)
  replace P0 := hid (boxp_next hb P0.out)
  replace R0 := hid (boxp_next hb R0.out)
  clear p0 p1 p2 p3 p4 hb HV
  obtain ⟨p0, p1, p2, p3, p4⟩ := P0.out
  obtain ⟨r0, r1, r2, r3, r4⟩ := R0.out
  have t0 := T0.out
  have t1 := blt t0
  cases ok with
  | false =>
    obtain rfl := HNO.out (fun h => by have := (HOK.out.1 h).1; cases this)
    clear HNO HYES HE HFA HOK HFIX
    go_wp2_with fail
    obtain ⟨y0, y1, y2, _⟩ := boxp_set1 (boxp_set0 R0.out (.slice none 0 0)) (.slice none 0 0)
    refine bodyPost_ret (v := .tuple #[.agg #[.slice none 0 0, .slice none 0 0], .bool false]) (by simp [results, Try.results24, go_sem, y1, y2]) rfl ?_
    exact RetP.mk (AlN.nil _ _) ((B0.out.setCell (by show w.heap.size ≤ w.heap.size + 1 + 1; omega) _).setCell (by show w.heap.size ≤ w.heap.size + 1 + 1; omega) _)
  | true =>
    obtain ⟨⟨e1, e2⟩, e3, e4, e5⟩ := HE.out rfl
    have HGD := hid e4
    have HEQ := hid e3
    clear e4 e5 HE
    by_cases a1 : thr.length = sn
    · subst a1
      have b1 : ((thr.length : Int) != (thr.length : Int)) = false := by simp
      go_wp2_with fail
      refine (in_any s 0 ((thr.length : Int) - 1) _).mono ?_
      rintro e wB ⟨rfl, rfl⟩
      by_cases a2 : 0 ≤ s ∧ s < thr.length
      · have b3 : inB s 0 ((thr.length : Int) - 1) = true := by simp [inB]; omega
        rw [b3]
        obtain ⟨sN, rfl⟩ : ∃ m : Nat, s = m := ⟨s.toNat, by omega⟩
        rw [Int.toNat_natCast] at HOK HFA HYES
        have hsN : (sN : Int) < (thr.length : Int) := by omega
        have hsN2 : sN < thr.length := by omega
        rw [HEQ.out] at P0 p2
        have HFX := hid (HFIX.out (by first | rfl | trivial) (by first | rfl | trivial) wB B0.out (w.heap.size + 1) w.heap.size T0.out P0.out)
        clear HFIX e3 b3
        have HROWS := hid (show ∀ u, u < thr.length → ∃ r : List Int, (∀ x, x ∈ r → 0 ≤ x ∧ x < (thr.length : Int)) ∧ adjOf nx u = r.map Int.toNat ∧ ∃ b1 o1 a1 c1, b = some ⟨b1, o1, none⟩ ∧ b1 < w.heap.size ∧ w.cell? ⟨b1, o1 + u, none⟩ = some (.slice a1 r.length c1) ∧ r.length ≤ c1 ∧ c1 ≤ maxLen ∧ IntsIn Any w a1 r from fun u hu => by
          have hun : u < nx.length := by have := HEQ.out; omega
          obtain ⟨b1, o1, a1, c1, e3, hb1, _, g0, k1, k2, hrow⟩ := rows_at HP.out hun
          exact ⟨nx[u], fun x hx => by have := HGD.out nx[u] (List.getElem_mem hun) x hx; have := HEQ.out; omega, adj_at hun, b1, o1, a1, c1, e3, hb1, g0, k1, k2, hrow⟩)
        have hd1 : thr.length ≤ d := by have := HEQ.out; omega
        clear HEQ HGD HP hd
        generalize adjOf nx = adj at *
        generalize gfp adj (goalOf thr) = f at *
        go_wp2_with fail
        refine HFX.out.mono ?_
        rintro e wF ⟨v, rfl, ⟨R, rfl, hBR, hrow⟩, hb⟩
        have f1 : wF.cell? ⟨R, sN, none⟩ = some (.bool (f sN)) := hrow.2.1 sN hsN2
        have f3 := hrow.1
        have hb2 := below_next hb (below_alloc wF (.cells #[.slice (some ⟨R, 0, none⟩) thr.length thr.length] 27))
        replace B0 := hid (below_next B0.out hb2)
        replace P0 := hid (boxp_next hb2 P0.out)
        replace R0 := hid (boxp_next hb2 R0.out)
        have HR := hid (hrow.below (below_alloc wF (.cells #[.slice (some ⟨R, 0, none⟩) thr.length thr.length] 27)))
        have Q0 := hid (show (wF.alloc (.cells #[.slice (some ⟨R, 0, none⟩) thr.length thr.length] 27)).cell? ⟨wF.heap.size, 0, none⟩ = some (.slice (some ⟨R, 0, none⟩) thr.length thr.length) by simp)
        have hBF := hb.size
        clear p0 p1 p2 p3 p4 r0 r1 r2 r3 r4 hb hb2 hrow HFX t0 t1 T0
        obtain ⟨r0, r1, r2, r3, r4⟩ := R0.out
        cases hfs : f sN with
        | false =>
          rw [hfs] at f1
          obtain rfl := HNO.out (fun h => by have := (HOK.out.1 h).2.2.2.2; rw [hfs] at this; cases this)
          clear hfs HNO HYES HFA HOK
          go_wp2_with fail
          obtain ⟨y0, y1, y2, _⟩ := boxp_set1 (boxp_set0 R0.out (.slice none 0 0)) (.slice none 0 0)
          refine bodyPost_ret (v := .tuple #[.agg #[.slice none 0 0, .slice none 0 0], .bool false]) (by simp [results, Try.results24, go_sem, y1, y2]) rfl ?_
          exact RetP.mk (AlN.nil _ _) ((B0.out.setCell (by show w.heap.size ≤ w.heap.size + 1 + 1; omega) _).setCell (by show w.heap.size ≤ w.heap.size + 1 + 1; omega) _)
        | true =>
          rw [hfs] at f1
          have hO : OKA := HOK.out.2 (by refine ⟨by first | rfl | trivial, by first | rfl | trivial, by omega, by omega, hfs⟩)
          have HF := hid (HFA.out hO)
          have HY := hid (fun k i ht => HYES.out hO k i ht)
          clear hfs HNO HYES HFA HOK hO r0 r1 r2 r3 r4
          go_wp2_with fail
          obtain ⟨O9, hO9⟩ : ∃ O, O = wF.heap.size := ⟨_, rfl⟩
          rw [← hO9] at Q0 ⊢
          obtain ⟨wC, hwC⟩ : ∃ W, W = wF.alloc (.cells #[.slice (some ⟨R, 0, none⟩) thr.length thr.length] 27) := ⟨_, rfl⟩
          rw [← hwC] at B0 P0 R0 HR Q0 ⊢
          have hO9F := hid hO9
          clear f1 f3 hO9 hwC
          have O1 := hid (show OwnI wC.heap.size (.slice none 0 0) (ints (orbL adj f sN 0)) wC from World.ownsRow_nil ..)
          have ND1 := hid (show (orbL adj f sN 0).Nodup by simp [orbL])
          go_loopw [10, 11] (fun vo vn wr => ∃ (k : Nat) (v : Value), v = vo ∧ vn = .int .i64 (Gfp.orb adj f sN k) ∧ Hid (OwnI wC.heap.size v (ints (orbL adj f sN k)) wr) ∧ Hid (orbL adj f sN k).Nodup ∧ Hid (Below wC.heap.size wC wr)) (fun vo _ _ => 61 - lenV vo)
          case atStart => exact ⟨0, _, rfl, rfl, O1, ND1, hid (Below.refl _ _)⟩
          case round =>
            obtain ⟨k, vo, rfl, rfl, HO, HN, HM⟩ := hrel
            obtain ⟨wi, rfl⟩ : ∃ wi : World, wi = wr := ⟨_, rfl⟩
            clear O1 ND1
            have P1 := hid (boxp_next HM.out P0.out)
            have HRw := hid (HR.out.below HM.out)
            have HBw := hid (below_next B0.out HM.out)
            have hkN := HF.out.lt HN.out
            obtain ⟨huN, hfu, hfind⟩ := HF.out.orb k
            obtain ⟨hvN, hfv, _⟩ := HF.out.orb (k + 1)
            have hII : ∀ W, OwnI wC.heap.size vo (ints (orbL adj f sN k)) W → ∃ ap cp, vo = .slice ap k cp ∧ k ≤ cp ∧ cp ≤ maxLen ∧ IntsIn Any W ap (ints (orbL adj f sN k)) ∧ (k = 0 ∨ ∃ gp, ap = some ⟨gp, 0, none⟩) ∧ (ap = none → cp = 0) := fun W h => by
              obtain ⟨a, c, e, h1, h2, h3⟩ := h.shape
              rw [ints_len, orbL_len] at e h1
              subst e
              refine ⟨a, c, rfl, h1, h2, h.ints2 (fun q hq => ?_), ?_, h3⟩
              · unfold ints orbL at hq
                rw [List.mem_map] at hq
                obtain ⟨n, hn, rfl⟩ := hq
                rw [List.mem_map] at hn
                obtain ⟨j, _, rfl⟩ := hn
                have := (HF.out.orb j).1
                unfold i64; omega
              · rcases h.row with ⟨e, _⟩ | ⟨g, c', e, _⟩
                · left; have := congrArg List.length e; rw [ints_len, orbL_len] at this; simpa using this
                · right; simp at e; exact ⟨g, e.1⟩
            obtain ⟨ap, cp, rfl, z3, z4, hint, hap, hnil⟩ := hII wi HO.out
            have HIN := hid hint
            have HAP := hid hap
            have HNIL := hid hnil
            obtain ⟨r, hr, hadj, bb, ob, a1, c1, rfl, hb1, g0, k1, k2, hrow⟩ := HROWS.out _ huN
            rw [hadj] at hfind
            have HIX := hid (show Calls Try.prog 57 #[.slice ap k cp, .int .i64 (Gfp.orb adj f sN k)] wi (Ret (.int .i64 (idx (ints (orbL adj f sN k)) (Gfp.orb adj f sN k) 0)) wi) by
              have h := index_any (ints (orbL adj f sN k)) (Gfp.orb adj f sN k) wi ap cp hint (by rw [ints_len, orbL_len]; exact z3) z4
              rw [ints_len, orbL_len] at h
              exact h)
            have HRI := hid (show ∀ W, Below w.heap.size w W → IntsIn Any W a1 r from fun W M => hrow.below M)
            have HG0 := hid (show ∀ W, Below w.heap.size w W → W.cell? ⟨bb, ob + Gfp.orb adj f sN k, none⟩ = some (.slice a1 r.length c1) ∧ bb < W.heap.size from fun W M => ⟨by rw [M.cell (p := ⟨bb, ob + Gfp.orb adj f sN k, none⟩) hb1]; exact g0, Nat.lt_of_lt_of_le hb1 M.size⟩)
            have HRR := hid hr
            have HFI := hid hfind
            have HCOMP := hid (show 0 ≤ idx (ints (orbL adj f sN k)) (Gfp.orb adj f sN k) 0 → ∃ j : Nat, idx (ints (orbL adj f sN k)) (Gfp.orb adj f sN k) 0 = (j : Int) ∧ j < k ∧ Gfp.orb adj f sN j = Gfp.orb adj f sN k from fun h => by
              obtain ⟨j, h1, h2⟩ := idx_at _ _ 0 (by omega) h
              have hjk : j < k := by have := (List.getElem?_eq_some_iff.1 h2).1; rwa [ints_len, orbL_len] at this
              unfold ints at h2
              rw [List.getElem?_map, orbL_at adj f sN hjk] at h2
              have := Option.some.inj h2
              have h5 : ((Gfp.orb adj f sN j : Nat) : Int) = ((Gfp.orb adj f sN k : Nat) : Int) := this
              exact ⟨j, by omega, hjk, by omega⟩)
            have HCOMP2 := hid (show ¬ 0 ≤ idx (ints (orbL adj f sN k)) (Gfp.orb adj f sN k) 0 → (orbL adj f sN (k + 1)).Nodup from fun h => orb_succ_nodup HN.out fun i hi e => by
              have h1 := idx_has (ints (orbL adj f sN k)) (Gfp.orb adj f sN k) 0 (by omega)
              have h2 : hasI (ints (orbL adj f sN k)) (Gfp.orb adj f sN k) = true := by
                unfold hasI
                rw [decide_eq_true_eq]
                exact List.mem_of_getElem? (i := i) (by unfold ints; rw [List.getElem?_map, orbL_at adj f sN hi, e]; rfl)
              rw [h2] at h1
              simp at h1
              omega)
            unfold maxLen at z4 k2
            generalize idx (ints (orbL adj f sN k)) (Gfp.orb adj f sN k) 0 = ix at *
            clear hint hap hr hadj hfind hrow g0 hb1 hfu hfv hII hnil
            go_wp2_with fail
            refine HIX.out.mono ?_
            rintro e w2 ⟨rfl, hb⟩
            have HM2 := hid (below_next HM.out hb)
            have HO2 := hid (HO.out.next hb)
            have HB2 := hid (below_next HBw.out hb)
            have HIN2 := hid (HIN.out.below hb)
            clear hb HM HO HBw HIN HIX P1 HRw
            by_cases hix : 0 ≤ ix
            · obtain ⟨j, rfl, hjk, hje⟩ := HCOMP.out hix
              have HTR := hid (show Trc adj f sN k j from ⟨HN.out, hjk, hje⟩)
              have HRES := hid (HY.out _ _ HTR.out)
              clear HCOMP HCOMP2 hix hje
              obtain ⟨gp, rfl⟩ : ∃ gp, ap = some ⟨gp, 0, none⟩ := by rcases HAP.out with h | h; omega; exact h
              have hjk2 : j ≤ k := by omega
              have hjc : j ≤ cp := by omega
              have hj0 : (j : Int) ≥ 0 := by omega
              obtain ⟨lX, hlX⟩ : ∃ lX, Hid (lX = (ints (orbL adj f sN k)).take j) := ⟨_, hid rfl⟩
              obtain ⟨lY, hlY⟩ : ∃ lY, Hid (lY = (ints (orbL adj f sN k)).drop j) := ⟨_, hid rfl⟩
              have HLX := hid (show lX.length = j by rw [hlX.out, List.length_take, ints_len, orbL_len]; omega)
              have HLY := hid (show lY.length = k - j by rw [hlY.out, List.length_drop, ints_len, orbL_len])
              have SX0 := hid (show IntsIn Any w2 (some ⟨gp, 0, none⟩) lX by rw [hlX.out]; exact ints_take' HIN2.out j)
              have SY0 := hid (show IntsIn Any w2 (some ⟨gp, j, none⟩) lY by rw [hlY.out]; have h := ints_drop' HIN2.out j; rw [Nat.zero_add] at h; exact h)
              obtain ⟨v0, hv0⟩ : ∃ v0, v0 = w2.drew := ⟨_, rfl⟩
              have SX := hid (show IntsIn Any v0 (some ⟨gp, 0, none⟩) lX by rw [hv0]; exact SX0.out.below (below_d (Below.refl _ _)))
              have SY := hid (show IntsIn Any v0 (some ⟨gp, j, none⟩) lY by rw [hv0]; exact SY0.out.below (below_d (Below.refl _ _)))
              have RB := hid (show BoxP v0 (w.heap.size + 1 + 1) (.slice none 0 0) (.slice none 0 0) by rw [hv0]; exact boxp_next (below_d (Below.refl _ _)) (boxp_next HM2.out R0.out))
              have BV := hid (show Below w.heap.size w v0 by rw [hv0]; exact below_d HB2.out)
              have CLX := hid (show ∀ W, Below v0.heap.size v0 W → Calls Try.prog 58 #[.slice (some ⟨gp, 0, none⟩) j cp] W (RetP (NewV W.heap.size (lX.map (Value.int .i64))) W) from fun W M => by
                have h := clone_any lX W (some ⟨gp, 0, none⟩) cp (SX.out.below M) (by rw [HLX.out]; omega) (fun e => by cases e)
                rw [HLX.out] at h; exact h)
              have CLY := hid (show ∀ W, Below v0.heap.size v0 W → Calls Try.prog 58 #[.slice (some ⟨gp, j, none⟩) (k - j) (cp - j)] W (RetP (NewV W.heap.size (lY.map (Value.int .i64))) W) from fun W M => by
                have h := clone_any lY W (some ⟨gp, j, none⟩) (cp - j) (SY.out.below M) (by rw [HLY.out]; omega) (fun e => by cases e)
                rw [HLY.out] at h; exact h)
              clear SX0 SY0 HO2 HN HM2 HIN2
              go_wp2_with fail
              refine wp_region_ord (C := fun _ => True) [0,1,2,4,5,6] (.one 3 (.one 7 (.one 8 (.one 9 (.one 10 .done))))) [] (by kernel_rfl) (by kernel_rfl) (fun d _ _ _ _ h => by cases d <;> exact h) trivial ?_; simp only [pick, List.getElem?_cons_succ, List.getElem?_cons_zero]; (repeat (go_big_quiet_step (fail))); refine wpQuiet_nil ?_; simp only [ordW, pick, List.getElem?_cons_succ, List.getElem?_cons_zero]
              rw [← hv0]
              clear hv0
              go_wp2_with fail
              refine (CLX.out v0 (Below.refl _ _)).mono ?_
              rintro e w3 ⟨vX, rfl, ⟨aX, cX, bsX, rfl, x1, x2, x3, x4⟩, hb⟩
              have HX3 := hid x3
              have HX4 := hid x4
              have D3 := hid hb
              clear x3 x4 hb
              go_wp2_with fail
              refine ⟨trivial, ?_⟩
              go_wp2_with fail
              refine (CLY.out w3 D3.out).mono ?_
              rintro e w4 ⟨vY, rfl, ⟨aY, cY, bsY, rfl, y1, y2, y3, y4⟩, hb⟩
              have HY3 := hid y3
              have HY4 := hid y4
              have D4 := hid (below_next D3.out hb)
              have HX5 := hid (HX3.out.below hb)
              have HXL := hid HX3.out.lt
              have RX := hid (boxp_next D4.out RB.out)
              have hs3 := D3.out.size
              have hv0s := RB.out.1
              clear y3 y4 hb
              obtain ⟨r0, r1, r2, r3, r4⟩ := RX.out
              go_wp2_with fail
              refine ⟨trivial, ?_⟩
              go_wp2_with fail
              refine ⟨trivial, ?_⟩
              go_wp2_with fail
              refine ⟨trivial, ?_⟩
              go_wp2_with fail
              refine ⟨trivial, ?_⟩
              go_wp2_with fail
              obtain ⟨y0, y1', y2', _⟩ := boxp_set1 (boxp_set0 RX.out (.slice aX lX.length cX)) (.slice aY lY.length cY)
              refine bodyPost_ret (v := .tuple #[.agg #[.slice aX lX.length cX, .slice aY lY.length cY], .bool true]) (by simp [results, Try.results24, go_sem, y1', y2']) rfl ?_
              have hfr : ∀ (l : List Value) (a : Option Addr) (bs : List Nat) (W : World) (u v : Value), OwnV l a bs W → (∀ b, b ∈ bs → b ≠ w.heap.size + 1 + 1) → OwnV l a bs ((W.setCell ⟨w.heap.size + 1 + 1, 0, none⟩ u).setCell ⟨w.heap.size + 1 + 1, 1, none⟩ v) := fun l a bs W u v h hne =>
                (h.frame (w' := W.setCell ⟨w.heap.size + 1 + 1, 0, none⟩ u) (by simp) fun b hb _ => Below.heap_setCell _ _ _ _ (hne b hb)).frame (by simp) fun b hb _ => Below.heap_setCell _ _ _ _ (hne b hb)
              exact RetP.mk (aln_fin (L := orbL adj f sN k) (m := j) (by rw [orbL_len]; exact hjk) HRES.out
                (by rw [← hlX.out]; exact hfr _ _ _ _ _ _ HX5.out (fun b hb => by have := HX4.out b hb; omega))
                (by rw [← hlY.out]; exact hfr _ _ _ _ _ _ HY3.out (fun b hb => by have := HY4.out b hb; omega))
                _ _ (by rw [hlX.out]) (by rw [hlY.out]) (by simpa using x1) x2 (by simpa using y1) y2
                (fun b hb => by have := HX4.out b hb; have := BV.out.size; omega) (fun b hb => by have := HY4.out b hb; have := BV.out.size; omega)
                (fun b h1 h2 => by have := HXL.out b h1; have := HY4.out b h2; omega))
                (((below_next BV.out D4.out).setCell (by show w.heap.size ≤ w.heap.size + 1 + 1; omega) _).setCell (by show w.heap.size ≤ w.heap.size + 1 + 1; omega) _)
            · have HN2 := hid (HCOMP2.out (by omega))
              have hix2 : ¬ ix ≥ 0 := by omega
              have h0 := below_alloc w2 (.cells #[.int .i64 (Gfp.orb adj f sN k)] 3)
              have HI := hid (row_one w2 (Gfp.orb adj f sN k) (by unfold i64; omega))
              have HO1 := hid (HO2.out.next h0)
              have HM3 := hid (below_next HM2.out h0)
              have hMs := HM3.out.size
              have HLEN := hid (show (ints (orbL adj f sN k)).length = k by rw [ints_len, orbL_len])
              clear HCOMP HCOMP2 h0 HO2 HM2 HB2 HIN2
              go_wp2_with (at_builtin; refine wp_app_own2 rfl _ _ rfl wC.heap.size (.slice ap k cp) (ints (orbL adj f sN k)) [(Gfp.orb adj f sN k : Int)] (some ⟨w2.heap.size, 0, none⟩) 1 rfl rfl (fun h => by cases h) HO1.out hMs HI.out (by rw [HLEN.out]; omega) (by simp) ?_; intro v' w' hv hg hor)
              have HV := hid (show OwnI wC.heap.size v' (ints (orbL adj f sN (k + 1))) w' by
                rw [orbL_succ, show ints (orbL adj f sN k ++ [Gfp.orb adj f sN k]) = ints (orbL adj f sN k) ++ [(Gfp.orb adj f sN k : Int)] by simp [ints]]; exact hv)
              have HM4 := hid (below_own HM3.out HO1.out (Nat.le_refl _) hg)
              have HLV := hid (show lenV v' = k + 1 by
                obtain ⟨aq, cq, e, _⟩ := hv.shape
                rw [e]
                show (ints (orbL adj f sN k) ++ [(Gfp.orb adj f sN k : Int)]).length = _
                rw [List.length_append, HLEN.out]; rfl)
              clear hv hg hor HO1 HI HM3 hMs
              have HB4 := hid (below_next B0.out HM4.out)
              have P4 := hid (boxp_next HM4.out P0.out)
              obtain ⟨p0, p1, p2, p3, p4⟩ := P4.out
              obtain ⟨g0, hb1⟩ := HG0.out w' HB4.out
              have hu2 : (Gfp.orb adj f sN k : Int) < (thr.length : Int) := by omega
              have HFI2 := hid (show (r.map Int.toNat).find? (goalOf ((List.range thr.length).map f)) = some (Gfp.orb adj f sN (k + 1)) by
                rw [← HFI.out]
                exact find_congr _ fun m hm => goal_range (by
                  rw [List.mem_map] at hm
                  obtain ⟨y, hy, rfl⟩ := hm
                  have := HRR.out y hy; omega))
              have HFS := hid (fst_at _ r 0 _ HFI2.out)
              have HIXF := hid (show ∀ W, Below wC.heap.size wC W → Calls Try.prog 59 #[.slice a1 r.length c1, .func (.func 60) #[] #[.pointer (some ⟨O9, 0, none⟩)]] W (Ret (.int .i64 (fstI (goalOf ((List.range thr.length).map f)) r 0)) W) from fun W M =>
                ixA_any r ((List.range thr.length).map f) thr.length (by simp) W a1 (some ⟨R, 0, none⟩) c1 O9 thr.length (HRI.out W (below_next B0.out M)) k1 (by unfold maxLen; exact k2) HRR.out (Nat.le_refl _) (by unfold maxLen; omega) (by rw [M.cell (p := ⟨O9, 0, none⟩) (blt Q0.out)]; exact Q0.out) (row_bools (HR.out.below M)))
              obtain ⟨jj, y, hj1, hj2, hj3⟩ := HFS.out
              rw [hj1, Int.zero_add] at HIXF
              have hjl : jj < r.length := (List.getElem?_eq_some_iff.1 hj2).1
              have hjl2 : (jj : Int) < (r.length : Int) := by omega
              have hyr : y = (Gfp.orb adj f sN (k + 1) : Int) := by
                have := HRR.out y (List.mem_of_getElem? hj2); omega
              subst hyr
              have HROW := hid (show ∀ W, Below w.heap.size w W → ∃ b5 o5, a1 = some ⟨b5, o5, none⟩ ∧ b5 < W.heap.size ∧ W.cell? ⟨b5, o5 + jj, none⟩ = some (.int .i64 (Gfp.orb adj f sN (k + 1))) from fun W M => by
                obtain ⟨b5, o5, e, h1, _, h2, _⟩ := ints_at (HRI.out W M) (Below.refl _ _) hjl
                have h3 := (List.getElem?_eq_some_iff.1 hj2).2
                rw [h3] at h2
                exact ⟨b5, o5, e, h1, h2⟩)
              clear HFS HFI2 hj1 hj2 hj3 hix
              go_wp2_with fail
              refine wp_region_ord (C := fun wZ => ∃ xZ, wZ = World.over _ xZ) [0,1,2,3,4,5,6,7,8,9] (.one 10 (.one 11 (.one 12 (.one 13 (.one 14 .done))))) [] (by kernel_rfl) (by kernel_rfl) (fun d _ _ _ _ h => by cases d <;> exact h) (bex (Below.refl _ _).drew) ?_; simp only [pick, List.getElem?_cons_succ, List.getElem?_cons_zero]; (repeat (go_big_quiet_step (fail))); refine wpQuiet_nil ?_; simp only [ordW, pick, List.getElem?_cons_succ, List.getElem?_cons_zero]
              go_wp2_with fail
              refine ⟨bex (below_d (Below.refl _ _)), ?_⟩
              go_wp2_with fail
              refine (HIXF.out _ (below_d HM4.out)).mono ?_
              rintro e w5 ⟨rfl, hb⟩
              have B5 := hid (show Below w'.heap.size w' w5 from below_then (below_d (Below.refl _ _)) hb (by simp))
              obtain ⟨b5, o5, rfl, h51, h52⟩ := HROW.out w5 (below_next HB4.out B5.out)
              have HV5 := hid (HV.out.next B5.out)
              have HM5 := hid (below_next HM4.out B5.out)
              clear hb g0 hb1 p0 p1 p2 p3 p4
              go_wp2_with fail
              refine ⟨bex B5.out, ?_⟩
              go_wp2_with fail
              refine ⟨bex B5.out, ?_⟩
              go_wp2_with fail
              refine ⟨bex B5.out, ?_⟩
              go_wp2_with fail
              refine ⟨bex B5.out, ?_⟩
              go_wp2_with fail
              go_roundw
              case rel => exact ⟨k + 1, _, rfl, rfl, HV5, HN2, HM5⟩
              case measure => rw [HLV.out]; simp only [lenV]; omega
      · have b3 : inB s 0 ((thr.length : Int) - 1) = false := by
          cases h : inB s 0 ((thr.length : Int) - 1) with
          | false => rfl
          | true => simp [inB] at h; omega
        rw [b3]
        obtain rfl := HNO.out (fun h => by have := HOK.out.1 h; omega)
        clear HNO HYES HFA HOK HFIX HEQ HGD e3 b3
        go_wp2_with fail
        obtain ⟨y0, y1, y2, _⟩ := boxp_set1 (boxp_set0 R0.out (.slice none 0 0)) (.slice none 0 0)
        refine bodyPost_ret (v := .tuple #[.agg #[.slice none 0 0, .slice none 0 0], .bool false]) (by simp [results, Try.results24, go_sem, y1, y2]) rfl ?_
        exact RetP.mk (AlN.nil _ _) ((B0.out.setCell (by show w.heap.size ≤ w.heap.size + 1 + 1; omega) _).setCell (by show w.heap.size ≤ w.heap.size + 1 + 1; omega) _)
    · have b1 : ((thr.length : Int) != (sn : Int)) = true := by rw [bne_iff_ne]; omega
      obtain rfl := HNO.out (fun h => a1 (HOK.out.1 h).2.1)
      clear HNO HYES HFA HOK HFIX HEQ HGD e3 a1
      go_wp2_with fail
      obtain ⟨y0, y1, y2, _⟩ := boxp_set1 (boxp_set0 R0.out (.slice none 0 0)) (.slice none 0 0)
      refine bodyPost_ret (v := .tuple #[.agg #[.slice none 0 0, .slice none 0 0], .bool false]) (by simp [results, Try.results24, go_sem, y1, y2]) rfl ?_
      exact RetP.mk (AlN.nil _ _) ((B0.out.setCell (by show w.heap.size ≤ w.heap.size + 1 + 1; omega) _).setCell (by show w.heap.size ≤ w.heap.size + 1 + 1; omega) _)
end Alw
end Go.Proofs.Ytfemikebklmlpaa
namespace Go.Proofs.Ytfemikebklmlpaa
set_option linter.unusedVariables false
set_option linter.unusedSimpArgs false
namespace Alw
open Gr Bfs Gfp

theorem goal_isT {thr : List Bool} {n : Nat} (h : goalOf thr n = true) : thr[n]? = some true := by
  unfold goalOf at h
  rw [List.getD_eq_getElem?_getD] at h
  cases h3 : thr[n]? with
  | none => rw [h3] at h; cases h
  | some b => rw [h3] at h; simp at h; rw [h]
structure AlFine (g : G2) (thr : List Bool) (s : Int) (p : List Nat × List Nat) (l0 : Nat) : Prop where
  ok : okG g = true
  loop0 : p.2[0]? = some l0
  pos : 1 ≤ (p.1 ++ p.2).length
  len : (p.1 ++ p.2).length ≤ g.states.length
  set : ∀ n, n ∈ p.1 ++ p.2 → thr[n]? = some true
  start : ∃ n0 : Nat, (p.1 ++ p.2)[0]? = some n0 ∧ (n0 : Int) = s
  small : ∀ n, n ∈ p.1 ++ p.2 ++ [l0] → n < g.states.length
  edge : ∀ (a u v : Nat), (p.1 ++ p.2 ++ [l0])[a]? = some u → (p.1 ++ p.2 ++ [l0])[a + 1]? = some v → v ∈ adjOf g.next u
theorem al_fine {g : G2} {thr : List Bool} {s : Int} (h : (alwT g thr s).2 ≠ []) : ∃ l0, AlFine g thr s (alwT g thr s) l0 := by
  by_cases hh : OkA g thr s ∧ ∃ p : Nat × Nat, Trc (adjOf g.next) (gfp (adjOf g.next) (goalOf thr)) s.toNat p.1 p.2
  · obtain ⟨h1, ⟨k, i⟩, ht⟩ := hh
    have hF := okA_facts h1
    rw [alwT_yes h1 ht]
    obtain ⟨ht1, ht2, ht3⟩ := ht
    have hk := hF.lt ht1
    dsimp only at ht1 ht2 ht3 hk ⊢
    have hO : (orbL (adjOf g.next) (gfp (adjOf g.next) (goalOf thr)) s.toNat k).take i ++ (orbL (adjOf g.next) (gfp (adjOf g.next) (goalOf thr)) s.toNat k).drop i = orbL (adjOf g.next) (gfp (adjOf g.next) (goalOf thr)) s.toNat k := List.take_append_drop _ _
    have hO2 : orbL (adjOf g.next) (gfp (adjOf g.next) (goalOf thr)) s.toNat k ++ [orb (adjOf g.next) (gfp (adjOf g.next) (goalOf thr)) s.toNat i] = orbL (adjOf g.next) (gfp (adjOf g.next) (goalOf thr)) s.toNat (k + 1) := by rw [ht3, orbL_succ]
    have hmem : ∀ m n, n ∈ orbL (adjOf g.next) (gfp (adjOf g.next) (goalOf thr)) s.toNat m → ∃ j, n = orb (adjOf g.next) (gfp (adjOf g.next) (goalOf thr)) s.toNat j := fun m n hn => by
      unfold orbL at hn
      rw [List.mem_map] at hn
      obtain ⟨j, _, rfl⟩ := hn
      exact ⟨j, rfl⟩
    refine ⟨orb (adjOf g.next) (gfp (adjOf g.next) (goalOf thr)) s.toNat i, h1.1, ?_, ?_, ?_, ?_, ?_, ?_, ?_⟩
    · show (List.drop i _)[0]? = _
      rw [List.getElem?_drop, Nat.add_zero, orbL_at _ _ _ ht2]
    · show 1 ≤ (List.take i _ ++ List.drop i _).length
      rw [hO, orbL_len]; omega
    · show (List.take i _ ++ List.drop i _).length ≤ _
      rw [hO, orbL_len]; exact hk
    · show ∀ n, n ∈ List.take i _ ++ List.drop i _ → _
      rw [hO]
      intro n hn
      obtain ⟨j, rfl⟩ := hmem k n hn
      have h2 := (gfp_post (adjOf g.next) (goalOf thr) _ (hF.orb j).2.1).1
      exact goal_isT h2
    · show ∃ n0 : Nat, (List.take i _ ++ List.drop i _)[0]? = some n0 ∧ _
      rw [hO]
      exact ⟨_, orbL_at _ _ _ (by omega), by have := h1.2.2.1; show ((s.toNat : Nat) : Int) = s; omega⟩
    · show ∀ n, n ∈ List.take i _ ++ List.drop i _ ++ [_] → _
      rw [hO, hO2]
      intro n hn
      obtain ⟨j, rfl⟩ := hmem (k + 1) n hn
      exact (hF.orb j).1
    · show ∀ (a u v : Nat), (List.take i _ ++ List.drop i _ ++ [_])[a]? = some u → (List.take i _ ++ List.drop i _ ++ [_])[a + 1]? = some v → _
      rw [hO, hO2]
      intro a u v hu hv
      have ha : a + 1 < k + 1 := by have := (List.getElem?_eq_some_iff.1 hv).1; rwa [orbL_len] at this
      rw [orbL_at _ _ _ (by omega)] at hu
      rw [orbL_at _ _ _ ha] at hv
      obtain rfl := Option.some.inj hu
      obtain rfl := Option.some.inj hv
      exact List.mem_of_find?_eq_some (hF.orb a).2.2
  · have e : alwT g thr s = ([], []) := by unfold alwT; rw [dif_neg hh]
    rw [e] at h
    exact absurd rfl h
end Alw
end Go.Proofs.Ytfemikebklmlpaa
namespace Go.Proofs.Ytfemikebklmlpaa
open Go.RowKit
set_option linter.unusedVariables false
set_option linter.unusedSimpArgs false
namespace Bfs

/-- the first i and the last i have changed places -/
def midL (l : List Int) (i : Nat) : List Int := (List.range l.length).map fun p => if p < i ∨ l.length ≤ p + i then l.getD (l.length - 1 - p) 0 else l.getD p 0
theorem midL_len (l : List Int) (i : Nat) : (midL l i).length = l.length := by simp [midL]
theorem midL_at (l : List Int) (i p : Nat) : (midL l i)[p]? = if p < l.length then some (if p < i ∨ l.length ≤ p + i then l.getD (l.length - 1 - p) 0 else l.getD p 0) else none := by
  unfold midL
  rw [List.getElem?_map]
  by_cases h : p < l.length
  · rw [if_pos h, List.getElem?_range h]; rfl
  · rw [if_neg h, List.getElem?_eq_none (by simpa using h)]; rfl
theorem getD_at (l : List Int) (p : Nat) (h : p < l.length) : l[p]? = some (l.getD p 0) := by rw [List.getD_eq_getElem?_getD, List.getElem?_eq_getElem h]; rfl
theorem mid_zero (l : List Int) : midL l 0 = l := by
  apply List.ext_getElem?
  intro p
  rw [midL_at]
  split
  · rename_i h
    rw [if_neg (by omega), getD_at l p h]
  · rename_i h
    rw [List.getElem?_eq_none (by omega)]
theorem mid_step {l : List Int} {i j : Nat} (h : 2 * i + 1 < l.length) (hj : j = l.length - 1 - i) : ((midL l i).set i (l.getD j 0)).set j (l.getD i 0) = midL l (i + 1) := by
  subst hj
  apply List.ext_getElem?
  intro p
  rw [List.getElem?_set, List.getElem?_set, midL_at, midL_at, List.length_set, midL_len]
  by_cases hp : p < l.length
  · rw [if_pos hp, if_pos hp]
    by_cases e1 : l.length - 1 - i = p
    · rw [if_pos e1, if_pos (by omega), if_pos (by omega), show l.length - 1 - p = i by omega]
    · rw [if_neg e1]
      by_cases e2 : i = p
      · rw [if_pos e2, if_pos (by omega), if_pos (by omega), e2]
      · rw [if_neg e2]
        congr 1
        by_cases e3 : p < i ∨ l.length ≤ p + i
        · rw [if_pos e3, if_pos (by omega)]
        · rw [if_neg e3, if_neg (by omega)]
  · rw [if_neg hp, if_neg hp, if_neg (by omega), if_neg (by omega)]
theorem mid_end {l : List Int} {i : Nat} (h : l.length ≤ 2 * i + 1) : midL l i = l.reverse := by
  apply List.ext_getElem?
  intro p
  rw [midL_at]
  by_cases hp : p < l.length
  · rw [if_pos hp, List.getElem?_reverse hp, getD_at l _ (by omega)]
    congr 1
    by_cases e : p < i ∨ l.length ≤ p + i
    · rw [if_pos e]
    · rw [if_neg e, show l.length - 1 - p = p by omega]
  · rw [if_neg hp, List.getElem?_eq_none (by simpa using hp)]
theorem OwnI.put {B g c : Nat} {l : List Int} {w : World} (h : OwnI B (.slice (some ⟨g, 0, none⟩) l.length c) l w) (j : Nat) (x : Int) : OwnI B (.slice (some ⟨g, 0, none⟩) l.length c) (l.set j x) (w.setCell ⟨g, j, none⟩ (.int .i64 x)) := by
  have := (World.ownsRow.stored h j (.int .i64 x)).1
  unfold OwnI
  rw [List.length_set, List.map_set]
  exact this
/-- the row is turned in its place -/
def RevPost (B g c : Nat) (l : List Int) (w : World) (e : Ending) (w' : World) : Prop := e = .returned (.tuple #[]) ∧ OwnI B (.slice (some ⟨g, 0, none⟩) l.length c) l.reverse w' ∧ But w g w'
set_option maxRecDepth 100000 in
set_option maxHeartbeats 4000000 in
theorem reverse_any (l : List Int) (w : World) (B g c : Nat) (h : OwnI B (.slice (some ⟨g, 0, none⟩) l.length c) l w) : Calls Try.prog 70 #[.slice (some ⟨g, 0, none⟩) l.length c] w (RevPost B g c l w) := by
  have H := hid h
  obtain ⟨n, hn⟩ : ∃ n, n = l.length := ⟨_, rfl⟩
  have hcap : n ≤ c ∧ c ≤ maxLen := by
    rcases h.row with ⟨e, e2⟩ | ⟨g', c', e, h1, h2, h3, h4⟩
    · cases e2
    · simp at e; obtain ⟨rfl, rfl⟩ := e; exact ⟨by omega, h3⟩
  have HRV := hid (show ∀ W, OwnI B (.slice (some ⟨g, 0, none⟩) n c) l.reverse W → But w g W → RevPost B g c l w (.returned (.tuple #[])) W from fun W h1 h2 => ⟨rfl, by rw [← hn]; exact h1, h2⟩)
  have HLN := hid hn
  rw [← hn] at H ⊢
  obtain ⟨hc, hc2⟩ := hcap
  unfold maxLen at hc2
  clear h hn
  go_enter Try.func70, Try.ntmps70
  go_wp2_with fail
  go_loopw [2, 3] (fun vi vj wr => ∃ i : Nat, vi = .int .i64 i ∧ vj = .int .i64 ((n : Int) - 1 - i) ∧ Hid (OwnI B (.slice (some ⟨g, 0, none⟩) n c) (midL l i) wr) ∧ Hid (But w g wr)) (fun vi _ _ => n - (intOf vi).toNat)
  case atStart => exact ⟨0, rfl, by go_num, hid (by rw [mid_zero]; exact H.out), hid (But.refl _ _)⟩
  case round =>
    obtain ⟨i, rfl, rfl, HO, HB⟩ := hrel
    obtain ⟨wq, rfl⟩ : ∃ wq : World, wq = wr := ⟨_, rfl⟩
    by_cases hlt : 2 * i + 1 < n
    · obtain ⟨j, hj⟩ : ∃ j : Nat, (n : Int) - 1 - i = j := ⟨n - 1 - i, by omega⟩
      have hjl : j = l.length - 1 - i := by have := HLN.out; omega
      have hij : i ≠ j := by omega
      have hij2 : (i : Int) < (j : Int) := by omega
      have hjn : (j : Int) < (n : Int) := by omega
      have hin : (i : Int) < (n : Int) := by omega
      rw [hj]
      obtain ⟨wo, hwo⟩ : ∃ wo, wo = wq.drew := ⟨_, rfl⟩
      replace HO := hid (show OwnI B (.slice (some ⟨g, 0, none⟩) n c) (midL l i) wo by rw [hwo]; exact HO.out.next (below_d (Below.refl _ _)))
      replace HB := hid (show But w g wo by rw [hwo]; exact HB.out.drew)
      have hcell : ∀ p x, (midL l i)[p]? = some x → wo.cell? ⟨g, p, none⟩ = some (.int .i64 x) := fun p x hp => by
        have h := World.ownsRow.cells HO.out (g := g) rfl p (.int .i64 x) (by rw [List.getElem?_map, hp]; rfl)
        by_cases h0 : p = 0
        · subst h0; simpa [Addr.add] using h
        · simpa [Addr.add, h0] using h
      have hl := HLN.out
      have c1 := hcell i (l.getD i 0) (by rw [midL_at, if_pos (by omega), if_neg (by omega)])
      have c2 := hcell j (l.getD j 0) (by rw [midL_at, if_pos (by omega), if_neg (by omega)])
      have f1 : wo.frozen? ⟨g, i, none⟩ = false := World.ownsRow.frozenAt (n := n) (by have := HO.out; unfold OwnI at this; rw [midL_len, ← hl] at this; exact this) i
      have f2 : wo.frozen? ⟨g, j, none⟩ = false := World.ownsRow.frozenAt (n := n) (by have := HO.out; unfold OwnI at this; rw [midL_len, ← hl] at this; exact this) j
      have HN := hid (show OwnI B (.slice (some ⟨g, 0, none⟩) n c) (midL l (i + 1)) ((wo.setCell ⟨g, i, none⟩ (.int .i64 (l.getD j 0))).setCell ⟨g, j, none⟩ (.int .i64 (l.getD i 0))) from by
        have hm := midL_len l i
        have k1 := OwnI.put (c := c) (by rw [hm, ← hl]; exact HO.out) i (l.getD j 0)
        have k2 := OwnI.put (c := c) (by rw [List.length_set]; exact k1) j (l.getD i 0)
        rw [mid_step (by omega) hjl] at k2
        rw [List.length_set, hm, ← hl] at k2
        exact k2)
      have HBN := hid (show But w g ((wo.setCell ⟨g, i, none⟩ (.int .i64 (l.getD j 0))).setCell ⟨g, j, none⟩ (.int .i64 (l.getD i 0))) from (HB.out.trans (But.set _ _ _ _)).trans (But.set _ _ _ _))
      have c3 : (wo.setCell ⟨g, i, none⟩ (.int .i64 (l.getD j 0))).cell? ⟨g, j, none⟩ = some (.int .i64 (l.getD j 0)) := by
        rw [World.cell?_setCell_other _ _ _ _ (by intro h; have := congrArg Addr.off h; simp at this; omega)]; exact c2
      have f3 : (wo.setCell ⟨g, i, none⟩ (.int .i64 (l.getD j 0))).frozen? ⟨g, j, none⟩ = false := by simpa using f2
      generalize l.getD i 0 = xi at *
      generalize l.getD j 0 = xj at *
      have HJ := hid hj
      clear hcell hj hjl hl HO HB
      go_wp2_with fail
      refine wp_region_ord (C := fun _ => True) [0,1,2,3,4,5,6,8,9,10] (.two 7 11 (.one 11 (.one 12 (.one 13 (.one 14 (.one 15 .done))))) (.one 7 (.one 12 (.one 13 (.one 14 (.one 15 .done)))))) [] (by kernel_rfl) (by kernel_rfl) (fun d _ _ _ _ h => by cases d <;> exact h) trivial ?_; simp only [pick, List.getElem?_cons_succ, List.getElem?_cons_zero]; (repeat (go_big_quiet_step (fail))); refine wpQuiet_nil ?_; simp only [ordW, pick, List.getElem?_cons_succ, List.getElem?_cons_zero]
      rw [← hwo]
      clear hwo
      constructor
      all_goals
        go_wp2_with fail
        refine ⟨trivial, ?_⟩
        go_wp2_with fail
        refine ⟨trivial, ?_⟩
        go_wp2_with fail
        refine ⟨trivial, ?_⟩
        go_wp2_with fail
        refine ⟨trivial, ?_⟩
        go_wp2_with fail
        refine ⟨trivial, ?_⟩
        go_wp2_with fail
        refine ⟨trivial, ?_⟩
        go_wp2_with fail
        go_roundw
        case rel => exact ⟨i + 1, by go_num, by have := HJ.out; go_num, HN, HBN⟩
        case measure => simp [intOf]; omega
    · have HF := hid (HRV.out wq (by rw [← mid_end (l := l) (i := i) (by have := HLN.out; omega)]; exact HO.out) HB.out)
      have hij2 : ¬ ((i : Int) < (n : Int) - 1 - i) := by omega
      clear HO HB
      go_wp2_with fail
      refine bodyPost_ret (v := .tuple #[]) (by simp [results, Try.results70]) rfl ?_
      exact HF.out
end Bfs
end Go.Proofs.Ytfemikebklmlpaa
