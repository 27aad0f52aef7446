/- Joined texts (PathI, PathI2, AppKeep, RegSeg): contracts and plain laws. Conditions: those of each theorem. -/
import Derived.Test.YtfemikebklmlpaaJV25
import Derived.Test.YtfemikebklmlpaaJV5
import Derived.Test.YtfemikebklmlpaaJV3
set_option linter.unusedVariables false
set_option linter.unusedSimpArgs false
namespace Go.Proofs.Ytfemikebklmlpaa
open Go.RowKit
set_option linter.unusedVariables false
set_option linter.unusedSimpArgs false
namespace Bfs
open Gr

set_option maxRecDepth 100000 in
set_option maxHeartbeats 1000000 in
theorem wpInts_any (l : List Int) (w : World) (a a' : Option Addr) (c c' : Nat) (hl : IntsIn Any w a l) (hm : IntsIn Any w a' l) (hc : l.length ≤ c) (hc2 : c ≤ maxLen) (hc' : l.length ≤ c') (hc2' : c' ≤ maxLen) : Calls Try.prog 10 #[.slice a l.length c, .slice a' l.length c'] w (Ret (.bool true) w) := by
  have HL := hid hl
  have HM := hid hm
  unfold maxLen at hc2 hc2'
  have hne : ((l.length : Int) != (l.length : Int)) = false := by simp
  clear hl hm
  go_enter Try.func10, Try.ntmps10
  go_wp2_with fail
  go_loopw [5] (fun i wr => ∃ k : Nat, k ≤ l.length ∧ i = .int .i64 k ∧ Hid (Below w.heap.size w wr)) (fun i _ => l.length - (intOf i).toNat)
  case atStart => exact ⟨0, Nat.zero_le _, rfl, hid (Below.refl _ _)⟩
  case round =>
    obtain ⟨k, hk, rfl, B⟩ := hrel
    by_cases hlt : k < l.length
    · have hlt2 : (k : Int) < (l.length : Int) := by omega
      obtain ⟨b, o, rfl, _, _, g1, _⟩ := ints_at HL.out B.out hlt
      obtain ⟨b', o', rfl, _, _, g2, _⟩ := ints_at HM.out B.out hlt
      generalize l[k] = x at *
      have hxx : (x != x) = false := by simp
      go_wp2_with fail
      refine wp_region_over (by kernel_rfl) (by kernel_rfl) ?_; (repeat (go_big_quiet_step ((fail)))); refine wpQuiet_nil ?_; rintro _ ⟨xq, rfl⟩
      have B2 := hid (below_next B.out (over_below wr xq))
      go_wp2_with fail
      go_roundw
      case rel => exact ⟨k + 1, hlt, by go_num, B2⟩
      case measure => (simp [intOf]; try omega)
    · obtain rfl : k = l.length := by omega
      have hlt2 : ¬ ((l.length : Int) < (l.length : Int)) := by omega
      go_wp2_with fail
      go_ret
      exact Ret.mk rfl B.out
set_option maxRecDepth 100000 in
set_option maxHeartbeats 1000000 in
theorem gpath_any (g : G2) (s tgt N : Nat) (hN : g.next.length = N) (hs : s < N) (hN60 : N ≤ 60) (hgood : Bfs.Good g.next) (w : World) (x : Value) (hx : GrIn Any w g x) : Calls Try.prog 43 #[x, .int .i64 s, .int .i64 tgt] w (RetP (NewV w.heap.size ((ints (wuL (adjOf g.next) N s (isN tgt))).map (Value.int .i64))) w) := by
  obtain ⟨a, c, b, d, rfl, hc, hc2, hi, hd, hd2, hp⟩ := hx
  have HCALL := hid (fun (W : World) (M : Below w.heap.size w W) (b0 : Option Addr) (O : Nat) (h2 : IntsIn Any W b0 [(s : Int)]) (hO : W.cell? ⟨O, 0, none⟩ = some (.int .i64 tgt)) => shortestP_any g.next s tgt W b b0 d 1 O (hp.below M) hd hd2 (by omega) (by omega) hgood h2 (Nat.le_refl _) (by unfold maxLen; omega) hO)
  rw [hN] at HCALL
  rw [hN]
  generalize (ints (wuL (adjOf g.next) N s (isN tgt))).map (Value.int .i64) = res at *
  have D := hid (below_next (below_next (below_alloc w (.cells #[.slice a g.states.length c, .slice b N d] 26)) (below_alloc _ (.cells #[.int .i64 tgt] 3))) (below_alloc _ (.cells #[.int .i64 s] 3)))
  have HI := hid (row_one ((w.alloc (.cells #[.slice a g.states.length c, .slice b N d] 26)).alloc (.cells #[.int .i64 tgt] 3)) s (by unfold i64; omega))
  have HO := hid (show (((w.alloc (.cells #[.slice a g.states.length c, .slice b N d] 26)).alloc (.cells #[.int .i64 tgt] 3)).alloc (.cells #[.int .i64 s] 3)).cell? ⟨w.heap.size + 1, 0, none⟩ = some (.int .i64 tgt) by
    rw [(below_alloc _ (.cells #[.int .i64 s] 3)).cell (p := ⟨w.heap.size + 1, 0, none⟩) (by simp)]
    simp)
  have HC := hid (HCALL.out _ D.out _ _ HI.out HO.out)
  simp only [World.size_alloc] at HC
  generalize g.states.length = sl at *
  clear hp hi hgood HCALL hN hd2 hc2
  go_enter Try.func43, Try.ntmps43
  go_wp2_with fail
  refine HC.out.mono ?_
  rintro e w2 ⟨v, rfl, hv, hb⟩
  have HV := hid (show NewV w.heap.size res v w2 by
    obtain ⟨a, c, bs, h1, h2, h3, h4, h5⟩ := hv
    exact ⟨a, c, bs, h1, h2, h3, h4, fun b hb => by have := h5 b hb; have := D.out.size; simp at this; omega⟩)
  have HB := hid (below_next D.out hb)
  clear hv hb
  go_wp2_with fail
  go_ret
  exact RetP.mk HV.out HB.out
end Bfs
end Go.Proofs.Ytfemikebklmlpaa
namespace Go.Proofs.Ytfemikebklmlpaa
open Go.RowKit
set_option linter.unusedVariables false
set_option linter.unusedSimpArgs false
namespace Bfs
open Gr

set_option maxRecDepth 100000 in
set_option maxHeartbeats 1000000 in
theorem spath_any (g : G2) (hok : okG g = true) (s tgt : Nat) (hs : s < g.states.length) (ht : tgt < g.states.length) (w : World) (x : Value) (hx : GrIn Any w g x) : Calls Try.prog 11 #[x, .int .i64 s, .int .i64 tgt] w (RetP (NewV w.heap.size ((ints (wuL (adjOf g.next) g.states.length s (isN tgt))).map (Value.int .i64))) w) := by
  obtain ⟨⟨e1, e2⟩, e3, e4, _⟩ := okG_len hok
  have HX := hid hx
  obtain ⟨a, c, b, d, rfl⟩ := hx.shape
  have hc2 : g.states.length ≤ c ∧ c ≤ maxLen := by
    obtain ⟨a', c', b', d', e, h1, h2, _⟩ := hx
    simp at e
    omega
  obtain ⟨hc, hc3⟩ := hc2
  have HV := hid (show ∀ W, Below w.heap.size w W → Calls Try.prog 35 #[.agg #[.slice a g.states.length c, .slice b g.next.length d]] W (Ret (.bool true) W) from fun W M => by have := valid_any g W _ (HX.out.below M); rw [hok] at this; exact this)
  have HPA := hid (fun (W : World) (M : Below w.heap.size w W) => gpath_any g s tgt g.states.length e3 hs e2 e4 W _ (HX.out.below M))
  generalize (ints (wuL (adjOf g.next) g.states.length s (isN tgt))).map (Value.int .i64) = res at *
  have b1 : inB (s : Int) 0 ((g.states.length : Int) - 1) = true := by simp [inB]; omega
  have b2 : inB (tgt : Int) 0 ((g.states.length : Int) - 1) = true := by simp [inB]; omega
  have B1 := hid b1
  have B2 := hid b2
  generalize g.states.length = sn at *
  generalize g.next.length = nl at *
  unfold maxLen at hc3
  clear hok hx e4 b1 b2 e3
  go_enter Try.func11, Try.ntmps11
  go_wp2_with fail
  have D0 := hid (below_alloc w (.cells #[.slice a sn c, .slice b nl d] 26))
  have P0 := hid (boxp_at (w := w) (a := .slice a sn c) (b := .slice b nl d) (t := 26) rfl)
  generalize w.alloc (.cells #[.slice a sn c, .slice b nl d] 26) = wA at *
  obtain ⟨p0, p1, p2, p3, p4⟩ := P0.out
  go_wp2_with fail
  refine (HV.out wA D0.out).mono ?_
  rintro e wB ⟨rfl, hb⟩
  replace D0 := hid (below_next D0.out hb)
  replace P0 := hid (boxp_next hb P0.out)
  clear p0 p1 p2 p3 p4 hb
  obtain ⟨p0, p1, p2, p3, p4⟩ := P0.out
  go_wp2_with fail
  refine (in_any s 0 ((sn : Int) - 1) _).mono ?_
  rintro e wB ⟨rfl, rfl⟩
  rw [B1.out]
  go_wp2_with fail
  refine (in_any tgt 0 ((sn : Int) - 1) _).mono ?_
  rintro e wB ⟨rfl, rfl⟩
  rw [B2.out]
  go_wp2_with fail
  refine (HPA.out _ D0.out).mono ?_
  rintro e w2 ⟨v, rfl, hv, hb⟩
  have HVV := hid (show NewV w.heap.size res v w2 by
    obtain ⟨a, c, bs, h1, h2, h3, h4, h5⟩ := hv
    exact ⟨a, c, bs, h1, h2, h3, h4, fun b hb => by have := h5 b hb; have := D0.out.size; omega⟩)
  have HB := hid (below_next D0.out hb)
  clear hv hb
  go_wp2_with fail
  go_ret
  exact RetP.mk HVV.out HB.out
set_option maxRecDepth 100000 in
set_option maxHeartbeats 2000000 in
theorem pvalid_any (g : G2) (hok : okG g = true) (l : List Nat) (hl0 : 0 < l.length) (hlt : ∀ n, n ∈ l → n < g.states.length) (hed : ∀ (a u v : Nat), l[a]? = some u → l[a + 1]? = some v → v ∈ adjOf g.next u) (w : World) (x : Value) (al : Option Addr) (cl : Nat) (hx : GrIn Any w g x) (hl : IntsIn Any w al (ints l)) (hcl : l.length ≤ cl) (hcl2 : cl ≤ maxLen) :
    Calls Try.prog 12 #[x, .slice al l.length cl] w (Ret (.bool true) w) := by
  obtain ⟨⟨e1, e2⟩, e3, e4, e5⟩ := okG_len hok
  have HX := hid hx
  obtain ⟨a, c, b, d, rfl, hc, hc2, hi, hd, hd2, hp⟩ := hx
  have HP := hid hp
  have HV := hid (show ∀ W, Below w.heap.size w W → Calls Try.prog 35 #[.agg #[.slice a g.states.length c, .slice b g.next.length d]] W (Ret (.bool true) W) from fun W M => by have := valid_any g W _ (HX.out.below M); rw [hok] at this; exact this)
  have HAT := hid (show ∀ W, Below w.heap.size w W → ∀ (i n : Nat), l[i]? = some n → ∃ bl ol, al = some ⟨bl, ol, none⟩ ∧ bl < W.heap.size ∧ W.cell? ⟨bl, ol + i, none⟩ = some (.int .i64 n) from fun W M i n hn => by
    have hil : i < (ints l).length := by rw [ints_len]; exact (List.getElem?_eq_some_iff.1 hn).1
    obtain ⟨bl, ol, e, h1, _, h2, _⟩ := ints_at hl M hil
    refine ⟨bl, ol, e, h1, ?_⟩
    rw [h2]
    obtain ⟨_, h3⟩ := List.getElem?_eq_some_iff.1 hn
    simp [ints, h3])
  have HROW := hid (show ∀ u, u < g.states.length → ∃ r : List Int, adjOf g.next u = r.map Int.toNat ∧ (∀ x, x ∈ r → 0 ≤ x) ∧ ∃ b1 o1 a1 c1, b = some ⟨b1, o1, none⟩ ∧ b1 < w.heap.size ∧ w.cell? ⟨b1, o1 + u, none⟩ = some (.slice a1 r.length c1) ∧ r.length ≤ c1 ∧ c1 ≤ maxLen ∧ IntsIn Any w a1 r from fun u hu => by
    have hun : u < g.next.length := by omega
    obtain ⟨b1, o1, a1, c1, e3, hb1, _, g0, k1, k2, hrow⟩ := rows_at HP.out hun
    exact ⟨g.next[u], adj_at hun, fun x hx => (e4 g.next[u] (List.getElem_mem hun) x hx).1, b1, o1, a1, c1, e3, hb1, g0, k1, k2, hrow⟩)
  have HED := hid hed
  have HLT := hid hlt
  generalize g.states.length = sn at *
  generalize g.next.length = nl at *
  generalize adjOf g.next = adj at *
  subst e3
  unfold maxLen at hc2 hd2 hcl2
  have hl00 : ((l.length : Int) == 0) = false := by rw [beq_eq_false_iff_ne]; omega
  clear hok hi hp hl e4 e5 hed hlt
  go_enter Try.func12, Try.ntmps12
  go_wp2_with fail
  have D0 := hid (below_alloc w (.cells #[.slice a nl c, .slice b nl d] 26))
  have P0 := hid (boxp_at (w := w) (a := .slice a nl c) (b := .slice b nl d) (t := 26) rfl)
  generalize w.alloc (.cells #[.slice a nl c, .slice b nl d] 26) = wA at *
  obtain ⟨p0, p1, p2, p3, p4⟩ := P0.out
  go_wp2_with fail
  refine (HV.out wA D0.out).mono ?_
  rintro e wB ⟨rfl, hb⟩
  replace D0 := hid (below_next D0.out hb)
  replace P0 := hid (boxp_next hb P0.out)
  clear p0 p1 p2 p3 p4 hb
  go_wp2_with fail
  go_loopw [5, 6, 17] (fun _ _ i wr => ∃ k : Nat, k ≤ l.length ∧ i = .int .i64 k ∧ Hid (Below w.heap.size w wr) ∧ Hid (BoxP wr w.heap.size (.slice a nl c) (.slice b nl d))) (fun _ _ i _ => l.length - (intOf i).toNat)
  case atStart => exact ⟨0, Nat.zero_le _, rfl, D0, P0⟩
  case round =>
    obtain ⟨k, hk, rfl, HB, HPB⟩ := hrel
    obtain ⟨wo, rfl⟩ : ∃ wo : World, wo = wr := ⟨_, rfl⟩
    obtain ⟨p0, p1, p2, p3, p4⟩ := HPB.out
    clear D0 P0
    by_cases hkl : k < l.length
    · have hkl2 : (k : Int) < (l.length : Int) := by omega
      obtain ⟨n, hn⟩ : ∃ n, l[k]? = some n := ⟨_, List.getElem?_eq_getElem hkl⟩
      obtain ⟨bl, ol, rfl, hbl, gl⟩ := HAT.out wo HB.out k n hn
      have hnN := HLT.out n (List.mem_of_getElem? hn)
      have hin : inB (n : Int) 0 ((nl : Int) - 1) = true := by simp [inB]; omega
      have HIN := hid (show ∀ W, Calls Try.prog 36 #[.int .i64 n, .int .i64 0, .int .i64 ((nl : Int) - 1)] W (Ret (.bool true) W) from fun W => (in_any n 0 ((nl : Int) - 1) W).mono (by rintro e w' ⟨rfl, rfl⟩; rw [hin]; exact ⟨rfl, Below.refl _ _⟩))
      by_cases hk0 : k = 0
      · subst hk0
        have gl2 : wo.cell? ⟨bl, ol, none⟩ = some (.int .i64 n) := gl
        clear hn hin
        go_wp2_with fail
        refine wp_region_over (by kernel_rfl) (by kernel_rfl) ?_; (repeat (go_big_quiet_step ((go_at_call 36; exact Calls.over (HIN.out _))))); refine wpQuiet_nil ?_; rintro _ ⟨xq, rfl⟩
        have B2 := hid (below_next HB.out (over_below wo xq))
        have P2 := hid (boxp_next (over_below wo xq) HPB.out)
        go_wp2_with fail
        go_roundw
        case rel => exact ⟨1, hkl, by go_num, B2, P2⟩
        case measure => (simp [intOf]; try omega)
      · obtain ⟨j, rfl⟩ : ∃ j, k = j + 1 := ⟨k - 1, by omega⟩
        have hjk : ((j + 1 : Nat) : Int) - 1 = (j : Int) := by omega
        have hj0 : ((j + 1 : Nat) : Int) > 0 := by omega
        have hjl : (j : Int) < (l.length : Int) := by omega
        obtain ⟨u, hu⟩ : ∃ u, l[j]? = some u := ⟨_, List.getElem?_eq_getElem (by omega)⟩
        obtain ⟨bl', ol', e', _, gu⟩ := HAT.out wo HB.out j u hu
        simp only [Option.some.injEq, Addr.mk.injEq, and_true] at e'
        obtain ⟨rfl, rfl⟩ := e'
        have huN := HLT.out u (List.mem_of_getElem? hu)
        have huN2 : (u : Int) < (nl : Int) := by omega
        obtain ⟨r, hr1, hr2, b1, o1, a1, c1, rfl, hb1, g0, k1, k2, hrow⟩ := HROW.out u huN
        have g0' : wo.cell? ⟨b1, o1 + u, none⟩ = some (.slice a1 r.length c1) := by rw [HB.out.cell (p := ⟨b1, o1 + u, none⟩) hb1]; exact g0
        have hb1' := Nat.lt_of_lt_of_le hb1 HB.out.size
        have hmem := HED.out j u n hu hn
        rw [hr1, List.mem_map] at hmem
        have hhas : hasI r (n : Int) = true := by
          obtain ⟨y, hy, hyn⟩ := hmem
          unfold hasI
          rw [decide_eq_true_eq]
          have := hr2 y hy
          have : y = (n : Int) := by omega
          rw [← this]; exact hy
        have HCON := hid (show ∀ W, Below wo.heap.size wo W → Calls Try.prog 44 #[.slice a1 r.length c1, .int .i64 n] W (Ret (.bool true) W) from fun W M => by
          have := contains_any r n W a1 c1 ((hrow.below HB.out).below M) k1 k2
          rw [hhas] at this; exact this)
        unfold maxLen at k2
        clear hn hin hu hr1 hr2 hrow hmem hhas g0 hb1
        go_wp2_with fail
        refine wp_region_over (by kernel_rfl) (by kernel_rfl) ?_; (repeat (go_big_quiet_step ((first | (go_at_call 36; exact Calls.over (HIN.out _)) | (go_at_call 44; exact Calls.over (HCON.out _ (over_below wo _))))))); refine wpQuiet_nil ?_; rintro _ ⟨xq, rfl⟩
        have B2 := hid (below_next HB.out (over_below wo xq))
        have P2 := hid (boxp_next (over_below wo xq) HPB.out)
        go_wp2_with fail
        go_roundw
        case rel => exact ⟨j + 1 + 1, hkl, by go_num, B2, P2⟩
        case measure => (simp [intOf]; try omega)
    · obtain rfl : k = l.length := by omega
      have hkk : ¬ ((l.length : Int) < (l.length : Int)) := by omega
      go_wp2_with fail
      go_ret
      exact Ret.mk rfl HB.out
end Bfs
end Go.Proofs.Ytfemikebklmlpaa
namespace Go.Proofs.Ytfemikebklmlpaa
open Go.RowKit
set_option linter.unusedVariables false
set_option linter.unusedSimpArgs false

theorem wp_app_emp {ops : Array Oper} {rest : List Oper} {o : Oper} {a : Act} {Q : Exit → Act → World → Prop} {w : World} (hgd : o.guard = none) (s x : Operand)
    (ho : o.op = .call { callee := .builtin .append, args := #[s, x], argTypes := #[30, 30] }) (b : Option Addr) (n c c2 : Nat) (hs : a.eval s = .slice b n c) (hx : a.eval x = .slice none 0 c2) (hc : n ≤ c)
    (h : wpList Try.prog ops Q rest (a.put o.dst (.slice b n c)) w) : wpList Try.prog ops Q (o :: rest) a w := by
  obtain ⟨i, hi, hz, hz1, hz2⟩ := info_parts ints_info
  have e : (Builtin.append_ #[30, 30] o.type #[.slice b n c, .slice none 0 c2]).run Try.prog w = .ok (.slice b n c) w := by
    cases b with
    | none => simp [Builtin.append_, run_underlying Try.underlying30, sizeOf, typeInfo, hi, hc, Builtin.lenOf, run_firstCells_none]
    | some ad => simp [Builtin.append_, run_underlying Try.underlying30, sizeOf, typeInfo, hi, hc, Builtin.lenOf, run_firstCells_none, storeCells]
  refine wpList_plain hgd fun K hK => ?_
  unfold Oper.wp execOp
  simp only [ho, resolve, invoke, builtin, Sem.run_bind, Sem.run_pure, Result.andThen_ok, List.map_toArray, List.map_cons, List.map_nil, hs, hx, e]
  exact hK _ _ h
/-- append of numbers, whatever a nil slice's room -/
theorem wp_app_own3 {ops : Array Oper} {rest : List Oper} {o : Oper} {a : Act} {Q : Exit → Act → World → Prop} {w : World} (hgd : o.guard = none) (s x : Operand)
    (ho : o.op = .call { callee := .builtin .append, args := #[s, x], argTypes := #[30, 30] }) (B : Nat) (v : Value) (acc l : List Int) (ad : Option Addr) (c : Nat) (hs : a.eval s = v) (hx : a.eval x = .slice ad l.length c)
    (hv : OwnI B v acc w) (hB : B ≤ w.heap.size) (hl : IntsIn Any w ad l) (h1 : acc.length ≤ 1000000) (h2 : l.length ≤ 1000000)
    (h : ∀ v' w', OwnI B v' (acc ++ l) w' → w.grownBy w' v.ownBlock → (v'.ownBlock = v.ownBlock ∨ v'.ownBlock = some w.heap.size) → wpList Try.prog ops Q rest (a.put o.dst v') w') :
    wpList Try.prog ops Q (o :: rest) a w := by
  cases ad with
  | none =>
    have hl0 : l = [] := by
      rcases hl.1 with h0 | ⟨b, o', h0, _⟩
      · simpa using h0
      · cases h0
    subst hl0
    obtain ⟨b, n, rfl, hc, _⟩ := hv.shape
    exact wp_app_emp hgd s x ho b _ n c hs hx hc (h _ _ (by simpa using hv) (World.grownBy.refl _ _) (.inl rfl))
  | some ad => exact wp_app_own2 hgd s x ho B v acc l (some ad) c hs hx (fun h => by cases h) hv hB hl h1 h2 h
theorem wp_app_cells {ops : Array Oper} {rest : List Oper} {o : Oper} {a : Act} {Q : Exit → Act → World → Prop} {w : World} (hgd : o.guard = none) (s x : Operand)
    (ho : o.op = .call { callee := .builtin .append, args := #[s, x], argTypes := #[30, 30] }) (B g cap : Nat) (acc l : List Int) (ad : Addr) (c : Nat) (hs : a.eval s = .slice (some ⟨g, 0, none⟩) acc.length cap) (hx : a.eval x = .slice (some ad) l.length c)
    (hv : OwnI B (.slice (some ⟨g, 0, none⟩) acc.length cap) acc w) (hB : B ≤ w.heap.size) (hl : IntsIn Any w (some ad) l) (h1 : acc.length ≤ 1000000) (h2 : l.length ≤ 1000000)
    (h : ∀ v' w', OwnI B v' (acc ++ l) w' → w.grownBy w' (some g) → (∀ i, i < acc.length → w'.cell? ⟨g, i, none⟩ = w.cell? ⟨g, i, none⟩) → wpList Try.prog ops Q rest (a.put o.dst v') w') :
    wpList Try.prog ops Q (o :: rest) a w := by
  obtain ⟨ri, hi, hz, hs1, hs2⟩ := info_parts ints_info
  have hnews : ∀ j u, (l.map (Value.int .i64))[j]? = some u → w.cell? (ad.add j) = some u := fun j u hj => by
    rcases hl.1 with h0 | ⟨b, o', h1, h2, h3, h4⟩
    · rw [h0] at hj; simp at hj
    · obtain rfl : ad = ⟨b, o', none⟩ := by simpa using h1
      have e : Addr.add ⟨b, o', none⟩ j = ⟨b, o' + j, none⟩ := by unfold Addr.add; split <;> simp_all
      rw [e]
      exact h4 j u hj
  have hone : ∀ u, u ∈ l.map (Value.int .i64) → u.oneCell' = true := fun u hu => by
    simp at hu
    obtain ⟨n, _, rfl⟩ := hu
    rfl
  have h63 : acc.length + l.length ≤ maxLen := by simp only [maxLen]; omega
  have hby : (acc.length + l.length) * 8 ≤ 140737488355328 := by omega
  obtain ⟨v', w', hr, q1, q2, q3, q4⟩ := run_append_own_at (P := Try.prog) w B 30 o.type 3 ri (.int .i64 0) 1 8 Try.underlying30 hi hz hs1 hs2 rfl (by omega) _ _ _ hv ad l.length c (l.map (Value.int .i64)) (by simp) hnews hone h63 hby hB
  have hown : OwnI B v' (acc ++ l) w' := by unfold OwnI; rw [List.length_append, List.map_append]; exact q1
  have hadd : ∀ b i, Addr.add ⟨b, 0, none⟩ i = ⟨b, i, none⟩ := fun b i => by unfold Addr.add; split <;> simp_all
  have holds : ∀ j u, (acc.map (Value.int .i64))[j]? = some u → w.cell? ((⟨g, 0, none⟩ : Addr).add j) = some u := World.ownsRow.cells hv (g := g) rfl
  have hcell : ∀ i, i < acc.length → w'.cell? ⟨g, i, none⟩ = w.cell? ⟨g, i, none⟩ := fun i hi' => by
    have hu : (acc.map (Value.int .i64))[i]? = some (.int .i64 acc[i]) := by rw [List.getElem?_map, List.getElem?_eq_getElem hi']; rfl
    rcases hv.2 with ⟨e, _⟩ | ⟨g', cap', cur, e, hbg, hg, hnc, hcm, hcs, htake⟩
    · cases e
    · simp at e
      obtain ⟨rfl, rfl⟩ := e
      by_cases hroom : acc.length + l.length ≤ cap
      · have hfit : acc.length * ri.size + (l.map (Value.int .i64)).length ≤ cur.size := by rw [hcs, hs1, List.length_map]; omega
        have hr2 := run_append_room (P := Try.prog) w 30 o.type 3 ri Try.underlying30 hi g acc.length cap cur hg ad l.length c (l.map (Value.int .i64)) (by rw [List.length_map, hs1]; omega) hnews hone hroom hfit
        rw [hr] at hr2
        simp only [Result.ok.injEq] at hr2
        obtain ⟨rfl, hw⟩ := hr2
        have := World.ownsRow.cells hown (g := g) rfl i (.int .i64 acc[i]) (by rw [List.map_append, List.getElem?_append_left (by simpa using hi')]; exact hu)
        rw [hadd] at this
        have h0 := holds i _ hu
        rw [hadd] at h0
        rw [this, h0]
      · have hr2 := run_append_grow (P := Try.prog) w 30 o.type 3 ri (.int .i64 0) Try.underlying30 hi hz ⟨g, 0, none⟩ acc.length cap (acc.map (Value.int .i64)) (by rw [List.length_map, hs1]; omega) holds ad l.length c (l.map (Value.int .i64)) (by rw [List.length_map, hs1]; omega) hnews (by omega) (by omega) (growslice_fits (by omega) (by rw [hs2]; exact hby))
        rw [hr] at hr2
        simp only [Result.ok.injEq] at hr2
        obtain ⟨_, rfl⟩ := hr2
        have hlt : g < w.heap.size := (Array.getElem?_eq_some_iff.1 hg).1
        refine World.cell?_of_block (w := w) (a := ⟨g, i, none⟩) ?_
        exact (below_alloc w.drew _).block g hlt
  refine wpList_plain hgd fun K hK => ?_
  unfold Oper.wp execOp
  simp only [ho, resolve, invoke, builtin, Sem.run_bind, Sem.run_pure, Result.andThen_ok, List.map_toArray, List.map_cons, List.map_nil, hs, hx, hr]
  exact hK _ _ (h v' w' hown q2 hcell)
end Go.Proofs.Ytfemikebklmlpaa
namespace Go.Proofs.Ytfemikebklmlpaa
open Go.RowKit
set_option linter.unusedVariables false
set_option linter.unusedSimpArgs false

inductive Seg where
  | op (i : Nat)
  | pre (I : List Nat)
section
variable {P : Program} {Q : Exit → Act → World → Prop} {md : Region.Mode} {C : World → Prop}
def segB (md : Region.Mode) (l : List Oper) : List Seg → Array Bool → Bool
  | [], listed => (Region.ready md l.toArray listed).isEmpty
  | .op i :: r, listed => (Region.ready md l.toArray listed) == [i] && ((l[i]?).isSome && segB md l r (listed.setIfInBounds i true))
  | .pre I :: r, listed => preZ md l [] I listed && segB md l r (marked I listed)
def segN : List Seg → Nat
  | [] => 0
  | .op _ :: r => segN r + 1
  | .pre I :: r => segN r + I.length
def segW (P : Program) (ops : Array Oper) (Q : Exit → Act → World → Prop) (C : World → Prop) (l : List Oper) : List Seg → Act → World → Prop
  | [], a, w => Q .normal a w
  | .op i :: r, a, w => wpList P ops (Exit.then (fun a' w' => C w' ∧ segW P ops Q C l r a' w') Q) (pick l [i]) a w
  | .pre I :: r, a, w => wpQuiet P ops C (fun a' => segW P ops Q C l r a' w) (pick l I) a
theorem segW_nil {ops : Array Oper} {l : List Oper} (a : Act) (w : World) : segW P ops Q C l [] a w = Q .normal a w := rfl
theorem segW_op {ops : Array Oper} {l : List Oper} (i : Nat) (r : List Seg) (a : Act) (w : World) : segW P ops Q C l (.op i :: r) a w = wpList P ops (Exit.then (fun a' w' => C w' ∧ segW P ops Q C l r a' w') Q) (pick l [i]) a w := rfl
theorem segW_pre {ops : Array Oper} {l : List Oper} (I : List Nat) (r : List Seg) (a : Act) (w : World) : segW P ops Q C l (.pre I :: r) a w = wpQuiet P ops C (fun a' => segW P ops Q C l r a' w) (pick l I) a := rfl

theorem AnyZ.seg {l : List Oper} (hsel : Region.noSelect l.toArray = true) (hQ : ∀ d v c a w, Q (.panic c) (Act.put a d v) w → Q (.panic c) a w) : ∀ (T : List Seg) (listed : Array Bool) (a : Act) (w : World), segB md l T listed = true → C w → segW P l.toArray Q C l T a w → AnyZ P md l.toArray Q C [] (segN T) listed a w := by
  intro T
  induction T with
  | nil => intro listed a w h _ hw; exact ⟨List.isEmpty_iff.1 h, hw⟩
  | cons t r ih =>
    intro listed a w hB hC h
    cases t with
    | op i =>
      simp only [segB, Bool.and_eq_true, beq_iff_eq] at hB
      obtain ⟨h1, h2, h3⟩ := hB
      obtain ⟨o, ho⟩ := Option.isSome_iff_exists.1 h2
      have hoa : l.toArray[i]? = some o := by simpa using ho
      rw [segW_op, pick_one ho] at h
      refine ⟨fun hn => by (rw [h1] at hn; cases hn), fun j hj => ?_⟩
      rw [h1] at hj
      obtain rfl : j = i := by simpa using hj
      exact wpOp_mono (fun a' w' hq => ⟨fun _ => hq.1, ih _ a' w' h3 hq.1 hq.2⟩) (op_then hoa h)
    | pre I =>
      simp only [segB, Bool.and_eq_true] at hB
      rw [segW_pre] at h
      exact AnyZ.pre (n := segN r) hsel hQ hC I listed a hB.1 (wpQuiet_mono' (fun a' ha => ih _ a' w hB.2 hC ha) _ _ h)

theorem wp_region_seg {id : Nat} {a : Act} {w : World} {l : List Oper} (T : List Seg) (hm : P.follows .mixedOrders = true)
    (hB : (Region.noSelect l.toArray && (segB .any l T (Array.replicate l.length false) && decide (segN T = l.length))) = true)
    (hQ : ∀ d v c a w, Q (.panic c) (Act.put a d v) w → Q (.panic c) a w) (hC : C w.drew)
    (h : segW P l.toArray Q C l T a w.drew) : (Code.region id l.toArray true).wp P Q a w := by
  simp only [Bool.and_eq_true, decide_eq_true_eq] at hB
  obtain ⟨h1, h2, h3⟩ := hB
  refine wp_region_any hm (AnyZ.sound (C := C) (Z := []) _ _ _ _ ?_)
  have := AnyZ.seg h1 hQ T _ a _ h2 hC h
  rw [h3] at this
  simpa using this
end

/-! ### worlds in which some blocks, and one cell, are as they were -/
structure KeepC (S : List Nat) (b : Nat) (w w' : World) : Prop where
  keep : KeepP S w w'
  cell : w'.cell? ⟨b, 0, none⟩ = w.cell? ⟨b, 0, none⟩
def OverC (w : World) (S : List Nat) (b : Nat) : Type := { w' : World // KeepC S b w w' }
def _root_.Go.World.overC (w : World) (S : List Nat) (b : Nat) (x : OverC w S b) : World := x.1
instance overC_some (w : World) (S : List Nat) (b : Nat) : Nonempty (OverC w S b) := ⟨⟨w, ⟨Nat.le_refl _, fun _ _ _ => rfl⟩, rfl⟩⟩
theorem KeepC.ex {S : List Nat} {b : Nat} {w w' : World} (h : KeepC S b w w') : ∃ x, w' = w.overC S b x := ⟨⟨w', h⟩, rfl⟩
@[go_sem] theorem overC_cell (w : World) (S : List Nat) (c : Nat) (x : OverC w S c) (b o : Nat) (h : b ∈ S) (hb : b < w.heap.size) : (w.overC S c x).cell? ⟨b, o, none⟩ = w.cell? ⟨b, o, none⟩ := World.cell?_of_block (w := w) (x.2.keep.block b h hb)
@[go_sem] theorem overC_cell0 (w : World) (S : List Nat) (c : Nat) (x : OverC w S c) : (w.overC S c x).cell? ⟨c, 0, none⟩ = w.cell? ⟨c, 0, none⟩ := x.2.cell
theorem KeepC.drew {S : List Nat} {b : Nat} {w w' : World} (h : KeepC S b w w') : KeepC S b w w'.drew := ⟨h.keep.drew, h.cell⟩
theorem KeepC.below {S : List Nat} {b : Nat} {w w1 w2 : World} (h : KeepC S b w w1) (hb : Below w1.heap.size w1 w2) (hlt : b < w1.heap.size) : KeepC S b w w2 := ⟨h.keep.trans (KeepP.below hb), (hb.cell (p := ⟨b, 0, none⟩) hlt).trans h.cell⟩
attribute [irreducible] World.overC OverC
end Go.Proofs.Ytfemikebklmlpaa
