/- Joined texts (GraphP, GraphG, AppB): contracts and plain laws. Conditions: those of each theorem. -/
import Derived.Test.YtfemikebklmlpaaJV12
import Derived.Test.YtfemikebklmlpaaJV15
import Derived.Test.YtfemikebklmlpaaJV18
import Derived.Test.YtfemikebklmlpaaJV2
import Derived.Test.YtfemikebklmlpaaJV3
import Derived.Test.YtfemikebklmlpaaJV1
import Derived.Deep.DeepCutAuto
import Derived.Deep.CutBlock
import Derived.Lib.SliceRun
set_option linter.unusedVariables false
set_option linter.unusedSimpArgs false
namespace Go.Proofs.Ytfemikebklmlpaa
open Go.RowKit
set_option linter.unusedVariables false
set_option linter.unusedSimpArgs false
namespace Gr

theorem but_grown {R : Nat} {w W W' : World} {r : Option Nat} (hb : But w R W) (hg : W.grownBy W' r) (hr : ∀ b, r = some b → w.heap.size ≤ b) : But w R W' :=
  ⟨hg.os.trans hb.os, hg.tape.trans hb.tape, hg.output.trans hb.output, Nat.le_trans hb.size hg.size, fun y hy hd => (hg.block y (Nat.lt_of_lt_of_le hy hb.size) (fun e => by have := hr _ e.symm; omega)).trans (hb.block y hy hd)⟩
/-- a graph being drawn in its variable O; the result's variable is w.heap.size -/
def DSt (w : World) (R B q O : Nat) (x : Option Nat) (vs vn : Value) (sts : List S2) (nx : List (List Int)) (W : World) : Prop := GSt (w.heap.size + 1) O x vs vn ⟨sts, nx⟩ W ∧ But w R W ∧ Rd B W R q ∧ BoxP W w.heap.size (.slice none 0 0) (.slice none 0 0) ∧ R < B ∧ B ≤ w.heap.size
theorem DSt.next {w W W' : World} {R B q O : Nat} {x : Option Nat} {vs vn : Value} {sts : List S2} {nx : List (List Int)} (h : DSt w R B q O x vs vn sts nx W) (hb : Below W.heap.size W W') : DSt w R B q O x vs vn sts nx W' := ⟨h.1.next hb, h.2.1.next hb, h.2.2.1.next hb, boxp_next hb h.2.2.2.1, h.2.2.2.2⟩
theorem DSt.but {w W W' : World} {R B q q' O : Nat} {x : Option Nat} {vs vn : Value} {sts : List S2} {nx : List (List Int)} (h : DSt w R B q O x vs vn sts nx W) (hb : But W R W') (hr : Rd B W' R q') : DSt w R B q' O x vs vn sts nx W' :=
  ⟨h.1.but hb (by have := h.2.2.2.2; omega), h.2.1.trans hb, hr, boxp_but hb (by have := h.2.2.2.2; omega) h.2.2.2.1, h.2.2.2.2⟩
theorem DSt.noown {w W : World} {R B q O : Nat} {x : Option Nat} {vs vn : Value} {sts : List S2} {nx : List (List Int)} (h : DSt w R B q O x vs vn sts nx W) : (∀ b, vs.ownBlock = some b → w.heap.size + 1 ≤ b ∧ b < W.heap.size ∧ b ≠ O ∧ x ≠ some b) ∧ (∀ b, vn.ownBlock = some b → w.heap.size + 1 ≤ b ∧ b < W.heap.size ∧ b ≠ O ∧ x ≠ some b) ∧ w.heap.size + 1 ≤ O ∧ O < W.heap.size := by
  have hb := h.1.1.blk
  obtain ⟨cs, cn, _, _, _, _, h5, h6⟩ := h.1.1
  exact ⟨fun b e => ⟨(hb.1 b e).1, (hb.1 b e).2, (h5 b e).1, (h5 b e).2.1⟩, fun b e => ⟨(hb.2 b e).1, (hb.2 b e).2, (h6 b e).1, (h6 b e).2⟩, h.1.2.2.1, h.1.2.1.1⟩
theorem DSt.shape {w W : World} {R B q O : Nat} {x : Option Nat} {vs vn : Value} {sts : List S2} {nx : List (List Int)} (h : DSt w R B q O x vs vn sts nx W) : ∃ a c b d, vs = .slice a sts.length c ∧ vn = .slice b nx.length d ∧ sts.length ≤ c ∧ c ≤ maxLen ∧ nx.length ≤ d ∧ d ≤ maxLen := by
  obtain ⟨a, c, b, d, h1, h2, h3, h4, h5, h6, _⟩ := h.1.1.shape
  exact ⟨a, c, b, d, h1, h2, h3, h4, h5, h6⟩
/-- a new row of its own, kept apart -/
theorem DSt.apart {w W W' : World} {R B q O : Nat} {v vs vn : Value} {sts : List S2} {nx : List (List Int)} (h : DSt w R B q O none vs vn sts nx W) (hb : Below W.heap.size W W') (hx : ∀ b, v.ownBlock = some b → W.heap.size ≤ b ∧ b < W'.heap.size) : DSt w R B q O v.ownBlock vs vn sts nx W' := by
  have h1 : GOwn (w.heap.size + 1) O v.ownBlock vs vn ⟨sts, nx⟩ W := h.1.1.re (Nat.le_refl _) fun b _ h2 _ h4 => ⟨h2, fun e => by have := (hx b e).1; omega⟩
  exact ⟨⟨h1.next hb, boxp_next hb h.1.2.1, h.1.2.2.1, fun b e => (hx b e).2⟩, h.2.1.next hb, h.2.2.1.next hb, boxp_next hb h.2.2.2.1, h.2.2.2.2⟩
/-- the row kept apart grows -/
theorem DSt.other {w W W' : World} {R B q O : Nat} {v v' vs vn : Value} {l l' : List Int} {sts : List S2} {nx : List (List Int)} (h : DSt w R B q O v.ownBlock vs vn sts nx W) (hv0 : OwnI (w.heap.size + 1) v l W) (hg : W.grownBy W' v.ownBlock) (hv : v'.ownBlock = v.ownBlock ∨ v'.ownBlock = some W.heap.size) (hO : v.ownBlock ≠ some O) (hv1 : OwnI (w.heap.size + 1) v' l' W') : DSt w R B q O v'.ownBlock vs vn sts nx W' :=
  have hr : ∀ b, v.ownBlock = some b → w.heap.size + 1 ≤ b := fun b e => (hv0.blk b e).1
  ⟨h.1.other (l := l) hg hv hO fun b e => (hv1.blk b e).2, but_grown h.2.1 hg fun b e => by have := hr b e; omega, h.2.2.1.grown hg fun b e => by have := hr b e; have := h.2.2.2.2; omega, boxp_keep hg.size (hg.block _ h.2.2.2.1.1 (fun e => by have := hr _ e.symm; omega)) h.2.2.2.1, h.2.2.2.2⟩
theorem wp_d_st {ops : Array Oper} {rest : List Oper} {o : Oper} {a : Act} {Q : Exit → Act → World → Prop} {W : World} (hgd : o.guard = none) (s y : Operand)
    (ho : o.op = .call { callee := .builtin .append, args := #[s, y], argTypes := #[23, 23] }) (w : World) (R B q O : Nat) (vs vn : Value) (sts : List S2) (nx : List (List Int)) (t : S2) (b c : Nat) (a1 a2 : Option Addr) (n1 n2 : Nat) (hs : a.eval s = vs) (hy : a.eval y = .slice (some ⟨b, 0, none⟩) 1 c)
    (h : DSt w R B q O none vs vn sts nx W) (c0 : W.cell? ⟨b, 0, none⟩ = some (.slice a1 t.locs.length n1)) (c1 : W.cell? ⟨b, 1, none⟩ = some (.slice a2 t.vals.length n2)) (r1 : RN (pX (w.heap.size + 1) O none vs vn) W t.locs a1 n1) (r2 : RN (pX (w.heap.size + 1) O none vs vn) W t.vals a2 n2) (hl : sts.length ≤ 1000)
    (k : ∀ v' w', DSt w R B q O none v' vn (sts ++ [t]) nx (w'.setCell ⟨O, 0, none⟩ v') → BoxP w' O vs vn → W.grownBy w' vs.ownBlock → wpList Try.prog ops Q rest (a.put o.dst v') w') :
    wpList Try.prog ops Q (o :: rest) a W :=
  wp_push_st hgd s y ho (w.heap.size + 1) O none vs vn sts nx t b c a1 a2 n1 n2 hs hy h.1 c0 c1 r1 r2 hl fun v' w' i1 i2 i3 i4 => by
    have hno := h.noown
    have h5 := h.2.2.2.2
    refine k v' w' ⟨i1, But.setNew (but_grown h.2.1 i3 fun b e => by have := (hno.1 b e).1; omega) (show w.heap.size ≤ O by omega) _, (h.2.2.1.grown i3 fun b e => by have := (hno.1 b e).1; omega).set (a := ⟨O, 0, none⟩) (show B ≤ O by omega) _, boxp_set (boxp_keep i3.size (i3.block _ h.2.2.2.1.1 (fun e => by have := (hno.1 _ e.symm).1; omega)) h.2.2.2.1) (p := ⟨O, 0, none⟩) (show w.heap.size ≠ O by omega) _, h.2.2.2.2⟩ i2 i3
theorem wp_d_ro {ops : Array Oper} {rest : List Oper} {o : Oper} {a : Act} {Q : Exit → Act → World → Prop} {W : World} (hgd : o.guard = none) (s y : Operand)
    (ho : o.op = .call { callee := .builtin .append, args := #[s, y], argTypes := #[24, 24] }) (w : World) (R B q O : Nat) (vs vn v : Value) (sts : List S2) (nx : List (List Int)) (t : List Int) (b c : Nat) (hs : a.eval s = vn) (hy : a.eval y = .slice (some ⟨b, 0, none⟩) 1 c)
    (h : DSt w R B q O v.ownBlock vs vn sts nx W) (hv : OwnI (w.heap.size + 1) v t W) (hi : ∀ n, n ∈ t → i64 n) (ht : t.length ≤ 1000) (hO : v.ownBlock ≠ some O) (c0 : W.cell? ⟨b, 0, none⟩ = some v) (hl : nx.length ≤ 1000)
    (k : ∀ v' w', DSt w R B q O none vs v' sts (nx ++ [t]) (w'.setCell ⟨O, 1, none⟩ v') → BoxP w' O vs vn → wpList Try.prog ops Q rest (a.put o.dst v') w') :
    wpList Try.prog ops Q (o :: rest) a W :=
  wp_push_ro hgd s y ho (w.heap.size + 1) O vs vn v sts nx t b c hs hy h.1 hv hi ht hO c0 hl fun v' w' i1 i2 i3 => by
    have hno := h.noown
    have h5 := h.2.2.2.2
    refine k v' w' ⟨i1, But.setNew (but_grown h.2.1 i3 fun b e => by have := (hno.2.1 b e).1; omega) (show w.heap.size ≤ O by omega) _, (h.2.2.1.grown i3 fun b e => by have := (hno.2.1 b e).1; omega).set (a := ⟨O, 1, none⟩) (show B ≤ O by omega) _, boxp_set (boxp_keep i3.size (i3.block _ h.2.2.2.1.1 (fun e => by have := (hno.2.1 _ e.symm).1; omega)) h.2.2.2.1) (p := ⟨O, 1, none⟩) (show w.heap.size ≠ O by omega) _, h.2.2.2.2⟩ i2
/-- what a drawn graph comes to -/
def GpPost (B R p : Nat) (w : World) (e : Ending) (w' : World) : Prop := ∃ vs vn g L O p', e = .returned (.agg #[vs, vn]) ∧ GOwn L O none vs vn g w' ∧ g.states.length ≤ 60 ∧ 1 ≤ g.states.length ∧ g.next.length = g.states.length ∧ But w R w' ∧ Rd B w' R p' ∧ p' ≤ p + 1100
theorem gp_last {w W : World} {vs vn : Value} {g : G2} {R B p p' L O : Nat} (h : GOwn L O none vs vn g W) (hL : w.heap.size + 1 ≤ L) (h1 : g.states.length ≤ 60) (h2 : 1 ≤ g.states.length) (h3 : g.next.length = g.states.length) (hb : But w R W) (hr : Rd B W R p') (hB : B ≤ w.heap.size) (hp : p' ≤ p + 1100) :
    GpPost B R p w (.returned (.agg #[vs, vn])) ((W.setCell ⟨w.heap.size, 0, none⟩ vs).setCell ⟨w.heap.size, 1, none⟩ vn) :=
  ⟨vs, vn, g, L, O, p', rfl, h.keep (by simp) fun b hb1 _ _ _ => (Below.heap_setCell _ _ _ _ (show b ≠ w.heap.size by omega)).trans (Below.heap_setCell _ _ _ _ (show b ≠ w.heap.size by omega)), h1, h2, h3, But.setNew (But.setNew hb (Nat.le_refl _) _) (Nat.le_refl _) _, (hr.set (a := ⟨w.heap.size, 0, none⟩) hB _).set (a := ⟨w.heap.size, 1, none⟩) hB _, hp⟩
end Gr
end Go.Proofs.Ytfemikebklmlpaa
namespace Go.Proofs.Ytfemikebklmlpaa
open Go.RowKit
set_option linter.unusedVariables false
set_option linter.unusedSimpArgs false
namespace Gr

theorem own_one (w : World) (n : Int) : OwnI w.heap.size (.slice (some ⟨w.heap.size, 0, none⟩) 1 1) [n] (w.alloc (.cells #[.int .i64 n] 3)) :=
  ⟨by simp, .inr ⟨w.heap.size, 1, #[.int .i64 n], rfl, Nat.le_refl _, heap_alloc_new w _, Nat.le_refl _, by simp [maxLen], by simp, by simp⟩⟩
set_option maxRecDepth 100000 in
set_option maxHeartbeats 8000000 in
theorem graph_any (w : World) (R B p : Nat) (hr : Rd B w R p) (hp : p + 1100 ≤ 1000000) : Calls Try.prog 31 #[.pointer (some ⟨R, 0, none⟩)] w (GpPost B R p w) := by
  have hB := hr.lt
  go_enter Try.func31, Try.ntmps31
  go_upto_region 1 with fail
  refine wp_gen (fun W => But w R W ∧ Rd B W R p ∧ BoxP W w.heap.size (.slice none 0 0) (.slice none 0 0)) ⟨But.of (below_alloc _ _), hr.next (below_alloc _ _), boxp_at rfl⟩ ?_
  clear hr
  rintro W0 ⟨h1, h2, h3⟩
  have HB0 := hid h1
  have HR0 := hid h2
  have HZ0 := hid h3
  clear h1 h2 h3
  go_wp2_with fail
  refine (pick_any B _ _ R p HR0.out (by omega) (by omega) (by omega)).mono ?_
  rintro e w1 ⟨i, rfl, ⟨i0, i1, _⟩, hb, hr1⟩
  have HB1 := hid (HB0.out.trans hb)
  have HR1 := hid hr1
  have HZ1 := hid (boxp_but hb (by omega) HZ0.out)
  clear HB0 HR0 HZ0 hb hr1 i1
  have hw1 := HB1.out.size
  go_upto_if 12 with fail
  go_cut [4] (fun s4 wx => ∃ q, Hid (But w R wx ∧ Rd B wx R q ∧ q ≤ p + 1001 ∧ BoxP wx w.heap.size (.slice none 0 0) (.slice none 0 0)))
  case first =>
    by_cases hi : i > 0
    · go_wp2_with fail
      refine (drawSys_any w1 R B (p + 1) HR1.out (by omega)).mono ?_
      rintro e w2 ⟨v, s, p', rfl, hs, _, _, hb, hr2, hp'⟩
      have HB2 := hid (HB1.out.trans hb)
      have HR2 := hid hr2
      have HZ2 := hid (boxp_but hb (by omega) HZ1.out)
      have HS := hid (hs.frame (q := Any) (Nat.le_refl _) fun _ _ _ => ⟨trivial, rfl⟩)
      have hw2z : w.heap.size + 1 ≤ w2.heap.size := HZ2.out.1
      clear hs hb hr2 HB1 HR1 HZ1
      go_wp2_with fail
      refine (build_any s w2 v HS.out).mono ?_
      rintro e w3 ⟨_, rfl, ⟨vs, vn, g, ok, O, rfl, hG, hn, hm, hok⟩, hb⟩
      have HB3 := hid (HB2.out.next hb)
      have HR3 := hid (HR2.out.next hb)
      have HZ3 := hid (boxp_next hb HZ2.out)
      have hw2 := HB2.out.size
      have HG := hid hG
      obtain ⟨aS, cS, bN, dN, hv1, hv2, q1, q2, q3, q4, _, _⟩ := hG.shape
      subst hv1 hv2
      have HM := hid hm
      clear hG hb HB2 HR2 HZ2 HS hm
      have h0 := below_alloc w3 (.cells #[.slice aS g.states.length cS, .slice bN g.next.length dN] 26)
      have HB4 := hid (HB3.out.next h0)
      have HR4 := hid (HR3.out.next h0)
      have HZ4 := hid (boxp_next h0 HZ3.out)
      have HG4 := hid (HG.out.next h0)
      have X4 := hid (boxp_at (w := w3) (B := w3.heap.size) (a := .slice aS g.states.length cS) (b := .slice bN g.next.length dN) (t := 26) rfl)
      clear h0
      go_upto_region 3 with fail
      obtain ⟨O3, hO3⟩ : ∃ O, O = w3.heap.size := ⟨_, rfl⟩
      rw [← hO3] at X4 ⊢
      have hw3 : w.heap.size ≤ O3 := by have := HB3.out.size; omega
      have hwO : w.heap.size < O3 := by have := HZ3.out.1; omega
      clear hO3
      refine wp_gen (fun W => But w R W ∧ Rd B W R p' ∧ BoxP W w.heap.size (.slice none 0 0) (.slice none 0 0) ∧ GOwn w2.heap.size O none (.slice aS g.states.length cS) (.slice bN g.next.length dN) g W ∧ BoxP W O3 (.slice aS g.states.length cS) (.slice bN g.next.length dN)) ⟨HB4.out, HR4.out, HZ4.out, HG4.out, X4.out⟩ ?_
      clear HB3 HR3 HZ3 HG HB4 HR4 HZ4 HG4 X4
      rintro w4 ⟨h1, h2, h3, h4, h5⟩
      have HB4 := hid h1
      have HR4 := hid h2
      have HZ4 := hid h3
      have HG4 := hid h4
      have X4 := hid h5
      clear h1 h2 h3 h4 h5
      obtain ⟨x0, x1, x2, x3, x4⟩ := X4.out
      have hFT : ok = false ∨ g.states.length > 24 → True := fun _ => trivial
      cases ok with
      | false =>
        go_wp2_with fail
        go_meet
        exact ⟨p', hid ⟨HB4.out, HR4.out, by omega, HZ4.out⟩⟩
      | true =>
        have hg1 := hok rfl
        by_cases h24 : g.states.length ≤ 24
        · have h24i : (g.states.length : Int) ≤ 24 := by omega
          obtain ⟨z0, z1, z2, z3, z4⟩ := HZ4.out
          have hf := hid (gp_last (p := p) HG4.out hw2z hn hg1 HM.out HB4.out HR4.out hB.2 (by omega))
          have ZY := hid (boxp_set1 (boxp_set0 HZ4.out (.slice aS g.states.length cS)) (.slice bN g.next.length dN))
          go_wp2_with fail
          obtain ⟨y0, y1, y2, _⟩ := ZY.out
          refine bodyPost_ret (v := .agg #[.slice aS g.states.length cS, .slice bN g.next.length dN]) (by simp [results, Try.results31, go_sem, y1, y2]) rfl ?_
          exact hf.out
        · have h24i : ¬ (g.states.length : Int) ≤ 24 := by omega
          go_wp2_with fail
          go_meet
          exact ⟨p', hid ⟨HB4.out, HR4.out, by omega, HZ4.out⟩⟩
    · go_wp2_with fail
      go_meet
      exact ⟨p + 1, hid ⟨HB1.out, HR1.out, by omega, HZ1.out⟩⟩
  case rest =>
    obtain ⟨q, hD⟩ := hcut
    obtain ⟨w6, hw6⟩ : ∃ w6 : World, w6 = wc := ⟨_, rfl⟩
    subst hw6
    have hqp := hD.out.2.2.1
    have D0 := hid (show DSt w R B q w6.heap.size none (.slice none 0 0) (.slice none 0 0) [] [] (w6.alloc (.cells #[.slice none 0 0, .slice none 0 0] 26)) from
      ⟨⟨GOwn.nil .., boxp_at rfl, hD.out.2.2.2.1, by simp⟩, hD.out.1.next (below_alloc _ _), hD.out.2.1.next (below_alloc _ _), boxp_next (below_alloc _ _) hD.out.2.2.2, hB⟩)
    clear hD HB1 HR1 HZ1
    go_wp2_with fail
    refine (num_at [3, 4, 2, 5, 1, 6] 1 6 (by simp) (by decide) (by decide) B (w6.alloc (.cells #[.slice none 0 0, .slice none 0 0] 26)) 3 (w6.heap.size + 1) R q (by simp) D0.out.2.2.1 (by omega)).mono ?_
    rintro e w7 ⟨n0, rfl, ⟨hn1, hn2⟩, hb, R5⟩
    obtain ⟨n0, rfl⟩ : ∃ m : Nat, n0 = m := ⟨n0.toNat, by omega⟩
    have D7 := hid ((D0.out.next (below_alloc _ _)).but hb R5)
    obtain ⟨O5, hO5⟩ : ∃ O, O = w6.heap.size := ⟨_, rfl⟩
    rw [← hO5] at D7 ⊢
    clear D0 hb R5 hO5
    go_wp2_with fail
    go_loopw [6] (fun i wr => ∃ (m : Nat) (vs : Value) (sts : List S2) (q' : Nat), i = .int .i64 m ∧ Hid (m + sts.length = n0) ∧ Hid (q' = q + 1 + 2 * sts.length) ∧ Hid (DSt w R B q' O5 none vs (.slice none 0 0) sts [] wr)) (fun i _ => (intOf i).toNat)
    case atStart => exact ⟨n0, _, [], q + 1, rfl, hid (by simp), hid (by simp), D7⟩
    case round =>
      obtain ⟨m, vs, sts, q', rfl, HML, HQ, HD⟩ := hrel
      obtain ⟨wi, rfl⟩ : ∃ wi : World, wi = wr := ⟨_, rfl⟩
      clear D7
      obtain ⟨x0, x1, x2, x3, x4⟩ := HD.out.1.2.1
      obtain ⟨aS, cS, bN, dN, hvs, _, q1, q2, _⟩ := HD.out.shape
      subst hvs
      unfold maxLen at q2
      by_cases hm : 0 < m
      · have hm2 : (m : Int) > 0 := by omega
        have hm6 : (m : Int) ≤ 6 := by have := HML.out; omega
        go_wp2_with fail
        refine wp_region_ord (C := fun wZ => ∃ xZ, wZ = World.overP _ ([O5]) xZ) [0,1,2,3,5,7] (.two 4 6 (.one 6 (.one 8 (.one 9 (.one 10 (.one 11 (.one 12 (.fre 13 (.fre 14 .done)))))))) (.two 4 8 (.one 8 (.one 9 (.one 10 (.one 11 (.one 12 (.fre 13 (.fre 14 .done))))))) (.two 4 9 (.one 9 (.one 10 (.one 11 (.one 12 (.fre 13 (.fre 14 .done)))))) (.one 4 (.one 10 (.one 11 (.one 12 (.fre 13 (.fre 14 .done))))))))) [13,14] (by kernel_rfl) (by kernel_rfl) (fun d _ _ _ _ h => by cases d <;> exact h) (KeepP.refl _ _).drew.ex ?_; simp only [pick, List.getElem?_cons_succ, List.getElem?_cons_zero]; (repeat (go_big_quiet_step (fail))); refine wpQuiet_nil ?_; simp only [ordW, pick, List.getElem?_cons_succ, List.getElem?_cons_zero]
        obtain ⟨v0, hv0⟩ : ∃ v, v = wi.drew := ⟨_, rfl⟩
        have h1 := below_d (Below.refl wi.heap.size wi)
        rw [← hv0] at h1 ⊢
        have K := hid (show KeepP [O5] wi v0 by rw [hv0]; exact (KeepP.refl _ _).drew)
        have D9 := hid (HD.out.next h1)
        obtain ⟨N0, hN0, hN1, hN2⟩ : ∃ N0, N0 ≤ v0.heap.size ∧ R < N0 ∧ ∀ b, N0 ≤ b → pX (w.heap.size + 1) O5 none (.slice aS sts.length cS) (.slice none 0 0) b := ⟨v0.heap.size, Nat.le_refl _, by have := D9.out.noown.2.2; omega, fun b hb => by
          have hno := D9.out.noown
          exact ⟨by omega, by omega, by simp, fun e => by have := (hno.1 b e).2.1; omega, by simp [Value.ownBlock]⟩⟩
        have HS := hid hN0
        have HPX := hid hN2
        have hRv := hid hN1
        clear hN0 hN1 hN2
        have hRO := hid (show R ≠ O5 by have := D9.out.noown.2.2; omega)
        clear HD h1 hv0 x0 x1 x2 x3 x4
        refine ⟨?_, ?_⟩
        · go_wp2_with fail
          have h0 := below_alloc v0 (.cells #[.int .i64 ((m : Int) % 3)] 3)
          have RE := hid (show RN (fun b => N0 ≤ b) (v0.alloc (.cells #[.int .i64 ((m : Int) % 3)] 3)) [((m : Int) % 3)] (some ⟨v0.heap.size, 0, none⟩) 1 from rn_new (p := fun b => N0 ≤ b) v0 [((m : Int) % 3)] 3 (fun n hn => by simp at hn; subst hn; unfold i64; omega) (by simp) HS.out)
          replace D9 := hid (D9.out.next h0)
          replace K := hid (K.out.trans (KeepP.below h0))
          replace HS := hid (Nat.le_trans HS.out h0.size)
          refine ⟨K.out.ex, ?_⟩
          obtain ⟨gE, hgE⟩ : ∃ g, g = v0.heap.size := ⟨_, rfl⟩
          rw [← hgE] at RE ⊢
          clear h0 hgE
          generalize v0.alloc (.cells #[.int .i64 ((m : Int) % 3)] 3) = v1 at *
          go_wp2_with fail
          refine (pick_any B _ v1 R (q' + 0) D9.out.2.2.1 (by have := HQ.out; have := HML.out; omega) (by omega) (by omega)).mono ?_
          rintro e v2 ⟨a, rfl, ⟨a0, a1, _⟩, hb, hr⟩
          have HA := hid (show i64 a by have := a1 (by omega); unfold i64; omega)
          replace RE := hid (RE.out.frame hb.size (fun b hp hl => ⟨hp, hb.block b hl (by have := hRv.out; omega)⟩))
          replace D9 := hid (D9.out.but hb hr)
          replace K := hid (K.out.trans (KeepP.but hb (by simp; exact hRO.out)))
          replace HS := hid (Nat.le_trans HS.out hb.size)
          clear hb hr a0 a1
          go_wp2_with fail
          refine ⟨K.out.ex, ?_⟩
          go_wp2_with fail
          refine (pick_any B _ v2 R (q' + 1) D9.out.2.2.1 (by have := HQ.out; have := HML.out; omega) (by omega) (by omega)).mono ?_
          rintro e v3 ⟨b, rfl, ⟨b0, b1, _⟩, hb, hr⟩
          have HBB := hid (show i64 b by have := b1 (by omega); unfold i64; omega)
          replace RE := hid (RE.out.frame hb.size (fun b hp hl => ⟨hp, hb.block b hl (by have := hRv.out; omega)⟩))
          replace D9 := hid (D9.out.but hb hr)
          replace K := hid (K.out.trans (KeepP.but hb (by simp; exact hRO.out)))
          replace HS := hid (Nat.le_trans HS.out hb.size)
          clear hb hr b0 b1
          go_wp2_with fail
          refine ⟨K.out.ex, ?_⟩
          go_wp2_with fail
          have h0 := below_alloc v3 (.cells #[.int .i64 a, .int .i64 b, .int .i64 0] 3)
          have RT := hid (show RN (fun b => N0 ≤ b) (v3.alloc (.cells #[.int .i64 a, .int .i64 b, .int .i64 0] 3)) [a, b, 0] (some ⟨v3.heap.size, 0, none⟩) 3 from rn_new (p := fun b => N0 ≤ b) v3 [a, b, 0] 3 (fun n hn => by simp at hn; rcases hn with rfl | rfl | rfl; exact HA.out; exact HBB.out; (unfold i64; omega)) (by simp) HS.out)
          replace RE := hid (RE.out.frame h0.size (fun b hp hl => ⟨hp, h0.block b hl⟩))
          replace D9 := hid (D9.out.next h0)
          replace K := hid (K.out.trans (KeepP.below h0))
          replace HS := hid (Nat.le_trans HS.out h0.size)
          refine ⟨K.out.ex, ?_⟩
          obtain ⟨gT, hgT⟩ : ∃ g, g = v3.heap.size := ⟨_, rfl⟩
          rw [← hgT] at RT ⊢
          clear h0 hgT
          generalize v3.alloc (.cells #[.int .i64 a, .int .i64 b, .int .i64 0] 3) = v4 at *
          go_wp2_with fail
          refine ⟨K.out.ex, ?_⟩
          have h0 := below_alloc v4 (.cells #[.slice (some ⟨gE, 0, none⟩) 1 1, .slice (some ⟨gT, 0, none⟩) 3 3] 91)
          replace D9 := hid (D9.out.next h0)
          replace K := hid (K.out.trans (KeepP.below h0))
          have T1 := hid (RE.out.frame h0.size (fun b hp hl => (⟨HPX.out b hp, h0.block b hl⟩ : pX (w.heap.size + 1) O5 none (.slice aS sts.length cS) (.slice none 0 0) b ∧ _)))
          have T2 := hid (RT.out.frame h0.size (fun b hp hl => (⟨HPX.out b hp, h0.block b hl⟩ : pX (w.heap.size + 1) O5 none (.slice aS sts.length cS) (.slice none 0 0) b ∧ _)))
          have CC := hid (And.intro (show (v4.alloc (.cells #[.slice (some ⟨gE, 0, none⟩) 1 1, .slice (some ⟨gT, 0, none⟩) 3 3] 91)).cell? ⟨v4.heap.size, 0, none⟩ = some (.slice (some ⟨gE, 0, none⟩) 1 1) by simp) (show (v4.alloc (.cells #[.slice (some ⟨gE, 0, none⟩) 1 1, .slice (some ⟨gT, 0, none⟩) 3 3] 91)).cell? ⟨v4.heap.size, 1, none⟩ = some (.slice (some ⟨gT, 0, none⟩) 3 3) by simp))
          go_wp2_with fail
          refine ⟨K.out.ex, ?_⟩
          obtain ⟨gz, hgz⟩ : ∃ g, g = v4.heap.size := ⟨_, rfl⟩
          rw [← hgz] at CC ⊢
          clear h0 hgz RE RT
          generalize v4.alloc (.cells #[.slice (some ⟨gE, 0, none⟩) 1 1, .slice (some ⟨gT, 0, none⟩) 3 3] 91) = vz at *
          go_wp2_with (at_builtin; refine wp_d_st rfl _ _ rfl w R B (q' + 2) O5 (.slice aS sts.length cS) (.slice none 0 0) sts [] ⟨[((m : Int) % 3)], [a, b, 0]⟩ gz 1 (some ⟨gE, 0, none⟩) (some ⟨gT, 0, none⟩) 1 3 rfl rfl D9.out CC.out.1 CC.out.2 T1.out T2.out (by have := HML.out; omega) ?_; intro v' w' i1 i2 i3)
          obtain ⟨aV, lV, cV, hV⟩ := i1.1.1.shS
          subst hV
          have ND := hid i1
          have NK := hid (K.out.trans (KeepP.grown i3 (fun b hb e => by simp at hb; subst hb; have := (D9.out.noown.1 _ e).2.2.1; exact this rfl)))
          obtain ⟨y0, y1, y2, y3, y4⟩ := i2
          clear i1 i3 D9 K T1 T2 CC
          go_wp2_with fail
          refine ⟨NK.out.ex, ?_⟩
          go_wp2_with fail
          go_roundw
          case rel => exact ⟨m - 1, _, sts ++ [⟨[((m : Int) % 3)], [a, b, 0]⟩], q' + 2, by go_num, hid (by have := HML.out; simp; omega), hid (by have := HQ.out; simp; omega), ND⟩
          case measure => (simp [intOf]; try omega)
        · go_wp2_with fail
          refine (pick_any B _ v0 R (q' + 0) D9.out.2.2.1 (by have := HQ.out; have := HML.out; omega) (by omega) (by omega)).mono ?_
          rintro e v5 ⟨a, rfl, ⟨a0, a1, _⟩, hb, hr⟩
          have HA := hid (show i64 a by have := a1 (by omega); unfold i64; omega)
          replace D9 := hid (D9.out.but hb hr)
          replace K := hid (K.out.trans (KeepP.but hb (by simp; exact hRO.out)))
          replace HS := hid (Nat.le_trans HS.out hb.size)
          clear hb hr a0 a1
          go_wp2_with fail
          refine ⟨K.out.ex, ?_⟩
          refine ⟨?_, ?_⟩
          · go_wp2_with fail
            have h0 := below_alloc v5 (.cells #[.int .i64 ((m : Int) % 3)] 3)
            have RE := hid (show RN (fun b => N0 ≤ b) (v5.alloc (.cells #[.int .i64 ((m : Int) % 3)] 3)) [((m : Int) % 3)] (some ⟨v5.heap.size, 0, none⟩) 1 from rn_new (p := fun b => N0 ≤ b) v5 [((m : Int) % 3)] 3 (fun n hn => by simp at hn; subst hn; unfold i64; omega) (by simp) HS.out)
            replace D9 := hid (D9.out.next h0)
            replace K := hid (K.out.trans (KeepP.below h0))
            replace HS := hid (Nat.le_trans HS.out h0.size)
            refine ⟨K.out.ex, ?_⟩
            obtain ⟨gE, hgE⟩ : ∃ g, g = v5.heap.size := ⟨_, rfl⟩
            rw [← hgE] at RE ⊢
            clear h0 hgE
            generalize v5.alloc (.cells #[.int .i64 ((m : Int) % 3)] 3) = v6 at *
            go_wp2_with fail
            refine (pick_any B _ v6 R (q' + 1) D9.out.2.2.1 (by have := HQ.out; have := HML.out; omega) (by omega) (by omega)).mono ?_
            rintro e v7 ⟨b, rfl, ⟨b0, b1, _⟩, hb, hr⟩
            have HBB := hid (show i64 b by have := b1 (by omega); unfold i64; omega)
            replace RE := hid (RE.out.frame hb.size (fun b hp hl => ⟨hp, hb.block b hl (by have := hRv.out; omega)⟩))
            replace D9 := hid (D9.out.but hb hr)
            replace K := hid (K.out.trans (KeepP.but hb (by simp; exact hRO.out)))
            replace HS := hid (Nat.le_trans HS.out hb.size)
            clear hb hr b0 b1
            go_wp2_with fail
            refine ⟨K.out.ex, ?_⟩
            go_wp2_with fail
            have h0 := below_alloc v7 (.cells #[.int .i64 a, .int .i64 b, .int .i64 0] 3)
            have RT := hid (show RN (fun b => N0 ≤ b) (v7.alloc (.cells #[.int .i64 a, .int .i64 b, .int .i64 0] 3)) [a, b, 0] (some ⟨v7.heap.size, 0, none⟩) 3 from rn_new (p := fun b => N0 ≤ b) v7 [a, b, 0] 3 (fun n hn => by simp at hn; rcases hn with rfl | rfl | rfl; exact HA.out; exact HBB.out; (unfold i64; omega)) (by simp) HS.out)
            replace RE := hid (RE.out.frame h0.size (fun b hp hl => ⟨hp, h0.block b hl⟩))
            replace D9 := hid (D9.out.next h0)
            replace K := hid (K.out.trans (KeepP.below h0))
            replace HS := hid (Nat.le_trans HS.out h0.size)
            refine ⟨K.out.ex, ?_⟩
            obtain ⟨gT, hgT⟩ : ∃ g, g = v7.heap.size := ⟨_, rfl⟩
            rw [← hgT] at RT ⊢
            clear h0 hgT
            generalize v7.alloc (.cells #[.int .i64 a, .int .i64 b, .int .i64 0] 3) = v8 at *
            go_wp2_with fail
            refine ⟨K.out.ex, ?_⟩
            have h0 := below_alloc v8 (.cells #[.slice (some ⟨gE, 0, none⟩) 1 1, .slice (some ⟨gT, 0, none⟩) 3 3] 91)
            replace D9 := hid (D9.out.next h0)
            replace K := hid (K.out.trans (KeepP.below h0))
            have T1 := hid (RE.out.frame h0.size (fun b hp hl => (⟨HPX.out b hp, h0.block b hl⟩ : pX (w.heap.size + 1) O5 none (.slice aS sts.length cS) (.slice none 0 0) b ∧ _)))
            have T2 := hid (RT.out.frame h0.size (fun b hp hl => (⟨HPX.out b hp, h0.block b hl⟩ : pX (w.heap.size + 1) O5 none (.slice aS sts.length cS) (.slice none 0 0) b ∧ _)))
            have CC := hid (And.intro (show (v8.alloc (.cells #[.slice (some ⟨gE, 0, none⟩) 1 1, .slice (some ⟨gT, 0, none⟩) 3 3] 91)).cell? ⟨v8.heap.size, 0, none⟩ = some (.slice (some ⟨gE, 0, none⟩) 1 1) by simp) (show (v8.alloc (.cells #[.slice (some ⟨gE, 0, none⟩) 1 1, .slice (some ⟨gT, 0, none⟩) 3 3] 91)).cell? ⟨v8.heap.size, 1, none⟩ = some (.slice (some ⟨gT, 0, none⟩) 3 3) by simp))
            go_wp2_with fail
            refine ⟨K.out.ex, ?_⟩
            obtain ⟨gz, hgz⟩ : ∃ g, g = v8.heap.size := ⟨_, rfl⟩
            rw [← hgz] at CC ⊢
            clear h0 hgz RE RT
            generalize v8.alloc (.cells #[.slice (some ⟨gE, 0, none⟩) 1 1, .slice (some ⟨gT, 0, none⟩) 3 3] 91) = vz at *
            go_wp2_with (at_builtin; refine wp_d_st rfl _ _ rfl w R B (q' + 2) O5 (.slice aS sts.length cS) (.slice none 0 0) sts [] ⟨[((m : Int) % 3)], [a, b, 0]⟩ gz 1 (some ⟨gE, 0, none⟩) (some ⟨gT, 0, none⟩) 1 3 rfl rfl D9.out CC.out.1 CC.out.2 T1.out T2.out (by have := HML.out; omega) ?_; intro v' w' i1 i2 i3)
            obtain ⟨aV, lV, cV, hV⟩ := i1.1.1.shS
            subst hV
            have ND := hid i1
            have NK := hid (K.out.trans (KeepP.grown i3 (fun b hb e => by simp at hb; subst hb; have := (D9.out.noown.1 _ e).2.2.1; exact this rfl)))
            obtain ⟨y0, y1, y2, y3, y4⟩ := i2
            clear i1 i3 D9 K T1 T2 CC
            go_wp2_with fail
            refine ⟨NK.out.ex, ?_⟩
            go_wp2_with fail
            go_roundw
            case rel => exact ⟨m - 1, _, sts ++ [⟨[((m : Int) % 3)], [a, b, 0]⟩], q' + 2, by go_num, hid (by have := HML.out; simp; omega), hid (by have := HQ.out; simp; omega), ND⟩
            case measure => (simp [intOf]; try omega)
          · go_wp2_with fail
            refine (pick_any B _ v5 R (q' + 1) D9.out.2.2.1 (by have := HQ.out; have := HML.out; omega) (by omega) (by omega)).mono ?_
            rintro e v9 ⟨b, rfl, ⟨b0, b1, _⟩, hb, hr⟩
            have HBB := hid (show i64 b by have := b1 (by omega); unfold i64; omega)
            replace D9 := hid (D9.out.but hb hr)
            replace K := hid (K.out.trans (KeepP.but hb (by simp; exact hRO.out)))
            replace HS := hid (Nat.le_trans HS.out hb.size)
            clear hb hr b0 b1
            go_wp2_with fail
            refine ⟨K.out.ex, ?_⟩
            refine ⟨?_, ?_⟩
            · go_wp2_with fail
              have h0 := below_alloc v9 (.cells #[.int .i64 ((m : Int) % 3)] 3)
              have RE := hid (show RN (fun b => N0 ≤ b) (v9.alloc (.cells #[.int .i64 ((m : Int) % 3)] 3)) [((m : Int) % 3)] (some ⟨v9.heap.size, 0, none⟩) 1 from rn_new (p := fun b => N0 ≤ b) v9 [((m : Int) % 3)] 3 (fun n hn => by simp at hn; subst hn; unfold i64; omega) (by simp) HS.out)
              replace D9 := hid (D9.out.next h0)
              replace K := hid (K.out.trans (KeepP.below h0))
              replace HS := hid (Nat.le_trans HS.out h0.size)
              refine ⟨K.out.ex, ?_⟩
              obtain ⟨gE, hgE⟩ : ∃ g, g = v9.heap.size := ⟨_, rfl⟩
              rw [← hgE] at RE ⊢
              clear h0 hgE
              generalize v9.alloc (.cells #[.int .i64 ((m : Int) % 3)] 3) = v10 at *
              go_wp2_with fail
              have h0 := below_alloc v10 (.cells #[.int .i64 a, .int .i64 b, .int .i64 0] 3)
              have RT := hid (show RN (fun b => N0 ≤ b) (v10.alloc (.cells #[.int .i64 a, .int .i64 b, .int .i64 0] 3)) [a, b, 0] (some ⟨v10.heap.size, 0, none⟩) 3 from rn_new (p := fun b => N0 ≤ b) v10 [a, b, 0] 3 (fun n hn => by simp at hn; rcases hn with rfl | rfl | rfl; exact HA.out; exact HBB.out; (unfold i64; omega)) (by simp) HS.out)
              replace RE := hid (RE.out.frame h0.size (fun b hp hl => ⟨hp, h0.block b hl⟩))
              replace D9 := hid (D9.out.next h0)
              replace K := hid (K.out.trans (KeepP.below h0))
              replace HS := hid (Nat.le_trans HS.out h0.size)
              refine ⟨K.out.ex, ?_⟩
              obtain ⟨gT, hgT⟩ : ∃ g, g = v10.heap.size := ⟨_, rfl⟩
              rw [← hgT] at RT ⊢
              clear h0 hgT
              generalize v10.alloc (.cells #[.int .i64 a, .int .i64 b, .int .i64 0] 3) = v11 at *
              go_wp2_with fail
              refine ⟨K.out.ex, ?_⟩
              have h0 := below_alloc v11 (.cells #[.slice (some ⟨gE, 0, none⟩) 1 1, .slice (some ⟨gT, 0, none⟩) 3 3] 91)
              replace D9 := hid (D9.out.next h0)
              replace K := hid (K.out.trans (KeepP.below h0))
              have T1 := hid (RE.out.frame h0.size (fun b hp hl => (⟨HPX.out b hp, h0.block b hl⟩ : pX (w.heap.size + 1) O5 none (.slice aS sts.length cS) (.slice none 0 0) b ∧ _)))
              have T2 := hid (RT.out.frame h0.size (fun b hp hl => (⟨HPX.out b hp, h0.block b hl⟩ : pX (w.heap.size + 1) O5 none (.slice aS sts.length cS) (.slice none 0 0) b ∧ _)))
              have CC := hid (And.intro (show (v11.alloc (.cells #[.slice (some ⟨gE, 0, none⟩) 1 1, .slice (some ⟨gT, 0, none⟩) 3 3] 91)).cell? ⟨v11.heap.size, 0, none⟩ = some (.slice (some ⟨gE, 0, none⟩) 1 1) by simp) (show (v11.alloc (.cells #[.slice (some ⟨gE, 0, none⟩) 1 1, .slice (some ⟨gT, 0, none⟩) 3 3] 91)).cell? ⟨v11.heap.size, 1, none⟩ = some (.slice (some ⟨gT, 0, none⟩) 3 3) by simp))
              go_wp2_with fail
              refine ⟨K.out.ex, ?_⟩
              obtain ⟨gz, hgz⟩ : ∃ g, g = v11.heap.size := ⟨_, rfl⟩
              rw [← hgz] at CC ⊢
              clear h0 hgz RE RT
              generalize v11.alloc (.cells #[.slice (some ⟨gE, 0, none⟩) 1 1, .slice (some ⟨gT, 0, none⟩) 3 3] 91) = vz at *
              go_wp2_with (at_builtin; refine wp_d_st rfl _ _ rfl w R B (q' + 2) O5 (.slice aS sts.length cS) (.slice none 0 0) sts [] ⟨[((m : Int) % 3)], [a, b, 0]⟩ gz 1 (some ⟨gE, 0, none⟩) (some ⟨gT, 0, none⟩) 1 3 rfl rfl D9.out CC.out.1 CC.out.2 T1.out T2.out (by have := HML.out; omega) ?_; intro v' w' i1 i2 i3)
              obtain ⟨aV, lV, cV, hV⟩ := i1.1.1.shS
              subst hV
              have ND := hid i1
              have NK := hid (K.out.trans (KeepP.grown i3 (fun b hb e => by simp at hb; subst hb; have := (D9.out.noown.1 _ e).2.2.1; exact this rfl)))
              obtain ⟨y0, y1, y2, y3, y4⟩ := i2
              clear i1 i3 D9 K T1 T2 CC
              go_wp2_with fail
              refine ⟨NK.out.ex, ?_⟩
              go_wp2_with fail
              go_roundw
              case rel => exact ⟨m - 1, _, sts ++ [⟨[((m : Int) % 3)], [a, b, 0]⟩], q' + 2, by go_num, hid (by have := HML.out; simp; omega), hid (by have := HQ.out; simp; omega), ND⟩
              case measure => (simp [intOf]; try omega)
            · go_wp2_with fail
              have h0 := below_alloc v9 (.cells #[.int .i64 a, .int .i64 b, .int .i64 0] 3)
              have RT := hid (show RN (fun b => N0 ≤ b) (v9.alloc (.cells #[.int .i64 a, .int .i64 b, .int .i64 0] 3)) [a, b, 0] (some ⟨v9.heap.size, 0, none⟩) 3 from rn_new (p := fun b => N0 ≤ b) v9 [a, b, 0] 3 (fun n hn => by simp at hn; rcases hn with rfl | rfl | rfl; exact HA.out; exact HBB.out; (unfold i64; omega)) (by simp) HS.out)
              replace D9 := hid (D9.out.next h0)
              replace K := hid (K.out.trans (KeepP.below h0))
              replace HS := hid (Nat.le_trans HS.out h0.size)
              refine ⟨K.out.ex, ?_⟩
              obtain ⟨gT, hgT⟩ : ∃ g, g = v9.heap.size := ⟨_, rfl⟩
              rw [← hgT] at RT ⊢
              clear h0 hgT
              generalize v9.alloc (.cells #[.int .i64 a, .int .i64 b, .int .i64 0] 3) = v12 at *
              go_wp2_with fail
              have h0 := below_alloc v12 (.cells #[.int .i64 ((m : Int) % 3)] 3)
              have RE := hid (show RN (fun b => N0 ≤ b) (v12.alloc (.cells #[.int .i64 ((m : Int) % 3)] 3)) [((m : Int) % 3)] (some ⟨v12.heap.size, 0, none⟩) 1 from rn_new (p := fun b => N0 ≤ b) v12 [((m : Int) % 3)] 3 (fun n hn => by simp at hn; subst hn; unfold i64; omega) (by simp) HS.out)
              replace RT := hid (RT.out.frame h0.size (fun b hp hl => ⟨hp, h0.block b hl⟩))
              replace D9 := hid (D9.out.next h0)
              replace K := hid (K.out.trans (KeepP.below h0))
              replace HS := hid (Nat.le_trans HS.out h0.size)
              refine ⟨K.out.ex, ?_⟩
              obtain ⟨gE, hgE⟩ : ∃ g, g = v12.heap.size := ⟨_, rfl⟩
              rw [← hgE] at RE ⊢
              clear h0 hgE
              generalize v12.alloc (.cells #[.int .i64 ((m : Int) % 3)] 3) = v13 at *
              go_wp2_with fail
              refine ⟨K.out.ex, ?_⟩
              have h0 := below_alloc v13 (.cells #[.slice (some ⟨gE, 0, none⟩) 1 1, .slice (some ⟨gT, 0, none⟩) 3 3] 91)
              replace D9 := hid (D9.out.next h0)
              replace K := hid (K.out.trans (KeepP.below h0))
              have T1 := hid (RE.out.frame h0.size (fun b hp hl => (⟨HPX.out b hp, h0.block b hl⟩ : pX (w.heap.size + 1) O5 none (.slice aS sts.length cS) (.slice none 0 0) b ∧ _)))
              have T2 := hid (RT.out.frame h0.size (fun b hp hl => (⟨HPX.out b hp, h0.block b hl⟩ : pX (w.heap.size + 1) O5 none (.slice aS sts.length cS) (.slice none 0 0) b ∧ _)))
              have CC := hid (And.intro (show (v13.alloc (.cells #[.slice (some ⟨gE, 0, none⟩) 1 1, .slice (some ⟨gT, 0, none⟩) 3 3] 91)).cell? ⟨v13.heap.size, 0, none⟩ = some (.slice (some ⟨gE, 0, none⟩) 1 1) by simp) (show (v13.alloc (.cells #[.slice (some ⟨gE, 0, none⟩) 1 1, .slice (some ⟨gT, 0, none⟩) 3 3] 91)).cell? ⟨v13.heap.size, 1, none⟩ = some (.slice (some ⟨gT, 0, none⟩) 3 3) by simp))
              go_wp2_with fail
              refine ⟨K.out.ex, ?_⟩
              obtain ⟨gz, hgz⟩ : ∃ g, g = v13.heap.size := ⟨_, rfl⟩
              rw [← hgz] at CC ⊢
              clear h0 hgz RE RT
              generalize v13.alloc (.cells #[.slice (some ⟨gE, 0, none⟩) 1 1, .slice (some ⟨gT, 0, none⟩) 3 3] 91) = vz at *
              go_wp2_with (at_builtin; refine wp_d_st rfl _ _ rfl w R B (q' + 2) O5 (.slice aS sts.length cS) (.slice none 0 0) sts [] ⟨[((m : Int) % 3)], [a, b, 0]⟩ gz 1 (some ⟨gE, 0, none⟩) (some ⟨gT, 0, none⟩) 1 3 rfl rfl D9.out CC.out.1 CC.out.2 T1.out T2.out (by have := HML.out; omega) ?_; intro v' w' i1 i2 i3)
              obtain ⟨aV, lV, cV, hV⟩ := i1.1.1.shS
              subst hV
              have ND := hid i1
              have NK := hid (K.out.trans (KeepP.grown i3 (fun b hb e => by simp at hb; subst hb; have := (D9.out.noown.1 _ e).2.2.1; exact this rfl)))
              obtain ⟨y0, y1, y2, y3, y4⟩ := i2
              clear i1 i3 D9 K T1 T2 CC
              go_wp2_with fail
              refine ⟨NK.out.ex, ?_⟩
              go_wp2_with fail
              go_roundw
              case rel => exact ⟨m - 1, _, sts ++ [⟨[((m : Int) % 3)], [a, b, 0]⟩], q' + 2, by go_num, hid (by have := HML.out; simp; omega), hid (by have := HQ.out; simp; omega), ND⟩
              case measure => (simp [intOf]; try omega)
      · obtain rfl : m = 0 := by omega
        have hl1 : 1 ≤ sts.length := by have := HML.out; omega
        have hl6 : sts.length ≤ 6 := by have := HML.out; omega
        have hl6i : (sts.length : Int) ≤ 6 := by omega
        have hqb : q' ≤ p + 1020 := by have := HQ.out; omega
        clear hm HML HQ x0 x1 x2 x3 x4
        go_wp2_with fail
        go_loopw [7] (fun i wr => ∃ (k : Nat) (vn : Value) (nx : List (List Int)) (q2 : Nat), i = .int .i64 k ∧ k ≤ sts.length ∧ Hid (nx.length = k) ∧ Hid (q2 = q' + 3 * k) ∧ Hid (DSt w R B q2 O5 none (.slice aS sts.length cS) vn sts nx wr)) (fun i _ => sts.length - (intOf i).toNat)
        case atStart => exact ⟨0, _, [], q', rfl, Nat.zero_le _, hid rfl, hid (by simp), HD⟩
        case round =>
          obtain ⟨k, vn, nx, q2, rfl, hk, HNX, HQ2, HD2⟩ := hrel
          obtain ⟨wj, rfl⟩ : ∃ wj : World, wj = wr := ⟨_, rfl⟩
          clear HD
          obtain ⟨x0, x1, x2, x3, x4⟩ := HD2.out.1.2.1
          obtain ⟨_, _, bN', dN', _, hvn, _, _, q3', q4'⟩ := HD2.out.shape
          subst hvn
          have hq2b : q2 ≤ p + 1040 := by have := HQ2.out; omega
          unfold maxLen at q4'
          by_cases hks : k < sts.length
          · have hks2 : (k : Int) < (sts.length : Int) := by omega
            have hRL : R < w.heap.size + 1 := by omega
            go_wp2_with fail
            refine (pick_any B _ wj R q2 HD2.out.2.2.1 (by omega) (by omega) (by omega)).mono ?_
            rintro e wA ⟨a, rfl, ⟨a0, a1, _⟩, hb, hr⟩
            have hai : i64 a := by have := a1 (by omega); unfold i64; omega
            have DA := hid (HD2.out.but hb hr)
            have h0 := below_alloc wA (.cells #[.int .i64 a] 3)
            have DB := hid (show DSt w R B (q2 + 1) O5 (Value.slice (some ⟨wA.heap.size, 0, none⟩) 1 1).ownBlock (.slice aS sts.length cS) (.slice bN' nx.length dN') sts nx (wA.alloc (.cells #[.int .i64 a] 3)) from DA.out.apart h0 (fun b e => by simp [Value.ownBlock] at e; subst e; simp))
            have OB := hid (show OwnI (w.heap.size + 1) (.slice (some ⟨wA.heap.size, 0, none⟩) 1 1) [a] (wA.alloc (.cells #[.int .i64 a] 3)) from (own_one wA a).mono (by have := DA.out.noown.2.2; omega))
            have hO8 : O5 ≠ wA.heap.size := by have := DA.out.noown.2.2; omega
            clear HD2 hb hr x0 x1 x2 x3 x4 a0 a1 h0
            obtain ⟨x0, x1, x2, x3, x4⟩ := DA.out.1.2.1
            go_wp2_with fail
            refine (pick_any B _ (wA.alloc (.cells #[.int .i64 a] 3)) R (q2 + 1) DB.out.2.2.1 (by omega) (by omega) (by omega)).mono ?_
            rintro e wB ⟨n, rfl, ⟨n0', n1', _⟩, hb, hr⟩
            have hni : i64 n := by have := n1' (by omega); unfold i64; omega
            obtain ⟨g8, hg8⟩ : ∃ g, g = wA.heap.size := ⟨_, rfl⟩
            rw [← hg8] at DB OB hO8 ⊢
            have DC := hid (DB.out.but hb hr)
            have OC := hid (OB.out.but hb hRL)
            clear DA DB OB hb hr n0' n1' x0 x1 x2 x3 x4 hg8
            go_wp2_with fail
            refine (pick_any B _ wB R (q2 + 1 + 1) DC.out.2.2.1 (by omega) (by omega) (by omega)).mono ?_
            rintro e wC ⟨ee, rfl, ⟨m0', m1', _⟩, hb, hr⟩
            have DD := hid (DC.out.but hb hr)
            have OD := hid (OC.out.but hb hRL)
            clear DC OC hb hr m0' m1'
            have HIA := hid (show ∀ i, i ∈ ([a] : List Int) → i64 i from fun i hi => by simp at hi; subst hi; exact hai)
            obtain ⟨x0, x1, x2, x3, x4⟩ := DD.out.1.2.1
            have c8 : wC.cell? ⟨g8, 0, none⟩ = some (.int .i64 a) := by
              rcases OD.out.row with ⟨h, _⟩ | ⟨g, c, e, _, _, _, h4⟩
              · cases h
              · simp at e
                obtain ⟨rfl, _⟩ := e
                exact h4.2.1 0 (by simp)
            have hg8l : g8 < wC.heap.size := (OD.out.blk g8 rfl).2
            have hO8' : (Value.slice (some ⟨g8, 0, none⟩) 1 1).ownBlock ≠ some O5 := fun e => by simp [Value.ownBlock] at e; omega
            have hnx1000 : nx.length ≤ 1000 := by have := HNX.out; omega
            by_cases hee : ee = 0
            · have hee2 : (ee == 0) = true := by simpa using hee
              clear hee
              by_cases hna : n = a
              · subst hna
                have hnn : (n != n) = false := by simp
                have h0 := below_alloc wC (.cells #[.slice (some ⟨g8, 0, none⟩) 1 1] 30)
                have NB5 := hid (DD.out.next h0)
                have NV5 := hid (OD.out.next h0)
                have C5 := hid (show (wC.alloc (.cells #[.slice (some ⟨g8, 0, none⟩) 1 1] 30)).cell? ⟨wC.heap.size, 0, none⟩ = some (.slice (some ⟨g8, 0, none⟩) 1 1) by simp)
                clear h0
                go_wp2_with (at_builtin; refine wp_d_ro rfl _ _ rfl w R B (q2 + 1 + 1 + 1) O5 _ _ (.slice (some ⟨g8, 0, none⟩) 1 1) sts nx [n] wC.heap.size 1 rfl rfl NB5.out NV5.out HIA.out (by simp) hO8' C5.out hnx1000 ?_; intro v9 w9 i1 i2; obtain ⟨b9, l9, d9, h9⟩ := i1.1.1.shN; subst h9; have HB9 := hid i1; obtain ⟨y0, y1, y2, y3, y4⟩ := i2; clear i1 x0 x1 x2 x3 x4)
                go_roundw
                case rel => (repeat apply Exists.intro); exact ⟨⟨k + 1, _, nx ++ [[n]], q2 + 1 + 1 + 1, by go_num, hks, hid (by rw [List.length_append, HNX.out]; rfl), hid (by have := HQ2.out; omega), HB9⟩, rfl⟩
                case measure => (simp [intOf]; try omega)
              · have hnn : (n != a) = true := by simpa using hna
                clear hna
                go_upto_region 16 with fail
                have h0 := below_alloc wC (.cells #[.int .i64 n] 3)
                have IQ := hid (row_one wC n hni)
                have DE := hid (DD.out.next h0)
                have OE := hid (OD.out.next h0)
                have hW5 : w.heap.size + 1 ≤ (wC.alloc (.cells #[.int .i64 n] 3)).heap.size := by have := DE.out.noown.2.2; omega
                clear h0 DD OD x0 x1 x2 x3 x4 c8 hg8l
                go_upto_region 17 with (at_builtin; refine wp_app_own2 rfl _ _ rfl (w.heap.size + 1) (.slice (some ⟨g8, 0, none⟩) 1 1) [a] [n] (some ⟨wC.heap.size, 0, none⟩) 1 rfl rfl (fun h => by cases h) OE.out hW5 IQ.out (by simp) (by simp) ?_; intro v' w' hv hg hor; have NB := hid (DE.out.other OE.out hg hor hO8' hv); have NV := hid hv; have NO := hid (show v'.ownBlock ≠ some O5 by rcases hor with h | h; (rw [h]; exact hO8'); (rw [h]; intro e; have e := Option.some.inj e; have := DE.out.noown.2.2.2; omega)); clear hv hg hor DE OE)
                have NI := hid (show ∀ i, i ∈ [a] ++ [n] → i64 i from fun i hi => by simp at hi; rcases hi with rfl | rfl; exact hai; exact hni)
                obtain ⟨x0, x1, x2, x3, x4⟩ := NB.out.1.2.1
                obtain ⟨aR, cR, hvR, f1, f2, f3⟩ := NV.out.shape
                subst hvR
                have h0 := below_alloc w' (.cells #[.slice (aR) ([a] ++ [n]).length cR] 30)
                have NB5 := hid (NB.out.next h0)
                have NV5 := hid (NV.out.next h0)
                have C5 := hid (show (w'.alloc (.cells #[.slice (aR) ([a] ++ [n]).length cR] 30)).cell? ⟨w'.heap.size, 0, none⟩ = some (.slice (aR) ([a] ++ [n]).length cR) by simp)
                clear h0
                go_wp2_with (at_builtin; refine wp_d_ro rfl _ _ rfl w R B (q2 + 1 + 1 + 1) O5 _ _ (.slice (aR) ([a] ++ [n]).length cR) sts nx ([a] ++ [n]) w'.heap.size 1 rfl rfl NB5.out NV5.out NI.out (by simp) NO.out C5.out hnx1000 ?_; intro v9 w9 i1 i2; obtain ⟨b9, l9, d9, h9⟩ := i1.1.1.shN; subst h9; have HB9 := hid i1; obtain ⟨y0, y1, y2, y3, y4⟩ := i2; clear i1 x0 x1 x2 x3 x4)
                go_roundw
                case rel => (repeat apply Exists.intro); exact ⟨⟨k + 1, _, nx ++ [([a] ++ [n])], q2 + 1 + 1 + 1, by go_num, hks, hid (by rw [List.length_append, HNX.out]; rfl), hid (by have := HQ2.out; omega), HB9⟩, rfl⟩
                case measure => (simp [intOf]; try omega)
            · have hee2 : (ee == 0) = false := by simpa using hee
              clear hee
              have h0 := below_alloc wC (.cells #[.slice (some ⟨g8, 0, none⟩) 1 1] 30)
              have NB5 := hid (DD.out.next h0)
              have NV5 := hid (OD.out.next h0)
              have C5 := hid (show (wC.alloc (.cells #[.slice (some ⟨g8, 0, none⟩) 1 1] 30)).cell? ⟨wC.heap.size, 0, none⟩ = some (.slice (some ⟨g8, 0, none⟩) 1 1) by simp)
              clear h0
              go_wp2_with (at_builtin; refine wp_d_ro rfl _ _ rfl w R B (q2 + 1 + 1 + 1) O5 _ _ (.slice (some ⟨g8, 0, none⟩) 1 1) sts nx [a] wC.heap.size 1 rfl rfl NB5.out NV5.out HIA.out (by simp) hO8' C5.out hnx1000 ?_; intro v9 w9 i1 i2; obtain ⟨b9, l9, d9, h9⟩ := i1.1.1.shN; subst h9; have HB9 := hid i1; obtain ⟨y0, y1, y2, y3, y4⟩ := i2; clear i1 x0 x1 x2 x3 x4)
              go_roundw
              case rel => (repeat apply Exists.intro); exact ⟨⟨k + 1, _, nx ++ [[a]], q2 + 1 + 1 + 1, by go_num, hks, hid (by rw [List.length_append, HNX.out]; rfl), hid (by have := HQ2.out; omega), HB9⟩, rfl⟩
              case measure => (simp [intOf]; try omega)
          · obtain rfl : k = sts.length := by omega
            have hkk : ¬ ((sts.length : Int) < (sts.length : Int)) := by omega
            obtain ⟨z0, z1, z2, z3, z4⟩ := HD2.out.2.2.2.1
            have hf := hid (gp_last (p := p) HD2.out.1.1 (Nat.le_refl _) (by simp; omega) hl1 HNX.out HD2.out.2.1 HD2.out.2.2.1 hB.2 (by omega))
            have ZY := hid (boxp_set1 (boxp_set0 HD2.out.2.2.2.1 (.slice aS sts.length cS)) (.slice bN' nx.length dN'))
            go_wp2_with fail
            obtain ⟨y0, y1, y2, _⟩ := ZY.out
            refine bodyPost_ret (v := .agg #[.slice aS sts.length cS, .slice bN' nx.length dN']) (by simp [results, Try.results31, go_sem, y1, y2]) rfl ?_
            exact hf.out
end Gr
end Go.Proofs.Ytfemikebklmlpaa
namespace Go.Proofs.Ytfemikebklmlpaa
open Go.RowKit
set_option linter.unusedVariables false
set_option linter.unusedSimpArgs false
namespace Bl
/-- a row of numbers of one's own that may grow -/
def OwnB (B : Nat) (v : Value) (l : List Bool) (w : World) : Prop := w.ownsRow B 4 1 v l.length (l.map (Value.bool))
/-- append of a nil slice, at the operation -/
theorem wp_app_nil {ops : Array Oper} {rest : List Oper} {o : Oper} {a : Act} {Q : Exit → Act → World → Prop} {w : World} (hgd : o.guard = none) (s x : Operand)
    (ho : o.op = .call { callee := .builtin .append, args := #[s, x], argTypes := #[27, 27] }) (b : Option Addr) (n c : Nat) (hs : a.eval s = .slice b n c) (hx : a.eval x = .slice none 0 0) (hc : n ≤ c)
    (h : wpList Try.prog ops Q rest (a.put o.dst (.slice b n c)) w) : wpList Try.prog ops Q (o :: rest) a w := by
  obtain ⟨i, hi, hz, hz1, hz2⟩ := info_parts bools_info
  have e : (Builtin.append_ #[27, 27] o.type #[.slice b n c, .slice none 0 0]).run Try.prog w = .ok (.slice b n c) w := by
    cases b with
    | none => simp [Builtin.append_, run_underlying Try.underlying27, sizeOf, typeInfo, hi, hc, Builtin.lenOf, run_firstCells_none]
    | some ad => simp [Builtin.append_, run_underlying Try.underlying27, sizeOf, typeInfo, hi, hc, Builtin.lenOf, run_firstCells_none, storeCells]
  refine wpList_plain hgd fun K hK => ?_
  unfold Oper.wp execOp
  simp only [ho, resolve, invoke, builtin, Sem.run_bind, Sem.run_pure, Result.andThen_ok, List.map_toArray, List.map_cons, List.map_nil, hs, hx, e]
  exact hK _ _ h
theorem OwnB.row {B : Nat} {v : Value} {l : List Bool} {w : World} (h : OwnB B v l w) : (l = [] ∧ v = .slice none 0 0) ∨ ∃ g c, v = .slice (some ⟨g, 0, none⟩) l.length c ∧ B ≤ g ∧ l.length ≤ c ∧ c ≤ maxLen ∧ Row w g l.length (fun i => (l.map (Value.bool)).getD i undef) := by
  have h0 := h
  obtain ⟨k1, k2⟩ := h
  rcases k2 with ⟨rfl, hz⟩ | ⟨g, cap, cur, rfl, e2, e3, e4, e5, e6, e7⟩
  · exact .inl ⟨by simpa using hz, rfl⟩
  · have hg := (Array.getElem?_eq_some_iff.1 e3).1
    refine .inr ⟨g, cap, rfl, e2, e4, e5, hg, fun i hi => ?_, fun i => ?_⟩
    · have hi2 : (l.map (Value.bool))[i]? = some ((l.map (Value.bool)).getD i undef) := by rw [List.getD_eq_getElem?_getD, List.getElem?_eq_getElem (by simpa using hi)]; rfl
      have := World.ownsRow.cells h0 (g := g) rfl i _ hi2
      have e : Addr.add ⟨g, 0, none⟩ i = ⟨g, i, none⟩ := by unfold Addr.add; split <;> simp_all
      rw [e] at this
      exact this
    · simp [World.frozen?, e3]
/-- a row of numbers of one's own, as it is handed back: nil, or as long as it is wide -/
theorem OwnB.made (w : World) : OwnB w.heap.size (.slice (some ⟨w.heap.size, 0, none⟩) 0 0) [] (w.alloc (.cells #[] 4)) :=
  World.ownsRow_made (e := 4) (size := 1) (base := w.heap.size) w #[] 0 (Nat.le_refl _) (by simp) (by simp)

theorem OwnB.keep {B : Nat} {v : Value} {l : List Bool} {w w' : World} (h : OwnB B v l w) (hb : ∀ g, v.ownBlock = some g → B ≤ g → g < w.heap.size → w'.heap[g]? = w.heap[g]?) : OwnB B v l w' := by
  refine ⟨h.1, ?_⟩
  rcases h.2 with h2 | ⟨g, cap, cur, rfl, e2, e3, e4⟩
  · exact .inl h2
  · exact .inr ⟨g, cap, cur, rfl, e2, (hb g rfl e2 (Array.getElem?_eq_some_iff.1 e3).1).trans e3, e4⟩
theorem OwnB.next {B : Nat} {v : Value} {l : List Bool} {w w' : World} (h : OwnB B v l w) (hb : Below w.heap.size w w') : OwnB B v l w' := h.keep fun g _ _ hl => hb.block g hl
theorem OwnB.mono {B B' : Nat} {v : Value} {l : List Bool} {w : World} (h : OwnB B v l w) (hB : B' ≤ B) : OwnB B' v l w := by
  refine ⟨h.1, ?_⟩
  rcases h.2 with h2 | ⟨g, cap, cur, e1, e2, e3⟩
  · exact .inl h2
  · exact .inr ⟨g, cap, cur, e1, Nat.le_trans hB e2, e3⟩
theorem OwnB.blk {B : Nat} {v : Value} {l : List Bool} {w : World} (h : OwnB B v l w) : ∀ g, v.ownBlock = some g → B ≤ g ∧ g < w.heap.size := by
  intro g hg
  rcases h.2 with ⟨rfl, _⟩ | ⟨g', cap, cur, rfl, e2, e3, e4⟩
  · simp [Value.ownBlock] at hg
  · simp [Value.ownBlock] at hg
    subst hg
    exact ⟨e2, (Array.getElem?_eq_some_iff.1 e3).1⟩
theorem below_own {B : Nat} {w wr w' : World} {v : Value} {l : List Bool} (hb : Below w.heap.size w wr) (hv : OwnB B v l wr) (hB : w.heap.size ≤ B) (hg : wr.grownBy w' v.ownBlock) : Below w.heap.size w w' :=
  ⟨hg.os.trans hb.os, hg.tape.trans hb.tape, hg.output.trans hb.output, Nat.le_trans hb.size hg.size, fun k hk => by
    rw [hg.block k (Nat.lt_of_lt_of_le hk hb.size) (fun e => by have := (hv.blk k e.symm).1; omega), hb.block k hk]⟩
theorem OwnB.shape {B : Nat} {v : Value} {l : List Bool} {w : World} (h : OwnB B v l w) : ∃ a c, v = .slice a l.length c ∧ l.length ≤ c ∧ c ≤ maxLen ∧ (a = none → c = 0) := by
  rcases h.row with ⟨rfl, rfl⟩ | ⟨g, c, rfl, h1, h2, h3, h4⟩
  · exact ⟨none, 0, rfl, Nat.le_refl _, by unfold maxLen; omega, fun _ => rfl⟩
  · exact ⟨_, c, rfl, h2, h3, fun e => by cases e⟩
theorem OwnB.boolsIn {B : Nat} {a : Option Addr} {n c : Nat} {l : List Bool} {w : World} (h : OwnB B (.slice a n c) l w) : BoolsIn Any w a l := by
  rcases h.row with ⟨rfl, _⟩ | ⟨g, c', e, h1, h2, h3, h4⟩
  · exact .inl rfl
  · simp at e
    obtain ⟨rfl, _, _⟩ := e
    refine .inr ⟨g, 0, rfl, trivial, h4.1, fun i v hv => ?_⟩
    have hlt : i < l.length := by have := (List.getElem?_eq_some_iff.1 hv).1; simpa using this
    rw [Nat.zero_add, h4.2.1 i hlt]
    show some ((l.map (Value.bool)).getD i undef) = _
    rw [List.getD_eq_getElem?_getD, hv]; rfl
theorem OwnB.set {B : Nat} {v : Value} {l : List Bool} {w : World} (h : OwnB B v l w) {a : Addr} (ha : ∀ g, v.ownBlock = some g → B ≤ g → g ≠ a.block) (u : Value) : OwnB B v l (w.setCell a u) :=
  h.keep fun g h1 h2 _ => Below.heap_setCell _ _ _ _ (ha g h1 h2)

/-- append to an empty row just made, at the operation: the clone of a row; where it lies -/
theorem wp_app_clone {ops : Array Oper} {rest : List Oper} {o : Oper} {a : Act} {Q : Exit → Act → World → Prop} {w : World} (hgd : o.guard = none) (s x : Operand)
    (ho : o.op = .call { callee := .builtin .append, args := #[s, x], argTypes := #[27, 27] }) (g : Nat) (l : List Bool) (ad : Option Addr) (c : Nat) (hs : a.eval s = .slice (some ⟨g, 0, none⟩) 0 0) (hx : a.eval x = .slice ad l.length c)
    (hv : OwnB g (.slice (some ⟨g, 0, none⟩) 0 0) [] w) (hB : g < w.heap.size) (hn : ad = none → c = 0) (hl : BoolsIn Any w ad l) (h2 : l.length ≤ 1000000)
    (h : ∀ g' c' w', (g' = g ∨ g' = w.heap.size) → OwnB g (.slice (some ⟨g', 0, none⟩) l.length c') l w' → w.grownBy w' (some g) → g' < w'.heap.size → wpList Try.prog ops Q rest (a.put o.dst (.slice (some ⟨g', 0, none⟩) l.length c')) w') :
    wpList Try.prog ops Q (o :: rest) a w := by
  cases ad with
  | none =>
    obtain rfl : c = 0 := hn rfl
    have hl0 : l = [] := by
      rcases hl with h0 | ⟨b, o', h0, _⟩
      · simpa using h0
      · cases h0
    subst hl0
    exact wp_app_nil hgd s x ho (some ⟨g, 0, none⟩) 0 0 hs hx (Nat.le_refl _) (h g 0 w (.inl rfl) hv (World.grownBy.refl _ _) hB)
  | some ad =>
    obtain ⟨ri, hi, hz, hs1, hs2⟩ := info_parts bools_info
    refine wpList_append_own_at _ hgd s x 27 ho g 4 ri (.bool false) 1 1 Try.underlying27 hi hz hs1 hs2 rfl (by omega) _ 0 _ hs hv ad l.length c (l.map (Value.bool)) hx (by simp) (fun j u hj => ?_) (fun u hu => ?_) (by simp only [maxLen]; omega) (by omega) (Nat.le_of_lt hB) ?_
    · rcases hl with h0 | ⟨b, o', h1, h2, h3, h4⟩
      · rw [h0] at hj; simp at hj
      · obtain rfl : ad = ⟨b, o', none⟩ := by simpa using h1
        have := h4 j u hj
        have e : Addr.add ⟨b, o', none⟩ j = ⟨b, o' + j, none⟩ := by unfold Addr.add; split <;> simp_all
        rw [e]
        exact this
    · rw [List.mem_map] at hu
      obtain ⟨n, _, rfl⟩ := hu
      rfl
    · intro v2 w3 hown hgrow hnil hblk
      have ho2 : OwnB g v2 l w3 := by unfold OwnB; simpa using hown
      rcases ho2.row with ⟨rfl, rfl⟩ | ⟨g', c', rfl, h1, h3, h4, h5⟩
      · simp at hnil
      · exact h g' c' w3 (by simpa [Value.ownBlock] using hblk) ho2 (by simpa [Value.ownBlock] using hgrow) h5.1

/-- append of numbers to a row of one's own, at the operation; where the result lies -/
theorem wp_app_own2 {ops : Array Oper} {rest : List Oper} {o : Oper} {a : Act} {Q : Exit → Act → World → Prop} {w : World} (hgd : o.guard = none) (s x : Operand)
    (ho : o.op = .call { callee := .builtin .append, args := #[s, x], argTypes := #[27, 27] }) (B : Nat) (v : Value) (acc l : List Bool) (ad : Option Addr) (c : Nat) (hs : a.eval s = v) (hx : a.eval x = .slice ad l.length c) (hn : ad = none → c = 0)
    (hv : OwnB B v acc w) (hB : B ≤ w.heap.size) (hl : BoolsIn Any w ad l) (h1 : acc.length ≤ 1000000) (h2 : l.length ≤ 1000000)
    (h : ∀ v' w', OwnB B v' (acc ++ l) w' → w.grownBy w' v.ownBlock → (v'.ownBlock = v.ownBlock ∨ v'.ownBlock = some w.heap.size) → wpList Try.prog ops Q rest (a.put o.dst v') w') :
    wpList Try.prog ops Q (o :: rest) a w := by
  cases ad with
  | none =>
    obtain rfl : c = 0 := hn rfl
    have hl0 : l = [] := by
      rcases hl with h0 | ⟨b, o', h0, _⟩
      · simpa using h0
      · cases h0
    subst hl0
    have hsh : ∃ b n c, v = .slice b n c ∧ n ≤ c := by
      rcases hv.2 with ⟨rfl, _⟩ | ⟨g, cap, cur, rfl, _, _, hc, _⟩
      · exact ⟨_, _, _, rfl, Nat.le_refl _⟩
      · exact ⟨_, _, _, rfl, hc⟩
    obtain ⟨b, n, c, rfl, hc⟩ := hsh
    exact wp_app_nil hgd s x ho b n c hs hx hc (h _ _ (by simpa using hv) (World.grownBy.refl _ _) (.inl rfl))
  | some ad =>
    obtain ⟨ri, hi, hz, hs1, hs2⟩ := info_parts bools_info
    refine wpList_append_own_at _ hgd s x 27 ho B 4 ri (.bool false) 1 1 Try.underlying27 hi hz hs1 hs2 rfl (by omega) v acc.length _ hs hv ad l.length c (l.map (Value.bool)) hx (by simp) (fun j u hj => ?_) (fun u hu => ?_) (by simp only [maxLen]; omega) (by omega) hB ?_
    · rcases hl with h0 | ⟨b, o', h1, h2, h3, h4⟩
      · rw [h0] at hj; simp at hj
      · obtain rfl : ad = ⟨b, o', none⟩ := by simpa using h1
        have := h4 j u hj
        have e : Addr.add ⟨b, o', none⟩ j = ⟨b, o' + j, none⟩ := by unfold Addr.add; split <;> simp_all
        rw [e]
        exact this
    · rw [List.mem_map] at hu
      obtain ⟨n, _, rfl⟩ := hu
      rfl
    · intro v2 w3 hown hgrow _ hblk
      exact h v2 w3 (by unfold OwnB; rw [List.length_append, List.map_append]; exact hown) hgrow hblk


end Bl
end Go.Proofs.Ytfemikebklmlpaa
