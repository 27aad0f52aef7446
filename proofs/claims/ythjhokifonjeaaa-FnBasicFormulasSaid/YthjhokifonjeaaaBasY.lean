/- BasicFormulas, of the program and of the reference, whole. Conditions: those of each contract. -/
import Derived.Test.YthjhokifonjeaaaBasX
namespace Go.Proofs.Ythjhokifonjeaaa
open Go.RowKit
namespace Formula

mutual
theorem smallN : ∀ t : Tr, nodes t ≤ 1048576 → Small t
  | .mk _ _ kids, h => by
    simp only [nodes] at h
    have hl := lenN kids
    exact ⟨by omega, smallNL kids (by omega)⟩
theorem smallNL : ∀ l : List Tr, nodesL l ≤ 1048576 → SmallL l
  | [], _ => trivial
  | t :: ts, h => by
    simp only [nodesL] at h
    have h1 := nodesL_pos ts
    have h2 := nodes_pos t
    exact ⟨smallN t (by omega), smallNL ts (by omega)⟩
theorem lenN : ∀ l : List Tr, (l.length : Int) ≤ nodesL l
  | [] => by simp [nodesL]
  | t :: ts => by
    simp only [nodesL, List.length_cons]
    have h1 := lenN ts
    have h2 := nodes_pos t
    omega
end
theorem normV_nodes (t : Tr) (h : normOk t = true) : nodes (normV t) ≤ 12 := by
  have h2 := h
  unfold normV
  rw [if_pos h]
  rw [normOk, Bool.and_eq_true] at h2
  have h3 := h2.2
  rw [Lang.valid, Bool.and_eq_true, decide_eq_true_eq, formL_N] at h3
  exact h3.2
theorem basV_nodes (t : Tr) : nodesL (basV t) ≤ 1000000 := by
  unfold basV
  split
  · rename_i h
    unfold basOk at h
    rw [Bool.and_eq_true] at h
    have h1 := subsT_nodes (normV t) [] (normV_nodes t h.1)
    have h2 := basL_nodes (subsT [] (normV t))
    have h3 := normV_nodes t h.1
    simp only [nodesL] at h1
    unfold basN
    omega
  · simp [nodesL]

set_option maxRecDepth 100000 in
set_option maxHeartbeats 2000000 in
theorem bas_any (t : Tr) (w : World) (x : Value) (hx : TrIn Any w t x) (hs : Small t) : Calls Try.prog 28 #[x] w (RetR w.heap.size (basV t) (basOk t) w) := by
  have hx0 := hx
  obtain ⟨a, c, rfl⟩ := TrIn_shape hx
  cases hv : normOk t with
  | false =>
    have E := hid (show basV t = [] ∧ basOk t = false by simp [basV, basOk, hv])
    go_enter Try.func28, Try.ntmps28
    go_wp2_with fail
    refine (norm_any t _ _ (TrIn_alloc hx _) hs).mono ?_
    rintro e w1 ⟨v1, rfl, hn, hb⟩
    obtain ⟨a1, c1, rfl⟩ := TrIn_shape hn.any
    rw [hv]
    replace hb := below_next (below_alloc _ _) hb
    have HB := hid hb
    clear hv
    go_wp2_with fail
    refine bodyPost_ret (v := .tuple #[.slice none 0 0, .bool false]) (by simp [results, Try.results28, go_sem]) rfl ?_
    exact ⟨_, by rw [E.out.2], by rw [E.out.1]; exact NewRow.nil _ _ _ (by simp) _, below_next HB.out (below_alloc _ _)⟩
  | true =>
    have hn12 := normV_nodes t hv
    go_enter Try.func28, Try.ntmps28
    go_wp2_with fail
    refine (norm_any t _ _ (TrIn_alloc hx _) hs).mono ?_
    rintro e w1 ⟨v1, rfl, hn, hb⟩
    obtain ⟨a1, c1, rfl⟩ := TrIn_shape hn.any
    have HN := hid hn.any
    have HB := hid (below_next (below_alloc _ _) hb)
    have hsm : Small (normV t) := smallN _ (by omega)
    have E1 := hid (show basOk t = decide ((basN t).length ≤ 5) by simp [basOk, hv])
    rw [hv]
    clear hv hn hb
    go_wp2_with fail
    refine (basics_any (normV t) _ _ (TrIn_alloc HN.out _) hsm hn12).mono ?_
    rintro e w2 ⟨v2, rfl, hr, hb2⟩
    have HB2 := hid (below_next (below_next HB.out (below_alloc _ _)) hb2)
    have hsz := HB.out.size
    have HR := hid (hr.mono (B' := w.heap.size) (by simp; omega))
    obtain ⟨a2, c2, bs, rfl, h1, h2, h3, h4⟩ := hr
    have E2 := hid (show (basL (subsT [] (normV t))).length = (basN t).length from rfl)
    have hl := subsT_len (normV t) []
    have hl2 := basL_len (subsT [] (normV t))
    simp only [List.length_nil] at hl
    clear hb2 h3 h4
    by_cases h5 : (basL (subsT [] (normV t))).length ≤ 5
    · have E3 := hid (show basOk t = true ∧ basV t = basL (subsT [] (normV t)) by
        have : basOk t = true := by rw [E1.out]; first | exact decide_eq_true h5 | exact decide_eq_false h5
        exact ⟨this, by simp [basV, this, basN]⟩)
      generalize basL (subsT [] (normV t)) = l at *
      go_wp2_with fail
      refine bodyPost_ret (v := .tuple #[.slice a2 l.length c2, .bool true]) (by simp [results, Try.results28, go_sem]) rfl ?_
      exact ⟨_, by rw [E3.out.1], by rw [E3.out.2]; exact HR.out, HB2.out⟩
    · have E3 := hid (show basOk t = false ∧ basV t = [] by
        have : basOk t = false := by rw [E1.out]; first | exact decide_eq_true h5 | exact decide_eq_false h5
        exact ⟨this, by simp [basV, this]⟩)
      generalize basL (subsT [] (normV t)) = l at *
      go_wp2_with fail
      refine bodyPost_ret (v := .tuple #[.slice none 0 0, .bool false]) (by simp [results, Try.results28, go_sem]) rfl ?_
      exact ⟨_, by rw [E3.out.1], by rw [E3.out.2]; exact NewRow.nil _ _ _ (by simp) _, HB2.out⟩

set_option maxRecDepth 100000 in
set_option maxHeartbeats 2000000 in
theorem specBas_any (t : Tr) (w : World) (x : Value) (hx : TrIn Any w t x) (hs : Small t) : Calls Try.prog 29 #[x] w (RetR w.heap.size (basV t) (basOk t) w) := by
  have hx0 := hx
  obtain ⟨a, c, rfl⟩ := TrIn_shape hx
  cases hv : normOk t with
  | false =>
    have E := hid (show basV t = [] ∧ basOk t = false by simp [basV, basOk, hv])
    go_enter Try.func29, Try.ntmps29
    go_wp2_with fail
    refine (specNorm_any t _ _ (TrIn_alloc hx _) hs).mono ?_
    rintro e w1 ⟨v1, rfl, hn, hb⟩
    obtain ⟨a1, c1, rfl⟩ := TrIn_shape hn.any
    rw [hv]
    replace hb := below_next (below_alloc _ _) hb
    have HB := hid hb
    clear hv
    go_wp2_with fail
    refine bodyPost_ret (v := .tuple #[.slice (some ⟨w1.heap.size + 1, 0, none⟩) 0 0, .bool false]) (by simp [results, Try.results29, go_sem]) rfl ?_
    exact ⟨_, by rw [E.out.2], by rw [E.out.1]; exact NewRow.nil _ _ _ (by simp) _, below_next (below_next HB.out (below_alloc _ _)) (below_alloc _ _)⟩
  | true =>
    have hn12 := normV_nodes t hv
    go_enter Try.func29, Try.ntmps29
    go_wp2_with fail
    refine (specNorm_any t _ _ (TrIn_alloc hx _) hs).mono ?_
    rintro e w1 ⟨v1, rfl, hn, hb⟩
    obtain ⟨a1, c1, rfl⟩ := TrIn_shape hn.any
    have HN := hid hn.any
    have HB := hid (below_next (below_alloc _ _) hb)
    have hsm : Small (normV t) := smallN _ (by omega)
    have hlen := subsT_len (normV t) []
    simp only [List.length_nil] at hlen
    have E1 := hid (show basOk t = decide ((basN t).length ≤ 5) by simp [basOk, hv])
    rw [hv]
    clear hv hn hb
    go_wp2_with fail
    have HX := ssub_any (normV t) (w1.heap.size + 1 + 1) ((w1.alloc (.cells #[.int .i64 (normV t).kind, .int .i64 (normV t).val, .slice a1 (normV t).kids.length c1] 25)).alloc (.cells #[] 25)) [] (.slice none 0 0) _ (OwnRow.nil _ _ _) (by simp) (TrIn_mono (fun b hb => by omega) (TrIn_alloc (TrIn_alloc (TrIn_old HN.out) _) _)) (by simp; omega) hsm
    refine HX.mono ?_
    clear HX
    rintro e w2 ⟨v2, rfl, hr, hoff, _⟩
    have HE := hid ((OwnRow.empty (B := w.heap.size) 25 (w := w1.alloc (.cells #[.int .i64 (normV t).kind, .int .i64 (normV t).val, .slice a1 (normV t).kids.length c1] 25)) (by have := HB.out.size; simp; omega)).keep (w' := w2) ⟨by have := hoff.size; simpa using this, fun b _ hb => hoff.block b (by simpa using hb) (by simp [Value.ownBlock])⟩)
    have HB2 := hid (show Below w.heap.size w w2 from below_next (below_next (below_next HB.out (below_alloc _ _)) (below_alloc _ _)) ⟨hoff.os, hoff.tape, hoff.output, hoff.size, fun b hb => hoff.block b hb (by simp [Value.ownBlock])⟩)
    obtain ⟨R, f, r, c2, rfl, hc1, hc2, hsrc⟩ := NewRow.src (OwnRow.new hr) (subsT_pos (normV t) [])
    have hszw := HB.out.size
    have HS := hid (show Src w.heap.size w2 (subsT [] (normV t)) f R r from ⟨hsrc.1, hsrc.2.1, hsrc.2.2.1, fun b hb => by have := hsrc.2.2.2 b hb; omega⟩)
    have HD := hid (show ∀ b, b ∈ R :: r → some b ≠ (Value.slice (some ⟨w1.heap.size + 1, 0, none⟩) 0 0).ownBlock from fun b hb e => by have := hsrc.2.2.2 b hb; simp [Value.ownBlock] at e; omega)
    have hsz2 := HB2.out.size
    simp only [World.size_alloc] at HE
    clear hr hoff hsrc
    unfold maxLen at hc2
    have E2 := hid (show basN t = basL (subsT [] (normV t)) from rfl)
    generalize subsT [] (normV t) = l at *
    go_wp2_with fail
    go_loopw [6, 8] (fun u i wr => ∃ j : Nat, j ≤ l.length ∧ i = .int .i64 j ∧ Hid (Filt w.heap.size 25 w2 l f R r j (.slice (some ⟨w1.heap.size + 1, 0, none⟩) 0 0) u wr)) (fun _ i _ => l.length - (intOf i).toNat)
    case atStart => exact ⟨0, Nat.zero_le _, rfl, hid (Filt.start HS.out HE.out HD.out)⟩
    case round =>
      obtain ⟨j, hj, rfl, hf⟩ := hrel
      by_cases hlt : j < l.length
      · obtain ⟨b, o, c0, c1, c2, t', hbo, gb, g0, g1, g2, hT⟩ := TrsIn_round (hf.out.row HS.out) (Below.refl _ _) hlt
        simp only [Option.some.injEq, Addr.mk.injEq, and_true] at hbo
        obtain ⟨rfl, rfl⟩ := hbo
        simp only [Nat.zero_add] at g0 g1 g2
        go_wp2_with fail
        refine (l7Basic_any t' _ _ hT.out.1).mono ?_
        rintro e w3 ⟨rfl, hb3⟩
        have HF3 := hid (Filt.below HS.out hf.out hb3)
        have HT3 := hid hT.out.2
        have hs3 := HF3.out.off.1.size
        clear hf hT g0 g1 g2 hb3 gb
        obtain ⟨b, o, c0, c1, c2, t2, hbo, gb, g0, g1, g2, hT⟩ := TrsIn_round (HF3.out.row HS.out) (Below.refl _ _) hlt
        obtain rfl : t2 = t' := by
          have h1 := HT3.out.2.2
          rw [hT.out.2.2.2] at h1
          simpa using h1
        simp only [Option.some.injEq, Addr.mk.injEq, and_true] at hbo
        obtain ⟨rfl, rfl⟩ := hbo
        obtain ⟨a4, n4, hsh⟩ := TrIn_shape hT.out.1
        simp only [Value.agg.injEq, Array.mk.injEq, List.cons.injEq, and_true] at hsh
        obtain ⟨rfl, rfl, rfl⟩ := hsh
        have hcells := hid (And.intro g0 (And.intro g1 g2))
        simp only [Nat.zero_add] at g0 g1 g2
        obtain ⟨au, cu, rfl, _, _⟩ := HF3.out.shape
        have hl2 : l.length ≤ 1048576 := by omega
        cases hb : basT t2 with
        | false =>
          have HF := hid (HF3.out.skip hT.out.2.2.2 hb)
          clear hb
          go_wp2_with fail
          go_roundw
          case rel => exact ⟨j + 1, by omega, by go_num, HF⟩
          case measure => simp [intOf]; omega
        | true =>
          have hb2 := hid hb
          clear hb
          go_wp2_with (refine wp_append_filt rfl (.tmp 31) (.tmp 36) 23 rfl 25 Try.underlying23 rowInfo (by rfl) _ (by rfl) (by simp) (by intro x hx; simp at hx; rcases hx with rfl | rfl | rfl <;> rfl) HS.out HF3.out (Below.refl _ _) (by omega) hl2 hT.out.2.2.2 hb2.out hcells.out ?_)
          intro a2 n2 c2 w4 hf4 hkeep4
          have HF := hid hf4
          clear hf4 hkeep4
          go_wp2_with fail
          go_roundw
          case rel => exact ⟨j + 1, by omega, by go_num, HF⟩
          case measure => simp [intOf]; omega
      · have ho := hf.out.off
        have hrow := OwnRow.new (hf.out.done HS.out (by omega))
        have HB := hid (show Below w.heap.size w wr from ⟨ho.1.os.trans HB2.out.os, ho.1.tape.trans HB2.out.tape, ho.1.output.trans HB2.out.output, Nat.le_trans hsz2 ho.1.size, fun b hb => by
          rw [ho.1.block b (by omega) (by simp [Value.ownBlock]; omega), HB2.out.block b hb]⟩)
        have hfl : l.take j = l := List.take_of_length_le (by omega)
        obtain ⟨au, cu, hsh, hu1, hu2⟩ := hf.out.shape
        rw [hfl] at hsh
        subst hsh
        have HN2 := hid hrow
        have hl := basL_len l
        clear hf ho hrow hu1
        by_cases h5 : (basL l).length ≤ 5
        · have E3 := hid (show basOk t = true ∧ basV t = basL l by
            have : basOk t = true := by rw [E1.out, E2.out]; simpa using h5
            exact ⟨this, by simp [basV, this, E2.out]⟩)
          generalize basL l = l5 at *
          go_wp2_with fail
          refine bodyPost_ret (v := .tuple #[.slice au l5.length cu, .bool true]) (by simp [results, Try.results29, go_sem]) rfl ?_
          exact ⟨_, by rw [E3.out.1], by rw [E3.out.2]; exact HN2.out, HB.out⟩
        · have E3 := hid (show basOk t = false ∧ basV t = [] by
            have : basOk t = false := by rw [E1.out, E2.out]; simpa using h5
            exact ⟨this, by simp [basV, this]⟩)
          generalize basL l = l5 at *
          go_wp2_with fail
          refine bodyPost_ret (v := .tuple #[.slice (some ⟨wr.heap.size, 0, none⟩) 0 0, .bool false]) (by simp [results, Try.results29, go_sem]) rfl ?_
          exact ⟨_, by rw [E3.out.1], by rw [E3.out.2]; exact NewRow.nil _ _ _ (by simp) _, below_next HB.out (below_alloc _ _)⟩
end Formula
end Go.Proofs.Ythjhokifonjeaaa
