/- BasicFormulas, of the program and of the reference: what it returns, for every formula. Conditions: those of each contract. -/
import Derived.Test.YthjhokifonjeaaaSubX
import Derived.Test.YthjhokifonjeaaaBasP
namespace Go.Proofs.Ythjhokifonjeaaa
open Go.RowKit
namespace Formula

theorem findT_nil (t : Tr) (k : Int) : findT [] t k = -1 := by simp [findT]
theorem subsT_pos (t : Tr) (acc : List Tr) : 0 < (subsT acc t).length := by
  cases t with
  | mk k v kids =>
    simp only [subsT]
    split
    · simp
    · rename_i h
      rcases Nat.eq_zero_or_pos (subsL acc kids).length with h0 | h0
      · exfalso
        rw [List.eq_nil_of_length_eq_zero h0, findT_nil] at h
        omega
      · exact h0
theorem NewRow.src {B : Nat} {l : List Tr} {v : Value} {w : World} (h : NewRow B l v w) (h0 : 0 < l.length) : ∃ R f r c, v = .slice (some ⟨R, 0, none⟩) l.length c ∧ l.length ≤ c ∧ c ≤ maxLen ∧ Src B w l f R r := by
  obtain ⟨a, c, bs, rfl, h1, h2, h3, h4⟩ := h
  rcases h3 with ⟨rfl, _⟩ | ⟨R, f, r, rfl, rfl, g1, g2, g3⟩
  · simp at h0
  · exact ⟨R, f, r, c, rfl, h1, h2, g1, g2, g3, h4⟩

theorem l7Basic_any (t : Tr) (w : World) (x : Value) (hx : TrIn Any w t x) : Calls Try.prog 55 #[x] w (Ret (.bool (basT t)) w) := by
  obtain ⟨a, c, rfl⟩ := TrIn_shape hx
  clear hx
  cases t with
  | mk k v kids =>
    simp only [Tr.kind, Tr.val, Tr.kids]
    by_cases h2 : k = 2
    · subst h2
      go_enter Try.func55, Try.ntmps55
      go_wp2_with fail
      go_ret
      exact Ret.mk rfl (below_alloc _ _)
    by_cases h6 : k = 6
    · subst h6
      go_enter Try.func55, Try.ntmps55
      go_wp2_with fail
      go_ret
      exact Ret.mk rfl (below_alloc _ _)
    by_cases h7 : k = 7
    · subst h7
      go_enter Try.func55, Try.ntmps55
      go_wp2_with fail
      go_ret
      exact Ret.mk rfl (below_alloc _ _)
    by_cases h8 : k = 8
    · subst h8
      go_enter Try.func55, Try.ntmps55
      go_wp2_with fail
      go_ret
      exact Ret.mk rfl (below_alloc _ _)
    · have E := hid (show basT (.mk k v kids) = false by simp [basT, Tr.kind, h2, h6, h7, h8])
      have e2 : (k == 2) = false := by simpa using h2
      have e6 : (k == 6) = false := by simpa using h6
      have e7 : (k == 7) = false := by simpa using h7
      have e8 : (k == 8) = false := by simpa using h8
      go_enter Try.func55, Try.ntmps55
      go_wp2_with fail
      go_ret
      exact Ret.mk (bool_val E.out.symm) (below_alloc _ _)

def RetR (B : Nat) (l : List Tr) (b : Bool) (w : World) (e : Ending) (w' : World) : Prop := ∃ v, e = .returned (.tuple #[v, .bool b]) ∧ NewRow B l v w' ∧ Below w.heap.size w w'

set_option maxRecDepth 100000 in
set_option maxHeartbeats 2000000 in
theorem basics_any (t : Tr) (w : World) (x : Value) (hx : TrIn Any w t x) (hs : Small t) (hn : nodes t ≤ 12) : Calls Try.prog 54 #[x] w (RetP (NewRow w.heap.size (basL (subsT [] t))) w) := by
  have hx0 := hx
  obtain ⟨a, c, rfl⟩ := TrIn_shape hx
  have hlen := subsT_len t []
  simp only [List.length_nil] at hlen
  go_enter Try.func54, Try.ntmps54
  go_wp2_with fail
  refine (subs_own t _ _ (TrIn_alloc hx0 _) hs hn).mono ?_
  rintro e w1 ⟨v1, rfl, hr, hb⟩
  obtain ⟨R, f, r, c1, rfl, hc1, hc2, hsrc⟩ := NewRow.src (hr.mono (B' := w.heap.size) (by simp)) (subsT_pos t [])
  have HS := hid hsrc
  have hB1 := below_next (below_alloc _ _) hb
  have HB1 := hid hB1
  have hsz1 := hB1.size
  clear hb hr hsrc hB1
  unfold maxLen at hc2
  generalize subsT [] t = l at *
  go_wp2_with fail
  go_loopw [3, 9] (fun u i wr => ∃ j : Nat, j ≤ l.length ∧ i = .int .i64 j ∧ Hid (Filt w.heap.size 25 w1 l f R r j (.slice none 0 0) u wr)) (fun _ i _ => l.length - (intOf i).toNat)
  case atStart => exact ⟨0, Nat.zero_le _, rfl, hid (Filt.start HS.out (OwnRow.nil _ _ _) (by simp [Value.ownBlock]))⟩
  case round =>
    obtain ⟨j, hj, rfl, hf⟩ := hrel
    by_cases hlt : j < l.length
    · obtain ⟨b, o, c0, c1, c2, t', hbo, gb, g0, g1, g2, hT⟩ := TrsIn_round (hf.out.row HS.out) (Below.refl _ _) hlt
      simp only [Option.some.injEq, Addr.mk.injEq, and_true] at hbo
      obtain ⟨rfl, rfl⟩ := hbo
      obtain ⟨a4, n4, hsh⟩ := TrIn_shape hT.out.1
      simp only [Value.agg.injEq, Array.mk.injEq, List.cons.injEq, and_true] at hsh
      obtain ⟨rfl, rfl, rfl⟩ := hsh
      have hcells := hid (And.intro g0 (And.intro g1 g2))
      simp only [Nat.zero_add] at g0 g1 g2
      cases hb : basT t' with
      | false =>
        have HF := hid (Filt.below HS.out (hf.out.skip hT.out.2.2.2 hb) (below_alloc wr (.cells #[.int .i64 t'.kind, .int .i64 t'.val, .slice a4 t'.kids.length n4] 25)))
        have hb' : ¬ (t'.kind = 2) ∧ ¬ (t'.kind = 6) ∧ ¬ (t'.kind = 7) ∧ ¬ (t'.kind = 8) := by
          unfold basT at hb; simp at hb; exact ⟨hb.1.1.1, hb.1.1.2, hb.1.2, hb.2⟩
        obtain ⟨k1, k2, k3, k4⟩ := hb'
        have e1 : (t'.kind == 2) = false := by simpa using k1
        have e2 : (t'.kind == 6) = false := by simpa using k2
        have e3 : (t'.kind == 7) = false := by simpa using k3
        have e4 : (t'.kind == 8) = false := by simpa using k4
        clear hb
        go_wp2_with fail
        go_roundw
        case rel => exact ⟨j + 1, by omega, by go_num, HF⟩
        case measure => simp [intOf]; omega
      | true =>
        have hb2 := hid hb
        have hl2 : l.length ≤ 1048576 := by omega
        have hszr := hf.out.off.1.size
        have hk : t'.kind = 2 ∨ t'.kind = 6 ∨ t'.kind = 7 ∨ t'.kind = 8 := by unfold basT at hb; simp at hb; omega
        obtain ⟨au, cu, rfl, _, _⟩ := hf.out.shape
        clear hb
        cases t' with
        | mk k' v' kids' =>
        simp only [Tr.kind, Tr.val, Tr.kids] at hk g0 g1 g2 hcells
        rcases hk with rfl | rfl | rfl | rfl
        all_goals
          go_wp2_with (refine wp_append_filt rfl (.tmp 31) (.tmp 33) 23 rfl 25 Try.underlying23 rowInfo (by rfl) _ (by rfl) (by simp) (by intro x hx; simp at hx; rcases hx with rfl | rfl | rfl <;> rfl) HS.out hf.out (below_alloc _ _) (by omega) hl2 hT.out.2.2.2 hb2.out hcells.out ?_)
          intro a2 n2 c2 w4 hf4 hkeep4
          have HF := hid hf4
          clear hf4 hkeep4
          go_wp2_with fail
          go_roundw
          case rel => exact ⟨j + 1, by omega, by go_num, HF⟩
          case measure => simp [intOf]; omega
    · have ho := hf.out.off
      have hrow := OwnRow.new (hf.out.done HS.out (by omega))
      have HB := hid (show Below w.heap.size w wr from ⟨ho.1.os.trans HB1.out.os, ho.1.tape.trans HB1.out.tape, ho.1.output.trans HB1.out.output, Nat.le_trans hsz1 ho.1.size, fun b hb => by
        rw [ho.1.block b (by omega) (by simp [Value.ownBlock]), HB1.out.block b hb]⟩)
      obtain ⟨au, cu, rfl, hu1, hu2⟩ := hf.out.shape
      have HN := hid hrow.clip.1
      clear hf ho hrow
      go_wp2_with fail
      refine (clip_any au _ cu wr hu1 hu2).mono ?_
      rintro e w2 ⟨rfl, rfl⟩
      go_wp2_with fail
      go_ret
      exact ⟨_, rfl, HN.out, HB.out⟩
end Formula
end Go.Proofs.Ythjhokifonjeaaa
