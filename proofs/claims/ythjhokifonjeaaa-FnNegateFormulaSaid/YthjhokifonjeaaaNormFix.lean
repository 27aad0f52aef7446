/- Normal forms: what one looks like; the normal form of a normal form; the laws' wpNormal on one. Conditions: those of each contract. -/
import Derived.Test.YthjhokifonjeaaaRows
import Derived.Test.YthjhokifonjeaaaNormPlain
import Derived.WalkSpells
import Derived.WalkLawsBesides
namespace Go.Proofs.Ythjhokifonjeaaa
open Go.RowKit

inductive NF : Tr → Prop where
  | leaf (k v : Int) (h : k = 1 ∨ k = 2) : NF (.mk k v [])
  | not (k v : Int) (h : k = 1 ∨ k = 2) : NF (.mk 3 0 [.mk k v []])
  | next (a : Tr) (h : NF a) : NF (.mk 6 0 [a])
  | two (k : Int) (hk : k = 4 ∨ k = 5 ∨ k = 7 ∨ k = 8) (a b : Tr) (h : NF a) (h' : NF b) : NF (.mk k 0 [a, b])

theorem dual_two {k : Int} (hk : k = 4 ∨ k = 5 ∨ k = 7 ∨ k = 8) : dualK k = 4 ∨ dualK k = 5 ∨ dualK k = 7 ∨ dualK k = 8 := by
  rcases hk with rfl | rfl | rfl | rfl <;> simp [dualK]
theorem nf_two {k v : Int} (hk : k = 4 ∨ k = 5 ∨ k = 7 ∨ k = 8) (a b : Tr) (neg : Bool) : nfT (.mk k v [a, b]) neg = .mk (if neg = true then dualK k else k) 0 [nfT a neg, nfT b neg] := by
  rcases hk with rfl | rfl | rfl | rfl <;> simp [nfT, nfL, nfNode]
theorem nf_NF : ∀ (t : Tr) (n : Nat) (neg : Bool), formL.shape t n = true → NF (nfT t neg) := Tr.ind fun k v kids ih => by
  intro n neg hs
  obtain ⟨m, h1, h2, h3, h4, h5, h6, h7⟩ := formL.shape_mk hs
  rw [formL_K] at h3
  rw [formL_ar] at h6
  by_cases k0 : k = 1 ∨ k = 2
  · obtain rfl := len0 (by rw [h6, if_pos k0])
    cases neg
    · simp [nfT, nfNode, k0]; exact NF.leaf k v k0
    · simp [nfT, nfNode, k0]; exact NF.not k v k0
  by_cases k2 : k = 4 ∨ k = 5 ∨ k = 7 ∨ k = 8
  · obtain ⟨a, b, rfl⟩ := len2 (by rw [h6, if_neg k0, if_pos k2])
    rw [nf_two k2]
    exact NF.two _ (by split; exact dual_two k2; exact k2) _ _ (ih a (by simp) m neg (h7 a (by simp))) (ih b (by simp) m neg (h7 b (by simp)))
  obtain ⟨a, rfl⟩ := len1 (by rw [h6, if_neg k0, if_neg k2])
  have ha := h7 a (by simp)
  have hk : k = 3 ∨ k = 6 ∨ k = 9 ∨ k = 10 := by omega
  have htru : NF truT := NF.leaf 1 0 (.inl rfl)
  have hfls : NF flsT := NF.not 1 0 (.inl rfl)
  rcases hk with rfl | rfl | rfl | rfl
  · simp [nfT, nfL, nfNode]; exact ih a (by simp) m _ ha
  · simp [nfT, nfL, nfNode]; exact NF.next _ (ih a (by simp) m _ ha)
  · cases neg
    · simp [nfT, nfL, nfNode]; exact NF.two 7 (by simp) _ _ htru (ih a (by simp) m _ ha)
    · simp [nfT, nfL, nfNode]; exact NF.two 8 (by simp) _ _ hfls (ih a (by simp) m _ ha)
  · cases neg
    · simp [nfT, nfL, nfNode]; exact NF.two 8 (by simp) _ _ hfls (ih a (by simp) m _ ha)
    · simp [nfT, nfL, nfNode]; exact NF.two 7 (by simp) _ _ htru (ih a (by simp) m _ ha)
theorem NF.fix {t : Tr} (h : NF t) : nfT t false = t := by
  induction h with
  | leaf k v h => simp [nfT, nfNode, h]
  | not k v h => simp [nfT, nfL, nfNode, h]
  | next a h ih => simp [nfT, nfL, nfNode, ih]
  | two k hk a b h h' ih ih' => rw [nf_two hk, ih, ih']; simp

/-- what wpNormal asks -/
def okN (k : Int) (u : Tr) : Prop := k = 3 → u.kids = []
def WnT (t : Tr) : Prop := ∀ (w : World) (x : Value), TrIn Any w t x → Calls Try.prog 22 #[x] w (Ret (.bool true) w)
set_option maxRecDepth 100000 in
set_option maxHeartbeats 1000000 in
theorem wn_of (k v : Int) (kids : List Tr) (hk9 : k ≠ 9) (hk10 : k ≠ 10) (hok : ∀ u, u ∈ kids → okN k u) (h : ∀ u, u ∈ kids → WnT u) : WnT (.mk k v kids) := by
  intro w x hx
  rw [TrIn_mk] at hx
  obtain ⟨a, n, c, rfl, _, _, rfl, hc, hc2, hks⟩ := hx
  unfold maxLen at hc2
  have e9 : (k == 9) = false := by simpa using hk9
  have e10 : (k == 10) = false := by simpa using hk10
  clear hk9 hk10
  go_enter Try.func22, Try.ntmps22
  go_wp2_with fail
  go_loopw [3] (fun i wr => ∃ j : Nat, j ≤ kids.length ∧ i = .int .i64 j ∧ Below w.heap.size w wr ∧ Box3 wr w.heap.size (.int .i64 k) (.int .i64 v) (.slice a kids.length c)) (fun i _ => kids.length - (intOf i).toNat)
  case atStart => exact ⟨0, Nat.zero_le _, rfl, (by repeat (first | exact Below.refl _ _ | assumption | refine below_a ?_ _ | refine below_o ?_ _ | refine below_d ?_ | refine below_n ?_ _ | refine below_s ?_ (by first | (simp; done) | (simp; omega) | omega) _)), box3_new ..⟩
  case round =>
    obtain ⟨j, hj, rfl, B, b0⟩ := hrel
    have bb := b0
    obtain ⟨p0, p1, p2, p3, p4⟩ := b0
    by_cases hlt : j < kids.length
    · obtain ⟨b, o, c0, c1, c2, t, rfl, gb, g0, g1, g2, hT⟩ := TrsIn_round hks B hlt
      obtain ⟨a4, n4, hsh⟩ := TrIn_shape hT.out.1
      simp only [Value.agg.injEq, Array.mk.injEq, List.cons.injEq, and_true] at hsh
      obtain ⟨rfl, rfl, rfl⟩ := hsh
      have hlt2 : (j : Int) < (kids.length : Int) := by omega
      have HC := hid (fun (w2 : World) (M : Below wr.heap.size wr w2) => h t hT.out.2.1 w2 _ (TrIn_below M hT.out.1))
      by_cases hk3 : k = 3
      · have e3 : (k == 3) = true := by simpa using hk3
        have h0 : t.kids.length = 0 := by rw [hok t hT.out.2.1 hk3]; rfl
        rw [h0] at g2
        have HC2 := HC.out
        rw [h0] at HC2
        replace HC := hid HC2
        clear HC2 hk3 h0
        go_wp2_with fail
        refine (HC.out _ (by repeat (first | exact Below.refl _ _ | assumption | refine below_a ?_ _ | refine below_o ?_ _ | refine below_d ?_ | refine below_n ?_ _ | refine below_s ?_ (by first | (simp; done) | (simp; omega) | omega) _))).mono ?_
        rintro e w2 ⟨rfl, hb2⟩
        replace bb := box3_next hb2 bb
        replace B := below_next B hb2
        clear hb2
        go_wp2_with fail
        go_roundw
        case rel => exact ⟨j + 1, by omega, by go_num, B, bb⟩
        case measure => simp [intOf]; omega
      · have e3 : (k == 3) = false := by simpa using hk3
        go_wp2_with fail
        refine (HC.out _ (by repeat (first | exact Below.refl _ _ | assumption | refine below_a ?_ _ | refine below_o ?_ _ | refine below_d ?_ | refine below_n ?_ _ | refine below_s ?_ (by first | (simp; done) | (simp; omega) | omega) _))).mono ?_
        rintro e w2 ⟨rfl, hb2⟩
        replace bb := box3_next hb2 bb
        replace B := below_next B hb2
        clear hb2
        go_wp2_with fail
        go_roundw
        case rel => exact ⟨j + 1, by omega, by go_num, B, bb⟩
        case measure => simp [intOf]; omega
    · have hlt2 : ¬ ((j : Int) < (kids.length : Int)) := by omega
      go_wp2_with fail
      go_ret
      exact Ret.mk rfl B
theorem wn_any {t : Tr} (h : NF t) : WnT t := by
  induction h with
  | leaf k v h => exact wn_of k v [] (by omega) (by omega) (by simp) (by simp)
  | not k v h => exact wn_of 3 0 _ (by omega) (by omega) (by simp [okN, Tr.kids]) (by simp; exact wn_of k v [] (by omega) (by omega) (by simp) (by simp))
  | next a h ih => exact wn_of 6 0 _ (by omega) (by omega) (by simp [okN]) (by simpa using ih)
  | two k hk a b h h' ih ih' => exact wn_of k 0 _ (by omega) (by omega) (fun u _ h3 => by omega) (by simp; exact ⟨ih, ih'⟩)

end Go.Proofs.Ythjhokifonjeaaa
