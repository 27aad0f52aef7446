/- What the program's text returns, for every valid branching-time formula. Conditions: those of each contract. -/
import Derived.Test.YthjhokifonjeaaaRows
import Derived.Test.YthjhokifonjeaaaTxtPlain
import Derived.Test.YthjhokifonjeaaaMore
import Derived.WalkSpells
import Derived.WalkLawsBesides
import Derived.Laws.Concat
namespace Go.Proofs.Ythjhokifonjeaaa
open Go.RowKit
namespace Branching

def TxT (t : Tr) : Prop := ∀ (n : Nat) (w : World) (x : Value), branL.shape t n = true → nodes t ≤ 12 → TrIn Any w t x → Calls Try.prog 61 #[x] w (Ret (.string (bs (branT.txt t))) w)

set_option maxHeartbeats 1000000 in
theorem tx_leaf (k v : Int) (hk : (k = 1 ∧ v = 0) ∨ (k = 2 ∧ (v = 0 ∨ v = 1 ∨ v = 2))) : TxT (.mk k v []) := by
  intro n w x hs hn hx
  have E := hid (show branT.txt (.mk k v []) = branT.pre k v from rfl)
  rw [TrIn_mk] at hx
  obtain ⟨a, n', c, rfl, _, _, rfl, hc, hc2, hks⟩ := hx
  clear hs hn hks
  simp only [List.length_nil] at hc ⊢
  rcases hk with ⟨rfl, rfl⟩ | ⟨rfl, rfl | rfl | rfl⟩
  all_goals
    go_enter Try.func61, Try.ntmps61
    go_wp2_with fail
    go_ret
    refine Ret.mk (str_val ?_) (below_alloc _ _)
    rw [E.out]; rfl

set_option maxHeartbeats 2000000 in
theorem tx_un (k : Int) (p : List UInt8) (hk : (k = 3 ∧ p = [33]) ∨ (k = 6 ∧ p = [69, 88]) ∨ (k = 8 ∧ p = [69, 71]) ∨ (k = 9 ∧ p = [65, 88]) ∨ (k = 11 ∧ p = [65, 71])) (t : Tr) (h : TxT t) : TxT (.mk k 0 [t]) := by
  intro n w x hs hn hx
  have hpre : branT.pre k 0 = p := by rcases hk with ⟨rfl, rfl⟩ | ⟨rfl, rfl⟩ | ⟨rfl, rfl⟩ | ⟨rfl, rfl⟩ | ⟨rfl, rfl⟩ <;> simp [branT]
  have E := hid (show branT.txt (.mk k 0 [t]) = p ++ branT.txt t by simp [TLang.txt, TLang.txts, nodeTxt, hpre])
  obtain ⟨m, rfl, _, _, _, _, _, hkids⟩ := branL.shape_mk hs
  rw [TrIn_mk] at hx
  obtain ⟨a, n', c, rfl, _, _, rfl, hc, hc2, hks⟩ := hx
  rw [TrsIn_cons] at hks
  obtain ⟨b, o, c0, c1, c2, rfl, _, g0, g1, g2, hT, _⟩ := hks
  have hb := blt g0
  have hkid := hid (hkids t (by simp))
  have hl := branT.txt_len t
  simp only [nodes, nodesL] at hn
  have hcn : nodes t ≤ 12 := by omega
  have hl2 : (bs (branT.txt t)).size ≤ 100 := by rw [bs_size]; omega
  clear hkids hs hpre hl hn
  simp only [List.length_cons, List.length_nil] at hc ⊢
  generalize hS : bs (branT.txt t) = S at *
  replace hS := hid hS
  rcases hk with ⟨rfl, rfl⟩ | ⟨rfl, rfl⟩ | ⟨rfl, rfl⟩ | ⟨rfl, rfl⟩ | ⟨rfl, rfl⟩
  all_goals
    go_enter Try.func61, Try.ntmps61
    go_wp2_with fail
    refine (h m _ _ hkid.out hcn (TrIn_below (by repeat (first | exact Below.refl _ _ | assumption | refine below_a ?_ _ | refine below_o ?_ _ | refine below_d ?_ | refine below_n ?_ _ | refine below_s ?_ (by first | (simp; done) | (simp; omega) | omega) _)) hT)).mono ?_
    rintro e w1 ⟨rfl, hb1⟩
    rw [hS.out]
    go_wp2_with fail
    go_ret
    refine Ret.mk (str_val ?_) (below_next (by repeat (first | exact Below.refl _ _ | assumption | refine below_a ?_ _ | refine below_o ?_ _ | refine below_d ?_ | refine below_n ?_ _ | refine below_s ?_ (by first | (simp; done) | (simp; omega) | omega) _)) hb1)
    rw [E.out, ← hS.out, ← bs_append]; rfl

set_option maxHeartbeats 4000000 in
theorem tx_two (k : Int) (p q : List UInt8) (hk : (k = 4 ∧ p = [40] ∧ q = [38]) ∨ (k = 5 ∧ p = [40] ∧ q = [124]) ∨ (k = 7 ∧ p = [69, 40] ∧ q = [85]) ∨ (k = 10 ∧ p = [65, 40] ∧ q = [85])) (t u : Tr) (h : TxT t) (h' : TxT u) : TxT (.mk k 0 [t, u]) := by
  intro n w x hs hn hx
  have hpre : branT.pre k 0 = p ∧ branT.mid k = q := by rcases hk with ⟨rfl, rfl, rfl⟩ | ⟨rfl, rfl, rfl⟩ | ⟨rfl, rfl, rfl⟩ | ⟨rfl, rfl, rfl⟩ <;> simp [branT]
  have E := hid (show bs (branT.txt (.mk k 0 [t, u])) = bs p ++ bs (branT.txt t) ++ bs q ++ bs (branT.txt u) ++ bs [41] by simp [TLang.txt, TLang.txts, nodeTxt, hpre, bs_append])
  obtain ⟨m, rfl, _, _, _, _, _, hkids⟩ := branL.shape_mk hs
  rw [TrIn_mk] at hx
  obtain ⟨a, n', c, rfl, _, _, rfl, hc, hc2, hks⟩ := hx
  rw [TrsIn_cons] at hks
  obtain ⟨b, o, c0, c1, c2, rfl, _, g0, g1, g2, hT, hks⟩ := hks
  rw [TrsIn_cons] at hks
  obtain ⟨b', o', d0, d1, d2, hbo, _, f0, f1, f2, hU, _⟩ := hks
  simp only [Option.some.injEq, Addr.mk.injEq, and_true] at hbo
  obtain ⟨rfl, rfl⟩ := hbo
  have hb := blt g0
  have hkid := hid (hkids t (by simp))
  have hkid' := hid (hkids u (by simp))
  have hl := branT.txt_len t
  have hl' := branT.txt_len u
  simp only [nodes, nodesL] at hn
  have hp := nodes_pos t
  have hp' := nodes_pos u
  have hcn : nodes t ≤ 12 := by omega
  have hcn' : nodes u ≤ 12 := by omega
  have hl2 : (bs (branT.txt t)).size ≤ 100 := by rw [bs_size]; omega
  have hl2' : (bs (branT.txt u)).size ≤ 100 := by rw [bs_size]; omega
  clear hkids hs hpre hl hl' hn hp hp'
  simp only [List.length_cons, List.length_nil] at hc ⊢
  have H := hid (fun w x (hx : TrIn Any w t x) => h m w x hkid.out hcn hx)
  have H' := hid (fun w x (hx : TrIn Any w u x) => h' m w x hkid'.out hcn' hx)
  generalize bs (branT.txt t) = S at *
  generalize bs (branT.txt u) = S' at *
  rcases hk with ⟨rfl, rfl, rfl⟩ | ⟨rfl, rfl, rfl⟩ | ⟨rfl, rfl, rfl⟩ | ⟨rfl, rfl, rfl⟩
  all_goals
    go_enter Try.func61, Try.ntmps61
    go_wp2_with fail
    refine wp_gen (fun W => Below w.heap.size w W ∧ Box3 W w.heap.size _ (.int .i64 0) (.slice (some ⟨b, o, none⟩) 2 c)) ⟨(by repeat (first | exact Below.refl _ _ | assumption | refine below_a ?_ _ | refine below_o ?_ _ | refine below_d ?_ | refine below_n ?_ _ | refine below_s ?_ (by first | (simp; done) | (simp; omega) | omega) _)), box3_next (below_alloc _ _) (box3_new ..)⟩ ?_
    rintro W ⟨B, b3⟩
    obtain ⟨k0, k1, k2⟩ := cells_next B hb g0 g1 g2
    obtain ⟨j0, j1, j2⟩ := cells_next B hb f0 f1 f2
    have hbW : b < W.heap.size := Nat.lt_of_lt_of_le hb B.size
    refine wp_region_over (by kernel_rfl) (by kernel_rfl) ?_; (repeat (go_big_quiet_step ((go_at_call 61; first | with_reducible exact Calls.over (H.out _ _ (TrIn_over (TrIn_below B hT) _)) | with_reducible exact Calls.over (H'.out _ _ (TrIn_over (TrIn_below B hU) _)))))); refine wpQuiet_nil ?_; rintro _ ⟨xq, rfl⟩
    go_wp2_with fail
    go_ret
    refine Ret.mk (str_val ?_) (below_next B (over_below W xq))
    rw [E.out]; rfl

theorem tx_any : ∀ t, TxT t := Tr.ind fun k v kids ih => by
  intro n w x hs
  obtain ⟨m, h1, h2, h3, h4, h5, h6, h7⟩ := branL.shape_mk hs
  rw [branL_K] at h3
  rw [branL_most] at h5
  rw [branL_ar] at h6
  by_cases k0 : k = 1 ∨ k = 2
  · obtain rfl := len0 (by rw [h6, if_pos k0])
    refine tx_leaf k v ?_ n w x hs
    by_cases k2 : k = 2
    · rw [if_pos k2] at h5; right; exact ⟨k2, by omega⟩
    · rw [if_neg k2] at h5; left; omega
  rw [if_neg (by omega)] at h5
  obtain rfl : v = 0 := by omega
  by_cases k2 : k = 4 ∨ k = 5 ∨ k = 7 ∨ k = 10
  · obtain ⟨a, b, rfl⟩ := len2 (by rw [h6, if_neg k0, if_pos k2])
    rcases k2 with rfl | rfl | rfl | rfl
    · exact tx_two 4 _ _ (.inl ⟨rfl, rfl, rfl⟩) a b (ih a (by simp)) (ih b (by simp)) n w x hs
    · exact tx_two 5 _ _ (.inr (.inl ⟨rfl, rfl, rfl⟩)) a b (ih a (by simp)) (ih b (by simp)) n w x hs
    · exact tx_two 7 _ _ (.inr (.inr (.inl ⟨rfl, rfl, rfl⟩))) a b (ih a (by simp)) (ih b (by simp)) n w x hs
    · exact tx_two 10 _ _ (.inr (.inr (.inr ⟨rfl, rfl, rfl⟩))) a b (ih a (by simp)) (ih b (by simp)) n w x hs
  · obtain ⟨a, rfl⟩ := len1 (by rw [h6, if_neg k0, if_neg k2])
    have hk : k = 3 ∨ k = 6 ∨ k = 8 ∨ k = 9 ∨ k = 11 := by omega
    rcases hk with rfl | rfl | rfl | rfl | rfl
    · exact tx_un 3 _ (.inl ⟨rfl, rfl⟩) a (ih a (by simp)) n w x hs
    · exact tx_un 6 _ (.inr (.inl ⟨rfl, rfl⟩)) a (ih a (by simp)) n w x hs
    · exact tx_un 8 _ (.inr (.inr (.inl ⟨rfl, rfl⟩))) a (ih a (by simp)) n w x hs
    · exact tx_un 9 _ (.inr (.inr (.inr (.inl ⟨rfl, rfl⟩)))) a (ih a (by simp)) n w x hs
    · exact tx_un 11 _ (.inr (.inr (.inr (.inr ⟨rfl, rfl⟩)))) a (ih a (by simp)) n w x hs

end Branching
end Go.Proofs.Ythjhokifonjeaaa
