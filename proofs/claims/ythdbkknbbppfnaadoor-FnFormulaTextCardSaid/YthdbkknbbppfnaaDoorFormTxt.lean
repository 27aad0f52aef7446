/- What the reference's l5Format returns, for every valid formula. Conditions: those of each contract. -/
import Derived.Test.YthdbkknbbppfnaaDoorRows
import Derived.Test.YthdbkknbbppfnaaDoorTxtPlain
import Derived.Test.YthdbkknbbppfnaaDoorMore
import Derived.WalkSpells
import Derived.WalkLawsBesides
import Derived.Laws.Concat
namespace Go.Proofs.YthdbkknbbppfnaaDoor
open Go.RowKit
namespace Formula

/-- the sign of a kind that has operands -/
def SignOf (k : Int) (s : ByteArray) : Prop := (k = 3 ∧ s = ⟨#[33]⟩) ∨ (k = 4 ∧ s = ⟨#[38]⟩) ∨ (k = 5 ∧ s = ⟨#[124]⟩) ∨ (k = 6 ∧ s = ⟨#[88]⟩) ∨ (k = 7 ∧ s = ⟨#[85]⟩) ∨ (k = 8 ∧ s = ⟨#[82]⟩) ∨ (k = 9 ∧ s = ⟨#[70]⟩) ∨ (k = 10 ∧ s = ⟨#[71]⟩)

theorem sign_any (k : Int) (s : ByteArray) (hk : SignOf k s) (w : World) : Calls Tryd.prog 28 #[.int .i64 k] w (Ret (.string s) w) := by
  rcases hk with ⟨rfl, rfl⟩ | ⟨rfl, rfl⟩ | ⟨rfl, rfl⟩ | ⟨rfl, rfl⟩ | ⟨rfl, rfl⟩ | ⟨rfl, rfl⟩ | ⟨rfl, rfl⟩ | ⟨rfl, rfl⟩
  all_goals
    go_enter Tryd.func28, Tryd.ntmps28
    go_wp2_with fail
    go_ret
    exact Ret.mk (str_val rfl) (Below.refl _ _)

def FmT (t : Tr) : Prop := ∀ (n : Nat) (w : World) (x : Value), formL.shape t n = true → nodes t ≤ 12 → TrIn Any w t x → Calls Tryd.prog 16 #[x] w (Ret (.string (bs (formT.txt t))) w)

set_option maxHeartbeats 2000000 in
theorem fm_un (k : Int) (s : ByteArray) (hk : (k = 3 ∧ s = ⟨#[33]⟩) ∨ (k = 6 ∧ s = ⟨#[88]⟩) ∨ (k = 9 ∧ s = ⟨#[70]⟩) ∨ (k = 10 ∧ s = ⟨#[71]⟩)) (t : Tr) (h : FmT t) : FmT (.mk k 0 [t]) := by
  intro n w x hs hn hx
  have hpre : bs (formT.pre k 0) = s := by rcases hk with ⟨rfl, rfl⟩ | ⟨rfl, rfl⟩ | ⟨rfl, rfl⟩ | ⟨rfl, rfl⟩ <;> rfl
  have hsg : SignOf k s := by unfold SignOf; rcases hk with ⟨rfl, rfl⟩ | ⟨rfl, rfl⟩ | ⟨rfl, rfl⟩ | ⟨rfl, rfl⟩ <;> simp
  have E := hid (show bs (formT.txt (.mk k 0 [t])) = s ++ bs (formT.txt t) by simp [TLang.txt, TLang.txts, nodeTxt, ← bs_append, hpre])
  obtain ⟨m, rfl, _, _, _, _, _, hkids⟩ := formL.shape_mk hs
  rw [TrIn_mk] at hx
  obtain ⟨a, n', c, rfl, _, _, rfl, hc, hc2, hks⟩ := hx
  rw [TrsIn_cons] at hks
  obtain ⟨b, o, c0, c1, c2, rfl, _, g0, g1, g2, hT, _⟩ := hks
  have hb := blt g0
  have hkid := hid (hkids t (by simp))
  have hl := formT.txt_len t
  simp only [nodes, nodesL] at hn
  have hcn : nodes t ≤ 12 := by omega
  have hl2 : (bs (formT.txt t)).size ≤ 100 := by rw [bs_size]; omega
  clear hkids hs hpre hl hn
  simp only [List.length_cons, List.length_nil] at hc ⊢
  have H := hid (fun w x (hx : TrIn Any w t x) => h m w x hkid.out hcn hx)
  have HS := hid (fun w => sign_any k s hsg w)
  clear hsg
  generalize bs (formT.txt t) = S at *
  rcases hk with ⟨rfl, rfl⟩ | ⟨rfl, rfl⟩ | ⟨rfl, rfl⟩ | ⟨rfl, rfl⟩
  all_goals
    go_enter Tryd.func16, Tryd.ntmps16
    go_wp2_with fail
    refine wp_gen (fun W => Below w.heap.size w W ∧ Box3 W w.heap.size _ (.int .i64 0) (.slice (some ⟨b, o, none⟩) 1 c)) ⟨below_alloc _ _, box3_new ..⟩ ?_
    rintro W ⟨B, b3⟩
    obtain ⟨k0, k1, k2⟩ := cells_next B hb g0 g1 g2
    have hbW : b < W.heap.size := Nat.lt_of_lt_of_le hb B.size
    refine wp_region_over (by kernel_rfl) (by kernel_rfl) ?_; (repeat (go_big_quiet_step ((first | (go_at_call 28; with_reducible exact Calls.over (HS.out _)) | (go_at_call 16; with_reducible exact Calls.over (H.out _ _ (TrIn_over (TrIn_below B hT) _))))))); refine wpQuiet_nil ?_; rintro _ ⟨xq, rfl⟩
    go_wp2_with fail
    go_ret
    refine Ret.mk (str_val ?_) (below_next B (over_below W xq))
    rw [E.out]

set_option maxHeartbeats 4000000 in
theorem fm_two (k : Int) (s : ByteArray) (hk : (k = 4 ∧ s = ⟨#[38]⟩) ∨ (k = 5 ∧ s = ⟨#[124]⟩) ∨ (k = 7 ∧ s = ⟨#[85]⟩) ∨ (k = 8 ∧ s = ⟨#[82]⟩)) (t u : Tr) (h : FmT t) (h' : FmT u) : FmT (.mk k 0 [t, u]) := by
  intro n w x hs hn hx
  have hpre : bs (formT.pre k 0) = bs [40] ∧ bs (formT.mid k) = s := by rcases hk with ⟨rfl, rfl⟩ | ⟨rfl, rfl⟩ | ⟨rfl, rfl⟩ | ⟨rfl, rfl⟩ <;> exact ⟨rfl, rfl⟩
  have hsg : SignOf k s := by unfold SignOf; rcases hk with ⟨rfl, rfl⟩ | ⟨rfl, rfl⟩ | ⟨rfl, rfl⟩ | ⟨rfl, rfl⟩ <;> simp
  have E := hid (show bs (formT.txt (.mk k 0 [t, u])) = bs [40] ++ bs (formT.txt t) ++ s ++ bs (formT.txt u) ++ bs [41] by simp only [TLang.txt, TLang.txts, nodeTxt, ← bs_append, hpre]; simp only [ByteArray.append_assoc])
  obtain ⟨m, rfl, _, _, _, _, _, hkids⟩ := formL.shape_mk hs
  rw [TrIn_mk] at hx
  obtain ⟨a, n', c, rfl, _, _, rfl, hc, hc2, hks⟩ := hx
  rw [TrsIn_cons] at hks
  obtain ⟨b, o, c0, c1, c2, rfl, _, g0, g1, g2, hT, hks⟩ := hks
  rw [TrsIn_cons] at hks
  obtain ⟨b', o', d0, d1, d2, hbo, _, f0, f1, f2, hU, _⟩ := hks
  simp only [Option.some.injEq, Addr.mk.injEq, and_true] at hbo
  obtain ⟨rfl, rfl⟩ := hbo
  have hb := blt g0
  have hkid := hid (hkids t (by simp))
  have hkid' := hid (hkids u (by simp))
  have hl := formT.txt_len t
  have hl' := formT.txt_len u
  simp only [nodes, nodesL] at hn
  have hp := nodes_pos t
  have hp' := nodes_pos u
  have hcn : nodes t ≤ 12 := by omega
  have hcn' : nodes u ≤ 12 := by omega
  have hl2 : (bs (formT.txt t)).size ≤ 100 := by rw [bs_size]; omega
  have hl2' : (bs (formT.txt u)).size ≤ 100 := by rw [bs_size]; omega
  clear hkids hs hpre hl hl' hn hp hp'
  simp only [List.length_cons, List.length_nil] at hc ⊢
  have H := hid (fun w x (hx : TrIn Any w t x) => h m w x hkid.out hcn hx)
  have H' := hid (fun w x (hx : TrIn Any w u x) => h' m w x hkid'.out hcn' hx)
  have HS := hid (fun w => sign_any k s hsg w)
  clear hsg
  generalize bs (formT.txt t) = S at *
  generalize bs (formT.txt u) = S' at *
  rcases hk with ⟨rfl, rfl⟩ | ⟨rfl, rfl⟩ | ⟨rfl, rfl⟩ | ⟨rfl, rfl⟩
  all_goals
    go_enter Tryd.func16, Tryd.ntmps16
    go_wp2_with fail
    refine wp_gen (fun W => Below w.heap.size w W ∧ Box3 W w.heap.size _ (.int .i64 0) (.slice (some ⟨b, o, none⟩) 2 c)) ⟨below_alloc _ _, box3_new ..⟩ ?_
    rintro W ⟨B, b3⟩
    obtain ⟨k0, k1, k2⟩ := cells_next B hb g0 g1 g2
    obtain ⟨j0, j1, j2⟩ := cells_next B hb f0 f1 f2
    have hbW : b < W.heap.size := Nat.lt_of_lt_of_le hb B.size
    refine wp_region_over (by kernel_rfl) (by kernel_rfl) ?_; (repeat (go_big_quiet_step ((first | (go_at_call 28; with_reducible exact Calls.over (HS.out _)) | (go_at_call 16; first | with_reducible exact Calls.over (H.out _ _ (TrIn_over (TrIn_below B hT) _)) | with_reducible exact Calls.over (H'.out _ _ (TrIn_over (TrIn_below B hU) _))))))); refine wpQuiet_nil ?_; rintro _ ⟨xq, rfl⟩
    go_wp2_with fail
    go_ret
    refine Ret.mk (str_val ?_) (below_next B (over_below W xq))
    rw [E.out]; rfl

set_option maxHeartbeats 1000000 in
theorem fm_leaf (k v : Int) (hk : (k = 1 ∧ v = 0) ∨ (k = 2 ∧ (v = 0 ∨ v = 1 ∨ v = 2))) : FmT (.mk k v []) := by
  intro n w x hs hn hx
  have E := hid (show formT.txt (.mk k v []) = formT.pre k v from rfl)
  rw [TrIn_mk] at hx
  obtain ⟨a, n', c, rfl, _, _, rfl, hc, hc2, hks⟩ := hx
  clear hs hn hks
  simp only [List.length_nil] at hc ⊢
  rcases hk with ⟨rfl, rfl⟩ | ⟨rfl, rfl | rfl | rfl⟩
  all_goals
    go_enter Tryd.func16, Tryd.ntmps16
    go_wp2_with fail
    go_ret
    refine Ret.mk (str_val ?_) (below_alloc _ _)
    rw [E.out]; rfl

theorem form_cases {M : Tr → Prop} (leaf : ∀ k v, ((k = 1 ∧ v = 0) ∨ (k = 2 ∧ (v = 0 ∨ v = 1 ∨ v = 2))) → M (.mk k v []))
    (un : ∀ k s, ((k = 3 ∧ s = (⟨#[33]⟩ : ByteArray)) ∨ (k = 6 ∧ s = ⟨#[88]⟩) ∨ (k = 9 ∧ s = ⟨#[70]⟩) ∨ (k = 10 ∧ s = ⟨#[71]⟩)) → ∀ t, M t → M (.mk k 0 [t]))
    (two : ∀ k s, ((k = 4 ∧ s = (⟨#[38]⟩ : ByteArray)) ∨ (k = 5 ∧ s = ⟨#[124]⟩) ∨ (k = 7 ∧ s = ⟨#[85]⟩) ∨ (k = 8 ∧ s = ⟨#[82]⟩)) → ∀ t u, M t → M u → M (.mk k 0 [t, u]))
    (bad : ∀ t, (∀ n : Nat, formL.shape t n = false) → M t) : ∀ t, M t := Tr.ind fun k v kids ih => by
  by_cases hs : ∃ n : Nat, formL.shape (.mk k v kids) n = true
  · obtain ⟨n, hs⟩ := hs
    obtain ⟨m, h1, h2, h3, h4, h5, h6, h7⟩ := formL.shape_mk hs
    rw [formL_K] at h3
    rw [formL_most] at h5
    rw [formL_ar] at h6
    by_cases k0 : k = 1 ∨ k = 2
    · obtain rfl := len0 (by rw [h6, if_pos k0])
      refine leaf k v ?_
      by_cases k2 : k = 2
      · rw [if_pos k2] at h5; right; exact ⟨k2, by omega⟩
      · rw [if_neg k2] at h5; left; omega
    rw [if_neg (by omega)] at h5
    obtain rfl : v = 0 := by omega
    by_cases k2 : k = 4 ∨ k = 5 ∨ k = 7 ∨ k = 8
    · obtain ⟨a, b, rfl⟩ := len2 (by rw [h6, if_neg k0]; first | rw [if_pos k2] | (repeat (first | rw [if_pos (by omega)] | rw [if_neg (by omega)])))
      rcases k2 with rfl | rfl | rfl | rfl
      · exact two 4 _ (.inl ⟨rfl, rfl⟩) a b (ih a (by simp)) (ih b (by simp))
      · exact two 5 _ (.inr (.inl ⟨rfl, rfl⟩)) a b (ih a (by simp)) (ih b (by simp))
      · exact two 7 _ (.inr (.inr (.inl ⟨rfl, rfl⟩))) a b (ih a (by simp)) (ih b (by simp))
      · exact two 8 _ (.inr (.inr (.inr ⟨rfl, rfl⟩))) a b (ih a (by simp)) (ih b (by simp))
    · obtain ⟨a, rfl⟩ := len1 (by rw [h6, if_neg k0]; first | rw [if_neg k2] | (repeat (first | rw [if_pos (by omega)] | rw [if_neg (by omega)])))
      have hk : k = 3 ∨ k = 6 ∨ k = 9 ∨ k = 10 := by omega
      rcases hk with rfl | rfl | rfl | rfl
      · exact un 3 _ (.inl ⟨rfl, rfl⟩) a (ih a (by simp))
      · exact un 6 _ (.inr (.inl ⟨rfl, rfl⟩)) a (ih a (by simp))
      · exact un 9 _ (.inr (.inr (.inl ⟨rfl, rfl⟩))) a (ih a (by simp))
      · exact un 10 _ (.inr (.inr (.inr ⟨rfl, rfl⟩))) a (ih a (by simp))
  · refine bad _ fun n => ?_
    cases hq : formL.shape (.mk k v kids) n
    · rfl
    · exact absurd ⟨n, hq⟩ hs

theorem fm_any : ∀ t, FmT t := form_cases fm_leaf fm_un fm_two (fun t h n w x hs => by rw [h n] at hs; cases hs)

end Formula
end Go.Proofs.YthdbkknbbppfnaaDoor
