/- What the reference's l1Format returns, for every valid expression. Conditions: those of each contract. -/
import Derived.Test.YtplmjliaochepaaDoorRows
import Derived.Test.YtplmjliaochepaaDoorTxtPlain
import Derived.Test.YtplmjliaochepaaDoorMore
import Derived.WalkSpells
import Derived.WalkLawsBesides
import Derived.Laws.Concat
import Derived.Laws.IdiomStrings
namespace Go.Proofs.YtplmjliaochepaaDoor
open Go.RowKit
namespace Expr

/-- the sign of a kind that has operands -/
def SignOf (k : Int) (s : ByteArray) : Prop := (k = 4 ∧ s = ⟨#[38]⟩) ∨ (k = 5 ∧ s = ⟨#[124]⟩) ∨ (k = 6 ∧ s = ⟨#[61]⟩) ∨ (k = 7 ∧ s = ⟨#[60]⟩) ∨ (k = 8 ∧ s = ⟨#[43]⟩) ∨ (k = 9 ∧ s = ⟨#[45]⟩)

theorem sign_any (k : Int) (s : ByteArray) (hk : SignOf k s) (w : World) : Calls Tryd.prog 29 #[.int .i64 k] w (Ret (.string s) w) := by
  rcases hk with ⟨rfl, rfl⟩ | ⟨rfl, rfl⟩ | ⟨rfl, rfl⟩ | ⟨rfl, rfl⟩ | ⟨rfl, rfl⟩ | ⟨rfl, rfl⟩
  all_goals
    go_enter Tryd.func29, Tryd.ntmps29
    go_wp2_with fail
    go_ret
    exact Ret.mk (str_val rfl) (Below.refl _ _)

def FmT (t : Tr) : Prop := ∀ (n : Nat) (w : World) (x : Value), exprL.shape t n = true → nodes t ≤ 15 → TrIn Any w t x → Calls Tryd.prog 16 #[x] w (Ret (.string (bs (exprT.txt t))) w)

/-- the digit of a small number -/
def DecOf (v : Int) (s : ByteArray) : Prop := (v = 0 ∧ s = ⟨#[48]⟩) ∨ (v = 1 ∧ s = ⟨#[49]⟩) ∨ (v = 2 ∧ s = ⟨#[50]⟩) ∨ (v = 3 ∧ s = ⟨#[51]⟩)
theorem conv_digit (w : World) (n : Int) (q : UInt8) (h : (q.toNat : Int) = n) : (convert 22 9 (.slice (some ⟨w.heap.size, 0, none⟩) 1 1)).run Tryd.prog (w.alloc (.cells #[.int .u8 n] 5)) = .ok (.string ⟨#[q]⟩) (w.alloc (.cells #[.int .u8 n] 5)) := by
  subst h
  exact run_convert_bytes_back (P := Tryd.prog) _ 22 9 5 ⟨w.heap.size, 0, none⟩ 1 [q] Tryd.underlying22 Tryd.underlying5 Tryd.underlying9 (fun j hj => by
    obtain rfl : j = 0 := by simpa using hj
    simp [Addr.add])
set_option maxHeartbeats 1000000 in
theorem dec_any (v : Int) (s : ByteArray) (hv : DecOf v s) (w : World) : Calls Tryd.prog 28 #[.int .i64 v] w (Ret (.string s) w) := by
  have k0 := fun (w : World) => conv_digit w 48 48 rfl
  have k1 := fun (w : World) => conv_digit w 49 49 rfl
  have k2 := fun (w : World) => conv_digit w 50 50 rfl
  have k3 := fun (w : World) => conv_digit w 51 51 rfl
  rcases hv with ⟨rfl, rfl⟩ | ⟨rfl, rfl⟩ | ⟨rfl, rfl⟩ | ⟨rfl, rfl⟩
  all_goals
    go_enter Tryd.func28, Tryd.ntmps28
    go_wp2_with fail
    go_loopw [0, 3] (fun u o wr => u = .int .i64 _ ∧ o = .string ⟨#[]⟩ ∧ Below w.heap.size w wr) (fun _ _ _ => 0)
    case atStart => exact ⟨rfl, rfl, Below.refl _ _⟩
    case round =>
      obtain ⟨rfl, rfl, hb⟩ := hrel
      go_wp2_with fail
      go_ret
      exact Ret.mk (str_val rfl) (by repeat (first | exact Below.refl _ _ | assumption | refine below_a ?_ _ | refine below_o ?_ _ | refine below_d ?_ | refine below_n ?_ _ | refine below_s ?_ (by first | (simp; done) | (simp; omega) | omega) _))

theorem fm_const (v : Int) (s : ByteArray) (hv : DecOf v s) : FmT (.mk 1 v []) := by
  intro n w x hs hn hx
  have E := hid (show bs (exprT.txt (.mk 1 v [])) = s by rcases hv with ⟨rfl, rfl⟩ | ⟨rfl, rfl⟩ | ⟨rfl, rfl⟩ | ⟨rfl, rfl⟩ <;> rfl)
  rw [TrIn_mk] at hx
  obtain ⟨a, n', c, rfl, _, _, rfl, hc, hc2, hks⟩ := hx
  clear hs hn hks
  simp only [List.length_nil] at hc ⊢
  go_enter Tryd.func16, Tryd.ntmps16
  go_wp2_with fail
  refine (dec_any v s hv _).mono ?_
  rintro e w1 ⟨rfl, hb1⟩
  go_wp2_with fail
  go_ret
  refine Ret.mk (str_val ?_) (below_next (below_alloc _ _) hb1)
  rw [E.out]

set_option maxHeartbeats 1000000 in
theorem fm_var (v : Int) (hk : v = 0 ∨ v = 1 ∨ v = 2) : FmT (.mk 2 v []) := by
  intro n w x hs hn hx
  have E := hid (show exprT.txt (.mk 2 v []) = exprT.pre 2 v from rfl)
  rw [TrIn_mk] at hx
  obtain ⟨a, n', c, rfl, _, _, rfl, hc, hc2, hks⟩ := hx
  clear hs hn hks
  simp only [List.length_nil] at hc ⊢
  rcases hk with rfl | rfl | rfl
  all_goals
    go_enter Tryd.func16, Tryd.ntmps16
    go_wp2_with fail
    go_ret
    refine Ret.mk (str_val ?_) (below_alloc _ _)
    rw [E.out]; rfl

set_option maxHeartbeats 1000000 in
theorem fm_un (t : Tr) (h : FmT t) : FmT (.mk 3 0 [t]) := by
  intro n w x hs hn hx
  have E := hid (show bs (exprT.txt (.mk 3 0 [t])) = bs [33] ++ bs (exprT.txt t) by rw [bs_append]; rfl)
  obtain ⟨m, rfl, _, _, _, _, _, hkids⟩ := exprL.shape_mk hs
  rw [TrIn_mk] at hx
  obtain ⟨a, n', c, rfl, _, _, rfl, hc, hc2, hks⟩ := hx
  rw [TrsIn_cons] at hks
  obtain ⟨b, o, c0, c1, c2, rfl, _, g0, g1, g2, hT, _⟩ := hks
  have hb := blt g0
  have hkid := hid (hkids t (by simp))
  have hl := exprT.txt_len t
  simp only [nodes, nodesL] at hn
  have hcn : nodes t ≤ 15 := by omega
  have hl2 : (bs (exprT.txt t)).size ≤ 100 := by rw [bs_size]; omega
  clear hkids hs hl hn
  simp only [List.length_cons, List.length_nil] at hc ⊢
  have H := hid (fun w x (hx : TrIn Any w t x) => h m w x hkid.out hcn hx)
  generalize bs (exprT.txt t) = S at *
  go_enter Tryd.func16, Tryd.ntmps16
  go_wp2_with fail
  refine (H.out _ _ (TrIn_alloc hT _)).mono ?_
  rintro e w1 ⟨rfl, hb1⟩
  go_wp2_with fail
  go_ret
  refine Ret.mk (str_val ?_) (below_next (below_alloc _ _) hb1)
  rw [E.out]; rfl

set_option maxHeartbeats 4000000 in
theorem fm_two (k : Int) (s : ByteArray) (hk : SignOf k s) (t u : Tr) (h : FmT t) (h' : FmT u) : FmT (.mk k 0 [t, u]) := by
  intro n w x hs hn hx
  have hpre : bs (exprT.pre k 0) = bs [40] ∧ bs (exprT.mid k) = s := by rcases hk with ⟨rfl, rfl⟩ | ⟨rfl, rfl⟩ | ⟨rfl, rfl⟩ | ⟨rfl, rfl⟩ | ⟨rfl, rfl⟩ | ⟨rfl, rfl⟩ <;> exact ⟨rfl, rfl⟩
  have hsg := hk
  have E := hid (show bs (exprT.txt (.mk k 0 [t, u])) = bs [40] ++ bs (exprT.txt t) ++ s ++ bs (exprT.txt u) ++ bs [41] by simp only [TLang.txt, TLang.txts, nodeTxt, ← bs_append, hpre]; simp only [ByteArray.append_assoc])
  obtain ⟨m, rfl, _, _, _, _, _, hkids⟩ := exprL.shape_mk hs
  rw [TrIn_mk] at hx
  obtain ⟨a, n', c, rfl, _, _, rfl, hc, hc2, hks⟩ := hx
  rw [TrsIn_cons] at hks
  obtain ⟨b, o, c0, c1, c2, rfl, _, g0, g1, g2, hT, hks⟩ := hks
  rw [TrsIn_cons] at hks
  obtain ⟨b', o', d0, d1, d2, hbo, _, f0, f1, f2, hU, _⟩ := hks
  simp only [Option.some.injEq, Addr.mk.injEq, and_true] at hbo
  obtain ⟨rfl, rfl⟩ := hbo
  have hb := blt g0
  have hkid := hid (hkids t (by simp))
  have hkid' := hid (hkids u (by simp))
  have hl := exprT.txt_len t
  have hl' := exprT.txt_len u
  simp only [nodes, nodesL] at hn
  have hp := nodes_pos t
  have hp' := nodes_pos u
  have hcn : nodes t ≤ 15 := by omega
  have hcn' : nodes u ≤ 15 := by omega
  have hl2 : (bs (exprT.txt t)).size ≤ 100 := by rw [bs_size]; omega
  have hl2' : (bs (exprT.txt u)).size ≤ 100 := by rw [bs_size]; omega
  clear hkids hs hpre hl hl' hn hp hp'
  simp only [List.length_cons, List.length_nil] at hc ⊢
  have H := hid (fun w x (hx : TrIn Any w t x) => h m w x hkid.out hcn hx)
  have H' := hid (fun w x (hx : TrIn Any w u x) => h' m w x hkid'.out hcn' hx)
  have HS := hid (fun w => sign_any k s hsg w)
  clear hsg
  generalize bs (exprT.txt t) = S at *
  generalize bs (exprT.txt u) = S' at *
  rcases hk with ⟨rfl, rfl⟩ | ⟨rfl, rfl⟩ | ⟨rfl, rfl⟩ | ⟨rfl, rfl⟩ | ⟨rfl, rfl⟩ | ⟨rfl, rfl⟩
  all_goals
    go_enter Tryd.func16, Tryd.ntmps16
    go_wp2_with fail
    refine wp_gen (fun W => Below w.heap.size w W ∧ Box3 W w.heap.size _ (.int .i64 0) (.slice (some ⟨b, o, none⟩) 2 c)) ⟨below_alloc _ _, box3_new ..⟩ ?_
    rintro W ⟨B, b3⟩
    obtain ⟨k0, k1, k2⟩ := cells_next B hb g0 g1 g2
    obtain ⟨j0, j1, j2⟩ := cells_next B hb f0 f1 f2
    have hbW : b < W.heap.size := Nat.lt_of_lt_of_le hb B.size
    refine wp_region_over (by kernel_rfl) (by kernel_rfl) ?_; (repeat (go_big_quiet_step ((first | (go_at_call 29; with_reducible exact Calls.over (HS.out _)) | (go_at_call 16; first | with_reducible exact Calls.over (H.out _ _ (TrIn_over (TrIn_below B hT) _)) | with_reducible exact Calls.over (H'.out _ _ (TrIn_over (TrIn_below B hU) _))))))); refine wpQuiet_nil ?_; rintro _ ⟨xq, rfl⟩
    go_wp2_with fail
    go_ret
    refine Ret.mk (str_val ?_) (below_next B (over_below W xq))
    rw [E.out]; rfl

theorem expr_cases {M : Tr → Prop} (cst : ∀ v s, DecOf v s → M (.mk 1 v [])) (var : ∀ v, (v = 0 ∨ v = 1 ∨ v = 2) → M (.mk 2 v []))
    (un : ∀ t, M t → M (.mk 3 0 [t])) (two : ∀ k s, SignOf k s → ∀ t u, M t → M u → M (.mk k 0 [t, u]))
    (bad : ∀ t, (∀ n : Nat, exprL.shape t n = false) → M t) : ∀ t, M t := Tr.ind fun k v kids ih => by
  by_cases hs : ∃ n : Nat, exprL.shape (.mk k v kids) n = true
  · obtain ⟨n, hs⟩ := hs
    obtain ⟨m, h1, h2, h3, h4, h5, h6, h7⟩ := exprL.shape_mk hs
    rw [exprL_K] at h3
    rw [exprL_most] at h5
    rw [exprL_ar] at h6
    have hk : k = 1 ∨ k = 2 ∨ k = 3 ∨ k = 4 ∨ k = 5 ∨ k = 6 ∨ k = 7 ∨ k = 8 ∨ k = 9 := by omega
    rcases hk with rfl | rfl | rfl | hk
    · obtain rfl := len0 (by simpa using h6)
      simp at h5
      have hv : v = 0 ∨ v = 1 ∨ v = 2 ∨ v = 3 := by omega
      rcases hv with rfl | rfl | rfl | rfl
      · exact cst 0 _ (.inl ⟨rfl, rfl⟩)
      · exact cst 1 _ (.inr (.inl ⟨rfl, rfl⟩))
      · exact cst 2 _ (.inr (.inr (.inl ⟨rfl, rfl⟩)))
      · exact cst 3 _ (.inr (.inr (.inr ⟨rfl, rfl⟩)))
    · obtain rfl := len0 (by simpa using h6)
      simp at h5
      exact var v (by omega)
    · obtain ⟨a, rfl⟩ := len1 (by simpa using h6)
      obtain rfl : v = 0 := by simp at h5; omega
      exact un a (ih a (by simp))
    · have hv : v = 0 := by rcases hk with rfl | rfl | rfl | rfl | rfl | rfl <;> simp at h5 <;> omega
      subst hv
      obtain ⟨a, b, rfl⟩ := len2 (by rcases hk with rfl | rfl | rfl | rfl | rfl | rfl <;> simpa using h6)
      have hx : ∃ s, SignOf k s := by
        unfold SignOf
        rcases hk with rfl | rfl | rfl | rfl | rfl | rfl <;> simp
      obtain ⟨s, hx⟩ := hx
      exact two k s hx a b (ih a (by simp)) (ih b (by simp))
  · refine bad _ fun n => ?_
    cases hq : exprL.shape (.mk k v kids) n
    · rfl
    · exact absurd ⟨n, hq⟩ hs

theorem fm_any : ∀ t, FmT t := expr_cases fm_const fm_var fm_un fm_two (fun t h n w x hs => by rw [h n] at hs; cases hs)

end Expr
end Go.Proofs.YtplmjliaochepaaDoor
