/- What the program's text returns, for every valid expression, where its table of signs lies as it was laid. Conditions: those of each contract. -/
import Derived.Test.YtplmjliaochepaaDoorExprTxt
namespace Go.Proofs.YtplmjliaochepaaDoor
open Go.RowKit
namespace Expr

/-- what the table of signs holds, where it is read -/
def TabAt (i : Nat) (s : ByteArray) : Prop := (i = 4 ∧ s = ⟨#[38]⟩) ∨ (i = 5 ∧ s = ⟨#[124]⟩) ∨ (i = 6 ∧ s = ⟨#[61]⟩) ∨ (i = 7 ∧ s = ⟨#[60]⟩) ∨ (i = 8 ∧ s = ⟨#[43]⟩) ∨ (i = 9 ∧ s = ⟨#[45]⟩)
/-- THE TABLE IN MEMORY -/
def Sg (w : World) : Prop := ∃ b o c, w.cell? ⟨0, 0, none⟩ = some (.slice (some ⟨b, o, none⟩) 10 c) ∧ ∀ i s, TabAt i s → w.cell? ⟨b, o + i, none⟩ = some (.string s)
theorem Sg_below {w W : World} (B : Below w.heap.size w W) (h : Sg w) : Sg W := by
  obtain ⟨b, o, c, h1, h2⟩ := h
  exact ⟨b, o, c, (B.cell (p := ⟨0, 0, none⟩) (blt h1)).trans h1, fun i s hi => (B.cell (p := ⟨b, o + i, none⟩) (blt (h2 i s hi))).trans (h2 i s hi)⟩
theorem Sg_over {w : World} (h : Sg w) (y : Over w) : Sg (w.over y) := Sg_below (over_below _ _) h

def TxT (t : Tr) : Prop := ∀ (n : Nat) (w : World) (x : Value), exprL.shape t n = true → nodes t ≤ 15 → TrIn Any w t x → Sg w → Calls Tryd.prog 14 #[x] w (Ret (.string (bs (exprT.txt t))) w)

theorem small_any (v : Int) (s : ByteArray) (hv : DecOf v s) (w : World) : Calls Tryd.prog 45 #[.int .i64 v] w (Ret (.string s) w) := by
  rcases hv with ⟨rfl, rfl⟩ | ⟨rfl, rfl⟩ | ⟨rfl, rfl⟩ | ⟨rfl, rfl⟩
  all_goals
    go_enter Tryd.func45, Tryd.ntmps45
    go_wp2_with fail
    go_ret
    exact Ret.mk (str_val rfl) (Below.refl _ _)
theorem formatInt_any (v : Int) (s : ByteArray) (hv : DecOf v s) (w : World) : Calls Tryd.prog 42 #[.int .i64 v, .int .i64 10] w (Ret (.string s) w) := by
  have H := hid (fun w => small_any v s hv w)
  have h1 : 0 ≤ v := by unfold DecOf at hv; omega
  have h2 : v < 100 := by unfold DecOf at hv; omega
  clear hv
  go_enter Tryd.func42, Tryd.ntmps42
  go_wp2_with fail
  refine (H.out _).mono ?_
  rintro e w1 ⟨rfl, hb⟩
  go_wp2_with fail
  go_ret
  exact Ret.mk rfl hb
theorem itoa1_any (v : Int) (s : ByteArray) (hv : DecOf v s) (w : World) : Calls Tryd.prog 37 #[.int .i64 v] w (Ret (.string s) w) := by
  have H := hid (fun w => formatInt_any v s hv w)
  clear hv
  go_enter Tryd.func37, Tryd.ntmps37
  go_wp2_with fail
  refine (H.out _).mono ?_
  rintro e w1 ⟨rfl, hb⟩
  go_wp2_with fail
  go_ret
  exact Ret.mk rfl hb
theorem itoa_any (v : Int) (s : ByteArray) (hv : DecOf v s) (w : World) : Calls Tryd.prog 26 #[.int .i64 v] w (Ret (.string s) w) := by
  have H := hid (fun w => itoa1_any v s hv w)
  clear hv
  go_enter Tryd.func26, Tryd.ntmps26
  go_wp2_with fail
  refine (H.out _).mono ?_
  rintro e w1 ⟨rfl, hb⟩
  go_wp2_with fail
  go_ret
  exact Ret.mk rfl hb

theorem tx_const (v : Int) (s : ByteArray) (hv : DecOf v s) : TxT (.mk 1 v []) := by
  intro n w x hs hn hx _
  have E := hid (show bs (exprT.txt (.mk 1 v [])) = s by rcases hv with ⟨rfl, rfl⟩ | ⟨rfl, rfl⟩ | ⟨rfl, rfl⟩ | ⟨rfl, rfl⟩ <;> rfl)
  rw [TrIn_mk] at hx
  obtain ⟨a, n', c, rfl, _, _, rfl, hc, hc2, hks⟩ := hx
  clear hs hn hks
  simp only [List.length_nil] at hc ⊢
  go_enter Tryd.func14, Tryd.ntmps14
  go_wp2_with fail
  refine (itoa_any v s hv _).mono ?_
  rintro e w1 ⟨rfl, hb1⟩
  go_wp2_with fail
  go_ret
  refine Ret.mk (str_val ?_) (below_next (below_alloc _ _) hb1)
  rw [E.out]

set_option maxHeartbeats 1000000 in
theorem tx_var (v : Int) (hk : v = 0 ∨ v = 1 ∨ v = 2) : TxT (.mk 2 v []) := by
  intro n w x hs hn hx _
  have E := hid (show exprT.txt (.mk 2 v []) = exprT.pre 2 v from rfl)
  rw [TrIn_mk] at hx
  obtain ⟨a, n', c, rfl, _, _, rfl, hc, hc2, hks⟩ := hx
  clear hs hn hks
  simp only [List.length_nil] at hc ⊢
  rcases hk with rfl | rfl | rfl
  all_goals
    go_enter Tryd.func14, Tryd.ntmps14
    go_wp2_with fail
    go_ret
    refine Ret.mk (str_val ?_) (below_alloc _ _)
    rw [E.out]; rfl

set_option maxHeartbeats 1000000 in
theorem tx_un (t : Tr) (h : TxT t) : TxT (.mk 3 0 [t]) := by
  intro n w x hs hn hx hg
  have E := hid (show bs (exprT.txt (.mk 3 0 [t])) = bs [33] ++ bs (exprT.txt t) by rw [bs_append]; rfl)
  obtain ⟨m, rfl, _, _, _, _, _, hkids⟩ := exprL.shape_mk hs
  rw [TrIn_mk] at hx
  obtain ⟨a, n', c, rfl, _, _, rfl, hc, hc2, hks⟩ := hx
  rw [TrsIn_cons] at hks
  obtain ⟨b, o, c0, c1, c2, rfl, _, g0, g1, g2, hT, _⟩ := hks
  have hb := blt g0
  have hkid := hid (hkids t (by simp))
  have hl := exprT.txt_len t
  simp only [nodes, nodesL] at hn
  have hcn : nodes t ≤ 15 := by omega
  have hl2 : (bs (exprT.txt t)).size ≤ 100 := by rw [bs_size]; omega
  clear hkids hs hl hn
  simp only [List.length_cons, List.length_nil] at hc ⊢
  have H := hid (fun w x (hx : TrIn Any w t x) (hg : Sg w) => h m w x hkid.out hcn hx hg)
  have HG := hid hg
  clear hg
  generalize bs (exprT.txt t) = S at *
  go_enter Tryd.func14, Tryd.ntmps14
  go_wp2_with fail
  refine (H.out _ _ (TrIn_alloc hT _) (Sg_below (below_alloc _ _) HG.out)).mono ?_
  rintro e w1 ⟨rfl, hb1⟩
  go_wp2_with fail
  go_ret
  refine Ret.mk (str_val ?_) (below_next (below_alloc _ _) hb1)
  rw [E.out]; rfl

set_option maxHeartbeats 4000000 in
theorem tx_two (k : Int) (s : ByteArray) (hk : SignOf k s) (t u : Tr) (h : TxT t) (h' : TxT u) : TxT (.mk k 0 [t, u]) := by
  intro n w x hs hn hx hg
  have hpre : bs (exprT.pre k 0) = bs [40] ∧ bs (exprT.mid k) = s := by rcases hk with ⟨rfl, rfl⟩ | ⟨rfl, rfl⟩ | ⟨rfl, rfl⟩ | ⟨rfl, rfl⟩ | ⟨rfl, rfl⟩ | ⟨rfl, rfl⟩ <;> exact ⟨rfl, rfl⟩
  have htab : TabAt k.toNat s := by unfold TabAt; rcases hk with ⟨rfl, rfl⟩ | ⟨rfl, rfl⟩ | ⟨rfl, rfl⟩ | ⟨rfl, rfl⟩ | ⟨rfl, rfl⟩ | ⟨rfl, rfl⟩ <;> simp
  have E := hid (show bs (exprT.txt (.mk k 0 [t, u])) = bs [40] ++ bs (exprT.txt t) ++ s ++ bs (exprT.txt u) ++ bs [41] by simp only [TLang.txt, TLang.txts, nodeTxt, ← bs_append, hpre]; simp only [ByteArray.append_assoc])
  obtain ⟨m, rfl, _, _, _, _, _, hkids⟩ := exprL.shape_mk hs
  rw [TrIn_mk] at hx
  obtain ⟨a, n', c, rfl, _, _, rfl, hc, hc2, hks⟩ := hx
  rw [TrsIn_cons] at hks
  obtain ⟨b, o, c0, c1, c2, rfl, _, g0, g1, g2, hT, hks⟩ := hks
  rw [TrsIn_cons] at hks
  obtain ⟨b', o', d0, d1, d2, hbo, _, f0, f1, f2, hU, _⟩ := hks
  simp only [Option.some.injEq, Addr.mk.injEq, and_true] at hbo
  obtain ⟨rfl, rfl⟩ := hbo
  have hb := blt g0
  have hkid := hid (hkids t (by simp))
  have hkid' := hid (hkids u (by simp))
  have hl := exprT.txt_len t
  have hl' := exprT.txt_len u
  simp only [nodes, nodesL] at hn
  have hp := nodes_pos t
  have hp' := nodes_pos u
  have hcn : nodes t ≤ 15 := by omega
  have hcn' : nodes u ≤ 15 := by omega
  have hl2 : (bs (exprT.txt t)).size ≤ 100 := by rw [bs_size]; omega
  have hl2' : (bs (exprT.txt u)).size ≤ 100 := by rw [bs_size]; omega
  clear hkids hs hpre hl hl' hn hp hp'
  simp only [List.length_cons, List.length_nil] at hc ⊢
  have H := hid (fun w x (hx : TrIn Any w t x) (hg : Sg w) => h m w x hkid.out hcn hx hg)
  have H' := hid (fun w x (hx : TrIn Any w u x) (hg : Sg w) => h' m w x hkid'.out hcn' hx hg)
  have HG := hid hg
  obtain ⟨sb, so, sc, s0, s1⟩ := hg
  have s2 := s1 _ _ htab
  have hsb := blt s2
  have hs0 := blt s0
  clear s1 htab
  generalize bs (exprT.txt t) = S at *
  generalize bs (exprT.txt u) = S' at *
  rcases hk with ⟨rfl, rfl⟩ | ⟨rfl, rfl⟩ | ⟨rfl, rfl⟩ | ⟨rfl, rfl⟩ | ⟨rfl, rfl⟩ | ⟨rfl, rfl⟩
  all_goals
    go_enter Tryd.func14, Tryd.ntmps14
    go_wp2_with fail
    refine wp_gen (fun W => Below w.heap.size w W ∧ Box3 W w.heap.size _ (.int .i64 0) (.slice (some ⟨b, o, none⟩) 2 c)) ⟨below_alloc _ _, box3_new ..⟩ ?_
    rintro W ⟨B, b3⟩
    obtain ⟨k0, k1, k2⟩ := cells_next B hb g0 g1 g2
    obtain ⟨j0, j1, j2⟩ := cells_next B hb f0 f1 f2
    have q0 := (B.cell (p := ⟨0, 0, none⟩) hs0).trans s0
    have q1 := (B.cell (p := ⟨sb, _, none⟩) hsb).trans s2
    simp only [Int.reduceToNat] at q1
    have hbW : b < W.heap.size := Nat.lt_of_lt_of_le hb B.size
    have hbS : sb < W.heap.size := Nat.lt_of_lt_of_le hsb B.size
    have hb0 : 0 < W.heap.size := Nat.lt_of_lt_of_le hs0 B.size
    refine wp_region_over (by kernel_rfl) (by kernel_rfl) ?_; (repeat (go_big_quiet_step ((go_at_call 14; first | with_reducible exact Calls.over (H.out _ _ (TrIn_over (TrIn_below B hT) _) (Sg_over (Sg_below B HG.out) _)) | with_reducible exact Calls.over (H'.out _ _ (TrIn_over (TrIn_below B hU) _) (Sg_over (Sg_below B HG.out) _)))))); refine wpQuiet_nil ?_; rintro _ ⟨xq, rfl⟩
    go_wp2_with fail
    go_ret
    refine Ret.mk (str_val ?_) (below_next B (over_below W xq))
    rw [E.out]; rfl

theorem tx_any : ∀ t, TxT t := expr_cases tx_const tx_var tx_un tx_two (fun t h n w x hs => by rw [h n] at hs; cases hs)

end Expr
end Go.Proofs.YtplmjliaochepaaDoor
