/- What a formula's subformulas are: different, each behind its operands, the formula last; and laws.wpFormula. Conditions: none, or those of each contract. -/
import Derived.Test.YthjhokifonjeaaaSubX
namespace Go.Proofs.Ythjhokifonjeaaa
open Go.RowKit
namespace Formula

def memL (l : List Tr) (u : Tr) : Bool := l.any fun t => eqT t u
theorem memL_iff {l : List Tr} {u : Tr} : memL l u = true ↔ u ∈ l := by
  unfold memL
  rw [List.any_eq_true]
  constructor
  · rintro ⟨x, hx, h⟩; rw [eqT_true] at h; exact h ▸ hx
  · intro h; exact ⟨u, h, eqT_true.2 rfl⟩
theorem memL_false {l : List Tr} {u : Tr} : memL l u = false ↔ u ∉ l := by
  rw [← Bool.not_eq_true, memL_iff]
theorem findT_neg {u : Tr} : ∀ (l : List Tr) (k : Int), 0 ≤ k → (findT l u k < 0 ↔ u ∉ l)
  | [], k, _ => by simp [findT]
  | t :: ts, k, hk => by
    simp only [findT]
    by_cases h : eqT t u = true
    · rw [if_pos h]
      rw [eqT_true] at h
      simp [h]; omega
    · rw [if_neg h, findT_neg ts (k + 1) (by omega)]
      rw [eqT_true] at h
      simp [Ne.symm h]

/-- all different, each behind its operands -/
def Good (L : List Tr) : Prop := ∀ i u, L[i]? = some u → memL (L.take i) u = false ∧ ∀ k, k ∈ u.kids → memL (L.take i) k = true
theorem Good.nil : Good [] := by intro i u h; simp at h
theorem Good.snoc {L : List Tr} {u : Tr} (h : Good L) (hu : u ∉ L) (hk : ∀ k, k ∈ u.kids → k ∈ L) : Good (L ++ [u]) := by
  intro i v hv
  rcases Nat.lt_or_ge i L.length with hi | hi
  · rw [List.getElem?_append_left hi] at hv
    rw [List.take_append_of_le_length (by omega)]
    exact h i v hv
  · rw [List.getElem?_append_right hi] at hv
    have h0 : i - L.length = 0 := by
      rcases Nat.eq_zero_or_pos (i - L.length) with h | h
      · exact h
      · rw [List.getElem?_eq_none (by simp; omega)] at hv; cases hv
    rw [h0] at hv
    obtain rfl : u = v := by simpa using hv
    have hi2 : i = L.length := by omega
    subst hi2
    rw [List.take_left]
    exact ⟨memL_false.2 hu, fun k hk' => memL_iff.2 (hk k hk')⟩
mutual
theorem subsT_good : ∀ (t : Tr) (acc : List Tr), Good acc → Good (subsT acc t) ∧ (∀ x, x ∈ acc → x ∈ subsT acc t) ∧ t ∈ subsT acc t
  | .mk k v kids, acc, h => by
    obtain ⟨h1, h2, h3⟩ := subsL_good kids acc h
    simp only [subsT]
    split
    · rename_i hf
      rw [findT_neg _ 0 (by omega)] at hf
      exact ⟨h1.snoc hf h3, fun x hx => by simp [h2 x hx], by simp⟩
    · rename_i hf
      rw [findT_neg _ 0 (by omega), Classical.not_not] at hf
      exact ⟨h1, h2, hf⟩
theorem subsL_good : ∀ (l : List Tr) (acc : List Tr), Good acc → Good (subsL acc l) ∧ (∀ x, x ∈ acc → x ∈ subsL acc l) ∧ ∀ t, t ∈ l → t ∈ subsL acc l
  | [], acc, h => by simp [subsL, h]
  | t :: ts, acc, h => by
    obtain ⟨h1, h2, h3⟩ := subsT_good t acc h
    obtain ⟨g1, g2, g3⟩ := subsL_good ts (subsT acc t) h1
    simp only [subsL]
    refine ⟨g1, fun x hx => g2 x (h2 x hx), fun u hu => ?_⟩
    cases hu with
    | head => exact g2 _ h3
    | tail _ hu => exact g3 _ hu
end
mutual
theorem subsT_below : ∀ (t : Tr) (acc : List Tr) (u : Tr), u ∈ subsT acc t → u ∈ acc ∨ nodes u ≤ nodes t
  | .mk k v kids, acc, u, h => by
    simp only [subsT] at h
    simp only [nodes]
    have hs : ∀ u, u ∈ subsL acc kids → u ∈ acc ∨ nodes u ≤ 1 + nodesL kids := fun u hu => by
      rcases subsL_below kids acc u hu with h | h
      · exact .inl h
      · exact .inr (by omega)
    split at h
    · rcases List.mem_append.1 h with h | h
      · exact hs u h
      · obtain rfl : u = _ := by simpa using h
        exact .inr (by simp [nodes])
    · exact hs u h
theorem subsL_below : ∀ (l : List Tr) (acc : List Tr) (u : Tr), u ∈ subsL acc l → u ∈ acc ∨ nodes u ≤ nodesL l
  | [], acc, u, h => .inl (by simpa [subsL] using h)
  | t :: ts, acc, u, h => by
    simp only [subsL] at h
    simp only [nodesL]
    have p1 := nodes_pos t
    have p2 := nodesL_pos ts
    rcases subsL_below ts _ u h with h | h
    · rcases subsT_below t acc u h with h | h
      · exact .inl h
      · exact .inr (by omega)
    · exact .inr (by omega)
end
theorem subsT_last (t : Tr) : ∃ L, subsT [] t = L ++ [t] := by
  cases t with
  | mk k v kids =>
    refine ⟨subsL [] kids, ?_⟩
    simp only [subsT]
    rw [if_pos]
    rw [findT_neg _ 0 (by omega)]
    intro h
    rcases subsL_below kids [] _ h with h | h
    · cases h
    · simp only [nodes] at h; omega

theorem TrsIn_take {p : Nat → Prop} {w : World} : ∀ (l : List Tr) (i : Nat) (a : Option Addr), TrsIn p w l a → TrsIn p w (l.take i) a
  | [], i, a, h => by simpa using h
  | t :: ts, 0, a, h => by simp [TrsIn_nil]
  | t :: ts, i + 1, a, h => by
    rw [TrsIn_cons] at h
    obtain ⟨b, o, c0, c1, c2, h1, h2, h3, h4, h5, h6, h7⟩ := h
    rw [List.take_succ_cons, TrsIn_cons]
    exact ⟨b, o, c0, c1, c2, h1, h2, h3, h4, h5, h6, TrsIn_take ts i _ h7⟩

set_option maxHeartbeats 1000000 in
theorem wpForm_any (l : List Tr) (u : Tr) (w : World) (a : Option Addr) (n c : Nat) (y : Value) (hn : n = l.length) (hl : TrsIn Any w l a) (hu : TrIn Any w u y) (hc : l.length ≤ c) (hc2 : c ≤ maxLen) : Calls Try.prog 18 #[.slice a n c, y] w (Ret (.bool (memL l u)) w) := by
  subst hn
  obtain ⟨a', c', rfl⟩ := TrIn_shape hu
  have HC := hid hc2
  unfold maxLen at hc2
  go_enter Try.func18, Try.ntmps18
  go_wp2_with fail
  go_loopw [5] (fun i wr => ∃ k : Nat, k ≤ l.length ∧ i = .int .i64 k ∧ Below w.heap.size w wr ∧ Box3 wr w.heap.size (.int .i64 u.kind) (.int .i64 u.val) (.slice a' u.kids.length c') ∧ Hid (memL (l.drop k) u = memL l u)) (fun i _ => l.length - (intOf i).toNat)
  case atStart => exact ⟨0, Nat.zero_le _, rfl, below_alloc _ _, box3_new .., hid rfl⟩
  case round =>
    obtain ⟨k, hk, rfl, hb, b3, hr⟩ := hrel
    by_cases hlt : k < l.length
    · obtain ⟨b, o, c0, c1, c2, t, rfl, gb, g0, g1, g2, hT⟩ := TrsIn_round hl hb hlt
      have hr2 : Hid ((eqT t u || memL (l.drop (k + 1)) u) = memL l u) := by
        have := hr.out
        rw [hT.out.2.2.1] at this
        exact this
      have hlt2 : (k : Int) < (l.length : Int) := by omega
      have hU := hid (TrIn_below hb hu)
      have HB := hid hb
      have HB3 := hid b3
      obtain ⟨p0, p1, p2, p3, _⟩ := id b3
      clear hb b3
      go_wp2_with fail
      refine wp_region_over (by kernel_rfl) (by kernel_rfl) ?_; (repeat (go_big_quiet_step ((go_at_call 17; exact Calls.over (same_any t _ u _ _ (TrIn_over hT.out.1 _) (TrIn_over hU.out _)))))); refine wpQuiet_nil ?_; rintro _ ⟨xq, rfl⟩
      have hbo := hid (below_next HB.out (over_below _ xq))
      have hb3 := hid (box3_next (over_below _ xq) HB3.out)
      clear p0 p1 p2 p3 g0 g1 g2
      cases hq : eqT t u with
      | true =>
        have HR := hid (show memL l u = true by rw [← hr2.out, hq]; rfl)
        clear hq
        go_wp2_with fail
        go_ret
        exact Ret.mk (bool_val HR.out.symm) hbo.out
      | false =>
        have HR := hid (show memL (l.drop (k + 1)) u = memL l u by rw [← hr2.out, hq]; rfl)
        clear hq
        go_wp2_with fail
        go_roundw
        case rel => exact ⟨k + 1, by omega, by go_num, hbo.out, hb3.out, HR⟩
        case measure => simp [intOf]; omega
    · have hr2 : memL l u = false := by
        have := hr.out
        rw [List.drop_of_length_le (by omega)] at this
        exact this.symm
      have HR := hid hr2; clear hr2
      go_wp2_with fail
      go_ret
      exact Ret.mk (bool_val HR.out.symm) hb
end Formula
end Go.Proofs.Ythjhokifonjeaaa
