/- Joined texts (GrV, BuildP): contracts and plain laws. Conditions: those of each theorem. -/
import Derived.Test.YtfemikebklmlpaaJV1
import Derived.Test.YtfemikebklmlpaaJV6
import Derived.Test.YtfemikebklmlpaaJV3
import Derived.Test.YtfemikebklmlpaaJV4
import Derived.Test.YtfemikebklmlpaaJV10
set_option linter.unusedVariables false
set_option linter.unusedSimpArgs false
namespace Go.Proofs.Ytfemikebklmlpaa
open Go.RowKit
set_option linter.unusedVariables false
set_option linter.unusedSimpArgs false
namespace Gr

def hasI (l : List Int) (x : Int) : Bool := decide (x ∈ l)
theorem hasI_cons (y : Int) (t : List Int) (x : Int) : hasI (y :: t) x = (decide (y = x) || hasI t x) := by
  unfold hasI
  by_cases e : y = x
  · simp [e]
  · have e2 : ¬ x = y := fun h => e h.symm
    simp [e, e2]
theorem hasI_drop {l : List Int} {k : Nat} (h : k < l.length) (x : Int) : hasI (l.drop k) x = (decide (l[k] = x) || hasI (l.drop (k + 1)) x) := by
  rw [List.drop_eq_getElem_cons h, hasI_cons]

set_option maxHeartbeats 1000000 in
theorem l4In_any (l : List Int) (x : Int) (w : World) (a : Option Addr) (c : Nat) (hl : IntsIn Any w a l) (hc : l.length ≤ c) (hc2 : c ≤ maxLen) : Calls Try.prog 73 #[.slice a l.length c, .int .i64 x] w (Ret (.bool (hasI l x)) w) := by
  unfold maxLen at hc2
  go_enter Try.func73, Try.ntmps73
  go_wp2_with fail
  go_loopw [5] (fun i wr => ∃ j : Nat, j ≤ l.length ∧ i = .int .i64 j ∧ Below w.heap.size w wr ∧ Hid (hasI (l.drop j) x = hasI l x)) (fun i _ => l.length - (intOf i).toNat)
  case atStart => exact ⟨0, Nat.zero_le _, rfl, Below.refl _ _, hid rfl⟩
  case round =>
    obtain ⟨j, hj, rfl, B, hr⟩ := hrel
    by_cases hlt : j < l.length
    · obtain ⟨b, o, rfl, hb, _, g0, hi⟩ := ints_at hl B hlt
      have HR2 := hr.out
      rw [hasI_drop hlt] at HR2
      have HR := hid HR2; clear HR2 hr
      have hlt2 : (j : Int) < (l.length : Int) := by omega
      generalize l[j] = y at *
      by_cases hxy : y = x
      · have E := hid (show hasI l x = true by rw [← HR.out]; simp [hxy])
        have h2 : (y == x) = true := by simpa using hxy
        clear HR hxy
        go_wp2_with fail
        go_ret
        exact Ret.mk (bool_val E.out.symm) B
      · have E := hid (show hasI (l.drop (j + 1)) x = hasI l x by rw [← HR.out]; simp [hxy])
        have h2 : (y == x) = false := by simpa using hxy
        clear HR hxy
        go_wp2_with fail
        go_roundw
        case rel => exact ⟨j + 1, by omega, by go_num, B, E⟩
        case measure => simp [intOf]; omega
    · have E := hid (show hasI l x = false by rw [← hr.out, List.drop_of_length_le (by omega)]; rfl)
      have hlt2 : ¬ ((j : Int) < (l.length : Int)) := by omega
      clear hr
      go_wp2_with fail
      go_ret
      exact Ret.mk (bool_val E.out.symm) B

/-- the first place of a number, from k on; -1 if there is none -/
def idx : List Int → Int → Int → Int
  | [], _, _ => -1
  | y :: ys, x, k => if y = x then k else idx ys x (k + 1)
theorem idx_has : ∀ (l : List Int) (x k : Int), 0 ≤ k → decide (0 ≤ idx l x k) = hasI l x
  | [], x, k, h => by simp [idx, hasI]
  | y :: ys, x, k, h => by
    have ih := idx_has ys x (k + 1) (by omega)
    unfold idx
    by_cases e : y = x
    · subst e
      rw [if_pos rfl]
      simp [hasI, h]
    · rw [if_neg e, ih]
      have e2 : ¬ x = y := fun h => e h.symm
      simp [hasI, e2]
theorem idx_ge : ∀ (l : List Int) (x k : Int), 0 ≤ k → -1 ≤ idx l x k ∧ idx l x k < k + l.length ∨ idx l x k = -1
  | [], x, k, h => .inr rfl
  | y :: ys, x, k, h => by
    unfold idx
    split
    · left; simp; omega
    · rcases idx_ge ys x (k + 1) (by omega) with h | h
      · left; simp; omega
      · exact .inr h
/-- there it is -/
theorem idx_at : ∀ (l : List Int) (x k : Int), 0 ≤ k → 0 ≤ idx l x k → ∃ j : Nat, idx l x k = k + j ∧ l[j]? = some x
  | [], x, k, h, h2 => by simp [idx] at h2
  | y :: ys, x, k, h, h2 => by
    unfold idx at h2 ⊢
    split
    · rename_i e; exact ⟨0, by simp, by simp [e]⟩
    · rename_i e
      rw [if_neg e] at h2
      obtain ⟨j, h3, h4⟩ := idx_at ys x (k + 1) (by omega) h2
      exact ⟨j + 1, by rw [h3]; omega, by simpa using h4⟩

set_option maxHeartbeats 1000000 in
theorem index_any (l : List Int) (x : Int) (w : World) (a : Option Addr) (c : Nat) (hl : IntsIn Any w a l) (hc : l.length ≤ c) (hc2 : c ≤ maxLen) : Calls Try.prog 57 #[.slice a l.length c, .int .i64 x] w (Ret (.int .i64 (idx l x 0)) w) := by
  unfold maxLen at hc2
  go_enter Try.func57, Try.ntmps57
  go_wp2_with fail
  go_loopw [5, 8] (fun _ i wr => ∃ j : Nat, j ≤ l.length ∧ i = .int .i64 j ∧ Below w.heap.size w wr ∧ Hid (idx (l.drop j) x j = idx l x 0)) (fun _ i _ => l.length - (intOf i).toNat)
  case atStart => exact ⟨0, Nat.zero_le _, rfl, Below.refl _ _, hid rfl⟩
  case round =>
    obtain ⟨j, hj, rfl, B, hr⟩ := hrel
    by_cases hlt : j < l.length
    · obtain ⟨b, o, rfl, hb, _, g0, hi⟩ := ints_at hl B hlt
      have HR2 := hr.out
      rw [List.drop_eq_getElem_cons hlt] at HR2
      simp only [idx] at HR2
      have HR := hid HR2; clear HR2 hr
      have hlt2 : (j : Int) < (l.length : Int) := by omega
      generalize l[j] = y at *
      by_cases hxy : y = x
      · have E := hid (show idx l x 0 = (j : Int) by rw [← HR.out, if_pos hxy])
        have h2 : (x == y) = true := by simpa using hxy.symm
        clear HR hxy
        go_wp2_with fail
        go_ret
        exact Ret.mk (int_val E.out.symm) B
      · have E := hid (show idx (l.drop (j + 1)) x ((j + 1 : Nat) : Int) = idx l x 0 by rw [← HR.out, if_neg hxy]; rfl)
        have h2 : (x == y) = false := by simpa using fun h => hxy h.symm
        clear HR hxy
        go_wp2_with fail
        go_roundw
        case rel => exact ⟨j + 1, by omega, by go_num, B, E⟩
        case measure => simp [intOf]; omega
    · have E := hid (show idx l x 0 = -1 by rw [← hr.out, List.drop_of_length_le (by omega)]; rfl)
      have hlt2 : ¬ ((j : Int) < (l.length : Int)) := by omega
      clear hr
      go_wp2_with fail
      go_ret
      exact Ret.mk (int_val E.out.symm) B
set_option maxHeartbeats 1000000 in
theorem contains_any (l : List Int) (x : Int) (w : World) (a : Option Addr) (c : Nat) (hl : IntsIn Any w a l) (hc : l.length ≤ c) (hc2 : c ≤ maxLen) : Calls Try.prog 44 #[.slice a l.length c, .int .i64 x] w (Ret (.bool (hasI l x)) w) := by
  have HH := hid (index_any l x w a c hl hc hc2)
  have E := hid (idx_has l x 0 (Int.le_refl _))
  generalize idx l x 0 = i at *
  go_enter Try.func44, Try.ntmps44
  go_wp2_with fail
  refine HH.out.mono ?_
  rintro e w2 ⟨rfl, hb⟩
  go_wp2_with fail
  go_ret
  exact Ret.mk (bool_val E.out) hb

/-- all numbers below n, none twice; pre: those before -/
def dst (n : Int) (pre : List Int) : List Int → Bool
  | [] => true
  | x :: xs => decide (0 ≤ x ∧ x < n) && !hasI pre x && dst n (pre ++ [x]) xs
theorem dst_spec : ∀ (n : Int) (l pre : List Int), dst n pre l = true → (∀ x, x ∈ l → (0 ≤ x ∧ x < n) ∧ x ∉ pre) ∧ l.Nodup
  | n, [], pre, h => ⟨by simp, List.nodup_nil⟩
  | n, x :: xs, pre, h => by
    unfold dst at h
    simp only [Bool.and_eq_true, decide_eq_true_eq, Bool.not_eq_true', hasI, decide_eq_false_iff_not] at h
    obtain ⟨⟨h1, h2⟩, h3⟩ := h
    obtain ⟨h4, h5⟩ := dst_spec n xs _ h3
    refine ⟨fun y hy => ?_, List.nodup_cons.2 ⟨fun hx => (h4 x hx).2 (by simp), h5⟩⟩
    rcases List.mem_cons.1 hy with e | e
    · subst e; exact ⟨h1, h2⟩
    · exact ⟨(h4 y e).1, fun hp => (h4 y e).2 (by simp [hp])⟩
theorem dst_len {n : Nat} {l : List Int} (h : dst n [] l = true) : l.length ≤ n := by
  obtain ⟨h1, h2⟩ := dst_spec n l [] h
  have h3 : (l.map Int.toNat).Nodup := by
    refine List.pairwise_map.2 (List.Pairwise.imp_of_mem ?_ h2)
    intro x y hx hy hne e
    have := (h1 x hx).1
    have := (h1 y hy).1
    omega
  have := List.Nodup.length_le_of_subset h3 (l₂ := List.range n) fun m hm => by
    rw [List.mem_map] at hm
    obtain ⟨x, hx, rfl⟩ := hm
    have := (h1 x hx).1
    exact List.mem_range.2 (by omega)
  simpa using this
def rowOk (n : Nat) (r : List Int) : Bool := !r.isEmpty && dst n [] r
def stOk (t : S2) : Bool := Expr.okVals t.vals
def okG (g : G2) : Bool := decide (1 ≤ g.states.length ∧ g.states.length ≤ 60) && decide (g.next.length = g.states.length) && g.states.all stOk && g.next.all (rowOk g.states.length)

theorem ints_take' {w : World} {a : Option Addr} {l : List Int} (h : IntsIn Any w a l) (k : Nat) : IntsIn Any w a (l.take k) := by
  refine ⟨?_, fun n hn => h.2 n (List.mem_of_mem_take hn)⟩
  rcases h.1 with h1 | ⟨b', o', e, h2, h3, h4⟩
  · have : l = [] := by simpa using h1
    subst this
    exact .inl (by simp)
  · refine .inr ⟨b', o', e, h2, h3, fun i v hv => ?_⟩
    rw [List.map_take, List.getElem?_take] at hv
    split at hv
    · exact h4 _ v hv
    · cases hv

set_option maxHeartbeats 2000000 in
theorem distinct_any (l : List Int) (n : Nat) (hn : n ≤ 1000000) (w : World) (a : Option Addr) (c : Nat) (hl : IntsIn Any w a l) (hc : l.length ≤ c) (hc2 : c ≤ maxLen) : Calls Try.prog 69 #[.slice a l.length c, .int .i64 n] w (Ret (.bool (dst n [] l)) w) := by
  have HL := hid hl
  have HC := hid (fun (j : Nat) (hj : j ≤ l.length) (x : Int) (W : World) (M : Below w.heap.size w W) => contains_any (l.take j) x W a c (ints_take' (hl.below M) j) (by rw [List.length_take]; omega) hc2)
  unfold maxLen at hc2
  go_enter Try.func69, Try.ntmps69
  go_wp2_with fail
  go_loopw [5, 6, 9] (fun _ _ i wr => ∃ j : Nat, j ≤ l.length ∧ i = .int .i64 j ∧ Below w.heap.size w wr ∧ Hid (dst n (l.take j) (l.drop j) = dst n [] l)) (fun _ _ i _ => l.length - (intOf i).toNat)
  case atStart => exact ⟨0, Nat.zero_le _, rfl, Below.refl _ _, hid rfl⟩
  case round =>
    obtain ⟨j, hj, rfl, B, hr⟩ := hrel
    by_cases hlt : j < l.length
    · obtain ⟨b, o, rfl, hb, _, g0, hi⟩ := ints_at HL.out B hlt
      have HR2 := hr.out
      rw [List.drop_eq_getElem_cons hlt] at HR2
      simp only [dst] at HR2
      have hts : l.take (j + 1) = l.take j ++ [l[j]] := by rw [List.take_add_one, List.getElem?_eq_getElem hlt]; rfl
      rw [← hts] at HR2
      have HR := hid HR2
      clear HR2 hr hts
      have hlt2 : (j : Int) < (l.length : Int) := by omega
      have hjc : j ≤ c := by omega
      have hlj : (l.take j).length = j := by rw [List.length_take]; omega
      have HCJ := hid (fun (W : World) (M : Below w.heap.size w W) => show Calls Try.prog 44 #[.slice (some ⟨b, o, none⟩) j c, .int .i64 l[j]] W (Ret (.bool (hasI (l.take j) l[j])) W) from by have h9 := HC.out j hj l[j] W M; rw [hlj] at h9; exact h9)
      clear hlj
      generalize l[j] = x at *
      generalize hasI (l.take j) x = q at *
      go_wp2_with fail
      refine (in_any x 0 ((n : Int) - 1) _).mono ?_
      rintro e w1 ⟨rfl, rfl⟩
      by_cases hin : 0 ≤ x ∧ x < n
      · have e1 : inB x 0 ((n : Int) - 1) = true := by simp [inB]; omega
        have e2 : decide (0 ≤ x ∧ x < (n : Int)) = true := by simpa using hin
        have HR1 := HR.out
        rw [e2, Bool.true_and] at HR1
        have HR2 := hid HR1
        rw [e1]
        clear e1 e2 HR1 HR
        go_wp2_with fail
        refine (HCJ.out _ B).mono ?_
        rintro e w2 ⟨rfl, hb2⟩
        replace B := below_next B hb2
        cases q with
        | true =>
          have E := hid (show dst n [] l = false by rw [← HR2.out]; simp)
          clear HR2
          go_wp2_with fail
          go_ret
          exact Ret.mk (bool_val E.out.symm) B
        | false =>
          have E := hid (show dst n (l.take (j + 1)) (l.drop (j + 1)) = dst n [] l by rw [← HR2.out]; simp)
          clear HR2
          go_wp2_with fail
          go_roundw
          case rel => exact ⟨j + 1, by omega, by go_num, B, E⟩
          case measure => simp [intOf]; omega
      · have e1 : inB x 0 ((n : Int) - 1) = false := by simp [inB]; omega
        have E := hid (show dst n [] l = false by rw [← HR.out]; simp [hin])
        rw [e1]
        clear e1 HR hin
        go_wp2_with fail
        go_ret
        exact Ret.mk (bool_val E.out.symm) B
    · have E := hid (show dst n [] l = true by rw [← hr.out, List.drop_of_length_le (by omega)]; rfl)
      have hlt2 : ¬ ((j : Int) < (l.length : Int)) := by omega
      clear hr
      go_wp2_with fail
      go_ret
      exact Ret.mk (bool_val E.out.symm) B

theorem pair_of' {p : Nat → Prop} {w : World} {l m : List Int} {a a' : Option Addr} {n n' c c' : Nat} (h : RIn p w l (.slice a n c)) (h' : RIn p w m (.slice a' n' c')) : State.PairIn p w l m (.agg #[.slice a n c, .slice a' n' c']) := by
  obtain ⟨b, d, e, h1, h2, h3⟩ := h
  obtain ⟨b', d', e', h1', h2', h3'⟩ := h'
  simp at e e'
  obtain ⟨rfl, rfl, rfl⟩ := e
  obtain ⟨rfl, rfl, rfl⟩ := e'
  exact ⟨_, _, _, _, rfl, h3, h3', h1, h2, h1', h2'⟩
/-! ### the program's GraphValid -/
set_option maxHeartbeats 400000 in
theorem clo1_any (t : S2) (w : World) (x : Value) (hx : State.PairIn Any w t.locs t.vals x) : Calls Try.prog 65 #[x] w (Ret (.bool (!stOk t)) w) := by
  obtain ⟨a, b, c, d, rfl, _, h2, _, _, hd, hd2⟩ := hx
  have HH := hid (fun (W : World) (M : Below w.heap.size w W) => Expr.vals_any t.vals W b d (h2.below M) hd hd2)
  have E := hid (show stOk t = Expr.okVals t.vals from rfl)
  generalize Expr.okVals t.vals = q at *
  go_enter Try.func65, Try.ntmps65
  go_wp2_with fail
  refine (HH.out _ (by repeat (first | exact Below.refl _ _ | assumption | refine below_a ?_ _ | refine below_o ?_ _ | refine below_d ?_ | refine below_n ?_ _ | refine below_s ?_ (by first | (simp; done) | (simp; omega) | omega) _))).mono ?_
  rintro e w1 ⟨rfl, hb⟩
  have B := below_next (show Below w.heap.size w _ from (by repeat (first | exact Below.refl _ _ | assumption | refine below_a ?_ _ | refine below_o ?_ _ | refine below_d ?_ | refine below_n ?_ _ | refine below_s ?_ (by first | (simp; done) | (simp; omega) | omega) _))) hb
  go_wp2_with fail
  go_ret
  exact Ret.mk (bool_val (by rw [E.out])) B
set_option maxHeartbeats 400000 in
theorem clo2_any (l : List Int) (n : Nat) (hn : n ≤ 1000000) (w : World) (a : Option Addr) (c O : Nat) (hl : IntsIn Any w a l) (hc : l.length ≤ c) (hc2 : c ≤ maxLen) (hO : w.cell? ⟨O, 0, none⟩ = some (.int .i64 n)) : Calls Try.prog 68 #[.slice a l.length c, .pointer (some ⟨O, 0, none⟩)] w (Ret (.bool (!rowOk n l)) w) := by
  have HH := hid (fun (W : World) (M : Below w.heap.size w W) => distinct_any l n hn W a c (hl.below M) hc hc2)
  by_cases h0 : l.length = 0
  · have E := hid (show rowOk n l = false by rw [List.length_eq_zero_iff.1 h0]; rfl)
    have h1 : ((l.length : Int) == 0) = true := by rw [h0]; rfl
    clear h0
    go_enter Try.func68, Try.ntmps68
    go_wp2_with fail
    go_ret
    exact Ret.mk (bool_val (by rw [E.out]; first | done | rfl)) (Below.refl _ _)
  · have E := hid (show rowOk n l = dst n [] l by
      unfold rowOk
      cases l with
      | nil => simp at h0
      | cons y t => simp)
    have h1 : ((l.length : Int) == 0) = false := by rw [beq_eq_false_iff_ne]; omega
    generalize dst n [] l = q at *
    clear h0
    go_enter Try.func68, Try.ntmps68
    go_wp2_with fail
    refine (HH.out _ (by repeat (first | exact Below.refl _ _ | assumption | refine below_a ?_ _ | refine below_o ?_ _ | refine below_d ?_ | refine below_n ?_ _ | refine below_s ?_ (by first | (simp; done) | (simp; omega) | omega) _))).mono ?_
    rintro e w1 ⟨rfl, hb⟩
    go_wp2_with fail
    go_ret
    exact Ret.mk (bool_val (by rw [E.out])) hb
def IxP (bad : Bool) (w : World) (e : Ending) (w' : World) : Prop := ∃ i : Int, e = .returned (.int .i64 i) ∧ decide (0 ≤ i) = bad ∧ Below w.heap.size w w'
set_option maxHeartbeats 1000000 in
theorem ixS_any (l : List S2) (w : World) (a : Option Addr) (c : Nat) (hl : StsIn Any w l a) (hc : l.length ≤ c) (hc2 : c ≤ maxLen) :
    Calls Try.prog 91 #[.slice a l.length c, .func (.func 65) #[] #[]] w (IxP (!l.all stOk) w) := by
  unfold maxLen at hc2
  go_enter Try.func91, Try.ntmps91
  go_wp2_with fail
  go_loopw [5, 8] (fun _ i wr => ∃ j : Nat, j ≤ l.length ∧ i = .int .i64 j ∧ Below w.heap.size w wr ∧ Hid ((l.drop j).all stOk = l.all stOk)) (fun _ i _ => l.length - (intOf i).toNat)
  case atStart => exact ⟨0, Nat.zero_le _, rfl, Below.refl _ _, hid rfl⟩
  case round =>
    obtain ⟨j, hj, rfl, B, hr⟩ := hrel
    by_cases hlt : j < l.length
    · obtain ⟨b, o, a1, c1, a2, c2, rfl, hb, _, g0, g1, hr1, hr2v⟩ := sts_at (hl.below B) hlt
      have HT := hid (pair_of' hr1 hr2v)
      have HR2 := hr.out
      rw [List.drop_eq_getElem_cons hlt, List.all_cons] at HR2
      have HR := hid HR2; clear HR2 hr hr1 hr2v
      have hlt2 : (j : Int) < (l.length : Int) := by omega
      generalize l[j] = x at *
      go_wp2_with fail
      refine (clo1_any x _ _ HT.out).mono ?_
      rintro e w2 ⟨rfl, hb2⟩
      replace B := below_next B hb2
      clear hb2
      cases hq : stOk x with
      | true =>
        have HR3 := HR.out
        rw [hq, Bool.true_and] at HR3
        have HR4 := hid HR3; clear HR3 hq
        go_wp2_with fail
        go_roundw
        case rel => exact ⟨j + 1, by omega, by go_num, B, HR4⟩
        case measure => simp [intOf]; omega
      | false =>
        have HR3 := HR.out
        rw [hq, Bool.false_and] at HR3
        have HR4 := hid HR3; clear HR3 hq
        go_wp2_with fail
        go_ret
        exact ⟨j, rfl, by rw [← HR4.out]; simp, B⟩
    · have HR2 := hr.out
      rw [List.drop_of_length_le (by omega), List.all_nil] at HR2
      have HR := hid HR2; clear HR2
      have hlt2 : ¬ ((j : Int) < (l.length : Int)) := by omega
      go_wp2_with fail
      go_ret
      exact ⟨-1, rfl, by rw [← HR.out]; simp, B⟩
set_option maxHeartbeats 400000 in
theorem cfS_any (l : List S2) (w : World) (a : Option Addr) (c : Nat) (hl : StsIn Any w l a) (hc : l.length ≤ c) (hc2 : c ≤ maxLen) :
    Calls Try.prog 64 #[.slice a l.length c, .func (.func 65) #[] #[]] w (Ret (.bool (!l.all stOk)) w) := by
  have HH := hid (ixS_any l w a c hl hc hc2)
  go_enter Try.func64, Try.ntmps64
  go_wp2_with fail
  refine HH.out.mono ?_
  rintro e w2 ⟨i, rfl, hi, hb⟩
  have HI := hid hi; clear hi
  go_wp2_with fail
  go_ret
  exact Ret.mk (bool_val HI.out) hb
set_option maxHeartbeats 1000000 in
theorem ixR_any (l : List (List Int)) (n : Nat) (hn : n ≤ 1000000) (w : World) (a : Option Addr) (c O : Nat) (hl : RowsIn Any w l a) (hc : l.length ≤ c) (hc2 : c ≤ maxLen) (hO : w.cell? ⟨O, 0, none⟩ = some (.int .i64 n)) :
    Calls Try.prog 93 #[.slice a l.length c, .func (.func 68) #[] #[.pointer (some ⟨O, 0, none⟩)]] w (IxP (!l.all (rowOk n)) w) := by
  unfold maxLen at hc2
  have HO := hid (fun (W : World) (M : Below w.heap.size w W) => show W.cell? ⟨O, 0, none⟩ = some (.int .i64 n) by rw [M.cell (p := ⟨O, 0, none⟩) (blt hO)]; exact hO)
  go_enter Try.func93, Try.ntmps93
  go_wp2_with fail
  go_loopw [5, 8] (fun _ i wr => ∃ j : Nat, j ≤ l.length ∧ i = .int .i64 j ∧ Below w.heap.size w wr ∧ Hid ((l.drop j).all (rowOk n) = l.all (rowOk n))) (fun _ i _ => l.length - (intOf i).toNat)
  case atStart => exact ⟨0, Nat.zero_le _, rfl, Below.refl _ _, hid rfl⟩
  case round =>
    obtain ⟨j, hj, rfl, B, hr⟩ := hrel
    by_cases hlt : j < l.length
    · obtain ⟨b, o, a1, c1, rfl, hb, _, g0, k1, k2, hi⟩ := rows_at (hl.below B) hlt
      have HT := hid (And.intro hi (And.intro k1 k2))
      have HR2 := hr.out
      rw [List.drop_eq_getElem_cons hlt, List.all_cons] at HR2
      have HR := hid HR2; clear HR2 hr hi k1 k2
      have hlt2 : (j : Int) < (l.length : Int) := by omega
      generalize l[j] = x at *
      go_wp2_with fail
      refine (clo2_any x n hn _ a1 c1 O HT.out.1 HT.out.2.1 HT.out.2.2 (HO.out _ B)).mono ?_
      rintro e w2 ⟨rfl, hb2⟩
      replace B := below_next B hb2
      clear hb2
      cases hq : rowOk n x with
      | true =>
        have HR3 := HR.out
        rw [hq, Bool.true_and] at HR3
        have HR4 := hid HR3; clear HR3 hq
        go_wp2_with fail
        go_roundw
        case rel => exact ⟨j + 1, by omega, by go_num, B, HR4⟩
        case measure => simp [intOf]; omega
      | false =>
        have HR3 := HR.out
        rw [hq, Bool.false_and] at HR3
        have HR4 := hid HR3; clear HR3 hq
        go_wp2_with fail
        go_ret
        exact ⟨j, rfl, by rw [← HR4.out]; simp, B⟩
    · have HR2 := hr.out
      rw [List.drop_of_length_le (by omega), List.all_nil] at HR2
      have HR := hid HR2; clear HR2
      have hlt2 : ¬ ((j : Int) < (l.length : Int)) := by omega
      go_wp2_with fail
      go_ret
      exact ⟨-1, rfl, by rw [← HR.out]; simp, B⟩
set_option maxHeartbeats 400000 in
theorem cfR_any (l : List (List Int)) (n : Nat) (hn : n ≤ 1000000) (w : World) (a : Option Addr) (c O : Nat) (hl : RowsIn Any w l a) (hc : l.length ≤ c) (hc2 : c ≤ maxLen) (hO : w.cell? ⟨O, 0, none⟩ = some (.int .i64 n)) :
    Calls Try.prog 67 #[.slice a l.length c, .func (.func 68) #[] #[.pointer (some ⟨O, 0, none⟩)]] w (Ret (.bool (!l.all (rowOk n))) w) := by
  have HH := hid (ixR_any l n hn w a c O hl hc hc2 hO)
  go_enter Try.func67, Try.ntmps67
  go_wp2_with fail
  refine HH.out.mono ?_
  rintro e w2 ⟨i, rfl, hi, hb⟩
  have HI := hid hi; clear hi
  go_wp2_with fail
  go_ret
  exact Ret.mk (bool_val HI.out) hb

set_option maxRecDepth 100000 in
set_option maxHeartbeats 2000000 in
theorem valid_any (g : G2) (w : World) (x : Value) (hx : GrIn Any w g x) : Calls Try.prog 35 #[x] w (Ret (.bool (okG g)) w) := by
  obtain ⟨a, c, b, d, rfl, hc, hc2, hi, hd, hd2, hp⟩ := hx
  have HS := hid (fun (W : World) (M : Below w.heap.size w W) => cfS_any g.states W a c (hi.below M) hc hc2)
  have HR := hid (fun (hn : g.states.length ≤ 60) (O : Nat) (W : World) (M : Below w.heap.size w W) (hO : W.cell? ⟨O, 0, none⟩ = some (.int .i64 g.states.length)) => cfR_any g.next g.states.length (by omega) W b d O (hp.below M) hd hd2 hO)
  have E := hid (show okG g = (decide (1 ≤ g.states.length ∧ g.states.length ≤ 60) && decide (g.next.length = g.states.length) && g.states.all stOk && g.next.all (rowOk g.states.length)) from rfl)
  unfold maxLen at hc2 hd2
  generalize okG g = r at *
  generalize g.states.all stOk = u at *
  generalize g.next.all (rowOk g.states.length) = v at *
  generalize g.states.length = n at *
  generalize g.next.length = m at *
  clear hi hp
  go_enter Try.func35, Try.ntmps35
  go_wp2_with fail
  refine (in_any n 1 60 _).mono ?_
  rintro e w1 ⟨rfl, rfl⟩
  have P := hid (boxp_next (below_alloc _ (.cells #[.int .i64 n] 3)) (boxp_at (w := w) (a := .slice a n c) (b := .slice b m d) (t := 26) rfl))
  by_cases h1 : 1 ≤ n ∧ n ≤ 60
  · have e1 : inB (n : Int) 1 60 = true := by simp [inB]; omega
    rw [e1]
    clear e1
    by_cases h2 : m = n
    · subst h2
      have e2 : ((m : Int) == (m : Int)) = true := by simp
      have E2 := hid (show r = (u && v) by rw [E.out]; simp [h1])
      clear E
      go_wp2_with fail
      refine (HS.out _ (by repeat (first | exact Below.refl _ _ | assumption | refine below_a ?_ _ | refine below_o ?_ _ | refine below_d ?_ | refine below_n ?_ _ | refine below_s ?_ (by first | (simp; done) | (simp; omega) | omega) _))).mono ?_
      rintro e w2 ⟨rfl, hb⟩
      have B := hid (below_next (show Below w.heap.size w _ from (by repeat (first | exact Below.refl _ _ | assumption | refine below_a ?_ _ | refine below_o ?_ _ | refine below_d ?_ | refine below_n ?_ _ | refine below_s ?_ (by first | (simp; done) | (simp; omega) | omega) _))) hb)
      replace P := hid (boxp_next hb P.out)
      have N := hid (show w2.cell? ⟨w.heap.size + 1, 0, none⟩ = some (.int .i64 m) by rw [hb.cell (p := ⟨w.heap.size + 1, 0, none⟩) (by simp)]; simp)
      clear hb
      cases u with
      | false =>
        go_wp2_with fail
        go_ret
        exact Ret.mk (bool_val (by rw [E2.out]; rfl)) B.out
      | true =>
        obtain ⟨p0, p1, p2, p3, p4⟩ := P.out
        go_wp2_with fail
        refine (HR.out h1.2 (w.heap.size + 1) _ B.out N.out).mono ?_
        rintro e w3 ⟨rfl, hb⟩
        go_wp2_with fail
        go_ret
        exact Ret.mk (bool_val (by rw [E2.out]; simp)) (below_next B.out hb)
    · have e2 : ((m : Int) == (n : Int)) = false := by simp; omega
      have E2 := hid (show r = false by rw [E.out]; simp [h2])
      go_wp2_with fail
      go_ret
      exact Ret.mk (bool_val (by rw [E2.out])) (by repeat (first | exact Below.refl _ _ | assumption | refine below_a ?_ _ | refine below_o ?_ _ | refine below_d ?_ | refine below_n ?_ _ | refine below_s ?_ (by first | (simp; done) | (simp; omega) | omega) _))
  · have e1 : inB (n : Int) 1 60 = false := by simp [inB]; omega
    have E2 := hid (show r = false by rw [E.out]; simp [h1])
    rw [e1]
    clear e1 h1
    go_wp2_with fail
    go_ret
    exact Ret.mk (bool_val (by rw [E2.out])) (by repeat (first | exact Below.refl _ _ | assumption | refine below_a ?_ _ | refine below_o ?_ _ | refine below_d ?_ | refine below_n ?_ _ | refine below_s ?_ (by first | (simp; done) | (simp; omega) | omega) _))
end Gr
end Go.Proofs.Ytfemikebklmlpaa
namespace Go.Proofs.Ytfemikebklmlpaa
open Go.RowKit
open Go.Proofs.Ytfemikebklmlpaa.State (PairIn)
open Go.Proofs.Ytfemikebklmlpaa.Sys
set_option linter.unusedVariables false
set_option linter.unusedSimpArgs false
namespace Gr

theorem rn_pair {p : Nat → Prop} {w : World} {s : Sy} {ls vs : List Int} {a b : Option Addr} {c d : Nat} (h : PairIn p w ls vs (.agg #[.slice a ls.length c, .slice b vs.length d])) (hn : NilO (.agg #[.slice a ls.length c, .slice b vs.length d])) (ho : State.okSt s ls vs = true) : RN p w ls a c ∧ RN p w vs b d := by
  obtain ⟨a', b', c', d', e, h1, h2, h3, h4, h5, h6⟩ := h
  simp at e
  obtain ⟨⟨rfl, rfl⟩, rfl, rfl⟩ := e
  obtain ⟨n1, n2⟩ := hn _ _ _ _ _ _ rfl
  have hl := okSt_lens ho
  exact ⟨⟨h3, h4, h1, n1, by omega⟩, ⟨h5, h6, h2, n2, by omega⟩⟩
theorem pair_rn {p : Nat → Prop} {w : World} {ls vs : List Int} {a b : Option Addr} {c d : Nat} (h1 : RN p w ls a c) (h2 : RN p w vs b d) : PairIn p w ls vs (.agg #[.slice a ls.length c, .slice b vs.length d]) ∧ NilO (.agg #[.slice a ls.length c, .slice b vs.length d]) :=
  ⟨⟨a, b, c, d, rfl, h1.2.2.1, h2.2.2.1, h1.1, h1.2.1, h2.1, h2.2.1⟩, fun a' b' c' d' n m e => by
    simp at e
    obtain ⟨⟨rfl, _, rfl⟩, rfl, _, rfl⟩ := e
    exact ⟨h1.2.2.2.1, h2.2.2.2.1⟩⟩

/-- a graph of states of a system, being built in its variable O -/
def BSt (s : Sy) (W0 : World) (O : Nat) (x : Option Nat) (vs vn : Value) (sts : List S2) (nx : List (List Int)) (W : World) : Prop := GSt W0.heap.size O x vs vn ⟨sts, nx⟩ W ∧ Below W0.heap.size W0 W ∧ ∀ t, t ∈ sts → State.okSt s t.locs t.vals = true
theorem BSt.next {s : Sy} {W0 W W' : World} {O : Nat} {x : Option Nat} {vs vn : Value} {sts : List S2} {nx : List (List Int)} (h : BSt s W0 O x vs vn sts nx W) (hb : Below W.heap.size W W') : BSt s W0 O x vs vn sts nx W' := ⟨h.1.next hb, below_next h.2.1 hb, h.2.2⟩
theorem BSt.re {s : Sy} {W0 W : World} {O : Nat} {x x' : Option Nat} {vs vn : Value} {sts : List S2} {nx : List (List Int)} (h : BSt s W0 O x vs vn sts nx W) (hx : ∀ b, x' = some b → W.heap.size ≤ b ∨ x = some b) (hx2 : ∀ b, x' = some b → b < W.heap.size) : BSt s W0 O x' vs vn sts nx W :=
  ⟨⟨h.1.1.re (Nat.le_refl _) fun b _ h2 h3 h4 => ⟨h2, fun e => by rcases hx b e with h | h; omega; exact h3 h⟩, h.1.2.1, h.1.2.2.1, hx2⟩, h.2.1, h.2.2⟩
/-- a new row of its own, kept apart -/
theorem BSt.apart {s : Sy} {W0 W W' : World} {O : Nat} {v vs vn : Value} {sts : List S2} {nx : List (List Int)} (h : BSt s W0 O none vs vn sts nx W) (hb : Below W.heap.size W W') (hx : ∀ b, v.ownBlock = some b → W.heap.size ≤ b ∧ b < W'.heap.size) : BSt s W0 O v.ownBlock vs vn sts nx W' := by
  have h1 : GOwn W0.heap.size O v.ownBlock vs vn ⟨sts, nx⟩ W := h.1.1.re (Nat.le_refl _) fun b _ h2 _ h4 => ⟨h2, fun e => by have := (hx b e).1; omega⟩
  exact ⟨⟨h1.next hb, boxp_next hb h.1.2.1, h.1.2.2.1, fun b e => (hx b e).2⟩, below_next h.2.1 hb, h.2.2⟩
theorem below_grown {B : Nat} {W0 W W' : World} {r : Option Nat} (hb : Below B W0 W) (hB : B ≤ W.heap.size) (hg : W.grownBy W' r) (hr : ∀ b, r = some b → B ≤ b) : Below B W0 W' :=
  ⟨hg.os.trans hb.os, hg.tape.trans hb.tape, hg.output.trans hb.output, Nat.le_trans hb.size hg.size, fun k hk => (hg.block k (Nat.lt_of_lt_of_le hk hB) (fun e => by have := hr k e.symm; omega)).trans (hb.block k hk)⟩
/-- the row kept apart grows -/
theorem BSt.other {s : Sy} {W0 W W' : World} {O : Nat} {v v' vs vn : Value} {l l' : List Int} {sts : List S2} {nx : List (List Int)} (h : BSt s W0 O v.ownBlock vs vn sts nx W) (hv0 : OwnI W0.heap.size v l W) (hg : W.grownBy W' v.ownBlock) (hv : v'.ownBlock = v.ownBlock ∨ v'.ownBlock = some W.heap.size) (hO : v.ownBlock ≠ some O) (hv1 : OwnI W0.heap.size v' l' W') : BSt s W0 O v'.ownBlock vs vn sts nx W' :=
  ⟨h.1.other (l := l) hg hv hO fun b e => (hv1.blk b e).2, below_grown h.2.1 h.2.1.size hg fun b e => (hv0.blk b e).1, h.2.2⟩
theorem BSt.stAt {s : Sy} {W0 W : World} {O : Nat} {x : Option Nat} {vs vn : Value} {sts : List S2} {nx : List (List Int)} (h : BSt s W0 O x vs vn sts nx W) {k : Nat} (hk : k < sts.length) :
    ∃ b c a1 n1 a2 n2, vs = .slice (some ⟨b, 0, none⟩) sts.length c ∧ b < W.heap.size ∧ W.cell? ⟨b, k * 2, none⟩ = some (.slice a1 sts[k].locs.length n1) ∧ W.cell? ⟨b, k * 2 + 1, none⟩ = some (.slice a2 sts[k].vals.length n2) ∧ PairIn Any W sts[k].locs sts[k].vals (.agg #[.slice a1 sts[k].locs.length n1, .slice a2 sts[k].vals.length n2]) ∧ NilO (.agg #[.slice a1 sts[k].locs.length n1, .slice a2 sts[k].vals.length n2]) ∧ State.okSt s sts[k].locs sts[k].vals = true := by
  obtain ⟨b, c, a1, n1, a2, n2, e, h1, h2, h3, h4, h5⟩ := h.1.1.stAt (g := ⟨sts, nx⟩) hk
  have hp := pair_rn (h4.frame (q := Any) (Nat.le_refl _) fun _ _ _ => ⟨trivial, rfl⟩) (h5.frame (q := Any) (Nat.le_refl _) fun _ _ _ => ⟨trivial, rfl⟩)
  exact ⟨b, c, a1, n1, a2, n2, e, h1, h2, h3, hp.1, hp.2, h.2.2 _ (List.getElem_mem hk)⟩
theorem BSt.shape {s : Sy} {W0 W : World} {O : Nat} {x : Option Nat} {vs vn : Value} {sts : List S2} {nx : List (List Int)} (h : BSt s W0 O x vs vn sts nx W) : ∃ a c b d, vs = .slice a sts.length c ∧ vn = .slice b nx.length d ∧ sts.length ≤ c ∧ c ≤ maxLen ∧ nx.length ≤ d ∧ d ≤ maxLen ∧ StsIn Any W sts a := by
  obtain ⟨a, c, b, d, h1, h2, h3, h4, h5, h6, h7, _⟩ := h.1.1.shape
  exact ⟨a, c, b, d, h1, h2, h3, h4, h5, h6, h7.frame (Nat.le_refl _) fun _ _ _ => ⟨trivial, rfl⟩⟩
/-- what does not touch the graph, nor the row kept apart -/
theorem BSt.noown {s : Sy} {W0 W : World} {O : Nat} {x : Option Nat} {vs vn : Value} {sts : List S2} {nx : List (List Int)} (h : BSt s W0 O x vs vn sts nx W) : (∀ b, vs.ownBlock = some b → W0.heap.size ≤ b ∧ b < W.heap.size ∧ b ≠ O ∧ x ≠ some b) ∧ (∀ b, vn.ownBlock = some b → W0.heap.size ≤ b ∧ b < W.heap.size ∧ b ≠ O ∧ x ≠ some b) ∧ W0.heap.size ≤ O ∧ O < W.heap.size := by
  have hb := h.1.1.blk
  obtain ⟨cs, cn, _, _, _, _, h5, h6⟩ := h.1.1
  exact ⟨fun b e => ⟨(hb.1 b e).1, (hb.1 b e).2, (h5 b e).1, (h5 b e).2.1⟩, fun b e => ⟨(hb.2 b e).1, (hb.2 b e).2, (h6 b e).1, (h6 b e).2⟩, h.1.2.2.1, h.1.2.1.1⟩

theorem wp_b_st {ops : Array Oper} {rest : List Oper} {o : Oper} {a : Act} {Q : Exit → Act → World → Prop} {w : World} (hgd : o.guard = none) (s y : Operand)
    (ho : o.op = .call { callee := .builtin .append, args := #[s, y], argTypes := #[23, 23] }) (sy : Sy) (W0 : World) (O : Nat) (x : Option Nat) (vs vn : Value) (sts : List S2) (nx : List (List Int)) (t : S2) (b c : Nat) (a1 a2 : Option Addr) (n1 n2 : Nat) (hs : a.eval s = vs) (hy : a.eval y = .slice (some ⟨b, 0, none⟩) 1 c)
    (h : BSt sy W0 O x vs vn sts nx w) (c0 : w.cell? ⟨b, 0, none⟩ = some (.slice a1 t.locs.length n1)) (c1 : w.cell? ⟨b, 1, none⟩ = some (.slice a2 t.vals.length n2)) (r1 : RN (pX W0.heap.size O x vs vn) w t.locs a1 n1) (r2 : RN (pX W0.heap.size O x vs vn) w t.vals a2 n2) (hok : State.okSt sy t.locs t.vals = true) (hl : sts.length ≤ 1000)
    (k : ∀ v' w', BSt sy W0 O x v' vn (sts ++ [t]) nx (w'.setCell ⟨O, 0, none⟩ v') → BoxP w' O vs vn → w.grownBy w' vs.ownBlock → (v'.ownBlock = vs.ownBlock ∨ v'.ownBlock = some w.heap.size) → wpList Try.prog ops Q rest (a.put o.dst v') w') :
    wpList Try.prog ops Q (o :: rest) a w :=
  wp_push_st hgd s y ho W0.heap.size O x vs vn sts nx t b c a1 a2 n1 n2 hs hy h.1 c0 c1 r1 r2 hl fun v' w' i1 i2 i3 i4 => k v' w' ⟨i1, (below_grown h.2.1 h.2.1.size i3 fun b e => (h.1.1.blk.1 b e).1).setCell h.1.2.2.1 _, fun t' ht' => by
    rcases List.mem_append.1 ht' with h' | h'
    · exact h.2.2 t' h'
    · simp at h'; subst h'; exact hok⟩ i2 i3 i4
theorem wp_b_ro {ops : Array Oper} {rest : List Oper} {o : Oper} {a : Act} {Q : Exit → Act → World → Prop} {w : World} (hgd : o.guard = none) (s y : Operand)
    (ho : o.op = .call { callee := .builtin .append, args := #[s, y], argTypes := #[24, 24] }) (sy : Sy) (W0 : World) (O : Nat) (vs vn v : Value) (sts : List S2) (nx : List (List Int)) (t : List Int) (b c : Nat) (hs : a.eval s = vn) (hy : a.eval y = .slice (some ⟨b, 0, none⟩) 1 c)
    (h : BSt sy W0 O v.ownBlock vs vn sts nx w) (hv : OwnI W0.heap.size v t w) (hi : ∀ n, n ∈ t → i64 n) (ht : t.length ≤ 1000) (hO : v.ownBlock ≠ some O) (c0 : w.cell? ⟨b, 0, none⟩ = some v) (hl : nx.length ≤ 1000)
    (k : ∀ v' w', BSt sy W0 O none vs v' sts (nx ++ [t]) (w'.setCell ⟨O, 1, none⟩ v') → BoxP w' O vs vn → wpList Try.prog ops Q rest (a.put o.dst v') w') :
    wpList Try.prog ops Q (o :: rest) a w :=
  wp_push_ro hgd s y ho W0.heap.size O vs vn v sts nx t b c hs hy h.1 hv hi ht hO c0 hl fun v' w' i1 i2 i3 => k v' w' ⟨i1, (below_grown h.2.1 h.2.1.size i3 fun b e => (h.1.1.blk.2 b e).1).setCell h.1.2.2.1 _, h.2.2⟩ i2

/-- a row of steps, as it lies -/
def SG (g : Nat) (L : List Stp) (W : World) : Prop := g < W.heap.size ∧ ∀ j (hj : j < L.length), W.cell? ⟨g, j * 4, none⟩ = some (.int .i64 L[j].p) ∧ W.cell? ⟨g, j * 4 + 1, none⟩ = some (.int .i64 L[j].e) ∧ W.cell? ⟨g, j * 4 + 2, none⟩ = some (.int .i64 L[j].q) ∧ W.cell? ⟨g, j * 4 + 3, none⟩ = some (.int .i64 L[j].f)
theorem SG.keep {g : Nat} {L : List Stp} {W W' : World} (h : SG g L W) (hs : W.heap.size ≤ W'.heap.size) (hb : W'.heap[g]? = W.heap[g]?) : SG g L W' := by
  refine ⟨Nat.lt_of_lt_of_le h.1 hs, fun j hj => ?_⟩
  obtain ⟨h1, h2, h3, h4⟩ := h.2 j hj
  exact ⟨(World.cell?_of_block (w := W) (a := ⟨g, j * 4, none⟩) hb).trans h1, (World.cell?_of_block (w := W) (a := ⟨g, j * 4 + 1, none⟩) hb).trans h2, (World.cell?_of_block (w := W) (a := ⟨g, j * 4 + 2, none⟩) hb).trans h3, (World.cell?_of_block (w := W) (a := ⟨g, j * 4 + 3, none⟩) hb).trans h4⟩
theorem SG.next {g : Nat} {L : List Stp} {W W' : World} (h : SG g L W) (hb : Below W.heap.size W W') : SG g L W' := h.keep hb.size (hb.block g h.1)
theorem SG.of {B g n c : Nat} {L : List Stp} {W : World} (h : OwnS B (.slice (some ⟨g, 0, none⟩) n c) L W) (hg : g < W.heap.size) : SG g L W := ⟨hg, fun j hj => by
  obtain ⟨h1, h2, h3, h4, _⟩ := OwnS.cell h hj
  exact ⟨h1, h2, h3, h4⟩⟩
/-- what a built graph comes to -/
def BgV (w : World) (v : Value) (w' : World) : Prop := ∃ vs vn g ok O, v = .tuple #[.agg #[vs, vn], .bool ok] ∧ GOwn w.heap.size O none vs vn g w' ∧ g.states.length ≤ 60 ∧ g.next.length = g.states.length ∧ (ok = true → 1 ≤ g.states.length)
theorem BgV.no (w w' : World) : BgV w (.tuple #[.agg #[.slice none 0 0, .slice none 0 0], .bool false]) w' := ⟨_, _, ⟨[], []⟩, false, 0, rfl, GOwn.nil .., by simp, rfl, fun h => by cases h⟩
end Gr
end Go.Proofs.Ytfemikebklmlpaa
