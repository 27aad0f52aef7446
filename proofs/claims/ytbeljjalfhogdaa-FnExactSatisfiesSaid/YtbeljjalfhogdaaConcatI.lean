/- slices.Concat of two rows of numbers. Conditions: those of each contract. -/
import Derived.Test.YtbeljjalfhogdaaRowsMade
import Derived.Test.YtbeljjalfhogdaaCellsOwn
import Derived.Test.YtbeljjalfhogdaaGrow
import Derived.Lib.SliceRun
namespace Go.Proofs.Ytbeljjalfhogdaa
open Go.RowKit

/-- a row of numbers of one's own that may grow -/
def OwnI (B : Nat) (v : Value) (l : List Int) (w : World) : Prop := w.ownsRow B 3 1 v l.length (l.map (Value.int .i64))
/-- append to nil of n zeros, at the operation -/
theorem wp_app_make {ops : Array Oper} {rest : List Oper} {o : Oper} {a : Act} {Q : Exit → Act → World → Prop} {w : World} (hgd : o.guard = none) (s x : Operand)
    (ho : o.op = .call { callee := .builtin .append, args := #[s, x], argTypes := #[23, 3] }) (n : Nat) (hs : a.eval s = .slice none 0 0) (hx : a.eval x = .int .i64 n) (h0 : 0 < n) (hn : n ≤ 1000000)
    (h : ∀ c Z, n ≤ c → c ≤ maxLen → Array.size Z = c → wpList Try.prog ops Q rest (a.put o.dst (.slice (some ⟨w.heap.size, 0, none⟩) n c)) (w.drew.alloc (.cells Z 3))) : wpList Try.prog ops Q (o :: rest) a w := by
  obtain ⟨i, hi, hz, hz1, hz2⟩ := info_parts ints_info
  have e : (Builtin.append_ #[23, 3] o.type #[.slice none 0 0, .int .i64 n]).run Try.prog w =
      .ok (.slice (some ⟨w.heap.size, 0, none⟩) n (grownCap w n 0 3)) (w.drew.alloc (.cells (Builtin.zeroCells (Value.int .i64 0).cells n ++ Builtin.zeroCells (Value.int .i64 0).cells (grownCap w n 0 3 - n)) 3)) := by
    have k1 : n ≠ 0 := by omega
    have k2 : IntKind.i64.wrap (n : Int) = n := IntWalk.i64_in _ (by omega)
    have k3 : ¬ (9223372036854775807 < (n : Int)) := by omega
    have k4 : ¬ (281474976710656 < Builtin.nextslicecap n 0 * 8) := by rw [nextslicecap_zero h0]; omega
    have k5 : ¬ (281474976710656 < (n : Int) * 8) := by omega
    have k6 : ¬ ((n : Int) < 0) := by omega
    simp [Builtin.append_, run_underlying Try.underlying23, run_underlying Try.underlying3, sizeOf, typeInfo, zeroValue, hi, hz, hz1, hz2, asInt, asIntOf, k1, k2, k3, k4, k5, k6, Question.forced, run_firstCells_none, newRow, grownCap]
  refine wpList_plain hgd fun K hK => ?_
  unfold Oper.wp execOp
  simp only [ho, resolve, invoke, builtin, Sem.run_bind, Sem.run_pure, Result.andThen_ok, List.map_toArray, List.map_cons, List.map_nil, hs, hx, e]
  exact hK _ _ (h _ _ (grownCap_ge w _ 0 _) (grownCap_le_maxLen w _ 0 _ (by unfold maxLen; omega)) (by have := grownCap_ge w n 0 3; simp [size_zeroCells, Value.cells]; omega))
def GrowPost (w : World) (e : Ending) (w' : World) : Prop := ∃ v, e = .returned v ∧ OwnI w.heap.size v [] w' ∧ Below w.heap.size w w'

set_option maxHeartbeats 2000000 in
theorem grow_any (n : Nat) (w : World) (hn : n ≤ 1000000) : Calls Try.prog 79 #[.slice none 0 0, .int .i64 n] w (GrowPost w) := by
  have h1 : ¬ ((n : Int) < 0) := by omega
  by_cases h0 : n = 0
  · subst h0
    go_enter Try.func79, Try.ntmps79
    go_wp2_with fail
    go_ret
    exact ⟨_, rfl, World.ownsRow_nil .., Below.refl _ _⟩
  · have f1 : (n : Int) > 0 := by omega
    have f2 : IntKind.i64.wrap (n : Int) = n := IntWalk.i64_in _ (by omega)
    go_enter Try.func79, Try.ntmps79
    go_wp2_with (at_builtin; refine wp_app_make rfl _ _ rfl n rfl rfl (by omega) hn ?_; intro c Z hc1 hc2 hZ)
    go_ret
    exact ⟨_, rfl, ⟨by simp, .inr ⟨w.heap.size, c, Z, rfl, Nat.le_refl _, heap_alloc_new w _, Nat.zero_le _, hc2, by omega, by simp⟩⟩, (by repeat (first | exact Below.refl _ _ | assumption | refine below_a ?_ _ | refine below_o ?_ _ | refine below_d ?_ | refine below_n ?_ _ | refine below_s ?_ (by first | (simp; done) | (simp; omega) | omega) _))⟩

/-- append of a nil slice, at the operation -/
theorem wp_app_nil {ops : Array Oper} {rest : List Oper} {o : Oper} {a : Act} {Q : Exit → Act → World → Prop} {w : World} (hgd : o.guard = none) (s x : Operand)
    (ho : o.op = .call { callee := .builtin .append, args := #[s, x], argTypes := #[23, 23] }) (b : Option Addr) (n c : Nat) (hs : a.eval s = .slice b n c) (hx : a.eval x = .slice none 0 0) (hc : n ≤ c)
    (h : wpList Try.prog ops Q rest (a.put o.dst (.slice b n c)) w) : wpList Try.prog ops Q (o :: rest) a w := by
  obtain ⟨i, hi, hz, hz1, hz2⟩ := info_parts ints_info
  have e : (Builtin.append_ #[23, 23] o.type #[.slice b n c, .slice none 0 0]).run Try.prog w = .ok (.slice b n c) w := by
    cases b with
    | none => simp [Builtin.append_, run_underlying Try.underlying23, sizeOf, typeInfo, hi, hc, Builtin.lenOf, run_firstCells_none]
    | some ad => simp [Builtin.append_, run_underlying Try.underlying23, sizeOf, typeInfo, hi, hc, Builtin.lenOf, run_firstCells_none, storeCells]
  refine wpList_plain hgd fun K hK => ?_
  unfold Oper.wp execOp
  simp only [ho, resolve, invoke, builtin, Sem.run_bind, Sem.run_pure, Result.andThen_ok, List.map_toArray, List.map_cons, List.map_nil, hs, hx, e]
  exact hK _ _ h
/-- append of numbers to a row of one's own, at the operation -/
theorem wp_app_own {ops : Array Oper} {rest : List Oper} {o : Oper} {a : Act} {Q : Exit → Act → World → Prop} {w : World} (hgd : o.guard = none) (s x : Operand)
    (ho : o.op = .call { callee := .builtin .append, args := #[s, x], argTypes := #[23, 23] }) (B : Nat) (v : Value) (acc l : List Int) (ad : Option Addr) (c : Nat) (hs : a.eval s = v) (hx : a.eval x = .slice ad l.length c) (hn : ad = none → c = 0)
    (hv : OwnI B v acc w) (hB : B ≤ w.heap.size) (hl : IntsIn Any w ad l) (h1 : acc.length ≤ 1000000) (h2 : l.length ≤ 1000000)
    (h : ∀ v' w', OwnI B v' (acc ++ l) w' → w.grownBy w' v.ownBlock → wpList Try.prog ops Q rest (a.put o.dst v') w') :
    wpList Try.prog ops Q (o :: rest) a w := by
  cases ad with
  | none =>
    obtain rfl : c = 0 := hn rfl
    have hl0 : l = [] := by
      rcases hl.1 with h0 | ⟨b, o', h0, _⟩
      · simpa using h0
      · cases h0
    subst hl0
    have hsh : ∃ b n c, v = .slice b n c ∧ n ≤ c := by
      rcases hv.2 with ⟨rfl, _⟩ | ⟨g, cap, cur, rfl, _, _, hc, _⟩
      · exact ⟨_, _, _, rfl, Nat.le_refl _⟩
      · exact ⟨_, _, _, rfl, hc⟩
    obtain ⟨b, n, c, rfl, hc⟩ := hsh
    exact wp_app_nil hgd s x ho b n c hs hx hc (h _ _ (by simpa using hv) (World.grownBy.refl _ _))
  | some ad =>
    obtain ⟨ri, hi, hz, hs1, hs2⟩ := info_parts ints_info
    refine wpList_append_own_at _ hgd s x 23 ho B 3 ri (.int .i64 0) 1 8 Try.underlying23 hi hz hs1 hs2 rfl (by omega) v acc.length _ hs hv ad l.length c (l.map (Value.int .i64)) hx (by simp) (fun j u hj => ?_) (fun u hu => ?_) (by simp only [maxLen]; omega) (by omega) hB ?_
    · rcases hl.1 with h0 | ⟨b, o', h1, h2, h3, h4⟩
      · rw [h0] at hj; simp at hj
      · obtain rfl : ad = ⟨b, o', none⟩ := by simpa using h1
        have := h4 j u hj
        have e : Addr.add ⟨b, o', none⟩ j = ⟨b, o' + j, none⟩ := by unfold Addr.add; split <;> simp_all
        rw [e]
        exact this
    · simp at hu
      obtain ⟨n, _, rfl⟩ := hu
      rfl
    · intro v2 w3 hown hgrow _ _
      exact h v2 w3 (by unfold OwnI; rw [List.length_append, List.map_append]; exact hown) hgrow

theorem below_grown {w wr w' : World} {v : Value} {l : List Int} (hb : Below w.heap.size w wr) (hv : OwnI w.heap.size v l wr) (hg : wr.grownBy w' v.ownBlock) : Below w.heap.size w w' :=
  ⟨hg.os.trans hb.os, hg.tape.trans hb.tape, hg.output.trans hb.output, Nat.le_trans hb.size hg.size, fun k hk => by
    rw [hg.block k (Nat.lt_of_lt_of_le hk hb.size) (fun e => by have := (hv.lt k e.symm).1; omega), hb.block k hk]⟩
/-- two rows in a row of slices -/
def Two2 (w : World) (q : Nat) (a b : Option Addr) (l m : List Int) (c d : Nat) : Prop := q < w.heap.size ∧ w.cell? ⟨q, 0, none⟩ = some (.slice a l.length c) ∧ w.cell? ⟨q, 1, none⟩ = some (.slice b m.length d)
def ConPost (l : List Int) (w : World) (e : Ending) (w' : World) : Prop := ∃ v, e = .returned v ∧ OwnI w.heap.size v l w' ∧ Below w.heap.size w w'
def accL (l m : List Int) (j : Nat) : List Int := if j = 0 then [] else if j = 1 then l else l ++ m

set_option maxRecDepth 100000 in
set_option maxHeartbeats 2000000 in
theorem concat_any (w : World) (q : Nat) (a b : Option Addr) (l m : List Int) (c d : Nat) (ht : Two2 w q a b l m c d) (hl : IntsIn Any w a l) (hm : IntsIn Any w b m) (hna : a = none → c = 0) (hnb : b = none → d = 0) (h1 : l.length ≤ 1000) (h2 : m.length ≤ 1000) :
    Calls Try.prog 47 #[.slice (some ⟨q, 0, none⟩) 2 2] w (ConPost (l ++ m) w) := by
  go_enter Try.func47, Try.ntmps47
  go_wp2_with fail
  go_loopw [3, 5, 11] (fun nn _ i wr => ∃ (j : Nat) (z : Int), j ≤ 2 ∧ wr = w ∧ i = .int .i64 j ∧ nn = .int .i64 z ∧ z = (accL l m j).length) (fun _ _ i _ => 2 - (intOf i).toNat)
  case atStart => exact ⟨0, 0, by omega, rfl, rfl, rfl, rfl⟩
  case round =>
    obtain ⟨j, z, hj, rfl, rfl, rfl, hz⟩ := hrel
    rcases (by omega : j = 0 ∨ j = 1 ∨ j = 2) with rfl | rfl | rfl
    · simp [accL] at hz
      subst hz
      obtain ⟨k1, k2, k3⟩ := ht
      have f1 : IntKind.i64.wrap (l.length : Int) = l.length := IntWalk.i64_in _ (by omega)
      have f2 : ¬ ((l.length : Int) < 0) := by omega
      go_wp2_with fail
      go_roundw
      case rel => exact ⟨1, _, by omega, trivial, rfl, rfl, by simp [accL]⟩
      case measure => simp [intOf]
    · simp [accL] at hz
      subst hz
      obtain ⟨k1, k2, k3⟩ := ht
      have f1 : IntKind.i64.wrap ((l.length : Int) + m.length) = l.length + m.length := IntWalk.i64_in _ (by omega)
      have f2 : ¬ ((l.length : Int) + m.length < 0) := by omega
      go_wp2_with fail
      go_roundw
      case rel => exact ⟨2, _, by omega, trivial, rfl, rfl, by simp [accL]⟩
      case measure => simp [intOf]
    · simp [accL] at hz
      obtain ⟨n, hn⟩ : ∃ n : Nat, n = l.length + m.length := ⟨_, rfl⟩
      obtain rfl : z = (n : Int) := by omega
      have hn2 : n ≤ 1000000 := by omega
      have HT := hid ht
      clear hz hn ht
      go_wp2_with fail
      refine (grow_any n wr hn2).mono ?_
      rintro e w1 ⟨v, rfl, hv, hb⟩
      have HV := hid hv
      have HB := hid hb
      clear hv hb
      go_wp2_with fail
      go_loopw [6, 8, 27] (fun u _ i w2 => ∃ (j : Nat) (v : Value), j ≤ 2 ∧ i = .int .i64 j ∧ u = v ∧ Hid (OwnI wr.heap.size v (accL l m j) w2 ∧ Below wr.heap.size wr w2)) (fun _ _ i _ => 2 - (intOf i).toNat)
      case atStart => exact ⟨0, v, by omega, rfl, rfl, hid ⟨HV.out, HB.out⟩⟩
      case round =>
        obtain ⟨j, v, hj, rfl, rfl, hr⟩ := hrel
        obtain ⟨k1, k2, k3⟩ := HT.out
        have hl2 := hid (hl.below hr.out.2)
        have hm2 := hid (hm.below hr.out.2)
        have hsz := hr.out.2.size
        have e2 := hr.out.2.cell (p := ⟨q, 0, none⟩) k1
        have e3 := hr.out.2.cell (p := ⟨q, 1, none⟩) k1
        rw [k2] at e2
        rw [k3] at e3
        have k4 : q < wr.heap.size := by omega
        clear k1 k2 k3
        rcases (by omega : j = 0 ∨ j = 1 ∨ j = 2) with rfl | rfl | rfl
        · go_wp2_with (at_builtin; refine wp_app_own rfl _ _ rfl _ _ (accL l m 0) l a c rfl rfl hna hr.out.1 hsz hl2.out (by simp [accL]) (by omega) ?_; intro v' w' hv' hg)
          have hbx := hid (below_grown hr.out.2 hr.out.1 hg)
          have hvx := hid (show OwnI _ v' (accL l m 1) w' from hv')
          go_wp2_with fail
          go_roundw
          case rel => exact ⟨1, _, by omega, rfl, rfl, hid ⟨hvx.out, hbx.out⟩⟩
          case measure => simp [intOf]
        · go_wp2_with (at_builtin; refine wp_app_own rfl _ _ rfl _ _ (accL l m 1) m b d rfl rfl hnb hr.out.1 hsz hm2.out (by simp [accL]; omega) (by omega) ?_; intro v' w' hv' hg)
          have hbx := hid (below_grown hr.out.2 hr.out.1 hg)
          have hvx := hid (show OwnI _ v' (accL l m 2) w' from hv')
          go_wp2_with fail
          go_roundw
          case rel => exact ⟨2, _, by omega, rfl, rfl, hid ⟨hvx.out, hbx.out⟩⟩
          case measure => simp [intOf]
        · go_wp2_with fail
          go_ret
          exact ⟨_, rfl, hr.out.1, hr.out.2⟩
end Go.Proofs.Ytbeljjalfhogdaa
