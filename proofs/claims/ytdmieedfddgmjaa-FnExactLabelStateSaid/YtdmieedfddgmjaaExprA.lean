/- The laws' own functions on trees: szExpr, toExpr, eqExpr: what each returns, for every tree. Conditions: those of each contract. -/
import Derived.Test.YtdmieedfddgmjaaRows
import Derived.Test.YtdmieedfddgmjaaMem
import Derived.WalkSpells
import Derived.WalkLawsBesides
import Derived.Test.YtdmieedfddgmjaaTrPlain
namespace Go.Proofs.Ytdmieedfddgmjaa
open Go.RowKit

namespace Expr

def SzT (t : Tr) : Prop := ∀ (w : World) (x : Value) (left : Int), TrIn Any w t x → left ≤ 1048576 → -1 ≤ left →
    Calls Try.prog 18 #[x, .int .i64 left] w (Ret (.int .i64 (szT t left)) w)
def SzL (l : List Tr) : Prop := ∀ (w : World) (a : Option Addr) (c : Nat) (left : Int), TrsIn Any w l a → left ≤ 1048576 → -1 ≤ left → l.length ≤ c → c ≤ maxLen →
    Calls Try.prog 6 #[.slice a l.length c, .int .i64 left] w (Ret (.int .i64 (szL l (left - l.length))) w)

set_option maxHeartbeats 400000 in
theorem szT_of (k v : Int) (kids : List Tr) (h : SzL kids) : SzT (.mk k v kids) := by
  intro w x left hx h1 h2
  rw [TrIn_mk] at hx
  obtain ⟨a, n, c, rfl, hk, hv, rfl, hc, hc2, hks⟩ := hx
  have hbd := szL_bd kids (left - kids.length) (by omega)
  by_cases hneg : szL kids (left - kids.length) < 0
  all_goals
    go_enter Try.func18, Try.ntmps18
    go_wp2_with fail
    refine (h _ a c left (TrsIn_alloc hks _) h1 h2 hc hc2).mono ?_
    rintro e w' ⟨rfl, hby⟩
    obtain ⟨y, rfl⟩ := bex hby
    clear hby
    go_wp2_with fail
    go_ret
    refine Ret.mk (int_val ?_) (by repeat (first | exact Below.refl _ _ | assumption | refine below_a ?_ _ | refine below_o ?_ _ | refine below_d ?_ | refine below_n ?_ _ | refine below_s ?_ (by first | (simp; done) | (simp; omega) | omega) _))
    simp only [szT]
    first | rw [if_pos (by omega)] | rw [if_neg (by omega)]

set_option maxHeartbeats 400000 in
theorem szL_of (l : List Tr) (h : ∀ t, t ∈ l → SzT t) : SzL l := by
  intro w a c left hl h1 h2 hc hc2
  unfold maxLen at hc2
  by_cases hneg : left - l.length < 0
  · go_enter Try.func6, Try.ntmps6
    go_wp2_with fail
    go_ret
    refine Ret.mk (int_val ?_) (Below.refl _ _)
    cases l <;> (simp only [szL]; rw [if_pos (by simpa using hneg)])
  · go_enter Try.func6, Try.ntmps6
    go_wp2_with fail
    go_loopw [1, 5] (fun u i wr => ∃ (k : Nat) (lf : Int), k ≤ l.length ∧ u = .int .i64 lf ∧ i = .int .i64 k ∧ 0 ≤ lf ∧ lf ≤ 1048576 ∧ Below w.heap.size w wr ∧ Hid (szL (l.drop k) lf = szL l (left - l.length)))
      (fun _ i _ => l.length - (intOf i).toNat)
    case atStart => exact ⟨0, _, Nat.zero_le _, rfl, rfl, by omega, by omega, Below.refl _ _, hid rfl⟩
    case round =>
      obtain ⟨k, lf, hk, rfl, rfl, h0, h5, hb, hr⟩ := hrel
      by_cases hlt : k < l.length
      · obtain ⟨b, o, c0, c1, c2, t, rfl, gb, g0, g1, g2, hT⟩ := TrsIn_round hl hb hlt
        go_wp2_with fail
        refine (h t hT.out.2.1 _ _ lf hT.out.1 h5 (by omega)).mono ?_
        rintro e w2 ⟨rfl, hby⟩
        obtain ⟨y, rfl⟩ := bex hby
        clear hby
        have hbd := szT_bd t lf (by omega) h5
        have hr2 : Hid (szL (l.drop (k + 1)) (szT t lf) = szL l (left - l.length)) := by
          have := hr.out
          rw [hT.out.2.2.1] at this
          simp only [szL] at this
          rw [if_neg (by omega)] at this
          exact this
        by_cases hn : szT t lf < 0
        · go_wp2_with fail
          go_ret
          refine Ret.mk (int_val ?_) (by repeat (first | exact Below.refl _ _ | assumption | refine below_a ?_ _ | refine below_o ?_ _ | refine below_d ?_ | refine below_n ?_ _ | refine below_s ?_ (by first | (simp; done) | (simp; omega) | omega) _))
          rw [← hr2.out, szL_neg _ _ hn]
        · go_wp2_with fail
          go_roundw
          case rel => exact ⟨k + 1, _, by omega, rfl, by go_num, by omega, by omega, (by repeat (first | exact Below.refl _ _ | assumption | refine below_a ?_ _ | refine below_o ?_ _ | refine below_d ?_ | refine below_n ?_ _ | refine below_s ?_ (by first | (simp; done) | (simp; omega) | omega) _)), hr2⟩
          case measure => simp [intOf]; omega
      · have hr2 : lf = szL l (left - l.length) := by
          rw [← hr.out, List.drop_of_length_le (by omega)]
          simp only [szL]
          rw [if_neg (by omega)]
        have HR := hid hr2; clear hr2
        go_wp2_with fail
        go_ret
        exact Ret.mk (int_val HR.out) hb

theorem sz_any : ∀ t, SzT t := fun t => Tr.ind (fun k v kids ih => szT_of k v kids (szL_of kids ih)) t

/-! ### toExpr: a copy, in new memory -/

def ToT (t : Tr) : Prop := ∀ (w : World) (x : Value), TrIn Any w t x → Small t → Calls Try.prog 22 #[x] w (RetP (NewTr w.heap.size t) w)
def ToL (l : List Tr) : Prop := ∀ (w : World) (a : Option Addr) (c : Nat), TrsIn Any w l a → SmallL l → l.length ≤ c → c ≤ maxLen →
    Calls Try.prog 9 #[.slice a l.length c] w (RetP (fun v w' => ∃ c' f bs, v = .slice (some ⟨w.heap.size, 0, none⟩) l.length c' ∧ l.length ≤ c' ∧ c' ≤ maxLen ∧ Row w' w.heap.size (l.length * 3) f ∧
      TrsOwn w' f l 0 bs ∧ ∀ b, b ∈ bs → w.heap.size < b) w)

set_option maxHeartbeats 400000 in
theorem to_of (k v : Int) (kids : List Tr) (h : ToL kids) : ToT (.mk k v kids) := by
  intro w x hx hs
  rw [TrIn_mk] at hx
  obtain ⟨a, n, c, rfl, hk, hv, rfl, hc, hc2, hks⟩ := hx
  go_enter Try.func22, Try.ntmps22
  go_wp2_with fail
  refine (h _ a c (TrsIn_alloc (TrsIn_alloc (TrsIn_alloc hks _) _) _) hs.2 hc hc2).mono ?_
  rintro e w' ⟨u, rfl, ⟨c', f, bs, rfl, hc3, hc4, hrow, hown, hlt⟩, hby⟩
  obtain ⟨y, rfl⟩ := bex hby
  clear hby
  go_wp2_with fail
  refine bodyPost_ret (v := .agg #[.int .i64 k, .int .i64 v, .slice (some ⟨w.heap.size + 1 + 1 + 1, 0, none⟩) kids.length c']) (by simp [results, Try.results22, go_sem]) rfl (RetP.mk ?_ (by repeat (first | exact Below.refl _ _ | assumption | refine below_a ?_ _ | refine below_o ?_ _ | refine below_d ?_ | refine below_n ?_ _ | refine below_s ?_ (by first | (simp; done) | (simp; omega) | omega) _)))
  simp only [World.size_alloc] at hrow hlt
  generalize World.over _ y = w' at hrow hown ⊢
  have hni : ∀ n, n ≤ w.heap.size + 1 + 1 + 1 → n ∉ bs := fun n hn e => by have := hlt n e; omega
  obtain ⟨bs', h1, h2⟩ := TrOwn_new (w := (((w'.setCell ⟨w.heap.size + 1 + 1, 2, none⟩ (.slice (some ⟨w.heap.size + 1 + 1 + 1, 0, none⟩) kids.length c')).setCell ⟨w.heap.size + 1, 0, none⟩ (.int .i64 k)).setCell ⟨w.heap.size + 1, 1, none⟩ (.int .i64 v)).setCell ⟨w.heap.size + 1, 2, none⟩ (.slice (some ⟨w.heap.size + 1 + 1 + 1, 0, none⟩) kids.length c')) hk hv hc3 hc4
    ((((hrow.setOther (by first | (simp; done) | (simp; omega) | omega) _).setOther (by first | (simp; done) | (simp; omega) | omega) _).setOther (by first | (simp; done) | (simp; omega) | omega) _).setOther (by first | (simp; done) | (simp; omega) | omega) _)
    (TrsOwn_set (TrsOwn_set (TrsOwn_set (TrsOwn_set hown (hni _ (by first | (simp; done) | (simp; omega) | omega)) _) (hni _ (by first | (simp; done) | (simp; omega) | omega)) _) (hni _ (by first | (simp; done) | (simp; omega) | omega)) _) (hni _ (by first | (simp; done) | (simp; omega) | omega)) _)
    (hni _ (by omega))
  refine ⟨bs', h1, fun b hb => ?_⟩
  rcases h2 b hb with rfl | h3
  · omega
  · have := hlt b h3; omega

theorem Small_mk {k v : Int} {kids : List Tr} (h : Small (.mk k v kids)) : kids.length ≤ 1048576 ∧ SmallL kids := h

/-- the zero node's cells, n times -/
theorem info : (Try.prog.info? 43).map (fun i => (i.zero, i.size, i.bytes)) = some (some (.agg #[.int .i64 0, .int .i64 0, .slice none 0 0]), 3, 40) := by kernel_rfl
def zeros (n : Nat) : Array Value := madeCells #[.int .i64 0, .int .i64 0, .slice none 0 0] (n * 3)
theorem make_row (n : Nat) (h : n ≤ 1048576) (w : World) : (Instr.makeSlice 32 (.int .i64 (n : Int)) (.int .i64 (n : Int))).run Try.prog w =
    .ok (.slice (some ⟨w.heap.size, 0, none⟩) n n) (w.alloc (.cells (zeros n) 43)) := by
  obtain ⟨i, hi, hz, h1, h2⟩ := info_parts info
  have := run_make (P := Try.prog) w 32 43 i _ Try.underlying32 hi hz .i64 .i64 n n (by omega) (by omega) (by rw [h2]; omega) (by omega)
  rw [this, h1]
  simp [zeros, Value.cells]

set_option maxHeartbeats 400000 in
theorem toL_of (l : List Tr) (h : ∀ t, t ∈ l → ToT t) (hlen : l.length ≤ 1048576) : ToL l := by
  intro w a c hl hs hc hc2
  have hmk := make_row l.length hlen
  unfold maxLen at hc2
  go_enter Try.func9, Try.ntmps9
  go_wp2_with fail
  go_loopw [4] (fun i wr => ∃ (k : Nat), k ≤ l.length ∧ i = .int .i64 k ∧ Fill w w.heap.size l k wr) (fun i _ => l.length - (intOf i).toNat)
  case atStart => exact ⟨0, Nat.zero_le _, rfl, Fill.start (by rw [zeros, size_madeCells]) _⟩
  case round =>
    obtain ⟨k, hk, rfl, hfill⟩ := hrel
    by_cases hlt : k < l.length
    · obtain ⟨b, o, c0, c1, c2, t, rfl, gb, g0, g1, g2, hT⟩ := TrsIn_round hl hfill.bel hlt
      go_wp2_with fail
      refine (h t hT.out.2.1 _ _ hT.out.1 (smallL_mem hs hT.out.2.1)).mono ?_
      rintro e w2 ⟨u, rfl, hnew, hby⟩
      obtain ⟨y, rfl⟩ := bex hby
      clear hby
      obtain ⟨a', c', rfl⟩ := TrIn_shape hnew.any
      obtain ⟨u0, u1, u2, q0, q1, q2, qf⟩ := hfill.cells hlt (over_below _ y)
      have hstep := hid (hfill.step hT.out.2.2.2 hnew (over_below _ y))
      clear hnew g0 g1 g2
      generalize World.over _ y = w2 at *
      go_wp2_with fail
      go_roundw
      case rel => exact ⟨k + 1, by omega, by go_num, hstep.out⟩
      case measure => simp [intOf]; omega
    · obtain ⟨f, bs, h1, h2, h3⟩ := hfill.done (by omega)
      go_wp2_with fail
      go_ret
      exact RetP.mk ⟨l.length, f, bs, rfl, Nat.le_refl _, by unfold maxLen; omega, h1, h2, h3⟩ hfill.bel

theorem to_any : ∀ t, ToT t := fun t => Tr.ind (fun k v kids ih w x hx hs => to_of k v kids (toL_of kids ih hs.1) w x hx hs) t

/-! ### eqExpr -/

def EqT (t : Tr) : Prop := ∀ (w : World) (u : Tr) (x y : Value), TrIn Any w t x → TrIn Any w u y → Calls Try.prog 26 #[x, y] w (Ret (.bool (eqT t u)) w)
def EqL (l : List Tr) : Prop := ∀ (w : World) (m : List Tr) (a a' : Option Addr) (c c' : Nat), TrsIn Any w l a → TrsIn Any w m a' → l.length ≤ c → c ≤ maxLen → m.length ≤ c' → c' ≤ maxLen →
    Calls Try.prog 12 #[.slice a l.length c, .slice a' m.length c'] w (Ret (.bool (eqL l m)) w)

set_option maxHeartbeats 400000 in
theorem eqT_of (k v : Int) (kids : List Tr) (h : EqL kids) : EqT (.mk k v kids) := by
  intro w u x y hx hy
  cases u with
  | mk k' v' kids' =>
  rw [TrIn_mk] at hx hy
  obtain ⟨a, n, c, rfl, hk, hv, rfl, hc, hc2, hks⟩ := hx
  obtain ⟨a', n', c', rfl, hk', hv', rfl, hc', hc2', hks'⟩ := hy
  by_cases h1 : k = k'
  · by_cases h2 : v = v'
    · subst h1 h2
      have e1 : eqT (.mk k v kids) (.mk k v kids') = eqL kids kids' := by simp [eqT]
      have E1 := hid e1; clear e1
      go_enter Try.func26, Try.ntmps26
      go_wp2_with fail
      refine (h _ kids' a a' c c' (TrsIn_alloc (TrsIn_alloc hks _) _) (TrsIn_alloc (TrsIn_alloc hks' _) _) hc hc2 hc' hc2').mono ?_
      rintro e w' ⟨rfl, hby⟩
      obtain ⟨y, rfl⟩ := bex hby
      clear hby
      cases hq : eqL kids kids' with
      | true =>
        rw [hq] at E1
        clear hq
        go_wp2_with fail
        go_ret
        exact Ret.mk (bool_val E1.out.symm) (by repeat (first | exact Below.refl _ _ | assumption | refine below_a ?_ _ | refine below_o ?_ _ | refine below_d ?_ | refine below_n ?_ _ | refine below_s ?_ (by first | (simp; done) | (simp; omega) | omega) _))
      | false =>
        rw [hq] at E1
        clear hq
        go_wp2_with fail
        go_ret
        exact Ret.mk (bool_val E1.out.symm) (by repeat (first | exact Below.refl _ _ | assumption | refine below_a ?_ _ | refine below_o ?_ _ | refine below_d ?_ | refine below_n ?_ _ | refine below_s ?_ (by first | (simp; done) | (simp; omega) | omega) _))
    · have e1 : eqT (.mk k v kids) (.mk k' v' kids') = false := by simp [eqT, h2]
      have E1 := hid e1; clear e1
      have h3 : (v != v') = true := by simpa using h2
      subst h1
      go_enter Try.func26, Try.ntmps26
      go_wp2_with fail
      go_ret
      exact Ret.mk (bool_val E1.out.symm) (by repeat (first | exact Below.refl _ _ | assumption | refine below_a ?_ _ | refine below_o ?_ _ | refine below_d ?_ | refine below_n ?_ _ | refine below_s ?_ (by first | (simp; done) | (simp; omega) | omega) _))
  · have e1 : eqT (.mk k v kids) (.mk k' v' kids') = false := by simp [eqT, h1]
    have E1 := hid e1; clear e1
    have h3 : (k != k') = true := by simpa using h1
    go_enter Try.func26, Try.ntmps26
    go_wp2_with fail
    go_ret
    exact Ret.mk (bool_val E1.out.symm) (by repeat (first | exact Below.refl _ _ | assumption | refine below_a ?_ _ | refine below_o ?_ _ | refine below_d ?_ | refine below_n ?_ _ | refine below_s ?_ (by first | (simp; done) | (simp; omega) | omega) _))

set_option maxHeartbeats 400000 in
theorem eqL_of (l : List Tr) (h : ∀ t, t ∈ l → EqT t) : EqL l := by
  intro w m a a' c c' hl hm hc hc2 hc' hc2'
  unfold maxLen at hc2 hc2'
  by_cases hn : l.length = m.length
  · have hn1 : l.length ≤ m.length := by omega
    have hn2 : m.length ≤ l.length := by omega
    have h3 : ((l.length : Int) != (m.length : Int)) = false := by rw [bne_eq_false_iff_eq]; omega
    clear hn
    go_enter Try.func12, Try.ntmps12
    go_wp2_with fail
    go_loopw [5] (fun i wr => ∃ k : Nat, k ≤ l.length ∧ i = .int .i64 k ∧ Below w.heap.size w wr ∧ Hid (eqL (l.drop k) (m.drop k) = eqL l m)) (fun i _ => l.length - (intOf i).toNat)
    case atStart => exact ⟨0, Nat.zero_le _, rfl, Below.refl _ _, hid rfl⟩
    case round =>
      obtain ⟨k, hk, rfl, hb, hr⟩ := hrel
      by_cases hlt : k < l.length
      · obtain ⟨b, o, c0, c1, c2, t, rfl, gb, g0, g1, g2, hT⟩ := TrsIn_round hl hb hlt
        obtain ⟨b', o', d0, d1, d2, u, rfl, fb, f0, f1, f2, hU⟩ := TrsIn_round hm hb (show k < m.length by omega)
        have hr2 := eqL_drop hT.out.2.2.1 hU.out.2.2.1 hr.out
        have HR2 := hid hr2; clear hr2
        go_wp2_with fail
        refine wp_region_over (by kernel_rfl) (by kernel_rfl) ?_; (repeat (go_big_quiet_step ((go_at_call 26; exact Calls.over (h t hT.out.2.1 _ u _ _ (TrIn_over hT.out.1 _) (TrIn_over hU.out.1 _)))))); refine wpQuiet_nil ?_; rintro _ ⟨xq, rfl⟩
        have hbd : Below w.heap.size w (wr.over xq) := hb.trans ((over_below wr xq).mono hb.size)
        cases hq : eqT t u with
        | true =>
          have HR3 := HR2.out
          rw [hq, Bool.true_and] at HR3
          have HR4 := hid HR3; clear HR3 hq
          go_wp2_with fail
          go_roundw
          case rel => exact ⟨k + 1, by omega, by go_num, hbd, HR4.out.symm⟩
          case measure => simp [intOf]; omega
        | false =>
          have HR3 := HR2.out
          rw [hq, Bool.false_and] at HR3
          have HR4 := hid HR3; clear HR3 hq
          go_wp2_with fail
          go_ret
          exact Ret.mk (bool_val HR4.out.symm) hbd
      · have hr2 := hr.out
        rw [List.drop_of_length_le (by omega), List.drop_of_length_le (by omega)] at hr2
        have HR2 := hid hr2; clear hr2
        go_wp2_with fail
        go_ret
        exact Ret.mk (bool_val HR2.out) hb
  · have e1 := eqL_len l m hn
    have E1 := hid e1; clear e1
    have h3 : ((l.length : Int) != (m.length : Int)) = true := by rw [bne_iff_ne]; omega
    go_enter Try.func12, Try.ntmps12
    go_wp2_with fail
    go_ret
    exact Ret.mk (bool_val E1.out.symm) (Below.refl _ _)

theorem szL_any (l : List Tr) : SzL l := szL_of l fun t _ => sz_any t
theorem toL_any (l : List Tr) (h : l.length ≤ 1048576) : ToL l := toL_of l (fun t _ => to_any t) h
theorem eq_any : ∀ t, EqT t := fun t => Tr.ind (fun k v kids ih => eqT_of k v kids (eqL_of kids ih)) t
theorem eqL_any (l : List Tr) : EqL l := eqL_of l fun t _ => eq_any t

end Expr
end Go.Proofs.Ytdmieedfddgmjaa
