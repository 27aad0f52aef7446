/- Joined texts (LetterV, EvalX, ArgRow): contracts and plain laws. Conditions: those of each theorem. -/
import Derived.Test.YtdmieedfddgmjaaJE5
import Derived.Test.YtdmieedfddgmjaaJE4
import Derived.Test.YtdmieedfddgmjaaJE15
import Derived.Test.YtdmieedfddgmjaaJE3
import Derived.Test.YtdmieedfddgmjaaJE7
import Derived.ProofKit
import Derived.ChangeOld
import Derived.Lib.SmallJoins
set_option linter.unusedVariables false
set_option linter.unusedSimpArgs false
namespace Go.Proofs.Ytdmieedfddgmjaa
open Go.RowKit
set_option linter.unusedVariables false
set_option linter.unusedSimpArgs false
namespace State

def bitE (vs : List Int) (l : List Tr) (j : Nat) : Bool := ((l[j]?).map fun t => evalT (Expr.gOf vs) t != 0).getD false
/-- the letter of the first j labels -/
def letP (vs : List Int) (l : List Tr) : Nat → Int
  | 0 => 0
  | j + 1 => letP vs l j + (if bitE vs l j = true then 2 ^ j else 0)
theorem letP_bd (vs : List Int) (l : List Tr) : ∀ j, 0 ≤ letP vs l j ∧ letP vs l j < 2 ^ j
  | 0 => by simp [letP]
  | j + 1 => by
    have h := letP_bd vs l j
    have h2 : (0 : Int) < 2 ^ j := by omega
    rw [letP, Int.pow_succ]
    split <;> omega
def letV (vs : List Int) (l : List Tr) : Int := if (Labels.ok l && Expr.okVals vs) = true then letP vs l 3 else 0
def letOk (vs : List Int) (l : List Tr) : Bool := Labels.ok l && Expr.okVals vs
theorem or1 {z : Int} (h : 0 ≤ z ∧ z < 2 ^ 0) : bits .or .i64 z 1 = z + 2 ^ 0 := by
  obtain rfl : z = 0 := by simp at h; omega
  kernel_rfl
theorem or2 {z : Int} (h : 0 ≤ z ∧ z < 2 ^ 1) : bits .or .i64 z 2 = z + 2 ^ 1 := by
  rcases (by simp at h; omega : z = 0 ∨ z = 1) with rfl | rfl <;> kernel_rfl
theorem or4 {z : Int} (h : 0 ≤ z ∧ z < 2 ^ 2) : bits .or .i64 z 4 = z + 2 ^ 2 := by
  rcases (by simp at h; omega : z = 0 ∨ z = 1 ∨ z = 2 ∨ z = 3) with rfl | rfl | rfl | rfl <;> kernel_rfl
theorem lab_at {l : List Tr} (h : Labels.ok l = true) : l.length = 3 ∧ ∀ t, t ∈ l → exprL.shape t (6 : Nat) = true := by
  rw [Labels.ok, Bool.and_eq_true, decide_eq_true_eq, List.all_eq_true] at h
  refine ⟨h.1, fun t ht => ?_⟩
  have := h.2 t ht
  rw [Lang.valid, Bool.and_eq_true] at this
  exact this.1

set_option maxRecDepth 100000 in
set_option maxHeartbeats 4000000 in
theorem specLetter_any (ls vs : List Int) (l : List Tr) (w : World) (a b e : Option Addr) (c d f : Nat) (hok : Labels.ok l = true) (hv : Expr.Vals w b vs) (hl : TrsIn Any w l e) (hd : 3 ≤ d) (hd2 : d ≤ maxLen) (hf : l.length ≤ f) (hf2 : f ≤ maxLen) :
    Calls Try.prog 20 #[.agg #[.slice a ls.length c, .slice b vs.length d], .slice e l.length f] w (Ret (.int .i64 (letP vs l 3)) w) := by
  have HL := hid hl
  have HV := hid hv
  obtain ⟨h3, hsh⟩ := lab_at hok
  have HSH := hid hsh
  have HEV := hid (fun (t : Tr) (W : World) (x : Value) (h1 : t ∈ l) (h2 : TrIn Any W t x) (h3 : Expr.Vals W b vs) => Expr.sv_any t 6 W x b vs d (HSH.out t h1) h2 h3 hd hd2)
  have hvl : vs.length = 3 := hv.2.1
  have HB := hid (letP_bd vs l)
  have HS := hid (fun (j : Nat) => show letP vs l (j + 1) = letP vs l j + (if bitE vs l j = true then 2 ^ j else 0) from rfl)
  have H0 := hid (show letP vs l 0 = 0 from rfl)
  have HBT := hid (fun (j : Nat) (t : Tr) (h : l[j]? = some t) => show bitE vs l j = (evalT (Expr.gOf vs) t != 0) by simp [bitE, h])
  unfold maxLen at hf2 hd2
  obtain ⟨F, hF⟩ : ∃ F : Nat → Int, Hid (F = letP vs l) := ⟨_, hid rfl⟩
  rw [← hF.out] at HB HS H0 ⊢
  clear hsh hl hv hok
  go_enter Try.func20, Try.ntmps20
  go_wp2_with fail
  go_loopw [5, 6] (fun q i wr => ∃ j : Nat, j ≤ l.length ∧ q = .int .i64 (F j) ∧ i = .int .i64 j ∧ Below w.heap.size w wr ∧ State.PBox wr w.heap.size (.slice a ls.length c) (.slice b 3 d)) (fun _ i _ => l.length - (intOf i).toNat)
  case atStart => exact ⟨0, Nat.zero_le _, by rw [H0.out], rfl, (by repeat (first | exact Below.refl _ _ | assumption | refine below_a ?_ _ | refine below_o ?_ _ | refine below_d ?_ | refine below_n ?_ _ | refine below_s ?_ (by first | (simp; done) | (simp; omega) | omega) _)), State.pbox_at rfl⟩
  case round =>
    obtain ⟨j, hj, rfl, rfl, B, PB⟩ := hrel
    have BB := hid B
    have HP := hid PB
    obtain ⟨x0, x1, x2, x3, x4⟩ := PB
    clear B
    by_cases hlt : j < l.length
    · obtain ⟨g, o, c0, c1, c2, t, rfl, gb, g0, g1, g2, hT⟩ := TrsIn_round HL.out BB.out hlt
      have hm := List.mem_of_getElem? hT.out.2.2.2
      have hbt := HBT.out j t hT.out.2.2.2
      have hs := HS.out j
      have hbd := HB.out j
      rw [hbt] at hs
      have HH := hid (fun (W : World) (M : Below wr.heap.size wr W) => HEV.out t W _ hm (TrIn_below M hT.out.1) (HV.out.below (below_next BB.out M)))
      obtain ⟨k0, k1, k2, ek⟩ := TrIn_shape hT.out.1
      clear hm hbt hT
      have hlt2 : (j : Int) < (l.length : Int) := by omega
      generalize evalT (Expr.gOf vs) t = q at *
      rcases (by omega : j = 0 ∨ j = 1 ∨ j = 2) with rfl | rfl | rfl
      · have hor : bits .or .i64 (F 0) 1 = F 0 + 1 := by simpa using or1 hbd
        have HS1 := hid (show F 1 = F 0 + (if (q != 0) = true then 2 ^ 0 else 0) from hs)
        simp at g0 g1 g2
        clear hs hbd
        go_wp2_with fail
        refine wp_region_over (by kernel_rfl) (by kernel_rfl) ?_; (repeat (go_big_quiet_step ((go_at_call 37; exact Calls.over (HH.out _ (over_below _ _)))))); refine wpQuiet_nil ?_; rintro _ ⟨xq, rfl⟩
        have B2 := hid (below_next BB.out (over_below wr xq))
        by_cases hq : q = 0
        · have hq2 : (q != 0) = false := by simp [hq]
          go_wp2_with fail
          go_roundw
          case rel => exact ⟨1, by omega, by rw [HS1.out, hq2]; simp, (by first | rfl | go_num), B2.out, State.pbox_next (over_below _ _) HP.out⟩
          case measure => simp [intOf]; omega
        · have hq2 : (q != 0) = true := by simpa using hq
          go_wp2_with fail
          go_roundw
          case rel => exact ⟨1, by omega, by rw [HS1.out, hq2]; simp, (by first | rfl | go_num), B2.out, State.pbox_next (over_below _ _) HP.out⟩
          case measure => simp [intOf]; omega
      · have hor : bits .or .i64 (F 1) 2 = F 1 + 2 := by simpa using or2 hbd
        have HS1 := hid (show F 2 = F 1 + (if (q != 0) = true then 2 ^ 1 else 0) from hs)
        simp at g0 g1 g2
        clear hs hbd
        go_wp2_with fail
        refine wp_region_over (by kernel_rfl) (by kernel_rfl) ?_; (repeat (go_big_quiet_step ((go_at_call 37; exact Calls.over (HH.out _ (over_below _ _)))))); refine wpQuiet_nil ?_; rintro _ ⟨xq, rfl⟩
        have B2 := hid (below_next BB.out (over_below wr xq))
        by_cases hq : q = 0
        · have hq2 : (q != 0) = false := by simp [hq]
          go_wp2_with fail
          go_roundw
          case rel => exact ⟨2, by omega, by rw [HS1.out, hq2]; simp, (by first | rfl | go_num), B2.out, State.pbox_next (over_below _ _) HP.out⟩
          case measure => simp [intOf]; omega
        · have hq2 : (q != 0) = true := by simpa using hq
          go_wp2_with fail
          go_roundw
          case rel => exact ⟨2, by omega, by rw [HS1.out, hq2]; simp, (by first | rfl | go_num), B2.out, State.pbox_next (over_below _ _) HP.out⟩
          case measure => simp [intOf]; omega
      · have hor : bits .or .i64 (F 2) 4 = F 2 + 4 := by simpa using or4 hbd
        have HS1 := hid (show F 3 = F 2 + (if (q != 0) = true then 2 ^ 2 else 0) from hs)
        simp at g0 g1 g2
        clear hs hbd
        go_wp2_with fail
        refine wp_region_over (by kernel_rfl) (by kernel_rfl) ?_; (repeat (go_big_quiet_step ((go_at_call 37; exact Calls.over (HH.out _ (over_below _ _)))))); refine wpQuiet_nil ?_; rintro _ ⟨xq, rfl⟩
        have B2 := hid (below_next BB.out (over_below wr xq))
        by_cases hq : q = 0
        · have hq2 : (q != 0) = false := by simp [hq]
          go_wp2_with fail
          go_roundw
          case rel => exact ⟨3, by omega, by rw [HS1.out, hq2]; simp, (by first | rfl | go_num), B2.out, State.pbox_next (over_below _ _) HP.out⟩
          case measure => simp [intOf]; omega
        · have hq2 : (q != 0) = true := by simpa using hq
          go_wp2_with fail
          go_roundw
          case rel => exact ⟨3, by omega, by rw [HS1.out, hq2]; simp, (by first | rfl | go_num), B2.out, State.pbox_next (over_below _ _) HP.out⟩
          case measure => simp [intOf]; omega
    · obtain rfl : j = 3 := by omega
      have hlt2 : ¬ ((3 : Int) < (l.length : Int)) := by omega
      go_wp2_with fail
      go_ret
      exact Ret.mk rfl BB.out
set_option maxRecDepth 100000 in
set_option maxHeartbeats 4000000 in
theorem letter_any (ls vs : List Int) (l : List Tr) (w : World) (a b e : Option Addr) (c d f : Nat) (hok : Labels.ok l = true) (hv : Expr.Vals w b vs) (hl : TrsIn Any w l e) (hd : 3 ≤ d) (hd2 : d ≤ maxLen) (hf : l.length ≤ f) (hf2 : f ≤ maxLen) :
    Calls Try.prog 24 #[.slice b vs.length d, .slice e l.length f] w (Ret (.int .i64 (letP vs l 3)) w) := by
  have HL := hid hl
  have HV := hid hv
  obtain ⟨h3, hsh⟩ := lab_at hok
  have HSH := hid hsh
  have hvl : vs.length = 3 := hv.2.1
  have HEV := hid (show ∀ (t : Tr) (W : World) (x : Value), t ∈ l → TrIn Any W t x → Expr.Vals W b vs → Calls Try.prog 36 #[x, .slice b vs.length d] W (Ret (.int .i64 (evalT (Expr.gOf vs) t)) W) from fun t W x h1 h2 h3 => by
    have hE := Expr.ev_any t 6 W x b vs d (HSH.out t h1) h2 h3 hd hd2
    have e3 : (Value.slice b 3 d) = .slice b vs.length d := by rw [hvl]
    rw [e3] at hE
    exact hE)
  have H3 := hid h3
  have HB := hid (letP_bd vs l)
  have HS := hid (fun (j : Nat) => show letP vs l (j + 1) = letP vs l j + (if bitE vs l j = true then 2 ^ j else 0) from rfl)
  have H0 := hid (show letP vs l 0 = 0 from rfl)
  have HBT := hid (fun (j : Nat) (t : Tr) (h : l[j]? = some t) => show bitE vs l j = (evalT (Expr.gOf vs) t != 0) by simp [bitE, h])
  unfold maxLen at hf2 hd2
  obtain ⟨F, hF⟩ : ∃ F : Nat → Int, Hid (F = letP vs l) := ⟨_, hid rfl⟩
  rw [← hF.out] at HB HS H0 ⊢
  clear hsh hl hv hok h3 hvl
  go_enter Try.func24, Try.ntmps24
  go_wp2_with fail
  go_loopw [5, 10] (fun q i wr => ∃ j : Nat, j ≤ l.length ∧ q = .int .i64 (F j) ∧ i = .int .i64 j ∧ Below w.heap.size w wr) (fun _ i _ => l.length - (intOf i).toNat)
  case atStart => exact ⟨0, Nat.zero_le _, by rw [H0.out], rfl, (by repeat (first | exact Below.refl _ _ | assumption | refine below_a ?_ _ | refine below_o ?_ _ | refine below_d ?_ | refine below_n ?_ _ | refine below_s ?_ (by first | (simp; done) | (simp; omega) | omega) _))⟩
  case round =>
    obtain ⟨j, hj, rfl, rfl, B⟩ := hrel
    have BB := hid B
    clear B
    by_cases hlt : j < l.length
    · obtain ⟨g, o, c0, c1, c2, t, rfl, gb, g0, g1, g2, hT⟩ := TrsIn_round HL.out BB.out hlt
      have hm := List.mem_of_getElem? hT.out.2.2.2
      have hbt := HBT.out j t hT.out.2.2.2
      have hs := HS.out j
      have hbd := HB.out j
      rw [hbt] at hs
      have HH := hid (fun (W : World) (M : Below wr.heap.size wr W) => HEV.out t W _ hm (TrIn_below M hT.out.1) (HV.out.below (below_next BB.out M)))
      obtain ⟨k0, k1, k2, ek⟩ := TrIn_shape hT.out.1
      clear hm hbt hT
      have hlt2 : (j : Int) < (l.length : Int) := by omega
      generalize evalT (Expr.gOf vs) t = q at *
      rcases (by have := H3.out; omega : j = 0 ∨ j = 1 ∨ j = 2) with rfl | rfl | rfl
      · have hor : bits .or .i64 (F 0) 1 = F 0 + 1 := by simpa using or1 hbd
        have HS1 := hid (show F 1 = F 0 + (if (q != 0) = true then 2 ^ 0 else 0) from hs)
        simp at g0 g1 g2
        clear hs hbd
        go_wp2_with fail
        refine (HH.out _ (below_alloc _ _)).mono ?_
        rintro y w2 ⟨rfl, hb⟩
        have B2 := hid (below_next BB.out (below_next (below_alloc _ _) hb))
        clear hb
        by_cases hq : q = 0
        · have hq2 : (q != 0) = false := by simp [hq]
          go_wp2_with fail
          go_roundw
          case rel => exact ⟨1, by have := H3.out; omega, by rw [HS1.out, hq2]; simp, (by first | rfl | go_num), B2.out⟩
          case measure => have := H3.out; simp [intOf]; omega
        · have hq2 : (q != 0) = true := by simpa using hq
          go_wp2_with fail
          go_roundw
          case rel => exact ⟨1, by have := H3.out; omega, by rw [HS1.out, hq2]; simp, (by first | rfl | go_num), B2.out⟩
          case measure => have := H3.out; simp [intOf]; omega
      · have hor : bits .or .i64 (F 1) 2 = F 1 + 2 := by simpa using or2 hbd
        have HS1 := hid (show F 2 = F 1 + (if (q != 0) = true then 2 ^ 1 else 0) from hs)
        simp at g0 g1 g2
        clear hs hbd
        go_wp2_with fail
        refine (HH.out _ (below_alloc _ _)).mono ?_
        rintro y w2 ⟨rfl, hb⟩
        have B2 := hid (below_next BB.out (below_next (below_alloc _ _) hb))
        clear hb
        by_cases hq : q = 0
        · have hq2 : (q != 0) = false := by simp [hq]
          go_wp2_with fail
          go_roundw
          case rel => exact ⟨2, by have := H3.out; omega, by rw [HS1.out, hq2]; simp, (by first | rfl | go_num), B2.out⟩
          case measure => have := H3.out; simp [intOf]; omega
        · have hq2 : (q != 0) = true := by simpa using hq
          go_wp2_with fail
          go_roundw
          case rel => exact ⟨2, by have := H3.out; omega, by rw [HS1.out, hq2]; simp, (by first | rfl | go_num), B2.out⟩
          case measure => have := H3.out; simp [intOf]; omega
      · have hor : bits .or .i64 (F 2) 4 = F 2 + 4 := by simpa using or4 hbd
        have HS1 := hid (show F 3 = F 2 + (if (q != 0) = true then 2 ^ 2 else 0) from hs)
        simp at g0 g1 g2
        clear hs hbd
        go_wp2_with fail
        refine (HH.out _ (below_alloc _ _)).mono ?_
        rintro y w2 ⟨rfl, hb⟩
        have B2 := hid (below_next BB.out (below_next (below_alloc _ _) hb))
        clear hb
        by_cases hq : q = 0
        · have hq2 : (q != 0) = false := by simp [hq]
          go_wp2_with fail
          go_roundw
          case rel => exact ⟨3, by have := H3.out; omega, by rw [HS1.out, hq2]; simp, (by first | rfl | go_num), B2.out⟩
          case measure => have := H3.out; simp [intOf]; omega
        · have hq2 : (q != 0) = true := by simpa using hq
          go_wp2_with fail
          go_roundw
          case rel => exact ⟨3, by have := H3.out; omega, by rw [HS1.out, hq2]; simp, (by first | rfl | go_num), B2.out⟩
          case measure => have := H3.out; simp [intOf]; omega
    · obtain rfl : j = 3 := by have := H3.out; omega
      have hlt2 : ¬ ((3 : Int) < (l.length : Int)) := by have := H3.out; omega
      go_wp2_with fail
      go_ret
      exact Ret.mk rfl BB.out
/-- what LabelState comes to -/
def LabPost (z : Int) (b : Bool) (w : World) (e : Ending) (w' : World) : Prop := e = .returned (.tuple #[.int .i64 z, .bool b]) ∧ Below w.heap.size w w'
theorem LabPost.mk {u v : Value} {z : Int} {b : Bool} {w w' : World} (h : u = .int .i64 z) (k : v = .bool b) (hb : Below w.heap.size w w') : LabPost z b w (.returned (.tuple #[u, v])) w' := ⟨by rw [h, k], hb⟩
set_option maxRecDepth 100000 in
set_option maxHeartbeats 4000000 in
theorem specLabel_any (ls vs : List Int) (l : List Tr) (w : World) (x : Value) (e : Option Addr) (f : Nat) (hx : PairIn Any w ls vs x) (hl : TrsIn Any w l e) (hf : l.length ≤ f) (hf2 : f ≤ maxLen) :
    Calls Try.prog 7 #[x, .slice e l.length f] w (LabPost (letV vs l) (letOk vs l) w) := by
  obtain ⟨a, b, c, d, rfl, hi, hi2, hc, hc2, hd, hd2⟩ := hx
  have HL := hid (fun (W : World) (M : Below w.heap.size w W) => Labels.spec_any l W e f (TrsIn_below M hl) hf hf2)
  have HV := hid (fun (W : World) (M : Below w.heap.size w W) => Expr.specVals_any vs W b d (hi2.below M) hd hd2)
  have HT := hid (fun (h1 : Labels.ok l = true) (h2 : Expr.okVals vs = true) (W : World) (M : Below w.heap.size w W) => specLetter_any ls vs l W a b e c d f h1 (Expr.okVals_vals h2 (hi2.below M)) (TrsIn_below M hl) (by have := (Expr.okVals_vals h2 hi2).2.1; omega) hd2 hf hf2)
  have E := hid (show letOk vs l = (Labels.ok l && Expr.okVals vs) ∧ letV vs l = (if (Labels.ok l && Expr.okVals vs) = true then letP vs l 3 else 0) from ⟨rfl, rfl⟩)
  clear hi hi2 hl
  cases h1 : Labels.ok l with
  | false =>
    have E2 := hid (show letOk vs l = false ∧ letV vs l = 0 by rw [E.out.1, E.out.2, h1]; simp)
    rw [h1] at HL
    clear h1 HT E HV
    go_enter Try.func7, Try.ntmps7
    go_wp2_with fail
    refine (HL.out _ (by repeat (first | exact Below.refl _ _ | assumption | refine below_a ?_ _ | refine below_o ?_ _ | refine below_d ?_ | refine below_n ?_ _ | refine below_s ?_ (by first | (simp; done) | (simp; omega) | omega) _))).mono ?_
    rintro _ w1 ⟨rfl, hb⟩
    go_wp2_with fail
    go_ret2
    exact LabPost.mk (by rw [E2.out.2]; rfl) (by rw [E2.out.1]; rfl) (below_next (by repeat (first | exact Below.refl _ _ | assumption | refine below_a ?_ _ | refine below_o ?_ _ | refine below_d ?_ | refine below_n ?_ _ | refine below_s ?_ (by first | (simp; done) | (simp; omega) | omega) _)) hb)
  | true =>
    cases h2 : Expr.okVals vs with
    | false =>
      have E2 := hid (show letOk vs l = false ∧ letV vs l = 0 by rw [E.out.1, E.out.2, h1, h2]; simp)
      rw [h1] at HL
      rw [h2] at HV
      clear h1 h2 HT E
      go_enter Try.func7, Try.ntmps7
      go_wp2_with fail
      refine (HL.out _ (by repeat (first | exact Below.refl _ _ | assumption | refine below_a ?_ _ | refine below_o ?_ _ | refine below_d ?_ | refine below_n ?_ _ | refine below_s ?_ (by first | (simp; done) | (simp; omega) | omega) _))).mono ?_
      rintro _ w1 ⟨rfl, hb⟩
      have X := hid (State.pbox_next hb (State.pbox_at (w := w) (B := w.heap.size) (a := .slice a ls.length c) (b := .slice b vs.length d) rfl))
      have B := hid (below_next (show Below w.heap.size w _ from below_alloc _ _) hb)
      clear hb
      obtain ⟨x0, x1, x2, x3, x4⟩ := id X.out
      go_wp2_with fail
      refine (HV.out _ B.out).mono ?_
      rintro _ w2 ⟨rfl, hb⟩
      have B2 := hid (below_next B.out hb)
      clear hb
      go_wp2_with fail
      go_ret2
      exact LabPost.mk (by rw [E2.out.2]; rfl) (by rw [E2.out.1]; rfl) B2.out
    | true =>
      have E2 := hid (show letOk vs l = true ∧ letV vs l = letP vs l 3 by rw [E.out.1, E.out.2, h1, h2]; simp)
      have HT2 := hid (HT.out h1 h2)
      rw [h1] at HL
      rw [h2] at HV
      clear h1 h2 HT E
      generalize letP vs l 3 = z at *
      go_enter Try.func7, Try.ntmps7
      go_wp2_with fail
      refine (HL.out _ (by repeat (first | exact Below.refl _ _ | assumption | refine below_a ?_ _ | refine below_o ?_ _ | refine below_d ?_ | refine below_n ?_ _ | refine below_s ?_ (by first | (simp; done) | (simp; omega) | omega) _))).mono ?_
      rintro _ w1 ⟨rfl, hb⟩
      have X := hid (State.pbox_next hb (State.pbox_at (w := w) (B := w.heap.size) (a := .slice a ls.length c) (b := .slice b vs.length d) rfl))
      have B := hid (below_next (show Below w.heap.size w _ from below_alloc _ _) hb)
      clear hb
      obtain ⟨x0, x1, x2, x3, x4⟩ := id X.out
      go_wp2_with fail
      refine (HV.out _ B.out).mono ?_
      rintro _ w2 ⟨rfl, hb⟩
      replace X := hid (State.pbox_next hb X.out)
      have B2 := hid (below_next B.out hb)
      clear hb x0 x1 x2 x3 x4
      obtain ⟨x0, x1, x2, x3, x4⟩ := id X.out
      go_wp2_with fail
      refine (HT2.out _ B2.out).mono ?_
      rintro _ w3 ⟨rfl, hb⟩
      have B3 := hid (below_next B2.out hb)
      clear hb
      go_wp2_with fail
      go_ret2
      exact LabPost.mk (by rw [E2.out.2]; rfl) (by rw [E2.out.1]; rfl) B3.out
set_option maxRecDepth 100000 in
set_option maxHeartbeats 4000000 in
theorem label_any (ls vs : List Int) (l : List Tr) (w : World) (x : Value) (e : Option Addr) (f : Nat) (hx : PairIn Any w ls vs x) (hl : TrsIn Any w l e) (hf : l.length ≤ f) (hf2 : f ≤ maxLen) :
    Calls Try.prog 10 #[x, .slice e l.length f] w (LabPost (letV vs l) (letOk vs l) w) := by
  obtain ⟨a, b, c, d, rfl, hi, hi2, hc, hc2, hd, hd2⟩ := hx
  have HL := hid (fun (W : World) (M : Below w.heap.size w W) => Labels.impl_any l W e f (TrsIn_below M hl) hf hf2)
  have HV := hid (fun (W : World) (M : Below w.heap.size w W) => Expr.vals_any vs W b d (hi2.below M) hd hd2)
  have HT := hid (fun (h1 : Labels.ok l = true) (h2 : Expr.okVals vs = true) (W : World) (M : Below w.heap.size w W) => letter_any ls vs l W a b e c d f h1 (Expr.okVals_vals h2 (hi2.below M)) (TrsIn_below M hl) (by have := (Expr.okVals_vals h2 hi2).2.1; omega) hd2 hf hf2)
  have E := hid (show letOk vs l = (Labels.ok l && Expr.okVals vs) ∧ letV vs l = (if (Labels.ok l && Expr.okVals vs) = true then letP vs l 3 else 0) from ⟨rfl, rfl⟩)
  clear hi hi2 hl
  cases h1 : Labels.ok l with
  | false =>
    have E2 := hid (show letOk vs l = false ∧ letV vs l = 0 by rw [E.out.1, E.out.2, h1]; simp)
    rw [h1] at HL
    clear h1 HT E HV
    go_enter Try.func10, Try.ntmps10
    go_wp2_with fail
    refine (HL.out _ (by repeat (first | exact Below.refl _ _ | assumption | refine below_a ?_ _ | refine below_o ?_ _ | refine below_d ?_ | refine below_n ?_ _ | refine below_s ?_ (by first | (simp; done) | (simp; omega) | omega) _))).mono ?_
    rintro _ w1 ⟨rfl, hb⟩
    go_wp2_with fail
    go_ret2
    exact LabPost.mk (by rw [E2.out.2]; rfl) (by rw [E2.out.1]; rfl) (below_next (by repeat (first | exact Below.refl _ _ | assumption | refine below_a ?_ _ | refine below_o ?_ _ | refine below_d ?_ | refine below_n ?_ _ | refine below_s ?_ (by first | (simp; done) | (simp; omega) | omega) _)) hb)
  | true =>
    cases h2 : Expr.okVals vs with
    | false =>
      have E2 := hid (show letOk vs l = false ∧ letV vs l = 0 by rw [E.out.1, E.out.2, h1, h2]; simp)
      rw [h1] at HL
      rw [h2] at HV
      clear h1 h2 HT E
      go_enter Try.func10, Try.ntmps10
      go_wp2_with fail
      refine (HL.out _ (by repeat (first | exact Below.refl _ _ | assumption | refine below_a ?_ _ | refine below_o ?_ _ | refine below_d ?_ | refine below_n ?_ _ | refine below_s ?_ (by first | (simp; done) | (simp; omega) | omega) _))).mono ?_
      rintro _ w1 ⟨rfl, hb⟩
      have X := hid (State.pbox_next hb (State.pbox_at (w := w) (B := w.heap.size) (a := .slice a ls.length c) (b := .slice b vs.length d) rfl))
      have B := hid (below_next (show Below w.heap.size w _ from below_alloc _ _) hb)
      clear hb
      obtain ⟨x0, x1, x2, x3, x4⟩ := id X.out
      go_wp2_with fail
      refine (HV.out _ B.out).mono ?_
      rintro _ w2 ⟨rfl, hb⟩
      have B2 := hid (below_next B.out hb)
      clear hb
      go_wp2_with fail
      go_ret2
      exact LabPost.mk (by rw [E2.out.2]; rfl) (by rw [E2.out.1]; rfl) B2.out
    | true =>
      have E2 := hid (show letOk vs l = true ∧ letV vs l = letP vs l 3 by rw [E.out.1, E.out.2, h1, h2]; simp)
      have HT2 := hid (HT.out h1 h2)
      rw [h1] at HL
      rw [h2] at HV
      clear h1 h2 HT E
      generalize letP vs l 3 = z at *
      go_enter Try.func10, Try.ntmps10
      go_wp2_with fail
      refine (HL.out _ (by repeat (first | exact Below.refl _ _ | assumption | refine below_a ?_ _ | refine below_o ?_ _ | refine below_d ?_ | refine below_n ?_ _ | refine below_s ?_ (by first | (simp; done) | (simp; omega) | omega) _))).mono ?_
      rintro _ w1 ⟨rfl, hb⟩
      have X := hid (State.pbox_next hb (State.pbox_at (w := w) (B := w.heap.size) (a := .slice a ls.length c) (b := .slice b vs.length d) rfl))
      have B := hid (below_next (show Below w.heap.size w _ from below_alloc _ _) hb)
      clear hb
      obtain ⟨x0, x1, x2, x3, x4⟩ := id X.out
      go_wp2_with fail
      refine (HV.out _ B.out).mono ?_
      rintro _ w2 ⟨rfl, hb⟩
      replace X := hid (State.pbox_next hb X.out)
      have B2 := hid (below_next B.out hb)
      clear hb x0 x1 x2 x3 x4
      obtain ⟨x0, x1, x2, x3, x4⟩ := id X.out
      go_wp2_with fail
      refine (HT2.out _ B2.out).mono ?_
      rintro _ w3 ⟨rfl, hb⟩
      have B3 := hid (below_next B2.out hb)
      clear hb
      go_wp2_with fail
      go_ret2
      exact LabPost.mk (by rw [E2.out.2]; rfl) (by rw [E2.out.1]; rfl) B3.out

end State
end Go.Proofs.Ytdmieedfddgmjaa
namespace Go.Proofs.Ytdmieedfddgmjaa
open Go.RowKit
namespace Expr

/-- the value and whether there is one -/
def evalOk (t : Tr) (l : List Int) : Bool := exprL.valid t && okVals l
def evalV (t : Tr) (l : List Int) : Int := if evalOk t l = true then evalT (gOf l) t else 0
def Ret2 (u v : Value) (w : World) (e : Ending) (w' : World) : Prop := e = .returned (.tuple #[u, v]) ∧ Below w.heap.size w w'
theorem Ret2.mk {u v u' v' : Value} {w w' : World} (h : u = u') (k : v = v') (hb : Below w.heap.size w w') : Ret2 u' v' w (.returned (.tuple #[u, v])) w' := ⟨by rw [h, k], hb⟩
theorem valid_shape {t : Tr} (h : exprL.valid t = true) : exprL.shape t (6 : Nat) = true := by
  rw [Lang.valid, Bool.and_eq_true] at h; exact h.1

set_option maxHeartbeats 1000000 in
theorem eval_any (t : Tr) (l : List Int) (w : World) (x : Value) (a : Option Addr) (c : Nat) (hx : TrIn Any w t x) (hl : IntsIn Any w a l) (hc : l.length ≤ c) (hc2 : c ≤ maxLen) :
    Calls Try.prog 16 #[x, .slice a l.length c] w (Ret2 (.int .i64 (evalV t l)) (.bool (evalOk t l)) w) := by
  have hx0 := hx
  obtain ⟨a', c', rfl⟩ := TrIn_shape hx
  have HT := hid (fun w hx => valid_any t w (.agg #[.int .i64 t.kind, .int .i64 t.val, .slice a' t.kids.length c']) hx)
  cases hv : exprL.valid t with
  | false =>
    have E := hid (show evalV t l = 0 ∧ evalOk t l = false by simp [evalV, evalOk, hv])
    rw [hv] at HT
    clear hv
    go_enter Try.func16, Try.ntmps16
    go_wp2_with fail
    refine (HT.out _ (TrIn_alloc hx _)).mono ?_
    rintro e w1 ⟨rfl, hb⟩
    go_wp2_with fail
    go_ret2
    exact Ret2.mk (by rw [E.out.1]; rfl) (by rw [E.out.2]; rfl) (below_next (below_alloc _ _) hb)
  | true =>
    cases ho : okVals l with
    | false =>
      have E := hid (show evalV t l = 0 ∧ evalOk t l = false by simp [evalV, evalOk, ho])
      have HO := hid (fun w hl => vals_any l w a c hl hc hc2)
      rw [hv] at HT
      rw [ho] at HO
      clear hv ho
      go_enter Try.func16, Try.ntmps16
      go_wp2_with fail
      refine (HT.out _ (TrIn_alloc hx _)).mono ?_
      rintro e w1 ⟨rfl, hb⟩
      have B := below_next (below_alloc _ _) hb
      clear hb
      go_wp2_with fail
      refine (HO.out _ (hl.below B)).mono ?_
      rintro e w2 ⟨rfl, hb⟩
      go_wp2_with fail
      go_ret2
      exact Ret2.mk (by rw [E.out.1]; rfl) (by rw [E.out.2]; rfl) (below_next B hb)
    | true =>
      have E := hid (show evalV t l = evalT (gOf l) t ∧ evalOk t l = true by simp [evalV, evalOk, ho, hv])
      have HO := hid (fun w hl => vals_any l w a c hl hc hc2)
      have hV := okVals_vals ho hl
      have HV := hid (valid_shape hv)
      rw [hv] at HT
      rw [ho] at HO
      clear hv ho
      have h3 : l.length = 3 := hV.2.1
      rw [h3] at HO ⊢
      rw [h3] at hc
      have HE := hid (fun w (hx : TrIn Any w t (.agg #[.int .i64 t.kind, .int .i64 t.val, .slice a' t.kids.length c'])) (hv : Vals w a l) => ev_any t 6 w _ a l c HV.out hx hv hc hc2)
      clear h3
      go_enter Try.func16, Try.ntmps16
      go_wp2_with fail
      refine (HT.out _ (TrIn_alloc hx _)).mono ?_
      rintro e w1 ⟨rfl, hb⟩
      have b1 := box3_next hb (box3_new ..)
      have B := below_next (below_alloc _ _) hb
      clear hb
      go_wp2_with fail
      refine (HO.out _ (hl.below B)).mono ?_
      rintro e w2 ⟨rfl, hb⟩
      replace b1 := box3_next hb b1
      replace B := below_next B hb
      clear hb
      go_wp2_with fail
      refine (HE.out _ (TrIn_below B hx) (hV.below B)).mono ?_
      rintro e w3 ⟨rfl, hb⟩
      replace B := below_next B hb
      clear hb
      go_wp2_with fail
      go_ret2
      exact Ret2.mk (by rw [E.out.1]; rfl) (by rw [E.out.2]; rfl) B

end Expr
end Go.Proofs.Ytdmieedfddgmjaa
namespace Go.Proofs.Ytdmieedfddgmjaa
open Go.RowKit

section
variable {H : Type} {enc : TypeId × Value → H} {P : Program} {w : World} {base : Nat} {spare : Nat → Bool} {held : Bool}

theorem cells1 {a : Addr} {cs : List Value} (h : w.cells? base a 1 = some cs) : ∃ c0, cs = [c0] ∧ w.cell? (a.add 0) = some c0 := by
  obtain ⟨_, hl, hc⟩ := World.cells?_some h
  match cs, hl with
  | [c0], _ => exact ⟨c0, rfl, by simpa using hc 0 (by omega)⟩

theorem bytes_read {S I : TypeId} (hS : P.underlying S = some (.slice I)) (hI : P.underlying I = some (.int .u8)) (cI : P.cellsOf I = 1)
    {fuel : Nat} {a : Option Addr} {len cap : Nat} {x : DataW H × List MemPlace} (h : DataW.trod enc P w base spare held fuel S [.slice a len cap] = some x) : ByteArg w a len cap := by
  rcases DataW.trod_slice hS h with ⟨hc, _⟩ | ⟨a', len', cap', elems, rest, m, hm, hc, _, _, hlc, hcm, hel, hcell, _⟩
  · simp at hc
    obtain ⟨rfl, rfl, rfl⟩ := hc
    exact ⟨Nat.le_refl _, Nat.zero_le _, .inl rfl⟩
  · simp at hc
    obtain ⟨rfl, rfl, rfl⟩ := hc
    refine ⟨hlc, hcm, ?_⟩
    by_cases h0 : len = 0
    · exact .inl h0
    have key : ∀ i, i < len → ∃ n : Int, w.cell? (a'.add i) = some (.int .u8 n) ∧ 0 ≤ n ∧ n ≤ 255 := fun i hi => by
      have hh := hcell i hi
      rw [cI, List.getElem?_eq_getElem (by omega)] at hh
      obtain ⟨cs', h3, h4⟩ := Option.bind_eq_some_iff.1 hh
      obtain ⟨c0, rfl, q0⟩ := cells1 h3
      obtain ⟨n, hn, _, wn⟩ := DataW.trod_int hI h4
      simp only [List.cons.injEq, and_true] at hn
      subst hn
      have hwf : 0 ≤ n ∧ n ≤ 255 := by
        simp [Lit.wf, IntKind.min, IntKind.max, IntKind.signed, IntKind.bits] at wn
        omega
      exact ⟨n, by simpa [Addr.add] using q0, hwf⟩
    obtain ⟨b, o, s⟩ := a'
    obtain ⟨n0, e0, _⟩ := key 0 (by omega)
    have hs : s = none := by simpa [Addr.add] using World.cell?_spot e0
    subst hs
    have ea : ∀ i, Addr.add ⟨b, o, none⟩ i = ⟨b, o + i, none⟩ := fun i => by unfold Addr.add; split <;> simp_all
    have hall : ∀ i, ∃ n : Int, i < len → w.cell? ⟨b, o + i, none⟩ = some (.int .u8 n) ∧ 0 ≤ n ∧ n ≤ 255 := fun i => by
      by_cases hi : i < len
      · obtain ⟨n, hn⟩ := key i hi
        rw [ea] at hn
        exact ⟨n, fun _ => hn⟩
      · exact ⟨0, fun h => absurd h hi⟩
    obtain ⟨f, hf⟩ := Classical.axiomOfChoice hall
    refine .inr ⟨b, o, f, rfl, ?_, hf⟩
    have := (hf 0 (by omega)).1
    exact blt this
end
end Go.Proofs.Ytdmieedfddgmjaa
