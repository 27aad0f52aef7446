/- ExprVars, of the program and of the reference: what it returns, for every expression. Conditions: those of each contract. -/
import Derived.Test.YtffadknollkgiaaRows
import Derived.Test.YtffadknollkgiaaJS4
import Derived.Test.YtffadknollkgiaaJS2
import Derived.Test.YtffadknollkgiaaJS5
import Derived.Test.YtffadknollkgiaaJS6
import Derived.WalkSpells
import Derived.WalkLawsBesides
set_option linter.unusedVariables false
set_option linter.unusedSimpArgs false
namespace Go.Proofs.Ytffadknollkgiaa
open Go.RowKit
namespace Expr

/-- block R holds three truth values -/
def Three (w : World) (R : Nat) (f : Nat → Bool) : Prop := Row w R 3 (fun i => .bool (f i))
theorem occL_append (x : Int) : ∀ (l m : List Tr), occL x (l ++ m) = (occL x l || occL x m)
  | [], m => by simp [occL]
  | t :: ts, m => by simp [occL, occL_append x ts m, Bool.or_assoc]
/-- what is marked behind t -/
def occN (f : Nat → Bool) (t : Tr) (i : Nat) : Bool := f i || occT i t
def occNL (f : Nat → Bool) (l : List Tr) (i : Nat) : Bool := f i || occL i l
def MkPost (R : Nat) (g : Nat → Bool) (r : Value) (w : World) (e : Ending) (w' : World) : Prop := e = .returned r ∧ Three w' R g ∧ Only [R] w w'
def VaT (t : Tr) : Prop := ∀ (n : Nat) (w : World) (x : Value) (R c : Nat) (f : Nat → Bool), exprL.shape t n = true → TrIn (· ≠ R) w t x → Three w R f → 3 ≤ c → c ≤ maxLen → Calls Try.prog 55 #[.slice (some ⟨R, 0, none⟩) 3 c, x] w (MkPost R (occN f t) (.slice (some ⟨R, 0, none⟩) 3 c) w)

theorem trs_only {w wr : World} {R : Nat} {l : List Tr} {a : Option Addr} (h : Only [R] w wr) (hl : TrsIn (· ≠ R) w l a) : TrsIn (· ≠ R) wr l a :=
  (TrIn_frame fun b hb hlt => ⟨hb, h.block b hlt (by simpa using hb)⟩).2 l a hl
theorem Three.set {w : World} {R : Nat} {f : Nat → Bool} (h : Three w R f) {i : Nat} (hi : i < 3) (b : Bool) : Three (w.setCell ⟨R, i, none⟩ (.bool b)) R (fun j => if j = i then b else f j) := by
  refine (Row.set h hi (.bool b)).congr fun j _ => ?_
  by_cases e : j = i <;> simp [e]
theorem Three.congr {w : World} {R : Nat} {f g : Nat → Bool} (h : Three w R f) (e : ∀ i, i < 3 → f i = g i) : Three w R g := Row.congr h fun i hi => by rw [e i hi]
theorem Three.below {w w' : World} {R : Nat} {f : Nat → Bool} (h : Three w R f) (hb : Below w.heap.size w w') : Three w' R f := Row.below h hb
theorem only_alloc {S : List Nat} {w w' : World} (h : Only S w w') (o : Obj) : Only S w (w'.alloc o) := h.trans (Only.below (below_alloc _ _))
theorem Three.post {w w' : World} {R : Nat} {f g : Nat → Bool} {r : Value} (h : Three w' R f) (e : ∀ i, i < 3 → f i = g i) (o : Only [R] w w') : MkPost R g r w (.returned r) w' := ⟨rfl, h.congr e, o⟩
theorem occN_var (f : Nat → Bool) (m : Nat) (i : Nat) : (if i = m then true else f i) = occN f (.mk 2 m []) i := by
  unfold occN occT
  by_cases h : i = m
  · subst h; simp
  · have : ((m : Int) == (i : Int)) = false := by rw [beq_eq_false_iff_ne]; omega
    simp [h, this, occL]
theorem occN_kids (f : Nat → Bool) {k v : Int} (kids : List Tr) (hk : k ≠ 2) (i : Nat) : occNL f kids i = occN f (.mk k v kids) i := by
  have : (k == 2) = false := by rw [beq_eq_false_iff_ne]; exact hk
  simp [occN, occNL, occT, this]
theorem occNL_step (f : Nat → Bool) {kids : List Tr} {j : Nat} {t : Tr} (h : kids[j]? = some t) (i : Nat) : occN (occNL f (kids.take j)) t i = occNL f (kids.take (j + 1)) i := by
  have hl : kids.take (j + 1) = kids.take j ++ [t] := by rw [List.take_add_one, h]; rfl
  simp [occN, occNL, hl, occL_append, occL, Bool.or_assoc]

set_option maxHeartbeats 1000000 in
theorem va_var (v : Int) : VaT (.mk 2 v []) := by
  intro n w x R c f hs hx hf hc hc2
  obtain ⟨m, _, _, _, h4, h5, _, _⟩ := exprL.shape_mk hs
  simp only [exprL_most] at h5
  have hv : v = 0 ∨ v = 1 ∨ v = 2 := by simp at h5; omega
  obtain ⟨m, rfl⟩ : ∃ m : Nat, v = m := ⟨v.toNat, by omega⟩
  have hm : m < 3 := by omega
  obtain ⟨a, c', rfl⟩ := TrIn_shapeMk hx
  unfold maxLen at hc2
  have g0 := hf.2.1 m (by omega)
  have gz := hf.2.2
  have gl := hf.1
  have HF := hid hf
  clear hs hf h4 h5 hv
  simp only [List.length_nil]
  go_enter Try.func55, Try.ntmps55
  go_wp2_with fail
  go_loopw [0, 5] (fun q i wr => q = .slice (some ⟨R, 0, none⟩) 3 c ∧ i = .int .i64 0 ∧ Box3 wr w.heap.size (.int .i64 2) (.int .i64 m) (.slice a 0 c') ∧ Three wr R (fun j => if j = m then true else f j) ∧ Only [R] w wr) (fun _ _ _ => 0)
  case atStart =>
    refine ⟨rfl, rfl, box3_at (by simp), (HF.out.set hm true).below (below_alloc _ _), only_alloc ((Only.refl _ _).set (a := ⟨R, m, none⟩) (by simp) _) _⟩
  case round =>
    obtain ⟨rfl, rfl, hb, h3, ho⟩ := hrel
    have H := hid (And.intro h3 ho)
    clear h3 ho
    obtain ⟨p0, p1, p2, p3, p4⟩ := hb
    go_wp2_with fail
    go_ret
    exact H.out.1.post (fun i _ => occN_var f m i) H.out.2

set_option maxHeartbeats 2000000 in
theorem va_node (k v : Int) (kids : List Tr) (hk : k ≠ 2) (h : ∀ t, t ∈ kids → VaT t) : VaT (.mk k v kids) := by
  intro n w x R c f hs hx hf hc hc2
  obtain ⟨m, _, _, _, _, _, _, h7⟩ := exprL.shape_mk hs
  rw [TrIn_mk] at hx
  obtain ⟨a, n', c', rfl, hi1, hi2, rfl, hc', hc2', hks⟩ := hx
  unfold maxLen at hc2 hc2'
  have gl := hf.1
  have HF := hid hf
  have hk2 : (k == 2) = false := by rw [beq_eq_false_iff_ne]; exact hk
  clear hs hf
  go_enter Try.func55, Try.ntmps55
  go_wp2_with fail
  go_loopw [0, 5] (fun q i wr => ∃ j : Nat, j ≤ kids.length ∧ q = .slice (some ⟨R, 0, none⟩) 3 c ∧ i = .int .i64 j ∧ Box3 wr w.heap.size (.int .i64 k) (.int .i64 v) (.slice a kids.length c') ∧ Three wr R (occNL f (kids.take j)) ∧ Only [R] w wr) (fun _ i _ => kids.length - (intOf i).toNat)
  case atStart => exact ⟨0, Nat.zero_le _, rfl, rfl, box3_new .., (HF.out.below (below_alloc _ _)).congr (fun i _ => by simp [occNL, occL]), only_alloc (Only.refl _ _) _⟩
  case round =>
    obtain ⟨j, hj, rfl, rfl, hb, h3, ho⟩ := hrel
    have H := hid (And.intro h3 ho)
    clear h3 ho
    have hb' := hb
    obtain ⟨p0, p1, p2, p3, p4⟩ := hb
    by_cases hlt : j < kids.length
    · obtain ⟨b, o, c0, c1, c2, t, rfl, gb, g0, g1, g2, hT⟩ := TrsIn_round (trs_only H.out.2 hks) (Below.refl _ wr) hlt
      have hlt2 : (j : Int) < (kids.length : Int) := by omega
      go_wp2_with fail
      refine (h t hT.out.2.1 m _ _ R c _ (h7 t hT.out.2.1) hT.out.1 H.out.1 hc (by unfold maxLen; omega)).mono ?_
      rintro e w2 ⟨rfl, h3, ho⟩
      have hb2 := box3_only ho (by simp; omega) hb'
      have H2 := hid (show Three w2 R (occNL f (kids.take (j + 1))) ∧ Only [R] w w2 from ⟨h3.congr fun i _ => occNL_step f hT.out.2.2.2 i, H.out.2.trans ho⟩)
      clear h3 ho
      go_wp2_with fail
      go_roundw
      case rel => exact ⟨j + 1, by omega, rfl, by go_num, hb2, H2.out⟩
      case measure => simp [intOf]; omega
    · have hlt2 : ¬ ((j : Int) < (kids.length : Int)) := by omega
      go_wp2_with fail
      go_ret
      exact H.out.1.post (fun i _ => by rw [List.take_of_length_le (by omega)]; exact occN_kids f kids hk i) H.out.2

theorem va_any : ∀ t, VaT t := Tr.ind fun k v kids ih => by
  by_cases hk : k = 2
  · subst hk
    intro n w x R c f hs
    obtain ⟨m, _, _, _, _, _, h6, _⟩ := exprL.shape_mk hs
    rw [exprL_ar] at h6
    obtain rfl := len0 (by simpa using h6)
    exact va_var v n w x R c f hs
  · exact va_node k v kids hk ih

/-! ### the program's vars -/
def VbT (t : Tr) : Prop := ∀ (n : Nat) (w : World) (x : Value) (R c : Nat) (f : Nat → Bool), exprL.shape t n = true → TrIn (· ≠ R) w t x → Three w R f → 3 ≤ c → c ≤ maxLen → Calls Try.prog 54 #[x, .slice (some ⟨R, 0, none⟩) 3 c] w (MkPost R (occN f t) (.tuple #[]) w)

set_option maxHeartbeats 1000000 in
theorem vb_var (v : Int) : VbT (.mk 2 v []) := by
  intro n w x R c f hs hx hf hc hc2
  obtain ⟨m, _, _, _, h4, h5, _, _⟩ := exprL.shape_mk hs
  simp only [exprL_most] at h5
  have hv : v = 0 ∨ v = 1 ∨ v = 2 := by simp at h5; omega
  obtain ⟨m, rfl⟩ : ∃ m : Nat, v = m := ⟨v.toNat, by omega⟩
  have hm : m < 3 := by omega
  obtain ⟨a, c', rfl⟩ := TrIn_shapeMk hx
  unfold maxLen at hc2
  have g0 := hf.2.1 m (by omega)
  have gz := hf.2.2
  have gl := hf.1
  have HF := hid hf
  clear hs hf h4 h5 hv
  simp only [List.length_nil]
  go_enter Try.func54, Try.ntmps54
  go_wp2_with fail
  go_loopw [16] (fun i wr => i = .int .i64 0 ∧ Three wr R (fun j => if j = m then true else f j) ∧ Only [R] w wr) (fun _ _ => 0)
  case atStart =>
    refine ⟨rfl, (HF.out.set hm true).below (below_alloc _ _), only_alloc ((Only.refl _ _).set (a := ⟨R, m, none⟩) (by simp) _) _⟩
  case round =>
    obtain ⟨rfl, h3, ho⟩ := hrel
    have H := hid (And.intro h3 ho)
    clear h3 ho
    go_wp2_with fail
    refine bodyPost_ret (v := .tuple #[]) (by simp [results, Try.results54]) rfl ?_
    exact H.out.1.post (fun i _ => occN_var f m i) H.out.2

set_option maxHeartbeats 2000000 in
theorem vb_node (k v : Int) (kids : List Tr) (hk : k ≠ 2) (h : ∀ t, t ∈ kids → VbT t) : VbT (.mk k v kids) := by
  intro n w x R c f hs hx hf hc hc2
  obtain ⟨m, _, _, _, _, _, _, h7⟩ := exprL.shape_mk hs
  rw [TrIn_mk] at hx
  obtain ⟨a, n', c', rfl, hi1, hi2, rfl, hc', hc2', hks⟩ := hx
  unfold maxLen at hc2 hc2'
  have gl := hf.1
  have HF := hid hf
  have hk2 : (k == 2) = false := by rw [beq_eq_false_iff_ne]; exact hk
  clear hs hf
  go_enter Try.func54, Try.ntmps54
  go_wp2_with fail
  go_loopw [16] (fun i wr => ∃ j : Nat, j ≤ kids.length ∧ i = .int .i64 j ∧ Three wr R (occNL f (kids.take j)) ∧ Only [R] w wr) (fun i _ => kids.length - (intOf i).toNat)
  case atStart => exact ⟨0, Nat.zero_le _, rfl, (HF.out.below (below_alloc _ _)).congr (fun i _ => by simp [occNL, occL]), only_alloc (Only.refl _ _) _⟩
  case round =>
    obtain ⟨j, hj, rfl, h3, ho⟩ := hrel
    have H := hid (And.intro h3 ho)
    clear h3 ho
    by_cases hlt : j < kids.length
    · obtain ⟨b, o, c0, c1, c2, t, rfl, gb, g0, g1, g2, hT⟩ := TrsIn_round (trs_only H.out.2 hks) (Below.refl _ wr) hlt
      have hlt2 : (j : Int) < (kids.length : Int) := by omega
      obtain ⟨a4, n4, hsh⟩ := TrIn_shape hT.out.1
      simp only [Value.agg.injEq, Array.mk.injEq, List.cons.injEq, and_true] at hsh
      obtain ⟨rfl, rfl, rfl⟩ := hsh
      have hT2 := hid (TrIn_below (below_alloc wr (.cells #[.int .i64 t.kind, .int .i64 t.val, .slice a4 t.kids.length n4] 25)) hT.out.1)
      have H1 := hid (H.out.1.below (below_alloc wr (.cells #[.int .i64 t.kind, .int .i64 t.val, .slice a4 t.kids.length n4] 25)))
      go_wp2_with fail
      refine (h t hT.out.2.1 m _ _ R c _ (h7 t hT.out.2.1) hT2.out H1.out hc (by unfold maxLen; omega)).mono ?_
      rintro e w2 ⟨rfl, h3, ho⟩
      have H2 := hid (show Three w2 R (occNL f (kids.take (j + 1))) ∧ Only [R] w w2 from ⟨h3.congr fun i _ => occNL_step f hT.out.2.2.2 i, (only_alloc H.out.2 _).trans ho⟩)
      clear h3 ho
      go_wp2_with fail
      go_roundw
      case rel => exact ⟨j + 1, by omega, by go_num, H2.out⟩
      case measure => simp [intOf]; omega
    · have hlt2 : ¬ ((j : Int) < (kids.length : Int)) := by omega
      go_wp2_with fail
      refine bodyPost_ret (v := .tuple #[]) (by simp [results, Try.results54]) rfl ?_
      exact H.out.1.post (fun i _ => by rw [List.take_of_length_le (by omega)]; exact occN_kids f kids hk i) H.out.2

theorem vb_any : ∀ t, VbT t := Tr.ind fun k v kids ih => by
  by_cases hk : k = 2
  · subst hk
    intro n w x R c f hs
    obtain ⟨m, _, _, _, _, _, h6, _⟩ := exprL.shape_mk hs
    rw [exprL_ar] at h6
    obtain rfl := len0 (by simpa using h6)
    exact vb_var v n w x R c f hs
  · exact vb_node k v kids hk ih

end Expr
end Go.Proofs.Ytffadknollkgiaa
