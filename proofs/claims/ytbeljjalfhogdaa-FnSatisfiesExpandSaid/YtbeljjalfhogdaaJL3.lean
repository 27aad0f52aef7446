/- Joined texts (WordPlain, NextI, HoldsI, FixP, TruthsP, RegOrd): contracts and plain laws. Conditions: those of each theorem. -/
import Derived.Test.YtbeljjalfhogdaaJL1
import Derived.Test.YtbeljjalfhogdaaJL2
import Derived.Test.YtbeljjalfhogdaaJL0
import Derived.Maps.AppendAt
namespace Go.Proofs.Ytbeljjalfhogdaa

noncomputable def dec (p : Prop) : Bool := @decide p (Classical.propDecidable p)
theorem dec_iff {p : Prop} : dec p = true ↔ p := @decide_eq_true_iff p (Classical.propDecidable p)

/-- b comes, and a holds until then -/
noncomputable def unt (a b : Nat → Bool) (i : Nat) : Bool := dec (∃ j, b (i + j) = true ∧ ∀ m, m < j → a (i + m) = true)
noncomputable def rls (a b : Nat → Bool) (i : Nat) : Bool := !unt (fun j => !a j) (fun j => !b j) i
theorem unt_step (a b : Nat → Bool) (i : Nat) : unt a b i = (b i || a i && unt a b (i + 1)) := by
  rw [Bool.eq_iff_iff, Bool.or_eq_true, Bool.and_eq_true, unt, unt, dec_iff, dec_iff]
  constructor
  · rintro ⟨j, h1, h2⟩
    cases j with
    | zero => exact .inl h1
    | succ j => exact .inr ⟨h2 0 (by omega), j, by rw [show i + 1 + j = i + (j + 1) by omega]; exact h1, fun m hm => by rw [show i + 1 + m = i + (m + 1) by omega]; exact h2 _ (by omega)⟩
  · rintro (h | ⟨h1, j, h2, h3⟩)
    · exact ⟨0, h, fun m hm => by omega⟩
    · refine ⟨j + 1, by rw [show i + (j + 1) = i + 1 + j by omega]; exact h2, fun m hm => ?_⟩
      cases m with
      | zero => exact h1
      | succ m => rw [show i + (m + 1) = i + 1 + m by omega]; exact h3 m (by omega)
theorem rls_step (a b : Nat → Bool) (i : Nat) : rls a b i = (b i && (a i || rls a b (i + 1))) := by
  simp only [rls]
  rw [unt_step]
  cases a i <;> cases b i <;> simp

/-- from s on, f repeats with the period p -/
def Per (s p : Nat) (f : Nat → Bool) : Prop := ∀ i, s ≤ i → f (i + p) = f i
theorem Per.at {s p : Nat} {f : Nat → Bool} (h : Per s p f) {i : Nat} (hi : s ≤ i) (j : Nat) : f (i + p + j) = f (i + j) := by
  rw [show i + p + j = i + j + p by omega]; exact h _ (by omega)
theorem unt_per {s p : Nat} {a b : Nat → Bool} (ha : Per s p a) (hb : Per s p b) : Per s p (unt a b) := by
  intro i hi
  simp only [unt, ha.at hi, hb.at hi]
theorem Per.not {s p : Nat} {a : Nat → Bool} (ha : Per s p a) : Per s p (fun j => !a j) := fun i hi => by simp only [ha i hi]
theorem rls_per {s p : Nat} {a b : Nat → Bool} (ha : Per s p a) (hb : Per s p b) : Per s p (rls a b) := fun i hi => by
  simp only [rls]; rw [unt_per ha.not hb.not i hi]

/-- the position behind i -/
def nx (s p i : Nat) : Nat := if i + 1 = s + p then s else i + 1
theorem nx_lt {s p i : Nat} (hp : 0 < p) (hi : i < s + p) : nx s p i < s + p := by unfold nx; split <;> omega
theorem per_nx {s p : Nat} {f : Nat → Bool} (h : Per s p f) (i : Nat) : f (nx s p i) = f (i + 1) := by
  unfold nx
  split
  · rename_i e; rw [e]; exact (h s (Nat.le_refl _)).symm
  · rfl

theorem unt_ext {s p : Nat} {a b : Nat → Bool} (hp : 0 < p) (ha : Per s p a) (hb : Per s p b) (g : Nat → Bool) (hg : ∀ k, k < s + p → g k = (b k || a k && g (nx s p k))) :
    ∀ k, k < s + p → unt a b k = true → g k = true := by
  intro k hk h
  rw [unt, dec_iff] at h
  obtain ⟨j, h1, h2⟩ := h
  induction j generalizing k with
  | zero => rw [hg k hk, show b k = true from h1]; rfl
  | succ j ih =>
    have h0 : a k = true := h2 0 (by omega)
    have h3 : g (nx s p k) = true := by
      refine ih _ (nx_lt hp hk) ?_ fun m hm => ?_
      · have e : b (k + 1 + j) = true := by rw [show k + 1 + j = k + (j + 1) by omega]; exact h1
        unfold nx
        split
        · rename_i e2
          rw [e2] at e
          rw [← hb.at (Nat.le_refl s) j]; exact e
        · exact e
      · have e : a (k + 1 + m) = true := by rw [show k + 1 + m = k + (m + 1) by omega]; exact h2 _ (by omega)
        unfold nx
        split
        · rename_i e2
          rw [e2] at e
          rw [← ha.at (Nat.le_refl s) m]; exact e
        · exact e
    rw [hg k hk, h0, h3]; simp

/-- F is the solution of F k = h k (F (nxt k)) that is nearest to the constant st -/
structure FixSol (n : Nat) (nxt : Nat → Nat) (st : Bool) (h : Nat → Bool → Bool) (F : Nat → Bool) : Prop where
  lt : ∀ k, k < n → nxt k < n
  mono : ∀ k, k < n → h k st = !st → h k (!st) = !st
  fix : ∀ k, k < n → F k = h k (F (nxt k))
  ext : ∀ g : Nat → Bool, (∀ k, k < n → g k = h k (g (nxt k))) → ∀ k, k < n → F k = !st → g k = !st

theorem fix_unt {s p : Nat} {a b : Nat → Bool} (hp : 0 < p) (ha : Per s p a) (hb : Per s p b) : FixSol (s + p) (nx s p) false (fun i x => b i || a i && x) (unt a b) where
  lt k hk := nx_lt hp hk
  mono k hk h := by simp at h; simp [h]
  fix k hk := by rw [per_nx (unt_per ha hb)]; exact unt_step a b k
  ext g hg k hk h := unt_ext hp ha hb g hg k hk h
theorem fix_rls {s p : Nat} {a b : Nat → Bool} (hp : 0 < p) (ha : Per s p a) (hb : Per s p b) : FixSol (s + p) (nx s p) true (fun i x => b i && (a i || x)) (rls a b) where
  lt k hk := nx_lt hp hk
  mono k hk h := by simp at h; simp [h]
  fix k hk := by rw [per_nx (rls_per ha hb)]; exact rls_step a b k
  ext g hg k hk h := by
    have := unt_ext hp ha.not hb.not (fun j => !g j) (fun j hj => by rw [hg j hj]; cases b j <;> cases a j <;> simp) k hk (by simpa [rls] using h)
    simpa using this

/-- how many k < n have f k = v -/
def cntB (v : Bool) (f : Nat → Bool) : Nat → Nat
  | 0 => 0
  | n + 1 => cntB v f n + (if f n = v then 1 else 0)
theorem cntB_le_n (v : Bool) (f : Nat → Bool) : ∀ n, cntB v f n ≤ n
  | 0 => Nat.le_refl _
  | n + 1 => by have := cntB_le_n v f n; simp only [cntB]; split <;> omega
theorem cntB_mono {v : Bool} {f g : Nat → Bool} : ∀ {n}, (∀ k, k < n → f k = v → g k = v) → cntB v f n ≤ cntB v g n
  | 0, _ => Nat.le_refl _
  | n + 1, h => by
    have h1 := cntB_mono (n := n) (fun k hk => h k (by omega))
    simp only [cntB]
    by_cases e : f n = v
    · rw [if_pos e, if_pos (h n (by omega) e)]; omega
    · rw [if_neg e]; omega
def upd (f : Nat → Bool) (k : Nat) (v : Bool) : Nat → Bool := fun j => if j = k then v else f j
theorem upd_same (f : Nat → Bool) (k : Nat) : upd f k (f k) = f := by
  funext j; unfold upd; split
  · rename_i e; rw [e]
  · rfl
theorem cntB_upd_ge {v : Bool} {f : Nat → Bool} {k : Nat} : ∀ {n}, n ≤ k → cntB v (upd f k v) n = cntB v f n
  | 0, _ => rfl
  | n + 1, h => by
    simp only [cntB]
    rw [cntB_upd_ge (by omega)]
    simp [upd, show n ≠ k by omega]
theorem cntB_upd {v : Bool} {f : Nat → Bool} {k : Nat} (hv : f k ≠ v) : ∀ {n}, k < n → cntB v (upd f k v) n = cntB v f n + 1
  | 0, h => by omega
  | n + 1, h => by
    simp only [cntB]
    by_cases e : n = k
    · subst e
      rw [cntB_upd_ge (Nat.le_refl _), if_neg hv]
      simp [upd]
    · rw [cntB_upd hv (by omega)]
      simp only [upd, if_neg e]
      omega

section
variable {n : Nat} {nxt : Nat → Nat} {st : Bool} {h : Nat → Bool → Bool} {F : Nat → Bool}
def FixInv (n : Nat) (nxt : Nat → Nat) (st : Bool) (h : Nat → Bool → Bool) (F out : Nat → Bool) : Prop := ∀ k, k < n → out k = !st → h k (out (nxt k)) = !st ∧ F k = !st
/-- behind the part of a sweep that has passed i: out0 at its start, ch: has something changed? -/
structure FixRel (n : Nat) (nxt : Nat → Nat) (st : Bool) (h : Nat → Bool → Bool) (F out0 : Nat → Bool) (i : Nat) (ch : Bool) (out : Nat → Bool) : Prop where
  inv : FixInv n nxt st h F out
  no : ch = false → cntB (!st) out0 n = cntB (!st) out n ∧ ∀ k, i ≤ k → k < n → out k = h k (out (nxt k))
  yes : ch = true → cntB (!st) out0 n < cntB (!st) out n
theorem fixInv_start {out : Nat → Bool} (h0 : ∀ k, k < n → out k = st) : FixInv n nxt st h F out := fun k hk e => by rw [h0 k hk] at e; cases st <;> simp at e
theorem FixRel.start {out : Nat → Bool} (hi : FixInv n nxt st h F out) : FixRel n nxt st h F out n false out := ⟨hi, fun _ => ⟨rfl, fun k h1 h2 => by omega⟩, fun e => by cases e⟩
theorem FixRel.step (hs : FixSol n nxt st h F) {out0 out : Nat → Bool} {k : Nat} {ch : Bool} (hk : k < n) (hr : FixRel n nxt st h F out0 (k + 1) ch out) :
    FixRel n nxt st h F out0 k (ch || h k (out (nxt k)) != out k) (upd out k (h k (out (nxt k)))) := by
  by_cases e : h k (out (nxt k)) = out k
  · rw [e, upd_same]
    refine ⟨hr.inv, fun hc => ?_, fun hc => hr.yes (by simpa using hc)⟩
    have := hr.no (by simpa using hc)
    refine ⟨this.1, fun j h1 h2 => ?_⟩
    by_cases ej : j = k
    · subst ej; exact e.symm
    · exact this.2 j (by omega) h2
  · have hk0 : out k = st := by
      by_cases e2 : out k = !st
      · rw [(hr.inv k hk e2).1, e2] at e; exact absurd rfl e
      · cases st <;> simpa using e2
    have hv : h k (out (nxt k)) = !st := by
      rw [hk0] at e
      cases st <;> simpa using e
    rw [hv]
    have hm : ∀ j, j < n → h j (out (nxt j)) = !st → h j (upd out k (!st) (nxt j)) = !st := by
      intro j hj e3
      by_cases e4 : nxt j = k
      · have : h j st = !st := by have e5 := e3; rw [e4, hk0] at e5; exact e5
        rw [show upd out k (!st) (nxt j) = !st by simp [upd, e4]]
        exact hs.mono j hj this
      · rw [show upd out k (!st) (nxt j) = out (nxt j) by simp [upd, e4]]; exact e3
    refine ⟨fun j hj e3 => ?_, fun hc => ?_, fun _ => ?_⟩
    · by_cases ej : j = k
      · subst ej
        refine ⟨hm j hj hv, ?_⟩
        rw [hs.fix j hj]
        by_cases e5 : out (nxt j) = !st
        · rw [(hr.inv _ (hs.lt j hj) e5).2]
          rw [e5] at hv; exact hv
        · have e6 : out (nxt j) = st := by cases st <;> simpa using e5
          rw [e6] at hv
          have := hs.mono j hj hv
          cases F (nxt j) <;> cases st <;> simp_all
      · have e4 : out j = !st := by simpa [upd, ej] using e3
        exact ⟨hm j hj (hr.inv j hj e4).1, (hr.inv j hj e4).2⟩
    · have : (!st != out k) = false := by
        cases ch <;> simp_all
      rw [hk0] at this
      cases st <;> simp at this
    · rw [cntB_upd (by rw [hk0]; cases st <;> simp) hk]
      cases ch with
      | false => have := (hr.no rfl).1; omega
      | true => have := hr.yes rfl; omega
/-- a fixed point is the solution -/
theorem FixInv.done (hs : FixSol n nxt st h F) {out : Nat → Bool} (hi : FixInv n nxt st h F out) (hf : ∀ k, k < n → out k = h k (out (nxt k))) : ∀ k, k < n → out k = F k := by
  intro k hk
  by_cases e : F k = !st
  · rw [e]; exact hs.ext out hf k hk e
  · by_cases e2 : out k = !st
    · exact absurd (hi k hk e2).2 e
    · cases st <;> simp_all
/-- r sweeps of the reference -/
def FixRound (n : Nat) (nxt : Nat → Nat) (st : Bool) (h : Nat → Bool → Bool) (F : Nat → Bool) (r : Nat) (out : Nat → Bool) : Prop :=
  FixInv n nxt st h F out ∧ ((∀ k, k < n → out k = F k) ∨ r ≤ cntB (!st) out n)
theorem FixRound.next (hs : FixSol n nxt st h F) {r : Nat} {out0 out : Nat → Bool} {ch : Bool} (h0 : FixRound n nxt st h F r out0) (hr : FixRel n nxt st h F out0 0 ch out) : FixRound n nxt st h F (r + 1) out := by
  refine ⟨hr.inv, ?_⟩
  cases ch with
  | false => exact .inl (hr.inv.done hs fun k hk => (hr.no rfl).2 k (Nat.zero_le _) hk)
  | true =>
    have hy := hr.yes rfl
    rcases h0.2 with hd | hc
    · have : cntB (!st) out n ≤ cntB (!st) out0 n := cntB_mono fun k hk e => by rw [hd k hk]; exact (hr.inv k hk e).2
      omega
    · exact .inr (by omega)
theorem FixRound.end {out : Nat → Bool} (h0 : FixRound n nxt st h F (2 * n) out) : ∀ k, k < n → out k = F k := by
  rcases h0.2 with hd | hc
  · exact hd
  · have := cntB_le_n (!st) out n
    intro k hk
    omega
end

/-- has a letter the atom? -/
def bit (n a : Int) : Bool := n / 2 ^ a.toNat % 2 == 1
noncomputable def semN (w : Nat → Int) (k v : Int) (s : List (Nat → Bool)) : Nat → Bool :=
  if k = 1 then fun _ => true
  else if k = 2 then fun i => bit (w i) v
  else if k = 3 then fun i => !s.getD 0 (fun _ => false) i
  else if k = 4 then fun i => s.getD 0 (fun _ => false) i && s.getD 1 (fun _ => false) i
  else if k = 5 then fun i => s.getD 0 (fun _ => false) i || s.getD 1 (fun _ => false) i
  else if k = 6 then fun i => s.getD 0 (fun _ => false) (i + 1)
  else if k = 7 then unt (s.getD 0 (fun _ => false)) (s.getD 1 (fun _ => false))
  else if k = 8 then rls (s.getD 0 (fun _ => false)) (s.getD 1 (fun _ => false))
  else if k = 9 then unt (fun _ => true) (s.getD 0 (fun _ => false))
  else if k = 10 then rls (fun _ => false) (s.getD 0 (fun _ => false))
  else fun _ => false
mutual
/-- at which positions of a word a formula holds -/
noncomputable def sem (w : Nat → Int) : Tr → Nat → Bool | .mk k v kids => semN w k v (semL w kids)
noncomputable def semL (w : Nat → Int) : List Tr → List (Nat → Bool) | [] => [] | t :: ts => sem w t :: semL w ts
end
theorem semL_len (w : Nat → Int) : ∀ l, (semL w l).length = l.length
  | [] => rfl
  | t :: ts => by simp [semL, semL_len w ts]
theorem semN_per {s p : Nat} {w : Nat → Int} (hw : ∀ i, s ≤ i → w (i + p) = w i) (k v : Int) (l : List (Nat → Bool)) (hl : ∀ f, f ∈ l → Per s p f) : Per s p (semN w k v l) := by
  have hz : Per s p (fun _ => false) := fun _ _ => rfl
  have ho : Per s p (fun _ => true) := fun _ _ => rfl
  have hg : ∀ j, Per s p (l.getD j (fun _ => false)) := fun j => by
    rw [List.getD_eq_getElem?_getD]
    cases e : l[j]? with
    | none => exact hz
    | some f => exact hl f (List.mem_of_getElem? e)
  have g0 := hg 0
  have g1 := hg 1
  unfold semN
  repeat' split
  all_goals first
    | exact ho
    | exact hz
    | exact unt_per g0 g1
    | exact rls_per g0 g1
    | exact unt_per ho g0
    | exact rls_per hz g0
    | (intro i hi; simp only [hw i hi]; done)
    | (intro i hi; simp only [g0 i hi]; done)
    | (intro i hi; simp only [g0 i hi, g1 i hi]; done)
    | (intro i hi; exact g0.at hi 1)
mutual
theorem sem_per {s p : Nat} {w : Nat → Int} (hw : ∀ i, s ≤ i → w (i + p) = w i) : ∀ t, Per s p (sem w t)
  | .mk k v kids => by rw [sem]; exact semN_per hw k v _ (semL_per hw kids)
theorem semL_per {s p : Nat} {w : Nat → Int} (hw : ∀ i, s ≤ i → w (i + p) = w i) : ∀ l f, f ∈ semL w l → Per s p f
  | [], f, h => by simp [semL] at h
  | t :: ts, f, h => by
    simp only [semL, List.mem_cons] at h
    rcases h with rfl | h
    · exact sem_per hw t
    · exact semL_per hw ts f h
end

/-- a word of a stem and a loop -/
def wordOf (stem loop : List Int) (i : Nat) : Int := if i < stem.length then stem.getD i 0 else loop.getD ((i - stem.length) % loop.length) 0
theorem wordOf_per (stem loop : List Int) (i : Nat) (hi : stem.length ≤ i) : wordOf stem loop (i + loop.length) = wordOf stem loop i := by
  unfold wordOf
  rw [if_neg (by omega), if_neg (by omega), show i + loop.length - stem.length = i - stem.length + loop.length by omega, Nat.add_mod_right]
theorem wordOf_all {stem loop : List Int} {i : Nat} (hi : i < stem.length + loop.length) : wordOf stem loop i = (stem ++ loop).getD i 0 := by
  unfold wordOf
  split
  · rename_i h
    rw [List.getD_eq_getElem?_getD, List.getD_eq_getElem?_getD, List.getElem?_append_left h]
  · rename_i h
    rw [Nat.mod_eq_of_lt (by omega), List.getD_eq_getElem?_getD, List.getD_eq_getElem?_getD, List.getElem?_append_right (by omega)]
end Go.Proofs.Ytbeljjalfhogdaa
namespace Go.Proofs.Ytbeljjalfhogdaa
open Go.RowKit
namespace Lasso

theorem next_any (s p i : Nat) (w : World) (a b : Option Addr) (c d : Nat) (hs : s ≤ 1000) (hp : p ≤ 1000) (hi : i < s + p) :
    Calls Try.prog 63 #[.agg #[.slice a s c, .slice b p d], .int .i64 i] w (Ret (.int .i64 (nx s p i : Nat)) w) := by
  by_cases h : i + 1 = s + p
  · have e1 : ((i : Int) + 1 == (s : Int) + p) = true := by rw [beq_iff_eq]; omega
    have E := hid (show nx s p i = s by unfold nx; rw [if_pos h])
    clear h
    go_enter Try.func63, Try.ntmps63
    go_wp2_with fail
    go_ret
    exact Ret.mk (int_val (by rw [E.out])) (by repeat (first | exact Below.refl _ _ | assumption | refine below_a ?_ _ | refine below_o ?_ _ | refine below_d ?_ | refine below_n ?_ _ | refine below_s ?_ (by first | (simp; done) | (simp; omega) | omega) _))
  · have e1 : ((i : Int) + 1 == (s : Int) + p) = false := by rw [beq_eq_false_iff_ne]; omega
    have E := hid (show nx s p i = i + 1 by unfold nx; rw [if_neg h])
    clear h
    go_enter Try.func63, Try.ntmps63
    go_wp2_with fail
    go_ret
    exact Ret.mk (int_val (by rw [E.out]; omega)) (by repeat (first | exact Below.refl _ _ | assumption | refine below_a ?_ _ | refine below_o ?_ _ | refine below_d ?_ | refine below_n ?_ _ | refine below_s ?_ (by first | (simp; done) | (simp; omega) | omega) _))
end Lasso
end Go.Proofs.Ytbeljjalfhogdaa
namespace Go.Proofs.Ytbeljjalfhogdaa
open Go.RowKit
namespace Lasso

/-- a row of n truth values -/
def BRow (w : World) (R n : Nat) (f : Nat → Bool) : Prop := Row w R n (fun i => .bool (f i))
/-- the operands' rows, in a variable K: one -/
def Kid1 (w : World) (K n : Nat) (a : Nat → Bool) : Prop := ∃ g c ra, K < w.heap.size ∧ g < w.heap.size ∧ 1 ≤ c ∧ w.cell? ⟨K, 0, none⟩ = some (.slice (some ⟨g, 0, none⟩) 1 c) ∧ w.cell? ⟨g, 0, none⟩ = some (.slice (some ⟨ra, 0, none⟩) n n) ∧ BRow w ra n a
/-- two -/
def Kid2 (w : World) (K n : Nat) (a b : Nat → Bool) : Prop := ∃ g c ra rb, K < w.heap.size ∧ g < w.heap.size ∧ 2 ≤ c ∧ w.cell? ⟨K, 0, none⟩ = some (.slice (some ⟨g, 0, none⟩) 2 c) ∧ w.cell? ⟨g, 0, none⟩ = some (.slice (some ⟨ra, 0, none⟩) n n) ∧ w.cell? ⟨g, 1, none⟩ = some (.slice (some ⟨rb, 0, none⟩) n n) ∧ BRow w ra n a ∧ BRow w rb n b

set_option maxHeartbeats 1000000 in
theorem untC_any (n K i : Nat) (x : Bool) (a b : Nat → Bool) (w : World) (h : Kid2 w K n a b) (hi : i < n) (_ : n ≤ 1000) : Calls Try.prog 64 #[.int .i64 i, .bool x, .pointer (some ⟨K, 0, none⟩)] w (Ret (.bool (b i || a i && x)) w) := by
  obtain ⟨g, c, ra, rb, k1, k2, k3, c0, c1, c2, r1, r2⟩ := h
  have a1 : w.cell? ⟨ra, i, none⟩ = some (.bool (a i)) := r1.2.1 i hi
  have b1 : w.cell? ⟨rb, i, none⟩ = some (.bool (b i)) := r2.2.1 i hi
  have ra1 := r1.1
  have rb1 := r2.1
  have hi2 : (i : Int) < (n : Int) := by omega
  clear r1 r2
  generalize a i = p at *
  generalize b i = q at *
  go_enter Try.func64, Try.ntmps64
  go_wp2_with fail
  all_goals
    go_ret
    exact Ret.mk (bool_val (by cases p <;> cases q <;> cases x <;> first | rfl | contradiction)) (Below.refl _ _)
set_option maxHeartbeats 1000000 in
theorem rlsC_any (n K i : Nat) (x : Bool) (a b : Nat → Bool) (w : World) (h : Kid2 w K n a b) (hi : i < n) (_ : n ≤ 1000) : Calls Try.prog 65 #[.int .i64 i, .bool x, .pointer (some ⟨K, 0, none⟩)] w (Ret (.bool (b i && (a i || x))) w) := by
  obtain ⟨g, c, ra, rb, k1, k2, k3, c0, c1, c2, r1, r2⟩ := h
  have a1 : w.cell? ⟨ra, i, none⟩ = some (.bool (a i)) := r1.2.1 i hi
  have b1 : w.cell? ⟨rb, i, none⟩ = some (.bool (b i)) := r2.2.1 i hi
  have ra1 := r1.1
  have rb1 := r2.1
  have hi2 : (i : Int) < (n : Int) := by omega
  clear r1 r2
  generalize a i = p at *
  generalize b i = q at *
  go_enter Try.func65, Try.ntmps65
  go_wp2_with fail
  all_goals
    go_ret
    exact Ret.mk (bool_val (by cases p <;> cases q <;> cases x <;> first | rfl | contradiction)) (Below.refl _ _)
set_option maxHeartbeats 1000000 in
theorem evC_any (n K i : Nat) (x : Bool) (a : Nat → Bool) (w : World) (h : Kid1 w K n a) (hi : i < n) (_ : n ≤ 1000) : Calls Try.prog 66 #[.int .i64 i, .bool x, .pointer (some ⟨K, 0, none⟩)] w (Ret (.bool (a i || x)) w) := by
  obtain ⟨g, c, ra, k1, k2, k3, c0, c1, r1⟩ := h
  have a1 : w.cell? ⟨ra, i, none⟩ = some (.bool (a i)) := r1.2.1 i hi
  have ra1 := r1.1
  have hi2 : (i : Int) < (n : Int) := by omega
  clear r1
  generalize a i = p at *
  go_enter Try.func66, Try.ntmps66
  go_wp2_with fail
  all_goals
    go_ret
    exact Ret.mk (bool_val (by cases p <;> cases x <;> first | rfl | contradiction)) (Below.refl _ _)
set_option maxHeartbeats 1000000 in
theorem alC_any (n K i : Nat) (x : Bool) (a : Nat → Bool) (w : World) (h : Kid1 w K n a) (hi : i < n) (_ : n ≤ 1000) : Calls Try.prog 67 #[.int .i64 i, .bool x, .pointer (some ⟨K, 0, none⟩)] w (Ret (.bool (a i && x)) w) := by
  obtain ⟨g, c, ra, k1, k2, k3, c0, c1, r1⟩ := h
  have a1 : w.cell? ⟨ra, i, none⟩ = some (.bool (a i)) := r1.2.1 i hi
  have ra1 := r1.1
  have hi2 : (i : Int) < (n : Int) := by omega
  clear r1
  generalize a i = p at *
  go_enter Try.func67, Try.ntmps67
  go_wp2_with fail
  all_goals
    go_ret
    exact Ret.mk (bool_val (by cases p <;> cases x <;> first | rfl | contradiction)) (Below.refl _ _)
end Lasso
end Go.Proofs.Ytbeljjalfhogdaa
namespace Go.Proofs.Ytbeljjalfhogdaa
open Go.RowKit
namespace Lasso

theorem brow_upd {w : World} {R n k : Nat} {f : Nat → Bool} (h : BRow w R n f) (hk : k < n) (v : Bool) : BRow (w.setCell ⟨R, k, none⟩ (.bool v)) R n (upd f k v) :=
  (Row.set h hk (.bool v)).congr fun i _ => by
    unfold upd
    split <;> rfl
theorem But.pbox {w w' : World} {D : Nat} (h : But w D w') {B : Nat} {a b : Value} (hd : B ≠ D) (hb : PBox w B a b) : PBox w' B a b := pbox_but h hd hb
theorem But.box1 {w w' : World} {D : Nat} (h : But w D w') {B : Nat} {a : Value} (hd : B ≠ D) (hb : Box1 w B a) : Box1 w' B a :=
  ⟨Nat.lt_of_lt_of_le hb.1 h.size, by rw [h.cell hb.1 hd]; exact hb.2.1, by rw [h.frozen hb.1 hd]; exact hb.2.2⟩
/-- the truth values that lie in a block -/
def outOf (w : World) (R : Nat) : Nat → Bool := fun i => match w.cell? ⟨R, i, none⟩ with | some (.bool b) => b | _ => false
theorem outOf_row {w : World} {R n : Nat} {f : Nat → Bool} (h : BRow w R n f) {i : Nat} (hi : i < n) : outOf w R i = f i := by
  unfold outOf; rw [h.2.1 i hi]
theorem cntB_congr {v : Bool} {f g : Nat → Bool} {n : Nat} (h : ∀ k, k < n → f k = g k) : cntB v f n = cntB v g n :=
  Nat.le_antisymm (cntB_mono fun k hk e => by rw [← h k hk]; exact e) (cntB_mono fun k hk e => by rw [h k hk]; exact e)
def isT : Value → Bool | .bool true => true | _ => false
/-- what fix comes to -/
def FixPost (R n : Nat) (F : Nat → Bool) (w : World) (e : Ending) (w' : World) : Prop := e = .returned (.tuple #[]) ∧ But w R w' ∧ BRow w' R n F

end Lasso
end Go.Proofs.Ytbeljjalfhogdaa
namespace Go.Proofs.Ytbeljjalfhogdaa
open Go.RowKit
namespace Lasso

theorem and_bit (z v : Int) (hz : 0 ≤ z ∧ z ≤ 7) (hv : 0 ≤ v ∧ v ≤ 2) : (bits BinOp.and IntKind.i64 (z / 2 ^ min v.toNat 64) 1 == 1) = bit z v := by
  rcases (by omega : z = 0 ∨ z = 1 ∨ z = 2 ∨ z = 3 ∨ z = 4 ∨ z = 5 ∨ z = 6 ∨ z = 7) with rfl | rfl | rfl | rfl | rfl | rfl | rfl | rfl <;> rcases (by omega : v = 0 ∨ v = 1 ∨ v = 2) with rfl | rfl | rfl <;> decide
/-- a nil slice has no room -/
def NilOk (x : Value) : Prop := ∀ a n c b m d, x = .agg #[.slice a n c, .slice b m d] → (a = none → c = 0) ∧ (b = none → d = 0)

set_option maxHeartbeats 1000000 in
theorem all_any (l m : List Int) (w : World) (x : Value) (hx : PairIn Any w l m x) (hn : NilOk x) (h1 : l.length ≤ 1000) (h2 : m.length ≤ 1000) : Calls Try.prog 61 #[x] w (ConPost (l ++ m) w) := by
  obtain ⟨a, b, c, d, rfl, hl, hm, hc, hc2, hd, hd2⟩ := hx
  obtain ⟨n1, n2⟩ := hn _ _ _ _ _ _ rfl
  have HC := hid (fun (w' : World) (q : Nat) (ht : Two2 w' q a b l m c d) (M : Below w.heap.size w w') => concat_any w' q a b l m c d ht (hl.below M) (hm.below M) n1 n2 h1 h2)
  clear n1 n2
  go_enter Try.func61, Try.ntmps61
  go_wp2_with fail
  refine (HC.out _ _ ⟨by simp, by simp, by simp⟩ (by repeat (first | exact Below.refl _ _ | assumption | refine below_a ?_ _ | refine below_o ?_ _ | refine below_d ?_ | refine below_n ?_ _ | refine below_s ?_ (by first | (simp; done) | (simp; omega) | omega) _))).mono ?_
  rintro e w1 ⟨v, rfl, hv, hb⟩
  have HV := hid (show ConPost (l ++ m) w (.returned v) w1 from ⟨v, rfl, by
    obtain ⟨k1, k2⟩ := hv
    refine ⟨k1, ?_⟩
    rcases k2 with k2 | ⟨g, cap, cur, e1, e2, e3⟩
    · exact .inl k2
    · exact .inr ⟨g, cap, cur, e1, by simp at e2; omega, e3⟩, below_next (by repeat (first | exact Below.refl _ _ | assumption | refine below_a ?_ _ | refine below_o ?_ _ | refine below_d ?_ | refine below_n ?_ _ | refine below_s ?_ (by first | (simp; done) | (simp; omega) | omega) _)) hb⟩)
  clear hv hb
  go_wp2_with fail
  go_ret
  exact HV.out

/-- the numbers of a row of one's own -/
theorem OwnI.ints {B : Nat} {v : Value} {l : List Int} {w : World} (h : OwnI B v l w) (hl : ∀ n, n ∈ l → i64 n) : ∃ a c, v = .slice a l.length c ∧ l.length ≤ c ∧ c ≤ maxLen ∧ IntsIn Any w a l := by
  have h0 := h
  obtain ⟨k1, k2⟩ := h
  rcases k2 with ⟨rfl, hz⟩ | ⟨g, cap, cur, rfl, e2, e3, e4, e5, e6, e7⟩
  · refine ⟨none, 0, by rw [hz], by omega, by simp, .inl ?_, hl⟩
    simpa using hz
  · refine ⟨_, _, rfl, e4, e5, .inr ⟨g, 0, rfl, trivial, (Array.getElem?_eq_some_iff.1 e3).1, fun i u hu => ?_⟩, hl⟩
    have := World.ownsRow.cells h0 (g := g) rfl i u hu
    have e : Addr.add ⟨g, 0, none⟩ i = ⟨g, 0 + i, none⟩ := by unfold Addr.add; split <;> simp_all
    rw [e] at this
    exact this

/-- rows of n truth values, in a row of one's own -/
def OwnK (B : Nat) (v : Value) (n : Nat) (fs : List (Nat → Bool)) (w : World) : Prop :=
  ∃ Rs : List Nat, Rs.length = fs.length ∧ w.ownsRow B 50 1 v fs.length (Rs.map fun R => Value.slice (some ⟨R, 0, none⟩) n n) ∧
    ∀ (i R : Nat) (f : Nat → Bool), Rs[i]? = some R → fs[i]? = some f → B ≤ R ∧ some R ≠ v.ownBlock ∧ BRow w R n f
theorem OwnK.nil (B n : Nat) (w : World) : OwnK B (.slice none 0 0) n [] w := ⟨[], rfl, World.ownsRow_nil .., by simp⟩
theorem OwnK.keep {B n : Nat} {v : Value} {fs : List (Nat → Bool)} {w w' : World} (h : OwnK B v n fs w) (hk : Keep B w w') : OwnK B v n fs w' := by
  obtain ⟨Rs, h1, h2, h3⟩ := h
  refine ⟨Rs, h1, ownsRow_keep h2 hk, fun i R f hR hf => ?_⟩
  obtain ⟨k1, k2, k3⟩ := h3 i R f hR hf
  exact ⟨k1, k2, Row.kept k3 hk.size (hk.block R k1 k3.1)⟩
theorem OwnK.shape {B n : Nat} {v : Value} {fs : List (Nat → Bool)} {w : World} (h : OwnK B v n fs w) : ∃ a c, v = .slice a fs.length c ∧ fs.length ≤ c ∧ c ≤ maxLen := by
  obtain ⟨Rs, h1, h2, h3⟩ := h
  rcases h2.2 with ⟨rfl, h⟩ | ⟨g, cap, cur, rfl, hb, hgg, h4, h5, _⟩
  · exact ⟨none, 0, by rw [h], by omega, by simp⟩
  · exact ⟨_, _, rfl, h4, h5⟩
theorem OwnK.lt {B n : Nat} {v : Value} {fs : List (Nat → Bool)} {w : World} (h : OwnK B v n fs w) : ∀ k, v.ownBlock = some k → B ≤ k ∧ k < w.heap.size := by
  obtain ⟨Rs, h1, h2, h3⟩ := h
  exact h2.lt

theorem kids_info : (Try.prog.info? 50).map (fun i => (i.zero, i.size, i.bytes)) = some (some (.slice none 0 0), 1, 24) := by kernel_rfl
/-- append(kids, row), at the operation: the row was made meanwhile -/
theorem wp_append_kid {ops : Array Oper} {rest : List Oper} {o : Oper} {a : Act} {Q : Exit → Act → World → Prop} {wr w1 : World} {B n R : Nat} {fs : List (Nat → Bool)} {f : Nat → Bool} {u : Value} {ty : TypeId} (hgd : o.guard = none) (s xx : Operand)
    (ho : o.op = .call { callee := .builtin .append, args := #[s, xx], argTypes := #[86, 86] })
    (hs : a.eval s = u) (hx : a.eval xx = .slice (some ⟨w1.heap.size, 0, none⟩) 1 1)
    (hown : OwnK B u n fs wr) (hB : B ≤ wr.heap.size) (hk : Keep B wr w1) (hR : wr.heap.size ≤ R) (hrow : BRow w1 R n f) (hl : fs.length ≤ 1000000)
    (h : ∀ a2 n2 c2 w', OwnK B (.slice a2 n2 c2) n (fs ++ [f]) w' → Below B w1 w' → (∀ D, (∀ k, u.ownBlock = some k → k = D) → But w1 D w') → wpList Try.prog ops Q rest (a.put o.dst (.slice a2 n2 c2)) w') :
    wpList Try.prog ops Q (o :: rest) a (w1.alloc (.cells #[.slice (some ⟨R, 0, none⟩) n n] ty)) := by
  obtain ⟨Rs, q1, o1, o3⟩ := hown
  obtain ⟨ri, hi, hz, hs1, hs2⟩ := info_parts kids_info
  have s1 := hk.size
  refine wpList_append_own_at _ hgd s xx 86 ho B 50 ri _ 1 24 Try.underlying86 hi hz hs1 hs2 rfl (by omega) u fs.length _ hs ((ownsRow_keep o1 hk).alloc _) ⟨w1.heap.size, 0, none⟩ 1 1 [.slice (some ⟨R, 0, none⟩) n n] hx rfl (cell_one_new _ _ _) (by intro v hv; simp at hv; subst hv; rfl)
    (by simp only [maxLen]; omega) (by omega) (by simp; omega) ?_
  intro v2 w3 hown hgrow _ hat
  have hub := fun k hk => (o1.lt k hk).2
  have hsz := hgrow.size
  simp only [World.size_alloc] at hsz hat
  have hkeep : ∀ b, b < w1.heap.size → some b ≠ u.ownBlock → w3.heap[b]? = w1.heap[b]? := fun b hb hne => by
    rw [hgrow.block b (by simp; omega) hne, (below_alloc w1 _).block b hb]
  have hne : ∀ b, b < w1.heap.size + 1 → some b ≠ u.ownBlock → some b ≠ v2.ownBlock := fun b hb h e => by
    rcases hat with h' | h'
    · rw [h'] at e; exact h e
    · rw [h'] at e; simp at e; omega
  have hsn : OwnK B v2 n (fs ++ [f]) w3 := by
    refine ⟨Rs ++ [R], by simp [q1], by simpa using hown, fun i R' f' hR' hf' => ?_⟩
    by_cases hi : i < fs.length
    · rw [List.getElem?_append_left (by omega)] at hR' hf'
      obtain ⟨k1, k2, k3⟩ := o3 i R' f' hR' hf'
      have hl1 := k3.1
      refine ⟨k1, hne R' (by omega) k2, Row.kept k3 (by omega) ?_⟩
      rw [hkeep R' (by omega) k2]
      exact hk.block R' k1 hl1
    · have hi2 : i = fs.length := by
        have := (List.getElem?_eq_some_iff.1 hf').1
        simp at this; omega
      subst hi2
      rw [List.getElem?_append_right (by omega)] at hR' hf'
      simp [q1] at hR' hf'
      subst hR' hf'
      have hl1 := hrow.1
      have hnu : some R ≠ u.ownBlock := fun e => by have := hub R e.symm; omega
      exact ⟨by omega, hne R (by omega) hnu, Row.kept hrow (by omega) (hkeep R (by omega) hnu)⟩
  obtain ⟨a2, c2, rfl, _⟩ := hsn.shape
  refine h _ _ _ _ hsn ⟨hgrow.os, hgrow.tape, hgrow.output, by omega, fun k hk' => hkeep k (by omega) fun e => by have := (o1.lt k e.symm).1; omega⟩ (fun D hD => ⟨hgrow.os, hgrow.tape, hgrow.output, by omega, fun k hk' hkD => hkeep k hk' fun e => hkD (hD k e.symm)⟩)
theorem OwnK.rows {B n : Nat} {v : Value} {fs : List (Nat → Bool)} {w : World} (h : OwnK B v n fs w) (h0 : 0 < fs.length) : ∃ g c, v = .slice (some ⟨g, 0, none⟩) fs.length c ∧ fs.length ≤ c ∧ g < w.heap.size ∧
    ∀ i f, fs[i]? = some f → ∃ R, w.cell? ⟨g, i, none⟩ = some (.slice (some ⟨R, 0, none⟩) n n) ∧ BRow w R n f := by
  obtain ⟨Rs, h1, h2, h3⟩ := h
  rcases h2.2 with ⟨rfl, hz⟩ | ⟨g, cap, cur, rfl, hb, hgg, h4, h5, _⟩
  · omega
  · refine ⟨g, cap, rfl, h4, (Array.getElem?_eq_some_iff.1 hgg).1, fun i f hf => ?_⟩
    have hi : i < Rs.length := by have := (List.getElem?_eq_some_iff.1 hf).1; omega
    have hR := List.getElem?_eq_getElem hi
    refine ⟨Rs[i], ?_, (h3 i _ f hR hf).2.2⟩
    have := World.ownsRow.cells h2 (g := g) rfl i (.slice (some ⟨Rs[i], 0, none⟩) n n) (by rw [List.getElem?_map, hR]; rfl)
    have e : Addr.add ⟨g, 0, none⟩ i = ⟨g, i, none⟩ := by unfold Addr.add; split <;> simp_all
    rw [e] at this
    exact this
theorem OwnK.kid1 {B n K : Nat} {v : Value} {a : Nat → Bool} {w : World} (h : OwnK B v n [a] w) (hc : Box1 w K v) : Kid1 w K n a := by
  obtain ⟨g, c, rfl, k1, k2, k3⟩ := h.rows (by simp)
  obtain ⟨R, k4, k5⟩ := k3 0 a rfl
  exact ⟨g, c, R, hc.1, k2, k1, hc.2.1, k4, k5⟩
theorem OwnK.kid2 {B n K : Nat} {v : Value} {a b : Nat → Bool} {w : World} (h : OwnK B v n [a, b] w) (hc : Box1 w K v) : Kid2 w K n a b := by
  obtain ⟨g, c, rfl, k1, k2, k3⟩ := h.rows (by simp)
  obtain ⟨R, k4, k5⟩ := k3 0 a rfl
  obtain ⟨S, k6, k7⟩ := k3 1 b rfl
  exact ⟨g, c, R, S, hc.1, k2, k1, hc.2.1, k4, k6, k5, k7⟩
theorem Kid1.below {w w' : World} {K n : Nat} {a : Nat → Bool} (h : Kid1 w K n a) (hb : Below w.heap.size w w') : Kid1 w' K n a := by
  obtain ⟨g, c, ra, h1, h2, h3, h4, h5, h6⟩ := h
  have hs := hb.size
  exact ⟨g, c, ra, by omega, by omega, h3, by rw [hb.cell (p := ⟨K, 0, none⟩) h1]; exact h4, by rw [hb.cell (p := ⟨g, 0, none⟩) h2]; exact h5, Row.below h6 hb⟩
theorem Kid2.below {w w' : World} {K n : Nat} {a b : Nat → Bool} (h : Kid2 w K n a b) (hb : Below w.heap.size w w') : Kid2 w' K n a b := by
  obtain ⟨g, c, ra, rb, h1, h2, h3, h4, h5, h6, h7, h8⟩ := h
  have hs := hb.size
  exact ⟨g, c, ra, rb, by omega, by omega, h3, by rw [hb.cell (p := ⟨K, 0, none⟩) h1]; exact h4, by rw [hb.cell (p := ⟨g, 0, none⟩) h2]; exact h5, by rw [hb.cell (p := ⟨g, 1, none⟩) h2]; exact h6, Row.below h7 hb, Row.below h8 hb⟩
end Lasso
end Go.Proofs.Ytbeljjalfhogdaa
namespace Go.Proofs.Ytbeljjalfhogdaa
open Go.RowKit

/-- which operations may come up, one behind the other; 'fre', 'twf': of those that wait for all reads -/
inductive Ord where
  | done
  | one (i : Nat) (r : Ord)
  | fre (i : Nat) (r : Ord)
  | two (i j : Nat) (r s : Ord)
  | twf (i j : Nat) (r s : Ord)
  | thr (i j k : Nat) (r s t : Ord)

section
variable {P : Program} {ops : Array Oper} {Q : Exit → Act → World → Prop} {md : Region.Mode} {C : World → Prop} {Z : List Nat}

/-- whatever order is picked; C holds behind each operation but those of Z -/
def AnyZ (P : Program) (md : Region.Mode) (ops : Array Oper) (Q : Exit → Act → World → Prop) (C : World → Prop) (Z : List Nat) : Nat → Array Bool → Act → World → Prop
  | 0, listed, a, w => Region.ready md ops listed = [] ∧ Q .normal a w
  | n + 1, listed, a, w => (Region.ready md ops listed = [] → Q .normal a w) ∧ ∀ i, i ∈ Region.ready md ops listed →
      wpOp P ops Q i (fun a' w' => (Z.contains i = false → C w') ∧ AnyZ P md ops Q C Z n (listed.setIfInBounds i true) a' w') a w

theorem AnyZ.sound : ∀ (n : Nat) (listed : Array Bool) (a : Act) (w : World), AnyZ P md ops Q C Z n listed a w → wpAny P md ops Q n listed a w
  | 0, _, _, _, h => h
  | n + 1, _, _, _, h => ⟨h.1, fun i hi => wpOp_mono (fun a' w' h' => AnyZ.sound n _ a' w' h'.2) (h.2 i hi)⟩

/-- all operations of Z wait for operation i -/
def waitsZ (md : Region.Mode) (ops : Array Oper) (Z : List Nat) (i : Nat) : Bool := Z.all fun z => waits md ops z i

theorem AnyZ.take {i : Nat} {o : Oper} {v : Value} (hi : ops[i]? = some o) (hsel : Region.noSelect ops = true) (hQ : ∀ c a w, Q (.panic c) (a.put o.dst v) w → Q (.panic c) a w) (hz : waitsZ md ops Z i = true) :
    ∀ (n : Nat) (listed : Array Bool) (a : Act) (w : World),
      (∀ j oj, ops[j]? = some oj → j ≠ i → listed.getD j true = false → (∀ e ∈ oj.after, Region.binds md e = true → e.on ≠ i) → o.apart ops oj = true) →
      i ∈ Region.ready md ops listed → YieldsIf P ops C o v a → C w → AnyZ P md ops Q C Z n (listed.setIfInBounds i true) (a.put o.dst v) w → AnyZ P md ops Q C Z (n + 1) listed a w := by
  intro n
  induction n with
  | zero =>
    intro listed a w _ hr hy hC H
    refine ⟨fun h => by (rw [h] at hr; cases hr), fun j hj => ?_⟩
    by_cases e : j = i
    · subst e; exact hy.wpOp hi hC ⟨fun _ => hC, H⟩
    · have h1 := ready_mono hj e
      rw [H.1] at h1; cases h1
  | succ n ih =>
    intro listed a w hfree hr hy hC H
    refine ⟨fun h => by (rw [h] at hr; cases hr), fun j hj => ?_⟩
    by_cases e : j = i
    · subst e; exact hy.wpOp hi hC ⟨fun _ => hC, H⟩
    · have h1 := H.2 j (ready_mono hj e)
      obtain ⟨hun, oj, hoj, hall⟩ := mem_ready.1 hj
      have hno : ∀ x ∈ oj.after, Region.binds md x = true → x.on ≠ i := fun x hx hb he => by
        have h2 := hall x hx hb
        have h3 := (mem_ready.1 hr).1
        rw [he] at h2
        rcases Nat.lt_or_ge i listed.size with h4 | h4
        · simp [h4] at h2 h3; rw [h3] at h2; cases h2
        · simp [Array.getElem?_eq_none h4] at h2
      have hjz : Z.contains j = false := by
        cases hjz : Z.contains j with
        | false => rfl
        | true =>
          exfalso
          unfold waitsZ at hz
          rw [List.all_eq_true] at hz
          have hz := hz j (by simpa using hjz)
          unfold waits at hz
          rw [hoj] at hz
          simp only [Option.map_some, Option.getD_some, Array.any_eq_true] at hz
          obtain ⟨k, hk, hz⟩ := hz
          simp only [Bool.and_eq_true, beq_iff_eq] at hz
          exact hno _ (Array.getElem_mem hk) hz.1 hz.2
      have h5 := wpOp_putIf hoj (hfree j oj hoj e hun hno) (fun cs b => Region.noSelect_spec hsel i o cs b hi) (fun cs b => Region.noSelect_spec hsel j oj cs b hoj) hQ hy h1
      have hri := ready_mono (md := md) hr (Ne.symm e)
      refine wpOp_mono (fun a' w' h6 => ?_) h5
      have hCw : C w' := h6.2.1 hjz
      exact ⟨fun _ => hCw, ih (listed.setIfInBounds j true) a' w' (fun k ok hk hki hu hnk => hfree k ok hk hki (by
          by_cases hjk : j = k
          · subst hjk; exact hun
          · rw [getD_set_ne true hjk] at hu; exact hu) hnk) hri h6.1 hCw (by rw [Array.setIfInBounds_comm _ _ e]; exact h6.2.2)⟩

/-- an operation that only reads: a plain one, or 'len' -/
def lenOp (o : Oper) : Bool := match o.op with
  | .call { callee := .builtin .len, .. } => true
  | _ => false
theorem len_value {o : Oper} (h : lenOp o = true) {ρ : Operand → Value} {w w' : World} {n : Next} (hr : Sem.run P (execOp ρ o) w = .ok n w') : ∃ u, n = .value u := by
  obtain ⟨dst, op, ty, pos, after, guard⟩ := o
  unfold lenOp at h
  split at h
  · rename_i c1 c2 hop
    dsimp only at hop
    subst hop
    unfold execOp at hr
    simp only [resolve, invoke, builtin, Sem.run_bind, Sem.run_pure, Result.andThen_ok] at hr
    generalize Sem.run P (Builtin.len_ c2 ty (Array.map ρ c1)) w = rr at hr
    cases rr with
    | ok v w1 => simp [Result.andThen] at hr; exact ⟨v, hr.1.symm⟩
    | halt h w1 => simp [Result.andThen] at hr
  · cases h
theorem plain2_value {o : Oper} (h : (plainOp o || lenOp o) = true) {ρ : Operand → Value} {w w' : World} {n : Next} (hr : Sem.run P (execOp ρ o) w = .ok n w') : ∃ u, n = .value u := by
  rw [Bool.or_eq_true] at h
  rcases h with h | h
  · exact plain_value h hr
  · exact len_value h hr
/-- each of these may be taken first, one behind the other -/
def preZ (md : Region.Mode) (l : List Oper) (Z : List Nat) : List Nat → Array Bool → Bool
  | [], _ => true
  | i :: r, listed => (Region.ready md l.toArray listed).contains i && (Region.free md l.toArray listed i && (waitsZ md l.toArray Z i && (((l[i]?).map fun o => plainOp o || lenOp o).getD false && preZ md l Z r (listed.setIfInBounds i true))))
theorem AnyZ.pre {l : List Oper} {n : Nat} {w : World} (hsel : Region.noSelect l.toArray = true) (hQ : ∀ d v c a w, Q (.panic c) (Act.put a d v) w → Q (.panic c) a w) (hC : C w) :
    ∀ (I : List Nat) (listed : Array Bool) (a : Act), preZ md l Z I listed = true → wpQuiet P l.toArray C (fun a' => AnyZ P md l.toArray Q C Z n (marked I listed) a' w) (pick l I) a → AnyZ P md l.toArray Q C Z (n + I.length) listed a w := by
  intro I
  induction I with
  | nil => intro listed a _ h; exact h
  | cons i r ih =>
    intro listed a hB h
    simp only [preZ, Bool.and_eq_true] at hB
    obtain ⟨h1, h2, h3, h4, h5⟩ := hB
    cases ho : l[i]? with
    | none => rw [ho] at h4; simp at h4
    | some o =>
      rw [ho] at h4
      simp only [Option.map_some, Option.getD_some] at h4
      rw [pick_cons ho] at h
      have hoa : l.toArray[i]? = some o := by simpa using ho
      unfold wpQuiet at h
      have hgo : ∀ v, YieldsIf P l.toArray C o v a → wpQuiet P l.toArray C (fun a' => AnyZ P md l.toArray Q C Z n (marked r (listed.setIfInBounds i true)) a' w) (pick l r) (a.put o.dst v) → AnyZ P md l.toArray Q C Z (n + (i :: r).length) listed a w := fun v hy hr =>
        AnyZ.take hoa hsel (fun c a w => hQ _ _ c a w) h3 _ listed a w (Region.free_spec hoa h2) (by simpa using h1) hy hC (ih _ _ h5 hr)
      split at h
      · rename_i hw
        obtain ⟨v, hv, hr⟩ := h
        refine hgo v (.inl ⟨hw, fun w1 hw1 => ?_⟩) hr
        have hq := hv w1 hw1
        unfold Oper.quietAt at hq
        cases hrun : Sem.run P (execOp a.eval o) w1 with
        | ok nx w2 =>
          obtain ⟨u, rfl⟩ := plain2_value h4 hrun
          rw [hrun] at hq
          simp only [Oper.quietUpon] at hq
          rw [hq.1, hq.2]
        | halt hh w2 => rw [hrun] at hq; simp only [Oper.quietUpon] at hq
      · rename_i hw
        exact hgo undef (.inr ⟨by simpa using hw, rfl⟩) h


/-- these orders, and no others -/
def ordB (md : Region.Mode) (l : List Oper) (Z : List Nat) : Ord → Array Bool → Bool
  | .done, listed => (Region.ready md l.toArray listed).isEmpty
  | .one i r, listed => (Region.ready md l.toArray listed) == [i] && ((l[i]?).isSome && ordB md l Z r (listed.setIfInBounds i true))
  | .fre i r, listed => (Region.ready md l.toArray listed) == [i] && ((l[i]?).isSome && (Z.contains i && ordB md l Z r (listed.setIfInBounds i true)))
  | .two i j r s, listed => (Region.ready md l.toArray listed) == [i, j] && ((l[i]?).isSome && ((l[j]?).isSome && (ordB md l Z r (listed.setIfInBounds i true) && ordB md l Z s (listed.setIfInBounds j true))))
  | .twf i j r s, listed => (Region.ready md l.toArray listed) == [i, j] && ((l[i]?).isSome && ((l[j]?).isSome && (Z.contains i && (Z.contains j && (ordB md l Z r (listed.setIfInBounds i true) && ordB md l Z s (listed.setIfInBounds j true))))))
  | .thr i j k r s t, listed => (Region.ready md l.toArray listed) == [i, j, k] && ((l[i]?).isSome && ((l[j]?).isSome && ((l[k]?).isSome && (ordB md l Z r (listed.setIfInBounds i true) && (ordB md l Z s (listed.setIfInBounds j true) && ordB md l Z t (listed.setIfInBounds k true))))))
def Ord.len : Ord → Nat
  | .done => 0
  | .one _ r => r.len + 1
  | .fre _ r => r.len + 1
  | .two _ _ r _ => r.len + 1
  | .twf _ _ r _ => r.len + 1
  | .thr _ _ _ r _ _ => r.len + 1
/-- both ways are equally long -/
def Ord.even : Ord → Bool
  | .done => true
  | .one _ r => r.even
  | .fre _ r => r.even
  | .two _ _ r s => r.len == s.len && (r.even && s.even)
  | .twf _ _ r s => r.len == s.len && (r.even && s.even)
  | .thr _ _ _ r s t => r.len == s.len && (r.len == t.len && (r.even && (s.even && t.even)))

/-- each order, an operation at a time; C is shown behind each that does not wait for all reads -/
def ordW (P : Program) (ops : Array Oper) (Q : Exit → Act → World → Prop) (C : World → Prop) (l : List Oper) : Ord → Act → World → Prop
  | .done, a, w => Q .normal a w
  | .one i r, a, w => wpList P ops (Exit.then (fun a' w' => C w' ∧ ordW P ops Q C l r a' w') Q) (pick l [i]) a w
  | .fre i r, a, w => wpList P ops (Exit.then (fun a' w' => ordW P ops Q C l r a' w') Q) (pick l [i]) a w
  | .two i j r s, a, w => wpList P ops (Exit.then (fun a' w' => C w' ∧ ordW P ops Q C l r a' w') Q) (pick l [i]) a w ∧ wpList P ops (Exit.then (fun a' w' => C w' ∧ ordW P ops Q C l s a' w') Q) (pick l [j]) a w
  | .twf i j r s, a, w => wpList P ops (Exit.then (fun a' w' => ordW P ops Q C l r a' w') Q) (pick l [i]) a w ∧ wpList P ops (Exit.then (fun a' w' => ordW P ops Q C l s a' w') Q) (pick l [j]) a w
  | .thr i j k r s t, a, w => wpList P ops (Exit.then (fun a' w' => C w' ∧ ordW P ops Q C l r a' w') Q) (pick l [i]) a w ∧ wpList P ops (Exit.then (fun a' w' => C w' ∧ ordW P ops Q C l s a' w') Q) (pick l [j]) a w ∧ wpList P ops (Exit.then (fun a' w' => C w' ∧ ordW P ops Q C l t a' w') Q) (pick l [k]) a w

theorem pick_one {l : List Oper} {i : Nat} {o : Oper} (h : l[i]? = some o) : pick l [i] = [o] := by simp [pick, h]

theorem AnyZ.ord {l : List Oper} : ∀ (T : Ord) (listed : Array Bool) (a : Act) (w : World), ordB md l Z T listed = true → T.even = true → ordW P l.toArray Q C l T a w → AnyZ P md l.toArray Q C Z T.len listed a w := by
  intro T
  induction T with
  | done => intro listed a w h _ hw; exact ⟨List.isEmpty_iff.1 h, hw⟩
  | one i r ih =>
    intro listed a w hB he h
    simp only [ordB, Bool.and_eq_true, beq_iff_eq] at hB
    obtain ⟨h1, h2, h3⟩ := hB
    obtain ⟨o, ho⟩ := Option.isSome_iff_exists.1 h2
    have hoa : l.toArray[i]? = some o := by simpa using ho
    rw [ordW, pick_one ho] at h
    refine ⟨fun hn => by (rw [h1] at hn; cases hn), fun j hj => ?_⟩
    rw [h1] at hj
    obtain rfl : j = i := by simpa using hj
    exact wpOp_mono (fun a' w' hq => ⟨fun _ => hq.1, ih _ a' w' h3 he hq.2⟩) (op_then hoa h)
  | fre i r ih =>
    intro listed a w hB he h
    simp only [ordB, Bool.and_eq_true, beq_iff_eq] at hB
    obtain ⟨h1, h2, h4, h3⟩ := hB
    obtain ⟨o, ho⟩ := Option.isSome_iff_exists.1 h2
    have hoa : l.toArray[i]? = some o := by simpa using ho
    rw [ordW, pick_one ho] at h
    refine ⟨fun hn => by (rw [h1] at hn; cases hn), fun j hj => ?_⟩
    rw [h1] at hj
    obtain rfl : j = i := by simpa using hj
    exact wpOp_mono (fun a' w' hq => ⟨fun hc => (by rw [h4] at hc; cases hc), ih _ a' w' h3 he hq⟩) (op_then hoa h)
  | two i j r s ihr ihs =>
    intro listed a w hB he h
    simp only [ordB, Bool.and_eq_true, beq_iff_eq] at hB
    obtain ⟨h1, h2, h3, h4, h5⟩ := hB
    simp only [Ord.even, Bool.and_eq_true, beq_iff_eq] at he
    obtain ⟨e1, e2, e3⟩ := he
    obtain ⟨o, ho⟩ := Option.isSome_iff_exists.1 h2
    obtain ⟨o', ho'⟩ := Option.isSome_iff_exists.1 h3
    have hoa : l.toArray[i]? = some o := by simpa using ho
    have hoa' : l.toArray[j]? = some o' := by simpa using ho'
    rw [ordW, pick_one ho, pick_one ho'] at h
    refine ⟨fun hn => by (rw [h1] at hn; cases hn), fun k hk => ?_⟩
    rw [h1] at hk
    have hk2 : k = i ∨ k = j := by simpa using hk
    rcases hk2 with rfl | rfl
    · exact wpOp_mono (fun a' w' hq => ⟨fun _ => hq.1, ihr _ a' w' h4 e2 hq.2⟩) (op_then hoa h.1)
    · exact wpOp_mono (fun a' w' hq => ⟨fun _ => hq.1, by rw [e1]; exact ihs _ a' w' h5 e3 hq.2⟩) (op_then hoa' h.2)
  | twf i j r s ihr ihs =>
    intro listed a w hB he h
    simp only [ordB, Bool.and_eq_true, beq_iff_eq] at hB
    obtain ⟨h1, h2, h3, z1, z2, h4, h5⟩ := hB
    simp only [Ord.even, Bool.and_eq_true, beq_iff_eq] at he
    obtain ⟨e1, e2, e3⟩ := he
    obtain ⟨o, ho⟩ := Option.isSome_iff_exists.1 h2
    obtain ⟨o', ho'⟩ := Option.isSome_iff_exists.1 h3
    have hoa : l.toArray[i]? = some o := by simpa using ho
    have hoa' : l.toArray[j]? = some o' := by simpa using ho'
    rw [ordW, pick_one ho, pick_one ho'] at h
    refine ⟨fun hn => by (rw [h1] at hn; cases hn), fun k hk => ?_⟩
    rw [h1] at hk
    have hk2 : k = i ∨ k = j := by simpa using hk
    rcases hk2 with rfl | rfl
    · exact wpOp_mono (fun a' w' hq => ⟨fun hc => (by rw [z1] at hc; cases hc), ihr _ a' w' h4 e2 hq⟩) (op_then hoa h.1)
    · exact wpOp_mono (fun a' w' hq => ⟨fun hc => (by rw [z2] at hc; cases hc), by rw [e1]; exact ihs _ a' w' h5 e3 hq⟩) (op_then hoa' h.2)
  | thr i j k r s t ihr ihs iht =>
    intro listed a w hB he h
    simp only [ordB, Bool.and_eq_true, beq_iff_eq] at hB
    obtain ⟨h1, h2, h3, h3', h4, h5, h6⟩ := hB
    simp only [Ord.even, Bool.and_eq_true, beq_iff_eq] at he
    obtain ⟨e1, e1', e2, e3, e4⟩ := he
    obtain ⟨o, ho⟩ := Option.isSome_iff_exists.1 h2
    obtain ⟨o', ho'⟩ := Option.isSome_iff_exists.1 h3
    obtain ⟨o2, ho2⟩ := Option.isSome_iff_exists.1 h3'
    have hoa : l.toArray[i]? = some o := by simpa using ho
    have hoa' : l.toArray[j]? = some o' := by simpa using ho'
    have hoa2 : l.toArray[k]? = some o2 := by simpa using ho2
    rw [ordW, pick_one ho, pick_one ho', pick_one ho2] at h
    refine ⟨fun hn => by (rw [h1] at hn; cases hn), fun m hk => ?_⟩
    rw [h1] at hk
    have hk2 : m = i ∨ m = j ∨ m = k := by simpa using hk
    rcases hk2 with rfl | rfl | rfl
    · exact wpOp_mono (fun a' w' hq => ⟨fun _ => hq.1, ihr _ a' w' h4 e2 hq.2⟩) (op_then hoa h.1)
    · exact wpOp_mono (fun a' w' hq => ⟨fun _ => hq.1, by rw [e1]; exact ihs _ a' w' h5 e3 hq.2⟩) (op_then hoa' h.2.1)
    · exact wpOp_mono (fun a' w' hq => ⟨fun _ => hq.1, by rw [e1']; exact iht _ a' w' h6 e4 hq.2⟩) (op_then hoa2 h.2.2)

/-- **A REGION THAT DRAWS: ITS READS FIRST (I), THEN ONE OF A FEW ORDERS (T)**; Z: the operations that wait for all reads -/
theorem wp_region_ord {id : Nat} {a : Act} {w : World} {l : List Oper} (I : List Nat) (T : Ord) (Z : List Nat) (hm : P.follows .mixedOrders = true)
    (hB : (Region.noSelect l.toArray && (preZ .any l Z I (Array.replicate l.length false) && (ordB .any l Z T (marked I (Array.replicate l.length false)) && (T.even && decide (T.len + I.length = l.length))))) = true)
    (hQ : ∀ d v c a w, Q (.panic c) (Act.put a d v) w → Q (.panic c) a w) (hC : C w.drew)
    (h : wpQuiet P l.toArray C (fun a' => ordW P l.toArray Q C l T a' w.drew) (pick l I) a) : (Code.region id l.toArray true).wp P Q a w := by
  simp only [Bool.and_eq_true, decide_eq_true_eq] at hB
  obtain ⟨h1, h2, h3, h4, h5⟩ := hB
  refine wp_region_any hm (AnyZ.sound (C := C) (Z := Z) _ _ _ _ ?_)
  have := AnyZ.pre (n := T.len) h1 hQ hC I _ a h2 (wpQuiet_mono' (fun a' ha => AnyZ.ord T _ a' _ h3 h4 ha) _ _ h)
  rw [h5] at this
  simpa using this
end
end Go.Proofs.Ytbeljjalfhogdaa
