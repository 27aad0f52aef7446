/- Plain: words, what a formula says of one, least and greatest solutions on a lasso. No program here. -/
import Derived.Test.YtbeljjalfhogdaaTrPlain
namespace Go.Proofs.Ytbeljjalfhogdaa

noncomputable def dec (p : Prop) : Bool := @decide p (Classical.propDecidable p)
theorem dec_iff {p : Prop} : dec p = true ↔ p := @decide_eq_true_iff p (Classical.propDecidable p)

/-- b comes, and a holds until then -/
noncomputable def unt (a b : Nat → Bool) (i : Nat) : Bool := dec (∃ j, b (i + j) = true ∧ ∀ m, m < j → a (i + m) = true)
noncomputable def rls (a b : Nat → Bool) (i : Nat) : Bool := !unt (fun j => !a j) (fun j => !b j) i
theorem unt_step (a b : Nat → Bool) (i : Nat) : unt a b i = (b i || a i && unt a b (i + 1)) := by
  rw [Bool.eq_iff_iff, Bool.or_eq_true, Bool.and_eq_true, unt, unt, dec_iff, dec_iff]
  constructor
  · rintro ⟨j, h1, h2⟩
    cases j with
    | zero => exact .inl h1
    | succ j => exact .inr ⟨h2 0 (by omega), j, by rw [show i + 1 + j = i + (j + 1) by omega]; exact h1, fun m hm => by rw [show i + 1 + m = i + (m + 1) by omega]; exact h2 _ (by omega)⟩
  · rintro (h | ⟨h1, j, h2, h3⟩)
    · exact ⟨0, h, fun m hm => by omega⟩
    · refine ⟨j + 1, by rw [show i + (j + 1) = i + 1 + j by omega]; exact h2, fun m hm => ?_⟩
      cases m with
      | zero => exact h1
      | succ m => rw [show i + (m + 1) = i + 1 + m by omega]; exact h3 m (by omega)
theorem rls_step (a b : Nat → Bool) (i : Nat) : rls a b i = (b i && (a i || rls a b (i + 1))) := by
  simp only [rls]
  rw [unt_step]
  cases a i <;> cases b i <;> simp

/-- from s on, f repeats with the period p -/
def Per (s p : Nat) (f : Nat → Bool) : Prop := ∀ i, s ≤ i → f (i + p) = f i
theorem Per.at {s p : Nat} {f : Nat → Bool} (h : Per s p f) {i : Nat} (hi : s ≤ i) (j : Nat) : f (i + p + j) = f (i + j) := by
  rw [show i + p + j = i + j + p by omega]; exact h _ (by omega)
theorem unt_per {s p : Nat} {a b : Nat → Bool} (ha : Per s p a) (hb : Per s p b) : Per s p (unt a b) := by
  intro i hi
  simp only [unt, ha.at hi, hb.at hi]
theorem Per.not {s p : Nat} {a : Nat → Bool} (ha : Per s p a) : Per s p (fun j => !a j) := fun i hi => by simp only [ha i hi]
theorem rls_per {s p : Nat} {a b : Nat → Bool} (ha : Per s p a) (hb : Per s p b) : Per s p (rls a b) := fun i hi => by
  simp only [rls]; rw [unt_per ha.not hb.not i hi]

/-- the position behind i -/
def nx (s p i : Nat) : Nat := if i + 1 = s + p then s else i + 1
theorem nx_lt {s p i : Nat} (hp : 0 < p) (hi : i < s + p) : nx s p i < s + p := by unfold nx; split <;> omega
theorem per_nx {s p : Nat} {f : Nat → Bool} (h : Per s p f) (i : Nat) : f (nx s p i) = f (i + 1) := by
  unfold nx
  split
  · rename_i e; rw [e]; exact (h s (Nat.le_refl _)).symm
  · rfl

theorem unt_ext {s p : Nat} {a b : Nat → Bool} (hp : 0 < p) (ha : Per s p a) (hb : Per s p b) (g : Nat → Bool) (hg : ∀ k, k < s + p → g k = (b k || a k && g (nx s p k))) :
    ∀ k, k < s + p → unt a b k = true → g k = true := by
  intro k hk h
  rw [unt, dec_iff] at h
  obtain ⟨j, h1, h2⟩ := h
  induction j generalizing k with
  | zero => rw [hg k hk, show b k = true from h1]; rfl
  | succ j ih =>
    have h0 : a k = true := h2 0 (by omega)
    have h3 : g (nx s p k) = true := by
      refine ih _ (nx_lt hp hk) ?_ fun m hm => ?_
      · have e : b (k + 1 + j) = true := by rw [show k + 1 + j = k + (j + 1) by omega]; exact h1
        unfold nx
        split
        · rename_i e2
          rw [e2] at e
          rw [← hb.at (Nat.le_refl s) j]; exact e
        · exact e
      · have e : a (k + 1 + m) = true := by rw [show k + 1 + m = k + (m + 1) by omega]; exact h2 _ (by omega)
        unfold nx
        split
        · rename_i e2
          rw [e2] at e
          rw [← ha.at (Nat.le_refl s) m]; exact e
        · exact e
    rw [hg k hk, h0, h3]; simp

/-- F is the solution of F k = h k (F (nxt k)) that is nearest to the constant st -/
structure FixSol (n : Nat) (nxt : Nat → Nat) (st : Bool) (h : Nat → Bool → Bool) (F : Nat → Bool) : Prop where
  lt : ∀ k, k < n → nxt k < n
  mono : ∀ k, k < n → h k st = !st → h k (!st) = !st
  fix : ∀ k, k < n → F k = h k (F (nxt k))
  ext : ∀ g : Nat → Bool, (∀ k, k < n → g k = h k (g (nxt k))) → ∀ k, k < n → F k = !st → g k = !st

theorem fix_unt {s p : Nat} {a b : Nat → Bool} (hp : 0 < p) (ha : Per s p a) (hb : Per s p b) : FixSol (s + p) (nx s p) false (fun i x => b i || a i && x) (unt a b) where
  lt k hk := nx_lt hp hk
  mono k hk h := by simp at h; simp [h]
  fix k hk := by rw [per_nx (unt_per ha hb)]; exact unt_step a b k
  ext g hg k hk h := unt_ext hp ha hb g hg k hk h
theorem fix_rls {s p : Nat} {a b : Nat → Bool} (hp : 0 < p) (ha : Per s p a) (hb : Per s p b) : FixSol (s + p) (nx s p) true (fun i x => b i && (a i || x)) (rls a b) where
  lt k hk := nx_lt hp hk
  mono k hk h := by simp at h; simp [h]
  fix k hk := by rw [per_nx (rls_per ha hb)]; exact rls_step a b k
  ext g hg k hk h := by
    have := unt_ext hp ha.not hb.not (fun j => !g j) (fun j hj => by rw [hg j hj]; cases b j <;> cases a j <;> simp) k hk (by simpa [rls] using h)
    simpa using this

/-- how many k < n have f k = v -/
def cntB (v : Bool) (f : Nat → Bool) : Nat → Nat
  | 0 => 0
  | n + 1 => cntB v f n + (if f n = v then 1 else 0)
theorem cntB_le_n (v : Bool) (f : Nat → Bool) : ∀ n, cntB v f n ≤ n
  | 0 => Nat.le_refl _
  | n + 1 => by have := cntB_le_n v f n; simp only [cntB]; split <;> omega
theorem cntB_mono {v : Bool} {f g : Nat → Bool} : ∀ {n}, (∀ k, k < n → f k = v → g k = v) → cntB v f n ≤ cntB v g n
  | 0, _ => Nat.le_refl _
  | n + 1, h => by
    have h1 := cntB_mono (n := n) (fun k hk => h k (by omega))
    simp only [cntB]
    by_cases e : f n = v
    · rw [if_pos e, if_pos (h n (by omega) e)]; omega
    · rw [if_neg e]; omega
def upd (f : Nat → Bool) (k : Nat) (v : Bool) : Nat → Bool := fun j => if j = k then v else f j
theorem upd_same (f : Nat → Bool) (k : Nat) : upd f k (f k) = f := by
  funext j; unfold upd; split
  · rename_i e; rw [e]
  · rfl
theorem cntB_upd_ge {v : Bool} {f : Nat → Bool} {k : Nat} : ∀ {n}, n ≤ k → cntB v (upd f k v) n = cntB v f n
  | 0, _ => rfl
  | n + 1, h => by
    simp only [cntB]
    rw [cntB_upd_ge (by omega)]
    simp [upd, show n ≠ k by omega]
theorem cntB_upd {v : Bool} {f : Nat → Bool} {k : Nat} (hv : f k ≠ v) : ∀ {n}, k < n → cntB v (upd f k v) n = cntB v f n + 1
  | 0, h => by omega
  | n + 1, h => by
    simp only [cntB]
    by_cases e : n = k
    · subst e
      rw [cntB_upd_ge (Nat.le_refl _), if_neg hv]
      simp [upd]
    · rw [cntB_upd hv (by omega)]
      simp only [upd, if_neg e]
      omega

section
variable {n : Nat} {nxt : Nat → Nat} {st : Bool} {h : Nat → Bool → Bool} {F : Nat → Bool}
def FixInv (n : Nat) (nxt : Nat → Nat) (st : Bool) (h : Nat → Bool → Bool) (F out : Nat → Bool) : Prop := ∀ k, k < n → out k = !st → h k (out (nxt k)) = !st ∧ F k = !st
/-- behind the part of a sweep that has passed i: out0 at its start, ch: has something changed? -/
structure FixRel (n : Nat) (nxt : Nat → Nat) (st : Bool) (h : Nat → Bool → Bool) (F out0 : Nat → Bool) (i : Nat) (ch : Bool) (out : Nat → Bool) : Prop where
  inv : FixInv n nxt st h F out
  no : ch = false → cntB (!st) out0 n = cntB (!st) out n ∧ ∀ k, i ≤ k → k < n → out k = h k (out (nxt k))
  yes : ch = true → cntB (!st) out0 n < cntB (!st) out n
theorem fixInv_start {out : Nat → Bool} (h0 : ∀ k, k < n → out k = st) : FixInv n nxt st h F out := fun k hk e => by rw [h0 k hk] at e; cases st <;> simp at e
theorem FixRel.start {out : Nat → Bool} (hi : FixInv n nxt st h F out) : FixRel n nxt st h F out n false out := ⟨hi, fun _ => ⟨rfl, fun k h1 h2 => by omega⟩, fun e => by cases e⟩
theorem FixRel.step (hs : FixSol n nxt st h F) {out0 out : Nat → Bool} {k : Nat} {ch : Bool} (hk : k < n) (hr : FixRel n nxt st h F out0 (k + 1) ch out) :
    FixRel n nxt st h F out0 k (ch || h k (out (nxt k)) != out k) (upd out k (h k (out (nxt k)))) := by
  by_cases e : h k (out (nxt k)) = out k
  · rw [e, upd_same]
    refine ⟨hr.inv, fun hc => ?_, fun hc => hr.yes (by simpa using hc)⟩
    have := hr.no (by simpa using hc)
    refine ⟨this.1, fun j h1 h2 => ?_⟩
    by_cases ej : j = k
    · subst ej; exact e.symm
    · exact this.2 j (by omega) h2
  · have hk0 : out k = st := by
      by_cases e2 : out k = !st
      · rw [(hr.inv k hk e2).1, e2] at e; exact absurd rfl e
      · cases st <;> simpa using e2
    have hv : h k (out (nxt k)) = !st := by
      rw [hk0] at e
      cases st <;> simpa using e
    rw [hv]
    have hm : ∀ j, j < n → h j (out (nxt j)) = !st → h j (upd out k (!st) (nxt j)) = !st := by
      intro j hj e3
      by_cases e4 : nxt j = k
      · have : h j st = !st := by have e5 := e3; rw [e4, hk0] at e5; exact e5
        rw [show upd out k (!st) (nxt j) = !st by simp [upd, e4]]
        exact hs.mono j hj this
      · rw [show upd out k (!st) (nxt j) = out (nxt j) by simp [upd, e4]]; exact e3
    refine ⟨fun j hj e3 => ?_, fun hc => ?_, fun _ => ?_⟩
    · by_cases ej : j = k
      · subst ej
        refine ⟨hm j hj hv, ?_⟩
        rw [hs.fix j hj]
        by_cases e5 : out (nxt j) = !st
        · rw [(hr.inv _ (hs.lt j hj) e5).2]
          rw [e5] at hv; exact hv
        · have e6 : out (nxt j) = st := by cases st <;> simpa using e5
          rw [e6] at hv
          have := hs.mono j hj hv
          cases F (nxt j) <;> cases st <;> simp_all
      · have e4 : out j = !st := by simpa [upd, ej] using e3
        exact ⟨hm j hj (hr.inv j hj e4).1, (hr.inv j hj e4).2⟩
    · have : (!st != out k) = false := by
        cases ch <;> simp_all
      rw [hk0] at this
      cases st <;> simp at this
    · rw [cntB_upd (by rw [hk0]; cases st <;> simp) hk]
      cases ch with
      | false => have := (hr.no rfl).1; omega
      | true => have := hr.yes rfl; omega
/-- a fixed point is the solution -/
theorem FixInv.done (hs : FixSol n nxt st h F) {out : Nat → Bool} (hi : FixInv n nxt st h F out) (hf : ∀ k, k < n → out k = h k (out (nxt k))) : ∀ k, k < n → out k = F k := by
  intro k hk
  by_cases e : F k = !st
  · rw [e]; exact hs.ext out hf k hk e
  · by_cases e2 : out k = !st
    · exact absurd (hi k hk e2).2 e
    · cases st <;> simp_all
/-- r sweeps of the reference -/
def FixRound (n : Nat) (nxt : Nat → Nat) (st : Bool) (h : Nat → Bool → Bool) (F : Nat → Bool) (r : Nat) (out : Nat → Bool) : Prop :=
  FixInv n nxt st h F out ∧ ((∀ k, k < n → out k = F k) ∨ r ≤ cntB (!st) out n)
theorem FixRound.next (hs : FixSol n nxt st h F) {r : Nat} {out0 out : Nat → Bool} {ch : Bool} (h0 : FixRound n nxt st h F r out0) (hr : FixRel n nxt st h F out0 0 ch out) : FixRound n nxt st h F (r + 1) out := by
  refine ⟨hr.inv, ?_⟩
  cases ch with
  | false => exact .inl (hr.inv.done hs fun k hk => (hr.no rfl).2 k (Nat.zero_le _) hk)
  | true =>
    have hy := hr.yes rfl
    rcases h0.2 with hd | hc
    · have : cntB (!st) out n ≤ cntB (!st) out0 n := cntB_mono fun k hk e => by rw [hd k hk]; exact (hr.inv k hk e).2
      omega
    · exact .inr (by omega)
theorem FixRound.end {out : Nat → Bool} (h0 : FixRound n nxt st h F (2 * n) out) : ∀ k, k < n → out k = F k := by
  rcases h0.2 with hd | hc
  · exact hd
  · have := cntB_le_n (!st) out n
    intro k hk
    omega
end

/-- has a letter the atom? -/
def bit (n a : Int) : Bool := n / 2 ^ a.toNat % 2 == 1
noncomputable def semN (w : Nat → Int) (k v : Int) (s : List (Nat → Bool)) : Nat → Bool :=
  if k = 1 then fun _ => true
  else if k = 2 then fun i => bit (w i) v
  else if k = 3 then fun i => !s.getD 0 (fun _ => false) i
  else if k = 4 then fun i => s.getD 0 (fun _ => false) i && s.getD 1 (fun _ => false) i
  else if k = 5 then fun i => s.getD 0 (fun _ => false) i || s.getD 1 (fun _ => false) i
  else if k = 6 then fun i => s.getD 0 (fun _ => false) (i + 1)
  else if k = 7 then unt (s.getD 0 (fun _ => false)) (s.getD 1 (fun _ => false))
  else if k = 8 then rls (s.getD 0 (fun _ => false)) (s.getD 1 (fun _ => false))
  else if k = 9 then unt (fun _ => true) (s.getD 0 (fun _ => false))
  else if k = 10 then rls (fun _ => false) (s.getD 0 (fun _ => false))
  else fun _ => false
mutual
/-- at which positions of a word a formula holds -/
noncomputable def sem (w : Nat → Int) : Tr → Nat → Bool | .mk k v kids => semN w k v (semL w kids)
noncomputable def semL (w : Nat → Int) : List Tr → List (Nat → Bool) | [] => [] | t :: ts => sem w t :: semL w ts
end
theorem semL_len (w : Nat → Int) : ∀ l, (semL w l).length = l.length
  | [] => rfl
  | t :: ts => by simp [semL, semL_len w ts]
theorem semN_per {s p : Nat} {w : Nat → Int} (hw : ∀ i, s ≤ i → w (i + p) = w i) (k v : Int) (l : List (Nat → Bool)) (hl : ∀ f, f ∈ l → Per s p f) : Per s p (semN w k v l) := by
  have hz : Per s p (fun _ => false) := fun _ _ => rfl
  have ho : Per s p (fun _ => true) := fun _ _ => rfl
  have hg : ∀ j, Per s p (l.getD j (fun _ => false)) := fun j => by
    rw [List.getD_eq_getElem?_getD]
    cases e : l[j]? with
    | none => exact hz
    | some f => exact hl f (List.mem_of_getElem? e)
  have g0 := hg 0
  have g1 := hg 1
  unfold semN
  repeat' split
  all_goals first
    | exact ho
    | exact hz
    | exact unt_per g0 g1
    | exact rls_per g0 g1
    | exact unt_per ho g0
    | exact rls_per hz g0
    | (intro i hi; simp only [hw i hi]; done)
    | (intro i hi; simp only [g0 i hi]; done)
    | (intro i hi; simp only [g0 i hi, g1 i hi]; done)
    | (intro i hi; exact g0.at hi 1)
mutual
theorem sem_per {s p : Nat} {w : Nat → Int} (hw : ∀ i, s ≤ i → w (i + p) = w i) : ∀ t, Per s p (sem w t)
  | .mk k v kids => by rw [sem]; exact semN_per hw k v _ (semL_per hw kids)
theorem semL_per {s p : Nat} {w : Nat → Int} (hw : ∀ i, s ≤ i → w (i + p) = w i) : ∀ l f, f ∈ semL w l → Per s p f
  | [], f, h => by simp [semL] at h
  | t :: ts, f, h => by
    simp only [semL, List.mem_cons] at h
    rcases h with rfl | h
    · exact sem_per hw t
    · exact semL_per hw ts f h
end

/-- a word of a stem and a loop -/
def wordOf (stem loop : List Int) (i : Nat) : Int := if i < stem.length then stem.getD i 0 else loop.getD ((i - stem.length) % loop.length) 0
theorem wordOf_per (stem loop : List Int) (i : Nat) (hi : stem.length ≤ i) : wordOf stem loop (i + loop.length) = wordOf stem loop i := by
  unfold wordOf
  rw [if_neg (by omega), if_neg (by omega), show i + loop.length - stem.length = i - stem.length + loop.length by omega, Nat.add_mod_right]
theorem wordOf_all {stem loop : List Int} {i : Nat} (hi : i < stem.length + loop.length) : wordOf stem loop i = (stem ++ loop).getD i 0 := by
  unfold wordOf
  split
  · rename_i h
    rw [List.getD_eq_getElem?_getD, List.getD_eq_getElem?_getD, List.getElem?_append_left h]
  · rename_i h
    rw [Nat.mod_eq_of_lt (by omega), List.getD_eq_getElem?_getD, List.getD_eq_getElem?_getD, List.getElem?_append_right (by omega)]
end Go.Proofs.Ytbeljjalfhogdaa
