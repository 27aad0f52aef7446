/- Plain: what formulas say of words: normal forms, negations, suffixes. No program here. -/
import Derived.Test.YtbeljjalfhogdaaWordPlain
import Derived.Test.YtbeljjalfhogdaaNormPlain
namespace Go.Proofs.Ytbeljjalfhogdaa

theorem sem1 (w : Nat → Int) (v : Int) (l : List Tr) : sem w (.mk 1 v l) = fun _ => true := by simp [sem, semN]
theorem sem2 (w : Nat → Int) (v : Int) (l : List Tr) : sem w (.mk 2 v l) = fun i => bit (w i) v := by simp [sem, semN]
theorem sem3 (w : Nat → Int) (v : Int) (a : Tr) : sem w (.mk 3 v [a]) = fun i => !sem w a i := by simp [sem, semL, semN]
theorem sem4 (w : Nat → Int) (v : Int) (a b : Tr) : sem w (.mk 4 v [a, b]) = fun i => sem w a i && sem w b i := by simp [sem, semL, semN]
theorem sem5 (w : Nat → Int) (v : Int) (a b : Tr) : sem w (.mk 5 v [a, b]) = fun i => sem w a i || sem w b i := by simp [sem, semL, semN]
theorem sem6 (w : Nat → Int) (v : Int) (a : Tr) : sem w (.mk 6 v [a]) = fun i => sem w a (i + 1) := by simp [sem, semL, semN]
theorem sem7 (w : Nat → Int) (v : Int) (a b : Tr) : sem w (.mk 7 v [a, b]) = unt (sem w a) (sem w b) := by simp [sem, semL, semN]
theorem sem8 (w : Nat → Int) (v : Int) (a b : Tr) : sem w (.mk 8 v [a, b]) = rls (sem w a) (sem w b) := by simp [sem, semL, semN]
theorem sem9 (w : Nat → Int) (v : Int) (a : Tr) : sem w (.mk 9 v [a]) = unt (fun _ => true) (sem w a) := by simp [sem, semL, semN]
theorem sem10 (w : Nat → Int) (v : Int) (a : Tr) : sem w (.mk 10 v [a]) = rls (fun _ => false) (sem w a) := by simp [sem, semL, semN]

theorem rls_not (a b : Nat → Bool) : rls (fun i => !a i) (fun i => !b i) = fun i => !unt a b i := by
  funext i; simp [rls]
theorem unt_not (a b : Nat → Bool) : unt (fun i => !a i) (fun i => !b i) = fun i => !rls a b i := by
  funext i; simp [rls]

theorem sem_nf (w : Nat → Int) : ∀ (t : Tr) (n : Nat) (neg : Bool), formL.shape t n = true → sem w (nfT t neg) = fun i => sem w t i != neg := Tr.ind fun k v kids ih => by
  intro n neg hs
  obtain ⟨m, h1, h2, h3, h4, h5, h6, h7⟩ := formL.shape_mk hs
  rw [formL_K] at h3
  rw [formL_ar] at h6
  by_cases k0 : k = 1 ∨ k = 2
  · obtain rfl := len0 (by rw [h6, if_pos k0])
    rcases k0 with rfl | rfl <;> cases neg <;> simp [nfT, nfNode, sem1, sem2, sem3]
  by_cases k2 : k = 4 ∨ k = 5 ∨ k = 7 ∨ k = 8
  · obtain ⟨a, b, rfl⟩ := len2 (by rw [h6, if_neg k0, if_pos k2])
    have ha := ih a (by simp) m neg (h7 a (by simp))
    have hb := ih b (by simp) m neg (h7 b (by simp))
    cases neg
    · have ha' : sem w (nfT a false) = sem w a := by rw [ha]; funext i; simp
      have hb' : sem w (nfT b false) = sem w b := by rw [hb]; funext i; simp
      rcases k2 with rfl | rfl | rfl | rfl <;> simp [nfT, nfL, nfNode, sem4, sem5, sem7, sem8, ha', hb']
    · have ha' : sem w (nfT a true) = fun i => !sem w a i := by rw [ha]; funext i; simp
      have hb' : sem w (nfT b true) = fun i => !sem w b i := by rw [hb]; funext i; simp
      rcases k2 with rfl | rfl | rfl | rfl <;> simp [nfT, nfL, nfNode, dualK, sem4, sem5, sem7, sem8, ha', hb', rls_not, unt_not]
  obtain ⟨a, rfl⟩ := len1 (by rw [h6, if_neg k0, if_neg k2])
  have ha := fun ng => ih a (by simp) m ng (h7 a (by simp))
  have ha1 : sem w (nfT a false) = sem w a := by rw [ha]; funext i; simp
  have ha2 : sem w (nfT a true) = fun i => !sem w a i := by rw [ha]; funext i; simp
  have e1 : sem w truT = fun _ => true := sem1 ..
  have e2 : sem w flsT = fun _ => false := by rw [flsT, sem3, e1]; rfl
  have r1 := rls_not (fun _ => true) (sem w a)
  have r2 := unt_not (fun _ => false) (sem w a)
  simp only [Bool.not_true, Bool.not_false] at r1 r2
  have hk : k = 3 ∨ k = 6 ∨ k = 9 ∨ k = 10 := by omega
  rcases hk with rfl | rfl | rfl | rfl <;> cases neg <;> simp [nfT, nfL, nfNode, sem3, sem6, sem7, sem8, sem9, sem10, ha1, ha2, e1, e2, r1, r2]

/-! ### suffixes -/
def shf (k : Nat) (f : Nat → Bool) : Nat → Bool := fun i => f (i + k)
theorem unt_shf (k : Nat) (a b : Nat → Bool) : unt (shf k a) (shf k b) = shf k (unt a b) := by
  funext i
  simp only [shf, unt, show ∀ j, i + j + k = i + k + j from fun j => by omega]
theorem rls_shf (k : Nat) (a b : Nat → Bool) : rls (shf k a) (shf k b) = shf k (rls a b) := by
  funext i
  have := congrFun (unt_shf k (fun j => !a j) (fun j => !b j)) i
  exact congrArg (fun x => !x) this
theorem semN_shf (w : Nat → Int) (k v : Int) (l : List (Nat → Bool)) (n : Nat) : semN (fun i => w (i + n)) k v (l.map (shf n)) = shf n (semN w k v l) := by
  have hz : (fun _ => false : Nat → Bool) = shf n (fun _ => false) := rfl
  have ho : (fun _ => true : Nat → Bool) = shf n (fun _ => true) := rfl
  have hg : ∀ j, (l.map (shf n)).getD j (fun _ => false) = shf n (l.getD j (fun _ => false)) := fun j => by
    rw [List.getD_eq_getElem?_getD, List.getD_eq_getElem?_getD, List.getElem?_map]
    cases l[j]? <;> rfl
  unfold semN
  rw [hg 0, hg 1]
  repeat' split
  all_goals first
    | rfl
    | exact unt_shf n _ _
    | exact rls_shf n _ _
    | exact unt_shf n (fun _ => true) _
    | exact rls_shf n (fun _ => false) _
    | (funext i; simp only [shf]; rw [show i + 1 + n = i + n + 1 by omega])
mutual
theorem sem_shf (w : Nat → Int) (n : Nat) : ∀ t, sem (fun i => w (i + n)) t = shf n (sem w t)
  | .mk k v kids => by rw [sem, sem, semL_shf w n kids, semN_shf]
theorem semL_shf (w : Nat → Int) (n : Nat) : ∀ l, semL (fun i => w (i + n)) l = (semL w l).map (shf n)
  | [] => rfl
  | t :: ts => by rw [semL, semL, sem_shf w n t, semL_shf w n ts]; rfl
end

/-- what always holds holds later; what comes later comes -/
theorem always_later {f : Nat → Bool} : ∀ (k i : Nat), rls (fun _ => false) f i = true → rls (fun _ => false) f (i + k) = true
  | 0, i, h => h
  | k + 1, i, h => by
    have := always_later k i h
    rw [rls_step] at this
    simp only [Bool.false_or, Bool.and_eq_true] at this
    rw [show i + (k + 1) = i + k + 1 by omega]
    exact this.2
theorem later_soon {f : Nat → Bool} : ∀ (k i : Nat), unt (fun _ => true) f (i + k) = true → unt (fun _ => true) f i = true
  | 0, i, h => h
  | k + 1, i, h => by
    refine later_soon k i ?_
    rw [unt_step, show i + k + 1 = i + (k + 1) by omega, h]
    simp
theorem ev_iff {f : Nat → Bool} {i : Nat} : unt (fun _ => true) f i = true ↔ ∃ j, f (i + j) = true := by
  rw [unt, dec_iff]
  exact ⟨fun ⟨j, h, _⟩ => ⟨j, h⟩, fun ⟨j, h⟩ => ⟨j, h, fun _ _ => rfl⟩⟩
theorem al_iff {f : Nat → Bool} {i : Nat} : rls (fun _ => false) f i = true ↔ ∀ j, f (i + j) = true := by
  have : rls (fun _ => false) f i = !unt (fun _ => true) (fun j => !f j) i := rfl
  rw [this, Bool.not_eq_true', ← Bool.not_eq_true, ev_iff]
  constructor
  · intro h j
    cases e : f (i + j) with
    | true => rfl
    | false => exact absurd ⟨j, by rw [e]; rfl⟩ h
  · rintro h ⟨j, hj⟩
    rw [h j] at hj
    cases hj

/-! ### a lasso's loop decides -/
def oddI (n : Int) : Bool := n % 2 == 1
theorem wordOf_loop (stem loop : List Int) (i : Nat) (_ : 0 < loop.length) : wordOf stem loop (stem.length + i) = loop.getD (i % loop.length) 0 := by
  unfold wordOf
  rw [if_neg (by omega), show stem.length + i - stem.length = i by omega]
theorem getD_mem {l : List Int} {i : Nat} (h : i < l.length) : l.getD i 0 ∈ l := by
  rw [List.getD_eq_getElem?_getD, List.getElem?_eq_getElem h]; exact List.getElem_mem h
theorem bit0 (n : Int) : bit n 0 = oddI n := by simp [bit, oddI]
theorem often_loop (stem loop : List Int) (h : 0 < loop.length) : rls (fun _ => false) (unt (fun _ => true) (fun i => bit (wordOf stem loop i) 0)) 0 = loop.any oddI := by
  rw [Bool.eq_iff_iff, al_iff, List.any_eq_true]
  constructor
  · intro hh
    obtain ⟨j, hj⟩ := ev_iff.1 (hh stem.length)
    rw [Nat.zero_add, wordOf_loop _ _ _ h, bit0] at hj
    exact ⟨_, getD_mem (Nat.mod_lt _ h), hj⟩
  · rintro ⟨x, hx, ho⟩ i
    obtain ⟨m, hm, rfl⟩ := List.getElem_of_mem hx
    refine ev_iff.2 ⟨stem.length + m + i * (loop.length - 1), ?_⟩
    have e : 0 + i + (stem.length + m + i * (loop.length - 1)) = stem.length + (m + i * loop.length) := by
      obtain ⟨q, hq⟩ : ∃ q, loop.length = q + 1 := ⟨loop.length - 1, by omega⟩
      rw [hq, Nat.add_sub_cancel, Nat.mul_add, Nat.mul_one]; omega
    rw [e, wordOf_loop _ _ _ h, bit0, Nat.add_mul_mod_self_right, Nat.mod_eq_of_lt hm, List.getD_eq_getElem?_getD, List.getElem?_eq_getElem hm]
    exact ho
theorem stays_loop (stem loop : List Int) (h : 0 < loop.length) : unt (fun _ => true) (rls (fun _ => false) (fun i => bit (wordOf stem loop i) 0)) 0 = loop.all oddI := by
  rw [Bool.eq_iff_iff, ev_iff, List.all_eq_true]
  constructor
  · rintro ⟨j, hj⟩ x hx
    rw [al_iff] at hj
    obtain ⟨m, hm, rfl⟩ := List.getElem_of_mem hx
    have := hj (stem.length + m + j * (loop.length - 1))
    have e : 0 + j + (stem.length + m + j * (loop.length - 1)) = stem.length + (m + j * loop.length) := by
      obtain ⟨q, hq⟩ : ∃ q, loop.length = q + 1 := ⟨loop.length - 1, by omega⟩
      rw [hq, Nat.add_sub_cancel, Nat.mul_add, Nat.mul_one]; omega
    rw [e, wordOf_loop _ _ _ h, bit0, Nat.add_mul_mod_self_right, Nat.mod_eq_of_lt hm, List.getD_eq_getElem?_getD, List.getElem?_eq_getElem hm] at this
    exact this
  · intro hh
    refine ⟨stem.length, al_iff.2 fun j => ?_⟩
    rw [Nat.zero_add, wordOf_loop _ _ _ h, bit0]
    exact hh _ (getD_mem (Nat.mod_lt _ h))
end Go.Proofs.Ytbeljjalfhogdaa
