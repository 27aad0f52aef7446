/- Plain: a search in breadth, as a row of nodes with their predecessors; its paths; they are shortest. No program here. -/
import Derived.Test.YtfemikebklmlpaaMem
namespace Go.Proofs.Ytfemikebklmlpaa
set_option linter.unusedVariables false
set_option linter.unusedSimpArgs false
namespace Bfs

/-- the queue, each node's predecessor (-2: not seen, -1: the first), its depth -/
structure St where
  q : List Nat
  par : Nat → Int
  d : Nat → Nat
def push (u : Nat) (S : St) (n : Nat) : St :=
  if S.par n = -2 then ⟨S.q ++ [n], fun m => if m = n then (u : Int) else S.par m, fun m => if m = n then S.d u + 1 else S.d m⟩ else S
def pushes (u : Nat) (S : St) (l : List Nat) : St := l.foldl (push u) S
def st0 (s : Nat) : St := ⟨[s], fun m => if m = s then -1 else -2, fun _ => 1⟩
/-- node number i is opened -/
def opn (adj : Nat → List Nat) (S : St) (i : Nat) : St := match S.q[i]? with
  | none => S
  | some u => pushes u S (adj u)
def bfs (adj : Nat → List Nat) (s : Nat) : Nat → St
  | 0 => st0 s
  | i + 1 => opn adj (bfs adj s i) i

/-- what holds while node number i is being opened (its neighbours in l are done), or before (l empty) -/
structure Inv (N : Nat) (adj : Nat → List Nat) (s : Nat) (S : St) (i : Nat) (l : List Nat) : Prop where
  nd : S.q.Nodup
  lt : ∀ (m : Nat), m ∈ S.q → m < N
  seen : ∀ (m : Nat), m ∈ S.q ↔ S.par m ≠ -2
  fst : S.q[0]? = some s
  root : S.par s = -1 ∧ S.d s = 1
  par : ∀ (m n : Nat), 0 < m → S.q[m]? = some n → ∃ (j u : Nat), j < m ∧ j ≤ i ∧ (l = [] → j < i) ∧ S.q[j]? = some u ∧ S.par n = u ∧ n ∈ adj u ∧ S.d n = S.d u + 1
  mono : ∀ (a b x y : Nat), a ≤ b → S.q[a]? = some x → S.q[b]? = some y → S.d x ≤ S.d y
  top : ∀ (u : Nat), S.q[i]? = some u → ∀ (n : Nat), n ∈ S.q → S.d n ≤ S.d u + 1
  done : ∀ (j u : Nat), j < i → S.q[j]? = some u → ∀ (n : Nat), n ∈ adj u → n ∈ S.q ∧ S.d n ≤ S.d u + 1
  now : ∀ (u : Nat), S.q[i]? = some u → ∀ (n : Nat), n ∈ l → n ∈ S.q ∧ S.d n ≤ S.d u + 1

theorem inv0 {N s : Nat} (adj : Nat → List Nat) (h : s < N) : Inv N adj s (st0 s) 0 [] where
  nd := by simp [st0]
  lt m hm := by simp [st0] at hm; omega
  seen m := by
    simp only [st0, List.mem_singleton]
    split <;> simp_all
  fst := rfl
  root := by simp [st0]
  par m n hm h := by
    have := (List.getElem?_eq_some_iff.1 h).1
    simp [st0] at this; omega
  mono a b x y _ _ _ := by simp [st0]
  top u _ n _ := by simp [st0]
  done j u hj := by omega
  now u _ n hn := by cases hn

theorem q_at {S : St} {i u : Nat} (h : S.q[i]? = some u) : u ∈ S.q := List.mem_of_getElem? h
theorem push_old {S : St} {u n : Nat} (h : S.par n ≠ -2) : push u S n = S := by unfold push; rw [if_neg h]
theorem push_new {S : St} {u n : Nat} (h : S.par n = -2) : push u S n = ⟨S.q ++ [n], fun m => if m = n then (u : Int) else S.par m, fun m => if m = n then S.d u + 1 else S.d m⟩ := by unfold push; rw [if_pos h]

theorem Inv.push {N s : Nat} {adj : Nat → List Nat} {S : St} {i u n : Nat} {l : List Nat} (h : Inv N adj s S i l) (hu : S.q[i]? = some u) (hn : n ∈ adj u) (hN : n < N) : Inv N adj s (push u S n) i (l ++ [n]) := by
  by_cases e : S.par n = -2
  · rw [push_new e]
    have hnq : n ∉ S.q := fun hh => (h.seen n).1 hh e
    have ne : ∀ m, m ∈ S.q → m ≠ n := fun m hm e2 => hnq (e2 ▸ hm)
    have hs : s ∈ S.q := List.mem_of_getElem? h.fst
    have hil : i < S.q.length := (List.getElem?_eq_some_iff.1 hu).1
    have at_ : ∀ a x, (S.q ++ [n])[a]? = some x → (S.q[a]? = some x ∧ a < S.q.length) ∨ (x = n ∧ a = S.q.length) := fun a x hx => by
      rw [List.getElem?_append] at hx
      split at hx
      · exact .inl ⟨hx, by assumption⟩
      · right
        have := (List.getElem?_eq_some_iff.1 hx).1
        simp at this
        have e3 : a - S.q.length = 0 := by omega
        rw [e3] at hx
        simp at hx
        exact ⟨hx.symm, by omega⟩
    have up : ∀ a x, S.q[a]? = some x → (S.q ++ [n])[a]? = some x := fun a x hx => by
      rw [List.getElem?_append_left (List.getElem?_eq_some_iff.1 hx).1]; exact hx
    have hun := ne u (q_at hu)
    refine ⟨?_, ?_, ?_, ?_, ?_, ?_, ?_, ?_, ?_, ?_⟩
    · rw [List.nodup_append]
      exact ⟨h.nd, by simp, fun a ha b hb => by simp at hb; subst hb; exact ne a ha⟩
    · intro m hm
      rcases List.mem_append.1 hm with hm | hm
      · exact h.lt m hm
      · simp at hm; omega
    · intro m
      show m ∈ S.q ++ [n] ↔ (if m = n then (u : Int) else S.par m) ≠ -2
      rw [List.mem_append, List.mem_singleton]
      split
      · rename_i e2
        exact ⟨fun _ => by omega, fun _ => .inr e2⟩
      · rename_i e2
        rw [← h.seen m]
        exact ⟨fun hh => hh.resolve_right e2, .inl⟩
    · exact up 0 s h.fst
    · show (if s = n then (u : Int) else S.par s) = -1 ∧ (if s = n then S.d u + 1 else S.d s) = 1
      rw [if_neg (ne s hs), if_neg (ne s hs)]
      exact h.root
    · intro m x hm hx
      show ∃ j v, j < m ∧ j ≤ i ∧ (l ++ [n] = [] → j < i) ∧ (S.q ++ [n])[j]? = some v ∧ (if x = n then (u : Int) else S.par x) = v ∧ x ∈ adj v ∧ (if x = n then S.d u + 1 else S.d x) = (if v = n then S.d u + 1 else S.d v) + 1
      rcases at_ m x hx with ⟨hx, hl⟩ | ⟨rfl, rfl⟩
      · obtain ⟨j, v, h1, h2, h3, h4, h5, h6, h7⟩ := h.par m x hm hx
        refine ⟨j, v, h1, h2, fun e => by simp at e, up j v h4, ?_, h6, ?_⟩
        · rw [if_neg (ne x (q_at hx))]; exact h5
        · rw [if_neg (ne x (q_at hx)), if_neg (ne v (q_at h4))]; exact h7
      · exact ⟨i, u, hil, Nat.le_refl _, fun e => by simp at e, up i u hu, by rw [if_pos rfl], hn, by rw [if_pos rfl, if_neg hun]⟩
    · intro a b x y hab hx hy
      show (if x = n then S.d u + 1 else S.d x) ≤ (if y = n then S.d u + 1 else S.d y)
      rcases at_ a x hx with ⟨hx2, hl⟩ | ⟨rfl, rfl⟩
      · rw [if_neg (ne x (q_at hx2))]
        rcases at_ b y hy with ⟨hy2, _⟩ | ⟨rfl, rfl⟩
        · rw [if_neg (ne y (q_at hy2))]; exact h.mono a b x y hab hx2 hy2
        · rw [if_pos rfl]; exact h.top u hu x (q_at hx2)
      · rcases at_ b y hy with ⟨hy, hl⟩ | ⟨rfl, _⟩
        · omega
        · exact Nat.le_refl _
    · intro v hv m hm
      show (if m = n then S.d u + 1 else S.d m) ≤ (if v = n then S.d u + 1 else S.d v) + 1
      have hv2 : v = u := by
        have := up i u hu
        rw [show (S.q ++ [n])[i]? = some v from hv] at this
        exact Option.some.inj this
      subst hv2
      rw [if_neg hun]
      split
      · exact Nat.le_refl _
      · rename_i e2
        rcases List.mem_append.1 hm with hm | hm
        · exact h.top v hu m hm
        · simp at hm; exact absurd hm e2
    · intro j v hj hv m hm
      show m ∈ S.q ++ [n] ∧ (if m = n then S.d u + 1 else S.d m) ≤ (if v = n then S.d u + 1 else S.d v) + 1
      rcases at_ j v hv with ⟨hv, _⟩ | ⟨rfl, rfl⟩
      · obtain ⟨h1, h2⟩ := h.done j v hj hv m hm
        refine ⟨List.mem_append.2 (.inl h1), ?_⟩
        rw [if_neg (ne m h1), if_neg (ne v (q_at hv))]; exact h2
      · omega
    · intro v hv m hm
      show m ∈ S.q ++ [n] ∧ (if m = n then S.d u + 1 else S.d m) ≤ (if v = n then S.d u + 1 else S.d v) + 1
      have hv2 : v = u := by
        have := up i u hu
        rw [show (S.q ++ [n])[i]? = some v from hv] at this
        exact Option.some.inj this
      subst hv2
      rw [if_neg hun]
      rcases List.mem_append.1 hm with hm | hm
      · obtain ⟨h1, h2⟩ := h.now v hu m hm
        refine ⟨List.mem_append.2 (.inl h1), ?_⟩
        rw [if_neg (ne m h1)]; exact h2
      · simp at hm
        subst hm
        exact ⟨by simp, by rw [if_pos rfl]; exact Nat.le_refl _⟩
  · rw [push_old e]
    have hnq : n ∈ S.q := (h.seen n).2 e
    refine { h with par := fun m x hm hx => ?_, now := fun v hv m hm => ?_ }
    · obtain ⟨j, v, h1, h2, h3, h4⟩ := h.par m x hm hx
      exact ⟨j, v, h1, h2, fun e => by simp at e, h4⟩
    · rcases List.mem_append.1 hm with hm | hm
      · exact h.now v hv m hm
      · simp at hm; subst hm
        exact ⟨hnq, h.top v hv m hnq⟩
theorem Inv.pushes {N s : Nat} {adj : Nat → List Nat} {i u : Nat} : ∀ (l r : List Nat) (S : St), Inv N adj s S i r → S.q[i]? = some u → (∀ n, n ∈ l → n ∈ adj u ∧ n < N) → Inv N adj s (pushes u S l) i (r ++ l) ∧ (Bfs.pushes u S l).q[i]? = some u
  | [], r, S, h, hu, _ => by rw [List.append_nil]; exact ⟨h, hu⟩
  | n :: l, r, S, h, hu, hl => by
    have hn := hl n (by simp)
    have h2 := h.push hu hn.1 hn.2
    have hu2 : (Bfs.push u S n).q[i]? = some u := by
      unfold Bfs.push
      split
      · show (S.q ++ [n])[i]? = some u
        rw [List.getElem?_append_left (List.getElem?_eq_some_iff.1 hu).1]; exact hu
      · exact hu
    have h3 := Inv.pushes l (r ++ [n]) _ h2 hu2 fun m hm => hl m (by simp [hm])
    rw [List.append_assoc] at h3
    exact h3
theorem Inv.open {N s : Nat} {adj : Nat → List Nat} {S : St} {i : Nat} (h : Inv N adj s S i []) (hA : ∀ u, u ∈ S.q → ∀ n, n ∈ adj u → n < N) (hi : i < S.q.length) : Inv N adj s (opn adj S i) (i + 1) [] := by
  have hu : S.q[i]? = some S.q[i] := List.getElem?_eq_getElem hi
  generalize S.q[i] = u at hu
  have hop : opn adj S i = Bfs.pushes u S (adj u) := by unfold opn; rw [hu]
  rw [hop]
  obtain ⟨k, hk⟩ := Inv.pushes (adj u) [] S h hu fun n hn => ⟨hn, hA u (q_at hu) n hn⟩
  rw [List.nil_append] at k
  generalize Bfs.pushes u S (adj u) = S' at *
  refine { k with par := fun m n hm hn => ?_, top := fun v hv n hn => ?_, done := fun j v hj hv n hn => ?_, now := fun v hv n hn => by cases hn }
  · obtain ⟨j, v, h1, h2, _, h4⟩ := k.par m n hm hn
    exact ⟨j, v, h1, by omega, fun _ => by omega, h4⟩
  · exact Nat.le_trans (k.top u hk n hn) (Nat.add_le_add_right (k.mono i (i + 1) u v (by omega) hk hv) 1)
  · by_cases e : j = i
    · subst e
      rw [hk] at hv
      obtain rfl := Option.some.inj hv
      exact k.now u hk n hn
    · exact k.done j v (by omega) hv n hn
theorem Inv.len {N s : Nat} {adj : Nat → List Nat} {S : St} {i : Nat} {l : List Nat} (h : Inv N adj s S i l) : S.q.length ≤ N := by
  have := (List.Nodup.length_le_of_subset h.nd (l₂ := List.range N) fun m hm => List.mem_range.2 (h.lt m hm))
  simpa using this

/-- nothing that is there turns -/
def Ext (S T : St) : Prop := (∃ r, T.q = S.q ++ r) ∧ ∀ m, m ∈ S.q → T.par m = S.par m ∧ T.d m = S.d m
theorem Ext.refl (S : St) : Ext S S := ⟨⟨[], by simp⟩, fun _ _ => ⟨rfl, rfl⟩⟩
theorem Ext.trans {S T U : St} (h : Ext S T) (k : Ext T U) : Ext S U := by
  obtain ⟨⟨r, h1⟩, h2⟩ := h
  obtain ⟨⟨r', k1⟩, k2⟩ := k
  refine ⟨⟨r ++ r', by rw [k1, h1, List.append_assoc]⟩, fun m hm => ?_⟩
  have hm2 : m ∈ T.q := by rw [h1]; exact List.mem_append.2 (.inl hm)
  exact ⟨(k2 m hm2).1.trans (h2 m hm).1, (k2 m hm2).2.trans (h2 m hm).2⟩
theorem ext_push {S : St} (hs : ∀ m, m ∈ S.q → S.par m ≠ -2) (u n : Nat) : Ext S (push u S n) := by
  by_cases e : S.par n = -2
  · rw [push_new e]
    refine ⟨⟨[n], rfl⟩, fun m hm => ?_⟩
    have : m ≠ n := fun e2 => hs m hm (e2 ▸ e)
    show (if m = n then (u : Int) else S.par m) = _ ∧ (if m = n then S.d u + 1 else S.d m) = _
    rw [if_neg this, if_neg this]; exact ⟨rfl, rfl⟩
  · rw [push_old e]; exact Ext.refl _
theorem seen_push {S : St} (hs : ∀ m, m ∈ S.q → S.par m ≠ -2) (u n : Nat) : ∀ m, m ∈ (push u S n).q → (push u S n).par m ≠ -2 := by
  by_cases e : S.par n = -2
  · rw [push_new e]
    intro m hm
    show (if m = n then (u : Int) else S.par m) ≠ -2
    split
    · omega
    · rename_i e2
      rcases List.mem_append.1 hm with hm | hm
      · exact hs m hm
      · simp at hm; exact absurd hm e2
  · rw [push_old e]; exact hs
theorem ext_pushes (u : Nat) : ∀ (l : List Nat) (S : St), (∀ m, m ∈ S.q → S.par m ≠ -2) → Ext S (pushes u S l)
  | [], S, _ => Ext.refl _
  | n :: l, S, hs => (ext_push hs u n).trans (ext_pushes u l _ (seen_push hs u n))
theorem ext_opn {S : St} (adj : Nat → List Nat) (i : Nat) (hs : ∀ m, m ∈ S.q → S.par m ≠ -2) : Ext S (opn adj S i) := by
  unfold opn
  split
  · exact Ext.refl _
  · exact ext_pushes _ _ _ hs
theorem Ext.at {S T : St} (h : Ext S T) {i u : Nat} (hu : S.q[i]? = some u) : T.q[i]? = some u := by
  obtain ⟨⟨r, h1⟩, _⟩ := h
  rw [h1, List.getElem?_append_left (List.getElem?_eq_some_iff.1 hu).1]; exact hu

section
variable {N s : Nat} {adj : Nat → List Nat}
theorem bfs_inv (hs : s < N) (hA : ∀ u, u < N → ∀ n, n ∈ adj u → n < N) : ∀ i, i ≤ (bfs adj s i).q.length → Inv N adj s (bfs adj s i) i []
  | 0, _ => inv0 adj hs
  | i + 1, h => by
    rw [bfs] at h ⊢
    by_cases e : i < (bfs adj s i).q.length
    · exact (bfs_inv hs hA i (Nat.le_of_lt e)).open (fun u hu => hA u ((bfs_inv hs hA i (Nat.le_of_lt e)).lt u hu)) e
    · have : (bfs adj s i).q[i]? = none := List.getElem?_eq_none (by omega)
      have ho : opn adj (bfs adj s i) i = bfs adj s i := by unfold opn; rw [this]
      rw [ho] at h
      omega
theorem bfs_done {i : Nat} (h : (bfs adj s i).q.length ≤ i) : ∀ j, i ≤ j → bfs adj s j = bfs adj s i := by
  intro j hj
  obtain ⟨k, rfl⟩ : ∃ k, j = i + k := ⟨j - i, by omega⟩
  clear hj
  induction k with
  | zero => rfl
  | succ k ih =>
    rw [show i + (k + 1) = i + k + 1 by omega, bfs, ih]
    have : (bfs adj s i).q[i + k]? = none := List.getElem?_eq_none (by omega)
    unfold opn; rw [this]
theorem bfs_ext (hs : s < N) (hA : ∀ u, u < N → ∀ n, n ∈ adj u → n < N) : ∀ (i k : Nat), Ext (bfs adj s i) (bfs adj s (i + k))
  | i, 0 => Ext.refl _
  | i, k + 1 => by
    refine (bfs_ext hs hA i k).trans ?_
    rw [show i + (k + 1) = i + k + 1 by omega, bfs]
    by_cases e : i + k ≤ (bfs adj s (i + k)).q.length
    · exact ext_opn _ _ fun m hm => ((bfs_inv hs hA _ e).seen m).1 hm
    · have : (bfs adj s (i + k)).q[i + k]? = none := List.getElem?_eq_none (by omega)
      unfold opn; rw [this]; exact Ext.refl _
/-- when the whole queue is done -/
theorem bfs_end (hs : s < N) (hA : ∀ u, u < N → ∀ n, n ∈ adj u → n < N) : ∃ i, (bfs adj s i).q.length = i ∧ i ≤ N := by
  have key : ∀ k, (∃ i, (bfs adj s i).q.length = i ∧ i ≤ N) ∨ k ≤ (bfs adj s k).q.length := by
    intro k
    induction k with
    | zero => exact .inr (Nat.zero_le _)
    | succ k ih =>
      rcases ih with h | h
      · exact .inl h
      have hI := bfs_inv hs hA k h
      by_cases e : (bfs adj s k).q.length = k
      · exact .inl ⟨k, e, by have := hI.len; omega⟩
      · right
        obtain ⟨⟨r, hr⟩, _⟩ := bfs_ext hs hA k 1
        rw [hr, List.length_append]; omega
  rcases key (N + 1) with h | h
  · exact h
  · have := (bfs_inv hs hA _ h).len; omega
end

/-- the way back to the first, read forward -/
inductive Chain (par : Nat → Int) : Nat → List Nat → Prop
  | root {n : Nat} (h : par n = -1) : Chain par n [n]
  | step {n u : Nat} {l : List Nat} (h : par n = (u : Int)) (k : Chain par u l) : Chain par n (l ++ [n])
theorem Chain.det {par : Nat → Int} {n : Nat} {l m : List Nat} (h : Chain par n l) (k : Chain par n m) : l = m := by
  induction h generalizing m with
  | root h =>
    cases k with
    | root => rfl
    | step h2 _ => omega
  | step h k1 ih =>
    cases k with
    | root h2 => omega
    | step h2 k2 =>
      have : (_ : Nat) = _ := Int.ofNat_inj.1 (h.symm.trans h2)
      subst this
      rw [ih k2]
theorem Chain.pos {par : Nat → Int} {n : Nat} {l : List Nat} (h : Chain par n l) : 0 < l.length := by cases h <;> simp
theorem Inv.chain {N s : Nat} {adj : Nat → List Nat} {S : St} {i : Nat} {r : List Nat} (h : Inv N adj s S i r) : ∀ (m n : Nat), S.q[m]? = some n → ∃ l, Chain S.par n l ∧ l.length = S.d n ∧ l.length ≤ m + 1 ∧ ∀ x, x ∈ l → x ∈ S.q := by
  intro m
  induction m using Nat.strongRecOn with
  | ind m ih =>
    intro n hn
    by_cases e : m = 0
    · subst e
      rw [h.fst] at hn
      obtain rfl := Option.some.inj hn
      exact ⟨[s], .root h.root.1, by rw [h.root.2]; rfl, by simp, fun x hx => by simp at hx; subst hx; exact List.mem_of_getElem? h.fst⟩
    · obtain ⟨j, u, h1, h2, h3, h4, h5, h6, h7⟩ := h.par m n (by omega) hn
      obtain ⟨l, k1, k2, k3, k4⟩ := ih j h1 u h4
      refine ⟨l ++ [n], .step h5 k1, by simp [k2, h7], by simp; omega, fun x hx => ?_⟩
      rcases List.mem_append.1 hx with hx | hx
      · exact k4 x hx
      · simp at hx; subst hx; exact List.mem_of_getElem? hn
theorem Chain.ext {par par' : Nat → Int} {n : Nat} {l : List Nat} (h : Chain par n l) (he : ∀ x, x ∈ l → par' x = par x) : Chain par' n l := by
  induction h with
  | root h => exact .root (by rw [he _ (by simp)]; exact h)
  | step h k ih => exact .step (by rw [he _ (by simp)]; exact h) (ih fun x hx => he x (by simp [hx]))
theorem Chain.last {par : Nat → Int} {n : Nat} {l : List Nat} (h : Chain par n l) : l.getLast? = some n := by cases h <;> simp
end Bfs
end Go.Proofs.Ytfemikebklmlpaa
