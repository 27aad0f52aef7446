/- A region that draws its order: first what only reads, then the rest in one of a few orders, written out as a tree: a walk a branch. Conditions: those of each theorem. -/
import Derived.Test.YtfemikebklmlpaaReg
import Derived.Maps.AppendAt
namespace Go.Proofs.Ytfemikebklmlpaa
open Go.RowKit

/-- which operations may come up, one behind the other; 'fre', 'twf': of those that wait for all reads -/
inductive Ord where
  | done
  | one (i : Nat) (r : Ord)
  | fre (i : Nat) (r : Ord)
  | two (i j : Nat) (r s : Ord)
  | twf (i j : Nat) (r s : Ord)
  | thr (i j k : Nat) (r s t : Ord)

section
variable {P : Program} {ops : Array Oper} {Q : Exit → Act → World → Prop} {md : Region.Mode} {C : World → Prop} {Z : List Nat}

/-- whatever order is picked; C holds behind each operation but those of Z -/
def AnyZ (P : Program) (md : Region.Mode) (ops : Array Oper) (Q : Exit → Act → World → Prop) (C : World → Prop) (Z : List Nat) : Nat → Array Bool → Act → World → Prop
  | 0, listed, a, w => Region.ready md ops listed = [] ∧ Q .normal a w
  | n + 1, listed, a, w => (Region.ready md ops listed = [] → Q .normal a w) ∧ ∀ i, i ∈ Region.ready md ops listed →
      wpOp P ops Q i (fun a' w' => (Z.contains i = false → C w') ∧ AnyZ P md ops Q C Z n (listed.setIfInBounds i true) a' w') a w

theorem AnyZ.sound : ∀ (n : Nat) (listed : Array Bool) (a : Act) (w : World), AnyZ P md ops Q C Z n listed a w → wpAny P md ops Q n listed a w
  | 0, _, _, _, h => h
  | n + 1, _, _, _, h => ⟨h.1, fun i hi => wpOp_mono (fun a' w' h' => AnyZ.sound n _ a' w' h'.2) (h.2 i hi)⟩

/-- all operations of Z wait for operation i -/
def waitsZ (md : Region.Mode) (ops : Array Oper) (Z : List Nat) (i : Nat) : Bool := Z.all fun z => waits md ops z i

theorem AnyZ.take {i : Nat} {o : Oper} {v : Value} (hi : ops[i]? = some o) (hsel : Region.noSelect ops = true) (hQ : ∀ c a w, Q (.panic c) (a.put o.dst v) w → Q (.panic c) a w) (hz : waitsZ md ops Z i = true) :
    ∀ (n : Nat) (listed : Array Bool) (a : Act) (w : World),
      (∀ j oj, ops[j]? = some oj → j ≠ i → listed.getD j true = false → (∀ e ∈ oj.after, Region.binds md e = true → e.on ≠ i) → o.apart ops oj = true) →
      i ∈ Region.ready md ops listed → YieldsIf P ops C o v a → C w → AnyZ P md ops Q C Z n (listed.setIfInBounds i true) (a.put o.dst v) w → AnyZ P md ops Q C Z (n + 1) listed a w := by
  intro n
  induction n with
  | zero =>
    intro listed a w _ hr hy hC H
    refine ⟨fun h => by (rw [h] at hr; cases hr), fun j hj => ?_⟩
    by_cases e : j = i
    · subst e; exact hy.wpOp hi hC ⟨fun _ => hC, H⟩
    · have h1 := ready_mono hj e
      rw [H.1] at h1; cases h1
  | succ n ih =>
    intro listed a w hfree hr hy hC H
    refine ⟨fun h => by (rw [h] at hr; cases hr), fun j hj => ?_⟩
    by_cases e : j = i
    · subst e; exact hy.wpOp hi hC ⟨fun _ => hC, H⟩
    · have h1 := H.2 j (ready_mono hj e)
      obtain ⟨hun, oj, hoj, hall⟩ := mem_ready.1 hj
      have hno : ∀ x ∈ oj.after, Region.binds md x = true → x.on ≠ i := fun x hx hb he => by
        have h2 := hall x hx hb
        have h3 := (mem_ready.1 hr).1
        rw [he] at h2
        rcases Nat.lt_or_ge i listed.size with h4 | h4
        · simp [h4] at h2 h3; rw [h3] at h2; cases h2
        · simp [Array.getElem?_eq_none h4] at h2
      have hjz : Z.contains j = false := by
        cases hjz : Z.contains j with
        | false => rfl
        | true =>
          exfalso
          unfold waitsZ at hz
          rw [List.all_eq_true] at hz
          have hz := hz j (by simpa using hjz)
          unfold waits at hz
          rw [hoj] at hz
          simp only [Option.map_some, Option.getD_some, Array.any_eq_true] at hz
          obtain ⟨k, hk, hz⟩ := hz
          simp only [Bool.and_eq_true, beq_iff_eq] at hz
          exact hno _ (Array.getElem_mem hk) hz.1 hz.2
      have h5 := wpOp_putIf hoj (hfree j oj hoj e hun hno) (fun cs b => Region.noSelect_spec hsel i o cs b hi) (fun cs b => Region.noSelect_spec hsel j oj cs b hoj) hQ hy h1
      have hri := ready_mono (md := md) hr (Ne.symm e)
      refine wpOp_mono (fun a' w' h6 => ?_) h5
      have hCw : C w' := h6.2.1 hjz
      exact ⟨fun _ => hCw, ih (listed.setIfInBounds j true) a' w' (fun k ok hk hki hu hnk => hfree k ok hk hki (by
          by_cases hjk : j = k
          · subst hjk; exact hun
          · rw [getD_set_ne true hjk] at hu; exact hu) hnk) hri h6.1 hCw (by rw [Array.setIfInBounds_comm _ _ e]; exact h6.2.2)⟩

/-- an operation that only reads: a plain one, or 'len' -/
def lenOp (o : Oper) : Bool := match o.op with
  | .call { callee := .builtin .len, .. } => true
  | _ => false
theorem len_value {o : Oper} (h : lenOp o = true) {ρ : Operand → Value} {w w' : World} {n : Next} (hr : Sem.run P (execOp ρ o) w = .ok n w') : ∃ u, n = .value u := by
  obtain ⟨dst, op, ty, pos, after, guard⟩ := o
  unfold lenOp at h
  split at h
  · rename_i c1 c2 hop
    dsimp only at hop
    subst hop
    unfold execOp at hr
    simp only [resolve, invoke, builtin, Sem.run_bind, Sem.run_pure, Result.andThen_ok] at hr
    generalize Sem.run P (Builtin.len_ c2 ty (Array.map ρ c1)) w = rr at hr
    cases rr with
    | ok v w1 => simp [Result.andThen] at hr; exact ⟨v, hr.1.symm⟩
    | halt h w1 => simp [Result.andThen] at hr
  · cases h
theorem plain2_value {o : Oper} (h : (plainOp o || lenOp o) = true) {ρ : Operand → Value} {w w' : World} {n : Next} (hr : Sem.run P (execOp ρ o) w = .ok n w') : ∃ u, n = .value u := by
  rw [Bool.or_eq_true] at h
  rcases h with h | h
  · exact plain_value h hr
  · exact len_value h hr
/-- each of these may be taken first, one behind the other -/
def preZ (md : Region.Mode) (l : List Oper) (Z : List Nat) : List Nat → Array Bool → Bool
  | [], _ => true
  | i :: r, listed => (Region.ready md l.toArray listed).contains i && (Region.free md l.toArray listed i && (waitsZ md l.toArray Z i && (((l[i]?).map fun o => plainOp o || lenOp o).getD false && preZ md l Z r (listed.setIfInBounds i true))))
theorem AnyZ.pre {l : List Oper} {n : Nat} {w : World} (hsel : Region.noSelect l.toArray = true) (hQ : ∀ d v c a w, Q (.panic c) (Act.put a d v) w → Q (.panic c) a w) (hC : C w) :
    ∀ (I : List Nat) (listed : Array Bool) (a : Act), preZ md l Z I listed = true → wpQuiet P l.toArray C (fun a' => AnyZ P md l.toArray Q C Z n (marked I listed) a' w) (pick l I) a → AnyZ P md l.toArray Q C Z (n + I.length) listed a w := by
  intro I
  induction I with
  | nil => intro listed a _ h; exact h
  | cons i r ih =>
    intro listed a hB h
    simp only [preZ, Bool.and_eq_true] at hB
    obtain ⟨h1, h2, h3, h4, h5⟩ := hB
    cases ho : l[i]? with
    | none => rw [ho] at h4; simp at h4
    | some o =>
      rw [ho] at h4
      simp only [Option.map_some, Option.getD_some] at h4
      rw [pick_cons ho] at h
      have hoa : l.toArray[i]? = some o := by simpa using ho
      unfold wpQuiet at h
      have hgo : ∀ v, YieldsIf P l.toArray C o v a → wpQuiet P l.toArray C (fun a' => AnyZ P md l.toArray Q C Z n (marked r (listed.setIfInBounds i true)) a' w) (pick l r) (a.put o.dst v) → AnyZ P md l.toArray Q C Z (n + (i :: r).length) listed a w := fun v hy hr =>
        AnyZ.take hoa hsel (fun c a w => hQ _ _ c a w) h3 _ listed a w (Region.free_spec hoa h2) (by simpa using h1) hy hC (ih _ _ h5 hr)
      split at h
      · rename_i hw
        obtain ⟨v, hv, hr⟩ := h
        refine hgo v (.inl ⟨hw, fun w1 hw1 => ?_⟩) hr
        have hq := hv w1 hw1
        unfold Oper.quietAt at hq
        cases hrun : Sem.run P (execOp a.eval o) w1 with
        | ok nx w2 =>
          obtain ⟨u, rfl⟩ := plain2_value h4 hrun
          rw [hrun] at hq
          simp only [Oper.quietUpon] at hq
          rw [hq.1, hq.2]
        | halt hh w2 => rw [hrun] at hq; simp only [Oper.quietUpon] at hq
      · rename_i hw
        exact hgo undef (.inr ⟨by simpa using hw, rfl⟩) h


/-- these orders, and no others -/
def ordB (md : Region.Mode) (l : List Oper) (Z : List Nat) : Ord → Array Bool → Bool
  | .done, listed => (Region.ready md l.toArray listed).isEmpty
  | .one i r, listed => (Region.ready md l.toArray listed) == [i] && ((l[i]?).isSome && ordB md l Z r (listed.setIfInBounds i true))
  | .fre i r, listed => (Region.ready md l.toArray listed) == [i] && ((l[i]?).isSome && (Z.contains i && ordB md l Z r (listed.setIfInBounds i true)))
  | .two i j r s, listed => (Region.ready md l.toArray listed) == [i, j] && ((l[i]?).isSome && ((l[j]?).isSome && (ordB md l Z r (listed.setIfInBounds i true) && ordB md l Z s (listed.setIfInBounds j true))))
  | .twf i j r s, listed => (Region.ready md l.toArray listed) == [i, j] && ((l[i]?).isSome && ((l[j]?).isSome && (Z.contains i && (Z.contains j && (ordB md l Z r (listed.setIfInBounds i true) && ordB md l Z s (listed.setIfInBounds j true))))))
  | .thr i j k r s t, listed => (Region.ready md l.toArray listed) == [i, j, k] && ((l[i]?).isSome && ((l[j]?).isSome && ((l[k]?).isSome && (ordB md l Z r (listed.setIfInBounds i true) && (ordB md l Z s (listed.setIfInBounds j true) && ordB md l Z t (listed.setIfInBounds k true))))))
def Ord.len : Ord → Nat
  | .done => 0
  | .one _ r => r.len + 1
  | .fre _ r => r.len + 1
  | .two _ _ r _ => r.len + 1
  | .twf _ _ r _ => r.len + 1
  | .thr _ _ _ r _ _ => r.len + 1
/-- both ways are equally long -/
def Ord.even : Ord → Bool
  | .done => true
  | .one _ r => r.even
  | .fre _ r => r.even
  | .two _ _ r s => r.len == s.len && (r.even && s.even)
  | .twf _ _ r s => r.len == s.len && (r.even && s.even)
  | .thr _ _ _ r s t => r.len == s.len && (r.len == t.len && (r.even && (s.even && t.even)))

/-- each order, an operation at a time; C is shown behind each that does not wait for all reads -/
def ordW (P : Program) (ops : Array Oper) (Q : Exit → Act → World → Prop) (C : World → Prop) (l : List Oper) : Ord → Act → World → Prop
  | .done, a, w => Q .normal a w
  | .one i r, a, w => wpList P ops (Exit.then (fun a' w' => C w' ∧ ordW P ops Q C l r a' w') Q) (pick l [i]) a w
  | .fre i r, a, w => wpList P ops (Exit.then (fun a' w' => ordW P ops Q C l r a' w') Q) (pick l [i]) a w
  | .two i j r s, a, w => wpList P ops (Exit.then (fun a' w' => C w' ∧ ordW P ops Q C l r a' w') Q) (pick l [i]) a w ∧ wpList P ops (Exit.then (fun a' w' => C w' ∧ ordW P ops Q C l s a' w') Q) (pick l [j]) a w
  | .twf i j r s, a, w => wpList P ops (Exit.then (fun a' w' => ordW P ops Q C l r a' w') Q) (pick l [i]) a w ∧ wpList P ops (Exit.then (fun a' w' => ordW P ops Q C l s a' w') Q) (pick l [j]) a w
  | .thr i j k r s t, a, w => wpList P ops (Exit.then (fun a' w' => C w' ∧ ordW P ops Q C l r a' w') Q) (pick l [i]) a w ∧ wpList P ops (Exit.then (fun a' w' => C w' ∧ ordW P ops Q C l s a' w') Q) (pick l [j]) a w ∧ wpList P ops (Exit.then (fun a' w' => C w' ∧ ordW P ops Q C l t a' w') Q) (pick l [k]) a w

theorem pick_one {l : List Oper} {i : Nat} {o : Oper} (h : l[i]? = some o) : pick l [i] = [o] := by simp [pick, h]

theorem AnyZ.ord {l : List Oper} : ∀ (T : Ord) (listed : Array Bool) (a : Act) (w : World), ordB md l Z T listed = true → T.even = true → ordW P l.toArray Q C l T a w → AnyZ P md l.toArray Q C Z T.len listed a w := by
  intro T
  induction T with
  | done => intro listed a w h _ hw; exact ⟨List.isEmpty_iff.1 h, hw⟩
  | one i r ih =>
    intro listed a w hB he h
    simp only [ordB, Bool.and_eq_true, beq_iff_eq] at hB
    obtain ⟨h1, h2, h3⟩ := hB
    obtain ⟨o, ho⟩ := Option.isSome_iff_exists.1 h2
    have hoa : l.toArray[i]? = some o := by simpa using ho
    rw [ordW, pick_one ho] at h
    refine ⟨fun hn => by (rw [h1] at hn; cases hn), fun j hj => ?_⟩
    rw [h1] at hj
    obtain rfl : j = i := by simpa using hj
    exact wpOp_mono (fun a' w' hq => ⟨fun _ => hq.1, ih _ a' w' h3 he hq.2⟩) (op_then hoa h)
  | fre i r ih =>
    intro listed a w hB he h
    simp only [ordB, Bool.and_eq_true, beq_iff_eq] at hB
    obtain ⟨h1, h2, h4, h3⟩ := hB
    obtain ⟨o, ho⟩ := Option.isSome_iff_exists.1 h2
    have hoa : l.toArray[i]? = some o := by simpa using ho
    rw [ordW, pick_one ho] at h
    refine ⟨fun hn => by (rw [h1] at hn; cases hn), fun j hj => ?_⟩
    rw [h1] at hj
    obtain rfl : j = i := by simpa using hj
    exact wpOp_mono (fun a' w' hq => ⟨fun hc => (by rw [h4] at hc; cases hc), ih _ a' w' h3 he hq⟩) (op_then hoa h)
  | two i j r s ihr ihs =>
    intro listed a w hB he h
    simp only [ordB, Bool.and_eq_true, beq_iff_eq] at hB
    obtain ⟨h1, h2, h3, h4, h5⟩ := hB
    simp only [Ord.even, Bool.and_eq_true, beq_iff_eq] at he
    obtain ⟨e1, e2, e3⟩ := he
    obtain ⟨o, ho⟩ := Option.isSome_iff_exists.1 h2
    obtain ⟨o', ho'⟩ := Option.isSome_iff_exists.1 h3
    have hoa : l.toArray[i]? = some o := by simpa using ho
    have hoa' : l.toArray[j]? = some o' := by simpa using ho'
    rw [ordW, pick_one ho, pick_one ho'] at h
    refine ⟨fun hn => by (rw [h1] at hn; cases hn), fun k hk => ?_⟩
    rw [h1] at hk
    have hk2 : k = i ∨ k = j := by simpa using hk
    rcases hk2 with rfl | rfl
    · exact wpOp_mono (fun a' w' hq => ⟨fun _ => hq.1, ihr _ a' w' h4 e2 hq.2⟩) (op_then hoa h.1)
    · exact wpOp_mono (fun a' w' hq => ⟨fun _ => hq.1, by rw [e1]; exact ihs _ a' w' h5 e3 hq.2⟩) (op_then hoa' h.2)
  | twf i j r s ihr ihs =>
    intro listed a w hB he h
    simp only [ordB, Bool.and_eq_true, beq_iff_eq] at hB
    obtain ⟨h1, h2, h3, z1, z2, h4, h5⟩ := hB
    simp only [Ord.even, Bool.and_eq_true, beq_iff_eq] at he
    obtain ⟨e1, e2, e3⟩ := he
    obtain ⟨o, ho⟩ := Option.isSome_iff_exists.1 h2
    obtain ⟨o', ho'⟩ := Option.isSome_iff_exists.1 h3
    have hoa : l.toArray[i]? = some o := by simpa using ho
    have hoa' : l.toArray[j]? = some o' := by simpa using ho'
    rw [ordW, pick_one ho, pick_one ho'] at h
    refine ⟨fun hn => by (rw [h1] at hn; cases hn), fun k hk => ?_⟩
    rw [h1] at hk
    have hk2 : k = i ∨ k = j := by simpa using hk
    rcases hk2 with rfl | rfl
    · exact wpOp_mono (fun a' w' hq => ⟨fun hc => (by rw [z1] at hc; cases hc), ihr _ a' w' h4 e2 hq⟩) (op_then hoa h.1)
    · exact wpOp_mono (fun a' w' hq => ⟨fun hc => (by rw [z2] at hc; cases hc), by rw [e1]; exact ihs _ a' w' h5 e3 hq⟩) (op_then hoa' h.2)
  | thr i j k r s t ihr ihs iht =>
    intro listed a w hB he h
    simp only [ordB, Bool.and_eq_true, beq_iff_eq] at hB
    obtain ⟨h1, h2, h3, h3', h4, h5, h6⟩ := hB
    simp only [Ord.even, Bool.and_eq_true, beq_iff_eq] at he
    obtain ⟨e1, e1', e2, e3, e4⟩ := he
    obtain ⟨o, ho⟩ := Option.isSome_iff_exists.1 h2
    obtain ⟨o', ho'⟩ := Option.isSome_iff_exists.1 h3
    obtain ⟨o2, ho2⟩ := Option.isSome_iff_exists.1 h3'
    have hoa : l.toArray[i]? = some o := by simpa using ho
    have hoa' : l.toArray[j]? = some o' := by simpa using ho'
    have hoa2 : l.toArray[k]? = some o2 := by simpa using ho2
    rw [ordW, pick_one ho, pick_one ho', pick_one ho2] at h
    refine ⟨fun hn => by (rw [h1] at hn; cases hn), fun m hk => ?_⟩
    rw [h1] at hk
    have hk2 : m = i ∨ m = j ∨ m = k := by simpa using hk
    rcases hk2 with rfl | rfl | rfl
    · exact wpOp_mono (fun a' w' hq => ⟨fun _ => hq.1, ihr _ a' w' h4 e2 hq.2⟩) (op_then hoa h.1)
    · exact wpOp_mono (fun a' w' hq => ⟨fun _ => hq.1, by rw [e1]; exact ihs _ a' w' h5 e3 hq.2⟩) (op_then hoa' h.2.1)
    · exact wpOp_mono (fun a' w' hq => ⟨fun _ => hq.1, by rw [e1']; exact iht _ a' w' h6 e4 hq.2⟩) (op_then hoa2 h.2.2)

/-- **A REGION THAT DRAWS: ITS READS FIRST (I), THEN ONE OF A FEW ORDERS (T)**; Z: the operations that wait for all reads -/
theorem wp_region_ord {id : Nat} {a : Act} {w : World} {l : List Oper} (I : List Nat) (T : Ord) (Z : List Nat) (hm : P.follows .mixedOrders = true)
    (hB : (Region.noSelect l.toArray && (preZ .any l Z I (Array.replicate l.length false) && (ordB .any l Z T (marked I (Array.replicate l.length false)) && (T.even && decide (T.len + I.length = l.length))))) = true)
    (hQ : ∀ d v c a w, Q (.panic c) (Act.put a d v) w → Q (.panic c) a w) (hC : C w.drew)
    (h : wpQuiet P l.toArray C (fun a' => ordW P l.toArray Q C l T a' w.drew) (pick l I) a) : (Code.region id l.toArray true).wp P Q a w := by
  simp only [Bool.and_eq_true, decide_eq_true_eq] at hB
  obtain ⟨h1, h2, h3, h4, h5⟩ := hB
  refine wp_region_any hm (AnyZ.sound (C := C) (Z := Z) _ _ _ _ ?_)
  have := AnyZ.pre (n := T.len) h1 hQ hC I _ a h2 (wpQuiet_mono' (fun a' ha => AnyZ.ord T _ a' _ h3 h4 ha) _ _ h)
  rw [h5] at this
  simpa using this
end
end Go.Proofs.Ytfemikebklmlpaa
