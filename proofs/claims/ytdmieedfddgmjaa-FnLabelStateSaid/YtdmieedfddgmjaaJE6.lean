/- Joined texts (RegOrd, CellsOwn, ConcatI, CloneI, PairReg): contracts and plain laws. Conditions: those of each theorem. -/
import Derived.Test.YtdmieedfddgmjaaJE1
import Derived.Test.YtdmieedfddgmjaaJE2
import Derived.Test.YtdmieedfddgmjaaJE5
import Derived.Maps.AppendAt
import Derived.Lib.SliceRun
set_option linter.unusedVariables false
set_option linter.unusedSimpArgs false
namespace Go.Proofs.Ytdmieedfddgmjaa
open Go.RowKit

/-- which operations may come up, one behind the other; 'fre', 'twf': of those that wait for all reads -/
inductive Ord where
  | done
  | one (i : Nat) (r : Ord)
  | fre (i : Nat) (r : Ord)
  | two (i j : Nat) (r s : Ord)
  | twf (i j : Nat) (r s : Ord)
  | thr (i j k : Nat) (r s t : Ord)

section
variable {P : Program} {ops : Array Oper} {Q : Exit → Act → World → Prop} {md : Region.Mode} {C : World → Prop} {Z : List Nat}

/-- whatever order is picked; C holds behind each operation but those of Z -/
def AnyZ (P : Program) (md : Region.Mode) (ops : Array Oper) (Q : Exit → Act → World → Prop) (C : World → Prop) (Z : List Nat) : Nat → Array Bool → Act → World → Prop
  | 0, listed, a, w => Region.ready md ops listed = [] ∧ Q .normal a w
  | n + 1, listed, a, w => (Region.ready md ops listed = [] → Q .normal a w) ∧ ∀ i, i ∈ Region.ready md ops listed →
      wpOp P ops Q i (fun a' w' => (Z.contains i = false → C w') ∧ AnyZ P md ops Q C Z n (listed.setIfInBounds i true) a' w') a w

theorem AnyZ.sound : ∀ (n : Nat) (listed : Array Bool) (a : Act) (w : World), AnyZ P md ops Q C Z n listed a w → wpAny P md ops Q n listed a w
  | 0, _, _, _, h => h
  | n + 1, _, _, _, h => ⟨h.1, fun i hi => wpOp_mono (fun a' w' h' => AnyZ.sound n _ a' w' h'.2) (h.2 i hi)⟩

/-- all operations of Z wait for operation i -/
def waitsZ (md : Region.Mode) (ops : Array Oper) (Z : List Nat) (i : Nat) : Bool := Z.all fun z => waits md ops z i

theorem AnyZ.take {i : Nat} {o : Oper} {v : Value} (hi : ops[i]? = some o) (hsel : Region.noSelect ops = true) (hQ : ∀ c a w, Q (.panic c) (a.put o.dst v) w → Q (.panic c) a w) (hz : waitsZ md ops Z i = true) :
    ∀ (n : Nat) (listed : Array Bool) (a : Act) (w : World),
      (∀ j oj, ops[j]? = some oj → j ≠ i → listed.getD j true = false → (∀ e ∈ oj.after, Region.binds md e = true → e.on ≠ i) → o.apart ops oj = true) →
      i ∈ Region.ready md ops listed → YieldsIf P ops C o v a → C w → AnyZ P md ops Q C Z n (listed.setIfInBounds i true) (a.put o.dst v) w → AnyZ P md ops Q C Z (n + 1) listed a w := by
  intro n
  induction n with
  | zero =>
    intro listed a w _ hr hy hC H
    refine ⟨fun h => by (rw [h] at hr; cases hr), fun j hj => ?_⟩
    by_cases e : j = i
    · subst e; exact hy.wpOp hi hC ⟨fun _ => hC, H⟩
    · have h1 := ready_mono hj e
      rw [H.1] at h1; cases h1
  | succ n ih =>
    intro listed a w hfree hr hy hC H
    refine ⟨fun h => by (rw [h] at hr; cases hr), fun j hj => ?_⟩
    by_cases e : j = i
    · subst e; exact hy.wpOp hi hC ⟨fun _ => hC, H⟩
    · have h1 := H.2 j (ready_mono hj e)
      obtain ⟨hun, oj, hoj, hall⟩ := mem_ready.1 hj
      have hno : ∀ x ∈ oj.after, Region.binds md x = true → x.on ≠ i := fun x hx hb he => by
        have h2 := hall x hx hb
        have h3 := (mem_ready.1 hr).1
        rw [he] at h2
        rcases Nat.lt_or_ge i listed.size with h4 | h4
        · simp [h4] at h2 h3; rw [h3] at h2; cases h2
        · simp [Array.getElem?_eq_none h4] at h2
      have hjz : Z.contains j = false := by
        cases hjz : Z.contains j with
        | false => rfl
        | true =>
          exfalso
          unfold waitsZ at hz
          rw [List.all_eq_true] at hz
          have hz := hz j (by simpa using hjz)
          unfold waits at hz
          rw [hoj] at hz
          simp only [Option.map_some, Option.getD_some, Array.any_eq_true] at hz
          obtain ⟨k, hk, hz⟩ := hz
          simp only [Bool.and_eq_true, beq_iff_eq] at hz
          exact hno _ (Array.getElem_mem hk) hz.1 hz.2
      have h5 := wpOp_putIf hoj (hfree j oj hoj e hun hno) (fun cs b => Region.noSelect_spec hsel i o cs b hi) (fun cs b => Region.noSelect_spec hsel j oj cs b hoj) hQ hy h1
      have hri := ready_mono (md := md) hr (Ne.symm e)
      refine wpOp_mono (fun a' w' h6 => ?_) h5
      have hCw : C w' := h6.2.1 hjz
      exact ⟨fun _ => hCw, ih (listed.setIfInBounds j true) a' w' (fun k ok hk hki hu hnk => hfree k ok hk hki (by
          by_cases hjk : j = k
          · subst hjk; exact hun
          · rw [getD_set_ne true hjk] at hu; exact hu) hnk) hri h6.1 hCw (by rw [Array.setIfInBounds_comm _ _ e]; exact h6.2.2)⟩

/-- an operation that only reads: a plain one, or 'len' -/
def lenOp (o : Oper) : Bool := match o.op with
  | .call { callee := .builtin .len, .. } => true
  | _ => false
theorem len_value {o : Oper} (h : lenOp o = true) {ρ : Operand → Value} {w w' : World} {n : Next} (hr : Sem.run P (execOp ρ o) w = .ok n w') : ∃ u, n = .value u := by
  obtain ⟨dst, op, ty, pos, after, guard⟩ := o
  unfold lenOp at h
  split at h
  · rename_i c1 c2 hop
    dsimp only at hop
    subst hop
    unfold execOp at hr
    simp only [resolve, invoke, builtin, Sem.run_bind, Sem.run_pure, Result.andThen_ok] at hr
    generalize Sem.run P (Builtin.len_ c2 ty (Array.map ρ c1)) w = rr at hr
    cases rr with
    | ok v w1 => simp [Result.andThen] at hr; exact ⟨v, hr.1.symm⟩
    | halt h w1 => simp [Result.andThen] at hr
  · cases h
theorem plain2_value {o : Oper} (h : (plainOp o || lenOp o) = true) {ρ : Operand → Value} {w w' : World} {n : Next} (hr : Sem.run P (execOp ρ o) w = .ok n w') : ∃ u, n = .value u := by
  rw [Bool.or_eq_true] at h
  rcases h with h | h
  · exact plain_value h hr
  · exact len_value h hr
/-- each of these may be taken first, one behind the other -/
def preZ (md : Region.Mode) (l : List Oper) (Z : List Nat) : List Nat → Array Bool → Bool
  | [], _ => true
  | i :: r, listed => (Region.ready md l.toArray listed).contains i && (Region.free md l.toArray listed i && (waitsZ md l.toArray Z i && (((l[i]?).map fun o => plainOp o || lenOp o).getD false && preZ md l Z r (listed.setIfInBounds i true))))
theorem AnyZ.pre {l : List Oper} {n : Nat} {w : World} (hsel : Region.noSelect l.toArray = true) (hQ : ∀ d v c a w, Q (.panic c) (Act.put a d v) w → Q (.panic c) a w) (hC : C w) :
    ∀ (I : List Nat) (listed : Array Bool) (a : Act), preZ md l Z I listed = true → wpQuiet P l.toArray C (fun a' => AnyZ P md l.toArray Q C Z n (marked I listed) a' w) (pick l I) a → AnyZ P md l.toArray Q C Z (n + I.length) listed a w := by
  intro I
  induction I with
  | nil => intro listed a _ h; exact h
  | cons i r ih =>
    intro listed a hB h
    simp only [preZ, Bool.and_eq_true] at hB
    obtain ⟨h1, h2, h3, h4, h5⟩ := hB
    cases ho : l[i]? with
    | none => rw [ho] at h4; simp at h4
    | some o =>
      rw [ho] at h4
      simp only [Option.map_some, Option.getD_some] at h4
      rw [pick_cons ho] at h
      have hoa : l.toArray[i]? = some o := by simpa using ho
      unfold wpQuiet at h
      have hgo : ∀ v, YieldsIf P l.toArray C o v a → wpQuiet P l.toArray C (fun a' => AnyZ P md l.toArray Q C Z n (marked r (listed.setIfInBounds i true)) a' w) (pick l r) (a.put o.dst v) → AnyZ P md l.toArray Q C Z (n + (i :: r).length) listed a w := fun v hy hr =>
        AnyZ.take hoa hsel (fun c a w => hQ _ _ c a w) h3 _ listed a w (Region.free_spec hoa h2) (by simpa using h1) hy hC (ih _ _ h5 hr)
      split at h
      · rename_i hw
        obtain ⟨v, hv, hr⟩ := h
        refine hgo v (.inl ⟨hw, fun w1 hw1 => ?_⟩) hr
        have hq := hv w1 hw1
        unfold Oper.quietAt at hq
        cases hrun : Sem.run P (execOp a.eval o) w1 with
        | ok nx w2 =>
          obtain ⟨u, rfl⟩ := plain2_value h4 hrun
          rw [hrun] at hq
          simp only [Oper.quietUpon] at hq
          rw [hq.1, hq.2]
        | halt hh w2 => rw [hrun] at hq; simp only [Oper.quietUpon] at hq
      · rename_i hw
        exact hgo undef (.inr ⟨by simpa using hw, rfl⟩) h


/-- these orders, and no others -/
def ordB (md : Region.Mode) (l : List Oper) (Z : List Nat) : Ord → Array Bool → Bool
  | .done, listed => (Region.ready md l.toArray listed).isEmpty
  | .one i r, listed => (Region.ready md l.toArray listed) == [i] && ((l[i]?).isSome && ordB md l Z r (listed.setIfInBounds i true))
  | .fre i r, listed => (Region.ready md l.toArray listed) == [i] && ((l[i]?).isSome && (Z.contains i && ordB md l Z r (listed.setIfInBounds i true)))
  | .two i j r s, listed => (Region.ready md l.toArray listed) == [i, j] && ((l[i]?).isSome && ((l[j]?).isSome && (ordB md l Z r (listed.setIfInBounds i true) && ordB md l Z s (listed.setIfInBounds j true))))
  | .twf i j r s, listed => (Region.ready md l.toArray listed) == [i, j] && ((l[i]?).isSome && ((l[j]?).isSome && (Z.contains i && (Z.contains j && (ordB md l Z r (listed.setIfInBounds i true) && ordB md l Z s (listed.setIfInBounds j true))))))
  | .thr i j k r s t, listed => (Region.ready md l.toArray listed) == [i, j, k] && ((l[i]?).isSome && ((l[j]?).isSome && ((l[k]?).isSome && (ordB md l Z r (listed.setIfInBounds i true) && (ordB md l Z s (listed.setIfInBounds j true) && ordB md l Z t (listed.setIfInBounds k true))))))
def Ord.len : Ord → Nat
  | .done => 0
  | .one _ r => r.len + 1
  | .fre _ r => r.len + 1
  | .two _ _ r _ => r.len + 1
  | .twf _ _ r _ => r.len + 1
  | .thr _ _ _ r _ _ => r.len + 1
/-- both ways are equally long -/
def Ord.even : Ord → Bool
  | .done => true
  | .one _ r => r.even
  | .fre _ r => r.even
  | .two _ _ r s => r.len == s.len && (r.even && s.even)
  | .twf _ _ r s => r.len == s.len && (r.even && s.even)
  | .thr _ _ _ r s t => r.len == s.len && (r.len == t.len && (r.even && (s.even && t.even)))

/-- each order, an operation at a time; C is shown behind each that does not wait for all reads -/
def ordW (P : Program) (ops : Array Oper) (Q : Exit → Act → World → Prop) (C : World → Prop) (l : List Oper) : Ord → Act → World → Prop
  | .done, a, w => Q .normal a w
  | .one i r, a, w => wpList P ops (Exit.then (fun a' w' => C w' ∧ ordW P ops Q C l r a' w') Q) (pick l [i]) a w
  | .fre i r, a, w => wpList P ops (Exit.then (fun a' w' => ordW P ops Q C l r a' w') Q) (pick l [i]) a w
  | .two i j r s, a, w => wpList P ops (Exit.then (fun a' w' => C w' ∧ ordW P ops Q C l r a' w') Q) (pick l [i]) a w ∧ wpList P ops (Exit.then (fun a' w' => C w' ∧ ordW P ops Q C l s a' w') Q) (pick l [j]) a w
  | .twf i j r s, a, w => wpList P ops (Exit.then (fun a' w' => ordW P ops Q C l r a' w') Q) (pick l [i]) a w ∧ wpList P ops (Exit.then (fun a' w' => ordW P ops Q C l s a' w') Q) (pick l [j]) a w
  | .thr i j k r s t, a, w => wpList P ops (Exit.then (fun a' w' => C w' ∧ ordW P ops Q C l r a' w') Q) (pick l [i]) a w ∧ wpList P ops (Exit.then (fun a' w' => C w' ∧ ordW P ops Q C l s a' w') Q) (pick l [j]) a w ∧ wpList P ops (Exit.then (fun a' w' => C w' ∧ ordW P ops Q C l t a' w') Q) (pick l [k]) a w

theorem pick_one {l : List Oper} {i : Nat} {o : Oper} (h : l[i]? = some o) : pick l [i] = [o] := by simp [pick, h]

theorem AnyZ.ord {l : List Oper} : ∀ (T : Ord) (listed : Array Bool) (a : Act) (w : World), ordB md l Z T listed = true → T.even = true → ordW P l.toArray Q C l T a w → AnyZ P md l.toArray Q C Z T.len listed a w := by
  intro T
  induction T with
  | done => intro listed a w h _ hw; exact ⟨List.isEmpty_iff.1 h, hw⟩
  | one i r ih =>
    intro listed a w hB he h
    simp only [ordB, Bool.and_eq_true, beq_iff_eq] at hB
    obtain ⟨h1, h2, h3⟩ := hB
    obtain ⟨o, ho⟩ := Option.isSome_iff_exists.1 h2
    have hoa : l.toArray[i]? = some o := by simpa using ho
    rw [ordW, pick_one ho] at h
    refine ⟨fun hn => by (rw [h1] at hn; cases hn), fun j hj => ?_⟩
    rw [h1] at hj
    obtain rfl : j = i := by simpa using hj
    exact wpOp_mono (fun a' w' hq => ⟨fun _ => hq.1, ih _ a' w' h3 he hq.2⟩) (op_then hoa h)
  | fre i r ih =>
    intro listed a w hB he h
    simp only [ordB, Bool.and_eq_true, beq_iff_eq] at hB
    obtain ⟨h1, h2, h4, h3⟩ := hB
    obtain ⟨o, ho⟩ := Option.isSome_iff_exists.1 h2
    have hoa : l.toArray[i]? = some o := by simpa using ho
    rw [ordW, pick_one ho] at h
    refine ⟨fun hn => by (rw [h1] at hn; cases hn), fun j hj => ?_⟩
    rw [h1] at hj
    obtain rfl : j = i := by simpa using hj
    exact wpOp_mono (fun a' w' hq => ⟨fun hc => (by rw [h4] at hc; cases hc), ih _ a' w' h3 he hq⟩) (op_then hoa h)
  | two i j r s ihr ihs =>
    intro listed a w hB he h
    simp only [ordB, Bool.and_eq_true, beq_iff_eq] at hB
    obtain ⟨h1, h2, h3, h4, h5⟩ := hB
    simp only [Ord.even, Bool.and_eq_true, beq_iff_eq] at he
    obtain ⟨e1, e2, e3⟩ := he
    obtain ⟨o, ho⟩ := Option.isSome_iff_exists.1 h2
    obtain ⟨o', ho'⟩ := Option.isSome_iff_exists.1 h3
    have hoa : l.toArray[i]? = some o := by simpa using ho
    have hoa' : l.toArray[j]? = some o' := by simpa using ho'
    rw [ordW, pick_one ho, pick_one ho'] at h
    refine ⟨fun hn => by (rw [h1] at hn; cases hn), fun k hk => ?_⟩
    rw [h1] at hk
    have hk2 : k = i ∨ k = j := by simpa using hk
    rcases hk2 with rfl | rfl
    · exact wpOp_mono (fun a' w' hq => ⟨fun _ => hq.1, ihr _ a' w' h4 e2 hq.2⟩) (op_then hoa h.1)
    · exact wpOp_mono (fun a' w' hq => ⟨fun _ => hq.1, by rw [e1]; exact ihs _ a' w' h5 e3 hq.2⟩) (op_then hoa' h.2)
  | twf i j r s ihr ihs =>
    intro listed a w hB he h
    simp only [ordB, Bool.and_eq_true, beq_iff_eq] at hB
    obtain ⟨h1, h2, h3, z1, z2, h4, h5⟩ := hB
    simp only [Ord.even, Bool.and_eq_true, beq_iff_eq] at he
    obtain ⟨e1, e2, e3⟩ := he
    obtain ⟨o, ho⟩ := Option.isSome_iff_exists.1 h2
    obtain ⟨o', ho'⟩ := Option.isSome_iff_exists.1 h3
    have hoa : l.toArray[i]? = some o := by simpa using ho
    have hoa' : l.toArray[j]? = some o' := by simpa using ho'
    rw [ordW, pick_one ho, pick_one ho'] at h
    refine ⟨fun hn => by (rw [h1] at hn; cases hn), fun k hk => ?_⟩
    rw [h1] at hk
    have hk2 : k = i ∨ k = j := by simpa using hk
    rcases hk2 with rfl | rfl
    · exact wpOp_mono (fun a' w' hq => ⟨fun hc => (by rw [z1] at hc; cases hc), ihr _ a' w' h4 e2 hq⟩) (op_then hoa h.1)
    · exact wpOp_mono (fun a' w' hq => ⟨fun hc => (by rw [z2] at hc; cases hc), by rw [e1]; exact ihs _ a' w' h5 e3 hq⟩) (op_then hoa' h.2)
  | thr i j k r s t ihr ihs iht =>
    intro listed a w hB he h
    simp only [ordB, Bool.and_eq_true, beq_iff_eq] at hB
    obtain ⟨h1, h2, h3, h3', h4, h5, h6⟩ := hB
    simp only [Ord.even, Bool.and_eq_true, beq_iff_eq] at he
    obtain ⟨e1, e1', e2, e3, e4⟩ := he
    obtain ⟨o, ho⟩ := Option.isSome_iff_exists.1 h2
    obtain ⟨o', ho'⟩ := Option.isSome_iff_exists.1 h3
    obtain ⟨o2, ho2⟩ := Option.isSome_iff_exists.1 h3'
    have hoa : l.toArray[i]? = some o := by simpa using ho
    have hoa' : l.toArray[j]? = some o' := by simpa using ho'
    have hoa2 : l.toArray[k]? = some o2 := by simpa using ho2
    rw [ordW, pick_one ho, pick_one ho', pick_one ho2] at h
    refine ⟨fun hn => by (rw [h1] at hn; cases hn), fun m hk => ?_⟩
    rw [h1] at hk
    have hk2 : m = i ∨ m = j ∨ m = k := by simpa using hk
    rcases hk2 with rfl | rfl | rfl
    · exact wpOp_mono (fun a' w' hq => ⟨fun _ => hq.1, ihr _ a' w' h4 e2 hq.2⟩) (op_then hoa h.1)
    · exact wpOp_mono (fun a' w' hq => ⟨fun _ => hq.1, by rw [e1]; exact ihs _ a' w' h5 e3 hq.2⟩) (op_then hoa' h.2.1)
    · exact wpOp_mono (fun a' w' hq => ⟨fun _ => hq.1, by rw [e1']; exact iht _ a' w' h6 e4 hq.2⟩) (op_then hoa2 h.2.2)

/-- **A REGION THAT DRAWS: ITS READS FIRST (I), THEN ONE OF A FEW ORDERS (T)**; Z: the operations that wait for all reads -/
theorem wp_region_ord {id : Nat} {a : Act} {w : World} {l : List Oper} (I : List Nat) (T : Ord) (Z : List Nat) (hm : P.follows .mixedOrders = true)
    (hB : (Region.noSelect l.toArray && (preZ .any l Z I (Array.replicate l.length false) && (ordB .any l Z T (marked I (Array.replicate l.length false)) && (T.even && decide (T.len + I.length = l.length))))) = true)
    (hQ : ∀ d v c a w, Q (.panic c) (Act.put a d v) w → Q (.panic c) a w) (hC : C w.drew)
    (h : wpQuiet P l.toArray C (fun a' => ordW P l.toArray Q C l T a' w.drew) (pick l I) a) : (Code.region id l.toArray true).wp P Q a w := by
  simp only [Bool.and_eq_true, decide_eq_true_eq] at hB
  obtain ⟨h1, h2, h3, h4, h5⟩ := hB
  refine wp_region_any hm (AnyZ.sound (C := C) (Z := Z) _ _ _ _ ?_)
  have := AnyZ.pre (n := T.len) h1 hQ hC I _ a h2 (wpQuiet_mono' (fun a' ha => AnyZ.ord T _ a' _ h3 h4 ha) _ _ h)
  rw [h5] at this
  simpa using this
end
end Go.Proofs.Ytdmieedfddgmjaa
namespace Go.Proofs.Ytdmieedfddgmjaa
open Go.RowKit

/-- a row of values in a block of its own -/
def OwnV (l : List Value) (a : Option Addr) (bs : List Nat) (w : World) : Prop := (l = [] ∧ bs = []) ∨ ∃ R, a = some ⟨R, 0, none⟩ ∧ bs = [R] ∧ Row w R l.length (fun i => l.getD i undef)
theorem OwnV.frame {l : List Value} {a : Option Addr} {bs : List Nat} {w w' : World} (h : OwnV l a bs w) (hs : w.heap.size ≤ w'.heap.size) (hb : ∀ b, b ∈ bs → b < w.heap.size → w'.heap[b]? = w.heap[b]?) : OwnV l a bs w' := by
  rcases h with h | ⟨R, rfl, rfl, hr⟩
  · exact .inl h
  · exact .inr ⟨R, rfl, rfl, hr.kept hs (hb R (by simp) hr.1)⟩
theorem OwnV.below {l : List Value} {a : Option Addr} {bs : List Nat} {w w' : World} (h : OwnV l a bs w) (hb : Below w.heap.size w w') : OwnV l a bs w' := h.frame hb.size fun b _ hl => hb.block b hl
theorem OwnV.only {S : List Nat} {l : List Value} {a : Option Addr} {bs : List Nat} {w w' : World} (h : OwnV l a bs w) (ho : Only S w w') (hd : ∀ b, b ∈ bs → b ∉ S) : OwnV l a bs w' := h.frame ho.size fun b hb hl => ho.block b hl (hd b hb)
theorem OwnV.lt {l : List Value} {a : Option Addr} {bs : List Nat} {w : World} (h : OwnV l a bs w) : ∀ b, b ∈ bs → b < w.heap.size := by
  rcases h with ⟨_, rfl⟩ | ⟨R, rfl, rfl, hr⟩
  · simp
  · intro b hb; simp at hb; subst hb; exact hr.1
theorem OwnV.rowIn {l : List Value} {a : Option Addr} {bs : List Nat} {w : World} (h : OwnV l a bs w) {p : Nat → Prop} (hp : ∀ b, b ∈ bs → p b) : RowIn p w a l := by
  rcases h with ⟨rfl, _⟩ | ⟨R, rfl, rfl, hr⟩
  · exact .inl rfl
  · exact hr.rowIn (Nat.le_refl _) (fun i v hv => by simp [List.getD_eq_getElem?_getD, hv]) (hp R (by simp))
theorem OwnV.any {l : List Value} {a : Option Addr} {bs : List Nat} {w : World} (h : OwnV l a bs w) : RowIn Any w a l := h.rowIn fun _ _ => trivial

/-- a slice of values of one's own, in blocks from B on -/
def NewV (B : Nat) (l : List Value) (v : Value) (w' : World) : Prop := ∃ a c bs, v = .slice a l.length c ∧ l.length ≤ c ∧ c ≤ maxLen ∧ OwnV l a bs w' ∧ ∀ b, b ∈ bs → B ≤ b
theorem NewV.nil (B : Nat) (a : Option Addr) (c : Nat) (hc : c ≤ maxLen) (w : World) : NewV B [] (.slice a 0 c) w := ⟨a, c, [], rfl, Nat.zero_le _, hc, .inl ⟨rfl, rfl⟩, by simp⟩

/-- what mark writes into a row of n -/
def markV (M : Int → Value) (n : Nat) (k : Int) : List Value := (List.range n).map fun (i : Nat) => M (k + (i : Int))
theorem markV_len (M : Int → Value) (n : Nat) (k : Int) : (markV M n k).length = n := by simp [markV]
theorem markV_at (M : Int → Value) {n i : Nat} (k : Int) (h : i < n) : (markV M n k)[i]? = some (M (k + i)) := by simp [markV, h]
def mkB (k : Int) : Value := .bool (k % 3 == 0)
def mkI (k : Int) : Value := .int .i64 k

end Go.Proofs.Ytdmieedfddgmjaa
namespace Go.Proofs.Ytdmieedfddgmjaa
open Go.RowKit

/-- a row of numbers of one's own that may grow -/
def OwnI (B : Nat) (v : Value) (l : List Int) (w : World) : Prop := w.ownsRow B 3 1 v l.length (l.map (Value.int .i64))
/-- append to nil of n zeros, at the operation -/
theorem wp_app_make {ops : Array Oper} {rest : List Oper} {o : Oper} {a : Act} {Q : Exit → Act → World → Prop} {w : World} (hgd : o.guard = none) (s x : Operand)
    (ho : o.op = .call { callee := .builtin .append, args := #[s, x], argTypes := #[22, 3] }) (n : Nat) (hs : a.eval s = .slice none 0 0) (hx : a.eval x = .int .i64 n) (h0 : 0 < n) (hn : n ≤ 1000000)
    (h : ∀ c Z, n ≤ c → c ≤ maxLen → Array.size Z = c → wpList Try.prog ops Q rest (a.put o.dst (.slice (some ⟨w.heap.size, 0, none⟩) n c)) (w.drew.alloc (.cells Z 3))) : wpList Try.prog ops Q (o :: rest) a w := by
  obtain ⟨i, hi, hz, hz1, hz2⟩ := info_parts ints_info
  have e : (Builtin.append_ #[22, 3] o.type #[.slice none 0 0, .int .i64 n]).run Try.prog w =
      .ok (.slice (some ⟨w.heap.size, 0, none⟩) n (grownCap w n 0 3)) (w.drew.alloc (.cells (Builtin.zeroCells (Value.int .i64 0).cells n ++ Builtin.zeroCells (Value.int .i64 0).cells (grownCap w n 0 3 - n)) 3)) := by
    have k1 : n ≠ 0 := by omega
    have k2 : IntKind.i64.wrap (n : Int) = n := IntWalk.i64_in _ (by omega)
    have k3 : ¬ (9223372036854775807 < (n : Int)) := by omega
    have k4 : ¬ (281474976710656 < Builtin.nextslicecap n 0 * 8) := by rw [nextslicecap_zero h0]; omega
    have k5 : ¬ (281474976710656 < (n : Int) * 8) := by omega
    have k6 : ¬ ((n : Int) < 0) := by omega
    simp [Builtin.append_, run_underlying Try.underlying22, run_underlying Try.underlying3, sizeOf, typeInfo, zeroValue, hi, hz, hz1, hz2, asInt, asIntOf, k1, k2, k3, k4, k5, k6, Question.forced, run_firstCells_none, newRow, grownCap]
  refine wpList_plain hgd fun K hK => ?_
  unfold Oper.wp execOp
  simp only [ho, resolve, invoke, builtin, Sem.run_bind, Sem.run_pure, Result.andThen_ok, List.map_toArray, List.map_cons, List.map_nil, hs, hx, e]
  exact hK _ _ (h _ _ (grownCap_ge w _ 0 _) (grownCap_le_maxLen w _ 0 _ (by unfold maxLen; omega)) (by have := grownCap_ge w n 0 3; simp [size_zeroCells, Value.cells]; omega))
/-- append of a nil slice, at the operation -/
theorem wp_app_nil {ops : Array Oper} {rest : List Oper} {o : Oper} {a : Act} {Q : Exit → Act → World → Prop} {w : World} (hgd : o.guard = none) (s x : Operand)
    (ho : o.op = .call { callee := .builtin .append, args := #[s, x], argTypes := #[22, 22] }) (b : Option Addr) (n c : Nat) (hs : a.eval s = .slice b n c) (hx : a.eval x = .slice none 0 0) (hc : n ≤ c)
    (h : wpList Try.prog ops Q rest (a.put o.dst (.slice b n c)) w) : wpList Try.prog ops Q (o :: rest) a w := by
  obtain ⟨i, hi, hz, hz1, hz2⟩ := info_parts ints_info
  have e : (Builtin.append_ #[22, 22] o.type #[.slice b n c, .slice none 0 0]).run Try.prog w = .ok (.slice b n c) w := by
    cases b with
    | none => simp [Builtin.append_, run_underlying Try.underlying22, sizeOf, typeInfo, hi, hc, Builtin.lenOf, run_firstCells_none]
    | some ad => simp [Builtin.append_, run_underlying Try.underlying22, sizeOf, typeInfo, hi, hc, Builtin.lenOf, run_firstCells_none, storeCells]
  refine wpList_plain hgd fun K hK => ?_
  unfold Oper.wp execOp
  simp only [ho, resolve, invoke, builtin, Sem.run_bind, Sem.run_pure, Result.andThen_ok, List.map_toArray, List.map_cons, List.map_nil, hs, hx, e]
  exact hK _ _ h
/-- append of numbers to a row of one's own, at the operation -/
theorem wp_app_own {ops : Array Oper} {rest : List Oper} {o : Oper} {a : Act} {Q : Exit → Act → World → Prop} {w : World} (hgd : o.guard = none) (s x : Operand)
    (ho : o.op = .call { callee := .builtin .append, args := #[s, x], argTypes := #[22, 22] }) (B : Nat) (v : Value) (acc l : List Int) (ad : Option Addr) (c : Nat) (hs : a.eval s = v) (hx : a.eval x = .slice ad l.length c) (hn : ad = none → c = 0)
    (hv : OwnI B v acc w) (hB : B ≤ w.heap.size) (hl : IntsIn Any w ad l) (h1 : acc.length ≤ 1000000) (h2 : l.length ≤ 1000000)
    (h : ∀ v' w', OwnI B v' (acc ++ l) w' → w.grownBy w' v.ownBlock → wpList Try.prog ops Q rest (a.put o.dst v') w') :
    wpList Try.prog ops Q (o :: rest) a w := by
  cases ad with
  | none =>
    obtain rfl : c = 0 := hn rfl
    have hl0 : l = [] := by
      rcases hl.1 with h0 | ⟨b, o', h0, _⟩
      · simpa using h0
      · cases h0
    subst hl0
    have hsh : ∃ b n c, v = .slice b n c ∧ n ≤ c := by
      rcases hv.2 with ⟨rfl, _⟩ | ⟨g, cap, cur, rfl, _, _, hc, _⟩
      · exact ⟨_, _, _, rfl, Nat.le_refl _⟩
      · exact ⟨_, _, _, rfl, hc⟩
    obtain ⟨b, n, c, rfl, hc⟩ := hsh
    exact wp_app_nil hgd s x ho b n c hs hx hc (h _ _ (by simpa using hv) (World.grownBy.refl _ _))
  | some ad =>
    obtain ⟨ri, hi, hz, hs1, hs2⟩ := info_parts ints_info
    refine wpList_append_own_at _ hgd s x 22 ho B 3 ri (.int .i64 0) 1 8 Try.underlying22 hi hz hs1 hs2 rfl (by omega) v acc.length _ hs hv ad l.length c (l.map (Value.int .i64)) hx (by simp) (fun j u hj => ?_) (fun u hu => ?_) (by simp only [maxLen]; omega) (by omega) hB ?_
    · rcases hl.1 with h0 | ⟨b, o', h1, h2, h3, h4⟩
      · rw [h0] at hj; simp at hj
      · obtain rfl : ad = ⟨b, o', none⟩ := by simpa using h1
        have := h4 j u hj
        have e : Addr.add ⟨b, o', none⟩ j = ⟨b, o' + j, none⟩ := by unfold Addr.add; split <;> simp_all
        rw [e]
        exact this
    · simp at hu
      obtain ⟨n, _, rfl⟩ := hu
      rfl
    · intro v2 w3 hown hgrow _ _
      exact h v2 w3 (by unfold OwnI; rw [List.length_append, List.map_append]; exact hown) hgrow

theorem below_grown {w wr w' : World} {v : Value} {l : List Int} (hb : Below w.heap.size w wr) (hv : OwnI w.heap.size v l wr) (hg : wr.grownBy w' v.ownBlock) : Below w.heap.size w w' :=
  ⟨hg.os.trans hb.os, hg.tape.trans hb.tape, hg.output.trans hb.output, Nat.le_trans hb.size hg.size, fun k hk => by
    rw [hg.block k (Nat.lt_of_lt_of_le hk hb.size) (fun e => by have := (hv.lt k e.symm).1; omega), hb.block k hk]⟩
/-- two rows in a row of slices -/
def Two2 (w : World) (q : Nat) (a b : Option Addr) (l m : List Int) (c d : Nat) : Prop := q < w.heap.size ∧ w.cell? ⟨q, 0, none⟩ = some (.slice a l.length c) ∧ w.cell? ⟨q, 1, none⟩ = some (.slice b m.length d)
def ConPost (l : List Int) (w : World) (e : Ending) (w' : World) : Prop := ∃ v, e = .returned v ∧ OwnI w.heap.size v l w' ∧ Below w.heap.size w w'
def accL (l m : List Int) (j : Nat) : List Int := if j = 0 then [] else if j = 1 then l else l ++ m

end Go.Proofs.Ytdmieedfddgmjaa
namespace Go.Proofs.Ytdmieedfddgmjaa
open Go.RowKit
set_option linter.unusedVariables false

theorem OwnI.row {B : Nat} {v : Value} {l : List Int} {w : World} (h : OwnI B v l w) : (l = [] ∧ v = .slice none 0 0) ∨ ∃ g c, v = .slice (some ⟨g, 0, none⟩) l.length c ∧ B ≤ g ∧ l.length ≤ c ∧ c ≤ maxLen ∧ Row w g l.length (fun i => (l.map (Value.int .i64)).getD i undef) := by
  have h0 := h
  obtain ⟨k1, k2⟩ := h
  rcases k2 with ⟨rfl, hz⟩ | ⟨g, cap, cur, rfl, e2, e3, e4, e5, e6, e7⟩
  · exact .inl ⟨by simpa using hz, rfl⟩
  · have hg := (Array.getElem?_eq_some_iff.1 e3).1
    refine .inr ⟨g, cap, rfl, e2, e4, e5, hg, fun i hi => ?_, fun i => ?_⟩
    · have hi2 : (l.map (Value.int .i64))[i]? = some ((l.map (Value.int .i64)).getD i undef) := by rw [List.getD_eq_getElem?_getD, List.getElem?_eq_getElem (by simpa using hi)]; rfl
      have := World.ownsRow.cells h0 (g := g) rfl i _ hi2
      have e : Addr.add ⟨g, 0, none⟩ i = ⟨g, i, none⟩ := by unfold Addr.add; split <;> simp_all
      rw [e] at this
      exact this
    · simp [World.frozen?, e3]
/-- a row of numbers of one's own, as it is handed back: nil, or as long as it is wide -/
theorem OwnI.clip {B : Nat} {v : Value} {l : List Int} {w : World} (h : OwnI B v l w) (hl : l.length ≤ 1000000) : (l = [] ∧ v = .slice none 0 0) ∨ ∃ g c, v = .slice (some ⟨g, 0, none⟩) l.length c ∧ l.length ≤ c ∧ c ≤ maxLen ∧ NewV B (l.map (Value.int .i64)) (.slice (some ⟨g, 0, none⟩) l.length l.length) w := by
  rcases h.row with h | ⟨g, c, h1, h2, h3, h4, h5⟩
  · exact .inl h
  · have hlm : (l.map (Value.int .i64)).length = l.length := by simp
    exact .inr ⟨g, c, h1, h3, h4, _, l.length, [g], by rw [hlm], by rw [hlm]; exact Nat.le_refl _, by unfold maxLen; omega, .inr ⟨g, rfl, rfl, by rw [hlm]; exact h5⟩, by simpa using h2⟩

theorem OwnI.made (w : World) : OwnI w.heap.size (.slice (some ⟨w.heap.size, 0, none⟩) 0 0) [] (w.alloc (.cells #[] 3)) :=
  World.ownsRow_made (e := 3) (size := 1) (base := w.heap.size) w #[] 0 (Nat.le_refl _) (by simp) (by simp)

end Go.Proofs.Ytdmieedfddgmjaa
namespace Go.Proofs.Ytdmieedfddgmjaa
open Go.RowKit
set_option linter.unusedVariables false
set_option linter.unusedSimpArgs false

/-! ### one step of a tree of orders at a time -/
section
variable {P : Program} {ops : Array Oper} {Q : Exit → Act → World → Prop} {C : World → Prop} {l : List Oper}
theorem ordW_done (a : Act) (w : World) : ordW P ops Q C l .done a w = Q .normal a w := rfl
theorem ordW_one (i : Nat) (r : Ord) (a : Act) (w : World) : ordW P ops Q C l (.one i r) a w = wpList P ops (Exit.then (fun a' w' => C w' ∧ ordW P ops Q C l r a' w') Q) (pick l [i]) a w := rfl
theorem ordW_fre (i : Nat) (r : Ord) (a : Act) (w : World) : ordW P ops Q C l (.fre i r) a w = wpList P ops (Exit.then (fun a' w' => ordW P ops Q C l r a' w') Q) (pick l [i]) a w := rfl
theorem ordW_two (i j : Nat) (r s : Ord) (a : Act) (w : World) : ordW P ops Q C l (.two i j r s) a w = (wpList P ops (Exit.then (fun a' w' => C w' ∧ ordW P ops Q C l r a' w') Q) (pick l [i]) a w ∧ wpList P ops (Exit.then (fun a' w' => C w' ∧ ordW P ops Q C l s a' w') Q) (pick l [j]) a w) := rfl
theorem ordW_thr (i j k : Nat) (r s t : Ord) (a : Act) (w : World) : ordW P ops Q C l (.thr i j k r s t) a w = (wpList P ops (Exit.then (fun a' w' => C w' ∧ ordW P ops Q C l r a' w') Q) (pick l [i]) a w ∧ wpList P ops (Exit.then (fun a' w' => C w' ∧ ordW P ops Q C l s a' w') Q) (pick l [j]) a w ∧ wpList P ops (Exit.then (fun a' w' => C w' ∧ ordW P ops Q C l t a' w') Q) (pick l [k]) a w) := rfl
end

/-! ### worlds in which some blocks are as they were: 'w.overP S x' -/
structure KeepP (S : List Nat) (w w' : World) : Prop where
  size : w.heap.size ≤ w'.heap.size
  block : ∀ b, b ∈ S → b < w.heap.size → w'.heap[b]? = w.heap[b]?
def OverP (w : World) (S : List Nat) : Type := { w' : World // KeepP S w w' }
def _root_.Go.World.overP (w : World) (S : List Nat) (x : OverP w S) : World := x.1
instance overP_some (w : World) (S : List Nat) : Nonempty (OverP w S) := ⟨⟨w, Nat.le_refl _, fun _ _ _ => rfl⟩⟩
theorem KeepP.ex {S : List Nat} {w w' : World} (h : KeepP S w w') : ∃ x, w' = w.overP S x := ⟨⟨w', h⟩, rfl⟩
@[go_sem] theorem overP_cell (w : World) (S : List Nat) (x : OverP w S) (b o : Nat) (h : b ∈ S) (hb : b < w.heap.size) : (w.overP S x).cell? ⟨b, o, none⟩ = w.cell? ⟨b, o, none⟩ := World.cell?_of_block (w := w) (x.2.block b h hb)
theorem KeepP.refl (S : List Nat) (w : World) : KeepP S w w := ⟨Nat.le_refl _, fun _ _ _ => rfl⟩
theorem KeepP.drew {S : List Nat} {w w' : World} (h : KeepP S w w') : KeepP S w w'.drew := ⟨h.size, h.block⟩
theorem KeepP.trans {S : List Nat} {a b c : World} (h : KeepP S a b) (k : KeepP S b c) : KeepP S a c := ⟨Nat.le_trans h.size k.size, fun q h1 h2 => (k.block q h1 (Nat.lt_of_lt_of_le h2 h.size)).trans (h.block q h1 h2)⟩
theorem KeepP.below {S : List Nat} {w w' : World} (h : Below w.heap.size w w') : KeepP S w w' := ⟨h.size, fun b _ hb => h.block b hb⟩
theorem KeepP.but {S : List Nat} {w w' : World} {R : Nat} (h : But w R w') (hR : R ∉ S) : KeepP S w w' := ⟨h.size, fun b hS hb => h.block b hb (fun e => hR (e ▸ hS))⟩
theorem KeepP.grown {S : List Nat} {w w' : World} {g : Option Nat} (h : w.grownBy w' g) (hg : ∀ b, b ∈ S → g ≠ some b) : KeepP S w w' := ⟨h.size, fun b hS hb => h.block b hb (fun e => hg b hS e.symm)⟩
theorem KeepP.set {S : List Nat} {w w' : World} (h : KeepP S w w') {a : Addr} (ha : a.block ∉ S) (v : Value) : KeepP S w (w'.setCell a v) := ⟨by simpa using h.size, fun b hS hb => by rw [Below.heap_setCell _ _ _ _ (fun e => ha (e ▸ hS))]; exact h.block b hS hb⟩
attribute [irreducible] World.overP OverP

/-! ### a growing row of numbers, in other worlds -/
theorem OwnI.keep {B : Nat} {v : Value} {l : List Int} {w w' : World} (h : OwnI B v l w) (hb : ∀ g, v.ownBlock = some g → B ≤ g → g < w.heap.size → w'.heap[g]? = w.heap[g]?) : OwnI B v l w' := by
  refine ⟨h.1, ?_⟩
  rcases h.2 with h2 | ⟨g, cap, cur, rfl, e2, e3, e4⟩
  · exact .inl h2
  · exact .inr ⟨g, cap, cur, rfl, e2, (hb g rfl e2 (Array.getElem?_eq_some_iff.1 e3).1).trans e3, e4⟩
theorem OwnI.next {B : Nat} {v : Value} {l : List Int} {w w' : World} (h : OwnI B v l w) (hb : Below w.heap.size w w') : OwnI B v l w' := h.keep fun g _ _ hl => hb.block g hl
theorem OwnI.but {B R : Nat} {v : Value} {l : List Int} {w w' : World} (h : OwnI B v l w) (hb : But w R w') (hR : R < B) : OwnI B v l w' := h.keep fun g _ h1 hl => hb.block g hl (by omega)
theorem OwnI.mono {B B' : Nat} {v : Value} {l : List Int} {w : World} (h : OwnI B v l w) (hB : B' ≤ B) : OwnI B' v l w := by
  refine ⟨h.1, ?_⟩
  rcases h.2 with h2 | ⟨g, cap, cur, e1, e2, e3⟩
  · exact .inl h2
  · exact .inr ⟨g, cap, cur, e1, Nat.le_trans hB e2, e3⟩
theorem OwnI.blk {B : Nat} {v : Value} {l : List Int} {w : World} (h : OwnI B v l w) : ∀ g, v.ownBlock = some g → B ≤ g ∧ g < w.heap.size := by
  intro g hg
  rcases h.2 with ⟨rfl, _⟩ | ⟨g', cap, cur, rfl, e2, e3, e4⟩
  · simp [Value.ownBlock] at hg
  · simp [Value.ownBlock] at hg
    subst hg
    exact ⟨e2, (Array.getElem?_eq_some_iff.1 e3).1⟩
/-- but for a source's block R and blocks from B on, all is as it was; a row of one's own has grown -/
theorem But.own {B R : Nat} {w wr w' : World} {v : Value} {l : List Int} (hb : But w R wr) (hv : OwnI B v l wr) (hB : w.heap.size ≤ B) (hg : wr.grownBy w' v.ownBlock) : But w R w' :=
  ⟨hg.os.trans hb.os, hg.tape.trans hb.tape, hg.output.trans hb.output, Nat.le_trans hb.size hg.size, fun k hk hd => by
    rw [hg.block k (Nat.lt_of_lt_of_le hk hb.size) (fun e => by have := (hv.blk k e.symm).1; omega), hb.block k hk hd]⟩
theorem below_own {B : Nat} {w wr w' : World} {v : Value} {l : List Int} (hb : Below w.heap.size w wr) (hv : OwnI B v l wr) (hB : w.heap.size ≤ B) (hg : wr.grownBy w' v.ownBlock) : Below w.heap.size w w' :=
  ⟨hg.os.trans hb.os, hg.tape.trans hb.tape, hg.output.trans hb.output, Nat.le_trans hb.size hg.size, fun k hk => by
    rw [hg.block k (Nat.lt_of_lt_of_le hk hb.size) (fun e => by have := (hv.blk k e.symm).1; omega), hb.block k hk]⟩
theorem OwnI.shape {B : Nat} {v : Value} {l : List Int} {w : World} (h : OwnI B v l w) : ∃ a c, v = .slice a l.length c ∧ l.length ≤ c ∧ c ≤ maxLen ∧ (a = none → c = 0) := by
  rcases h.row with ⟨rfl, rfl⟩ | ⟨g, c, rfl, h1, h2, h3, h4⟩
  · exact ⟨none, 0, rfl, Nat.le_refl _, by unfold maxLen; omega, fun _ => rfl⟩
  · exact ⟨_, c, rfl, h2, h3, fun e => by cases e⟩
theorem OwnI.ints2 {B : Nat} {a : Option Addr} {n c : Nat} {l : List Int} {w : World} (h : OwnI B (.slice a n c) l w) (hi : ∀ n, n ∈ l → i64 n) : IntsIn Any w a l := by
  rcases h.row with ⟨rfl, _⟩ | ⟨g, c', e, h1, h2, h3, h4⟩
  · exact ⟨.inl rfl, hi⟩
  · simp at e
    obtain ⟨rfl, _, _⟩ := e
    refine ⟨.inr ⟨g, 0, rfl, trivial, h4.1, fun i v hv => ?_⟩, hi⟩
    have hlt : i < l.length := by have := (List.getElem?_eq_some_iff.1 hv).1; simpa using this
    rw [Nat.zero_add, h4.2.1 i hlt]
    show some ((l.map (Value.int .i64)).getD i undef) = _
    rw [List.getD_eq_getElem?_getD, hv]; rfl
theorem OwnI.set {B : Nat} {v : Value} {l : List Int} {w : World} (h : OwnI B v l w) {a : Addr} (ha : ∀ g, v.ownBlock = some g → B ≤ g → g ≠ a.block) (u : Value) : OwnI B v l (w.setCell a u) :=
  h.keep fun g h1 h2 _ => Below.heap_setCell _ _ _ _ (ha g h1 h2)

theorem OwnI.grow {B g g' n c : Nat} {l : List Int} {w w' : World} (h : OwnI B (.slice (some ⟨g, 0, none⟩) n c) l w) (hg : w.grownBy w' (some g')) (hne : g ≠ g') : OwnI B (.slice (some ⟨g, 0, none⟩) n c) l w' :=
  h.keep fun b h1 _ h3 => hg.block b h3 (fun e => by simp [Value.ownBlock] at h1; simp at e; omega)
/-- append to an empty row just made, at the operation: the clone of a row; where it lies -/
theorem wp_app_clone {ops : Array Oper} {rest : List Oper} {o : Oper} {a : Act} {Q : Exit → Act → World → Prop} {w : World} (hgd : o.guard = none) (s x : Operand)
    (ho : o.op = .call { callee := .builtin .append, args := #[s, x], argTypes := #[22, 22] }) (g : Nat) (l : List Int) (ad : Option Addr) (c : Nat) (hs : a.eval s = .slice (some ⟨g, 0, none⟩) 0 0) (hx : a.eval x = .slice ad l.length c)
    (hv : OwnI g (.slice (some ⟨g, 0, none⟩) 0 0) [] w) (hB : g < w.heap.size) (hn : ad = none → c = 0) (hl : IntsIn Any w ad l) (h2 : l.length ≤ 1000000)
    (h : ∀ g' c' w', (g' = g ∨ g' = w.heap.size) → OwnI g (.slice (some ⟨g', 0, none⟩) l.length c') l w' → w.grownBy w' (some g) → g' < w'.heap.size → wpList Try.prog ops Q rest (a.put o.dst (.slice (some ⟨g', 0, none⟩) l.length c')) w') :
    wpList Try.prog ops Q (o :: rest) a w := by
  cases ad with
  | none =>
    obtain rfl : c = 0 := hn rfl
    have hl0 : l = [] := by
      rcases hl.1 with h0 | ⟨b, o', h0, _⟩
      · simpa using h0
      · cases h0
    subst hl0
    exact wp_app_nil hgd s x ho (some ⟨g, 0, none⟩) 0 0 hs hx (Nat.le_refl _) (h g 0 w (.inl rfl) hv (World.grownBy.refl _ _) hB)
  | some ad =>
    obtain ⟨ri, hi, hz, hs1, hs2⟩ := info_parts ints_info
    refine wpList_append_own_at _ hgd s x 22 ho g 3 ri (.int .i64 0) 1 8 Try.underlying22 hi hz hs1 hs2 rfl (by omega) _ 0 _ hs hv ad l.length c (l.map (Value.int .i64)) hx (by simp) (fun j u hj => ?_) (fun u hu => ?_) (by simp only [maxLen]; omega) (by omega) (Nat.le_of_lt hB) ?_
    · rcases hl.1 with h0 | ⟨b, o', h1, h2, h3, h4⟩
      · rw [h0] at hj; simp at hj
      · obtain rfl : ad = ⟨b, o', none⟩ := by simpa using h1
        have := h4 j u hj
        have e : Addr.add ⟨b, o', none⟩ j = ⟨b, o' + j, none⟩ := by unfold Addr.add; split <;> simp_all
        rw [e]
        exact this
    · simp at hu
      obtain ⟨n, _, rfl⟩ := hu
      rfl
    · intro v2 w3 hown hgrow hnil hblk
      have ho2 : OwnI g v2 l w3 := by unfold OwnI; simpa using hown
      rcases ho2.row with ⟨rfl, rfl⟩ | ⟨g', c', rfl, h1, h3, h4, h5⟩
      · simp at hnil
      · exact h g' c' w3 (by simpa [Value.ownBlock] using hblk) ho2 (by simpa [Value.ownBlock] using hgrow) h5.1

/-- append of numbers to a row of one's own, at the operation; where the result lies -/
theorem wp_app_own2 {ops : Array Oper} {rest : List Oper} {o : Oper} {a : Act} {Q : Exit → Act → World → Prop} {w : World} (hgd : o.guard = none) (s x : Operand)
    (ho : o.op = .call { callee := .builtin .append, args := #[s, x], argTypes := #[22, 22] }) (B : Nat) (v : Value) (acc l : List Int) (ad : Option Addr) (c : Nat) (hs : a.eval s = v) (hx : a.eval x = .slice ad l.length c) (hn : ad = none → c = 0)
    (hv : OwnI B v acc w) (hB : B ≤ w.heap.size) (hl : IntsIn Any w ad l) (h1 : acc.length ≤ 1000000) (h2 : l.length ≤ 1000000)
    (h : ∀ v' w', OwnI B v' (acc ++ l) w' → w.grownBy w' v.ownBlock → (v'.ownBlock = v.ownBlock ∨ v'.ownBlock = some w.heap.size) → wpList Try.prog ops Q rest (a.put o.dst v') w') :
    wpList Try.prog ops Q (o :: rest) a w := by
  cases ad with
  | none =>
    obtain rfl : c = 0 := hn rfl
    have hl0 : l = [] := by
      rcases hl.1 with h0 | ⟨b, o', h0, _⟩
      · simpa using h0
      · cases h0
    subst hl0
    have hsh : ∃ b n c, v = .slice b n c ∧ n ≤ c := by
      rcases hv.2 with ⟨rfl, _⟩ | ⟨g, cap, cur, rfl, _, _, hc, _⟩
      · exact ⟨_, _, _, rfl, Nat.le_refl _⟩
      · exact ⟨_, _, _, rfl, hc⟩
    obtain ⟨b, n, c, rfl, hc⟩ := hsh
    exact wp_app_nil hgd s x ho b n c hs hx hc (h _ _ (by simpa using hv) (World.grownBy.refl _ _) (.inl rfl))
  | some ad =>
    obtain ⟨ri, hi, hz, hs1, hs2⟩ := info_parts ints_info
    refine wpList_append_own_at _ hgd s x 22 ho B 3 ri (.int .i64 0) 1 8 Try.underlying22 hi hz hs1 hs2 rfl (by omega) v acc.length _ hs hv ad l.length c (l.map (Value.int .i64)) hx (by simp) (fun j u hj => ?_) (fun u hu => ?_) (by simp only [maxLen]; omega) (by omega) hB ?_
    · rcases hl.1 with h0 | ⟨b, o', h1, h2, h3, h4⟩
      · rw [h0] at hj; simp at hj
      · obtain rfl : ad = ⟨b, o', none⟩ := by simpa using h1
        have := h4 j u hj
        have e : Addr.add ⟨b, o', none⟩ j = ⟨b, o' + j, none⟩ := by unfold Addr.add; split <;> simp_all
        rw [e]
        exact this
    · simp at hu
      obtain ⟨n, _, rfl⟩ := hu
      rfl
    · intro v2 w3 hown hgrow _ hblk
      exact h v2 w3 (by unfold OwnI; rw [List.length_append, List.map_append]; exact hown) hgrow hblk

/-- a variable of two slices -/
abbrev BoxP (w : World) (B : Nat) (a b : Value) : Prop := B < w.heap.size ∧ w.cell? ⟨B, 0, none⟩ = some a ∧ w.cell? ⟨B, 1, none⟩ = some b ∧ w.frozen? ⟨B, 0, none⟩ = false ∧ w.frozen? ⟨B, 1, none⟩ = false
/-- two clones of rows, in a variable: all in new memory, each in a block of its own -/
structure Cl2 (W : World) (s l : List Int) (O : Nat) (vs vl : Value) (w : World) : Prop where
  own : OwnI W.heap.size vs s w
  own2 : OwnI W.heap.size vl l w
  box : BoxP w O vs vl
  new : W.heap.size ≤ O
  ne1 : ∀ g, vs.ownBlock = some g → g ≠ O
  ne2 : ∀ g, vl.ownBlock = some g → g ≠ O
  ne : ∀ g, vs.ownBlock = some g → vl.ownBlock ≠ some g
  below : Below W.heap.size W w
theorem boxp_next {w w' : World} (h : Below w.heap.size w w') {B : Nat} {a b : Value} (hb : BoxP w B a b) : BoxP w' B a b :=
  ⟨Nat.lt_of_lt_of_le hb.1 h.size, by rw [h.cell (p := ⟨B, 0, none⟩) hb.1]; exact hb.2.1, by rw [h.cell (p := ⟨B, 1, none⟩) hb.1]; exact hb.2.2.1,
    by rw [h.frozen (p := ⟨B, 0, none⟩) hb.1]; exact hb.2.2.2.1, by rw [h.frozen (p := ⟨B, 1, none⟩) hb.1]; exact hb.2.2.2.2⟩
theorem boxp_at {w : World} {B : Nat} {a b : Value} {t : TypeId} (h : B = w.heap.size) : BoxP (w.alloc (.cells #[a, b] t)) B a b := by subst h; exact ⟨by simp, by simp, by simp, by simp, by simp⟩
theorem boxp_keep {w w' : World} {B : Nat} {a b : Value} (hs : w.heap.size ≤ w'.heap.size) (h : w'.heap[B]? = w.heap[B]?) (hb : BoxP w B a b) : BoxP w' B a b :=
  ⟨Nat.lt_of_lt_of_le hb.1 hs, by rw [World.cell?_of_block (w := w) (a := ⟨B, 0, none⟩) h]; exact hb.2.1, by rw [World.cell?_of_block (w := w) (a := ⟨B, 1, none⟩) h]; exact hb.2.2.1,
    by rw [World.frozen?_of_block (w := w) (a := ⟨B, 0, none⟩) h]; exact hb.2.2.2.1, by rw [World.frozen?_of_block (w := w) (a := ⟨B, 1, none⟩) h]; exact hb.2.2.2.2⟩
theorem boxp_grown {w w' : World} {g B : Nat} {a b : Value} (h : w.grownBy w' (some g)) (hd : B ≠ g) (hb : BoxP w B a b) : BoxP w' B a b := boxp_keep h.size (h.block B hb.1 (fun e => hd (Option.some.inj e))) hb
theorem boxp_but {w w' : World} {D : Nat} (h : But w D w') {B : Nat} {a b : Value} (hd : B ≠ D) (hb : BoxP w B a b) : BoxP w' B a b := boxp_keep h.size (h.block B hb.1 hd) hb
theorem boxp_set0 {w : World} {B : Nat} {a b : Value} (h : BoxP w B a b) (v : Value) : BoxP (w.setCell ⟨B, 0, none⟩ v) B v b :=
  ⟨by simpa using h.1, World.cell?_setCell_same _ _ _ h.2.1, by rw [World.cell?_setCell_other _ _ _ _ (by simp)]; exact h.2.2.1, by simpa using h.2.2.2.1, by simpa using h.2.2.2.2⟩
theorem boxp_set1 {w : World} {B : Nat} {a b : Value} (h : BoxP w B a b) (v : Value) : BoxP (w.setCell ⟨B, 1, none⟩ v) B a v :=
  ⟨by simpa using h.1, by rw [World.cell?_setCell_other _ _ _ _ (by simp)]; exact h.2.1, World.cell?_setCell_same _ _ _ h.2.2.1, by simpa using h.2.2.2.1, by simpa using h.2.2.2.2⟩
theorem boxp_set {w : World} {B : Nat} {a b : Value} (h : BoxP w B a b) {p : Addr} (hd : B ≠ p.block) (v : Value) : BoxP (w.setCell p v) B a b := boxp_keep (by simp) (Below.heap_setCell _ _ _ _ hd) h
theorem Cl2.mk2 {W w : World} {s l : List Int} {O g1 g2 c1 c2 n1 n2 b1 b2 : Nat} {a b : Value} (h1 : OwnI b1 (.slice (some ⟨g1, 0, none⟩) n1 c1) s w) (h2 : OwnI b2 (.slice (some ⟨g2, 0, none⟩) n2 c2) l w) (hb : BoxP w O a b) (k1 : W.heap.size ≤ b1) (k2 : W.heap.size ≤ b2) (kO : W.heap.size ≤ O) (e1 : g1 ≠ O) (e2 : g2 ≠ O) (e : g1 ≠ g2) (hB : Below W.heap.size W w) :
    Cl2 W s l O (.slice (some ⟨g1, 0, none⟩) n1 c1) (.slice (some ⟨g2, 0, none⟩) n2 c2) ((w.setCell ⟨O, 0, none⟩ (.slice (some ⟨g1, 0, none⟩) n1 c1)).setCell ⟨O, 1, none⟩ (.slice (some ⟨g2, 0, none⟩) n2 c2)) where
  own := ((h1.set (fun g h _ => by simp [Value.ownBlock] at h; subst h; exact e1) _).set (fun g h _ => by simp [Value.ownBlock] at h; subst h; exact e1) _).mono k1
  own2 := ((h2.set (fun g h _ => by simp [Value.ownBlock] at h; subst h; exact e2) _).set (fun g h _ => by simp [Value.ownBlock] at h; subst h; exact e2) _).mono k2
  box := boxp_set1 (boxp_set0 hb _) _
  new := kO
  ne1 := fun g h => by simp [Value.ownBlock] at h; subst h; exact e1
  ne2 := fun g h => by simp [Value.ownBlock] at h; subst h; exact e2
  ne := fun g h h' => by simp [Value.ownBlock] at h h'; omega
  below := (hB.setCell kO _).setCell kO _
end Go.Proofs.Ytdmieedfddgmjaa
