/- Joined texts (SemPlain, Fix5, Fix4, Fix3, Fix2): contracts and plain laws. Conditions: those of each theorem. -/
import Derived.Test.YtkjnmkjdooebmaaJW2
import Derived.Test.YtkjnmkjdooebmaaJW7
import Derived.Test.YtkjnmkjdooebmaaJW3
set_option linter.unusedVariables false
set_option linter.unusedSimpArgs false
namespace Go.Proofs.Ytkjnmkjdooebmaa

theorem sem1 (w : Nat → Int) (v : Int) (l : List Tr) : sem w (.mk 1 v l) = fun _ => true := by simp [sem, semN]
theorem sem2 (w : Nat → Int) (v : Int) (l : List Tr) : sem w (.mk 2 v l) = fun i => bit (w i) v := by simp [sem, semN]
theorem sem3 (w : Nat → Int) (v : Int) (a : Tr) : sem w (.mk 3 v [a]) = fun i => !sem w a i := by simp [sem, semL, semN]
theorem sem4 (w : Nat → Int) (v : Int) (a b : Tr) : sem w (.mk 4 v [a, b]) = fun i => sem w a i && sem w b i := by simp [sem, semL, semN]
theorem sem5 (w : Nat → Int) (v : Int) (a b : Tr) : sem w (.mk 5 v [a, b]) = fun i => sem w a i || sem w b i := by simp [sem, semL, semN]
theorem sem6 (w : Nat → Int) (v : Int) (a : Tr) : sem w (.mk 6 v [a]) = fun i => sem w a (i + 1) := by simp [sem, semL, semN]
theorem sem7 (w : Nat → Int) (v : Int) (a b : Tr) : sem w (.mk 7 v [a, b]) = unt (sem w a) (sem w b) := by simp [sem, semL, semN]
theorem sem8 (w : Nat → Int) (v : Int) (a b : Tr) : sem w (.mk 8 v [a, b]) = rls (sem w a) (sem w b) := by simp [sem, semL, semN]
theorem sem9 (w : Nat → Int) (v : Int) (a : Tr) : sem w (.mk 9 v [a]) = unt (fun _ => true) (sem w a) := by simp [sem, semL, semN]
theorem sem10 (w : Nat → Int) (v : Int) (a : Tr) : sem w (.mk 10 v [a]) = rls (fun _ => false) (sem w a) := by simp [sem, semL, semN]

theorem rls_not (a b : Nat → Bool) : rls (fun i => !a i) (fun i => !b i) = fun i => !unt a b i := by
  funext i; simp [rls]
theorem unt_not (a b : Nat → Bool) : unt (fun i => !a i) (fun i => !b i) = fun i => !rls a b i := by
  funext i; simp [rls]

theorem sem_nf (w : Nat → Int) : ∀ (t : Tr) (n : Nat) (neg : Bool), formL.shape t n = true → sem w (nfT t neg) = fun i => sem w t i != neg := Tr.ind fun k v kids ih => by
  intro n neg hs
  obtain ⟨m, h1, h2, h3, h4, h5, h6, h7⟩ := formL.shape_mk hs
  rw [formL_K] at h3
  rw [formL_ar] at h6
  by_cases k0 : k = 1 ∨ k = 2
  · obtain rfl := len0 (by rw [h6, if_pos k0])
    rcases k0 with rfl | rfl <;> cases neg <;> simp [nfT, nfNode, sem1, sem2, sem3]
  by_cases k2 : k = 4 ∨ k = 5 ∨ k = 7 ∨ k = 8
  · obtain ⟨a, b, rfl⟩ := len2 (by rw [h6, if_neg k0, if_pos k2])
    have ha := ih a (by simp) m neg (h7 a (by simp))
    have hb := ih b (by simp) m neg (h7 b (by simp))
    cases neg
    · have ha' : sem w (nfT a false) = sem w a := by rw [ha]; funext i; simp
      have hb' : sem w (nfT b false) = sem w b := by rw [hb]; funext i; simp
      rcases k2 with rfl | rfl | rfl | rfl <;> simp [nfT, nfL, nfNode, sem4, sem5, sem7, sem8, ha', hb']
    · have ha' : sem w (nfT a true) = fun i => !sem w a i := by rw [ha]; funext i; simp
      have hb' : sem w (nfT b true) = fun i => !sem w b i := by rw [hb]; funext i; simp
      rcases k2 with rfl | rfl | rfl | rfl <;> simp [nfT, nfL, nfNode, dualK, sem4, sem5, sem7, sem8, ha', hb', rls_not, unt_not]
  obtain ⟨a, rfl⟩ := len1 (by rw [h6, if_neg k0, if_neg k2])
  have ha := fun ng => ih a (by simp) m ng (h7 a (by simp))
  have ha1 : sem w (nfT a false) = sem w a := by rw [ha]; funext i; simp
  have ha2 : sem w (nfT a true) = fun i => !sem w a i := by rw [ha]; funext i; simp
  have e1 : sem w truT = fun _ => true := sem1 ..
  have e2 : sem w flsT = fun _ => false := by rw [flsT, sem3, e1]; rfl
  have r1 := rls_not (fun _ => true) (sem w a)
  have r2 := unt_not (fun _ => false) (sem w a)
  simp only [Bool.not_true, Bool.not_false] at r1 r2
  have hk : k = 3 ∨ k = 6 ∨ k = 9 ∨ k = 10 := by omega
  rcases hk with rfl | rfl | rfl | rfl <;> cases neg <;> simp [nfT, nfL, nfNode, sem3, sem6, sem7, sem8, sem9, sem10, ha1, ha2, e1, e2, r1, r2]

/-! ### suffixes -/
def shf (k : Nat) (f : Nat → Bool) : Nat → Bool := fun i => f (i + k)
theorem unt_shf (k : Nat) (a b : Nat → Bool) : unt (shf k a) (shf k b) = shf k (unt a b) := by
  funext i
  simp only [shf, unt, show ∀ j, i + j + k = i + k + j from fun j => by omega]
theorem rls_shf (k : Nat) (a b : Nat → Bool) : rls (shf k a) (shf k b) = shf k (rls a b) := by
  funext i
  have := congrFun (unt_shf k (fun j => !a j) (fun j => !b j)) i
  exact congrArg (fun x => !x) this
theorem semN_shf (w : Nat → Int) (k v : Int) (l : List (Nat → Bool)) (n : Nat) : semN (fun i => w (i + n)) k v (l.map (shf n)) = shf n (semN w k v l) := by
  have hz : (fun _ => false : Nat → Bool) = shf n (fun _ => false) := rfl
  have ho : (fun _ => true : Nat → Bool) = shf n (fun _ => true) := rfl
  have hg : ∀ j, (l.map (shf n)).getD j (fun _ => false) = shf n (l.getD j (fun _ => false)) := fun j => by
    rw [List.getD_eq_getElem?_getD, List.getD_eq_getElem?_getD, List.getElem?_map]
    cases l[j]? <;> rfl
  unfold semN
  rw [hg 0, hg 1]
  repeat' split
  all_goals first
    | rfl
    | exact unt_shf n _ _
    | exact rls_shf n _ _
    | exact unt_shf n (fun _ => true) _
    | exact rls_shf n (fun _ => false) _
    | (funext i; simp only [shf]; rw [show i + 1 + n = i + n + 1 by omega])
mutual
theorem sem_shf (w : Nat → Int) (n : Nat) : ∀ t, sem (fun i => w (i + n)) t = shf n (sem w t)
  | .mk k v kids => by rw [sem, sem, semL_shf w n kids, semN_shf]
theorem semL_shf (w : Nat → Int) (n : Nat) : ∀ l, semL (fun i => w (i + n)) l = (semL w l).map (shf n)
  | [] => rfl
  | t :: ts => by rw [semL, semL, sem_shf w n t, semL_shf w n ts]; rfl
end

/-- what always holds holds later; what comes later comes -/
theorem always_later {f : Nat → Bool} : ∀ (k i : Nat), rls (fun _ => false) f i = true → rls (fun _ => false) f (i + k) = true
  | 0, i, h => h
  | k + 1, i, h => by
    have := always_later k i h
    rw [rls_step] at this
    simp only [Bool.false_or, Bool.and_eq_true] at this
    rw [show i + (k + 1) = i + k + 1 by omega]
    exact this.2
theorem later_soon {f : Nat → Bool} : ∀ (k i : Nat), unt (fun _ => true) f (i + k) = true → unt (fun _ => true) f i = true
  | 0, i, h => h
  | k + 1, i, h => by
    refine later_soon k i ?_
    rw [unt_step, show i + k + 1 = i + (k + 1) by omega, h]
    simp
theorem ev_iff {f : Nat → Bool} {i : Nat} : unt (fun _ => true) f i = true ↔ ∃ j, f (i + j) = true := by
  rw [unt, dec_iff]
  exact ⟨fun ⟨j, h, _⟩ => ⟨j, h⟩, fun ⟨j, h⟩ => ⟨j, h, fun _ _ => rfl⟩⟩
theorem al_iff {f : Nat → Bool} {i : Nat} : rls (fun _ => false) f i = true ↔ ∀ j, f (i + j) = true := by
  have : rls (fun _ => false) f i = !unt (fun _ => true) (fun j => !f j) i := rfl
  rw [this, Bool.not_eq_true', ← Bool.not_eq_true, ev_iff]
  constructor
  · intro h j
    cases e : f (i + j) with
    | true => rfl
    | false => exact absurd ⟨j, by rw [e]; rfl⟩ h
  · rintro h ⟨j, hj⟩
    rw [h j] at hj
    cases hj

/-! ### a lasso's loop decides -/
def oddI (n : Int) : Bool := n % 2 == 1
theorem wordOf_loop (stem loop : List Int) (i : Nat) (_ : 0 < loop.length) : wordOf stem loop (stem.length + i) = loop.getD (i % loop.length) 0 := by
  unfold wordOf
  rw [if_neg (by omega), show stem.length + i - stem.length = i by omega]
theorem getD_mem {l : List Int} {i : Nat} (h : i < l.length) : l.getD i 0 ∈ l := by
  rw [List.getD_eq_getElem?_getD, List.getElem?_eq_getElem h]; exact List.getElem_mem h
theorem bit0 (n : Int) : bit n 0 = oddI n := by simp [bit, oddI]
theorem often_loop (stem loop : List Int) (h : 0 < loop.length) : rls (fun _ => false) (unt (fun _ => true) (fun i => bit (wordOf stem loop i) 0)) 0 = loop.any oddI := by
  rw [Bool.eq_iff_iff, al_iff, List.any_eq_true]
  constructor
  · intro hh
    obtain ⟨j, hj⟩ := ev_iff.1 (hh stem.length)
    rw [Nat.zero_add, wordOf_loop _ _ _ h, bit0] at hj
    exact ⟨_, getD_mem (Nat.mod_lt _ h), hj⟩
  · rintro ⟨x, hx, ho⟩ i
    obtain ⟨m, hm, rfl⟩ := List.getElem_of_mem hx
    refine ev_iff.2 ⟨stem.length + m + i * (loop.length - 1), ?_⟩
    have e : 0 + i + (stem.length + m + i * (loop.length - 1)) = stem.length + (m + i * loop.length) := by
      obtain ⟨q, hq⟩ : ∃ q, loop.length = q + 1 := ⟨loop.length - 1, by omega⟩
      rw [hq, Nat.add_sub_cancel, Nat.mul_add, Nat.mul_one]; omega
    rw [e, wordOf_loop _ _ _ h, bit0, Nat.add_mul_mod_self_right, Nat.mod_eq_of_lt hm, List.getD_eq_getElem?_getD, List.getElem?_eq_getElem hm]
    exact ho
theorem stays_loop (stem loop : List Int) (h : 0 < loop.length) : unt (fun _ => true) (rls (fun _ => false) (fun i => bit (wordOf stem loop i) 0)) 0 = loop.all oddI := by
  rw [Bool.eq_iff_iff, ev_iff, List.all_eq_true]
  constructor
  · rintro ⟨j, hj⟩ x hx
    rw [al_iff] at hj
    obtain ⟨m, hm, rfl⟩ := List.getElem_of_mem hx
    have := hj (stem.length + m + j * (loop.length - 1))
    have e : 0 + j + (stem.length + m + j * (loop.length - 1)) = stem.length + (m + j * loop.length) := by
      obtain ⟨q, hq⟩ : ∃ q, loop.length = q + 1 := ⟨loop.length - 1, by omega⟩
      rw [hq, Nat.add_sub_cancel, Nat.mul_add, Nat.mul_one]; omega
    rw [e, wordOf_loop _ _ _ h, bit0, Nat.add_mul_mod_self_right, Nat.mod_eq_of_lt hm, List.getD_eq_getElem?_getD, List.getElem?_eq_getElem hm] at this
    exact this
  · intro hh
    refine ⟨stem.length, al_iff.2 fun j => ?_⟩
    rw [Nat.zero_add, wordOf_loop _ _ _ h, bit0]
    exact hh _ (getD_mem (Nat.mod_lt _ h))
end Go.Proofs.Ytkjnmkjdooebmaa
namespace Go.Proofs.Ytkjnmkjdooebmaa
open Go.RowKit
namespace Lasso

set_option maxRecDepth 100000 in
set_option maxHeartbeats 4000000 in
theorem fix5_any (s p : Nat) (st : Bool) (h : Nat → Bool → Bool) (F f0 : Nat → Bool) (hs : FixSol (s + p) (nx s p) st h F) (w : World) (R O L K : Nat) (a b : Option Addr) (c d : Nat) (h1 : s ≤ 1000) (h2 : p ≤ 1000) (h3 : 0 < p)
    (hR : BRow w R (s + p) f0) (hO : Box1 w O (.slice (some ⟨R, 0, none⟩) ((s + p : Nat) : Int).toNat ((s + p : Nat) : Int).toNat)) (hL : PBox w L (.slice a s c) (.slice b p d)) (hRO : O ≠ R) (hRL : L ≠ R)
    (hH : ∀ (W : World) (i : Nat) (x : Bool), But w R W → i < s + p → Calls Try.prog 45 #[.int .i64 i, .bool x, .pointer (some ⟨K, 0, none⟩)] W (Ret (.bool (h i x)) W)) :
    Calls Try.prog 40 #[.bool st, .func (.func 45) #[] #[.pointer (some ⟨K, 0, none⟩)], .pointer (some ⟨O, 0, none⟩), .pointer (some ⟨L, 0, none⟩)] w (FixPost R (s + p) F w) := by
  have HS := hid hs
  have HH := hid hH
  have HO := hid hO
  have HL := hid hL
  have HR := hid hR
  clear hs hH hO hL hR
  generalize hn : s + p = n at *
  have hn0 : 0 < n := by omega
  obtain ⟨o0, o1, o2⟩ := HO.out
  rw [show (((n : Nat) : Int).toNat) = n by omega] at o1
  go_enter Try.func40, Try.ntmps40
  go_wp2_with fail
  go_loopw [6, 12] (fun _ i wr => ∃ (k : Nat) (f : Nat → Bool), k ≤ n ∧ i = .int .i64 k ∧ But w R wr ∧ BRow wr R n f ∧ Hid (∀ j, j < k → f j = st)) (fun _ i _ => n - (intOf i).toNat)
  case atStart => exact ⟨0, f0, Nat.zero_le _, rfl, But.refl _ _, HR.out, hid (by omega)⟩
  case round =>
    obtain ⟨k, f, hk, rfl, B, hrow, hf⟩ := hrel
    obtain ⟨o0, o1, o2⟩ := But.box1 B hRO HO.out
    rw [show (((n : Nat) : Int).toNat) = n by omega] at o1
    by_cases hlt : k < n
    · have r0 := hrow.2.1 k hlt
      have rz := hrow.2.2
      have rl := hrow.1
      have hstep := hid (brow_upd hrow hlt st)
      have hlt2 : (k : Int) < (n : Int) := by omega
      clear hrow
      go_wp2_with fail
      go_roundw
      case rel =>
        refine ⟨k + 1, _, by omega, by go_num, B.trans (But.set _ _ _ _), hstep.out, hid fun j hj => ?_⟩
        unfold upd
        split
        · rfl
        · exact hf.out j (by omega)
      case measure => simp [intOf]; omega
    · have hlt2 : ¬ ((k : Int) < (n : Int)) := by omega
      have hI := hid (fixInv_start (nxt := nx s p) (h := h) (F := F) (fun j hj => hf.out j (by omega)) : FixInv n (nx s p) st h F f)
      have HROW := hid hrow
      clear hf hrow
      go_wp2_with fail
      go_loopw [7, 8, 9] (fun q _ _ wr => ∃ (ch : Bool) (out : Nat → Bool), q = .bool ch ∧ But w R wr ∧ BRow wr R n out ∧ Hid (FixInv n (nx s p) st h F out ∧ (ch = false → ∀ k, k < n → out k = h k (out (nx s p k))))) (fun q _ _ W => if isT q = true then 1 + (n - cntB (!st) (outOf W R) n) else 0)
      case atStart => exact ⟨true, f, rfl, B, HROW.out, hid ⟨hI.out, by simp⟩⟩
      case round =>
        obtain ⟨ch, out0, rfl, B0, hrow0, hfx⟩ := hrel
        obtain ⟨o0, o1, o2⟩ := But.box1 B0 hRO HO.out
        rw [show (((n : Nat) : Int).toNat) = n by omega] at o1
        cases ch with
        | false =>
          have hfin := hid (show BRow wr R n F from hrow0.congr fun i hi => by rw [hfx.out.1.done HS.out (hfx.out.2 rfl) i hi])
          clear hrow0
          go_wp2_with fail
          refine bodyPost_ret (v := .tuple #[]) (by simp [results, Try.results40]) rfl ?_
          exact ⟨rfl, B0, hfin.out⟩
        | true =>
          have HR0 := hid hrow0
          have f1 : IntKind.i64.wrap ((n : Int) - 1) = (n : Int) - 1 := IntWalk.i64_in _ (by omega)
          clear hrow0
          go_wp2_with fail
          go_loopw [7, 8, 9] (fun q i _ wr => ∃ (k : Nat) (ch : Bool) (out : Nat → Bool), k ≤ n ∧ q = .bool ch ∧ (∃ z : Int, i = .int .i64 z ∧ z = (k : Int) - 1) ∧ But w R wr ∧ BRow wr R n out ∧ Hid (FixRel n (nx s p) st h F out0 k ch out)) (fun _ i _ _ => (intOf i + 1).toNat)
          case atStart => exact ⟨n, false, out0, Nat.le_refl _, rfl, ⟨_, rfl, rfl⟩, B0, HR0.out, hid (FixRel.start hfx.out.1)⟩
          case round =>
            obtain ⟨k, ch, out, hk, rfl, ⟨z, rfl, hz⟩, B, hrow, hr⟩ := hrel
            obtain ⟨o0, o1, o2⟩ := But.box1 B hRO HO.out
            rw [show (((n : Nat) : Int).toNat) = n by omega] at o1
            obtain ⟨l0, l1, l2, l3, l4⟩ := But.pbox B hRL HL.out
            by_cases hk0 : k = 0
            · subst hk0
              have hz3 : ¬ (z ≥ 0) := by omega
              have HROW2 := hid hrow
              have e1 := fun i hi => outOf_row HR0.out (i := i) hi
              have e2 := fun i hi => outOf_row hrow (i := i) hi
              clear hrow
              go_wp2_with fail
              go_roundw
              case rel => exact ⟨ch, out, rfl, B, HROW2.out, hid ⟨hr.out.inv, fun hc k hk => (hr.out.no hc).2 k (Nat.zero_le _) hk⟩⟩
              case measure =>
                rw [cntB_congr e1, cntB_congr e2]
                have hle := cntB_le_n (!st) out n
                cases ch with
                | false => simp [isT]; omega
                | true => have := hr.out.yes rfl; simp [isT]; omega
            · obtain ⟨m, rfl⟩ : ∃ m, k = m + 1 := ⟨k - 1, by omega⟩
              obtain rfl : z = (m : Int) := by omega
              clear hz hk0
              have hm : m < n := by omega
              have hx : nx s p m < n := HS.out.lt m hm
              have r0 : wr.cell? ⟨R, m, none⟩ = some (.bool (out m)) := hrow.2.1 m hm
              have r1 : wr.cell? ⟨R, nx s p m, none⟩ = some (.bool (out (nx s p m))) := hrow.2.1 _ hx
              have rz := hrow.2.2
              have rl := hrow.1
              have HSTEP := hid (FixRel.step HS.out (k := m) hm hr.out)
              have HROW2 := hid hrow
              have HBB := hid B
              have hm2 : (m : Int) < (n : Int) := by omega
              have hx2 : ((nx s p m : Nat) : Int) < (n : Int) := by omega
              have hm3 : (m : Int) ≥ 0 := by omega
              have hx3 : ((nx s p m : Nat) : Int) ≥ 0 := by omega
              have HN := hid (fun (W : World) => next_any s p m W a b c d h1 h2 (by omega))
              clear hrow hr hx
              generalize nx s p m = q at *
              generalize out q = ov at *
              have HH2 := hid (fun (W : World) (hb : But w R W) => HH.out W m ov hb hm)
              generalize h m ov = v at *
              go_wp2_with fail
              refine wp_region_over (by kernel_rfl) (by kernel_rfl) ?_; (repeat (go_big_quiet_step ((first | (go_at_call 41; with_reducible exact Calls.over (HN.out _)) | (go_at_call 45; with_reducible exact Calls.over (HH2.out _ (HBB.out.next (over_below _ _)))))))); refine wpQuiet_nil ?_; rintro _ ⟨xq, rfl⟩
              have BX := hid (HBB.out.next (over_below wr xq))
              have RX := hid (show BRow (wr.over xq) R n out from Row.below HROW2.out (over_below wr xq))
              have r0' : (wr.over xq).cell? ⟨R, m, none⟩ = some (.bool (out m)) := RX.out.2.1 m hm
              have o' := But.box1 BX.out hRO HO.out
              rw [show (((n : Nat) : Int).toNat) = n by omega] at o'
              have rz' := RX.out.2.2
              have rl' := RX.out.1
              obtain ⟨o0', o1', o2'⟩ := o'
              clear r0 r1 rz rl o0 o1 o2 l0 l1 l2 l3 l4
              by_cases hvo : v = out m
              · have e1 : (v != out m) = false := by simpa using hvo
                have HS2 := HSTEP.out
                rw [e1, Bool.or_false, hvo, upd_same] at HS2
                have HS3 := hid HS2
                rw [← hvo] at r0'
                clear HS2 HSTEP hvo e1
                go_wp2_with fail
                go_roundw
                case rel => exact ⟨m, ch, out, by omega, rfl, ⟨_, rfl, rfl⟩, BX.out, RX.out, HS3⟩
                case measure => simp [intOf]
              · have e1 : (v != out m) = true := by simpa using hvo
                have HS2 := HSTEP.out
                rw [e1, Bool.or_true] at HS2
                have HS3 := hid HS2
                have RY := hid (brow_upd RX.out hm v)
                have e2 : out m = !v := by cases v <;> cases h0 : out m <;> simp_all
                rw [e2] at r0'
                clear HS2 HSTEP hvo e1 e2
                cases v
                all_goals
                  first
                    | rw [Bool.not_true] at r0'
                    | rw [Bool.not_false] at r0'
                  go_wp2_with fail
                  go_roundw
                  case rel => exact ⟨m, true, _, by omega, rfl, ⟨_, rfl, rfl⟩, BX.out.trans (But.set _ _ _ _), RY.out, HS3⟩
                  case measure => simp [intOf]
end Lasso
end Go.Proofs.Ytkjnmkjdooebmaa
namespace Go.Proofs.Ytkjnmkjdooebmaa
open Go.RowKit
namespace Lasso

set_option maxRecDepth 100000 in
set_option maxHeartbeats 4000000 in
theorem fix4_any (s p : Nat) (st : Bool) (h : Nat → Bool → Bool) (F f0 : Nat → Bool) (hs : FixSol (s + p) (nx s p) st h F) (w : World) (R O L K : Nat) (a b : Option Addr) (c d : Nat) (h1 : s ≤ 1000) (h2 : p ≤ 1000) (h3 : 0 < p)
    (hR : BRow w R (s + p) f0) (hO : Box1 w O (.slice (some ⟨R, 0, none⟩) ((s + p : Nat) : Int).toNat ((s + p : Nat) : Int).toNat)) (hL : PBox w L (.slice a s c) (.slice b p d)) (hRO : O ≠ R) (hRL : L ≠ R)
    (hH : ∀ (W : World) (i : Nat) (x : Bool), But w R W → i < s + p → Calls Try.prog 44 #[.int .i64 i, .bool x, .pointer (some ⟨K, 0, none⟩)] W (Ret (.bool (h i x)) W)) :
    Calls Try.prog 40 #[.bool st, .func (.func 44) #[] #[.pointer (some ⟨K, 0, none⟩)], .pointer (some ⟨O, 0, none⟩), .pointer (some ⟨L, 0, none⟩)] w (FixPost R (s + p) F w) := by
  have HS := hid hs
  have HH := hid hH
  have HO := hid hO
  have HL := hid hL
  have HR := hid hR
  clear hs hH hO hL hR
  generalize hn : s + p = n at *
  have hn0 : 0 < n := by omega
  obtain ⟨o0, o1, o2⟩ := HO.out
  rw [show (((n : Nat) : Int).toNat) = n by omega] at o1
  go_enter Try.func40, Try.ntmps40
  go_wp2_with fail
  go_loopw [6, 12] (fun _ i wr => ∃ (k : Nat) (f : Nat → Bool), k ≤ n ∧ i = .int .i64 k ∧ But w R wr ∧ BRow wr R n f ∧ Hid (∀ j, j < k → f j = st)) (fun _ i _ => n - (intOf i).toNat)
  case atStart => exact ⟨0, f0, Nat.zero_le _, rfl, But.refl _ _, HR.out, hid (by omega)⟩
  case round =>
    obtain ⟨k, f, hk, rfl, B, hrow, hf⟩ := hrel
    obtain ⟨o0, o1, o2⟩ := But.box1 B hRO HO.out
    rw [show (((n : Nat) : Int).toNat) = n by omega] at o1
    by_cases hlt : k < n
    · have r0 := hrow.2.1 k hlt
      have rz := hrow.2.2
      have rl := hrow.1
      have hstep := hid (brow_upd hrow hlt st)
      have hlt2 : (k : Int) < (n : Int) := by omega
      clear hrow
      go_wp2_with fail
      go_roundw
      case rel =>
        refine ⟨k + 1, _, by omega, by go_num, B.trans (But.set _ _ _ _), hstep.out, hid fun j hj => ?_⟩
        unfold upd
        split
        · rfl
        · exact hf.out j (by omega)
      case measure => simp [intOf]; omega
    · have hlt2 : ¬ ((k : Int) < (n : Int)) := by omega
      have hI := hid (fixInv_start (nxt := nx s p) (h := h) (F := F) (fun j hj => hf.out j (by omega)) : FixInv n (nx s p) st h F f)
      have HROW := hid hrow
      clear hf hrow
      go_wp2_with fail
      go_loopw [7, 8, 9] (fun q _ _ wr => ∃ (ch : Bool) (out : Nat → Bool), q = .bool ch ∧ But w R wr ∧ BRow wr R n out ∧ Hid (FixInv n (nx s p) st h F out ∧ (ch = false → ∀ k, k < n → out k = h k (out (nx s p k))))) (fun q _ _ W => if isT q = true then 1 + (n - cntB (!st) (outOf W R) n) else 0)
      case atStart => exact ⟨true, f, rfl, B, HROW.out, hid ⟨hI.out, by simp⟩⟩
      case round =>
        obtain ⟨ch, out0, rfl, B0, hrow0, hfx⟩ := hrel
        obtain ⟨o0, o1, o2⟩ := But.box1 B0 hRO HO.out
        rw [show (((n : Nat) : Int).toNat) = n by omega] at o1
        cases ch with
        | false =>
          have hfin := hid (show BRow wr R n F from hrow0.congr fun i hi => by rw [hfx.out.1.done HS.out (hfx.out.2 rfl) i hi])
          clear hrow0
          go_wp2_with fail
          refine bodyPost_ret (v := .tuple #[]) (by simp [results, Try.results40]) rfl ?_
          exact ⟨rfl, B0, hfin.out⟩
        | true =>
          have HR0 := hid hrow0
          have f1 : IntKind.i64.wrap ((n : Int) - 1) = (n : Int) - 1 := IntWalk.i64_in _ (by omega)
          clear hrow0
          go_wp2_with fail
          go_loopw [7, 8, 9] (fun q i _ wr => ∃ (k : Nat) (ch : Bool) (out : Nat → Bool), k ≤ n ∧ q = .bool ch ∧ (∃ z : Int, i = .int .i64 z ∧ z = (k : Int) - 1) ∧ But w R wr ∧ BRow wr R n out ∧ Hid (FixRel n (nx s p) st h F out0 k ch out)) (fun _ i _ _ => (intOf i + 1).toNat)
          case atStart => exact ⟨n, false, out0, Nat.le_refl _, rfl, ⟨_, rfl, rfl⟩, B0, HR0.out, hid (FixRel.start hfx.out.1)⟩
          case round =>
            obtain ⟨k, ch, out, hk, rfl, ⟨z, rfl, hz⟩, B, hrow, hr⟩ := hrel
            obtain ⟨o0, o1, o2⟩ := But.box1 B hRO HO.out
            rw [show (((n : Nat) : Int).toNat) = n by omega] at o1
            obtain ⟨l0, l1, l2, l3, l4⟩ := But.pbox B hRL HL.out
            by_cases hk0 : k = 0
            · subst hk0
              have hz3 : ¬ (z ≥ 0) := by omega
              have HROW2 := hid hrow
              have e1 := fun i hi => outOf_row HR0.out (i := i) hi
              have e2 := fun i hi => outOf_row hrow (i := i) hi
              clear hrow
              go_wp2_with fail
              go_roundw
              case rel => exact ⟨ch, out, rfl, B, HROW2.out, hid ⟨hr.out.inv, fun hc k hk => (hr.out.no hc).2 k (Nat.zero_le _) hk⟩⟩
              case measure =>
                rw [cntB_congr e1, cntB_congr e2]
                have hle := cntB_le_n (!st) out n
                cases ch with
                | false => simp [isT]; omega
                | true => have := hr.out.yes rfl; simp [isT]; omega
            · obtain ⟨m, rfl⟩ : ∃ m, k = m + 1 := ⟨k - 1, by omega⟩
              obtain rfl : z = (m : Int) := by omega
              clear hz hk0
              have hm : m < n := by omega
              have hx : nx s p m < n := HS.out.lt m hm
              have r0 : wr.cell? ⟨R, m, none⟩ = some (.bool (out m)) := hrow.2.1 m hm
              have r1 : wr.cell? ⟨R, nx s p m, none⟩ = some (.bool (out (nx s p m))) := hrow.2.1 _ hx
              have rz := hrow.2.2
              have rl := hrow.1
              have HSTEP := hid (FixRel.step HS.out (k := m) hm hr.out)
              have HROW2 := hid hrow
              have HBB := hid B
              have hm2 : (m : Int) < (n : Int) := by omega
              have hx2 : ((nx s p m : Nat) : Int) < (n : Int) := by omega
              have hm3 : (m : Int) ≥ 0 := by omega
              have hx3 : ((nx s p m : Nat) : Int) ≥ 0 := by omega
              have HN := hid (fun (W : World) => next_any s p m W a b c d h1 h2 (by omega))
              clear hrow hr hx
              generalize nx s p m = q at *
              generalize out q = ov at *
              have HH2 := hid (fun (W : World) (hb : But w R W) => HH.out W m ov hb hm)
              generalize h m ov = v at *
              go_wp2_with fail
              refine wp_region_over (by kernel_rfl) (by kernel_rfl) ?_; (repeat (go_big_quiet_step ((first | (go_at_call 41; with_reducible exact Calls.over (HN.out _)) | (go_at_call 44; with_reducible exact Calls.over (HH2.out _ (HBB.out.next (over_below _ _)))))))); refine wpQuiet_nil ?_; rintro _ ⟨xq, rfl⟩
              have BX := hid (HBB.out.next (over_below wr xq))
              have RX := hid (show BRow (wr.over xq) R n out from Row.below HROW2.out (over_below wr xq))
              have r0' : (wr.over xq).cell? ⟨R, m, none⟩ = some (.bool (out m)) := RX.out.2.1 m hm
              have o' := But.box1 BX.out hRO HO.out
              rw [show (((n : Nat) : Int).toNat) = n by omega] at o'
              have rz' := RX.out.2.2
              have rl' := RX.out.1
              obtain ⟨o0', o1', o2'⟩ := o'
              clear r0 r1 rz rl o0 o1 o2 l0 l1 l2 l3 l4
              by_cases hvo : v = out m
              · have e1 : (v != out m) = false := by simpa using hvo
                have HS2 := HSTEP.out
                rw [e1, Bool.or_false, hvo, upd_same] at HS2
                have HS3 := hid HS2
                rw [← hvo] at r0'
                clear HS2 HSTEP hvo e1
                go_wp2_with fail
                go_roundw
                case rel => exact ⟨m, ch, out, by omega, rfl, ⟨_, rfl, rfl⟩, BX.out, RX.out, HS3⟩
                case measure => simp [intOf]
              · have e1 : (v != out m) = true := by simpa using hvo
                have HS2 := HSTEP.out
                rw [e1, Bool.or_true] at HS2
                have HS3 := hid HS2
                have RY := hid (brow_upd RX.out hm v)
                have e2 : out m = !v := by cases v <;> cases h0 : out m <;> simp_all
                rw [e2] at r0'
                clear HS2 HSTEP hvo e1 e2
                cases v
                all_goals
                  first
                    | rw [Bool.not_true] at r0'
                    | rw [Bool.not_false] at r0'
                  go_wp2_with fail
                  go_roundw
                  case rel => exact ⟨m, true, _, by omega, rfl, ⟨_, rfl, rfl⟩, BX.out.trans (But.set _ _ _ _), RY.out, HS3⟩
                  case measure => simp [intOf]
end Lasso
end Go.Proofs.Ytkjnmkjdooebmaa
namespace Go.Proofs.Ytkjnmkjdooebmaa
open Go.RowKit
namespace Lasso

set_option maxRecDepth 100000 in
set_option maxHeartbeats 4000000 in
theorem fix3_any (s p : Nat) (st : Bool) (h : Nat → Bool → Bool) (F f0 : Nat → Bool) (hs : FixSol (s + p) (nx s p) st h F) (w : World) (R O L K : Nat) (a b : Option Addr) (c d : Nat) (h1 : s ≤ 1000) (h2 : p ≤ 1000) (h3 : 0 < p)
    (hR : BRow w R (s + p) f0) (hO : Box1 w O (.slice (some ⟨R, 0, none⟩) ((s + p : Nat) : Int).toNat ((s + p : Nat) : Int).toNat)) (hL : PBox w L (.slice a s c) (.slice b p d)) (hRO : O ≠ R) (hRL : L ≠ R)
    (hH : ∀ (W : World) (i : Nat) (x : Bool), But w R W → i < s + p → Calls Try.prog 43 #[.int .i64 i, .bool x, .pointer (some ⟨K, 0, none⟩)] W (Ret (.bool (h i x)) W)) :
    Calls Try.prog 40 #[.bool st, .func (.func 43) #[] #[.pointer (some ⟨K, 0, none⟩)], .pointer (some ⟨O, 0, none⟩), .pointer (some ⟨L, 0, none⟩)] w (FixPost R (s + p) F w) := by
  have HS := hid hs
  have HH := hid hH
  have HO := hid hO
  have HL := hid hL
  have HR := hid hR
  clear hs hH hO hL hR
  generalize hn : s + p = n at *
  have hn0 : 0 < n := by omega
  obtain ⟨o0, o1, o2⟩ := HO.out
  rw [show (((n : Nat) : Int).toNat) = n by omega] at o1
  go_enter Try.func40, Try.ntmps40
  go_wp2_with fail
  go_loopw [6, 12] (fun _ i wr => ∃ (k : Nat) (f : Nat → Bool), k ≤ n ∧ i = .int .i64 k ∧ But w R wr ∧ BRow wr R n f ∧ Hid (∀ j, j < k → f j = st)) (fun _ i _ => n - (intOf i).toNat)
  case atStart => exact ⟨0, f0, Nat.zero_le _, rfl, But.refl _ _, HR.out, hid (by omega)⟩
  case round =>
    obtain ⟨k, f, hk, rfl, B, hrow, hf⟩ := hrel
    obtain ⟨o0, o1, o2⟩ := But.box1 B hRO HO.out
    rw [show (((n : Nat) : Int).toNat) = n by omega] at o1
    by_cases hlt : k < n
    · have r0 := hrow.2.1 k hlt
      have rz := hrow.2.2
      have rl := hrow.1
      have hstep := hid (brow_upd hrow hlt st)
      have hlt2 : (k : Int) < (n : Int) := by omega
      clear hrow
      go_wp2_with fail
      go_roundw
      case rel =>
        refine ⟨k + 1, _, by omega, by go_num, B.trans (But.set _ _ _ _), hstep.out, hid fun j hj => ?_⟩
        unfold upd
        split
        · rfl
        · exact hf.out j (by omega)
      case measure => simp [intOf]; omega
    · have hlt2 : ¬ ((k : Int) < (n : Int)) := by omega
      have hI := hid (fixInv_start (nxt := nx s p) (h := h) (F := F) (fun j hj => hf.out j (by omega)) : FixInv n (nx s p) st h F f)
      have HROW := hid hrow
      clear hf hrow
      go_wp2_with fail
      go_loopw [7, 8, 9] (fun q _ _ wr => ∃ (ch : Bool) (out : Nat → Bool), q = .bool ch ∧ But w R wr ∧ BRow wr R n out ∧ Hid (FixInv n (nx s p) st h F out ∧ (ch = false → ∀ k, k < n → out k = h k (out (nx s p k))))) (fun q _ _ W => if isT q = true then 1 + (n - cntB (!st) (outOf W R) n) else 0)
      case atStart => exact ⟨true, f, rfl, B, HROW.out, hid ⟨hI.out, by simp⟩⟩
      case round =>
        obtain ⟨ch, out0, rfl, B0, hrow0, hfx⟩ := hrel
        obtain ⟨o0, o1, o2⟩ := But.box1 B0 hRO HO.out
        rw [show (((n : Nat) : Int).toNat) = n by omega] at o1
        cases ch with
        | false =>
          have hfin := hid (show BRow wr R n F from hrow0.congr fun i hi => by rw [hfx.out.1.done HS.out (hfx.out.2 rfl) i hi])
          clear hrow0
          go_wp2_with fail
          refine bodyPost_ret (v := .tuple #[]) (by simp [results, Try.results40]) rfl ?_
          exact ⟨rfl, B0, hfin.out⟩
        | true =>
          have HR0 := hid hrow0
          have f1 : IntKind.i64.wrap ((n : Int) - 1) = (n : Int) - 1 := IntWalk.i64_in _ (by omega)
          clear hrow0
          go_wp2_with fail
          go_loopw [7, 8, 9] (fun q i _ wr => ∃ (k : Nat) (ch : Bool) (out : Nat → Bool), k ≤ n ∧ q = .bool ch ∧ (∃ z : Int, i = .int .i64 z ∧ z = (k : Int) - 1) ∧ But w R wr ∧ BRow wr R n out ∧ Hid (FixRel n (nx s p) st h F out0 k ch out)) (fun _ i _ _ => (intOf i + 1).toNat)
          case atStart => exact ⟨n, false, out0, Nat.le_refl _, rfl, ⟨_, rfl, rfl⟩, B0, HR0.out, hid (FixRel.start hfx.out.1)⟩
          case round =>
            obtain ⟨k, ch, out, hk, rfl, ⟨z, rfl, hz⟩, B, hrow, hr⟩ := hrel
            obtain ⟨o0, o1, o2⟩ := But.box1 B hRO HO.out
            rw [show (((n : Nat) : Int).toNat) = n by omega] at o1
            obtain ⟨l0, l1, l2, l3, l4⟩ := But.pbox B hRL HL.out
            by_cases hk0 : k = 0
            · subst hk0
              have hz3 : ¬ (z ≥ 0) := by omega
              have HROW2 := hid hrow
              have e1 := fun i hi => outOf_row HR0.out (i := i) hi
              have e2 := fun i hi => outOf_row hrow (i := i) hi
              clear hrow
              go_wp2_with fail
              go_roundw
              case rel => exact ⟨ch, out, rfl, B, HROW2.out, hid ⟨hr.out.inv, fun hc k hk => (hr.out.no hc).2 k (Nat.zero_le _) hk⟩⟩
              case measure =>
                rw [cntB_congr e1, cntB_congr e2]
                have hle := cntB_le_n (!st) out n
                cases ch with
                | false => simp [isT]; omega
                | true => have := hr.out.yes rfl; simp [isT]; omega
            · obtain ⟨m, rfl⟩ : ∃ m, k = m + 1 := ⟨k - 1, by omega⟩
              obtain rfl : z = (m : Int) := by omega
              clear hz hk0
              have hm : m < n := by omega
              have hx : nx s p m < n := HS.out.lt m hm
              have r0 : wr.cell? ⟨R, m, none⟩ = some (.bool (out m)) := hrow.2.1 m hm
              have r1 : wr.cell? ⟨R, nx s p m, none⟩ = some (.bool (out (nx s p m))) := hrow.2.1 _ hx
              have rz := hrow.2.2
              have rl := hrow.1
              have HSTEP := hid (FixRel.step HS.out (k := m) hm hr.out)
              have HROW2 := hid hrow
              have HBB := hid B
              have hm2 : (m : Int) < (n : Int) := by omega
              have hx2 : ((nx s p m : Nat) : Int) < (n : Int) := by omega
              have hm3 : (m : Int) ≥ 0 := by omega
              have hx3 : ((nx s p m : Nat) : Int) ≥ 0 := by omega
              have HN := hid (fun (W : World) => next_any s p m W a b c d h1 h2 (by omega))
              clear hrow hr hx
              generalize nx s p m = q at *
              generalize out q = ov at *
              have HH2 := hid (fun (W : World) (hb : But w R W) => HH.out W m ov hb hm)
              generalize h m ov = v at *
              go_wp2_with fail
              refine wp_region_over (by kernel_rfl) (by kernel_rfl) ?_; (repeat (go_big_quiet_step ((first | (go_at_call 41; with_reducible exact Calls.over (HN.out _)) | (go_at_call 43; with_reducible exact Calls.over (HH2.out _ (HBB.out.next (over_below _ _)))))))); refine wpQuiet_nil ?_; rintro _ ⟨xq, rfl⟩
              have BX := hid (HBB.out.next (over_below wr xq))
              have RX := hid (show BRow (wr.over xq) R n out from Row.below HROW2.out (over_below wr xq))
              have r0' : (wr.over xq).cell? ⟨R, m, none⟩ = some (.bool (out m)) := RX.out.2.1 m hm
              have o' := But.box1 BX.out hRO HO.out
              rw [show (((n : Nat) : Int).toNat) = n by omega] at o'
              have rz' := RX.out.2.2
              have rl' := RX.out.1
              obtain ⟨o0', o1', o2'⟩ := o'
              clear r0 r1 rz rl o0 o1 o2 l0 l1 l2 l3 l4
              by_cases hvo : v = out m
              · have e1 : (v != out m) = false := by simpa using hvo
                have HS2 := HSTEP.out
                rw [e1, Bool.or_false, hvo, upd_same] at HS2
                have HS3 := hid HS2
                rw [← hvo] at r0'
                clear HS2 HSTEP hvo e1
                go_wp2_with fail
                go_roundw
                case rel => exact ⟨m, ch, out, by omega, rfl, ⟨_, rfl, rfl⟩, BX.out, RX.out, HS3⟩
                case measure => simp [intOf]
              · have e1 : (v != out m) = true := by simpa using hvo
                have HS2 := HSTEP.out
                rw [e1, Bool.or_true] at HS2
                have HS3 := hid HS2
                have RY := hid (brow_upd RX.out hm v)
                have e2 : out m = !v := by cases v <;> cases h0 : out m <;> simp_all
                rw [e2] at r0'
                clear HS2 HSTEP hvo e1 e2
                cases v
                all_goals
                  first
                    | rw [Bool.not_true] at r0'
                    | rw [Bool.not_false] at r0'
                  go_wp2_with fail
                  go_roundw
                  case rel => exact ⟨m, true, _, by omega, rfl, ⟨_, rfl, rfl⟩, BX.out.trans (But.set _ _ _ _), RY.out, HS3⟩
                  case measure => simp [intOf]
end Lasso
end Go.Proofs.Ytkjnmkjdooebmaa
namespace Go.Proofs.Ytkjnmkjdooebmaa
open Go.RowKit
namespace Lasso

set_option maxRecDepth 100000 in
set_option maxHeartbeats 4000000 in
theorem fix2_any (s p : Nat) (st : Bool) (h : Nat → Bool → Bool) (F f0 : Nat → Bool) (hs : FixSol (s + p) (nx s p) st h F) (w : World) (R O L K : Nat) (a b : Option Addr) (c d : Nat) (h1 : s ≤ 1000) (h2 : p ≤ 1000) (h3 : 0 < p)
    (hR : BRow w R (s + p) f0) (hO : Box1 w O (.slice (some ⟨R, 0, none⟩) ((s + p : Nat) : Int).toNat ((s + p : Nat) : Int).toNat)) (hL : PBox w L (.slice a s c) (.slice b p d)) (hRO : O ≠ R) (hRL : L ≠ R)
    (hH : ∀ (W : World) (i : Nat) (x : Bool), But w R W → i < s + p → Calls Try.prog 42 #[.int .i64 i, .bool x, .pointer (some ⟨K, 0, none⟩)] W (Ret (.bool (h i x)) W)) :
    Calls Try.prog 40 #[.bool st, .func (.func 42) #[] #[.pointer (some ⟨K, 0, none⟩)], .pointer (some ⟨O, 0, none⟩), .pointer (some ⟨L, 0, none⟩)] w (FixPost R (s + p) F w) := by
  have HS := hid hs
  have HH := hid hH
  have HO := hid hO
  have HL := hid hL
  have HR := hid hR
  clear hs hH hO hL hR
  generalize hn : s + p = n at *
  have hn0 : 0 < n := by omega
  obtain ⟨o0, o1, o2⟩ := HO.out
  rw [show (((n : Nat) : Int).toNat) = n by omega] at o1
  go_enter Try.func40, Try.ntmps40
  go_wp2_with fail
  go_loopw [6, 12] (fun _ i wr => ∃ (k : Nat) (f : Nat → Bool), k ≤ n ∧ i = .int .i64 k ∧ But w R wr ∧ BRow wr R n f ∧ Hid (∀ j, j < k → f j = st)) (fun _ i _ => n - (intOf i).toNat)
  case atStart => exact ⟨0, f0, Nat.zero_le _, rfl, But.refl _ _, HR.out, hid (by omega)⟩
  case round =>
    obtain ⟨k, f, hk, rfl, B, hrow, hf⟩ := hrel
    obtain ⟨o0, o1, o2⟩ := But.box1 B hRO HO.out
    rw [show (((n : Nat) : Int).toNat) = n by omega] at o1
    by_cases hlt : k < n
    · have r0 := hrow.2.1 k hlt
      have rz := hrow.2.2
      have rl := hrow.1
      have hstep := hid (brow_upd hrow hlt st)
      have hlt2 : (k : Int) < (n : Int) := by omega
      clear hrow
      go_wp2_with fail
      go_roundw
      case rel =>
        refine ⟨k + 1, _, by omega, by go_num, B.trans (But.set _ _ _ _), hstep.out, hid fun j hj => ?_⟩
        unfold upd
        split
        · rfl
        · exact hf.out j (by omega)
      case measure => simp [intOf]; omega
    · have hlt2 : ¬ ((k : Int) < (n : Int)) := by omega
      have hI := hid (fixInv_start (nxt := nx s p) (h := h) (F := F) (fun j hj => hf.out j (by omega)) : FixInv n (nx s p) st h F f)
      have HROW := hid hrow
      clear hf hrow
      go_wp2_with fail
      go_loopw [7, 8, 9] (fun q _ _ wr => ∃ (ch : Bool) (out : Nat → Bool), q = .bool ch ∧ But w R wr ∧ BRow wr R n out ∧ Hid (FixInv n (nx s p) st h F out ∧ (ch = false → ∀ k, k < n → out k = h k (out (nx s p k))))) (fun q _ _ W => if isT q = true then 1 + (n - cntB (!st) (outOf W R) n) else 0)
      case atStart => exact ⟨true, f, rfl, B, HROW.out, hid ⟨hI.out, by simp⟩⟩
      case round =>
        obtain ⟨ch, out0, rfl, B0, hrow0, hfx⟩ := hrel
        obtain ⟨o0, o1, o2⟩ := But.box1 B0 hRO HO.out
        rw [show (((n : Nat) : Int).toNat) = n by omega] at o1
        cases ch with
        | false =>
          have hfin := hid (show BRow wr R n F from hrow0.congr fun i hi => by rw [hfx.out.1.done HS.out (hfx.out.2 rfl) i hi])
          clear hrow0
          go_wp2_with fail
          refine bodyPost_ret (v := .tuple #[]) (by simp [results, Try.results40]) rfl ?_
          exact ⟨rfl, B0, hfin.out⟩
        | true =>
          have HR0 := hid hrow0
          have f1 : IntKind.i64.wrap ((n : Int) - 1) = (n : Int) - 1 := IntWalk.i64_in _ (by omega)
          clear hrow0
          go_wp2_with fail
          go_loopw [7, 8, 9] (fun q i _ wr => ∃ (k : Nat) (ch : Bool) (out : Nat → Bool), k ≤ n ∧ q = .bool ch ∧ (∃ z : Int, i = .int .i64 z ∧ z = (k : Int) - 1) ∧ But w R wr ∧ BRow wr R n out ∧ Hid (FixRel n (nx s p) st h F out0 k ch out)) (fun _ i _ _ => (intOf i + 1).toNat)
          case atStart => exact ⟨n, false, out0, Nat.le_refl _, rfl, ⟨_, rfl, rfl⟩, B0, HR0.out, hid (FixRel.start hfx.out.1)⟩
          case round =>
            obtain ⟨k, ch, out, hk, rfl, ⟨z, rfl, hz⟩, B, hrow, hr⟩ := hrel
            obtain ⟨o0, o1, o2⟩ := But.box1 B hRO HO.out
            rw [show (((n : Nat) : Int).toNat) = n by omega] at o1
            obtain ⟨l0, l1, l2, l3, l4⟩ := But.pbox B hRL HL.out
            by_cases hk0 : k = 0
            · subst hk0
              have hz3 : ¬ (z ≥ 0) := by omega
              have HROW2 := hid hrow
              have e1 := fun i hi => outOf_row HR0.out (i := i) hi
              have e2 := fun i hi => outOf_row hrow (i := i) hi
              clear hrow
              go_wp2_with fail
              go_roundw
              case rel => exact ⟨ch, out, rfl, B, HROW2.out, hid ⟨hr.out.inv, fun hc k hk => (hr.out.no hc).2 k (Nat.zero_le _) hk⟩⟩
              case measure =>
                rw [cntB_congr e1, cntB_congr e2]
                have hle := cntB_le_n (!st) out n
                cases ch with
                | false => simp [isT]; omega
                | true => have := hr.out.yes rfl; simp [isT]; omega
            · obtain ⟨m, rfl⟩ : ∃ m, k = m + 1 := ⟨k - 1, by omega⟩
              obtain rfl : z = (m : Int) := by omega
              clear hz hk0
              have hm : m < n := by omega
              have hx : nx s p m < n := HS.out.lt m hm
              have r0 : wr.cell? ⟨R, m, none⟩ = some (.bool (out m)) := hrow.2.1 m hm
              have r1 : wr.cell? ⟨R, nx s p m, none⟩ = some (.bool (out (nx s p m))) := hrow.2.1 _ hx
              have rz := hrow.2.2
              have rl := hrow.1
              have HSTEP := hid (FixRel.step HS.out (k := m) hm hr.out)
              have HROW2 := hid hrow
              have HBB := hid B
              have hm2 : (m : Int) < (n : Int) := by omega
              have hx2 : ((nx s p m : Nat) : Int) < (n : Int) := by omega
              have hm3 : (m : Int) ≥ 0 := by omega
              have hx3 : ((nx s p m : Nat) : Int) ≥ 0 := by omega
              have HN := hid (fun (W : World) => next_any s p m W a b c d h1 h2 (by omega))
              clear hrow hr hx
              generalize nx s p m = q at *
              generalize out q = ov at *
              have HH2 := hid (fun (W : World) (hb : But w R W) => HH.out W m ov hb hm)
              generalize h m ov = v at *
              go_wp2_with fail
              refine wp_region_over (by kernel_rfl) (by kernel_rfl) ?_; (repeat (go_big_quiet_step ((first | (go_at_call 41; with_reducible exact Calls.over (HN.out _)) | (go_at_call 42; with_reducible exact Calls.over (HH2.out _ (HBB.out.next (over_below _ _)))))))); refine wpQuiet_nil ?_; rintro _ ⟨xq, rfl⟩
              have BX := hid (HBB.out.next (over_below wr xq))
              have RX := hid (show BRow (wr.over xq) R n out from Row.below HROW2.out (over_below wr xq))
              have r0' : (wr.over xq).cell? ⟨R, m, none⟩ = some (.bool (out m)) := RX.out.2.1 m hm
              have o' := But.box1 BX.out hRO HO.out
              rw [show (((n : Nat) : Int).toNat) = n by omega] at o'
              have rz' := RX.out.2.2
              have rl' := RX.out.1
              obtain ⟨o0', o1', o2'⟩ := o'
              clear r0 r1 rz rl o0 o1 o2 l0 l1 l2 l3 l4
              by_cases hvo : v = out m
              · have e1 : (v != out m) = false := by simpa using hvo
                have HS2 := HSTEP.out
                rw [e1, Bool.or_false, hvo, upd_same] at HS2
                have HS3 := hid HS2
                rw [← hvo] at r0'
                clear HS2 HSTEP hvo e1
                go_wp2_with fail
                go_roundw
                case rel => exact ⟨m, ch, out, by omega, rfl, ⟨_, rfl, rfl⟩, BX.out, RX.out, HS3⟩
                case measure => simp [intOf]
              · have e1 : (v != out m) = true := by simpa using hvo
                have HS2 := HSTEP.out
                rw [e1, Bool.or_true] at HS2
                have HS3 := hid HS2
                have RY := hid (brow_upd RX.out hm v)
                have e2 : out m = !v := by cases v <;> cases h0 : out m <;> simp_all
                rw [e2] at r0'
                clear HS2 HSTEP hvo e1 e2
                cases v
                all_goals
                  first
                    | rw [Bool.not_true] at r0'
                    | rw [Bool.not_false] at r0'
                  go_wp2_with fail
                  go_roundw
                  case rel => exact ⟨m, true, _, by omega, rfl, ⟨_, rfl, rfl⟩, BX.out.trans (But.set _ _ _ _), RY.out, HS3⟩
                  case measure => simp [intOf]
end Lasso
end Go.Proofs.Ytkjnmkjdooebmaa
