/- Joined texts (Fix3, Fix2, TruthsI): contracts and plain laws. Conditions: those of each theorem. -/
import Derived.Test.YtbeljjalfhogdaaJL3
import Derived.Test.YtbeljjalfhogdaaJL8
import Derived.Test.YtbeljjalfhogdaaJL2
namespace Go.Proofs.Ytbeljjalfhogdaa
open Go.RowKit
namespace Lasso

set_option maxRecDepth 100000 in
set_option maxHeartbeats 4000000 in
theorem fix3_any (s p : Nat) (st : Bool) (h : Nat → Bool → Bool) (F f0 : Nat → Bool) (hs : FixSol (s + p) (nx s p) st h F) (w : World) (R O L K : Nat) (a b : Option Addr) (c d : Nat) (h1 : s ≤ 1000) (h2 : p ≤ 1000) (h3 : 0 < p)
    (hR : BRow w R (s + p) f0) (hO : Box1 w O (.slice (some ⟨R, 0, none⟩) ((s + p : Nat) : Int).toNat ((s + p : Nat) : Int).toNat)) (hL : PBox w L (.slice a s c) (.slice b p d)) (hRO : O ≠ R) (hRL : L ≠ R)
    (hH : ∀ (W : World) (i : Nat) (x : Bool), But w R W → i < s + p → Calls Try.prog 65 #[.int .i64 i, .bool x, .pointer (some ⟨K, 0, none⟩)] W (Ret (.bool (h i x)) W)) :
    Calls Try.prog 62 #[.bool st, .func (.func 65) #[] #[.pointer (some ⟨K, 0, none⟩)], .pointer (some ⟨O, 0, none⟩), .pointer (some ⟨L, 0, none⟩)] w (FixPost R (s + p) F w) := by
  have HS := hid hs
  have HH := hid hH
  have HO := hid hO
  have HL := hid hL
  have HR := hid hR
  clear hs hH hO hL hR
  generalize hn : s + p = n at *
  have hn0 : 0 < n := by omega
  obtain ⟨o0, o1, o2⟩ := HO.out
  rw [show (((n : Nat) : Int).toNat) = n by omega] at o1
  go_enter Try.func62, Try.ntmps62
  go_wp2_with fail
  go_loopw [6, 12] (fun _ i wr => ∃ (k : Nat) (f : Nat → Bool), k ≤ n ∧ i = .int .i64 k ∧ But w R wr ∧ BRow wr R n f ∧ Hid (∀ j, j < k → f j = st)) (fun _ i _ => n - (intOf i).toNat)
  case atStart => exact ⟨0, f0, Nat.zero_le _, rfl, But.refl _ _, HR.out, hid (by omega)⟩
  case round =>
    obtain ⟨k, f, hk, rfl, B, hrow, hf⟩ := hrel
    obtain ⟨o0, o1, o2⟩ := But.box1 B hRO HO.out
    rw [show (((n : Nat) : Int).toNat) = n by omega] at o1
    by_cases hlt : k < n
    · have r0 := hrow.2.1 k hlt
      have rz := hrow.2.2
      have rl := hrow.1
      have hstep := hid (brow_upd hrow hlt st)
      have hlt2 : (k : Int) < (n : Int) := by omega
      clear hrow
      go_wp2_with fail
      go_roundw
      case rel =>
        refine ⟨k + 1, _, by omega, by go_num, B.trans (But.set _ _ _ _), hstep.out, hid fun j hj => ?_⟩
        unfold upd
        split
        · rfl
        · exact hf.out j (by omega)
      case measure => simp [intOf]; omega
    · have hlt2 : ¬ ((k : Int) < (n : Int)) := by omega
      have hI := hid (fixInv_start (nxt := nx s p) (h := h) (F := F) (fun j hj => hf.out j (by omega)) : FixInv n (nx s p) st h F f)
      have HROW := hid hrow
      clear hf hrow
      go_wp2_with fail
      go_loopw [7, 8, 9] (fun q _ _ wr => ∃ (ch : Bool) (out : Nat → Bool), q = .bool ch ∧ But w R wr ∧ BRow wr R n out ∧ Hid (FixInv n (nx s p) st h F out ∧ (ch = false → ∀ k, k < n → out k = h k (out (nx s p k))))) (fun q _ _ W => if isT q = true then 1 + (n - cntB (!st) (outOf W R) n) else 0)
      case atStart => exact ⟨true, f, rfl, B, HROW.out, hid ⟨hI.out, by simp⟩⟩
      case round =>
        obtain ⟨ch, out0, rfl, B0, hrow0, hfx⟩ := hrel
        obtain ⟨o0, o1, o2⟩ := But.box1 B0 hRO HO.out
        rw [show (((n : Nat) : Int).toNat) = n by omega] at o1
        cases ch with
        | false =>
          have hfin := hid (show BRow wr R n F from hrow0.congr fun i hi => by rw [hfx.out.1.done HS.out (hfx.out.2 rfl) i hi])
          clear hrow0
          go_wp2_with fail
          refine bodyPost_ret (v := .tuple #[]) (by simp [results, Try.results62]) rfl ?_
          exact ⟨rfl, B0, hfin.out⟩
        | true =>
          have HR0 := hid hrow0
          have f1 : IntKind.i64.wrap ((n : Int) - 1) = (n : Int) - 1 := IntWalk.i64_in _ (by omega)
          clear hrow0
          go_wp2_with fail
          go_loopw [7, 8, 9] (fun q i _ wr => ∃ (k : Nat) (ch : Bool) (out : Nat → Bool), k ≤ n ∧ q = .bool ch ∧ (∃ z : Int, i = .int .i64 z ∧ z = (k : Int) - 1) ∧ But w R wr ∧ BRow wr R n out ∧ Hid (FixRel n (nx s p) st h F out0 k ch out)) (fun _ i _ _ => (intOf i + 1).toNat)
          case atStart => exact ⟨n, false, out0, Nat.le_refl _, rfl, ⟨_, rfl, rfl⟩, B0, HR0.out, hid (FixRel.start hfx.out.1)⟩
          case round =>
            obtain ⟨k, ch, out, hk, rfl, ⟨z, rfl, hz⟩, B, hrow, hr⟩ := hrel
            obtain ⟨o0, o1, o2⟩ := But.box1 B hRO HO.out
            rw [show (((n : Nat) : Int).toNat) = n by omega] at o1
            obtain ⟨l0, l1, l2, l3, l4⟩ := But.pbox B hRL HL.out
            by_cases hk0 : k = 0
            · subst hk0
              have hz3 : ¬ (z ≥ 0) := by omega
              have HROW2 := hid hrow
              have e1 := fun i hi => outOf_row HR0.out (i := i) hi
              have e2 := fun i hi => outOf_row hrow (i := i) hi
              clear hrow
              go_wp2_with fail
              go_roundw
              case rel => exact ⟨ch, out, rfl, B, HROW2.out, hid ⟨hr.out.inv, fun hc k hk => (hr.out.no hc).2 k (Nat.zero_le _) hk⟩⟩
              case measure =>
                rw [cntB_congr e1, cntB_congr e2]
                have hle := cntB_le_n (!st) out n
                cases ch with
                | false => simp [isT]; omega
                | true => have := hr.out.yes rfl; simp [isT]; omega
            · obtain ⟨m, rfl⟩ : ∃ m, k = m + 1 := ⟨k - 1, by omega⟩
              obtain rfl : z = (m : Int) := by omega
              clear hz hk0
              have hm : m < n := by omega
              have hx : nx s p m < n := HS.out.lt m hm
              have r0 : wr.cell? ⟨R, m, none⟩ = some (.bool (out m)) := hrow.2.1 m hm
              have r1 : wr.cell? ⟨R, nx s p m, none⟩ = some (.bool (out (nx s p m))) := hrow.2.1 _ hx
              have rz := hrow.2.2
              have rl := hrow.1
              have HSTEP := hid (FixRel.step HS.out (k := m) hm hr.out)
              have HROW2 := hid hrow
              have HBB := hid B
              have hm2 : (m : Int) < (n : Int) := by omega
              have hx2 : ((nx s p m : Nat) : Int) < (n : Int) := by omega
              have hm3 : (m : Int) ≥ 0 := by omega
              have hx3 : ((nx s p m : Nat) : Int) ≥ 0 := by omega
              have HN := hid (fun (W : World) => next_any s p m W a b c d h1 h2 (by omega))
              clear hrow hr hx
              generalize nx s p m = q at *
              generalize out q = ov at *
              have HH2 := hid (fun (W : World) (hb : But w R W) => HH.out W m ov hb hm)
              generalize h m ov = v at *
              go_wp2_with fail
              refine wp_region_over (by kernel_rfl) (by kernel_rfl) ?_; (repeat (go_big_quiet_step ((first | (go_at_call 63; with_reducible exact Calls.over (HN.out _)) | (go_at_call 65; with_reducible exact Calls.over (HH2.out _ (HBB.out.next (over_below _ _)))))))); refine wpQuiet_nil ?_; rintro _ ⟨xq, rfl⟩
              have BX := hid (HBB.out.next (over_below wr xq))
              have RX := hid (show BRow (wr.over xq) R n out from Row.below HROW2.out (over_below wr xq))
              have r0' : (wr.over xq).cell? ⟨R, m, none⟩ = some (.bool (out m)) := RX.out.2.1 m hm
              have o' := But.box1 BX.out hRO HO.out
              rw [show (((n : Nat) : Int).toNat) = n by omega] at o'
              have rz' := RX.out.2.2
              have rl' := RX.out.1
              obtain ⟨o0', o1', o2'⟩ := o'
              clear r0 r1 rz rl o0 o1 o2 l0 l1 l2 l3 l4
              by_cases hvo : v = out m
              · have e1 : (v != out m) = false := by simpa using hvo
                have HS2 := HSTEP.out
                rw [e1, Bool.or_false, hvo, upd_same] at HS2
                have HS3 := hid HS2
                rw [← hvo] at r0'
                clear HS2 HSTEP hvo e1
                go_wp2_with fail
                go_roundw
                case rel => exact ⟨m, ch, out, by omega, rfl, ⟨_, rfl, rfl⟩, BX.out, RX.out, HS3⟩
                case measure => simp [intOf]
              · have e1 : (v != out m) = true := by simpa using hvo
                have HS2 := HSTEP.out
                rw [e1, Bool.or_true] at HS2
                have HS3 := hid HS2
                have RY := hid (brow_upd RX.out hm v)
                have e2 : out m = !v := by cases v <;> cases h0 : out m <;> simp_all
                rw [e2] at r0'
                clear HS2 HSTEP hvo e1 e2
                cases v
                all_goals
                  first
                    | rw [Bool.not_true] at r0'
                    | rw [Bool.not_false] at r0'
                  go_wp2_with fail
                  go_roundw
                  case rel => exact ⟨m, true, _, by omega, rfl, ⟨_, rfl, rfl⟩, BX.out.trans (But.set _ _ _ _), RY.out, HS3⟩
                  case measure => simp [intOf]
end Lasso
end Go.Proofs.Ytbeljjalfhogdaa
namespace Go.Proofs.Ytbeljjalfhogdaa
open Go.RowKit
namespace Lasso

set_option maxRecDepth 100000 in
set_option maxHeartbeats 4000000 in
theorem fix2_any (s p : Nat) (st : Bool) (h : Nat → Bool → Bool) (F f0 : Nat → Bool) (hs : FixSol (s + p) (nx s p) st h F) (w : World) (R O L K : Nat) (a b : Option Addr) (c d : Nat) (h1 : s ≤ 1000) (h2 : p ≤ 1000) (h3 : 0 < p)
    (hR : BRow w R (s + p) f0) (hO : Box1 w O (.slice (some ⟨R, 0, none⟩) ((s + p : Nat) : Int).toNat ((s + p : Nat) : Int).toNat)) (hL : PBox w L (.slice a s c) (.slice b p d)) (hRO : O ≠ R) (hRL : L ≠ R)
    (hH : ∀ (W : World) (i : Nat) (x : Bool), But w R W → i < s + p → Calls Try.prog 64 #[.int .i64 i, .bool x, .pointer (some ⟨K, 0, none⟩)] W (Ret (.bool (h i x)) W)) :
    Calls Try.prog 62 #[.bool st, .func (.func 64) #[] #[.pointer (some ⟨K, 0, none⟩)], .pointer (some ⟨O, 0, none⟩), .pointer (some ⟨L, 0, none⟩)] w (FixPost R (s + p) F w) := by
  have HS := hid hs
  have HH := hid hH
  have HO := hid hO
  have HL := hid hL
  have HR := hid hR
  clear hs hH hO hL hR
  generalize hn : s + p = n at *
  have hn0 : 0 < n := by omega
  obtain ⟨o0, o1, o2⟩ := HO.out
  rw [show (((n : Nat) : Int).toNat) = n by omega] at o1
  go_enter Try.func62, Try.ntmps62
  go_wp2_with fail
  go_loopw [6, 12] (fun _ i wr => ∃ (k : Nat) (f : Nat → Bool), k ≤ n ∧ i = .int .i64 k ∧ But w R wr ∧ BRow wr R n f ∧ Hid (∀ j, j < k → f j = st)) (fun _ i _ => n - (intOf i).toNat)
  case atStart => exact ⟨0, f0, Nat.zero_le _, rfl, But.refl _ _, HR.out, hid (by omega)⟩
  case round =>
    obtain ⟨k, f, hk, rfl, B, hrow, hf⟩ := hrel
    obtain ⟨o0, o1, o2⟩ := But.box1 B hRO HO.out
    rw [show (((n : Nat) : Int).toNat) = n by omega] at o1
    by_cases hlt : k < n
    · have r0 := hrow.2.1 k hlt
      have rz := hrow.2.2
      have rl := hrow.1
      have hstep := hid (brow_upd hrow hlt st)
      have hlt2 : (k : Int) < (n : Int) := by omega
      clear hrow
      go_wp2_with fail
      go_roundw
      case rel =>
        refine ⟨k + 1, _, by omega, by go_num, B.trans (But.set _ _ _ _), hstep.out, hid fun j hj => ?_⟩
        unfold upd
        split
        · rfl
        · exact hf.out j (by omega)
      case measure => simp [intOf]; omega
    · have hlt2 : ¬ ((k : Int) < (n : Int)) := by omega
      have hI := hid (fixInv_start (nxt := nx s p) (h := h) (F := F) (fun j hj => hf.out j (by omega)) : FixInv n (nx s p) st h F f)
      have HROW := hid hrow
      clear hf hrow
      go_wp2_with fail
      go_loopw [7, 8, 9] (fun q _ _ wr => ∃ (ch : Bool) (out : Nat → Bool), q = .bool ch ∧ But w R wr ∧ BRow wr R n out ∧ Hid (FixInv n (nx s p) st h F out ∧ (ch = false → ∀ k, k < n → out k = h k (out (nx s p k))))) (fun q _ _ W => if isT q = true then 1 + (n - cntB (!st) (outOf W R) n) else 0)
      case atStart => exact ⟨true, f, rfl, B, HROW.out, hid ⟨hI.out, by simp⟩⟩
      case round =>
        obtain ⟨ch, out0, rfl, B0, hrow0, hfx⟩ := hrel
        obtain ⟨o0, o1, o2⟩ := But.box1 B0 hRO HO.out
        rw [show (((n : Nat) : Int).toNat) = n by omega] at o1
        cases ch with
        | false =>
          have hfin := hid (show BRow wr R n F from hrow0.congr fun i hi => by rw [hfx.out.1.done HS.out (hfx.out.2 rfl) i hi])
          clear hrow0
          go_wp2_with fail
          refine bodyPost_ret (v := .tuple #[]) (by simp [results, Try.results62]) rfl ?_
          exact ⟨rfl, B0, hfin.out⟩
        | true =>
          have HR0 := hid hrow0
          have f1 : IntKind.i64.wrap ((n : Int) - 1) = (n : Int) - 1 := IntWalk.i64_in _ (by omega)
          clear hrow0
          go_wp2_with fail
          go_loopw [7, 8, 9] (fun q i _ wr => ∃ (k : Nat) (ch : Bool) (out : Nat → Bool), k ≤ n ∧ q = .bool ch ∧ (∃ z : Int, i = .int .i64 z ∧ z = (k : Int) - 1) ∧ But w R wr ∧ BRow wr R n out ∧ Hid (FixRel n (nx s p) st h F out0 k ch out)) (fun _ i _ _ => (intOf i + 1).toNat)
          case atStart => exact ⟨n, false, out0, Nat.le_refl _, rfl, ⟨_, rfl, rfl⟩, B0, HR0.out, hid (FixRel.start hfx.out.1)⟩
          case round =>
            obtain ⟨k, ch, out, hk, rfl, ⟨z, rfl, hz⟩, B, hrow, hr⟩ := hrel
            obtain ⟨o0, o1, o2⟩ := But.box1 B hRO HO.out
            rw [show (((n : Nat) : Int).toNat) = n by omega] at o1
            obtain ⟨l0, l1, l2, l3, l4⟩ := But.pbox B hRL HL.out
            by_cases hk0 : k = 0
            · subst hk0
              have hz3 : ¬ (z ≥ 0) := by omega
              have HROW2 := hid hrow
              have e1 := fun i hi => outOf_row HR0.out (i := i) hi
              have e2 := fun i hi => outOf_row hrow (i := i) hi
              clear hrow
              go_wp2_with fail
              go_roundw
              case rel => exact ⟨ch, out, rfl, B, HROW2.out, hid ⟨hr.out.inv, fun hc k hk => (hr.out.no hc).2 k (Nat.zero_le _) hk⟩⟩
              case measure =>
                rw [cntB_congr e1, cntB_congr e2]
                have hle := cntB_le_n (!st) out n
                cases ch with
                | false => simp [isT]; omega
                | true => have := hr.out.yes rfl; simp [isT]; omega
            · obtain ⟨m, rfl⟩ : ∃ m, k = m + 1 := ⟨k - 1, by omega⟩
              obtain rfl : z = (m : Int) := by omega
              clear hz hk0
              have hm : m < n := by omega
              have hx : nx s p m < n := HS.out.lt m hm
              have r0 : wr.cell? ⟨R, m, none⟩ = some (.bool (out m)) := hrow.2.1 m hm
              have r1 : wr.cell? ⟨R, nx s p m, none⟩ = some (.bool (out (nx s p m))) := hrow.2.1 _ hx
              have rz := hrow.2.2
              have rl := hrow.1
              have HSTEP := hid (FixRel.step HS.out (k := m) hm hr.out)
              have HROW2 := hid hrow
              have HBB := hid B
              have hm2 : (m : Int) < (n : Int) := by omega
              have hx2 : ((nx s p m : Nat) : Int) < (n : Int) := by omega
              have hm3 : (m : Int) ≥ 0 := by omega
              have hx3 : ((nx s p m : Nat) : Int) ≥ 0 := by omega
              have HN := hid (fun (W : World) => next_any s p m W a b c d h1 h2 (by omega))
              clear hrow hr hx
              generalize nx s p m = q at *
              generalize out q = ov at *
              have HH2 := hid (fun (W : World) (hb : But w R W) => HH.out W m ov hb hm)
              generalize h m ov = v at *
              go_wp2_with fail
              refine wp_region_over (by kernel_rfl) (by kernel_rfl) ?_; (repeat (go_big_quiet_step ((first | (go_at_call 63; with_reducible exact Calls.over (HN.out _)) | (go_at_call 64; with_reducible exact Calls.over (HH2.out _ (HBB.out.next (over_below _ _)))))))); refine wpQuiet_nil ?_; rintro _ ⟨xq, rfl⟩
              have BX := hid (HBB.out.next (over_below wr xq))
              have RX := hid (show BRow (wr.over xq) R n out from Row.below HROW2.out (over_below wr xq))
              have r0' : (wr.over xq).cell? ⟨R, m, none⟩ = some (.bool (out m)) := RX.out.2.1 m hm
              have o' := But.box1 BX.out hRO HO.out
              rw [show (((n : Nat) : Int).toNat) = n by omega] at o'
              have rz' := RX.out.2.2
              have rl' := RX.out.1
              obtain ⟨o0', o1', o2'⟩ := o'
              clear r0 r1 rz rl o0 o1 o2 l0 l1 l2 l3 l4
              by_cases hvo : v = out m
              · have e1 : (v != out m) = false := by simpa using hvo
                have HS2 := HSTEP.out
                rw [e1, Bool.or_false, hvo, upd_same] at HS2
                have HS3 := hid HS2
                rw [← hvo] at r0'
                clear HS2 HSTEP hvo e1
                go_wp2_with fail
                go_roundw
                case rel => exact ⟨m, ch, out, by omega, rfl, ⟨_, rfl, rfl⟩, BX.out, RX.out, HS3⟩
                case measure => simp [intOf]
              · have e1 : (v != out m) = true := by simpa using hvo
                have HS2 := HSTEP.out
                rw [e1, Bool.or_true] at HS2
                have HS3 := hid HS2
                have RY := hid (brow_upd RX.out hm v)
                have e2 : out m = !v := by cases v <;> cases h0 : out m <;> simp_all
                rw [e2] at r0'
                clear HS2 HSTEP hvo e1 e2
                cases v
                all_goals
                  first
                    | rw [Bool.not_true] at r0'
                    | rw [Bool.not_false] at r0'
                  go_wp2_with fail
                  go_roundw
                  case rel => exact ⟨m, true, _, by omega, rfl, ⟨_, rfl, rfl⟩, BX.out.trans (But.set _ _ _ _), RY.out, HS3⟩
                  case measure => simp [intOf]
end Lasso
end Go.Proofs.Ytbeljjalfhogdaa
namespace Go.Proofs.Ytbeljjalfhogdaa
open Go.RowKit
namespace Lasso

theorem below_d2 {B : Nat} {w W : World} (h : Below B w W) : Below B w W.drew := h.drew
theorem semL_map (w : Nat → Int) : ∀ l, semL w l = l.map (sem w)
  | [] => rfl
  | t :: ts => by rw [semL, semL_map w ts]; rfl
/-- a lasso that is not too long, of letters -/
structure LasOk (stem loop : List Int) : Prop where
  s : stem.length ≤ 80
  p0 : 1 ≤ loop.length
  p : loop.length ≤ 80
  lets : ∀ n, n ∈ stem ++ loop → 0 ≤ n ∧ n ≤ 7
theorem LasOk.i64 {stem loop : List Int} (h : LasOk stem loop) : ∀ n, n ∈ stem ++ loop → i64 n := fun n hn => by have := h.lets n hn; unfold Go.Proofs.Ytbeljjalfhogdaa.i64; omega
/-- what truths comes to -/
def TruPost (n : Nat) (F : Nat → Bool) (w : World) (e : Ending) (w' : World) : Prop := ∃ R, e = .returned (.slice (some ⟨R, 0, none⟩) n n) ∧ w.heap.size ≤ R ∧ BRow w' R n F ∧ Below w.heap.size w w'
def TruT (stem loop : List Int) (t : Tr) : Prop := ∀ (m : Nat) (w : World) (x y : Value), formL.shape t m = true → TrIn Any w t y → PairIn Any w stem loop x → NilOk x →
  Calls Try.prog 33 #[x, y] w (TruPost (stem.length + loop.length) (sem (wordOf stem loop) t) w)

/-- behind the loop over the operands -/
def KidsAt (w : World) (B K : Nat) (n : Nat) (fs : List (Nat → Bool)) (wr : World) : Prop := Below w.heap.size w wr ∧ ∃ u, Box1 wr K u ∧ OwnK B u n fs wr

set_option maxRecDepth 100000 in
set_option maxHeartbeats 4000000 in
theorem tru_of (stem loop : List Int) (hok : LasOk stem loop) (k v : Int) (kids : List Tr) (h : ∀ t, t ∈ kids → TruT stem loop t) : TruT stem loop (.mk k v kids) := by
  intro m w x y hs hy hx hn
  have HSH := hid (formL.shape_mk hs)
  have hkn : kids.length ≤ 2 := by
    obtain ⟨_, _, _, _, _, _, har, _⟩ := HSH.out
    rw [formL_ar] at har
    have : (kids.length : Int) ≤ 2 := by rw [har]; split; omega; split <;> omega
    omega
  have HX := hid hx
  have HN := hid hn
  rw [TrIn_mk] at hy
  obtain ⟨ak, nk, ck, rfl, hk, hv, rfl, hc, hc2, hks⟩ := hy
  have HKS := hid hks
  obtain ⟨a, b, c, d, rfl, _, _, hcs, hcs2, hds, hds2⟩ := hx
  have HALL := hid (fun (w' : World) (M : Below w.heap.size w w') => all_any stem loop w' _ (HX.out.below M) HN.out (by have := hok.s; omega) (by have := hok.p; omega))
  have HSEM := hid (show sem (wordOf stem loop) (.mk k v kids) = semN (wordOf stem loop) k v (kids.map (sem (wordOf stem loop))) by rw [sem, semL_map])
  have hlen : (stem ++ loop).length = stem.length + loop.length := by simp
  have HI := hid hok.i64
  have HLT := hid hok.lets
  have hsL := hok.s
  have hpL := hok.p
  have hp0 := hok.p0
  have hatom : k = 2 → 0 ≤ v ∧ v ≤ 2 := by
    rintro rfl
    obtain ⟨_, _, _, _, h4, h5, _⟩ := HSH.out
    exact ⟨h4, by simpa [formL] using h5⟩
  clear hs hn hks hk hv hc2
  have HPER := hid (fun (f : Nat → Bool) (hf : f ∈ kids.map (sem (wordOf stem loop))) => show Per stem.length loop.length f by
    obtain ⟨t, _, rfl⟩ := List.mem_map.1 hf
    exact sem_per (wordOf_per stem loop) t)
  have HFX2 := hid (fun st h F f0 hs w R O L K => fix2_any stem.length loop.length st h F f0 hs w R O L K a b c d (by have := hok.s; omega) (by have := hok.p; omega) hok.p0)
  have HFX3 := hid (fun st h F f0 hs w R O L K => fix3_any stem.length loop.length st h F f0 hs w R O L K a b c d (by have := hok.s; omega) (by have := hok.p; omega) hok.p0)
  have HFX4 := hid (fun st h F f0 hs w R O L K => fix4_any stem.length loop.length st h F f0 hs w R O L K a b c d (by have := hok.s; omega) (by have := hok.p; omega) hok.p0)
  have HFX5 := hid (fun st h F f0 hs w R O L K => fix5_any stem.length loop.length st h F f0 hs w R O L K a b c d (by have := hok.s; omega) (by have := hok.p; omega) hok.p0)
  have HFU := hid (fun (a b : Nat → Bool) (ha : Per stem.length loop.length a) (hb : Per stem.length loop.length b) => fix_unt hok.p0 ha hb)
  have HFR := hid (fun (a b : Nat → Bool) (ha : Per stem.length loop.length a) (hb : Per stem.length loop.length b) => fix_rls hok.p0 ha hb)
  generalize hfs : kids.map (sem (wordOf stem loop)) = fs at *
  have HFS := hid hfs
  clear hok
  have HWO := hid (fun (i : Nat) (hi : i < stem.length + loop.length) => wordOf_all (stem := stem) (loop := loop) hi)
  have HH := hid (fun t ht m w x y hs hy hx hn => h t ht m w x y hs hy hx hn)
  clear hfs h
  generalize wordOf stem loop = wd at *
  generalize stem ++ loop = word at *
  generalize hN : stem.length + loop.length = n at *
  have hN1 := hid hN
  have hmk := make_bools n (by omega)
  go_enter Try.func33, Try.ntmps33
  go_wp2_with fail
  refine (HALL.out _ (by repeat (first | exact Below.refl _ _ | assumption | refine below_a ?_ _ | refine below_o ?_ _ | refine below_d ?_ | refine below_n ?_ _ | refine below_s ?_ (by first | (simp; done) | (simp; omega) | omega) _))).mono ?_
  rintro e w1 ⟨vw, rfl, hvw, hb⟩
  obtain ⟨aw, cw, rfl, hcw, hcw2, hiw⟩ := OwnI.ints hvw HI.out
  have HIW := hid hiw
  have b2 := pbox_next hb (pbox_next (below_alloc _ _) (pbox_at (w := w) (a := .slice a stem.length c) (b := .slice b loop.length d) rfl))
  have b3 := box3_next hb (box3_at (w := w.alloc _) (B := w.heap.size + 1) (a := .int .i64 k) (b := .int .i64 v) (c := .slice ak kids.length ck) (t := 29) (by simp))
  have B := hid (below_next (show Below w.heap.size w _ from below_next (below_alloc _ _) (below_alloc _ _)) hb)
  rw [hlen] at hcw ⊢
  have HLEN := hid hlen
  clear hlen
  have hw1 : w.heap.size + 2 ≤ w1.heap.size := by have := b3.1; omega
  have Q2 := hid b2
  have Q3 := hid b3
  obtain ⟨z3, q0, q1, q2, _⟩ := b3
  clear hvw hb hiw b2
  go_wp2_with fail
  go_loopw [17] (fun i wr => ∃ j : Nat, j ≤ kids.length ∧ i = .int .i64 j ∧ Hid (Below w1.heap.size w1 wr) ∧ ∃ u, Box1 wr w1.heap.size u ∧ Hid (OwnK (w1.heap.size + 1) u n (fs.take j) wr)) (fun i _ => kids.length - (intOf i).toNat)
  case atStart => exact ⟨0, Nat.zero_le _, rfl, hid (below_alloc _ _), _, box1_at rfl, hid (by simpa using OwnK.nil _ _ _)⟩
  case round =>
    obtain ⟨j, hj, rfl, BK, u, c1, hown⟩ := hrel
    have hsz := c1.1
    have BB := hid (below_next B.out BK.out)
    by_cases hlt : j < kids.length
    · obtain ⟨bk, ok, c0, c10, c20, t, rfl, gb, g0, g1, g2, hT⟩ := TrsIn_round HKS.out BB.out hlt
      obtain ⟨a4, n4, hsh⟩ := TrIn_shape hT.out.1
      simp only [Value.agg.injEq, Array.mk.injEq, List.cons.injEq, and_true] at hsh
      obtain ⟨rfl, rfl, rfl⟩ := hsh
      have HT := hid hT
      have hlt2 : (j : Int) < (kids.length : Int) := by omega
      have HB := hid (HH.out t hT.out.2.1)
      obtain ⟨D, hD1, hD2, hDw, hD3⟩ : ∃ D, D ≠ w1.heap.size ∧ w1.heap.size < D ∧ D ≠ wr.heap.size ∧ ∀ k, u.ownBlock = some k → k = D := by
        cases hu : u.ownBlock with
        | none => exact ⟨wr.heap.size + 1, by omega, by omega, by omega, by simp⟩
        | some k => have := hown.out.lt k hu; exact ⟨k, by omega, by omega, by omega, by simp⟩
      clear hT
      go_wp2_with fail
      have z1 := Q2.out.1
      have z2 := Q3.out.1
      obtain ⟨y1, y2, y3⟩ := id c1
      have p2 := pbox_next BK.out Q2.out
      have hLc : ∀ x, ((wr.alloc (.cells #[.int .i64 t.kind, .int .i64 t.val, .slice a4 t.kids.length n4] 29)).overX (wr.heap.size + 1) D x).cell? ⟨w1.heap.size, 0, none⟩ = some u := fun x => by
        rw [overX_cell _ _ _ _ _ _ (by omega) (Ne.symm hD1), World.cell?_alloc_lt (h := by exact y1)]; exact y2
      have hP0 : ∀ x, ((wr.alloc (.cells #[.int .i64 t.kind, .int .i64 t.val, .slice a4 t.kids.length n4] 29)).overX (wr.heap.size + 1) D x).cell? ⟨w.heap.size, 0, none⟩ = some (.slice a stem.length c) := fun x => by
        rw [overX_cell _ _ _ _ _ _ (by omega) (by omega), World.cell?_alloc_lt (h := by exact p2.1)]; exact p2.2.1
      have hP1 : ∀ x, ((wr.alloc (.cells #[.int .i64 t.kind, .int .i64 t.val, .slice a4 t.kids.length n4] 29)).overX (wr.heap.size + 1) D x).cell? ⟨w.heap.size, 1, none⟩ = some (.slice b loop.length d) := fun x => by
        rw [overX_cell _ _ _ _ _ _ (by omega) (by omega), World.cell?_alloc_lt (h := by exact p2.1)]; exact p2.2.2.1
      have b4 := box3_new wr (.int .i64 t.kind) (.int .i64 t.val) (.slice a4 t.kids.length n4) 29
      obtain ⟨e0, e1, e2, e3, _⟩ := b4
      have hE0 : ∀ x, ((wr.alloc (.cells #[.int .i64 t.kind, .int .i64 t.val, .slice a4 t.kids.length n4] 29)).overX (wr.heap.size + 1) D x).cell? ⟨wr.heap.size, 0, none⟩ = some (.int .i64 t.kind) := fun x => by
        rw [overX_cell _ _ _ _ _ _ (by omega) (Ne.symm hDw)]; exact e1
      have hE1 : ∀ x, ((wr.alloc (.cells #[.int .i64 t.kind, .int .i64 t.val, .slice a4 t.kids.length n4] 29)).overX (wr.heap.size + 1) D x).cell? ⟨wr.heap.size, 1, none⟩ = some (.int .i64 t.val) := fun x => by
        rw [overX_cell _ _ _ _ _ _ (by omega) (Ne.symm hDw)]; exact e2
      have hE2 : ∀ x, ((wr.alloc (.cells #[.int .i64 t.kind, .int .i64 t.val, .slice a4 t.kids.length n4] 29)).overX (wr.heap.size + 1) D x).cell? ⟨wr.heap.size, 2, none⟩ = some (.slice a4 t.kids.length n4) := fun x => by
        rw [overX_cell _ _ _ _ _ _ (by omega) (Ne.symm hDw)]; exact e3
      refine wp_region_tail (C := fun wZ => ∃ xZ, wZ = World.overX _ (wr.heap.size + 1) (D) xZ) [0,1,2] [3,4,5,6] (6) (by kernel_rfl) (by kernel_rfl) (fun d _ _ _ _ h => by cases d <;> exact h) (ButX.refl _ _ _).drew.ex ?_; simp only [pick, List.getElem?_cons_succ, List.getElem?_cons_zero]; (repeat (go_big_quiet_step (fail))); refine wpQuiet_nil ?_; simp only [tailW]
      obtain ⟨m2, _, _, _, _, _, har, hsk⟩ := HSH.out
      have hkl : (fs.take j).length ≤ 1000000 := by
        rw [List.length_take]
        omega
      have HSK := hid (hsk t HT.out.2.1)
      have hfst := hid (show fs.take (j + 1) = fs.take j ++ [sem wd t] by
        rw [List.take_add_one, ← HFS.out, List.getElem?_map, HT.out.2.2.2]; rfl)
      clear hsk har hLc hP0 hP1 hE0 hE1 hE2 g0 g1 g2 e0 e1 e2 e3
      have BW := hid (show Below wr.heap.size wr (wr.alloc (.cells #[.int .i64 t.kind, .int .i64 t.val, .slice a4 t.kids.length n4] 29)).drew from below_d (below_alloc _ _))
      go_wp2_with fail
      refine (HB.out m2 _ _ _ HSK.out (TrIn_below BW.out HT.out.1) (HX.out.below (below_next BB.out BW.out)) HN.out).mono ?_
      rintro e w4 ⟨R, rfl, hR, hrow, hb4⟩
      have hR2 : wr.heap.size + 1 ≤ R := by simpa using hR
      have hs4 := hrow.1
      have x4 : ButX (wr.heap.size + 1) D (wr.alloc (.cells #[.int .i64 t.kind, .int .i64 t.val, .slice a4 t.kids.length n4] 29)) w4 := ButX.below (below_next (below_d (Below.refl _ _)) hb4) (by simp)
      have K4 : Keep (w1.heap.size + 1) wr w4 := Keep.below (below_next BW.out hb4)
      have B4 := hid (below_next BK.out (below_next BW.out hb4))
      clear hR
      go_wp2_with fail
      refine ⟨x4.ex, ?_⟩
      go_wp2_with fail
      refine ⟨(x4.next (below_alloc _ _) (by omega)).ex, ?_⟩
      refine wp_append_kid rfl (.tmp 21) (.tmp 25) rfl rfl rfl hown.out (by omega) K4 (by omega) hrow hkl ?_
      intro a5 n5 m5 w5 ho5 hb5 hbD
      have x5 : ButX (wr.heap.size + 1) D (wr.alloc (.cells #[.int .i64 t.kind, .int .i64 t.val, .slice a4 t.kids.length n4] 29)) w5 := x4.trans (ButX.but (hbD D hD3) (by omega))
      have c5 := box1_butx x5 (by omega) (Ne.symm hD1) (box1_next (below_alloc _ _) c1)
      have B5 := hid (B4.out.trans (hb5.mono (by omega)))
      rw [← hfst.out] at ho5
      have HO5 := hid ho5
      have hxx := x5.ex
      obtain ⟨v1, v2, v3⟩ := id c5
      clear x4 x5 K4 hb4 hb5 hbD ho5 hrow hfst
      refine ⟨hxx, ?_⟩
      go_wp2_with fail
      go_roundw
      case rel => exact ⟨j + 1, by omega, by go_num, hid (B5.out.setCell (Nat.le_refl _) _), _, ⟨by simpa using v1, World.cell?_setCell_same _ _ _ v2, by simpa using v3⟩, hid (HO5.out.keep (Keep.set _ (by simp) _))⟩
      case measure => simp [intOf]; omega
    · have hjn : fs.take j = fs := by rw [List.take_of_length_le]; rw [← HFS.out, List.length_map]; omega
      rw [hjn] at hown
      have hlt2 : ¬ ((j : Int) < (kids.length : Int)) := by omega
      clear hjn
      obtain ⟨wo, rfl⟩ : ∃ wo : World, wo = wr := ⟨_, rfl⟩
      have HSEM2 := HSEM
      have p2 := hid (pbox_next BK.out Q2.out)
      have p3 := hid (box3_next BK.out Q3.out)
      have iw := hid (HIW.out.below BK.out)
      obtain ⟨_, _, hk1, hk2, _, _, har, _⟩ := HSH.out
      rw [formL_ar] at har
      have hfl : fs.length = kids.length := by rw [← HFS.out, List.length_map]
      have hW : Below wo.heap.size wo ((wo.alloc (.cells (zerosB n) 4)).alloc (.cells #[.slice (some ⟨wo.heap.size, 0, none⟩) n n] 50)) := (below_alloc wo _).trans ((below_alloc _ _).mono (by simp))
      have HW := hid hW
      have HR := hid (show BRow ((wo.alloc (.cells (zerosB n) 4)).alloc (.cells #[.slice (some ⟨wo.heap.size, 0, none⟩) n n] 50)) wo.heap.size n (fun _ => false) from
        Row.below (w := wo.alloc (.cells (zerosB n) 4)) ⟨by simp, fun i hi => by rw [World.cell?_alloc_new]; simp [zerosB, madeCells, hi, Nat.mod_one], by simp⟩ (below_alloc _ _))
      have HO := hid (show Box1 ((wo.alloc (.cells (zerosB n) 4)).alloc (.cells #[.slice (some ⟨wo.heap.size, 0, none⟩) n n] 50)) (wo.heap.size + 1) (.slice (some ⟨wo.heap.size, 0, none⟩) n n) from box1_at (by simp))
      obtain ⟨y3, y4, y5, y6, _⟩ := id p3.out
      have y7 : w.heap.size < wo.heap.size := by omega
      clear hW
      by_cases k7 : k = 7
      · subst k7
        obtain ⟨f0, f1, rfl⟩ : ∃ f0 f1, fs = [f0, f1] := by
          have : fs.length = 2 := by simp at har; omega
          match fs, this with
          | [f0, f1], _ => exact ⟨f0, f1, rfl⟩
        have HK := hid (hown.out.kid2 c1)
        have HSOL := hid (HFU.out f0 f1 (HPER.out f0 (by simp)) (HPER.out f1 (by simp)))
        have HF := hid (HFX2.out false _ _ _ HSOL.out _ wo.heap.size (wo.heap.size + 1) w.heap.size w1.heap.size HR.out HO.out (pbox_next HW.out p2.out) (by omega) (by omega) (fun W i x hb hi => untC_any n w1.heap.size i x f0 f1 W (HK.out.below (hb.new HW.out (Nat.le_refl _))) hi (by omega)))
        have HS := hid (show semN wd 7 v [f0, f1] = unt f0 f1 by simp [semN])
        clear har hfl hown
        go_wp2_with fail
        refine HF.out.mono ?_
        rintro e w2 ⟨rfl, hb, hrow⟩
        have HFIN := hid (show TruPost n (sem wd (.mk 7 v kids)) w (.returned (.slice (some ⟨wo.heap.size, 0, none⟩) n n)) w2 from ⟨_, rfl, by omega, by rw [HSEM.out, HS.out]; exact hrow, below_next BB.out (hb.new HW.out (Nat.le_refl _))⟩)
        obtain ⟨o1, o2, o3⟩ := But.box1 hb (by omega) HO.out
        clear hb hrow y3 y4 y5 y6
        go_wp2_with fail
        go_ret
        exact HFIN.out
      by_cases k8 : k = 8
      · subst k8
        obtain ⟨f0, f1, rfl⟩ : ∃ f0 f1, fs = [f0, f1] := by
          have : fs.length = 2 := by simp at har; omega
          match fs, this with
          | [f0, f1], _ => exact ⟨f0, f1, rfl⟩
        have HK := hid (hown.out.kid2 c1)
        have HSOL := hid (HFR.out f0 f1 (HPER.out f0 (by simp)) (HPER.out f1 (by simp)))
        have HF := hid (HFX3.out true _ _ _ HSOL.out _ wo.heap.size (wo.heap.size + 1) w.heap.size w1.heap.size HR.out HO.out (pbox_next HW.out p2.out) (by omega) (by omega) (fun W i x hb hi => rlsC_any n w1.heap.size i x f0 f1 W (HK.out.below (hb.new HW.out (Nat.le_refl _))) hi (by omega)))
        have HS := hid (show semN wd 8 v [f0, f1] = rls f0 f1 by simp [semN])
        clear har hfl hown
        go_wp2_with fail
        refine HF.out.mono ?_
        rintro e w2 ⟨rfl, hb, hrow⟩
        have HFIN := hid (show TruPost n (sem wd (.mk 8 v kids)) w (.returned (.slice (some ⟨wo.heap.size, 0, none⟩) n n)) w2 from ⟨_, rfl, by omega, by rw [HSEM.out, HS.out]; exact hrow, below_next BB.out (hb.new HW.out (Nat.le_refl _))⟩)
        obtain ⟨o1, o2, o3⟩ := But.box1 hb (by omega) HO.out
        clear hb hrow y3 y4 y5 y6
        go_wp2_with fail
        go_ret
        exact HFIN.out
      by_cases k9 : k = 9
      · subst k9
        obtain ⟨f0, rfl⟩ : ∃ f0, fs = [f0] := by
          have : fs.length = 1 := by simp at har; omega
          match fs, this with
          | [f0], _ => exact ⟨f0, rfl⟩
        have HK := hid (hown.out.kid1 c1)
        have HSOL := hid (HFU.out (fun _ => true) f0 (fun _ _ => rfl) (HPER.out f0 (by simp)))
        have HF := hid (HFX4.out false _ _ _ HSOL.out _ wo.heap.size (wo.heap.size + 1) w.heap.size w1.heap.size HR.out HO.out (pbox_next HW.out p2.out) (by omega) (by omega) (fun W i x hb hi => evC_any n w1.heap.size i x f0 W (HK.out.below (hb.new HW.out (Nat.le_refl _))) hi (by omega)))
        have HS := hid (show semN wd 9 v [f0] = unt (fun _ => true) f0 by simp [semN])
        clear har hfl hown
        go_wp2_with fail
        refine HF.out.mono ?_
        rintro e w2 ⟨rfl, hb, hrow⟩
        have HFIN := hid (show TruPost n (sem wd (.mk 9 v kids)) w (.returned (.slice (some ⟨wo.heap.size, 0, none⟩) n n)) w2 from ⟨_, rfl, by omega, by rw [HSEM.out, HS.out]; exact hrow, below_next BB.out (hb.new HW.out (Nat.le_refl _))⟩)
        obtain ⟨o1, o2, o3⟩ := But.box1 hb (by omega) HO.out
        clear hb hrow y3 y4 y5 y6
        go_wp2_with fail
        go_ret
        exact HFIN.out
      by_cases k10 : k = 10
      · subst k10
        obtain ⟨f0, rfl⟩ : ∃ f0, fs = [f0] := by
          have : fs.length = 1 := by simp at har; omega
          match fs, this with
          | [f0], _ => exact ⟨f0, rfl⟩
        have HK := hid (hown.out.kid1 c1)
        have HSOL := hid (HFR.out (fun _ => false) f0 (fun _ _ => rfl) (HPER.out f0 (by simp)))
        have HF := hid (HFX5.out true _ _ _ HSOL.out _ wo.heap.size (wo.heap.size + 1) w.heap.size w1.heap.size HR.out HO.out (pbox_next HW.out p2.out) (by omega) (by omega) (fun W i x hb hi => alC_any n w1.heap.size i x f0 W (HK.out.below (hb.new HW.out (Nat.le_refl _))) hi (by omega)))
        have HS := hid (show semN wd 10 v [f0] = rls (fun _ => false) f0 by simp [semN])
        clear har hfl hown
        go_wp2_with fail
        refine HF.out.mono ?_
        rintro e w2 ⟨rfl, hb, hrow⟩
        have HFIN := hid (show TruPost n (sem wd (.mk 10 v kids)) w (.returned (.slice (some ⟨wo.heap.size, 0, none⟩) n n)) w2 from ⟨_, rfl, by omega, by rw [HSEM.out, HS.out]; exact hrow, below_next BB.out (hb.new HW.out (Nat.le_refl _))⟩)
        obtain ⟨o1, o2, o3⟩ := But.box1 hb (by omega) HO.out
        clear hb hrow y3 y4 y5 y6
        go_wp2_with fail
        go_ret
        exact HFIN.out
      have hk6 : k ≤ 6 := by rw [formL_K] at hk2; omega
      have HAT := hid hatom
      by_cases k1 : k = 1
      · subst k1
        clear har hfl hown
        go_wp2_with fail
        go_loopw [36] (fun i wr => ∃ (jj : Nat) (g : Nat → Bool), jj ≤ n ∧ i = .int .i64 jj ∧ Hid (Below wo.heap.size wo wr) ∧ Box1 wr (wo.heap.size + 1) (.slice (some ⟨wo.heap.size, 0, none⟩) n n) ∧ BRow wr wo.heap.size n g ∧ Hid (∀ q, q < jj → g q = semN wd 1 v fs q)) (fun i _ => n - (intOf i).toNat)
        case atStart => exact ⟨0, _, Nat.zero_le _, rfl, hid HW.out, HO.out, HR.out, hid (by omega)⟩
        case round =>
          obtain ⟨jj, g, hjj, rfl, BQ, o1, hrow, hg⟩ := hrel
          have hrl := hrow.1
          obtain ⟨e3, e4, e5, e6, _⟩ := box3_next BQ.out p3.out
          by_cases hq : jj < n
          · have r0 := hrow.2.1 jj hq
            have rz := hrow.2.2
            have HROW := hid hrow
            have hq2 : (jj : Int) < (n : Int) := by omega
            have O1 := hid o1
            obtain ⟨o2, o3, o4⟩ := o1
            clear hrow y3 y4 y5 y6
            go_wp2_with fail
            go_roundw
            case rel =>
              refine ⟨jj + 1, upd g jj true, by omega, by go_num, hid (BQ.out.setCell (Nat.le_refl _) _), (But.box1 (But.set _ _ _ _) (by omega) O1.out), (brow_upd HROW.out hq _), hid fun q hq => ?_⟩
              unfold upd
              split
              · rename_i e; subst e; exact (by simp [semN])
              · exact hg.out q (by omega)
            case measure => simp [intOf]; omega
          · have HFIN := hid (show TruPost n (sem wd (.mk 1 v kids)) w (.returned (.slice (some ⟨wo.heap.size, 0, none⟩) n n)) wr from ⟨_, rfl, by omega, by rw [HSEM.out]; exact Row.congr hrow fun i hi => by rw [hg.out i (by omega)], below_next BB.out BQ.out⟩)
            have hq2 : ¬ ((jj : Int) < (n : Int)) := by omega
            obtain ⟨o2, o3, o4⟩ := o1
            clear hrow hg y3 y4 y5 y6
            go_wp2_with fail
            go_ret
            exact HFIN.out
      by_cases k2 : k = 2
      · subst k2
        clear har hfl hown
        go_wp2_with fail
        go_loopw [36] (fun i wr => ∃ (jj : Nat) (g : Nat → Bool), jj ≤ n ∧ i = .int .i64 jj ∧ Hid (Below wo.heap.size wo wr) ∧ Box1 wr (wo.heap.size + 1) (.slice (some ⟨wo.heap.size, 0, none⟩) n n) ∧ BRow wr wo.heap.size n g ∧ Hid (∀ q, q < jj → g q = semN wd 2 v fs q)) (fun i _ => n - (intOf i).toNat)
        case atStart => exact ⟨0, _, Nat.zero_le _, rfl, hid HW.out, HO.out, HR.out, hid (by omega)⟩
        case round =>
          obtain ⟨jj, g, hjj, rfl, BQ, o1, hrow, hg⟩ := hrel
          have hrl := hrow.1
          obtain ⟨e3, e4, e5, e6, _⟩ := box3_next BQ.out p3.out
          by_cases hq : jj < n
          · have r0 := hrow.2.1 jj hq
            have rz := hrow.2.2
            have HROW := hid hrow
            have hq2 : (jj : Int) < (n : Int) := by omega
            have O1 := hid o1
            obtain ⟨o2, o3, o4⟩ := o1
            clear hrow y3 y4 y5 y6
            have hjw : jj < word.length := by have := HLEN.out; omega
            obtain ⟨bw, ow, rfl, hbw, _, w0, _⟩ := ints_at iw.out BQ.out hjw
            have hl := HLT.out _ (List.getElem_mem hjw)
            have hwd := hid (show wd jj = word[jj] by rw [HWO.out jj hq, List.getD_eq_getElem?_getD, List.getElem?_eq_getElem hjw]; rfl)
            have hq3 : (jj : Int) < ((word.length : Nat) : Int) := by omega
            generalize word[jj] = z at *
            go_wp2_with fail
            refine wp_region_tail (C := fun wZ => ∃ xZ, wZ = World.over _ xZ) [0,1,2,3,4,5,6,7,8,9,10,11] [12] (12) (by kernel_rfl) (by kernel_rfl) (fun d _ _ _ _ h => by cases d <;> exact h) (bex (Below.refl _ _).drew) ?_; simp only [pick, List.getElem?_cons_succ, List.getElem?_cons_zero]; (repeat (go_big_quiet_step (fail))); refine wpQuiet_nil ?_; simp only [tailW]
            go_wp2_with fail
            go_roundw
            case rel =>
              refine ⟨jj + 1, upd g jj _, by omega, by go_num, hid (below_d2 (BQ.out.setCell (Nat.le_refl _) _)), (box1_next (below_d2 (Below.refl _ _)) (But.box1 (But.set _ _ _ _) (by omega) O1.out)), (Row.below (brow_upd HROW.out hq _) (below_d2 (Below.refl _ _))), hid fun q hq => ?_⟩
              unfold upd
              split
              · rename_i e; subst e; exact (by rw [and_bit z v hl (HAT.out trivial)]; simp [semN, hwd.out])
              · exact hg.out q (by omega)
            case measure => simp [intOf]; omega
          · have HFIN := hid (show TruPost n (sem wd (.mk 2 v kids)) w (.returned (.slice (some ⟨wo.heap.size, 0, none⟩) n n)) wr from ⟨_, rfl, by omega, by rw [HSEM.out]; exact Row.congr hrow fun i hi => by rw [hg.out i (by omega)], below_next BB.out BQ.out⟩)
            have hq2 : ¬ ((jj : Int) < (n : Int)) := by omega
            obtain ⟨o2, o3, o4⟩ := o1
            clear hrow hg y3 y4 y5 y6
            go_wp2_with fail
            go_ret
            exact HFIN.out
      by_cases k3 : k = 3
      · subst k3
        obtain ⟨f0, rfl⟩ : ∃ f0, fs = [f0] := by
          have : fs.length = 1 := by simp at har; omega
          match fs, this with
          | [f0], _ => exact ⟨f0, rfl⟩
        have HK := hid (hown.out.kid1 c1)
        clear har hfl hown
        go_wp2_with fail
        go_loopw [36] (fun i wr => ∃ (jj : Nat) (g : Nat → Bool), jj ≤ n ∧ i = .int .i64 jj ∧ Hid (Below wo.heap.size wo wr) ∧ Box1 wr (wo.heap.size + 1) (.slice (some ⟨wo.heap.size, 0, none⟩) n n) ∧ BRow wr wo.heap.size n g ∧ Hid (∀ q, q < jj → g q = semN wd 3 v [f0] q)) (fun i _ => n - (intOf i).toNat)
        case atStart => exact ⟨0, _, Nat.zero_le _, rfl, hid HW.out, HO.out, HR.out, hid (by omega)⟩
        case round =>
          obtain ⟨jj, g, hjj, rfl, BQ, o1, hrow, hg⟩ := hrel
          have hrl := hrow.1
          obtain ⟨e3, e4, e5, e6, _⟩ := box3_next BQ.out p3.out
          by_cases hq : jj < n
          · have r0 := hrow.2.1 jj hq
            have rz := hrow.2.2
            have HROW := hid hrow
            have hq2 : (jj : Int) < (n : Int) := by omega
            have O1 := hid o1
            obtain ⟨o2, o3, o4⟩ := o1
            clear hrow y3 y4 y5 y6
            obtain ⟨gk, cc, ra, m1, m2, m3, m4, m5, m6⟩ := HK.out.below BQ.out
            have m7 : wr.cell? ⟨ra, jj, none⟩ = some (.bool (f0 jj)) := m6.2.1 jj hq
            have m8 := m6.1
            clear m6
            generalize hx0 : f0 jj = x0 at *
            have HX0 := hid hx0
            clear hx0
            go_wp2_with fail
            refine wp_region_tail (C := fun wZ => ∃ xZ, wZ = World.over _ xZ) [0,1,2,3,4,5,6,7,8,9] [10] (10) (by kernel_rfl) (by kernel_rfl) (fun d _ _ _ _ h => by cases d <;> exact h) (bex (Below.refl _ _).drew) ?_; simp only [pick, List.getElem?_cons_succ, List.getElem?_cons_zero]; (repeat (go_big_quiet_step (fail))); refine wpQuiet_nil ?_; simp only [tailW]
            go_wp2_with fail
            go_roundw
            case rel =>
              refine ⟨jj + 1, upd g jj (!x0), by omega, by go_num, hid (below_d2 (BQ.out.setCell (Nat.le_refl _) _)), (box1_next (below_d2 (Below.refl _ _)) (But.box1 (But.set _ _ _ _) (by omega) O1.out)), (Row.below (brow_upd HROW.out hq _) (below_d2 (Below.refl _ _))), hid fun q hq => ?_⟩
              unfold upd
              split
              · rename_i e; subst e; exact (by simp [semN, HX0.out])
              · exact hg.out q (by omega)
            case measure => simp [intOf]; omega
          · have HFIN := hid (show TruPost n (sem wd (.mk 3 v kids)) w (.returned (.slice (some ⟨wo.heap.size, 0, none⟩) n n)) wr from ⟨_, rfl, by omega, by rw [HSEM.out]; exact Row.congr hrow fun i hi => by rw [hg.out i (by omega)], below_next BB.out BQ.out⟩)
            have hq2 : ¬ ((jj : Int) < (n : Int)) := by omega
            obtain ⟨o2, o3, o4⟩ := o1
            clear hrow hg y3 y4 y5 y6
            go_wp2_with fail
            go_ret
            exact HFIN.out
      by_cases k4 : k = 4
      · subst k4
        obtain ⟨f0, f1, rfl⟩ : ∃ f0 f1, fs = [f0, f1] := by
          have : fs.length = 2 := by simp at har; omega
          match fs, this with
          | [f0, f1], _ => exact ⟨f0, f1, rfl⟩
        have HK := hid (hown.out.kid2 c1)
        clear har hfl hown
        go_wp2_with fail
        go_loopw [36] (fun i wr => ∃ (jj : Nat) (g : Nat → Bool), jj ≤ n ∧ i = .int .i64 jj ∧ Hid (Below wo.heap.size wo wr) ∧ Box1 wr (wo.heap.size + 1) (.slice (some ⟨wo.heap.size, 0, none⟩) n n) ∧ BRow wr wo.heap.size n g ∧ Hid (∀ q, q < jj → g q = semN wd 4 v [f0, f1] q)) (fun i _ => n - (intOf i).toNat)
        case atStart => exact ⟨0, _, Nat.zero_le _, rfl, hid HW.out, HO.out, HR.out, hid (by omega)⟩
        case round =>
          obtain ⟨jj, g, hjj, rfl, BQ, o1, hrow, hg⟩ := hrel
          have hrl := hrow.1
          obtain ⟨e3, e4, e5, e6, _⟩ := box3_next BQ.out p3.out
          by_cases hq : jj < n
          · have r0 := hrow.2.1 jj hq
            have rz := hrow.2.2
            have HROW := hid hrow
            have hq2 : (jj : Int) < (n : Int) := by omega
            have O1 := hid o1
            obtain ⟨o2, o3, o4⟩ := o1
            clear hrow y3 y4 y5 y6
            obtain ⟨gk, cc, ra, rb, m1, m2, m3, m4, m5, m6, m7, m8⟩ := HK.out.below BQ.out
            have m9 : wr.cell? ⟨ra, jj, none⟩ = some (.bool (f0 jj)) := m7.2.1 jj hq
            have m10 : wr.cell? ⟨rb, jj, none⟩ = some (.bool (f1 jj)) := m8.2.1 jj hq
            have m11 := m7.1
            have m12 := m8.1
            clear m7 m8
            generalize hx0 : f0 jj = x0 at *
            generalize hx1 : f1 jj = x1 at *
            have HX0 := hid hx0
            have HX1 := hid hx1
            clear hx0 hx1
            cases x0
            all_goals
              go_wp2_with fail
              refine wp_region_tail (C := fun wZ => ∃ xZ, wZ = World.over _ xZ) [0,1,2,3,4,5,6,7,8,9,10,11,12,13,14] [15,16,17] (17) (by kernel_rfl) (by kernel_rfl) (fun d _ _ _ _ h => by cases d <;> exact h) (bex (Below.refl _ _).drew) ?_; simp only [pick, List.getElem?_cons_succ, List.getElem?_cons_zero]; (repeat (go_big_quiet_step (fail))); refine wpQuiet_nil ?_; simp only [tailW]
              go_wp2_with fail
              refine ⟨bex (below_d (Below.refl _ _)), ?_⟩
              go_wp2_with fail
              refine ⟨bex (below_d (Below.refl _ _)), ?_⟩
              go_wp2_with fail
              go_roundw
              case rel =>
                refine ⟨jj + 1, upd g jj _, by omega, by go_num, hid (below_d2 (BQ.out.setCell (Nat.le_refl _) _)), (box1_next (below_d2 (Below.refl _ _)) (But.box1 (But.set _ _ _ _) (by omega) O1.out)), (Row.below (brow_upd HROW.out hq _) (below_d2 (Below.refl _ _))), hid fun q hq => ?_⟩
                unfold upd
                split
                · rename_i e; subst e; exact (by simp [semN, HX0.out, HX1.out])
                · exact hg.out q (by omega)
              case measure => simp [intOf]; omega
          · have HFIN := hid (show TruPost n (sem wd (.mk 4 v kids)) w (.returned (.slice (some ⟨wo.heap.size, 0, none⟩) n n)) wr from ⟨_, rfl, by omega, by rw [HSEM.out]; exact Row.congr hrow fun i hi => by rw [hg.out i (by omega)], below_next BB.out BQ.out⟩)
            have hq2 : ¬ ((jj : Int) < (n : Int)) := by omega
            obtain ⟨o2, o3, o4⟩ := o1
            clear hrow hg y3 y4 y5 y6
            go_wp2_with fail
            go_ret
            exact HFIN.out
      by_cases k5 : k = 5
      · subst k5
        obtain ⟨f0, f1, rfl⟩ : ∃ f0 f1, fs = [f0, f1] := by
          have : fs.length = 2 := by simp at har; omega
          match fs, this with
          | [f0, f1], _ => exact ⟨f0, f1, rfl⟩
        have HK := hid (hown.out.kid2 c1)
        clear har hfl hown
        go_wp2_with fail
        go_loopw [36] (fun i wr => ∃ (jj : Nat) (g : Nat → Bool), jj ≤ n ∧ i = .int .i64 jj ∧ Hid (Below wo.heap.size wo wr) ∧ Box1 wr (wo.heap.size + 1) (.slice (some ⟨wo.heap.size, 0, none⟩) n n) ∧ BRow wr wo.heap.size n g ∧ Hid (∀ q, q < jj → g q = semN wd 5 v [f0, f1] q)) (fun i _ => n - (intOf i).toNat)
        case atStart => exact ⟨0, _, Nat.zero_le _, rfl, hid HW.out, HO.out, HR.out, hid (by omega)⟩
        case round =>
          obtain ⟨jj, g, hjj, rfl, BQ, o1, hrow, hg⟩ := hrel
          have hrl := hrow.1
          obtain ⟨e3, e4, e5, e6, _⟩ := box3_next BQ.out p3.out
          by_cases hq : jj < n
          · have r0 := hrow.2.1 jj hq
            have rz := hrow.2.2
            have HROW := hid hrow
            have hq2 : (jj : Int) < (n : Int) := by omega
            have O1 := hid o1
            obtain ⟨o2, o3, o4⟩ := o1
            clear hrow y3 y4 y5 y6
            obtain ⟨gk, cc, ra, rb, m1, m2, m3, m4, m5, m6, m7, m8⟩ := HK.out.below BQ.out
            have m9 : wr.cell? ⟨ra, jj, none⟩ = some (.bool (f0 jj)) := m7.2.1 jj hq
            have m10 : wr.cell? ⟨rb, jj, none⟩ = some (.bool (f1 jj)) := m8.2.1 jj hq
            have m11 := m7.1
            have m12 := m8.1
            clear m7 m8
            generalize hx0 : f0 jj = x0 at *
            generalize hx1 : f1 jj = x1 at *
            have HX0 := hid hx0
            have HX1 := hid hx1
            clear hx0 hx1
            cases x0
            all_goals
              go_wp2_with fail
              refine wp_region_tail (C := fun wZ => ∃ xZ, wZ = World.over _ xZ) [0,1,2,3,4,5,6,7,8,9,10,11,12,13,14] [15,16,17] (17) (by kernel_rfl) (by kernel_rfl) (fun d _ _ _ _ h => by cases d <;> exact h) (bex (Below.refl _ _).drew) ?_; simp only [pick, List.getElem?_cons_succ, List.getElem?_cons_zero]; (repeat (go_big_quiet_step (fail))); refine wpQuiet_nil ?_; simp only [tailW]
              go_wp2_with fail
              refine ⟨bex (below_d (Below.refl _ _)), ?_⟩
              go_wp2_with fail
              refine ⟨bex (below_d (Below.refl _ _)), ?_⟩
              go_wp2_with fail
              go_roundw
              case rel =>
                refine ⟨jj + 1, upd g jj _, by omega, by go_num, hid (below_d2 (BQ.out.setCell (Nat.le_refl _) _)), (box1_next (below_d2 (Below.refl _ _)) (But.box1 (But.set _ _ _ _) (by omega) O1.out)), (Row.below (brow_upd HROW.out hq _) (below_d2 (Below.refl _ _))), hid fun q hq => ?_⟩
                unfold upd
                split
                · rename_i e; subst e; exact (by simp [semN, HX0.out, HX1.out])
                · exact hg.out q (by omega)
              case measure => simp [intOf]; omega
          · have HFIN := hid (show TruPost n (sem wd (.mk 5 v kids)) w (.returned (.slice (some ⟨wo.heap.size, 0, none⟩) n n)) wr from ⟨_, rfl, by omega, by rw [HSEM.out]; exact Row.congr hrow fun i hi => by rw [hg.out i (by omega)], below_next BB.out BQ.out⟩)
            have hq2 : ¬ ((jj : Int) < (n : Int)) := by omega
            obtain ⟨o2, o3, o4⟩ := o1
            clear hrow hg y3 y4 y5 y6
            go_wp2_with fail
            go_ret
            exact HFIN.out
      by_cases k6 : k = 6
      · subst k6
        obtain ⟨f0, rfl⟩ : ∃ f0, fs = [f0] := by
          have : fs.length = 1 := by simp at har; omega
          match fs, this with
          | [f0], _ => exact ⟨f0, rfl⟩
        have HK := hid (hown.out.kid1 c1)
        clear har hfl hown
        go_wp2_with fail
        go_loopw [36] (fun i wr => ∃ (jj : Nat) (g : Nat → Bool), jj ≤ n ∧ i = .int .i64 jj ∧ Hid (Below wo.heap.size wo wr) ∧ Box1 wr (wo.heap.size + 1) (.slice (some ⟨wo.heap.size, 0, none⟩) n n) ∧ BRow wr wo.heap.size n g ∧ Hid (∀ q, q < jj → g q = semN wd 6 v [f0] q)) (fun i _ => n - (intOf i).toNat)
        case atStart => exact ⟨0, _, Nat.zero_le _, rfl, hid HW.out, HO.out, HR.out, hid (by omega)⟩
        case round =>
          obtain ⟨jj, g, hjj, rfl, BQ, o1, hrow, hg⟩ := hrel
          have hrl := hrow.1
          obtain ⟨e3, e4, e5, e6, _⟩ := box3_next BQ.out p3.out
          by_cases hq : jj < n
          · have r0 := hrow.2.1 jj hq
            have rz := hrow.2.2
            have HROW := hid hrow
            have hq2 : (jj : Int) < (n : Int) := by omega
            have O1 := hid o1
            obtain ⟨o2, o3, o4⟩ := o1
            clear hrow y3 y4 y5 y6
            obtain ⟨gk, cc, ra, m1, m2, m3, m4, m5, m6⟩ := HK.out.below BQ.out
            have hx : nx stem.length loop.length jj < n := by have := nx_lt (s := stem.length) (p := loop.length) (i := jj) (by omega) (by omega); omega
            have m7 : wr.cell? ⟨ra, nx stem.length loop.length jj, none⟩ = some (.bool (f0 (nx stem.length loop.length jj))) := m6.2.1 _ hx
            have m8 := m6.1
            have p4 := pbox_next BQ.out p2.out
            obtain ⟨p5, p6, p7, _⟩ := p4
            have HN := hid (fun (W : World) => next_any stem.length loop.length jj W a b c d (by omega) (by omega) (by omega))
            have HX0 := hid (show f0 (nx stem.length loop.length jj) = f0 (jj + 1) from per_nx (HPER.out f0 (by simp)) jj)
            have hx2 : ((nx stem.length loop.length jj : Nat) : Int) < (n : Int) := by omega
            clear hx m6
            generalize nx stem.length loop.length jj = q at *
            generalize f0 q = x0 at *
            go_wp2_with fail
            refine wp_region_tail (C := fun wZ => ∃ xZ, wZ = World.over _ xZ) [0,1,2,3,4,5,6] [7,8,9,10,11] (11) (by kernel_rfl) (by kernel_rfl) (fun d _ _ _ _ h => by cases d <;> exact h) (bex (Below.refl _ _).drew) ?_; simp only [pick, List.getElem?_cons_succ, List.getElem?_cons_zero]; (repeat (go_big_quiet_step (fail))); refine wpQuiet_nil ?_; simp only [tailW]
            go_wp2_with fail
            refine (HN.out _).mono ?_
            rintro e w3 ⟨rfl, hb3⟩
            have B3 := hid (below_next (below_d (Below.refl wr.heap.size wr)) hb3)
            have m7' := B3.out.cell (p := ⟨ra, q, none⟩) m8
            rw [m7] at m7'
            have r0' := (Row.below HROW.out B3.out).2.1 jj hq
            have rz' := (Row.below HROW.out B3.out).2.2
            have rl' := (Row.below HROW.out B3.out).1
            have rl2 := B3.out.size
            clear hb3 m7 m8
            go_wp2_with fail
            refine ⟨bex B3.out, ?_⟩
            go_wp2_with fail
            refine ⟨bex B3.out, ?_⟩
            go_wp2_with fail
            refine ⟨bex B3.out, ?_⟩
            go_wp2_with fail
            refine ⟨bex B3.out, ?_⟩
            go_wp2_with fail
            go_roundw
            case rel =>
              refine ⟨jj + 1, upd g jj _, by omega, by go_num, hid ((BQ.out.trans (B3.out.mono BQ.out.size)).setCell (Nat.le_refl _) _), (But.box1 (But.set _ _ _ _) (by omega) (box1_next B3.out O1.out)), (brow_upd (Row.below HROW.out B3.out) hq _), hid fun q hq => ?_⟩
              unfold upd
              split
              · rename_i e; subst e; exact (by simp [semN]; exact HX0.out)
              · exact hg.out q (by omega)
            case measure => simp [intOf]; omega
          · have HFIN := hid (show TruPost n (sem wd (.mk 6 v kids)) w (.returned (.slice (some ⟨wo.heap.size, 0, none⟩) n n)) wr from ⟨_, rfl, by omega, by rw [HSEM.out]; exact Row.congr hrow fun i hi => by rw [hg.out i (by omega)], below_next BB.out BQ.out⟩)
            have hq2 : ¬ ((jj : Int) < (n : Int)) := by omega
            obtain ⟨o2, o3, o4⟩ := o1
            clear hrow hg y3 y4 y5 y6
            go_wp2_with fail
            go_ret
            exact HFIN.out
      omega
theorem tru_any (stem loop : List Int) (hok : LasOk stem loop) : ∀ t, TruT stem loop t := Tr.ind fun k v kids ih => tru_of stem loop hok k v kids ih
end Lasso
end Go.Proofs.Ytbeljjalfhogdaa
