/- math/bits.Mul and slices.Repeat of small rows of numbers: what they return. Conditions: those of each contract. -/
import Derived.Test.YtkjnmkjdooebmaazRedS2
import Derived.Lib.Mul64
import Derived.Shelf.Bits.Mul64
import Derived.Laws.CopyOwn
set_option linter.unusedVariables false
set_option linter.unusedSimpArgs false
namespace Go.Proofs.Ytkjnmkjdooebmaa
open Go.RowKit
set_option linter.unusedVariables false
set_option linter.unusedSimpArgs false

set_option maxHeartbeats 1000000 in
theorem mul64_any (x y : Nat) (hx : x < 4294967296) (hy : y < 4294967296) (w : World) :
    Calls Try.prog 59 #[.int .u64 x, .int .u64 y] w (RetW (.tuple #[.int .u64 0, .int .u64 ((x * y : Nat) : Int)]) w) := by
  have hxy : x * y < 18446744073709551616 := Nat.lt_of_le_of_lt (Nat.mul_le_mul (Nat.le_of_lt_succ hx) (Nat.le_of_lt_succ hy)) (by decide)
  obtain ⟨bd, bt, bw, hhi⟩ := Lib.mul64_hi x y (by omega) (by omega)
  have ba := Lib.half_mul_le (a := x / 4294967296) (b := y / 4294967296) (by omega) (by omega)
  have bb := Lib.half_mul_le (a := x / 4294967296) (b := y % 4294967296) (by omega) (by omega)
  have bc := Lib.half_mul_le (a := x % 4294967296) (b := y / 4294967296) (by omega) (by omega)
  have ba' : x / 4294967296 * (y / 4294967296) < 18446744073709551616 := by omega
  have bb' : x / 4294967296 * (y % 4294967296) < 18446744073709551616 := by omega
  have bc' : x % 4294967296 * (y / 4294967296) < 18446744073709551616 := by omega
  have bh1 : x / 4294967296 * (y / 4294967296) + (x / 4294967296 * (y % 4294967296) + x % 4294967296 * (y % 4294967296) / 4294967296) / 4294967296 < 18446744073709551616 := by omega
  have bh : x / 4294967296 * (y / 4294967296) + (x / 4294967296 * (y % 4294967296) + x % 4294967296 * (y % 4294967296) / 4294967296) / 4294967296 + ((x / 4294967296 * (y % 4294967296) + x % 4294967296 * (y % 4294967296) / 4294967296) % 4294967296 + x % 4294967296 * (y / 4294967296)) / 4294967296 < 18446744073709551616 := by omega
  go_enter Try.func59, Try.ntmps59
  go_wp2_with fail
  simp only [Mul64.maskN x (by omega), Mul64.maskN y (by omega), Mul64.divN, Mul64.mulN, Mul64.addN, Mul64.wrapN _ bd, Mul64.wrapN _ bb', Mul64.wrapN _ bt, Mul64.maskN _ bt, Mul64.wrapN _ bc', Mul64.wrapN _ bw, Mul64.wrapN _ ba', Mul64.wrapN _ bh1, Mul64.wrapN _ bh, Mul64.wrapM (x * y)]
  rw [hhi, Nat.div_eq_of_lt hxy]
  go_ret2
  exact ⟨rfl, rfl⟩
set_option maxHeartbeats 1000000 in
theorem mul_any (x y : Nat) (hx : x < 4294967296) (hy : y < 4294967296) (w : World) :
    Calls Try.prog 53 #[.int .u64 x, .int .u64 y] w (RetW (.tuple #[.int .u64 0, .int .u64 ((x * y : Nat) : Int)]) w) := by
  go_enter Try.func53, Try.ntmps53
  go_wp2_with fail
  refine (mul64_any x y hx hy _).mono ?_
  rintro e w1 ⟨rfl, rfl⟩
  go_wp2_with fail
  go_ret2
  exact ⟨rfl, rfl⟩

namespace Lasso
/-- block g: a row of which the first n cells are V's -/
def RepAt (w : World) (g N n : Nat) (V : List Value) (wr : World) : Prop := ∃ cur : List Value, wr.heap[g]? = some (.cells cur.toArray 3 (0, 0)) ∧ cur.length = N ∧ cur.take n = V.take n ∧ Below w.heap.size w wr ∧ g < wr.heap.size
theorem row_cell {w : World} {g : Nat} {cur : List Value} {t : TypeId} (h : w.heap[g]? = some (.cells cur.toArray t (0, 0))) (i : Nat) (v : Value) (hv : cur[i]? = some v) : w.cell? ⟨g, i, none⟩ = some v := by
  unfold World.cell?
  simp only [h]
  simpa using hv
theorem rep_vals {l : List Int} {k N : Nat} (h : k * l.length = N) (h0 : 0 < l.length) : ((rep l k).map (Value.int .i64)).length = N ∧ (∀ i, i < N → ((rep l k).map (Value.int .i64))[i]? = some (.int .i64 (l.getD (i % l.length) 0))) := by
  refine ⟨by rw [List.length_map, rep_len, h], fun i hi => ?_⟩
  have := rep_at l k i (by omega)
  rw [List.getElem?_map, List.getElem?_eq_getElem (show i < (rep l k).length by rw [rep_len, h]; exact hi)]
  rw [List.getD_eq_getElem?_getD, List.getElem?_eq_getElem (show i < (rep l k).length by rw [rep_len, h]; exact hi)] at this
  simp only [Option.map_some, Option.getD_some] at this ⊢
  rw [this]
theorem splice_take {L cs V : List Value} {n : Nat} (hn : n ≤ L.length) (h : L.take n = V.take n) (hV : ∀ i, i < cs.length → cs[i]? = V[n + i]?) (hl : n + cs.length ≤ V.length) : (splice L n cs).take (n + cs.length) = V.take (n + cs.length) := by
  apply List.ext_getElem?
  intro i
  rw [List.getElem?_take, List.getElem?_take]
  by_cases hi : i < n + cs.length
  · rw [if_pos hi, if_pos hi, splice, List.getElem?_append]
    have hl2 : (L.take n).length = n := by rw [List.length_take]; omega
    rw [hl2]
    by_cases h2 : i < n
    · rw [if_pos h2, h, List.getElem?_take, if_pos h2]
    · rw [if_neg h2, List.getElem?_append_left (by omega), hV (i - n) (by omega), show n + (i - n) = i by omega]
  · rw [if_neg hi, if_neg hi]
/-- behind a copy -/
theorem RepAt.next {w w2 : World} {g N n : Nat} {V cs cur : List Value} (hn : n ≤ N) (hc : cur.length = N) (ht : cur.take n = V.take n) (hcs : ∀ i, i < cs.length → cs[i]? = V[n + i]?) (hl : n + cs.length ≤ N) (hV : V.length = N) (hg : w2.heap[g]? = some (.cells (splice cur n cs).toArray 3 (0, 0))) (hb : Below w.heap.size w w2) : RepAt w g N (n + cs.length) V w2 :=
  ⟨_, hg, by rw [length_splice _ _ _ (by omega), hc], splice_take (by omega) ht hcs (by omega), hb, (Array.getElem?_eq_some_iff.1 hg).1⟩
theorem rep_i64 {l : List Int} {k : Nat} (h : ∀ n, n ∈ l → i64 n) : ∀ n, n ∈ rep l k → i64 n := by
  intro n hn
  unfold rep at hn
  rw [List.mem_flatten] at hn
  obtain ⟨t, h1, h2⟩ := hn
  rw [List.mem_replicate] at h1
  rw [h1.2] at h2
  exact h n h2
theorem RepAt.done {w wr : World} {g N : Nat} {l : List Int} {k : Nat} (h : RepAt w g N N ((rep l k).map (Value.int .i64)) wr) (hN : k * l.length = N) (hi : ∀ n, n ∈ l → i64 n) (hm : N ≤ maxLen) : Arr (rep l k) (.slice (some ⟨g, 0, none⟩) N N) wr := by
  obtain ⟨cur, h1, h2, h3, h4, h5⟩ := h
  have hl : (rep l k).length = N := by rw [rep_len, hN]
  have hcur : cur = (rep l k).map (Value.int .i64) := by
    rw [List.take_of_length_le (by omega), List.take_of_length_le (by rw [List.length_map]; omega)] at h3; exact h3
  subst hcur
  refine ⟨_, N, by rw [hl], ⟨.inr ⟨g, 0, rfl, trivial, h5, fun i v hv => ?_⟩, rep_i64 hi⟩, by omega, hm, fun e => by cases e⟩
  rw [Nat.zero_add]
  exact row_cell h1 i v hv

set_option maxRecDepth 100000 in
set_option maxHeartbeats 4000000 in
theorem rep_any (l : List Int) (k : Nat) (w : World) (a : Option Addr) (c : Nat) (hl : IntsIn Any w a l) (h1 : l.length ≤ c) (h2 : c ≤ maxLen) (h0 : 0 < l.length) (hk : 0 < k) (hN : k * l.length ≤ 1000) : Calls Try.prog 33 #[.slice a l.length c, .int .i64 k] w (RetP (Arr (rep l k)) w) := by
  have HL := hid hl
  have hlN : l.length ≤ k * l.length := Nat.le_mul_of_pos_left _ hk
  have hkN : k ≤ k * l.length := Nat.le_mul_of_pos_right _ h0
  have HM := hid (fun (W : World) => mul_any l.length k (by omega) (by omega) W)
  obtain ⟨N, hNk⟩ : ∃ N, Hid (k * l.length = N) := ⟨_, hid rfl⟩
  rw [Nat.mul_comm l.length k, hNk.out] at HM
  rw [hNk.out] at hN hlN hkN
  unfold maxLen at h2
  clear hl
  have hk0 : ¬ ((k : Int) < 0) := by omega
  have hmk := make_ints N (by omega)
  have HI := hid (And.intro (fun (W : World) (M : Below w.heap.size w W) => HL.out.below M) (rep_vals hNk.out h0))
  obtain ⟨V, hV⟩ : ∃ V, Hid ((rep l k).map (Value.int .i64) = V) := ⟨_, hid rfl⟩
  rw [hV.out] at HI
  have HLs := hid (show ∀ i v, (l.map (Value.int .i64))[i]? = some v → V[i]? = some v from fun i v hv => by
    have hi : i < l.length := by have := (List.getElem?_eq_some_iff.1 hv).1; simpa using this
    rw [HI.out.2.2 i (by omega), Nat.mod_eq_of_lt hi]
    rw [List.getElem?_map, List.getElem?_eq_getElem hi] at hv
    rw [getD_zero l i hi]
    simpa using hv)
  have HPer := hid (show ∀ q i, q * l.length + i < N → V[q * l.length + i]? = V[i]? from fun q i hi => by
    rw [HI.out.2.2 _ hi, HI.out.2.2 i (by have := Nat.zero_le (q * l.length); omega), Nat.mul_add_mod_self_right])
  obtain ⟨b, o, rfl, hbl, _, _⟩ := ints_at HL.out (Below.refl _ _) h0
  go_enter Try.func33, Try.ntmps33
  go_wp2_with fail
  refine (HM.out _).mono ?_
  rintro e w1 ⟨rfl, rfl⟩
  obtain ⟨cs, hcs⟩ : ∃ cs, Hid (cs = l.map (Value.int .i64)) := ⟨_, hid rfl⟩
  have hcl : cs.length = l.length := by rw [hcs.out, List.length_map]
  have HCL := hid hcl
  have hz := hid (show (zerosI N).size = N by rw [zerosI, size_madeCells])
  have hB0 := hid (below_alloc w1 (.cells (zerosI N) 3))
  have HG0 := hid (show (w1.alloc (.cells (zerosI N) 3)).heap[w1.heap.size]? = some (.cells (zerosI N).toList.toArray 3 (0, 0)) by rw [Array.toArray_toList]; exact heap_alloc_new w1 _)
  have HSR := hid (show ∀ j v, cs[j]? = some v → (w1.alloc (.cells (zerosI N) 3)).cell? (Addr.add ⟨b, o, none⟩ j) = some v from fun j v hj => by
    rw [hcs.out] at hj
    have e : Addr.add ⟨b, o, none⟩ j = ⟨b, o + j, none⟩ := by unfold Addr.add; split <;> simp_all
    rw [e]
    rcases (HI.out.1 _ hB0.out).1 with h9 | ⟨b', o', e9, _, _, h9⟩
    · rw [h9] at hj; simp at hj
    · simp at e9
      obtain ⟨rfl, rfl⟩ := e9
      exact h9 j v hj)
  have HONE := hid (show ∀ v ∈ cs, v.oneCell' = true from fun v hv => by
    rw [hcs.out, List.mem_map] at hv
    obtain ⟨n, _, rfl⟩ := hv
    rfl)
  clear hcl
  have hzl := hid (show 0 + cs.length ≤ (zerosI N).toList.length by have h1 := HCL.out; have h2 := hz.out; rw [Array.length_toList (xs := zerosI N)]; omega)
  go_wp2_with (refine wpList_copy_splice rfl (.tmp 31) (.tmp 32) 23 23 rfl 3 Try.underlying23 (by kernel_rfl) _ _ _ _ _ _ rfl rfl w1.heap.size 0 (zerosI N).toList 3 HG0.out cs (by rw [HCL.out]; exact (Nat.min_eq_left hlN).symm) (fun _ => ⟨rfl, _, rfl, HSR.out⟩) hzl.out HONE.out w1.heap.size w1 hB0.out (Nat.le_refl _) ?_; intro w2 hg2 hb2)
  have HA := hid (show RepAt w1 w1.heap.size N (0 + cs.length) V w2 from RepAt.next (cur := (zerosI N).toList) (Nat.zero_le _) (by rw [Array.length_toList (xs := zerosI N), hz.out]) rfl (fun i hi => by
    rw [Nat.zero_add]
    rw [HCL.out] at hi
    obtain ⟨v, hv⟩ : ∃ v, cs[i]? = some v := ⟨_, List.getElem?_eq_getElem (by rw [HCL.out]; exact hi)⟩
    rw [hv, HLs.out i v (by rw [← hcs.out]; exact hv)]) (by rw [HCL.out]; omega) HI.out.2.1 hg2.out hb2)
  rw [HCL.out, Nat.zero_add] at HA
  clear hg2 hb2 HSR HONE HG0 hB0 hz HLs
  go_wp2_with fail
  go_loopw [8] (fun i wr => ∃ q n : Nat, i = .int .i64 n ∧ l.length ≤ n ∧ n ≤ N ∧ Hid (n = q * l.length) ∧ Hid (RepAt w1 w1.heap.size N n V wr)) (fun i _ => N - (intOf i).toNat)
  case atStart => exact ⟨1, l.length, by rw [HCL.out], Nat.le_refl _, hlN, hid (by omega), HA⟩
  case round =>
    obtain ⟨q, n, rfl, hn1, hn2, HQ, HR⟩ := hrel
    obtain ⟨wo, rfl⟩ : ∃ wo : World, wo = wr := ⟨_, rfl⟩
    by_cases hlt : n < N
    · have hlt2 : (n : Int) < (N : Int) := by omega
      obtain ⟨cur, hg, hc, ht, hb, hgl⟩ := HR.out
      obtain ⟨cs2, hcs2⟩ : ∃ cs2, Hid (cs2 = cur.take (Nat.min n (N - n))) := ⟨_, hid rfl⟩
      have hm1 : Nat.min n (N - n) ≤ n := Nat.min_le_left _ _
      have hm2 : Nat.min n (N - n) ≤ N - n := Nat.min_le_right _ _
      have hcl2 := hid (show cs2.length = Nat.min n (N - n) by rw [hcs2.out, List.length_take]; omega)
      have hat := hid (show ∀ j v, cs2[j]? = some v → j < n ∧ cur[j]? = some v from fun j v hv => by
        rw [hcs2.out, List.getElem?_take] at hv
        split at hv
        · exact ⟨by omega, hv⟩
        · cases hv)
      have HG := hid (show wo.drew.heap[w1.heap.size]? = some (.cells cur.toArray 3 (0, 0)) from hg)
      have HV := hid (show ∀ j v, cur[j]? = some v → j < n → V[j]? = some v from fun j v hv hj => by
        have h9 := congrArg (fun z => z[j]?) ht
        simp only [List.getElem?_take, if_pos hj] at h9
        rw [← h9]; exact hv)
      have HSR := hid (show ∀ j v, cs2[j]? = some v → wo.drew.cell? (Addr.add ⟨w1.heap.size, 0, none⟩ j) = some v from fun j v hj => by
        have e : Addr.add ⟨w1.heap.size, 0, none⟩ j = ⟨w1.heap.size, j, none⟩ := by unfold Addr.add; split <;> simp_all
        rw [e]
        exact row_cell HG.out j v (hat.out j v hj).2)
      have HONE := hid (show ∀ v ∈ cs2, v.oneCell' = true from fun v hv => by
        obtain ⟨j, hj⟩ := List.getElem?_of_mem hv
        obtain ⟨h8, h9⟩ := hat.out j v hj
        have h7 := HV.out j v h9 h8
        rw [HI.out.2.2 j (by omega)] at h7
        rw [← Option.some.inj h7]; rfl)
      have HB := hid (show Below w1.heap.size w1 wo.drew from hb.drew)
      have HCn := hid (show ∀ i, i < cs2.length → cs2[i]? = V[n + i]? from fun i hi => by
        have h6 : i < Nat.min n (N - n) := by rw [← hcl2.out]; exact hi
        obtain ⟨v, hv⟩ : ∃ v, cs2[i]? = some v := ⟨_, List.getElem?_eq_getElem hi⟩
        obtain ⟨h8, h9⟩ := hat.out i v hv
        have h7 := HV.out i v h9 h8
        rw [hv, HQ.out, HPer.out q i (by have := HQ.out; omega), h7])
      have HC := hid hc
      have HT := hid ht
      have hsz := hid (show wo.heap.size ≤ wo.drew.heap.size from Nat.le_refl _)
      have hm3 : Nat.min n (N - n) = n ∨ Nat.min n (N - n) = N - n := by
        rcases Nat.le_total n (N - n) with h | h
        · exact .inl (Nat.min_eq_left h)
        · exact .inr (Nat.min_eq_right h)
      have hnn := hid (show ∃ q', n + cs2.length = q' * l.length by
        rw [hcl2.out]
        rcases hm3 with h | h
        · exact ⟨2 * q, by rw [h, Nat.mul_assoc, ← HQ.out]; omega⟩
        · exact ⟨k, by rw [h, hNk.out]; omega⟩)
      have hn9 := hid (show n < n + cs2.length ∧ n + cs2.length ≤ N by rw [hcl2.out]; omega)
      clear hm3
      clear hg hc ht hb HA HR
      go_wp2_with fail
      refine wp_region_ord (C := fun wZ => ∃ xZ, wZ = World.overP _ ([]) xZ) [0,1,2,3,4,5,6] (.one 7 (.one 8 (.one 9 .done))) [] (by kernel_rfl) (by kernel_rfl) (fun d _ _ _ _ h => by cases d <;> exact h) (KeepP.refl _ _).drew.ex ?_; simp only [pick, List.getElem?_cons_succ, List.getElem?_cons_zero]; (repeat (go_big_quiet_step (fail))); refine wpQuiet_nil ?_; simp only [ordW, pick, List.getElem?_cons_succ, List.getElem?_cons_zero]
      have K0 := hid ((KeepP.refl [] wo).drew)
      generalize wo.drew = v0 at *
      go_wp2_with (refine wpList_copy_splice rfl (.tmp 41) (.tmp 44) 23 23 rfl 3 Try.underlying23 (by kernel_rfl) _ _ _ _ _ _ rfl rfl w1.heap.size n cur 3 HG.out cs2 hcl2.out (fun _ => ⟨rfl, _, rfl, HSR.out⟩) (by rw [hcl2.out, HC.out]; omega) HONE.out w1.heap.size v0 (Below.refl _ _) (Nat.le_refl _) ?_; intro w3 hg3 hb3)
      have HR3 := hid (show RepAt w1 w1.heap.size N (n + cs2.length) V w3 from RepAt.next hn2 HC.out HT.out HCn.out hn9.out.2 HI.out.2.1 hg3.out (HB.out.trans hb3))
      have hz3 := hid hb3.size
      clear hg3 HSR HONE HG HB HCn HT HV hat hcs2
      have hb9 := hn9.out.2
      have HKP := hid (show KeepP [] v0 w3 from ⟨hz3.out, fun _ h => by cases h⟩)
      refine ⟨KeepP.ex (KeepP.trans K0.out HKP.out), ?_⟩
      go_wp2_with fail
      refine ⟨KeepP.ex (KeepP.trans K0.out HKP.out), ?_⟩
      go_wp2_with fail
      refine ⟨KeepP.ex (KeepP.trans K0.out HKP.out), ?_⟩
      go_wp2_with fail
      obtain ⟨q', hq'⟩ := hnn.out
      have HQ' := hid hq'
      clear hq' hnn hcl2 HC HQ HPer HCL HM HL HI
      go_roundw
      case rel => exact ⟨q', n + cs2.length, by go_num, by omega, hn9.out.2, HQ', HR3⟩
      case measure => simp [intOf]; have := hn9.out; omega
    · obtain rfl : n = N := by omega
      have hnl : ¬ ((n : Int) < (n : Int)) := by omega
      have HD := hid (show Arr (rep l k) (.slice (some ⟨w1.heap.size, 0, none⟩) n n) wo from RepAt.done (by rw [hV.out]; exact HR.out) hNk.out (HI.out.1 w1 (Below.refl _ _)).2 (by unfold maxLen; omega))
      have HB := hid (show Below w1.heap.size w1 wo from by obtain ⟨_, _, _, _, h, _⟩ := HR.out; exact h)
      clear HR HA
      go_wp2_with fail
      go_ret
      exact RetP.mk HD.out HB.out
end Lasso
end Go.Proofs.Ytkjnmkjdooebmaa
