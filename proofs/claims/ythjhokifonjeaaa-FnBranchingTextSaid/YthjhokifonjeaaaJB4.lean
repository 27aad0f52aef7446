/- Joined texts (BranFmt, DrawText, DrawTextB, DrawFormatBranching, TakeP, OwnPlain, BranchingClone, BranchingMk, Box, NormPlain): contracts and plain laws. Conditions: those of each theorem. -/
import Derived.Test.YthjhokifonjeaaaJB3
import Derived.Test.YthjhokifonjeaaaJB2
import Derived.Test.YthjhokifonjeaaaRows
import Derived.Test.YthjhokifonjeaaaJB1
import Derived.Test.YthjhokifonjeaaaJB0
import Derived.WalkSpells
import Derived.WalkLawsBesides
import Derived.Laws.Concat
import Derived.Deep.RegionHeld3
import Derived.Laws.Externs
import Derived.Maps.AppendAt
set_option linter.unusedVariables false
set_option linter.unusedSimpArgs false
namespace Go.Proofs.Ythjhokifonjeaaa
open Go.RowKit
namespace Branching

/-- the text of a valid tree; none of others -/
def fmt (t : Tr) : List UInt8 := if branL.valid t = true then branT.txt t else []
theorem valid_parts {t : Tr} (h : branL.valid t = true) : branL.shape t (6 : Nat) = true ∧ nodes t ≤ 12 := by
  rw [Lang.valid, Bool.and_eq_true, decide_eq_true_eq, branL_N] at h
  exact h

set_option maxHeartbeats 400000 in
theorem specFmt_any (t : Tr) (w : World) (x : Value) (hx : TrIn Any w t x) : Calls Try.prog 36 #[x] w (Ret (.string (bs (fmt t))) w) := by
  have hx0 := hx
  obtain ⟨a, c, rfl⟩ := TrIn_shape hx
  cases hv : branL.valid t with
  | false =>
    have E := hid (show fmt t = [] by simp [fmt, hv])
    go_enter Try.func36, Try.ntmps36
    go_wp2_with fail
    refine (specValid_any t _ _ (TrIn_alloc hx _)).mono ?_
    rintro e w1 ⟨rfl, hb⟩
    rw [hv]
    clear hv
    go_wp2_with fail
    go_ret
    exact Ret.mk (str_val (by rw [E.out]; rfl)) (below_next (below_alloc _ _) hb)
  | true =>
    have E := hid (show fmt t = branT.txt t by simp [fmt, hv])
    have HV := hid (valid_parts hv)
    go_enter Try.func36, Try.ntmps36
    go_wp2_with fail
    refine (specValid_any t _ _ (TrIn_alloc hx _)).mono ?_
    rintro e w1 ⟨rfl, hb⟩
    rw [hv]
    clear hv
    have b1 := box3_next hb (box3_new ..)
    have B := below_next (below_alloc _ _) hb
    clear hb
    go_wp2_with fail
    refine (fm_any t 6 _ _ HV.out.1 HV.out.2 (TrIn_below B hx)).mono ?_
    rintro e w2 ⟨rfl, hb⟩
    replace B := below_next B hb
    clear hb
    go_wp2_with fail
    go_ret
    exact Ret.mk (str_val (by rw [E.out])) B

set_option maxHeartbeats 400000 in
theorem fmt_any (t : Tr) (w : World) (x : Value) (hx : TrIn Any w t x) : Calls Try.prog 33 #[x] w (Ret (.string (bs (fmt t))) w) := by
  have hx0 := hx
  obtain ⟨a, c, rfl⟩ := TrIn_shape hx
  cases hv : branL.valid t with
  | false =>
    have E := hid (show fmt t = [] by simp [fmt, hv])
    go_enter Try.func33, Try.ntmps33
    go_wp2_with fail
    refine (valid_any t _ _ (TrIn_alloc hx _)).mono ?_
    rintro e w1 ⟨rfl, hb⟩
    rw [hv]
    clear hv
    go_wp2_with fail
    go_ret
    exact Ret.mk (str_val (by rw [E.out]; rfl)) (below_next (below_alloc _ _) hb)
  | true =>
    have E := hid (show fmt t = branT.txt t by simp [fmt, hv])
    have HV := hid (valid_parts hv)
    go_enter Try.func33, Try.ntmps33
    go_wp2_with fail
    refine (valid_any t _ _ (TrIn_alloc hx _)).mono ?_
    rintro e w1 ⟨rfl, hb⟩
    rw [hv]
    clear hv
    have b1 := box3_next hb (box3_new ..)
    have B := below_next (below_alloc _ _) hb
    clear hb
    go_wp2_with fail
    refine (tx_any t 6 _ _ HV.out.1 HV.out.2 (TrIn_below B hx)).mono ?_
    rintro e w2 ⟨rfl, hb⟩
    replace B := below_next B hb
    clear hb
    go_wp2_with fail
    go_ret
    exact Ret.mk (str_val (by rw [E.out])) B

end Branching
end Go.Proofs.Ythjhokifonjeaaa
namespace Go.Proofs.Ythjhokifonjeaaa
open Go.RowKit

/-- texts of one byte at most, in a row -/
def Texts (w : World) (L len : Nat) : Prop := L < w.heap.size ∧ ∃ f : Nat → ByteArray, ∀ i, i < len → w.cell? ⟨L, i, none⟩ = some (.string (f i)) ∧ (f i).size ≤ 1
theorem Texts.but {w w' : World} {L len R : Nat} (h : Texts w L len) (hb : But w R w') (hL : L ≠ R) : Texts w' L len := by
  obtain ⟨h1, f, h2⟩ := h
  exact ⟨Nat.lt_of_lt_of_le h1 hb.size, f, fun i hi => by rw [hb.cell h1 hL]; exact h2 i hi⟩
theorem Texts.new (ss : List ByteArray) (hs : ∀ s, s ∈ ss → s.size ≤ 1) (w : World) (t : TypeId) : Texts (w.alloc (.cells (ss.map Value.string).toArray t)) w.heap.size ss.length := by
  refine ⟨by simp, fun i => ss.getD i ByteArray.empty, fun i hi => ?_⟩
  have e : ss[i]? = some (ss.getD i ByteArray.empty) := by rw [List.getD_eq_getElem?_getD, List.getElem?_eq_getElem hi]; rfl
  refine ⟨?_, hs _ (List.mem_of_getElem? e)⟩
  rw [World.cell?_alloc_new, List.getElem?_toArray, List.getElem?_map, e]
  rfl

def OfPost (B R p : Nat) (w : World) (e : Ending) (w' : World) : Prop := ∃ s : ByteArray, e = .returned (.string s) ∧ s.size ≤ 1 ∧ But w R w' ∧ Rd B w' R (p + 1)
set_option maxHeartbeats 400000 in
theorem of_any (B : Nat) (w : World) (R p L len : Nat) (hr : Rd B w R p) (hp : p ≤ 1000000) (h0 : 0 < len) (hl : len ≤ 100) (hL : L ≠ R) (ht : Texts w L len) :
    Calls Try.prog 96 #[.pointer (some ⟨R, 0, none⟩), .slice (some ⟨L, 0, none⟩) len len] w (OfPost B R p w) := by
  go_enter Try.func96, Try.ntmps96
  go_wp2_with fail
  refine (pick_any _ _ _ R p hr hp (by omega) (by omega)).mono ?_
  rintro e w1 ⟨i, rfl, ⟨i0, i1, _⟩, hbut, hrd⟩
  obtain ⟨k, rfl⟩ := Int.eq_ofNat_of_zero_le i0
  have hk : k < len := by have := i1 (by omega); omega
  have hk2 : (k : Int) < (len : Int) := by omega
  obtain ⟨hL1, f, h2⟩ := ht.but hbut hL
  obtain ⟨c1, c2⟩ := h2 k hk
  have C2 := hid c2
  clear i1 h2 c2
  go_wp2_with fail
  go_ret
  exact ⟨_, rfl, C2.out, hbut, hrd⟩

def BendPost (B R m : Nat) (w : World) (e : Ending) (w' : World) : Prop := ∃ s : ByteArray, e = .returned (.string s) ∧ s.size ≤ m + 1 ∧ But w R w' ∧ ∃ p, Rd B w' R p

set_option maxRecDepth 100000 in
set_option maxHeartbeats 2000000 in
theorem bend_any (B : Nat) (w : World) (R p L len : Nat) (S : ByteArray) (hS : S.size ≤ 1000) (hr : Rd B w R p) (hp : p + 10 ≤ 1000000) (h0 : 0 < len) (hl : len ≤ 100) (hL : L ≠ R) (ht : Texts w L len) :
    Calls Try.prog 68 #[.pointer (some ⟨R, 0, none⟩), .string S, .slice (some ⟨L, 0, none⟩) len len] w (BendPost B R S.size w) := by
  have HT := hid ht
  have HR := hid hr
  clear ht hr
  by_cases hz : S.size = 0
  · have hz2 : (S.size : Int) = 0 := by omega
    go_enter Try.func68, Try.ntmps68
    go_wp2_with fail
    go_ret
    exact ⟨_, rfl, by omega, But.refl _ _, p, HR.out⟩
  have hz2 : ¬ ((S.size : Int) = 0) := by omega
  have hz3 : ((S.size : Int) == 0) = false := by simpa using hz2
  go_enter Try.func68, Try.ntmps68
  go_wp2_with fail
  refine (pick_any B 2 _ R p HR.out (by omega) (by omega) (by omega)).mono ?_
  rintro e w1 ⟨i, rfl, ⟨i0, i1, _⟩, hb1, hr1⟩
  by_cases hi : i = 0
  · subst hi
    go_wp2_with fail
    go_ret
    exact ⟨_, rfl, by omega, hb1, _, hr1⟩
  have hi2 : (i == 0) = false := by simpa using hi
  clear i1
  go_wp2_with fail
  refine (pick_any B _ _ R (p + 1) hr1 (by omega) (by omega) (by omega)).mono ?_
  rintro e w2 ⟨k, rfl, ⟨k0, k1, _⟩, hb2, hr2⟩
  obtain ⟨k, rfl⟩ := Int.eq_ofNat_of_zero_le k0
  have hk : k < S.size := by have := k1 (by omega); omega
  have HB2 := hid (hb1.trans hb2)
  have HR2 := hid hr2
  clear k1 hb1 hb2 hr1 hr2 hi hi2
  have hk2 : (k : Int) < (S.size : Int) := by omega
  have hk3 : (k : Int) ≤ (S.size : Int) := by omega
  obtain ⟨A, hA0, hA⟩ : ∃ A, S.extract 0 k = A ∧ A.size ≤ k := ⟨_, rfl, by rw [ByteArray.size_extract]; omega⟩
  go_wp2_with fail
  go_region_held3 (fun _ => True) (exact trivial)
    (first
      | (go_at_call 96; have HX := of_any B w2.drew R (p + 1 + 1) L len (HR2.out.next (below_d (Below.refl _ _))) (by omega) h0 hl hL ((HT.out.but HB2.out hL).but (But.of (below_d (Below.refl _ _))) hL); refine HX.mono ?_; clear HX; rintro e w3 ⟨σ, rfl, hσ, hb3, hr3⟩; have hadd1 : ¬ (A.size + σ.size > 9223372036854775807) := (by omega))
      | (go_at_call 58; have HX := pick_any B 2 w3 R (p + 1 + 1 + 1) hr3 (by omega) (by omega) (by omega); refine HX.mono ?_; clear HX; rintro e w4 ⟨j, rfl, ⟨j0, j1, _⟩, hb4, hr4⟩; have hj := j1 (by omega); obtain ⟨m, hm, hm2⟩ : ∃ m : Nat, (k : Int) + j = (m : Int) ∧ m ≤ S.size := ⟨((k : Int) + j).toNat, by omega, by omega⟩; have hm3 : (m : Int) ≤ (S.size : Int) := (by omega); have f1 : 0 ≤ (k : Int) + j := (by omega); have f2 : (k : Int) + j ≤ (S.size : Int) := (by omega); have f3 : ((k : Int) + j).toNat = m := (by omega); have f4 : IntKind.i64.wrap ((k : Int) + j) = (k : Int) + j := IntWalk.i64_in _ (by omega); have hm' := hid hm; clear hm; obtain ⟨C, hC0, hC⟩ : ∃ C, S.extract m S.size = C ∧ C.size ≤ S.size - m := ⟨_, rfl, by simp [ByteArray.size_extract]⟩; have hadd2 : ¬ (A.size + σ.size + C.size > 9223372036854775807) := (by omega); have hadd3 : ¬ ((A ++ σ).size + C.size > 9223372036854775807) := (by rw [ByteArray.size_append]; omega); have hm5 : ¬ ((S.size : Int) < (m : Int)) := (by omega); have hm6 : ¬ ((m : Int) > (S.size : Int)) := (by omega)))
  have hsz : (A ++ σ ++ C).size ≤ S.size + 1 := by
    rw [ByteArray.size_append, ByteArray.size_append]
    have := hm'.out
    omega
  have HSZ := hid hsz
  have HBF := hid ((HB2.out.next (below_d (Below.refl _ _))).trans (hb3.trans hb4))
  have HRF := hid hr4
  clear hsz hb3 hb4 hr3 hr4 hm'
  go_wp2_with fail
  go_ret
  exact ⟨_, rfl, HSZ.out, HBF.out, _, HRF.out⟩

namespace Branching
/-- what a drawn text comes to: some text, not too long -/
def TextPost (w : World) (e : Ending) (w' : World) : Prop := ∃ s : ByteArray, e = .returned (.string s) ∧ s.size ≤ 1000 ∧ Below w.heap.size w w'
end Branching
end Go.Proofs.Ythjhokifonjeaaa
namespace Go.Proofs.Ythjhokifonjeaaa
open Go.RowKit
namespace Branching

set_option maxRecDepth 100000 in
set_option maxHeartbeats 2000000 in
theorem drawText_any (w : World) (a : Option Addr) (len cap : Nat) (hb : ByteArg w a len cap) : Calls Try.prog 39 #[.slice a len cap] w (TextPost w) := by
  go_enter Try.func39, Try.ntmps39
  go_wp2_with fail
  refine (open_any w a len cap hb).mono ?_
  rintro e w1 ⟨v, rfl, ⟨R, B, rfl, hRw, hr⟩, hb1⟩
  have hRl := hr.lt
  have HR := hid hr
  clear hb hr
  go_wp2_with fail
  refine (form_any _ R B 0 HR.out (by omega)).mono ?_
  rintro e w2 ⟨v2, t, p2, rfl, hn, hnt, hv, hb2, hr2, hp2⟩
  obtain ⟨a2, n2, rfl⟩ := TrIn_shape hn.any
  have HN := hid hn.any
  have HR2 := hid hr2
  have HB2 := hid (hb2.new hb1 hRw)
  have hl := branT.txt_len t
  have hsz : (bs (fmt t)).size ≤ 200 := by
    rw [bs_size, show fmt t = branT.txt t by simp [fmt, hv]]
    omega
  have HSZ := hid hsz
  have hs2 := hb2.size
  have hs1 := hb1.size
  clear hn hb2 hr2 hb1 hsz hv hl
  go_wp2_with fail
  refine (specFmt_any t _ _ HN.out).mono ?_
  rintro e w3 ⟨rfl, hb3⟩
  have HB3 := hid hb3
  have hs3 := hb3.size
  clear hb3
  generalize bs (fmt t) = S at *
  go_wp2_with fail
  have hT := Texts.new [⟨#[]⟩, ⟨#[40]⟩, ⟨#[41]⟩, ⟨#[112]⟩, ⟨#[69]⟩, ⟨#[65]⟩, ⟨#[85]⟩, ⟨#[88]⟩, ⟨#[33]⟩, ⟨#[71]⟩] (by decide) w3 9
  have HX := bend_any B (w3.alloc (.cells #[.string ⟨#[]⟩, .string ⟨#[40]⟩, .string ⟨#[41]⟩, .string ⟨#[112]⟩, .string ⟨#[69]⟩, .string ⟨#[65]⟩, .string ⟨#[85]⟩, .string ⟨#[88]⟩, .string ⟨#[33]⟩, .string ⟨#[71]⟩] 9)) R p2 w3.heap.size 10 S (by have := HSZ.out; omega) ((HR2.out.next HB3.out).next (below_alloc _ _)) (by omega) (by omega) (by omega) (by omega) hT
  refine HX.mono ?_
  clear HX hT
  rintro e w4 ⟨s, rfl, hs, hb4, _⟩
  have HF := hid (hb4.new (below_next (below_next HB2.out HB3.out) (below_alloc _ _)) hRw)
  have HS := hid (show s.size ≤ 1000 by have := HSZ.out; omega)
  clear hb4 hs
  go_wp2_with fail
  go_ret
  exact ⟨s, rfl, HS.out, HF.out⟩
end Branching
end Go.Proofs.Ythjhokifonjeaaa
namespace Go.Proofs.Ythjhokifonjeaaa
open Go.RowKit
namespace Branching

set_option maxRecDepth 100000 in
set_option maxHeartbeats 1000000 in
theorem drawFormatBranching_any (w : World) (a : Option Addr) (len cap : Nat) (hb : ByteArg w a len cap) : Calls Try.prog 34 #[.slice a len cap] w (RetP (Drawn w) w) := by
  go_enter Try.func34, Try.ntmps34
  go_wp2_with fail
  refine (drawValid_any _ a len cap (hb.next (below_alloc _ _))).mono ?_
  rintro e w3 ⟨v, rfl, ⟨t', hn', hnt⟩, hb1⟩
  have c2 := box3_next hb1 (box3_new w (.int .i64 0) (.int .i64 0) (.slice none 0 0) 39)
  have B1 := below_next (below_alloc w _) hb1
  obtain ⟨a2, n2, hv⟩ := TrIn_shape hn'.any
  generalize t'.kids.length = m2 at hv
  generalize hk : t'.kind = k at hv
  generalize hw : t'.val = u at hv
  subst hv
  have HN := hid hn'
  clear hb1 hn'
  go_wp2_with fail
  refine bodyPost_ret (v := .agg #[.int .i64 k, .int .i64 u, .slice a2 m2 n2]) (by simp [results, Try.results34, go_sem, c2]) rfl ?_
  have HN' := HN.out
  simp only [World.size_alloc] at HN'
  exact RetP.mk ⟨t', (HN'.keep (((Keep.set _ (by simp) _).trans (Keep.set _ (by simp) _)).trans (Keep.set _ (by simp) _))).mono (by omega), by omega⟩ (by repeat (first | exact Below.refl _ _ | assumption | refine below_a ?_ _ | refine below_o ?_ _ | refine below_d ?_ | refine below_n ?_ _ | refine below_s ?_ (by first | (simp; done) | (simp; omega) | omega) _))

end Branching
end Go.Proofs.Ythjhokifonjeaaa
namespace Go.Proofs.Ythjhokifonjeaaa
open Go.RowKit

/-- the place of a byte in a list, from k on; -1 if it isn't there -/
def idxI : List UInt8 → UInt8 → Int → Int
  | [], _, _ => -1
  | h :: t, c, k => if h = c then k else idxI t c (k + 1)

theorem bs_get (l : List UInt8) (i : Nat) : (bs l)[i]! = l[i]! := by
  rcases Nat.lt_or_ge i l.length with h | h
  · have h1 : i < (bs l).size := by rw [bs_size]; exact h
    rw [getElem!_pos (bs l) i h1, getElem!_pos l i h]
    rfl
  · have h1 : ¬ i < (bs l).size := by rw [bs_size]; omega
    rw [getElem!_neg (bs l) i h1, getElem!_neg l i (by omega)]
theorem idx_find (c : UInt8) : ∀ (l pre : List UInt8), (match (List.range' pre.length l.length).find? (fun i => (bs (pre ++ l))[i]! == c) with | some i => (i : Int) | none => -1) = idxI l c pre.length
  | [], pre => by simp [idxI]
  | h :: t, pre => by
    have e : (bs (pre ++ h :: t))[pre.length]! = h := by rw [bs_get]; simp
    rw [List.length_cons, List.range'_succ, List.find?_cons, e]
    simp only [idxI]
    by_cases hc : h = c
    · rw [if_pos hc]; simp [hc]
    · rw [if_neg hc]
      have hc2 : (h == c) = false := by simpa using hc
      rw [hc2]
      have := idx_find c t (pre ++ [h])
      simpa using this
theorem firstIdx_bs (l : List UInt8) (c : UInt8) : firstIdx (bs l) c = idxI l c 0 := by
  have := idx_find c l []
  simp only [List.length_nil, List.nil_append] at this
  unfold firstIdx
  rw [bs_size, List.range_eq_range']
  exact this

theorem bs_drop (c : UInt8) (s : List UInt8) : (bs (c :: s)).extract 1 (s.length + 1) = bs s := by
  apply ByteArray.ext
  simp [bs, ByteArray.data_extract]
abbrev Box2 (w : World) (B : Nat) (a b : Value) : Prop := B < w.heap.size ∧ w.cell? ⟨B, 0, none⟩ = some a ∧ w.cell? ⟨B, 1, none⟩ = some b ∧ w.frozen? ⟨B, 0, none⟩ = false ∧ w.frozen? ⟨B, 1, none⟩ = false
theorem box2_next {w w' : World} (h : Below w.heap.size w w') {B : Nat} {a b : Value} (hb : Box2 w B a b) : Box2 w' B a b :=
  ⟨Nat.lt_of_lt_of_le hb.1 h.size, by rw [h.cell (p := ⟨B, 0, none⟩) hb.1]; exact hb.2.1, by rw [h.cell (p := ⟨B, 1, none⟩) hb.1]; exact hb.2.2.1,
    by rw [h.frozen (p := ⟨B, 0, none⟩) hb.1]; exact hb.2.2.2.1, by rw [h.frozen (p := ⟨B, 1, none⟩) hb.1]; exact hb.2.2.2.2⟩
theorem box2_set0 {w : World} {B : Nat} {a b : Value} (h : Box2 w B a b) (v : Value) : Box2 (w.setCell ⟨B, 0, none⟩ v) B v b :=
  ⟨by simpa using h.1, World.cell?_setCell_same _ _ _ h.2.1, by rw [World.cell?_setCell_other _ _ _ _ (by simp)]; exact h.2.2.1, by simpa using h.2.2.2.1, by simpa using h.2.2.2.2⟩
theorem box2_set1 {w : World} {B : Nat} {a b : Value} (h : Box2 w B a b) (v : Value) : Box2 (w.setCell ⟨B, 1, none⟩ v) B a v :=
  ⟨by simpa using h.1, by rw [World.cell?_setCell_other _ _ _ _ (by simp)]; exact h.2.1, World.cell?_setCell_same _ _ _ h.2.2.1, by simpa using h.2.2.2.1, by simpa using h.2.2.2.2⟩
theorem box2_but {w w' : World} {D : Nat} (h : But w D w') {B : Nat} {a b : Value} (hd : B ≠ D) (hb : Box2 w B a b) : Box2 w' B a b :=
  ⟨Nat.lt_of_lt_of_le hb.1 h.size, by rw [h.cell hb.1 hd]; exact hb.2.1, by rw [h.cell hb.1 hd]; exact hb.2.2.1, by rw [h.frozen hb.1 hd]; exact hb.2.2.2.1, by rw [h.frozen hb.1 hd]; exact hb.2.2.2.2⟩

/-- what 'take' does: the place, the rest, is it bad -/
def takeB (set : List UInt8) (s : List UInt8) (b : Bool) : Int × List UInt8 × Bool :=
  match b, s with
  | true, s => (-1, s, true)
  | false, [] => (-1, [], true)
  | false, c :: s => if idxI set c 0 < 0 then (-1, c :: s, true) else (idxI set c 0, s, false)

def TakePost (R : Nat) (r : Int × List UInt8 × Bool) (w : World) (e : Ending) (w' : World) : Prop := e = .returned (.int .i64 r.1) ∧ Box2 w' R (.string (bs r.2.1)) (.bool r.2.2) ∧ But w R w'

theorem index2_any (set : List UInt8) (c : UInt8) (w : World) : Calls Try.prog 110 #[.string (bs set), .int .u8 c.toNat] w (RetW (.int .i64 (idxI set c 0)) w) := by
  have hib : ∀ (s : ByteArray) (c : Int) (w : World), (callFunc 113 #[.string s, .int .u8 c]).run Try.prog w = .ok (.value (.int .i64 (firstIdx s c.toNat.toUInt8))) w := fun s c w => by
    rw [run_callFunc_extern (fn := Try.f113) (e := Extern.BytealgIndexByte.indexByte) (by kernel_rfl) (by kernel_rfl) (by kernel_rfl) (by kernel_rfl) (by kernel_rfl), run_indexByte_string]
    rfl
  have E := hid (firstIdx_bs set c)
  go_enter Try.func110, Try.ntmps110
  go_wp2_with fail
  go_ret
  exact ⟨congrArg (fun x => Ending.returned (Value.int .i64 x)) (by rw [← E.out]), rfl⟩
theorem index_any (set : List UInt8) (c : UInt8) (w : World) : Calls Try.prog 106 #[.string (bs set), .int .u8 c.toNat] w (RetW (.int .i64 (idxI set c 0)) w) := by
  go_enter Try.func106, Try.ntmps106
  go_wp2_with fail
  refine (index2_any set c w).mono ?_
  rintro e w1 ⟨rfl, rfl⟩
  go_wp2_with fail
  go_ret
  exact ⟨rfl, rfl⟩

set_option maxHeartbeats 1000000 in
theorem take_any (set s : List UInt8) (b : Bool) (w : World) (R : Nat) (hR : Box2 w R (.string (bs s)) (.bool b)) (hl : s.length ≤ 1048576) : Calls Try.prog 89 #[.pointer (some ⟨R, 0, none⟩), .string (bs set)] w (TakePost R (takeB set s b) w) := by
  have hR0 := hR
  obtain ⟨p0, p1, p2, p3, p4⟩ := hR
  cases b with
  | true =>
    go_enter Try.func89, Try.ntmps89
    go_wp2_with fail
    go_ret
    exact ⟨rfl, box2_set1 hR0 _, But.set _ _ _ _⟩
  | false =>
    cases s with
    | nil =>
      have e0 : bs [] = (⟨#[]⟩ : ByteArray) := rfl
      rw [e0] at p1 hR0
      go_enter Try.func89, Try.ntmps89
      go_wp2_with fail
      go_ret
      exact ⟨rfl, box2_set1 hR0 _, But.set _ _ _ _⟩
    | cons c s =>
      have hsz : (bs (c :: s)).size = s.length + 1 := by rw [bs_size]; rfl
      have hne : (bs (c :: s)).toList.isEmpty = false := by rw [Go.ByteArray.toList_eq]; rfl
      have hg : ∀ h : 0 < (bs (c :: s)).size, (bs (c :: s))[0]'h = c := fun h => rfl
      go_enter Try.func89, Try.ntmps89
      go_wp2_with fail
      refine (index_any set c w).mono ?_
      rintro e w1 ⟨rfl, rfl⟩
      by_cases hi : idxI set c 0 < 0
      · have E := hid (show takeB set (c :: s) false = (-1, c :: s, true) by simp [takeB, hi])
        go_wp2_with fail
        go_ret
        rw [E.out]
        exact ⟨rfl, box2_set1 hR0 _, But.set _ _ _ _⟩
      · have E := hid (show takeB set (c :: s) false = (idxI set c 0, s, false) by simp [takeB, hi])
        go_wp2_with fail
        go_ret
        have hx : (bs (c :: s)).extract 1 (s.length + 1) = bs s := bs_drop c s
        rw [E.out, hx]
        exact ⟨rfl, box2_set0 hR0 _, But.set _ _ _ _⟩

theorem takeB_len (set s : List UInt8) (b : Bool) : (takeB set s b).2.1.length ≤ s.length := by
  cases b with
  | true => cases s <;> simp [takeB]
  | false =>
    cases s with
    | nil => simp [takeB]
    | cons c s =>
      by_cases h : idxI set c 0 < 0
      · simp [takeB, h]
      · simp [takeB, h]
theorem takeB_true (set s : List UInt8) : takeB set s true = (-1, s, true) := by cases s <;> rfl

/-- two operands, a sign between, a bracket behind: read piece by piece -/
theorem pair_read {rd : List UInt8 → Option (Tr × List UInt8)} {op : UInt8 → Option Int} {set : List UInt8} {kOf : Int → Int} (N : Int) (H : ∀ o, (idxI set o 0 < 0 ∧ op o = none) ∨ (0 ≤ idxI set o 0 ∧ idxI set o 0 < N ∧ op o = some (kOf (idxI set o 0))))
    {s r1 r3 : List UInt8} {b1 b3 : Bool} {t1 t2 : Tr} (E1 : rd s = (if b1 = true then none else some (t1, r1))) (E3 : (if (takeB set r1 b1).2.2 = true then none else rd (takeB set r1 b1).2.1) = (if b3 = true then none else some (t2, r3))) :
    pairWith rd op s = (if (takeB [41] r3 b3).2.2 = true then none else some (.mk (kOf (takeB set r1 b1).1) 0 [t1, t2], (takeB [41] r3 b3).2.1)) ∧ ((takeB [41] r3 b3).2.2 = false → 0 ≤ (takeB set r1 b1).1 ∧ (takeB set r1 b1).1 < N) := by
  unfold pairWith
  rw [E1]
  cases b1 with
  | true =>
    rw [takeB_true] at E3 ⊢
    cases b3 with
    | true => rw [takeB_true]; simp
    | false => simp at E3
  | false =>
    cases r1 with
    | nil =>
      cases b3 with
      | true => rw [takeB_true]; simp
      | false => simp [takeB] at E3
    | cons o r1 =>
      rcases H o with ⟨h1, h2⟩ | ⟨h1, h2, h3⟩
      · have e : takeB set (o :: r1) false = (-1, o :: r1, true) := by simp [takeB, h1]
        rw [e] at E3 ⊢
        cases b3 with
        | true => rw [takeB_true]; simp [h2]
        | false => simp at E3
      · have e : takeB set (o :: r1) false = (idxI set o 0, r1, false) := by
          simp only [takeB]; rw [if_neg (by omega)]
        rw [e] at E3 ⊢
        simp only [Bool.false_eq_true, if_false] at E3 ⊢
        simp only [h3, E3]
        cases b3 with
        | true => rw [takeB_true]; simp
        | false =>
          cases r3 with
          | nil => simp [takeB]
          | cons c r3 =>
            by_cases hc : c = 41
            · subst hc
              simp [takeB, idxI, h1, h2]
            · have hc2 : ¬ (41 : UInt8) = c := fun e => hc e.symm
              simp [takeB, idxI, hc, hc2]
end Go.Proofs.Ythjhokifonjeaaa
namespace Go.Proofs.Ythjhokifonjeaaa
open Go.RowKit

/-- all blocks but those of a list are kept -/
structure Only (S : List Nat) (w w' : World) : Prop where
  os : w'.os = w.os
  tape : w'.tape = w.tape
  output : w'.output = w.output
  size : w.heap.size ≤ w'.heap.size
  block : ∀ b, b < w.heap.size → b ∉ S → w'.heap[b]? = w.heap[b]?
theorem Only.refl (S : List Nat) (w : World) : Only S w w := ⟨rfl, rfl, rfl, Nat.le_refl _, fun _ _ _ => rfl⟩
theorem Only.trans {S : List Nat} {a b c : World} (h : Only S a b) (k : Only S b c) : Only S a c :=
  ⟨k.os.trans h.os, k.tape.trans h.tape, k.output.trans h.output, Nat.le_trans h.size k.size, fun i hi hd => (k.block i (Nat.lt_of_lt_of_le hi h.size) hd).trans (h.block i hi hd)⟩
theorem Only.mono {S S' : List Nat} {w w' : World} (h : Only S w w') (hs : ∀ b, b ∈ S → b ∈ S') : Only S' w w' := ⟨h.os, h.tape, h.output, h.size, fun b hb hn => h.block b hb (fun e => hn (hs b e))⟩
theorem Only.below {S : List Nat} {w w' : World} (h : Below w.heap.size w w') : Only S w w' := ⟨h.os, h.tape, h.output, h.size, fun b hb _ => h.block b hb⟩
theorem Only.set {S : List Nat} {w w' : World} (h : Only S w w') {a : Addr} (ha : a.block ∈ S) (v : Value) : Only S w (w'.setCell a v) :=
  ⟨h.os, h.tape, h.output, by simpa using h.size, fun b hb hn => by rw [Below.heap_setCell _ _ _ _ (show b ≠ a.block from fun e => hn (by rw [e]; exact ha))]; exact h.block b hb hn⟩
/-- the blocks are new since an older world -/
theorem Only.new {S : List Nat} {w W W' : World} (h : Only S W W') (hb : Below w.heap.size w W) (hs : ∀ b, b ∈ S → w.heap.size ≤ b) : Below w.heap.size w W' :=
  hb.trans ⟨h.os, h.tape, h.output, h.size, fun k hk => h.block k (Nat.lt_of_lt_of_le hk hb.size) (fun e => by have := hs k e; omega)⟩
theorem TrOwn_only {S : List Nat} {w w' : World} (h : Only S w w') {t : Tr} {x : Value} {bs : List Nat} (hx : TrOwn w t x bs) (hd : ∀ b, b ∈ bs → b ∉ S) : TrOwn w' t x bs :=
  (TrOwn_frame h.size).1 t x bs hx fun b hb => h.block b (TrOwn_lt.1 t x bs hx b hb) (hd b hb)

/-- a row of nodes, each in blocks of its own -/
def RowOf (w : World) (l : List Tr) (a : Option Addr) (bs : List Nat) : Prop :=
  (l = [] ∧ bs = []) ∨ ∃ R f r, a = some ⟨R, 0, none⟩ ∧ bs = R :: r ∧ R ∉ r ∧ Row w R (l.length * 3) f ∧ TrsOwn w f l 0 r

theorem TrOwn_row {w : World} {k v : Int} {kids : List Tr} {x : Value} {bs : List Nat} (h : TrOwn w (.mk k v kids) x bs) :
    ∃ a c, x = .agg #[.int .i64 k, .int .i64 v, .slice a kids.length c] ∧ i64 k ∧ i64 v ∧ kids.length ≤ c ∧ c ≤ maxLen ∧ RowOf w kids a bs := (TrOwn_mk ..).1 h
theorem row_TrOwn {w : World} {k v : Int} {kids : List Tr} {a : Option Addr} {c : Nat} {bs : List Nat} (h1 : i64 k) (h2 : i64 v) (h3 : kids.length ≤ c) (h4 : c ≤ maxLen) (h : RowOf w kids a bs) :
    TrOwn w (.mk k v kids) (.agg #[.int .i64 k, .int .i64 v, .slice a kids.length c]) bs := (TrOwn_mk ..).2 ⟨a, c, rfl, h1, h2, h3, h4, h⟩

/-- A NODE OF A ROW, AND WHAT MAY STAND IN ITS PLACE -/
theorem TrsOwn_replace {w : World} {f : Nat → Value} {t : Tr} : ∀ (l1 : List Tr) (l2 : List Tr) (o : Nat) (bs : List Nat), TrsOwn w f (l1 ++ t :: l2) o bs →
    ∃ r, (∀ b, b ∈ r → b ∈ bs) ∧ TrOwn w t (.agg #[f (o + l1.length * 3), f (o + l1.length * 3 + 1), f (o + l1.length * 3 + 2)]) r ∧
      ∀ (w' : World) (f' : Nat → Value) (t' : Tr), w.heap.size ≤ w'.heap.size → (∀ b, b ∈ bs → b ∉ r → w'.heap[b]? = w.heap[b]?) → (∀ i, i < o + l1.length * 3 ∨ o + l1.length * 3 + 3 ≤ i → f' i = f i) →
        TrOwn w' t' (.agg #[f' (o + l1.length * 3), f' (o + l1.length * 3 + 1), f' (o + l1.length * 3 + 2)]) r → TrsOwn w' f' (l1 ++ t' :: l2) o bs := by
  intro l1
  induction l1 with
  | nil =>
    intro l2 o bs h
    rw [List.nil_append, TrsOwn_cons] at h
    obtain ⟨r1, r2, rfl, hd, h1, h2⟩ := h
    refine ⟨r1, fun b hb => by simp [hb], by simpa using h1, fun w' f' t' hs hk hf ht => ?_⟩
    rw [List.nil_append, TrsOwn_cons]
    refine ⟨r1, r2, rfl, hd, by simpa using ht, ?_⟩
    refine (TrOwn_frame hs).2 _ _ _ _ (TrsOwn_congr h2 fun i hi _ => ?_) fun b hb => hk b (by simp [hb]) (fun e => hd b e hb)
    exact (hf i (.inr (by simpa using hi))).symm
  | cons u us ih =>
    intro l2 o bs h
    rw [List.cons_append, TrsOwn_cons] at h
    obtain ⟨r1, r2, rfl, hd, h1, h2⟩ := h
    obtain ⟨r, hr, hT, hrep⟩ := ih l2 (o + 3) r2 h2
    have e : o + 3 + us.length * 3 = o + (u :: us).length * 3 := by simp; omega
    rw [e] at hT hrep
    refine ⟨r, fun b hb => by simp [hr b hb], hT, fun w' f' t' hs hk hf ht => ?_⟩
    rw [List.cons_append, TrsOwn_cons]
    refine ⟨r1, r2, rfl, hd, ?_, hrep w' f' t' hs (fun b hb hn => hk b (by simp [hb]) hn) (fun i hi => hf i (by omega)) ht⟩
    have hl : ∀ i, i < 3 → f' (o + i) = f (o + i) := fun i hi => hf _ (.inl (by simp; omega))
    have h0 := hl 0 (by omega)
    rw [Nat.add_zero] at h0
    rw [h0, hl 1 (by omega), hl 2 (by omega)]
    exact (TrOwn_frame hs).1 _ _ _ h1 fun b hb => hk b (by simp [hb]) (fun e => hd b hb (hr b e))

mutual
/-- the nodes below, numbered from k on -/
def markT : Tr → Int → Tr | .mk a b kids, k => .mk a b (markL kids k)
def markL : List Tr → Int → List Tr
  | [], _ => []
  | t :: ts, k => markN t k :: markL ts (k + 2 * nodes t)
/-- a node and those below -/
def markN : Tr → Int → Tr | .mk _ _ kids, k => .mk k (k + 1) (markL kids (k + 2))
end
theorem markL_len : ∀ (l : List Tr) (k : Int), (markL l k).length = l.length
  | [], _ => by simp [markL]
  | t :: ts, k => by simp [markL, markL_len ts]

end Go.Proofs.Ythjhokifonjeaaa
namespace Go.Proofs.Ythjhokifonjeaaa
open Go.RowKit
/-- the cells of a row of nodes; and the same nodes wherever these cells stand -/
theorem trs_news {p : Nat → Prop} {w : World} : ∀ (l : List Tr) (b o : Nat), TrsIn p w l (some ⟨b, o, none⟩) → ∃ news : List Value, news.length = l.length * 3 ∧ (∀ j u, news[j]? = some u → w.cell? ⟨b, o + j, none⟩ = some u) ∧ (∀ u, u ∈ news → u.oneCell' = true) ∧
    ∀ (w' : World) (R o' : Nat), Below w.heap.size w w' → (∀ j u, news[j]? = some u → w'.cell? ⟨R, o' + j, none⟩ = some u) → TrsIn Any w' l (some ⟨R, o', none⟩) := by
  intro l
  induction l with
  | nil => intro b o _; exact ⟨[], rfl, by simp, by simp, fun _ _ _ _ _ => TrsIn_nil _ _ _⟩
  | cons t ts ih =>
    intro b o h
    rw [TrsIn_cons] at h
    obtain ⟨b', o', c0, c1, c2, hbo, hp, g0, g1, g2, hT, hr⟩ := h
    simp only [Option.some.injEq, Addr.mk.injEq, and_true] at hbo
    obtain ⟨rfl, rfl⟩ := hbo
    obtain ⟨news, h1, h2, h3, h4⟩ := ih b (o + 3) hr
    obtain ⟨x, k, hx⟩ := TrIn_shape hT
    simp only [Value.agg.injEq, Array.mk.injEq, List.cons.injEq, and_true] at hx
    obtain ⟨e0, e1, e2⟩ := hx
    refine ⟨c0 :: c1 :: c2 :: news, by simp [h1]; omega, ?_, ?_, ?_⟩
    · intro j u hj
      match j, hj with
      | 0, hj => simp at hj; subst hj; exact g0
      | 1, hj => simp at hj; subst hj; exact g1
      | 2, hj => simp at hj; subst hj; exact g2
      | j + 3, hj =>
        have := h2 j u (by simpa using hj)
        rw [show o + 3 + j = o + (j + 3) by omega] at this
        exact this
    · intro u hu
      simp only [List.mem_cons] at hu
      rcases hu with rfl | rfl | rfl | hu
      · rw [e0]; rfl
      · rw [e1]; rfl
      · rw [e2]; rfl
      · exact h3 u hu
    · intro w' R o2 hb hc
      rw [TrsIn_cons]
      refine ⟨R, o2, c0, c1, c2, rfl, trivial, hc 0 c0 rfl, hc 1 c1 rfl, hc 2 c2 rfl, TrIn_any (TrIn_below hb hT), h4 w' R (o2 + 3) hb fun j u hj => ?_⟩
      rw [show o2 + 3 + j = o2 + (j + 3) by omega]
      exact hc (j + 3) u (by simpa using hj)
theorem addr_add (b o i : Nat) : Addr.add ⟨b, o, none⟩ i = ⟨b, o + i, none⟩ := by unfold Addr.add; split <;> simp_all
theorem ownsRow_new (w : World) (e : TypeId) (size : Nat) : (w.alloc (.cells #[] e)).ownsRow w.heap.size e size (.slice (some ⟨w.heap.size, 0, none⟩) 0 0) 0 [] :=
  ⟨by simp, .inr ⟨w.heap.size, 0, #[], rfl, Nat.le_refl _, heap_alloc_new w _, Nat.le_refl _, Nat.zero_le _, by simp, by simp⟩⟩

namespace Branching

theorem cInfo : (Try.prog.info? 39).map (fun i => (i.zero, i.size, i.bytes)) = some (some (.agg #[.int .i64 0, .int .i64 0, .slice none 0 0]), 3, 40) := by kernel_rfl

/-- what a clone comes to: a new row with the cells of the nodes l, which still lie where they lay -/
def CloneP (l : List Tr) (s : Option Addr) (w : World) (v : Value) (w' : World) : Prop := ∃ a c, v = .slice a l.length c ∧ l.length ≤ c ∧ c ≤ maxLen ∧ (0 < l.length → ∃ R f, a = some ⟨R, 0, none⟩ ∧ w.heap.size ≤ R ∧ Row w' R (l.length * 3) f ∧ TrsIn Any w' l a ∧
  ∀ b o i, s = some ⟨b, o, none⟩ → i < l.length * 3 → w.cell? ⟨b, o + i, none⟩ = some (f i))

set_option maxRecDepth 100000 in
set_option maxHeartbeats 1000000 in
theorem sclone_any (l : List Tr) (w : World) (a : Option Addr) (c : Nat) (hl : TrsIn Any w l a) (hc : l.length ≤ c) (hc2 : c ≤ maxLen) (hlen : l.length ≤ 1048576) :
    Calls Try.prog 112 #[.slice a l.length c] w (RetP (CloneP l a w) w) := by
  unfold maxLen at hc2
  rcases a with _ | ad
  · have hl0 : l = [] := by
      cases l with
      | nil => rfl
      | cons t ts => rw [TrsIn_cons] at hl; obtain ⟨b, o, c0, c1, c2, h, _⟩ := hl; cases h
    subst hl0
    have hq : ∀ w, (binOp .eql 37 (.slice none ([] : List Tr).length c) (.slice none 0 0)).run Try.prog w = .ok (.bool true) w := fun w => by
      have := Lib.run_eql_slice_nil (P := Try.prog) w 37 39 none ([] : List Tr).length c 0 0 Try.underlying37
      simpa using this
    simp only [List.length_nil] at hq ⊢
    go_enter Try.func112, Try.ntmps112
    go_wp2_with fail
    go_ret
    exact RetP.mk ⟨none, 0, rfl, Nat.le_refl _, Nat.zero_le _, fun h => by simp at h⟩ (Below.refl _ _)
  · have hq : ∀ w, (binOp .eql 37 (.slice (some ad) l.length c) (.slice none 0 0)).run Try.prog w = .ok (.bool false) w := fun w => by
      have := Lib.run_eql_slice_nil (P := Try.prog) w 37 39 (some ad) l.length c 0 0 Try.underlying37
      simpa using this
    obtain ⟨ri, hi, hz, hs1, hs2⟩ := info_parts cInfo
    have hnews : ∃ news : List Value, news.length = l.length * 3 ∧ (∀ j u, news[j]? = some u → w.cell? (ad.add j) = some u) ∧ (∀ u, u ∈ news → u.oneCell' = true) ∧
        ∀ (w' : World) (R : Nat), Below w.heap.size w w' → (∀ j u, news[j]? = some u → w'.cell? ⟨R, j, none⟩ = some u) → TrsIn Any w' l (some ⟨R, 0, none⟩) := by
      cases hl0 : l with
      | nil => exact ⟨[], rfl, by simp, by simp, fun _ _ _ _ => TrsIn_nil _ _ _⟩
      | cons t ts =>
        obtain ⟨b, o, hbo, _⟩ := TrsIn_addr hl (by rw [hl0]; simp)
        cases hbo
        obtain ⟨news, h1, h2, h3, h4⟩ := trs_news l b o hl
        rw [hl0] at h1 h4
        exact ⟨news, h1, fun j u hj => by rw [addr_add]; exact h2 j u hj, h3, fun w' R hb hc => h4 w' R 0 hb fun j u hj => by rw [Nat.zero_add]; exact hc j u hj⟩
    obtain ⟨news, n1, n2, n3, n4⟩ := hnews
    have N1 := hid n1; have N2 := hid n2; have N3 := hid n3; have N4 := hid n4; have HI := hid hi; have HZ := hid hz; have H1 := hid hs1; have H2 := hid hs2
    clear n1 n2 n3 n4 hi hz hs1 hs2
    go_enter Try.func112, Try.ntmps112
    go_wp2_with (refine wpList_append_own_at _ rfl (.tmp 5) (.tmp 6) 37 rfl w.heap.size 39 ri (.agg #[.int .i64 0, .int .i64 0, .slice none 0 0]) 3 40 Try.underlying37 HI.out HZ.out H1.out H2.out rfl (by omega) (.slice (some ⟨w.heap.size, 0, none⟩) 0 0) 0 [] rfl (ownsRow_new w 39 3) ad l.length c news rfl N1.out (fun j u hj => (below_alloc w _).cell (blt (N2.out j u hj)) ▸ N2.out j u hj) N3.out (by unfold maxLen; omega) (by omega) (by simp) ?_)
    intro v2 w3 hown hgrow _ _
    have B : Below w.heap.size w w3 := ⟨hgrow.os, hgrow.tape, hgrow.output, by have := hgrow.size; simp at this; omega, fun k hk => by
      rw [hgrow.block k (by simp; omega) (fun e => by simp [Value.ownBlock] at e; omega), (below_alloc w _).block k hk]⟩
    have hfin := hid (show CloneP l (some ad) w v2 w3 by
      rcases hown.2 with ⟨rfl, h⟩ | ⟨g, cap, cur, rfl, hb, hgg, h4, h5, h6, h7⟩
      · exact ⟨none, 0, by rw [h], by omega, Nat.zero_le _, fun h' => by omega⟩
      · have hcs := hown.cells (g := g) rfl
        refine ⟨some ⟨g, 0, none⟩, cap, rfl, h4, h5, fun _ => ⟨g, fun i => news.getD i undef, rfl, hb, ⟨(Array.getElem?_eq_some_iff.1 hgg).1, fun i hi => ?_, fun i => by simp [World.frozen?, hgg]⟩, ?_⟩⟩
        · have hx : news[i]? = some (news.getD i undef) := by
            simp only [List.getD_eq_getElem?_getD]
            rw [List.getElem?_eq_getElem (by rw [N1.out]; exact hi)]; rfl
          have := hcs i _ hx
          rw [addr_add, Nat.zero_add] at this
          exact this
        · refine ⟨N4.out w3 g B fun j u hj => ?_, fun b o i e hi => ?_⟩
          · have := hcs j u hj
            rw [addr_add, Nat.zero_add] at this
            exact this
          · simp only [Option.some.injEq] at e
            subst e
            have hx : news[i]? = some (news.getD i undef) := by
              simp only [List.getD_eq_getElem?_getD]
              rw [List.getElem?_eq_getElem (by rw [N1.out]; exact hi)]; rfl
            have := N2.out i _ hx
            rwa [addr_add] at this)
    clear hown hgrow
    go_wp2_with fail
    go_ret
    exact RetP.mk hfin.out B

set_option maxHeartbeats 1000000 in
theorem clip_any (a : Option Addr) (n c : Nat) (w : World) (hc : n ≤ c) (hc2 : c ≤ maxLen) :
    Calls Try.prog 111 #[.slice a n c] w (RetW (.slice a n n) w) := by
  unfold maxLen at hc2
  go_enter Try.func111, Try.ntmps111
  go_wp2_with fail
  go_ret
  exact ⟨rfl, rfl⟩

set_option maxHeartbeats 1000000 in
theorem clone_any (l : List Tr) (w : World) (a : Option Addr) (c : Nat) (hl : TrsIn Any w l a) (hc : l.length ≤ c) (hc2 : c ≤ maxLen) (hlen : l.length ≤ 1048576) :
    Calls Try.prog 107 #[.slice a l.length c] w (RetP (CloneP l a w) w) := by
  go_enter Try.func107, Try.ntmps107
  go_wp2_with fail
  refine (sclone_any l _ a c hl hc hc2 hlen).mono ?_
  rintro e w1 ⟨v, rfl, ⟨a', c', rfl, k1, k2, k3⟩, hb⟩
  go_wp2_with fail
  refine (clip_any a' l.length c' _ k1 k2).mono ?_
  rintro e w2 ⟨rfl, rfl⟩
  go_wp2_with fail
  go_ret
  exact RetP.mk ⟨a', l.length, rfl, Nat.le_refl _, Nat.le_trans k1 k2, k3⟩ hb

end Branching
end Go.Proofs.Ythjhokifonjeaaa
namespace Go.Proofs.Ythjhokifonjeaaa
open Go.RowKit
namespace Branching

/-- a row of nodes of one's own, the nodes' blocks from B on -/
def OwnArg (B : Nat) (w : World) (l : List Tr) (a : Option Addr) : Prop := l = [] ∨ ∃ R f bs, a = some ⟨R, 0, none⟩ ∧ Row w R (l.length * 3) f ∧ TrsOwn w f l 0 bs ∧ ∀ x, x ∈ bs → B ≤ x
theorem OwnArg.trs {B : Nat} {w : World} {l : List Tr} {a : Option Addr} (h : OwnArg B w l a) : TrsIn Any w l a := by
  rcases h with rfl | ⟨R, f, bs, rfl, h1, h2, _⟩
  · exact TrsIn_nil _ _ _
  · exact TrOwn_in.2 l f 0 bs h2 (fun _ _ => trivial) R trivial (by simpa using h1)

set_option maxHeartbeats 400000 in
theorem mk_any (k : Int) (hk : i64 k) (l : List Tr) (w : World) (a : Option Addr) (c B : Nat) (h : OwnArg B w l a) (hB : B ≤ w.heap.size) (hc : l.length ≤ c) (hc2 : c ≤ maxLen) (hlen : l.length ≤ 1048576) :
    Calls Try.prog 90 #[.int .i64 k, .slice a l.length c] w (RetP (NewTr B (.mk k 0 l)) w) := by
  have ht := h.trs
  have H := hid h
  clear h
  go_enter Try.func90, Try.ntmps90
  go_wp2_with fail
  refine (clone_any l _ a c (TrsIn_below (by repeat (first | exact Below.refl _ _ | assumption | refine below_a ?_ _ | refine below_o ?_ _ | refine below_d ?_ | refine below_n ?_ _ | refine below_s ?_ (by first | (simp; done) | (simp; omega) | omega) _)) ht) hc hc2 hlen).mono ?_
  rintro e w1 ⟨u, rfl, ⟨a', c', rfl, k1, k2, k3⟩, hb⟩
  have hfin := hid (show ∃ bs, TrOwn w1 (.mk k 0 l) (.agg #[.int .i64 k, .int .i64 0, .slice a' l.length c']) bs ∧ w.heap.size ∉ bs ∧ ∀ x, x ∈ bs → B ≤ x by
    have key : ∃ bs, TrOwn w1 (.mk k 0 l) (.agg #[.int .i64 k, .int .i64 0, .slice a' l.length c']) bs ∧ w.heap.size ∉ bs ∧ ∀ x, x ∈ bs → B ≤ x := by
      rcases H.out with rfl | ⟨R0, f0, bs, rfl, hr0, ho0, hlt⟩
      · exact ⟨[], TrOwn_leaf hk (by unfold i64; omega) k2, by simp, by simp⟩
      · by_cases h0 : 0 < l.length
        · obtain ⟨R, f, rfl, hR, hrow, _, hcells⟩ := k3 h0
          simp only [World.size_alloc] at hR
          have hlb := TrOwn_lt.2 _ _ _ _ ho0
          have hr0' := hr0.below (below_alloc w (.cells #[.int .i64 0, .int .i64 0, .slice none 0 0] 39))
          have hown : TrsOwn w1 f l 0 bs := TrsOwn_congr (TrsOwn_below hb (TrsOwn_below (below_alloc _ _) ho0)) fun i _ hi => by
            have h1 := hcells R0 0 i rfl (by omega)
            rw [Nat.zero_add, hr0'.2.1 i (by omega)] at h1
            exact Option.some.inj h1
          obtain ⟨bs', g1, g2⟩ := TrOwn_new hk (show i64 0 by unfold i64; omega) k1 k2 hrow hown (fun e => by have := hlb R e; omega)
          refine ⟨bs', g1, fun e => ?_, fun x hx => ?_⟩
          · rcases g2 _ e with h | h
            · omega
            · have := hlb _ h; omega
          · rcases g2 _ hx with rfl | h
            · omega
            · exact hlt x h
        · have e : l = [] := List.eq_nil_of_length_eq_zero (by omega)
          subst e
          exact ⟨[], TrOwn_leaf hk (by unfold i64; omega) k2, by simp, by simp⟩
    exact key)
  have bz := box3_next hb (box3_new w (.int .i64 0) (.int .i64 0) (.slice none 0 0) 39)
  obtain ⟨z0, z1, z2, z3, z4, z5, z6⟩ := bz
  have hB1 := hid (below_next (below_alloc _ _) hb)
  clear hb k3
  go_wp2_with fail
  have z := box3_set2 (box3_set1 (box3_set0 ⟨z0, z1, z2, z3, z4, z5, z6⟩ (.int .i64 k)) (.int .i64 0)) (.slice a' l.length c')
  obtain ⟨y0, y1, y2, y3, _⟩ := z
  refine bodyPost_ret (v := .agg #[.int .i64 k, .int .i64 0, .slice a' l.length c']) (by simp [results, Try.results90, go_sem, y1, y2, y3]) rfl ?_
  obtain ⟨bs, g1, g2, g3⟩ := hfin.out
  exact RetP.mk ⟨bs, TrOwn_set (TrOwn_set (TrOwn_set g1 g2 _) g2 _) g2 _, g3⟩ (((hB1.out.setCell (by simp) _).setCell (by simp) _).setCell (by simp) _)

end Branching
end Go.Proofs.Ythjhokifonjeaaa
namespace Go.Proofs.Ythjhokifonjeaaa
open Go.RowKit

theorem newTr_set3 {B P : Nat} {t : Tr} {v : Value} {w : World} (h : NewTr B t v w) (hP : P < B) (u0 u1 u2 : Value) : NewTr B t v (((w.setCell ⟨P, 0, none⟩ u0).setCell ⟨P, 1, none⟩ u1).setCell ⟨P, 2, none⟩ u2) := by
  obtain ⟨bs, h1, h2⟩ := h
  have hn : P ∉ bs := fun e => by have := h2 _ e; omega
  exact ⟨bs, TrOwn_set (TrOwn_set (TrOwn_set h1 hn _) hn _) hn _, h2⟩
theorem below_set3 {B P : Nat} {w W : World} (h : Below B w W) (hP : B ≤ P) (u0 u1 u2 : Value) : Below B w (((W.setCell ⟨P, 0, none⟩ u0).setCell ⟨P, 1, none⟩ u1).setCell ⟨P, 2, none⟩ u2) := ((h.setCell hP _).setCell hP _).setCell hP _
theorem row_three (w : World) (x y z : Value) (t : TypeId) : Row (w.alloc (.cells #[x, y, z] t)) w.heap.size 3 (fun i => #[x, y, z].getD i undef) :=
  ⟨by simp, fun i hi => by
    rw [World.cell?_alloc_new]
    match i, hi with
    | 0, _ => rfl
    | 1, _ => rfl
    | 2, _ => rfl, fun i => by simp⟩
theorem row_six (w : World) (x y z x' y' z' : Value) (t : TypeId) : Row (w.alloc (.cells #[x, y, z, x', y', z'] t)) w.heap.size 6 (fun i => #[x, y, z, x', y', z'].getD i undef) :=
  ⟨by simp, fun i hi => by
    rw [World.cell?_alloc_new]
    match i, hi with
    | 0, _ => rfl
    | 1, _ => rfl
    | 2, _ => rfl
    | 3, _ => rfl
    | 4, _ => rfl
    | 5, _ => rfl, fun i => by simp⟩
theorem TrIn_shapeMk {p : Nat → Prop} {w : World} {k v : Int} {kids : List Tr} {x : Value} (h : TrIn p w (.mk k v kids) x) : ∃ a c, x = .agg #[.int .i64 k, .int .i64 v, .slice a kids.length c] := TrIn_shape h
theorem box3_only {S : List Nat} {w w' : World} (h : Only S w w') {B : Nat} {a b c : Value} (hd : B ∉ S) (hb : Box3 w B a b c) : Box3 w' B a b c := by
  have e := h.block B hb.1 hd
  refine ⟨Nat.lt_of_lt_of_le hb.1 h.size, ?_, ?_, ?_, ?_, ?_, ?_⟩
  · rw [World.cell?_of_block (w := w) (a := ⟨B, 0, none⟩) e]; exact hb.2.1
  · rw [World.cell?_of_block (w := w) (a := ⟨B, 1, none⟩) e]; exact hb.2.2.1
  · rw [World.cell?_of_block (w := w) (a := ⟨B, 2, none⟩) e]; exact hb.2.2.2.1
  · rw [World.frozen?_of_block (w := w) (a := ⟨B, 0, none⟩) e]; exact hb.2.2.2.2.1
  · rw [World.frozen?_of_block (w := w) (a := ⟨B, 1, none⟩) e]; exact hb.2.2.2.2.2.1
  · rw [World.frozen?_of_block (w := w) (a := ⟨B, 2, none⟩) e]; exact hb.2.2.2.2.2.2
theorem newTr_over {B : Nat} {t : Tr} {v : Value} {w w' : World} (h : NewTr B t v w) (hb : Below w.heap.size w w') : NewTr B t v w' := h.below hb

end Go.Proofs.Ythjhokifonjeaaa
namespace Go.Proofs.Ythjhokifonjeaaa
open Go.RowKit

def dualK (k : Int) : Int := if k = 4 then 5 else if k = 5 then 4 else if k = 7 then 8 else 7
def truT : Tr := .mk 1 0 []
def flsT : Tr := .mk 3 0 [truT]
def nfNode (neg : Bool) (k v : Int) (ks : List Tr) : Tr :=
  if k = 1 ∨ k = 2 then (if neg = true then .mk 3 0 [.mk k v []] else .mk k v [])
  else if k = 3 then ks.headD truT
  else if k = 6 then .mk 6 0 ks
  else if k = 9 ∨ k = 10 then (if ((k == 9) != neg) = true then .mk 7 0 (truT :: ks) else .mk 8 0 (flsT :: ks))
  else .mk (if neg = true then dualK k else k) 0 ks
mutual
/-- the normal form of a formula, or of its negation -/
def nfT : Tr → Bool → Tr | .mk k v kids, neg => nfNode neg k v (nfL kids (if k = 3 then !neg else neg))
def nfL : List Tr → Bool → List Tr | [], _ => [] | t :: ts, neg => nfT t neg :: nfL ts neg
end

theorem but_a {w W : World} {D : Nat} (h : But w D W) (o : Obj) : But w D (W.alloc o) := h.next (below_alloc _ _)
theorem but_d {w W : World} {D : Nat} (h : But w D W) : But w D W.drew := h.drew
theorem but_s {w W : World} {D i : Nat} (h : But w D W) (u : Value) : But w D (W.setCell ⟨D, i, none⟩ u) := h.trans (But.set W D i u)

/-- two trees of one's own, apart -/
def Two (B : Nat) (t u : Tr) (x y : Value) (w : World) : Prop := ∃ bs1 bs2, TrOwn w t x bs1 ∧ TrOwn w u y bs2 ∧ (∀ b, b ∈ bs1 → b ∉ bs2) ∧ (∀ b, b ∈ bs1 → B ≤ b) ∧ ∀ b, b ∈ bs2 → B ≤ b
theorem Two.mk {B N : Nat} {t u : Tr} {x y : Value} {w1 w2 : World} (h1 : NewTr B t x w1) (h2 : NewTr N u y w2) (hN : w1.heap.size ≤ N) (hb : Below w1.heap.size w1 w2) (hB : B ≤ N) : Two B t u x y w2 := by
  obtain ⟨bs1, g1, g2⟩ := h1
  obtain ⟨bs2, k1, k2⟩ := h2
  exact ⟨bs1, bs2, TrOwn_below hb g1, k1, fun b hb1 hb2 => by have := TrOwn_lt.1 _ _ _ g1 b hb1; have := k2 b hb2; omega, g2, fun b hb => by have := k2 b hb; omega⟩
theorem Two.mk2 {B N : Nat} {t u : Tr} {x y : Value} {w1 w2 : World} (h2 : NewTr B u y w1) (h1 : NewTr N t x w2) (hN : w1.heap.size ≤ N) (hb : Below w1.heap.size w1 w2) (hB : B ≤ N) : Two B t u x y w2 := by
  obtain ⟨bs2, g1, g2⟩ := h2
  obtain ⟨bs1, k1, k2⟩ := h1
  exact ⟨bs1, bs2, k1, TrOwn_below hb g1, fun b hb1 hb2 => by have := TrOwn_lt.1 _ _ _ g1 b hb2; have := k2 b hb1; omega, fun b hb => by have := k2 b hb; omega, g2⟩
theorem Two.set3 {B P : Nat} {t u : Tr} {x y : Value} {w : World} (h : Two B t u x y w) (hP : P < B) (u0 u1 u2 : Value) : Two B t u x y (((w.setCell ⟨P, 0, none⟩ u0).setCell ⟨P, 1, none⟩ u1).setCell ⟨P, 2, none⟩ u2) := by
  obtain ⟨bs1, bs2, h1, h2, h3, h4, h5⟩ := h
  have n1 : P ∉ bs1 := fun e => by have := h4 _ e; omega
  have n2 : P ∉ bs2 := fun e => by have := h5 _ e; omega
  exact ⟨bs1, bs2, TrOwn_set (TrOwn_set (TrOwn_set h1 n1 _) n1 _) n1 _, TrOwn_set (TrOwn_set (TrOwn_set h2 n2 _) n2 _) n2 _, h3, h4, h5⟩
theorem Two.rows {B b' : Nat} {w : World} {t u : Tr} {x y z x' y' z' : Value} {ty : TypeId} (h : Two B t u (.agg #[x, y, z]) (.agg #[x', y', z']) w) (hb : b' = w.heap.size) :
    ∃ f bs, Row (w.alloc (.cells #[x, y, z, x', y', z'] ty)) b' 6 f ∧ TrsOwn (w.alloc (.cells #[x, y, z, x', y', z'] ty)) f [t, u] 0 bs ∧ (∀ b, b ∈ bs → B ≤ b) ∧ b' ∉ bs := by
  subst hb
  obtain ⟨bs1, bs2, h1, h2, h3, h4, h5⟩ := h
  have l1 := TrOwn_lt.1 _ _ _ h1
  have l2 := TrOwn_lt.1 _ _ _ h2
  refine ⟨fun i => #[x, y, z, x', y', z'].getD i undef, bs1 ++ bs2, row_six w x y z x' y' z' ty, ?_, fun b hb => by rcases List.mem_append.1 hb with h | h; exact h4 b h; exact h5 b h, fun e => by
    rcases List.mem_append.1 e with h | h
    · have := l1 _ h; omega
    · have := l2 _ h; omega⟩
  rw [TrsOwn_cons]
  refine ⟨bs1, bs2, rfl, h3, by simpa using TrOwn_below (below_alloc _ _) h1, ?_⟩
  rw [TrsOwn_cons]
  exact ⟨bs2, [], by simp, by simp, by simpa using TrOwn_below (below_alloc _ _) h2, (TrsOwn_nil ..).2 rfl⟩
theorem Two.node {B b' : Nat} {k : Int} {w : World} {t u : Tr} {x y z x' y' z' : Value} {ty : TypeId} (hk : i64 k) (h : Two B t u (.agg #[x, y, z]) (.agg #[x', y', z']) w) (hB : B ≤ w.heap.size) (hb : b' = w.heap.size) :
    NewTr B (.mk k 0 [t, u]) (.agg #[.int .i64 k, .int .i64 0, .slice (some ⟨b', 0, none⟩) 2 2]) (w.alloc (.cells #[x, y, z, x', y', z'] ty)) := by
  obtain ⟨f, bs, h1, h2, h3, h4⟩ := h.rows (ty := ty) hb
  obtain ⟨bs', g1, g2⟩ := TrOwn_new (k := k) (v := 0) (c := 2) (kids := [t, u]) hk (show i64 0 by unfold i64; omega) (by simp) (by simp [maxLen]) h1 h2 h4
  exact ⟨bs', g1, fun b hb' => by rcases g2 b hb' with rfl | h; omega; exact h3 b h⟩

end Go.Proofs.Ythjhokifonjeaaa
