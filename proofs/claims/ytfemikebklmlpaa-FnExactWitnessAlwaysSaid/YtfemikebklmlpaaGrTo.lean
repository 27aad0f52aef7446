/- The laws' toStateS, toIntSS, toGraph: copies in new memory. Conditions: those of each contract. -/
import Derived.Test.YtfemikebklmlpaaGrA
namespace Go.Proofs.Ytfemikebklmlpaa
open Go.RowKit
set_option linter.unusedVariables false
set_option linter.unusedSimpArgs false
namespace Gr

/-- blocks from B on that nothing freezes -/
def Fr (B : Nat) (w : World) (b : Nat) : Prop := B ≤ b ∧ ∀ i, w.frozen? ⟨b, i, none⟩ = false
theorem Fr.kept {B B' : Nat} {w w' : World} {b : Nat} (h : Fr B w b) (hB : B' ≤ B) (he : w'.heap[b]? = w.heap[b]?) : Fr B' w' b :=
  ⟨Nat.le_trans hB h.1, fun i => by rw [World.frozen?_of_block (w := w) (a := ⟨b, i, none⟩) he]; exact h.2 i⟩
/-- a row of records of m cells in block R, of which the first k are laid -/
def FillS {T : Type} (At : (Nat → Prop) → World → T → Nat → Nat → Prop) (m : Nat) (w : World) (R : Nat) (l : List T) (k : Nat) (wr : World) : Prop :=
  Below w.heap.size w wr ∧ w.heap.size ≤ R ∧ (∃ g, Row wr R (l.length * m) g) ∧ ∀ j t, j < k → l[j]? = some t → At (Fr (R + 1) wr) wr t R (j * m)
theorem row_rin {B R : Nat} {w : World} {l : List Int} (h : Row w R l.length (fun i => .int .i64 (l.getD i 0))) (hB : B ≤ R) (hi : ∀ n, n ∈ l → i64 n) (hl : l.length ≤ maxLen) : RIn (Fr B w) w l (.slice (some ⟨R, 0, none⟩) l.length l.length) :=
  ⟨_, _, rfl, Nat.le_refl _, hl, h.ints hi ⟨hB, h.2.2⟩⟩
theorem RIn.keepFr {B B' : Nat} {l : List Int} {v : Value} {w w' : World} (h : RIn (Fr B w) w l v) (hB : B' ≤ B) (hs : w.heap.size ≤ w'.heap.size) (hk : ∀ b, B ≤ b → b < w.heap.size → w'.heap[b]? = w.heap[b]?) : RIn (Fr B' w') w' l v :=
  h.frame hs fun b h1 h2 => ⟨h1.kept hB (hk b h1.1 h2), hk b h1.1 h2⟩
theorem StsIn.keepFr {B B' : Nat} {l : List S2} {a : Option Addr} {w w' : World} (h : StsIn (Fr B w) w l a) (hB : B' ≤ B) (hs : w.heap.size ≤ w'.heap.size) (hk : ∀ b, B ≤ b → b < w.heap.size → w'.heap[b]? = w.heap[b]?) : StsIn (Fr B' w') w' l a :=
  StsIn.frame h hs fun b h1 h2 => ⟨h1.kept hB (hk b h1.1 h2), hk b h1.1 h2⟩
theorem RowsIn.keepFr {B B' : Nat} {l : List (List Int)} {a : Option Addr} {w w' : World} (h : RowsIn (Fr B w) w l a) (hB : B' ≤ B) (hs : w.heap.size ≤ w'.heap.size) (hk : ∀ b, B ≤ b → b < w.heap.size → w'.heap[b]? = w.heap[b]?) : RowsIn (Fr B' w') w' l a :=
  RowsIn.frame h hs fun b h1 h2 => ⟨h1.kept hB (hk b h1.1 h2), hk b h1.1 h2⟩
/-- what copies come to -/
def NewSts (B : Nat) (l : List S2) (v : Value) (w : World) : Prop := ∃ a c, v = .slice a l.length c ∧ l.length ≤ c ∧ c ≤ maxLen ∧ StsIn (Fr B w) w l a
def NewRs (B : Nat) (l : List (List Int)) (v : Value) (w : World) : Prop := ∃ a c, v = .slice a l.length c ∧ l.length ≤ c ∧ c ≤ maxLen ∧ RowsIn (Fr B w) w l a
def NewGr (B : Nat) (g : G2) (v : Value) (w : World) : Prop := GrIn (Fr B w) w g v

theorem fillSt_step {w wr w2 : World} {R k : Nat} {l : List S2} {t : S2} {a : Option Addr} {c : Nat} {a' : Option Addr} {c' : Nat} (h : FillS StAt 2 w R l k wr) (ht : l[k]? = some t) (hb : Below wr.heap.size wr w2) (hn : RIn (Fr wr.heap.size w2) w2 t.locs (.slice a t.locs.length c)) (hn2 : RIn (Fr wr.heap.size w2) w2 t.vals (.slice a' t.vals.length c')) :
    FillS StAt 2 w R l (k + 1) (setAll w2 R (k * 2) [.slice a t.locs.length c, .slice a' t.vals.length c']) := by
  obtain ⟨h1, h2, ⟨g, hr⟩, h4⟩ := h
  have hk : k < l.length := (List.getElem?_eq_some_iff.1 ht).1
  have hr2 := hr.below hb
  have hex : ∀ i, i < 2 → ∃ u, w2.cell? ⟨R, k * 2 + i, none⟩ = some u := fun i hi => ⟨_, hr2.2.1 _ (by omega)⟩
  generalize hvs : ([.slice a t.locs.length c, .slice a' t.vals.length c'] : List Value) = vs
  have hlen : vs.length = 2 := by rw [← hvs]; rfl
  have hS : SetIn R (k * 2) (k * 2 + 2) w2 (setAll w2 R (k * 2) vs) := setAll_in vs w2 w2 R _ _ _ (SetIn.refl ..) (Nat.le_refl _) (by omega)
  have hC := setAll_cell vs w2 R (k * 2) (by rw [hlen]; exact hex)
  have hsz : wr.heap.size ≤ (setAll w2 R (k * 2) vs).heap.size := by rw [hS.size]; exact hb.size
  have hfr : ∀ b, Fr (R + 1) wr b → b < wr.heap.size → Fr (R + 1) (setAll w2 R (k * 2) vs) b ∧ (setAll w2 R (k * 2) vs).heap[b]? = wr.heap[b]? := fun b hb1 hb2 => by
    have e : (setAll w2 R (k * 2) vs).heap[b]? = wr.heap[b]? := by rw [hS.block b (by have := hb1.1; omega)]; exact hb.block b hb2
    exact ⟨hb1.kept (Nat.le_refl _) e, e⟩
  refine ⟨(below_then h1 hb h1.size).trans (hS.below h2), h2, hr2.setIn hS fun i hi1 hi2 => ?_, fun j u hj hu => ?_⟩
  · obtain ⟨d, rfl⟩ : ∃ d, i = k * 2 + d := ⟨i - k * 2, by omega⟩
    exact ⟨_, hC d _ (List.getElem?_eq_getElem (by omega))⟩
  · by_cases e : j = k
    · subst e
      obtain rfl : t = u := by rw [ht] at hu; simpa using hu
      have hk2 : ∀ b, wr.heap.size ≤ b → b < w2.heap.size → (setAll w2 R (j * 2) vs).heap[b]? = w2.heap[b]? := fun b hb1 _ => hS.block b (by have := hr.1; omega)
      have hs2 : w2.heap.size ≤ (setAll w2 R (j * 2) vs).heap.size := by rw [hS.size]; exact Nat.le_refl _
      subst hvs
      have hRl := hr.1
      exact ⟨a, c, a', c', ⟨hC 0 _ rfl, hC 1 _ rfl⟩, hn.keepFr (by omega) hs2 hk2, hn2.keepFr (by omega) hs2 hk2⟩
    · refine (h4 j u (by omega) hu).cells hsz (fun i hi => by rw [hS.cell _ (by omega)]; exact hb.cell (p := ⟨R, j * 2 + i, none⟩) hr.1) hfr

theorem fillRo_step {w wr w2 : World} {R k : Nat} {l : List (List Int)} {t : (List Int)} {a : Option Addr} {c : Nat} (h : FillS RoAt 1 w R l k wr) (ht : l[k]? = some t) (hb : Below wr.heap.size wr w2) (hn : RIn (Fr wr.heap.size w2) w2 t (.slice a t.length c)) :
    FillS RoAt 1 w R l (k + 1) (setAll w2 R (k * 1) [.slice a t.length c]) := by
  obtain ⟨h1, h2, ⟨g, hr⟩, h4⟩ := h
  have hk : k < l.length := (List.getElem?_eq_some_iff.1 ht).1
  have hr2 := hr.below hb
  have hex : ∀ i, i < 1 → ∃ u, w2.cell? ⟨R, k * 1 + i, none⟩ = some u := fun i hi => ⟨_, hr2.2.1 _ (by omega)⟩
  generalize hvs : ([.slice a t.length c] : List Value) = vs
  have hlen : vs.length = 1 := by rw [← hvs]; rfl
  have hS : SetIn R (k * 1) (k * 1 + 1) w2 (setAll w2 R (k * 1) vs) := setAll_in vs w2 w2 R _ _ _ (SetIn.refl ..) (Nat.le_refl _) (by omega)
  have hC := setAll_cell vs w2 R (k * 1) (by rw [hlen]; exact hex)
  have hsz : wr.heap.size ≤ (setAll w2 R (k * 1) vs).heap.size := by rw [hS.size]; exact hb.size
  have hfr : ∀ b, Fr (R + 1) wr b → b < wr.heap.size → Fr (R + 1) (setAll w2 R (k * 1) vs) b ∧ (setAll w2 R (k * 1) vs).heap[b]? = wr.heap[b]? := fun b hb1 hb2 => by
    have e : (setAll w2 R (k * 1) vs).heap[b]? = wr.heap[b]? := by rw [hS.block b (by have := hb1.1; omega)]; exact hb.block b hb2
    exact ⟨hb1.kept (Nat.le_refl _) e, e⟩
  refine ⟨(below_then h1 hb h1.size).trans (hS.below h2), h2, hr2.setIn hS fun i hi1 hi2 => ?_, fun j u hj hu => ?_⟩
  · obtain ⟨d, rfl⟩ : ∃ d, i = k * 1 + d := ⟨i - k * 1, by omega⟩
    exact ⟨_, hC d _ (List.getElem?_eq_getElem (by omega))⟩
  · by_cases e : j = k
    · subst e
      obtain rfl : t = u := by rw [ht] at hu; simpa using hu
      have hk2 : ∀ b, wr.heap.size ≤ b → b < w2.heap.size → (setAll w2 R (j * 1) vs).heap[b]? = w2.heap[b]? := fun b hb1 _ => hS.block b (by have := hr.1; omega)
      have hs2 : w2.heap.size ≤ (setAll w2 R (j * 1) vs).heap.size := by rw [hS.size]; exact Nat.le_refl _
      subst hvs
      have hRl := hr.1
      exact ⟨a, c, hC 0 _ rfl, hn.keepFr (by omega) hs2 hk2⟩
    · refine (h4 j u (by omega) hu).cells hsz (by rw [hS.cell _ (by omega)]; exact hb.cell (p := ⟨R, j * 1, none⟩) hr.1) hfr

theorem infoSt : (Try.prog.info? 91).map (fun i => (i.zero, i.size, i.bytes)) = some (some (.agg #[.slice none 0 0, .slice none 0 0]), 2, 48) := by kernel_rfl
def zerosSt (n : Nat) : Array Value := madeCells #[.slice none 0 0, .slice none 0 0] (n * 2)
theorem make_sts (n : Nat) (h : n ≤ 1048576) (w : World) : (Instr.makeSlice 23 (.int .i64 (n : Int)) (.int .i64 (n : Int))).run Try.prog w =
    .ok (.slice (some ⟨w.heap.size, 0, none⟩) n n) (w.alloc (.cells (zerosSt n) 91)) := by
  obtain ⟨i, hi, hz, h1, h2⟩ := info_parts infoSt
  have := run_make (P := Try.prog) w 23 91 i _ Try.underlying23 hi hz .i64 .i64 n n (by omega) (by omega) (by rw [h2]; omega) (by omega)
  rw [this, h1]
  simp [zerosSt, Value.cells]

theorem infoRo : (Try.prog.info? 30).map (fun i => (i.zero, i.size, i.bytes)) = some (some (.slice none 0 0), 1, 24) := by kernel_rfl
def zerosRo (n : Nat) : Array Value := madeCells #[.slice none 0 0] (n)
theorem make_ros (n : Nat) (h : n ≤ 1048576) (w : World) : (Instr.makeSlice 24 (.int .i64 (n : Int)) (.int .i64 (n : Int))).run Try.prog w =
    .ok (.slice (some ⟨w.heap.size, 0, none⟩) n n) (w.alloc (.cells (zerosRo n) 30)) := by
  obtain ⟨i, hi, hz, h1, h2⟩ := info_parts infoRo
  have := run_make (P := Try.prog) w 24 30 i _ Try.underlying24 hi hz .i64 .i64 n n (by omega) (by omega) (by rw [h2]; omega) (by omega)
  rw [this, h1]
  simp [zerosRo, Value.cells]

set_option maxRecDepth 100000 in
set_option maxHeartbeats 2000000 in
theorem toSts_any (l : List S2) (w : World) (a : Option Addr) (c : Nat) (hl : StsIn Any w l a) (hlen : l.length ≤ 1048576) (hs : ∀ t, t ∈ l → t.locs.length ≤ 1048576 ∧ t.vals.length ≤ 1048576) (hc : l.length ≤ c) (hc2 : c ≤ maxLen) :
    Calls Try.prog 47 #[.slice a l.length c] w (RetP (NewSts w.heap.size l) w) := by
  have hmk := make_sts l.length hlen
  unfold maxLen at hc2
  go_enter Try.func47, Try.ntmps47
  go_wp2_with fail
  go_loopw [4] (fun i wr => ∃ (k : Nat), k ≤ l.length ∧ i = .int .i64 k ∧ Hid (FillS StAt 2 w w.heap.size l k wr)) (fun i _ => l.length - (intOf i).toNat)
  case atStart => exact ⟨0, Nat.zero_le _, rfl, hid ⟨below_alloc _ _, Nat.le_refl _, ⟨_, row_new (by rw [zerosSt, size_madeCells]) _⟩, by omega⟩⟩
  case round =>
    obtain ⟨k, hk, rfl, hf⟩ := hrel
    by_cases hlt : k < l.length
    · obtain ⟨b, o, a1, c1, a2, c2, rfl, hb, _, g0, g1, hr1, hr2v⟩ := sts_at (hl.below hf.out.1) hlt
      have ht := hid (List.getElem?_eq_getElem hlt)
      have HS := hid (hs l[k] (List.getElem_mem hlt))
      have HT := hid (pair_of hr1 hr2v)
      have HI1 := hid (show ∀ n, n ∈ l[k].locs → i64 n from by obtain ⟨_, _, _, _, _, h⟩ := hr1; exact h.2)
      have HI2 := hid (show ∀ n, n ∈ l[k].vals → i64 n from by obtain ⟨_, _, _, _, _, h⟩ := hr2v; exact h.2)
      clear hr1 hr2v
      have hlt2 : (k : Int) < (l.length : Int) := by omega
      generalize l[k] = t at *
      go_wp2_with fail
      refine (State.to_any t.locs t.vals _ _ HT.out HS.out.1 HS.out.2).mono ?_
      rintro e w2 ⟨v, rfl, ⟨R1, R2, rfl, hR1, hR2, hrow1, hrow2⟩, hby⟩
      have HN1 := hid (row_rin hrow1 hR1 HI1.out (by have := HS.out.1; unfold maxLen; omega))
      have HN2 := hid (row_rin hrow2 (B := wr.heap.size) (by omega) HI2.out (by have := HS.out.2; unfold maxLen; omega))
      clear hrow1 hrow2
      have HF := hid (fillSt_step hf.out ht.out hby HN1.out HN2.out)
      obtain ⟨_, _, ⟨g, hrow⟩, _⟩ := hf.out
      have hrow2 := hrow.below hby
      have q0 := hrow2.2.1 (k * 2) (by omega)
      have q1 := hrow2.2.1 (k * 2 + 1) (by omega)
      have qf := hrow2.2.2
      have ql := hrow2.1
      clear hrow hrow2 hby hf HT HN1 HN2 g0 g1 HI1 HI2
      go_wp2_with fail
      go_roundw
      case rel => exact ⟨k + 1, by omega, by go_num, hid HF.out⟩
      case measure => simp [intOf]; omega
    · have hfin := hid (show NewSts w.heap.size l (.slice (some ⟨w.heap.size, 0, none⟩) l.length l.length) wr from by
        obtain ⟨h1, h2, ⟨g, hr⟩, h4⟩ := hf.out
        refine ⟨_, _, rfl, Nat.le_refl _, by unfold maxLen; omega, ?_⟩
        by_cases h0 : l = []
        · exact .inl h0
        · refine .inr ⟨_, 0, rfl, ⟨Nat.le_refl _, hr.2.2⟩, hr.1, fun i t ht => ?_⟩
          rw [Nat.zero_add]
          exact (h4 i t (by have := (List.getElem?_eq_some_iff.1 ht).1; omega) ht).cells (Nat.le_refl _) (fun _ _ => rfl) fun b hb _ => ⟨hb.kept (by omega) rfl, rfl⟩)
      have hB := hid hf.out.1
      have hlt2 : ¬ ((k : Int) < (l.length : Int)) := by omega
      clear hf
      go_wp2_with fail
      go_ret
      exact RetP.mk hfin.out hB.out

set_option maxRecDepth 100000 in
set_option maxHeartbeats 2000000 in
theorem toRs_any (l : List (List Int)) (w : World) (a : Option Addr) (c : Nat) (hl : RowsIn Any w l a) (hlen : l.length ≤ 1048576) (hs : ∀ t, t ∈ l → t.length ≤ 1048576) (hc : l.length ≤ c) (hc2 : c ≤ maxLen) :
    Calls Try.prog 48 #[.slice a l.length c] w (RetP (NewRs w.heap.size l) w) := by
  have hmk := make_ros l.length hlen
  unfold maxLen at hc2
  go_enter Try.func48, Try.ntmps48
  go_wp2_with fail
  go_loopw [4] (fun i wr => ∃ (k : Nat), k ≤ l.length ∧ i = .int .i64 k ∧ Hid (FillS RoAt 1 w w.heap.size l k wr)) (fun i _ => l.length - (intOf i).toNat)
  case atStart => exact ⟨0, Nat.zero_le _, rfl, hid ⟨below_alloc _ _, Nat.le_refl _, ⟨_, row_new (by rw [zerosRo, size_madeCells]; simp) _⟩, by omega⟩⟩
  case round =>
    obtain ⟨k, hk, rfl, hf⟩ := hrel
    by_cases hlt : k < l.length
    · obtain ⟨b, o, a1, c1, rfl, hb, _, g0, k1, k2, hi⟩ := rows_at (hl.below hf.out.1) hlt
      have ht := hid (List.getElem?_eq_getElem hlt)
      have HS := hid (hs l[k] (List.getElem_mem hlt))
      have HT := hid (And.intro hi (And.intro k1 k2))
      have HI1 := hid (show ∀ n, n ∈ l[k] → i64 n from hi.2)
      clear hi k1 k2
      have hlt2 : (k : Int) < (l.length : Int) := by omega
      generalize l[k] = t at *
      go_wp2_with fail
      refine (toIntS_any t _ a1 c1 HT.out.1 HS.out HT.out.2.1 HT.out.2.2).mono ?_
      rintro e w2 ⟨v, rfl, ⟨rfl, hrow1⟩, hby⟩
      have HN1 := hid (row_rin hrow1 (Nat.le_refl _) HI1.out (by have := HS.out; unfold maxLen; omega))
      clear hrow1
      have HF := hid (fillRo_step hf.out ht.out hby HN1.out)
      obtain ⟨_, _, ⟨g, hrow⟩, _⟩ := hf.out
      have hrow2 := hrow.below hby
      have q0 := hrow2.2.1 k (by omega)
      have qf := hrow2.2.2
      have ql := hrow2.1
      clear hrow hrow2 hby hf HT HN1 g0 HI1
      go_wp2_with fail
      go_roundw
      case rel => exact ⟨k + 1, by omega, by go_num, hid (by have h9 := HF.out; rw [Nat.mul_one] at h9; exact h9)⟩
      case measure => simp [intOf]; omega
    · have hfin := hid (show NewRs w.heap.size l (.slice (some ⟨w.heap.size, 0, none⟩) l.length l.length) wr from by
        obtain ⟨h1, h2, ⟨g, hr⟩, h4⟩ := hf.out
        refine ⟨_, _, rfl, Nat.le_refl _, by unfold maxLen; omega, ?_⟩
        by_cases h0 : l = []
        · exact .inl h0
        · refine .inr ⟨_, 0, rfl, ⟨Nat.le_refl _, hr.2.2⟩, hr.1, fun i t ht => ?_⟩
          rw [Nat.zero_add]
          exact (h4 i t (by have := (List.getElem?_eq_some_iff.1 ht).1; omega) ht).cells (Nat.le_refl _) rfl fun b hb _ => ⟨hb.kept (by omega) rfl, rfl⟩)
      have hB := hid hf.out.1
      have hlt2 : ¬ ((k : Int) < (l.length : Int)) := by omega
      clear hf
      go_wp2_with fail
      go_ret
      exact RetP.mk hfin.out hB.out

set_option maxRecDepth 100000 in
set_option maxHeartbeats 2000000 in
theorem toGr_any (g : G2) (w : World) (x : Value) (hx : GrIn Any w g x) (hs : SmallG g) : Calls Try.prog 14 #[x] w (RetP (NewGr w.heap.size g) w) := by
  obtain ⟨a, c, b, d, rfl, hc, hc2, hi, hd, hd2, hp⟩ := hx
  have HG := hid (fun (w' : World) (M : Below w.heap.size w w') => toSts_any g.states w' a c (hi.below M) hs.states hs.st hc hc2)
  have HV := hid (fun (w' : World) (M : Below w.heap.size w w') => toRs_any g.next w' b d (hp.below M) hs.next hs.ro hd hd2)
  clear hi hp hs
  go_enter Try.func14, Try.ntmps14
  go_wp2_with fail
  refine (HG.out _ (by repeat (first | exact Below.refl _ _ | assumption | refine below_a ?_ _ | refine below_o ?_ _ | refine below_d ?_ | refine below_n ?_ _ | refine below_s ?_ (by first | (simp; done) | (simp; omega) | omega) _))).mono ?_
  rintro y w1 ⟨v1, rfl, ⟨a1, k1, rfl, e1, e2, hn1⟩, hb⟩
  have b1 := State.pbox_next hb (State.pbox_next (below_alloc _ _) (State.pbox_next (below_alloc _ _) (State.pbox_at (w := w) (a := .slice a g.states.length c) (b := .slice b g.next.length d) rfl)))
  have b2 := State.pbox_next hb (State.pbox_next (below_alloc _ _) (State.pbox_at (B := w.heap.size + 1) (by simp)))
  have b3 := State.pbox_next hb (State.pbox_at (B := w.heap.size + 1 + 1) (by simp))
  have B := below_next (show Below w.heap.size w _ from below_next (below_next (below_alloc _ _) (below_alloc _ _)) (below_alloc _ _)) hb
  clear hb
  simp only [World.size_alloc] at hn1
  obtain ⟨x0, x1, x2, x3, x4⟩ := id b1
  obtain ⟨y0, y1, y2, y3, y4⟩ := id b3
  have b2' := hid (State.pbox_set b2 (show w.heap.size + 1 ≠ w.heap.size + 1 + 1 by omega) 0 (.slice a1 g.states.length k1))
  have b3' := hid (State.pbox_set0 b3 (.slice a1 g.states.length k1))
  have r1' := hid (StsIn.keepFr (B' := w.heap.size + 1 + 1 + 1) (w' := w1.setCell ⟨w.heap.size + 1 + 1, 0, none⟩ (.slice a1 g.states.length k1)) hn1 (Nat.le_refl _) (by simp) fun q hq _ => Below.heap_setCell _ _ _ _ (show q ≠ w.heap.size + 1 + 1 by omega))
  have B' := hid (show Below w.heap.size w (w1.setCell ⟨w.heap.size + 1 + 1, 0, none⟩ (.slice a1 g.states.length k1)) from B.setCell (by simp; omega) _)
  have hsz := hid (show w.heap.size + 1 + 1 < w1.heap.size from b3.1)
  clear b1 b2 b3 hn1 B
  go_wp2_with fail
  clear x0 x1 x2 x3 x4 y0 y1 y2 y3 y4
  refine (HV.out _ B'.out).mono ?_
  rintro y w2 ⟨v2, rfl, ⟨a2, k2, rfl, f1, f2, hn2⟩, hb⟩
  have b2 := State.pbox_next hb b2'.out
  have b3 := State.pbox_next hb b3'.out
  have B := below_next B'.out hb
  have r1 := StsIn.keepFr (B' := w.heap.size + 1 + 1 + 1) r1'.out (Nat.le_refl _) hb.size fun q _ hl => hb.block q hl
  have hz1 := hsz.out
  simp only [World.size_setCell] at hn2
  clear b2' b3' r1' B' hb
  obtain ⟨x0, x1, x2, x3, x4⟩ := id b2
  obtain ⟨y0, y1, y2, y3, y4⟩ := id b3
  have T := hid (State.pbox_set1 (State.pbox_set0 (State.pbox_set b2 (show w.heap.size + 1 ≠ w.heap.size + 1 + 1 by omega) 1 (.slice a2 g.next.length k2)) (.slice a1 g.states.length k1)) (.slice a2 g.next.length k2))
  have hk : ∀ (u0 u1 u2 : Value) (q : Nat), w.heap.size + 1 + 1 + 1 ≤ q → (((w2.setCell ⟨w.heap.size + 1 + 1, 1, none⟩ u0).setCell ⟨w.heap.size + 1, 0, none⟩ u1).setCell ⟨w.heap.size + 1, 1, none⟩ u2).heap[q]? = w2.heap[q]? := fun u0 u1 u2 q hq =>
    (Below.heap_setCell _ _ _ _ (show q ≠ w.heap.size + 1 by omega)).trans ((Below.heap_setCell _ _ _ _ (show q ≠ w.heap.size + 1 by omega)).trans (Below.heap_setCell _ _ _ _ (show q ≠ w.heap.size + 1 + 1 by omega)))
  have HF := hid (fun (u0 u1 u2 : Value) => show NewGr w.heap.size g (.agg #[.slice a1 g.states.length k1, .slice a2 g.next.length k2]) (((w2.setCell ⟨w.heap.size + 1 + 1, 1, none⟩ u0).setCell ⟨w.heap.size + 1, 0, none⟩ u1).setCell ⟨w.heap.size + 1, 1, none⟩ u2) from
    ⟨a1, k1, a2, k2, rfl, e1, e2, r1.keepFr (by omega) (by simp) (fun q hq _ => hk u0 u1 u2 q hq), f1, f2, hn2.keepFr (by omega) (by simp) (fun q hq _ => hk u0 u1 u2 q (by omega))⟩)
  have HB := hid (fun (u0 u1 u2 : Value) => show Below w.heap.size w (((w2.setCell ⟨w.heap.size + 1 + 1, 1, none⟩ u0).setCell ⟨w.heap.size + 1, 0, none⟩ u1).setCell ⟨w.heap.size + 1, 1, none⟩ u2) from ((B.setCell (by simp; omega) _).setCell (by simp) _).setCell (by simp) _)
  clear b2 b3 r1 hn2 B hk
  go_wp2_with fail
  obtain ⟨_, t0, t1, _, _⟩ := T.out
  refine bodyPost_ret (v := .agg #[.slice a1 g.states.length k1, .slice a2 g.next.length k2]) (by simp [results, Try.results14, go_sem, t0, t1]) rfl ?_
  exact RetP.mk (HF.out _ _ _) (HB.out _ _ _)
end Gr
end Go.Proofs.Ytfemikebklmlpaa
