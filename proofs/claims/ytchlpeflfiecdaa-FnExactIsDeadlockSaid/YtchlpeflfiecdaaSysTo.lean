/- The laws' toEdgeS, toProcess, toProcessS, toSystem: copies in new memory. Conditions: those of each contract. -/
import Derived.Test.YtchlpeflfiecdaaSysA
import Derived.Test.YtchlpeflfiecdaaEdgeTo
namespace Go.Proofs.Ytchlpeflfiecdaa
open Go.RowKit
namespace Sys

/-- blocks from B on that nothing freezes -/
def Fr (B : Nat) (w : World) (b : Nat) : Prop := B ≤ b ∧ ∀ i, w.frozen? ⟨b, i, none⟩ = false
theorem Fr.kept {B B' : Nat} {w w' : World} {b : Nat} (h : Fr B w b) (hB : B' ≤ B) (he : w'.heap[b]? = w.heap[b]?) : Fr B' w' b :=
  ⟨Nat.le_trans hB h.1, fun i => by rw [World.frozen?_of_block (w := w) (a := ⟨b, i, none⟩) he]; exact h.2 i⟩
theorem TrOwn_free {w : World} : (∀ t x bs, TrOwn w t x bs → ∀ b, b ∈ bs → ∀ i, w.frozen? ⟨b, i, none⟩ = false) ∧ (∀ l f o bs, TrsOwn w f l o bs → ∀ b, b ∈ bs → ∀ i, w.frozen? ⟨b, i, none⟩ = false) := by
  refine Tr.both (P := fun t => ∀ x bs, TrOwn w t x bs → ∀ b, b ∈ bs → ∀ i, w.frozen? ⟨b, i, none⟩ = false) (Q := fun l => ∀ f o bs, TrsOwn w f l o bs → ∀ b, b ∈ bs → ∀ i, w.frozen? ⟨b, i, none⟩ = false) ?_ ?_ ?_
  · intro k v kids ih x bs hx b hb
    rw [TrOwn_mk] at hx
    obtain ⟨a, c, h1, h2, h3, h4, h5, h6⟩ := hx
    rcases h6 with ⟨_, rfl⟩ | ⟨R, f, r, g1, rfl, g3, g4, g5⟩
    · simp at hb
    · rcases List.mem_cons.1 hb with rfl | hb
      · exact g4.2.2
      · exact ih _ _ _ g5 b hb
  · intro f o bs h b hb
    rw [TrsOwn_nil] at h; subst h; simp at hb
  · intro t ts ht hts f o bs h b hb
    rw [TrsOwn_cons] at h
    obtain ⟨r1, r2, rfl, hd, h1, h2⟩ := h
    rcases List.mem_append.1 hb with hb | hb
    · exact ht _ _ h1 b hb
    · exact hts _ _ _ h2 b hb
theorem NewTr.fr {B : Nat} {t : Tr} {v : Value} {w : World} (h : NewTr B t v w) : TrIn (Fr B w) w t v := by
  obtain ⟨bs, h1, h2⟩ := h
  exact TrOwn_in.1 t v bs h1 fun b hb => ⟨h2 b hb, TrOwn_free.1 t v bs h1 b hb⟩
theorem NewEd.fr {B : Nat} {e : Ed} {x : Value} {w : World} (h : NewEd B e x w) : EdIn (Fr B w) w e x := by
  obtain ⟨a, c, a', c', h0, h1, h2, h3, h4, h5, h6⟩ := h
  exact ⟨a, c, a', c', h0, h1, h2, h3, h4, NewTr.fr h5, NewTr.fr h6⟩

/-- a row of n records of m cells in block R, of which the first k are laid -/
def FillS {T : Type} (At : (Nat → Prop) → World → T → Nat → Nat → Prop) (m : Nat) (w : World) (R : Nat) (l : List T) (k : Nat) (wr : World) : Prop :=
  Below w.heap.size w wr ∧ w.heap.size ≤ R ∧ (∃ g, Row wr R (l.length * m) g) ∧ ∀ j t, j < k → l[j]? = some t → At (Fr (R + 1) wr) wr t R (j * m)

theorem fillE_step {w wr w2 : World} {R k : Nat} {l : List Ed} {t : Ed} {x : Value} {a c a' c'} (h : FillS EdAt 10 w R l k wr) (ht : l[k]? = some t) (hb : Below wr.heap.size wr w2) (hn : NewEd wr.heap.size t x w2)
    (hx : x = .agg #[.int .i64 t.src, .int .i64 t.dst, .int .i64 t.guard.kind, .int .i64 t.guard.val, .slice a t.guard.kids.length c, .int .i64 t.var, .int .i64 t.val.kind, .int .i64 t.val.val, .slice a' t.val.kids.length c', .int .i64 t.sync]) :
    FillS EdAt 10 w R l (k + 1) (setAll w2 R (k * 10) [.int .i64 t.src, .int .i64 t.dst, .int .i64 t.guard.kind, .int .i64 t.guard.val, .slice a t.guard.kids.length c, .int .i64 t.var, .int .i64 t.val.kind, .int .i64 t.val.val, .slice a' t.val.kids.length c', .int .i64 t.sync]) := by
  obtain ⟨h1, h2, ⟨g, hr⟩, h4⟩ := h
  have hk : k < l.length := (List.getElem?_eq_some_iff.1 ht).1
  have hr2 := hr.below hb
  have hex : ∀ i, i < 10 → ∃ u, w2.cell? ⟨R, k * 10 + i, none⟩ = some u := fun i hi => ⟨_, hr2.2.1 _ (by omega)⟩
  generalize hvs : [Value.int .i64 t.src, .int .i64 t.dst, .int .i64 t.guard.kind, .int .i64 t.guard.val, .slice a t.guard.kids.length c, .int .i64 t.var, .int .i64 t.val.kind, .int .i64 t.val.val, .slice a' t.val.kids.length c', .int .i64 t.sync] = vs
  have hlen : vs.length = 10 := by rw [← hvs]; rfl
  have hS : SetIn R (k * 10) (k * 10 + 10) w2 (setAll w2 R (k * 10) vs) := setAll_in vs w2 w2 R _ _ _ (SetIn.refl ..) (Nat.le_refl _) (by omega)
  have hC := setAll_cell vs w2 R (k * 10) (by rw [hlen]; exact hex)
  have hfr : ∀ b, Fr (R + 1) wr b → b < wr.heap.size → Fr (R + 1) (setAll w2 R (k * 10) vs) b ∧ (setAll w2 R (k * 10) vs).heap[b]? = wr.heap[b]? := fun b hb1 hb2 => by
    have e : (setAll w2 R (k * 10) vs).heap[b]? = wr.heap[b]? := by rw [hS.block b (by have := hb1.1; omega)]; exact hb.block b hb2
    exact ⟨hb1.kept (Nat.le_refl _) e, e⟩
  refine ⟨(below_then h1 hb h1.size).trans (hS.below h2), h2, hr2.setIn hS fun i hi1 hi2 => ?_, fun j u hj hu => ?_⟩
  · obtain ⟨d, rfl⟩ : ∃ d, i = k * 10 + d := ⟨i - k * 10, by omega⟩
    exact ⟨_, hC d _ (List.getElem?_eq_getElem (by omega))⟩
  · by_cases e : j = k
    · subst e
      obtain rfl : t = u := by rw [ht] at hu; simpa using hu
      subst hvs hx
      refine ⟨a, c, a', c', ⟨hC 0 _ rfl, hC 1 _ rfl, hC 2 _ rfl, hC 3 _ rfl, hC 4 _ rfl, hC 5 _ rfl, hC 6 _ rfl, hC 7 _ rfl, hC 8 _ rfl, hC 9 _ rfl⟩, (NewEd.fr hn).frame fun b hb1 hb2 => ?_⟩
      have hRb : R < b := by have := hb1.1; have := hr.1; omega
      have e : (setAll w2 R (j * 10) _).heap[b]? = w2.heap[b]? := hS.block b (by omega)
      exact ⟨hb1.kept (by have := hr.1; omega) e, e⟩
    · refine (h4 j u (by omega) hu).cells (fun i hi => ?_) hfr
      rw [hS.cell _ (by omega)]
      exact hb.cell (p := ⟨R, j * 10 + i, none⟩) hr.1

/-- what a copy of a row comes to -/
def NewEds (B : Nat) (l : List Ed) (v : Value) (w : World) : Prop := ∃ a c, v = .slice a l.length c ∧ l.length ≤ c ∧ c ≤ maxLen ∧ EdsIn (Fr B w) w l a

theorem infoE : (Try.prog.info? 33).map (fun i => (i.zero, i.size, i.bytes)) = some (some (.agg #[.int .i64 0, .int .i64 0, .int .i64 0, .int .i64 0, .slice none 0 0, .int .i64 0, .int .i64 0, .int .i64 0, .slice none 0 0, .int .i64 0]), 10, 112) := by kernel_rfl
def zerosE (n : Nat) : Array Value := madeCells #[.int .i64 0, .int .i64 0, .int .i64 0, .int .i64 0, .slice none 0 0, .int .i64 0, .int .i64 0, .int .i64 0, .slice none 0 0, .int .i64 0] (n * 10)
theorem make_eds (n : Nat) (h : n ≤ 1048576) (w : World) : (Instr.makeSlice 86 (.int .i64 (n : Int)) (.int .i64 (n : Int))).run Try.prog w =
    .ok (.slice (some ⟨w.heap.size, 0, none⟩) n n) (w.alloc (.cells (zerosE n) 33)) := by
  obtain ⟨i, hi, hz, h1, h2⟩ := info_parts infoE
  have := run_make (P := Try.prog) w 86 33 i _ Try.underlying86 hi hz .i64 .i64 n n (by omega) (by omega) (by rw [h2]; omega) (by omega)
  rw [this, h1]
  simp [zerosE, Value.cells]

set_option maxRecDepth 100000 in
set_option maxHeartbeats 2000000 in
theorem toEs_any (l : List Ed) (w : World) (a : Option Addr) (c : Nat) (hl : EdsIn Any w l a) (hlen : l.length ≤ 1048576) (hs : ∀ e, e ∈ l → Edge.SmallE e) (hc : l.length ≤ c) (hc2 : c ≤ maxLen) :
    Calls Try.prog 101 #[.slice a l.length c] w (RetP (NewEds w.heap.size l) w) := by
  have hmk := make_eds l.length hlen
  unfold maxLen at hc2
  go_enter Try.func101, Try.ntmps101
  go_wp2_with fail
  go_loopw [4] (fun i wr => ∃ (k : Nat), k ≤ l.length ∧ i = .int .i64 k ∧ Hid (FillS EdAt 10 w w.heap.size l k wr)) (fun i _ => l.length - (intOf i).toNat)
  case atStart => exact ⟨0, Nat.zero_le _, rfl, hid ⟨below_alloc _ _, Nat.le_refl _, ⟨_, row_new (by rw [zerosE, size_madeCells]) _⟩, by omega⟩⟩
  case round =>
    obtain ⟨k, hk, rfl, hf⟩ := hrel
    by_cases hlt : k < l.length
    · obtain ⟨b, o, rfl, _, hb, a1, c1, a2, c2, ⟨g0, g1, g2, g3, g4, g5, g6, g7, g8, g9⟩, hT⟩ := SeqIn.at (EdsIn.below hl hf.out.1) hlt
      have HT := hid hT
      have ht := hid (List.getElem?_eq_getElem hlt)
      have HS := hid (hs l[k] (List.getElem_mem hlt))
      clear hT
      have hlt2 : (k : Int) < (l.length : Int) := by omega
      generalize l[k] = t at *
      go_wp2_with fail
      refine (Edge.to_any t _ _ HT.out HS.out).mono ?_
      rintro e w2 ⟨v, rfl, hn, hby⟩
      have HN := hid hn
      obtain ⟨a3, c3, a4, c4, rfl, _⟩ := hn
      have HF := hid (fillE_step hf.out ht.out hby HN.out rfl)
      obtain ⟨_, _, ⟨g, hrow⟩, _⟩ := hf.out
      have hrow2 := hrow.below hby
      have q0 := hrow2.2.1 (k * 10) (by omega)
      have q1 := hrow2.2.1 (k * 10 + 1) (by omega)
      have q2 := hrow2.2.1 (k * 10 + 2) (by omega)
      have q3 := hrow2.2.1 (k * 10 + 3) (by omega)
      have q4 := hrow2.2.1 (k * 10 + 4) (by omega)
      have q5 := hrow2.2.1 (k * 10 + 5) (by omega)
      have q6 := hrow2.2.1 (k * 10 + 6) (by omega)
      have q7 := hrow2.2.1 (k * 10 + 7) (by omega)
      have q8 := hrow2.2.1 (k * 10 + 8) (by omega)
      have q9 := hrow2.2.1 (k * 10 + 9) (by omega)
      have qf := hrow2.2.2
      have ql := hrow2.1
      clear hrow hrow2 hby g0 g1 g2 g3 g4 g5 g6 g7 g8 g9 hf HT HN
      go_wp2_with fail
      go_roundw
      case rel => exact ⟨k + 1, by omega, by go_num, hid HF.out⟩
      case measure => simp [intOf]; omega
    · have hfin := hid (show NewEds w.heap.size l (.slice (some ⟨w.heap.size, 0, none⟩) l.length l.length) wr from by
        obtain ⟨h1, h2, ⟨g, hr⟩, h4⟩ := hf.out
        refine ⟨_, _, rfl, Nat.le_refl _, by unfold maxLen; omega, ?_⟩
        by_cases h0 : l = []
        · exact .inl h0
        · refine .inr ⟨_, 0, rfl, ⟨Nat.le_refl _, hr.2.2⟩, hr.1, fun i t ht => ?_⟩
          rw [Nat.zero_add]
          exact (h4 i t (by have := (List.getElem?_eq_some_iff.1 ht).1; omega) ht).cells (fun _ _ => rfl) fun b hb _ => ⟨hb.kept (by omega) rfl, rfl⟩)
      have hB := hid hf.out.1
      have hlt2 : ¬ ((k : Int) < (l.length : Int)) := by omega
      clear hf
      go_wp2_with fail
      go_ret
      exact RetP.mk hfin.out hB.out

/-- a process of one's own -/
def NewPr (B : Nat) (q : Pr) (v : Value) (w : World) : Prop := PrIn (Fr B w) w q v
theorem NewPr.any {B : Nat} {q : Pr} {v : Value} {w : World} (h : NewPr B q v w) : PrIn Any w q v := PrIn.frame h (Nat.le_refl _) fun _ _ _ => ⟨trivial, rfl⟩
/-- a system of one's own -/
def NewSy (B : Nat) (s : Sy) (v : Value) (w : World) : Prop := SyIn (Fr B w) w s v
theorem NewSy.below {B : Nat} {s : Sy} {v : Value} {w w' : World} (h : NewSy B s v w) (hb : Below w.heap.size w w') : NewSy B s v w' :=
  SyIn.frame h hb.size fun b h1 h2 => ⟨h1.kept (Nat.le_refl _) (hb.block b h2), hb.block b h2⟩
/-- .. in a stretch of blocks -/
theorem NewSy.fresh {B : Nat} {s : Sy} {v : Value} {w : World} (h : NewSy B s v w) : SyIn (Fresh w B w.heap.size) w s v :=
  SyIn.frame h (Nat.le_refl _) fun _ h1 h2 => ⟨⟨h1.1, h2, h1.2⟩, rfl⟩

theorem fillP_step {w wr w2 : World} {R k : Nat} {l : List Pr} {t : Pr} {a c} (h : FillS PrAt 2 w R l k wr) (ht : l[k]? = some t) (hb : Below wr.heap.size wr w2) (hn : NewPr wr.heap.size t (.agg #[.int .i64 t.locs, .slice a t.edges.length c]) w2) :
    FillS PrAt 2 w R l (k + 1) (setAll w2 R (k * 2) [.int .i64 t.locs, .slice a t.edges.length c]) := by
  obtain ⟨h1, h2, ⟨g, hr⟩, h4⟩ := h
  have hk : k < l.length := (List.getElem?_eq_some_iff.1 ht).1
  have hr2 := hr.below hb
  have hex : ∀ i, i < 2 → ∃ u, w2.cell? ⟨R, k * 2 + i, none⟩ = some u := fun i hi => ⟨_, hr2.2.1 _ (by omega)⟩
  generalize hvs : [Value.int .i64 t.locs, .slice a t.edges.length c] = vs
  have hlen : vs.length = 2 := by rw [← hvs]; rfl
  have hS : SetIn R (k * 2) (k * 2 + 2) w2 (setAll w2 R (k * 2) vs) := setAll_in vs w2 w2 R _ _ _ (SetIn.refl ..) (Nat.le_refl _) (by omega)
  have hC := setAll_cell vs w2 R (k * 2) (by rw [hlen]; exact hex)
  have hfr : ∀ b, Fr (R + 1) wr b → b < wr.heap.size → Fr (R + 1) (setAll w2 R (k * 2) vs) b ∧ (setAll w2 R (k * 2) vs).heap[b]? = wr.heap[b]? := fun b hb1 hb2 => by
    have e : (setAll w2 R (k * 2) vs).heap[b]? = wr.heap[b]? := by rw [hS.block b (by have := hb1.1; omega)]; exact hb.block b hb2
    exact ⟨hb1.kept (Nat.le_refl _) e, e⟩
  refine ⟨(below_then h1 hb h1.size).trans (hS.below h2), h2, hr2.setIn hS fun i hi1 hi2 => ?_, fun j u hj hu => ?_⟩
  · obtain ⟨d, rfl⟩ : ∃ d, i = k * 2 + d := ⟨i - k * 2, by omega⟩
    exact ⟨_, hC d _ (List.getElem?_eq_getElem (by omega))⟩
  · by_cases e : j = k
    · subst e
      obtain rfl : t = u := by rw [ht] at hu; simpa using hu
      subst hvs
      refine ⟨a, c, ⟨hC 0 _ rfl, hC 1 _ rfl⟩, PrIn.frame hn (Nat.le_of_eq hS.size.symm) fun b hb1 hb2 => ?_⟩
      have hRb : R < b := by have := hb1.1; have := hr.1; omega
      have e : (setAll w2 R (j * 2) _).heap[b]? = w2.heap[b]? := hS.block b (by omega)
      exact ⟨hb1.kept (by have := hr.1; omega) e, e⟩
    · refine (h4 j u (by omega) hu).cells (by rw [hS.size]; exact hb.size) (fun i hi => ?_) hfr
      rw [hS.cell _ (by omega)]
      exact hb.cell (p := ⟨R, j * 2 + i, none⟩) hr.1
end Sys
end Go.Proofs.Ytchlpeflfiecdaa
