/- Joined texts (Draw, Grow, TrPlain, BranchingDraw, ValidPlain): contracts and plain laws. Conditions: those of each theorem. -/
import Derived.Test.YthjhokifonjeaaaRows
import Derived.Test.YthjhokifonjeaaaJB0
import Derived.WalkSpells
import Derived.WalkLawsBesides
import Derived.Maps.AppendAt
import Derived.Deep.QuietTactic
import Derived.BigQuiet
set_option linter.unusedVariables false
set_option linter.unusedSimpArgs false
namespace Go.Proofs.Ythjhokifonjeaaa
open Go.RowKit

/-- the bytes of a slice, in a block below B -/
def BytesIn (B D : Nat) (w : World) (a : Option Addr) (len : Nat) : Prop := len = 0 ∨ ∃ (b o : Nat) (f : Nat → Int), a = some ⟨b, o, none⟩ ∧ b < B ∧ b ≠ D ∧ ∀ i, i < len → w.cell? ⟨b, o + i, none⟩ = some (.int .u8 (f i)) ∧ 0 ≤ f i ∧ f i ≤ 255
theorem BytesIn.butx {B D : Nat} {w w' : World} (h : ButX B D w w') {a : Option Addr} {len : Nat} (hb : BytesIn B D w a len) : BytesIn B D w' a len := by
  rcases hb with hb | ⟨b, o, f, rfl, hl, hd, hf⟩
  · exact .inl hb
  · exact .inr ⟨b, o, f, rfl, hl, hd, fun i hi => ⟨by rw [h.cell hl hd]; exact (hf i hi).1, (hf i hi).2⟩⟩

/-- block R is a random source that has been asked p times; it lies in blocks below B -/
def Rd (B : Nat) (w : World) (R : Nat) (p : Nat) : Prop := ∃ a len cap, len ≤ 2000 ∧ len ≤ cap ∧ cap ≤ maxLen ∧ (R < B ∧ B ≤ w.heap.size) ∧ w.cell? ⟨R, 0, none⟩ = some (.slice a len cap) ∧ w.cell? ⟨R, 1, none⟩ = some (.int .i64 p) ∧
  w.frozen? ⟨R, 0, none⟩ = false ∧ w.frozen? ⟨R, 1, none⟩ = false ∧ BytesIn B R w a len

theorem Rd.keep {B : Nat} {w w' : World} {R p : Nat} (hr : Rd B w R p) (hs : w.heap.size ≤ w'.heap.size) (h : ∀ b, b < B → w'.heap[b]? = w.heap[b]?) : Rd B w' R p := by
  obtain ⟨a, len, cap, h1, h2, h3, h4, h5, h6, h7, h8, h9⟩ := hr
  have hR := h R h4.1
  refine ⟨a, len, cap, h1, h2, h3, ⟨h4.1, by omega⟩, by rw [World.cell?_of_block (w := w) (a := ⟨R, 0, none⟩) hR]; exact h5, by rw [World.cell?_of_block (w := w) (a := ⟨R, 1, none⟩) hR]; exact h6, by rw [World.frozen?_of_block (w := w) (a := ⟨R, 0, none⟩) hR]; exact h7,
    by rw [World.frozen?_of_block (w := w) (a := ⟨R, 1, none⟩) hR]; exact h8, ?_⟩
  rcases h9 with h9 | ⟨b, o, f, rfl, hl, hd, hf⟩
  · exact .inl h9
  · exact .inr ⟨b, o, f, rfl, hl, hd, fun i hi => ⟨by rw [World.cell?_of_block (w := w) (a := ⟨b, o + i, none⟩) (h b hl)]; exact (hf i hi).1, (hf i hi).2⟩⟩
theorem Rd.lt {B : Nat} {w : World} {R p : Nat} (hr : Rd B w R p) : R < B ∧ B ≤ w.heap.size := by
  obtain ⟨a, len, cap, h1, h2, h3, h4, _⟩ := hr; exact h4
theorem Rd.next {B : Nat} {w w' : World} {R p : Nat} (h : Below w.heap.size w w') (hr : Rd B w R p) : Rd B w' R p := hr.keep h.size fun b hb => h.block b (Nat.lt_of_lt_of_le hb hr.lt.2)
theorem Rd.grown {B : Nat} {w w' : World} {R p : Nat} {row : Option Nat} (hr : Rd B w R p) (hg : w.grownBy w' row) (h : ∀ k, row = some k → B ≤ k) : Rd B w' R p :=
  hr.keep hg.size fun b hb => hg.block b (Nat.lt_of_lt_of_le hb hr.lt.2) (fun e => by have := h b e.symm; omega)
theorem Rd.set {B : Nat} {w : World} {R p : Nat} (hr : Rd B w R p) {a : Addr} (ha : B ≤ a.block) (v : Value) : Rd B (w.setCell a v) R p :=
  hr.keep (by simp) fun b hb => Below.heap_setCell _ _ _ _ (by omega)

/-- of two small numbers that are not negative, the exclusive or is none either -/
theorem xor_nonneg {a b : Int} (ha : 0 ≤ a) (ha2 : a < 4611686018427387904) (hb : 0 ≤ b) (hb2 : b < 4611686018427387904) : 0 ≤ bits .xor .i64 a b := by
  obtain ⟨a, rfl⟩ := Int.eq_ofNat_of_zero_le ha
  obtain ⟨b, rfl⟩ := Int.eq_ofNat_of_zero_le hb
  have hx : a ^^^ b < 2 ^ 62 := Nat.xor_lt_two_pow (by omega) (by omega)
  have h1 : (BitVec.ofInt 64 (a : Int)).toNat = a := by
    rw [BitVec.ofInt_natCast, BitVec.toNat_ofNat]; exact Nat.mod_eq_of_lt (by omega)
  have h2 : (BitVec.ofInt 64 (b : Int)).toNat = b := by
    rw [BitVec.ofInt_natCast, BitVec.toNat_ofNat]; exact Nat.mod_eq_of_lt (by omega)
  have : bits .xor .i64 (a : Int) (b : Int) = ((a ^^^ b : Nat) : Int) := by
    show IntKind.i64.wrap ((BitVec.ofInt 64 (a : Int) ^^^ BitVec.ofInt 64 (b : Int)).toNat : Int) = _
    rw [BitVec.toNat_xor, h1, h2]
    exact IntWalk.i64_in _ (by omega)
  rw [this]
  omega

/-- what a call of pick comes to -/
def PickPost (B : Nat) (n : Int) (R p : Nat) (w : World) (e : Ending) (w' : World) : Prop :=
  ∃ i : Int, e = .returned (.int .i64 i) ∧ (0 ≤ i ∧ (1 ≤ n → i < n) ∧ (n < 1 → i = 0)) ∧ But w R w' ∧ Rd B w' R (p + 1)

set_option maxRecDepth 100000 in
set_option maxHeartbeats 2000000 in
theorem pick_any (B : Nat) (n : Int) (w : World) (R p : Nat) (hr : Rd B w R p) (hp : p ≤ 1000000) (hn : n ≤ 1000000) (hn0 : -1000000 ≤ n) : Calls Try.prog 58 #[.pointer (some ⟨R, 0, none⟩), .int .i64 n] w (PickPost B n R p w) := by
  obtain ⟨a, len, cap, h1, h2, h3, h4, h5, h6, h7, h8, h9⟩ := hr
  have hset : ∀ nq, But w R ((w.setCell ⟨R, 1, none⟩ (.int .i64 ((p : Int) + 1))).drewN nq) ∧ Rd B ((w.setCell ⟨R, 1, none⟩ (.int .i64 ((p : Int) + 1))).drewN nq) R (p + 1) := fun nq => by
    have hb : But w R ((w.setCell ⟨R, 1, none⟩ (.int .i64 ((p : Int) + 1))).drewN nq) := (But.set w R 1 _).drewN nq
    refine ⟨hb, a, len, cap, h1, h2, h3, by simpa using h4, ?_, ?_, by simpa using h7, by simpa using h8, h9.butx (ButX.but hb h4.2)⟩
    · rw [World.cell?_drewN, World.cell?_setCell_other _ _ _ _ (by simp)]; exact h5
    · rw [World.cell?_drewN]; exact World.cell?_setCell_same _ _ _ h6
  have HS := hid hset; clear hset
  by_cases c1 : n < 1
  · go_enter Try.func58, Try.ntmps58
    go_wp2_with fail
    go_ret
    exact ⟨0, rfl, ⟨by omega, by omega, fun _ => rfl⟩, HS.out 0⟩
  rcases h9 with rfl | ⟨b, o, f, rfl, hl, hd, hf⟩
  · go_enter Try.func58, Try.ntmps58
    go_wp2_with fail
    go_ret
    exact ⟨0, rfl, ⟨by omega, by omega, fun _ => rfl⟩, HS.out 0⟩
  by_cases c0 : len = 0
  · subst c0
    go_enter Try.func58, Try.ntmps58
    go_wp2_with fail
    go_ret
    exact ⟨0, rfl, ⟨by omega, by omega, fun _ => rfl⟩, HS.out 0⟩
  have e0 : ((len : Int) == 0) = false := by rw [beq_eq_false_iff_ne]; omega
  have hdd : R ≠ b := Ne.symm hd
  by_cases c2 : p < len
  · have g := hf p c2
    obtain ⟨g1, g2, g3⟩ := g
    have g4 : (w.setCell ⟨R, 1, none⟩ (.int .i64 ((p : Int) + 1))).cell? ⟨b, o + p, none⟩ = some (.int .u8 (f p)) := by
      rw [World.cell?_setCell_other _ _ _ _ (by intro h; exact hdd (congrArg Addr.block h))]; exact g1
    clear hf
    go_enter Try.func58, Try.ntmps58
    go_wp2_with fail
    go_ret
    exact ⟨_, rfl, ⟨Int.emod_nonneg _ (by omega), fun _ => Int.emod_lt_of_pos _ (by omega), by omega⟩, HS.out 0⟩
  · have m1 : p % len < len := Nat.mod_lt _ (by omega)
    have m2 : (p * 7 + 3) % len < len := Nat.mod_lt _ (by omega)
    have m3 : p / len ≤ p := Nat.div_le_self _ _
    obtain ⟨g1, g2, g3⟩ := hf _ m1
    obtain ⟨k1, k2, k3⟩ := hf _ m2
    have g4 : (w.setCell ⟨R, 1, none⟩ (.int .i64 ((p : Int) + 1))).cell? ⟨b, o + p % len, none⟩ = some (.int .u8 (f (p % len))) := by
      rw [World.cell?_setCell_other _ _ _ _ (by intro h; exact hdd (congrArg Addr.block h))]; exact g1
    have k4 : (w.setCell ⟨R, 1, none⟩ (.int .i64 ((p : Int) + 1))).cell? ⟨b, o + (p * 7 + 3) % len, none⟩ = some (.int .u8 (f ((p * 7 + 3) % len))) := by
      rw [World.cell?_setCell_other _ _ _ _ (by intro h; exact hdd (congrArg Addr.block h))]; exact k1
    have z0 : (0 : Int) < (len : Int) := by omega
    clear hf
    go_enter Try.func58, Try.ntmps58
    go_wp2_with fail
    have d1 : (p : Int) / (len : Int) ≤ 1000000 := by have := Int.ediv_le_self (a := (p : Int)) (len : Int) (by omega); omega
    have d0 : 0 ≤ (p : Int) / (len : Int) := Int.ediv_nonneg (by omega) (by omega)
    have i1 : 0 ≤ ((p : Int) * 7 + 3) % (len : Int) := Int.emod_nonneg _ (by omega)
    have i2 : ((p : Int) * 7 + 3) % (len : Int) < (len : Int) := Int.emod_lt_of_pos _ (by omega)
    have j1 : 0 ≤ (p : Int) % (len : Int) := Int.emod_nonneg _ (by omega)
    have j2 : (p : Int) % (len : Int) < (len : Int) := Int.emod_lt_of_pos _ (by omega)
    generalize f (p % len) = u at *
    generalize f ((p * 7 + 3) % len) = v at *
    generalize hq : (p : Int) / (len : Int) = q at *
    have T3 : Int.tdiv (p : Int) (len : Int) = q := by rw [Int.tdiv_eq_ediv_of_nonneg (by omega)]; exact hq
    have T1 : Int.tmod (p : Int) (len : Int) = (p : Int) % (len : Int) := Int.tmod_eq_emod_of_nonneg (by omega)
    have T2 : Int.tmod ((p : Int) * 7 + 3) (len : Int) = ((p : Int) * 7 + 3) % (len : Int) := Int.tmod_eq_emod_of_nonneg (by omega)
    have W1 : IntKind.i64.wrap ((p : Int) * 7) = (p : Int) * 7 := IntWalk.i64_in _ (by omega)
    have W2 : IntKind.i64.wrap ((p : Int) * 7 + 3) = (p : Int) * 7 + 3 := IntWalk.i64_in _ (by omega)
    have W3 : IntKind.i64.wrap (u * 131) = u * 131 := IntWalk.i64_in _ (by omega)
    have W4 : IntKind.i64.wrap (v * 1117) = v * 1117 := IntWalk.i64_in _ (by omega)
    have W5 : IntKind.i64.wrap (u * 131 + v * 1117) = u * 131 + v * 1117 := IntWalk.i64_in _ (by omega)
    have W6 : IntKind.i64.wrap ((p : Int) * 29) = (p : Int) * 29 := IntWalk.i64_in _ (by omega)
    have W7 : IntKind.i64.wrap (u * 131 + v * 1117 + (p : Int) * 29) = u * 131 + v * 1117 + (p : Int) * 29 := IntWalk.i64_in _ (by omega)
    have W8 : IntKind.i64.wrap (q * 53) = q * 53 := IntWalk.i64_in _ (by omega)
    have W9 : IntKind.i64.wrap (u * 131 + v * 1117 + (p : Int) * 29 + q * 53) = u * 131 + v * 1117 + (p : Int) * 29 + q * 53 := IntWalk.i64_in _ (by omega)
    refine wp_region_quiet_lit (by kernel_rfl) (by kernel_rfl) ?_
    repeat (go_big_quiet_step (fail))
    refine wpQuiet_nil ?_
    intro _ hw'
    obtain ⟨nq, hw''⟩ := hw'
    subst hw''
    clear W1 W2 W3 W4 W5 W6 W7 W8 W9 T1 T2 T3
    go_wp2_with fail
    go_ret
    have hx : 0 ≤ u * 131 + v * 1117 + (p : Int) * 29 + q * 53 := by omega
    have hy : u * 131 + v * 1117 + (p : Int) * 29 + q * 53 < 1000000000 := by omega
    have hxor := xor_nonneg (a := u * 131 + v * 1117 + (p : Int) * 29 + q * 53) (b := (u * 131 + v * 1117 + (p : Int) * 29 + q * 53) / 64) hx (by omega) (by omega) (by omega)
    refine ⟨_, rfl, ⟨?_, fun _ => ?_, fun h => by omega⟩, HS.out _⟩
    · rw [Int.tmod_eq_emod_of_nonneg hxor]; exact Int.emod_nonneg _ (by omega)
    · rw [Int.tmod_eq_emod_of_nonneg hxor]; exact Int.emod_lt_of_pos _ (by omega)

/-- what a call of num comes to, of a list whose numbers are all between lo and hi -/
def NumPost (B : Nat) (lo hi : Int) (R p : Nat) (w : World) (e : Ending) (w' : World) : Prop :=
  ∃ i : Int, e = .returned (.int .i64 i) ∧ (lo ≤ i ∧ i ≤ hi) ∧ But w R w' ∧ Rd B w' R (p + 1)

set_option maxHeartbeats 400000 in
theorem num_any (B0 : Nat) (lo hi : Int) (w : World) (R p : Nat) (B len : Nat) (g : Nat → Int) (hr : Rd B0 w R p) (hp : p ≤ 1000000) (h0 : 0 < len) (hl : len ≤ 100) (hB : B ≠ R) (hB2 : B < w.heap.size) (hc : ∀ i, i < len → w.cell? ⟨B, i, none⟩ = some (.int .i64 (g i)) ∧ lo ≤ g i ∧ g i ≤ hi) :
    Calls Try.prog 87 #[.pointer (some ⟨R, 0, none⟩), .slice (some ⟨B, 0, none⟩) len len] w (NumPost B0 lo hi R p w) := by
  go_enter Try.func87, Try.ntmps87
  go_wp2_with fail
  refine (pick_any _ _ _ R p hr hp (by omega) (by omega)).mono ?_
  rintro e w1 ⟨i, rfl, ⟨i0, i1, _⟩, hbut, hrd⟩
  obtain ⟨k, rfl⟩ := Int.eq_ofNat_of_zero_le i0
  have hk : k < len := by have := i1 (by omega); omega
  have hk2 : (k : Int) < (len : Int) := by omega
  obtain ⟨c1, c2, c3⟩ := hc k hk
  rw [← hbut.cell hB2 hB] at c1
  clear hc i1
  go_wp2_with fail
  go_ret
  exact ⟨_, rfl, ⟨c2, c3⟩, hbut, hrd⟩

/-- .. of a list of some numbers, just made -/
theorem num_new (ns : List Int) (lo hi : Int) (hn : ∀ n ∈ ns, lo ≤ n ∧ n ≤ hi) (h0 : 0 < ns.length) (h1 : ns.length ≤ 100) (B0 : Nat) (w : World) (t : TypeId) (R p : Nat) (hr : Rd B0 w R p) (hp : p ≤ 1000000) :
    Calls Try.prog 87 #[.pointer (some ⟨R, 0, none⟩), .slice (some ⟨w.heap.size, 0, none⟩) ns.length ns.length] (w.alloc (.cells (ns.map (Value.int .i64)).toArray t)) (NumPost B0 lo hi R p (w.alloc (.cells (ns.map (Value.int .i64)).toArray t))) := by
  have hl := hr.lt
  refine num_any B0 lo hi _ R p w.heap.size ns.length (fun i => ns.getD i 0) (hr.next (below_alloc _ _)) hp h0 h1 (by omega) (by simp) fun i hi => ?_
  rw [World.cell?_alloc_new]
  have e : ns[i]? = some (ns.getD i 0) := by rw [List.getD_eq_getElem?_getD, List.getElem?_eq_getElem hi]; rfl
  refine ⟨?_, hn _ (List.mem_of_getElem? e)⟩
  rw [List.getElem?_toArray, List.getElem?_map, e]
  rfl

theorem num_at (ns : List Int) (lo hi : Int) (hn : ∀ n ∈ ns, lo ≤ n ∧ n ≤ hi) (h0 : 0 < ns.length) (h1 : ns.length ≤ 100) (B0 : Nat) (w : World) (t : TypeId) (b R p : Nat) (hb : b = w.heap.size) (hr : Rd B0 w R p) (hp : p ≤ 1000000) :
    Calls Try.prog 87 #[.pointer (some ⟨R, 0, none⟩), .slice (some ⟨b, 0, none⟩) ns.length ns.length] (w.alloc (.cells (ns.map (Value.int .i64)).toArray t)) (NumPost B0 lo hi R p (w.alloc (.cells (ns.map (Value.int .i64)).toArray t))) := by
  subst hb; exact num_new ns lo hi hn h0 h1 B0 w t R p hr hp

/-- the bytes of an argument -/
def ByteArg (w : World) (a : Option Addr) (len cap : Nat) : Prop := len ≤ cap ∧ cap ≤ maxLen ∧ (len = 0 ∨ ∃ (b o : Nat) (f : Nat → Int), a = some ⟨b, o, none⟩ ∧ b < w.heap.size ∧ ∀ i, i < len → w.cell? ⟨b, o + i, none⟩ = some (.int .u8 (f i)) ∧ 0 ≤ f i ∧ f i ≤ 255)
theorem ByteArg.next {w w' : World} (h : Below w.heap.size w w') {a : Option Addr} {len cap : Nat} (hb : ByteArg w a len cap) : ByteArg w' a len cap := by
  obtain ⟨h1, h2, hb⟩ := hb
  refine ⟨h1, h2, ?_⟩
  rcases hb with hb | ⟨b, o, f, rfl, hl, hf⟩
  · exact .inl hb
  · exact .inr ⟨b, o, f, rfl, Nat.lt_of_lt_of_le hl h.size, fun i hi => ⟨by rw [h.cell (p := ⟨b, o + i, none⟩) hl]; exact (hf i hi).1, (hf i hi).2⟩⟩
theorem ByteArg.new {w : World} {a : Option Addr} {len cap m : Nat} (hb : ByteArg w a len cap) (hm : m ≤ len) (hm2 : m ≤ 2000) (t : TypeId) : Rd (w.heap.size + 1) (w.alloc (.cells #[.slice a m cap, .int .i64 0] t)) w.heap.size 0 := by
  obtain ⟨h1, h2, hb⟩ := hb
  refine ⟨a, m, cap, hm2, by omega, h2, by simp, by simp, by simp, by simp, by simp, ?_⟩
  rcases hb with hb | ⟨b, o, f, rfl, hl, hf⟩
  · exact .inl (by omega)
  · exact .inr ⟨b, o, f, rfl, by omega, by omega, fun i hi => ⟨by rw [World.cell?_alloc_lt (h := by exact hl)]; exact (hf i (by omega)).1, (hf i (by omega)).2⟩⟩

set_option maxHeartbeats 400000 in
theorem open_any (w : World) (a : Option Addr) (len cap : Nat) (hb : ByteArg w a len cap) : Calls Try.prog 56 #[.slice a len cap] w (RetP (fun v w' => ∃ R B, v = .pointer (some ⟨R, 0, none⟩) ∧ w.heap.size ≤ R ∧ Rd B w' R 0) w) := by
  have hcap := hb.1
  have hcap2 := hb.2.1
  unfold maxLen at hcap2
  by_cases h : 2000 < len
  · have h1 : 2000 ≤ cap := by omega
    have hR := hid (hb.new (m := 2000) (by omega) (by omega) 88)
    go_enter Try.func56, Try.ntmps56
    go_wp2_with fail
    go_ret
    exact RetP.mk ⟨_, _, rfl, Nat.le_refl _, hR.out⟩ (below_alloc _ _)
  · have hR := hid (hb.new (m := len) (by omega) (by omega) 88)
    go_enter Try.func56, Try.ntmps56
    go_wp2_with fail
    go_ret
    exact RetP.mk ⟨_, _, rfl, Nat.le_refl _, hR.out⟩ (below_alloc _ _)

end Go.Proofs.Ythjhokifonjeaaa
namespace Go.Proofs.Ythjhokifonjeaaa
open Go.RowKit

/-- all blocks from B on are kept -/
structure Keep (B : Nat) (w w' : World) : Prop where
  size : w.heap.size ≤ w'.heap.size
  block : ∀ b, B ≤ b → b < w.heap.size → w'.heap[b]? = w.heap[b]?
theorem Keep.refl (B : Nat) (w : World) : Keep B w w := ⟨Nat.le_refl _, fun _ _ _ => rfl⟩
theorem Keep.trans {B : Nat} {a b c : World} (h : Keep B a b) (k : Keep B b c) : Keep B a c :=
  ⟨Nat.le_trans h.size k.size, fun i h1 h2 => (k.block i h1 (Nat.lt_of_lt_of_le h2 h.size)).trans (h.block i h1 h2)⟩
theorem Keep.below {B : Nat} {w w' : World} (h : Below w.heap.size w w') : Keep B w w' := ⟨h.size, fun b _ hb => h.block b hb⟩
theorem Keep.but {B D : Nat} {w w' : World} (h : But w D w') (hD : D < B) : Keep B w w' := ⟨h.size, fun b h1 h2 => h.block b h2 (by omega)⟩
theorem Keep.set {B : Nat} (w : World) {a : Addr} (ha : a.block < B) (v : Value) : Keep B w (w.setCell a v) := ⟨by simp, fun b h1 _ => Below.heap_setCell _ _ _ _ (by omega)⟩
theorem Keep.alloc {B : Nat} (w : World) (o : Obj) : Keep B w (w.alloc o) := Keep.below (below_alloc w o)
theorem Keep.drewN {B : Nat} (w : World) (n : Nat) : Keep B w (w.drewN n) := ⟨Nat.le_refl _, fun _ _ _ => rfl⟩
theorem Keep.drew {B : Nat} (w : World) : Keep B w w.drew := ⟨Nat.le_refl _, fun _ _ _ => rfl⟩

theorem cell_three_new (w : World) (x y z : Value) (t : TypeId) : ∀ j u, [x, y, z][j]? = some u → (w.alloc (.cells #[x, y, z] t)).cell? ((⟨w.heap.size, 0, none⟩ : Addr).add j) = some u := by
  intro j u hj
  match j, hj with
  | 0, hj => simp at hj; subst hj; simp [Addr.add]
  | 1, hj => simp at hj; subst hj; simp [Addr.add]
  | 2, hj => simp at hj; subst hj; simp [Addr.add]

theorem box3_set2 {w : World} {B : Nat} {a b c : Value} (h : Box3 w B a b c) (v : Value) : Box3 (w.setCell ⟨B, 2, none⟩ v) B a b v :=
  ⟨by simpa using h.1, by rw [World.cell?_setCell_other _ _ _ _ (by simp)]; exact h.2.1, by rw [World.cell?_setCell_other _ _ _ _ (by simp)]; exact h.2.2.1, World.cell?_setCell_same _ _ _ h.2.2.2.1,
    by simpa using h.2.2.2.2.1, by simpa using h.2.2.2.2.2.1, by simpa using h.2.2.2.2.2.2⟩
theorem box3_set0 {w : World} {B : Nat} {a b c : Value} (h : Box3 w B a b c) (v : Value) : Box3 (w.setCell ⟨B, 0, none⟩ v) B v b c :=
  ⟨by simpa using h.1, World.cell?_setCell_same _ _ _ h.2.1, by rw [World.cell?_setCell_other _ _ _ _ (by simp)]; exact h.2.2.1, by rw [World.cell?_setCell_other _ _ _ _ (by simp)]; exact h.2.2.2.1,
    by simpa using h.2.2.2.2.1, by simpa using h.2.2.2.2.2.1, by simpa using h.2.2.2.2.2.2⟩
theorem box3_set1 {w : World} {B : Nat} {a b c : Value} (h : Box3 w B a b c) (v : Value) : Box3 (w.setCell ⟨B, 1, none⟩ v) B a v c :=
  ⟨by simpa using h.1, by rw [World.cell?_setCell_other _ _ _ _ (by simp)]; exact h.2.1, World.cell?_setCell_same _ _ _ h.2.2.1, by rw [World.cell?_setCell_other _ _ _ _ (by simp)]; exact h.2.2.2.1,
    by simpa using h.2.2.2.2.1, by simpa using h.2.2.2.2.2.1, by simpa using h.2.2.2.2.2.2⟩

theorem Keep.setHi {B : Nat} {w w' : World} (h : Keep B w w') {a : Addr} (ha : w.heap.size ≤ a.block) (v : Value) : Keep B w (w'.setCell a v) :=
  ⟨by simpa using h.size, fun b h1 h2 => by rw [Below.heap_setCell _ _ _ _ (by omega)]; exact h.block b h1 h2⟩
theorem But.setNew {w W : World} {R : Nat} (h : But w R W) {a : Addr} (ha : w.heap.size ≤ a.block) (v : Value) : But w R (W.setCell a v) :=
  ⟨h.os, h.tape, h.output, by simpa using h.size, fun k hk hd => by rw [Below.heap_setCell _ _ _ _ (by omega)]; exact h.block k hk hd⟩

/-- v is a row of one's own, of nodes l, each in blocks of its own; all from B on -/
def OwnRow (B : Nat) (e : TypeId) (v : Value) (l : List Tr) (w : World) : Prop :=
  ∃ xs bs, w.ownsRow B e 3 v l.length xs ∧ TrsOwn w (fun i => xs.getD i undef) l 0 bs ∧ ∀ b, b ∈ bs → B ≤ b ∧ some b ≠ v.ownBlock

theorem OwnRow.nil (B : Nat) (e : TypeId) (w : World) : OwnRow B e (.slice none 0 0) [] w := ⟨[], [], World.ownsRow_nil .., (TrsOwn_nil ..).2 rfl, by simp⟩

theorem ownsRow_keep {B : Nat} {e : TypeId} {sz : Nat} {v : Value} {n : Nat} {xs : List Value} {w w' : World} (h1 : w.ownsRow B e sz v n xs) (hk : Keep B w w') : w'.ownsRow B e sz v n xs := by
  refine ⟨h1.1, ?_⟩
  rcases h1.2 with hn | ⟨g, cap, cur, rfl, hb, hgg, rest⟩
  · exact .inl hn
  · refine .inr ⟨g, cap, cur, rfl, hb, ?_, rest⟩
    rw [hk.block g hb (Array.getElem?_eq_some_iff.1 hgg).1]
    exact hgg

theorem OwnRow.keep {B : Nat} {e : TypeId} {v : Value} {l : List Tr} {w w' : World} (h : OwnRow B e v l w) (hk : Keep B w w') : OwnRow B e v l w' := by
  obtain ⟨xs, bs, h1, h2, h3⟩ := h
  refine ⟨xs, bs, ⟨h1.1, ?_⟩, (TrOwn_frame hk.size).2 _ _ _ _ h2 fun b hb => hk.block b (h3 b hb).1 (TrOwn_lt.2 _ _ _ _ h2 b hb), h3⟩
  rcases h1.2 with hn | ⟨g, cap, cur, rfl, hb, hgg, rest⟩
  · exact .inl hn
  · refine .inr ⟨g, cap, cur, rfl, hb, ?_, rest⟩
    rw [hk.block g hb (Array.getElem?_eq_some_iff.1 hgg).1]
    exact hgg

theorem box3_at {w : World} {B : Nat} {a b c : Value} {t : TypeId} (h : B = w.heap.size) : Box3 (w.alloc (.cells #[a, b, c] t)) B a b c := by subst h; exact box3_new ..
theorem box1_at {w : World} {B : Nat} {a : Value} {t : TypeId} (h : B = w.heap.size) : Box1 (w.alloc (.cells #[a] t)) B a := by subst h; exact box1_new ..

/-- the row's shape -/
theorem OwnRow.shape {B : Nat} {e : TypeId} {v : Value} {l : List Tr} {w : World} (h : OwnRow B e v l w) : ∃ a c, v = .slice a l.length c ∧ l.length ≤ c ∧ c ≤ maxLen := by
  obtain ⟨xs, bs, h1, h2, h3⟩ := h
  rcases h1.2 with ⟨rfl, h⟩ | ⟨g, cap, cur, rfl, hb, hgg, h4, h5, _⟩
  · exact ⟨none, 0, by rw [h], by omega, by simp⟩
  · exact ⟨_, _, rfl, h4, h5⟩

/-- **append(row, node)**: the node made meanwhile, in new blocks -/
theorem OwnRow.snocX {B Nn : Nat} {e : TypeId} {v v' : Value} {l : List Tr} {t : Tr} {w w1 w2 w' : World} {x y z : Value} {xs bs}
    (h1 : w.ownsRow B e 3 v l.length xs) (h2 : TrsOwn w (fun i => xs.getD i undef) l 0 bs) (h3 : ∀ b, b ∈ bs → B ≤ b ∧ some b ≠ v.ownBlock) (hB : B ≤ w.heap.size) (hk : Keep B w w1) (hN : w.heap.size ≤ Nn) (hn : NewTr Nn t (.agg #[x, y, z]) w1) (hk2 : Below w1.heap.size w1 w2)
    (h' : w'.ownsRow B e 3 v' (l.length + 1) (xs ++ [x, y, z])) (hg : w2.grownBy w' v.ownBlock) (hat : v'.ownBlock = v.ownBlock ∨ v'.ownBlock = some w2.heap.size) : ∃ xs' bs', w'.ownsRow B e 3 v' (l ++ [t]).length xs' ∧ TrsOwn w' (fun i => xs'.getD i undef) (l ++ [t]) 0 bs' ∧ (∀ b, b ∈ bs' → B ≤ b ∧ some b ≠ v'.ownBlock) ∧ (∀ b, b ∈ bs' → b < w.heap.size ∨ Nn ≤ b) ∧ (∀ k, v'.ownBlock = some k → k < w.heap.size ∨ k = w2.heap.size) := by
  obtain ⟨cs, hcs, hnew⟩ := hn
  have hv : ∀ k, v.ownBlock = some k → k < w.heap.size := fun k hk => (h1.lt k hk).2
  have hxl := h1.1
  have lb := TrOwn_lt.2 _ _ _ _ h2
  have lc := TrOwn_lt.1 _ _ _ hcs
  have s1 := hk.size
  have s2 := hk2.size
  have nc : ∀ b, b ∈ cs → some b ≠ v.ownBlock := fun b hb e => by
    have := hv b e.symm; have := hnew b hb; omega
  refine ⟨xs ++ [x, y, z], bs ++ cs, by simpa using h', TrsOwn_snoc ?_ ?_ ?_, ?_, fun b hb => ?_, fun k hk => ?_⟩
  · refine (TrOwn_frame (w := w) (by have := hg.size; omega)).2 _ _ _ _ (TrsOwn_congr h2 fun i _ hi => ?_) fun b hb => ?_
    · simp only [List.getD_eq_getElem?_getD]
      rw [List.getElem?_append_left (by omega)]
    · rw [hg.block b (by have := lb b hb; omega) (h3 b hb).2, hk2.block b (by have := lb b hb; omega), hk.block b (h3 b hb).1 (lb b hb)]
  · have e0 : (xs ++ [x, y, z]).getD (0 + l.length * 3) undef = x := by
      simp only [List.getD_eq_getElem?_getD]; rw [List.getElem?_append_right (by omega), show 0 + l.length * 3 - xs.length = 0 by omega]; rfl
    have e1 : (xs ++ [x, y, z]).getD (0 + l.length * 3 + 1) undef = y := by
      simp only [List.getD_eq_getElem?_getD]; rw [List.getElem?_append_right (by omega), show 0 + l.length * 3 + 1 - xs.length = 1 by omega]; rfl
    have e2 : (xs ++ [x, y, z]).getD (0 + l.length * 3 + 2) undef = z := by
      simp only [List.getD_eq_getElem?_getD]; rw [List.getElem?_append_right (by omega), show 0 + l.length * 3 + 2 - xs.length = 2 by omega]; rfl
    rw [e0, e1, e2]
    refine (TrOwn_frame (w := w1) (by have := hg.size; omega)).1 _ _ _ hcs fun b hb => ?_
    rw [hg.block b (by have := lc b hb; omega) (nc b hb), hk2.block b (lc b hb)]
  · intro b hb hc
    have := lb b hb; have := hnew b hc; omega
  · intro b hb
    have hne : ∀ k, k < w2.heap.size → some k ≠ v.ownBlock → some k ≠ v'.ownBlock := fun k hk hne e => by
      rcases hat with h | h
      · exact hne (e.trans h)
      · rw [h] at e; cases e; omega
    rcases List.mem_append.1 hb with hb | hb
    · exact ⟨(h3 b hb).1, hne b (by have := lb b hb; omega) (h3 b hb).2⟩
    · exact ⟨by have := hnew b hb; omega, hne b (by have := lc b hb; omega) (nc b hb)⟩
  · rcases List.mem_append.1 hb with hb | hb
    · exact .inl (lb b hb)
    · exact .inr (hnew b hb)
  · rcases hat with h | h
    · exact .inl (hv k (h ▸ hk))
    · rw [h] at hk; cases hk; exact .inr rfl
theorem OwnRow.avoid {B O o : Nat} {e : TypeId} {v u : Value} {l : List Tr} {w : World} {xs bs} (h1 : w.ownsRow B e 3 v l.length xs) (h2 : TrsOwn w (fun i => xs.getD i undef) l 0 bs) (h3 : ∀ b, b ∈ bs → B ≤ b ∧ some b ≠ v.ownBlock) (h4 : O ∉ bs) (h5 : v.ownBlock ≠ some O) :
    OwnRow B e v l (w.setCell ⟨O, o, none⟩ u) :=
  ⟨xs, bs, h1.kept (row := some O) ⟨rfl, rfl, rfl, by simp, fun k _ hne => Below.heap_setCell _ _ _ _ (fun e => hne (by rw [e]))⟩ (.inr h5), TrsOwn_set h2 h4 _, h3⟩

/-- the node above the row -/
theorem OwnRow.node {B : Nat} {e : TypeId} {u : Value} {k v : Int} {l : List Tr} {w : World} (h : OwnRow B e u l w) (hk : i64 k) (hv : i64 v) : NewTr B (.mk k v l) (.agg #[.int .i64 k, .int .i64 v, u]) w := by
  obtain ⟨xs, bs, h1, h2, h3⟩ := h
  rcases h1.2 with ⟨rfl, h⟩ | ⟨g, cap, cur, rfl, hb, hgg, h4, h5, h6, h7⟩
  · have : l = [] := List.eq_nil_of_length_eq_zero h
    subst this
    exact ⟨[], TrOwn_leaf hk hv (by simp), by simp⟩
  · have hc := h1.cells (g := g) rfl
    obtain ⟨bs', g1, g2⟩ := TrOwn_new (w := w) (R := g) (c := cap) hk hv h4 h5 (f := fun i => xs.getD i undef) (bs := bs)
      ⟨(Array.getElem?_eq_some_iff.1 hgg).1, fun i hi => by
        have hx : xs[i]? = some (xs.getD i undef) := by
          simp only [List.getD_eq_getElem?_getD]
          rw [List.getElem?_eq_getElem (by rw [h1.1]; exact hi)]; rfl
        have := hc i _ hx
        rw [show (⟨g, 0, none⟩ : Addr).add i = ⟨g, i, none⟩ by cases i <;> simp [Addr.add]] at this
        exact this, fun i => by
        simp [World.frozen?, hgg]⟩ h2 (fun e => by have := (h3 g e).2; simp [Value.ownBlock] at this)
    exact ⟨bs', g1, fun b hb' => by rcases g2 b hb' with rfl | h8; exact hb; exact (h3 b h8).1⟩

theorem OwnRow.mono {B B' : Nat} {e : TypeId} {v : Value} {l : List Tr} {w : World} (h : OwnRow B e v l w) (hB : B' ≤ B) : OwnRow B' e v l w := by
  obtain ⟨xs, bs, h1, h2, h3⟩ := h
  refine ⟨xs, bs, ⟨h1.1, ?_⟩, h2, fun b hb => ⟨Nat.le_trans hB (h3 b hb).1, (h3 b hb).2⟩⟩
  rcases h1.2 with hn | ⟨g, cap, cur, rfl, hb, rest⟩
  · exact .inl hn
  · exact .inr ⟨g, cap, cur, rfl, Nat.le_trans hB hb, rest⟩

/-- a node of one's own whose row may grow -/
def OwnN (B : Nat) (e : TypeId) (t : Tr) (x : Value) (w : World) : Prop := ∃ u, x = .agg #[.int .i64 t.kind, .int .i64 t.val, u] ∧ i64 t.kind ∧ i64 t.val ∧ OwnRow B e u t.kids w
theorem OwnN.new {B : Nat} {e : TypeId} {t : Tr} {x : Value} {w : World} (h : OwnN B e t x w) : NewTr B t x w := by
  obtain ⟨u, rfl, h1, h2, h3⟩ := h
  cases t with
  | mk k v l => exact h3.node h1 h2

theorem ButX.ofB {B R : Nat} {w w' : World} (h : Below B w w') : ButX B R w w' := ⟨h.os, h.tape, h.output, h.size, fun k hk _ => h.block k hk⟩

/-- **append(row, node)**, at the operation: the node made meanwhile, in new blocks, and laid in a block of its own -/
theorem wp_append_node {P : Program} {ops : Array Oper} {rest : List Oper} {o : Oper} {a : Act} {Q : Exit → Act → World → Prop} {wr w1 : World} {B Nn : Nat} {l : List Tr} {t' : Tr} {u x y z : Value} {ty : TypeId} (hgd : o.guard = none) (s xx : Operand) (t : TypeId)
    (ho : o.op = .call { callee := .builtin .append, args := #[s, xx], argTypes := #[t, t] }) (e : TypeId) (ht : P.underlying t = some (.slice e))
    (hinf : (P.info? e).map (fun i => (i.zero, i.size, i.bytes)) = some (some (.agg #[.int .i64 0, .int .i64 0, .slice none 0 0]), 3, 40))
    (hs : a.eval s = u) (hx : a.eval xx = .slice (some ⟨w1.heap.size, 0, none⟩) 1 1) (h1 : ∀ v ∈ [x, y, z], v.oneCell' = true)
    (hown : OwnRow B e u l wr) (hB : B ≤ wr.heap.size) (hk : Keep B wr w1) (hN : wr.heap.size ≤ Nn) (hn : NewTr Nn t' (.agg #[x, y, z]) w1) (hl : l.length ≤ 1048576)
    (h : ∀ a2 n2 c2 w', OwnRow B e (.slice a2 n2 c2) (l ++ [t']) w' → Below B w1 w' → (∀ D, (∀ k, u.ownBlock = some k → k = D) → But w1 D w') → (∀ O o v, wr.heap.size ≤ O → O < Nn → O < w1.heap.size → OwnRow B e (.slice a2 n2 c2) (l ++ [t']) (w'.setCell ⟨O, o, none⟩ v)) → wpList P ops Q rest (a.put o.dst (.slice a2 n2 c2)) w') : wpList P ops Q (o :: rest) a (w1.alloc (.cells #[x, y, z] ty)) := by
  obtain ⟨xs, bs, o1, o2, o3⟩ := hown
  obtain ⟨ri, hi, hz, hs1, hs2⟩ := info_parts hinf
  have s1 := hk.size
  refine wpList_append_own_at _ hgd s xx t ho B e ri _ 3 40 ht hi hz hs1 hs2 rfl (by omega) u l.length xs hs ((ownsRow_keep o1 hk).alloc _) ⟨w1.heap.size, 0, none⟩ 1 1 [x, y, z] hx rfl (cell_three_new _ _ _ _ _) h1
    (by simp only [maxLen]; omega) (by omega) (by simp; omega) ?_
  intro v2 w3 hown hgrow _ hat
  obtain ⟨xs', bs', z1, z2, z3, z4, z5⟩ := OwnRow.snocX o1 o2 o3 hB hk hN hn (below_alloc _ _) hown hgrow (by simpa using hat)
  have hsn : OwnRow B e v2 (l ++ [t']) w3 := ⟨xs', bs', z1, z2, z3⟩
  obtain ⟨a2, c2, rfl, _⟩ := hsn.shape
  refine h _ _ _ _ hsn ⟨hgrow.os, hgrow.tape, hgrow.output, by have := hgrow.size; simp at this; omega, fun k hk' => ?_⟩ (fun D hD => ⟨hgrow.os, hgrow.tape, hgrow.output, by have := hgrow.size; simp at this; omega, fun k hk' hkD => ?_⟩) (fun O o v h1 h2 h3 => OwnRow.avoid z1 z2 z3 (fun hb => by rcases z4 O hb with h | h <;> omega) (fun hb => by rcases z5 O hb with h | h; omega; simp at h; omega))
  · rw [hgrow.block k (by simp; omega) (fun e => by have := (o1.lt k e.symm).1; omega), (below_alloc w1 _).block k (by omega)]
  · rw [hgrow.block k (by simp; omega) (fun e => hkD (hD k e.symm)), (below_alloc w1 _).block k hk']

theorem leaf_new (B : Nat) (w : World) {k v : Int} (hk : i64 k) (hv : i64 v) : NewTr B (.mk k v []) (.agg #[.int .i64 k, .int .i64 v, .slice none 0 0]) w := ⟨[], TrOwn_leaf hk hv (by simp), by simp⟩
/-- a node above one leaf, just made -/
theorem new_one (w : World) {k v k' v' : Int} (hk : i64 k) (hv : i64 v) (hk' : i64 k') (hv' : i64 v') (e : TypeId) (b : Nat) (hb : b = w.heap.size) :
    NewTr w.heap.size (.mk k v [.mk k' v' []]) (.agg #[.int .i64 k, .int .i64 v, .slice (some ⟨b, 0, none⟩) 1 1]) (w.alloc (.cells #[.int .i64 k', .int .i64 v', .slice none 0 0] e)) := by
  subst hb
  obtain ⟨bs, h1, h2⟩ := TrOwn_new (w := w.alloc (.cells #[.int .i64 k', .int .i64 v', .slice none 0 0] e)) (R := w.heap.size) (c := 1) (kids := [.mk k' v' []]) (bs := []) (f := fun i => #[Value.int .i64 k', .int .i64 v', .slice none 0 0].getD i undef) hk hv (by simp) (by simp [maxLen])
    ⟨by simp, fun i hi => by
      rw [World.cell?_alloc_new]
      rcases (by simp at hi; omega : i = 0 ∨ i = 1 ∨ i = 2) with rfl | rfl | rfl <;> rfl, fun i => by simp⟩
    ((TrsOwn_cons ..).2 ⟨[], [], rfl, by simp, TrOwn_leaf hk' hv' (by simp), (TrsOwn_nil ..).2 rfl⟩) (by simp)
  exact ⟨bs, h1, fun b hb => by rcases h2 b hb with rfl | h; exact Nat.le_refl _; cases h⟩
theorem NewTr.keep {B : Nat} {t : Tr} {v : Value} {w w' : World} (h : NewTr B t v w) (hk : Keep B w w') : NewTr B t v w' := by
  obtain ⟨bs, h1, h2⟩ := h
  exact ⟨bs, (TrOwn_frame hk.size).1 _ _ _ h1 fun b hb => hk.block b (h2 b hb) (TrOwn_lt.1 _ _ _ h1 b hb), h2⟩

end Go.Proofs.Ythjhokifonjeaaa
namespace Go.Proofs.Ythjhokifonjeaaa

mutual
/-- what is left of a number when the lengths of all rows of nodes are taken from it; -1: too little -/
def szT : Tr → Int → Int
  | .mk _ _ kids, left => if szL kids (left - kids.length) < 0 then -1 else szL kids (left - kids.length)
def szL : List Tr → Int → Int
  | [], left => if left < 0 then -1 else left
  | t :: ts, left => if left < 0 then -1 else szL ts (szT t left)
end

mutual
theorem szT_bd : ∀ (t : Tr) (left : Int), -1 ≤ left → left ≤ 1048576 → -1 ≤ szT t left ∧ szT t left ≤ 1048576
  | .mk _ _ kids, left, h1, h2 => by
    simp only [szT]
    split
    · omega
    · rename_i h
      have := szL_bd kids (left - kids.length) (by omega)
      omega
theorem szL_bd : ∀ (l : List Tr) (left : Int), left ≤ 1048576 → -1 ≤ szL l left ∧ szL l left ≤ 1048576
  | [], left, h => by simp only [szL]; split <;> omega
  | t :: ts, left, h => by
    simp only [szL]
    split
    · omega
    · have := szT_bd t left (by omega) h
      exact szL_bd ts _ this.2
end

theorem szL_neg (l : List Tr) (left : Int) (h : left < 0) : szL l left = -1 := by
  cases l <;> (simp only [szL]; rw [if_pos h])

mutual
/-- no row of nodes is longer than 2^20 -/
def Small : Tr → Prop | .mk _ _ kids => kids.length ≤ 1048576 ∧ SmallL kids
def SmallL : List Tr → Prop | [] => True | t :: ts => Small t ∧ SmallL ts
end

mutual
theorem small_of_sz : ∀ (t : Tr) (left : Int), left ≤ 1048576 → 0 ≤ szT t left → Small t
  | .mk _ _ kids, left, h1, h2 => by
    simp only [szT] at h2
    split at h2
    · omega
    · rename_i h
      by_cases hn : left - kids.length < 0
      · rw [szL_neg _ _ hn] at h; omega
      · exact ⟨by omega, smallL_of_sz kids (left - kids.length) (by omega) (by omega)⟩
theorem smallL_of_sz : ∀ (l : List Tr) (left : Int), left ≤ 1048576 → 0 ≤ szL l left → SmallL l
  | [], _, _, _ => trivial
  | t :: ts, left, h1, h2 => by
    simp only [szL] at h2
    split at h2
    · omega
    · by_cases hn : szT t left < 0
      · rw [szL_neg _ _ hn] at h2; omega
      · exact ⟨small_of_sz t left h1 (by omega), smallL_of_sz ts _ (by have := szT_bd t left (by omega) h1; omega) h2⟩
end

theorem smallL_mem {t : Tr} : ∀ {l : List Tr}, SmallL l → t ∈ l → Small t := by
  intro l
  induction l with
  | nil => intro _ h; cases h
  | cons u us ih =>
    intro h hm
    cases hm with
    | head => exact h.1
    | tail _ hm => exact ih h.2 hm

mutual
/-- are two trees the same, asked node by node -/
def eqT : Tr → Tr → Bool
  | .mk k v l, .mk k' v' l' => k == k' && (v == v' && eqL l l')
def eqL : List Tr → List Tr → Bool
  | [], [] => true
  | t :: ts, u :: us => eqT t u && eqL ts us
  | _, _ => false
end

mutual
theorem eqT_refl : ∀ t, eqT t t = true
  | .mk k v l => by simp [eqT, eqL_refl l]
theorem eqL_refl : ∀ l, eqL l l = true
  | [] => by simp [eqL]
  | t :: ts => by simp [eqL, eqT_refl t, eqL_refl ts]
end
mutual
theorem eqT_iff : ∀ t u, eqT t u = true → t = u
  | .mk k v l, .mk k' v' l', h => by
    simp only [eqT, Bool.and_eq_true, beq_iff_eq] at h
    obtain ⟨rfl, rfl, h⟩ := h
    rw [eqL_iff l l' h]
theorem eqL_iff : ∀ l m, eqL l m = true → l = m
  | [], [], _ => rfl
  | [], _ :: _, h => by simp [eqL] at h
  | _ :: _, [], h => by simp [eqL] at h
  | t :: ts, u :: us, h => by
    simp only [eqL, Bool.and_eq_true] at h
    rw [eqT_iff t u h.1, eqL_iff ts us h.2]
end
theorem eqT_true {t u : Tr} : eqT t u = true ↔ t = u := ⟨eqT_iff t u, fun h => h ▸ eqT_refl t⟩
theorem eqT_symm (t u : Tr) : eqT t u = eqT u t := by
  rw [Bool.eq_iff_iff, eqT_true, eqT_true]
  exact ⟨Eq.symm, Eq.symm⟩
theorem eqL_len : ∀ (l m : List Tr), l.length ≠ m.length → eqL l m = false
  | [], [], h => by simp at h
  | [], _ :: _, _ => by simp [eqL]
  | _ :: _, [], _ => by simp [eqL]
  | t :: ts, u :: us, h => by simp only [eqL]; rw [eqL_len ts us (by simpa using h)]; simp

/-- behind k nodes that are the same: the answer hangs on the rest -/
theorem eqL_drop {l m : List Tr} {k : Nat} {t u : Tr} (ht : l.drop k = t :: l.drop (k + 1)) (hu : m.drop k = u :: m.drop (k + 1)) (h : eqL (l.drop k) (m.drop k) = eqL l m) :
    eqL l m = (eqT t u && eqL (l.drop (k + 1)) (m.drop (k + 1))) := by
  rw [← h, ht, hu]
  simp only [eqL]

end Go.Proofs.Ythjhokifonjeaaa
namespace Go.Proofs.Ythjhokifonjeaaa
open Go.RowKit
namespace Branching

theorem rowInfo : (Try.prog.info? 39).map (fun i => (i.zero, i.size, i.bytes)) = some (some (.agg #[.int .i64 0, .int .i64 0, .slice none 0 0]), 3, 40) := by kernel_rfl


def CopyT (t : Tr) : Prop := ∀ (w : World) (x : Value), TrIn Any w t x → Small t → Calls Try.prog 88 #[x] w (RetP (OwnN w.heap.size 39 t) w)

set_option maxHeartbeats 1000000 in
set_option maxRecDepth 100000 in
theorem copy_of (k v : Int) (kids : List Tr) (h : ∀ t, t ∈ kids → CopyT t) : CopyT (.mk k v kids) := by
  intro w x hx hs
  have hx0 := hx
  rw [TrIn_mk] at hx
  obtain ⟨a, n, c, rfl, hk, hv, rfl, hc, hc2, hks⟩ := hx
  unfold maxLen at hc2
  replace hs : kids.length ≤ 1048576 ∧ SmallL kids := hs
  go_enter Try.func88, Try.ntmps88
  go_wp2_with fail
  go_loopw [4] (fun i wr => ∃ (j : Nat) (u : Value), j ≤ kids.length ∧ i = .int .i64 j ∧ Below w.heap.size w wr ∧ Box3 wr w.heap.size (.int .i64 k) (.int .i64 v) (.slice a kids.length c) ∧
    Box3 wr (w.heap.size + 1) (.int .i64 0) (.int .i64 0) (.slice none 0 0) ∧ Box3 wr (w.heap.size + 1 + 1) (.int .i64 k) (.int .i64 v) u ∧ OwnRow (w.heap.size + 1 + 1 + 1) 39 u (kids.take j) wr) (fun i _ => kids.length - (intOf i).toNat)
  case atStart =>
    refine ⟨0, .slice none 0 0, Nat.zero_le _, rfl, (by repeat (first | exact Below.refl _ _ | assumption | refine below_a ?_ _ | refine below_o ?_ _ | refine below_d ?_ | refine below_n ?_ _ | refine below_s ?_ (by first | (simp; done) | (simp; omega) | omega) _)), ?_, ?_, ?_, OwnRow.nil _ _ _⟩
    · exact box3_next (below_alloc _ _) (box3_next (below_alloc _ _) (box3_new ..))
    · exact box3_next (below_alloc _ _) (box3_at (by simp))
    · exact box3_at (by simp)
  case round =>
    obtain ⟨j, u, hj, rfl, hb, b0, b1, b2, ho⟩ := hrel
    by_cases hlt : j < kids.length
    · obtain ⟨b, o, rfl, gb0, _⟩ := TrsIn_addr hks (by omega)
      obtain ⟨b', o', c0, c1, c2, t, hbo, gb, g0, g1, g2, hT⟩ := TrsIn_round hks hb hlt
      obtain ⟨rfl, rfl⟩ : b = b' ∧ o = o' := by simpa using hbo
      have hlt2 : (j : Int) < (kids.length : Int) := by omega
      have b2l : w.heap.size + 1 + 1 + 1 ≤ wr.heap.size := b2.1
      have b0' := b0
      have b2' := b2
      obtain ⟨p0, p1, p2, p3, p4, p5, p6⟩ := b0'
      obtain ⟨q0, q1, q2, q3, q4, q5, q6⟩ := b2'
      obtain ⟨B, hB⟩ : ∃ B, B = w.heap.size + 1 + 1 + 1 := ⟨_, rfl⟩
      have f0 : ∀ x, (wr.overX B B x).cell? ⟨w.heap.size + 1 + 1, 2, none⟩ = some u := fun x => by rw [overX_cell _ _ _ _ _ _ (by omega) (by omega)]; exact q3
      have f1 : ∀ x, (wr.overX B B x).cell? ⟨w.heap.size, 2, none⟩ = some (.slice (some ⟨b, o, none⟩) kids.length c) := fun x => by rw [overX_cell _ _ _ _ _ _ (by omega) (by omega)]; exact p3
      have f2 : ∀ x, (wr.overX B B x).cell? ⟨b, o + j * 3, none⟩ = some c0 := fun x => by rw [overX_cell _ _ _ _ _ _ (by omega) (by omega)]; exact g0
      have f3 : ∀ x, (wr.overX B B x).cell? ⟨b, o + j * 3 + 1, none⟩ = some c1 := fun x => by rw [overX_cell _ _ _ _ _ _ (by omega) (by omega)]; exact g1
      have f4 : ∀ x, (wr.overX B B x).cell? ⟨b, o + j * 3 + 2, none⟩ = some c2 := fun x => by rw [overX_cell _ _ _ _ _ _ (by omega) (by omega)]; exact g2
      go_wp2_with fail
      refine wp_region_tail (C := fun wZ => ∃ xZ, wZ = World.overX _ (B) (B) xZ) [0,1,2,3,4,5,6] [7,8,9,10,11] (11) (by kernel_rfl) (by kernel_rfl) (fun d _ _ _ _ h => by cases d <;> exact h) (ButX.refl _ _ _).drew.ex ?_; simp only [pick, List.getElem?_cons_succ, List.getElem?_cons_zero]; (repeat (go_big_quiet_step (fail))); refine wpQuiet_nil ?_; simp only [tailW]
      go_wp2_with fail
      refine (h t hT.out.2.1 _ _ (TrIn_below (below_d (Below.refl _ _)) hT.out.1) (smallL_mem hs.2 hT.out.2.1)).mono ?_
      rintro e w1 ⟨v1, rfl, hn0, hb1⟩
      have hn := hn0.new; clear hn0
      obtain ⟨a1, n1, rfl⟩ := TrIn_shape hn.any
      have hb2 : ButX B B wr w1 := ButX.next (ButX.refl B B wr).drew hb1 (by simp; omega)
      have s1 := hb1.size
      simp at s1
      go_wp2_with fail
      refine ⟨hb2.ex, ?_⟩
      go_wp2_with fail
      refine ⟨(hb2.next (below_alloc _ _) (by omega)).ex, ?_⟩
      have hk1 : Keep (w.heap.size + 1 + 1 + 1) wr w1 := (Keep.drew wr).trans (Keep.below hb1)
      refine wp_append_node rfl (.tmp 18) (.tmp 25) 37 rfl 39 Try.underlying37 rowInfo (by rfl) (by rfl) (by intro x hx; simp at hx; rcases hx with rfl | rfl | rfl <;> rfl) ho b2l hk1 (Nat.le_refl _) hn (by simp only [List.length_take]; omega) ?_
      intro a2 n2 m2 w3 ho3' hb4 _ _
      have hb3 : ButX B B wr w3 := hb2.trans (ButX.ofB (hB ▸ hb4))
      have hk3 : kids.take j ++ [t] = kids.take (j + 1) := by rw [List.take_add_one, hT.out.2.2.2]; rfl
      rw [hk3] at ho3'
      have B3 : Below w.heap.size w w3 := hb.trans ⟨hb3.os, hb3.tape, hb3.output, hb3.size, fun k hk => hb3.block k (by omega) (by omega)⟩
      have r1 := box3_butx hb3 (by omega) (by omega) b1
      have r0 := box3_butx hb3 (by omega) (by omega) b0
      have r2 := box3_butx hb3 (by omega) (by omega) b2
      have HO := hid ho3'
      have hw3 : B ≤ w3.heap.size := by have := hb3.size; omega
      clear ho ho3' hn hb1 hb2 hb4 hk1 f0 f1 f2 f3 f4 p0 p1 p2 p3 p4 p5 p6 q0 q1 q2 q3 q4 q5 q6 b0 b1 b2
      obtain ⟨q0, q1, q2, q3, q4, q5, q6⟩ := r2
      have r2 : Box3 w3 (w.heap.size + 1 + 1) (.int .i64 k) (.int .i64 v) u := ⟨q0, q1, q2, q3, q4, q5, q6⟩
      refine ⟨hb3.ex, ?_⟩
      go_wp2_with fail
      refine ⟨hb3.ex, ?_⟩
      go_wp2_with fail
      go_roundw
      case rel => exact ⟨j + 1, .slice a2 n2 m2, by omega, by go_num, B3.setCell (by simp; omega) _, box3_but (But.set w3 (w.heap.size + 1 + 1) 2 _) (by omega) r0, box3_but (But.set w3 (w.heap.size + 1 + 1) 2 _) (by omega) r1, box3_set2 r2 _, HO.out.keep (Keep.set _ (by simp) _)⟩
      case measure => simp [intOf]; omega
    · have hlt2 : ¬ ((j : Int) < (kids.length : Int)) := by omega
      obtain rfl : j = kids.length := by omega
      rw [List.take_length] at ho
      obtain ⟨a2, n2, m2, rfl⟩ : ∃ a2 n2 m2, u = .slice a2 n2 m2 := by obtain ⟨a2, m2, h2, _⟩ := ho.shape; exact ⟨_, _, _, h2⟩
      have HO := hid ho
      clear ho
      go_wp2_with fail
      refine bodyPost_ret (v := .agg #[.int .i64 k, .int .i64 v, .slice a2 n2 m2]) (by simp [results, Try.results88, go_sem, b1]) rfl ?_
      exact RetP.mk ⟨_, rfl, hk, hv, (HO.out.keep (((Keep.set _ (by simp) _).trans (Keep.set _ (by simp) _)).trans (Keep.set _ (by simp) _))).mono (by omega)⟩ (by repeat (first | exact Below.refl _ _ | assumption | refine below_a ?_ _ | refine below_o ?_ _ | refine below_d ?_ | refine below_n ?_ _ | refine below_s ?_ (by first | (simp; done) | (simp; omega) | omega) _))

theorem copy_any : ∀ t, CopyT t := Tr.ind copy_of

end Branching
end Go.Proofs.Ythjhokifonjeaaa
namespace Go.Proofs.Ythjhokifonjeaaa

/-- a language of trees: the kinds 1 to K, how many operands a kind has, how great its number may be, how many nodes a tree may have -/
structure Lang where
  K : Int
  ar : Int → Int
  most : Int → Int
  N : Int

namespace Lang
variable (L : Lang)

/-- a node that is well made by itself -/
def okB (k v : Int) (n : Nat) : Bool := decide (1 ≤ k ∧ k ≤ L.K) && (decide (0 ≤ v ∧ v ≤ L.most k) && decide ((n : Int) = L.ar k))

theorem okB_iff {k v : Int} {n : Nat} : L.okB k v n = true ↔ (1 ≤ k ∧ k ≤ L.K) ∧ (0 ≤ v ∧ v ≤ L.most k) ∧ (n : Int) = L.ar k := by
  simp only [okB, Bool.and_eq_true, decide_eq_true_eq]

theorem okB_no {k v : Int} {n : Nat} (h : ¬((1 ≤ k ∧ k ≤ L.K) ∧ (0 ≤ v ∧ v ≤ L.most k) ∧ (n : Int) = L.ar k)) : L.okB k v n = false := by
  rw [Bool.eq_false_iff, ne_eq, okB_iff]; exact h

mutual
/-- is every node well made, down to a depth -/
def shape : Tr → Int → Bool
  | .mk k v kids, d => decide (1 ≤ d) && (L.okB k v kids.length && shapeL kids (d - 1))
def shapeL : List Tr → Int → Bool
  | [], _ => true
  | t :: ts, d => shape t d && shapeL ts d
end
end Lang

mutual
/-- how many nodes a tree has -/
def nodes : Tr → Int
  | .mk _ _ kids => 1 + nodesL kids
def nodesL : List Tr → Int
  | [] => 0
  | t :: ts => nodes t + nodesL ts
end

mutual
theorem nodes_pos : ∀ t, 1 ≤ nodes t
  | .mk _ _ kids => by simp only [nodes]; have := nodesL_pos kids; omega
theorem nodesL_pos : ∀ l, 0 ≤ nodesL l
  | [] => by simp [nodesL]
  | t :: ts => by simp only [nodesL]; have := nodes_pos t; have := nodesL_pos ts; omega
end

namespace Lang
variable (L : Lang)

/-- a valid tree -/
def valid (t : Tr) : Bool := L.shape t 6 && decide (nodes t ≤ L.N)

mutual
/-- the walk that counts as it goes: whether all is well so far, and the count -/
def wk : Tr → Int → Int → Bool × Int
  | .mk k v kids, d, n => if 6 < d ∨ L.N < n + 1 ∨ L.okB k v kids.length = false then (false, n + 1) else wkL kids (d + 1) (n + 1)
def wkL : List Tr → Int → Int → Bool × Int
  | [], _, n => (true, n)
  | t :: ts, d, n => if (wk t d n).1 = true then wkL ts d (wk t d n).2 else (false, (wk t d n).2)
end

mutual
theorem wk_true : ∀ (t : Tr) (d n : Int), (L.wk t d n).1 = true ↔ (L.shape t (7 - d) = true ∧ n + nodes t ≤ L.N)
  | .mk k v kids, d, n => by
    simp only [wk, shape, nodes]
    have hp := nodesL_pos kids
    by_cases h1 : 6 < d
    · rw [if_pos (.inl h1)]; simp; omega
    by_cases h2 : L.N < n + 1
    · rw [if_pos (.inr (.inl h2))]; simp; omega
    cases h3 : L.okB k v kids.length with
    | false => rw [if_pos (.inr (.inr rfl))]; simp
    | true =>
      rw [if_neg (by simp [h1, h2]), wkL_true kids (d + 1) (n + 1) (by omega), show 7 - (d + 1) = 7 - d - 1 by omega]
      have : (1 : Int) ≤ 7 - d := by omega
      simp [this]
      omega
theorem wkL_true : ∀ (l : List Tr) (d n : Int), n ≤ L.N → ((L.wkL l d n).1 = true ↔ (L.shapeL l (7 - d) = true ∧ n + nodesL l ≤ L.N))
  | [], d, n, hn => by simp [wkL, shapeL, nodesL, hn]
  | t :: ts, d, n, hn => by
    simp only [wkL, shapeL, nodesL]
    have ht := wk_true t d n
    have hp := nodesL_pos ts
    by_cases h : (L.wk t d n).1 = true
    · rw [if_pos h]
      have h' := ht.1 h
      rw [wk_count t d n h, wkL_true ts d _ h'.2, Bool.and_eq_true]
      constructor
      · rintro ⟨a, b⟩; exact ⟨⟨h'.1, a⟩, by omega⟩
      · rintro ⟨⟨_, b⟩, c⟩; exact ⟨b, by omega⟩
    · rw [if_neg h]
      simp only [Bool.and_eq_true, Bool.false_eq_true, false_iff]
      rintro ⟨⟨a, _⟩, c⟩
      exact h (ht.2 ⟨a, by omega⟩)
theorem wk_count : ∀ (t : Tr) (d n : Int), (L.wk t d n).1 = true → (L.wk t d n).2 = n + nodes t
  | .mk k v kids, d, n, h => by
    simp only [wk, nodes] at h ⊢
    split at h
    · simp at h
    · rename_i hc
      rw [if_neg hc, wkL_count kids _ _ h]; omega
theorem wkL_count : ∀ (l : List Tr) (d n : Int), (L.wkL l d n).1 = true → (L.wkL l d n).2 = n + nodesL l
  | [], d, n, _ => by simp [wkL, nodesL]
  | t :: ts, d, n, h => by
    simp only [wkL, nodesL] at h ⊢
    split at h
    · rename_i hc
      rw [if_pos hc, wkL_count ts _ _ h, wk_count t d n hc]; omega
    · simp at h
end

mutual
theorem wk_bd : ∀ (t : Tr) (d n : Int), n ≤ L.N → n < (L.wk t d n).2 ∧ (L.wk t d n).2 ≤ L.N + 1 ∧ ((L.wk t d n).1 = true → (L.wk t d n).2 ≤ L.N)
  | .mk k v kids, d, n, hn => by
    simp only [wk]
    split
    · simp; omega
    · rename_i hc
      have := wkL_bd kids (d + 1) (n + 1) (by omega)
      refine ⟨by omega, by omega, this.2.2⟩
theorem wkL_bd : ∀ (l : List Tr) (d n : Int), n ≤ L.N → n ≤ (L.wkL l d n).2 ∧ (L.wkL l d n).2 ≤ L.N + 1 ∧ ((L.wkL l d n).1 = true → (L.wkL l d n).2 ≤ L.N)
  | [], d, n, hn => by simp only [wkL]; omega
  | t :: ts, d, n, hn => by
    simp only [wkL]
    have h1 := wk_bd t d n hn
    split
    · rename_i hc
      have h2 := wkL_bd ts d _ (h1.2.2 hc)
      refine ⟨by omega, h2.2.1, h2.2.2⟩
    · simp; omega
end

theorem wk_valid (t : Tr) : (L.wk t 1 0).1 = L.valid t := by
  rw [Bool.eq_iff_iff, wk_true, valid, Bool.and_eq_true, decide_eq_true_eq]
  simp

/-- how many nodes a valid tree has; 0 for others -/
def size (t : Tr) : Int := if L.valid t = true then nodes t else 0

theorem size_wk (t : Tr) : L.size t = if (L.wk t 1 0).1 = true then (L.wk t 1 0).2 else 0 := by
  rw [size, ← wk_valid]
  split
  · rename_i h; rw [wk_count L t 1 0 h]; omega
  · rfl

theorem valid_size (t : Tr) : L.valid t = decide (0 < L.size t) := by
  rw [size]
  cases h : L.valid t
  · simp
  · have := nodes_pos t
    simp; omega

theorem size_bd (t : Tr) (h : 0 ≤ L.N) : 0 ≤ L.size t ∧ L.size t ≤ L.N := by
  rw [size]
  split
  · rename_i hv
    have := nodes_pos t
    rw [valid, Bool.and_eq_true, decide_eq_true_eq] at hv
    omega
  · omega

end Lang

/-! ### the count down to a depth -/
mutual
def cnt : Tr → Int → Int
  | .mk _ _ kids, d => 1 + if 0 < d then cntL kids (d - 1) else 0
def cntL : List Tr → Int → Int
  | [], _ => 0
  | t :: ts, d => cnt t d + cntL ts d
end
mutual
theorem cnt_pos : ∀ (t : Tr) (d : Int), 1 ≤ cnt t d
  | .mk k v kids, d => by simp only [cnt]; split <;> (have := cntL_pos kids (d - 1); omega)
theorem cntL_pos : ∀ (l : List Tr) (d : Int), 0 ≤ cntL l d
  | [], d => by simp [cntL]
  | t :: ts, d => by simp only [cntL]; have := cnt_pos t d; have := cntL_pos ts d; omega
end
mutual
theorem cnt_le_nodes : ∀ (t : Tr) (d : Int), cnt t d ≤ nodes t
  | .mk k v kids, d => by simp only [cnt, nodes]; have := nodesL_pos kids; split <;> (have := cnt_le_nodesL kids (d - 1); omega)
theorem cnt_le_nodesL : ∀ (l : List Tr) (d : Int), cntL l d ≤ nodesL l
  | [], d => by simp [cntL, nodesL]
  | t :: ts, d => by simp only [cntL, nodesL]; have := cnt_le_nodes t d; have := cnt_le_nodesL ts d; omega
end
theorem nodes_mem {t : Tr} : ∀ {l : List Tr}, t ∈ l → nodes t ≤ nodesL l := by
  intro l
  induction l with
  | nil => intro h; cases h
  | cons u us ih =>
    intro h
    simp only [nodesL]
    have h1 := nodes_pos u
    have h2 := nodesL_pos us
    cases h with
    | head => omega
    | tail _ h => have := ih h; omega
namespace Lang
variable (L : Lang)
mutual
theorem cnt_shape : ∀ (t : Tr) (d : Int), L.shape t d = true → cnt t d = nodes t
  | .mk k v kids, d, h => by
    simp only [shape, Bool.and_eq_true, decide_eq_true_eq] at h
    simp only [cnt, nodes]
    rw [if_pos (by omega), cntL_shape kids (d - 1) h.2.2]
theorem cntL_shape : ∀ (l : List Tr) (d : Int), L.shapeL l d = true → cntL l d = nodesL l
  | [], d, _ => by simp [cntL, nodesL]
  | t :: ts, d, h => by
    simp only [shapeL, Bool.and_eq_true] at h
    simp only [cntL, nodesL]
    rw [cnt_shape t d h.1, cntL_shape ts d h.2]
end

/-- of a language whose nodes have at most two operands: how many nodes there can be -/
def cap : Nat → Int | 0 => 0 | n + 1 => 1 + 2 * cap n
theorem cap6 : cap 6 = 63 := by decide
theorem cap_pos : ∀ n, 0 ≤ cap n | 0 => by simp [cap] | n + 1 => by have := cap_pos n; simp only [cap]; omega
mutual
theorem nodes_cap (h2 : ∀ k, L.ar k ≤ 2) : ∀ (t : Tr) (d : Nat), L.shape t d = true → nodes t ≤ cap d
  | .mk k v kids, d, h => by
    simp only [shape, Bool.and_eq_true, decide_eq_true_eq, okB] at h
    obtain ⟨h1, ⟨_, _, hk⟩, hs⟩ := h
    have hk2 := h2 k
    cases d with
    | zero => omega
    | succ d =>
      simp only [nodes, cap]
      have := nodesL_cap h2 kids d (by rw [show ((d + 1 : Nat) : Int) - 1 = d by omega] at hs; exact hs)
      have hc := cap_pos d
      have : (kids.length : Int) * cap d ≤ 2 * cap d := Int.mul_le_mul_of_nonneg_right (by omega) hc
      omega
theorem nodesL_cap (h2 : ∀ k, L.ar k ≤ 2) : ∀ (l : List Tr) (d : Nat), L.shapeL l d = true → nodesL l ≤ l.length * cap d
  | [], d, _ => by simp [nodesL]
  | t :: ts, d, h => by
    simp only [shapeL, Bool.and_eq_true] at h
    have h3 := nodes_cap h2 t d h.1
    have h4 := nodesL_cap h2 ts d h.2
    simp only [nodesL, List.length_cons]
    have : ((ts.length + 1 : Nat) : Int) * cap d = ts.length * cap d + cap d := by rw [Int.natCast_add, Int.add_mul]; simp
    omega
end

/-- the reference's way to ask -/
theorem valid_cnt (t : Tr) : L.valid t = (L.shape t 6 && decide (cnt t 6 ≤ L.N)) := by
  rw [valid]
  cases h : L.shape t 6
  · simp
  · rw [cnt_shape L t 6 h]
end Lang

/-- expressions -/
def exprL : Lang where
  K := 9
  ar k := if k = 1 ∨ k = 2 then 0 else if k = 3 then 1 else 2
  most k := if k = 1 then 3 else if k = 2 then 2 else 0
  N := 15
theorem exprL_K : exprL.K = 9 := rfl
theorem exprL_N : exprL.N = 15 := rfl
theorem exprL_ar (k : Int) : exprL.ar k = if k = 1 ∨ k = 2 then 0 else if k = 3 then 1 else 2 := rfl
theorem exprL_most (k : Int) : exprL.most k = if k = 1 then 3 else if k = 2 then 2 else 0 := rfl
/-- formulas of linear temporal logic -/
def formL : Lang where
  K := 10
  ar k := if k = 1 ∨ k = 2 then 0 else if k = 4 ∨ k = 5 ∨ k = 7 ∨ k = 8 then 2 else 1
  most k := if k = 2 then 2 else 0
  N := 12
theorem formL_K : formL.K = 10 := rfl
theorem formL_N : formL.N = 12 := rfl
theorem formL_ar (k : Int) : formL.ar k = if k = 1 ∨ k = 2 then 0 else if k = 4 ∨ k = 5 ∨ k = 7 ∨ k = 8 then 2 else 1 := rfl
theorem formL_most (k : Int) : formL.most k = if k = 2 then 2 else 0 := rfl
/-- branching-time formulas -/
def branL : Lang where
  K := 11
  ar k := if k = 1 ∨ k = 2 then 0 else if k = 4 ∨ k = 5 ∨ k = 7 ∨ k = 10 then 2 else 1
  most k := if k = 2 then 2 else 0
  N := 12
theorem exprL_two (k : Int) : exprL.ar k ≤ 2 := by rw [exprL_ar]; split <;> (try split) <;> omega
theorem formL_two (k : Int) : formL.ar k ≤ 2 := by rw [formL_ar]; split <;> (try split) <;> omega
theorem branL_two (k : Int) : branL.ar k ≤ 2 := by unfold branL; simp only []; split <;> (try split) <;> omega
theorem branL_K : branL.K = 11 := rfl
theorem branL_N : branL.N = 12 := rfl
theorem branL_ar (k : Int) : branL.ar k = if k = 1 ∨ k = 2 then 0 else if k = 4 ∨ k = 5 ∨ k = 7 ∨ k = 10 then 2 else 1 := rfl
theorem branL_most (k : Int) : branL.most k = if k = 2 then 2 else 0 := rfl

end Go.Proofs.Ythjhokifonjeaaa
