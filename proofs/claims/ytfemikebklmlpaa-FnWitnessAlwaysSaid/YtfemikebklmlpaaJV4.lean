/- Joined texts (Draw, RowOne, GrSt, ExprA, EdgeA, IntsA, SzPlain): contracts and plain laws. Conditions: those of each theorem. -/
import Derived.Test.YtfemikebklmlpaaRows
import Derived.Test.YtfemikebklmlpaaJV0
import Derived.Test.YtfemikebklmlpaaJV1
import Derived.Test.YtfemikebklmlpaaJV3
import Derived.Test.YtfemikebklmlpaaJV2
import Derived.WalkSpells
import Derived.WalkLawsBesides
set_option linter.unusedVariables false
set_option linter.unusedSimpArgs false
namespace Go.Proofs.Ytfemikebklmlpaa
open Go.RowKit

/-- the bytes of a slice, in a block below B -/
def BytesIn (B D : Nat) (w : World) (a : Option Addr) (len : Nat) : Prop := len = 0 ∨ ∃ (b o : Nat) (f : Nat → Int), a = some ⟨b, o, none⟩ ∧ b < B ∧ b ≠ D ∧ ∀ i, i < len → w.cell? ⟨b, o + i, none⟩ = some (.int .u8 (f i)) ∧ 0 ≤ f i ∧ f i ≤ 255
theorem BytesIn.butx {B D : Nat} {w w' : World} (h : ButX B D w w') {a : Option Addr} {len : Nat} (hb : BytesIn B D w a len) : BytesIn B D w' a len := by
  rcases hb with hb | ⟨b, o, f, rfl, hl, hd, hf⟩
  · exact .inl hb
  · exact .inr ⟨b, o, f, rfl, hl, hd, fun i hi => ⟨by rw [h.cell hl hd]; exact (hf i hi).1, (hf i hi).2⟩⟩

/-- block R is a random source that has been asked p times; it lies in blocks below B -/
def Rd (B : Nat) (w : World) (R : Nat) (p : Nat) : Prop := ∃ a len cap, len ≤ 2000 ∧ len ≤ cap ∧ cap ≤ maxLen ∧ (R < B ∧ B ≤ w.heap.size) ∧ w.cell? ⟨R, 0, none⟩ = some (.slice a len cap) ∧ w.cell? ⟨R, 1, none⟩ = some (.int .i64 p) ∧
  w.frozen? ⟨R, 0, none⟩ = false ∧ w.frozen? ⟨R, 1, none⟩ = false ∧ BytesIn B R w a len

theorem Rd.keep {B : Nat} {w w' : World} {R p : Nat} (hr : Rd B w R p) (hs : w.heap.size ≤ w'.heap.size) (h : ∀ b, b < B → w'.heap[b]? = w.heap[b]?) : Rd B w' R p := by
  obtain ⟨a, len, cap, h1, h2, h3, h4, h5, h6, h7, h8, h9⟩ := hr
  have hR := h R h4.1
  refine ⟨a, len, cap, h1, h2, h3, ⟨h4.1, by omega⟩, by rw [World.cell?_of_block (w := w) (a := ⟨R, 0, none⟩) hR]; exact h5, by rw [World.cell?_of_block (w := w) (a := ⟨R, 1, none⟩) hR]; exact h6, by rw [World.frozen?_of_block (w := w) (a := ⟨R, 0, none⟩) hR]; exact h7,
    by rw [World.frozen?_of_block (w := w) (a := ⟨R, 1, none⟩) hR]; exact h8, ?_⟩
  rcases h9 with h9 | ⟨b, o, f, rfl, hl, hd, hf⟩
  · exact .inl h9
  · exact .inr ⟨b, o, f, rfl, hl, hd, fun i hi => ⟨by rw [World.cell?_of_block (w := w) (a := ⟨b, o + i, none⟩) (h b hl)]; exact (hf i hi).1, (hf i hi).2⟩⟩
theorem Rd.lt {B : Nat} {w : World} {R p : Nat} (hr : Rd B w R p) : R < B ∧ B ≤ w.heap.size := by
  obtain ⟨a, len, cap, h1, h2, h3, h4, _⟩ := hr; exact h4
theorem Rd.next {B : Nat} {w w' : World} {R p : Nat} (h : Below w.heap.size w w') (hr : Rd B w R p) : Rd B w' R p := hr.keep h.size fun b hb => h.block b (Nat.lt_of_lt_of_le hb hr.lt.2)
theorem Rd.grown {B : Nat} {w w' : World} {R p : Nat} {row : Option Nat} (hr : Rd B w R p) (hg : w.grownBy w' row) (h : ∀ k, row = some k → B ≤ k) : Rd B w' R p :=
  hr.keep hg.size fun b hb => hg.block b (Nat.lt_of_lt_of_le hb hr.lt.2) (fun e => by have := h b e.symm; omega)
theorem Rd.set {B : Nat} {w : World} {R p : Nat} (hr : Rd B w R p) {a : Addr} (ha : B ≤ a.block) (v : Value) : Rd B (w.setCell a v) R p :=
  hr.keep (by simp) fun b hb => Below.heap_setCell _ _ _ _ (by omega)

/-- of two small numbers that are not negative, the exclusive or is none either -/
theorem xor_nonneg {a b : Int} (ha : 0 ≤ a) (ha2 : a < 4611686018427387904) (hb : 0 ≤ b) (hb2 : b < 4611686018427387904) : 0 ≤ bits .xor .i64 a b := by
  obtain ⟨a, rfl⟩ := Int.eq_ofNat_of_zero_le ha
  obtain ⟨b, rfl⟩ := Int.eq_ofNat_of_zero_le hb
  have hx : a ^^^ b < 2 ^ 62 := Nat.xor_lt_two_pow (by omega) (by omega)
  have h1 : (BitVec.ofInt 64 (a : Int)).toNat = a := by
    rw [BitVec.ofInt_natCast, BitVec.toNat_ofNat]; exact Nat.mod_eq_of_lt (by omega)
  have h2 : (BitVec.ofInt 64 (b : Int)).toNat = b := by
    rw [BitVec.ofInt_natCast, BitVec.toNat_ofNat]; exact Nat.mod_eq_of_lt (by omega)
  have : bits .xor .i64 (a : Int) (b : Int) = ((a ^^^ b : Nat) : Int) := by
    show IntKind.i64.wrap ((BitVec.ofInt 64 (a : Int) ^^^ BitVec.ofInt 64 (b : Int)).toNat : Int) = _
    rw [BitVec.toNat_xor, h1, h2]
    exact IntWalk.i64_in _ (by omega)
  rw [this]
  omega

/-- what a call of pick comes to -/
def PickPost (B : Nat) (n : Int) (R p : Nat) (w : World) (e : Ending) (w' : World) : Prop :=
  ∃ i : Int, e = .returned (.int .i64 i) ∧ (0 ≤ i ∧ (1 ≤ n → i < n) ∧ (n < 1 → i = 0)) ∧ But w R w' ∧ Rd B w' R (p + 1)

set_option maxRecDepth 100000 in
set_option maxHeartbeats 2000000 in
theorem pick_any (B : Nat) (n : Int) (w : World) (R p : Nat) (hr : Rd B w R p) (hp : p ≤ 1000000) (hn : n ≤ 1000000) (hn0 : -1000000 ≤ n) : Calls Try.prog 33 #[.pointer (some ⟨R, 0, none⟩), .int .i64 n] w (PickPost B n R p w) := by
  obtain ⟨a, len, cap, h1, h2, h3, h4, h5, h6, h7, h8, h9⟩ := hr
  have hset : ∀ nq, But w R ((w.setCell ⟨R, 1, none⟩ (.int .i64 ((p : Int) + 1))).drewN nq) ∧ Rd B ((w.setCell ⟨R, 1, none⟩ (.int .i64 ((p : Int) + 1))).drewN nq) R (p + 1) := fun nq => by
    have hb : But w R ((w.setCell ⟨R, 1, none⟩ (.int .i64 ((p : Int) + 1))).drewN nq) := (But.set w R 1 _).drewN nq
    refine ⟨hb, a, len, cap, h1, h2, h3, by simpa using h4, ?_, ?_, by simpa using h7, by simpa using h8, h9.butx (ButX.but hb h4.2)⟩
    · rw [World.cell?_drewN, World.cell?_setCell_other _ _ _ _ (by simp)]; exact h5
    · rw [World.cell?_drewN]; exact World.cell?_setCell_same _ _ _ h6
  have HS := hid hset; clear hset
  by_cases c1 : n < 1
  · go_enter Try.func33, Try.ntmps33
    go_wp2_with fail
    go_ret
    exact ⟨0, rfl, ⟨by omega, by omega, fun _ => rfl⟩, HS.out 0⟩
  rcases h9 with rfl | ⟨b, o, f, rfl, hl, hd, hf⟩
  · go_enter Try.func33, Try.ntmps33
    go_wp2_with fail
    go_ret
    exact ⟨0, rfl, ⟨by omega, by omega, fun _ => rfl⟩, HS.out 0⟩
  by_cases c0 : len = 0
  · subst c0
    go_enter Try.func33, Try.ntmps33
    go_wp2_with fail
    go_ret
    exact ⟨0, rfl, ⟨by omega, by omega, fun _ => rfl⟩, HS.out 0⟩
  have e0 : ((len : Int) == 0) = false := by rw [beq_eq_false_iff_ne]; omega
  have hdd : R ≠ b := Ne.symm hd
  by_cases c2 : p < len
  · have g := hf p c2
    obtain ⟨g1, g2, g3⟩ := g
    have g4 : (w.setCell ⟨R, 1, none⟩ (.int .i64 ((p : Int) + 1))).cell? ⟨b, o + p, none⟩ = some (.int .u8 (f p)) := by
      rw [World.cell?_setCell_other _ _ _ _ (by intro h; exact hdd (congrArg Addr.block h))]; exact g1
    clear hf
    go_enter Try.func33, Try.ntmps33
    go_wp2_with fail
    go_ret
    exact ⟨_, rfl, ⟨Int.emod_nonneg _ (by omega), fun _ => Int.emod_lt_of_pos _ (by omega), by omega⟩, HS.out 0⟩
  · have m1 : p % len < len := Nat.mod_lt _ (by omega)
    have m2 : (p * 7 + 3) % len < len := Nat.mod_lt _ (by omega)
    have m3 : p / len ≤ p := Nat.div_le_self _ _
    obtain ⟨g1, g2, g3⟩ := hf _ m1
    obtain ⟨k1, k2, k3⟩ := hf _ m2
    have g4 : (w.setCell ⟨R, 1, none⟩ (.int .i64 ((p : Int) + 1))).cell? ⟨b, o + p % len, none⟩ = some (.int .u8 (f (p % len))) := by
      rw [World.cell?_setCell_other _ _ _ _ (by intro h; exact hdd (congrArg Addr.block h))]; exact g1
    have k4 : (w.setCell ⟨R, 1, none⟩ (.int .i64 ((p : Int) + 1))).cell? ⟨b, o + (p * 7 + 3) % len, none⟩ = some (.int .u8 (f ((p * 7 + 3) % len))) := by
      rw [World.cell?_setCell_other _ _ _ _ (by intro h; exact hdd (congrArg Addr.block h))]; exact k1
    have z0 : (0 : Int) < (len : Int) := by omega
    clear hf
    go_enter Try.func33, Try.ntmps33
    go_wp2_with fail
    have d1 : (p : Int) / (len : Int) ≤ 1000000 := by have := Int.ediv_le_self (a := (p : Int)) (len : Int) (by omega); omega
    have d0 : 0 ≤ (p : Int) / (len : Int) := Int.ediv_nonneg (by omega) (by omega)
    have i1 : 0 ≤ ((p : Int) * 7 + 3) % (len : Int) := Int.emod_nonneg _ (by omega)
    have i2 : ((p : Int) * 7 + 3) % (len : Int) < (len : Int) := Int.emod_lt_of_pos _ (by omega)
    have j1 : 0 ≤ (p : Int) % (len : Int) := Int.emod_nonneg _ (by omega)
    have j2 : (p : Int) % (len : Int) < (len : Int) := Int.emod_lt_of_pos _ (by omega)
    generalize f (p % len) = u at *
    generalize f ((p * 7 + 3) % len) = v at *
    generalize hq : (p : Int) / (len : Int) = q at *
    have T3 : Int.tdiv (p : Int) (len : Int) = q := by rw [Int.tdiv_eq_ediv_of_nonneg (by omega)]; exact hq
    have T1 : Int.tmod (p : Int) (len : Int) = (p : Int) % (len : Int) := Int.tmod_eq_emod_of_nonneg (by omega)
    have T2 : Int.tmod ((p : Int) * 7 + 3) (len : Int) = ((p : Int) * 7 + 3) % (len : Int) := Int.tmod_eq_emod_of_nonneg (by omega)
    have W1 : IntKind.i64.wrap ((p : Int) * 7) = (p : Int) * 7 := IntWalk.i64_in _ (by omega)
    have W2 : IntKind.i64.wrap ((p : Int) * 7 + 3) = (p : Int) * 7 + 3 := IntWalk.i64_in _ (by omega)
    have W3 : IntKind.i64.wrap (u * 131) = u * 131 := IntWalk.i64_in _ (by omega)
    have W4 : IntKind.i64.wrap (v * 1117) = v * 1117 := IntWalk.i64_in _ (by omega)
    have W5 : IntKind.i64.wrap (u * 131 + v * 1117) = u * 131 + v * 1117 := IntWalk.i64_in _ (by omega)
    have W6 : IntKind.i64.wrap ((p : Int) * 29) = (p : Int) * 29 := IntWalk.i64_in _ (by omega)
    have W7 : IntKind.i64.wrap (u * 131 + v * 1117 + (p : Int) * 29) = u * 131 + v * 1117 + (p : Int) * 29 := IntWalk.i64_in _ (by omega)
    have W8 : IntKind.i64.wrap (q * 53) = q * 53 := IntWalk.i64_in _ (by omega)
    have W9 : IntKind.i64.wrap (u * 131 + v * 1117 + (p : Int) * 29 + q * 53) = u * 131 + v * 1117 + (p : Int) * 29 + q * 53 := IntWalk.i64_in _ (by omega)
    refine wp_region_quiet_lit (by kernel_rfl) (by kernel_rfl) ?_
    repeat (go_big_quiet_step (fail))
    refine wpQuiet_nil ?_
    intro _ hw'
    obtain ⟨nq, hw''⟩ := hw'
    subst hw''
    clear W1 W2 W3 W4 W5 W6 W7 W8 W9 T1 T2 T3
    go_wp2_with fail
    go_ret
    have hx : 0 ≤ u * 131 + v * 1117 + (p : Int) * 29 + q * 53 := by omega
    have hy : u * 131 + v * 1117 + (p : Int) * 29 + q * 53 < 1000000000 := by omega
    have hxor := xor_nonneg (a := u * 131 + v * 1117 + (p : Int) * 29 + q * 53) (b := (u * 131 + v * 1117 + (p : Int) * 29 + q * 53) / 64) hx (by omega) (by omega) (by omega)
    refine ⟨_, rfl, ⟨?_, fun _ => ?_, fun h => by omega⟩, HS.out _⟩
    · rw [Int.tmod_eq_emod_of_nonneg hxor]; exact Int.emod_nonneg _ (by omega)
    · rw [Int.tmod_eq_emod_of_nonneg hxor]; exact Int.emod_lt_of_pos _ (by omega)

/-- what a call of num comes to, of a list whose numbers are all between lo and hi -/
def NumPost (B : Nat) (lo hi : Int) (R p : Nat) (w : World) (e : Ending) (w' : World) : Prop :=
  ∃ i : Int, e = .returned (.int .i64 i) ∧ (lo ≤ i ∧ i ≤ hi) ∧ But w R w' ∧ Rd B w' R (p + 1)

set_option maxHeartbeats 400000 in
theorem num_any (B0 : Nat) (lo hi : Int) (w : World) (R p : Nat) (B len : Nat) (g : Nat → Int) (hr : Rd B0 w R p) (hp : p ≤ 1000000) (h0 : 0 < len) (hl : len ≤ 100) (hB : B ≠ R) (hB2 : B < w.heap.size) (hc : ∀ i, i < len → w.cell? ⟨B, i, none⟩ = some (.int .i64 (g i)) ∧ lo ≤ g i ∧ g i ≤ hi) :
    Calls Try.prog 34 #[.pointer (some ⟨R, 0, none⟩), .slice (some ⟨B, 0, none⟩) len len] w (NumPost B0 lo hi R p w) := by
  go_enter Try.func34, Try.ntmps34
  go_wp2_with fail
  refine (pick_any _ _ _ R p hr hp (by omega) (by omega)).mono ?_
  rintro e w1 ⟨i, rfl, ⟨i0, i1, _⟩, hbut, hrd⟩
  obtain ⟨k, rfl⟩ := Int.eq_ofNat_of_zero_le i0
  have hk : k < len := by have := i1 (by omega); omega
  have hk2 : (k : Int) < (len : Int) := by omega
  obtain ⟨c1, c2, c3⟩ := hc k hk
  rw [← hbut.cell hB2 hB] at c1
  clear hc i1
  go_wp2_with fail
  go_ret
  exact ⟨_, rfl, ⟨c2, c3⟩, hbut, hrd⟩

/-- .. of a list of some numbers, just made -/
theorem num_new (ns : List Int) (lo hi : Int) (hn : ∀ n ∈ ns, lo ≤ n ∧ n ≤ hi) (h0 : 0 < ns.length) (h1 : ns.length ≤ 100) (B0 : Nat) (w : World) (t : TypeId) (R p : Nat) (hr : Rd B0 w R p) (hp : p ≤ 1000000) :
    Calls Try.prog 34 #[.pointer (some ⟨R, 0, none⟩), .slice (some ⟨w.heap.size, 0, none⟩) ns.length ns.length] (w.alloc (.cells (ns.map (Value.int .i64)).toArray t)) (NumPost B0 lo hi R p (w.alloc (.cells (ns.map (Value.int .i64)).toArray t))) := by
  have hl := hr.lt
  refine num_any B0 lo hi _ R p w.heap.size ns.length (fun i => ns.getD i 0) (hr.next (below_alloc _ _)) hp h0 h1 (by omega) (by simp) fun i hi => ?_
  rw [World.cell?_alloc_new]
  have e : ns[i]? = some (ns.getD i 0) := by rw [List.getD_eq_getElem?_getD, List.getElem?_eq_getElem hi]; rfl
  refine ⟨?_, hn _ (List.mem_of_getElem? e)⟩
  rw [List.getElem?_toArray, List.getElem?_map, e]
  rfl

theorem num_at (ns : List Int) (lo hi : Int) (hn : ∀ n ∈ ns, lo ≤ n ∧ n ≤ hi) (h0 : 0 < ns.length) (h1 : ns.length ≤ 100) (B0 : Nat) (w : World) (t : TypeId) (b R p : Nat) (hb : b = w.heap.size) (hr : Rd B0 w R p) (hp : p ≤ 1000000) :
    Calls Try.prog 34 #[.pointer (some ⟨R, 0, none⟩), .slice (some ⟨b, 0, none⟩) ns.length ns.length] (w.alloc (.cells (ns.map (Value.int .i64)).toArray t)) (NumPost B0 lo hi R p (w.alloc (.cells (ns.map (Value.int .i64)).toArray t))) := by
  subst hb; exact num_new ns lo hi hn h0 h1 B0 w t R p hr hp

/-- the bytes of an argument -/
def ByteArg (w : World) (a : Option Addr) (len cap : Nat) : Prop := len ≤ cap ∧ cap ≤ maxLen ∧ (len = 0 ∨ ∃ (b o : Nat) (f : Nat → Int), a = some ⟨b, o, none⟩ ∧ b < w.heap.size ∧ ∀ i, i < len → w.cell? ⟨b, o + i, none⟩ = some (.int .u8 (f i)) ∧ 0 ≤ f i ∧ f i ≤ 255)
theorem ByteArg.next {w w' : World} (h : Below w.heap.size w w') {a : Option Addr} {len cap : Nat} (hb : ByteArg w a len cap) : ByteArg w' a len cap := by
  obtain ⟨h1, h2, hb⟩ := hb
  refine ⟨h1, h2, ?_⟩
  rcases hb with hb | ⟨b, o, f, rfl, hl, hf⟩
  · exact .inl hb
  · exact .inr ⟨b, o, f, rfl, Nat.lt_of_lt_of_le hl h.size, fun i hi => ⟨by rw [h.cell (p := ⟨b, o + i, none⟩) hl]; exact (hf i hi).1, (hf i hi).2⟩⟩
theorem ByteArg.new {w : World} {a : Option Addr} {len cap m : Nat} (hb : ByteArg w a len cap) (hm : m ≤ len) (hm2 : m ≤ 2000) (t : TypeId) : Rd (w.heap.size + 1) (w.alloc (.cells #[.slice a m cap, .int .i64 0] t)) w.heap.size 0 := by
  obtain ⟨h1, h2, hb⟩ := hb
  refine ⟨a, m, cap, hm2, by omega, h2, by simp, by simp, by simp, by simp, by simp, ?_⟩
  rcases hb with hb | ⟨b, o, f, rfl, hl, hf⟩
  · exact .inl (by omega)
  · exact .inr ⟨b, o, f, rfl, by omega, by omega, fun i hi => ⟨by rw [World.cell?_alloc_lt (h := by exact hl)]; exact (hf i (by omega)).1, (hf i (by omega)).2⟩⟩

set_option maxHeartbeats 400000 in
theorem open_any (w : World) (a : Option Addr) (len cap : Nat) (hb : ByteArg w a len cap) : Calls Try.prog 29 #[.slice a len cap] w (RetP (fun v w' => ∃ R B, v = .pointer (some ⟨R, 0, none⟩) ∧ w.heap.size ≤ R ∧ Rd B w' R 0) w) := by
  have hcap := hb.1
  have hcap2 := hb.2.1
  unfold maxLen at hcap2
  by_cases h : 2000 < len
  · have h1 : 2000 ≤ cap := by omega
    have hR := hid (hb.new (m := 2000) (by omega) (by omega) 88)
    go_enter Try.func29, Try.ntmps29
    go_wp2_with fail
    go_ret
    exact RetP.mk ⟨_, _, rfl, Nat.le_refl _, hR.out⟩ (below_alloc _ _)
  · have hR := hid (hb.new (m := len) (by omega) (by omega) 88)
    go_enter Try.func29, Try.ntmps29
    go_wp2_with fail
    go_ret
    exact RetP.mk ⟨_, _, rfl, Nat.le_refl _, hR.out⟩ (below_alloc _ _)

end Go.Proofs.Ytfemikebklmlpaa
namespace Go.Proofs.Ytfemikebklmlpaa
open Go.RowKit
set_option linter.unusedVariables false
set_option linter.unusedSimpArgs false

theorem OwnI.ints3 {B : Nat} {p : Nat → Prop} {a : Option Addr} {n c : Nat} {l : List Int} {w : World} (h : OwnI B (.slice a n c) l w) (hi : ∀ n, n ∈ l → i64 n) (hp : ∀ g, (Value.slice a n c).ownBlock = some g → p g) : IntsIn p w a l := by
  obtain ⟨h1, h2⟩ := h.ints2 hi
  rcases h.row with ⟨rfl, _⟩ | ⟨g, c', e, _⟩
  · exact ⟨.inl rfl, h2⟩
  · simp at e
    obtain ⟨rfl, _, _⟩ := e
    rcases h1 with h1 | ⟨b, o, he, _, h3, h4⟩
    · exact ⟨.inl h1, h2⟩
    · simp at he
      obtain ⟨rfl, rfl⟩ := he
      exact ⟨.inr ⟨g, 0, rfl, hp g rfl, h3, h4⟩, h2⟩

theorem row_one (W : World) (x : Int) (h : i64 x) : IntsIn Any (W.alloc (.cells #[.int .i64 x] 3)) (some ⟨W.heap.size, 0, none⟩) [x] := ⟨.inr ⟨W.heap.size, 0, rfl, trivial, by simp, fun i v hi => by
    cases i with
    | zero => simp at hi; subst hi; simp
    | succ i => simp at hi⟩, fun m hm => by simp at hm; subst hm; exact h⟩
theorem below_set2 {B X : Nat} {w W : World} (h : Below B w W) (hX : B ≤ X) (u0 u1 : Value) : Below B w ((W.setCell ⟨X, 0, none⟩ u0).setCell ⟨X, 1, none⟩ u1) := Below.setCell (Below.setCell h (show B ≤ X from hX) _) (show B ≤ X from hX) _
end Go.Proofs.Ytfemikebklmlpaa
namespace Go.Proofs.Ytfemikebklmlpaa
open Go.RowKit
set_option linter.unusedVariables false
set_option linter.unusedSimpArgs false
namespace Gr

theorem state_info : (Try.prog.info? 91).map (fun i => (i.zero, i.size, i.bytes)) = some (some (.agg #[.slice none 0 0, .slice none 0 0]), 2, 48) := by kernel_rfl
theorem row_info : (Try.prog.info? 30).map (fun i => (i.zero, i.size, i.bytes)) = some (some (.slice none 0 0), 1, 24) := by kernel_rfl

/-- append of one state, just laid, to a row of states -/
theorem wp_app_st {ops : Array Oper} {rest : List Oper} {o : Oper} {a : Act} {Q : Exit → Act → World → Prop} {w : World} (hgd : o.guard = none) (s x : Operand)
    (ho : o.op = .call { callee := .builtin .append, args := #[s, x], argTypes := #[23, 23] }) (B : Nat) (v : Value) (acc : List (List Value)) (cs : List Value) (g c : Nat) (hs : a.eval s = v) (hx : a.eval x = .slice (some ⟨g, 0, none⟩) 1 c)
    (hv : OwnR 91 2 B v acc w) (hB : B ≤ w.heap.size) (hl : ∀ j u, cs[j]? = some u → w.cell? ⟨g, j, none⟩ = some u) (hn : cs.length = 2) (hone : ∀ u, u ∈ cs → u.oneCell' = true) (h1 : acc.length ≤ 100000)
    (h : ∀ v' w', OwnR 91 2 B v' (acc ++ [cs]) w' → w.grownBy w' v.ownBlock → (v'.ownBlock = v.ownBlock ∨ v'.ownBlock = some w.heap.size) → wpList Try.prog ops Q rest (a.put o.dst v') w') :
    wpList Try.prog ops Q (o :: rest) a w := by
  obtain ⟨ri, hi, hz, hs1, hs2⟩ := info_parts state_info
  refine wpList_append_own_at _ hgd s x 23 ho B 91 ri _ 2 48 Try.underlying23 hi hz hs1 hs2 rfl (by omega) v acc.length _ hs hv.1 ⟨g, 0, none⟩ 1 c cs hx (by rw [hn]) (fun j u hj => ?_) hone (by simp only [maxLen]; omega) (by omega) hB ?_
  · have e : Addr.add ⟨g, 0, none⟩ j = ⟨g, j, none⟩ := by unfold Addr.add; split <;> simp_all
    rw [e]
    exact hl j u hj
  · intro v2 w3 hown hgrow _ hblk
    refine h v2 w3 ⟨?_, fun c hc => ?_⟩ hgrow hblk
    · rw [List.length_append, List.flatten_append]; simpa using hown
    · rcases List.mem_append.1 hc with h | h
      · exact hv.2 c h
      · simp at h; rw [h]; exact hn
/-- append of one row to a row of rows -/
theorem wp_app_ro {ops : Array Oper} {rest : List Oper} {o : Oper} {a : Act} {Q : Exit → Act → World → Prop} {w : World} (hgd : o.guard = none) (s x : Operand)
    (ho : o.op = .call { callee := .builtin .append, args := #[s, x], argTypes := #[24, 24] }) (B : Nat) (v : Value) (acc : List (List Value)) (cs : List Value) (g c : Nat) (hs : a.eval s = v) (hx : a.eval x = .slice (some ⟨g, 0, none⟩) 1 c)
    (hv : OwnR 30 1 B v acc w) (hB : B ≤ w.heap.size) (hl : ∀ j u, cs[j]? = some u → w.cell? ⟨g, j, none⟩ = some u) (hn : cs.length = 1) (hone : ∀ u, u ∈ cs → u.oneCell' = true) (h1 : acc.length ≤ 100000)
    (h : ∀ v' w', OwnR 30 1 B v' (acc ++ [cs]) w' → w.grownBy w' v.ownBlock → (v'.ownBlock = v.ownBlock ∨ v'.ownBlock = some w.heap.size) → wpList Try.prog ops Q rest (a.put o.dst v') w') :
    wpList Try.prog ops Q (o :: rest) a w := by
  obtain ⟨ri, hi, hz, hs1, hs2⟩ := info_parts row_info
  refine wpList_append_own_at _ hgd s x 24 ho B 30 ri _ 1 24 Try.underlying24 hi hz hs1 hs2 rfl (by omega) v acc.length _ hs hv.1 ⟨g, 0, none⟩ 1 c cs hx (by rw [hn]) (fun j u hj => ?_) hone (by simp only [maxLen]; omega) (by omega) hB ?_
  · have e : Addr.add ⟨g, 0, none⟩ j = ⟨g, j, none⟩ := by unfold Addr.add; split <;> simp_all
    rw [e]
    exact hl j u hj
  · intro v2 w3 hown hgrow _ hblk
    refine h v2 w3 ⟨?_, fun c hc => ?_⟩ hgrow hblk
    · rw [List.length_append, List.flatten_append]; simpa using hown
    · rcases List.mem_append.1 hc with h | h
      · exact hv.2 c h
      · simp at h; rw [h]; exact hn

/-! ### what the records are -/
/-- a slice of numbers: short, and nil only without room -/
def RN (p : Nat → Prop) (w : World) (t : List Int) (a : Option Addr) (c : Nat) : Prop := t.length ≤ c ∧ c ≤ maxLen ∧ IntsIn p w a t ∧ (a = none → c = 0) ∧ t.length ≤ 1000
theorem RN.frame {p q : Nat → Prop} {w w' : World} {t : List Int} {a : Option Addr} {c : Nat} (h : RN p w t a c) (hs : w.heap.size ≤ w'.heap.size) (hp : ∀ b, p b → b < w.heap.size → q b ∧ w'.heap[b]? = w.heap[b]?) : RN q w' t a c :=
  ⟨h.1, h.2.1, ints_frame h.2.2.1 hs hp, h.2.2.2⟩
/-- two cells that are a state -/
def StC (p : Nat → Prop) (w : World) (t : S2) (c : List Value) : Prop := ∃ a n a' n', c = [.slice a t.locs.length n, .slice a' t.vals.length n'] ∧ RN p w t.locs a n ∧ RN p w t.vals a' n'
theorem StC.frame {p q : Nat → Prop} {w w' : World} {t : S2} {c : List Value} (h : StC p w t c) (hs : w.heap.size ≤ w'.heap.size) (hp : ∀ b, p b → b < w.heap.size → q b ∧ w'.heap[b]? = w.heap[b]?) : StC q w' t c := by
  obtain ⟨a, n, a', n', e, h1, h2⟩ := h
  exact ⟨a, n, a', n', e, h1.frame hs hp, h2.frame hs hp⟩
/-- a cell that is a row -/
def RoC (p : Nat → Prop) (w : World) (t : List Int) (c : List Value) : Prop := ∃ a n, c = [.slice a t.length n] ∧ RN p w t a n
theorem RoC.frame {p q : Nat → Prop} {w w' : World} {t : List Int} {c : List Value} (h : RoC p w t c) (hs : w.heap.size ≤ w'.heap.size) (hp : ∀ b, p b → b < w.heap.size → q b ∧ w'.heap[b]? = w.heap[b]?) : RoC q w' t c := by
  obtain ⟨a, n, e, h1⟩ := h
  exact ⟨a, n, e, h1.frame hs hp⟩
theorem sts_of {p : Nat → Prop} {w : World} {B : Nat} {a : Option Addr} {n c : Nat} {l : List S2} {cs : List (List Value)} (h : OwnR 91 2 B (.slice a n c) cs w) (ha : AllR (StC p w) l cs) (hp : ∀ g, a = some ⟨g, 0, none⟩ → p g) : StsIn p w l a := by
  obtain ⟨a', c', e, _, _, h3⟩ := h.shape
  simp at e
  obtain ⟨rfl, rfl, rfl⟩ := e
  rcases h3 with h3 | ⟨g, rfl, h4, h5, h6, h7⟩
  · subst h3
    have := ha.len
    exact .inl (List.eq_nil_of_length_eq_zero (by simpa using this.symm))
  · refine .inr ⟨g, 0, rfl, hp g rfl, h5, fun i t ht => ?_⟩
    obtain ⟨cc, hcc, a1, n1, a2, n2, e1, r1, r2⟩ := ha.at ht
    rw [Nat.zero_add]
    have hcell : ∀ j, j < 2 → w.cell? ⟨g, i * 2 + j, none⟩ = ([.slice a1 t.locs.length n1, .slice a2 t.vals.length n2] : List Value)[j]? := fun j hj => by rw [h6 i j cc hcc hj, e1]
    exact ⟨a1, n1, a2, n2, ⟨hcell 0 (by omega), hcell 1 (by omega)⟩, ⟨_, _, rfl, r1.1, r1.2.1, r1.2.2.1⟩, ⟨_, _, rfl, r2.1, r2.2.1, r2.2.2.1⟩⟩
theorem rows_of {p : Nat → Prop} {w : World} {B : Nat} {a : Option Addr} {n c : Nat} {l : List (List Int)} {cs : List (List Value)} (h : OwnR 30 1 B (.slice a n c) cs w) (ha : AllR (RoC p w) l cs) (hp : ∀ g, a = some ⟨g, 0, none⟩ → p g) : RowsIn p w l a := by
  obtain ⟨a', c', e, _, _, h3⟩ := h.shape
  simp at e
  obtain ⟨rfl, rfl, rfl⟩ := e
  rcases h3 with h3 | ⟨g, rfl, h4, h5, h6, h7⟩
  · subst h3
    have := ha.len
    exact .inl (List.eq_nil_of_length_eq_zero (by simpa using this.symm))
  · refine .inr ⟨g, 0, rfl, hp g rfl, h5, fun i t ht => ?_⟩
    obtain ⟨cc, hcc, a1, n1, e1, r1⟩ := ha.at ht
    rw [Nat.zero_add]
    have hcell : ∀ j, j < 1 → w.cell? ⟨g, i * 1 + j, none⟩ = ([.slice a1 t.length n1] : List Value)[j]? := fun j hj => by rw [h6 i j cc hcc hj, e1]
    exact ⟨a1, n1, hcell 0 (by omega), ⟨_, _, rfl, r1.1, r1.2.1, r1.2.2.1⟩⟩

/-! ### a graph of two rows of one's own; O: its variable's block; x: another block kept apart -/
def pX (L O : Nat) (x : Option Nat) (vs vn : Value) (b : Nat) : Prop := L ≤ b ∧ b ≠ O ∧ x ≠ some b ∧ vs.ownBlock ≠ some b ∧ vn.ownBlock ≠ some b
def GOwn (L O : Nat) (x : Option Nat) (vs vn : Value) (g : G2) (W : World) : Prop := ∃ cs cn, OwnR 91 2 L vs cs W ∧ OwnR 30 1 L vn cn W ∧ AllR (StC (pX L O x vs vn) W) g.states cs ∧ AllR (RoC (pX L O x vs vn) W) g.next cn ∧
  (∀ b, vs.ownBlock = some b → b ≠ O ∧ x ≠ some b ∧ vn.ownBlock ≠ some b) ∧ (∀ b, vn.ownBlock = some b → b ≠ O ∧ x ≠ some b)
theorem GOwn.nil (L O : Nat) (x : Option Nat) (W : World) : GOwn L O x (.slice none 0 0) (.slice none 0 0) ⟨[], []⟩ W :=
  ⟨[], [], OwnR.nil .., OwnR.nil .., trivial, trivial, fun b h => by simp [Value.ownBlock] at h, fun b h => by simp [Value.ownBlock] at h⟩
theorem GOwn.blk {L O : Nat} {x : Option Nat} {vs vn : Value} {g : G2} {W : World} (h : GOwn L O x vs vn g W) : (∀ b, vs.ownBlock = some b → L ≤ b ∧ b < W.heap.size) ∧ ∀ b, vn.ownBlock = some b → L ≤ b ∧ b < W.heap.size := by
  obtain ⟨cs, cn, h1, h2, _⟩ := h
  exact ⟨h1.blk, h2.blk⟩
theorem GOwn.keep {L O : Nat} {x : Option Nat} {vs vn : Value} {g : G2} {W W' : World} (h : GOwn L O x vs vn g W) (hs : W.heap.size ≤ W'.heap.size) (hb : ∀ b, L ≤ b → b ≠ O → x ≠ some b → b < W.heap.size → W'.heap[b]? = W.heap[b]?) : GOwn L O x vs vn g W' := by
  obtain ⟨cs, cn, h1, h2, h3, h4, h5, h6⟩ := h
  have hf : ∀ b, pX L O x vs vn b → b < W.heap.size → pX L O x vs vn b ∧ W'.heap[b]? = W.heap[b]? := fun b hp hl => ⟨hp, hb b hp.1 hp.2.1 hp.2.2.1 hl⟩
  exact ⟨cs, cn, h1.keep fun g e h1 h2 => hb g h1 (h5 g e).1 (h5 g e).2.1 h2, h2.keep fun g e h1 h2 => hb g h1 (h6 g e).1 (h6 g e).2 h2, h3.mono fun t c h => h.frame hs hf, h4.mono fun t c h => h.frame hs hf, h5, h6⟩
theorem GOwn.next {L O : Nat} {x : Option Nat} {vs vn : Value} {g : G2} {W W' : World} (h : GOwn L O x vs vn g W) (hb : Below W.heap.size W W') : GOwn L O x vs vn g W' := h.keep hb.size fun b _ _ _ hl => hb.block b hl
/-- other blocks kept apart -/
theorem GOwn.re {L L' O O' : Nat} {x x' : Option Nat} {vs vn : Value} {g : G2} {W : World} (h : GOwn L O x vs vn g W) (hL : L' ≤ L) (hx : ∀ b, L ≤ b → b ≠ O → x ≠ some b → b < W.heap.size → b ≠ O' ∧ x' ≠ some b) : GOwn L' O' x' vs vn g W := by
  obtain ⟨cs, cn, h1, h2, h3, h4, h5, h6⟩ := h
  have hf : ∀ b, pX L O x vs vn b → b < W.heap.size → pX L' O' x' vs vn b ∧ W.heap[b]? = W.heap[b]? := fun b hp hl => ⟨⟨Nat.le_trans hL hp.1, (hx b hp.1 hp.2.1 hp.2.2.1 hl).1, (hx b hp.1 hp.2.1 hp.2.2.1 hl).2, hp.2.2.2⟩, rfl⟩
  have hm : ∀ {e n v cs}, OwnR e n L v cs W → OwnR e n L' v cs W := fun {e n v cs} h => by
    refine ⟨⟨h.1.1, ?_⟩, h.2⟩
    rcases h.1.2 with h2 | ⟨g, cap, cur, e1, e2, e3⟩
    · exact .inl h2
    · exact .inr ⟨g, cap, cur, e1, Nat.le_trans hL e2, e3⟩
  refine ⟨cs, cn, hm h1, hm h2, h3.mono fun t c h => h.frame (Nat.le_refl _) hf, h4.mono fun t c h => h.frame (Nat.le_refl _) hf, fun b e => ?_, fun b e => ?_⟩
  · have hk := hx b (h1.blk b e).1 (h5 b e).1 (h5 b e).2.1 (h1.blk b e).2
    exact ⟨hk.1, hk.2, (h5 b e).2.2⟩
  · exact hx b (h2.blk b e).1 (h6 b e).1 (h6 b e).2 (h2.blk b e).2
theorem GOwn.shape {L O : Nat} {x : Option Nat} {vs vn : Value} {g : G2} {W : World} (h : GOwn L O x vs vn g W) : ∃ a c b d, vs = .slice a g.states.length c ∧ vn = .slice b g.next.length d ∧ g.states.length ≤ c ∧ c ≤ maxLen ∧ g.next.length ≤ d ∧ d ≤ maxLen ∧ StsIn (fun b => L ≤ b) W g.states a ∧ RowsIn (fun b => L ≤ b) W g.next b := by
  obtain ⟨cs, cn, h1, h2, h3, h4, h5, h6⟩ := h
  obtain ⟨a, c, rfl, e1, e2, _⟩ := h1.shape
  obtain ⟨b, d, rfl, f1, f2, _⟩ := h2.shape
  have l1 := h3.len
  have l2 := h4.len
  rw [l1] at e1 h1 h3 ⊢
  rw [l2] at f1 h2 h4 ⊢
  refine ⟨a, c, b, d, rfl, rfl, e1, e2, f1, f2, sts_of h1 (h3.mono fun t c h => h.frame (q := fun b => L ≤ b) (Nat.le_refl _) fun b hp hl => ⟨hp.1, rfl⟩) (fun g hg => ?_), rows_of h2 (h4.mono fun t c h => h.frame (q := fun b => L ≤ b) (Nat.le_refl _) fun b hp hl => ⟨hp.1, rfl⟩) (fun g hg => ?_)⟩
  · subst hg; exact (h1.blk g rfl).1
  · subst hg; exact (h2.blk g rfl).1
theorem GOwn.shN {L O : Nat} {x : Option Nat} {vs vn : Value} {g : G2} {W : World} (h : GOwn L O x vs vn g W) : ∃ b l d, vn = .slice b l d := by
  obtain ⟨_, _, b, d, _, h, _⟩ := h.shape; exact ⟨b, _, d, h⟩
theorem GOwn.shS {L O : Nat} {x : Option Nat} {vs vn : Value} {g : G2} {W : World} (h : GOwn L O x vs vn g W) : ∃ b l d, vs = .slice b l d := by
  obtain ⟨b, d, _, _, h, _⟩ := h.shape; exact ⟨b, _, d, h⟩
theorem GOwn.grIn {L O : Nat} {x : Option Nat} {vs vn : Value} {g : G2} {W : World} (h : GOwn L O x vs vn g W) : GrIn (fun b => L ≤ b) W g (.agg #[vs, vn]) := by
  obtain ⟨a, c, b, d, rfl, rfl, e1, e2, f1, f2, h1, h2⟩ := h.shape
  exact ⟨a, c, b, d, rfl, e1, e2, h1, f1, f2, h2⟩
/-- one state more -/
theorem GOwn.appS {L O : Nat} {x : Option Nat} {vs vn v' : Value} {sts : List S2} {nx : List (List Int)} {t : S2} {cs cn : List (List Value)} {c : List Value} {W W' : World}
    (h2 : OwnR 30 1 L vn cn W) (h3 : AllR (StC (pX L O x vs vn) W) sts cs) (h4 : AllR (RoC (pX L O x vs vn) W) nx cn) (h5 : ∀ b, vs.ownBlock = some b → b ≠ O ∧ x ≠ some b ∧ vn.ownBlock ≠ some b) (h6 : ∀ b, vn.ownBlock = some b → b ≠ O ∧ x ≠ some b)
    (ht : StC (pX L O x vs vn) W t c) (h' : OwnR 91 2 L v' (cs ++ [c]) W') (hg : W.grownBy W' vs.ownBlock) (hv : v'.ownBlock = vs.ownBlock ∨ v'.ownBlock = some W.heap.size) (hO : O < W.heap.size) (hx : ∀ b, x = some b → b < W.heap.size) : GOwn L O x v' vn ⟨sts ++ [t], nx⟩ W' := by
  have hf : ∀ b, pX L O x vs vn b → b < W.heap.size → pX L O x v' vn b ∧ W'.heap[b]? = W.heap[b]? := fun b hp hl => by
    refine ⟨⟨hp.1, hp.2.1, hp.2.2.1, ?_, hp.2.2.2.2⟩, hg.block b hl (fun e => hp.2.2.2.1 e.symm)⟩
    rcases hv with hv | hv
    · rw [hv]; exact hp.2.2.2.1
    · rw [hv]; intro e; simp at e; omega
  refine ⟨cs ++ [c], cn, h', h2.keep fun g e _ hl => hg.block g hl (fun e' => (h5 g e'.symm).2.2 e), AllR.snoc (ht.frame hg.size hf) (h3.mono fun t c h => h.frame hg.size hf), h4.mono fun t c h => h.frame hg.size hf, fun b e => ?_, h6⟩
  rcases hv with hv | hv
  · exact h5 b (by rw [← hv]; exact e)
  · rw [hv] at e
    simp at e
    subst e
    exact ⟨by omega, fun e => by have := hx _ e; omega, fun e => by have := (h2.blk _ e).2; omega⟩
/-- one row more -/
theorem GOwn.appN {L O : Nat} {x : Option Nat} {vs vn v' : Value} {sts : List S2} {nx : List (List Int)} {t : List Int} {cs cn : List (List Value)} {c : List Value} {W W' : World}
    (h1 : OwnR 91 2 L vs cs W) (h3 : AllR (StC (pX L O x vs vn) W) sts cs) (h4 : AllR (RoC (pX L O x vs vn) W) nx cn) (h5 : ∀ b, vs.ownBlock = some b → b ≠ O ∧ x ≠ some b ∧ vn.ownBlock ≠ some b) (h6 : ∀ b, vn.ownBlock = some b → b ≠ O ∧ x ≠ some b)
    (ht : RoC (pX L O x vs vn) W t c) (h' : OwnR 30 1 L v' (cn ++ [c]) W') (hg : W.grownBy W' vn.ownBlock) (hv : v'.ownBlock = vn.ownBlock ∨ v'.ownBlock = some W.heap.size) (hO : O < W.heap.size) (hx : ∀ b, x = some b → b < W.heap.size) : GOwn L O x vs v' ⟨sts, nx ++ [t]⟩ W' := by
  have hf : ∀ b, pX L O x vs vn b → b < W.heap.size → pX L O x vs v' b ∧ W'.heap[b]? = W.heap[b]? := fun b hp hl => by
    refine ⟨⟨hp.1, hp.2.1, hp.2.2.1, hp.2.2.2.1, ?_⟩, hg.block b hl (fun e => hp.2.2.2.2 e.symm)⟩
    rcases hv with hv | hv
    · rw [hv]; exact hp.2.2.2.2
    · rw [hv]; intro e; simp at e; omega
  refine ⟨cs, cn ++ [c], h1.keep fun g e _ hl => hg.block g hl (fun e' => (h5 g e).2.2 e'.symm), h', h3.mono fun t c h => h.frame hg.size hf, AllR.snoc (ht.frame hg.size hf) (h4.mono fun t c h => h.frame hg.size hf), fun b e => ⟨(h5 b e).1, (h5 b e).2.1, ?_⟩, fun b e => ?_⟩
  · rcases hv with hv | hv
    · rw [hv]; exact (h5 b e).2.2
    · rw [hv]; intro e'; simp at e'; have := (h1.blk b e).2; omega
  · rcases hv with hv | hv
    · exact h6 b (by rw [← hv]; exact e)
    · rw [hv] at e
      simp at e
      subst e
      exact ⟨by omega, fun e => by have := hx _ e; omega⟩

theorem GOwn.made (L O : Nat) (W : World) (hL : L ≤ W.heap.size) (hO : O ≠ W.heap.size) : GOwn L O none (.slice (some ⟨W.heap.size, 0, none⟩) 0 0) (.slice none 0 0) ⟨[], []⟩ (W.alloc (.cells #[] 91)) :=
  ⟨[], [], ⟨World.ownsRow_made (e := 91) (size := 2) (base := L) W #[] 0 hL (by simp) (by simp), by simp⟩, OwnR.nil .., trivial, trivial, fun b h => by simp [Value.ownBlock] at h; subst h; exact ⟨hO.symm, by simp, by simp [Value.ownBlock]⟩, fun b h => by simp [Value.ownBlock] at h⟩
theorem GOwn.stAt {L O : Nat} {x : Option Nat} {vs vn : Value} {g : G2} {W : World} (h : GOwn L O x vs vn g W) {k : Nat} (hk : k < g.states.length) :
    ∃ b c a1 n1 a2 n2, vs = .slice (some ⟨b, 0, none⟩) g.states.length c ∧ b < W.heap.size ∧ W.cell? ⟨b, k * 2, none⟩ = some (.slice a1 g.states[k].locs.length n1) ∧ W.cell? ⟨b, k * 2 + 1, none⟩ = some (.slice a2 g.states[k].vals.length n2) ∧ RN (pX L O x vs vn) W g.states[k].locs a1 n1 ∧ RN (pX L O x vs vn) W g.states[k].vals a2 n2 := by
  obtain ⟨cs, cn, h1, h2, h3, h4, h5, h6⟩ := h
  obtain ⟨a, c, rfl, e1, e2, e3⟩ := h1.shape
  have hlen := h3.len
  obtain ⟨cc, hcc, a1, n1, a2, n2, e, r1, r2⟩ := h3.at (List.getElem?_eq_getElem hk)
  rcases e3 with e3 | ⟨b, rfl, q1, q2, q3, q4⟩
  · rw [e3] at hlen; simp at hlen; omega
  · have hcell := fun j hj => q3 k j cc hcc hj
    rw [e] at hcell
    exact ⟨b, c, a1, n1, a2, n2, by rw [hlen], q2, hcell 0 (by omega), hcell 1 (by omega), r1, r2⟩
theorem GOwn.fro {L O : Nat} {x : Option Nat} {vs vn : Value} {g : G2} {W : World} (h : GOwn L O x vs vn g W) : (∀ b, vs.ownBlock = some b → ∀ j, W.frozen? ⟨b, j, none⟩ = false) ∧ ∀ b, vn.ownBlock = some b → ∀ j, W.frozen? ⟨b, j, none⟩ = false := by
  obtain ⟨cs, cn, h1, h2, _⟩ := h
  have hh : ∀ {e n v cs}, OwnR e n L v cs W → ∀ b, v.ownBlock = some b → ∀ j, W.frozen? ⟨b, j, none⟩ = false := fun {e n v cs} h b e j => by
    rcases h.1.2 with ⟨rfl, _⟩ | ⟨g', cap, cur, rfl, e2, e3, e4⟩
    · simp [Value.ownBlock] at e
    · simp [Value.ownBlock] at e
      subst e
      simp [World.frozen?, e3]
  exact ⟨hh h1, hh h2⟩
theorem rn_new {p : Nat → Prop} (W : World) (l : List Int) (t : TypeId) (hi : ∀ n, n ∈ l → i64 n) (hl : l.length ≤ 1000) (hp : p W.heap.size) : RN p (W.alloc (.cells (l.map (Value.int .i64)).toArray t)) l (some ⟨W.heap.size, 0, none⟩) l.length :=
  ⟨Nat.le_refl _, by unfold maxLen; omega, ⟨.inr ⟨W.heap.size, 0, rfl, hp, by simp, fun i v hv => by
    rw [Nat.zero_add, World.cell?_alloc_new, List.getElem?_toArray]; exact hv⟩, hi⟩, fun e => (by cases e), hl⟩
theorem GOwn.roAt {L O : Nat} {x : Option Nat} {vs vn : Value} {g : G2} {W : World} (h : GOwn L O x vs vn g W) {k : Nat} (hk : k < g.next.length) :
    ∃ b c a1 n1, vn = .slice (some ⟨b, 0, none⟩) g.next.length c ∧ b < W.heap.size ∧ W.cell? ⟨b, k, none⟩ = some (.slice a1 g.next[k].length n1) ∧ RN (pX L O x vs vn) W g.next[k] a1 n1 := by
  obtain ⟨cs, cn, h1, h2, h3, h4, h5, h6⟩ := h
  obtain ⟨a, c, rfl, e1, e2, e3⟩ := h2.shape
  have hlen := h4.len
  obtain ⟨cc, hcc, a1, n1, e, r1⟩ := h4.at (List.getElem?_eq_getElem hk)
  rcases e3 with e3 | ⟨b, rfl, q1, q2, q3, q4⟩
  · rw [e3] at hlen; simp at hlen; omega
  · have hcell := q3 k 0 cc hcc (by omega)
    rw [e, Nat.mul_one] at hcell
    exact ⟨b, c, a1, n1, by rw [hlen], q2, hcell, r1⟩

theorem RN.own {p : Nat → Prop} {B : Nat} {w : World} {t : List Int} {a : Option Addr} {c : Nat} (h : OwnI B (.slice a t.length c) t w) (hi : ∀ n, n ∈ t → i64 n) (ht : t.length ≤ 1000) (hp : ∀ g, (Value.slice a t.length c).ownBlock = some g → p g) : RN p w t a c := by
  obtain ⟨a', c', e, h1, h2, h3⟩ := h.shape
  simp at e
  obtain ⟨rfl, rfl⟩ := e
  exact ⟨h1, h2, h.ints3 hi hp, h3, ht⟩
/-- a row of one state, just made -/
theorem GOwn.one {L O : Nat} {W : World} {t : S2} {a1 a2 : Option Addr} {n1 n2 : Nat} (hL : L ≤ W.heap.size) (hO : O ≠ W.heap.size) (r1 : RN (fun b => L ≤ b ∧ b ≠ O) W t.locs a1 n1) (r2 : RN (fun b => L ≤ b ∧ b ≠ O) W t.vals a2 n2) :
    GOwn L O none (.slice (some ⟨W.heap.size, 0, none⟩) 1 1) (.slice none 0 0) ⟨[t], []⟩ (W.alloc (.cells #[.slice a1 t.locs.length n1, .slice a2 t.vals.length n2] 91)) := by
  have hf : ∀ b, (L ≤ b ∧ b ≠ O) → b < W.heap.size → pX L O none (.slice (some ⟨W.heap.size, 0, none⟩) 1 1) (.slice none 0 0) b ∧ (W.alloc (.cells #[.slice a1 t.locs.length n1, .slice a2 t.vals.length n2] 91)).heap[b]? = W.heap[b]? := fun b hp hl =>
    ⟨⟨hp.1, hp.2, by simp, fun e => by simp [Value.ownBlock] at e; omega, by simp [Value.ownBlock]⟩, (below_alloc _ _).block b hl⟩
  refine ⟨[[.slice a1 t.locs.length n1, .slice a2 t.vals.length n2]], [], ⟨⟨by simp, .inr ⟨W.heap.size, 1, #[.slice a1 t.locs.length n1, .slice a2 t.vals.length n2], rfl, hL, heap_alloc_new W _, Nat.le_refl _, by simp [maxLen], by simp, by simp⟩⟩, by simp⟩, OwnR.nil .., ⟨⟨a1, n1, a2, n2, rfl, r1.frame (below_alloc _ _).size hf, r2.frame (below_alloc _ _).size hf⟩, trivial⟩, trivial, fun b e => ?_, fun b e => by simp [Value.ownBlock] at e⟩
  simp [Value.ownBlock] at e
  subst e
  exact ⟨Ne.symm hO, by simp, by simp [Value.ownBlock]⟩

/-! ### with its variable -/
def GSt (L O : Nat) (x : Option Nat) (vs vn : Value) (g : G2) (W : World) : Prop := GOwn L O x vs vn g W ∧ BoxP W O vs vn ∧ L ≤ O ∧ ∀ b, x = some b → b < W.heap.size
theorem GSt.keep {L O : Nat} {x : Option Nat} {vs vn : Value} {g : G2} {W W' : World} (h : GSt L O x vs vn g W) (hs : W.heap.size ≤ W'.heap.size) (hb : ∀ b, L ≤ b → x ≠ some b → b < W.heap.size → W'.heap[b]? = W.heap[b]?) (hx : x ≠ some O) : GSt L O x vs vn g W' :=
  ⟨h.1.keep hs fun b h1 _ h3 h4 => hb b h1 h3 h4, boxp_keep hs (hb O h.2.2.1 hx h.2.1.1) h.2.1, h.2.2.1, fun b e => Nat.lt_of_lt_of_le (h.2.2.2 b e) hs⟩
theorem GSt.next {L O : Nat} {x : Option Nat} {vs vn : Value} {g : G2} {W W' : World} (h : GSt L O x vs vn g W) (hb : Below W.heap.size W W') : GSt L O x vs vn g W' :=
  ⟨h.1.next hb, boxp_next hb h.2.1, h.2.2.1, fun b e => Nat.lt_of_lt_of_le (h.2.2.2 b e) hb.size⟩
theorem GSt.but {L O R : Nat} {x : Option Nat} {vs vn : Value} {g : G2} {W W' : World} (h : GSt L O x vs vn g W) (hb : But W R W') (hR : R < L) : GSt L O x vs vn g W' :=
  ⟨h.1.keep hb.size fun b h1 _ _ hl => hb.block b hl (by omega), boxp_but hb (by have := h.2.2.1; omega) h.2.1, h.2.2.1, fun b e => Nat.lt_of_lt_of_le (h.2.2.2 b e) hb.size⟩
/-- the other row, kept apart, grows -/
theorem GSt.other {L O : Nat} {v v' vs vn : Value} {l : List Int} {g : G2} {W W' : World} (h : GSt L O v.ownBlock vs vn g W) (hg : W.grownBy W' v.ownBlock) (hv : v'.ownBlock = v.ownBlock ∨ v'.ownBlock = some W.heap.size) (hO : v.ownBlock ≠ some O) (hl : ∀ b, v'.ownBlock = some b → b < W'.heap.size) : GSt L O v'.ownBlock vs vn g W' := by
  have hs := hg.size
  refine ⟨?_, boxp_keep hs (hg.block O h.2.1.1 (fun e => hO e.symm)) h.2.1, h.2.2.1, hl⟩
  obtain ⟨cs, cn, h1, h2, h3, h4, h5, h6⟩ := h.1
  have hx : ∀ b, v.ownBlock ≠ some b → b < W.heap.size → v'.ownBlock ≠ some b := fun b hb hl => by
    rcases hv with hv | hv
    · rw [hv]; exact hb
    · rw [hv]; intro e; simp at e; omega
  have hf : ∀ b, pX L O v.ownBlock vs vn b → b < W.heap.size → pX L O v'.ownBlock vs vn b ∧ W'.heap[b]? = W.heap[b]? := fun b hp hl => ⟨⟨hp.1, hp.2.1, hx b hp.2.2.1 hl, hp.2.2.2⟩, hg.block b hl (fun e => hp.2.2.1 e.symm)⟩
  exact ⟨cs, cn, h1.keep fun g e _ hl => hg.block g hl (fun e' => (h5 g e).2.1 e'.symm), h2.keep fun g e _ hl => hg.block g hl (fun e' => (h6 g e).2 e'.symm), h3.mono fun t c h => h.frame hs hf, h4.mono fun t c h => h.frame hs hf,
    fun b e => ⟨(h5 b e).1, hx b (h5 b e).2.1 (h1.blk b e).2, (h5 b e).2.2⟩, fun b e => ⟨(h6 b e).1, hx b (h6 b e).2 (h2.blk b e).2⟩⟩
theorem GSt.boxed {L O : Nat} {x : Option Nat} {vs vn vs' vn' : Value} {g : G2} {W : World} (h : GOwn L O x vs' vn' g W) (hb : BoxP W O vs vn) (hL : L ≤ O) (hx : ∀ b, x = some b → b < W.heap.size) : (vn' = vn → GSt L O x vs' vn' g (W.setCell ⟨O, 0, none⟩ vs')) ∧ (vs' = vs → GSt L O x vs' vn' g (W.setCell ⟨O, 1, none⟩ vn')) := by
  refine ⟨fun e => ⟨h.keep (by simp) fun b _ h2 _ _ => Below.heap_setCell _ _ _ _ h2, by subst e; exact boxp_set0 hb _, hL, fun b e => by simpa using hx b e⟩, fun e => ⟨h.keep (by simp) fun b _ h2 _ _ => Below.heap_setCell _ _ _ _ h2, by subst e; exact boxp_set1 hb _, hL, fun b e => by simpa using hx b e⟩⟩

/-! ### the appends, at the operation -/
theorem wp_own_st {ops : Array Oper} {rest : List Oper} {o : Oper} {a : Act} {Q : Exit → Act → World → Prop} {w : World} (hgd : o.guard = none) (s y : Operand)
    (ho : o.op = .call { callee := .builtin .append, args := #[s, y], argTypes := #[23, 23] }) (L O : Nat) (x : Option Nat) (vs vn : Value) (sts : List S2) (nx : List (List Int)) (t : S2) (b c : Nat) (a1 a2 : Option Addr) (n1 n2 : Nat) (hs : a.eval s = vs) (hy : a.eval y = .slice (some ⟨b, 0, none⟩) 1 c)
    (h : GOwn L O x vs vn ⟨sts, nx⟩ w) (c0 : w.cell? ⟨b, 0, none⟩ = some (.slice a1 t.locs.length n1)) (c1 : w.cell? ⟨b, 1, none⟩ = some (.slice a2 t.vals.length n2)) (r1 : RN (pX L O x vs vn) w t.locs a1 n1) (r2 : RN (pX L O x vs vn) w t.vals a2 n2)
    (hL : L ≤ w.heap.size) (hO : O < w.heap.size) (hx : ∀ b, x = some b → b < w.heap.size) (hl : sts.length ≤ 1000)
    (k : ∀ v' w', GOwn L O x v' vn ⟨sts ++ [t], nx⟩ w' → w.grownBy w' vs.ownBlock → (v'.ownBlock = vs.ownBlock ∨ v'.ownBlock = some w.heap.size) → wpList Try.prog ops Q rest (a.put o.dst v') w') :
    wpList Try.prog ops Q (o :: rest) a w := by
  obtain ⟨cs, cn, h1, h2, h3, h4, h5, h6⟩ := h
  refine wp_app_st hgd s y ho L vs cs [.slice a1 t.locs.length n1, .slice a2 t.vals.length n2] b c hs hy h1 hL (fun j u hj => ?_) rfl (fun u hu => ?_) (by rw [h3.len]; exact Nat.le_trans hl (by omega)) fun v' w' i1 i2 i3 => k v' w' (GOwn.appS h2 h3 h4 h5 h6 ⟨a1, n1, a2, n2, rfl, r1, r2⟩ i1 i2 i3 hO hx) i2 i3
  · match j, hj with
    | 0, hj => simp at hj; subst hj; exact c0
    | 1, hj => simp at hj; subst hj; exact c1
    | j + 2, hj => simp at hj
  · simp at hu
    rcases hu with rfl | rfl <;> rfl
theorem wp_own_ro {ops : Array Oper} {rest : List Oper} {o : Oper} {a : Act} {Q : Exit → Act → World → Prop} {w : World} (hgd : o.guard = none) (s y : Operand)
    (ho : o.op = .call { callee := .builtin .append, args := #[s, y], argTypes := #[24, 24] }) (L O : Nat) (x : Option Nat) (vs vn : Value) (sts : List S2) (nx : List (List Int)) (t : List Int) (b c : Nat) (a1 : Option Addr) (n1 : Nat) (hs : a.eval s = vn) (hy : a.eval y = .slice (some ⟨b, 0, none⟩) 1 c)
    (h : GOwn L O x vs vn ⟨sts, nx⟩ w) (c0 : w.cell? ⟨b, 0, none⟩ = some (.slice a1 t.length n1)) (r1 : RN (pX L O x vs vn) w t a1 n1)
    (hL : L ≤ w.heap.size) (hO : O < w.heap.size) (hx : ∀ b, x = some b → b < w.heap.size) (hl : nx.length ≤ 1000)
    (k : ∀ v' w', GOwn L O x vs v' ⟨sts, nx ++ [t]⟩ w' → w.grownBy w' vn.ownBlock → (v'.ownBlock = vn.ownBlock ∨ v'.ownBlock = some w.heap.size) → wpList Try.prog ops Q rest (a.put o.dst v') w') :
    wpList Try.prog ops Q (o :: rest) a w := by
  obtain ⟨cs, cn, h1, h2, h3, h4, h5, h6⟩ := h
  refine wp_app_ro hgd s y ho L vn cn [.slice a1 t.length n1] b c hs hy h2 hL (fun j u hj => ?_) rfl (fun u hu => ?_) (by rw [h4.len]; exact Nat.le_trans hl (by omega)) fun v' w' i1 i2 i3 => k v' w' (GOwn.appN h1 h3 h4 h5 h6 ⟨a1, n1, rfl, r1⟩ i1 i2 i3 hO hx) i2 i3
  · match j, hj with
    | 0, hj => simp at hj; subst hj; exact c0
    | j + 1, hj => simp at hj
  · simp at hu
    subst hu; rfl
/-- one state more in the variable -/
theorem wp_push_st {ops : Array Oper} {rest : List Oper} {o : Oper} {a : Act} {Q : Exit → Act → World → Prop} {w : World} (hgd : o.guard = none) (s y : Operand)
    (ho : o.op = .call { callee := .builtin .append, args := #[s, y], argTypes := #[23, 23] }) (L O : Nat) (x : Option Nat) (vs vn : Value) (sts : List S2) (nx : List (List Int)) (t : S2) (b c : Nat) (a1 a2 : Option Addr) (n1 n2 : Nat) (hs : a.eval s = vs) (hy : a.eval y = .slice (some ⟨b, 0, none⟩) 1 c)
    (h : GSt L O x vs vn ⟨sts, nx⟩ w) (c0 : w.cell? ⟨b, 0, none⟩ = some (.slice a1 t.locs.length n1)) (c1 : w.cell? ⟨b, 1, none⟩ = some (.slice a2 t.vals.length n2)) (r1 : RN (pX L O x vs vn) w t.locs a1 n1) (r2 : RN (pX L O x vs vn) w t.vals a2 n2) (hl : sts.length ≤ 1000)
    (k : ∀ v' w', GSt L O x v' vn ⟨sts ++ [t], nx⟩ (w'.setCell ⟨O, 0, none⟩ v') → BoxP w' O vs vn → w.grownBy w' vs.ownBlock → (v'.ownBlock = vs.ownBlock ∨ v'.ownBlock = some w.heap.size) → wpList Try.prog ops Q rest (a.put o.dst v') w') :
    wpList Try.prog ops Q (o :: rest) a w :=
  wp_own_st hgd s y ho L O x vs vn sts nx t b c a1 a2 n1 n2 hs hy h.1 c0 c1 r1 r2 (Nat.le_of_lt (Nat.lt_of_le_of_lt h.2.2.1 h.2.1.1)) h.2.1.1 h.2.2.2 hl fun v' w' i1 i2 i3 => by
    have hO : BoxP w' O vs vn := boxp_keep i2.size (i2.block O h.2.1.1 (fun e => by obtain ⟨cs, cn, _, _, _, _, h5, _⟩ := h.1; exact (h5 O e.symm).1 rfl)) h.2.1
    exact k v' w' ((GSt.boxed i1 hO h.2.2.1 (fun b e => Nat.lt_of_lt_of_le (h.2.2.2 b e) i2.size)).1 rfl) hO i2 i3
/-- one row more in the variable: the row that was kept apart -/
theorem wp_push_ro {ops : Array Oper} {rest : List Oper} {o : Oper} {a : Act} {Q : Exit → Act → World → Prop} {w : World} (hgd : o.guard = none) (s y : Operand)
    (ho : o.op = .call { callee := .builtin .append, args := #[s, y], argTypes := #[24, 24] }) (L O : Nat) (vs vn v : Value) (sts : List S2) (nx : List (List Int)) (t : List Int) (b c : Nat) (hs : a.eval s = vn) (hy : a.eval y = .slice (some ⟨b, 0, none⟩) 1 c)
    (h : GSt L O v.ownBlock vs vn ⟨sts, nx⟩ w) (hv : OwnI L v t w) (hi : ∀ n, n ∈ t → i64 n) (ht : t.length ≤ 1000) (hO : v.ownBlock ≠ some O) (c0 : w.cell? ⟨b, 0, none⟩ = some v) (hl : nx.length ≤ 1000)
    (k : ∀ v' w', GSt L O none vs v' ⟨sts, nx ++ [t]⟩ (w'.setCell ⟨O, 1, none⟩ v') → BoxP w' O vs vn → w.grownBy w' vn.ownBlock → wpList Try.prog ops Q rest (a.put o.dst v') w') :
    wpList Try.prog ops Q (o :: rest) a w := by
  obtain ⟨a1, n1, rfl, e1, e2, e3⟩ := hv.shape
  have hd : (∀ b, vs.ownBlock = some b → (Value.slice a1 t.length n1).ownBlock ≠ some b) ∧ ∀ b, vn.ownBlock = some b → (Value.slice a1 t.length n1).ownBlock ≠ some b := by
    obtain ⟨cs, cn, _, _, _, _, h5, h6⟩ := h.1
    exact ⟨fun b e => (h5 b e).2.1, fun b e => (h6 b e).2⟩
  have hr : RN (pX L O none vs vn) w t a1 n1 := by
    refine ⟨e1, e2, ⟨?_, hi⟩, e3, ht⟩
    rcases hv.row with ⟨h0, _⟩ | ⟨g, c', e, q1, q2, q3, q4⟩
    · first | exact .inl (by rw [h0]; rfl) | exact .inl (by simp [h0])
    · simp at e
      obtain ⟨rfl, _, _⟩ := e
      refine .inr ⟨g, 0, rfl, ⟨(hv.blk g rfl).1, fun e => hO (by rw [← e]; rfl), by simp, fun e => hd.1 g e rfl, fun e => hd.2 g e rfl⟩, q4.1, fun i v hv => ?_⟩
      have hlt : i < t.length := by have := (List.getElem?_eq_some_iff.1 hv).1; simpa using this
      rw [Nat.zero_add, q4.2.1 i hlt]
      show some ((t.map (Value.int .i64)).getD i undef) = _
      rw [List.getD_eq_getElem?_getD, hv]; rfl
  refine wp_own_ro hgd s y ho L O none vs vn sts nx t b c a1 n1 hs hy (h.1.re (Nat.le_refl _) fun b _ h2 _ _ => ⟨h2, by simp⟩) c0 hr (Nat.le_of_lt (Nat.lt_of_le_of_lt h.2.2.1 h.2.1.1)) h.2.1.1 (by simp) hl fun v' w' i1 i2 i3 => ?_
  have hO : BoxP w' O vs vn := boxp_keep i2.size (i2.block O h.2.1.1 (fun e => by obtain ⟨cs, cn, _, _, _, _, _, h6⟩ := h.1; exact (h6 O e.symm).1 rfl)) h.2.1
  exact k v' w' ((GSt.boxed i1 hO h.2.2.1 (by simp)).2 rfl) hO i2
end Gr
end Go.Proofs.Ytfemikebklmlpaa
namespace Go.Proofs.Ytfemikebklmlpaa
open Go.RowKit

namespace Expr

/-! ### toExpr: a copy, in new memory -/

theorem Small_mk {k v : Int} {kids : List Tr} (h : Small (.mk k v kids)) : kids.length ≤ 1048576 ∧ SmallL kids := h

/-- the zero node's cells, n times -/
theorem info : (Try.prog.info? 123).map (fun i => (i.zero, i.size, i.bytes)) = some (some (.agg #[.int .i64 0, .int .i64 0, .slice none 0 0]), 3, 40) := by kernel_rfl
def zeros (n : Nat) : Array Value := madeCells #[.int .i64 0, .int .i64 0, .slice none 0 0] (n * 3)
theorem make_row (n : Nat) (h : n ≤ 1048576) (w : World) : (Instr.makeSlice 121 (.int .i64 (n : Int)) (.int .i64 (n : Int))).run Try.prog w =
    .ok (.slice (some ⟨w.heap.size, 0, none⟩) n n) (w.alloc (.cells (zeros n) 123)) := by
  obtain ⟨i, hi, hz, h1, h2⟩ := info_parts info
  have := run_make (P := Try.prog) w 121 123 i _ Try.underlying121 hi hz .i64 .i64 n n (by omega) (by omega) (by rw [h2]; omega) (by omega)
  rw [this, h1]
  simp [zeros, Value.cells]

/-! ### eqExpr -/

end Expr
end Go.Proofs.Ytfemikebklmlpaa
namespace Go.Proofs.Ytfemikebklmlpaa
open Go.RowKit
namespace Edge

def szE (e : Ed) (left : Int) : Int := if szT e.guard left < 0 then -1 else if szT e.val (szT e.guard left) < 0 then -1 else szT e.val (szT e.guard left)
theorem szE_bd (e : Ed) (left : Int) (h1 : -1 ≤ left) (h2 : left ≤ 1048576) : -1 ≤ szE e left ∧ szE e left ≤ 1048576 := by
  have h3 := szT_bd e.guard left h1 h2
  have h4 := szT_bd e.val (szT e.guard left) h3.1 h3.2
  unfold szE
  split
  · omega
  · split <;> omega
def SmallE (e : Ed) : Prop := Small e.guard ∧ Small e.val
theorem smallE_of_sz (e : Ed) (left : Int) (h1 : -1 ≤ left) (h2 : left ≤ 1048576) (h : 0 ≤ szE e left) : SmallE e := by
  have h3 := szT_bd e.guard left h1 h2
  unfold szE at h
  split at h
  · omega
  · split at h
    · omega
    · exact ⟨small_of_sz _ left h2 (by omega), small_of_sz _ _ h3.2 (by omega)⟩

theorem calls_q {P : Program} {f : FuncId} {args : Array Value} {w : World} {q q' : Bool} (hq : q' = q) (h : Calls P f args w (Ret (.bool q) w)) : Calls P f args w (Ret (.bool q') w) := by rw [hq]; exact h
/-- are two edges equal -/
def eqE (e f : Ed) : Bool := decide (e.src = f.src) && (decide (e.dst = f.dst) && (eqT e.guard f.guard && (decide (e.var = f.var) && (eqT e.val f.val && decide (e.sync = f.sync)))))
theorem eqE_refl (e : Ed) : eqE e e = true := by simp [eqE, eqT_refl]
theorem eqE_true (e f : Ed) : eqE e f = true ↔ e = f := by
  cases e; cases f
  simp [eqE, eqT_true, Bool.and_eq_true]

end Edge
end Go.Proofs.Ytfemikebklmlpaa
namespace Go.Proofs.Ytfemikebklmlpaa
open Go.RowKit

/-- what a copy comes to -/
def NewInts (l : List Int) (B : Nat) (v : Value) (w' : World) : Prop := v = .slice (some ⟨B, 0, none⟩) l.length l.length ∧ Row w' B l.length (fun i => .int .i64 (l.getD i 0))

set_option maxHeartbeats 400000 in
theorem toIntS_any (l : List Int) (w : World) (a : Option Addr) (c : Nat) (h : IntsIn Any w a l) (hlen : l.length ≤ 1048576) (hc : l.length ≤ c) (hc2 : c ≤ maxLen) :
    Calls Try.prog 78 #[.slice a l.length c] w (RetP (NewInts l w.heap.size) w) := by
  have hmk := make_ints l.length hlen
  unfold maxLen at hc2
  go_enter Try.func78, Try.ntmps78
  go_wp2_with fail
  go_loopw [4] (fun i wr => ∃ (k : Nat) (g : Nat → Value), k ≤ l.length ∧ i = .int .i64 k ∧ Below w.heap.size w wr ∧ Row wr w.heap.size l.length g ∧ Hid (∀ j, j < k → g j = .int .i64 (l.getD j 0))) (fun i _ => l.length - (intOf i).toNat)
  case atStart => exact ⟨0, _, Nat.zero_le _, rfl, below_alloc _ _, row_new (by rw [zerosI, size_madeCells]) _, hid (by omega)⟩
  case round =>
    obtain ⟨k, g, hk, rfl, B, hrow, hg⟩ := hrel
    by_cases hlt : k < l.length
    · obtain ⟨b, o, rfl, hb, _, g0, hi⟩ := ints_at h B hlt
      have r0 := hrow.2.1 k hlt
      have rz := hrow.2.2
      have rl := hrow.1
      have hstep := hid (hrow.set hlt (.int .i64 l[k]))
      clear hrow
      unfold i64 at hi
      have hlt2 : (k : Int) < (l.length : Int) := by omega
      go_wp2_with fail
      go_roundw
      case rel =>
        refine ⟨k + 1, _, by omega, by go_num, B.setCell (by simp) _, hstep.out, hid fun j hj => ?_⟩
        by_cases e : j = k
        · subst e; simp [List.getD_eq_getElem?_getD, List.getElem?_eq_getElem hlt]
        · rw [if_neg e]; exact hg.out j (by omega)
      case measure => simp [intOf]; omega
    · have hfin := hid (show Row wr w.heap.size l.length (fun i => .int .i64 (l.getD i 0)) from hrow.congr fun i hi => hg.out i (by omega))
      have hlt2 : ¬ ((k : Int) < (l.length : Int)) := by omega
      clear hrow
      go_wp2_with fail
      go_ret
      exact RetP.mk ⟨rfl, hfin.out⟩ B

/-- a row of numbers, asked number by number -/
theorem ints_drop {l m : List Int} {k : Nat} (hk : k < l.length) (hk' : k < m.length) (h : (l.drop k == m.drop k) = (l == m)) : (l == m) = ((l[k] == m[k]) && (l.drop (k + 1) == m.drop (k + 1))) := by
  rw [← h, List.drop_eq_getElem_cons hk, List.drop_eq_getElem_cons hk']
  rfl

set_option maxHeartbeats 1000000 in
theorem eqIntS_any (l m : List Int) (w : World) (a a' : Option Addr) (c c' : Nat) (hl : IntsIn Any w a l) (hm : IntsIn Any w a' m) (hc : l.length ≤ c) (hc2 : c ≤ maxLen) (hc' : m.length ≤ c') (hc2' : c' ≤ maxLen) :
    Calls Try.prog 16 #[.slice a l.length c, .slice a' m.length c'] w (Ret (.bool (l == m)) w) := by
  unfold maxLen at hc2 hc2'
  by_cases hn : l.length = m.length
  · have hn1 : l.length ≤ m.length := by omega
    have hn2 : m.length ≤ l.length := by omega
    have h3 : ((l.length : Int) != (m.length : Int)) = false := by rw [bne_eq_false_iff_eq]; omega
    clear hn
    go_enter Try.func16, Try.ntmps16
    go_wp2_with fail
    go_loopw [5] (fun i wr => ∃ k : Nat, k ≤ l.length ∧ i = .int .i64 k ∧ Below w.heap.size w wr ∧ Hid ((l.drop k == m.drop k) = (l == m))) (fun i _ => l.length - (intOf i).toNat)
    case atStart => exact ⟨0, Nat.zero_le _, rfl, Below.refl _ _, hid rfl⟩
    case round =>
      obtain ⟨k, hk, rfl, B, hr⟩ := hrel
      by_cases hlt : k < l.length
      · have hltm : k < m.length := by omega
        obtain ⟨b, o, rfl, hb, _, g0, hi⟩ := ints_at hl B hlt
        obtain ⟨b', o', rfl, hb', _, f0, hi'⟩ := ints_at hm B hltm
        have HR := hid (ints_drop hlt hltm hr.out)
        have hlt2 : (k : Int) < (l.length : Int) := by omega
        have hlt3 : (k : Int) < (m.length : Int) := by omega
        generalize l[k] = x at *
        generalize m[k] = y at *
        by_cases hxy : x = y
        · have hne : (x != y) = false := by simpa using hxy
          have HR2 := HR.out
          rw [show (x == y) = true by simpa using hxy, Bool.true_and] at HR2
          have HR3 := hid HR2; clear HR2 hxy
          go_wp2_with fail
          refine wp_region_over (by kernel_rfl) (by kernel_rfl) ?_; (repeat (go_big_quiet_step ((fail)))); refine wpQuiet_nil ?_; rintro _ ⟨xq, rfl⟩
          have B2 := below_next B (over_below wr xq)
          go_wp2_with fail
          go_roundw
          case rel => exact ⟨k + 1, by omega, by go_num, B2, hid HR3.out.symm⟩
          case measure => simp [intOf]; omega
        · have hne : (x != y) = true := by simpa using hxy
          have HR2 := HR.out
          rw [show (x == y) = false by simpa using hxy, Bool.false_and] at HR2
          have HR3 := hid HR2; clear HR2 hxy
          go_wp2_with fail
          refine wp_region_over (by kernel_rfl) (by kernel_rfl) ?_; (repeat (go_big_quiet_step ((fail)))); refine wpQuiet_nil ?_; rintro _ ⟨xq, rfl⟩
          have B2 := below_next B (over_below wr xq)
          go_wp2_with fail
          go_ret
          exact Ret.mk (bool_val HR3.out.symm) B2
      · have HR2 := hr.out
        rw [List.drop_of_length_le (by omega), List.drop_of_length_le (by omega)] at HR2
        have HR := hid HR2; clear HR2
        have hlt2 : ¬ ((k : Int) < (l.length : Int)) := by omega
        go_wp2_with fail
        go_ret
        exact Ret.mk (bool_val HR.out) B
  · have h3 : ((l.length : Int) != (m.length : Int)) = true := by rw [bne_iff_ne]; omega
    have E := hid (show (l == m) = false by rw [beq_eq_false_iff_ne]; intro h; exact hn (by rw [h]))
    clear hn
    go_enter Try.func16, Try.ntmps16
    go_wp2_with fail
    go_ret
    exact Ret.mk (bool_val E.out.symm) (Below.refl _ _)

end Go.Proofs.Ytfemikebklmlpaa
namespace Go.Proofs.Ytfemikebklmlpaa
mutual
theorem szT_eq : ∀ (t : Tr) (left : Int), 0 ≤ szT t left → szT t left = left - nodesL t.kids
  | .mk k v kids, left, h => by
    simp only [szT, Tr.kids] at h ⊢
    split at h
    · omega
    · rename_i hn
      rw [if_neg hn]
      have := szL_eq kids (left - kids.length) (by omega)
      omega
theorem szL_eq : ∀ (l : List Tr) (left : Int), 0 ≤ szL l left → szL l left = left + l.length - nodesL l
  | [], left, h => by
    simp only [szL, nodesL] at h ⊢
    split at h
    · omega
    · rename_i hn; rw [if_neg hn]; simp
  | t :: ts, left, h => by
    simp only [szL, nodesL] at h ⊢
    split at h
    · omega
    · rename_i hn
      rw [if_neg hn]
      by_cases h0 : szT t left < 0
      · rw [szL_neg _ _ h0] at h; omega
      · have h1 := szL_eq ts _ h
        have h2 := szT_eq t left (by omega)
        have h3 : nodes t = 1 + nodesL t.kids := by cases t; simp [nodes, Tr.kids]
        rw [h1, h2, h3]
        simp only [List.length_cons]
        omega
end
theorem nodesL_kids (t : Tr) : nodes t = 1 + nodesL t.kids := by cases t; simp [nodes, Tr.kids]
end Go.Proofs.Ytfemikebklmlpaa
