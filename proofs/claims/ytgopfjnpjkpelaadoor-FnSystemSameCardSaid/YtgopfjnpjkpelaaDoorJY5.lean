/- Joined texts (Draw, DrawsPlain, ExprRandom, ExprSpecVB, ImplIn, ExprImplC, ExprImplV, ExprImplN, SubstX): contracts and plain laws. Conditions: those of each theorem. -/
import Derived.Test.YtgopfjnpjkpelaaDoorRows
import Derived.Test.YtgopfjnpjkpelaaDoorJY0
import Derived.Test.YtgopfjnpjkpelaaDoorJY1
import Derived.Test.YtgopfjnpjkpelaaDoorJY3
import Derived.Test.YtgopfjnpjkpelaaDoorJY4
import Derived.WalkSpells
import Derived.WalkLawsBesides
import Derived.Deep.DeepCutAuto
import Derived.Deep.CutBlock
set_option linter.unusedVariables false
set_option linter.unusedSimpArgs false
namespace Go.Proofs.YtgopfjnpjkpelaaDoor
open Go.RowKit

/-- the bytes of a slice, in a block below B -/
def BytesIn (B D : Nat) (w : World) (a : Option Addr) (len : Nat) : Prop := len = 0 ∨ ∃ (b o : Nat) (f : Nat → Int), a = some ⟨b, o, none⟩ ∧ b < B ∧ b ≠ D ∧ ∀ i, i < len → w.cell? ⟨b, o + i, none⟩ = some (.int .u8 (f i)) ∧ 0 ≤ f i ∧ f i ≤ 255
theorem BytesIn.butx {B D : Nat} {w w' : World} (h : ButX B D w w') {a : Option Addr} {len : Nat} (hb : BytesIn B D w a len) : BytesIn B D w' a len := by
  rcases hb with hb | ⟨b, o, f, rfl, hl, hd, hf⟩
  · exact .inl hb
  · exact .inr ⟨b, o, f, rfl, hl, hd, fun i hi => ⟨by rw [h.cell hl hd]; exact (hf i hi).1, (hf i hi).2⟩⟩

/-- block R is a random source that has been asked p times; it lies in blocks below B -/
def Rd (B : Nat) (w : World) (R : Nat) (p : Nat) : Prop := ∃ a len cap, len ≤ 2000 ∧ len ≤ cap ∧ cap ≤ maxLen ∧ (R < B ∧ B ≤ w.heap.size) ∧ w.cell? ⟨R, 0, none⟩ = some (.slice a len cap) ∧ w.cell? ⟨R, 1, none⟩ = some (.int .i64 p) ∧
  w.frozen? ⟨R, 0, none⟩ = false ∧ w.frozen? ⟨R, 1, none⟩ = false ∧ BytesIn B R w a len

theorem Rd.keep {B : Nat} {w w' : World} {R p : Nat} (hr : Rd B w R p) (hs : w.heap.size ≤ w'.heap.size) (h : ∀ b, b < B → w'.heap[b]? = w.heap[b]?) : Rd B w' R p := by
  obtain ⟨a, len, cap, h1, h2, h3, h4, h5, h6, h7, h8, h9⟩ := hr
  have hR := h R h4.1
  refine ⟨a, len, cap, h1, h2, h3, ⟨h4.1, by omega⟩, by rw [World.cell?_of_block (w := w) (a := ⟨R, 0, none⟩) hR]; exact h5, by rw [World.cell?_of_block (w := w) (a := ⟨R, 1, none⟩) hR]; exact h6, by rw [World.frozen?_of_block (w := w) (a := ⟨R, 0, none⟩) hR]; exact h7,
    by rw [World.frozen?_of_block (w := w) (a := ⟨R, 1, none⟩) hR]; exact h8, ?_⟩
  rcases h9 with h9 | ⟨b, o, f, rfl, hl, hd, hf⟩
  · exact .inl h9
  · exact .inr ⟨b, o, f, rfl, hl, hd, fun i hi => ⟨by rw [World.cell?_of_block (w := w) (a := ⟨b, o + i, none⟩) (h b hl)]; exact (hf i hi).1, (hf i hi).2⟩⟩
theorem Rd.lt {B : Nat} {w : World} {R p : Nat} (hr : Rd B w R p) : R < B ∧ B ≤ w.heap.size := by
  obtain ⟨a, len, cap, h1, h2, h3, h4, _⟩ := hr; exact h4
theorem Rd.next {B : Nat} {w w' : World} {R p : Nat} (h : Below w.heap.size w w') (hr : Rd B w R p) : Rd B w' R p := hr.keep h.size fun b hb => h.block b (Nat.lt_of_lt_of_le hb hr.lt.2)
theorem Rd.grown {B : Nat} {w w' : World} {R p : Nat} {row : Option Nat} (hr : Rd B w R p) (hg : w.grownBy w' row) (h : ∀ k, row = some k → B ≤ k) : Rd B w' R p :=
  hr.keep hg.size fun b hb => hg.block b (Nat.lt_of_lt_of_le hb hr.lt.2) (fun e => by have := h b e.symm; omega)
theorem Rd.set {B : Nat} {w : World} {R p : Nat} (hr : Rd B w R p) {a : Addr} (ha : B ≤ a.block) (v : Value) : Rd B (w.setCell a v) R p :=
  hr.keep (by simp) fun b hb => Below.heap_setCell _ _ _ _ (by omega)

/-- of two small numbers that are not negative, the exclusive or is none either -/
theorem xor_nonneg {a b : Int} (ha : 0 ≤ a) (ha2 : a < 4611686018427387904) (hb : 0 ≤ b) (hb2 : b < 4611686018427387904) : 0 ≤ bits .xor .i64 a b := by
  obtain ⟨a, rfl⟩ := Int.eq_ofNat_of_zero_le ha
  obtain ⟨b, rfl⟩ := Int.eq_ofNat_of_zero_le hb
  have hx : a ^^^ b < 2 ^ 62 := Nat.xor_lt_two_pow (by omega) (by omega)
  have h1 : (BitVec.ofInt 64 (a : Int)).toNat = a := by
    rw [BitVec.ofInt_natCast, BitVec.toNat_ofNat]; exact Nat.mod_eq_of_lt (by omega)
  have h2 : (BitVec.ofInt 64 (b : Int)).toNat = b := by
    rw [BitVec.ofInt_natCast, BitVec.toNat_ofNat]; exact Nat.mod_eq_of_lt (by omega)
  have : bits .xor .i64 (a : Int) (b : Int) = ((a ^^^ b : Nat) : Int) := by
    show IntKind.i64.wrap ((BitVec.ofInt 64 (a : Int) ^^^ BitVec.ofInt 64 (b : Int)).toNat : Int) = _
    rw [BitVec.toNat_xor, h1, h2]
    exact IntWalk.i64_in _ (by omega)
  rw [this]
  omega

/-- what a call of pick comes to -/
def PickPost (B : Nat) (n : Int) (R p : Nat) (w : World) (e : Ending) (w' : World) : Prop :=
  ∃ i : Int, e = .returned (.int .i64 i) ∧ (0 ≤ i ∧ (1 ≤ n → i < n) ∧ (n < 1 → i = 0)) ∧ But w R w' ∧ Rd B w' R (p + 1)

set_option maxRecDepth 100000 in
set_option maxHeartbeats 2000000 in
theorem pick_any (B : Nat) (n : Int) (w : World) (R p : Nat) (hr : Rd B w R p) (hp : p ≤ 1000000) (hn : n ≤ 1000000) (hn0 : -1000000 ≤ n) : Calls Tryd.prog 10 #[.pointer (some ⟨R, 0, none⟩), .int .i64 n] w (PickPost B n R p w) := by
  obtain ⟨a, len, cap, h1, h2, h3, h4, h5, h6, h7, h8, h9⟩ := hr
  have hset : ∀ nq, But w R ((w.setCell ⟨R, 1, none⟩ (.int .i64 ((p : Int) + 1))).drewN nq) ∧ Rd B ((w.setCell ⟨R, 1, none⟩ (.int .i64 ((p : Int) + 1))).drewN nq) R (p + 1) := fun nq => by
    have hb : But w R ((w.setCell ⟨R, 1, none⟩ (.int .i64 ((p : Int) + 1))).drewN nq) := (But.set w R 1 _).drewN nq
    refine ⟨hb, a, len, cap, h1, h2, h3, by simpa using h4, ?_, ?_, by simpa using h7, by simpa using h8, h9.butx (ButX.but hb h4.2)⟩
    · rw [World.cell?_drewN, World.cell?_setCell_other _ _ _ _ (by simp)]; exact h5
    · rw [World.cell?_drewN]; exact World.cell?_setCell_same _ _ _ h6
  have HS := hid hset; clear hset
  by_cases c1 : n < 1
  · go_enter Tryd.func10, Tryd.ntmps10
    go_wp2_with fail
    go_ret
    exact ⟨0, rfl, ⟨by omega, by omega, fun _ => rfl⟩, HS.out 0⟩
  rcases h9 with rfl | ⟨b, o, f, rfl, hl, hd, hf⟩
  · go_enter Tryd.func10, Tryd.ntmps10
    go_wp2_with fail
    go_ret
    exact ⟨0, rfl, ⟨by omega, by omega, fun _ => rfl⟩, HS.out 0⟩
  by_cases c0 : len = 0
  · subst c0
    go_enter Tryd.func10, Tryd.ntmps10
    go_wp2_with fail
    go_ret
    exact ⟨0, rfl, ⟨by omega, by omega, fun _ => rfl⟩, HS.out 0⟩
  have e0 : ((len : Int) == 0) = false := by rw [beq_eq_false_iff_ne]; omega
  have hdd : R ≠ b := Ne.symm hd
  by_cases c2 : p < len
  · have g := hf p c2
    obtain ⟨g1, g2, g3⟩ := g
    have g4 : (w.setCell ⟨R, 1, none⟩ (.int .i64 ((p : Int) + 1))).cell? ⟨b, o + p, none⟩ = some (.int .u8 (f p)) := by
      rw [World.cell?_setCell_other _ _ _ _ (by intro h; exact hdd (congrArg Addr.block h))]; exact g1
    clear hf
    go_enter Tryd.func10, Tryd.ntmps10
    go_wp2_with fail
    go_ret
    exact ⟨_, rfl, ⟨Int.emod_nonneg _ (by omega), fun _ => Int.emod_lt_of_pos _ (by omega), by omega⟩, HS.out 0⟩
  · have m1 : p % len < len := Nat.mod_lt _ (by omega)
    have m2 : (p * 7 + 3) % len < len := Nat.mod_lt _ (by omega)
    have m3 : p / len ≤ p := Nat.div_le_self _ _
    obtain ⟨g1, g2, g3⟩ := hf _ m1
    obtain ⟨k1, k2, k3⟩ := hf _ m2
    have g4 : (w.setCell ⟨R, 1, none⟩ (.int .i64 ((p : Int) + 1))).cell? ⟨b, o + p % len, none⟩ = some (.int .u8 (f (p % len))) := by
      rw [World.cell?_setCell_other _ _ _ _ (by intro h; exact hdd (congrArg Addr.block h))]; exact g1
    have k4 : (w.setCell ⟨R, 1, none⟩ (.int .i64 ((p : Int) + 1))).cell? ⟨b, o + (p * 7 + 3) % len, none⟩ = some (.int .u8 (f ((p * 7 + 3) % len))) := by
      rw [World.cell?_setCell_other _ _ _ _ (by intro h; exact hdd (congrArg Addr.block h))]; exact k1
    have z0 : (0 : Int) < (len : Int) := by omega
    clear hf
    go_enter Tryd.func10, Tryd.ntmps10
    go_wp2_with fail
    have d1 : (p : Int) / (len : Int) ≤ 1000000 := by have := Int.ediv_le_self (a := (p : Int)) (len : Int) (by omega); omega
    have d0 : 0 ≤ (p : Int) / (len : Int) := Int.ediv_nonneg (by omega) (by omega)
    have i1 : 0 ≤ ((p : Int) * 7 + 3) % (len : Int) := Int.emod_nonneg _ (by omega)
    have i2 : ((p : Int) * 7 + 3) % (len : Int) < (len : Int) := Int.emod_lt_of_pos _ (by omega)
    have j1 : 0 ≤ (p : Int) % (len : Int) := Int.emod_nonneg _ (by omega)
    have j2 : (p : Int) % (len : Int) < (len : Int) := Int.emod_lt_of_pos _ (by omega)
    generalize f (p % len) = u at *
    generalize f ((p * 7 + 3) % len) = v at *
    generalize hq : (p : Int) / (len : Int) = q at *
    have T3 : Int.tdiv (p : Int) (len : Int) = q := by rw [Int.tdiv_eq_ediv_of_nonneg (by omega)]; exact hq
    have T1 : Int.tmod (p : Int) (len : Int) = (p : Int) % (len : Int) := Int.tmod_eq_emod_of_nonneg (by omega)
    have T2 : Int.tmod ((p : Int) * 7 + 3) (len : Int) = ((p : Int) * 7 + 3) % (len : Int) := Int.tmod_eq_emod_of_nonneg (by omega)
    have W1 : IntKind.i64.wrap ((p : Int) * 7) = (p : Int) * 7 := IntWalk.i64_in _ (by omega)
    have W2 : IntKind.i64.wrap ((p : Int) * 7 + 3) = (p : Int) * 7 + 3 := IntWalk.i64_in _ (by omega)
    have W3 : IntKind.i64.wrap (u * 131) = u * 131 := IntWalk.i64_in _ (by omega)
    have W4 : IntKind.i64.wrap (v * 1117) = v * 1117 := IntWalk.i64_in _ (by omega)
    have W5 : IntKind.i64.wrap (u * 131 + v * 1117) = u * 131 + v * 1117 := IntWalk.i64_in _ (by omega)
    have W6 : IntKind.i64.wrap ((p : Int) * 29) = (p : Int) * 29 := IntWalk.i64_in _ (by omega)
    have W7 : IntKind.i64.wrap (u * 131 + v * 1117 + (p : Int) * 29) = u * 131 + v * 1117 + (p : Int) * 29 := IntWalk.i64_in _ (by omega)
    have W8 : IntKind.i64.wrap (q * 53) = q * 53 := IntWalk.i64_in _ (by omega)
    have W9 : IntKind.i64.wrap (u * 131 + v * 1117 + (p : Int) * 29 + q * 53) = u * 131 + v * 1117 + (p : Int) * 29 + q * 53 := IntWalk.i64_in _ (by omega)
    refine wp_region_quiet_lit (by kernel_rfl) (by kernel_rfl) ?_
    repeat (go_big_quiet_step (fail))
    refine wpQuiet_nil ?_
    intro _ hw'
    obtain ⟨nq, hw''⟩ := hw'
    subst hw''
    clear W1 W2 W3 W4 W5 W6 W7 W8 W9 T1 T2 T3
    go_wp2_with fail
    go_ret
    have hx : 0 ≤ u * 131 + v * 1117 + (p : Int) * 29 + q * 53 := by omega
    have hy : u * 131 + v * 1117 + (p : Int) * 29 + q * 53 < 1000000000 := by omega
    have hxor := xor_nonneg (a := u * 131 + v * 1117 + (p : Int) * 29 + q * 53) (b := (u * 131 + v * 1117 + (p : Int) * 29 + q * 53) / 64) hx (by omega) (by omega) (by omega)
    refine ⟨_, rfl, ⟨?_, fun _ => ?_, fun h => by omega⟩, HS.out _⟩
    · rw [Int.tmod_eq_emod_of_nonneg hxor]; exact Int.emod_nonneg _ (by omega)
    · rw [Int.tmod_eq_emod_of_nonneg hxor]; exact Int.emod_lt_of_pos _ (by omega)

/-- what a call of num comes to, of a list whose numbers are all between lo and hi -/
def NumPost (B : Nat) (lo hi : Int) (R p : Nat) (w : World) (e : Ending) (w' : World) : Prop :=
  ∃ i : Int, e = .returned (.int .i64 i) ∧ (lo ≤ i ∧ i ≤ hi) ∧ But w R w' ∧ Rd B w' R (p + 1)

set_option maxHeartbeats 400000 in
theorem num_any (B0 : Nat) (lo hi : Int) (w : World) (R p : Nat) (B len : Nat) (g : Nat → Int) (hr : Rd B0 w R p) (hp : p ≤ 1000000) (h0 : 0 < len) (hl : len ≤ 100) (hB : B ≠ R) (hB2 : B < w.heap.size) (hc : ∀ i, i < len → w.cell? ⟨B, i, none⟩ = some (.int .i64 (g i)) ∧ lo ≤ g i ∧ g i ≤ hi) :
    Calls Tryd.prog 24 #[.pointer (some ⟨R, 0, none⟩), .slice (some ⟨B, 0, none⟩) len len] w (NumPost B0 lo hi R p w) := by
  go_enter Tryd.func24, Tryd.ntmps24
  go_wp2_with fail
  refine (pick_any _ _ _ R p hr hp (by omega) (by omega)).mono ?_
  rintro e w1 ⟨i, rfl, ⟨i0, i1, _⟩, hbut, hrd⟩
  obtain ⟨k, rfl⟩ := Int.eq_ofNat_of_zero_le i0
  have hk : k < len := by have := i1 (by omega); omega
  have hk2 : (k : Int) < (len : Int) := by omega
  obtain ⟨c1, c2, c3⟩ := hc k hk
  rw [← hbut.cell hB2 hB] at c1
  clear hc i1
  go_wp2_with fail
  go_ret
  exact ⟨_, rfl, ⟨c2, c3⟩, hbut, hrd⟩

/-- .. of a list of some numbers, just made -/
theorem num_new (ns : List Int) (lo hi : Int) (hn : ∀ n ∈ ns, lo ≤ n ∧ n ≤ hi) (h0 : 0 < ns.length) (h1 : ns.length ≤ 100) (B0 : Nat) (w : World) (t : TypeId) (R p : Nat) (hr : Rd B0 w R p) (hp : p ≤ 1000000) :
    Calls Tryd.prog 24 #[.pointer (some ⟨R, 0, none⟩), .slice (some ⟨w.heap.size, 0, none⟩) ns.length ns.length] (w.alloc (.cells (ns.map (Value.int .i64)).toArray t)) (NumPost B0 lo hi R p (w.alloc (.cells (ns.map (Value.int .i64)).toArray t))) := by
  have hl := hr.lt
  refine num_any B0 lo hi _ R p w.heap.size ns.length (fun i => ns.getD i 0) (hr.next (below_alloc _ _)) hp h0 h1 (by omega) (by simp) fun i hi => ?_
  rw [World.cell?_alloc_new]
  have e : ns[i]? = some (ns.getD i 0) := by rw [List.getD_eq_getElem?_getD, List.getElem?_eq_getElem hi]; rfl
  refine ⟨?_, hn _ (List.mem_of_getElem? e)⟩
  rw [List.getElem?_toArray, List.getElem?_map, e]
  rfl

theorem num_at (ns : List Int) (lo hi : Int) (hn : ∀ n ∈ ns, lo ≤ n ∧ n ≤ hi) (h0 : 0 < ns.length) (h1 : ns.length ≤ 100) (B0 : Nat) (w : World) (t : TypeId) (b R p : Nat) (hb : b = w.heap.size) (hr : Rd B0 w R p) (hp : p ≤ 1000000) :
    Calls Tryd.prog 24 #[.pointer (some ⟨R, 0, none⟩), .slice (some ⟨b, 0, none⟩) ns.length ns.length] (w.alloc (.cells (ns.map (Value.int .i64)).toArray t)) (NumPost B0 lo hi R p (w.alloc (.cells (ns.map (Value.int .i64)).toArray t))) := by
  subst hb; exact num_new ns lo hi hn h0 h1 B0 w t R p hr hp

/-- the bytes of an argument -/
def ByteArg (w : World) (a : Option Addr) (len cap : Nat) : Prop := len ≤ cap ∧ cap ≤ maxLen ∧ (len = 0 ∨ ∃ (b o : Nat) (f : Nat → Int), a = some ⟨b, o, none⟩ ∧ b < w.heap.size ∧ ∀ i, i < len → w.cell? ⟨b, o + i, none⟩ = some (.int .u8 (f i)) ∧ 0 ≤ f i ∧ f i ≤ 255)
theorem ByteArg.next {w w' : World} (h : Below w.heap.size w w') {a : Option Addr} {len cap : Nat} (hb : ByteArg w a len cap) : ByteArg w' a len cap := by
  obtain ⟨h1, h2, hb⟩ := hb
  refine ⟨h1, h2, ?_⟩
  rcases hb with hb | ⟨b, o, f, rfl, hl, hf⟩
  · exact .inl hb
  · exact .inr ⟨b, o, f, rfl, Nat.lt_of_lt_of_le hl h.size, fun i hi => ⟨by rw [h.cell (p := ⟨b, o + i, none⟩) hl]; exact (hf i hi).1, (hf i hi).2⟩⟩
theorem ByteArg.new {w : World} {a : Option Addr} {len cap m : Nat} (hb : ByteArg w a len cap) (hm : m ≤ len) (hm2 : m ≤ 2000) (t : TypeId) : Rd (w.heap.size + 1) (w.alloc (.cells #[.slice a m cap, .int .i64 0] t)) w.heap.size 0 := by
  obtain ⟨h1, h2, hb⟩ := hb
  refine ⟨a, m, cap, hm2, by omega, h2, by simp, by simp, by simp, by simp, by simp, ?_⟩
  rcases hb with hb | ⟨b, o, f, rfl, hl, hf⟩
  · exact .inl (by omega)
  · exact .inr ⟨b, o, f, rfl, by omega, by omega, fun i hi => ⟨by rw [World.cell?_alloc_lt (h := by exact hl)]; exact (hf i (by omega)).1, (hf i (by omega)).2⟩⟩

set_option maxHeartbeats 400000 in
theorem open_any (w : World) (a : Option Addr) (len cap : Nat) (hb : ByteArg w a len cap) : Calls Tryd.prog 8 #[.slice a len cap] w (RetP (fun v w' => ∃ R B, v = .pointer (some ⟨R, 0, none⟩) ∧ w.heap.size ≤ R ∧ Rd B w' R 0) w) := by
  have hcap := hb.1
  have hcap2 := hb.2.1
  unfold maxLen at hcap2
  by_cases h : 2000 < len
  · have h1 : 2000 ≤ cap := by omega
    have hR := hid (hb.new (m := 2000) (by omega) (by omega) 56)
    go_enter Tryd.func8, Tryd.ntmps8
    go_wp2_with fail
    go_ret
    exact RetP.mk ⟨_, _, rfl, Nat.le_refl _, hR.out⟩ (below_alloc _ _)
  · have hR := hid (hb.new (m := len) (by omega) (by omega) 56)
    go_enter Tryd.func8, Tryd.ntmps8
    go_wp2_with fail
    go_ret
    exact RetP.mk ⟨_, _, rfl, Nat.le_refl _, hR.out⟩ (below_alloc _ _)

end Go.Proofs.YtgopfjnpjkpelaaDoor
namespace Go.Proofs.YtgopfjnpjkpelaaDoor
open Go.RowKit

/-- what a drawing call comes to: a new tree of at most M nodes; at most K picks -/
def DrawPost (B K : Nat) (M : Int) (R p : Nat) (w : World) (e : Ending) (w' : World) : Prop :=
  ∃ v t p', e = .returned v ∧ NewTr w.heap.size t v w' ∧ nodes t ≤ M ∧ But w R w' ∧ Rd B w' R p' ∧ p' ≤ p + K

theorem DrawPost.ret {B K : Nat} {M : Int} {R p p' N : Nat} {w W : World} {t : Tr} {x : Value} (hn : NewTr N t x W) (hN : w.heap.size < N) (hM : nodes t ≤ M) (hb : But w R W) (hr : Rd B W R p') (hp : p' ≤ p + K) (hB : B ≤ w.heap.size) (u0 u1 u2 : Value) :
    DrawPost B K M R p w (.returned x) (((W.setCell ⟨w.heap.size, 0, none⟩ u0).setCell ⟨w.heap.size, 1, none⟩ u1).setCell ⟨w.heap.size, 2, none⟩ u2) :=
  ⟨x, t, p', rfl, (hn.keep (((Keep.set _ hN _).trans (Keep.set _ hN _)).trans (Keep.set _ hN _))).mono (Nat.le_of_lt hN), hM, But.setNew (But.setNew (But.setNew hb (Nat.le_refl _) _) (Nat.le_refl _) _) (Nat.le_refl _) _,
    ((hr.set hB _).set hB _).set hB _, hp⟩

theorem nodesL_snoc : ∀ (l : List Tr) (t : Tr), nodesL (l ++ [t]) = nodesL l + nodes t
  | [], t => by simp [nodesL]
  | u :: us, t => by rw [List.cons_append]; simp only [nodesL]; rw [nodesL_snoc us t]; omega

theorem DrawPost.at {B K : Nat} {M : Int} {R p p' N b : Nat} {w W : World} {t : Tr} {x : Value} (hn : NewTr N t x W) (hN : b < N) (hbw : w.heap.size ≤ b) (hM : nodes t ≤ M) (hb : But w R W) (hr : Rd B W R p') (hp : p' ≤ p + K) (hB : B ≤ w.heap.size) (u0 u1 u2 : Value) :
    DrawPost B K M R p w (.returned x) (((W.setCell ⟨b, 0, none⟩ u0).setCell ⟨b, 1, none⟩ u1).setCell ⟨b, 2, none⟩ u2) :=
  ⟨x, t, p', rfl, (hn.keep (((Keep.set _ hN _).trans (Keep.set _ hN _)).trans (Keep.set _ hN _))).mono (by omega), hM, But.setNew (But.setNew (But.setNew hb hbw _) hbw _) hbw _,
    ((hr.set (Nat.le_trans hB hbw) _).set (Nat.le_trans hB hbw) _).set (Nat.le_trans hB hbw) _, hp⟩
theorem nodes_kids (t : Tr) : nodes t = 1 + nodesL t.kids := by cases t; rfl
mutual
theorem small_nodes : ∀ t : Tr, nodes t ≤ 1048576 → Small t
  | .mk _ _ kids, h => by
    simp only [nodes] at h
    have hl := len_nodes kids
    exact ⟨by omega, smallL_nodes kids (by omega)⟩
theorem smallL_nodes : ∀ l : List Tr, nodesL l ≤ 1048576 → SmallL l
  | [], _ => trivial
  | t :: ts, h => by
    simp only [nodesL] at h
    have h1 := nodesL_pos ts
    have h2 := nodes_pos t
    exact ⟨small_nodes t (by omega), smallL_nodes ts (by omega)⟩
theorem len_nodes : ∀ l : List Tr, (l.length : Int) ≤ nodesL l
  | [] => by simp [nodesL]
  | t :: ts => by
    simp only [nodesL, List.length_cons]
    have h1 := len_nodes ts
    have h2 := nodes_pos t
    omega
end

end Go.Proofs.YtgopfjnpjkpelaaDoor
namespace Go.Proofs.YtgopfjnpjkpelaaDoor
open Go.RowKit
namespace Expr

def RandT (d : Nat) (K : Nat) (M : Int) : Prop := ∀ (w : World) (R B p : Nat), Rd B w R p → p + K ≤ 1000000 → Calls Tryd.prog 40 #[.pointer (some ⟨R, 0, none⟩), .int .i64 d] w (DrawPost B K M R p w)

set_option maxRecDepth 100000 in
set_option maxHeartbeats 1000000 in
theorem rand1 : RandT 1 3 1 := by
  intro w R B p hr hp
  have hB := hr.lt
  go_enter Tryd.func40, Tryd.ntmps40
  go_wp2_with fail
  refine (pick_any B _ _ R p (hr.next (below_alloc _ _)) (by omega) (by omega) (by omega)).mono ?_
  rintro e w1 ⟨i, rfl, _, hb1, hr1⟩
  have c4 := box3_butx (ButX.but (B := w.heap.size + 1) hb1 (by simp)) (by omega) (by omega) (box3_new w (.int .i64 0) (.int .i64 0) (.slice none 0 0) 45)
  have c4l : w.heap.size < w1.heap.size := c4.1
  have B1 : But w R w1 := (But.of (below_alloc w _)).trans hb1
  clear hb1
  by_cases hi : i = 0
  · subst hi
    go_wp2_with fail
    refine (pick_any B _ _ R (p + 1) hr1 (by omega) (by omega) (by omega)).mono ?_
    rintro e w2 ⟨n, rfl, ⟨hn1, hn2, _⟩, hb2, hr2⟩
    have hn3 := hn2 (by omega)
    have c4 := box3_but hb2 (by omega) c4
    have B2 := B1.trans hb2
    have hf := hid (fun u0 u1 u2 => DrawPost.ret (w := w) (K := 3) (M := 1) (leaf_new (w.heap.size + 1) w2 (k := 1) (v := n) (by unfold i64; omega) (by unfold i64; omega)) (by omega) (by simp [nodes, nodesL]) B2 hr2 (p := p) (by omega) hB.2 u0 u1 u2)
    clear hr2 B2 hb2 hr1 B1
    go_wp2_with fail
    refine bodyPost_ret (v := .agg #[.int .i64 1, .int .i64 n, .slice none 0 0]) (by simp [results, Tryd.results40, go_sem, c4]) rfl ?_
    exact hf.out _ _ _
  · have hi2 : (i == 0) = false := by simpa using hi
    go_wp2_with fail
    refine (num_new [0, 1, 0, 2] 0 2 (by simp) (by decide) (by decide) B w1 _ R (p + 1) hr1 (by omega)).mono ?_
    rintro e w2 ⟨n, rfl, ⟨hn1, hn2⟩, hb2, hr2⟩
    have c4 := box3_but hb2 (by omega) (box3_next (below_alloc _ _) c4)
    have B2 := (B1.next (below_alloc _ _)).trans hb2
    have hf := hid (fun u0 u1 u2 => DrawPost.ret (w := w) (K := 3) (M := 1) (leaf_new (w.heap.size + 1) w2 (k := 2) (v := n) (by unfold i64; omega) (by unfold i64; omega)) (by omega) (by simp [nodes, nodesL]) B2 hr2 (p := p) (by omega) hB.2 u0 u1 u2)
    clear hr2 B2 hb2 hr1 B1
    go_wp2_with fail
    refine bodyPost_ret (v := .agg #[.int .i64 2, .int .i64 n, .slice none 0 0]) (by simp [results, Tryd.results40, go_sem, c4]) rfl ?_
    exact hf.out _ _ _

set_option maxRecDepth 100000 in
set_option maxHeartbeats 4000000 in
theorem randS (d K : Nat) (M : Int) (h : RandT d K M) (hM : 1 ≤ M) (hd : 1 ≤ d) (hd3 : d ≤ 10) : RandT (d + 1) (2 * K + 3) (2 * M + 1) := by
  intro w R B p hr hp
  have hB := hr.lt
  have hd2 : ¬ (((d + 1 : Nat) : Int) < 2) := by omega
  go_enter Tryd.func40, Tryd.ntmps40
  go_wp2_with fail
  refine (pick_any B _ _ R p (hr.next (below_alloc _ _)) (by omega) (by omega) (by omega)).mono ?_
  rintro e w1 ⟨i, rfl, _, hb1, hr1⟩
  have c4 := box3_butx ((ButX.but (B := w.heap.size + 1) hb1 (by simp))) (by omega) (by omega) (box3_new w (.int .i64 0) (.int .i64 0) (.slice none 0 0) 45)
  have c4l : w.heap.size < w1.heap.size := c4.1
  have B1 : But w R w1 := (But.of (below_alloc w _)).trans hb1
  clear hb1
  by_cases hi : i = 0
  · subst hi
    go_wp2_with fail
    refine (pick_any B _ _ R (p + 1) hr1 (by omega) (by omega) (by omega)).mono ?_
    rintro e w1' ⟨i', rfl, _, hb1, hr2'⟩
    replace c4 := box3_but hb1 (by omega) c4
    have c4l' : w.heap.size < w1'.heap.size := c4.1
    have B1' : But w R w1' := B1.trans hb1
    clear hb1 hr1 B1
    by_cases hi' : i' = 0
    · subst hi'
      go_wp2_with fail
      refine (pick_any B _ _ R (p + 1 + 1) hr2' (by omega) (by omega) (by omega)).mono ?_
      rintro e w2 ⟨n, rfl, ⟨hn1, hn2, _⟩, hb2, hr2⟩
      have hn3 := hn2 (by omega)
      have c4 := box3_but hb2 (by omega) c4
      have B2 := B1'.trans hb2
      have hf := hid (fun u0 u1 u2 => DrawPost.ret (w := w) (K := 2 * K + 3) (M := 2 * M + 1) (leaf_new (w.heap.size + 1) w2 (k := 1) (v := n) (by unfold i64; omega) (by unfold i64; omega)) (by omega) (by simp only [nodes, nodesL]; omega) B2 hr2 (p := p) (by omega) hB.2 u0 u1 u2)
      clear hr2 B2 hb2 hr2' B1'
      go_wp2_with fail
      refine bodyPost_ret (v := .agg #[.int .i64 1, .int .i64 n, .slice none 0 0]) (by simp [results, Tryd.results40, go_sem, c4]) rfl ?_
      exact hf.out _ _ _
    · have hi2 : (i' == 0) = false := by simpa using hi'
      go_wp2_with fail
      refine (num_new [0, 1, 0, 2] 0 2 (by simp) (by decide) (by decide) B w1' _ R (p + 1 + 1) hr2' (by omega)).mono ?_
      rintro e w2 ⟨n, rfl, ⟨hn1, hn2⟩, hb2, hr2⟩
      have c4 := box3_but hb2 (by omega) (box3_next (below_alloc _ _) c4)
      have B2 := (B1'.next (below_alloc _ _)).trans hb2
      have hf := hid (fun u0 u1 u2 => DrawPost.ret (w := w) (K := 2 * K + 3) (M := 2 * M + 1) (leaf_new (w.heap.size + 1) w2 (k := 2) (v := n) (by unfold i64; omega) (by unfold i64; omega)) (by omega) (by simp only [nodes, nodesL]; omega) B2 hr2 (p := p) (by omega) hB.2 u0 u1 u2)
      clear hr2 B2 hb2 hr2' B1'
      go_wp2_with fail
      refine bodyPost_ret (v := .agg #[.int .i64 2, .int .i64 n, .slice none 0 0]) (by simp [results, Tryd.results40, go_sem, c4]) rfl ?_
      exact hf.out _ _ _

  · have hi2 : (i == 0) = false := by simpa using hi
    go_wp2_with fail
    refine (num_new [6, 8, 7, 4, 3, 5, 9] 3 9 (by simp) (by decide) (by decide) B w1 _ R (p + 1) hr1 (by omega)).mono ?_
    rintro e w2 ⟨k, rfl, ⟨hk1, hk2⟩, hb2, hr2⟩
    replace c4 := box3_but hb2 (by omega) (box3_next (below_alloc _ _) c4)
    have B2 := (B1.next (below_alloc _ _)).trans hb2
    have c4l2 : w.heap.size < w2.heap.size := c4.1
    clear hb2 hr1 B1
    go_wp2_with fail
    have cF : Box3 (w2.alloc (.cells #[.int .i64 k, .int .i64 0, .slice none 0 0] 45)) w2.heap.size (.int .i64 k) (.int .i64 0) (.slice none 0 0) := box3_new ..
    have hA : 1 ≤ arityV k ∧ arityV k ≤ 2 := by unfold arityV; split; omega; split; omega; split; omega; omega
    refine (arity_any k _).mono ?_
    rintro e w3 ⟨rfl, hb3⟩
    replace cF := box3_next hb3 cF
    replace c4 := box3_next hb3 (box3_next (below_alloc _ _) c4)
    replace B2 := (B2.next (below_alloc _ _)).next hb3
    replace hr2 := (hr2.next (below_alloc _ _)).next hb3
    clear hb3
    generalize arityV k = A at *
    go_wp2_with fail
    go_loopw [7] (fun i wr => ∃ (j : Nat) (u : Value) (l : List Tr) (p1 : Nat), i = .int .i64 (A - j) ∧ l.length = j ∧ ((j = 0 ∧ nodesL l ≤ 0 ∧ p1 ≤ p + 2) ∨ (j = 1 ∧ nodesL l ≤ M ∧ p1 ≤ p + 2 + K) ∨ (j = 2 ∧ nodesL l ≤ 2 * M ∧ p1 ≤ p + 2 + 2 * K)) ∧ (j : Int) ≤ A ∧
      But w R wr ∧ Box3 wr w.heap.size (.int .i64 0) (.int .i64 0) (.slice none 0 0) ∧ Box3 wr w2.heap.size (.int .i64 k) (.int .i64 0) u ∧ OwnRow (w2.heap.size + 1) 45 u l wr ∧ Rd B wr R p1) (fun i _ => (intOf i).toNat)
    case atStart => exact ⟨0, .slice none 0 0, [], p + 2, by simp, rfl, .inl ⟨rfl, by simp [nodesL], by omega⟩, by omega, B2, c4, cF, OwnRow.nil _ _ _, hr2⟩
    case round =>
      clear B2 c4 cF hr2
      obtain ⟨j, u, l, p1, rfl, hl, hbd, hjA, B2, c4, cF, ho, hr2⟩ := hrel
      by_cases hlt : (j : Int) < A
      · have hgt : A - (j : Int) > 0 := by omega
        have cF' := cF
        obtain ⟨q0, q1, q2, q3, q4, q5, q6⟩ := cF'
        have f0 : ∀ x, (wr.overX (w2.heap.size + 1) R x).cell? ⟨w2.heap.size, 2, none⟩ = some u := fun x => by rw [overX_cell _ _ _ _ _ _ (by omega) (by omega)]; exact q3
        go_wp2_with fail
        refine wp_region_tail (C := fun wZ => ∃ xZ, wZ = World.overX _ (w2.heap.size + 1) (R) xZ) [0,1,2,3,4] [5,6,7,8,9] (9) (by kernel_rfl) (by kernel_rfl) (fun d _ _ _ _ h => by cases d <;> exact h) (ButX.refl _ _ _).drew.ex ?_; simp only [pick, List.getElem?_cons_succ, List.getElem?_cons_zero]; (repeat (go_big_quiet_step (fail))); refine wpQuiet_nil ?_; simp only [tailW]
        go_wp2_with fail
        refine (h wr.drew R B p1 (hr2.next (below_d (Below.refl _ _))) (by omega)).mono ?_
        rintro e w4 ⟨v, t, p2, rfl, hn, hnt, hb4, hr4, hp2⟩
        obtain ⟨a1, n1, rfl⟩ := TrIn_shape hn.any
        have x4 : ButX (w2.heap.size + 1) R wr w4 := (ButX.refl _ _ wr).drew.trans (ButX.but hb4 q0)
        go_wp2_with fail
        refine ⟨x4.ex, ?_⟩
        go_wp2_with fail
        have s4 := x4.size
        refine ⟨(x4.next (below_alloc _ _) (by omega)).ex, ?_⟩
        refine wp_append_node rfl (.tmp 37) (.tmp 42) 43 rfl 45 Tryd.underlying43 rowInfo (by rfl) (by rfl) (by intro x hx; simp at hx; rcases hx with rfl | rfl | rfl <;> rfl) ho q0
          ((Keep.drew wr).trans (Keep.but hb4 (by omega))) (Nat.le_refl _) hn (by omega) ?_
        intro a2 n2 m2 w5 ho5 hb5 _ _
        have x5 : ButX (w2.heap.size + 1) R wr w5 := x4.trans (ButX.ofB hb5)
        have c4' := box3_butx x5 (by omega) (by omega) c4
        have cF' := box3_butx x5 (by omega) (by omega) cF
        have hr5 : Rd B w5 R p2 := hr4.keep hb5.size fun b hb => hb5.block b (by omega)
        have B5 : But w R w5 := ⟨x5.os.trans B2.os, x5.tape.trans B2.tape, x5.output.trans B2.output, Nat.le_trans B2.size x5.size, fun k hk hd => (x5.block k (by omega) hd).trans (B2.block k hk hd)⟩
        have HO := hid ho5
        have hl5 : (l ++ [t]).length = j + 1 := by simp [hl]
        have hn5 : nodesL (l ++ [t]) ≤ nodesL l + M := by rw [nodesL_snoc]; omega
        have hxx := x5.ex
        clear ho ho5 hn hb4 hb5 x4 x5 f0 q0 q1 q2 q3 q4 q5 q6 hr4 hr2 B2 c4 cF
        have cF := cF'
        obtain ⟨q0, q1, q2, q3, q4, q5, q6⟩ := cF'
        refine ⟨hxx, ?_⟩
        go_wp2_with fail
        refine ⟨hxx, ?_⟩
        go_wp2_with fail
        go_roundw
        case rel => exact ⟨j + 1, .slice a2 n2 m2, l ++ [t], p2, by go_num, hl5, by omega, by omega, But.setNew B5 (by simp; omega) _, box3_but (But.set w5 w2.heap.size 2 _) (by omega) c4', box3_set2 cF _, HO.out.keep (Keep.set _ (by simp) _), hr5.set (by simp; omega) _⟩
        case measure => simp [intOf]; omega
      · obtain ⟨a2, n2, m2, rfl⟩ : ∃ a2 n2 m2, u = .slice a2 n2 m2 := by obtain ⟨a2, m2, h2, _⟩ := ho.shape; exact ⟨_, _, _, h2⟩
        have hgt : ¬ (A - (j : Int) > 0) := by omega
        have hf := hid (fun u0 u1 u2 => DrawPost.ret (w := w) (K := 2 * K + 3) (M := 2 * M + 1) (ho.node (k := k) (v := 0) (by unfold i64; omega) (by unfold i64; omega)) (by omega) (by simp only [nodes]; omega) B2 hr2 (p := p) (by omega) hB.2 u0 u1 u2)
        clear hr2 B2 ho
        go_wp2_with fail
        refine bodyPost_ret (v := .agg #[.int .i64 k, .int .i64 0, .slice a2 n2 m2]) (by simp [results, Tryd.results40, go_sem, c4]) rfl ?_
        exact hf.out _ _ _

theorem rand_any : RandT 4 45 31 := by
  have h2 := randS 1 3 1 rand1 (by omega) (by omega) (by omega)
  have h3 := randS 2 _ _ h2 (by omega) (by omega) (by omega)
  have h4 := randS 3 _ _ h3 (by omega) (by omega) (by omega)
  intro w R B p hr hp
  refine (h4 w R B p hr (by omega)).mono ?_
  rintro e w' ⟨v, t, p', rfl, hn, hm, hb, hr', hp'⟩
  exact ⟨v, t, p', rfl, hn, by omega, hb, hr', by omega⟩
theorem rand_le (d : Int) (h1 : 2 ≤ d) (h2 : d ≤ 4) (w : World) (R B p : Nat) (hr : Rd B w R p) (hp : p + 45 ≤ 1000000) : Calls Tryd.prog 40 #[.pointer (some ⟨R, 0, none⟩), .int .i64 d] w (DrawPost B 45 31 R p w) := by
  have h2' := randS 1 3 1 rand1 (by omega) (by omega) (by omega)
  have h3' := randS 2 _ _ h2' (by omega) (by omega) (by omega)
  have hw : ∀ {K M w' e}, K ≤ 45 → M ≤ 31 → DrawPost B K M R p w e w' → DrawPost B 45 31 R p w e w' := by
    rintro K M w' e hK hM ⟨v, t, p', rfl, hn, hm, hb, hr', hp'⟩
    exact ⟨v, t, p', rfl, hn, by omega, hb, hr', by omega⟩
  rcases (by omega : d = 2 ∨ d = 3 ∨ d = 4) with rfl | rfl | rfl
  · exact (h2' w R B p hr (by omega)).mono fun e w' h => hw (by omega) (by omega) h
  · exact (h3' w R B p hr (by omega)).mono fun e w' h => hw (by omega) (by omega) h
  · exact rand_any w R B p hr hp

end Expr
end Go.Proofs.YtgopfjnpjkpelaaDoor
namespace Go.Proofs.YtgopfjnpjkpelaaDoor
open Go.RowKit
namespace Expr

def CntT (t : Tr) : Prop := ∀ (w : World) (x : Value) (d : Int), TrIn Any w t x → 0 ≤ d → d ≤ 6 → nodes t ≤ 1000 → Calls Tryd.prog 53 #[x, .int .i64 d] w (Ret (.int .i64 (cnt t d)) w)

set_option maxHeartbeats 1000000 in
theorem cntT_of (k v : Int) (kids : List Tr) (h : ∀ t, t ∈ kids → CntT t) : CntT (.mk k v kids) := by
  intro w x d hx hd1 hd2 hn
  rw [TrIn_mk] at hx
  obtain ⟨a, n, c, rfl, hk, hv, rfl, hc, hc2, hks⟩ := hx
  unfold maxLen at hc2
  have hbnd := cnt_le_nodesL kids (d - 1)
  simp only [nodes] at hn
  have E := hid (show cnt (.mk k v kids) d = 1 + if 0 < d then cntL kids (d - 1) else 0 by simp only [cnt])
  by_cases hd : 0 < d
  · go_enter Tryd.func53, Tryd.ntmps53
    go_wp2_with fail
    go_loopw [5, 6] (fun s i wr => ∃ (j : Nat) (m : Int), j ≤ kids.length ∧ s = .int .i64 m ∧ i = .int .i64 j ∧ 1 ≤ m ∧ m ≤ 1001 ∧ Below w.heap.size w wr ∧ w.heap.size < wr.heap.size ∧ wr.cell? ⟨w.heap.size, 2, none⟩ = some (.slice a kids.length c) ∧ Hid (m + cntL (kids.drop j) (d - 1) = 1 + cntL kids (d - 1)))
      (fun _ i _ => kids.length - (intOf i).toNat)
    case atStart => exact ⟨0, 1, Nat.zero_le _, rfl, rfl, by omega, by omega, (by repeat (first | exact Below.refl _ _ | assumption | refine below_a ?_ _ | refine below_o ?_ _ | refine below_d ?_ | refine below_n ?_ _ | refine below_s ?_ (by first | (simp; done) | (simp; omega) | omega) _)), by simp, by simp [go_sem], hid rfl⟩
    case round =>
      obtain ⟨j, m, hj, rfl, rfl, hm1, hm2, hb, hsz, q2, hr⟩ := hrel
      by_cases hlt : j < kids.length
      · obtain ⟨b, o, c0, c1, c2, t, rfl, gb, g0, g1, g2, hT⟩ := TrsIn_round hks hb hlt
        have HR2 := hr.out
        rw [hT.out.2.2.1] at HR2
        simp only [cntL] at HR2
        have hp := cntL_pos (kids.drop (j + 1)) (d - 1)
        have hp2 := cnt_pos t (d - 1)
        have hm3 : m + cnt t (d - 1) ≤ 1001 := by omega
        have HR := hid (show m + cnt t (d - 1) + cntL (kids.drop (j + 1)) (d - 1) = 1 + cntL kids (d - 1) by omega); clear HR2
        have htn : nodes t ≤ 1000 := by have := nodes_mem hT.out.2.1; omega
        clear hp
        go_wp2_with fail
        refine (h t hT.out.2.1 _ _ (d - 1) hT.out.1 (by omega) (by omega) htn).mono ?_
        rintro e w2 ⟨rfl, hby⟩
        obtain ⟨y, rfl⟩ := bex hby
        clear hby
        go_wp2_with fail
        go_roundw
        case rel => exact ⟨j + 1, m + cnt t (d - 1), by omega, rfl, by go_num, by omega, hm3, (by repeat (first | exact Below.refl _ _ | assumption | refine below_a ?_ _ | refine below_o ?_ _ | refine below_d ?_ | refine below_n ?_ _ | refine below_s ?_ (by first | (simp; done) | (simp; omega) | omega) _)), by simp [go_sem, hsz], by simp [go_sem, hsz, q2], HR⟩
        case measure => simp [intOf]; omega
      · have HR2 := hr.out
        rw [List.drop_of_length_le (by omega)] at HR2
        simp only [cntL] at HR2
        have HR := hid (show m = cnt (.mk k v kids) d by rw [E.out, if_pos hd]; omega); clear HR2
        go_wp2_with fail
        go_ret
        exact Ret.mk (int_val HR.out) hb
  · have E2 := hid (show cnt (.mk k v kids) d = 1 by rw [E.out, if_neg hd]; omega)
    go_enter Tryd.func53, Tryd.ntmps53
    go_wp2_with fail
    go_loopw [5, 6] (fun s i wr => s = .int .i64 1 ∧ i = .int .i64 0 ∧ Below w.heap.size w wr ∧ w.heap.size < wr.heap.size ∧ wr.cell? ⟨w.heap.size, 2, none⟩ = some (.slice a kids.length c)) (fun _ _ _ => 0)
    case atStart => exact ⟨rfl, rfl, (by repeat (first | exact Below.refl _ _ | assumption | refine below_a ?_ _ | refine below_o ?_ _ | refine below_d ?_ | refine below_n ?_ _ | refine below_s ?_ (by first | (simp; done) | (simp; omega) | omega) _)), by simp, by simp [go_sem]⟩
    case round =>
      obtain ⟨rfl, rfl, hb, hsz, q2⟩ := hrel
      by_cases hlt : 0 < kids.length
      all_goals
        go_wp2_with fail
        go_ret
        exact Ret.mk (int_val E2.out.symm) hb

theorem cnt_any : ∀ t, CntT t := fun t => Tr.ind (fun k v kids ih => cntT_of k v kids ih) t

set_option maxHeartbeats 400000 in
/-- the reference's ExprValid -/
theorem specValid_any (t : Tr) (w : World) (x : Value) (hx : TrIn Any w t x) : Calls Tryd.prog 41 #[x] w (Ret (.bool (exprL.valid t)) w) := by
  have hx0 := hx
  obtain ⟨a, c, rfl⟩ := TrIn_shape hx
  have E := hid (exprL.valid_cnt t)
  cases hs : exprL.shape t 6 with
  | false =>
    have E2 := E.out
    rw [hs, Bool.false_and] at E2
    have E3 := hid E2; clear E2
    go_enter Tryd.func41, Tryd.ntmps41
    go_wp2_with fail
    refine (shape_any t _ _ 6 (TrIn_alloc hx _) (by omega) (by omega)).mono ?_
    rintro e w2 ⟨rfl, hby⟩
    obtain ⟨y, rfl⟩ := bex hby
    clear hby
    rw [hs]
    clear hs
    go_wp2_with fail
    go_ret
    exact Ret.mk (bool_val E3.out.symm) (by repeat (first | exact Below.refl _ _ | assumption | refine below_a ?_ _ | refine below_o ?_ _ | refine below_d ?_ | refine below_n ?_ _ | refine below_s ?_ (by first | (simp; done) | (simp; omega) | omega) _))
  | true =>
    have E2 := E.out
    rw [hs, Bool.true_and] at E2
    have E3 := hid E2; clear E2
    have hn : nodes t ≤ 1000 := by have := Lang.nodes_cap exprL exprL_two t 6 hs; rw [Lang.cap6] at this; omega
    go_enter Tryd.func41, Tryd.ntmps41
    go_wp2_with fail
    refine (shape_any t _ _ 6 (TrIn_alloc hx _) (by omega) (by omega)).mono ?_
    rintro e w2 ⟨rfl, hby⟩
    obtain ⟨y, rfl⟩ := bex hby
    clear hby
    rw [hs]
    clear hs
    go_wp2_with fail
    refine (cnt_any t _ _ 6 (TrIn_over (TrIn_alloc hx _) _) (by omega) (by omega) hn).mono ?_
    rintro e w3 ⟨rfl, hby⟩
    obtain ⟨y2, rfl⟩ := bex hby
    clear hby
    go_wp2_with fail
    all_goals go_ret
    all_goals refine Ret.mk (bool_val ?_) (by repeat (first | exact Below.refl _ _ | assumption | refine below_a ?_ _ | refine below_o ?_ _ | refine below_d ?_ | refine below_n ?_ _ | refine below_s ?_ (by first | (simp; done) | (simp; omega) | omega) _))
    all_goals rw [E3.out]
    all_goals rfl

end Expr
end Go.Proofs.YtgopfjnpjkpelaaDoor
namespace Go.Proofs.YtgopfjnpjkpelaaDoor
open Go.RowKit

/-- is a number in a range -/
def inB (a b c : Int) : Bool := decide (b ≤ a ∧ a ≤ c)
set_option maxHeartbeats 400000 in
theorem in_any (a b c : Int) (w : World) : Calls Tryd.prog 32 #[.int .i64 a, .int .i64 b, .int .i64 c] w (RetW (.bool (inB a b c)) w) := by
  by_cases h1 : b ≤ a
  · have E := hid (show decide (a ≤ c) = inB a b c by simp [inB, h1])
    go_enter Tryd.func32, Tryd.ntmps32
    go_wp2_with fail
    go_ret
    exact ⟨congrArg (fun x => Ending.returned (.bool x)) E.out, rfl⟩
  · have E := hid (show false = inB a b c by simp [inB]; omega)
    go_enter Tryd.func32, Tryd.ntmps32
    go_wp2_with fail
    go_ret
    exact ⟨congrArg (fun x => Ending.returned (.bool x)) E.out, rfl⟩
theorem in_yes {a b c : Int} (h : b ≤ a ∧ a ≤ c) (w : World) : Calls Tryd.prog 32 #[.int .i64 a, .int .i64 b, .int .i64 c] w (RetW (.bool true) w) := by
  have := in_any a b c w
  rwa [inB, decide_eq_true h] at this
theorem in_no {a b c : Int} (h : ¬(b ≤ a ∧ a ≤ c)) (w : World) : Calls Tryd.prog 32 #[.int .i64 a, .int .i64 b, .int .i64 c] w (RetW (.bool false) w) := by
  have := in_any a b c w
  rwa [inB, decide_eq_false h] at this

theorem upd_past {w W W' : World} {R : Nat} {v : Value} (h : Upd W R v W') (hb : Below w.heap.size w W) (hR : R < w.heap.size) : Upd w R v W' :=
  (Upd.of_below hb hR).trans_below h
theorem Calls.over_same {P : Program} {f : FuncId} {args : Array Value} {w : World} {x : Over w} {v : Value} (h : Calls P f args (w.over x) (RetW v (w.over x))) :
    Calls P f args (w.over x) fun e w'' => e = .returned v ∧ ∃ m, w'' = w.over m :=
  h.mono fun _ _ ⟨he, hy⟩ => ⟨he, x, hy⟩

end Go.Proofs.YtgopfjnpjkpelaaDoor
namespace Go.Proofs.YtgopfjnpjkpelaaDoor
open Go.RowKit
namespace Expr
/-- what a call of walk comes to: the counter, in block R, is m behind it -/
def WkPost (v : Value) (R : Nat) (m : Int) (w : World) (e : Ending) (w' : World) : Prop := e = .returned v ∧ Upd w R (.int .i64 m) w'

def WkT (t : Tr) : Prop := ∀ (w : World) (x : Value) (R : Nat) (d n : Int), TrIn (· ≠ R) w t x → 1 ≤ d → d ≤ 7 → 0 ≤ n → n ≤ 15 →
    w.cell? ⟨R, 0, none⟩ = some (.int .i64 n) → w.frozen? ⟨R, 0, none⟩ = false →
    Calls Tryd.prog 62 #[x, .int .i64 d, .pointer (some ⟨R, 0, none⟩)] w (WkPost (.bool (exprL.wk t d n).1) R (exprL.wk t d n).2 w)

/-- the closure that ContainsFunc is handed: it walks a node one deeper, and tells whether that failed -/
def clo (D E : Nat) : Value := .func (.func 71) #[] #[.pointer (some ⟨D, 0, none⟩), .pointer (some ⟨E, 0, none⟩)]

set_option maxHeartbeats 400000 in
theorem clo_of (t : Tr) (h : WkT t) (w : World) (x : Value) (R D E : Nat) (d n : Int) (hx : TrIn (· ≠ R) w t x) (hd1 : 0 ≤ d) (hd2 : d ≤ 6) (hn1 : 0 ≤ n) (hn2 : n ≤ 15)
    (hD : w.cell? ⟨D, 0, none⟩ = some (.int .i64 d)) (hE : w.cell? ⟨E, 0, none⟩ = some (.pointer (some ⟨R, 0, none⟩))) (hR : w.cell? ⟨R, 0, none⟩ = some (.int .i64 n)) (hF : w.frozen? ⟨R, 0, none⟩ = false) :
    Calls Tryd.prog 71 #[x, .pointer (some ⟨D, 0, none⟩), .pointer (some ⟨E, 0, none⟩)] w (WkPost (.bool (!(exprL.wk t (d + 1) n).1)) R (exprL.wk t (d + 1) n).2 w) := by
  obtain ⟨a, c, rfl⟩ := TrIn_shape hx
  have lD := blt hD
  have lE := blt hE
  have lR : R < w.heap.size := blt hR
  go_enter Tryd.func71, Tryd.ntmps71
  go_wp2_with fail
  refine (h _ _ R (d + 1) n (TrIn_alloc hx _) (by omega) (by omega) hn1 hn2 (by simp [go_sem, lR, hR]) (by simp [go_sem, lR, hF])).mono ?_
  rintro e w2 ⟨rfl, hu⟩
  go_wp2_with fail
  go_ret
  exact ⟨rfl, upd_past hu (below_alloc _ _) lR⟩

/-- what a call of IndexFunc comes to: an index, not negative exactly where some node failed -/
def IxPost (bad : Bool) (R : Nat) (m : Int) (w : World) (e : Ending) (w' : World) : Prop := ∃ i : Int, e = .returned (.int .i64 i) ∧ decide (0 ≤ i) = bad ∧ Upd w R (.int .i64 m) w'

set_option maxHeartbeats 1000000 in
theorem ix_of (l : List Tr) (h : ∀ t, t ∈ l → WkT t) (w : World) (a : Option Addr) (c R D E : Nat) (d n : Int) (hl : TrsIn (· ≠ R) w l a) (hc : l.length ≤ c) (hc2 : c ≤ maxLen) (hd1 : 0 ≤ d) (hd2 : d ≤ 6) (hn1 : 0 ≤ n) (hn2 : n ≤ 15)
    (hD : w.cell? ⟨D, 0, none⟩ = some (.int .i64 d)) (hE : w.cell? ⟨E, 0, none⟩ = some (.pointer (some ⟨R, 0, none⟩))) (hR : w.cell? ⟨R, 0, none⟩ = some (.int .i64 n)) (hF : w.frozen? ⟨R, 0, none⟩ = false) (hDR : D ≠ R) (hER : E ≠ R) :
    Calls Tryd.prog 74 #[.slice a l.length c, clo D E] w (IxPost (!(exprL.wkL l (d + 1) n).1) R (exprL.wkL l (d + 1) n).2 w) := by
  unfold maxLen at hc2
  have lD := blt hD
  have lE := blt hE
  have lR : R < w.heap.size := blt hR
  unfold clo
  go_enter Tryd.func74, Tryd.ntmps74
  go_wp2_with fail
  go_loopw [5, 8] (fun _ i wr => ∃ (j : Nat) (m : Int), j ≤ l.length ∧ i = .int .i64 j ∧ 0 ≤ m ∧ m ≤ 15 ∧ Upd w R (.int .i64 m) wr ∧ Hid (exprL.wkL (l.drop j) (d + 1) m = exprL.wkL l (d + 1) n)) (fun _ i _ => l.length - (intOf i).toNat)
  case atStart => exact ⟨0, n, Nat.zero_le _, rfl, hn1, hn2, Upd.self hR, hid rfl⟩
  case round =>
    obtain ⟨j, m, hj, rfl, hm1, hm2, hu, hr⟩ := hrel
    have hl' := TrsIn_upd hu (fun b hb => hb) hl
    have qD := (hu.other (o := 0) lD hDR).trans hD
    have qE := (hu.other (o := 0) lE hER).trans hE
    have qR := hu.cell hR
    have qF := (hu.frozen (o := 0) lR).trans hF
    by_cases hlt : j < l.length
    · obtain ⟨b, o, c0, c1, c2, t, rfl, gb, g0, g1, g2, hT⟩ := TrsIn_round hl' (Below.refl _ _) hlt
      have HR2 := hr.out
      rw [hT.out.2.2.1] at HR2
      simp only [Lang.wkL] at HR2
      have HR := hid HR2; clear HR2
      have hbd := exprL.wk_bd t (d + 1) m hm2
      rw [exprL_N] at hbd
      go_wp2_with fail
      refine (clo_of t (h t hT.out.2.1) wr _ R D E d m hT.out.1 hd1 hd2 hm1 hm2 qD qE qR qF).mono ?_
      rintro e w2 ⟨rfl, hu2⟩
      have hu3 := hu.trans hu2
      cases hq : (exprL.wk t (d + 1) m).1 with
      | true =>
        have HR3 := HR.out
        rw [hq, if_pos rfl] at HR3
        have HR4 := hid HR3; clear HR3
        have hb2 := hbd.2.2 hq
        clear hq
        go_wp2_with fail
        go_roundw
        case rel => exact ⟨j + 1, (exprL.wk t (d + 1) m).2, by omega, by go_num, by omega, hb2, hu3, HR4⟩
        case measure => simp [intOf]; omega
      | false =>
        have HR3 := HR.out
        rw [hq, if_neg (by simp)] at HR3
        have HR4 := hid HR3; clear HR3 hq
        go_wp2_with fail
        go_ret
        exact ⟨j, rfl, by rw [← HR4.out]; simp, by rw [← HR4.out]; exact hu3⟩
    · have HR2 := hr.out
      rw [List.drop_of_length_le (by omega)] at HR2
      simp only [Lang.wkL] at HR2
      have HR := hid HR2; clear HR2
      go_wp2_with fail
      go_ret
      exact ⟨-1, rfl, by rw [← HR.out]; simp, by rw [← HR.out]; exact hu⟩

set_option maxHeartbeats 400000 in
theorem cf_of (l : List Tr) (h : ∀ t, t ∈ l → WkT t) (w : World) (a : Option Addr) (c R D E : Nat) (d n : Int) (hl : TrsIn (· ≠ R) w l a) (hc : l.length ≤ c) (hc2 : c ≤ maxLen) (hd1 : 0 ≤ d) (hd2 : d ≤ 6) (hn1 : 0 ≤ n) (hn2 : n ≤ 15)
    (hD : w.cell? ⟨D, 0, none⟩ = some (.int .i64 d)) (hE : w.cell? ⟨E, 0, none⟩ = some (.pointer (some ⟨R, 0, none⟩))) (hR : w.cell? ⟨R, 0, none⟩ = some (.int .i64 n)) (hF : w.frozen? ⟨R, 0, none⟩ = false) (hDR : D ≠ R) (hER : E ≠ R) :
    Calls Tryd.prog 70 #[.slice a l.length c, clo D E] w (WkPost (.bool (!(exprL.wkL l (d + 1) n).1)) R (exprL.wkL l (d + 1) n).2 w) := by
  have H := ix_of l h w a c R D E d n hl hc hc2 hd1 hd2 hn1 hn2 hD hE hR hF hDR hER
  have HH := hid H; clear H hD hE hR hF
  unfold clo at HH ⊢
  go_enter Tryd.func70, Tryd.ntmps70
  go_wp2_with fail
  refine HH.out.mono ?_
  rintro e w2 ⟨i, rfl, hi, hu⟩
  have HI := hid hi; clear hi
  go_wp2_with fail
  go_ret
  exact ⟨congrArg (fun x => Ending.returned (.bool x)) HI.out, hu⟩


end Expr
end Go.Proofs.YtgopfjnpjkpelaaDoor
namespace Go.Proofs.YtgopfjnpjkpelaaDoor
open Go.RowKit
namespace Expr
set_option maxHeartbeats 2000000 in
theorem wk_of (k v : Int) (kids : List Tr) (h : ∀ t, t ∈ kids → WkT t) : WkT (.mk k v kids) := by
  intro w x R d n hx hd1 hd2 hn1 hn2 hR hF
  rw [TrIn_mk] at hx
  obtain ⟨a, n', c, rfl, hk, hv, rfl, hc, hc2, hks⟩ := hx
  have lR : R < w.heap.size := blt hR
  have hE0 := hid (show exprL.wk (.mk k v kids) d n = if 6 < d ∨ exprL.N < n + 1 ∨ exprL.okB k v kids.length = false then (false, n + 1) else exprL.wkL kids (d + 1) (n + 1) by simp only [Lang.wk])
  have lR1 : R < w.heap.size + 1 := by omega
  have lR2 : R < w.heap.size + 1 + 1 := by omega
  have lR3 : R < w.heap.size + 1 + 1 + 1 := by omega
  go_enter Tryd.func62, Tryd.ntmps62
  go_upto_block 0 with fail
  go_cut [7, 8] (fun s7 s8 wx => s7 = .int .i64 (exprL.ar k) ∧ s8 = .int .i64 (exprL.most k) ∧ Upd w R (.int .i64 (n + 1)) wx ∧ w.heap.size + 1 + 1 < wx.heap.size ∧ wx.cell? ⟨w.heap.size, 0, none⟩ = some (.int .i64 k) ∧ wx.cell? ⟨w.heap.size, 1, none⟩ = some (.int .i64 v) ∧ wx.cell? ⟨w.heap.size, 2, none⟩ = some (.slice a kids.length c) ∧
    wx.cell? ⟨w.heap.size + 1, 0, none⟩ = some (.int .i64 d) ∧ wx.cell? ⟨w.heap.size + 1 + 1, 0, none⟩ = some (.pointer (some ⟨R, 0, none⟩)))
  case first =>
    go_wp2_with fail
    all_goals go_meet
    all_goals refine ⟨int_val ?_, int_val ?_, Upd.of (by repeat (first | exact Below.refl _ _ | assumption | refine below_a ?_ _ | refine below_o ?_ _ | refine below_d ?_ | refine below_n ?_ _ | refine below_s ?_ (by first | (simp; done) | (simp; omega) | omega) _)), by simp, by simp [go_sem], by simp [go_sem], by simp [go_sem], by simp [go_sem], by simp [go_sem]⟩
    all_goals first
      | (have e := ‹(k == 1) = true›; simp at e; first | rw [exprL_ar, if_pos (.inl e)] | rw [exprL_most, if_pos e])
      | (have e1 := ‹(k == 1) = false›; have e := ‹(k == 2) = true›; simp at e1 e; first | rw [exprL_ar, if_pos (.inr e)] | rw [exprL_most, if_neg e1, if_pos e])
      | (have e1 := ‹(k == 1) = false›; have e2 := ‹(k == 2) = false›; have e := ‹(k == 3) = true›; simp at e1 e2 e; first | rw [exprL_ar, if_neg (by omega), if_pos e] | rw [exprL_most, if_neg e1, if_neg e2])
      | (have e1 := ‹(k == 1) = false›; have e2 := ‹(k == 2) = false›; have e := ‹(k == 3) = false›; simp at e1 e2 e; first | rw [exprL_ar, if_neg (by omega), if_neg e] | rw [exprL_most, if_neg e1, if_neg e2])
  case rest =>
    obtain ⟨rfl, rfl, hu, hsz, q0, q1, q2, qd, qp⟩ := hcut
    have qR := hu.cell hR
    have qF := (hu.frozen (o := 0) lR).trans hF
    by_cases c1 : 6 < d
    · have E := hid (show exprL.wk (.mk k v kids) d n = (false, n + 1) by rw [hE0.out, if_pos (.inl c1)])
      go_wp2_with fail
      go_ret
      exact ⟨by rw [E.out]; rfl, by rw [E.out]; exact hu⟩
    by_cases c2 : 15 < n + 1
    · have E := hid (show exprL.wk (.mk k v kids) d n = (false, n + 1) by rw [hE0.out, if_pos (.inr (.inl c2))])
      go_wp2_with fail
      go_ret
      exact ⟨by rw [E.out]; rfl, by rw [E.out]; exact hu⟩
    have hno : ∀ (hh : ¬((1 ≤ k ∧ k ≤ 9) ∧ (0 ≤ v ∧ v ≤ exprL.most k) ∧ (kids.length : Int) = exprL.ar k)), exprL.wk (.mk k v kids) d n = (false, n + 1) := fun hh => by
      rw [hE0.out, if_pos (.inr (.inr (exprL.okB_no hh)))]
    have HNO := hid hno; clear hno
    by_cases c3 : 1 ≤ k ∧ k ≤ 9
    · by_cases c4 : 0 ≤ v ∧ v ≤ exprL.most k
      · by_cases c5 : (kids.length : Int) = exprL.ar k
        · have E := hid (show exprL.wk (.mk k v kids) d n = exprL.wkL kids (d + 1) (n + 1) by
            rw [hE0.out, if_neg]
            rintro (h1 | h1 | h1)
            · exact c1 h1
            · exact c2 h1
            · rw [exprL.okB_iff.2 ⟨c3, c4, c5⟩] at h1; cases h1)
          have e5 : ((kids.length : Int) != exprL.ar k) = false := by simpa using c5
          clear c5 HNO
          go_wp2_with fail
          refine (in_yes c3 _).mono ?_
          rintro e w' ⟨rfl, rfl⟩
          go_wp2_with fail
          refine (in_yes c4 _).mono ?_
          rintro e w' ⟨rfl, rfl⟩
          go_wp2_with fail
          refine (cf_of kids h _ a c R (w.heap.size + 1) (w.heap.size + 1 + 1) d (n + 1) (TrsIn_upd hu (fun b hb => hb) hks) hc hc2 (by omega) (by omega) (by omega) (by omega) qd qp qR qF (by omega) (by omega)).mono ?_
          rintro e w' ⟨rfl, hu2⟩
          go_wp2_with fail
          go_ret
          exact ⟨by rw [E.out]; simp, by rw [E.out]; exact hu.trans hu2⟩
        · have E := hid (HNO.out (fun hh => c5 hh.2.2))
          have e5 : ((kids.length : Int) != exprL.ar k) = true := by simpa using c5
          clear c5 HNO
          go_wp2_with fail
          refine (in_yes c3 _).mono ?_
          rintro e w' ⟨rfl, rfl⟩
          go_wp2_with fail
          refine (in_yes c4 _).mono ?_
          rintro e w' ⟨rfl, rfl⟩
          go_wp2_with fail
          go_ret
          exact ⟨by rw [E.out]; rfl, by rw [E.out]; exact hu⟩
      · have E := hid (HNO.out (fun hh => c4 hh.2.1))
        clear HNO
        go_wp2_with fail
        refine (in_yes c3 _).mono ?_
        rintro e w' ⟨rfl, rfl⟩
        go_wp2_with fail
        refine (in_no c4 _).mono ?_
        rintro e w' ⟨rfl, rfl⟩
        go_wp2_with fail
        go_ret
        exact ⟨by rw [E.out]; rfl, by rw [E.out]; exact hu⟩
    · have E := hid (HNO.out (fun hh => c3 hh.1))
      clear HNO
      go_wp2_with fail
      refine (in_no c3 _).mono ?_
      rintro e w' ⟨rfl, rfl⟩
      go_wp2_with fail
      go_ret
      exact ⟨by rw [E.out]; rfl, by rw [E.out]; exact hu⟩

theorem wk_any : ∀ t, WkT t := fun t => Tr.ind (fun k v kids ih => wk_of k v kids ih) t

end Expr
end Go.Proofs.YtgopfjnpjkpelaaDoor
namespace Go.Proofs.YtgopfjnpjkpelaaDoor
open Go.RowKit
namespace Expr
set_option maxHeartbeats 400000 in
theorem nodes_any (t : Tr) (w : World) (x : Value) (hx : TrIn Any w t x) : Calls Tryd.prog 55 #[x] w (Ret (.int .i64 (exprL.size t)) w) := by
  have hx0 := hx
  obtain ⟨a, c, rfl⟩ := TrIn_shape hx
  have E := hid (exprL.size_wk t)
  go_enter Tryd.func55, Tryd.ntmps55
  go_wp2_with fail
  refine (wk_any t _ _ (w.heap.size + 1) 1 0 (TrIn_alloc (TrIn_alloc (TrIn_mono (fun b hb => by omega) (TrIn_old hx)) _) _) (by omega) (by omega) (by omega) (by omega) (by simp [go_sem]) (by simp [go_sem])).mono ?_
  rintro e w' ⟨rfl, hu⟩
  have qR := hu.cell (u := .int .i64 0) (by simp [go_sem])
  cases hq : (exprL.wk t 1 0).1 with
  | true =>
    have E2 := E.out
    rw [hq, if_pos rfl] at E2
    have E3 := hid E2; clear E2 hq
    go_wp2_with fail
    go_ret
    exact Ret.mk (int_val E3.out.symm) (hu.new (by repeat (first | exact Below.refl _ _ | assumption | refine below_a ?_ _ | refine below_o ?_ _ | refine below_d ?_ | refine below_n ?_ _ | refine below_s ?_ (by first | (simp; done) | (simp; omega) | omega) _)) (by omega))
  | false =>
    have E2 := E.out
    rw [hq, if_neg (by simp)] at E2
    have E3 := hid E2; clear E2 hq
    go_wp2_with fail
    go_ret
    exact Ret.mk (int_val E3.out.symm) (hu.new (by repeat (first | exact Below.refl _ _ | assumption | refine below_a ?_ _ | refine below_o ?_ _ | refine below_d ?_ | refine below_n ?_ _ | refine below_s ?_ (by first | (simp; done) | (simp; omega) | omega) _)) (by omega))

set_option maxHeartbeats 400000 in
theorem valid_any (t : Tr) (w : World) (x : Value) (hx : TrIn Any w t x) : Calls Tryd.prog 46 #[x] w (Ret (.bool (exprL.valid t)) w) := by
  have hx0 := hx
  obtain ⟨a, c, rfl⟩ := TrIn_shape hx
  have E := hid (exprL.valid_size t)
  go_enter Tryd.func46, Tryd.ntmps46
  go_wp2_with fail
  refine (nodes_any t _ _ (TrIn_alloc hx _)).mono ?_
  rintro e w' ⟨rfl, hby⟩
  obtain ⟨y, rfl⟩ := bex hby
  clear hby
  go_wp2_with fail
  go_ret
  exact Ret.mk (bool_val E.out.symm) (by repeat (first | exact Below.refl _ _ | assumption | refine below_a ?_ _ | refine below_o ?_ _ | refine below_d ?_ | refine below_n ?_ _ | refine below_s ?_ (by first | (simp; done) | (simp; omega) | omega) _))

end Expr
end Go.Proofs.YtgopfjnpjkpelaaDoor
namespace Go.Proofs.YtgopfjnpjkpelaaDoor
open Go.RowKit
namespace Expr

/-- a tree of one's own, and whether there is one -/
def RetT (B : Nat) (t : Tr) (b : Bool) (w : World) (e : Ending) (w' : World) : Prop := ∃ v, e = .returned (.tuple #[v, .bool b]) ∧ NewTr B t v w' ∧ Below w.heap.size w w'
theorem RetT.mk {B : Nat} {t t' : Tr} {b b' : Bool} {v : Value} {w w' : World} (h : NewTr B t' v w') (ht : t = t') (hb : b = b') (hw : Below w.heap.size w w') : RetT B t b w (.returned (.tuple #[v, .bool b'])) w' := ⟨v, by rw [hb], ht ▸ h, hw⟩
def zeroT : Tr := .mk 0 0 []
theorem zero_new (B : Nat) (w : World) : NewTr B zeroT (.agg #[.int .i64 0, .int .i64 0, .slice none 0 0]) w := leaf_new _ _ (by unfold i64; omega) (by unfold i64; omega)

def subOk (x : Int) (t y : Tr) : Bool := exprL.valid t && (exprL.valid y && (inB x 0 2 && exprL.valid (subT x y t)))
def subV (x : Int) (t y : Tr) : Tr := if subOk x t y = true then subT x y t else zeroT
theorem subV_small (x : Int) (t y : Tr) : nodes (subV x t y) ≤ 1000 := by
  unfold subV
  split
  · rename_i h
    simp only [subOk, Bool.and_eq_true] at h
    have := h.2.2.2
    rw [Lang.valid, Bool.and_eq_true, decide_eq_true_eq, exprL_N] at this
    omega
  · simp [zeroT, nodes, nodesL]

end Expr
end Go.Proofs.YtgopfjnpjkpelaaDoor
