/- The reference's random source (l16Rd): what pick and num return, and what they leave. Conditions: those of each contract. -/
import Derived.Test.YtffadknollkgiaaRows
import Derived.Test.YtffadknollkgiaaMem
import Derived.Test.YtffadknollkgiaaReg
import Derived.WalkSpells
import Derived.WalkLawsBesides
namespace Go.Proofs.Ytffadknollkgiaa
open Go.RowKit

/-- the bytes of a slice, in a block below B -/
def BytesIn (B D : Nat) (w : World) (a : Option Addr) (len : Nat) : Prop := len = 0 ∨ ∃ (b o : Nat) (f : Nat → Int), a = some ⟨b, o, none⟩ ∧ b < B ∧ b ≠ D ∧ ∀ i, i < len → w.cell? ⟨b, o + i, none⟩ = some (.int .u8 (f i)) ∧ 0 ≤ f i ∧ f i ≤ 255
theorem BytesIn.butx {B D : Nat} {w w' : World} (h : ButX B D w w') {a : Option Addr} {len : Nat} (hb : BytesIn B D w a len) : BytesIn B D w' a len := by
  rcases hb with hb | ⟨b, o, f, rfl, hl, hd, hf⟩
  · exact .inl hb
  · exact .inr ⟨b, o, f, rfl, hl, hd, fun i hi => ⟨by rw [h.cell hl hd]; exact (hf i hi).1, (hf i hi).2⟩⟩

/-- block R is a random source that has been asked p times; it lies in blocks below B -/
def Rd (B : Nat) (w : World) (R : Nat) (p : Nat) : Prop := ∃ a len cap, len ≤ 2000 ∧ len ≤ cap ∧ cap ≤ maxLen ∧ (R < B ∧ B ≤ w.heap.size) ∧ w.cell? ⟨R, 0, none⟩ = some (.slice a len cap) ∧ w.cell? ⟨R, 1, none⟩ = some (.int .i64 p) ∧
  w.frozen? ⟨R, 0, none⟩ = false ∧ w.frozen? ⟨R, 1, none⟩ = false ∧ BytesIn B R w a len

theorem Rd.keep {B : Nat} {w w' : World} {R p : Nat} (hr : Rd B w R p) (hs : w.heap.size ≤ w'.heap.size) (h : ∀ b, b < B → w'.heap[b]? = w.heap[b]?) : Rd B w' R p := by
  obtain ⟨a, len, cap, h1, h2, h3, h4, h5, h6, h7, h8, h9⟩ := hr
  have hR := h R h4.1
  refine ⟨a, len, cap, h1, h2, h3, ⟨h4.1, by omega⟩, by rw [World.cell?_of_block (w := w) (a := ⟨R, 0, none⟩) hR]; exact h5, by rw [World.cell?_of_block (w := w) (a := ⟨R, 1, none⟩) hR]; exact h6, by rw [World.frozen?_of_block (w := w) (a := ⟨R, 0, none⟩) hR]; exact h7,
    by rw [World.frozen?_of_block (w := w) (a := ⟨R, 1, none⟩) hR]; exact h8, ?_⟩
  rcases h9 with h9 | ⟨b, o, f, rfl, hl, hd, hf⟩
  · exact .inl h9
  · exact .inr ⟨b, o, f, rfl, hl, hd, fun i hi => ⟨by rw [World.cell?_of_block (w := w) (a := ⟨b, o + i, none⟩) (h b hl)]; exact (hf i hi).1, (hf i hi).2⟩⟩
theorem Rd.lt {B : Nat} {w : World} {R p : Nat} (hr : Rd B w R p) : R < B ∧ B ≤ w.heap.size := by
  obtain ⟨a, len, cap, h1, h2, h3, h4, _⟩ := hr; exact h4
theorem Rd.next {B : Nat} {w w' : World} {R p : Nat} (h : Below w.heap.size w w') (hr : Rd B w R p) : Rd B w' R p := hr.keep h.size fun b hb => h.block b (Nat.lt_of_lt_of_le hb hr.lt.2)
theorem Rd.grown {B : Nat} {w w' : World} {R p : Nat} {row : Option Nat} (hr : Rd B w R p) (hg : w.grownBy w' row) (h : ∀ k, row = some k → B ≤ k) : Rd B w' R p :=
  hr.keep hg.size fun b hb => hg.block b (Nat.lt_of_lt_of_le hb hr.lt.2) (fun e => by have := h b e.symm; omega)
theorem Rd.set {B : Nat} {w : World} {R p : Nat} (hr : Rd B w R p) {a : Addr} (ha : B ≤ a.block) (v : Value) : Rd B (w.setCell a v) R p :=
  hr.keep (by simp) fun b hb => Below.heap_setCell _ _ _ _ (by omega)

/-- of two small numbers that are not negative, the exclusive or is none either -/
theorem xor_nonneg {a b : Int} (ha : 0 ≤ a) (ha2 : a < 4611686018427387904) (hb : 0 ≤ b) (hb2 : b < 4611686018427387904) : 0 ≤ bits .xor .i64 a b := by
  obtain ⟨a, rfl⟩ := Int.eq_ofNat_of_zero_le ha
  obtain ⟨b, rfl⟩ := Int.eq_ofNat_of_zero_le hb
  have hx : a ^^^ b < 2 ^ 62 := Nat.xor_lt_two_pow (by omega) (by omega)
  have h1 : (BitVec.ofInt 64 (a : Int)).toNat = a := by
    rw [BitVec.ofInt_natCast, BitVec.toNat_ofNat]; exact Nat.mod_eq_of_lt (by omega)
  have h2 : (BitVec.ofInt 64 (b : Int)).toNat = b := by
    rw [BitVec.ofInt_natCast, BitVec.toNat_ofNat]; exact Nat.mod_eq_of_lt (by omega)
  have : bits .xor .i64 (a : Int) (b : Int) = ((a ^^^ b : Nat) : Int) := by
    show IntKind.i64.wrap ((BitVec.ofInt 64 (a : Int) ^^^ BitVec.ofInt 64 (b : Int)).toNat : Int) = _
    rw [BitVec.toNat_xor, h1, h2]
    exact IntWalk.i64_in _ (by omega)
  rw [this]
  omega

/-- what a call of pick comes to -/
def PickPost (B : Nat) (n : Int) (R p : Nat) (w : World) (e : Ending) (w' : World) : Prop :=
  ∃ i : Int, e = .returned (.int .i64 i) ∧ (0 ≤ i ∧ (1 ≤ n → i < n) ∧ (n < 1 → i = 0)) ∧ But w R w' ∧ Rd B w' R (p + 1)

set_option maxRecDepth 100000 in
set_option maxHeartbeats 2000000 in
theorem pick_any (B : Nat) (n : Int) (w : World) (R p : Nat) (hr : Rd B w R p) (hp : p ≤ 1000000) (hn : n ≤ 1000000) (hn0 : -1000000 ≤ n) : Calls Try.prog 66 #[.pointer (some ⟨R, 0, none⟩), .int .i64 n] w (PickPost B n R p w) := by
  obtain ⟨a, len, cap, h1, h2, h3, h4, h5, h6, h7, h8, h9⟩ := hr
  have hset : ∀ nq, But w R ((w.setCell ⟨R, 1, none⟩ (.int .i64 ((p : Int) + 1))).drewN nq) ∧ Rd B ((w.setCell ⟨R, 1, none⟩ (.int .i64 ((p : Int) + 1))).drewN nq) R (p + 1) := fun nq => by
    have hb : But w R ((w.setCell ⟨R, 1, none⟩ (.int .i64 ((p : Int) + 1))).drewN nq) := (But.set w R 1 _).drewN nq
    refine ⟨hb, a, len, cap, h1, h2, h3, by simpa using h4, ?_, ?_, by simpa using h7, by simpa using h8, h9.butx (ButX.but hb h4.2)⟩
    · rw [World.cell?_drewN, World.cell?_setCell_other _ _ _ _ (by simp)]; exact h5
    · rw [World.cell?_drewN]; exact World.cell?_setCell_same _ _ _ h6
  have HS := hid hset; clear hset
  by_cases c1 : n < 1
  · go_enter Try.func66, Try.ntmps66
    go_wp2_with fail
    go_ret
    exact ⟨0, rfl, ⟨by omega, by omega, fun _ => rfl⟩, HS.out 0⟩
  rcases h9 with rfl | ⟨b, o, f, rfl, hl, hd, hf⟩
  · go_enter Try.func66, Try.ntmps66
    go_wp2_with fail
    go_ret
    exact ⟨0, rfl, ⟨by omega, by omega, fun _ => rfl⟩, HS.out 0⟩
  by_cases c0 : len = 0
  · subst c0
    go_enter Try.func66, Try.ntmps66
    go_wp2_with fail
    go_ret
    exact ⟨0, rfl, ⟨by omega, by omega, fun _ => rfl⟩, HS.out 0⟩
  have e0 : ((len : Int) == 0) = false := by rw [beq_eq_false_iff_ne]; omega
  have hdd : R ≠ b := Ne.symm hd
  by_cases c2 : p < len
  · have g := hf p c2
    obtain ⟨g1, g2, g3⟩ := g
    have g4 : (w.setCell ⟨R, 1, none⟩ (.int .i64 ((p : Int) + 1))).cell? ⟨b, o + p, none⟩ = some (.int .u8 (f p)) := by
      rw [World.cell?_setCell_other _ _ _ _ (by intro h; exact hdd (congrArg Addr.block h))]; exact g1
    clear hf
    go_enter Try.func66, Try.ntmps66
    go_wp2_with fail
    go_ret
    exact ⟨_, rfl, ⟨Int.emod_nonneg _ (by omega), fun _ => Int.emod_lt_of_pos _ (by omega), by omega⟩, HS.out 0⟩
  · have m1 : p % len < len := Nat.mod_lt _ (by omega)
    have m2 : (p * 7 + 3) % len < len := Nat.mod_lt _ (by omega)
    have m3 : p / len ≤ p := Nat.div_le_self _ _
    obtain ⟨g1, g2, g3⟩ := hf _ m1
    obtain ⟨k1, k2, k3⟩ := hf _ m2
    have g4 : (w.setCell ⟨R, 1, none⟩ (.int .i64 ((p : Int) + 1))).cell? ⟨b, o + p % len, none⟩ = some (.int .u8 (f (p % len))) := by
      rw [World.cell?_setCell_other _ _ _ _ (by intro h; exact hdd (congrArg Addr.block h))]; exact g1
    have k4 : (w.setCell ⟨R, 1, none⟩ (.int .i64 ((p : Int) + 1))).cell? ⟨b, o + (p * 7 + 3) % len, none⟩ = some (.int .u8 (f ((p * 7 + 3) % len))) := by
      rw [World.cell?_setCell_other _ _ _ _ (by intro h; exact hdd (congrArg Addr.block h))]; exact k1
    have z0 : (0 : Int) < (len : Int) := by omega
    clear hf
    go_enter Try.func66, Try.ntmps66
    go_wp2_with fail
    have d1 : (p : Int) / (len : Int) ≤ 1000000 := by have := Int.ediv_le_self (a := (p : Int)) (len : Int) (by omega); omega
    have d0 : 0 ≤ (p : Int) / (len : Int) := Int.ediv_nonneg (by omega) (by omega)
    have i1 : 0 ≤ ((p : Int) * 7 + 3) % (len : Int) := Int.emod_nonneg _ (by omega)
    have i2 : ((p : Int) * 7 + 3) % (len : Int) < (len : Int) := Int.emod_lt_of_pos _ (by omega)
    have j1 : 0 ≤ (p : Int) % (len : Int) := Int.emod_nonneg _ (by omega)
    have j2 : (p : Int) % (len : Int) < (len : Int) := Int.emod_lt_of_pos _ (by omega)
    generalize f (p % len) = u at *
    generalize f ((p * 7 + 3) % len) = v at *
    generalize hq : (p : Int) / (len : Int) = q at *
    have T3 : Int.tdiv (p : Int) (len : Int) = q := by rw [Int.tdiv_eq_ediv_of_nonneg (by omega)]; exact hq
    have T1 : Int.tmod (p : Int) (len : Int) = (p : Int) % (len : Int) := Int.tmod_eq_emod_of_nonneg (by omega)
    have T2 : Int.tmod ((p : Int) * 7 + 3) (len : Int) = ((p : Int) * 7 + 3) % (len : Int) := Int.tmod_eq_emod_of_nonneg (by omega)
    have W1 : IntKind.i64.wrap ((p : Int) * 7) = (p : Int) * 7 := IntWalk.i64_in _ (by omega)
    have W2 : IntKind.i64.wrap ((p : Int) * 7 + 3) = (p : Int) * 7 + 3 := IntWalk.i64_in _ (by omega)
    have W3 : IntKind.i64.wrap (u * 131) = u * 131 := IntWalk.i64_in _ (by omega)
    have W4 : IntKind.i64.wrap (v * 1117) = v * 1117 := IntWalk.i64_in _ (by omega)
    have W5 : IntKind.i64.wrap (u * 131 + v * 1117) = u * 131 + v * 1117 := IntWalk.i64_in _ (by omega)
    have W6 : IntKind.i64.wrap ((p : Int) * 29) = (p : Int) * 29 := IntWalk.i64_in _ (by omega)
    have W7 : IntKind.i64.wrap (u * 131 + v * 1117 + (p : Int) * 29) = u * 131 + v * 1117 + (p : Int) * 29 := IntWalk.i64_in _ (by omega)
    have W8 : IntKind.i64.wrap (q * 53) = q * 53 := IntWalk.i64_in _ (by omega)
    have W9 : IntKind.i64.wrap (u * 131 + v * 1117 + (p : Int) * 29 + q * 53) = u * 131 + v * 1117 + (p : Int) * 29 + q * 53 := IntWalk.i64_in _ (by omega)
    refine wp_region_quiet_lit (by kernel_rfl) (by kernel_rfl) ?_
    repeat (go_big_quiet_step (fail))
    refine wpQuiet_nil ?_
    intro _ hw'
    obtain ⟨nq, hw''⟩ := hw'
    subst hw''
    clear W1 W2 W3 W4 W5 W6 W7 W8 W9 T1 T2 T3
    go_wp2_with fail
    go_ret
    have hx : 0 ≤ u * 131 + v * 1117 + (p : Int) * 29 + q * 53 := by omega
    have hy : u * 131 + v * 1117 + (p : Int) * 29 + q * 53 < 1000000000 := by omega
    have hxor := xor_nonneg (a := u * 131 + v * 1117 + (p : Int) * 29 + q * 53) (b := (u * 131 + v * 1117 + (p : Int) * 29 + q * 53) / 64) hx (by omega) (by omega) (by omega)
    refine ⟨_, rfl, ⟨?_, fun _ => ?_, fun h => by omega⟩, HS.out _⟩
    · rw [Int.tmod_eq_emod_of_nonneg hxor]; exact Int.emod_nonneg _ (by omega)
    · rw [Int.tmod_eq_emod_of_nonneg hxor]; exact Int.emod_lt_of_pos _ (by omega)

/-- what a call of num comes to, of a list whose numbers are all between lo and hi -/
def NumPost (B : Nat) (lo hi : Int) (R p : Nat) (w : World) (e : Ending) (w' : World) : Prop :=
  ∃ i : Int, e = .returned (.int .i64 i) ∧ (lo ≤ i ∧ i ≤ hi) ∧ But w R w' ∧ Rd B w' R (p + 1)

set_option maxHeartbeats 400000 in
theorem num_any (B0 : Nat) (lo hi : Int) (w : World) (R p : Nat) (B len : Nat) (g : Nat → Int) (hr : Rd B0 w R p) (hp : p ≤ 1000000) (h0 : 0 < len) (hl : len ≤ 100) (hB : B ≠ R) (hB2 : B < w.heap.size) (hc : ∀ i, i < len → w.cell? ⟨B, i, none⟩ = some (.int .i64 (g i)) ∧ lo ≤ g i ∧ g i ≤ hi) :
    Calls Try.prog 41 #[.pointer (some ⟨R, 0, none⟩), .slice (some ⟨B, 0, none⟩) len len] w (NumPost B0 lo hi R p w) := by
  go_enter Try.func41, Try.ntmps41
  go_wp2_with fail
  refine (pick_any _ _ _ R p hr hp (by omega) (by omega)).mono ?_
  rintro e w1 ⟨i, rfl, ⟨i0, i1, _⟩, hbut, hrd⟩
  obtain ⟨k, rfl⟩ := Int.eq_ofNat_of_zero_le i0
  have hk : k < len := by have := i1 (by omega); omega
  have hk2 : (k : Int) < (len : Int) := by omega
  obtain ⟨c1, c2, c3⟩ := hc k hk
  rw [← hbut.cell hB2 hB] at c1
  clear hc i1
  go_wp2_with fail
  go_ret
  exact ⟨_, rfl, ⟨c2, c3⟩, hbut, hrd⟩

/-- .. of a list of some numbers, just made -/
theorem num_new (ns : List Int) (lo hi : Int) (hn : ∀ n ∈ ns, lo ≤ n ∧ n ≤ hi) (h0 : 0 < ns.length) (h1 : ns.length ≤ 100) (B0 : Nat) (w : World) (t : TypeId) (R p : Nat) (hr : Rd B0 w R p) (hp : p ≤ 1000000) :
    Calls Try.prog 41 #[.pointer (some ⟨R, 0, none⟩), .slice (some ⟨w.heap.size, 0, none⟩) ns.length ns.length] (w.alloc (.cells (ns.map (Value.int .i64)).toArray t)) (NumPost B0 lo hi R p (w.alloc (.cells (ns.map (Value.int .i64)).toArray t))) := by
  have hl := hr.lt
  refine num_any B0 lo hi _ R p w.heap.size ns.length (fun i => ns.getD i 0) (hr.next (below_alloc _ _)) hp h0 h1 (by omega) (by simp) fun i hi => ?_
  rw [World.cell?_alloc_new]
  have e : ns[i]? = some (ns.getD i 0) := by rw [List.getD_eq_getElem?_getD, List.getElem?_eq_getElem hi]; rfl
  refine ⟨?_, hn _ (List.mem_of_getElem? e)⟩
  rw [List.getElem?_toArray, List.getElem?_map, e]
  rfl

theorem num_at (ns : List Int) (lo hi : Int) (hn : ∀ n ∈ ns, lo ≤ n ∧ n ≤ hi) (h0 : 0 < ns.length) (h1 : ns.length ≤ 100) (B0 : Nat) (w : World) (t : TypeId) (b R p : Nat) (hb : b = w.heap.size) (hr : Rd B0 w R p) (hp : p ≤ 1000000) :
    Calls Try.prog 41 #[.pointer (some ⟨R, 0, none⟩), .slice (some ⟨b, 0, none⟩) ns.length ns.length] (w.alloc (.cells (ns.map (Value.int .i64)).toArray t)) (NumPost B0 lo hi R p (w.alloc (.cells (ns.map (Value.int .i64)).toArray t))) := by
  subst hb; exact num_new ns lo hi hn h0 h1 B0 w t R p hr hp

/-- the bytes of an argument -/
def ByteArg (w : World) (a : Option Addr) (len cap : Nat) : Prop := len ≤ cap ∧ cap ≤ maxLen ∧ (len = 0 ∨ ∃ (b o : Nat) (f : Nat → Int), a = some ⟨b, o, none⟩ ∧ b < w.heap.size ∧ ∀ i, i < len → w.cell? ⟨b, o + i, none⟩ = some (.int .u8 (f i)) ∧ 0 ≤ f i ∧ f i ≤ 255)
theorem ByteArg.next {w w' : World} (h : Below w.heap.size w w') {a : Option Addr} {len cap : Nat} (hb : ByteArg w a len cap) : ByteArg w' a len cap := by
  obtain ⟨h1, h2, hb⟩ := hb
  refine ⟨h1, h2, ?_⟩
  rcases hb with hb | ⟨b, o, f, rfl, hl, hf⟩
  · exact .inl hb
  · exact .inr ⟨b, o, f, rfl, Nat.lt_of_lt_of_le hl h.size, fun i hi => ⟨by rw [h.cell (p := ⟨b, o + i, none⟩) hl]; exact (hf i hi).1, (hf i hi).2⟩⟩
theorem ByteArg.new {w : World} {a : Option Addr} {len cap m : Nat} (hb : ByteArg w a len cap) (hm : m ≤ len) (hm2 : m ≤ 2000) (t : TypeId) : Rd (w.heap.size + 1) (w.alloc (.cells #[.slice a m cap, .int .i64 0] t)) w.heap.size 0 := by
  obtain ⟨h1, h2, hb⟩ := hb
  refine ⟨a, m, cap, hm2, by omega, h2, by simp, by simp, by simp, by simp, by simp, ?_⟩
  rcases hb with hb | ⟨b, o, f, rfl, hl, hf⟩
  · exact .inl (by omega)
  · exact .inr ⟨b, o, f, rfl, by omega, by omega, fun i hi => ⟨by rw [World.cell?_alloc_lt (h := by exact hl)]; exact (hf i (by omega)).1, (hf i (by omega)).2⟩⟩

set_option maxHeartbeats 400000 in
theorem open_any (w : World) (a : Option Addr) (len cap : Nat) (hb : ByteArg w a len cap) : Calls Try.prog 38 #[.slice a len cap] w (RetP (fun v w' => ∃ R B, v = .pointer (some ⟨R, 0, none⟩) ∧ w.heap.size ≤ R ∧ Rd B w' R 0) w) := by
  have hcap := hb.1
  have hcap2 := hb.2.1
  unfold maxLen at hcap2
  by_cases h : 2000 < len
  · have h1 : 2000 ≤ cap := by omega
    have hR := hid (hb.new (m := 2000) (by omega) (by omega) 91)
    go_enter Try.func38, Try.ntmps38
    go_wp2_with fail
    go_ret
    exact RetP.mk ⟨_, _, rfl, Nat.le_refl _, hR.out⟩ (below_alloc _ _)
  · have hR := hid (hb.new (m := len) (by omega) (by omega) 91)
    go_enter Try.func38, Try.ntmps38
    go_wp2_with fail
    go_ret
    exact RetP.mk ⟨_, _, rfl, Nat.le_refl _, hR.out⟩ (below_alloc _ _)

end Go.Proofs.Ytffadknollkgiaa
