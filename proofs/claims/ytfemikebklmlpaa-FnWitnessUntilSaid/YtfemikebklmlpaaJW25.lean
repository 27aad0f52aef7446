/- Joined texts (LawWuF, DrawWu): contracts and plain laws. Conditions: those of each theorem. -/
import Derived.Test.YtfemikebklmlpaaJW22
import Derived.Test.YtfemikebklmlpaaJW23
import Derived.Test.YtfemikebklmlpaaJW24
import Derived.Test.YtfemikebklmlpaaJW2
import Derived.Test.YtfemikebklmlpaaJW19
import Derived.Test.YtfemikebklmlpaaJW15
set_option linter.unusedVariables false
set_option linter.unusedSimpArgs false
namespace Go.Proofs.Ytfemikebklmlpaa
open Go.RowKit
set_option linter.unusedVariables false
set_option linter.unusedSimpArgs false
namespace Bfs
open Gr

/-- what DrawWitnessUntil comes to: some graph, two rows of truths, a node -/
def WuDrawn (w : World) (e : Ending) (w' : World) : Prop := ∃ (g : G2) (thr goal : List Bool) (s : Int) (x : Value) (ta tb : Option Addr) (tc td : Nat), e = .returned (.tuple #[x, .slice ta thr.length tc, .slice tb goal.length td, .int .i64 s]) ∧
  GrIn Any w' g x ∧ BoolsIn Any w' ta thr ∧ BoolsIn Any w' tb goal ∧ thr.length ≤ tc ∧ tc ≤ maxLen ∧ goal.length ≤ td ∧ td ≤ maxLen ∧ i64 s ∧ g.states.length ≤ 1048576 ∧ Below w.heap.size w w'
set_option maxRecDepth 100000 in
set_option maxHeartbeats 8000000 in
theorem core_fnwu (bs : Value) (n c : Nat) (ab : Option Addr) (hbs : bs = .slice ab n c) (hn : n ≤ 1048576) (w : World) (hD : Calls Try.prog 7 #[bs] w (WuDrawn w)) : Calls Try.prog 3 #[bs] w (Ret (.bool true) w) := by
  subst hbs
  have HD := hid hD
  have hn1 : ¬ ((n : Int) > 1048576) := by omega
  clear hD
  go_enter Try.func3, Try.ntmps3
  go_wp2_with fail
  refine HD.out.mono ?_
  rintro e w1 ⟨g, thr, goal, s, x, ta, tb, tc, td, rfl, hx, ht, hg, htc, htc2, htd, htd2, hs, hsl, hb⟩
  have HX := hid hx
  obtain ⟨a, ca, b, cb, rfl⟩ := hx.shape
  have HT := hid ht
  have HG := hid hg
  have HS := hid (fun (W : World) (M : Below w1.heap.size w1 W) => specWu_any g thr goal s W _ ta tb tc td (HX.out.below M) (ht.below M) htc htc2 (hg.below M) htd htd2 hs)
  have HI := hid (fun (W : World) (M : Below w1.heap.size w1 W) => implWu_any g thr goal s W _ ta tb tc td (HX.out.below M) (ht.below M) htc htc2 (hg.below M) htd htd2 hs hsl)
  have HFINE := hid (fun h => wuT_fine (g := g) (thr := thr) (goal := goal) (s := s) h)
  have HSM := hid (wuT_small g thr goal s)
  have hh0 := below_alloc w1 (.cells #[.slice a g.states.length ca, .slice b g.next.length cb] 26)
  have M0 := hid hh0
  have B0 := hid (below_next hb hh0)
  have P0 := hid (boxp_at (w := w1) (a := .slice a g.states.length ca) (b := .slice b g.next.length cb) (t := 26) rfl)
  clear hx ht hg hb hh0 HD
  generalize wuT g thr goal s = res at *
  go_wp2_with fail
  generalize w1.alloc (.cells #[.slice a g.states.length ca, .slice b g.next.length cb] 26) = w2 at *
  obtain ⟨p0, p1, p2, p3, p4⟩ := P0.out
  go_wp2_with fail
  refine (HI.out w2 M0.out).mono ?_
  rintro e w3 ⟨v, rfl, ⟨u, rfl, aG, cG, bsG, rfl, g1, g2, g3, g4⟩, hb⟩
  have OG := hid g3
  replace M0 := hid (below_next M0.out hb)
  replace B0 := hid (below_next B0.out hb)
  replace P0 := hid (boxp_next hb P0.out)
  clear hb g3 g4 p0 p1 p2 p3 p4
  obtain ⟨p0, p1, p2, p3, p4⟩ := P0.out
  go_wp2_with fail
  refine (HS.out w3 M0.out).mono ?_
  rintro e w4 ⟨v, rfl, ⟨u, rfl, aS, cS, rfl, h1, h2, h3, _⟩, hb⟩
  have OS := hid h1
  replace OG := hid (OG.out.below hb)
  replace M0 := hid (below_next M0.out hb)
  replace B0 := hid (below_next B0.out hb)
  replace P0 := hid (boxp_next hb P0.out)
  clear hb h1 p0 p1 p2 p3 p4 HI HS
  have hln : ((ints res).map (Value.int .i64)).length = (ints res).length := by rw [List.length_map]
  rw [hln] at g1
  have HIG := hid (show IntsIn Any w4 aG (ints res) from ⟨OG.out.any, OS.out.2⟩)
  have HWP := hid (fun (W : World) (M : Below w4.heap.size w4 W) => wpInts_any (ints res) W aG aS cG cS (HIG.out.below M) (OS.out.below M) g1 g2 h2 h3)
  obtain ⟨rl, hrl⟩ : ∃ rl, rl = res.length := ⟨_, rfl⟩
  have hrl2 : (ints res).length = rl := by rw [hrl, ints_len]
  rw [hrl2] at HWP g1 h2
  rw [hrl2]
  by_cases hq : res = []
  · have hb : (!res.isEmpty) = false := by rw [hq]; rfl
    rw [hb]
    clear HFINE HSM HIG OG OS hln hrl2 hb hq hrl
    go_wp2_with fail
    refine (HWP.out _ (Below.refl _ _)).mono ?_
    rintro e w5 ⟨rfl, hb⟩
    have M5 := hid hb
    have B5 := hid (below_next B0.out hb)
    clear hb
    go_wp2_with fail
    refine (HWP.out _ M5.out).mono ?_
    rintro e w6 ⟨rfl, hb⟩
    have B6 := hid (below_next B5.out hb)
    go_wp2_with fail
    go_ret
    exact Ret.mk rfl B6.out
  · have hb : (!res.isEmpty) = true := by
      cases hr : res with
      | nil => exact absurd hr hq
      | cons => rfl
    have HFN := hid (HFINE.out hq)
    have hpos : 0 < rl := by rw [hrl]; exact List.length_pos_iff.2 hq
    rw [hb]
    clear HFINE hb hq hln
    obtain ⟨sN, rfl⟩ : ∃ m : Nat, s = m := ⟨s.toNat, by have := HFN.out.s0; omega⟩
    have HLEN := hid hrl
    have HCELL := hid (show ∀ W, Below w4.heap.size w4 W → ∀ (i m : Nat), res[i]? = some m → ∃ bl ol, aG = some ⟨bl, ol, none⟩ ∧ bl < W.heap.size ∧ W.cell? ⟨bl, ol + i, none⟩ = some (.int .i64 m) from fun W M i m hm => by
      have hil : i < (ints res).length := by rw [ints_len]; exact (List.getElem?_eq_some_iff.1 hm).1
      obtain ⟨bl, ol, e, h1, _, h2, _⟩ := ints_at HIG.out M hil
      refine ⟨bl, ol, e, h1, ?_⟩
      rw [h2]
      obtain ⟨_, h3⟩ := List.getElem?_eq_some_iff.1 hm
      simp [ints, h3])
    have hsm1 : rl ≤ 60 := by rw [hrl]; exact HSM.out.1
    unfold maxLen at g2 htc2 htd2
    clear hrl hrl2 HSM
    go_wp2_with fail
    refine (HWP.out _ (Below.refl _ _)).mono ?_
    rintro e w5 ⟨rfl, hb⟩
    have M5 := hid hb
    clear hb HWP
    go_wp2_with fail
    go_loopw [11] (fun i wr => ∃ k : Nat, k < rl ∧ i = .int .i64 k ∧ Hid (Below w4.heap.size w4 wr)) (fun i _ => rl - (intOf i).toNat)
    case atStart => exact ⟨0, hpos, rfl, M5⟩
    case round =>
      obtain ⟨k, hk, rfl, HM⟩ := hrel
      obtain ⟨wo, rfl⟩ : ∃ wo : World, wo = wr := ⟨_, rfl⟩
      clear M5
      have HM1 := hid (below_next M0.out HM.out)
      by_cases hk1 : k + 1 < rl
      · have hk2 : (k : Int) + 1 < (rl : Int) := by omega
        obtain ⟨u, hu⟩ : ∃ u, res[k]? = some u := ⟨_, List.getElem?_eq_getElem (by have := HLEN.out; omega)⟩
        obtain ⟨v, hv⟩ : ∃ v, res[k + 1]? = some v := ⟨_, List.getElem?_eq_getElem (by have := HLEN.out; omega)⟩
        obtain ⟨bl, ol, rfl, hbl, gl⟩ := HCELL.out wo HM.out k u hu
        obtain ⟨_, f1, f2⟩ := HFN.out.edge k u v hu hv
        have huN := HFN.out.lt u (List.mem_of_getElem? hu)
        have hut : u < thr.length := by have := HFN.out.tl; omega
        have hug : u < goal.length := by have := HFN.out.gl; omega
        obtain ⟨bt, ot, rfl, hbt, gt⟩ := bools_at HT.out HM1.out hut
        obtain ⟨bg, og, rfl, hbg, gg⟩ := bools_at HG.out HM1.out hug
        have e1 : thr[u] = true := by rw [← f1]; simp [goalOf, List.getD_eq_getElem?_getD, hut]
        have e2 : goal[u] = false := by rw [← f2]; simp [goalOf, List.getD_eq_getElem?_getD, hug]
        rw [e1] at gt
        rw [e2] at gg
        have hut2 : (u : Int) < (thr.length : Int) := by omega
        have hug2 : (u : Int) < (goal.length : Int) := by omega
        have hkr : (k : Int) < (rl : Int) := by omega
        clear e1 e2 f1 f2 hu hv
        go_wp2_with fail
        go_roundw
        case rel => exact ⟨k + 1, hk1, by go_num, HM⟩
        case measure => (simp [intOf]; try omega)
      · have hk2 : ¬ (k : Int) + 1 < (rl : Int) := by omega
        have P5 := hid (boxp_next HM.out P0.out)
        obtain ⟨p0, p1, p2, p3, p4⟩ := P5.out
        obtain ⟨t, ht⟩ : ∃ t, res[rl - 1]? = some t := ⟨_, List.getElem?_eq_getElem (by have := HLEN.out; omega)⟩
        have hgl : res.getLast? = some t := by rw [List.getLast?_eq_getElem?, ← HLEN.out]; exact ht
        obtain ⟨t', ht', hgt⟩ := HFN.out.last
        obtain rfl : t' = t := by rw [hgl] at ht'; exact (Option.some.inj ht').symm
        have htN := HFN.out.lt t' (List.mem_of_getElem? ht)
        have hsN : sN < g.states.length := by have := HFN.out.s1; omega
        obtain ⟨bl, ol, rfl, hbl, gl⟩ := HCELL.out wo HM.out (rl - 1) t' ht
        have hrm : (rl : Int) - 1 = ((rl - 1 : Nat) : Int) := by omega
        have hrm2 : ((rl - 1 : Nat) : Int) < (rl : Int) := by omega
        have HSP := hid (fun (W : World) (M : Below w1.heap.size w1 W) => spath_any g HFN.out.ok sN t' hsN htN W _ (HX.out.below M))
        have HSHORT := hid (HFN.out.short t' hgl)
        rw [Int.toNat_natCast] at HSHORT
        have HPV := hid (fun (W : World) (M : Below w4.heap.size w4 W) => pvalid_any g HFN.out.ok res (by rw [← HLEN.out]; exact hpos) HFN.out.lt (fun a u v h1 h2 => (HFN.out.edge a u v h1 h2).1) W _ (some ⟨bl, ol, none⟩) cG (HX.out.below (below_next M0.out M)) (HIG.out.below M) (by rw [← HLEN.out]; exact g1) (by unfold maxLen; exact g2))
        rw [← HLEN.out] at HPV
        have htg : t' < goal.length := by have := HFN.out.gl; omega
        have htg2 : (t' : Int) < (goal.length : Int) := by omega
        have hgt2 : goal[t'] = true := by rw [← hgt]; simp [goalOf, List.getD_eq_getElem?_getD, htg]
        have HFST := hid HFN.out.fst
        rw [Int.toNat_natCast] at HFST
        have HGT := hid hgt2
        have HTL := hid ht
        generalize wuL (adjOf g.next) g.states.length sN (isN t') = sh at *
        clear ht hgl ht' hgt hgt2
        go_wp2_with fail
        refine wp_region_ord (C := fun wZ => ∃ xZ, wZ = World.over _ xZ) [0,1,2,3,4,5,6,7] (.one 8 (.one 9 .done)) [] (by kernel_rfl) (by kernel_rfl) (fun d _ _ _ _ h => by cases d <;> exact h) (bex (Below.refl _ _).drew) ?_; simp only [pick, List.getElem?_cons_succ, List.getElem?_cons_zero]; (repeat (go_big_quiet_step (fail))); refine wpQuiet_nil ?_; simp only [ordW, pick, List.getElem?_cons_succ, List.getElem?_cons_zero]
        go_wp2_with fail
        refine (HSP.out _ (below_d HM1.out)).mono ?_
        rintro e w6 ⟨v, rfl, ⟨aP, cP, bsP, rfl, q1, q2, _, _⟩, hb⟩
        have B6 := hid (show Below wo.heap.size wo w6 from below_then (below_d (Below.refl _ _)) hb (by simp))
        have M6 := hid (below_next HM.out B6.out)
        have P6 := hid (boxp_next B6.out P5.out)
        have hlen : ((ints sh).map (Value.int .i64)).length = sh.length := by rw [List.length_map, ints_len]
        have HLN2 := hid hlen
        clear hb p0 p1 p2 p3 p4 gl hbl hlen
        go_wp2_with fail
        refine ⟨bex B6.out, ?_⟩
        go_wp2_with fail
        refine ⟨bex B6.out, ?_⟩
        obtain ⟨p0, p1, p2, p3, p4⟩ := P6.out
        go_wp2_with fail
        refine (HPV.out _ M6.out).mono ?_
        rintro e w7 ⟨rfl, hb⟩
        have M7 := hid (below_next M6.out hb)
        have M71 := hid (below_next M0.out M7.out)
        have B7 := hid (below_next B0.out M7.out)
        obtain ⟨bl2, ol2, e0, hbl, gl0⟩ := HCELL.out w7 M7.out 0 sN HFST.out
        simp only [Option.some.injEq, Addr.mk.injEq, and_true] at e0
        obtain ⟨rfl, rfl⟩ := e0
        have gl00 : w7.cell? ⟨bl, ol, none⟩ = some (.int .i64 sN) := gl0
        obtain ⟨bl3, ol3, e1, _, gl1⟩ := HCELL.out w7 M7.out (rl - 1) t' HTL.out
        simp only [Option.some.injEq, Addr.mk.injEq, and_true] at e1
        obtain ⟨rfl, rfl⟩ := e1
        obtain ⟨bg, og, rfl, hbg, gg⟩ := bools_at HG.out M71.out htg
        rw [HGT.out] at gg
        have hss : ((sN : Int) == (sN : Int)) = true := by simp
        have hle : (sh.length : Int) ≤ (rl : Int) := by have h1 := HSHORT.out; have h2 := HLEN.out; omega
        have hrl0 : (0 : Int) < (rl : Int) := by omega
        rw [show (ints sh).length = sh.length from ints_len sh]
        clear hb
        go_wp2_with fail
        go_ret
        exact Ret.mk rfl B7.out
end Bfs
end Go.Proofs.Ytfemikebklmlpaa
namespace Go.Proofs.Ytfemikebklmlpaa
open Go.RowKit
set_option linter.unusedVariables false
set_option linter.unusedSimpArgs false
namespace Gr

def BRow (w : World) (g : Nat) (l : List Bool) : Prop := Row w g l.length (fun i => (l.map Value.bool).getD i undef)
theorem BRow.set {w : World} {g q : Nat} {l : List Bool} (h : BRow w g l) (hq : q < l.length) (n : Bool) : BRow (w.setCell ⟨g, q, none⟩ (.bool n)) g (l.set q n) := by
  have h5 := Row.set h hq (.bool n)
  unfold BRow
  simp only [List.length_set]
  refine h5.congr fun i hi => ?_
  show (if i = q then _ else (l.map Value.bool).getD i undef) = ((l.set q n).map Value.bool).getD i undef
  rw [List.getD_eq_getElem?_getD, List.getD_eq_getElem?_getD, List.getElem?_map, List.getElem?_map, List.getElem?_set]
  by_cases hiq : i = q
  · subst hiq; simp [hi]
  · rw [if_neg hiq, if_neg (Ne.symm hiq)]
theorem BRow.bools {w : World} {g : Nat} {l : List Bool} (h : BRow w g l) : BoolsIn Any w (some ⟨g, 0, none⟩) l :=
  .inr ⟨g, 0, rfl, trivial, h.1, fun i v hv => by
    have hlt : i < l.length := by have := (List.getElem?_eq_some_iff.1 hv).1; simpa using this
    rw [Nat.zero_add, h.2.1 i hlt]
    show some ((l.map (Value.bool)).getD i undef) = _
    rw [List.getD_eq_getElem?_getD, hv]; rfl⟩
theorem BRow.at {w : World} {g q : Nat} {l : List Bool} (h : BRow w g l) (hq : q < l.length) : w.cell? ⟨g, q, none⟩ = some (.bool l[q]) ∧ w.frozen? ⟨g, q, none⟩ = false := ⟨by
  rw [h.2.1 q hq]
  show some ((l.map (Value.bool)).getD q undef) = _
  rw [List.getD_eq_getElem?_getD, List.getElem?_map, List.getElem?_eq_getElem hq]; rfl, h.2.2 q⟩
theorem below_but {w w1 W : World} {R : Nat} (hb : Below w.heap.size w w1) (h : But w1 R W) (hR : w.heap.size ≤ R) : Below w.heap.size w W :=
  ⟨h.os.trans hb.os, h.tape.trans hb.tape, h.output.trans hb.output, Nat.le_trans hb.size h.size, fun k hk => (h.block k (Nat.lt_of_lt_of_le hk hb.size) (by omega)).trans (hb.block k hk)⟩
theorem bools_frame {p q : Nat → Prop} {w w' : World} {a : Option Addr} {l : List Bool} (h : BoolsIn p w a l) (hs : w.heap.size ≤ w'.heap.size) (hp : ∀ b, p b → b < w.heap.size → q b ∧ w'.heap[b]? = w.heap[b]?) : BoolsIn q w' a l := RowIn.frame h hs hp

/-- a drawn, perhaps changed graph in a variable -/
theorem graph_mut (w : World) (R B : Nat) (hr : Rd B w R 0) : Calls Try.prog 31 #[.pointer (some ⟨R, 0, none⟩)] w (fun e w' => ∃ v, e = .returned v ∧ But w R w' ∧ ∃ p', Rd B w' R p' ∧ p' ≤ 1100 ∧ (∀ W, Below w'.heap.size w' W → Calls Try.prog 30 #[.pointer (some ⟨R, 0, none⟩), v] W (fun e W' => MutG B R p' W e W'))) := by
  refine (graph_any w R B 0 hr (by omega)).mono ?_
  rintro e w' ⟨vs, vn, g, L, O, p', rfl, hG, h1, h2, h3, hb, hr', hp⟩
  exact ⟨_, rfl, hb, p', hr', by omega, fun W M => mutG_any L O none vs vn g W R B p' (hG.next M) (by omega) h2 h3 (hr'.next M) (by omega)⟩

set_option maxRecDepth 100000 in
set_option maxHeartbeats 8000000 in
theorem drawWu_any (w : World) (a : Option Addr) (len cap : Nat) (hb : ByteArg w a len cap) : Calls Try.prog 7 #[.slice a len cap] w (Bfs.WuDrawn w) := by
  go_enter Try.func7, Try.ntmps7
  go_upto_region 1 with fail
  refine wp_gen (fun W => Below w.heap.size w W ∧ BoxP W w.heap.size (.slice none 0 0) (.slice none 0 0)) ⟨below_alloc _ _, boxp_at rfl⟩ ?_
  rintro W0 ⟨h1, h2⟩
  have HB0 := hid h1
  have HZ0 := hid h2
  have hba := hid (hb.next h1)
  clear h1 h2 hb
  go_wp2_with fail
  refine (open_any W0 a len cap hba.out).mono ?_
  rintro e w1 ⟨_, rfl, ⟨R, B, rfl, hR, hr⟩, hb⟩
  have HB1 := hid (below_next HB0.out hb)
  have HZ1 := hid (boxp_next hb HZ0.out)
  have HR1 := hid hr
  have hRw : w.heap.size < R := by have := HZ0.out.1; omega
  have hRs := hr.lt
  clear HB0 HZ0 hba hb hr
  go_wp2_with fail
  refine (graph_mut w1 R B HR1.out).mono ?_
  rintro e w2 ⟨v, rfl, hb, p', hr2, hp', hM⟩
  have HB2 := hid hb
  have HM := hid (hM w2 (Below.refl _ _))
  have HZ2 := hid (boxp_but hb (by omega) HZ1.out)
  have hsz2 := hb.size
  clear hb hr2 hM HR1
  go_wp2_with fail
  refine HM.out.mono ?_
  rintro e w3 ⟨v3, g, p3, rfl, hG, hn, hb, hr3, hp3⟩
  obtain ⟨av, cv, bv, dv, rfl, q1, q2, q3, q4, q5, q6⟩ := id hG
  have HB3 := hid (HB2.out.trans hb)
  have HZ3 := hid (boxp_but hb (by omega) HZ2.out)
  have hsz3 := hb.size
  have HG3 := hid hG
  have HR3 := hid hr3
  unfold maxLen at q2
  clear HB2 HZ2 HZ1 hb hG hr3 q3 q4 q5 q6 HM
  have h0 := below_alloc w3 (.cells #[.slice av g.states.length cv, .slice bv g.next.length dv] 26)
  have HB4 := hid (HB3.out.next h0)
  have HZ4 := hid (boxp_next h0 HZ3.out)
  have HG4 := hid (HG3.out.below h0)
  have HR4 := hid (HR3.out.next h0)
  have X4 := hid (boxp_at (w := w3) (B := w3.heap.size) (a := .slice av g.states.length cv) (b := .slice bv g.next.length dv) (t := 26) rfl)
  go_upto_region 3 with fail
  obtain ⟨O7, hO7⟩ : ∃ O, O = w3.heap.size := ⟨_, rfl⟩
  rw [← hO7] at X4 ⊢
  have hO7R : R < O7 := by omega
  have hO7z : w.heap.size < O7 := by omega
  have hO72 : w2.heap.size ≤ O7 := by omega
  refine wp_gen (fun W => But w1 R W ∧ BoxP W w.heap.size (.slice none 0 0) (.slice none 0 0) ∧ GrIn (fun b => w2.heap.size ≤ b) W g (.agg #[.slice av g.states.length cv, .slice bv g.next.length dv]) ∧ Rd B W R p3 ∧ BoxP W O7 (.slice av g.states.length cv) (.slice bv g.next.length dv)) ⟨HB4.out, HZ4.out, HG4.out, HR4.out, X4.out⟩ ?_
  clear h0 HB3 HZ3 HG3 HR3 HB4 HZ4 HG4 HR4 X4 hO7
  rintro w4 ⟨k1, k2, k3, k4, k5⟩
  have HB4 := hid k1
  have HZ4 := hid k2
  have HG4 := hid k3
  have HR4 := hid k4
  have X4 := hid k5
  clear k1 k2 k3 k4 k5
  obtain ⟨x0, x1, x2, x3, x4⟩ := X4.out
  go_wp2_with fail
  refine (Bl.set_any B g.states.length g.next.length R p3 w4 av bv cv dv HR4.out (by omega) hn q1 (by unfold maxLen; omega)).mono ?_
  rintro e w5 ⟨vt, thr, p5, rfl, hot, hlt, hb, hr5, hp5⟩
  obtain ⟨ta, tc, rfl, t1, t2, t3⟩ := hot.shape
  have HB5 := hid (HB4.out.trans hb)
  have HZ5 := hid (boxp_but hb (by omega) HZ4.out)
  have HG5 := hid (HG4.out.frame (q := fun b => w2.heap.size ≤ b) hb.size fun b hb1 hl => ⟨hb1, hb.block b hl (by omega)⟩)
  have X5 := hid (boxp_but hb (by omega) X4.out)
  have HR5 := hid hr5
  have hw42 : w2.heap.size ≤ w4.heap.size := by have := X4.out.1; omega
  have HT5 := hid (show BoolsIn (fun b => w2.heap.size ≤ b) w5 ta thr from by
    rcases hot.boolsIn with h | ⟨b, o, h1, _, h2, h3⟩
    · exact .inl h
    · refine .inr ⟨b, o, h1, ?_, h2, h3⟩
      rcases hot.row with ⟨_, h⟩ | ⟨g', c', h, hB, _⟩
      · simp at h; rw [h.1] at h1; cases h1
      · simp at h; rw [h.1] at h1; simp at h1
        omega)
  clear HB4 HZ4 HG4 X4 HR4 hb hr5 hot x0 x1 x2 x3 x4
  obtain ⟨x0, x1, x2, x3, x4⟩ := X5.out
  go_wp2_with fail
  refine (Bl.set_any B g.states.length g.next.length R p5 w5 av bv cv dv HR5.out (by omega) hn q1 (by unfold maxLen; omega)).mono ?_
  rintro e w6 ⟨vg, goal, p6, rfl, hog, hlg, hb, hr6, hp6⟩
  obtain ⟨ga, gc, hvg, u1, u2, u3⟩ := hog.shape
  subst hvg
  unfold maxLen at u2
  have HOG := hid (show goal.length = 0 ∨ ∃ gb, ga = some ⟨gb, 0, none⟩ ∧ w5.heap.size + 1 ≤ gb ∧ BRow w6 gb goal from by
    rcases hog.row with ⟨h, _⟩ | ⟨g', c', h, hB, _, _, hrow⟩
    · exact .inl (by rw [h]; rfl)
    · simp at h; exact .inr ⟨g', h.1, hB, hrow⟩)
  have HB6 := hid hb
  have HR6 := hid hr6
  have hp6a : p6 ≤ 4000 := by omega
  clear hb hr6 hog x0 x1 x2 x3 x4
  go_wp2_with fail
  go_loopw [10] (fun i wr => ∃ (k : Nat) (l2 : List Bool) (q : Nat), i = .int .i64 k ∧ k ≤ goal.length ∧ Hid (l2.length = goal.length) ∧ Hid (q ≤ p6 + k) ∧ Hid (But w5 R wr) ∧ Hid (Rd B wr R q) ∧ Hid (goal.length = 0 ∨ ∃ gb, ga = some ⟨gb, 0, none⟩ ∧ w5.heap.size + 1 ≤ gb ∧ BRow wr gb l2)) (fun i _ => goal.length - (intOf i).toNat)
  case atStart => exact ⟨0, goal, p6, rfl, Nat.zero_le _, hid rfl, hid (by omega), HB6, HR6, HOG⟩
  case round =>
    obtain ⟨k, l2, q, rfl, hk, HL2, HQ, HBW, HRW, HO⟩ := hrel
    obtain ⟨wi, rfl⟩ : ∃ wi : World, wi = wr := ⟨_, rfl⟩
    clear HB6 HR6 HOG
    have hqb := HQ.out
    have hB5 : B ≤ w5.heap.size := HR5.out.lt.2
    by_cases hkg : k < goal.length
    · have hkg2 : (k : Int) < (goal.length : Int) := by omega
      obtain ⟨gb, rfl, hgb, hrow⟩ : ∃ gb, ga = some ⟨gb, 0, none⟩ ∧ w5.heap.size + 1 ≤ gb ∧ BRow wi gb l2 := by
        rcases HO.out with h | h
        · omega
        · exact h
      have hk2 : k < l2.length := by have := HL2.out; omega
      obtain ⟨c0, f0⟩ := hrow.at hk2
      have hgl := hrow.1
      have HROW := hid hrow
      have hgR : gb ≠ R := by have := HR5.out.lt; omega
      clear hrow HO
      obtain ⟨bk, hbk⟩ : ∃ b, b = l2[k] := ⟨_, rfl⟩
      rw [← hbk] at c0
      clear hbk
      cases bk with
      | true =>
        go_wp2_with fail
        refine (pick_any B _ wi R q HRW.out (by omega) (by omega) (by omega)).mono ?_
        rintro e w7 ⟨jj, rfl, _, hb, hr7⟩
        have hrow7 : BRow w7 gb l2 := Row.kept HROW.out hb.size (hb.block gb hgl hgR)
        obtain ⟨c7, f7⟩ := hrow7.at hk2
        have N1 := hid (hrow7.set hk2 (jj == 0))
        have N2 := hid (show But w5 R (w7.setCell ⟨gb, k, none⟩ (.bool (jj == 0))) from But.setNew (HBW.out.trans hb) (show w5.heap.size ≤ gb by omega) _)
        have N3 := hid (hr7.set (a := ⟨gb, k, none⟩) (show B ≤ gb by omega) (.bool (jj == 0)))
        have N4 := hid (show (l2.set k (jj == 0)).length = goal.length by rw [List.length_set]; exact HL2.out)
        clear hb hr7 hrow7 HROW HBW HRW c0 f0
        go_wp2_with fail
        go_roundw
        case rel => exact ⟨k + 1, l2.set k (jj == 0), q + 1, by go_num, hkg, N4, hid (by omega), N2, N3, hid (.inr ⟨gb, rfl, hgb, N1.out⟩)⟩
        case measure => (simp [intOf]; try omega)
      | false =>
        have N1 := hid (HROW.out.set hk2 false)
        have N2 := hid (show But w5 R (wi.setCell ⟨gb, k, none⟩ (.bool false)) from But.setNew HBW.out (show w5.heap.size ≤ gb by omega) _)
        have N3 := hid (HRW.out.set (a := ⟨gb, k, none⟩) (show B ≤ gb by omega) (.bool false))
        have N4 := hid (show (l2.set k false).length = goal.length by rw [List.length_set]; exact HL2.out)
        clear HROW HBW HRW
        go_wp2_with fail
        go_roundw
        case rel => exact ⟨k + 1, l2.set k false, q, by go_num, hkg, N4, hid (by omega), N2, N3, hid (.inr ⟨gb, rfl, hgb, N1.out⟩)⟩
        case measure => (simp [intOf]; try omega)
    · obtain rfl : k = goal.length := by omega
      have hkk : ¬ ((goal.length : Int) < (goal.length : Int)) := by omega
      have hO7s := X5.out.1
      have X6 := hid (boxp_but HBW.out (by omega) X5.out)
      obtain ⟨x0, x1, x2, x3, x4⟩ := X6.out
      have Rdd := HRW.out.next (below_d (Below.refl wi.heap.size wi))
      have K := hid ((KeepP.refl [O7] wi).drew)
      go_wp2_with fail
      refine wp_region_ord (C := fun wZ => ∃ xZ, wZ = World.overP _ ([O7]) xZ) [0,1,2,3] (.one 4 (.one 5 (.one 6 (.one 7 (.one 8 (.fre 9 .done)))))) [9] (by kernel_rfl) (by kernel_rfl) (fun d _ _ _ _ h => by cases d <;> exact h) (KeepP.refl _ _).drew.ex ?_; simp only [pick, List.getElem?_cons_succ, List.getElem?_cons_zero]; (repeat (go_big_quiet_step (fail))); refine wpQuiet_nil ?_; simp only [ordW, pick, List.getElem?_cons_succ, List.getElem?_cons_zero]
      have h0 := below_next (below_d (Below.refl wi.heap.size wi)) (below_alloc wi.drew (.cells (([0, 0, 1, 2, -1, 60] : List Int).map (Value.int .i64)).toArray 3))
      go_wp2_with fail
      refine ⟨(K.out.trans (KeepP.below (below_alloc _ _))).ex, ?_⟩
      go_wp2_with fail
      refine (num_at [0, 0, 1, 2, -1, 60] (-1) 60 (by simp) (by decide) (by decide) B wi.drew 3 wi.heap.size R q (by simp) Rdd (by omega)).mono ?_
      rintro e w8 ⟨s, rfl, ⟨hs1, hs2⟩, hb, R8⟩
      have hsi : i64 s := by unfold i64; omega
      have hbA : But w5 R w8 := HBW.out.trans ((But.of h0).trans hb)
      have hbB : But wi R w8 := (But.of h0).trans hb
      have hRO : R ≠ O7 := by omega
      have K8 := hid ((KeepP.below (S := [O7]) h0).trans (KeepP.but hb (by simp; exact hRO)))
      have hww : w.heap.size < w5.heap.size := HZ5.out.1
      have Z8 := hid (boxp_but hbA (by omega) HZ5.out)
      obtain ⟨z0, z1, z2, z3, z4⟩ := Z8.out
      have hst : ∀ u1 u2 b, b ≠ w.heap.size → ((w8.setCell ⟨w.heap.size, 0, none⟩ u1).setCell ⟨w.heap.size, 1, none⟩ u2).heap[b]? = w8.heap[b]? := fun u1 u2 b hb => (Below.heap_setCell _ _ _ _ hb).trans (Below.heap_setCell _ _ _ _ hb)
      have FIN := hid (show Bfs.WuDrawn w (.returned (.tuple #[.agg #[.slice av g.states.length cv, .slice bv g.next.length dv], .slice ta thr.length tc, .slice ga goal.length gc, .int .i64 s])) ((w8.setCell ⟨w.heap.size, 0, none⟩ (.slice av g.states.length cv)).setCell ⟨w.heap.size, 1, none⟩ (.slice bv g.next.length dv)) from by
        have hl2 := HL2.out
        rw [← hl2]
        refine ⟨g, thr, l2, s, _, ta, ga, tc, gc, rfl, HG5.out.frame (by simpa using hbA.size) (fun b hb1 hl => ⟨trivial, (hst _ _ b (by omega)).trans (hbA.block b hl (by omega))⟩), bools_frame HT5.out (by simpa using hbA.size) (fun b hb1 hl => ⟨trivial, (hst _ _ b (by omega)).trans (hbA.block b hl (by omega))⟩), ?_, t1, t2, by omega, by unfold maxLen; omega, hsi, by omega, below_set2 (below_but HB1.out (HB5.out.trans hbA) (by omega)) (Nat.le_refl _) _ _⟩
        rcases HO.out with h | ⟨gb, rfl, hgb, hrow⟩
        · exact .inl (by have : l2 = [] := List.eq_nil_of_length_eq_zero (by omega); rw [this]; rfl)
        · have hr8 : BRow w8 gb l2 := Row.kept hrow hbB.size (hbB.block gb hrow.1 (by have := HR5.out.lt; omega))
          exact (show BRow _ gb l2 from Row.setOther (Row.setOther hr8 (a := ⟨w.heap.size, 0, none⟩) (show gb ≠ w.heap.size by omega) _) (a := ⟨w.heap.size, 1, none⟩) (show gb ≠ w.heap.size by omega) _).bools)
      have ZY := hid (boxp_set1 (boxp_set0 Z8.out (.slice av g.states.length cv)) (.slice bv g.next.length dv))
      have hzO : w.heap.size ≠ O7 := by omega
      have K9 := hid ((K8.out.set (a := ⟨w.heap.size, 0, none⟩) (by simp; exact hzO) (.slice av g.states.length cv)).set (a := ⟨w.heap.size, 1, none⟩) (by simp; exact hzO) (.slice bv g.next.length dv))
      clear hb hbA hbB R8 h0 K Rdd HBW HRW HO HL2 HG5 HT5 X5 X6 HR5 HB5 HB1 x0 x1 x2 x3 x4 Z8 HZ5
      go_wp2_with fail
      refine ⟨K8.out.ex, ?_⟩
      go_wp2_with fail
      refine ⟨K9.out.ex, ?_⟩
      go_wp2_with fail
      refine ⟨K9.out.ex, ?_⟩
      go_wp2_with fail
      refine ⟨K9.out.ex, ?_⟩
      go_wp2_with fail
      obtain ⟨y0, y1, y2, _⟩ := ZY.out
      refine bodyPost_ret (v := .tuple #[.agg #[.slice av g.states.length cv, .slice bv g.next.length dv], .slice ta thr.length tc, .slice ga goal.length gc, .int .i64 s]) (by simp [results, Try.results7, go_sem, y1, y2]) rfl ?_
      exact FIN.out
end Gr
end Go.Proofs.Ytfemikebklmlpaa
