/- The program's formula: a node above given nodes of one's own. Conditions: those of each contract. -/
import Derived.Test.YthdbkknbbppfnaaDoorFormulaClone
import Derived.Test.YthdbkknbbppfnaaDoorGrow
namespace Go.Proofs.YthdbkknbbppfnaaDoor
open Go.RowKit
namespace Formula

/-- a row of nodes of one's own, the nodes' blocks from B on -/
def OwnArg (B : Nat) (w : World) (l : List Tr) (a : Option Addr) : Prop := l = [] ∨ ∃ R f bs, a = some ⟨R, 0, none⟩ ∧ Row w R (l.length * 3) f ∧ TrsOwn w f l 0 bs ∧ ∀ x, x ∈ bs → B ≤ x
theorem OwnArg.trs {B : Nat} {w : World} {l : List Tr} {a : Option Addr} (h : OwnArg B w l a) : TrsIn Any w l a := by
  rcases h with rfl | ⟨R, f, bs, rfl, h1, h2, _⟩
  · exact TrsIn_nil _ _ _
  · exact TrOwn_in.2 l f 0 bs h2 (fun _ _ => trivial) R trivial (by simpa using h1)

set_option maxHeartbeats 400000 in
theorem mk_any (k : Int) (hk : i64 k) (l : List Tr) (w : World) (a : Option Addr) (c B : Nat) (h : OwnArg B w l a) (hB : B ≤ w.heap.size) (hc : l.length ≤ c) (hc2 : c ≤ maxLen) (hlen : l.length ≤ 1048576) :
    Calls Tryd.prog 27 #[.int .i64 k, .slice a l.length c] w (RetP (NewTr B (.mk k 0 l)) w) := by
  have ht := h.trs
  have H := hid h
  clear h
  go_enter Tryd.func27, Tryd.ntmps27
  go_wp2_with fail
  refine (clone_any l _ a c (TrsIn_below (by repeat (first | exact Below.refl _ _ | assumption | refine below_a ?_ _ | refine below_o ?_ _ | refine below_d ?_ | refine below_n ?_ _ | refine below_s ?_ (by first | (simp; done) | (simp; omega) | omega) _)) ht) hc hc2 hlen).mono ?_
  rintro e w1 ⟨u, rfl, ⟨a', c', rfl, k1, k2, k3⟩, hb⟩
  have hfin := hid (show ∃ bs, TrOwn w1 (.mk k 0 l) (.agg #[.int .i64 k, .int .i64 0, .slice a' l.length c']) bs ∧ w.heap.size ∉ bs ∧ ∀ x, x ∈ bs → B ≤ x by
    have key : ∃ bs, TrOwn w1 (.mk k 0 l) (.agg #[.int .i64 k, .int .i64 0, .slice a' l.length c']) bs ∧ w.heap.size ∉ bs ∧ ∀ x, x ∈ bs → B ≤ x := by
      rcases H.out with rfl | ⟨R0, f0, bs, rfl, hr0, ho0, hlt⟩
      · exact ⟨[], TrOwn_leaf hk (by unfold i64; omega) k2, by simp, by simp⟩
      · by_cases h0 : 0 < l.length
        · obtain ⟨R, f, rfl, hR, hrow, _, hcells⟩ := k3 h0
          simp only [World.size_alloc] at hR
          have hlb := TrOwn_lt.2 _ _ _ _ ho0
          have hr0' := hr0.below (below_alloc w (.cells #[.int .i64 0, .int .i64 0, .slice none 0 0] 25))
          have hown : TrsOwn w1 f l 0 bs := TrsOwn_congr (TrsOwn_below hb (TrsOwn_below (below_alloc _ _) ho0)) fun i _ hi => by
            have h1 := hcells R0 0 i rfl (by omega)
            rw [Nat.zero_add, hr0'.2.1 i (by omega)] at h1
            exact Option.some.inj h1
          obtain ⟨bs', g1, g2⟩ := TrOwn_new hk (show i64 0 by unfold i64; omega) k1 k2 hrow hown (fun e => by have := hlb R e; omega)
          refine ⟨bs', g1, fun e => ?_, fun x hx => ?_⟩
          · rcases g2 _ e with h | h
            · omega
            · have := hlb _ h; omega
          · rcases g2 _ hx with rfl | h
            · omega
            · exact hlt x h
        · have e : l = [] := List.eq_nil_of_length_eq_zero (by omega)
          subst e
          exact ⟨[], TrOwn_leaf hk (by unfold i64; omega) k2, by simp, by simp⟩
    exact key)
  have bz := box3_next hb (box3_new w (.int .i64 0) (.int .i64 0) (.slice none 0 0) 25)
  obtain ⟨z0, z1, z2, z3, z4, z5, z6⟩ := bz
  have hB1 := hid (below_next (below_alloc _ _) hb)
  clear hb k3
  go_wp2_with fail
  have z := box3_set2 (box3_set1 (box3_set0 ⟨z0, z1, z2, z3, z4, z5, z6⟩ (.int .i64 k)) (.int .i64 0)) (.slice a' l.length c')
  obtain ⟨y0, y1, y2, y3, _⟩ := z
  refine bodyPost_ret (v := .agg #[.int .i64 k, .int .i64 0, .slice a' l.length c']) (by simp [results, Tryd.results27, go_sem, y1, y2, y3]) rfl ?_
  obtain ⟨bs, g1, g2, g3⟩ := hfin.out
  exact RetP.mk ⟨bs, TrOwn_set (TrOwn_set (TrOwn_set g1 g2 _) g2 _) g2 _, g3⟩ (((hB1.out.setCell (by simp) _).setCell (by simp) _).setCell (by simp) _)

end Formula
end Go.Proofs.YthdbkknbbppfnaaDoor
