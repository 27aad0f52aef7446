/- FnNormalForm returns true for every argument. Conditions: none. -/
import Derived.Test.YthjhokifonjeaaaDrawNormalForm
import Derived.Test.YthjhokifonjeaaaNormX
import Derived.Test.YthjhokifonjeaaaNormFix
import Derived.Test.YthjhokifonjeaaaFormulaSame
namespace Go.Proofs.Ythjhokifonjeaaa
open Go.RowKit
open Go.Proofs.Ythjhokifonjeaaa.Formula

/-- what is known of a normal form that there is -/
theorem normV_fix {t : Tr} (h : normOk t = true) : NF (normV t) ∧ normOk (normV t) = true ∧ normV (normV t) = normV t := by
  have h0 := h
  rw [normOk, Bool.and_eq_true] at h
  have e : normV t = nfT t false := by rw [normV, if_pos h0]
  have hs : formL.shape t (6 : Nat) = true := by rw [Lang.valid, Bool.and_eq_true] at h; exact h.1.1
  have hn := nf_NF t 6 false hs
  have hf := hn.fix
  have hok : normOk (nfT t false) = true := by rw [normOk, hf, h.2]; rfl
  rw [e]
  exact ⟨hn, hok, by rw [normV, if_pos hok, hf]⟩

set_option maxRecDepth 100000 in
set_option maxHeartbeats 4000000 in
theorem walk_FnNormalForm (w : World) (a : Option Addr) (len cap : Nat) (hb : ByteArg w a len cap) : Calls Try.prog 5 #[.slice a len cap] w (Ret (.bool true) w) := by
  have hcap := hb.2.1
  have hcap1 := hb.1
  unfold maxLen at hcap
  by_cases hlen : len > 1048576
  · have hlen2 : (len : Int) > 1048576 := by omega
    go_enter Try.func5, Try.ntmps5
    go_wp2_with fail
    go_ret
    exact Ret.mk rfl (by repeat (first | exact Below.refl _ _ | assumption | refine below_a ?_ _ | refine below_o ?_ _ | refine below_d ?_ | refine below_n ?_ _ | refine below_s ?_ (by first | (simp; done) | (simp; omega) | omega) _))
  have hlen2 : ¬ ((len : Int) > 1048576) := by omega
  go_enter Try.func5, Try.ntmps5
  go_wp2_with fail
  refine (Formula.drawNormalForm_any _ a len cap hb).mono ?_
  rintro e w1 ⟨v, rfl, ⟨t, hn, hnt⟩, B1⟩
  obtain ⟨a1, n1, rfl⟩ := TrIn_shape hn.any
  have hx := hn.any
  have hsm := small_nodes t (by omega)
  clear hn hb
  go_wp2_with fail
  refine (Formula.norm_any t _ _ (TrIn_below (by repeat (first | exact Below.refl _ _ | assumption | refine below_a ?_ _ | refine below_o ?_ _ | refine below_d ?_ | refine below_n ?_ _ | refine below_s ?_ (by first | (simp; done) | (simp; omega) | omega) _)) hx) hsm).mono ?_
  rintro e w2 ⟨vG, rfl, hG, hb2⟩
  obtain ⟨aG, cG, rfl⟩ := TrIn_shape hG.any
  have b3 := box3_next hb2 (box3_new w1 (.int .i64 t.kind) (.int .i64 t.val) (.slice a1 t.kids.length n1) 25)
  replace hb2 := below_next (below_alloc _ _) hb2
  have hx2 := TrIn_below hb2 hx
  replace B1 := below_next B1 hb2
  clear hb2 hx
  go_wp2_with fail
  refine (Formula.specNorm_any t _ _ (TrIn_below (by repeat (first | exact Below.refl _ _ | assumption | refine below_a ?_ _ | refine below_o ?_ _ | refine below_d ?_ | refine below_n ?_ _ | refine below_s ?_ (by first | (simp; done) | (simp; omega) | omega) _)) hx2) hsm).mono ?_
  rintro e w3 ⟨vW, rfl, hW, hb3⟩
  obtain ⟨aW, cW, rfl⟩ := TrIn_shape hW.any
  have b4 := box3_next hb3 (box3_new w2 (.int .i64 (normV t).kind) (.int .i64 (normV t).val) (.slice aG (normV t).kids.length cG) 25)
  replace hb3 := below_next (below_alloc _ _) hb3
  replace b3 := box3_next hb3 b3
  have hGa := TrIn_below hb3 hG.any
  have hWa := hW.any
  replace B1 := below_next B1 hb3
  clear hb3 hG hW hx2 b3
  have hbb : (normOk t != normOk t) = false := by simp
  have hbb2 : (normOk t == normOk t) = true := by simp
  have HF := hid (fun h => normV_fix (t := t) h)
  have HSM := hid (small_nodes (normV t) (by have := normV_small t; omega))
  have HE := hid (fun (w : World) x y (h1 : TrIn Any w (normV t) x) (h2 : TrIn Any w (normV t) y) => Formula.same_any (normV t) w (normV t) x y h1 h2)
  have HE2 := HE.out
  simp only [eqT_refl] at HE2
  replace HE := hid HE2
  clear HE2
  have HN := hid (fun (w : World) x (h1 : TrIn Any w (normV t) x) => Formula.norm_any (normV t) w x h1 HSM.out)
  have HWn := hid (fun (h : NF (normV t)) => wn_any h)
  generalize normV t = r at *
  cases hok : normOk t with
  | false =>
    rw [hok] at *
    clear HF
    go_wp2_with fail
    refine (HE.out _ _ _ (TrIn_below (by repeat (first | exact Below.refl _ _ | assumption | refine below_a ?_ _ | refine below_o ?_ _ | refine below_d ?_ | refine below_n ?_ _ | refine below_s ?_ (by first | (simp; done) | (simp; omega) | omega) _)) hGa) (TrIn_below (by repeat (first | exact Below.refl _ _ | assumption | refine below_a ?_ _ | refine below_o ?_ _ | refine below_d ?_ | refine below_n ?_ _ | refine below_s ?_ (by first | (simp; done) | (simp; omega) | omega) _)) hWa)).mono ?_
    rintro e w4 ⟨rfl, hb4⟩
    have b6 := box3_next hb4 (box3_new w3 (.int .i64 r.kind) (.int .i64 r.val) (.slice aW r.kids.length cW) 25)
    replace hb4 := below_next (below_alloc _ _) hb4
    replace b4 := box3_next hb4 b4
    replace B1 := below_next B1 hb4
    replace hGa := TrIn_below hb4 hGa
    replace hWa := TrIn_below hb4 hWa
    clear hb4
    go_wp2_with fail
    refine (HE.out _ _ _ (TrIn_below (by repeat (first | exact Below.refl _ _ | assumption | refine below_a ?_ _ | refine below_o ?_ _ | refine below_d ?_ | refine below_n ?_ _ | refine below_s ?_ (by first | (simp; done) | (simp; omega) | omega) _)) hGa) (TrIn_below (by repeat (first | exact Below.refl _ _ | assumption | refine below_a ?_ _ | refine below_o ?_ _ | refine below_d ?_ | refine below_n ?_ _ | refine below_s ?_ (by first | (simp; done) | (simp; omega) | omega) _)) hWa)).mono ?_
    rintro e w5 ⟨rfl, hb5⟩
    replace B1 := below_next B1 hb5
    go_wp2_with fail
    go_ret
    exact Ret.mk rfl B1
  | true =>
    obtain ⟨hNF, hok2, hfix⟩ := HF.out hok
    rw [hok] at *
    clear HF hok
    go_wp2_with fail
    refine (HE.out _ _ _ (TrIn_below (by repeat (first | exact Below.refl _ _ | assumption | refine below_a ?_ _ | refine below_o ?_ _ | refine below_d ?_ | refine below_n ?_ _ | refine below_s ?_ (by first | (simp; done) | (simp; omega) | omega) _)) hGa) (TrIn_below (by repeat (first | exact Below.refl _ _ | assumption | refine below_a ?_ _ | refine below_o ?_ _ | refine below_d ?_ | refine below_n ?_ _ | refine below_s ?_ (by first | (simp; done) | (simp; omega) | omega) _)) hWa)).mono ?_
    rintro e w4 ⟨rfl, hb4⟩
    replace hb4 := below_next (below_alloc _ _) hb4
    replace b4 := box3_next hb4 b4
    replace B1 := below_next B1 hb4
    replace hGa := TrIn_below hb4 hGa
    clear hb4 hWa
    go_wp2_with fail
    refine (HN.out _ _ hGa).mono ?_
    rintro e w5 ⟨vA, rfl, hA, hb5⟩
    rw [hfix] at hA
    rw [hok2]
    obtain ⟨aA, cA, rfl⟩ := TrIn_shape hA.any
    replace b4 := box3_next hb5 b4
    replace B1 := below_next B1 hb5
    replace hGa := TrIn_below hb5 hGa
    have hAa := hA.any
    clear hb5 hA
    go_wp2_with fail
    refine (HE.out _ _ _ (TrIn_below (by repeat (first | exact Below.refl _ _ | assumption | refine below_a ?_ _ | refine below_o ?_ _ | refine below_d ?_ | refine below_n ?_ _ | refine below_s ?_ (by first | (simp; done) | (simp; omega) | omega) _)) hAa) (TrIn_below (by repeat (first | exact Below.refl _ _ | assumption | refine below_a ?_ _ | refine below_o ?_ _ | refine below_d ?_ | refine below_n ?_ _ | refine below_s ?_ (by first | (simp; done) | (simp; omega) | omega) _)) hGa)).mono ?_
    rintro e w6 ⟨rfl, hb6⟩
    replace hb6 := below_next (below_alloc _ _) hb6
    replace b4 := box3_next hb6 b4
    replace B1 := below_next B1 hb6
    replace hGa := TrIn_below hb6 hGa
    clear hb6 hAa
    go_wp2_with fail
    refine (HWn.out hNF _ _ hGa).mono ?_
    rintro e w7 ⟨rfl, hb7⟩
    replace B1 := below_next B1 hb7
    go_wp2_with fail
    go_ret
    exact Ret.mk rfl B1
end Go.Proofs.Ythjhokifonjeaaa
