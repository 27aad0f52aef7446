/- The program's closure in subformulas. Conditions: those of each contract. -/
import Derived.Test.YthjhokifonjeaaaSubSpec
import Derived.Test.YthjhokifonjeaaaAppZero
import Derived.Test.YthjhokifonjeaaaFormulaCopy
namespace Go.Proofs.Ythjhokifonjeaaa
open Go.RowKit
namespace Formula

/-- the closure, as its own variable holds it -/
def visClo (V O : Nat) : Value := .func (.func 77) #[] #[.pointer (some ⟨V, 0, none⟩), .pointer (some ⟨O, 0, none⟩)]
def VisPost (B O : Nat) (v : Value) (r : List Tr) (w : World) (e : Ending) (w' : World) : Prop := ∃ v', e = .returned (.tuple #[]) ∧ OwnRow B 25 v' r w' ∧ Box1 w' O v' ∧ Off2 O v w w' ∧ Own2 v w.heap.size v'
def VisT (t : Tr) : Prop := ∀ (B L V O : Nat) (w : World) (acc : List Tr) (v x : Value), OwnRow B 25 v acc w → B ≤ w.heap.size → L ≤ O → O < B → V < B → V ≠ O → Box1 w V (visClo V O) → Box1 w O v → L ≤ B → TrIn (· < L) w t x → (acc.length : Int) + nodes t ≤ 1000 → Small t →
  Calls Try.prog 77 #[x, .pointer (some ⟨V, 0, none⟩), .pointer (some ⟨O, 0, none⟩)] w (VisPost B O v (subsT acc t) w)

set_option maxRecDepth 100000 in
set_option maxHeartbeats 4000000 in
theorem vis_of (k v : Int) (kids : List Tr) (h : ∀ t, t ∈ kids → VisT t) : VisT (.mk k v kids) := by
  intro B L V O w acc u x ho hB hLO hOB hVB hVO bV bO hLB hx hl hs
  have hx0 := hx
  rw [TrIn_mk] at hx
  obtain ⟨a, n, c, rfl, hk, hv, rfl, hc, hc2, hks⟩ := hx
  have hown := hid (fun j (hj : u.ownBlock = some j) => OwnRow.own_lt ho hj)
  have HO := hid ho
  have HT := hid hx0
  have HC := hid hc2
  have hln := hid hl
  have hsm := hid hs
  have BV := hid bV
  have BO := hid bO
  unfold maxLen at hc2
  clear ho hx0 hl hs bV bO
  go_enter Try.func77, Try.ntmps77
  go_wp2_with fail
  go_loopw [9] (fun i wr => ∃ (j : Nat) (r : Value), j ≤ kids.length ∧ i = .int .i64 j ∧ Hid (OwnRow B 25 r (subsL acc (kids.take j)) wr ∧ Box1 wr O r ∧ Off2 O u (w.alloc (.cells #[.int .i64 k, .int .i64 v, .slice a kids.length c] 25)) wr ∧ Own2 u (w.heap.size + 1) r)) (fun i _ => kids.length - (intOf i).toNat)
  case atStart => exact ⟨0, u, Nat.zero_le _, rfl, hid ⟨HO.out.keep (Keep.alloc _ _), box1_next (below_alloc _ _) BO.out, Off2.refl _ _ _, Own2.refl _ _⟩⟩
  case round =>
    obtain ⟨j, r, hj, rfl, hr⟩ := hrel
    have hne : some w.heap.size ≠ u.ownBlock := fun e => by have := (hown.out _ e.symm).2; omega
    have hneV : some V ≠ u.ownBlock := fun e => by have := (hown.out _ e.symm).1; omega
    have b3 := hid (box3_off2 hr.out.2.2.1 (by omega) hne (box3_new w (.int .i64 k) (.int .i64 v) (.slice a kids.length c) 25))
    have bV := hid (box1_off2 hr.out.2.2.1 hVO hneV (box1_next (below_alloc _ _) BV.out))
    have hsz := hr.out.2.2.1.size
    simp only [World.size_alloc] at hsz
    have hks' := hid ((TrIn_off2 (L := L) hr.out.2.2.1 hLO (fun q hq => by have := (hown.out q hq).1; omega)).2 _ _ (TrsIn_alloc hks _))
    by_cases hlt : j < kids.length
    · obtain ⟨b, o, c0, c1, c2, t, rfl, gb, g0, g1, g2, hT⟩ := TrsIn_round hks'.out (Below.refl _ _) hlt
      obtain ⟨a4, n4, hsh⟩ := TrIn_shape hT.out.1
      simp only [Value.agg.injEq, Array.mk.injEq, List.cons.injEq, and_true] at hsh
      obtain ⟨rfl, rfl, rfl⟩ := hsh
      obtain ⟨p0, p1, p2, p3, _⟩ := b3.out
      obtain ⟨v0, v1, v2⟩ := id bV.out
      unfold visClo at v1
      clear hne hneV
      go_wp2_with fail
      refine (h t hT.out.2.1 B L V O _ _ _ _ (hr.out.1.keep (Keep.alloc _ _)) (by simp; omega) hLO hOB hVB hVO (box1_next (below_alloc _ _) bV.out) (box1_next (below_alloc _ _) hr.out.2.1) hLB (TrIn_alloc hT.out.1 _) ?_ ?_).mono ?_
      · have h1 := subsL_len (kids.take j) acc
        have h2 := hln.out
        have h3 := nodesL_take kids j t hT.out.2.2.2
        simp only [nodes] at h2
        omega
      · exact smallL_mem hsm.out.2 hT.out.2.1
      rintro e w2 ⟨r2, rfl, ho2, bO2, hoff, hown2⟩
      have HR := hid (And.intro (show OwnRow B 25 r2 (subsL acc (kids.take (j + 1))) w2 by rw [subsL_take acc hT.out.2.2.2]; exact ho2) (And.intro bO2 (And.intro (Off2.trans hr.out.2.2.1 (by simpa using hr.out.2.2.2) (Off2.alloc hoff)) (Own2.trans hr.out.2.2.2 hown2 (by simp; omega)))))
      clear ho2 hoff hown2 p0 p1 p2 p3 v0 v1 v2 bO2 g0 g1 g2
      go_wp2_with fail
      go_roundw
      case rel => exact ⟨j + 1, r2, by omega, by go_num, HR⟩
      case measure => simp [intOf]; omega
    · have hfull : kids.take j = kids := List.take_of_length_le (by omega)
      have HR := hr.out
      rw [hfull] at HR
      obtain ⟨ra, rc, rfl, hrl, hrm, hrow⟩ := OwnRow.rows HR.1
      have hTw := hid (TrIn_mono (q := Any) (fun b _ => trivial) ((TrIn_off2 (L := L) HR.2.2.1 hLO (fun q hq => by have := (hown.out q hq).1; omega)).1 _ _ (TrIn_alloc HT.out _)))
      have HR := hid HR
      have HROW := hid hrow
      have E := hid (show subsT acc (.mk k v kids) = if findT (subsL acc kids) (.mk k v kids) 0 < 0 then subsL acc kids ++ [.mk k v kids] else subsL acc kids by simp only [subsT])
      obtain ⟨p0, p1, p2, p3, _⟩ := b3.out
      obtain ⟨v0, v1, v2⟩ := HR.out.2.1
      have hrm2 := hrm
      clear hne hneV hr hrow hfull hks'
      go_wp2_with fail
      refine (at_any _ (.mk k v kids) wr ra rc _ HROW.out hTw.out hrl hrm).mono ?_
      rintro e w2 ⟨rfl, hb⟩
      have b4 := box3_next hb b3.out
      have bO2 := hid (box1_next hb HR.out.2.1)
      have hTw2 := hid (TrIn_below hb hTw.out)
      have hO2 := hid (HR.out.2.2.1.trans (by simpa using HR.out.2.2.2) (Off2.of hb))
      have hr2 := hid (HR.out.1.keep (Keep.below hb))
      have hsz2 := hb.size
      clear hb p0 p1 p2 p3 v0 v1 v2
      have hlenr := subsL_len kids acc
      have hln2 := hln.out
      simp only [nodes] at hln2
      generalize findT (subsL acc kids) (.mk k v kids) 0 = q at *
      by_cases hq : q < 0
      · have E2 := hid (show subsT acc (.mk k v kids) = subsL acc kids ++ [.mk k v kids] by rw [E.out, if_pos hq])
        have q3 := b4
        obtain ⟨p0, p1, p2, p3, _⟩ := b4
        obtain ⟨v0, v1, v2⟩ := id bO2.out
        have hlr : (subsL acc kids).length ≤ 1048576 := by omega
        have hown2 := hid (fun k (hk : (Value.slice ra (subsL acc kids).length rc).ownBlock = some k) => OwnRow.own_lt hr2.out hk)
        have hOo : some O ≠ (Value.slice ra (subsL acc kids).length rc).ownBlock := fun e => by have := (hown2.out _ e.symm).1; omega
        have HOo := hid hOo
        have HR4 := hid HR.out.2.2.2
        have hB2 : B ≤ w2.heap.size := by omega
        clear hOo HROW hTw HR hrl hrm hrm2
        generalize subsL acc kids = l2 at *
        go_wp2_with fail
        refine wp_region_ord (C := fun wZ => ∃ xZ, wZ = World.over _ xZ) [0,1,3] (.two 2 4 (.one 4 (.fre 5 (.twf 6 8 (.twf 7 8 (.fre 8 .done) (.fre 7 .done)) (.fre 6 (.fre 7 .done))))) (.one 2 (.fre 5 (.twf 6 8 (.twf 7 8 (.fre 8 .done) (.fre 7 .done)) (.fre 6 (.fre 7 .done)))))) [5,6,7,8] (by kernel_rfl) (by kernel_rfl) (fun d _ _ _ _ h => by cases d <;> exact h) (bex (Below.refl _ _).drew) ?_; simp only [pick, List.getElem?_cons_succ, List.getElem?_cons_zero]; (repeat (go_big_quiet_step (fail))); refine wpQuiet_nil ?_; simp only [ordW, pick, List.getElem?_cons_succ, List.getElem?_cons_zero]
        constructor
        · go_wp2_with fail
          refine (cp_any (.mk k v kids) w2.drew _ (TrIn_below (below_d (Below.refl _ _)) hTw2.out) hsm.out).mono ?_
          rintro e w3 ⟨v1, rfl, hn, hb3⟩
          obtain ⟨a1, n1, rfl⟩ := TrIn_shape hn.any
          have HB3 := hid (below_next (below_d (Below.refl w2.heap.size w2)) hb3)
          have HN := hid ((hn.mono (B' := w2.heap.size) (Nat.le_refl _)).below (below_alloc w3 (.cells #[.int .i64 0, .int .i64 0, .slice none 0 0] 25)))
          clear hn hb3
          go_wp2_with fail
          refine ⟨bex HB3.out, ?_⟩
          go_wp2_with fail
          refine ⟨bex (below_a HB3.out _), ?_⟩
          refine wp_append_half rfl (.tmp 21) (.tmp 25) 23 rfl 25 Try.underlying23 rowInfo (by rfl) (by rfl) (box3_new ..) hr2.out hB2 (Keep.below (below_a HB3.out _)) hlr ?_
          intro g c2 w4 hh hoff hg
          have HX := hid (newX HN.out hoff (fun k hk => (hown2.out k hk).2) hg)
          have HB4 := hid (box1_off hoff HOo.out (box1_next (below_a HB3.out _) bO2.out))
          have HO4 := hid (Off2.trans (Off2.of (O := O) (v := Value.slice ra l2.length rc) (below_a HB3.out _)) (Own2.refl _ _) (Off2.off hoff))
          have HG := hid (show (Value.slice ra l2.length rc).ownBlock = some g ∨ w2.heap.size ≤ g by rcases hg with hg | hg; exact .inl hg; have := (below_a HB3.out (.cells #[.int .i64 0, .int .i64 0, .slice none 0 0] 25)).size; exact .inr (by omega))
          have HH := hid hh
          obtain ⟨z0, z1, z2, z3, z4, z5, z6, z7⟩ := hh.cells
          obtain ⟨o0, o1, o2⟩ := HB4.out
          have hgO : g ≠ O := by omega
          have hOg : O ≠ g := by omega
          clear hoff hg hh
          have hfin := hid (half_end HH.out hB2 hOB HX.out HB4.out HO4.out HG.out)
          have hfin2 := hid (half_end2 HH.out hB2 hOB HX.out HB4.out HO4.out HG.out)
          have hEnd := hid (fun wf (hf : OwnRow B 25 (.slice (some ⟨g, 0, none⟩) (l2.length + 1) c2) (l2 ++ [.mk k v kids]) wf ∧ Box1 wf O (.slice (some ⟨g, 0, none⟩) (l2.length + 1) c2) ∧ Off2 O (.slice ra l2.length rc) w2 wf ∧ Own2 (.slice ra l2.length rc) w2.heap.size (.slice (some ⟨g, 0, none⟩) (l2.length + 1) c2)) =>
            show VisPost B O u (subsT acc (.mk k v kids)) w (.returned (.tuple #[])) wf from ⟨_, rfl, by rw [E2.out]; exact hf.1, hf.2.1, Off2.alloc (Off2.trans hO2.out (by simpa using HR4.out) hf.2.2.1), Own2.le (Own2.trans HR4.out hf.2.2.2 (by omega)) (by omega)⟩)
          clear hlenr hln2
          refine ⟨?_, ?_⟩
          · go_wp2_with fail
            refine ⟨?_, ?_⟩
            · go_wp2_with fail
              refine bodyPost_ret (v := .tuple #[]) (by simp [results, Try.results77]) rfl ?_
              exact hEnd.out _ hfin.out
            · go_wp2_with fail
              refine bodyPost_ret (v := .tuple #[]) (by simp [results, Try.results77]) rfl ?_
              exact hEnd.out _ hfin2.out
          · go_wp2_with fail
            refine bodyPost_ret (v := .tuple #[]) (by simp [results, Try.results77]) rfl ?_
            exact hEnd.out _ hfin2.out
        · go_wp2_with fail
          refine ⟨bex (below_a (below_d (Below.refl _ _)) _), ?_⟩
          go_wp2_with fail
          have HX2 := cp_any (.mk k v kids) (w2.drew.alloc (.cells #[.int .i64 0, .int .i64 0, .slice none 0 0] 25)) _ (TrIn_below (below_a (below_d (Below.refl _ _)) _) hTw2.out) hsm.out
          refine HX2.mono ?_
          clear HX2
          rintro e w3 ⟨v1, rfl, hn, hb3⟩
          obtain ⟨a1, n1, rfl⟩ := TrIn_shape hn.any
          have HB3 := hid (below_next (below_a (below_d (Below.refl w2.heap.size w2)) (.cells #[.int .i64 0, .int .i64 0, .slice none 0 0] 25)) hb3)
          have bD := box3_next hb3 (box3_new w2.drew (.int .i64 0) (.int .i64 0) (.slice none 0 0) 25)
          have HN := hid (hn.mono (B' := w2.heap.size) (by simp))
          clear hn hb3
          go_wp2_with fail
          refine ⟨bex HB3.out, ?_⟩
          refine wp_append_half rfl (.tmp 21) (.tmp 25) 23 rfl 25 Try.underlying23 rowInfo (by rfl) (by rfl) bD hr2.out hB2 (Keep.below HB3.out) hlr ?_
          intro g c2 w4 hh hoff hg
          have HX := hid (newX HN.out hoff (fun k hk => (hown2.out k hk).2) hg)
          have HB4 := hid (box1_off hoff HOo.out (box1_next HB3.out bO2.out))
          have HO4 := hid (Off2.trans (Off2.of (O := O) (v := Value.slice ra l2.length rc) HB3.out) (Own2.refl _ _) (Off2.off hoff))
          have HG := hid (show (Value.slice ra l2.length rc).ownBlock = some g ∨ w2.heap.size ≤ g by rcases hg with hg | hg; exact .inl hg; have := HB3.out.size; exact .inr (by omega))
          have HH := hid hh
          obtain ⟨z0, z1, z2, z3, z4, z5, z6, z7⟩ := hh.cells
          obtain ⟨o0, o1, o2⟩ := HB4.out
          have hgO : g ≠ O := by omega
          have hOg : O ≠ g := by omega
          clear hoff hg hh
          have hfin := hid (half_end HH.out hB2 hOB HX.out HB4.out HO4.out HG.out)
          have hfin2 := hid (half_end2 HH.out hB2 hOB HX.out HB4.out HO4.out HG.out)
          have hEnd := hid (fun wf (hf : OwnRow B 25 (.slice (some ⟨g, 0, none⟩) (l2.length + 1) c2) (l2 ++ [.mk k v kids]) wf ∧ Box1 wf O (.slice (some ⟨g, 0, none⟩) (l2.length + 1) c2) ∧ Off2 O (.slice ra l2.length rc) w2 wf ∧ Own2 (.slice ra l2.length rc) w2.heap.size (.slice (some ⟨g, 0, none⟩) (l2.length + 1) c2)) =>
            show VisPost B O u (subsT acc (.mk k v kids)) w (.returned (.tuple #[])) wf from ⟨_, rfl, by rw [E2.out]; exact hf.1, hf.2.1, Off2.alloc (Off2.trans hO2.out (by simpa using HR4.out) hf.2.2.1), Own2.le (Own2.trans HR4.out hf.2.2.2 (by omega)) (by omega)⟩)
          clear hlenr hln2
          refine ⟨?_, ?_⟩
          · go_wp2_with fail
            refine ⟨?_, ?_⟩
            · go_wp2_with fail
              refine bodyPost_ret (v := .tuple #[]) (by simp [results, Try.results77]) rfl ?_
              exact hEnd.out _ hfin.out
            · go_wp2_with fail
              refine bodyPost_ret (v := .tuple #[]) (by simp [results, Try.results77]) rfl ?_
              exact hEnd.out _ hfin2.out
          · go_wp2_with fail
            refine bodyPost_ret (v := .tuple #[]) (by simp [results, Try.results77]) rfl ?_
            exact hEnd.out _ hfin2.out
      · have E2 := hid (show subsT acc (.mk k v kids) = subsL acc kids by rw [E.out, if_neg hq])
        go_wp2_with fail
        refine bodyPost_ret (v := .tuple #[]) (by simp [results, Try.results77]) rfl ?_
        exact ⟨_, rfl, by rw [E2.out]; exact hr2.out, bO2.out, Off2.alloc hO2.out, Own2.le HR.out.2.2.2 (by omega)⟩

theorem vis_any : ∀ t, VisT t := Tr.ind vis_of
end Formula
end Go.Proofs.Ythjhokifonjeaaa
