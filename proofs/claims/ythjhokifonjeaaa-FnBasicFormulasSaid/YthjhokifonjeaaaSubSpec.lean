/- The reference's l5Subs. Conditions: those of each contract. -/
import Derived.Test.YthjhokifonjeaaaSubPlain
import Derived.Test.YthjhokifonjeaaaFormulaDraw
namespace Go.Proofs.Ythjhokifonjeaaa
open Go.RowKit
namespace Formula

theorem nodesL_take : ∀ (l : List Tr) (j : Nat) (t : Tr), l[j]? = some t → nodesL (l.take j) + nodes t ≤ nodesL l
  | [], j, t, h => by simp at h
  | u :: us, 0, t, h => by
    simp at h
    subst h
    have := nodesL_pos us
    simp [nodesL]; omega
  | u :: us, j + 1, t, h => by
    have := nodesL_take us j t (by simpa using h)
    simp only [List.take_succ_cons, nodesL]; omega
theorem Off.alloc {v : Value} {w w' : World} {o : Obj} (h : Off v (w.alloc o) w') : Off v w w' := ⟨h.os, h.tape, h.output, by have := h.size; simp at this; omega, fun b hb hn => by
  rw [h.block b (by simp; omega) hn, (below_alloc w _).block b hb]⟩
theorem Own2.le {v v' : Value} {N N' : Nat} (h : Own2 v N v') (hN : N' ≤ N) : Own2 v N' v' := fun k hk => by
  rcases h k hk with h1 | h1
  · exact .inl h1
  · exact .inr (Nat.le_trans hN h1)
def SubPost (B : Nat) (v : Value) (r : List Tr) (w : World) (e : Ending) (w' : World) : Prop := ∃ v', e = .returned v' ∧ OwnRow B 25 v' r w' ∧ Off v w w' ∧ Own2 v w.heap.size v'
def SsubT (t : Tr) : Prop := ∀ (B : Nat) (w : World) (acc : List Tr) (v x : Value), OwnRow B 25 v acc w → B ≤ w.heap.size → TrIn (· < B) w t x → (acc.length : Int) + nodes t ≤ 1000 → Small t → Calls Try.prog 47 #[v, x] w (SubPost B v (subsT acc t) w)

set_option maxRecDepth 100000 in
set_option maxHeartbeats 2000000 in
theorem ssub_of (k v : Int) (kids : List Tr) (h : ∀ t, t ∈ kids → SsubT t) : SsubT (.mk k v kids) := by
  intro B w acc u x ho hB hx hl hs
  have hx0 := hx
  rw [TrIn_mk] at hx
  obtain ⟨a, n, c, rfl, hk, hv, rfl, hc, hc2, hks⟩ := hx
  have hown := hid (fun j (hj : u.ownBlock = some j) => OwnRow.own_lt ho hj)
  have HO := hid ho
  have HT := hid hx0
  have HC := hid hc2
  have hln := hid hl
  have hsm := hid hs
  unfold maxLen at hc2
  clear ho hx0 hl hs
  go_enter Try.func47, Try.ntmps47
  go_wp2_with fail
  go_loopw [0, 5] (fun r i wr => ∃ (j : Nat), j ≤ kids.length ∧ i = .int .i64 j ∧ Hid (OwnRow B 25 r (subsL acc (kids.take j)) wr ∧ Off u (w.alloc (.cells #[.int .i64 k, .int .i64 v, .slice a kids.length c] 25)) wr ∧ Own2 u (w.heap.size + 1) r)) (fun _ i _ => kids.length - (intOf i).toNat)
  case atStart => exact ⟨0, Nat.zero_le _, rfl, hid ⟨HO.out.keep (Keep.alloc _ _), Off.refl _ _, Own2.refl _ _⟩⟩
  case round =>
    obtain ⟨j, hj, rfl, hr⟩ := hrel
    have hne : some w.heap.size ≠ u.ownBlock := fun e => by have := (hown.out _ e.symm).2; omega
    have b3 := hid (box3_off hr.out.2.1 hne (box3_new w (.int .i64 k) (.int .i64 v) (.slice a kids.length c) 25))
    have hsz := hr.out.2.1.size
    simp only [World.size_alloc] at hsz
    have hks' := hid ((TrIn_off (B := B) hr.out.2.1 (fun q hq => (hown.out q hq).1)).2 _ _ (TrsIn_alloc hks _))
    by_cases hlt : j < kids.length
    · obtain ⟨b, o, c0, c1, c2, t, rfl, gb, g0, g1, g2, hT⟩ := TrsIn_round hks'.out (Below.refl _ _) hlt
      obtain ⟨p0, p1, p2, p3, _⟩ := b3.out
      clear hne
      go_wp2_with fail
      refine (h t hT.out.2.1 B wr _ _ _ hr.out.1 (by omega) hT.out.1 ?_ ?_).mono ?_
      · have h1 := subsL_len (kids.take j) acc
        have h2 := hln.out
        have h3 := nodesL_take kids j t hT.out.2.2.2
        simp only [nodes] at h2
        omega
      · exact smallL_mem hsm.out.2 hT.out.2.1
      rintro e w2 ⟨r2, rfl, ho2, hoff, hown2⟩
      have HR := hid (And.intro (show OwnRow B 25 r2 (subsL acc (kids.take (j + 1))) w2 by rw [subsL_take acc hT.out.2.2.2]; exact ho2) (And.intro (Off.trans hr.out.2.1 (by simpa using hr.out.2.2) hoff) (Own2.trans hr.out.2.2 hown2 (by omega))))
      clear ho2 hoff hown2 p0 p1 p2 p3 g0 g1 g2
      go_wp2_with fail
      go_roundw
      case rel => exact ⟨j + 1, by omega, by go_num, HR⟩
      case measure => simp [intOf]; omega
    · have hfull : kids.take j = kids := List.take_of_length_le (by omega)
      have HR := hr.out
      rw [hfull] at HR
      obtain ⟨ra, rc, rfl, hrl, hrm, hrow⟩ := OwnRow.rows HR.1
      have hTw := hid (TrIn_mono (q := Any) (fun b _ => trivial) ((TrIn_off (B := B) HR.2.1 (fun q hq => (hown.out q hq).1)).1 _ _ (TrIn_alloc HT.out _)))
      have HR := hid HR
      have HROW := hid hrow
      have E := hid (show subsT acc (.mk k v kids) = if findT (subsL acc kids) (.mk k v kids) 0 < 0 then subsL acc kids ++ [.mk k v kids] else subsL acc kids by simp only [subsT])
      obtain ⟨p0, p1, p2, p3, _⟩ := b3.out
      have hrm2 := hrm
      clear hne hr hrow hfull hks'
      go_wp2_with fail
      refine (specFind_any _ (.mk k v kids) wr ra rc _ HROW.out hTw.out hrl hrm).mono ?_
      rintro e w2 ⟨rfl, hb⟩
      have b4 := box3_next hb b3.out
      have hTw2 := hid (TrIn_below hb hTw.out)
      have hO2 := hid (HR.out.2.1.trans (by simpa using HR.out.2.2) (Off.of hb))
      have hr2 := hid (HR.out.1.keep (Keep.below hb))
      have hsz2 := hb.size
      clear hb p0 p1 p2 p3
      obtain ⟨p0, p1, p2, p3, _⟩ := b4
      have hlenr := subsL_len kids acc
      have hln2 := hln.out
      simp only [nodes] at hln2
      generalize findT (subsL acc kids) (.mk k v kids) 0 = q at *
      by_cases hq : q < 0
      · have E2 := hid (show subsT acc (.mk k v kids) = subsL acc kids ++ [.mk k v kids] by rw [E.out, if_pos hq])
        go_wp2_with fail
        refine (copy_any (.mk k v kids) w2 _ hTw2.out hsm.out).mono ?_
        rintro e w3 ⟨v1, rfl, hn0, hb3⟩
        have hn := hn0.new; clear hn0
        obtain ⟨a1, n1, rfl⟩ := TrIn_shape hn.any
        go_wp2_with (refine wp_append_off rfl (.tmp 24) (.tmp 27) 23 rfl 25 Try.underlying23 rowInfo (by rfl) (by rfl) (by intro x hx; simp at hx; rcases hx with rfl | rfl | rfl <;> rfl) hr2.out (by omega) (Keep.below hb3) (Nat.le_refl _) hn (by omega) ?_)
        intro a2 n2 c2 w4 ho4 hoff4 hown4
        have hsz3 := hb3.size
        have hO4 := (Off.trans (Off.trans hO2.out (by simpa using HR.out.2.2) (Off.of hb3)) (by simpa using HR.out.2.2) hoff4)
        have HF := hid (And.intro (show OwnRow B 25 (.slice a2 n2 c2) (subsT acc (.mk k v kids)) w4 by rw [E2.out]; exact ho4) (And.intro (Off.alloc hO4) (Own2.le (N' := w.heap.size) (Own2.trans HR.out.2.2 hown4 (by omega)) (by omega))))
        clear ho4 hoff4 hown4 hO4
        go_wp2_with fail
        go_ret
        exact ⟨_, rfl, HF.out⟩
      · have E2 := hid (show subsT acc (.mk k v kids) = subsL acc kids by rw [E.out, if_neg hq])
        go_wp2_with fail
        go_ret
        exact ⟨_, rfl, by rw [E2.out]; exact hr2.out, Off.alloc hO2.out, Own2.le HR.out.2.2 (by omega)⟩

theorem ssub_any : ∀ t, SsubT t := Tr.ind ssub_of
end Formula
end Go.Proofs.Ythjhokifonjeaaa
