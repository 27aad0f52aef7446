/- A tree of one's own beside a variable that is written. Conditions: none. -/
import Derived.Test.YtffadknollkgiaaGrow
import Derived.Test.YtffadknollkgiaaOwnPlain
namespace Go.Proofs.Ytffadknollkgiaa
open Go.RowKit

theorem newTr_set3 {B P : Nat} {t : Tr} {v : Value} {w : World} (h : NewTr B t v w) (hP : P < B) (u0 u1 u2 : Value) : NewTr B t v (((w.setCell ⟨P, 0, none⟩ u0).setCell ⟨P, 1, none⟩ u1).setCell ⟨P, 2, none⟩ u2) := by
  obtain ⟨bs, h1, h2⟩ := h
  have hn : P ∉ bs := fun e => by have := h2 _ e; omega
  exact ⟨bs, TrOwn_set (TrOwn_set (TrOwn_set h1 hn _) hn _) hn _, h2⟩
theorem below_set3 {B P : Nat} {w W : World} (h : Below B w W) (hP : B ≤ P) (u0 u1 u2 : Value) : Below B w (((W.setCell ⟨P, 0, none⟩ u0).setCell ⟨P, 1, none⟩ u1).setCell ⟨P, 2, none⟩ u2) := ((h.setCell hP _).setCell hP _).setCell hP _
theorem row_three (w : World) (x y z : Value) (t : TypeId) : Row (w.alloc (.cells #[x, y, z] t)) w.heap.size 3 (fun i => #[x, y, z].getD i undef) :=
  ⟨by simp, fun i hi => by
    rw [World.cell?_alloc_new]
    match i, hi with
    | 0, _ => rfl
    | 1, _ => rfl
    | 2, _ => rfl, fun i => by simp⟩
theorem row_six (w : World) (x y z x' y' z' : Value) (t : TypeId) : Row (w.alloc (.cells #[x, y, z, x', y', z'] t)) w.heap.size 6 (fun i => #[x, y, z, x', y', z'].getD i undef) :=
  ⟨by simp, fun i hi => by
    rw [World.cell?_alloc_new]
    match i, hi with
    | 0, _ => rfl
    | 1, _ => rfl
    | 2, _ => rfl
    | 3, _ => rfl
    | 4, _ => rfl
    | 5, _ => rfl, fun i => by simp⟩
theorem TrIn_shapeMk {p : Nat → Prop} {w : World} {k v : Int} {kids : List Tr} {x : Value} (h : TrIn p w (.mk k v kids) x) : ∃ a c, x = .agg #[.int .i64 k, .int .i64 v, .slice a kids.length c] := TrIn_shape h
theorem box3_only {S : List Nat} {w w' : World} (h : Only S w w') {B : Nat} {a b c : Value} (hd : B ∉ S) (hb : Box3 w B a b c) : Box3 w' B a b c := by
  have e := h.block B hb.1 hd
  refine ⟨Nat.lt_of_lt_of_le hb.1 h.size, ?_, ?_, ?_, ?_, ?_, ?_⟩
  · rw [World.cell?_of_block (w := w) (a := ⟨B, 0, none⟩) e]; exact hb.2.1
  · rw [World.cell?_of_block (w := w) (a := ⟨B, 1, none⟩) e]; exact hb.2.2.1
  · rw [World.cell?_of_block (w := w) (a := ⟨B, 2, none⟩) e]; exact hb.2.2.2.1
  · rw [World.frozen?_of_block (w := w) (a := ⟨B, 0, none⟩) e]; exact hb.2.2.2.2.1
  · rw [World.frozen?_of_block (w := w) (a := ⟨B, 1, none⟩) e]; exact hb.2.2.2.2.2.1
  · rw [World.frozen?_of_block (w := w) (a := ⟨B, 2, none⟩) e]; exact hb.2.2.2.2.2.2
theorem newTr_over {B : Nat} {t : Tr} {v : Value} {w w' : World} (h : NewTr B t v w) (hb : Below w.heap.size w w') : NewTr B t v w' := h.below hb

end Go.Proofs.Ytffadknollkgiaa
