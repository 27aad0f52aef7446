/- Rows of numbers and truth values, just made. Conditions: none. -/
import Derived.Test.YtfemikebklmlpaaRows
import Derived.Test.YtfemikebklmlpaaCells
import Derived.WalkSpells
import Derived.WalkLawsBesides
namespace Go.Proofs.Ytfemikebklmlpaa
open Go.RowKit

/-- a row of one's own, of numbers -/
theorem Row.ints {w : World} {R : Nat} {l : List Int} {p : Nat → Prop} (h : Row w R l.length (fun i => .int .i64 (l.getD i 0))) (hl : ∀ n, n ∈ l → i64 n) (hp : p R) : IntsIn p w (some ⟨R, 0, none⟩) l :=
  ⟨h.rowIn (l := l.map (Value.int .i64)) (by simp) (fun i v hv => by
    rw [List.getElem?_map] at hv
    cases hn : l[i]? with
    | none => rw [hn] at hv; simp at hv
    | some n => rw [hn] at hv; simp at hv; subst hv; simp [List.getD_eq_getElem?_getD, hn]) hp, hl⟩
theorem ints_info : (Try.prog.info? 3).map (fun i => (i.zero, i.size, i.bytes)) = some (some (.int .i64 0), 1, 8) := by kernel_rfl
def zerosI (n : Nat) : Array Value := madeCells #[.int .i64 0] n
theorem make_ints (n : Nat) (h : n ≤ 1048576) (w : World) : (Instr.makeSlice 30 (.int .i64 (n : Int)) (.int .i64 (n : Int))).run Try.prog w =
    .ok (.slice (some ⟨w.heap.size, 0, none⟩) n n) (w.alloc (.cells (zerosI n) 3)) := by
  obtain ⟨i, hi, hz, h1, h2⟩ := info_parts ints_info
  have := run_make (P := Try.prog) w 30 3 i _ Try.underlying30 hi hz .i64 .i64 n n (by omega) (by omega) (by rw [h2]; omega) (by omega)
  rw [this, h1]
  simp [zerosI, Value.cells]
theorem row_new {w : World} {cs : Array Value} {n : Nat} (hcs : cs.size = n) (e : TypeId) : Row (w.alloc (.cells cs e)) w.heap.size n (fun i => cs.getD i undef) :=
  ⟨by simp, fun i hi => by rw [World.cell?_alloc_new]; simp [Array.getD, hcs, hi], fun i => by simp⟩

theorem bools_info : (Try.prog.info? 4).map (fun i => (i.zero, i.size, i.bytes)) = some (some (.bool false), 1, 1) := by kernel_rfl
def zerosB (n : Nat) : Array Value := madeCells #[.bool false] n
theorem make_bools (n : Nat) (h : n ≤ 1048576) (w : World) : (Instr.makeSlice 27 (.int .i64 (n : Int)) (.int .i64 (n : Int))).run Try.prog w =
    .ok (.slice (some ⟨w.heap.size, 0, none⟩) n n) (w.alloc (.cells (zerosB n) 4)) := by
  obtain ⟨i, hi, hz, h1, h2⟩ := info_parts bools_info
  have := run_make (P := Try.prog) w 27 4 i _ Try.underlying27 hi hz .i64 .i64 n n (by omega) (by omega) (by rw [h2]; omega) (by omega)
  rw [this, h1]
  simp [zerosB, Value.cells]

end Go.Proofs.Ytfemikebklmlpaa
