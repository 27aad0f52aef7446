/- Small words for walks: a world forgotten but for what is said of it. Conditions: none. -/
import Derived.Test.YtfemikebklmlpaaMem
namespace Go.Proofs.Ytfemikebklmlpaa
open Go.RowKit

/-- of the world where the walk stands only this is kept -/
theorem wp_gen {P : Program} {C : Code} {Q : Exit → Act → World → Prop} {a : Act} {w0 : World} (R : World → Prop) (h0 : R w0) (h : ∀ W, R W → C.wp P Q a W) : C.wp P Q a w0 := h _ h0
/-- three cells of an old node, in a later world -/
theorem cells_next {w W : World} (B : Below w.heap.size w W) {b o : Nat} {c0 c1 c2 : Value} (hb : b < w.heap.size) (g0 : w.cell? ⟨b, o, none⟩ = some c0) (g1 : w.cell? ⟨b, o + 1, none⟩ = some c1) (g2 : w.cell? ⟨b, o + 2, none⟩ = some c2) :
    W.cell? ⟨b, o, none⟩ = some c0 ∧ W.cell? ⟨b, o + 1, none⟩ = some c1 ∧ W.cell? ⟨b, o + 2, none⟩ = some c2 :=
  ⟨(B.cell (p := ⟨b, o, none⟩) hb).trans g0, (B.cell (p := ⟨b, o + 1, none⟩) hb).trans g1, (B.cell (p := ⟨b, o + 2, none⟩) hb).trans g2⟩

end Go.Proofs.Ytfemikebklmlpaa
