/- Plain mathematics of expressions: their value, their variables, an expression put for a variable. No program here. -/
import Derived.Test.YtfemikebklmlpaaTxtPlain
namespace Go.Proofs.Ytfemikebklmlpaa

def tr01 (b : Bool) : Int := if b then 1 else 0
/-- a node's value, of the values below -/
def nodeVal (g : Int → Int) (k v : Int) : List Int → Int
  | [] => if k = 1 then v else g v
  | [a] => tr01 (a == 0)
  | a :: b :: _ => if k = 4 then tr01 (a != 0 && b != 0) else if k = 5 then tr01 (a != 0 || b != 0) else if k = 6 then tr01 (a == b) else if k = 7 then tr01 (decide (a < b)) else if k = 8 then (a + b) % 4 else (a - b + 4) % 4
mutual
def evalT (g : Int → Int) : Tr → Int | .mk k v kids => nodeVal g k v (evalTs g kids)
def evalTs (g : Int → Int) : List Tr → List Int | [] => [] | t :: ts => evalT g t :: evalTs g ts
end

theorem tr01_bd (b : Bool) : 0 ≤ tr01 b ∧ tr01 b ≤ 3 := by cases b <;> simp [tr01]
theorem evalT_bd (g : Int → Int) (hg : ∀ v, 0 ≤ v → v ≤ 2 → 0 ≤ g v ∧ g v ≤ 3) : ∀ (n : Nat) (t : Tr), exprL.shape t n = true → 0 ≤ evalT g t ∧ evalT g t ≤ 3 := by
  intro n t h
  cases t with
  | mk k v kids =>
  obtain ⟨m, h1, h2, h3, h4, h5, h6, h7⟩ := exprL.shape_mk h
  rw [exprL_K] at h3
  rw [exprL_most] at h5
  rw [exprL_ar] at h6
  by_cases hk : k = 1
  · subst hk
    obtain rfl := len0 (by simpa using h6)
    simp at h5
    simp [evalT, evalTs, nodeVal, h4, h5]
  by_cases hk2 : k = 2
  · subst hk2
    obtain rfl := len0 (by simpa using h6)
    simp at h5
    simp [evalT, evalTs, nodeVal]
    exact hg v h4 h5
  by_cases hk3 : k = 3
  · subst hk3
    obtain ⟨a, rfl⟩ := len1 (by simpa using h6)
    simp only [evalT, evalTs, nodeVal]
    exact tr01_bd _
  · obtain ⟨a, b, rfl⟩ := len2 (by rw [h6, if_neg (by omega), if_neg (by omega)])
    simp only [evalT, evalTs, nodeVal]
    repeat' split
    all_goals (first | exact tr01_bd _ | omega)

/-! ### variables -/
mutual
/-- does a variable occur -/
def occT (x : Int) : Tr → Bool | .mk k v kids => (k == 2 && v == x) || occL x kids
def occL (x : Int) : List Tr → Bool | [] => false | t :: ts => occT x t || occL x ts
end

/-! ### an expression put for a variable -/
mutual
def subT (x : Int) (y : Tr) : Tr → Tr | .mk k v kids => if k = 2 ∧ v = x then y else .mk k v (subL x y kids)
def subL (x : Int) (y : Tr) : List Tr → List Tr | [] => [] | t :: ts => subT x y t :: subL x y ts
end
theorem subL_map (x : Int) (y : Tr) : ∀ l, subL x y l = l.map (subT x y) | [] => by simp [subL] | t :: ts => by simp [subL, subL_map x y ts]
theorem subL_len (x : Int) (y : Tr) (l : List Tr) : (subL x y l).length = l.length := by rw [subL_map]; simp

end Go.Proofs.Ytfemikebklmlpaa
