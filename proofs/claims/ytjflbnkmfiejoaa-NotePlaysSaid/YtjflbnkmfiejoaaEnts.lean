/- Entries, their cells; which groups turn, and the entries that tell it; plain Lean. -/
import Derived.Test.YtjflbnkmfiejoaaSets
namespace Go.Proofs.LM
open Go.Proofs (encStr)

/-- An entry: its number, its revision, the group, whether it fires. -/
structure Ent where
  seq : Int
  rev : Int
  g : Txt
  f : Bool

def ecells (e : Ent) : List Value := [.int .i64 e.seq, .int .i64 e.rev, encStr e.g, .bool e.f]
def escells (es : List Ent) : List Value := es.flatMap ecells
theorem escells_nil : escells [] = [] := rfl
theorem escells_append (a b : List Ent) : escells (a ++ b) = escells a ++ escells b := by simp [escells]
theorem escells_one (e : Ent) : escells [e] = ecells e := by simp [escells]
theorem escells_length (es : List Ent) : (escells es).length = es.length * 4 := by
  induction es with
  | nil => rfl
  | cons e r ih =>
    show (ecells e ++ escells r).length = _
    rw [List.length_append, ih]; simp [ecells]; omega
theorem ecells_cell (e : Ent) : ∀ u ∈ ecells e, u.oneCell' = true := by
  intro u hu
  simp [ecells, encStr] at hu
  rcases hu with rfl | rfl | rfl | rfl <;> rfl
theorem escells_at {es : List Ent} : ∀ {k : Nat} {e : Ent}, es[k]? = some e → ∀ j, j < 4 → (escells es)[k * 4 + j]? = (ecells e)[j]? := by
  induction es with
  | nil => intro k e h; simp at h
  | cons x r ih =>
    intro k e h j hj
    cases k with
    | zero =>
      have : x = e := by simpa using h
      subst this
      show (ecells x ++ escells r)[0 * 4 + j]? = _
      rw [List.getElem?_append_left (by simp [ecells]; omega)]; simp
    | succ k =>
      show (ecells x ++ escells r)[(k + 1) * 4 + j]? = _
      rw [List.getElem?_append_right (by simp [ecells]; omega), ← ih (by simpa using h) j hj]
      congr 1
      simp [ecells]; omega

theorem escells_drop (es : List Ent) : ∀ k, (escells es).drop (k * 4) = escells (es.drop k) := by
  induction es with
  | nil => intro k; simp [escells]
  | cons e r ih =>
    intro k
    cases k with
    | zero => simp
    | succ k =>
      show (ecells e ++ escells r).drop ((k + 1) * 4) = _
      rw [List.drop_append, List.drop_eq_nil_of_le (by simp [ecells]; omega), show (k + 1) * 4 - (ecells e).length = k * 4 by simp [ecells]; omega, ih k]
      rfl

/-- The entries of groups that turn, from a number on. -/
def entsFrom (n : Int) (rev : Int) (now : List Txt) : List Txt → List Ent
  | [] => []
  | g :: r => ⟨n, rev, g, hasS now g⟩ :: entsFrom (n + 1) rev now r
theorem entsFrom_snoc (rev : Int) (now : List Txt) (gs : List Txt) (g : Txt) : ∀ n, entsFrom n rev now (gs ++ [g]) = entsFrom n rev now gs ++ [⟨n + gs.length, rev, g, hasS now g⟩] := by
  induction gs with
  | nil => intro n; simp [entsFrom]
  | cons x r ih => intro n; simp only [List.cons_append, entsFrom, ih, List.length_cons]; simp; omega
theorem entsFrom_length (rev : Int) (now : List Txt) (gs : List Txt) : ∀ n, (entsFrom n rev now gs).length = gs.length := by
  induction gs with
  | nil => intro n; rfl
  | cons x r ih => intro n; simp [entsFrom, ih]

/-- The groups of some that are among the one and not among the other. -/
def diffs (now old both : List Txt) : List Txt := both.filter fun g => hasS now g != hasS old g
theorem diffs_snoc (now old gs : List Txt) (g : Txt) : diffs now old (gs ++ [g]) = diffs now old gs ++ (if (hasS now g != hasS old g) = true then [g] else []) := by
  simp only [diffs, List.filter_append, List.filter_cons, List.filter_nil]
theorem diffs_length (now old gs : List Txt) : (diffs now old gs).length ≤ gs.length := List.length_filter_le _ _
theorem rise_diffs {now old both : List Txt} (h : Rise both) : Rise (diffs now old both) := h.filter _

#print axioms escells_at
end Go.Proofs.LM
