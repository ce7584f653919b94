/- Lists of texts that rise strictly: a text put among them, what they hold; plain Lean. -/
import Derived.Sort.KeysCollected
import Derived.Sort.EncStr
namespace Go.Proofs.LM
open Go.Proofs (encStr)

abbrev Txt := List UInt8
/-- Is a text among some? (not reducible: the walk does not take it apart) -/
def hasS (xs : List Txt) (s : Txt) : Bool := xs.contains s
theorem hasS_iff {xs : List Txt} {s : Txt} : hasS xs s = true ↔ s ∈ xs := by simp [hasS]
theorem hasS_false {xs : List Txt} {s : Txt} : hasS xs s = false ↔ s ∉ xs := by rw [← Bool.not_eq_true, hasS_iff]

theorem enc_at {xs : List Txt} {k : Nat} {u : Value} (h : (xs.map encStr)[k]? = some u) : ∃ x, xs[k]? = some x ∧ u = .string ⟨x.toArray⟩ := by
  rw [List.getElem?_map, Option.map_eq_some_iff] at h
  obtain ⟨x, h1, h2⟩ := h
  exact ⟨x, h1, h2.symm⟩

theorem lt_irrefl' (x : Txt) : ¬ x < x := List.lt_irrefl x
theorem lt_trans' {x y z : Txt} (h : x < y) (k : y < z) : x < z := List.lt_trans h k
theorem lt_or (x y : Txt) : x < y ∨ x = y ∨ y < x := by
  by_cases h : x < y
  · exact .inl h
  · by_cases k : y < x
    · exact .inr (.inr k)
    · exact .inr (.inl (List.le_antisymm (List.not_lt.1 k) (List.not_lt.1 h)))

/-- They rise strictly. -/
abbrev Rise (xs : List Txt) : Prop := xs.Pairwise (· < ·)

/-- A text among rising ones, once. -/
def putS : List Txt → Txt → List Txt
  | [], s => [s]
  | x :: r, s => if x < s then x :: putS r s else if x = s then x :: r else s :: x :: r

theorem mem_putS {xs : List Txt} {s y : Txt} : y ∈ putS xs s ↔ y ∈ xs ∨ y = s := by
  induction xs with
  | nil => simp [putS]
  | cons x r ih =>
    unfold putS
    split
    · simp [ih, or_assoc]
    · split
      · rename_i h; subst h
        exact ⟨.inl, fun h => h.elim id (fun e => by rw [e]; exact List.mem_cons_self)⟩
      · simp only [List.mem_cons]; constructor
        · rintro (h | h | h); exact .inr h; exact .inl (.inl h); exact .inl (.inr h)
        · rintro ((h | h) | h); exact .inr (.inl h); exact .inr (.inr h); exact .inl h

theorem rise_putS {xs : List Txt} {s : Txt} (h : Rise xs) : Rise (putS xs s) := by
  induction xs with
  | nil => simp [putS]
  | cons x r ih =>
    have hx := List.pairwise_cons.1 h
    unfold putS
    split
    · rename_i hlt
      refine List.pairwise_cons.2 ⟨fun y hy => ?_, ih hx.2⟩
      rcases mem_putS.1 hy with hy | rfl
      · exact hx.1 y hy
      · exact hlt
    · split
      · exact h
      · rename_i h1 h2
        have hlt : s < x := by rcases lt_or x s with h | h | h; exact absurd h h1; exact absurd h h2; exact h
        refine List.pairwise_cons.2 ⟨fun y hy => ?_, h⟩
        rcases List.mem_cons.1 hy with rfl | hy
        · exact hlt
        · exact lt_trans' hlt (hx.1 y hy)

/-- The loop's form: the first k are less, the next one is not. -/
theorem putS_at {xs : List Txt} {s : Txt} : ∀ {k : Nat}, (∀ j x, j < k → xs[j]? = some x → x < s) → (∀ x, xs[k]? = some x → ¬ x < s) → k ≤ xs.length →
    putS xs s = if xs[k]? = some s then xs else xs.take k ++ [s] ++ xs.drop k := by
  induction xs with
  | nil => intro k _ _ hk; obtain rfl : k = 0 := by simpa using hk
           simp [putS]
  | cons x r ih =>
    intro k h1 h2 hk
    cases k with
    | zero =>
      have := h2 x (by simp)
      unfold putS
      rw [if_neg this]
      by_cases hxs : x = s <;> simp [hxs]
    | succ k =>
      have := h1 0 x (by omega) (by simp)
      unfold putS
      rw [if_pos this, ih (k := k) (fun j y hj hy => h1 (j + 1) y (by omega) (by simpa using hy)) (fun y hy => h2 y (by simpa using hy)) (by simpa using hk)]
      simp only [List.getElem?_cons_succ]
      split <;> simp

theorem rise_nodup {xs : List Txt} (h : Rise xs) : xs.Nodup := List.Pairwise.imp (fun {a b} (hab : a < b) (e : a = b) => lt_irrefl' b (e ▸ hab)) h
/-- Rising lists with the same members are the same. -/
theorem rise_ext {xs ys : List Txt} (hx : Rise xs) (hy : Rise ys) (h : ∀ s, s ∈ xs ↔ s ∈ ys) : xs = ys := by
  have nx : xs.Nodup := rise_nodup hx
  have ny : ys.Nodup := rise_nodup hy
  exact List.Perm.eq_of_pairwise (le := (· < ·)) (fun a b _ _ h1 h2 => absurd (lt_trans' h1 h2) (lt_irrefl' a)) hx hy ((List.perm_ext_iff_of_nodup nx ny).2 h)

/-- A list without repeats, sorted, rises strictly. -/
theorem rise_sort {xs : List Txt} (h : xs.Nodup) : Rise (xs.mergeSort leB) := by
  have tr : ∀ a b c : Txt, leB a b = true → leB b c = true → leB a c = true := fun a b c h1 h2 => by simp only [leB, decide_eq_true_eq] at *; exact List.le_trans h1 h2
  have to : ∀ a b : Txt, (leB a b || leB b a) = true := fun a b => by simp only [leB, Bool.or_eq_true, decide_eq_true_eq]; exact List.le_total a b
  have hp := List.pairwise_mergeSort tr to xs
  have hn : (xs.mergeSort leB).Nodup := (List.mergeSort_perm xs leB).nodup_iff.2 h
  refine (hp.and hn).imp fun {a b} hab => ?_
  obtain ⟨h1, h2⟩ := hab
  simp only [leB, decide_eq_true_eq] at h1
  rcases lt_or a b with h | h | h
  · exact h
  · exact absurd h h2
  · exact absurd (List.le_antisymm h1 (List.le_of_lt h)) h2
theorem mem_sort {xs : List Txt} {s : Txt} : s ∈ xs.mergeSort leB ↔ s ∈ xs := (List.mergeSort_perm xs leB).mem_iff

/-- Some texts put, one behind the other. -/
def putAll (xs gs : List Txt) : List Txt := gs.foldl putS xs
theorem mem_putAll {gs xs : List Txt} {y : Txt} : y ∈ putAll xs gs ↔ y ∈ xs ∨ y ∈ gs := by
  induction gs generalizing xs with
  | nil => simp [putAll]
  | cons g r ih =>
    show y ∈ putAll (putS xs g) r ↔ _
    rw [ih, mem_putS]; simp [or_assoc]
theorem rise_putAll {gs xs : List Txt} (h : Rise xs) : Rise (putAll xs gs) := by
  induction gs generalizing xs with
  | nil => exact h
  | cons g r ih => exact ih (rise_putS h)
theorem putAll_snoc {xs gs : List Txt} {g : Txt} : putAll xs (gs ++ [g]) = putS (putAll xs gs) g := by simp [putAll, List.foldl_append]
theorem length_putS (xs : List Txt) (s : Txt) : (putS xs s).length ≤ xs.length + 1 := by
  induction xs with
  | nil => simp [putS]
  | cons x r ih => unfold putS; split <;> (try split) <;> simp <;> omega
theorem length_putAll (gs xs : List Txt) : (putAll xs gs).length ≤ xs.length + gs.length := by
  induction gs generalizing xs with
  | nil => simp [putAll]
  | cons g r ih => have := ih (putS xs g); have := length_putS xs g; show (putAll (putS xs g) r).length ≤ _; simp; omega
theorem take_at {α : Type} {xs : List α} {k : Nat} {x : α} (h : xs[k]? = some x) : xs.take (k + 1) = xs.take k ++ [x] := by
  rw [List.take_add_one, h]; rfl

/-- The model's order of texts is the lists' order. -/
theorem less_eq (x y : Txt) : Op.bytesLess x y = decide (x < y) := by
  induction x generalizing y with
  | nil => cases y <;> simp [Op.bytesLess]
  | cons a x ih =>
    cases y with
    | nil => simp [Op.bytesLess]
    | cons b y =>
      rw [Op.bytesLess, ih y]
      simp only [List.cons_lt_cons_iff]
      by_cases h1 : a < b <;> by_cases h2 : a = b <;> by_cases h3 : x < y <;> simp [h1, h2, h3]

#print axioms rise_ext
end Go.Proofs.LM
