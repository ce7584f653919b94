/- The laws of an outbox, over lists alone: of each group the entries are in turn; what is kept is what the reference keeps. -/
import Derived.Test.YtjflbnkmfiejoaaEnts
namespace Go.Proofs.LM

/-! ### in turn -/
/-- What the last entry of a group says. -/
def cur : List Ent → Txt → Bool
  | [], _ => false
  | es, g => (es.foldl (fun b e => if e.g = g then e.f else b) false)
theorem cur_eq (es : List Ent) (g : Txt) : cur es g = es.foldl (fun b e => if e.g = g then e.f else b) false := by cases es <;> rfl
theorem cur_snoc (es : List Ent) (e : Ent) (g : Txt) : cur (es ++ [e]) g = if e.g = g then e.f else cur es g := by
  rw [cur_eq, cur_eq, List.foldl_append]; rfl

/-- Numbers from 1 on; each entry says other than the one before it of its group; the last ones say which fire. -/
structure Turns (es : List Ent) (F : List Txt) : Prop where
  num : ∀ (i : Nat) (e : Ent), es[i]? = some e → e.seq = (i : Int) + 1
  alt : ∀ (i : Nat) (e : Ent), es[i]? = some e → e.f = !(cur (es.take i) e.g)
  now : ∀ g, cur es g = hasS F g

theorem Turns.nil : Turns [] [] := ⟨by simp, by simp, fun g => rfl⟩

theorem snoc_at {α : Type} {xs : List α} {x y : α} {i : Nat} (h : (xs ++ [x])[i]? = some y) : xs[i]? = some y ∨ (i = xs.length ∧ y = x) := by
  rw [List.getElem?_append] at h
  split at h
  · exact .inl h
  · right
    rcases Nat.eq_zero_or_pos (i - xs.length) with h0 | h0
    · rw [h0] at h; simp at h; exact ⟨by omega, h.symm⟩
    · rw [List.getElem?_eq_none (by simp; omega)] at h; cases h

/-- One step: the groups that turn. -/
theorem Turns.step_aux {rev : Int} {gs : List Txt} : ∀ (tgs : List Txt) (es : List Ent), tgs.Nodup → (∀ (i : Nat) (e : Ent), es[i]? = some e → e.seq = (i : Int) + 1) → (∀ (i : Nat) (e : Ent), es[i]? = some e → e.f = !(cur (es.take i) e.g)) →
    (∀ g ∈ tgs, cur es g = !(hasS gs g)) →
    (∀ (i : Nat) (e : Ent), (es ++ entsFrom (es.length + 1) rev gs tgs)[i]? = some e → e.seq = (i : Int) + 1) ∧ (∀ (i : Nat) (e : Ent), (es ++ entsFrom (es.length + 1) rev gs tgs)[i]? = some e → e.f = !(cur ((es ++ entsFrom (es.length + 1) rev gs tgs).take i) e.g)) ∧
    (∀ g, cur (es ++ entsFrom (es.length + 1) rev gs tgs) g = if g ∈ tgs then hasS gs g else cur es g) := by
  intro tgs
  induction tgs with
  | nil => intro es _ h1 h2 _; simp only [entsFrom, List.append_nil]; exact ⟨h1, h2, fun g => by simp⟩
  | cons t r ih =>
    intro es hn h1 h2 h3
    have hn' := List.nodup_cons.1 hn
    obtain ⟨a, b, c⟩ := ih (es ++ [⟨es.length + 1, rev, t, hasS gs t⟩]) hn'.2
      (fun i e h => by
        rcases snoc_at h with h | ⟨rfl, rfl⟩
        · exact h1 i e h
        · rfl)
      (fun i e h => by
        rcases snoc_at h with h | ⟨rfl, rfl⟩
        · rw [List.take_append_of_le_length (by have := (List.getElem?_eq_some_iff.1 h).1; omega)]
          exact h2 i e h
        · rw [List.take_append_of_le_length (Nat.le_refl _), List.take_length]
          show hasS gs t = !(cur es t)
          rw [h3 t (by simp)]; simp)
      (fun g hg => by
        rw [cur_snoc]
        have : t ≠ g := fun e => hn'.1 (e ▸ hg)
        rw [if_neg this]
        exact h3 g (List.mem_cons_of_mem _ hg))
    have e : es ++ entsFrom (es.length + 1) rev gs (t :: r) = (es ++ [⟨es.length + 1, rev, t, hasS gs t⟩]) ++ entsFrom ((es ++ [(⟨es.length + 1, rev, t, hasS gs t⟩ : Ent)]).length + 1) rev gs r := by
      simp [entsFrom]
    rw [e]
    refine ⟨a, b, fun g => ?_⟩
    rw [c g, cur_snoc]
    by_cases hg : g ∈ r
    · simp [hg]
    · rw [if_neg hg]
      by_cases e : t = g
      · subst e; simp
      · simp [e, hg, Ne.symm e]

theorem Turns.step {rev : Int} {gs F tgs : List Txt} {es : List Ent} (h : Turns es F) (hr : Rise tgs) (hm : ∀ x, x ∈ tgs ↔ (x ∈ gs ∧ x ∉ F) ∨ (x ∈ F ∧ x ∉ gs)) :
    Turns (es ++ entsFrom (es.length + 1) rev gs tgs) gs := by
  obtain ⟨a, b, c⟩ := Turns.step_aux (rev := rev) (gs := gs) tgs es (rise_nodup hr) h.num h.alt (fun g hg => by
    rw [h.now g]
    rcases (hm g).1 hg with ⟨h1, h2⟩ | ⟨h1, h2⟩
    · rw [hasS_iff.2 h1, hasS_false.2 h2]; rfl
    · rw [hasS_iff.2 h1, hasS_false.2 h2]; rfl)
  refine ⟨a, b, fun g => ?_⟩
  rw [c g, h.now g]
  split
  · rfl
  · rename_i hg
    rw [hm g] at hg
    by_cases h1 : g ∈ gs <;> by_cases h2 : g ∈ F <;> simp_all [hasS]

/-- If no later entry is of the group, the last word is this one's. -/
theorem cur_none {g : Txt} : ∀ (ys xs : List Ent), (∀ y ∈ ys, y.g ≠ g) → cur (xs ++ ys) g = cur xs g := by
  intro ys
  induction ys with
  | nil => intro xs _; rw [List.append_nil]
  | cons y r ih =>
    intro xs h
    rw [show xs ++ y :: r = (xs ++ [y]) ++ r by simp, ih _ (fun z hz => h z (List.mem_cons_of_mem _ hz)), cur_snoc, if_neg (h y (by simp))]
theorem cur_last {es : List Ent} {i : Nat} {e : Ent} (h : es[i]? = some e) (hl : ∀ (k : Nat) (y : Ent), es[k]? = some y → k ≤ i ∨ y.g ≠ e.g) : cur es e.g = e.f := by
  have h1 : es = (es.take i ++ [e]) ++ es.drop (i + 1) := by rw [← take_at h, List.take_append_drop]
  rw [h1, cur_none, cur_snoc, if_pos rfl]
  intro y hy
  obtain ⟨j, hj⟩ := List.mem_iff_getElem?.1 hy
  rw [List.getElem?_drop] at hj
  rcases hl _ y hj with h | h
  · omega
  · exact h
/-- What stands before: as the law's inner loop reckons it. -/
theorem cur_take_succ {es : List Ent} {k : Nat} {y : Ent} (h : es[k]? = some y) (g : Txt) : cur (es.take (k + 1)) g = if y.g = g then y.f else cur (es.take k) g := by
  rw [take_at h, cur_snoc]

/-- Is no entry among the first q behind number m of a group? -/
def lastB (es : List Ent) (m : Nat) (g : Txt) (q : Nat) : Bool := ((es.take q).drop (m + 1)).all fun y => !(y.g == g)
theorem lastB_low {es : List Ent} {m q : Nat} {g : Txt} (h : q ≤ m + 1) : lastB es m g q = true := by
  unfold lastB
  rw [List.drop_eq_nil_of_le (by rw [List.length_take]; omega)]; rfl
theorem lastB_succ {es : List Ent} {m q : Nat} {g : Txt} {y : Ent} (h : es[q]? = some y) (hq : m < q) : lastB es m g (q + 1) = (lastB es m g q && !(y.g == g)) := by
  unfold lastB
  have hl := (List.getElem?_eq_some_iff.1 h).1
  rw [take_at h, List.drop_append, List.all_append, List.length_take, show m + 1 - min q es.length = 0 by omega]
  simp
theorem lastB_all {es : List Ent} {m : Nat} {g : Txt} (h : lastB es m g es.length = true) : ∀ (k : Nat) (y : Ent), es[k]? = some y → k ≤ m ∨ y.g ≠ g := by
  intro k y hk
  by_cases hm : k ≤ m
  · exact .inl hm
  · right
    unfold lastB at h
    rw [List.take_length, List.all_eq_true] at h
    have := h y (List.mem_iff_getElem?.2 ⟨k - (m + 1), by rw [List.getElem?_drop, show m + 1 + (k - (m + 1)) = k by omega]; exact hk⟩)
    simpa using this

#print axioms Turns.step
end Go.Proofs.LM
