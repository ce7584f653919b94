/- What an outbox keeps is what the reference keeps: over lists alone. -/
import Derived.Test.YtjflbnkmfiejoaaStep
import Derived.Test.YtjflbnkmfiejoaaRStep
import Derived.Test.YtjflbnkmfiejoaaPure
namespace Go.Proofs.Ytjflbnkmfiejoaa
open Go.Proofs.LM

theorem entsFrom_congr {rev : Int} {now now' : List Txt} (h : ∀ g, hasS now g = hasS now' g) : ∀ (gs : List Txt) (n : Int), entsFrom n rev now gs = entsFrom n rev now' gs := by
  intro gs
  induction gs with
  | nil => intro n; rfl
  | cons g r ih => intro n; simp only [entsFrom, h g, ih]

/-- Both steps tell the same. -/
theorem step_same {n rev : Int} {gs F old tgs : List Txt} (hm : ∀ x, x ∈ old ↔ x ∈ F) (hr : Rise tgs) (ht : ∀ x, x ∈ tgs ↔ (x ∈ gs ∧ x ∉ F) ∨ (x ∈ F ∧ x ∉ gs)) :
    entsFrom n rev gs tgs = stepEnts n rev old gs := by
  have hn : ∀ x, x ∈ putAll [] gs ↔ x ∈ gs := fun x => by rw [mem_putAll]; simp
  have e1 : tgs = diffs (putAll [] gs) old (putAll (putAll [] gs) old) := by
    refine rise_ext hr (rise_diffs (rise_putAll (rise_putAll List.Pairwise.nil))) fun x => ?_
    rw [ht x]
    simp only [diffs, List.mem_filter, mem_putAll]
    by_cases h1 : x ∈ gs <;> by_cases h2 : x ∈ F
    · have a := hasS_iff.2 ((hn x).2 h1)
      have b := hasS_iff.2 ((hm x).2 h2)
      simp [h1, h2, a, b]
    · have a := hasS_iff.2 ((hn x).2 h1)
      have b := hasS_false.2 (fun h => h2 ((hm x).1 h))
      simp [h1, h2, a, b]
    · have a := hasS_false.2 (fun h => h1 ((hn x).1 h))
      have b := hasS_iff.2 ((hm x).2 h2)
      simp [h1, h2, a, b, (hm x).2 h2]
    · have a := hasS_false.2 (fun h => h1 ((hn x).1 h))
      have b := hasS_false.2 (fun h => h2 ((hm x).1 h))
      simp [h1, h2, a, b]
  unfold stepEnts
  rw [← e1]
  exact entsFrom_congr (fun g => by rw [Bool.eq_iff_iff, hasS_iff, hasS_iff]; exact (hn g).symm) tgs n

theorem rFloor_eq (n : Nat) (most : Int) : rFloor n most = trimN n most := by unfold rFloor trimN; split <;> omega
theorem trim_add {len m : Nat} {most : Int} (h : 1 ≤ most) : trimN (len + m) most = trimN len most + trimN (len - trimN len most + m) most := by unfold trimN; omega
theorem trim_le {len : Nat} {most : Int} (h : 1 ≤ most) : trimN len most ≤ len := by unfold trimN; omega

/-- What is kept behind a step. -/
theorem kept_step {all l : List Ent} {most : Int} (h : 1 ≤ most) :
    (all.drop (trimN all.length most) ++ l).drop (trimN ((all.drop (trimN all.length most)).length + l.length) most) = (all ++ l).drop (trimN (all ++ l).length most) := by
  have hl := trim_le (len := all.length) h
  have ha := trim_add (len := all.length) (m := l.length) h
  rw [List.length_drop, List.length_append, ha, ← List.drop_append_of_le_length hl, List.drop_drop]
theorem num_snoc {all : List Ent} (h : ∀ (i : Nat) (e : Ent), all[i]? = some e → e.seq = (i : Int) + 1) {rev : Int} {now tgs : List Txt} : ∀ (i : Nat) (e : Ent), (all ++ entsFrom (all.length + 1) rev now tgs)[i]? = some e → e.seq = (i : Int) + 1 := by
  induction tgs generalizing all with
  | nil => simpa [entsFrom] using h
  | cons t r ih =>
    intro i e he
    have e1 : all ++ entsFrom (all.length + 1) rev now (t :: r) = (all ++ [⟨all.length + 1, rev, t, hasS now t⟩]) ++ entsFrom ((all ++ [(⟨all.length + 1, rev, t, hasS now t⟩ : Ent)]).length + 1) rev now r := by simp [entsFrom]
    rw [e1] at he
    refine ih (fun i e h' => ?_) i e he
    rcases snoc_at h' with h' | ⟨rfl, rfl⟩
    · exact h i e h'
    · rfl
theorem floor_step {all l : List Ent} {most : Int} (h : 1 ≤ most) (hn : ∀ (i : Nat) (e : Ent), (all ++ l)[i]? = some e → e.seq = (i : Int) + 1) :
    trimFloor (all.drop (trimN all.length most) ++ l) (trimN all.length most : Int) (trimN ((all.drop (trimN all.length most)).length + l.length) most) = (trimN (all ++ l).length most : Int) := by
  have hl := trim_le (len := all.length) h
  have ha := trim_add (len := all.length) (m := l.length) h
  rw [List.length_drop, List.length_append]
  unfold trimFloor
  split
  · rename_i h0; rw [ha, h0]; simp
  · rename_i h0
    rw [← List.drop_append_of_le_length hl, List.getElem?_drop]
    have hlt : trimN all.length most + (trimN (all.length - trimN all.length most + l.length) most - 1) < (all ++ l).length := by
      have := trim_le (len := all.length + l.length) h
      rw [List.length_append]; omega
    rw [List.getElem?_eq_getElem hlt]
    have := hn _ _ (List.getElem?_eq_getElem hlt)
    simp only [Option.map_some, Option.getD_some]
    rw [this, ha]
    omega

#print axioms floor_step
end Go.Proofs.Ytjflbnkmfiejoaa
