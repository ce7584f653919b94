/- Same: entries that are the same. -/
import Derived.Test.YtjflbnkmfiejoaaFew
import Derived.Laws.StructEq
namespace Go.Proofs.Ytjflbnkmfiejoaa
open Go.RowKit Go.Maps Go.Sort Go.Proofs.LM
open Go.Proofs (encStr)

set_option maxRecDepth 100000 in
set_option maxHeartbeats 1600000 in
theorem same_any (B e e' : Nat) (A A' : Option Addr) (n c c' : Nat) (es : List Ent) (w : World) (h : Rd w B e 4 A n (escells es)) (h' : Rd w B e' 4 A' n (escells es)) (hB : B ≤ w.heap.size) :
    Calls Try.prog 14 #[.slice A n c, .slice A' n c'] w (AwakePost w) := by
  have hl : es.length = n := by have := h.1; rw [escells_length] at this; omega
  have hnm : n ≤ 9223372036854775807 := by have := h.2.1; unfold maxLen at this; omega
  have HL := Lib.hid hl; clear hl
  go_enter Try.func14, Try.ntmps14
  go_wp2_with fail
  go_loopw [14] (fun i wr => ∃ k : Nat, k ≤ n ∧ i = .int .i64 k ∧ Fr [] w wr) (fun i _ => n - (intOf i).toNat)
  case atStart => exact ⟨0, Nat.zero_le _, rfl, Fr.refl _ _⟩
  case round =>
    obtain ⟨k, hk, rfl, hf⟩ := hrel
    have hs := hf.size
    have hr := h.frame0 hf hB
    have hr' := h'.frame0 hf hB
    by_cases hlt : k < n
    · obtain ⟨x, hx⟩ : ∃ x, es[k]? = some x := ⟨_, List.getElem?_eq_getElem (by rw [HL.out]; exact hlt)⟩
      obtain ⟨b, o, rfl, hb, hvc⟩ := hr.cells (by omega)
      obtain ⟨b', o', rfl, hb', hvc'⟩ := hr'.cells (by omega)
      have c0 := hvc (k * 4) _ (by rw [show k * 4 = k * 4 + 0 by omega, escells_at hx 0 (by omega)]; rfl)
      have c1 := hvc (k * 4 + 1) _ (by rw [escells_at hx 1 (by omega)]; rfl)
      have c2 := hvc (k * 4 + 2) _ (by rw [escells_at hx 2 (by omega)]; rfl)
      have c3 := hvc (k * 4 + 3) _ (by rw [escells_at hx 3 (by omega)]; rfl)
      have d0 := hvc' (k * 4) _ (by rw [show k * 4 = k * 4 + 0 by omega, escells_at hx 0 (by omega)]; rfl)
      have d1 := hvc' (k * 4 + 1) _ (by rw [escells_at hx 1 (by omega)]; rfl)
      have d2 := hvc' (k * 4 + 2) _ (by rw [escells_at hx 2 (by omega)]; rfl)
      have d3 := hvc' (k * 4 + 3) _ (by rw [escells_at hx 3 (by omega)]; rfl)
      rw [← Nat.add_assoc] at c1 c2 c3 d1 d2 d3
      simp only [encStr] at c2 d2
      clear hvc hvc' hx
      have hbw : b < wr.heap.size := by omega
      have e0 : ∀ O : Obj, (wr.alloc O).cell? ⟨b, o + k * 4, none⟩ = some (.int .i64 x.seq) := fun O => (World.cell?_alloc_lt wr O ⟨b, o + k * 4, none⟩ (by simpa using hbw)).trans c0
      have e1 : ∀ O : Obj, (wr.alloc O).cell? ⟨b, o + k * 4 + 1, none⟩ = some (.int .i64 x.rev) := fun O => (World.cell?_alloc_lt wr O ⟨b, o + k * 4 + 1, none⟩ (by simpa using hbw)).trans c1
      have e2 : ∀ O : Obj, (wr.alloc O).cell? ⟨b, o + k * 4 + 2, none⟩ = some (.string ⟨x.g.toArray⟩) := fun O => (World.cell?_alloc_lt wr O ⟨b, o + k * 4 + 2, none⟩ (by simpa using hbw)).trans c2
      have e3 : ∀ O : Obj, (wr.alloc O).cell? ⟨b, o + k * 4 + 3, none⟩ = some (.bool x.f) := fun O => (World.cell?_alloc_lt wr O ⟨b, o + k * 4 + 3, none⟩ (by simpa using hbw)).trans c3
      have hi0 : (0 : Int) ≤ (k : Int) := by omega
      have hi1 : (k : Int) < (n : Int) := by omega
      go_wp2_with fail
      go_quiet (fail)
      go_wp2_with fail
      go_roundw
      case rel => exact ⟨k + 1, by omega, by go_num, (hf.alloc _).drewN _⟩
      case measure => simp [intOf]; omega
    · go_wp2_with fail
      go_ret
      exact ⟨rfl, hf⟩
end Go.Proofs.Ytjflbnkmfiejoaa
