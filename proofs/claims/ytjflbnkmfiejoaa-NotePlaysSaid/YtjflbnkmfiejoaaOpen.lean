/- An argument of type [][]string, opened: each row reads as a list of texts. -/
import Derived.Test.YtjflbnkmfiejoaaFew
import Derived.ProofKit
import Derived.OpenShut
import Derived.ShutString
import Derived.ChangeOld
import Derived.Deep.Slices
import Derived.SliceStrings
namespace Go.Proofs.Ytjflbnkmfiejoaa
open Go.ChangeShapes Go.WideShapes Go.ChangeAt Go.RowKit Go.Deep Go.Proofs.LM
open Go.Proofs (encStr)

theorem Try.own : ownKnob Try.prog.godebug = none := by kernel_rfl
theorem Try.laidOut : laidOutB Try.prog = true := by kernel_rfl
theorem Try.cells25 : Try.prog.cellsOf 25 = 1 := by kernel_rfl
theorem Try.cells9 : Try.prog.cellsOf 9 = 1 := by kernel_rfl

/-- One row. -/
theorem open_row {H : Type} {enc : TypeId × Value → H} {W : World} {fuel : Nat} {v : Value} {x : DataW H × List MemPlace} (h : DataW.trod enc Try.prog W 0 (fun _ => true) true fuel 25 [v] = some x) :
    ∃ (gs : List Txt) (A : Option Addr) (n c : Nat) (e : TypeId), v = .slice A n c ∧ n ≤ c ∧ c ≤ maxLen ∧ Rd W W.heap.size e 1 A n (gs.map encStr) ∧ ∀ y ∈ gs, y.length ≤ maxLen := by
  rcases open_strings Try.underlying25 Try.underlying9 Try.cells9 h with ⟨hcs, _⟩ | ⟨a, len, cap, ss, hcs, _, hl, hm, hz, _, hcell, hsz⟩
  · simp at hcs
    exact ⟨[], none, 0, 0, 0, hcs, Nat.le_refl _, by simp [maxLen], Rd.none_, by simp⟩
  · simp at hcs
    simp only [if_true] at hz
    have hlen : ((ss.take len).map fun s : ByteArray => s.data.toList).length = len := by rw [List.length_map, List.length_take]; omega
    obtain ⟨e, hr⟩ := Rd.of_cells (w := W) (a := a) (n := len) (xs := ((ss.take len).map fun s : ByteArray => s.data.toList).map encStr) (V := fun j => .string (ss.getD j ByteArray.empty)) (by omega) (by rw [List.length_map, hlen]) (fun j hj => hcell j (by omega)) (fun j u hu => by
      rw [List.getElem?_map, List.getElem?_map, Option.map_eq_some_iff] at hu
      obtain ⟨y, hy, rfl⟩ := hu
      rw [Option.map_eq_some_iff] at hy
      obtain ⟨s, hs, rfl⟩ := hy
      have hj : j < len := by have := (List.getElem?_eq_some_iff.1 hs).1; rw [List.length_take] at this; omega
      rw [List.getElem?_take_of_lt hj] at hs
      simp [encStr, List.getD_eq_getElem?_getD, hs])
    refine ⟨_, _, len, cap, e, hcs, hl, hm, hr, fun y hy => ?_⟩
    obtain ⟨s, hs, rfl⟩ := List.mem_map.1 hy
    have := hsz s (List.mem_of_mem_take hs)
    rw [Array.length_toList]; exact this

theorem open_texts {H : Type} {enc : TypeId × Value → H} {W : World} {fuel : Nat} {A : Option Addr} {n c : Nat} {x : DataW H × List MemPlace} (h : DataW.trod enc Try.prog W 0 (fun _ => true) true fuel 22 [.slice A n c] = some x) :
    ∃ gss, RdSS W W.heap.size A n gss := by
  rcases open_slice1 Try.underlying22 Try.cells25 h with ⟨hcs, _⟩ | ⟨a, len, cap, m, f, V, D, Pl, hcs, _, hl, hm, hmm, _, hx⟩
  · simp at hcs
    obtain ⟨rfl, rfl, rfl⟩ := hcs
    exact ⟨[], rfl, by simp [maxLen], by simp⟩
  · simp at hcs
    obtain ⟨rfl, rfl, rfl⟩ := hcs
    simp only [if_true] at hmm
    subst hmm
    have each : ∀ r, r < n → ∃ gs : List Txt, ∃ A' n' c' e, V r = .slice A' n' c' ∧ n' ≤ c' ∧ c' ≤ maxLen ∧ Rd W W.heap.size e 1 A' n' (gs.map encStr) ∧ ∀ y ∈ gs, y.length ≤ maxLen := fun r hr => open_row (hx r (by omega)).2
    obtain ⟨g, hg⟩ := choose_lt each
    refine ⟨(List.range n).map g, by simp, by omega, fun r gs hr => ?_⟩
    rw [List.getElem?_map, Option.map_eq_some_iff] at hr
    obtain ⟨r', hr', rfl⟩ := hr
    have hrn : r < n := by have := (List.getElem?_eq_some_iff.1 hr').1; simpa using this
    rw [List.getElem?_range hrn] at hr'
    injection hr' with hr'
    subst hr'
    obtain ⟨A', n', c', e, hV, h1, h2, h3, h4⟩ := hg r hrn
    have hc := (hx r (by omega)).1
    have h0 := (hx 0 (by omega)).1
    obtain ⟨b, o, sp⟩ := a
    have ha : (⟨b, o, sp⟩ : Addr).add 0 = ⟨b, o, sp⟩ := by simp [Addr.add]
    rw [ha] at h0
    have hsp : sp = none := World.cell?_spot h0
    subst hsp
    rw [add_plain', hV] at hc
    exact ⟨b, o, A', n', c', e, rfl, World.block_lt_of_cell? W _ h0, hc, h1, h2, h3, h4⟩
end Go.Proofs.Ytjflbnkmfiejoaa
