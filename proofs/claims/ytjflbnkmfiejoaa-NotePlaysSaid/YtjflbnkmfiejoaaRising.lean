/- note.rising: the texts of a map, by their bytes. -/
import Derived.Test.YtjflbnkmfiejoaaRef
import Derived.Test.YtjflbnkmfiejoaaShelf
import Derived.Maps.RangeWalk
import Derived.Maps.OwnSet
namespace Go.Proofs.Ytjflbnkmfiejoaa
open Go.RowKit Go.Maps Go.Sort Go.Proofs.LM
open Go.Proofs (encStr)

theorem law9 : Keyed Try.prog 9 := string_keyed Try.underlying9
abbrev OwnsM (w : World) (b n : Nat) (D : DataW Unit) : Prop := w.ownsMap Try.prog 9 (plainElem Try.prog 3) b n D

def RisingPost (D : DataW Unit) (w : World) (e : Ending) (w' : World) : Prop :=
  ∃ v, e = .returned v ∧ w'.ownsRow w.heap.size 9 1 v ((strKeys D).mergeSort leB).length (((strKeys D).mergeSort leB).map encStr) ∧ Fr [] w w'

set_option maxRecDepth 100000 in
set_option maxHeartbeats 1000000 in
theorem rising_any (b n : Nat) (D0 : DataW Unit) (w : World) (hown : OwnsM w b n D0) (hn : n ≤ 10000) :
    Calls Try.prog 21 #[.map (some b)] w (RisingPost D0 w) := by
  obtain ⟨i0, hi, hz0, hz1, hz2⟩ := info_parts Try.info9
  have hbl := hown.lt
  have hsz := hown.size_le
  go_enter Try.func21, Try.ntmps21
  go_wp2_with (first
    | (at_range; refine wpList_range_own _ rfl _ 51 rfl 9 3 law9 Try.underlying51 _ b n _ rfl hown ?_; intro w0 hrg0 hg0 hs0)
    | fail)
  go_frame
  clear hs0
  go_loopw [3] (fun v wr => ∃ (left : Lit → Bool) (cnt : Nat) (ss : List Txt), wr.ranges Try.prog 9 (plainElem Try.prog 3) b w.heap.size n D0 left cnt ∧ ss.length + cnt ≤ Maps.size D0 ∧
      wr.ownsRow w.heap.size 9 1 v ss.length (ss.map encStr) ∧ Collected D0 left ss ∧ Below w.heap.size w wr)
    (fun _ wr => wr.rangeLeft b w.heap.size)
  case atStart => exact ⟨_, _, [], hrg0, by simp, own_nil' _ _ _ _, Collected.start D0, (Below.refl _ _).grown hg0 (Nat.le_refl _) (fun j hj => by cases hj)⟩
  case round =>
    obtain ⟨left, cnt, ss, hrg, hcs, hrow, hC, hnx⟩ := hrel
    go_wp2_with (first
      | (at_next; refine wpList_next_ranges _ rfl _ rfl 9 law9 (plainElem Try.prog 3) encStr (Value.int .i64) (fun key kl hk => by obtain ⟨x, hx, _⟩ := Maps.keyOf_str Try.underlying9 hk; exact ⟨x, hx⟩) (fun v y hv => by obtain ⟨c, rfl, _⟩ := plainElem_int_inv Try.underlying3 hv; exact ⟨c, rfl⟩) b w.heap.size n _ _ _ rfl hrg ?_ ?_)
      | fail)
    · intro hc0 hl0
      have hperm := hC.perm hown law9 Try.underlying9 hl0
      have hms := mergeSort_of_perm hperm
      rcases hrow.2 with ⟨rfl, hnil⟩ | ⟨g, cap, cur, rfl, hbase, hb, h1, h2, h3, h4⟩
      · have hss : ss = [] := List.eq_nil_of_length_eq_zero hnil
        clear hc0 hl0
        have HS := Lib.hid hss; clear hss hnil
        have HM := Lib.hid hms; clear hms
        go_wp2_with (go_at_call 24; refine (Try.slices_Sort_string_none none 0 wr).mono ?_; rintro e w' ⟨rfl, rfl⟩)
        go_ret
        refine ⟨.slice none 0 0, rfl, ?_, Fr.ofBelow hnx⟩
        rw [← HM.out, HS.out]
        simpa using own_nil' _ w.heap.size 9 1
      · have hH : Holds encStr wr g 0 ss.toArray := holds_of_block hb (by simpa using h4)
        have hgl : g < wr.heap.size := (Array.getElem?_eq_some_iff.1 hb).1
        have hc := Try.slices_Sort_string g 0 cap ss wr hH hgl (by omega)
        clear hc0 hl0
        have HM := Lib.hid hms; clear hms h4
        go_wp2_with (go_at_call 24; refine hc.mono ?_; rintro e w' ⟨rfl, nn, os, rfl⟩)
        go_ret
        refine ⟨.slice (some ⟨g, 0, none⟩) ss.length cap, rfl, ?_, Fr.ofBelow (hnx.grown (grownBy_sorted _) hnx.size (fun j hj => by cases hj; exact hbase))⟩
        have hl : (ss.mergeSort leB).length = ss.length := (List.mergeSort_perm ss leB).length_eq
        rw [← HM.out, hl]
        exact ownsRow_sorted hl hbase hb h1 h2 h3
    · intro x c kl yd yp w2 cnt2 hkey hlk hv hat hrg2 hlt hg2 hs2 hen
      obtain ⟨x', ex, rfl, _⟩ := Maps.keyOf_str Try.underlying9 hkey
      obtain rfl : x = x' := encStr_inj ex
      have hrow2 := hrow.kept hg2 (Or.inr (row_ne_iter hrow hrg).symm)
      clear hs2
      go_wp2_with (first
        | (at_builtin; refine wpList_append_own _ rfl _ _ 25 rfl w.heap.size 9 i0 (.string ⟨#[]⟩) 1 16 Try.underlying25 hi hz0 hz1 hz2 rfl (by decide) _ _ _ rfl (hrow2.alloc _) ⟨w2.heap.size, 0, none⟩ 1 1 [encStr x] rfl rfl (cell_one_new _ _ _) (by simp [Value.oneCell', encStr]) (by unfold maxLen at *; omega) (by omega) (by have := hnx.size; have := hg2.size; simp; omega) ?_; intro v' w3 hown' hg3 hnil3; go_frame)
        | fail)
      have hrg3 := (hrg2.alloc _).kept hg3 (row_ne_low hrow2 hbl) (row_ne_iter hrow2 hrg2)
      go_roundw
      case rel =>
        refine ⟨_, cnt2, ss ++ [x], hrg3, by simp; omega, by simpa using hown', hC.step hlk hat, ?_⟩
        exact ((hnx.grown hg2 hnx.size (fun j hj => by cases hj; exact Nat.le_refl _)).alloc (by have := hnx.size; have := hg2.size; omega) _).grown hg3 (by have := hnx.size; have := hg2.size; simp; omega) (fun j hj => (hrow2.lt j hj).1)
      case measure => rw [hrg3.left_eq, hrg.left_eq]; exact hlt
end Go.Proofs.Ytjflbnkmfiejoaa
