/- The law's own example, and its small functions. -/
import Derived.Test.YtjflbnkmfiejoaaStep
namespace Go.Proofs.Ytjflbnkmfiejoaa
open Go.RowKit Go.Maps Go.Sort Go.Proofs.LM
open Go.Proofs (encStr)

theorem OBox.new {w : World} {most : Int} (h : 1 ≤ most) :
    OBox ((w.alloc (.map #[] 0)).alloc (.cells #[.slice none 0 0, .int .i64 (max most 1), .int .i64 0, .int .i64 0, .map (some w.heap.size)] 53)) w.heap.size (w.heap.size + 1) (.slice none 0 0) [] most 0 0 w.heap.size 0 [] := by
  have e : max most 1 = most := by omega
  refine ⟨?_, own_nil' _ _ _ _, (MSet.made w).alloc _⟩
  rw [e]
  have := Blk.new (w.alloc (.map #[] 0)) 53 #[.slice none 0 0, .int .i64 most, .int .i64 0, .int .i64 0, .map (some w.heap.size)]
  simpa using this

theorem OBox.frame {w w' : World} {base ob : Nat} {lv : Value} {es : List Ent} {most last floor : Int} {fb fn : Nat} {F : List Txt} (h : OBox w base ob lv es most last floor fb fn F) {S : List Nat} (hf : Fr S w w') (h1 : ob ∉ S) (h2 : ∀ b, lv.ownBlock = some b → b ∉ S) (h3 : fb ∉ S) :
    OBox w' base ob lv es most last floor fb fn F := ⟨h.blk.frame hf h1, own_frame h.own hf h2, h.map.frame hf h3⟩

def AwakePost (w : World) (e : Ending) (w' : World) : Prop := e = .returned (.bool true) ∧ Fr [] w w'

set_option maxRecDepth 100000 in
set_option maxHeartbeats 1600000 in
theorem awake_any (w : World) : Calls Try.prog 12 #[] w (AwakePost w) := by
  go_enter Try.func12, Try.ntmps12
  go_wp2_with (go_at_call 6; refine (new_any 9 w).mono ?_; rintro e w1 ⟨rfl, hw1⟩
               have hob := OBox.new (w := w) (most := 9) (by omega)
               have hf1 : Fr [] w w1 := by rw [hw1]; exact ((Fr.refl _ _).alloc _).alloc _
               rw [← hw1] at hob
               have hs1 : w1.heap.size = w.heap.size + 2 := by rw [hw1]; simp
               clear hw1
               have HS1 := Lib.hid hs1; clear hs1)
  obtain ⟨ob, hobn⟩ : ∃ ob, ob = w.heap.size + 1 := ⟨_, rfl⟩
  rw [← hobn] at hob ⊢
  have HOB := Lib.hid hobn
  clear hobn
  have hob1 := (hob.frame ((Fr.refl [] w1).alloc (.cells #[.string ⟨#[97]⟩] 9)) (by simp) (by simp) (by simp))
  refine (step_any (w1.heap.size + 1) w.heap.size _ _ _ _ _ _ _ _ _ 1 (some ⟨w1.heap.size, 0, none⟩) 1 1 [[97]] _ hob1.blk hob1.own hob1.map (Rd.new1 w1 9 (encStr [97])) (by simp [maxLen]) (by simp) (by omega) (by omega) (by simp) (by have := hf1.size; simp; omega) (by omega) (by omega) (by omega) (by omega)).mono ?_
  rintro e w2 ⟨v2, lv2, fb2, tgs, rfl, hris, hmem, hv2, hob2, hf2, hat2, hsep2, _⟩
  obtain rfl : tgs = [[97]] := rise_ext hris (by simp) (fun x => by rw [hmem]; simp)
  clear hris hmem
  have hv2' : w2.ownsRow (w1.heap.size + 1) 33 4 v2 1 (escells [⟨1, 1, [97], true⟩]) := by simpa [entsFrom, hasS] using hv2
  have hob2' : OBox w2 w.heap.size ob lv2 [⟨1, 1, [97], true⟩] 9 1 0 fb2 1 [[97]] := by simpa [entsFrom, trimN, trimFloor, hasS] using hob2
  have hf2' : Fr [ob] w1 w2 := ((Fr.refl [ob] w1).alloc (.cells #[.string ⟨#[97]⟩] 9)).trans (hf2.mono (T := [ob]) (by simp [Value.ownBlock])) (fun t ht => .inl ht)
  have hs2 := hf2'.size
  have hat2' : ∀ b, lv2.ownBlock = some b → w1.heap.size < b := fun b hb => by
    rcases hat2 b hb with h | h
    · simp [Value.ownBlock] at h
    · simp at h; omega
  have hat2b : ∀ b, v2.ownBlock = some b → w1.heap.size < b := fun b hb => (own_base hv2' hb).1
  obtain ⟨lA2, lc2, rfl, _, _⟩ := own_shape hob2'.own
  obtain ⟨A2, c2, rfl, _, _⟩ := own_shape hv2'
  clear hv2 hob2 hf2 hat2 hob1 hob
  have hob3 := hob2'.frame ((Fr.refl [] w2).alloc (.cells #[.string ⟨#[98]⟩] 9)) (by simp) (by simp) (by simp)
  go_wp2_with fail
  refine (step_any (w2.heap.size + 1) w.heap.size _ _ _ _ _ _ _ _ _ 2 (some ⟨w2.heap.size, 0, none⟩) 1 1 [[98]] _ hob3.blk hob3.own hob3.map (Rd.new1 w2 9 (encStr [98])) (by simp [maxLen]) (by simp) (by omega) (by omega) (by simp) (by have := hf1.size; simp; omega) (by omega) (by omega) (by omega) (by omega)).mono ?_
  rintro e w3 ⟨v3, lv3, fb3, tgs, rfl, hris, hmem, hv3, hob4, hf3, hat3, hsep3, _⟩
  obtain rfl : tgs = [[97], [98]] := rise_ext hris (by decide) (fun x => by rw [hmem]; simp; constructor
                                                                            · rintro (⟨h, _⟩ | ⟨h, _⟩); exact .inr h; exact .inl h
                                                                            · rintro (h | h); right; subst h; decide; left; subst h; decide)
  clear hris hmem
  have hv3' : w3.ownsRow (w2.heap.size + 1) 33 4 v3 2 (escells [⟨2, 2, [97], false⟩, ⟨3, 2, [98], true⟩]) := by simpa [entsFrom, hasS] using hv3
  obtain ⟨lA3, lc3, rfl, _, _⟩ := own_shape hob4.own
  have hblk4 := hob4.blk
  obtain ⟨g2, cap2, e2, _, _⟩ := hv2'.form (by omega)
  obtain ⟨g3, cap3, e3, _, _⟩ := hv3'.form (by omega)
  injection e2 with e2 _ _
  subst e2
  subst e3
  have hv2w : w3.ownsRow (w1.heap.size + 1) 33 4 (.slice (some ⟨g2, 0, none⟩) 1 c2) 1 (escells [⟨1, 1, [97], true⟩]) :=
    own_frame (hv2'.alloc (.cells #[.string ⟨#[98]⟩] 9)) hf3 (fun b hb hm => by
      rcases List.mem_cons.1 hm with h | h
      · have := own_blk_ne hv2' hob2'.blk (by decide)
        rw [h] at hb
        exact this hb
      · exact hsep2 b hb (by simpa using h))
  have ha := hv2w.cells (g := g2) rfl 3 (.bool true) rfl
  have h0 := hv3'.cells (g := g3) rfl 3 (.bool false) rfl
  have h1 := hv3'.cells (g := g3) rfl 2 (.string ⟨#[97]⟩) rfl
  have h2 := hv3'.cells (g := g3) rfl 7 (.bool true) rfl
  rw [add_plain', Nat.zero_add] at ha h0 h1 h2
  have hf3' : Fr [] w w3 := by
    have e1 : Fr [ob] w1 w3 := by
      refine (hf2'.alloc (.cells #[.string ⟨#[98]⟩] 9)).trans hf3 (fun t ht => ?_)
      rcases List.mem_cons.1 ht with h | h
      · exact .inl (by simp [h])
      · exact .inr (by have := hat2' t (by simpa using h); omega)
    exact hf1.trans e1 (fun t ht => .inr (by have := HOB.out; simp at ht; omega))
  clear hv3 hob4 hf3 hat3 hsep3 hsep2 hv2' hv3' hv2w hob3 hob2'
  have HB4 := Lib.hid hblk4; clear hblk4
  go_wp2_with fail
  refine (last_any _ _ _ _ _ _ _ _ _ HB4.out).mono ?_
  rintro e w' ⟨rfl, rfl⟩
  go_wp2_with fail
  go_ret
  exact ⟨rfl, hf3'⟩
end Go.Proofs.Ytjflbnkmfiejoaa
