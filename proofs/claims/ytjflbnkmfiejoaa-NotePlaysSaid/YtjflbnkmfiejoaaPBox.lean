/- Both outboxes in memory, alike; a step of both keeps them so. -/
import Derived.Test.YtjflbnkmfiejoaaPurePlays
import Derived.Test.YtjflbnkmfiejoaaSame
import Derived.IntWalk
namespace Go.Proofs.Ytjflbnkmfiejoaa
open Go.RowKit Go.Maps Go.Sort Go.Proofs.LM
open Go.Proofs (encStr)

section
variable {w w' : World}
theorem own_frame_foot {base size n g : Nat} {t e e' : TypeId} {v v' : Value} {xs ys : List Value} {cs : Array Value} {base' size' n' : Nat} (h : w.ownsRow base e size v n xs) (hb : Blk w g t cs) (ho : w.ownsRow base' e' size' v' n' ys) (h1 : t ≠ e) (h2 : e' ≠ e)
    (hf : Fr (g :: v'.ownBlock.toList) w w') : w'.ownsRow base e size v n xs := by
  refine own_frame h hf (fun b hv hm => ?_)
  rcases h.2 with ⟨rfl, _⟩ | ⟨g', cap, cur, rfl, _, hh, _⟩
  · simp [Value.ownBlock] at hv
  · have e1 : g' = b := by simpa [Value.ownBlock] using hv
    subst e1
    exact foot_ne (ty := e) hb ho h1 h2 g' hm cur (0, 0) hh
theorem blk_frame_foot {g g' base' size' n' : Nat} {t t' e' : TypeId} {v' : Value} {ys : List Value} {cs cs' : Array Value} (h : Blk w g t cs) (hb : Blk w g' t' cs') (ho : w.ownsRow base' e' size' v' n' ys) (h1 : t' ≠ t) (h2 : e' ≠ t)
    (hf : Fr (g' :: v'.ownBlock.toList) w w') : Blk w' g t cs := h.frame hf (fun hm => foot_ne (ty := t) hb ho h1 h2 g hm cs (0, 0) h)
theorem mset_frame_foot {b n g' base' size' n' : Nat} {t' e' : TypeId} {v' : Value} {ys : List Value} {cs' : Array Value} {F : List Txt} (h : MSet w b n F) (hb : Blk w g' t' cs') (ho : w.ownsRow base' e' size' v' n' ys)
    (hf : Fr (g' :: v'.ownBlock.toList) w w') : MSet w' b n F := h.frame hf (fun hm => by
  rcases List.mem_cons.1 hm with e | hm
  · exact h.ne_blk hb e
  · exact h.ne_own ho (Option.mem_toList.1 hm).symm)
end

def Num (all : List Ent) : Prop := ∀ (i : Nat) (e : Ent), all[i]? = some e → e.seq = (i : Int) + 1

/-- Both outboxes in memory, alike. -/
structure PBox (w : World) (base ob rb : Nat) (most : Int) (lv : Value) (all : List Ent) (fb fn : Nat) (F : List Txt) (va : Value) (nA : Option Addr) (nn nc : Nat) (old : List Txt) : Prop where
  box : OBox w base ob lv (all.drop (trimN all.length most)) most (all.length : Int) (trimN all.length most : Int) fb fn F
  blk : Blk w rb 45 #[va, .int .i64 most, .slice nA nn nc]
  own : w.ownsRow base 56 4 va all.length (escells all)
  rd : Rd w w.heap.size 9 1 nA nn (old.map encStr)
  rise : Rise old
  mem : ∀ x, x ∈ old ↔ x ∈ F
  num : Num all
  fn8 : fn ≤ 8
  nn8 : nn ≤ 8


section
variable {w w1 w2 : World} {base ob rb : Nat} {most : Int} {lv : Value} {all : List Ent} {fb fn : Nat} {F : List Txt} {va : Value} {nA : Option Addr} {nn nc : Nat} {old : List Txt}
theorem PBox.frame {w' : World} (h : PBox w base ob rb most lv all fb fn F va nA nn nc old) (hf : Fr [] w w') : PBox w' base ob rb most lv all fb fn F va nA nn nc old :=
  ⟨h.box.frame hf (by simp) (by simp) (by simp), h.blk.frame hf (by simp), own_frame h.own hf (by simp), (h.rd.frame0 hf (Nat.le_refl _)).more hf.size, h.rise, h.mem, h.num, h.fn8, h.nn8⟩

/-- Behind note's step the reference's outbox stands. -/
theorem PBox.mid (h : PBox w base ob rb most lv all fb fn F va nA nn nc old) (hf : Fr (ob :: lv.ownBlock.toList) w w1) :
    Blk w1 rb 45 #[va, .int .i64 most, .slice nA nn nc] ∧ w1.ownsRow base 56 4 va all.length (escells all) ∧ Rd w1 w1.heap.size 9 1 nA nn (old.map encStr) :=
  ⟨blk_frame_foot h.blk h.box.blk h.box.own (by decide) (by decide) hf, own_frame_foot h.own h.box.blk h.box.own (by decide) (by decide) hf,
    (h.rd.frame hf (Nat.le_refl _) (foot_ne h.box.blk h.box.own (by decide) (by decide))).more hf.size⟩

/-- Behind both steps they are alike again. -/
theorem PBox.step {rev : Int} {gs tgs : List Txt} {lv2 va2 : Value} {fb2 : Nat} {nA2 : Option Addr} {nn2 nc2 : Nat} (h1 : 1 ≤ most) (h : PBox w base ob rb most lv all fb fn F va nA nn nc old)
    (hris : Rise tgs) (hmem : ∀ x, x ∈ tgs ↔ (x ∈ gs ∧ x ∉ F) ∨ (x ∈ F ∧ x ∉ gs)) (hf : Fr (ob :: lv.ownBlock.toList) w w1)
    (hbox : OBox w1 base ob lv2 ((all.drop (trimN all.length most) ++ entsFrom (all.length + 1) rev gs tgs).drop (trimN ((all.drop (trimN all.length most)).length + tgs.length) most)) most ((all.length : Int) + tgs.length)
      (trimFloor (all.drop (trimN all.length most) ++ entsFrom (all.length + 1) rev gs tgs) (trimN all.length most : Int) (trimN ((all.drop (trimN all.length most)).length + tgs.length) most)) fb2 gs.length gs)
    (hrbox : RBox w2 base rb va2 (all ++ stepEnts (all.length + 1) rev old gs) most (.slice nA2 nn2 nc2) (putAll [] gs)) (hf2 : Fr (rb :: va.ownBlock.toList) w1 w2) (hgs : gs.length ≤ 8) :
    PBox w2 base ob rb most lv2 (all ++ entsFrom (all.length + 1) rev gs tgs) fb2 gs.length gs va2 nA2 nn2 nc2 (putAll [] gs) := by
  obtain ⟨m1, m2, _⟩ := h.mid hf
  have hss := step_same (n := (all.length : Int) + 1) (rev := rev) h.mem hris hmem
  have hlen : (entsFrom ((all.length : Int) + 1) rev gs tgs).length = tgs.length := entsFrom_length _ _ _ _
  have hnum := num_snoc (rev := rev) (now := gs) (tgs := tgs) h.num
  rw [← hlen, kept_step h1, floor_step h1 hnum] at hbox
  rw [← hss] at hrbox
  have hnnl : nn2 = (putAll [] gs).length := by
    obtain ⟨A', n', c', e, hr, _⟩ := hrbox.rd
    injection e with _ e _
    have := hr.1
    simp at this
    omega
  refine ⟨⟨?_, ?_, ?_⟩, hrbox.blk, hrbox.own, ?_, rise_putAll List.Pairwise.nil, fun x => by rw [mem_putAll]; simp, hnum, hgs, ?_⟩
  · have := blk_frame_foot hbox.blk m1 m2 (by decide) (by decide) hf2
    rw [List.length_append, Int.natCast_add]
    rw [List.length_append] at this
    exact this
  · exact own_frame_foot hbox.own m1 m2 (by decide) (by decide) hf2
  · exact mset_frame_foot hbox.map m1 m2 hf2
  · obtain ⟨A', n', c', e, hr, _⟩ := hrbox.rd
    injection e with e1 e2 _
    subst e1 e2
    exact hr
  · have := length_putAll gs []
    simp at this
    omega
/-- The numbers, under names of their own. -/
theorem PBox.view (h1 : 1 ≤ most) (h : PBox w base ob rb most lv all fb fn F va nA nn nc old) : ∃ (L t M : Nat) (lA : Option Addr) (lc : Nat) (Aa : Option Addr) (ca : Nat), lv = .slice lA M lc ∧ va = .slice Aa L ca ∧ Hid (L = all.length ∧ t = trimN L most ∧ M + t = L) ∧ t ≤ L ∧
    Hid (IntKind.i64.wrap ((L : Int) - (t : Int)) = (M : Int)) ∧
    Blk w ob 53 #[.slice lA M lc, .int .i64 most, .int .i64 (L : Int), .int .i64 (t : Int), .map (some fb)] ∧ Blk w rb 45 #[.slice Aa L ca, .int .i64 most, .slice nA nn nc] ∧ L ≤ ca := by
  obtain ⟨lA, lc, rfl, _, _⟩ := own_shape h.box.own
  obtain ⟨Aa, ca, rfl, h3, h4⟩ := own_shape h.own
  have hle := trim_le (len := all.length) h1
  have hb := h.box.blk
  rw [List.length_drop] at hb ⊢
  have hm : all.length ≤ 9223372036854775807 := by unfold maxLen at h4; omega
  refine ⟨all.length, trimN all.length most, all.length - trimN all.length most, lA, lc, Aa, ca, rfl, rfl, ⟨rfl, rfl, by omega⟩, hle, ?_, hb, h.blk, h3⟩
  show IntKind.i64.wrap _ = _
  rw [IntWalk.i64_in _ (by omega)]; omega
/-- The reference's Floor, in the same number. -/
theorem rfloor_trim (rb : Nat) (Aa : Option Addr) (N ca : Nat) (most : Int) (vn : Value) (w : World) (t : Nat) (ht : t = trimN N most) (hb : Blk w rb 45 #[.slice Aa N ca, .int .i64 most, vn]) (hN : N ≤ 100000) (h0 : 1 ≤ most) (h1 : most ≤ 9223372036854775807) :
    Calls Try.prog 18 #[.pointer (some ⟨rb, 0, none⟩)] w (DrawnPost (.int .i64 (t : Int)) w) := by
  have := rfloor_any rb Aa N ca most vn w hb hN h0 h1
  rw [rFloor_eq, ← ht] at this
  exact this
end
end Go.Proofs.Ytjflbnkmfiejoaa
