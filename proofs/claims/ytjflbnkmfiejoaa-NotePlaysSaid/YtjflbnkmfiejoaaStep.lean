/- note's outbox: Step. -/
import Derived.Test.YtjflbnkmfiejoaaSmall
import Derived.Deep.QuietTactic
import Derived.BigQuiet
import Derived.IntWalk
import Derived.Deep.RegionHeld3
import Derived.Deep.AppendLies
import Derived.Deep.DrawnRows
namespace Go.Proofs.Ytjflbnkmfiejoaa
open Go.RowKit Go.Maps Go.Sort Go.Proofs.LM
open Go.Proofs (encStr)

/-- The outbox in memory. -/
structure OBox (w : World) (base ob : Nat) (lv : Value) (es : List Ent) (most last floor : Int) (fb fn : Nat) (F : List Txt) : Prop where
  blk : Blk w ob 53 #[lv, .int .i64 most, .int .i64 last, .int .i64 floor, .map (some fb)]
  own : w.ownsRow base 33 4 lv es.length (escells es)
  map : MSet w fb fn F

/-- How many entries go, and up to which number. -/
def trimN (len : Nat) (most : Int) : Nat := ((len : Int) - most).toNat
def trimFloor (es : List Ent) (floor : Int) (k : Nat) : Int := if k = 0 then floor else ((es[k - 1]?).map (·.seq)).getD 0

def StepPost (base ob : Nat) (lv : Value) (es : List Ent) (most last floor : Int) (fn : Nat) (F : List Txt) (rev : Int) (gs : List Txt) (w : World) (e : Ending) (w' : World) : Prop :=
  ∃ v lv' fb' tgs, e = .returned v ∧ Rise tgs ∧ (∀ x, x ∈ tgs ↔ (x ∈ gs ∧ x ∉ F) ∨ (x ∈ F ∧ x ∉ gs)) ∧
    w'.ownsRow w.heap.size 33 4 v tgs.length (escells (entsFrom (last + 1) rev gs tgs)) ∧
    OBox w' base ob lv' ((es ++ entsFrom (last + 1) rev gs tgs).drop (trimN (es.length + tgs.length) most)) most (last + tgs.length) (trimFloor (es ++ entsFrom (last + 1) rev gs tgs) floor (trimN (es.length + tgs.length) most)) fb' gs.length gs ∧
    Fr (ob :: lv.ownBlock.toList) w w' ∧ (∀ b, lv'.ownBlock = some b → lv.ownBlock = some b ∨ w.heap.size ≤ b) ∧ (∀ b, v.ownBlock = some b → lv'.ownBlock ≠ some b) ∧ tgs.length ≤ gs.length + fn

def notIn (F xs : List Txt) : List Txt := xs.filter fun x => !hasS F x
theorem notIn_snoc (F xs : List Txt) (x : Txt) : notIn F (xs ++ [x]) = notIn F xs ++ (if hasS F x = true then [] else [x]) := by
  simp only [notIn, List.filter_append, List.filter_cons, List.filter_nil]
  cases hasS F x <;> simp
theorem mem_notIn {F xs : List Txt} {x : Txt} : x ∈ notIn F xs ↔ x ∈ xs ∧ x ∉ F := by
  simp only [notIn, List.mem_filter, Bool.not_eq_true', hasS_false]

set_option maxRecDepth 100000 in
set_option maxHeartbeats 6400000 in
theorem step_any {eA : TypeId} (B base ob : Nat) (lv : Value) (es : List Ent) (most last floor : Int) (fb fn : Nat) (F : List Txt) (rev : Int) (A : Option Addr) (n c : Nat) (gs : List Txt) (w : World)
    (hblk : Blk w ob 53 #[lv, .int .i64 most, .int .i64 last, .int .i64 floor, .map (some fb)]) (hown : w.ownsRow base 33 4 lv es.length (escells es)) (hF : MSet w fb fn F)
    (hr : Rd w B eA 1 A n (gs.map encStr)) (hgl : ∀ x ∈ gs, x.length ≤ maxLen) (hB : B ≤ w.heap.size) (hn : n ≤ 100) (hfn : fn ≤ 100) (hes : es.length ≤ 10000) (hbase : base ≤ w.heap.size)
    (hm0 : 1 ≤ most) (hm1 : most ≤ 9223372036854775807) (hl0 : 0 ≤ last) (hl1 : last ≤ 1000000) :
    Calls Try.prog 7 #[.pointer (some ⟨ob, 0, none⟩), .int .i64 rev, .slice A n c] w (StepPost base ob lv es most last floor fn F rev gs w) := by
  have hmm := @run_makeMap Try.prog
  obtain ⟨i0, hi, hz0, hz1, hz2⟩ := info_parts Try.info33
  have hl : gs.length = n := by simpa using hr.1
  have HL := Lib.hid hl; clear hl
  have hob := hblk.lt
  have hfb := hF.lt
  go_enter Try.func7, Try.ntmps7
  go_wp2
  go_loopw [22] (fun i wr => ∃ k : Nat, k ≤ n ∧ i = .int .i64 k ∧ MSet wr w.heap.size k (gs.take k) ∧ MSet wr (w.heap.size + 1) k (notIn F (gs.take k)) ∧ Fr [] w wr) (fun i _ => n - (intOf i).toNat)
  case atStart =>
    refine ⟨0, Nat.zero_le _, rfl, (MSet.made w).alloc _, ?_, ((Fr.refl _ _).alloc _).alloc _⟩
    have := MSet.made (w.alloc (.map #[] 0))
    simpa [notIn] using this
  case round =>
    obtain ⟨k, hk, rfl, hN, hT, hf⟩ := hrel
    have hrw := hr.frame0 hf hB
    have hblkw := hblk.frame hf (by simp)
    have hFw := hF.frame hf (by simp)
    have hsz := hf.size
    by_cases hlt : k < n
    · obtain ⟨b, o, u, rfl, hb, hu, hcell⟩ := hrw.at_ hlt
      obtain ⟨x, hx, rfl⟩ := enc_at hu
      clear hu
      have hxl := hgl x (List.mem_of_getElem? hx)
      have HX := Lib.hid hx; clear hx
      have HG := Lib.hid hgl; clear hgl
      cases hcs : hasS F x with
      | true =>
        have HC := Lib.hid hcs; clear hcs
        go_wp2_with (first
          | (at_mapUpdate; refine wpList_mset_store (o := ⟨none, Op.mapUpdate 51 (.tmp 26) _ _, _, _, _, _⟩) rfl _ _ _ rfl w.heap.size k _ x rfl hN (by omega) rfl rfl hxl ?_
             intro w1 hN1 hg1
             have hc4 : w1.cell? ⟨ob, 4, none⟩ = some (.map (some fb)) := (hblkw.grown hg1 (by simp; omega)).cell 4
             have hlk := (hFw.kept hg1 (by simp; omega)).look x hxl
             rw [HC.out, if_pos rfl] at hlk)
          | fail)
        go_roundw
        case rel => exact ⟨k + 1, by omega, by go_num, by rw [take_at HX.out]; exact hN1, by rw [take_at HX.out, notIn_snoc, if_pos HC.out, List.append_nil]; exact (hT.kept hg1 (by simp)).mono (by omega), hf.grown hg1 (fun j hj => by cases hj; exact .inr (Nat.le_refl _))⟩
        case measure => simp [intOf]; omega
      | false =>
        have HC := Lib.hid hcs; clear hcs
        go_wp2_with (first
          | (at_mapUpdate; refine wpList_mset_store (o := ⟨none, Op.mapUpdate 51 (.tmp 26) _ _, _, _, _, _⟩) rfl _ _ _ rfl w.heap.size k _ x rfl hN (by omega) rfl rfl hxl ?_
             intro w1 hN1 hg1
             have hc4 : w1.cell? ⟨ob, 4, none⟩ = some (.map (some fb)) := (hblkw.grown hg1 (by simp; omega)).cell 4
             have hlk := (hFw.kept hg1 (by simp; omega)).look x hxl
             rw [HC.out, if_neg (by simp)] at hlk)
          | (at_mapUpdate; refine wpList_mset_store (o := ⟨none, Op.mapUpdate 51 (.tmp 35) _ _, _, _, _, _⟩) rfl _ _ _ rfl (w.heap.size + 1) k _ x rfl (hT.kept hg1 (by simp)) (by omega) rfl rfl hxl ?_
             intro w2 hT2 hg2)
          | fail)
        go_roundw
        case rel => exact ⟨k + 1, by omega, by go_num, by rw [take_at HX.out]; exact hN1.kept hg2 (by simp), by rw [take_at HX.out, notIn_snoc, if_neg (by rw [HC.out]; simp)]; exact hT2, (hf.grown hg1 (fun j hj => by cases hj; exact .inr (Nat.le_refl _))).grown hg2 (fun j hj => by cases hj; exact .inr (by omega))⟩
        case measure => simp [intOf]; omega
    · obtain rfl : k = n := by omega
      obtain ⟨w1, rfl⟩ : ∃ w1 : World, w1 = wr := ⟨_, rfl⟩
      have htk : gs.take k = gs := by rw [List.take_of_length_le (by rw [HL.out]; omega)]
      rw [htk] at hN hT
      clear htk
      have hc4 : w1.cell? ⟨ob, 4, none⟩ = some (.map (some fb)) := hblkw.cell 4
      obtain ⟨D, hD, hone⟩ := hFw
      have hDs := hD.size_le
      go_wp2_with (first
        | (at_range; refine wpList_range_own _ rfl _ 51 rfl 9 3 law9 Try.underlying51 _ fb fn _ rfl hD ?_; intro w2 hrg0 hg0 hs0)
        | fail)
      go_frame
      have hTlt := hT.lt
      clear hs0
      go_loopw [11] (fun _ wr => ∃ (left : Lit → Bool) (cnt : Nat) (ss : List Txt), wr.ranges Try.prog 9 (plainElem Try.prog 3) fb w1.heap.size fn D left cnt ∧ ss.length + cnt ≤ Maps.size D ∧ MSet wr w.heap.size k gs ∧
          MSet wr (w.heap.size + 1) (k + ss.length) (notIn F gs ++ notIn gs ss) ∧ Collected D left ss ∧ Fr [] w wr) (fun _ wr => wr.rangeLeft fb w1.heap.size)
      case atStart => exact ⟨_, _, [], hrg0, by simp, hN.kept hg0 (by simp), by simpa [notIn] using hT.kept hg0 (by simp), Collected.start D, hf.grown hg0 (fun j hj => by cases hj)⟩
      case round =>
        obtain ⟨left, cnt, ss, hrg, hcs, hN2, hT2, hC, hf2⟩ := hrel
        go_wp2_with (first
          | (at_next; refine wpList_next_ranges _ rfl _ rfl 9 law9 (plainElem Try.prog 3) encStr (Value.int .i64) (fun key kl hk => by obtain ⟨x, hx, _⟩ := Maps.keyOf_str Try.underlying9 hk; exact ⟨x, hx⟩) (fun v y hv => by obtain ⟨c, rfl, _⟩ := plainElem_int_inv Try.underlying3 hv; exact ⟨c, rfl⟩) fb w1.heap.size fn _ _ _ rfl hrg ?_ ?_)
          | fail)
        · intro hc0 hl0
          clear hc0
          have hmem : ∀ x, x ∈ ss ↔ x ∈ F := fun x => by rw [hC.2 x, hone.1 x, hl0]; simp [hasS_iff]
          clear hl0
          obtain ⟨w2', rfl⟩ : ∃ w2' : World, w2' = wr := ⟨_, rfl⟩
          have hset : ∀ x, x ∈ notIn F gs ++ notIn gs ss ↔ (x ∈ gs ∧ x ∉ F) ∨ (x ∈ F ∧ x ∉ gs) := fun x => by rw [List.mem_append, mem_notIn, mem_notIn, hmem]
          have HSET := Lib.hid hset; clear hset hmem
          have hsz2 := hf2.size
          have hDs2 : ss.length ≤ fn := by omega
          go_wp2_with (first | (go_at_call 21; refine (ris_any (w.heap.size + 1) (k + ss.length) _ w2' hT2 (by omega)).mono ?_; rintro e w3 ⟨v3, tgs, rfl, hv3, hris, hmem3, hf3, htn⟩; obtain ⟨A3, c3, rfl, hc3, hcm3⟩ := own_shape hv3) | fail)
          have hf3' := hf2.trans hf3 (by simp)
          have hsz3 := hf3.size
          have hblk3 := hblk.frame hf3' (by simp)
          have hown3 := own_frame hown hf3' (by simp)
          have hN3 := hN2.frame hf3 (by simp)
          have htg3 := Rd.of_own hv3
          have hne53 : ∀ b ∈ [ob], ∀ cur fr, w3.heap[b]? ≠ some (.cells cur 9 fr) := by
            have h := foot_ne (v := .slice none 0 0) (ty := 9) hblk3 (own_nil' w3 base 33 4) (by decide) (by decide)
            simpa [Value.ownBlock] using h
          have htl : tgs.length ≤ 200 := by omega
          have htfn : tgs.length ≤ k + fn := by omega
          clear hC hrg hrg0 hg0 hcs hDs hDs2 hT2 hT hN hN2
          go_loopw [12, 56] (fun v i wr => ∃ j : Nat, j ≤ tgs.length ∧ i = .int .i64 j ∧ wr.ownsRow w3.heap.size 33 4 v j (escells (entsFrom (last + 1) rev gs (tgs.take j))) ∧
              Blk wr ob 53 #[lv, .int .i64 most, .int .i64 (last + j), .int .i64 floor, .map (some fb)] ∧ Fr [ob] w3 wr) (fun _ i _ => tgs.length - (intOf i).toNat)
          case atStart => exact ⟨0, Nat.zero_le _, rfl, own_nil' _ _ _ _, by simpa using hblk3, Fr.refl _ _⟩
          case round =>
            obtain ⟨j, hj, rfl, hov, hbj, hfj⟩ := hrel
            obtain ⟨Av, cv, rfl, hvc, hvm⟩ := own_shape hov
            have htg := htg3.frame hfj (Nat.le_refl _) hne53
            have hszj := hfj.size
            have hNj := hN3.frame hfj (by simp; omega)
            have hcell2 : wr.cell? ⟨ob, 2, none⟩ = some (.int .i64 (last + j)) := hbj.cell 2
            have hfro2 : wr.frozen? ⟨ob, 2, none⟩ = false := hbj.frozen 2
            by_cases hlt3 : j < tgs.length
            · obtain ⟨b, o, u, rfl, hb, hu, hcell⟩ := htg.at_ hlt3
              obtain ⟨x, hx, rfl⟩ := enc_at hu
              clear hu
              have hxl : x.length ≤ maxLen := by
                rcases (HSET.out x).1 ((hmem3 x).1 (List.mem_of_getElem? hx)) with h | h
                · exact hgl x h.1
                · exact hone.2.2 x h.1
              have HX := Lib.hid hx; clear hx
              go_wp2_with fail
              obtain ⟨w4, hw4⟩ : ∃ w4, w4 = wr.setCell ⟨ob, 2, none⟩ (.int .i64 (last + j + 1)) := ⟨_, rfl⟩
              have hb4 : Blk w4 ob 53 #[lv, .int .i64 most, .int .i64 (last + j + 1), .int .i64 floor, .map (some fb)] := by rw [hw4]; exact hbj.set_ 2 _
              have ho4 : w4.ownsRow w3.heap.size 33 4 (.slice Av j cv) j (escells (entsFrom (last + 1) rev gs (tgs.take j))) := by rw [hw4]; exact own_set hov hbj (by decide) 2 _
              have hN4 : MSet w4 w.heap.size k gs := by rw [hw4]; exact hNj.setCell (by simp; omega) _
              have hf4 : Fr [ob] w3 w4 := by rw [hw4]; exact hfj.setCell (.inl (by simp)) _
              rw [← hw4]
              clear hw4 hcell2 hfro2 hcell htg hNj
              have hs4 := hf4.size
              have hc2 : w4.cell? ⟨ob, 2, none⟩ = some (.int .i64 (last + j + 1)) := hb4.cell 2
              have hflag := flag_pos (hasS gs x)
              have hl4 := hN4.drew.lookf x hxl
              have hnews : ∀ j' u, (ecells ⟨last + j + 1, rev, x, hasS gs x⟩)[j']? = some u → ((w4.alloc (.cells #[.int .i64 (last + j + 1), .int .i64 rev, .string ⟨x.toArray⟩, .bool (hasS gs x)] 33)).drew).cell? ((⟨w4.heap.size, 0, none⟩ : Addr).add j') = some u :=
                World.news_of_block (cs := #[.int .i64 (last + j + 1), .int .i64 rev, .string ⟨x.toArray⟩, .bool (hasS gs x)]) (t := 33) (fr := (0, 0)) (heap_alloc_new w4 _)
              go_region_held3 (fun w' => w'.cell? ⟨ob, 2, none⟩ = some (.int .i64 (last + j + 1)) ∧ (Instr.lookup 51 (.map (some w.heap.size)) (.string ⟨x.toArray⟩) false).run Try.prog w' = .ok (.int .i64 (flag (hasS gs x))) w')
                (first
                  | exact ⟨by go_keep, hN4.drew.lookf x hxl⟩
                  | exact ⟨((hb4.alloc _).drew).cell 2, ((hN4.alloc _).drew).lookf x hxl⟩
                  | exact ⟨hb5.cell 2, hN5.lookf x hxl⟩)
                ((refine step_append_lies (o := ⟨some 80, _, _, _, _, _⟩) _ (by rfl) _ _ _ (by rfl) w3.heap.size 33 i0 _ 4 40 Try.underlying26 hi hz0 hz1 hz2 rfl (by omega) _ _ _ (by rfl) ((ho4.alloc _).drew) ⟨w4.heap.size, 0, none⟩ 1 1 (ecells ⟨last + j + 1, rev, x, hasS gs x⟩) (by rfl) (by rfl) hnews (ecells_cell _) (by omega) (by unfold maxLen; omega) (by omega) (by simp; omega) (w4.heap.size + 1) (by simp) ?_; intro g cap w5 ho5 hgrow5 hat5 hlt5; have hb5 : Blk w5 ob 53 #[lv, .int .i64 most, .int .i64 (last + j + 1), .int .i64 floor, .map (some fb)] := ((hb4.alloc _).drew).own_other (ho4.alloc _).drew (by decide) hgrow5; have hN5 : MSet w5 w.heap.size k gs := ((hN4.alloc _).drew).kept hgrow5 (hN4.ne_own ho4)))
              clear hflag hl4 hnews
              go_wp2_with fail
              go_roundw
              case rel =>
                have hlj : (tgs.take j).length = j := by rw [List.length_take]; omega
                refine ⟨j + 1, by omega, by go_num, ?_, ?_, ?_⟩
                · rw [take_at HX.out, entsFrom_snoc, escells_append, escells_one, hlj, show last + 1 + (j : Int) = last + j + 1 by omega]
                  exact ho5
                · rw [show (last + ((j + 1 : Nat) : Int)) = last + j + 1 by omega]
                  exact hb5
                · exact ((hf4.alloc _).drew).grown hgrow5 (fun j' hj' => .inr (own_base ho4 hj').1)
              case measure => simp [intOf]; omega
            · obtain rfl : j = tgs.length := by omega
              have htk : tgs.take tgs.length = tgs := List.take_length
              rw [htk] at hov
              clear htk hcell2 hfro2 htg
              have hcell4 : wr.cell? ⟨ob, 4, none⟩ = some (.map (some fb)) := hbj.cell 4
              have hfro4 : wr.frozen? ⟨ob, 4, none⟩ = false := hbj.frozen 4
              obtain ⟨w6, hw6⟩ : ∃ w6, w6 = wr.setCell ⟨ob, 4, none⟩ (.map (some w.heap.size)) := ⟨_, rfl⟩
              have hb6 : Blk w6 ob 53 #[lv, .int .i64 most, .int .i64 (last + tgs.length), .int .i64 floor, .map (some w.heap.size)] := by rw [hw6]; exact hbj.set_ 4 _
              have ho6 : w6.ownsRow w3.heap.size 33 4 (.slice Av tgs.length cv) tgs.length (escells (entsFrom (last + 1) rev gs tgs)) := by rw [hw6]; exact own_set hov hbj (by decide) 4 _
              have hl6 : w6.ownsRow base 33 4 lv es.length (escells es) := by rw [hw6]; exact own_set (own_frame hown3 hfj (fun b hb hm => own_blk_ne hown3 hblk3 (by decide) (by rw [hb]; simpa using hm))) hbj (by decide) 4 _
              have hN6 : MSet w6 w.heap.size k gs := by rw [hw6]; exact hNj.setCell (by simp; omega) _
              have hf6 : Fr [ob] w3 w6 := by rw [hw6]; exact hfj.setCell (.inl (by simp)) _
              have hs6 := hf6.size
              have hcell0 : wr.cell? ⟨ob, 0, none⟩ = some lv := hbj.cell 0
              go_wp2_with (first
                | (at_builtin; rw [← hw6]; refine wpList_append_any (o := ⟨some 92, _, _, _, _, _⟩) _ rfl (.tmp 90) (.tmp 91) _ rfl base 33 i0 _ 4 40 Try.underlying26 hi hz0 hz1 hz2 rfl (by omega) lv es.length (escells es) rfl hl6 w6.heap.size 33 _ tgs.length _ _ rfl (Rd.of_own ho6)
                    (fun u hu => by obtain ⟨x, _, hx⟩ := List.mem_flatMap.1 hu; exact ecells_cell x u hx) (by unfold maxLen; omega) (by omega) (by omega) ?_
                   intro v7 w7 ho7 hg7 hat7
                   obtain ⟨N, hNN⟩ : ∃ N, N = es.length + tgs.length := ⟨_, rfl⟩
                   rw [← hNN, ← escells_append] at ho7
                   have hN1 : N ≤ 20000 := by omega
                   have HNN := Lib.hid hNN; clear hNN
                   obtain ⟨A7, c7, rfl, hc7, hcm7⟩ := own_shape ho7
                   have HAT7 := Lib.hid hat7; clear hat7
                   have hb7 := hb6.own_other hl6 (by decide) hg7
                   have hc70 : w7.cell? ⟨ob, 0, none⟩ = some lv := hb7.cell 0
                   have hf70 : w7.frozen? ⟨ob, 0, none⟩ = false := hb7.frozen 0)
                | fail)
              obtain ⟨w8, hw8⟩ : ∃ w8, w8 = w7.setCell ⟨ob, 0, none⟩ (.slice A7 N c7) := ⟨_, rfl⟩
              have hb8 : Blk w8 ob 53 #[.slice A7 N c7, .int .i64 most, .int .i64 (last + tgs.length), .int .i64 floor, .map (some w.heap.size)] := by rw [hw8]; exact hb7.set_ 0 _
              have ho8 : w8.ownsRow base 33 4 (.slice A7 N c7) N (escells (es ++ entsFrom (last + 1) rev gs tgs)) := by rw [hw8]; exact own_set ho7 hb7 (by decide) 0 _
              have hN8 : MSet w8 w.heap.size k gs := by rw [hw8]; exact (hN6.kept hg7 (hN6.ne_own hl6)).setCell (by simp; omega) _
              have hf8 : Fr (ob :: lv.ownBlock.toList) w3 w8 := by
                rw [hw8]
                exact ((hf6.mono (by simp)).grown hg7 (fun b hb => .inl (by simp [hb]))).setCell (.inl (by simp)) _
              have hov8 : w8.ownsRow w3.heap.size 33 4 (.slice Av tgs.length cv) tgs.length (escells (entsFrom (last + 1) rev gs tgs)) := by
                rw [hw8]
                refine own_set (own_other_ne ho6 hg7 (fun b h1 h2 => ?_)) hb7 (by decide) 0 _
                have e1 := (own_base ho6 h1).1
                have e2 := (own_base hown3 h2).2
                omega
              have hat8 : Hid ((Value.slice A7 N c7).ownBlock = lv.ownBlock ∨ ∃ b, (Value.slice A7 N c7).ownBlock = some b ∧ w.heap.size ≤ b) := HAT7.out.imp id (fun h => ⟨_, h, by omega⟩)
              rw [← hw8]
              have hf38 := hf8.size
              have HV6 : Hid (∀ b, (Value.slice Av tgs.length cv).ownBlock = some b → b < w6.heap.size) := fun b hb => (own_base ho6 hb).2
              have HAT9 := HAT7
              clear hw8 hb7 ho7 hc70 hf70 hg7 HAT7 hN6 hl6 ho6 hb6 hw6 hcell0 hcell4 hfro4 hNj hbj hov hf6 hs6 hszj hfj
              have hc80 : w8.cell? ⟨ob, 0, none⟩ = some (.slice A7 N c7) := hb8.cell 0
              have hc81 : w8.cell? ⟨ob, 1, none⟩ = some (.int .i64 most) := hb8.cell 1
              by_cases hgt : most < N
              · obtain ⟨K, hK⟩ : ∃ K : Nat, (K : Int) = (N : Int) - most := ⟨((N : Int) - most).toNat, by omega⟩
                have hK1 : 1 ≤ K := by omega
                have hKN : K ≤ N := by omega
                have hwk : IntKind.i64.wrap ((N : Int) - most) = (K : Int) := by rw [hK]; exact IntWalk.i64_in _ (by omega)
                have hkk : trimN (es.length + tgs.length) most = K := by unfold trimN; rw [← HNN.out, ← hK]; omega
                have HKK := Lib.hid hkk; clear hkk hK
                obtain ⟨g, cap, hv, hgb, hgl8⟩ := ho8.form (by omega)
                injection hv with hv1 _ hv3
                subst hv1
                have hlenE : (es ++ entsFrom (last + 1) rev gs tgs).length = N := by rw [List.length_append, entsFrom_length, HNN.out]
                obtain ⟨E8, hE8⟩ : ∃ E8, E8 = es ++ entsFrom (last + 1) rev gs tgs := ⟨_, rfl⟩
                rw [← hE8] at ho8 hlenE
                have hat' : E8[K - 1]? = some (E8[K - 1]'(by omega)) := List.getElem?_eq_getElem _
                obtain ⟨ek, hek⟩ : ∃ ek, ek = E8[K - 1]'(by omega) := ⟨_, rfl⟩
                rw [← hek] at hat'
                have hck : w8.cell? ⟨g, (K - 1) * 4, none⟩ = some (.int .i64 ek.seq) := by
                  have h1 := ho8.cells (g := g) rfl ((K - 1) * 4 + 0) (.int .i64 ek.seq) (by rw [escells_at hat' 0 (by omega)]; rfl)
                  rwa [add_plain', Nat.zero_add, Nat.add_zero] at h1
                have HEK := Lib.hid hat'; clear hat' hek
                have HE8 := Lib.hid hE8; clear hE8
                have HLE := Lib.hid hlenE; clear hlenE
                have hc83 : w8.cell? ⟨ob, 3, none⟩ = some (.int .i64 floor) := hb8.cell 3
                have hf83 : w8.frozen? ⟨ob, 3, none⟩ = false := hb8.frozen 3
                have hgo : g ≠ ob := by
                  have := own_blk_ne ho8 hb8 (by decide)
                  intro e; subst e; exact this rfl
                have hNcap : N ≤ cap := by
                  obtain ⟨A', c', e', h1, _⟩ := own_shape ho8
                  injection e' with _ _ e'
                  omega
                have hcut := (Rd.of_own ho8).cut hKN hNcap
                rw [escells_drop] at hcut
                have hcA : ∀ nq u, cap = K → Rd ((w8.drewN nq).setCell ⟨ob, 3, none⟩ u) w8.heap.size 33 4 (some ⟨g, 0, none⟩) (N - K) (escells (E8.drop K)) := fun nq u h => by
                  rw [if_pos h] at hcut
                  exact (hcut.drewN nq).set_other (hb8.drewN nq) (by decide) 3 u
                have hcB : ∀ nq u, ¬ cap = K → Rd ((w8.drewN nq).setCell ⟨ob, 3, none⟩ u) w8.heap.size 33 4 (some ⟨g, K * 4, none⟩) (N - K) (escells (E8.drop K)) := fun nq u h => by
                  rw [if_neg h] at hcut
                  simp only [Option.map_some, add_plain', Nat.zero_add] at hcut
                  exact (hcut.drewN nq).set_other (hb8.drewN nq) (by decide) 3 u
                have HCA := Lib.hid hcA; clear hcA
                have HCB := Lib.hid hcB; clear hcB hcut
                subst hv3
                have hszS : ∀ nq u, ((w8.drewN nq).setCell ⟨ob, 3, none⟩ u).heap.size = w8.heap.size := fun nq u => by simp [World.setCell]
                have HSZ := Lib.hid hszS; clear hszS
                have hfin : ∀ (nq : Nat) (w9 : World) (A9 : Option Addr) (c9 : Nat), w9.ownsRow ((w8.drewN nq).setCell ⟨ob, 3, none⟩ (.int .i64 ek.seq)).heap.size 33 4 (.slice A9 (N - K) c9) (N - K) (escells (E8.drop K)) →
                    Fr [] ((w8.drewN nq).setCell ⟨ob, 3, none⟩ (.int .i64 ek.seq)) w9 → StepPost base ob lv es most last floor fn F rev gs w (.returned (.slice Av tgs.length cv)) (w9.setCell ⟨ob, 0, none⟩ (.slice A9 (N - K) c9)) := by
                  intro nq w9 A9 c9 ho9 hf9
                  have hb9 := ((hb8.drewN nq).set_ 3 (.int .i64 ek.seq)).frame hf9 (by simp)
                  have hs9 := HSZ.out nq (.int .i64 ek.seq)
                  have hov9 : w9.ownsRow w3.heap.size 33 4 (.slice Av tgs.length cv) tgs.length (escells (entsFrom (last + 1) rev gs tgs)) := own_frame (own_set (w := w8.drewN nq) hov8 (hb8.drewN nq) (by decide) 3 _) hf9 (by simp)
                  have hN9 : MSet w9 w.heap.size k gs := MSet.frame (MSet.setCell (hN8.drewN nq) (by simp; omega) _) hf9 (by simp)
                  refine ⟨.slice Av tgs.length cv, .slice A9 (N - K) c9, w.heap.size, tgs, rfl, hris, fun x => by rw [hmem3 x, HSET.out x], ?_, ⟨?_, ?_, ?_⟩, ?_, ?_, ?_, by rw [HL.out]; omega⟩
                  · exact own_set (own_rebase hov9 (fun b hb => by have := (own_base hov9 hb).1; omega)) hb9 (by decide) 0 _
                  · rw [HKK.out, ← HE8.out]
                    have hfl : trimFloor E8 floor K = ek.seq := by unfold trimFloor; rw [if_neg (by omega), HEK.out]; rfl
                    rw [hfl]
                    exact hb9.set_ 0 _
                  · rw [HKK.out, ← HE8.out, List.length_drop, HLE.out]
                    refine own_set (own_rebase ho9 (fun b hb => ?_)) hb9 (by decide) 0 _
                    have := (own_base ho9 hb).1
                    omega
                  · rw [HL.out]; exact hN9.setCell (by simp; omega) _
                  · refine Fr.setCell ?_ (.inl (by simp)) _
                    refine Fr.trans (Fr.setCell (((hf3'.mono (by simp)).trans hf8 (fun t ht => .inl ht)).drewN nq) (.inl (by simp)) (.int .i64 ek.seq)) hf9 (by simp)
                  · exact fun b hb => .inr (by have := (own_base ho9 hb).1; omega)
                  · intro b hb hb9'
                    have e1 := (own_base hov8 hb).2
                    have e2 := (own_base ho9 hb9').1
                    omega
                have HFIN := Lib.hid hfin; clear hfin
                by_cases hcc : c7 = K
                · have hNK : N = K := by omega
                  subst hcc
                  have hz : N - c7 = 0 := by omega
                  have hd0 : E8.drop c7 = [] := List.drop_eq_nil_of_le (by rw [HLE.out]; omega)
                  have hfin0 := HFIN.out
                  rw [hz, hd0] at hfin0
                  have HFIN0 := Lib.hid hfin0; clear hfin0
                  clear hNK hz hd0
                  go_quiet (fail)
                  go_wp2_with (go_at_call 22; refine (clone_some w8.heap.size _ 0 0 [] _ Rd.none_ (by rw [HSZ.out]; exact Nat.le_refl _) (by omega)).mono ?_; rintro e w9 ⟨v9, rfl, ho9, hf9⟩
                               obtain ⟨A9, c9, rfl, hc9, hcm9⟩ := own_shape ho9
                               have hb9 := ((hb8.drewN nq).set_ 3 (.int .i64 ek.seq)).frame hf9 (by simp)
                               have hc90 : w9.cell? ⟨ob, 0, none⟩ = some (.slice (some ⟨g, 0, none⟩) N c7) := hb9.cell 0
                               have hf90 : w9.frozen? ⟨ob, 0, none⟩ = false := hb9.frozen 0)
                  go_ret
                  exact HFIN0.out _ _ _ _ ho9 hf9
                · have hslice : ¬ K = c7 := fun e => hcc e.symm
                  go_quiet (fail)
                  go_wp2_with (go_at_call 22; refine (clone_some w8.heap.size _ _ _ (E8.drop K) _ (HCB.out _ _ hcc) (by rw [HSZ.out]; exact Nat.le_refl _) (by omega)).mono ?_; rintro e w9 ⟨v9, rfl, ho9, hf9⟩
                               obtain ⟨A9, c9, rfl, hc9, hcm9⟩ := own_shape ho9
                               have hb9 := ((hb8.drewN nq).set_ 3 (.int .i64 ek.seq)).frame hf9 (by simp)
                               have hc90 : w9.cell? ⟨ob, 0, none⟩ = some (.slice (some ⟨g, 0, none⟩) N c7) := hb9.cell 0
                               have hf90 : w9.frozen? ⟨ob, 0, none⟩ = false := hb9.frozen 0)
                  go_ret
                  exact HFIN.out _ _ _ _ ho9 hf9
              · have hwk : IntKind.i64.wrap ((N : Int) - most) = (N : Int) - most := IntWalk.i64_in _ (by omega)
                go_quiet (fail)
                go_wp2_with fail
                go_ret
                have hk0 : trimN (es.length + tgs.length) most = 0 := by unfold trimN; rw [← HNN.out]; omega
                refine ⟨.slice Av tgs.length cv, .slice A7 N c7, w.heap.size, tgs, rfl, hris, fun x => by rw [hmem3 x, HSET.out x], ?_, ⟨?_, ?_, ?_⟩, ?_, fun b hb => ?_, fun b hb hb' => ?_, by rw [HL.out]; omega⟩
                · exact own_rebase hov8 (fun b hb => by have := (own_base hov8 hb).1; omega)
                · rw [hk0]; exact hb8
                · rw [hk0, List.drop_zero, List.length_append, entsFrom_length, ← HNN.out]; exact ho8
                · rw [HL.out]; exact hN8
                · exact ((hf3'.mono (by simp)).trans hf8 (fun t ht => .inl ht)).drewN _
                · rcases hat8.out with h | ⟨b', h1, h2⟩
                  · left; rw [← h]; exact hb
                  · right; rw [h1] at hb; injection hb; omega
                · have e1 := (own_base hov8 hb).1
                  have e2 := HV6.out b hb
                  rcases HAT9.out with h | h
                  · rw [h] at hb'
                    have := (own_base hown3 hb').2
                    omega
                  · rw [h] at hb'
                    injection hb'
                    omega
        · intro x c2 kl yd yp w3 cnt2 hkey hlk hv hat hrg2 hlt hg2 hs2 hen
          obtain ⟨x', ex, rfl, hxl⟩ := Maps.keyOf_str Try.underlying9 hkey
          obtain rfl : x = x' := encStr_inj ex
          clear hs2
          have hN3 := hN2.kept hg2 (by simp; omega)
          have hT3 := hT2.kept hg2 (by simp; omega)
          have hf3 := hf2.grown hg2 (fun j hj => by cases hj; exact .inr hsz)
          have hlk3 := hN3.look x hxl
          cases hcs3 : hasS gs x with
          | true =>
            have HC := Lib.hid hcs3; clear hcs3
            rw [HC.out, if_pos rfl] at hlk3
            unfold encStr at hen
            go_wp2_with fail
            go_roundw
            case rel => exact ⟨_, cnt2, ss ++ [x], hrg2, by simp; omega, hN3, by rw [notIn_snoc, if_pos HC.out, List.append_nil]; exact hT3.mono (by simp), hC.step hlk hat, hf3⟩
            case measure => rw [hrg2.left_eq, hrg.left_eq]; exact hlt
          | false =>
            have HC := Lib.hid hcs3; clear hcs3
            rw [HC.out, if_neg (by simp)] at hlk3
            unfold encStr at hen
            go_wp2_with (first
              | (at_mapUpdate; refine wpList_mset_store (o := ⟨none, Op.mapUpdate 51 (.tmp 51) _ _, _, _, _, _⟩) rfl _ _ _ rfl (w.heap.size + 1) (k + ss.length) _ x rfl hT3 (by omega) rfl rfl hxl ?_
                 intro w4 hT4 hg4)
              | fail)
            have hrg4 := hrg2.kept hg4 (by simp; omega) (by simp; omega)
            go_roundw
            case rel =>
              exact ⟨_, cnt2, hrg4, ss ++ [x], by simp; omega, hN3.kept hg4 (by simp), by rw [notIn_snoc, if_neg (by rw [HC.out]; simp), ← List.append_assoc]; simpa [Nat.add_assoc] using hT4, hC.step hlk hat, hf3.grown hg4 (fun j hj => by cases hj; exact .inr (by omega))⟩
            case measure => rw [hrg4.left_eq, hrg.left_eq]; exact hlt
end Go.Proofs.Ytjflbnkmfiejoaa
