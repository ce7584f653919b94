/- The law NoteTurns: its walk. -/
import Derived.Test.YtjflbnkmfiejoaaFew
import Derived.Deep.RegionHeld3
import Derived.Deep.DrawnRows
namespace Go.Proofs.Ytjflbnkmfiejoaa
open Go.RowKit Go.Maps Go.Sort Go.Proofs.LM
open Go.Proofs (encStr)

/-- What holds of the outbox behind k rounds of the first loop. -/
def TRel (W : World) (ob k : Nat) (wr : World) : Prop := ∃ lv es fb fn F, OBox wr W.heap.size ob lv es 1000 (es.length : Int) 0 fb fn F ∧ Turns es F ∧ fn ≤ 8 ∧ F.length ≤ 8 ∧ es.length ≤ 16 * min k 20 ∧ Fr [] W wr

set_option maxRecDepth 100000 in
set_option maxHeartbeats 6400000 in
theorem turns_any (B : Nat) (A : Option Addr) (n c : Nat) (gss : List (List Txt)) (w : World) (hr : RdSS w B A n gss) (hB : B ≤ w.heap.size) :
    Calls Try.prog 3 #[.slice A n c] w (AwakePost w) := by
  have hnm : n ≤ 9223372036854775807 := by have := hr.2.1; unfold maxLen at this; omega
  go_enter Try.func3, Try.ntmps3
  go_wp2_with fail
  refine (new_any 1000 w).mono ?_
  rintro e w1 ⟨rfl, hw1⟩
  have hob := OBox.new (w := w) (most := 1000) (by omega)
  have hf1 : Fr [] w w1 := by rw [hw1]; exact ((Fr.refl _ _).alloc _).alloc _
  rw [← hw1] at hob
  have hs1 : w1.heap.size = w.heap.size + 2 := by rw [hw1]; simp
  clear hw1
  obtain ⟨ob, hobn⟩ : ∃ ob, ob = w.heap.size + 1 := ⟨_, rfl⟩
  rw [← hobn] at hob ⊢
  have hob1 : w.heap.size ≤ ob := by omega
  have hob2 : ob < w1.heap.size := by omega
  clear hobn hs1
  go_wp2_with fail
  go_loopw [17] (fun i wr => ∃ k : Nat, k ≤ n ∧ i = .int .i64 k ∧ TRel w ob k wr) (fun i _ => n - (intOf i).toNat)
  case atStart => exact ⟨0, Nat.zero_le _, rfl, .slice none 0 0, [], w.heap.size, 0, [], hob, Turns.nil, by omega, by simp, by simp, hf1⟩
  case round =>
    obtain ⟨k, hk, rfl, hT⟩ := hrel
    by_cases hlt : k < n
    · by_cases hk20 : k < 20
      · obtain ⟨lv, es, fb, fn, F, hbox, hturn, hfn, hFl, hel, hf⟩ := hT
        obtain ⟨gs, b, o, A', n', c', eA, hgs, rfl, hb, hcell, hn'c, hc'm, hrd, hgl⟩ := (hr.frame hf hB).at_ hlt
        have HG := Lib.hid hgs; clear hgs
        have hsz := hf.size
        have hl : gs.length = n' := by simpa using hrd.1
        have hl8 : (gs.take 8).length = min n' 8 := by rw [List.length_take, hl]; omega
        go_wp2_with (first
          | (go_at_call 8; refine (few_any A' n' c' wr hn'c hc'm).mono ?_; rintro e w' ⟨rfl, rfl⟩)
          | (go_at_call 7; refine (step_any B w.heap.size ob lv es 1000 (es.length : Int) 0 fb fn F (k : Int) A' (min n' 8) c' (gs.take 8) wr hbox.blk hbox.own hbox.map (rd_few hrd) (fun x hx => hgl x (List.mem_of_mem_take hx)) (by omega) (by omega) (by omega) (by omega) hsz (by omega) (by omega) (by omega) (by omega)).mono ?_
             rintro e w2 ⟨v2, lv2, fb2, tgs, rfl, hris, hmem, hv2, hbox2, hf2, hat2, hsep2, htn⟩)
          | fail)
        go_roundw
        case rel =>
          have hk0 : trimN (es.length + tgs.length) 1000 = 0 := by unfold trimN; omega
          rw [hk0, List.drop_zero] at hbox2
          have hlen : (es ++ entsFrom (es.length + 1) (k : Int) (gs.take 8) tgs).length = es.length + tgs.length := by rw [List.length_append, entsFrom_length]
          refine ⟨k + 1, by omega, by go_num, lv2, _, fb2, (gs.take 8).length, gs.take 8, ?_, hturn.step hris hmem, by rw [hl8]; exact Nat.min_le_right _ _, by rw [hl8]; exact Nat.min_le_right _ _, by rw [hlen]; omega, ?_⟩
          · rw [hlen]
            have e : trimFloor (es ++ entsFrom (es.length + 1) (k : Int) (gs.take 8) tgs) 0 0 = 0 := rfl
            rw [e] at hbox2
            simpa using hbox2
          · exact hf.trans hf2 (fun t ht => .inr (by
              rcases List.mem_cons.1 ht with h | h
              · omega
              · exact (own_base hbox.own (by simpa using h)).1))
        case measure => simp [intOf]; omega
      · obtain ⟨lv, es, fb, fn, F, hbox, hturn, hfn, hFl, hel, hf⟩ := hT
        obtain ⟨gs, b, o, A', n', c', eA, hgs, rfl, hb, hcell, hn'c, hc'm, hrd, hgl⟩ := (hr.frame hf hB).at_ hlt
        clear hgs
        go_wp2_with fail
        go_roundw
        case rel =>
          exact ⟨k + 1, by omega, by go_num, lv, es, fb, fn, F, hbox, hturn, hfn, hFl, by omega, hf⟩
        case measure => simp [intOf]; omega
    · obtain ⟨w2, rfl⟩ : ∃ w2 : World, w2 = wr := ⟨_, rfl⟩
      obtain ⟨lv, es, fb, fn, F, hbox, hturn, hfn, hFl, hel, hf⟩ := hT
      obtain ⟨lA, lc, rfl, _, _⟩ := own_shape hbox.own
      have hes : es.length ≤ 320 := by omega
      have hsz := hf.size
      have hb2 := hbox.blk
      have HB2 := Lib.hid hb2; clear hb2
      go_wp2_with (first
        | (go_at_call 9; refine (since_ok ob lA es.length lc 1000 (es.length : Int) 0 fb w2 w.heap.size 0 0 es HB2.out hbox.own rfl (by omega) (by omega) (by omega) (by omega) (by omega) (by omega) (by omega)).mono ?_
           rintro e w3 ⟨v3, rfl, hv3, hf3⟩
           rw [Nat.sub_zero, List.drop_zero] at hv3
           obtain ⟨Av, cv, rfl, _, _⟩ := own_shape hv3)
        | fail)
      have hown3 := hv3
      have hrd3 := Rd.of_own hv3
      have hbox3 := hbox.frame hf3 (by simp) (by simp) (by simp)
      have hsz3 := hf3.size
      have hf03 : Fr [] w w3 := hf.trans hf3 (by simp)
      go_loopw [39] (fun i wr => ∃ m : Nat, m ≤ es.length ∧ i = .int .i64 m ∧ Fr [] w3 wr) (fun i _ => es.length - (intOf i).toNat)
      case atStart => exact ⟨0, Nat.zero_le _, rfl, Fr.refl _ _⟩
      case round =>
        obtain ⟨m, hm, rfl, hfm⟩ := hrel
        have hszm := hfm.size
        by_cases hlt2 : m < es.length
        · obtain ⟨x, hx⟩ : ∃ x, es[m]? = some x := ⟨_, List.getElem?_eq_getElem hlt2⟩
          have hrdm := hrd3.frame0 hfm (Nat.le_refl _)
          obtain ⟨vb, vo, rfl, hvb, hvc⟩ := hrdm.cells (by omega)
          have hx0 := hvc (m * 4) _ (by rw [show m * 4 = m * 4 + 0 by omega, escells_at hx 0 (by omega)]; rfl)
          have hx1 := hvc (m * 4 + 1) _ (by rw [escells_at hx 1 (by omega)]; rfl)
          have hx2 := hvc (m * 4 + 2) _ (by rw [escells_at hx 2 (by omega)]; rfl)
          have hx3 := hvc (m * 4 + 3) _ (by rw [escells_at hx 3 (by omega)]; rfl)
          rw [← Nat.add_assoc] at hx1 hx2 hx3
          simp only [encStr] at hx2
          have HX := Lib.hid hx; clear hx
          clear hvc
          go_wp2_with fail
          obtain ⟨w4, hw4⟩ : ∃ w4, w4 = wr.alloc (.cells #[.int .i64 x.seq, .int .i64 x.rev, .string ⟨x.g.toArray⟩, .bool x.f] 33) := ⟨_, rfl⟩
          obtain ⟨xb, hxb⟩ : ∃ xb, xb = wr.heap.size := ⟨_, rfl⟩
          have hbx : Blk w4 xb 33 #[.int .i64 x.seq, .int .i64 x.rev, .string ⟨x.g.toArray⟩, .bool x.f] := by rw [hw4, hxb]; exact Blk.new _ _ _
          have hf4 : Fr [] w3 w4 := by rw [hw4]; exact hfm.alloc _
          have hxb3 : w3.heap.size ≤ xb := by rw [hxb]; exact hszm
          have hxb4 : xb < w4.heap.size := hbx.lt
          rw [← hw4, ← hxb]
          clear hw4 hxb hx0 hx1 hx2 hx3 hszm hrdm
          go_loopw [10, 11, 46] (fun b10 b11 i wr => ∃ q : Nat, q ≤ es.length ∧ i = .int .i64 q ∧ b10 = .bool (cur (es.take (min q m)) x.g) ∧ b11 = .bool (lastB es m x.g q) ∧ Fr [] w4 wr) (fun _ _ i _ => es.length - (intOf i).toNat)
          case atStart => exact ⟨0, Nat.zero_le _, rfl, by simp [cur], by rw [lastB_low (by omega)], Fr.refl _ _⟩
          case round =>
            obtain ⟨q, hq, rfl, rfl, rfl, hfq⟩ := hrel
            have hszq := hfq.size
            have hszq4 := hf4.size
            have hbq := hbx.frame hfq (by simp)
            by_cases hlt3 : q < es.length
            · obtain ⟨y, hy⟩ : ∃ y, es[q]? = some y := ⟨_, List.getElem?_eq_getElem hlt3⟩
              have hrdq := (hrd3.frame0 hf4 (Nat.le_refl _)).frame0 hfq (by omega)
              obtain ⟨vb', vo', hvv, _, hvc⟩ := hrdq.cells (by omega)
              injection hvv with hvv
              injection hvv with h1 h2 _
              subst h1 h2
              have hy0 := hvc (q * 4) _ (by rw [show q * 4 = q * 4 + 0 by omega, escells_at hy 0 (by omega)]; rfl)
              have hy1 := hvc (q * 4 + 1) _ (by rw [escells_at hy 1 (by omega)]; rfl)
              have hy2 := hvc (q * 4 + 2) _ (by rw [escells_at hy 2 (by omega)]; rfl)
              have hy3 := hvc (q * 4 + 3) _ (by rw [escells_at hy 3 (by omega)]; rfl)
              rw [← Nat.add_assoc] at hy1 hy2 hy3
              simp only [encStr] at hy2
              have hcx2 : ∀ O : Obj, (wr.alloc O).cell? ⟨xb, 2, none⟩ = some (.string ⟨x.g.toArray⟩) := fun O => (hbq.alloc O).cell 2
              have HY := Lib.hid hy; clear hy
              clear hvc
              rcases Nat.lt_trichotomy q m with hqm | hqm | hqm
              · have hlast : lastB es m x.g q = true := lastB_low (by omega)
                have hlast' : lastB es m x.g (q + 1) = true := lastB_low (by omega)
                have HL' := Lib.hid hlast'; clear hlast'
                have hmin : min q m = q := by omega
                have hmin' : min (q + 1) m = q + 1 := by omega
                rw [hmin, hlast]
                have HM' := Lib.hid hmin'; clear hmin' hmin hlast
                cases hbe : (y.g == x.g) with
                | true =>
                  go_wp2_with fail
                  go_roundw
                  case rel => exact ⟨q + 1, by omega, by go_num, by rw [HM'.out, cur_take_succ HY.out, if_pos (beq_iff_eq.1 hbe)], by rw [HL'.out], hfq.alloc _⟩
                  case measure => simp [intOf]; omega
                | false =>
                  go_wp2_with fail
                  go_roundw
                  case rel => exact ⟨q + 1, by omega, by go_num, by rw [HM'.out, cur_take_succ HY.out, if_neg (fun e => by rw [beq_iff_eq.2 e] at hbe; cases hbe)], by rw [HL'.out], hfq.alloc _⟩
                  case measure => simp [intOf]; omega
              · subst hqm
                have hlast : lastB es q x.g q = true := lastB_low (by omega)
                have hlast' : lastB es q x.g (q + 1) = true := lastB_low (by omega)
                have HL' := Lib.hid hlast'; clear hlast'
                have hmin : min q q = q := by omega
                have hmin' : min (q + 1) q = q := by omega
                rw [hmin, hlast]
                have HM' := Lib.hid hmin'; clear hmin' hmin hlast
                go_wp2_with fail
                go_roundw
                case rel => exact ⟨q + 1, by omega, by go_num, by rw [HM'.out], by rw [HL'.out], hfq.alloc _⟩
                case measure => simp [intOf]; omega
              · have hls := lastB_succ (g := x.g) HY.out hqm
                have HL' := Lib.hid hls; clear hls
                have hmin : min q m = m := by omega
                have hmin' : min (q + 1) m = m := by omega
                rw [hmin]
                have HM' := Lib.hid hmin'; clear hmin' hmin
                cases hlB : lastB es m x.g q with
                | false =>
                  have HLB := Lib.hid hlB; clear hlB
                  go_wp2_with fail
                  go_roundw
                  case rel => exact ⟨q + 1, by omega, by go_num, by rw [HM'.out], by rw [HL'.out, HLB.out]; rfl, hfq.alloc _⟩
                  case measure => simp [intOf]; omega
                | true =>
                  have HLB := Lib.hid hlB; clear hlB
                  cases hbe : (y.g == x.g) with
                  | true =>
                    have hbn : (y.g != x.g) = false := by rw [bne, hbe]; rfl
                    go_wp2_with fail
                    go_roundw
                    case rel => exact ⟨q + 1, by omega, by go_num, by rw [HM'.out], by rw [HL'.out, HLB.out, hbe, decide_eq_false (show ¬ q ≤ m by omega)]; rfl, hfq.alloc _⟩
                    case measure => simp [intOf]; omega
                  | false =>
                    have hbn : (y.g != x.g) = true := by rw [bne, hbe]; rfl
                    go_wp2_with fail
                    go_roundw
                    case rel => exact ⟨q + 1, by omega, by go_num, by rw [HM'.out], by rw [HL'.out, HLB.out, hbe]; rfl, hfq.alloc _⟩
                    case measure => simp [intOf]; omega
            · obtain rfl : q = es.length := by omega
              have hmin : min es.length m = m := by omega
              rw [hmin]
              clear hmin
              have hnum := hturn.num m x HX.out
              have halt := hturn.alt m x HX.out
              have hbef : cur (es.take m) x.g = !x.f := by rw [halt]; simp
              rw [hbef]
              clear hbef halt
              have hq0 : wr.cell? ⟨xb, 0, none⟩ = some (.int .i64 ((m : Int) + 1)) := by rw [← hnum]; exact hbq.cell 0
              clear hnum
              have hwm : IntKind.i64.wrap ((m : Int) + 1) = (m : Int) + 1 := IntWalk.i64_in _ (by omega)
              have heq : (x.f == !x.f) = false := by cases x.f <;> rfl
              have hq2 : wr.cell? ⟨xb, 2, none⟩ = some (.string ⟨x.g.toArray⟩) := hbq.cell 2
              have hq3 : wr.cell? ⟨xb, 3, none⟩ = some (.bool x.f) := hbq.cell 3
              cases hlB : lastB es m x.g es.length with
              | false =>
                have HLB := Lib.hid hlB; clear hlB
                go_wp2_with fail
                go_quiet (fail)
                go_wp2_with fail
                go_roundw
                case rel => exact ⟨m + 1, by omega, by go_num, (hf4.trans hfq (by simp)).drewN _⟩
                case measure => simp [intOf]; omega
              | true =>
                have HLB := Lib.hid hlB; clear hlB
                have hcl := cur_last HX.out (lastB_all HLB.out)
                have hFx : hasS F x.g = x.f := by rw [← hturn.now, hcl]
                have HFX := Lib.hid hFx; clear hFx hcl
                have hboxq := hbox3.frame ((hf4.trans hfq (by simp))) (by simp) (by simp) (by simp)
                have hblkq := hboxq.blk
                have hmapq := hboxq.map
                go_wp2_with fail
                go_region_held3 (fun w' => w'.cell? ⟨xb, 0, none⟩ = some (.int .i64 ((m : Int) + 1)) ∧ w'.cell? ⟨xb, 2, none⟩ = some (.string ⟨x.g.toArray⟩) ∧ w'.cell? ⟨xb, 3, none⟩ = some (.bool x.f))
                  (first
                    | go_keep
                    | exact ⟨((hf5.cell (p := ⟨xb, 0, none⟩) (by simp; omega) (by simp)).trans hq0), ((hf5.cell (p := ⟨xb, 2, none⟩) (by simp; omega) (by simp)).trans hq2), ((hf5.cell (p := ⟨xb, 3, none⟩) (by simp; omega) (by simp)).trans hq3)⟩)
                  (first
                    | (go_at_call 11; refine (firing_any ob lA es.length lc 1000 (es.length : Int) 0 fb _ fn F ?_ ?_ ?_).mono ?_; (exact hblkq.drew); (exact hmapq.drew); omega; rintro e w5 ⟨v5, ts, rfl, hv5, hris5, hmem5, hf5, hts5⟩; obtain ⟨A5, c5, rfl, _, _⟩ := own_shape hv5)
                    | (go_at_call 10; refine (has_any w5.heap.size A5 ts.length c5 ts x.g _ (Rd.of_own hv5)).mono ?_; rintro e w6 ⟨rfl, rfl⟩))
                have hFt : hasS ts x.g = x.f := by
                  rw [← HFX.out, Bool.eq_iff_iff, hasS_iff, hasS_iff]
                  exact hmem5 x.g
                have HFT := Lib.hid hFt; clear hFt
                go_wp2_with fail
                · exfalso
                  have h : (!hasS ts x.g == x.f) = true := by assumption
                  rw [HFT.out] at h
                  simp at h
                · go_roundw
                  case rel => exact ⟨m + 1, by omega, by go_num, ((hf4.trans hfq (by simp)).drew).trans hf5 (by simp)⟩
                  case measure => simp [intOf]; omega
        · go_wp2_with (first
            | (go_at_call 12; refine (awake_any _).mono ?_; rintro e w5 ⟨rfl, hf5⟩)
            | fail)
          go_ret
          exact ⟨rfl, (hf03.trans hfm (by simp)).trans hf5 (by simp)⟩
end Go.Proofs.Ytjflbnkmfiejoaa
