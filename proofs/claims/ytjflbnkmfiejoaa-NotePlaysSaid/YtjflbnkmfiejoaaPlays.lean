/- The law NotePlays: its walk. -/
import Derived.Test.YtjflbnkmfiejoaaPBox
import Derived.Deep.RegionWith
import Derived.Deep.DrawnRows
namespace Go.Proofs.Ytjflbnkmfiejoaa
open Go.RowKit Go.Maps Go.Sort Go.Proofs.LM
open Go.Proofs (encStr)

def PRel (W : World) (ob rb : Nat) (most : Int) (k : Nat) (wr : World) : Prop :=
  ∃ lv all fb fn F va nA nn nc old, PBox wr W.heap.size ob rb most lv all fb fn F va nA nn nc old ∧ all.length ≤ 16 * min k 20 ∧ Fr [] W wr

attribute [local go_sem ↓] Go.wp_at_zero Go.wp_at_succ

set_option maxRecDepth 100000 in
set_option maxHeartbeats 6400000 in
theorem plays_any (B : Nat) (most0 : Int) (A : Option Addr) (n c : Nat) (gss : List (List Txt)) (seq : Int) (w : World) (hr : RdSS w B A n gss) (hB : B ≤ w.heap.size) (hm0 : most0 ≤ 9223372036854775807) :
    Calls Try.prog 4 #[.int .i64 most0, .slice A n c, .int .i64 seq] w (AwakePost w) := by
  have hnm : n ≤ 9223372036854775807 := by have := hr.2.1; unfold maxLen at this; omega
  obtain ⟨most, hmost⟩ : ∃ most, most = max most0 1 := ⟨_, rfl⟩
  have hme : (if most0 < 1 then 1 else most0) = most := by rw [hmost]; split <;> omega
  have h1 : 1 ≤ most := by omega
  have h2 : most ≤ 9223372036854775807 := by omega
  have HMO := Lib.hid hmost; clear hmost
  have HME := Lib.hid hme; clear hme
  go_enter Try.func4, Try.ntmps4
  go_wp2_with fail
  refine (new_any most0 w).mono ?_
  rintro e w1 ⟨rfl, hw1⟩
  have hob : OBox w1 w.heap.size (w.heap.size + 1) (.slice none 0 0) [] most 0 0 w.heap.size 0 [] := by
    have := OBox.new (w := w) (most := most) h1
    rw [show max most 1 = most by omega] at this
    rw [hw1, ← HMO.out]; exact this
  have hf1 : Fr [] w w1 := by rw [hw1]; exact ((Fr.refl _ _).alloc _).alloc _
  have hs1 : w1.heap.size = w.heap.size + 2 := by rw [hw1]; simp
  clear hw1
  obtain ⟨ob, hobn⟩ : ∃ ob, ob = w.heap.size + 1 := ⟨_, rfl⟩
  rw [← hobn] at hob ⊢
  have hob1 : w.heap.size ≤ ob := by omega
  have hob2 : ob < w1.heap.size := by omega
  clear hobn hs1
  go_wp2_with fail
  refine (rnew_any most0 w1).mono ?_
  rintro e w2 ⟨rfl, hw2⟩
  rw [HME.out] at hw2
  obtain ⟨rb, hrbn⟩ : ∃ rb, rb = w1.heap.size := ⟨_, rfl⟩
  have hrb : Blk w2 rb 45 #[.slice none 0 0, .int .i64 most, .slice none 0 0] := by rw [hw2, hrbn]; exact Blk.new _ _ _
  have hf2 : Fr [] w1 w2 := by rw [hw2]; exact (Fr.refl _ _).alloc _
  have hobw := hob.frame hf2 (by simp) (by simp) (by simp)
  rw [← hrbn]
  have hrb1 : w.heap.size ≤ rb := by have := hf1.size; omega
  have hrb2 : rb < w2.heap.size := hrb.lt
  clear hw2 hrbn
  go_wp2_with fail
  go_loopw [24] (fun i wr => ∃ k : Nat, k ≤ n ∧ k ≤ 20 ∧ i = .int .i64 k ∧ PRel w ob rb most k wr) (fun i _ => n - (intOf i).toNat)
  case atStart =>
    have ht0 : trimN 0 most = 0 := by unfold trimN; omega
    refine ⟨0, Nat.zero_le _, by omega, rfl, .slice none 0 0, [], w.heap.size, 0, [], .slice none 0 0, none, 0, 0, [], ⟨?_, hrb, own_nil' _ _ _ _, Rd.none_, List.Pairwise.nil, fun x => Iff.rfl, fun i e h => by simp at h, by omega, by omega⟩, by simp, hf1.trans hf2 (by simp)⟩
    rw [List.length_nil, ht0]
    exact hobw
  case round =>
    obtain ⟨k, hk, hk20, rfl, hT⟩ := hrel
    by_cases hlt : k < n ∧ k < 20
    · obtain ⟨hlt, hkl⟩ := hlt
      obtain ⟨lv, all, fb, fn, F, va, nA, nn, nc, old, hP, hal, hf⟩ := hT
      have hsz := hf.size
      obtain ⟨gs, b, o, A', n', c', eA, hgs, rfl, hb, hcell, hn'c, hc'm, hrd, hgl⟩ := (hr.frame hf hB).at_ hlt
      clear hgs
      go_wp2_with fail
      obtain ⟨gs8, hg8⟩ : ∃ gs8, gs8 = gs.take 8 := ⟨_, rfl⟩
      have hrd8 := rd_few hrd
      have hgl8 : ∀ x ∈ gs8, x.length ≤ maxLen := fun x hx => hgl x (List.mem_of_mem_take (hg8 ▸ hx))
      have hl8 : gs8.length ≤ 8 := by rw [hg8, List.length_take]; omega
      rw [← hg8] at hrd8
      clear hg8 hgl
      have hfle := trim_le (len := all.length) h1
      have hkl2 : (all.drop (trimN all.length most)).length ≤ 320 := by rw [List.length_drop]; omega
      have hall : all.length ≤ 320 := by omega
      have hPd : PBox wr.drew w.heap.size ob rb most lv all fb fn F va nA nn nc old := hP.frame ((Fr.refl [] wr).drew)
      have hrd8d : Rd wr.drew B eA 1 A' (min n' 8) (gs8.map encStr) := hrd8
      have hszd : wr.drew.heap.size = wr.heap.size := rfl
      obtain ⟨w3, hw3⟩ : ∃ w3, w3 = wr.drew := ⟨_, rfl⟩
      have HSTEP := fun (h : w3 = wr.drew) => step_any B w.heap.size ob lv (all.drop (trimN all.length most)) most (all.length : Int) (trimN all.length most : Int) fb fn F ((k : Int) + 1) A' (min n' 8) c' gs8 w3 (h ▸ hPd.box.blk) (h ▸ hPd.box.own) (h ▸ hPd.box.map) (h ▸ hrd8d) hgl8
        (by rw [h, hszd]; omega) (by omega) (by have := hP.fn8; omega) (by omega) (by rw [h, hszd]; exact hsz) h1 h2 (by omega) (by omega)
      have HS := Lib.hid HSTEP; clear HSTEP
      have hP3 : PBox w3 w.heap.size ob rb most lv all fb fn F va nA nn nc old := hw3 ▸ hPd
      have hrd83 : Rd w3 B eA 1 A' (min n' 8) (gs8.map encStr) := hw3 ▸ hrd8d
      have hsz3 : w.heap.size ≤ w3.heap.size := by rw [hw3, hszd]; exact hsz
      have hnn8 := hP3.nn8
      go_region_with (first
        | (go_at_call 8; refine (few_any A' n' c' _ hn'c hc'm).mono ?_; rintro e w' ⟨rfl, rfl⟩)
        | (go_at_call 7; rw [← hw3]; refine (HS.out hw3).mono ?_; rintro e w4 ⟨v4, lv4, fb4, tgs, rfl, hris, hmem, hv4, hbox4, hf4, hat4, hsep4, htn⟩
           obtain ⟨A4, c4, rfl, _, _⟩ := own_shape hv4
           obtain ⟨mb4, mo4, mr4⟩ := hP3.mid hf4
           have hs4 := hf4.size
           have hbel4 : Below B w3 w4 := hf4.below (fun t ht => by
             rcases List.mem_cons.1 ht with h | h
             · omega
             · have := (own_base hP3.box.own (Option.mem_toList.1 h)).1
               omega) (by omega))
        | (go_at_call 15; refine (rstep_any B w.heap.size rb va all most nA nn nc old ((k : Int) + 1) A' (min n' 8) c' gs8 w4 mb4 mo4 mr4 (hrd83.below hbel4) (by omega) (by omega) (by omega) (by omega) (by omega)).mono ?_
           rintro e w5 ⟨v5, va5, vn5, rfl, hv5, hrbox5, hf5, hat5⟩
           rw [← step_same hP3.mem hris hmem, entsFrom_length] at hv5
           obtain ⟨A5, c5, rfl, _, _⟩ := own_shape hv5
           obtain ⟨nA5, nn5, nc5, rfl, _, _, _⟩ := hrbox5.rd
           have hP5 := hP3.step h1 hris hmem hf4 hbox4 hrbox5 hf5 hl8
           have hv45 := own_frame_foot hv4 mb4 mo4 (by decide) (by decide) hf5)
        | (go_at_call 14; refine (same_any w5.heap.size 33 56 A4 A5 tgs.length c4 c5 (entsFrom ((all.length : Int) + 1) ((k : Int) + 1) gs8 tgs) w5 (Rd.of_own hv45) (Rd.of_own hv5) (Nat.le_refl _)).mono ?_
           rintro e w6 ⟨rfl, hf6⟩
           obtain ⟨L, t, M, lA6, lc6, Aa6, ca6, rfl, rfl, HLT, htL, HW, V1, V2, hLca⟩ := (hP5.frame hf6).view h1
           have hL336 : L ≤ 400 := by
             have := HLT.out.1
             rw [List.length_append, entsFrom_length] at this
             have := hP3.fn8
             omega
           have hc60 : w6.cell? ⟨rb, 0, none⟩ = some (.slice Aa6 L ca6) := V2.cell 0
           have hwr := HW.out)
        | (go_at_call 16; refine (last_any ob lA6 M lc6 most (L : Int) (t : Int) fb4 _ ?_).mono ?_; (exact V1); rintro e w' ⟨rfl, rfl⟩)
        | (go_at_call 17; refine (floor_any ob lA6 M lc6 most (L : Int) (t : Int) fb4 _ ?_).mono ?_; (exact V1); rintro e w' ⟨rfl, rfl⟩)
        | (go_at_call 19; refine (len_any ob lA6 M lc6 most (L : Int) (t : Int) fb4 _ ?_).mono ?_; (exact V1); rintro e w' ⟨rfl, rfl⟩)
        | (go_at_call 18; refine (rfloor_trim rb Aa6 L ca6 most (.slice nA5 nn5 nc5) _ t HLT.out.2.1 V2 (by omega) h1 h2).mono ?_; rintro e w' ⟨rfl, nq, rfl⟩))
      all_goals
        clear hwr
        have hP7 := (hP5.frame hf6).frame ((Fr.refl [] w6).drewN nq)
        have V17 := V1.drewN nq
        have V27 := V2.drewN nq
        have hf7 : Fr [] w w6 := by
          have e1 : Fr [] w w3 := by rw [hw3]; exact hf.drew
          have e2 : Fr [] w w4 := e1.trans hf4 (fun t ht => .inr (by
            rcases List.mem_cons.1 ht with h | h
            · omega
            · exact (own_base hP3.box.own (Option.mem_toList.1 h)).1))
          have e3 : Fr [] w w5 := e2.trans hf5 (fun t ht => .inr (by
            rcases List.mem_cons.1 ht with h | h
            · omega
            · exact (own_base hP3.own (Option.mem_toList.1 h)).1))
          exact e3.trans hf6 (by simp)
        clear hP5 hv45 hv5 hrbox5 hf5 hat5 hbox4 hv4 hf4 hat4 hsep4 mb4 mo4 mr4 hbel4 hf6
        go_wp2_with (first
          | (go_at_call 11; refine (firing_any ob lA6 M lc6 most (L : Int) (t : Int) fb4 _ gs8.length gs8 V17 hP7.box.map (by omega)).mono ?_
             rintro e w8 ⟨v8, ts, rfl, hv8, hris8, hmem8, hf8, hts8⟩
             obtain ⟨A8, c8, rfl, _, _⟩ := own_shape hv8
             have hts : ts = putAll [] gs8 := rise_ext hris8 (rise_putAll List.Pairwise.nil) (fun x => by rw [hmem8, mem_putAll]; simp)
             have hnn : nn5 = ts.length := by have := hP7.rd.1; rw [← hts] at this; simp at this; omega
             have hrdn := hP7.rd
             rw [← hts] at hrdn
             have HTS := Lib.hid hts; clear hts
             subst hnn
             have hc82 : w8.cell? ⟨rb, 2, none⟩ = some (.slice nA5 ts.length nc5) := (V27.frame hf8 (by simp)).cell 2)
          | fail)
        have hs8 := hf8.size
        have htl : ts.length ≤ 8 := by omega
        have hrd8w := Rd.of_own hv8
        have hrdnw := hrdn.frame0 hf8 (Nat.le_refl _)
        go_loopw [84] (fun i wr => ∃ j : Nat, j ≤ ts.length ∧ i = .int .i64 j ∧ Fr [] w8 wr) (fun i _ => ts.length - (intOf i).toNat)
        case atStart => exact ⟨0, Nat.zero_le _, rfl, Fr.refl _ _⟩
        case round =>
          obtain ⟨j, hj, rfl, hfj⟩ := hrel
          by_cases hltj : j < ts.length
          · obtain ⟨b8, o8, u8, rfl, _, hu8, hcl8⟩ := (hrd8w.frame0 hfj (Nat.le_refl _)).at_ hltj
            obtain ⟨b9, o9, u9', rfl, _, hu9, hcl9⟩ := (hrdnw.frame0 hfj (by omega)).at_ hltj
            obtain ⟨y, hy, rfl⟩ := enc_at hu8
            rw [hu8] at hu9
            injection hu9 with hu9
            subst hu9
            clear hu8 hy
            have hcr2 : wr.cell? ⟨rb, 2, none⟩ = some (.slice (some ⟨b9, o9, none⟩) ts.length nc5) := ((V27.frame hf8 (by simp)).frame hfj (by simp)).cell 2
            have hi0 : (0 : Int) ≤ (j : Int) := by omega
            have hi1 : (j : Int) < (ts.length : Int) := by omega
            clear hc82
            go_wp2_with fail
            go_quiet (fail)
            go_wp2_with fail
            go_roundw
            case rel => exact ⟨j + 1, by omega, by go_num, hfj.drewN _⟩
            case measure => simp [intOf]; omega
          · go_wp2_with fail
            go_roundw
            case rel =>
              refine ⟨k + 1, by omega, by omega, by go_num, _, _, fb4, gs8.length, gs8, _, nA5, ts.length, nc5, _, (hP7.frame hf8).frame hfj, ?_, ((hf7.drewN nq).trans hf8 (by simp)).trans hfj (by simp)⟩
              rw [List.length_append, entsFrom_length]
              have := hP3.fn8
              omega
            case measure => simp [intOf]; omega
    · obtain ⟨lv, all, fb, fn, F, va, nA, nn, nc, old, hP, hal, hf⟩ := hT
      have hsz := hf.size
      obtain ⟨L, t, M, lA, lc, Aa, ca, rfl, rfl, HLT, htL, HW, V1, V2, hLca⟩ := hP.view h1
      have hL : L ≤ 400 := by rw [HLT.out.1]; omega
      have hMt : (M : Int) + t = L := by have := HLT.out.2.2; omega
      by_cases hkn : k < n
      · obtain ⟨gs, b, o, A', n', c', eA, hgs, rfl, hb, hcell, hn'c, hc'm, hrd, hgl⟩ := (hr.frame hf hB).at_ hkn
        clear hgs hrd hgl
        have hk20' : (20 : Int) ≤ (k : Int) := by omega
        by_cases hgone : seq < (t : Int)
        · go_wp2_with (first
            | (go_at_call 9; refine (since_gone ob lA M lc most (L : Int) (t : Int) fb _ seq V1 hgone).mono ?_; rintro e w5 ⟨rfl, nq, rfl⟩)
            | (go_at_call 20; refine (rsince_gone rb Aa L ca most (.slice nA nn nc) seq _ (V2.drewN nq) (by omega) h1 h2 (by rw [rFloor_eq, ← HLT.out.2.1]; omega)).mono ?_; rintro e w6 ⟨rfl, nq2, rfl⟩)
            | (go_at_call 14; go_loud (refine (same_any w.heap.size 33 56 none none 0 0 0 [] _ Rd.none_ Rd.none_ ?_).mono ?_); (exact hsz); rintro e w7 ⟨rfl, hf7⟩)
            | (go_at_call 12; refine (awake_any _).mono ?_; rintro e w8 ⟨rfl, hf8⟩)
            | fail)
          go_ret
          exact ⟨rfl, ((hf.drewN _).trans hf7 (by simp)).trans hf8 (by simp)⟩
        · by_cases harg : (L : Int) < seq
          · go_wp2_with (first
              | (go_at_call 9; refine (since_arg ob lA M lc most (L : Int) (t : Int) fb _ seq V1 hgone harg).mono ?_; rintro e w5 ⟨rfl, nq, rfl⟩)
              | (go_at_call 20; refine (rsince_arg rb Aa L ca most (.slice nA nn nc) seq _ (V2.drewN nq) (by omega) h1 h2 (by rw [rFloor_eq, ← HLT.out.2.1]; omega) harg).mono ?_; rintro e w6 ⟨rfl, nq2, rfl⟩)
              | (go_at_call 14; go_loud (refine (same_any w.heap.size 33 56 none none 0 0 0 [] _ Rd.none_ Rd.none_ ?_).mono ?_); (exact hsz); rintro e w7 ⟨rfl, hf7⟩)
              | (go_at_call 12; refine (awake_any _).mono ?_; rintro e w8 ⟨rfl, hf8⟩)
              | fail)
            go_ret
            exact ⟨rfl, ((hf.drewN _).trans hf7 (by simp)).trans hf8 (by simp)⟩
          · obtain ⟨sN, rfl⟩ : ∃ sN : Nat, seq = (sN : Int) := ⟨seq.toNat, by omega⟩
            obtain ⟨q, hq⟩ : ∃ q : Nat, q + t = sN := ⟨sN - t, by omega⟩
            have hMq : M - q = L - sN := by omega
            have HMQ := Lib.hid hMq; clear hMq
            have HQ := Lib.hid hq
            have hqM : q ≤ M := by omega
            have hkq : (M : Int) - ((L : Int) - (sN : Int)) = (q : Int) := by omega
            have HKQ := Lib.hid hkq; clear hkq
            clear hq
            have hdr : ((all.drop (trimN all.length most)).drop q) = all.drop sN := by
              rw [List.drop_drop, ← HLT.out.1, ← HLT.out.2.1, Nat.add_comm, HQ.out]
            have HDR := Lib.hid hdr; clear hdr
            have hbo := hP.box.own
            have hMl : (all.drop (trimN all.length most)).length = M := by rw [List.length_drop, ← HLT.out.1, ← HLT.out.2.1]; omega
            rw [hMl] at hbo
            have HML := Lib.hid hMl; clear hMl
            have hao := hP.own
            rw [← HLT.out.1] at hao
            have hcut := (Rd.of_own hao).cut (k := sN) (by omega) hLca
            rw [escells_drop] at hcut
            have HCUT := Lib.hid hcut; clear hcut hao
            have HBO := Lib.hid hbo; clear hbo
            have hML : M ≤ L := by omega
            have HMT := Lib.hid hMt; clear hMt
            go_wp2_with (first
              | (go_at_call 9; refine (since_ok ob lA M lc most (L : Int) (t : Int) fb _ w.heap.size q (sN : Int) (all.drop (trimN all.length most)) V1 HBO.out HML.out (by omega) (by omega) HKQ.out hqM (by omega) (by omega) (by omega)).mono ?_
                 rintro e w5 ⟨v5, rfl, hv5, hf5⟩
                 rw [HDR.out, HMQ.out] at hv5
                 obtain ⟨A5, c5, rfl, _, _⟩ := own_shape hv5
                 have V25 := V2.frame hf5 (by simp)
                 have HC5 : Hid (Rd w5 wr.heap.size 56 4 (if ca = sN then Aa else Aa.map (·.add (sN * 4))) (L - sN) (escells (all.drop sN))) := HCUT.out.frame0 hf5 (Nat.le_refl _)
                 have hs5 := hf5.size)
              | (go_at_call 20; refine (rsince_ok rb Aa L ca most (.slice nA nn nc) sN _ V25 (by omega) h1 h2 (by rw [rFloor_eq, ← HLT.out.2.1]; omega) (by omega) hLca).mono ?_; rintro e w6 ⟨rfl, nq2, rfl⟩)
              | (go_at_call 14; go_loud (refine (same_any w5.heap.size 33 56 A5 _ (L - sN) c5 (ca - sN) (all.drop sN) _ ?_ ?_ ?_).mono ?_); (exact (Rd.of_own hv5).drewN _); (exact ((HC5.out).more hs5).drewN _); (exact Nat.le_refl _); rintro e w7 ⟨rfl, hf7⟩)
              | (go_at_call 12; refine (awake_any _).mono ?_; rintro e w8 ⟨rfl, hf8⟩)
              | fail)
            all_goals
             go_ret
             exact ⟨rfl, (((hf.trans hf5 (by simp)).drewN nq2).trans hf7 (by simp)).trans hf8 (by simp)⟩
      · have hnk : ¬ (k : Int) < (n : Int) := by omega
        by_cases hgone : seq < (t : Int)
        · go_wp2_with (first
            | (go_at_call 9; refine (since_gone ob lA M lc most (L : Int) (t : Int) fb _ seq V1 hgone).mono ?_; rintro e w5 ⟨rfl, nq, rfl⟩)
            | (go_at_call 20; refine (rsince_gone rb Aa L ca most (.slice nA nn nc) seq _ (V2.drewN nq) (by omega) h1 h2 (by rw [rFloor_eq, ← HLT.out.2.1]; omega)).mono ?_; rintro e w6 ⟨rfl, nq2, rfl⟩)
            | (go_at_call 14; go_loud (refine (same_any w.heap.size 33 56 none none 0 0 0 [] _ Rd.none_ Rd.none_ ?_).mono ?_); (exact hsz); rintro e w7 ⟨rfl, hf7⟩)
            | (go_at_call 12; refine (awake_any _).mono ?_; rintro e w8 ⟨rfl, hf8⟩)
            | fail)
          go_ret
          exact ⟨rfl, ((hf.drewN _).trans hf7 (by simp)).trans hf8 (by simp)⟩
        · by_cases harg : (L : Int) < seq
          · go_wp2_with (first
              | (go_at_call 9; refine (since_arg ob lA M lc most (L : Int) (t : Int) fb _ seq V1 hgone harg).mono ?_; rintro e w5 ⟨rfl, nq, rfl⟩)
              | (go_at_call 20; refine (rsince_arg rb Aa L ca most (.slice nA nn nc) seq _ (V2.drewN nq) (by omega) h1 h2 (by rw [rFloor_eq, ← HLT.out.2.1]; omega) harg).mono ?_; rintro e w6 ⟨rfl, nq2, rfl⟩)
              | (go_at_call 14; go_loud (refine (same_any w.heap.size 33 56 none none 0 0 0 [] _ Rd.none_ Rd.none_ ?_).mono ?_); (exact hsz); rintro e w7 ⟨rfl, hf7⟩)
              | (go_at_call 12; refine (awake_any _).mono ?_; rintro e w8 ⟨rfl, hf8⟩)
              | fail)
            go_ret
            exact ⟨rfl, ((hf.drewN _).trans hf7 (by simp)).trans hf8 (by simp)⟩
          · obtain ⟨sN, rfl⟩ : ∃ sN : Nat, seq = (sN : Int) := ⟨seq.toNat, by omega⟩
            obtain ⟨q, hq⟩ : ∃ q : Nat, q + t = sN := ⟨sN - t, by omega⟩
            have hMq : M - q = L - sN := by omega
            have HMQ := Lib.hid hMq; clear hMq
            have HQ := Lib.hid hq
            have hqM : q ≤ M := by omega
            have hkq : (M : Int) - ((L : Int) - (sN : Int)) = (q : Int) := by omega
            have HKQ := Lib.hid hkq; clear hkq
            clear hq
            have hdr : ((all.drop (trimN all.length most)).drop q) = all.drop sN := by
              rw [List.drop_drop, ← HLT.out.1, ← HLT.out.2.1, Nat.add_comm, HQ.out]
            have HDR := Lib.hid hdr; clear hdr
            have hbo := hP.box.own
            have hMl : (all.drop (trimN all.length most)).length = M := by rw [List.length_drop, ← HLT.out.1, ← HLT.out.2.1]; omega
            rw [hMl] at hbo
            have HML := Lib.hid hMl; clear hMl
            have hao := hP.own
            rw [← HLT.out.1] at hao
            have hcut := (Rd.of_own hao).cut (k := sN) (by omega) hLca
            rw [escells_drop] at hcut
            have HCUT := Lib.hid hcut; clear hcut hao
            have HBO := Lib.hid hbo; clear hbo
            have hML : M ≤ L := by omega
            have HMT := Lib.hid hMt; clear hMt
            go_wp2_with (first
              | (go_at_call 9; refine (since_ok ob lA M lc most (L : Int) (t : Int) fb _ w.heap.size q (sN : Int) (all.drop (trimN all.length most)) V1 HBO.out HML.out (by omega) (by omega) HKQ.out hqM (by omega) (by omega) (by omega)).mono ?_
                 rintro e w5 ⟨v5, rfl, hv5, hf5⟩
                 rw [HDR.out, HMQ.out] at hv5
                 obtain ⟨A5, c5, rfl, _, _⟩ := own_shape hv5
                 have V25 := V2.frame hf5 (by simp)
                 have HC5 : Hid (Rd w5 wr.heap.size 56 4 (if ca = sN then Aa else Aa.map (·.add (sN * 4))) (L - sN) (escells (all.drop sN))) := HCUT.out.frame0 hf5 (Nat.le_refl _)
                 have hs5 := hf5.size)
              | (go_at_call 20; refine (rsince_ok rb Aa L ca most (.slice nA nn nc) sN _ V25 (by omega) h1 h2 (by rw [rFloor_eq, ← HLT.out.2.1]; omega) (by omega) hLca).mono ?_; rintro e w6 ⟨rfl, nq2, rfl⟩)
              | (go_at_call 14; go_loud (refine (same_any w5.heap.size 33 56 A5 _ (L - sN) c5 (ca - sN) (all.drop sN) _ ?_ ?_ ?_).mono ?_); (exact (Rd.of_own hv5).drewN _); (exact ((HC5.out).more hs5).drewN _); (exact Nat.le_refl _); rintro e w7 ⟨rfl, hf7⟩)
              | (go_at_call 12; refine (awake_any _).mono ?_; rintro e w8 ⟨rfl, hf8⟩)
              | fail)
            all_goals
             go_ret
             exact ⟨rfl, (((hf.trans hf5 (by simp)).drewN nq2).trans hf7 (by simp)).trans hf8 (by simp)⟩
end Go.Proofs.Ytjflbnkmfiejoaa
