/- The reference's outbox: Step. -/
import Derived.Test.YtjflbnkmfiejoaaRef
import Derived.Test.YtjflbnkmfiejoaaEnts
import Derived.Deep.QuietTactic
import Derived.BigQuiet
import Derived.StillTailTactics
import Derived.IntWalk
import Derived.Deep.RegionHeld3
import Derived.Deep.AppendLies
import Derived.Deep.RegionLaw
import Derived.Deep.DrawnRows
namespace Go.Proofs.Ytjflbnkmfiejoaa
open Go.RowKit Go.Proofs.LM
open Go.Proofs (encStr)

theorem Try.info56 : (Try.prog.info? 56).map (fun i => (i.zero, i.size, i.bytes)) = some (some (.agg #[.int .i64 0, .int .i64 0, .string ⟨#[]⟩, .bool false]), 4, 40) := by kernel_rfl

/-- The reference's outbox in memory. -/
structure RBox (w : World) (base rb : Nat) (va : Value) (es : List Ent) (most : Int) (vn : Value) (now : List Txt) : Prop where
  blk : Blk w rb 45 #[va, .int .i64 most, vn]
  own : w.ownsRow base 56 4 va es.length (escells es)
  rd : RdS w w.heap.size vn now

/-- The entries of the reference's step. -/
def stepEnts (n : Int) (rev : Int) (old gs : List Txt) : List Ent := entsFrom n rev (putAll [] gs) (diffs (putAll [] gs) old (putAll (putAll [] gs) old))

def RStepPost (base rb : Nat) (va : Value) (es : List Ent) (most : Int) (old : List Txt) (rev : Int) (gs : List Txt) (w : World) (e : Ending) (w' : World) : Prop :=
  ∃ v va' vn', e = .returned v ∧ w'.ownsRow w.heap.size 56 4 v (stepEnts (es.length + 1) rev old gs).length (escells (stepEnts (es.length + 1) rev old gs)) ∧
    RBox w' base rb va' (es ++ stepEnts (es.length + 1) rev old gs) most vn' (putAll [] gs) ∧ Fr (rb :: va.ownBlock.toList) w w' ∧ (∀ b, va'.ownBlock = some b → va.ownBlock = some b ∨ w.heap.size ≤ b)

set_option maxHeartbeats 1600000 in
theorem rstep_any {eA : TypeId} (B base rb : Nat) (va : Value) (es : List Ent) (most : Int) (nA : Option Addr) (nn nc : Nat) (old : List Txt) (rev : Int) (A : Option Addr) (n c : Nat) (gs : List Txt) (w : World)
    (hblk : Blk w rb 45 #[va, .int .i64 most, .slice nA nn nc]) (hown : w.ownsRow base 56 4 va es.length (escells es)) (hold : Rd w w.heap.size 9 1 nA nn (old.map encStr))
    (hr : Rd w B eA 1 A n (gs.map encStr)) (hB : B ≤ w.heap.size) (hn : n ≤ 100) (hno : nn ≤ 100) (hes : es.length ≤ 10000) (hbase : base ≤ w.heap.size) :
    Calls Try.prog 15 #[.pointer (some ⟨rb, 0, none⟩), .int .i64 rev, .slice A n c] w (RStepPost base rb va es most old rev gs w) := by
  obtain ⟨i0, hi, hz0, hz1, hz2⟩ := info_parts Try.info56
  have hl : gs.length = n := by simpa using hr.1
  have HL := Lib.hid hl; clear hl
  have hlo : old.length = nn := by simpa using hold.1
  have HLO := Lib.hid hlo; clear hlo
  have hrb := hblk.lt
  go_enter Try.func15, Try.ntmps15
  go_wp2
  go_loopw [7, 18] (fun v i wr => ∃ k : Nat, k ≤ n ∧ i = .int .i64 k ∧ RdS wr wr.heap.size v (putAll [] (gs.take k)) ∧ Fr [] w wr) (fun _ i _ => n - (intOf i).toNat)
  case atStart => exact ⟨0, Nat.zero_le _, rfl, ⟨_, _, _, rfl, Rd.none_, Nat.le_refl _, by simp [maxLen]⟩, Fr.refl _ _⟩
  case round =>
    obtain ⟨k, hk, rfl, ⟨A1, n1, c1, rfl, hr1, hc1, hm1⟩, hf⟩ := hrel
    have hrw := hr.frame0 hf hB
    have hlp := length_putAll (gs.take k) []
    have hl1 : (putAll [] (gs.take k)).length = n1 := by simpa using hr1.1
    have hn1 : n1 ≤ 1000 := by rw [← hl1]; simp at hlp; omega
    clear hlp
    have HL1 := Lib.hid hl1; clear hl1
    by_cases hlt : k < n
    · obtain ⟨b, o, u, rfl, hb, hu, hcell⟩ := hrw.at_ hlt
      obtain ⟨x, hx, rfl⟩ := enc_at hu
      clear hu
      have HX := Lib.hid hx; clear hx
      go_wp2_with (go_at_call 23; refine (put_any wr.heap.size _ n1 c1 _ x wr hr1 hc1 hm1 (Nat.le_refl _) (by omega)).mono ?_; rintro e w2 ⟨v2, rfl, hrd2, hf2⟩)
      go_roundw
      case rel => exact ⟨k + 1, by omega, by go_num, by rw [take_at HX.out, putAll_snoc]; exact hrd2, hf.trans hf2 (by simp)⟩
      case measure => simp [intOf]; omega
    · obtain ⟨w1, rfl⟩ : ∃ w1 : World, w1 = wr := ⟨_, rfl⟩
      have hbw := hblk.frame hf (by simp)
      have hc2 : w1.cell? ⟨rb, 2, none⟩ = some (.slice nA nn nc) := hbw.cell 2
      have holdw := hold.frame0 hf (Nat.le_refl _)
      have hownw := own_frame hown hf (by simp)
      obtain rfl : k = n := by omega
      have hnow : putAll [] (gs.take k) = putAll [] gs := by rw [List.take_of_length_le (by rw [HL.out]; omega)]
      rw [hnow] at hr1 HL1
      clear hnow
      obtain ⟨now, hnd⟩ : ∃ now, now = putAll [] gs := ⟨_, rfl⟩
      rw [← hnd] at hr1 HL1
      have HND := Lib.hid hnd; clear hnd
      have hnn1 : n1 ≤ 100 := by
        have := length_putAll gs []
        rw [← HND.out, HL1.out, HL.out] at this
        simp at this
        omega
      have hws := hf.size
      go_wp2_with fail
      go_loopw [10, 32] (fun v i wr => ∃ k : Nat, k ≤ nn ∧ i = .int .i64 k ∧ RdS wr wr.heap.size v (putAll now (old.take k)) ∧ Fr [] w1 wr) (fun _ i _ => nn - (intOf i).toNat)
      case atStart => exact ⟨0, Nat.zero_le _, rfl, ⟨_, _, _, rfl, hr1, hc1, hm1⟩, Fr.refl _ _⟩
      case round =>
        obtain ⟨j, hj, rfl, ⟨A2, n2, c2, rfl, hr2, hc2', hm2⟩, hf2⟩ := hrel
        have hold2 := holdw.frame0 hf2 (by omega)
        have hlp := length_putAll (old.take j) now
        have hl2 : (putAll now (old.take j)).length = n2 := by simpa using hr2.1
        have hn2 : n2 ≤ 1000 := by rw [← hl2]; simp [HL1.out] at hlp; omega
        clear hlp
        have HL2 := Lib.hid hl2; clear hl2
        by_cases hlt2 : j < nn
        · obtain ⟨b, o, u, rfl, hb, hu, hcell⟩ := hold2.at_ hlt2
          obtain ⟨x, hx, rfl⟩ := enc_at hu
          clear hu
          have HX := Lib.hid hx; clear hx
          go_wp2_with (go_at_call 23; refine (put_any wr.heap.size _ n2 c2 _ x wr hr2 hc2' hm2 (Nat.le_refl _) (by omega)).mono ?_; rintro e w3 ⟨v3, rfl, hrd3, hf3⟩)
          go_roundw
          case rel => exact ⟨j + 1, by omega, by go_num, by rw [take_at HX.out, putAll_snoc]; exact hrd3, hf2.trans hf3 (by simp)⟩
          case measure => simp [intOf]; omega
        · obtain ⟨w2, rfl⟩ : ∃ w2 : World, w2 = wr := ⟨_, rfl⟩
          have hbw2 := hbw.frame hf2 (by simp)
          have hownw2 := own_frame hownw hf2 (by simp)
          obtain rfl : j = nn := by omega
          have hboth : putAll now (old.take j) = putAll now old := by rw [List.take_of_length_le (by rw [HLO.out]; omega)]
          rw [hboth] at hr2 HL2
          clear hboth
          obtain ⟨both, hbd⟩ : ∃ both, both = putAll now old := ⟨_, rfl⟩
          rw [← hbd] at hr2 HL2
          have HBD := Lib.hid hbd; clear hbd
          have hnn2 : n2 ≤ 200 := by
            have := length_putAll old now
            rw [← HBD.out, HL2.out, HLO.out, HL1.out] at this
            omega
          have hr1w2 := hr1.frame0 hf2 (Nat.le_refl _)
          have hws2 := hf2.size
          go_wp2_with fail
          go_loopw [13, 42] (fun v i wr => ∃ (k : Nat) (va' : Value), k ≤ n2 ∧ i = .int .i64 k ∧ wr.ownsRow w2.heap.size 56 4 v (diffs now old (both.take k)).length (escells (entsFrom (es.length + 1) rev now (diffs now old (both.take k)))) ∧
              Blk wr rb 45 #[va', .int .i64 most, .slice nA j nc] ∧ wr.ownsRow base 56 4 va' (es ++ entsFrom (es.length + 1) rev now (diffs now old (both.take k))).length (escells (es ++ entsFrom (es.length + 1) rev now (diffs now old (both.take k)))) ∧
              (∀ b, va'.ownBlock = some b → v.ownBlock ≠ some b) ∧ Fr (rb :: va.ownBlock.toList) w2 wr ∧ (va'.ownBlock = va.ownBlock ∨ ∃ b, va'.ownBlock = some b ∧ w2.heap.size ≤ b)) (fun _ i _ => n2 - (intOf i).toNat)
          case atStart => exact ⟨0, va, Nat.zero_le _, rfl, own_nil' _ _ _ _, hbw2, by simpa [diffs, entsFrom] using hownw2, by simp [Value.ownBlock], Fr.refl _ _, .inl rfl⟩
          case round =>
            obtain ⟨m, va', hm, rfl, hownv, hblkr, hownr, hap, hfr, hat⟩ := hrel
            have hS := foot_ne (ty := 9) hbw2 hownw2 (by decide) (by decide)
            have hnow3 := hr1w2.frame hfr (by omega) hS
            have hold3 := (holdw.frame0 hf2 (by omega)).frame hfr (by omega) hS
            have hboth3 := hr2.frame hfr (by omega) hS
            obtain ⟨Aa, ca, rfl, hNc, hcam⟩ := own_shape hownr
            obtain ⟨Av, cv, rfl, hVc, hcvm⟩ := own_shape hownv
            have hwr := hfr.size
            obtain ⟨dk, hdk⟩ : ∃ dk, dk = diffs now old (both.take m) := ⟨_, rfl⟩
            rw [← hdk] at hownv hblkr hownr hap hat hNc hVc ⊢
            have hdl : dk.length ≤ 200 := by
              have h1 := diffs_length now old (both.take m)
              rw [List.length_take, HL2.out, ← hdk] at h1
              omega
            obtain ⟨N, hN⟩ : ∃ N, N = (es ++ entsFrom (es.length + 1) rev now dk).length := ⟨_, rfl⟩
            have hN2 : N = es.length + dk.length := by rw [hN, List.length_append, entsFrom_length]
            rw [← hN] at hblkr hownr hap hat hNc
            have HDK := Lib.hid hdk; clear hdk
            have HN := Lib.hid hN; clear hN
            have hNb : N ≤ 20000 := by omega
            have HN2 := Lib.hid hN2; clear hN2
            have hcr0 : wr.cell? ⟨rb, 0, none⟩ = some (.slice Aa N ca) := hblkr.cell 0
            have hcr2 : wr.cell? ⟨rb, 2, none⟩ = some (.slice nA j nc) := hblkr.cell 2
            by_cases hlt3 : m < n2
            · obtain ⟨b, o, u, rfl, hb, hu, hcell⟩ := hboth3.at_ hlt3
              obtain ⟨x, hx, rfl⟩ := enc_at hu
              clear hu
              have HX := Lib.hid hx; clear hx
              go_wp2_with fail
              go_quiet ((first | (go_at_call_of 10 (Value.slice A1 n1 c1); exact has_q _ _ _ _ now x _ hnow3 _) | (go_at_call_of 10 (Value.slice nA j nc); exact has_q _ _ _ _ old x _ hold3 _)))
              go_wp2_with fail
              · have hdif : (!hasS now x == hasS old x) = true := by assumption
                obtain ⟨w3, hw3⟩ : ∃ w3, w3 = wr.drewN nq := ⟨_, rfl⟩
                have hnow4 : Rd w3 w1.heap.size 9 1 A1 n1 (now.map encStr) := by rw [hw3]; exact hnow3
                have hblk4 : Blk w3 rb 45 #[.slice Aa N ca, .int .i64 most, .slice nA j nc] := by rw [hw3]; exact hblkr
                have hown4 : w3.ownsRow base 56 4 (.slice Aa N ca) N (escells (es ++ entsFrom (es.length + 1) rev now dk)) := by rw [hw3]; exact hownr
                have hownv4 : w3.ownsRow w2.heap.size 56 4 (.slice Av dk.length cv) dk.length (escells (entsFrom (es.length + 1) rev now dk)) := by rw [hw3]; exact hownv
                have hfr4 : Fr (rb :: va.ownBlock.toList) w2 w3 := by rw [hw3]; exact hfr.drewN _
                rw [← hw3]
                clear hw3 hnow3 hold3 hboth3 hblkr hownr hownv hfr hcr0 hcr2 hcell
                have hws4 := hfr4.size
                have hcr0 : w3.cell? ⟨rb, 0, none⟩ = some (.slice Aa N ca) := hblk4.cell 0
                have hne : Value.ownBlock (.slice Av dk.length cv) ≠ some rb := own_blk_ne hownv4 hblk4 (by decide)
                have hw13 : w1.heap.size ≤ w3.heap.size := by omega
                have hwrap : IntKind.i64.wrap ((N : Int) + 1) = (N : Int) + 1 := IntWalk.i64_in _ (by omega)
                have hnews : ∀ j u, (ecells ⟨N + 1, rev, x, hasS now x⟩)[j]? = some u → ((w3.alloc (.cells #[.int .i64 ((N : Int) + 1), .int .i64 rev, .string ⟨x.toArray⟩, .bool (hasS now x)] 56)).drew).cell? ((⟨w3.heap.size, 0, none⟩ : Addr).add j) = some u :=
                  World.news_of_block (cs := #[.int .i64 ((N : Int) + 1), .int .i64 rev, .string ⟨x.toArray⟩, .bool (hasS now x)]) (t := 56) (fr := (0, 0)) (heap_alloc_new w3 _)
                go_region_held3 (fun w' => w'.cell? ⟨rb, 0, none⟩ = some (.slice Aa N ca))
                  (first
                    | go_keep
                    | (rw [hgrow5.cell_far _ (by simp; omega) (Ne.symm hne)]; go_keep))
                  (first
                    | (go_at_call 10; refine (has_any w1.heap.size A1 n1 c1 now x _ ?_).mono ?_; (exact hnow4.drew); rintro e w' ⟨rfl, rfl⟩)
                    | ((refine step_append_lies (o := ⟨some 70, _, _, _, _, _⟩) _ (by rfl) _ _ _ (by rfl) w2.heap.size 56 i0 _ 4 40 Try.underlying41 hi hz0 hz1 hz2 rfl (by omega) _ _ _ (by rfl) ((hownv4.alloc _).drew) ⟨w3.heap.size, 0, none⟩ 1 1 (ecells ⟨N + 1, rev, x, hasS now x⟩) (by rfl) (by rfl) hnews (ecells_cell _) (by omega) (by unfold maxLen; omega) (by omega) (by simp; omega) (w3.heap.size + 1) (by simp) ?_; intro g cap w4 hownv5 hgrow5 hat5 hlt5)))
                clear hwrap hnews
                have hgs : w3.heap.size + 1 ≤ w4.heap.size := by simpa using hgrow5.size
                have hblk5 : Blk w4 rb 45 #[.slice Aa N ca, .int .i64 most, .slice nA j nc] := (hblk4.alloc _).drew.own_other (hownv4.alloc _).drew (by decide) hgrow5
                have hown5 : w4.ownsRow base 56 4 (.slice Aa N ca) N (escells (es ++ entsFrom (es.length + 1) rev now dk)) := (hown4.alloc _).drew.kept hgrow5 (by
                  cases hb4 : (Value.slice Aa N ca).ownBlock with
                  | none => exact .inl rfl
                  | some b4 => exact .inr (fun e => hap b4 hb4 e.symm))
                have hfr5 : Fr (rb :: va.ownBlock.toList) w2 w4 := ((hfr4.alloc _).drew).grown hgrow5 (fun j hj => .inr (own_base hownv4 hj).1)
                have hgA : ∀ b4, (Value.slice Aa N ca).ownBlock = some b4 → g ≠ b4 := by
                  intro b4 hb4 e
                  subst e
                  rcases hat5 with h | h
                  · exact hap _ hb4 h
                  · have := (own_base hown4 hb4).2
                    omega
                have HGA := Lib.hid hgA; clear hgA
                have hgb := (own_base hownv5 rfl).1
                have hcl : ∀ j, j < 4 → w4.cell? ⟨g, dk.length * 4 + j, none⟩ = (ecells ⟨N + 1, rev, x, hasS now x⟩)[j]? := by
                  intro j hj
                  have h1 := hownv5.cells (g := g) rfl (dk.length * 4 + j)
                  have h2 : (escells (entsFrom (es.length + 1) rev now dk) ++ ecells ⟨N + 1, rev, x, hasS now x⟩)[dk.length * 4 + j]? = (ecells ⟨N + 1, rev, x, hasS now x⟩)[j]? := by
                    rw [List.getElem?_append_right (by rw [escells_length, entsFrom_length]; omega), escells_length, entsFrom_length]
                    congr 1; omega
                  have h3 : (ecells ⟨N + 1, rev, x, hasS now x⟩)[j]? = some ((ecells ⟨N + 1, rev, x, hasS now x⟩)[j]'(by simpa [ecells] using hj)) := List.getElem?_eq_getElem _
                  rw [h3] at h2 ⊢
                  have h4 := h1 _ h2
                  rwa [add_plain', Nat.zero_add] at h4
                have hc0 : w4.cell? ⟨g, dk.length * 4, none⟩ = some (.int .i64 ((N : Int) + 1)) := hcl 0 (by omega)
                have hc1 : w4.cell? ⟨g, dk.length * 4 + 1, none⟩ = some (.int .i64 rev) := hcl 1 (by omega)
                have hc2' : w4.cell? ⟨g, dk.length * 4 + 2, none⟩ = some (.string ⟨x.toArray⟩) := hcl 2 (by omega)
                have hc3 : w4.cell? ⟨g, dk.length * 4 + 3, none⟩ = some (.bool (hasS now x)) := hcl 3 (by omega)
                clear hcl
                have hr0 : w4.cell? ⟨rb, 0, none⟩ = some (.slice Aa N ca) := hblk5.cell 0
                have hrf : w4.frozen? ⟨rb, 0, none⟩ = false := hblk5.frozen 0
                have HAT := Lib.hid hat; clear hat
                have HLT5 := Lib.hid hlt5; clear hlt5
                have HDIF := Lib.hid hdif; clear hdif
                clear hat5 hgrow5 hblk4 hown4 hownv4 hcr0 hc2 hap
                go_wp2_with fail
                have hw5 : IntKind.i64.wrap (dk.length : Int) = (dk.length : Int) := IntWalk.i64_in _ (by omega)
                have hw6 : (dk.length : Int) < (dk.length : Int) + 1 := by omega
                have hnews : ∀ j u, (ecells ⟨N + 1, rev, x, hasS now x⟩)[j]? = some u → ((w4.alloc (.cells #[.int .i64 ((N : Int) + 1), .int .i64 rev, .string ⟨x.toArray⟩, .bool (hasS now x)] 56)).drew).cell? ((⟨w4.heap.size, 0, none⟩ : Addr).add j) = some u :=
                  World.news_of_block (cs := #[.int .i64 ((N : Int) + 1), .int .i64 rev, .string ⟨x.toArray⟩, .bool (hasS now x)]) (t := 56) (fr := (0, 0)) (heap_alloc_new w4 _)
                have hr0a : ∀ O : Obj, (w4.alloc O).cell? ⟨rb, 0, none⟩ = some (.slice Aa N ca) := fun O => (hblk5.alloc O).cell 0
                go_region_law ((refine step_append_lies (o := ⟨some 83, _, _, _, _, _⟩) _ (by rfl) _ _ _ (by rfl) base 56 i0 _ 4 40 Try.underlying41 hi hz0 hz1 hz2 rfl (by omega) _ _ _ (by rfl) ((hown5.alloc _).drew) ⟨w4.heap.size, 0, none⟩ 1 1 (ecells ⟨N + 1, rev, x, hasS now x⟩) (by rfl) (by rfl) hnews (ecells_cell _) (by omega) (by unfold maxLen; omega) (by omega) (by simp; omega) (w4.heap.size + 1) (by simp) ?_; intro g2 cap2 w5 hown6 hgrow6 hat6 hlt6; have hblk6 : Blk w5 rb 45 #[.slice Aa N ca, .int .i64 most, .slice nA j nc] := (hblk5.alloc _).drew.own_other (hown5.alloc _).drew (by decide) hgrow6; have hr5 := hblk6.frozen 0; have hr6 : w5.cell? ⟨rb, 0, none⟩ = some (.slice Aa N ca) := hblk6.cell 0))
                all_goals
                  clear hw5 hw6 hnews hr0a hr0 hrf hc0 hc1 hc2' hc3
                  go_wp2_with fail
                  go_roundw
                  case rel =>
                    have hdx : diffs now old (both.take (m + 1)) = dk ++ [x] := by
                      rw [take_at HX.out, diffs_snoc, ← HDK.out, if_pos (by simpa using HDIF.out)]
                    have hex : entsFrom (es.length + 1) rev now (dk ++ [x]) = entsFrom (es.length + 1) rev now dk ++ [⟨N + 1, rev, x, hasS now x⟩] := by
                      rw [entsFrom_snoc, HN2.out]; congr 3; omega
                    have hwr2 := hgrow6.size
                    refine ⟨m + 1, .slice (some ⟨g2, 0, none⟩) (N + 1) cap2, by omega, by go_num, ?_, ?_, ?_, ?_, ?_, ?_⟩
                    · rw [hdx, hex, escells_append, escells_one, List.length_append]
                      refine own_set (own_other_ne ((hownv5.alloc _).drew) hgrow6 (fun b4 h1 h2 => ?_)) hblk6 (by decide) 0 _
                      have : g = b4 := by simpa [Value.ownBlock] using h1
                      exact HGA.out b4 h2 this
                    · exact hblk6.set_ 0 _
                    · rw [hdx, hex, ← List.append_assoc, List.length_append, ← HN.out, escells_append, escells_one]
                      exact own_set hown6 hblk6 (by decide) 0 _
                    · intro b4 h1 h2
                      have e1 : g2 = b4 := by simpa [Value.ownBlock] using h1
                      have e2 : g = b4 := by simpa [Value.ownBlock] using h2
                      subst e1
                      rcases hat6 with h | h
                      · exact HGA.out _ h e2
                      · have := HLT5.out; omega
                    · refine (((hfr5.alloc _).drew).grown hgrow6 (fun k4 hk4 => ?_)).setCell (.inl (by simp)) _
                      rcases HAT.out with h | ⟨b4, h1, h2⟩
                      · left; rw [← h, hk4]; simp
                      · right; rw [h1] at hk4; injection hk4 with hk4; omega
                    · rcases hat6 with h | h
                      · rcases HAT.out with h3 | ⟨b4, h1, h2⟩
                        · left; rw [← h3, h]; rfl
                        · right; exact ⟨b4, by rw [← h1, h]; rfl, h2⟩
                      · right; exact ⟨g2, rfl, by omega⟩
                  case measure => simp [intOf]; omega
              · have hdif : (!hasS now x == hasS old x) = false := by assumption
                go_roundw
                case rel =>
                  have hdx : diffs now old (both.take (m + 1)) = dk := by
                    rw [take_at HX.out, diffs_snoc, ← HDK.out, if_neg (by simpa using hdif)]; simp
                  refine ⟨m + 1, .slice Aa N ca, by omega, by go_num, ?_, ?_, ?_, ?_, ?_, ?_⟩
                  · rw [hdx]; exact hownv
                  · exact hblkr
                  · rw [hdx, ← HN.out]; exact hownr
                  · exact hap
                  · exact hfr.drewN _
                  · exact hat
                case measure => simp [intOf]; omega
            · have hcr2f : wr.frozen? ⟨rb, 2, none⟩ = false := hblkr.frozen 2
              have hfin : diffs now old (both.take m) = diffs now old both := by rw [List.take_of_length_le (by rw [HL2.out]; omega)]
              have HFIN := Lib.hid hfin; clear hfin
              go_wp2_with fail
              go_ret
              have hdk : dk = diffs now old both := by rw [HDK.out, HFIN.out]
              have he : entsFrom (es.length + 1) rev now dk = stepEnts (es.length + 1) rev old gs := by rw [hdk, HBD.out, HND.out]; rfl
              have hel : dk.length = (stepEnts (es.length + 1) rev old gs).length := by rw [← he, entsFrom_length]
              refine ⟨.slice Av dk.length cv, .slice Aa N ca, .slice A1 n1 c1, rfl, ?_, ⟨?_, ?_, ?_⟩, ?_, ?_⟩
              · rw [← hel, ← he]
                exact own_set (own_rebase hownv (fun b hb => by have := (own_base hownv hb).1; omega)) hblkr (by decide) 2 _
              · exact hblkr.set_ 2 _
              · rw [← he, ← HN.out]
                exact own_set hownr hblkr (by decide) 2 _
              · refine ⟨A1, n1, c1, rfl, ?_, hc1, hm1⟩
                rw [← HND.out]
                have hsz : (wr.setCell ⟨rb, 2, none⟩ (.slice A1 n1 c1)).heap.size = wr.heap.size := by simp [World.setCell]
                exact (hnow3.set_other hblkr (by decide) 2 _).more (by omega)
              · exact (((hf.trans hf2 (by simp)).mono (T := rb :: va.ownBlock.toList) (by simp)).trans hfr (fun t ht => .inl ht)).setCell (.inl (by simp)) _
              · intro b hb
                rcases hat with h | ⟨b', h1, h2⟩
                · left; rw [← h]; exact hb
                · right; rw [h1] at hb; injection hb; omega
end Go.Proofs.Ytjflbnkmfiejoaa
