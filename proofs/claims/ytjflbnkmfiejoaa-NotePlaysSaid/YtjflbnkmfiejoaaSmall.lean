/- note: Clone, New, Last, Floor, Len, Firing; the reference's New, Floor. -/
import Derived.Test.YtjflbnkmfiejoaaMSet
import Derived.Test.YtjflbnkmfiejoaaEnts
import Derived.Deep.QuietTactic
import Derived.BigQuiet
import Derived.IntWalk
import Derived.StillTailTactics
namespace Go.Proofs.Ytjflbnkmfiejoaa
open Go.RowKit Go.Maps Go.Sort Go.Proofs.LM
open Go.Proofs (encStr)

theorem Try.info33 : (Try.prog.info? 33).map (fun i => (i.zero, i.size, i.bytes)) = some (some (.agg #[.int .i64 0, .int .i64 0, .string ⟨#[]⟩, .bool false]), 4, 40) := by kernel_rfl

def ClonePost (n : Nat) (xs : List Value) (w : World) (e : Ending) (w' : World) : Prop := ∃ v, e = .returned v ∧ w'.ownsRow w.heap.size 33 4 v n xs ∧ Fr [] w w'

set_option maxHeartbeats 400000 in
theorem clone_nil (c : Nat) (w : World) : Calls Try.prog 22 #[.slice none 0 c] w (ClonePost 0 [] w) := by
  have he := fun (w : World) (a : Option Addr) (n c n' c' : Nat) => Lib.run_eql_slice_nil (P := Try.prog) w 26 33 a n c n' c' Try.underlying26
  go_enter Try.func22, Try.ntmps22
  go_wp2
  go_ret
  exact ⟨_, rfl, own_nil' _ _ _ _, Fr.refl _ _⟩

set_option maxHeartbeats 400000 in
theorem clone_some (B : Nat) (a : Addr) (n c : Nat) (es : List Ent) (w : World) (hr : Rd w B 33 4 (some a) n (escells es)) (hB : B ≤ w.heap.size) (hn : n ≤ 100000) :
    Calls Try.prog 22 #[.slice (some a) n c] w (ClonePost n (escells es) w) := by
  obtain ⟨i0, hi, hz0, hz1, hz2⟩ := info_parts Try.info33
  have he := fun (w : World) (a : Option Addr) (n c n' c' : Nat) => Lib.run_eql_slice_nil (P := Try.prog) w 26 33 a n c n' c' Try.underlying26
  go_enter Try.func22, Try.ntmps22
  go_wp2_with (first
    | (at_builtin; refine wpList_append_any _ rfl (.tmp 5) (.tmp 6) _ rfl w.heap.size 33 i0 _ 4 40 Try.underlying26 hi hz0 hz1 hz2 rfl (by omega) (.slice (some ⟨w.heap.size, 0, none⟩) 0 0) 0 [] rfl (own_new0 w _ 33 4 (Nat.le_refl _)) B 33 _ n _ _ rfl (hr.alloc hB _)
        (fun u hu => by obtain ⟨x, _, hx⟩ := List.mem_flatMap.1 hu; exact ecells_cell x u hx) (by unfold maxLen; omega) (by omega) (by simp) ?_
       intro v1 w1 hown1 hg1 hat1
       have HAT := Lib.hid hat1; clear hat1)
    | fail)
  go_ret
  exact ⟨v1, rfl, by simpa using hown1, ((Fr.refl _ w).alloc _).grown hg1 (by simp [Value.ownBlock])⟩

/-! ### the reference's outbox -/
def NewPost (most : Int) (w : World) (e : Ending) (w' : World) : Prop := e = .returned (.pointer (some ⟨w.heap.size, 0, none⟩)) ∧ w' = w.alloc (.cells #[.slice none 0 0, .int .i64 (if most < 1 then 1 else most), .slice none 0 0] 45)
set_option maxHeartbeats 400000 in
theorem rnew_any (most : Int) (w : World) : Calls Try.prog 13 #[.int .i64 most] w (NewPost most w) := by
  by_cases h : most < 1
  · go_enter Try.func13, Try.ntmps13
    go_wp2
    go_ret
    refine ⟨rfl, ?_⟩
    rw [if_pos h]
  · go_enter Try.func13, Try.ntmps13
    go_wp2
    go_ret
    refine ⟨rfl, ?_⟩
    rw [if_neg (by omega)]

/-- How many went. -/
def rFloor (len : Nat) (most : Int) : Int := if most < len then len - most else 0
def DrawnPost (v : Value) (w : World) (e : Ending) (w' : World) : Prop := e = .returned v ∧ ∃ n, w' = w.drewN n

set_option maxHeartbeats 400000 in
theorem rfloor_any (rb : Nat) (Aa : Option Addr) (N ca : Nat) (most : Int) (vn : Value) (w : World) (hb : Blk w rb 45 #[.slice Aa N ca, .int .i64 most, vn]) (hN : N ≤ 100000) (h0 : 1 ≤ most) (h1 : most ≤ 9223372036854775807) :
    Calls Try.prog 18 #[.pointer (some ⟨rb, 0, none⟩)] w (DrawnPost (.int .i64 (rFloor N most)) w) := by
  have hc0 : w.cell? ⟨rb, 0, none⟩ = some (.slice Aa N ca) := hb.cell 0
  have hc1 : w.cell? ⟨rb, 1, none⟩ = some (.int .i64 most) := hb.cell 1
  by_cases h : most < N
  · have hw : IntKind.i64.wrap ((N : Int) - most) = (N : Int) - most := IntWalk.i64_in _ (by omega)
    go_enter Try.func18, Try.ntmps18
    go_wp2_with fail
    go_quiet (fail)
    go_wp2_with fail
    go_quiet (fail)
    go_wp2_with fail
    go_ret
    refine ⟨?_, _, World.drewN_drewN ..⟩
    unfold rFloor
    rw [if_pos h]
    rfl
  · go_enter Try.func18, Try.ntmps18
    go_wp2_with fail
    go_quiet (fail)
    go_wp2_with fail
    go_ret
    refine ⟨?_, _, rfl⟩
    unfold rFloor
    rw [if_neg (by omega)]
    rfl

set_option maxHeartbeats 800000 in
theorem rsince_gone (rb : Nat) (Aa : Option Addr) (N ca : Nat) (most : Int) (vn : Value) (seq : Int) (w : World) (hb : Blk w rb 45 #[.slice Aa N ca, .int .i64 most, vn]) (hN : N ≤ 100000) (h0 : 1 ≤ most) (h1 : most ≤ 9223372036854775807)
    (h : seq < rFloor N most) : Calls Try.prog 20 #[.pointer (some ⟨rb, 0, none⟩), .int .i64 seq] w (DrawnPost (.tuple #[.slice none 0 0, .int .i64 9]) w) := by
  go_enter Try.func20, Try.ntmps20
  go_wp2_with (go_at_call 18; refine (rfloor_any rb Aa N ca most vn w hb hN h0 h1).mono ?_; rintro e w' ⟨rfl, nq, rfl⟩)
  go_ret2
  exact ⟨rfl, _, rfl⟩
set_option maxHeartbeats 800000 in
theorem rsince_arg (rb : Nat) (Aa : Option Addr) (N ca : Nat) (most : Int) (vn : Value) (seq : Int) (w : World) (hb : Blk w rb 45 #[.slice Aa N ca, .int .i64 most, vn]) (hN : N ≤ 100000) (h0 : 1 ≤ most) (h1 : most ≤ 9223372036854775807)
    (h : ¬ seq < rFloor N most) (h2 : (N : Int) < seq) : Calls Try.prog 20 #[.pointer (some ⟨rb, 0, none⟩), .int .i64 seq] w (DrawnPost (.tuple #[.slice none 0 0, .int .i64 1]) w) := by
  have hc0 : w.cell? ⟨rb, 0, none⟩ = some (.slice Aa N ca) := hb.cell 0
  go_enter Try.func20, Try.ntmps20
  go_wp2_with (go_at_call 18; refine (rfloor_any rb Aa N ca most vn w hb hN h0 h1).mono ?_; rintro e w' ⟨rfl, nq, rfl⟩)
  go_ret2
  exact ⟨rfl, _, rfl⟩
theorem rFloor_nn (N : Nat) (most : Int) : 0 ≤ rFloor N most := by unfold rFloor; split <;> omega
set_option maxHeartbeats 800000 in
theorem rsince_ok (rb : Nat) (Aa : Option Addr) (N ca : Nat) (most : Int) (vn : Value) (seq : Nat) (w : World) (hb : Blk w rb 45 #[.slice Aa N ca, .int .i64 most, vn]) (hN : N ≤ 100000) (h0 : 1 ≤ most) (h1 : most ≤ 9223372036854775807)
    (h : ¬ (seq : Int) < rFloor N most) (h2 : seq ≤ N) (_hca : N ≤ ca) : Calls Try.prog 20 #[.pointer (some ⟨rb, 0, none⟩), .int .i64 seq] w (DrawnPost (.tuple #[.slice (if ca = seq then Aa else Aa.map (·.add (seq * 4))) (N - seq) (ca - seq), .int .i64 0]) w) := by
  have hc0 : w.cell? ⟨rb, 0, none⟩ = some (.slice Aa N ca) := hb.cell 0
  go_enter Try.func20, Try.ntmps20
  go_wp2_with (go_at_call 18; refine (rfloor_any rb Aa N ca most vn w hb hN h0 h1).mono ?_; rintro e w' ⟨rfl, nq, rfl⟩)
  all_goals (go_ret2; exact ⟨rfl, _, rfl⟩)

/-! ### note's outbox: what only reads -/
section
variable (ob : Nat) (lA : Option Addr) (N lc : Nat) (most last floor : Int) (fb : Nat) (w : World)
def SamePost (v : Value) (w : World) (e : Ending) (w' : World) : Prop := e = .returned v ∧ w = w'
set_option maxHeartbeats 400000 in
theorem last_any (hb : Blk w ob 53 #[.slice lA N lc, .int .i64 most, .int .i64 last, .int .i64 floor, .map (some fb)]) : Calls Try.prog 16 #[.pointer (some ⟨ob, 0, none⟩)] w (SamePost (.int .i64 last) w) := by
  have hc : w.cell? ⟨ob, 2, none⟩ = some (.int .i64 last) := hb.cell 2
  go_enter Try.func16, Try.ntmps16
  go_wp2
  go_ret
  exact ⟨rfl, rfl⟩
set_option maxHeartbeats 400000 in
theorem floor_any (hb : Blk w ob 53 #[.slice lA N lc, .int .i64 most, .int .i64 last, .int .i64 floor, .map (some fb)]) : Calls Try.prog 17 #[.pointer (some ⟨ob, 0, none⟩)] w (SamePost (.int .i64 floor) w) := by
  have hc : w.cell? ⟨ob, 3, none⟩ = some (.int .i64 floor) := hb.cell 3
  go_enter Try.func17, Try.ntmps17
  go_wp2
  go_ret
  exact ⟨rfl, rfl⟩
set_option maxHeartbeats 400000 in
theorem len_any (hb : Blk w ob 53 #[.slice lA N lc, .int .i64 most, .int .i64 last, .int .i64 floor, .map (some fb)]) : Calls Try.prog 19 #[.pointer (some ⟨ob, 0, none⟩)] w (SamePost (.int .i64 N) w) := by
  have hc : w.cell? ⟨ob, 0, none⟩ = some (.slice lA N lc) := hb.cell 0
  go_enter Try.func19, Try.ntmps19
  go_wp2
  go_ret
  exact ⟨rfl, rfl⟩
set_option maxHeartbeats 400000 in
theorem firing_any (fn : Nat) (F : List Txt) (hb : Blk w ob 53 #[.slice lA N lc, .int .i64 most, .int .i64 last, .int .i64 floor, .map (some fb)]) (hF : MSet w fb fn F) (hn : fn ≤ 10000) : Calls Try.prog 11 #[.pointer (some ⟨ob, 0, none⟩)] w (RisPost fn F w) := by
  have hc : w.cell? ⟨ob, 4, none⟩ = some (.map (some fb)) := hb.cell 4
  go_enter Try.func11, Try.ntmps11
  go_wp2_with (go_at_call 21; refine (ris_any fb fn F w hF hn).mono ?_; rintro e w' ⟨v, ts, rfl, h1, h2, h3, h4, h5⟩)
  go_ret
  exact ⟨v, ts, rfl, h1, h2, h3, h4, h5⟩
set_option maxHeartbeats 400000 in
theorem new_any : Calls Try.prog 6 #[.int .i64 most] w fun e w' => e = .returned (.pointer (some ⟨w.heap.size + 1, 0, none⟩)) ∧ w' = (w.alloc (.map #[] 0)).alloc (.cells #[.slice none 0 0, .int .i64 (max most 1), .int .i64 0, .int .i64 0, .map (some w.heap.size)] 53) := by
  have hmm := @run_makeMap Try.prog
  go_enter Try.func6, Try.ntmps6
  go_wp2
  go_ret
  exact ⟨rfl, rfl⟩
set_option maxHeartbeats 800000 in
theorem since_gone (seq : Int) (hb : Blk w ob 53 #[.slice lA N lc, .int .i64 most, .int .i64 last, .int .i64 floor, .map (some fb)]) (h : seq < floor) : Calls Try.prog 9 #[.pointer (some ⟨ob, 0, none⟩), .int .i64 seq] w (DrawnPost (.tuple #[.slice none 0 0, .int .i64 9]) w) := by
  have hc2 : w.cell? ⟨ob, 2, none⟩ = some (.int .i64 last) := hb.cell 2
  have hc3 : w.cell? ⟨ob, 3, none⟩ = some (.int .i64 floor) := hb.cell 3
  go_enter Try.func9, Try.ntmps9
  go_wp2_with fail
  go_ret2
  exact ⟨rfl, 0, rfl⟩
set_option maxHeartbeats 800000 in
theorem since_arg (seq : Int) (hb : Blk w ob 53 #[.slice lA N lc, .int .i64 most, .int .i64 last, .int .i64 floor, .map (some fb)]) (h : ¬ seq < floor) (h2 : last < seq) : Calls Try.prog 9 #[.pointer (some ⟨ob, 0, none⟩), .int .i64 seq] w (DrawnPost (.tuple #[.slice none 0 0, .int .i64 1]) w) := by
  have hc2 : w.cell? ⟨ob, 2, none⟩ = some (.int .i64 last) := hb.cell 2
  have hc3 : w.cell? ⟨ob, 3, none⟩ = some (.int .i64 floor) := hb.cell 3
  go_enter Try.func9, Try.ntmps9
  go_wp2_with fail
  go_ret2
  exact ⟨rfl, 0, rfl⟩

def SincePost (n : Nat) (xs : List Value) (w : World) (e : Ending) (w' : World) : Prop := ∃ v, e = .returned (.tuple #[v, .int .i64 0]) ∧ w'.ownsRow w.heap.size 33 4 v n xs ∧ Fr [] w w'
set_option maxHeartbeats 1600000 in
theorem since_ok (base k : Nat) (seq : Int) (es : List Ent) (hb : Blk w ob 53 #[.slice lA N lc, .int .i64 most, .int .i64 last, .int .i64 floor, .map (some fb)]) (ho : w.ownsRow base 33 4 (.slice lA N lc) N (escells es)) (hlen : es.length = N) (h : floor ≤ seq) (h2 : seq ≤ last)
    (hk : (N : Int) - (last - seq) = k) (hkN : k ≤ N) (hN : N ≤ 100000) (h3 : 0 ≤ floor) (h4 : last ≤ 1000000) :
    Calls Try.prog 9 #[.pointer (some ⟨ob, 0, none⟩), .int .i64 seq] w (SincePost (N - k) (escells (es.drop k)) w) := by
  have hc0 : w.cell? ⟨ob, 0, none⟩ = some (.slice lA N lc) := hb.cell 0
  have hc2 : w.cell? ⟨ob, 2, none⟩ = some (.int .i64 last) := hb.cell 2
  have hc3 : w.cell? ⟨ob, 3, none⟩ = some (.int .i64 floor) := hb.cell 3
  have hw1 : IntKind.i64.wrap (last - seq) = last - seq := IntWalk.i64_in _ (by omega)
  have hw2 : IntKind.i64.wrap ((N : Int) - (last - seq)) = (k : Int) := by rw [IntWalk.i64_in _ (by omega)]; exact hk
  have hnl : ¬ seq < floor := by omega
  have hng : ¬ last < seq := by omega
  have hshape := own_shape ho
  have hNc : N ≤ lc := by
    obtain ⟨A, c, e, h1, _⟩ := hshape
    injection e with _ _ e
    omega
  have hrd := Rd.of_own ho
  have hdrop : (escells es).drop (k * 4) = escells (es.drop k) := escells_drop es k
  have hcut := hrd.cut hkN hNc
  rw [hdrop] at hcut
  have HK := Lib.hid hk; clear hk
  have HD := Lib.hid hdrop; clear hdrop
  have HL := Lib.hid hlen; clear hlen
  clear hshape
  cases lA with
  | none =>
    have hN0 : N = 0 ∧ lc = 0 := by
      rcases ho.2 with ⟨e, h0⟩ | ⟨g, cap, cur, e, _⟩
      · injection e with _ _ e
        exact ⟨h0, e⟩
      · cases e
    obtain ⟨rfl, rfl⟩ := hN0
    obtain rfl : k = 0 := by omega
    obtain rfl : seq = last := by have := HK.out; omega
    have hes : escells (es.drop 0) = [] := by rw [List.eq_nil_of_length_eq_zero HL.out]; simp [escells]
    rw [hes]
    clear hw1 hw2 hes hcut hrd
    have hw0 : IntKind.i64.wrap 0 = 0 := IntWalk.i64_in _ (by omega)
    go_enter Try.func9, Try.ntmps9
    go_wp2_with fail
    refine wp_region_still_tail 17 (by kernel_rfl) (by kernel_rfl) ?_
    simp only [List.take_succ_cons, List.take_zero, List.drop_succ_cons, List.drop_zero]
    repeat still_step
    refine wpStill_nil ?_
    go_wp2_with (go_at_call 22; refine (clone_nil 0 w.drew).mono ?_; rintro e w' ⟨v, rfl, h1, h2⟩)
    go_ret2
    exact ⟨v, rfl, h1, ((Fr.refl _ w).drew).trans h2 (by simp)⟩
  | some a =>
    by_cases hlc : lc = k
    · rw [if_pos hlc] at hcut
      go_enter Try.func9, Try.ntmps9
      go_wp2_with fail
      refine wp_region_still_tail 17 (by kernel_rfl) (by kernel_rfl) ?_
      simp only [List.take_succ_cons, List.take_zero, List.drop_succ_cons, List.drop_zero]
      repeat still_step
      refine wpStill_nil ?_
      go_wp2_with (go_at_call 22; refine (clone_some w.heap.size a (N - k) 0 (es.drop k) w.drew hcut.drew (Nat.le_refl _) (by omega)).mono ?_; rintro e w' ⟨v, rfl, h1, h2⟩)
      go_ret2
      exact ⟨v, rfl, h1, ((Fr.refl _ w).drew).trans h2 (by simp)⟩
    · rw [if_neg hlc] at hcut
      go_enter Try.func9, Try.ntmps9
      go_wp2_with fail
      refine wp_region_still_tail 17 (by kernel_rfl) (by kernel_rfl) ?_
      simp only [List.take_succ_cons, List.take_zero, List.drop_succ_cons, List.drop_zero]
      repeat still_step
      refine wpStill_nil ?_
      go_wp2_with (go_at_call 22; refine (clone_some w.heap.size (a.add (k * 4)) (N - k) (lc - k) (es.drop k) w.drew hcut.drew (Nat.le_refl _) (by omega)).mono ?_; rintro e w' ⟨v, rfl, h1, h2⟩)
      go_ret2
      exact ⟨v, rfl, h1, ((Fr.refl _ w).drew).trans h2 (by simp)⟩
end
end Go.Proofs.Ytjflbnkmfiejoaa
