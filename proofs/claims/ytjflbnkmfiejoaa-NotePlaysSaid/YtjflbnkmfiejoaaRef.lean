/- The reference's functions on lists of texts: Has, put. -/
import Derived.Test.YtjflbnkmfiejoaaRows
import Derived.Test.YtjflbnkmfiejoaaMem
import Derived.Test.YtjflbnkmfiejoaaSets
namespace Go.Proofs.Ytjflbnkmfiejoaa
open Go.RowKit Go.Proofs.LM
open Go.Proofs (encStr)

set_option maxHeartbeats 400000 in
theorem has_any (B : Nat) (A : Option Addr) (n c : Nat) (xs : List Txt) (s : Txt) (w : World) (hr : Rd w B 9 1 A n (xs.map encStr)) :
    Calls Try.prog 10 #[.slice A n c, .string ⟨s.toArray⟩] w fun e w' => e = .returned (.bool (hasS xs s)) ∧ w = w' := by
  have hn : n ≤ 9223372036854775807 := by have := hr.2.1; unfold maxLen at this; omega
  have hl : xs.length = n := by simpa using hr.1
  have HL := Lib.hid hl; clear hl
  go_enter Try.func10, Try.ntmps10
  go_wp2
  go_loop [9] (fun i => ∃ k : Nat, k ≤ n ∧ i = .int .i64 k ∧ hasS (xs.take k) s = false) (fun i => n - (intOf i).toNat)
  case atStart => exact ⟨0, Nat.zero_le _, rfl, by simp [hasS]⟩
  case round =>
    obtain ⟨k, hk, rfl, hno⟩ := hrel
    have HN := Lib.hid hno; clear hno
    by_cases hlt : k < n
    · obtain ⟨b, o, u, rfl, hb, hu, hc⟩ := hr.at_ hlt
      obtain ⟨x, hx, rfl⟩ := enc_at hu
      clear hu
      have HX := Lib.hid hx; clear hx
      go_wp2
      · have hq : (x == s) = true := by assumption
        go_ret
        refine ⟨?_, rfl⟩
        have : hasS xs s = true := hasS_iff.2 (by have := List.mem_of_getElem? HX.out; simpa [beq_iff_eq.1 hq] using this)
        rw [this]; rfl
      · have hq : (x == s) = false := by assumption
        go_round
        case rel => exact ⟨k + 1, by omega, by go_num, by
          have := HN.out
          rw [hasS_false] at this ⊢
          rw [take_at HX.out, List.mem_append]
          simp only [List.mem_singleton]
          rintro (h | h)
          · exact this h
          · subst h; simp at hq⟩
        case measure => simp [intOf]; omega
    · go_wp2
      go_ret
      refine ⟨?_, rfl⟩
      have := HN.out
      rw [List.take_of_length_le (by rw [HL.out]; omega)] at this
      rw [this]; rfl

theorem has_q (B : Nat) (A : Option Addr) (n c : Nat) (xs : List Txt) (s : Txt) (w : World) (hr : Rd w B 9 1 A n (xs.map encStr)) (k : Nat) :
    Calls Try.prog 10 #[.slice A n c, .string ⟨s.toArray⟩] (w.drewN k) fun e w' => e = .returned (.bool (hasS xs s)) ∧ ∃ m, w' = w.drewN m :=
  (has_any B A n c xs s (w.drewN k) (hr.drewN k)).mono fun _ _ h => ⟨h.1, k, h.2.symm⟩

theorem has_s (B : Nat) (A : Option Addr) (n c : Nat) (xs : List Txt) (s : Txt) (w : World) (hr : Rd w B 9 1 A n (xs.map encStr)) :
    Calls Try.prog 10 #[.slice A n c, .string ⟨s.toArray⟩] w fun e w' => e = .returned (.bool (hasS xs s)) ∧ w' = w :=
  (has_any B A n c xs s w hr).mono fun _ _ h => ⟨h.1, h.2.symm⟩

/-- A slice of texts, with its capacity. -/
def RdS (w : World) (B : Nat) (v : Value) (xs : List Txt) : Prop := ∃ A n c, v = .slice A n c ∧ Rd w B 9 1 A n (xs.map encStr) ∧ n ≤ c ∧ c ≤ maxLen

theorem Try.info9 : (Try.prog.info? 9).map (fun i => (i.zero, i.size, i.bytes)) = some (some (.string ⟨#[]⟩), 1, 16) := by kernel_rfl

theorem enc_one (xs : List Txt) : ∀ u ∈ xs.map encStr, u.oneCell' = true := by
  intro u hu
  obtain ⟨x, _, rfl⟩ := List.mem_map.1 hu
  rfl

/-- append at []string: onto a row of the call's own. -/
theorem wpList_app_txt {w : World} {ops : Array Oper} {rest : List Oper} {o : Oper} {a : Act} {Q : Exit → Act → World → Prop} (hgd : o.guard = none) (s x : Operand)
    (ho : o.op = .call { callee := .builtin .append, args := #[s, x], argTypes := #[25, 25] }) (base : Nat) (v : Value) (xs : List Txt) (hs : a.eval s = v) (hown : w.ownsRow base 9 1 v xs.length (xs.map encStr))
    (B : Nat) (e' : TypeId) (A : Option Addr) (m c : Nat) (ys : List Txt) (hx : a.eval x = .slice A m c) (hr : Rd w B e' 1 A m (ys.map encStr)) (hsz : xs.length + m ≤ 1000000) (hbase : base ≤ w.heap.size)
    (h : ∀ v' w', w'.ownsRow base 9 1 v' (xs ++ ys).length ((xs ++ ys).map encStr) → w.grownBy w' v.ownBlock → Hid (v'.ownBlock = v.ownBlock ∨ v'.ownBlock = some w.heap.size) → wpList Try.prog ops Q rest (a.put o.dst v') w') : wpList Try.prog ops Q (o :: rest) a w := by
  obtain ⟨i0, hi, hz0, hz1, hz2⟩ := info_parts Try.info9
  have hm : ys.length = m := by simpa using hr.1
  refine wpList_append_any w hgd s x 25 ho base 9 i0 _ 1 16 Try.underlying25 hi hz0 hz1 hz2 rfl (by omega) v _ _ hs hown B e' A m c _ hx hr (enc_one ys) (by unfold maxLen; omega) (by omega) hbase fun v' w' h1 h2 h3 => h v' w' ?_ h2 h3
  rw [List.length_append, hm, List.map_append]
  exact h1

/-- The first k are less. -/
def Less (xs : List Txt) (s : Txt) (k : Nat) : Prop := ∀ j x, j < k → xs[j]? = some x → x < s

def PutPost (xs : List Txt) (s : Txt) (w : World) (e : Ending) (w' : World) : Prop := ∃ v, e = .returned v ∧ RdS w' w'.heap.size v (putS xs s) ∧ Fr [] w w'

set_option maxHeartbeats 800000 in
theorem put_any (B : Nat) (A : Option Addr) (n c : Nat) (xs : List Txt) (s : Txt) (w : World) (hr : Rd w B 9 1 A n (xs.map encStr)) (hc : n ≤ c) (hcm : c ≤ maxLen) (hB : B ≤ w.heap.size) (hsz : n ≤ 100000) :
    Calls Try.prog 23 #[.slice A n c, .string ⟨s.toArray⟩] w (PutPost xs s w) := by
  obtain ⟨i0, hi, hz0, hz1, hz2⟩ := info_parts Try.info9
  have hl : xs.length = n := by simpa using hr.1
  have HL := Lib.hid hl; clear hl
  go_enter Try.func23, Try.ntmps23
  go_wp2
  go_loop [5] (fun i => ∃ k : Nat, k ≤ n ∧ i = .int .i64 k ∧ Less xs s k) (fun i => n - (intOf i).toNat)
  case atStart => exact ⟨0, Nat.zero_le _, rfl, fun j x hj => by omega⟩
  case round =>
    obtain ⟨k, hk, rfl, hless⟩ := hrel
    by_cases hlt : k < n
    · obtain ⟨b, o, u, rfl, hb, hu, hcell⟩ := hr.at_ hlt
      obtain ⟨x, hx, rfl⟩ := enc_at hu
      clear hu
      have HX := Lib.hid hx; clear hx
      by_cases hxs : x < s
      · have h1 : Op.bytesLess x s = true := by rw [less_eq]; simpa using hxs
        go_wp2
        go_round
        case rel => exact ⟨k + 1, by omega, by go_num, fun j y hj hy => by
          by_cases e : j = k
          · subst e; rw [HX.out] at hy; injection hy with hy; rwa [← hy]
          · exact hless j y (by omega) hy⟩
        case measure => simp [intOf]; omega
      · have h1 : Op.bytesLess x s = false := by rw [less_eq]; simpa using hxs
        have hput := putS_at (xs := xs) (s := s) (k := k) hless (fun y hy => by rw [HX.out] at hy; injection hy with hy; rwa [← hy]) (by rw [HL.out]; omega)
        rw [HX.out] at hput
        have HP := Lib.hid hput; clear hput
        by_cases hxe : x = s
        · have h2 : (x == s) = true := by simpa using hxe
          have HE := Lib.hid hxe; clear hxe
          go_wp2_with fail
          go_ret
          refine ⟨.slice (some ⟨b, o, none⟩) n c, rfl, ⟨_, _, _, rfl, ?_, hc, hcm⟩, Fr.refl _ _⟩
          rw [HP.out, HE.out, if_pos rfl]
          exact hr.more hB
        · have h2 : (x == s) = false := by simpa using hxe
          have hk2 : k ≤ n := hk
          have hput2 : putS xs s = xs.take k ++ [s] ++ xs.drop k := by rw [HP.out, if_neg (by simpa using hxe)]
          have HQ := Lib.hid hput2; clear hput2 HP
          have hr1 := hr.take hk2
          have hr2 := hr.cut hk2 hc
          have hlk : (xs.take k).length = k := by rw [List.length_take, HL.out]; omega
          have hld : (xs.drop k).length = n - k := by rw [List.length_drop, HL.out]
          have HLK := Lib.hid hlk; clear hlk
          have HLD := Lib.hid hld; clear hld
          have hr1' : Rd w B 9 1 (some ⟨b, o, none⟩) k ((xs.take k).map encStr) := by simpa [List.map_take] using hr1
          have hr2' : Rd w B 9 1 (some ⟨b, o + k, none⟩) (n - k) ((xs.drop k).map encStr) := by rw [if_neg (by omega)] at hr2; simpa [List.map_drop, add_plain'] using hr2
          clear hr1 hr2
          go_wp2_with (first
            | (at_builtin; refine wpList_app_txt rfl (.tmp 34) (.tmp 37) rfl w.heap.size (.slice (some ⟨w.heap.size, 0, none⟩) 0 0) [] rfl (own_new0 w _ 9 1 (Nat.le_refl _)) B 9 _ k _ _ rfl (hr1'.alloc hB _) (by simp; omega) (by simp) ?_
               intro v1 w1 hown1 hg1 hat1
               have hf1 : Fr [] w w1 := ((Fr.refl _ w).alloc _).grown hg1 (by simp [Value.ownBlock]))
            | (at_builtin; refine wpList_app_txt rfl (.tmp 39) (.tmp 41) rfl w.heap.size v1 _ rfl (hown1.alloc _) (w1.heap.size + 1) 9 _ 1 _ [s] rfl (Rd.new1 w1 9 (encStr s)) (by simp [HLK.out]; omega) (by have := hf1.size; simp; omega) ?_
               intro v2 w2 hown2 hg2 hat2
               have hf2 : Fr [] w w2 := (hf1.alloc _).grown hg2 (fun j hj => .inr (own_base hown1 hj).1))
            | (at_builtin; (refine wpList_app_txt rfl (.tmp 43) (.tmp 46) rfl w.heap.size v2 _ rfl hown2 B 9 _ (n - k) _ _ rfl (hr2'.frame0 hf2 hB) (by simp [HLK.out]; omega) hf2.size ?_)
               intro v3 w3 hown3 hg3 hat3
               have hf3 : Fr [] w w3 := hf2.grown hg3 (fun j hj => .inr (own_base hown2 hj).1))
            | fail)
          go_ret
          obtain ⟨A3, c3, rfl, h1, h2⟩ := own_shape hown3
          refine ⟨_, rfl, ⟨A3, _, c3, rfl, ?_, h1, h2⟩, hf3⟩
          rw [HQ.out]
          exact Rd.of_own hown3
    · obtain rfl : k = n := by omega
      have hput := putS_at (xs := xs) (s := s) (k := k) hless (fun y hy => by rw [List.getElem?_eq_none (by rw [HL.out]; omega)] at hy; cases hy) (by rw [HL.out]; omega)
      rw [List.getElem?_eq_none (by rw [HL.out]; omega), if_neg (by simp)] at hput
      have HQ := Lib.hid hput; clear hput
      have hr1 := hr.take (Nat.le_refl k)
      have hr2 := hr.cut (Nat.le_refl k) hc
      have hlk : (xs.take k).length = k := by rw [List.length_take, HL.out]; omega
      have hld : (xs.drop k).length = k - k := by rw [List.length_drop, HL.out]
      have HLK := Lib.hid hlk; clear hlk
      have HLD := Lib.hid hld; clear hld
      have hr1' : Rd w B 9 1 A k ((xs.take k).map encStr) := by simpa [List.map_take] using hr1
      go_wp2_with (first
            | (at_builtin; refine wpList_app_txt rfl (.tmp 34) (.tmp 37) rfl w.heap.size (.slice (some ⟨w.heap.size, 0, none⟩) 0 0) [] rfl (own_new0 w _ 9 1 (Nat.le_refl _)) B 9 _ k _ _ rfl (hr1'.alloc hB _) (by simp; omega) (by simp) ?_
               intro v1 w1 hown1 hg1 hat1
               have hf1 : Fr [] w w1 := ((Fr.refl _ w).alloc _).grown hg1 (by simp [Value.ownBlock]))
            | (at_builtin; refine wpList_app_txt rfl (.tmp 39) (.tmp 41) rfl w.heap.size v1 _ rfl (hown1.alloc _) (w1.heap.size + 1) 9 _ 1 _ [s] rfl (Rd.new1 w1 9 (encStr s)) (by simp [HLK.out]; omega) (by have := hf1.size; simp; omega) ?_
               intro v2 w2 hown2 hg2 hat2
               have hf2 : Fr [] w w2 := (hf1.alloc _).grown hg2 (fun j hj => .inr (own_base hown1 hj).1))
            | (at_builtin; refine wpList_app_txt rfl (.tmp 43) (.tmp 46) rfl w.heap.size v2 _ rfl hown2 B 9 _ 0 _ [] rfl Rd.none_ (by simp [HLK.out]; omega) hf2.size ?_
               intro v3 w3 hown3 hg3 hat3
               have hf3 : Fr [] w w3 := hf2.grown hg3 (fun j hj => .inr (own_base hown2 hj).1))
            | fail)
      all_goals
       go_ret
       obtain ⟨A3, c3, rfl, h1, h2⟩ := own_shape hown3
       refine ⟨_, rfl, ⟨A3, _, c3, rfl, ?_, h1, h2⟩, hf3⟩
       rw [HQ.out, show xs.drop k = [] from List.drop_eq_nil_of_le (by rw [HL.out]; omega)]
       exact Rd.of_own hown3
end Go.Proofs.Ytjflbnkmfiejoaa
