/- Words for memory that the walks of this seat share: a frame with the blocks that may turn, a slice that reads as a list of values. -/
import Derived.WalkKit
import Derived.WalkSpells
import Derived.WalkLawsBesides
import Derived.Below
import Derived.Laws.OwnMore
import Derived.Deep.AppendLies
import Derived.Deep.Draws
import Derived.Maps.AppendAt
import Derived.Lib.Hide
import Derived.Sort.KeysCollected
import Derived.Sort.OwnSorted
namespace Go.Proofs.LM
open Go.RowKit

/-- A fact kept whole: no tactic takes it apart. -/
structure Keep (p : Prop) : Prop where
  out : p

/-- Of what was there only the blocks of S may have turned. -/
structure Fr (S : List Nat) (w w' : World) : Prop where
  os : w'.os = w.os
  tape : w'.tape = w.tape
  output : w'.output = w.output
  size : w.heap.size ≤ w'.heap.size
  block : ∀ k, k < w.heap.size → k ∉ S → w'.heap[k]? = w.heap[k]?

theorem Fr.refl (S : List Nat) (w : World) : Fr S w w := ⟨rfl, rfl, rfl, Nat.le_refl _, fun _ _ _ => rfl⟩
theorem Fr.trans {S T : List Nat} {a b c : World} (h : Fr S a b) (k : Fr T b c) (hT : ∀ t ∈ T, t ∈ S ∨ a.heap.size ≤ t) : Fr S a c :=
  ⟨k.os.trans h.os, k.tape.trans h.tape, k.output.trans h.output, Nat.le_trans h.size k.size, fun i hi hS => (k.block i (Nat.lt_of_lt_of_le hi h.size) (fun hm => by rcases hT i hm with h1 | h1; exact hS h1; omega)).trans (h.block i hi hS)⟩
theorem Fr.mono {S T : List Nat} {a b : World} (h : Fr S a b) (hs : ∀ t ∈ S, t ∈ T ∨ a.heap.size ≤ t) : Fr T a b :=
  ⟨h.os, h.tape, h.output, h.size, fun i hi hT => h.block i hi (fun hm => by rcases hs i hm with h1 | h1; exact hT h1; omega)⟩
theorem Fr.drew {S : List Nat} {a w : World} (h : Fr S a w) : Fr S a w.drew := ⟨h.os, h.tape, h.output, h.size, h.block⟩
theorem Fr.drewN {S : List Nat} {a w : World} (h : Fr S a w) (n : Nat) : Fr S a (w.drewN n) := ⟨h.os, h.tape, h.output, h.size, h.block⟩
theorem Fr.alloc {S : List Nat} {a w : World} (h : Fr S a w) (o : Obj) : Fr S a (w.alloc o) :=
  ⟨h.os, h.tape, h.output, by have := h.size; simp; omega, fun k hk hS => (Below.heap_alloc w o k (Nat.lt_of_lt_of_le hk h.size)).trans (h.block k hk hS)⟩
theorem Fr.setCell {S : List Nat} {a w : World} (h : Fr S a w) {p : Addr} (hp : p.block ∈ S ∨ a.heap.size ≤ p.block) (u : Value) : Fr S a (w.setCell p u) :=
  ⟨h.os, h.tape, h.output, by have := h.size; simpa [World.setCell] using this, fun k hk hS => (Below.heap_setCell w p u k (fun e => by subst e; rcases hp with h1 | h1; exact hS h1; omega)).trans (h.block k hk hS)⟩
theorem Fr.grown {S : List Nat} {a w w' : World} {row : Option Nat} (h : Fr S a w) (hg : w.grownBy w' row) (hr : ∀ k, row = some k → k ∈ S ∨ a.heap.size ≤ k) : Fr S a w' :=
  ⟨hg.os.trans h.os, hg.tape.trans h.tape, hg.output.trans h.output, Nat.le_trans h.size hg.size, fun k hk hS => (hg.block k (Nat.lt_of_lt_of_le hk h.size) (fun e => by rcases hr k e.symm with h1 | h1; exact hS h1; omega)).trans (h.block k hk hS)⟩
theorem Fr.below {B : Nat} {w w' : World} {S : List Nat} (h : Fr S w w') (hS : ∀ t ∈ S, B ≤ t) (hB : B ≤ w.heap.size) : Below B w w' :=
  ⟨h.os, h.tape, h.output, h.size, fun k hk => h.block k (by omega) (fun hm => by have := hS k hm; omega)⟩
theorem Fr.toBelow {w w' : World} (h : Fr [] w w') : Below w.heap.size w w' := h.below (by simp) (Nat.le_refl _)
theorem Fr.ofBelow {w w' : World} (h : Below w.heap.size w w') : Fr [] w w' := ⟨h.os, h.tape, h.output, h.size, fun k hk _ => h.block k hk⟩
theorem Fr.toGrown {w w' : World} {b : Nat} (h : Fr [b] w w') : w.grownBy w' (some b) := ⟨h.os, h.tape, h.output, h.size, fun k hk hn => h.block k hk (by simpa using hn)⟩
theorem Fr.toGrown0 {w w' : World} (h : Fr [] w w') : w.grownBy w' none := ⟨h.os, h.tape, h.output, h.size, fun k hk _ => h.block k hk (by simp)⟩
theorem Fr.cell {S : List Nat} {w w' : World} (h : Fr S w w') {p : Addr} (h1 : p.block < w.heap.size) (h2 : p.block ∉ S) : w'.cell? p = w.cell? p := World.cell?_of_block (h.block _ h1 h2)

/-- A slice value that reads as a list of cells (size cells an element, element type e); its block lies below B. -/
def Rd (w : World) (B : Nat) (e : TypeId) (size : Nat) (A : Option Addr) (n : Nat) (xs : List Value) : Prop :=
  xs.length = n * size ∧ n ≤ maxLen ∧ (0 < n → ∃ (b o : Nat) (cur : Array Value) (fr : Nat × Nat), A = some ⟨b, o, none⟩ ∧ b < B ∧ w.heap[b]? = some (.cells cur e fr) ∧ ∀ j u, xs[j]? = some u → cur[o + j]? = some u)

theorem add_plain' (b o j : Nat) : (⟨b, o, none⟩ : Addr).add j = ⟨b, o + j, none⟩ := by unfold Addr.add; split <;> simp_all

section
variable {w w' : World} {B B' size n : Nat} {e : TypeId} {A : Option Addr} {xs : List Value}
theorem Rd.none_ : Rd w B e size A 0 [] := ⟨by simp, by simp [maxLen], fun h => absurd h (by omega)⟩
theorem Rd.at_ {k : Nat} (h : Rd w B e 1 A n xs) (hk : k < n) : ∃ b o u, A = some ⟨b, o, none⟩ ∧ b < B ∧ xs[k]? = some u ∧ w.cell? ⟨b, o + k, none⟩ = some u := by
  obtain ⟨b, o, cur, fr, rfl, hb, hh, hc⟩ := h.2.2 (by omega)
  have hl : k < xs.length := by have := h.1; omega
  refine ⟨b, o, xs[k], rfl, hb, List.getElem?_eq_getElem hl, ?_⟩
  simp only [World.cell?, hh, Option.isSome_none, Bool.false_eq_true, if_false]
  exact hc k _ (List.getElem?_eq_getElem hl)
theorem Rd.cells (h : Rd w B e size A n xs) (hn : 0 < n) : ∃ b o, A = some ⟨b, o, none⟩ ∧ b < B ∧ ∀ j u, xs[j]? = some u → w.cell? ⟨b, o + j, none⟩ = some u := by
  obtain ⟨b, o, cur, fr, rfl, hb, hh, hc⟩ := h.2.2 hn
  refine ⟨b, o, rfl, hb, fun j u hu => ?_⟩
  simp only [World.cell?, hh, Option.isSome_none, Bool.false_eq_true, if_false]
  exact hc j u hu
theorem Rd.more (h : Rd w B e size A n xs) (hB : B ≤ B') : Rd w B' e size A n xs := ⟨h.1, h.2.1, fun hn => by
  obtain ⟨b, o, cur, fr, e, hb, r⟩ := h.2.2 hn
  exact ⟨b, o, cur, fr, e, by omega, r⟩⟩
theorem Rd.keep (h : Rd w B e size A n xs) (hk : ∀ b, b < B → (∀ cur fr, w.heap[b]? = some (.cells cur e fr) → w'.heap[b]? = w.heap[b]?)) : Rd w' B e size A n xs := ⟨h.1, h.2.1, fun hn => by
  obtain ⟨b, o, cur, fr, e, hb, hh, r⟩ := h.2.2 hn
  exact ⟨b, o, cur, fr, e, hb, (hk b hb cur fr hh).trans hh, r⟩⟩
theorem Rd.below (h : Rd w B e size A n xs) (hb : Below B w w') : Rd w' B e size A n xs := h.keep fun b hB _ _ _ => hb.block b hB
theorem Rd.frame {S : List Nat} (h : Rd w B e size A n xs) (hf : Fr S w w') (hB : B ≤ w.heap.size) (hS : ∀ b ∈ S, ∀ cur fr, w.heap[b]? ≠ some (.cells cur e fr)) : Rd w' B e size A n xs :=
  h.keep fun b hb cur fr hh => hf.block b (by omega) (fun hm => hS b hm cur fr hh)
theorem Rd.frame0 (h : Rd w B e size A n xs) (hf : Fr [] w w') (hB : B ≤ w.heap.size) : Rd w' B e size A n xs := h.frame hf hB (by simp)
theorem Rd.drew (h : Rd w B e size A n xs) : Rd w.drew B e size A n xs := h
theorem Rd.drewN (h : Rd w B e size A n xs) (k : Nat) : Rd (w.drewN k) B e size A n xs := h
theorem Rd.alloc (h : Rd w B e size A n xs) (hB : B ≤ w.heap.size) (o : Obj) : Rd (w.alloc o) B e size A n xs := h.frame0 ((Fr.refl _ _).alloc o) hB
theorem Rd.take (h : Rd w B e size A n xs) {k : Nat} (hk : k ≤ n) : Rd w B e size A k (xs.take (k * size)) := ⟨by rw [List.length_take, h.1]; exact Nat.min_eq_left (Nat.mul_le_mul_right _ hk), by have := h.2.1; omega, fun hn => by
  obtain ⟨b, o, cur, fr, e, hb, hh, hc⟩ := h.2.2 (by omega)
  refine ⟨b, o, cur, fr, e, hb, hh, fun j u hu => hc j u ?_⟩
  have hj := (List.getElem?_eq_some_iff.1 hu).1
  rw [List.length_take] at hj
  rwa [List.getElem?_take_of_lt (by omega)] at hu⟩
theorem Rd.cut (h : Rd w B e size A n xs) {k cap : Nat} (hk : k ≤ n) (hc : n ≤ cap) :
    Rd w B e size (if cap = k then A else A.map (·.add (k * size))) (n - k) (xs.drop (k * size)) := by
  refine ⟨by rw [List.length_drop, h.1, Nat.sub_mul], by have := h.2.1; omega, fun hn => ?_⟩
  obtain ⟨b, o, cur, fr, rfl, hb, hh, hcell⟩ := h.2.2 (by omega)
  rw [if_neg (by omega)]
  refine ⟨b, o + k * size, cur, fr, by simp [add_plain'], hb, hh, fun j u hu => ?_⟩
  rw [List.getElem?_drop] at hu
  have := hcell _ u hu
  rwa [← Nat.add_assoc] at this
theorem Rd.of_cells {a : Addr} {V : Nat → Value} (hn : n ≤ maxLen) (hx : xs.length = n) (hc : ∀ j, j < n → w.cell? (a.add j) = some (V j)) (hV : ∀ j u, xs[j]? = some u → u = V j) : ∃ e, Rd w w.heap.size e 1 (some a) n xs := by
  rcases Nat.eq_zero_or_pos n with h0 | h0
  · exact ⟨0, by omega, hn, fun h => by omega⟩
  · have h1 := hc 0 h0
    obtain ⟨b, o, sp⟩ := a
    have ha : (⟨b, o, sp⟩ : Addr).add 0 = ⟨b, o, sp⟩ := by simp [Addr.add]
    rw [ha] at h1
    have hsp : sp = none := World.cell?_spot h1
    subst hsp
    have hlt := World.block_lt_of_cell? w _ h1
    simp only [World.cell?] at h1
    split at h1
    · rename_i cur e fr hh
      refine ⟨e, by omega, hn, fun _ => ⟨b, o, cur, fr, rfl, hlt, hh, fun j u hu => ?_⟩⟩
      have hj : j < n := by rw [← hx]; exact (List.getElem?_eq_some_iff.1 hu).1
      have h2 := hc j hj
      rw [add_plain'] at h2
      simp only [World.cell?, hh, Option.isSome_none, Bool.false_eq_true, if_false] at h2
      rw [h2, hV j u hu]
    · cases h1
theorem Rd.of_own {base c : Nat} (h : w.ownsRow base e size (.slice A n c) n xs) : Rd w w.heap.size e size A n xs := by
  have hl := h.1
  rcases h.2 with ⟨he, rfl⟩ | ⟨g, cap, cur, hv, _, hh, h1, h2, h3, h4⟩
  · exact ⟨by omega, by simp [maxLen], fun hn => absurd hn (by omega)⟩
  · injection hv with hA _ _
    refine ⟨hl, by omega, fun hn => ⟨g, 0, cur, (0, 0), hA, (Array.getElem?_eq_some_iff.1 hh).1, hh, fun j u hu => ?_⟩⟩
    subst h4
    have hj := (List.getElem?_eq_some_iff.1 hu).1
    rw [List.length_take] at hj
    rw [List.getElem?_take_of_lt (by omega)] at hu
    simpa using hu
/-- What a row owns has the shape of a slice. -/
theorem own_shape {base : Nat} {v : Value} (h : w.ownsRow base e size v n xs) : ∃ A c, v = .slice A n c ∧ n ≤ c ∧ c ≤ maxLen := by
  rcases h.2 with ⟨rfl, rfl⟩ | ⟨g, cap, cur, rfl, _, _, h1, h2, _⟩
  · exact ⟨none, 0, rfl, Nat.le_refl _, by simp [maxLen]⟩
  · exact ⟨_, cap, rfl, h1, h2⟩
theorem own_frame {S : List Nat} {base : Nat} {v : Value} (h : w.ownsRow base e size v n xs) (hf : Fr S w w') (hS : ∀ b, v.ownBlock = some b → b ∉ S) : w'.ownsRow base e size v n xs := by
  obtain ⟨h1, h2⟩ := h
  refine ⟨h1, ?_⟩
  rcases h2 with h2 | ⟨g, cap, cur, rfl, hg, hh, r⟩
  · exact Or.inl h2
  · exact Or.inr ⟨g, cap, cur, rfl, hg, by rw [hf.block g (Array.getElem?_eq_some_iff.1 hh).1 (hS g rfl)]; exact hh, r⟩
theorem own_base {base : Nat} {v : Value} (h : w.ownsRow base e size v n xs) {k : Nat} (hk : v.ownBlock = some k) : base ≤ k ∧ k < w.heap.size := by
  rcases h.2 with ⟨rfl, _⟩ | ⟨g, cap, cur, rfl, hb, hh, _⟩
  · simp [Value.ownBlock] at hk
  · have : g = k := by simpa [Value.ownBlock] using hk
    subst this
    exact ⟨hb, (Array.getElem?_eq_some_iff.1 hh).1⟩
theorem own_rebase {base base' : Nat} {v : Value} (h : w.ownsRow base e size v n xs) (hb : ∀ b, v.ownBlock = some b → base' ≤ b) : w.ownsRow base' e size v n xs := by
  obtain ⟨h1, h2⟩ := h
  refine ⟨h1, ?_⟩
  rcases h2 with h2 | ⟨g, cap, cur, rfl, hg, r⟩
  · exact Or.inl h2
  · exact Or.inr ⟨g, cap, cur, rfl, hb g rfl, r⟩
end

section
variable {P : Program} (w : World)

theorem run_append_of_nil (base : Nat) (t ty e : TypeId) (i : TypeInfo) (size : Nat) (ht : P.underlying t = some (.slice e)) (hi : P.info? e = some i)
    (v : Value) (n : Nat) (xs : List Value) (hown : w.ownsRow base e size v n xs) (c : Nat) : (Builtin.append_ #[t, t] ty #[v, .slice none 0 c]).run P w = .ok v w := by
  rcases hown.2 with ⟨rfl, rfl⟩ | ⟨g, cap, cur, rfl, _, _, hnc, _⟩
  · simp [Builtin.append_, run_underlying ht, sizeOf, typeInfo, hi, Builtin.lenOf, Builtin.firstCells]
  · simp [Builtin.append_, run_underlying ht, sizeOf, typeInfo, hi, Builtin.lenOf, Builtin.firstCells, hnc, storeCells]

theorem run_append_any (base : Nat) (t ty e : TypeId) (i : TypeInfo) (z : Value) (size bytes : Nat) (ht : P.underlying t = some (.slice e)) (hi : P.info? e = some i) (hz : i.zero = some z)
    (hsize : i.size = size) (hby : i.bytes = bytes) (hzs : z.cells.size = size) (hsz : 0 < size)
    (v : Value) (n : Nat) (xs : List Value) (hown : w.ownsRow base e size v n xs)
    (B : Nat) (e' : TypeId) (A : Option Addr) (m c : Nat) (news : List Value) (hr : Rd w B e' size A m news) (h1 : ∀ u ∈ news, u.oneCell' = true)
    (h63 : n + m ≤ maxLen) (hbytes : (n + m) * bytes ≤ 140737488355328) (hbase : base ≤ w.heap.size) :
    ∃ v' w', (Builtin.append_ #[t, t] ty #[v, .slice A m c]).run P w = .ok v' w' ∧ w'.ownsRow base e size v' (n + m) (xs ++ news) ∧ w.grownBy w' v.ownBlock ∧
      (v'.ownBlock = v.ownBlock ∨ v'.ownBlock = some w.heap.size) := by
  rcases A with _ | ad
  · have hm : m = 0 := by
      rcases Nat.eq_zero_or_pos m with h0 | h0
      · exact h0
      · obtain ⟨_, _, _, _, h, _⟩ := hr.2.2 h0
        cases h
    subst hm
    have hn : news = [] := List.eq_nil_of_length_eq_zero (by simpa using hr.1)
    subst hn
    exact ⟨v, w, run_append_of_nil w base t ty e i size ht hi v n xs hown c, by simpa using hown, World.grownBy.refl w _, .inl rfl⟩
  · have hcells : ∀ j u, news[j]? = some u → w.cell? (ad.add j) = some u := by
      intro j u hu
      rcases Nat.eq_zero_or_pos m with h0 | h0
      · subst h0
        have hn : news = [] := List.eq_nil_of_length_eq_zero (by simpa using hr.1)
        subst hn
        simp at hu
      · obtain ⟨b, o, h, _, hc⟩ := hr.cells h0
        injection h with h
        subst h
        rw [add_plain']
        exact hc j u hu
    obtain ⟨v', w', hrun, h2, h3, _, h5⟩ := run_append_own_at (P := P) w base t ty e i z size bytes ht hi hz hsize hby hzs hsz v n xs hown ad m c news hr.1 hcells h1 h63 hbytes hbase
    exact ⟨v', w', hrun, h2, h3, h5⟩

theorem wp_append_any {o : Oper} {a : Act} {K : Act → World → Prop} {Q : Exit → Act → World → Prop} (s x : Operand) (t : TypeId)
    (ho : o.op = .call { callee := .builtin .append, args := #[s, x], argTypes := #[t, t] })
    (base : Nat) (e : TypeId) (i : TypeInfo) (z : Value) (size bytes : Nat) (ht : P.underlying t = some (.slice e)) (hi : P.info? e = some i) (hz : i.zero = some z)
    (hsize : i.size = size) (hby : i.bytes = bytes) (hzs : z.cells.size = size) (hsz : 0 < size)
    (v : Value) (n : Nat) (xs : List Value) (hs : a.eval s = v) (hown : w.ownsRow base e size v n xs)
    (B : Nat) (e' : TypeId) (A : Option Addr) (m c : Nat) (news : List Value) (hx : a.eval x = .slice A m c) (hr : Rd w B e' size A m news) (h1 : ∀ u ∈ news, u.oneCell' = true)
    (h63 : n + m ≤ maxLen) (hbytes : (n + m) * bytes ≤ 140737488355328) (hbase : base ≤ w.heap.size)
    (h : ∀ v' w', w'.ownsRow base e size v' (n + m) (xs ++ news) → w.grownBy w' v.ownBlock → (v'.ownBlock = v.ownBlock ∨ v'.ownBlock = some w.heap.size) → K (a.put o.dst v') w') : o.wp P a w K Q := by
  obtain ⟨v', w', hrun, h2, h3, h4⟩ := run_append_any (P := P) w base t o.type e i z size bytes ht hi hz hsize hby hzs hsz v n xs hown B e' A m c news hr h1 h63 hbytes hbase
  unfold Oper.wp execOp
  simp only [ho, resolve, invoke, builtin, Sem.run_bind, Sem.run_pure, Result.andThen_ok, List.map_toArray, List.map_cons, List.map_nil, hs, hx, hrun]
  exact h v' w' h2 h3 h4

theorem wpList_append_any {ops : Array Oper} {rest : List Oper} {o : Oper} {a : Act} {Q : Exit → Act → World → Prop} (hgd : o.guard = none) (s x : Operand) (t : TypeId)
    (ho : o.op = .call { callee := .builtin .append, args := #[s, x], argTypes := #[t, t] })
    (base : Nat) (e : TypeId) (i : TypeInfo) (z : Value) (size bytes : Nat) (ht : P.underlying t = some (.slice e)) (hi : P.info? e = some i) (hz : i.zero = some z)
    (hsize : i.size = size) (hby : i.bytes = bytes) (hzs : z.cells.size = size) (hsz : 0 < size)
    (v : Value) (n : Nat) (xs : List Value) (hs : a.eval s = v) (hown : w.ownsRow base e size v n xs)
    (B : Nat) (e' : TypeId) (A : Option Addr) (m c : Nat) (news : List Value) (hx : a.eval x = .slice A m c) (hr : Rd w B e' size A m news) (h1 : ∀ u ∈ news, u.oneCell' = true)
    (h63 : n + m ≤ maxLen) (hbytes : (n + m) * bytes ≤ 140737488355328) (hbase : base ≤ w.heap.size)
    (h : ∀ v' w', w'.ownsRow base e size v' (n + m) (xs ++ news) → w.grownBy w' v.ownBlock → (v'.ownBlock = v.ownBlock ∨ v'.ownBlock = some w.heap.size) → wpList P ops Q rest (a.put o.dst v') w') : wpList P ops Q (o :: rest) a w :=
  wpList_plain hgd fun _ hK => wp_append_any w s x t ho base e i z size bytes ht hi hz hsize hby hzs hsz v n xs hs hown B e' A m c news hx hr h1 h63 hbytes hbase fun v' w' h2 h3 h4 => hK _ _ (h v' w' h2 h3 h4)

theorem step_append_any {ops : Array Oper} {o : Oper} {a : Act} {K : Act → World → Prop} {Q : Exit → Act → World → Prop} {E : Prop} (hgd : o.guard = none) (s x : Operand) (t : TypeId)
    (ho : o.op = .call { callee := .builtin .append, args := #[s, x], argTypes := #[t, t] })
    (base : Nat) (e : TypeId) (i : TypeInfo) (z : Value) (size bytes : Nat) (ht : P.underlying t = some (.slice e)) (hi : P.info? e = some i) (hz : i.zero = some z)
    (hsize : i.size = size) (hby : i.bytes = bytes) (hzs : z.cells.size = size) (hsz : 0 < size)
    (v : Value) (n : Nat) (xs : List Value) (hs : a.eval s = v) (hown : w.ownsRow base e size v n xs)
    (B : Nat) (e' : TypeId) (A : Option Addr) (m c : Nat) (news : List Value) (hx : a.eval x = .slice A m c) (hr : Rd w B e' size A m news) (h1 : ∀ u ∈ news, u.oneCell' = true)
    (h63 : n + m ≤ maxLen) (hbytes : (n + m) * bytes ≤ 140737488355328) (hbase : base ≤ w.heap.size)
    (h : ∀ v' w', w'.ownsRow base e size v' (n + m) (xs ++ news) → w.grownBy w' v.ownBlock → (v'.ownBlock = v.ownBlock ∨ v'.ownBlock = some w.heap.size) → K (a.put o.dst v') w') :
    if Region.wanted o (yielded ops a.tmps) = true then Oper.wp P o a w K Q else E := by
  have hw : Region.wanted o (yielded ops a.tmps) = true := by simp [Region.wanted, hgd]
  rw [if_pos hw]
  exact wp_append_any w s x t ho base e i z size bytes ht hi hz hsize hby hzs hsz v n xs hs hown B e' A m c news hx hr h1 h63 hbytes hbase h
end

/-- A literal's new block of one element. -/
theorem Rd.new1 (w : World) (e : TypeId) (u : Value) : Rd (w.alloc (.cells #[u] e)) (w.heap.size + 1) e 1 (some ⟨w.heap.size, 0, none⟩) 1 [u] :=
  ⟨rfl, by simp [maxLen], fun _ => ⟨w.heap.size, 0, #[u], (0, 0), rfl, Nat.lt_succ_self _, heap_alloc_new _ _, fun j x hx => by simpa using hx⟩⟩
/-- A literal's new block of one element of several cells. -/
theorem Rd.newN (w : World) (e : TypeId) (size : Nat) (cs : Array Value) (h : cs.size = size) : Rd (w.alloc (.cells cs e)) (w.heap.size + 1) e size (some ⟨w.heap.size, 0, none⟩) 1 cs.toList :=
  ⟨by simp [h], by simp [maxLen], fun _ => ⟨w.heap.size, 0, cs, (0, 0), rfl, Nat.lt_succ_self _, heap_alloc_new _ _, fun j x hx => by simpa using hx⟩⟩
/-- An empty literal owns its block. -/
theorem own_new0 (w : World) (base : Nat) (e : TypeId) (size : Nat) (hb : base ≤ w.heap.size) : (w.alloc (.cells #[] e)).ownsRow base e size (.slice (some ⟨w.heap.size, 0, none⟩) 0 0) 0 [] :=
  ⟨by simp, .inr ⟨_, 0, #[], rfl, hb, heap_alloc_new _ _, Nat.le_refl _, Nat.zero_le _, by simp, by simp⟩⟩
theorem own_nil' (w : World) (base : Nat) (e : TypeId) (size : Nat) : w.ownsRow base e size (.slice none 0 0) 0 [] := ⟨by simp, .inl ⟨rfl, rfl⟩⟩

/-- A block that is known whole. -/
def Blk (w : World) (g : Nat) (t : TypeId) (cs : Array Value) : Prop := w.heap[g]? = some (.cells cs t (0, 0))

section
variable {w w' : World} {g : Nat} {t : TypeId} {cs : Array Value}
theorem Blk.lt (h : Blk w g t cs) : g < w.heap.size := by
  rcases Nat.lt_or_ge g w.heap.size with hlt | hge
  · exact hlt
  · unfold Blk at h; rw [Array.getElem?_eq_none hge] at h; cases h
theorem Blk.cell (h : Blk w g t cs) (i : Nat) : w.cell? ⟨g, i, none⟩ = cs[i]? := cell_of_row w g i cs t (0, 0) h
theorem Blk.frozen (h : Blk w g t cs) (i : Nat) : w.frozen? ⟨g, i, none⟩ = false := by
  unfold Blk at h
  simp [World.frozen?, h]
theorem Blk.new (w : World) (t : TypeId) (cs : Array Value) : Blk (w.alloc (.cells cs t)) w.heap.size t cs := heap_alloc_new w _
theorem Blk.drew (h : Blk w g t cs) : Blk w.drew g t cs := h
theorem Blk.drewN (h : Blk w g t cs) (n : Nat) : Blk (w.drewN n) g t cs := h
theorem Blk.alloc (h : Blk w g t cs) (o : Obj) : Blk (w.alloc o) g t cs := (Below.heap_alloc w o g h.lt).trans h
theorem Blk.set_ (h : Blk w g t cs) (i : Nat) (u : Value) : Blk (w.setCell ⟨g, i, none⟩ u) g t (cs.setIfInBounds i u) := by
  unfold Blk at h ⊢
  simp [World.setCell, Array.getElem?_modify, h]
theorem Blk.far (h : Blk w g t cs) {p : Addr} (hp : g ≠ p.block) (u : Value) : Blk (w.setCell p u) g t cs := (Below.heap_setCell w p u g hp).trans h
theorem Blk.frame {S : List Nat} (h : Blk w g t cs) (hf : Fr S w w') (hg : g ∉ S) : Blk w' g t cs := (hf.block g h.lt hg).trans h
theorem Blk.grown {row : Option Nat} (h : Blk w g t cs) (hb : w.grownBy w' row) (hg : some g ≠ row) : Blk w' g t cs := (hb.block g h.lt hg).trans h
theorem Blk.ne_ {g' : Nat} {t' : TypeId} {cs' : Array Value} (h : Blk w g t cs) (h' : Blk w g' t' cs') (hne : t ≠ t') : g ≠ g' := by
  rintro rfl
  unfold Blk at h h'
  rw [h] at h'
  injection h' with h'
  injection h' with _ ht
  exact hne ht
theorem own_blk_ne {base : Nat} {e : TypeId} {size n : Nat} {v : Value} {xs : List Value} (h : w.ownsRow base e size v n xs) (hg : Blk w g t cs) (hne : e ≠ t) : v.ownBlock ≠ some g := by
  rcases h.2 with ⟨rfl, _⟩ | ⟨g', cap, cur, rfl, _, hh, _⟩
  · simp [Value.ownBlock]
  · intro he
    have : g' = g := by simpa [Value.ownBlock] using he
    subst this
    exact Blk.ne_ (t := e) hh hg hne rfl
end

section
variable {w w' : World}
/-- What is written is a row of another element type: a slice that is read reads on. -/
theorem Rd.own_other {B size n size' n' base : Nat} {e e' : TypeId} {A : Option Addr} {xs ys : List Value} {v : Value} (h : Rd w B e size A n xs) (hB : B ≤ w.heap.size) (ho : w.ownsRow base e' size' v n' ys) (hne : e' ≠ e) (hg : w.grownBy w' v.ownBlock) : Rd w' B e size A n xs := by
  refine h.keep fun b hb cur fr hh => hg.block b (by omega) (fun hk => ?_)
  rcases ho.2 with ⟨rfl, _⟩ | ⟨g, cap, cur', rfl, _, hh', _⟩
  · simp [Value.ownBlock] at hk
  · have : b = g := by simpa [Value.ownBlock] using hk
    subst this
    rw [hh] at hh'
    injection hh' with hh'
    injection hh' with _ ht
    exact hne ht.symm
theorem Rd.set_other {B size n : Nat} {e t : TypeId} {A : Option Addr} {xs : List Value} {g : Nat} {cs : Array Value} (h : Rd w B e size A n xs) (hb : Blk w g t cs) (hne : t ≠ e) (i : Nat) (u : Value) : Rd (w.setCell ⟨g, i, none⟩ u) B e size A n xs := by
  refine h.keep fun b hb' cur fr hh => Below.heap_setCell w _ u b (fun hk => ?_)
  subst hk
  unfold Blk at hb
  rw [hb] at hh
  injection hh with hh
  injection hh with _ ht
  exact hne ht
theorem Blk.own_other {g size' n' base : Nat} {t e' : TypeId} {cs : Array Value} {ys : List Value} {v : Value} (h : Blk w g t cs) (ho : w.ownsRow base e' size' v n' ys) (hne : e' ≠ t) (hg : w.grownBy w' v.ownBlock) : Blk w' g t cs :=
  h.grown hg (fun hk => own_blk_ne ho h hne hk.symm)
theorem own_other' {base base' size size' n n' : Nat} {e e' : TypeId} {v v' : Value} {xs ys : List Value} (h : w.ownsRow base e size v n xs) (ho : w.ownsRow base' e' size' v' n' ys) (hne : e ≠ e') (hg : w.grownBy w' v'.ownBlock) : w'.ownsRow base e size v n xs := by
  refine h.kept hg ?_
  rcases h.2 with ⟨rfl, _⟩ | ⟨g, cap, cur, rfl, _, hh, _⟩
  · exact .inl rfl
  · refine .inr fun hk => ?_
    rcases ho.2 with ⟨rfl, _⟩ | ⟨g', cap', cur', rfl, _, hh', _⟩
    · simp [Value.ownBlock] at hk
    · have : g = g' := by simpa [Value.ownBlock] using hk
      subst this
      rw [hh] at hh'
      injection hh' with hh'
      injection hh' with _ ht
      exact hne ht
theorem own_other_ne {base size n : Nat} {e : TypeId} {v v' : Value} {xs : List Value} (h : w.ownsRow base e size v n xs) (hg : w.grownBy w' v'.ownBlock) (hne : ∀ b, v.ownBlock = some b → v'.ownBlock = some b → False) : w'.ownsRow base e size v n xs := by
  refine h.kept hg ?_
  cases hv : v.ownBlock with
  | none => exact .inl rfl
  | some b => exact .inr (fun e => hne b hv e.symm)
theorem own_set {base size n g : Nat} {e t : TypeId} {v : Value} {xs : List Value} {cs : Array Value} (h : w.ownsRow base e size v n xs) (hb : Blk w g t cs) (hne : e ≠ t) (i : Nat) (u : Value) : (w.setCell ⟨g, i, none⟩ u).ownsRow base e size v n xs := by
  obtain ⟨h1, h2⟩ := h
  refine ⟨h1, ?_⟩
  rcases h2 with h2 | ⟨g', cap, cur, rfl, hg, hh, r⟩
  · exact Or.inl h2
  · refine Or.inr ⟨g', cap, cur, rfl, hg, ?_, r⟩
    rw [Below.heap_setCell _ _ _ _ (fun hk => ?_)]
    · exact hh
    · subst hk
      exact Blk.ne_ (g := g') hb hh (Ne.symm hne) rfl
end

theorem foot_ne {w : World} {g base size n : Nat} {t e ty : TypeId} {cs : Array Value} {v : Value} {xs : List Value} (hb : Blk w g t cs) (ho : w.ownsRow base e size v n xs) (h1 : t ≠ ty) (h2 : e ≠ ty) :
    ∀ b ∈ g :: v.ownBlock.toList, ∀ cur fr, w.heap[b]? ≠ some (.cells cur ty fr) := by
  intro b hm cur fr hh
  rcases List.mem_cons.1 hm with rfl | hm
  · unfold Blk at hb
    rw [hb] at hh
    injection hh with hh
    injection hh with _ ht
    exact h1 ht
  · rcases ho.2 with ⟨rfl, _⟩ | ⟨g', cap, cur', rfl, _, hh', _⟩
    · simp [Value.ownBlock] at hm
    · have : b = g' := by simpa [Value.ownBlock] using hm
      subst this
      rw [hh'] at hh
      injection hh with hh
      injection hh with _ ht
      exact h2 ht

#print axioms Rd.of_own
end Go.Proofs.LM
