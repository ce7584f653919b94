/- A map[string]int that holds 1 at each text of a set, and nothing else. -/
import Derived.Test.YtjflbnkmfiejoaaRising
namespace Go.Proofs.Ytjflbnkmfiejoaa
open Go.RowKit Go.Maps Go.Sort Go.Proofs.LM
open Go.Proofs (encStr)

theorem zero3 (w : World) : (zeroValue 3).run Try.prog w = .ok (.int .i64 0) w := by kernel_rfl

def Ones (D : DataW Unit) (F : List Txt) : Prop :=
  (∀ x, Maps.has D (.string x) = hasS F x) ∧ (∀ x, D.atKey (.string x) (.lit (.int .i64 0)) = .lit (.int .i64 (if hasS F x then 1 else 0))) ∧ ∀ x ∈ F, x.length ≤ maxLen

theorem isKey_str {x : Txt} : WideAt.IsKeyLit (.string x) := trivial

/-- Block b is a map of at most n entries: 1 at each text of F. -/
def MSet (w : World) (b n : Nat) (F : List Txt) : Prop := ∃ D, OwnsM w b n D ∧ Ones D F

section
variable {w w' : World} {b n : Nat} {F : List Txt}
theorem MSet.made (w : World) : MSet (w.alloc (.map #[] 0)) w.heap.size 0 [] :=
  ⟨.map [], World.ownsMap_made _ _ _ _, fun x => rfl, fun x => rfl, by simp⟩
theorem MSet.lt (h : MSet w b n F) : b < w.heap.size := by obtain ⟨D, h, _⟩ := h; exact h.lt
theorem MSet.mono (h : MSet w b n F) {n' : Nat} (hn : n ≤ n') : MSet w b n' F := by obtain ⟨D, h, k⟩ := h; exact ⟨D, h.mono hn, k⟩
theorem MSet.alloc (h : MSet w b n F) (o : Obj) : MSet (w.alloc o) b n F := by obtain ⟨D, h, k⟩ := h; exact ⟨D, h.alloc o, k⟩
theorem MSet.drew (h : MSet w b n F) : MSet w.drew b n F := h
theorem MSet.drewN (h : MSet w b n F) (k : Nat) : MSet (w.drewN k) b n F := h
theorem MSet.kept (h : MSet w b n F) {row : Option Nat} (hg : w.grownBy w' row) (hne : some b ≠ row) : MSet w' b n F := by obtain ⟨D, h, k⟩ := h; exact ⟨D, h.kept hg hne, k⟩
theorem MSet.frame (h : MSet w b n F) {S : List Nat} (hf : Fr S w w') (hb : b ∉ S) : MSet w' b n F := by
  obtain ⟨D, ⟨es, clock, hh, r⟩, k⟩ := h
  exact ⟨D, ⟨es, clock, (hf.block b (Array.getElem?_eq_some_iff.1 hh).1 hb).trans hh, r⟩, k⟩
theorem MSet.setCell (h : MSet w b n F) {a : Addr} (ha : b ≠ a.block) (u : Value) : MSet (w.setCell a u) b n F := by obtain ⟨D, h, k⟩ := h; exact ⟨D, h.setCell ha u, k⟩
theorem MSet.ne_blk (h : MSet w b n F) {g : Nat} {t : TypeId} {cs : Array Value} (hb : Blk w g t cs) : b ≠ g := by
  rintro rfl
  obtain ⟨D, ⟨es, clock, hh, _⟩, _⟩ := h
  unfold Blk at hb
  rw [hh] at hb
  cases hb
theorem MSet.ne_own (h : MSet w b n F) {base size m : Nat} {e : TypeId} {v : Value} {xs : List Value} (ho : w.ownsRow base e size v m xs) : some b ≠ v.ownBlock := by
  rcases ho.2 with ⟨rfl, _⟩ | ⟨g, cap, cur, rfl, _, hh', _⟩
  · simp [Value.ownBlock]
  · intro e1
    have : b = g := by simpa [Value.ownBlock] using e1
    subst this
    obtain ⟨D, ⟨es, clock, hh, _⟩, _⟩ := h
    rw [hh] at hh'
    cases hh'
/-- m[x]. -/
theorem MSet.look (h : MSet w b n F) (x : Txt) (hx : x.length ≤ maxLen) : (Instr.lookup 51 (.map (some b)) (.string ⟨x.toArray⟩) false).run Try.prog w = .ok (.int .i64 (if hasS F x then 1 else 0)) w := by
  obtain ⟨D, h, _, k2, _⟩ := h
  obtain ⟨c, hrun, hat, _⟩ := h.lookup_int law9 Try.underlying51 Try.underlying3 (zero3 w) (Go.WideMaps.keyOf_string_mk Try.underlying9 (s := ⟨x.toArray⟩) (by simpa [ByteArray.size] using hx))
  rw [hrun]
  have := k2 x
  rw [this] at hat
  injection hat with hat
  injection hat with _ hat
  rw [hat]
/-- 1 or 0. -/
def flag (b : Bool) : Int := if b then 1 else 0
theorem flag_pos (b : Bool) : decide (0 < flag b) = b := by cases b <;> rfl
theorem MSet.lookf (h : MSet w b n F) (x : Txt) (hx : x.length ≤ maxLen) : (Instr.lookup 51 (.map (some b)) (.string ⟨x.toArray⟩) false).run Try.prog w = .ok (.int .i64 (flag (hasS F x))) w := h.look x hx
theorem Ones.put {D : DataW Unit} (h : Ones D F) (hD : IsMap D) {x : Txt} (hx : x.length ≤ maxLen) : Ones (D.put (.string x) (.lit (.int .i64 1))) (F ++ [x]) := by
  obtain ⟨h1, h2, h3⟩ := h
  refine ⟨fun y => ?_, fun y => ?_, fun y hy => ?_⟩
  · by_cases e : y = x
    · subst e; rw [has_put_same hD isKey_str]; simp [hasS]
    · rw [has_put_other (by simpa using e), h1]; simp [hasS, e]
  · by_cases e : y = x
    · subst e; rw [atKey_put_same hD isKey_str]; simp [hasS]
    · rw [atKey_put_other (by simpa using e), h2]; simp [hasS, e]
  · rcases List.mem_append.1 hy with hy | hy
    · exact h3 y hy
    · simp at hy; subst hy; exact hx
/-- m[x] = 1. -/
theorem wpList_mset_store {ops : Array Oper} {rest : List Oper} {o : Oper} {a : Act} {Q : Exit → Act → World → Prop}
    (hg : o.guard = none) (m x v : Operand) (hop : o.op = Op.mapUpdate 51 m x v) (b n : Nat) (F : List Txt) (t : Txt)
    (hm : a.eval m = .map (some b)) (hown : MSet w b n F) (hn : n ≤ 1000000) (hx : a.eval x = .string ⟨t.toArray⟩) (hv : a.eval v = .int .i64 1) (ht : t.length ≤ maxLen)
    (hK : ∀ w', MSet w' b (n + 1) (F ++ [t]) → w.grownBy w' (some b) → wpList Try.prog ops Q rest (a.put o.dst undef) w') :
    wpList Try.prog ops Q (o :: rest) a w := by
  obtain ⟨D, h, k⟩ := hown
  refine wpList_mapUpdate_own w hg m x v 51 hop 9 3 law9 Try.underlying51 (plainElem Try.prog 3) b n D hm h (by unfold maxLen; omega) _ _ (.string t) hx hv
    (Go.WideMaps.keyOf_string_mk Try.underlying9 (s := ⟨t.toArray⟩) (by simpa [ByteArray.size] using ht)) (.lit (.int .i64 1)) [] (plainElem_int Try.underlying3 (by decide)) fun w' h1 h2 => hK w' ⟨_, h1, k.put h.isMap ht⟩ h2
end

/-- Sets with the same members. -/
theorem MSet.congr {w : World} {b n : Nat} {F G : List Txt} (h : MSet w b n F) (hs : ∀ x, x ∈ F ↔ x ∈ G) : MSet w b n G := by
  obtain ⟨D, h, k1, k2, k3⟩ := h
  have e : ∀ x, hasS F x = hasS G x := fun x => by rw [Bool.eq_iff_iff, hasS_iff, hasS_iff]; exact hs x
  exact ⟨D, h, fun x => by rw [k1, e], fun x => by rw [k2, e], fun x hx => k3 x ((hs x).2 hx)⟩

def RisPost (n : Nat) (F : List Txt) (w : World) (e : Ending) (w' : World) : Prop :=
  ∃ v ts, e = .returned v ∧ w'.ownsRow w.heap.size 9 1 v ts.length (ts.map encStr) ∧ Rise ts ∧ (∀ x, x ∈ ts ↔ x ∈ F) ∧ Fr [] w w' ∧ ts.length ≤ n
theorem ris_any (b n : Nat) (F : List Txt) (w : World) (h : MSet w b n F) (hn : n ≤ 10000) : Calls Try.prog 21 #[.map (some b)] w (RisPost n F w) := by
  obtain ⟨D, h, k1, _, _⟩ := h
  refine (rising_any b n D w h hn).mono fun e w' ⟨v, he, ho, hf⟩ => ⟨v, _, he, ho, ?_, fun x => ?_, hf, ?_⟩
  · refine rise_sort ?_
    obtain ⟨es, rfl, hp, hk⟩ := h.entries law9
    obtain ⟨es', he', hko⟩ := h.keysOf
    obtain rfl : es = es' := by simpa using he'
    show (es.map fun p => strOf p.1).Nodup
    refine List.pairwise_map.2 (hp.imp_of_mem fun {p q} hp' hq' hne e => hne ?_)
    obtain ⟨vp, hvp⟩ := hko p hp'
    obtain ⟨vq, hvq⟩ := hko q hq'
    obtain ⟨xp, _, ep, _⟩ := Maps.keyOf_str Try.underlying9 hvp
    obtain ⟨xq, _, eq, _⟩ := Maps.keyOf_str Try.underlying9 hvq
    rw [ep, eq] at e ⊢
    exact congrArg _ e
  · rw [mem_sort, ← hasS_iff (xs := F), ← k1 x]
    obtain ⟨es', rfl, hko⟩ := h.keysOf
    rw [has_eq, List.any_eq_true]
    show x ∈ es'.map (fun p => strOf p.1) ↔ _
    rw [List.mem_map]
    constructor
    · rintro ⟨p, hp', rfl⟩
      obtain ⟨vp, hvp⟩ := hko p hp'
      obtain ⟨xp, _, ep, _⟩ := Maps.keyOf_str Try.underlying9 hvp
      exact ⟨p, hp', by rw [ep]; simp [Lit.sameKey, strOf]⟩
    · rintro ⟨p, hp', hs⟩
      obtain ⟨vp, hvp⟩ := hko p hp'
      obtain ⟨xp, _, ep, _⟩ := Maps.keyOf_str Try.underlying9 hvp
      rw [ep] at hs
      exact ⟨p, hp', by rw [ep]; simpa [Lit.sameKey, strOf] using hs⟩
  · obtain ⟨es', he', _⟩ := h.keysOf
    have hs := h.size_le
    subst he'
    rw [(List.mergeSort_perm _ leB).length_eq]
    show (es'.map fun p => strOf p.1).length ≤ n
    rw [List.length_map]
    exact hs
end Go.Proofs.Ytjflbnkmfiejoaa
