/- few; the texts of the law's argument; the law NoteTurns' walk. -/
import Derived.Test.YtjflbnkmfiejoaaAwake
import Derived.Test.YtjflbnkmfiejoaaPure
namespace Go.Proofs.Ytjflbnkmfiejoaa
open Go.RowKit Go.Maps Go.Sort Go.Proofs.LM
open Go.Proofs (encStr)

set_option maxHeartbeats 400000 in
theorem few_any (A : Option Addr) (n c : Nat) (w : World) (h : n ≤ c) (hc : c ≤ maxLen) : Calls Try.prog 8 #[.slice A n c] w fun e w' => e = .returned (.slice A (min n 8) c) ∧ w = w' := by
  unfold maxLen at hc
  by_cases h8 : 8 < n
  · have hm : min n 8 = 8 := by omega
    rw [hm]
    clear hm
    have h1 : (8 : Int) < (n : Int) := by omega
    have h2 : (8 : Int) ≤ (c : Int) := by omega
    go_enter Try.func8, Try.ntmps8
    go_wp2
    go_ret
    exact ⟨rfl, rfl⟩
  · have hm : min n 8 = n := by omega
    rw [hm]
    clear hm
    have h1 : ¬ (8 : Int) < (n : Int) := by omega
    go_enter Try.func8, Try.ntmps8
    go_wp2
    go_ret
    exact ⟨rfl, rfl⟩

/-- A slice of slices of texts that came in: row r reads as gss[r]. -/
def RdSS (w : World) (B : Nat) (A : Option Addr) (n : Nat) (gss : List (List Txt)) : Prop :=
  gss.length = n ∧ n ≤ maxLen ∧ ∀ (r : Nat) (gs : List Txt), gss[r]? = some gs → ∃ b o A' n' c' e, A = some ⟨b, o, none⟩ ∧ b < B ∧ w.cell? ⟨b, o + r, none⟩ = some (.slice A' n' c') ∧ n' ≤ c' ∧ c' ≤ maxLen ∧ Rd w B e 1 A' n' (gs.map encStr) ∧ ∀ x ∈ gs, x.length ≤ maxLen
theorem RdSS.frame {w w' : World} {B : Nat} {A : Option Addr} {n : Nat} {gss : List (List Txt)} (h : RdSS w B A n gss) (hf : Fr [] w w') (hB : B ≤ w.heap.size) : RdSS w' B A n gss :=
  ⟨h.1, h.2.1, fun r gs hr => by
    obtain ⟨b, o, A', n', c', t, e, hb, hc, h1, h2, h3, h4⟩ := h.2.2 r gs hr
    exact ⟨b, o, A', n', c', t, e, hb, (hf.cell (p := ⟨b, o + r, none⟩) (by simp; omega) (by simp)).trans hc, h1, h2, h3.frame0 hf hB, h4⟩⟩
theorem RdSS.at_ {w : World} {B : Nat} {A : Option Addr} {n : Nat} {gss : List (List Txt)} (h : RdSS w B A n gss) {k : Nat} (hk : k < n) : ∃ gs b o A' n' c' e, gss[k]? = some gs ∧ A = some ⟨b, o, none⟩ ∧ b < B ∧ w.cell? ⟨b, o + k, none⟩ = some (.slice A' n' c') ∧ n' ≤ c' ∧ c' ≤ maxLen ∧ Rd w B e 1 A' n' (gs.map encStr) ∧ ∀ x ∈ gs, x.length ≤ maxLen := by
  have hl : k < gss.length := by rw [h.1]; exact hk
  obtain ⟨b, o, A', n', c', e, r⟩ := h.2.2 k gss[k] (List.getElem?_eq_getElem hl)
  exact ⟨_, b, o, A', n', c', e, List.getElem?_eq_getElem hl, r⟩

/-- The first eight. -/
theorem rd_few {w : World} {B : Nat} {e : TypeId} {A : Option Addr} {n : Nat} {gs : List Txt} (h : Rd w B e 1 A n (gs.map encStr)) : Rd w B e 1 A (min n 8) ((gs.take 8).map encStr) := by
  have hl : gs.length = n := by simpa using h.1
  have := h.take (k := min n 8) (by omega)
  rw [Nat.mul_one, ← List.map_take] at this
  by_cases h8 : n ≤ 8
  · rw [Nat.min_eq_left h8] at this ⊢
    rw [List.take_of_length_le (by omega)] at this ⊢
    exact this
  · rw [Nat.min_eq_right (by omega)] at this ⊢
    exact this
end Go.Proofs.Ytjflbnkmfiejoaa
