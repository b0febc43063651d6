/- Cells that are read alone: what a slice of the caller's holds, in blocks below a mark. No condition. -/
import Derived.Test.YtmdhfmljgjnggaaSli
namespace Go.Proofs.Ytmdhfmljgjnggaa
theorem Addr.add_add (a : Addr) (x y : Nat) : (a.add x).add y = a.add (x + y) := by
  unfold Addr.add
  by_cases hx : x = 0
  · subst hx; simp
  · by_cases hy : y = 0
    · subst hy; simp
    · rw [if_neg hx, if_neg hy, if_neg (by omega), Nat.add_assoc]
theorem Addr.add_block (a : Addr) (n : Nat) : (a.add n).block = a.block := by
  unfold Addr.add; split <;> rfl
theorem cellAt_same {h h' : Hp} {a : Addr} (he : h'[a.block]? = h[a.block]?) : cellAt h' a = cellAt h a := by
  unfold cellAt; rw [he]
/-- Blocks below B are as they were. -/
def Low (B : Nat) (h h' : Hp) : Prop := ∀ q, q < B → h'[q]? = h[q]?
theorem Low.refl (B : Nat) (h : Hp) : Low B h h := fun _ _ => rfl
theorem Low.trans {B : Nat} {h h1 h2 : Hp} (a : Low B h h1) (b : Low B h1 h2) : Low B h h2 := fun q hq => (b q hq).trans (a q hq)
theorem Low.step {B : Nat} {h h' : Hp} {F F' : List Nat} (st : Step h h' F F') (hB : B ≤ h.size) (hF : ∀ q ∈ F, B ≤ q) : Low B h h' := fun q hq => st.frame q (by omega) fun hf => by have := hF q hf; omega
/-- What stands from p on, in a block below B. -/
def RdAt (h : Hp) (p : Option Addr) (vs : List Value) (B : Nat) : Prop := ∀ i v, vs[i]? = some v → ∃ a, p = some a ∧ a.block < B ∧ cellAt h (a.add i) = some v
theorem RdAt.low {h h' : Hp} {p : Option Addr} {vs : List Value} {B : Nat} (hr : RdAt h p vs B) (hl : Low B h h') : RdAt h' p vs B := by
  intro i v hv
  obtain ⟨a, h1, h2, h3⟩ := hr i v hv
  exact ⟨a, h1, h2, by rw [cellAt_same (hl _ (by rw [Addr.add_block]; exact h2))]; exact h3⟩
theorem RdAt.take {h : Hp} {p : Option Addr} {vs : List Value} {B : Nat} (hr : RdAt h p vs B) (n : Nat) : RdAt h p (vs.take n) B := by
  intro i v hv
  rw [List.getElem?_take] at hv
  split at hv
  · exact hr i v hv
  · cases hv
theorem SlAt.cell {h : Hp} {el : TypeId} {p : Option Addr} {n c : Nat} {vs : List Value} {G : List Nat} (hs : SlAt h el 1 p n c vs G) {i : Nat} (hi : i < n) : ∃ a v, p = some a ∧ vs[i]? = some v ∧ cellAt h (a.add (i * 1)) = some v ∧ a.block ∈ G := by
  have hl := hs.len
  rcases hs.is with ⟨hp0, hc0, _⟩ | ⟨b, o, cs, hp1, hG1, hb2, hle, htk⟩
  · have := hs.le; omega
  · have hvi : i < vs.length := by omega
    refine ⟨_, vs[i], hp1, List.getElem?_eq_getElem hvi, ?_, by rw [hG1]; simp⟩
    rw [Addr.add_mk, cellAt_cells hb2]
    have h5 := congrArg (fun x => x[i]?) htk
    simp only [List.getElem?_take, List.getElem?_eq_getElem hvi, List.getElem?_drop] at h5
    rw [if_pos (by omega)] at h5
    rw [← Array.getElem?_toList, show o + i * 1 = o + i by omega]
    exact h5
theorem SlAt.rd {h : Hp} {el : TypeId} {p : Option Addr} {n c : Nat} {vs : List Value} {G : List Nat} {B : Nat} (hs : SlAt h el 1 p n c vs G) (hG : ∀ q ∈ G, q < B) : RdAt h p vs B := by
  intro i v hv
  have hi : i < vs.length := (List.getElem?_eq_some_iff.1 hv).1
  have hl := hs.len
  obtain ⟨a, u, h1, h2, h3, h4⟩ := hs.cell (i := i) (by omega)
  rw [h2] at hv; cases hv
  exact ⟨a, h1, hG _ h4, by rw [Nat.mul_one] at h3; exact h3⟩
end Go.Proofs.Ytmdhfmljgjnggaa
