/- Opening a law's arguments through the reading of its data: integers, texts, slices, structs. No condition. -/
import Derived.Test.YtmdhfmljgjnggaaFrame
import Derived.Test.YtmdhfmljgjnggaaRd
namespace Go.Proofs.Ytmdhfmljgjnggaa
set_option linter.constructorNameAsVariable false
section
variable {H : Type} {enc : TypeId × Value → H} {P : Program} {w : World} {spare : Nat → Bool} {held : Bool} {t e : TypeId} {fuel : Nat} {cs : List Value} {x : DataW H × List MemPlace}
/-- A datum is read off these cells. -/
def Reads (enc : TypeId × Value → H) (P : Program) (w : World) (spare : Nat → Bool) (held : Bool) (t : TypeId) (cs : List Value) : Prop := ∃ fuel x, DataW.trod enc P w 0 spare held fuel t cs = some x
theorem mapM_some {α β : Type} {f : α → Option β} : ∀ {l : List α} {r : List β}, l.mapM f = some r → ∀ a ∈ l, ∃ b, f a = some b := by
  intro l
  induction l with
  | nil => intro r _ a ha; cases ha
  | cons y l ih =>
    intro r h a ha
    rw [List.mapM_cons] at h
    cases hy : f y with
    | none => rw [hy] at h; cases h
    | some b =>
      rw [hy] at h
      cases hl : l.mapM f with
      | none => rw [hl] at h; cases h
      | some bs =>
        rcases List.mem_cons.1 ha with rfl | ha
        · exact ⟨b, hy⟩
        · exact ih hl a ha
theorem mapM_get {α β : Type} {f : α → Option β} : ∀ {l : List α} {r : List β}, l.mapM f = some r → r.length = l.length ∧ ∀ (i : Nat) (a : α), l[i]? = some a → ∃ b, f a = some b ∧ r[i]? = some b := by
  intro l
  induction l with
  | nil => intro r h; cases h; exact ⟨rfl, fun i a ha => by simp at ha⟩
  | cons y l ih =>
    intro r h
    rw [List.mapM_cons] at h
    cases hy : f y with
    | none => rw [hy] at h; cases h
    | some b =>
      rw [hy] at h
      cases hl : l.mapM f with
      | none => rw [hl] at h; cases h
      | some bs =>
        rw [hl] at h
        obtain rfl : b :: bs = r := by simpa using h
        obtain ⟨i1, i2⟩ := ih hl
        refine ⟨by simp [i1], fun i a ha => ?_⟩
        cases i with
        | zero => simp only [List.getElem?_cons_zero, Option.some.injEq] at ha; subst ha; exact ⟨b, hy, rfl⟩
        | succ i => simp only [List.getElem?_cons_succ] at ha ⊢; exact i2 i a ha
theorem reads_int {k : IntKind} (hu : P.underlying t = some (.int k)) (h : Reads enc P w spare held t cs) : ∃ n, cs = [.int k n] ∧ (Lit.int k n).wf = true := by
  obtain ⟨fuel, x, h⟩ := h
  cases fuel with
  | zero => cases h
  | succ fuel =>
    unfold DataW.trod at h
    rw [hu] at h
    split at h <;> first | (cases h; done) | skip
    all_goals rename_i h1 <;> first | (cases h1; done) | skip
    injection h1 with h1; injection h1 with h1; subst h1
    split at h
    · rename_i hc; obtain ⟨rfl, hc⟩ := hc; exact ⟨_, rfl, hc⟩
    · cases h
theorem reads_string (hu : P.underlying t = some .string) (h : Reads enc P w spare held t cs) : ∃ s, cs = [.string s] ∧ s.size ≤ maxLen := by
  obtain ⟨fuel, x, h⟩ := h
  cases fuel with
  | zero => cases h
  | succ fuel =>
    unfold DataW.trod at h
    rw [hu] at h
    split at h <;> first | (cases h; done) | skip
    all_goals rename_i h1 <;> first | (cases h1; done) | skip
    split at h
    · rename_i hc; exact ⟨_, rfl, hc⟩
    · cases h
theorem reads_bool (hu : P.underlying t = some .bool) (h : Reads enc P w spare held t cs) : ∃ b, cs = [.bool b] := by
  obtain ⟨fuel, x, h⟩ := h
  cases fuel with
  | zero => cases h
  | succ fuel =>
    unfold DataW.trod at h
    rw [hu] at h
    split at h <;> first | (cases h; done) | skip
    all_goals rename_i h1 <;> first | (cases h1; done) | skip
    exact ⟨_, rfl⟩
theorem cells_get {a : Addr} {n : Nat} (h : w.cells? 0 a n = some cs) : cs.length = n ∧ ∀ k, k < n → cellAt w.heap (a.add k) = cs[k]? := by
  unfold World.cells? at h
  rw [if_pos (Nat.zero_le _)] at h
  obtain ⟨h1, h2⟩ := mapM_get h
  refine ⟨by simpa using h1, fun k hk => ?_⟩
  obtain ⟨b, h3, h4⟩ := h2 k k (by simp [hk])
  rw [h4]
  exact h3
theorem cellAt_lt {h : Hp} {a : Addr} {v : Value} (hc : cellAt h a = some v) : a.block < h.size := by
  unfold cellAt at hc
  cases hb : h[a.block]? with
  | none => rw [hb] at hc; cases hc
  | some o => exact lt_of_at hb
theorem reads_slice (hu : P.underlying t = some (.slice e)) (h : Reads enc P w spare held t cs) : ∃ p n c, cs = [.slice p n c] ∧ n ≤ c ∧ n ≤ maxLen ∧
    ∀ i, i < n → ∃ a us, p = some a ∧ us.length = P.cellsOf e ∧ (∀ k, k < P.cellsOf e → cellAt w.heap ((a.add (i * P.cellsOf e)).add k) = us[k]?) ∧ Reads enc P w spare held e us := by
  obtain ⟨fuel, x, h⟩ := h
  cases fuel with
  | zero => cases h
  | succ fuel =>
    unfold DataW.trod at h
    rw [hu] at h
    split at h <;> first | (cases h; done) | skip
    all_goals rename_i h1 <;> first | (cases h1; done) | skip
    · exact ⟨none, 0, 0, rfl, Nat.le_refl _, Nat.zero_le _, fun i hi => by omega⟩
    · rename_i a len cap
      obtain rfl : e = _ := by injection h1 with h1; injection h1
      simp only at h
      split at h
      · rename_i hc
        refine ⟨some a, len, cap, rfl, hc.2.1, by omega, fun i hi => ?_⟩
        cases hm : (List.range len).mapM (fun i => (w.cells? 0 (a.add (i * P.cellsOf e)) (P.cellsOf e)).bind (DataW.trod enc P w 0 spare held fuel e)) with
        | none => rw [hm] at h; cases h
        | some l =>
          obtain ⟨b, hb⟩ := mapM_some hm i (by simp [hi])
          cases hcs : w.cells? 0 (a.add (i * P.cellsOf e)) (P.cellsOf e) with
          | none => rw [hcs] at hb; cases hb
          | some us =>
            rw [hcs] at hb
            obtain ⟨l1, l2⟩ := cells_get hcs
            exact ⟨a, us, rfl, l1, l2, fuel, b, hb⟩
      · cases h
theorem reads_struct {fs : Array Field} (hu : P.underlying t = some (.struct fs)) (h : Reads enc P w spare held t cs) : cs.length = P.cellsOf t ∧ ∀ f ∈ fs.toList, Reads enc P w spare held f.type ((cs.drop f.offset).take (P.cellsOf f.type)) := by
  obtain ⟨fuel, x, h⟩ := h
  cases fuel with
  | zero => cases h
  | succ fuel =>
    unfold DataW.trod at h
    rw [hu] at h
    change (if cs.length = P.cellsOf t then (fs.toList.mapM fun f => DataW.trod enc P w 0 spare held fuel f.type ((cs.drop f.offset).take (P.cellsOf f.type))).map (fun xs => ((DataW.agg (xs.map (·.1)), xs.flatMap (·.2)) : DataW H × List MemPlace)) else none) = some x at h
    split at h
    · rename_i hc
      refine ⟨hc, fun f hf => ?_⟩
      cases hm : fs.toList.mapM (fun f => DataW.trod enc P w 0 spare held fuel f.type ((cs.drop f.offset).take (P.cellsOf f.type))) with
      | none => rw [hm] at h; cases h
      | some l =>
        obtain ⟨b, hb⟩ := mapM_some hm f hf
        exact ⟨fuel, b, hb⟩
    · cases h
theorem reads_fields {tos : List (TypeId × Nat)} (hs : (∃ fs, P.underlying t = some (.struct fs))) (hm : (structFields P t).map (fun f => (f.type, f.offset)) = tos) (h : Reads enc P w spare held t cs) :
    cs.length = P.cellsOf t ∧ ∀ x ∈ tos, Reads enc P w spare held x.1 ((cs.drop x.2).take (P.cellsOf x.1)) := by
  obtain ⟨fs, hu⟩ := hs
  obtain ⟨h1, h2⟩ := reads_struct hu h
  refine ⟨h1, fun x hx => ?_⟩
  rw [← hm] at hx
  obtain ⟨f, hf, rfl⟩ := List.mem_map.1 hx
  refine h2 f ?_
  unfold structFields at hf
  rw [hu] at hf
  exact hf
/-- A slice of bytes. -/
theorem reads_bytes (hu : P.underlying t = some (.slice e)) (he : P.underlying e = some (.int .u8)) (hz : P.cellsOf e = 1) (h : Reads enc P w spare held t cs) : ∃ (p : Option Addr) (n c : Nat) (bs : List Int), cs = [.slice p n c] ∧ n ≤ c ∧ bs.length = n ∧ RdAt w.heap p (bs.map (.int .u8)) w.heap.size := by
  obtain ⟨p, n, c, rfl, h1, _, h2⟩ := reads_slice hu h
  clear h
  have h3 : ∀ i, i < n → ∃ b : Int, ∃ a, p = some a ∧ cellAt w.heap (a.add i) = some (.int .u8 b) := fun i hi => by
    obtain ⟨a, us, h3, h4, h5, h6⟩ := h2 i hi
    obtain ⟨b, rfl, _⟩ := reads_int he h6
    have := h5 0 (by omega)
    rw [Addr.add_add, hz, Nat.mul_one, Nat.add_zero] at this
    exact ⟨b, a, h3, this⟩
  have h4 : ∃ bs : List Int, bs.length = n ∧ ∀ i b, bs[i]? = some b → ∃ a, p = some a ∧ cellAt w.heap (a.add i) = some (.int .u8 b) := by
    clear h2 h1 ‹n ≤ maxLen›
    induction n with
    | zero => exact ⟨[], rfl, fun i b hb => by simp at hb⟩
    | succ n ih =>
      obtain ⟨bs, l, hb⟩ := ih fun i hi => h3 i (by omega)
      obtain ⟨b, hb2⟩ := h3 n (by omega)
      refine ⟨bs ++ [b], by simp [l], fun i x hx => ?_⟩
      rw [List.getElem?_append] at hx
      split at hx
      · exact hb i x hx
      · have hi : i = n := by
          have := (List.getElem?_eq_some_iff.1 hx).1
          simp at this; omega
        subst hi
        rw [l, Nat.sub_self] at hx
        cases hx
        exact hb2
  obtain ⟨bs, l, hb⟩ := h4
  refine ⟨p, n, c, bs, rfl, h1, l, fun i v hv => ?_⟩
  rw [List.getElem?_map] at hv
  cases hi : bs[i]? with
  | none => rw [hi] at hv; cases hv
  | some b =>
    rw [hi] at hv; cases hv
    obtain ⟨a, ha, hc⟩ := hb i b hi
    have := cellAt_lt hc
    rw [Addr.add_block] at this
    exact ⟨a, ha, this, hc⟩
end
end Go.Proofs.Ytmdhfmljgjnggaa
