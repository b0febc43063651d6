/- The operations' preconditions are enough. No condition. -/
import Derived.Test.YtmdhfmljgjnggaaOps
namespace Go.Proofs.Ytmdhfmljgjnggaa

theorem Env.get_put_self (e : Env) (d : Tmp) (v : Value) : (Env.put e (some d) v).get d = some v := by
  simp only [Env.put, Env.get, Nat.beq_refl]
theorem ev_agree {e : Env} {a : Act} (ha : Agree e a) {x : Operand} {v : Value} (h : e.ev x = some v) : a.eval x = v := by
  cases x with
  | tmp t =>
    have := ha t v h
    simp only [Act.eval, Array.getD_eq_getD_getElem?, this, Option.getD_some]
  | const c => simp only [Env.ev, Option.some.injEq] at h; exact h
  | global g => simp only [Env.ev, Option.some.injEq] at h; exact h
  | func f => simp only [Env.ev, Option.some.injEq] at h; exact h
theorem evs_agree {e : Env} {a : Act} (ha : Agree e a) : ∀ {xs : List Operand} {vs : List Value}, e.evs xs = some vs → xs.map a.eval = vs := by
  intro xs
  induction xs with
  | nil => intro vs h; simp only [Env.evs, Option.some.injEq] at h; subst h; rfl
  | cons x xs ih =>
    intro vs h
    simp only [Env.evs] at h
    cases hx : e.ev x with
    | none => simp [hx] at h
    | some v =>
      cases hxs : e.evs xs with
      | none => simp [hx, hxs] at h
      | some us =>
        simp only [hx, hxs, Option.some.injEq] at h
        subst h
        simp only [List.map_cons, ev_agree ha hx, ih hxs]
theorem evPairs_agree {e : Env} {a : Act} (ha : Agree e a) : ∀ {xs : List (Nat × Operand)} {vs : List (Nat × Value)}, evPairs e xs = some vs → xs.map (fun p => (p.1, a.eval p.2)) = vs := by
  intro xs
  induction xs with
  | nil => intro vs h; simp only [evPairs, Option.some.injEq] at h; subst h; rfl
  | cons x xs ih =>
    intro vs h
    obtain ⟨i, x⟩ := x
    simp only [evPairs] at h
    cases hx : e.ev x with
    | none => simp [hx] at h
    | some v =>
      cases hxs : evPairs e xs with
      | none => simp [hx, hxs] at h
      | some us =>
        simp only [hx, hxs, Option.some.injEq] at h
        subst h
        simp only [List.map_cons, ev_agree ha hx, ih hxs]

section
variable {P : Program} {h : Hp}
theorem semWP_program {K : Program → Hp → Prop} : semWP P program h K = K P h := rfl
theorem semWP_ret {α : Type} {a : α} {K : α → Hp → Prop} : semWP P (pure a) h K = K a h := rfl
theorem semWP_ret' {α : Type} {a : α} {K : α → Hp → Prop} : semWP P (Sem.pure a) h K = K a h := rfl
theorem semWP_ite {α : Type} {c : Prop} [Decidable c] {x y : Sem α} {K : α → Hp → Prop} : semWP P (if c then x else y) h K = if c then semWP P x h K else semWP P y h K := by split <;> rfl
theorem semWP_underlying {t : TypeId} {d : TypeDesc} (hd : P.underlying t = some d) {K : TypeDesc → Hp → Prop} : semWP P (underlying t) h K = K d h := by
  simp only [underlying, semWP_bind, semWP_program, hd, semWP_ret]
theorem semWP_typeInfo {t : TypeId} {i : TypeInfo} (hi : P.info? t = some i) {K : TypeInfo → Hp → Prop} : semWP P (typeInfo t) h K = K i h := by
  simp only [typeInfo, semWP_bind, semWP_program, hi, semWP_ret]
theorem semWP_sizeOf {t : TypeId} {d : TypeDesc} (hd : P.underlying t = some d) {K : Nat → Hp → Prop} : semWP P (sizeOf t) h K = K (P.cellsOf t) h := by
  unfold Program.underlying at hd
  cases hi : P.info? t with
  | none => simp [hi] at hd
  | some i => simp only [sizeOf, semWP_bind, semWP_typeInfo hi, semWP_ret, Program.cellsOf, hi, Option.map_some, Option.getD_some]
theorem info_of_cells {t : TypeId} (hc : P.cellsOf t ≠ 0) : ∃ i, P.info? t = some i := by
  unfold Program.cellsOf at hc
  cases hi : P.info? t with
  | none => simp [hi] at hc
  | some i => exact ⟨i, rfl⟩
theorem semWP_sizeOf_cells {t : TypeId} (hc : P.cellsOf t ≠ 0) {K : Nat → Hp → Prop} : semWP P (sizeOf t) h K = K (P.cellsOf t) h := by
  obtain ⟨i, hi⟩ := info_of_cells hc
  simp only [sizeOf, semWP_bind, semWP_typeInfo hi, semWP_ret, Program.cellsOf, hi, Option.map_some, Option.getD_some]
theorem semWP_zeroValue {t : TypeId} (hz : hasZero P t = true) {K : Value → Hp → Prop} : semWP P (zeroValue t) h K = K (zeroOf P t) h := by
  unfold hasZero at hz
  cases hi : P.info? t with
  | none => simp [hi] at hz
  | some i =>
    simp only [hi] at hz
    cases hzz : i.zero with
    | none => simp [hzz] at hz
    | some z => simp only [zeroValue, semWP_bind, semWP_typeInfo hi, hzz, semWP_ret, zeroOf, hi]
def aggB (P : Program) (t : TypeId) : Bool := match P.underlying t with
  | some (.struct _) | some (.array _ _) => true
  | _ => false
theorem semWP_isAgg {t : TypeId} {d : TypeDesc} (hd : P.underlying t = some d) {K : Bool → Hp → Prop} : semWP P (isAgg t) h K = K (aggB P t) h := by
  simp only [isAgg, semWP_bind, semWP_underlying hd, aggB, hd]
  cases d <;> rfl

/-- What a shape says of a type. -/
theorem shape_agg {t : TypeId} {ss : List Sh} (hs : shapeOf P t = .agg ss) : (∃ fs, P.underlying t = some (.struct fs)) ∧ ss.length = P.cellsOf t := by
  unfold shapeOf at hs
  cases hd : P.underlying t with
  | none => simp [hd] at hs
  | some d =>
    cases d <;> simp only [hd] at hs <;> try cases hs
    case struct fs =>
      refine ⟨⟨fs, rfl⟩, ?_⟩
      split at hs
      · cases hs
      · split at hs
        · rename_i hb; cases hs; exact Nat.eq_of_beq_eq_true hb
        · cases hs
theorem shape_row {t : TypeId} {n : Nat} (hs : shapeOf P t = .row n) : aggB P t = true ∧ (∃ d, P.underlying t = some d) ∧ n = P.cellsOf t := by
  unfold shapeOf at hs
  unfold aggB
  split at hs
  · rename_i fs hd
    refine ⟨by simp only [hd], ⟨_, hd⟩, ?_⟩
    split at hs
    · cases hs; rfl
    · split at hs <;> cases hs
  · rename_i hd
    cases hs
    exact ⟨by simp only [hd], ⟨_, hd⟩, rfl⟩
  all_goals cases hs
theorem shape_scalar {t : TypeId} (hs : (shapeOf P t).scalar = true) : aggB P t = false ∧ (∃ d, P.underlying t = some d) := by
  cases hd : P.underlying t with
  | none => simp [shapeOf, hd, Sh.scalar] at hs
  | some d =>
    refine ⟨?_, ⟨d, rfl⟩⟩
    unfold aggB
    cases d <;> simp only [hd]
    · exfalso
      simp only [shapeOf, hd] at hs
      cases hs
    · exfalso
      simp only [shapeOf, hd] at hs
      split at hs
      · cases hs
      · split at hs <;> cases hs
theorem shape_cases (t : TypeId) : (∃ ss, shapeOf P t = .agg ss) ∨ (∃ n, shapeOf P t = .row n) ∨ shapeOf P t = .bad ∨ (shapeOf P t).scalar = true := by
  cases shapeOf P t <;> simp [Sh.scalar]

theorem add_zero' (a : Addr) : a.add 0 = a := rfl
theorem loadCellsFrom_wp {a : Addr} {K : Array Value → Hp → Prop} : ∀ (n i : Nat) (acc : Array Value) (vs : List Value), vs.length = n → (∀ j, j < n → cellAt h (a.add (i + j)) = vs[j]?) →
    K (acc ++ vs.toArray) h → semWP P (loadCellsFrom a i n acc) h K := by
  intro n
  induction n with
  | zero =>
    intro i acc vs hl hc hk
    have : vs = [] := List.eq_nil_of_length_eq_zero hl
    subst this
    simpa [loadCellsFrom, semWP_ret] using hk
  | succ n ih =>
    intro i acc vs hl hc hk
    cases vs with
    | nil => simp at hl
    | cons v vs =>
      simp only [loadCellsFrom, semWP_bind]
      refine ⟨v, by simpa using hc 0 (by omega), ?_⟩
      refine ih (i + 1) (acc.push v) vs (by simpa using hl) ?_ ?_
      · intro j hj
        have := hc (j + 1) (by omega)
        rw [show i + 1 + j = i + (j + 1) by omega]
        simpa using this
      · simpa using hk
theorem loadL_elim {a : Addr} {K : Value → Prop} : ∀ {ss : List Sh} {i : Nat} {acc : List Value}, loadL h a ss i acc K →
    ∃ vs : List Value, vs.length = ss.length ∧ (∀ j, j < ss.length → cellAt h (a.add (i + j)) = vs[j]?) ∧ K (.agg ⟨acc.reverse ++ vs⟩) := by
  intro ss
  induction ss with
  | nil => intro i acc hh; exact ⟨[], rfl, by simp, by simpa [loadL] using hh⟩
  | cons s ss ih =>
    intro i acc hh
    simp only [loadL] at hh
    obtain ⟨v, hv, hh⟩ := exSc_elim hh
    obtain ⟨vs, h1, h2, h3⟩ := ih hh
    refine ⟨v :: vs, by simp [h1], ?_, by simpa using h3⟩
    intro j hj
    cases j with
    | zero => simpa using hv
    | succ j =>
      have := h2 j (by simpa using hj)
      rw [show i + (j + 1) = i + 1 + j by omega]
      simpa using this

/-- A load reads one value. -/
theorem loadT_val {t : TypeId} {a : Addr} {K : Value → Prop} (hh : loadT P t h a K) : ∃ v, K v ∧ semWP P (loadVar t a) h (fun u h' => u = v ∧ h' = h) := by
  unfold loadT at hh
  rcases shape_cases (P := P) t with ⟨ss, hs⟩ | ⟨n, hs⟩ | hs | hs
  · simp only [hs] at hh
    obtain ⟨⟨fs, hd⟩, hl⟩ := shape_agg hs
    obtain ⟨vs, h1, h2, h3⟩ := loadL_elim hh
    refine ⟨_, h3, ?_⟩
    simp only [loadVar, semWP_bind, semWP_isAgg hd, show aggB P t = true by simp [aggB, hd], if_true, semWP_sizeOf hd, loadCells]
    refine loadCellsFrom_wp _ 0 #[] vs (by omega) (by intro j hj; exact h2 j (by omega)) ?_
    simp [semWP_ret]
  · simp only [hs] at hh
    obtain ⟨ha, ⟨d, hd⟩, hn⟩ := shape_row hs
    obtain ⟨cs, ⟨h1, h2⟩, h3⟩ := hh
    refine ⟨_, h3, ?_⟩
    simp only [loadVar, semWP_bind, semWP_isAgg hd, ha, if_true, semWP_sizeOf hd, loadCells]
    refine loadCellsFrom_wp _ 0 #[] cs.toList (by simp [h1, hn]) (by intro j hj; have := h2 j (by omega); simpa using this) ?_
    simp [semWP_ret]
  · simp only [hs, exSc] at hh
  · obtain ⟨ha, d, hd⟩ := shape_scalar hs
    have hh' : exSc (shapeOf P t) fun v => cellAt h a = some v ∧ K v := by
      generalize shapeOf P t = s at *
      cases s <;> first | (simp [Sh.scalar] at hs; done) | exact hh
    obtain ⟨v, hv, hk⟩ := exSc_elim hh'
    refine ⟨v, hk, ?_⟩
    simp only [loadVar, semWP_bind, semWP_isAgg hd, ha, Bool.false_eq_true, if_false]
    exact ⟨v, hv, rfl, rfl⟩

theorem cellAt_setH_some {a b : Addr} {v old : Value} (hc : cellAt h b = some old) : ∃ u, cellAt (setH h a v) b = some u := by
  unfold cellAt at *
  unfold setH
  rw [Array.getElem?_modify]
  cases hb : h[b.block]? with
  | none => simp [hb] at hc
  | some o =>
    cases o <;> simp only [hb] at hc <;> try cases hc
    case cells c e f =>
      by_cases hab : a.block = b.block
      · simp only [hab, if_true, Option.map_some]
        split at hc
        · cases hc
        · rename_i hsp
          simp only [hsp, Bool.false_eq_true, if_false]
          split
          · exact ⟨_, hc⟩
          · rw [Array.getElem?_setIfInBounds]
            split
            · rename_i hlt
              have : b.off < c.size := by
                rcases Nat.lt_or_ge b.off c.size with hx | hx
                · exact hx
                · simp [Array.getElem?_eq_none hx] at hc
              rw [← hlt] at this
              simp [this]
            · exact ⟨_, hc⟩
      · simp only [hab, if_false]
        exact ⟨_, hc⟩
theorem frozenAt_setH {a b : Addr} {v : Value} : frozenAt (setH h a v) b = frozenAt h b := by
  unfold frozenAt setH
  rw [Array.getElem?_modify]
  by_cases hab : a.block = b.block
  · simp only [hab, if_true]
    cases h[b.block]? with
    | none => rfl
    | some o => cases o <;> rfl
  · simp only [hab, if_false]
theorem semWP_store {a : Addr} {v : Value} {K : Unit → Hp → Prop} (h1 : oneV v = true) (h2 : ∃ old, cellAt h a = some old) (h3 : frozenAt h a = false) (hk : K () (setH h a v)) :
    semWP P (store a v) h K := ⟨h1, h2, h3, hk⟩
theorem storeCells_wp {a : Addr} {K : Unit → Hp → Prop} : ∀ {vs : List Value} {i : Nat} {h : Hp}, storeL h a vs i (K ()) → semWP P (storeCells a vs i) h K := by
  intro vs
  induction vs with
  | nil => intro i h hh; exact hh
  | cons v vs ih =>
    intro i h hh
    simp only [storeL] at hh
    obtain ⟨h1, h2, h3, hh⟩ := condP_iff.1 hh
    simp only [storeCells, semWP_bind]
    exact semWP_store h1 h2 h3 (ih (letH_iff.1 hh))
theorem storeL_row {a : Addr} {K : Hp → Prop} : ∀ {vs : List Value} {i : Nat} {h : Hp}, (∀ v ∈ vs, oneV v = true) → (∀ j, j < vs.length → (∃ old, cellAt h (a.add (i + j)) = some old) ∧ frozenAt h (a.add (i + j)) = false) →
    K (setL h a vs i) → storeL h a vs i K := by
  intro vs
  induction vs with
  | nil => intro i h h1 h2 hk; exact hk
  | cons v vs ih =>
    intro i h h1 h2 hk
    obtain ⟨h3, h4⟩ := h2 0 (by simp)
    simp only [storeL]
    refine condP_iff.2 ⟨h1 v (by simp), h3, h4, letH_iff.2 ?_⟩
    refine ih (fun u hu => h1 u (by simp [hu])) ?_ hk
    intro j hj
    obtain ⟨⟨old, h5⟩, h6⟩ := h2 (j + 1) (by simpa using hj)
    rw [show i + 1 + j = i + (j + 1) by omega]
    exact ⟨cellAt_setH_some h5, by rw [frozenAt_setH]; exact h6⟩
theorem storeVar_wp {t : TypeId} {d : TypeDesc} {a : Addr} {v : Value} {K : Unit → Hp → Prop} (hd : P.underlying t = some d) (hsz : v.cells.size = P.cellsOf t) (hh : storeL h a v.cells.toList 0 (K ())) : semWP P (storeVar t a v) h K := by
  simp only [storeVar, semWP_bind, semWP_sizeOf hd]
  have hne : ¬ (v.cells.size ≠ P.cellsOf t) := fun hx => hx hsz
  rw [if_neg hne]
  exact storeCells_wp hh
theorem storeT_wp {t : TypeId} {a : Addr} {v : Value} {K : Unit → Hp → Prop} (hh : storeT P t h a v (K ())) : semWP P (storeVar t a v) h K := by
  unfold storeT at hh
  rcases shape_cases (P := P) t with ⟨ss, hs⟩ | ⟨n, hs⟩ | hs | hs
  · simp only [hs] at hh
    obtain ⟨⟨fs, hd⟩, hl⟩ := shape_agg hs
    cases v <;> first | exact hh.elim | skip
    rename_i cs
    obtain ⟨h1, hh⟩ := condP_iff.1 hh
    have h1 := Nat.eq_of_beq_eq_true h1
    exact storeVar_wp hd (by simpa [Value.cells] using h1) hh
  · simp only [hs] at hh
    obtain ⟨ha, ⟨d, hd⟩, hn⟩ := shape_row hs
    cases v <;> first | exact hh.elim | skip
    rename_i cs
    obtain ⟨h1, h2, h3, h4, hh⟩ := condP_iff.1 hh
    refine storeVar_wp hd (by simp [Value.cells, h2, hn]) (show storeL h a cs.toList 0 (K ()) from storeL_row ?_ ?_ (letH_iff.1 hh))
    · intro u hu
      obtain ⟨i, hi, hiu⟩ := List.getElem_of_mem hu
      obtain ⟨u', h5, h6⟩ := h3 i (by simpa [h2] using hi)
      have : cs[i]? = some u := by rw [← hiu]; simp at hi; simp [hi]
      rw [this] at h5; cases h5; exact h6
    · intro j hj
      simpa using h4 j (by simpa [h2] using hj)
  · simp only [hs] at hh
  · obtain ⟨ha, d, hd⟩ := shape_scalar hs
    have hh' : condP (Nat.beq (P.cellsOf t) 1) (condP (oneV v) ((∃ old, cellAt h a = some old) ∧ frozenAt h a = false ∧ letH (setH h a v) (K ()))) := by
      generalize shapeOf P t = s at *
      cases s <;> first | (simp [Sh.scalar] at hs; done) | exact hh
    obtain ⟨h1, hh'⟩ := condP_iff.1 hh'
    obtain ⟨h2, h3, h4, hh'⟩ := condP_iff.1 hh'
    have h1 := Nat.eq_of_beq_eq_true h1
    have hc : v.cells = #[v] := by cases v <;> first | rfl | (simp [oneV] at h2; done)
    refine storeVar_wp hd (by simp [hc, h1]) ?_
    rw [hc]
    exact condP_iff.2 ⟨h2, h3, h4, hh'⟩

/-- A part of an aggregate is one value. -/
theorem exL_spec : ∀ {ss : List Sh} {acc : List Value} {K : List Value → Prop}, exL ss acc K → ∃ vs : List Value, vs.length = ss.length ∧ K (acc.reverse ++ vs) := by
  intro ss
  induction ss with
  | nil => intro acc K hh; exact ⟨[], rfl, by simpa [exL] using hh⟩
  | cons s ss ih =>
    intro acc K hh
    simp only [exL] at hh
    obtain ⟨v, hv⟩ := exSc_elim hh
    obtain ⟨vs, h1, h2⟩ := ih hv
    exact ⟨v :: vs, by simp [h1], by simpa using h2⟩
theorem partT_val {t : TypeId} {cs : Array Value} {off : Nat} {K : Value → Prop} (hh : partT P t cs off K) :
    ∃ v, K v ∧ ∀ h, semWP P (part t cs off) h (fun u h' => u = v ∧ h' = h) := by
  unfold partT at hh
  rcases shape_cases (P := P) t with ⟨ss, hs⟩ | ⟨n, hs⟩ | hs | hs
  · simp only [hs] at hh
    obtain ⟨⟨fs, hd⟩, hl⟩ := shape_agg hs
    obtain ⟨vs, _, h2, h3⟩ := exL_spec hh
    refine ⟨_, h3, fun h => ?_⟩
    simp only [part, semWP_bind, semWP_isAgg hd, show aggB P t = true by simp [aggB, hd], if_true, semWP_sizeOf hd, semWP_ret, and_true]
    rw [h2]
  · simp only [hs] at hh
    obtain ⟨ha, ⟨d, hd⟩, hn⟩ := shape_row hs
    refine ⟨_, hh, fun h => ?_⟩
    simp only [part, semWP_bind, semWP_isAgg hd, ha, if_true, semWP_sizeOf hd, semWP_ret, and_true, hn]
  · simp only [hs, exSc] at hh
  · obtain ⟨ha, d, hd⟩ := shape_scalar hs
    have hh' : exSc (shapeOf P t) fun v => cs[off]? = some v ∧ K v := by
      generalize shapeOf P t = s at *
      cases s <;> first | (simp [Sh.scalar] at hs; done) | exact hh
    obtain ⟨v, hv, hk⟩ := exSc_elim hh'
    refine ⟨v, hk, fun h => ?_⟩
    simp only [part, semWP_bind, semWP_isAgg hd, ha, Bool.false_eq_true, if_false, hv, semWP_ret, and_self]
end
end Go.Proofs.Ytmdhfmljgjnggaa
