/- The operations' preconditions are enough: literals, assertions, calls; all operations together. No condition. -/
import Derived.Test.YtmdhfmljgjnggaaSound2
namespace Go.Proofs.Ytmdhfmljgjnggaa

section
variable {P : Program}
theorem fillL_length : ∀ {cs zs : List Value} {off : Nat}, (fillL zs off cs).length = zs.length := by
  intro cs
  induction cs with
  | nil => intro zs off; rfl
  | cons c cs ih => intro zs off; simp only [fillL]; rw [ih]; simp
theorem foldl_fill (cs : List Value) : ∀ (k : Nat) (off : Nat) (zs : Array Value), (cs.zipIdx k).foldl (fun (acc : Array Value) (x : Value × Nat) => acc.setIfInBounds (off + x.2) x.1) zs = ⟨fillL zs.toList (off + k) cs⟩ := by
  induction cs with
  | nil => intro k off zs; rfl
  | cons c cs ih =>
    intro k off zs
    simp only [List.zipIdx_cons, List.foldl_cons, fillL]
    rw [ih]
    simp [Array.setIfInBounds, Nat.add_assoc]
    split
    · rfl
    · rename_i hx
      rw [List.set_eq_of_length_le (by simpa using hx)]
theorem partCells_val {t : TypeId} {v : Value} {K : List Value → Prop} (hh : partCells P t v K) : K v.cells.toList ∧ v.cells.size = P.cellsOf t := by
  unfold partCells at hh
  generalize hv : v = v' at hh
  generalize shapeOf P t = sh at hh
  split at hh <;> subst hv
  · obtain ⟨h1, hh⟩ := condP_iff.1 hh
    exact ⟨hh, show _ = _ by simpa [Value.cells] using Nat.eq_of_beq_eq_true h1⟩
  · obtain ⟨h1, hh⟩ := hh
    obtain ⟨h2, hh⟩ := condP_iff.1 hh
    exact ⟨hh, by rw [← Nat.eq_of_beq_eq_true h2]; exact h1⟩
  · exact hh.elim
  · exact hh.elim
  · exact hh.elim
  · obtain ⟨h1, hh⟩ := condP_iff.1 hh
    obtain ⟨h2, hh⟩ := condP_iff.1 hh
    have hc : v.cells = #[v] := by clear hh; cases v <;> first | rfl | (simp [oneV] at h2; done)
    rw [hc]
    exact ⟨hh, by simpa using (Nat.eq_of_beq_eq_true h1).symm⟩
theorem fillPartsT_val {place : Nat → Option (Nat × TypeId)} : ∀ {ps : List (Nat × Value)} {zs : List Value} {K : List Value → Prop}, fillPartsT P place ps zs K →
    ∃ cs, K cs ∧ Instr.fill (fun i => (place i).map fun x => (x.1, P.cellsOf x.2)) ⟨zs⟩ ps = some ⟨cs⟩ := by
  intro ps
  induction ps with
  | nil => intro zs K hh; exact ⟨zs, hh, rfl⟩
  | cons p ps ih =>
    intro zs K hh
    obtain ⟨i, v⟩ := p
    simp only [fillPartsT] at hh
    obtain ⟨pl, hp, hh⟩ := wth_elim hh
    obtain ⟨hh, hsz⟩ := partCells_val hh
    obtain ⟨hle, hh⟩ := condP_iff.1 hh
    obtain ⟨cs, hk, hf⟩ := ih hh
    refine ⟨cs, hk, ?_⟩
    simp only [Instr.fill, hp, Option.map_some]
    have hle' := Nat.le_of_ble_eq_true hle
    have h1 : ¬ (((decide (v.cells.size ≠ P.cellsOf pl.2)) || (decide (pl.1 + v.cells.size > (⟨zs⟩ : Array Value).size))) = true) := by
      simp [hsz]; omega
    rw [if_neg h1, ← hf]
    congr 1
    have := foldl_fill v.cells.toList 0 pl.1 ⟨zs⟩
    rw [← Array.foldl_toList, Array.toList_zipIdx]
    simpa using this
theorem mapM_places {fs : Array Field} {h : Hp} {K : Array (Nat × Nat) → Hp → Prop} (hok : ∀ f ∈ fs, ∃ i, P.info? f.type = some i) (hk : K (fs.map fun f => (f.offset, P.cellsOf f.type)) h) :
    semWP P (fs.mapM fun f => do pure (f.offset, ← sizeOf f.type)) h K := by
  have key : ∀ (l : List Field) (acc : List (Nat × Nat)) (K : List (Nat × Nat) → Hp → Prop), (∀ f ∈ l, ∃ i, P.info? f.type = some i) → K (l.map fun f => (f.offset, P.cellsOf f.type)) h →
      semWP P (l.mapM fun f => do pure (f.offset, ← sizeOf f.type)) h K := by
    intro l
    induction l with
    | nil => intro acc K _ hk; simpa [semWP_ret] using hk
    | cons f l ih =>
      intro acc K hok hk
      obtain ⟨i, hi⟩ := hok f (by simp)
      simp only [List.mapM_cons, semWP_bind, sizeOf, semWP_typeInfo hi, semWP_ret]
      refine ih acc _ (fun g hg => hok g (by simp [hg])) ?_
      simpa [Program.cellsOf, hi] using hk
  rw [Array.mapM_eq_mapM_toList, ← bind_pure_comp, semWP_bind]
  refine key fs.toList [] _ (fun f hf => hok f (by simpa using hf)) ?_
  have e : (fs.toList.map fun f => (f.offset, P.cellsOf f.type)).toArray = fs.map fun f => (f.offset, P.cellsOf f.type) := by
    apply Array.ext'; simp
  show K (fs.toList.map fun f => (f.offset, P.cellsOf f.type)).toArray h
  rw [e]; exact hk
theorem buildT_val {t : TypeId} {ps : List (Nat × Value)} {K : Value → Prop} (hh : buildT P t ps K) : ∃ v, K v ∧ ∀ h, semWP P (Instr.build t ⟨ps⟩) h (fun u h' => u = v ∧ h' = h) := by
  unfold buildT at hh
  split at hh
  · rename_i fs hd
    obtain ⟨hc, hh⟩ := condP_iff.1 hh
    simp only [Bool.and_eq_true] at hc
    obtain ⟨hz, hf⟩ := hc
    obtain ⟨cs, hk, hfill⟩ := fillPartsT_val hh
    refine ⟨_, hk, fun h => ?_⟩
    simp only [Instr.build, semWP_bind, semWP_zeroValue hz, semWP_underlying hd]
    have hfs : structFields P t = fs.toList := by simp only [structFields, hd]
    refine mapM_places ?_ ?_
    · intro f hfm
      have := List.all_eq_true.1 hf f (by rw [hfs]; simpa using hfm)
      exact Option.isSome_iff_exists.1 this
    · have e : (fun i => (fs.map fun f => (f.offset, P.cellsOf f.type))[i]?) = fun i => (fieldPlaceOf P t i).map fun x => (x.1, P.cellsOf x.2) := by
        funext i
        simp only [fieldPlaceOf, hfs, Array.getElem?_map, Array.getElem?_toList]
        cases fs[i]? <;> rfl
      have hz' : (⟨(zeroCells P t).toList⟩ : Array Value) = (zeroOf P t).cells := rfl
      rw [hz'] at hfill
      rw [e, hfill]
      exact ⟨rfl, rfl⟩
  · rename_i n el hd
    obtain ⟨hc, hh⟩ := condP_iff.1 hh
    simp only [Bool.and_eq_true] at hc
    obtain ⟨hz, hf⟩ := hc
    have hc' : P.cellsOf el ≠ 0 := by intro h0; simp [h0] at hf
    obtain ⟨cs, hk, hfill⟩ := fillPartsT_val hh
    refine ⟨_, hk, fun h => ?_⟩
    simp only [Instr.build, semWP_bind, semWP_zeroValue hz, semWP_underlying hd, semWP_sizeOf_cells hc']
    have hz' : (⟨(zeroCells P t).toList⟩ : Array Value) = (zeroOf P t).cells := rfl
    rw [hz'] at hfill
    simp only [Option.map_some] at hfill
    rw [hfill]
    exact ⟨rfl, rfl⟩
  · exact hh.elim
theorem repL_eq (z : List Value) : ∀ n, (List.range (n * z.length)).map (fun i => (⟨z⟩ : Array Value)[i % z.length]!) = repL n z := by
  intro n
  induction n with
  | zero => simp [repL]
  | succ n ih =>
    have e : (n + 1) * z.length = z.length + n * z.length := by rw [Nat.add_mul]; omega
    rw [e, List.range_add, List.map_append, List.map_map, repL, ← ih]
    congr 1
    · apply List.ext_getElem
      · simp
      · intro i h1 h2
        simp only [List.length_map, List.length_range] at h1
        simp [Nat.mod_eq_of_lt h1, h1]
    · apply List.map_congr_left
      intro i _
      simp
theorem buildSliceT_wp {t : TypeId} {n : Nat} {ps : List (Nat × Value)} {h : Hp} {K : Value → Hp → Prop} (hh : buildSliceT P t n ps h K) : semWP P (Instr.buildSlice t n ⟨ps⟩) h K := by
  unfold buildSliceT at hh
  split at hh
  · rename_i el hd
    obtain ⟨hc, hh⟩ := condP_iff.1 hh
    simp only [Bool.and_eq_true] at hc
    obtain ⟨⟨⟨h1, h2⟩, h3⟩, h4⟩ := hc
    have h1 := Nat.le_of_ble_eq_true h1
    have h2 := Nat.le_of_ble_eq_true h2
    have h4 := Nat.eq_of_beq_eq_true h4
    have hc' : P.cellsOf el ≠ 0 := by omega
    obtain ⟨cs, hk, hfill⟩ := fillPartsT_val hh
    simp only [Instr.buildSlice, semWP_bind, semWP_underlying hd, semWP_sizeOf_cells hc']
    have hn : ¬ (n * P.cellsOf el > 2 ^ 24) := by omega
    rw [if_neg hn]
    simp only [Option.map_some] at hfill
    have hz : (⟨repL n (zeroCells P el).toList⟩ : Array Value) = (Array.range (n * P.cellsOf el)).map (fun i => (zeroCells P el)[i % (zeroCells P el).size]!) := by
      apply Array.ext'
      rw [Array.toList_map, Array.toList_range, ← repL_eq, h4]
      simp only [Array.length_toList] at h4
      rw [h4]
    by_cases hn0 : n * P.cellsOf el = 0
    · have : n = 0 := by
        rcases Nat.mul_eq_zero.1 hn0 with h | h
        · exact h
        · omega
      subst this
      simp only [Nat.zero_mul, if_true, semWP_bind, semWP_ret, repL] at hfill ⊢
      have e0 : Array.map (fun x => (#[] : Array Value)[x % (#[] : Array Value).size]!) (Array.range 0) = ⟨[]⟩ := by apply Array.ext'; simp
      rw [e0, hfill]
      exact letH_iff.1 hk
    · rw [if_neg hn0]
      simp only [semWP_bind, semWP_zeroValue h3, semWP_ret]
      rw [hz] at hfill
      have : (zeroOf P el).cells = zeroCells P el := rfl
      rw [this, hfill]
      exact letH_iff.1 hk
  · exact hh.elim
theorem assertT_val {t xt : TypeId} {v : Value} {ok : Bool} {K : Value → Prop} (hh : assertT P t v ok K) : ∃ u, K u ∧ ∀ h, semWP P (Instr.typeAssert v xt t ok) h (fun x h' => x = u ∧ h' = h) := by
  unfold assertT at hh
  cases hd : P.underlying t with
  | none => simp [hd] at hh
  | some d =>
    have hni : ∀ ms, d ≠ .interface ms := by
      rintro ms rfl
      simp [hd] at hh
    have hh' : assertC P t v ok K := by
      rw [hd] at hh
      cases d <;> first | exact (hni _ rfl).elim | exact hh
    clear hh
    have holds : ∀ u (h : Hp) (K' : Value → Hp → Prop), semWP P (pure (if ok then (.tuple #[u, .bool true]) else u)) h K' → semWP P (Instr.typeAssert (.iface t u) xt t ok) h K' := by
      intro u h K' hk
      simp only [Instr.typeAssert, semWP_bind, semWP_underlying hd]
      cases d <;> first | exact (hni _ rfl).elim | (simp only [if_true]; exact hk)
    cases ok with
    | false =>
      simp only [assertC] at hh'
      obtain ⟨u, rfl, hk⟩ := exTy_elim P hh'
      exact ⟨u, hk, fun h => holds u h _ ⟨rfl, rfl⟩⟩
    | true =>
      simp only [assertC] at hh'
      rcases hh' with hh' | ⟨hn, hh'⟩
      · obtain ⟨u, rfl, hk⟩ := exTy_elim P hh'
        exact ⟨_, hk, fun h => holds u h _ ⟨rfl, rfl⟩⟩
      · obtain ⟨hz, hk⟩ := condP_iff.1 hh'
        refine ⟨_, hk, fun h => ?_⟩
        rcases hn with rfl | ⟨t', u, rfl, hne⟩
        · simp only [Instr.typeAssert, semWP_bind, semWP_underlying hd]
          cases d <;> first | exact (hni _ rfl).elim | (simp only [if_true, semWP_bind, semWP_zeroValue hz, semWP_ret]; simp)
        · simp only [Instr.typeAssert, semWP_bind, semWP_underlying hd]
          cases d <;> first | exact (hni _ rfl).elim | (simp only [if_neg hne, if_true, semWP_bind, semWP_zeroValue hz, semWP_ret]; simp)

theorem callT_wp {g : FuncId} {args : Array Value} {h : Hp} {K : Value → Hp → Prop} (hh : callT P g args h K) : semWP P (callFunc g args) h (fun n h => nextWP P n h K) ∨ CallsH P g args h K := by
  unfold callT at hh
  split at hh
  · refine .inr (hh.mono fun v h' hv => ?_)
    obtain ⟨vs, rfl, hk⟩ := exTys_elim P hv
    exact hk
  · refine .inl (semWP_mono _ _ _ _ (fun n h' hn => nextWP_mono (fun v h'' hv => ?_) hn) hh)
    obtain ⟨vs, rfl, hk⟩ := exTys_elim P hv
    exact hk
theorem lenT_pure {tys : Array TypeId} {t : TypeId} {cs : Array Bool} {v : Value} {h : Hp} {K : Value → Hp → Prop} (hm : ∀ k e, und0 P tys ≠ some (.map k e)) (hh : lenT P tys t v h K) :
    ∃ u, K u h ∧ ∀ h2, semWP P (builtin .len tys t cs ⟨[v]⟩) h2 (fun n h' => nextWP P n h' fun x h'' => x = u ∧ h'' = h2) := by
  unfold lenT at hh
  have hu : ∀ d, und0 P tys = some d → ∃ ty, tys[0]? = some ty ∧ P.underlying ty = some d := by
    intro d hd
    unfold und0 at hd
    split at hd
    · exact ⟨_, by assumption, hd⟩
    · cases hd
  split at hh <;> try exact hh.elim
  case h_5 hd => exact (hm _ _ hd).elim
  all_goals
    rename_i hd
    obtain ⟨ty, hty, hd⟩ := hu _ hd
  · cases v <;> first | exact hh.elim | skip
    refine ⟨_, hh, fun h2 => ?_⟩
    simp only [builtin, semWP_bind, Builtin.len_, hty, List.getElem?_toArray, List.getElem?_cons_zero, semWP_underlying hd]
    exact ⟨rfl, rfl⟩
  · refine ⟨_, hh, fun h2 => ?_⟩
    simp only [builtin, semWP_bind, Builtin.len_, hty, List.getElem?_toArray, List.getElem?_cons_zero, semWP_underlying hd]
    exact ⟨rfl, rfl⟩
  · cases v <;> first | exact hh.elim | skip
    refine ⟨_, hh, fun h2 => ?_⟩
    simp only [builtin, semWP_bind, Builtin.len_, hty, List.getElem?_toArray, List.getElem?_cons_zero, semWP_underlying hd]
    exact ⟨rfl, rfl⟩
  · split at hh
    · rename_i n el hd2
      refine ⟨_, hh, fun h2 => ?_⟩
      simp only [builtin, semWP_bind, Builtin.len_, hty, List.getElem?_toArray, List.getElem?_cons_zero, semWP_underlying hd, semWP_underlying hd2]
      exact ⟨rfl, rfl⟩
    · exact hh.elim
theorem minT_pure {tys : Array TypeId} {t : TypeId} {cs : Array Bool} {a b : Value} {h : Hp} {K : Value → Hp → Prop} {mx : Bool} (hh : minT mx a b h K) :
    ∃ u, K u h ∧ ∀ h2, semWP P (builtin (if mx then .max else .min) tys t cs ⟨[a, b]⟩) h2 (fun n h' => nextWP P n h' fun x h'' => x = u ∧ h'' = h2) := by
  unfold minT at hh
  split at hh
  · obtain ⟨hk, hh1⟩ := condP_iff.1 hh
    clear hh
    obtain rfl := kindEq_eq hk
    cases mx
    · exact ⟨_, hh1, fun h2 => ⟨rfl, rfl⟩⟩
    · exact ⟨_, hh1, fun h2 => ⟨rfl, rfl⟩⟩
  · exact hh.elim
end
end Go.Proofs.Ytmdhfmljgjnggaa
