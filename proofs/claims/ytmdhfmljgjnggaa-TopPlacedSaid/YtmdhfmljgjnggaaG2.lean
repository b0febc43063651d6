/- The texts Sound3 Sound4 Sound5 Draw, one behind the other. No condition. -/
import Derived.Test.YtmdhfmljgjnggaaG1
/- The operations' preconditions are enough: literals, assertions, calls; all operations together. No condition. -/
namespace Go.Proofs.Ytmdhfmljgjnggaa

section
variable {P : Program}
theorem fillL_length : ∀ {cs zs : List Value} {off : Nat}, (fillL zs off cs).length = zs.length := by
  intro cs
  induction cs with
  | nil => intro zs off; rfl
  | cons c cs ih => intro zs off; simp only [fillL]; rw [ih]; simp
theorem foldl_fill (cs : List Value) : ∀ (k : Nat) (off : Nat) (zs : Array Value), (cs.zipIdx k).foldl (fun (acc : Array Value) (x : Value × Nat) => acc.setIfInBounds (off + x.2) x.1) zs = ⟨fillL zs.toList (off + k) cs⟩ := by
  induction cs with
  | nil => intro k off zs; rfl
  | cons c cs ih =>
    intro k off zs
    simp only [List.zipIdx_cons, List.foldl_cons, fillL]
    rw [ih]
    simp [Array.setIfInBounds, Nat.add_assoc]
    split
    · rfl
    · rename_i hx
      rw [List.set_eq_of_length_le (by simpa using hx)]
theorem partCells_val {t : TypeId} {v : Value} {K : List Value → Prop} (hh : partCells P t v K) : K v.cells.toList ∧ v.cells.size = P.cellsOf t := by
  unfold partCells at hh
  generalize hv : v = v' at hh
  generalize shapeOf P t = sh at hh
  split at hh <;> subst hv
  · obtain ⟨h1, hh⟩ := condP_iff.1 hh
    exact ⟨hh, show _ = _ by simpa [Value.cells] using Nat.eq_of_beq_eq_true h1⟩
  · obtain ⟨h1, hh⟩ := hh
    obtain ⟨h2, hh⟩ := condP_iff.1 hh
    exact ⟨hh, by rw [← Nat.eq_of_beq_eq_true h2]; exact h1⟩
  · exact hh.elim
  · exact hh.elim
  · exact hh.elim
  · obtain ⟨h1, hh⟩ := condP_iff.1 hh
    obtain ⟨h2, hh⟩ := condP_iff.1 hh
    have hc : v.cells = #[v] := by clear hh; cases v <;> first | rfl | (simp [oneV] at h2; done)
    rw [hc]
    exact ⟨hh, by simpa using (Nat.eq_of_beq_eq_true h1).symm⟩
theorem fillPartsT_val {place : Nat → Option (Nat × TypeId)} {len : Nat} : ∀ {ps : List (Nat × Value)} {zs : List Value} {K : List Value → Prop}, zs.length = len → fillPartsT P place len ps zs K →
    ∃ cs, K cs ∧ Instr.fill (fun i => (place i).map fun x => (x.1, P.cellsOf x.2)) ⟨zs⟩ ps = some ⟨cs⟩ := by
  intro ps
  induction ps with
  | nil => intro zs K _ hh; exact ⟨zs, hh, rfl⟩
  | cons p ps ih =>
    intro zs K hl hh
    obtain ⟨i, v⟩ := p
    simp only [fillPartsT] at hh
    obtain ⟨pl, hp, hh⟩ := wth_elim hh
    obtain ⟨hh, hsz⟩ := partCells_val hh
    obtain ⟨hle, hh⟩ := condP_iff.1 hh
    obtain ⟨cs, hk, hf⟩ := ih (by rw [fillL_length]; exact hl) hh
    refine ⟨cs, hk, ?_⟩
    simp only [Instr.fill, hp, Option.map_some]
    have hle' := Nat.le_of_ble_eq_true hle
    have h1 : ¬ (((decide (v.cells.size ≠ P.cellsOf pl.2)) || (decide (pl.1 + v.cells.size > (⟨zs⟩ : Array Value).size))) = true) := by
      simp [hsz]; omega
    rw [if_neg h1, ← hf]
    congr 1
    have := foldl_fill v.cells.toList 0 pl.1 ⟨zs⟩
    rw [← Array.foldl_toList, Array.toList_zipIdx]
    simpa using this
theorem mapM_places {fs : Array Field} {h : Hp} {K : Array (Nat × Nat) → Hp → Prop} (hok : ∀ f ∈ fs, ∃ i, P.info? f.type = some i) (hk : K (fs.map fun f => (f.offset, P.cellsOf f.type)) h) :
    semWP P (fs.mapM fun f => do pure (f.offset, ← sizeOf f.type)) h K := by
  have key : ∀ (l : List Field) (acc : List (Nat × Nat)) (K : List (Nat × Nat) → Hp → Prop), (∀ f ∈ l, ∃ i, P.info? f.type = some i) → K (l.map fun f => (f.offset, P.cellsOf f.type)) h →
      semWP P (l.mapM fun f => do pure (f.offset, ← sizeOf f.type)) h K := by
    intro l
    induction l with
    | nil => intro acc K _ hk; simpa [semWP_ret] using hk
    | cons f l ih =>
      intro acc K hok hk
      obtain ⟨i, hi⟩ := hok f (by simp)
      simp only [List.mapM_cons, semWP_bind, sizeOf, semWP_typeInfo hi, semWP_ret]
      refine ih acc _ (fun g hg => hok g (by simp [hg])) ?_
      simpa [Program.cellsOf, hi] using hk
  rw [Array.mapM_eq_mapM_toList, ← bind_pure_comp, semWP_bind]
  refine key fs.toList [] _ (fun f hf => hok f (by simpa using hf)) ?_
  have e : (fs.toList.map fun f => (f.offset, P.cellsOf f.type)).toArray = fs.map fun f => (f.offset, P.cellsOf f.type) := by
    apply Array.ext'; simp
  show K (fs.toList.map fun f => (f.offset, P.cellsOf f.type)).toArray h
  rw [e]; exact hk
theorem buildT_val {t : TypeId} {ps : List (Nat × Value)} {K : Value → Prop} (hh : buildT P t ps K) : ∃ v, K v ∧ ∀ h, semWP P (Instr.build t ⟨ps⟩) h (fun u h' => u = v ∧ h' = h) := by
  unfold buildT at hh
  split at hh
  · rename_i fs hd
    obtain ⟨hc, hh⟩ := condP_iff.1 hh
    simp only [Bool.and_eq_true] at hc
    obtain ⟨hz, hf⟩ := hc
    obtain ⟨cs, hk, hfill⟩ := fillPartsT_val rfl hh
    refine ⟨_, hk, fun h => ?_⟩
    simp only [Instr.build, semWP_bind, semWP_zeroValue hz, semWP_underlying hd]
    have hfs : structFields P t = fs.toList := by simp only [structFields, hd]
    refine mapM_places ?_ ?_
    · intro f hfm
      have := List.all_eq_true.1 hf f (by rw [hfs]; simpa using hfm)
      exact Option.isSome_iff_exists.1 this
    · have e : (fun i => (fs.map fun f => (f.offset, P.cellsOf f.type))[i]?) = fun i => (fieldPlaceOf P t i).map fun x => (x.1, P.cellsOf x.2) := by
        funext i
        simp only [fieldPlaceOf, hfs, Array.getElem?_map, Array.getElem?_toList]
        cases fs[i]? <;> rfl
      have hz' : (⟨(zeroCells P t).toList⟩ : Array Value) = (zeroOf P t).cells := rfl
      rw [hz'] at hfill
      rw [e, hfill]
      exact ⟨rfl, rfl⟩
  · rename_i n el hd
    obtain ⟨hc, hh⟩ := condP_iff.1 hh
    simp only [Bool.and_eq_true] at hc
    obtain ⟨hz, hf⟩ := hc
    have hc' : P.cellsOf el ≠ 0 := by intro h0; simp [h0] at hf
    obtain ⟨cs, hk, hfill⟩ := fillPartsT_val rfl hh
    refine ⟨_, hk, fun h => ?_⟩
    simp only [Instr.build, semWP_bind, semWP_zeroValue hz, semWP_underlying hd, semWP_sizeOf_cells hc']
    have hz' : (⟨(zeroCells P t).toList⟩ : Array Value) = (zeroOf P t).cells := rfl
    rw [hz'] at hfill
    simp only [Option.map_some] at hfill
    rw [hfill]
    exact ⟨rfl, rfl⟩
  · exact hh.elim
theorem repL_eq (z : List Value) : ∀ n, (List.range (n * z.length)).map (fun i => (⟨z⟩ : Array Value)[i % z.length]!) = repL n z := by
  intro n
  induction n with
  | zero => simp [repL]
  | succ n ih =>
    have e : (n + 1) * z.length = z.length + n * z.length := by rw [Nat.add_mul]; omega
    rw [e, List.range_add, List.map_append, List.map_map, repL, ← ih]
    congr 1
    · apply List.ext_getElem
      · simp
      · intro i h1 h2
        simp only [List.length_map, List.length_range] at h1
        simp [Nat.mod_eq_of_lt h1, h1]
    · apply List.map_congr_left
      intro i _
      simp
theorem buildSliceT_wp {t : TypeId} {n : Nat} {ps : List (Nat × Value)} {h : Hp} {K : Value → Hp → Prop} (hh : buildSliceT P t n ps h K) : semWP P (Instr.buildSlice t n ⟨ps⟩) h K := by
  unfold buildSliceT at hh
  split at hh
  · rename_i el hd
    obtain ⟨hc, hh⟩ := condP_iff.1 hh
    simp only [Bool.and_eq_true] at hc
    obtain ⟨⟨⟨h1, h2⟩, h3⟩, h4⟩ := hc
    have h1 := Nat.le_of_ble_eq_true h1
    have h2 := Nat.le_of_ble_eq_true h2
    have h4 := Nat.eq_of_beq_eq_true h4
    have hc' : P.cellsOf el ≠ 0 := by omega
    obtain ⟨cs, hk, hfill⟩ := fillPartsT_val rfl hh
    simp only [Instr.buildSlice, semWP_bind, semWP_underlying hd, semWP_sizeOf_cells hc']
    have hn : ¬ (n * P.cellsOf el > 2 ^ 24) := by omega
    rw [if_neg hn]
    simp only [Option.map_some] at hfill
    have hz : (⟨repL n (zeroCells P el).toList⟩ : Array Value) = (Array.range (n * P.cellsOf el)).map (fun i => (zeroCells P el)[i % (zeroCells P el).size]!) := by
      apply Array.ext'
      rw [Array.toList_map, Array.toList_range, ← repL_eq, h4]
      simp only [Array.length_toList] at h4
      rw [h4]
    by_cases hn0 : n * P.cellsOf el = 0
    · have : n = 0 := by
        rcases Nat.mul_eq_zero.1 hn0 with h | h
        · exact h
        · omega
      subst this
      simp only [Nat.zero_mul, if_true, semWP_bind, semWP_ret, repL] at hfill ⊢
      have e0 : Array.map (fun x => (#[] : Array Value)[x % (#[] : Array Value).size]!) (Array.range 0) = ⟨[]⟩ := by apply Array.ext'; simp
      rw [e0, hfill]
      exact letH_iff.1 hk
    · rw [if_neg hn0]
      simp only [semWP_bind, semWP_zeroValue h3, semWP_ret]
      rw [hz] at hfill
      have : (zeroOf P el).cells = zeroCells P el := rfl
      rw [this, hfill]
      exact letH_iff.1 hk
  · exact hh.elim
theorem assertT_val {t xt : TypeId} {v : Value} {ok : Bool} {K : Value → Prop} (hh : assertT P t v ok K) : ∃ u, K u ∧ ∀ h, semWP P (Instr.typeAssert v xt t ok) h (fun x h' => x = u ∧ h' = h) := by
  unfold assertT at hh
  cases hd : P.underlying t with
  | none => simp [hd] at hh
  | some d =>
    have hni : ∀ ms, d ≠ .interface ms := by
      rintro ms rfl
      simp [hd] at hh
    have hh' : assertC P t v ok K := by
      rw [hd] at hh
      cases d <;> first | exact (hni _ rfl).elim | exact hh
    clear hh
    have holds : ∀ u (h : Hp) (K' : Value → Hp → Prop), semWP P (pure (if ok then (.tuple #[u, .bool true]) else u)) h K' → semWP P (Instr.typeAssert (.iface t u) xt t ok) h K' := by
      intro u h K' hk
      simp only [Instr.typeAssert, semWP_bind, semWP_underlying hd]
      cases d <;> first | exact (hni _ rfl).elim | (simp only [if_true]; exact hk)
    cases ok with
    | false =>
      simp only [assertC] at hh'
      obtain ⟨u, rfl, hk⟩ := exTy_elim P hh'
      exact ⟨u, hk, fun h => holds u h _ ⟨rfl, rfl⟩⟩
    | true =>
      simp only [assertC] at hh'
      rcases hh' with hh' | ⟨hn, hh'⟩
      · obtain ⟨u, rfl, hk⟩ := exTy_elim P hh'
        exact ⟨_, hk, fun h => holds u h _ ⟨rfl, rfl⟩⟩
      · obtain ⟨hz, hk⟩ := condP_iff.1 hh'
        refine ⟨_, hk, fun h => ?_⟩
        rcases hn with rfl | ⟨t', u, rfl, hne⟩
        · simp only [Instr.typeAssert, semWP_bind, semWP_underlying hd]
          cases d <;> first | exact (hni _ rfl).elim | (simp only [if_true, semWP_bind, semWP_zeroValue hz, semWP_ret]; simp)
        · simp only [Instr.typeAssert, semWP_bind, semWP_underlying hd]
          cases d <;> first | exact (hni _ rfl).elim | (simp only [if_neg hne, if_true, semWP_bind, semWP_zeroValue hz, semWP_ret]; simp)

theorem callT_wp {g : FuncId} {args : Array Value} {h : Hp} {K : Value → Hp → Prop} (hh : callT P g args h K) : semWP P (callFunc g args) h (fun n h => nextWP P n h K) ∨ CallsH P g args h K := by
  unfold callT at hh
  split at hh
  · refine .inr (hh.mono fun v h' hv => ?_)
    obtain ⟨vs, rfl, hk⟩ := exTys_elim P hv
    exact hk
  · refine .inl (semWP_mono _ _ _ _ (fun n h' hn => nextWP_mono (fun v h'' hv => ?_) hn) hh)
    obtain ⟨vs, rfl, hk⟩ := exTys_elim P hv
    exact hk
theorem lenT_pure {tys : Array TypeId} {t : TypeId} {cs : Array Bool} {v : Value} {h : Hp} {K : Value → Hp → Prop} (hm : ∀ k e, und0 P tys ≠ some (.map k e)) (hh : lenT P tys t v h K) :
    ∃ u, K u h ∧ ∀ h2, semWP P (builtin .len tys t cs ⟨[v]⟩) h2 (fun n h' => nextWP P n h' fun x h'' => x = u ∧ h'' = h2) := by
  unfold lenT at hh
  have hu : ∀ d, und0 P tys = some d → ∃ ty, tys[0]? = some ty ∧ P.underlying ty = some d := by
    intro d hd
    unfold und0 at hd
    split at hd
    · exact ⟨_, by assumption, hd⟩
    · cases hd
  split at hh <;> try exact hh.elim
  case h_5 hd => exact (hm _ _ hd).elim
  all_goals
    rename_i hd
    obtain ⟨ty, hty, hd⟩ := hu _ hd
  · cases v <;> first | exact hh.elim | skip
    refine ⟨_, hh, fun h2 => ?_⟩
    simp only [builtin, semWP_bind, Builtin.len_, hty, List.getElem?_toArray, List.getElem?_cons_zero, semWP_underlying hd]
    exact ⟨rfl, rfl⟩
  · refine ⟨_, hh, fun h2 => ?_⟩
    simp only [builtin, semWP_bind, Builtin.len_, hty, List.getElem?_toArray, List.getElem?_cons_zero, semWP_underlying hd]
    exact ⟨rfl, rfl⟩
  · cases v <;> first | exact hh.elim | skip
    refine ⟨_, hh, fun h2 => ?_⟩
    simp only [builtin, semWP_bind, Builtin.len_, hty, List.getElem?_toArray, List.getElem?_cons_zero, semWP_underlying hd]
    exact ⟨rfl, rfl⟩
  · split at hh
    · rename_i n el hd2
      refine ⟨_, hh, fun h2 => ?_⟩
      simp only [builtin, semWP_bind, Builtin.len_, hty, List.getElem?_toArray, List.getElem?_cons_zero, semWP_underlying hd, semWP_underlying hd2]
      exact ⟨rfl, rfl⟩
    · exact hh.elim
theorem minT_pure {tys : Array TypeId} {t : TypeId} {cs : Array Bool} {a b : Value} {h : Hp} {K : Value → Hp → Prop} {mx : Bool} (hh : minT mx a b h K) :
    ∃ u, K u h ∧ ∀ h2, semWP P (builtin (if mx then .max else .min) tys t cs ⟨[a, b]⟩) h2 (fun n h' => nextWP P n h' fun x h'' => x = u ∧ h'' = h2) := by
  unfold minT at hh
  split at hh
  · obtain ⟨hk, hh1⟩ := condP_iff.1 hh
    clear hh
    obtain rfl := kindEq_eq hk
    cases mx
    · exact ⟨_, hh1, fun h2 => ⟨rfl, rfl⟩⟩
    · exact ⟨_, hh1, fun h2 => ⟨rfl, rfl⟩⟩
  · exact hh.elim
end
end Go.Proofs.Ytmdhfmljgjnggaa
/- The operations' preconditions are enough: all operations. No condition. -/
namespace Go.Proofs.Ytmdhfmljgjnggaa

section
variable {P : Program}
theorem evs_map {e : Env} {a : Act} (ha : Agree e a) {xs : Array Operand} {vs : List Value} (h : e.evs xs.toList = some vs) : xs.map a.eval = ⟨vs⟩ := by
  apply Array.ext'
  rw [Array.toList_map, evs_agree ha h]
theorem evPairs_map {e : Env} {a : Act} (ha : Agree e a) {xs : Array (Nat × Operand)} {vs : List (Nat × Value)} (h : evPairs e xs.toList = some vs) : (xs.map fun (i, x) => (i, a.eval x)) = ⟨vs⟩ := by
  apply Array.ext'
  rw [Array.toList_map]
  exact evPairs_agree ha h
theorem opt_agree {e : Env} {a : Act} (ha : Agree e a) {x : Option Operand} (h : ∀ y, x = some y → ∃ v, e.ev y = some v) : x.bind e.ev = x.map a.eval := by
  cases x with
  | none => rfl
  | some y =>
    obtain ⟨v, hv⟩ := h y rfl
    simp only [Option.bind_some, Option.map_some, hv, ev_agree ha hv]
theorem evs_mem {e : Env} : ∀ {xs : List Operand} {vs : List Value}, e.evs xs = some vs → ∀ x ∈ xs, ∃ v, e.ev x = some v := by
  intro xs
  induction xs with
  | nil => intro vs _ x hx; cases hx
  | cons y xs ih =>
    intro vs h x hx
    simp only [Env.evs] at h
    cases hy : e.ev y with
    | none => simp [hy] at h
    | some v =>
      cases hxs : e.evs xs with
      | none => simp [hy, hxs] at h
      | some us =>
        rcases List.mem_cons.1 hx with rfl | hx
        · exact ⟨v, hy⟩
        · exact ih hxs x hx
/-- From a computation of a value that leaves memory alone. -/
theorem yields_sem {ρ : Operand → Value} {o : Oper} {s : Sem Value} {v : Value} {h : Hp} (he : execOp ρ o = (do pure (.value (← s)) : Sem Next)) (hs : semWP P s h (fun u h' => u = v ∧ h' = h)) : Yields P ρ o h v :=
  operWP_val he hs

theorem binT_pure {op : BinOp} {t : TypeId} {x y : Operand} {vx vy : Value} {h : Hp} {K : Value → Hp → Prop} (hy : ∀ c, y = .const c → c = vy)
    (hc : match P.underlying t with | some (.int _) | some .string | some .bool => True | _ => False) (hh : binT P op t x y vx vy h K) :
    ∃ v, K v h ∧ ∀ h2, semWP P (do eqGuard op t x y vx vy; binOp op t vx vy) h2 (fun u h' => u = v ∧ h' = h2) := by
  have fin : ∀ {v : Value}, (∀ c d, vx = .agg c → vy = .agg d → False) → (vx ≠ .nilIface) → (∀ h, semWP P (binOp op t vx vy) h (fun u h' => u = v ∧ h' = h)) → ∀ h2, semWP P (do eqGuard op t x y vx vy; binOp op t vx vy) h2 (fun u h' => u = v ∧ h' = h2) := by
    intro v h1 h2 h3 h4
    rw [semWP_bind]
    exact eqGuard_none h1 (fun e => (h2 e).elim) (h3 h4)
  unfold binT at hh
  split at hh
  · cases vx <;> cases vy <;> first | exact hh.elim | skip
    cases hsf : isShift op with
    | true =>
      simp only [hsf] at hh
      obtain ⟨v, hk, hv⟩ := shiftT_int (P := P) (t := t) hh
      exact ⟨v, hk, fin (by intro c d h; cases h) (by intro h; cases h) hv⟩
    | false =>
    simp only [hsf] at hh
    obtain ⟨hk, hh1⟩ := condP_iff.1 hh
    clear hh
    obtain rfl := kindEq_eq hk
    split at hh1
    · rename_i hd
      obtain ⟨c, rfl⟩ : ∃ c, y = .const c := by
        unfold divConst at hd
        split at hd <;> first | exact ⟨_, rfl⟩ | cases hd
      obtain rfl := hy c rfl
      obtain ⟨v, hk, hv⟩ := intDT_int (P := P) (t := t) hd rfl hh1
      exact ⟨v, hk, fin (by intro c d h; cases h) (by intro h; cases h) hv⟩
    · obtain ⟨v, hk, hv⟩ := intT_int (P := P) (t := t) hh1
      exact ⟨v, hk, fin (by intro c d h; cases h) (by intro h; cases h) hv⟩
  · cases vx <;> cases vy <;> first | exact hh.elim | skip
    obtain ⟨v, hk, hv⟩ := strT_str (P := P) (t := t) hh
    exact ⟨v, hk, fin (by intro c d h; cases h) (by intro h; cases h) hv⟩
  · rename_i hd
    cases vx <;> cases vy <;> first | exact hh.elim | skip
    obtain ⟨v, hk, hv⟩ := boolT_bool (P := P) (t := t) hd (K := fun v => K v h) hh
    exact ⟨v, hk, fin (by intro c d h; cases h) (by intro h; cases h) hv⟩
  · rename_i h1 h2 h3
    split at hc <;> first | exact hc.elim | skip
    · exact (h1 _ (by assumption)).elim
    · exact (h2 (by assumption)).elim
    · exact (h3 (by assumption)).elim

theorem opT_pure {ty : Tmp → List TypeId} {o : Oper} {e : Env} {h : Hp} {K : Value → Hp → Prop} (hc : cls P o = 0) (hh : opT P ty o e h K) :
    ∃ v, K v h ∧ ∀ h2 a, Agree e a → Yields P a.eval o h2 v := by
  obtain ⟨dst, op, type, pos, after, guard⟩ := o
  cases op <;> simp only [cls] at hc <;> try (cases hc; done)
  case move x =>
    obtain ⟨v, hv, hk⟩ := wth_elim hh
    refine ⟨v, hk, fun h2 a ha => ?_⟩
    obtain rfl := ev_agree ha hv
    exact operWP_of_sem ⟨rfl, rfl⟩
  case assign x =>
    obtain ⟨v, hv, hk⟩ := wth_elim hh
    refine ⟨v, hk, fun h2 a ha => ?_⟩
    obtain rfl := ev_agree ha hv
    exact operWP_of_sem ⟨rfl, rfl⟩
  case pick c x y =>
    obtain ⟨v, hv, hk⟩ := wth_elim hh
    cases v <;> first | exact hk.elim | skip
    rename_i t
    cases t
    · obtain ⟨u, hu, hk⟩ := wth_elim hk
      refine ⟨u, hk, fun h2 a ha => ?_⟩
      refine operWP_of_sem ?_
      simp only [execOp, ev_agree ha hv, ev_agree ha hu]
      exact ⟨rfl, rfl⟩
    · obtain ⟨u, hu, hk⟩ := wth_elim hk
      refine ⟨u, hk, fun h2 a ha => ?_⟩
      refine operWP_of_sem ?_
      simp only [execOp, ev_agree ha hv, ev_agree ha hu]
      exact ⟨rfl, rfl⟩
  case build t ps =>
    obtain ⟨vs, hv, hk⟩ := wth_elim hh
    obtain ⟨v, hk, hs⟩ := buildT_val hk
    refine ⟨v, hk, fun h2 a ha => yields_sem rfl ?_⟩
    rw [evPairs_map ha hv]
    exact hs h2
  case nilCheck x =>
    obtain ⟨v, hv, hk⟩ := wth_elim hh
    cases v <;> first | exact hk.elim | skip
    · obtain ⟨ad, hp, hk1⟩ := wth_elim hk
      clear hk
      subst hp
      refine ⟨_, hk1, fun h2 a ha => operWP_of_sem ?_⟩
      simp only [execOp, ev_agree ha hv]
      exact ⟨rfl, rfl⟩
    · rename_i fn first cap
      cases fn <;> first | exact hk.elim | skip
      refine ⟨_, hk, fun h2 a ha => operWP_of_sem ?_⟩
      simp only [execOp, ev_agree ha hv]
      exact ⟨rfl, rfl⟩
  case binOp op t x y yt =>
    obtain ⟨vx, hx, hh⟩ := wth_elim hh
    obtain ⟨vy, hy, hk⟩ := wth_elim hh
    cases hn : nilConst y with
    | true =>
      simp only [hn] at hk
      have hyc : y = .const vy := by
        unfold nilConst at hn
        split at hn <;> first | (simp only [Env.ev, Option.some.injEq] at hy; rw [← hy]) | cases hn
      cases op <;> simp only [nilBinT] at hk <;> try exact hk.elim
      · obtain ⟨b, hk, h1, h2, h3⟩ := nilT_val hk
        refine ⟨_, hk, fun hp a ha => yields_sem rfl ?_⟩
        rw [ev_agree ha hx, ev_agree ha hy, semWP_bind]
        exact eqGuard_none h1 (fun _ _ => ⟨_, hyc⟩) (h2 hp)
      · obtain ⟨b, hk, h1, h2, h3⟩ := nilT_val hk
        refine ⟨_, hk, fun hp a ha => yields_sem rfl ?_⟩
        rw [ev_agree ha hx, ev_agree ha hy, semWP_bind]
        exact eqGuard_none h1 (fun _ _ => ⟨_, hyc⟩) (h3 hp)
    | false =>
      simp only [hn] at hk hc
      obtain ⟨v, hk, hv⟩ := binT_pure (by rintro c rfl; simp only [Env.ev, Option.some.injEq] at hy; exact hy) (by split at hc <;> first | (simp only [*]; done) | cases hc) hk
      refine ⟨v, hk, fun hp a ha => yields_sem rfl ?_⟩
      rw [ev_agree ha hx, ev_agree ha hy]
      exact hv hp
  case unOp op t x =>
    obtain ⟨v, hv, hk⟩ := wth_elim hh
    obtain ⟨u, hk, hu⟩ := unT_val (P := P) hk
    refine ⟨u, hk, fun h2 a ha => yields_sem rfl ?_⟩
    rw [ev_agree ha hv]
    exact hu h2
  case convert s d x =>
    obtain ⟨v, hv, hk⟩ := wth_elim hh
    unfold convT at hk
    split at hk
    · rename_i k1 k2 hs hd
      cases v <;> first | exact hk.elim | skip
      refine ⟨_, hk, fun h2 a ha => yields_sem rfl ?_⟩
      rw [ev_agree ha hv]
      simp only [convert, semWP_bind, semWP_underlying hs, semWP_underlying hd]
      exact ⟨rfl, rfl⟩
    · rename_i hs hd
      cases v <;> first | exact hk.elim | skip
      refine ⟨_, hk, fun h2 a ha => yields_sem rfl ?_⟩
      rw [ev_agree ha hv]
      simp only [convert, semWP_bind, semWP_underlying hs, semWP_underlying hd]
      exact ⟨rfl, rfl⟩
    · rename_i h1 h2
      exfalso
      split at hc
      · exact h1 _ _ (by assumption) (by assumption)
      · exact h2 (by assumption) (by assumption)
      · cases hc
  case makeInterface t x =>
    obtain ⟨v, hv, hk⟩ := wth_elim hh
    cases hd : P.underlying t with
    | none => simp only [hd] at hk
    | some d =>
      simp only [hd] at hk
      have hk' : K (.iface t v) h := by cases d <;> first | exact hk.elim | exact hk
      have hni : ∀ ms, d ≠ .interface ms := by rintro ms rfl; exact hk.elim
      refine ⟨_, hk', fun h2 a ha => yields_sem rfl ?_⟩
      rw [ev_agree ha hv]
      simp only [Instr.makeInterface, semWP_bind, semWP_underlying hd]
      cases d <;> first | exact (hni _ rfl).elim | exact ⟨rfl, rfl⟩
  case makeFunc fn first cap =>
    obtain ⟨vs, hv, hk⟩ := wth_elim hh
    obtain ⟨us, hu, hk⟩ := wth_elim hk
    refine ⟨_, hk, fun h2 a ha => yields_sem rfl ?_⟩
    rw [evs_map ha hv, evs_map ha hu]
    exact ⟨rfl, rfl⟩
  case slice t x lo hi mx =>
    obtain ⟨v, hv, hk⟩ := wth_elim hh
    obtain ⟨us, hu, hk⟩ := wth_elim hk
    obtain ⟨hm, hk⟩ := condP_iff.1 hk
    have hmem := evs_mem hu
    have hopt : ∀ {a : Act}, Agree e a → lo.bind e.ev = lo.map a.eval ∧ hi.bind e.ev = hi.map a.eval ∧ mx.bind e.ev = mx.map a.eval := by
      intro a ha
      refine ⟨opt_agree ha ?_, opt_agree ha ?_, opt_agree ha ?_⟩ <;> rintro y rfl <;> exact hmem y (by simp)
    obtain ⟨u, hk, hs⟩ := sliceT_val (by
      intro hms
      cases mx with
      | none => simp at hms
      | some m =>
        cases hi with
        | none => simp at hm
        | some q => obtain ⟨v, hv⟩ := hmem q (by simp); simp [hv]) hk
    refine ⟨u, hk, fun h2 a ha => yields_sem rfl ?_⟩
    obtain ⟨h3, h4, h5⟩ := hopt ha
    rw [ev_agree ha hv, ← h3, ← h4, ← h5]
    exact hs h2
  case fieldAddr t x f =>
    obtain ⟨v, hv, hk⟩ := wth_elim hh
    obtain ⟨u, hk, hu⟩ := fieldAddrT_val hk
    refine ⟨u, hk, fun h2 a ha => yields_sem rfl ?_⟩
    rw [ev_agree ha hv]
    exact hu h2
  case field t x f =>
    obtain ⟨v, hv, hk⟩ := wth_elim hh
    obtain ⟨u, hk, hu⟩ := fieldT_val hk
    refine ⟨u, hk, fun h2 a ha => yields_sem rfl ?_⟩
    rw [ev_agree ha hv]
    exact hu h2
  case indexAddr t x i =>
    obtain ⟨v, hv, hk⟩ := wth_elim hh
    obtain ⟨vi, hi, hk⟩ := wth_elim hk
    obtain ⟨u, hk, hu⟩ := indexAddrT_val hk
    refine ⟨u, hk, fun h2 a ha => yields_sem rfl ?_⟩
    rw [ev_agree ha hv, ev_agree ha hi]
    exact hu h2
  case index t x i =>
    obtain ⟨v, hv, hk⟩ := wth_elim hh
    obtain ⟨vi, hi, hk⟩ := wth_elim hk
    obtain ⟨u, hk, hu⟩ := indexT_val hk
    refine ⟨u, hk, fun h2 a ha => yields_sem rfl ?_⟩
    rw [ev_agree ha hv, ev_agree ha hi]
    exact hu h2
  case typeAssert x xt t ok =>
    obtain ⟨v, hv, hk⟩ := wth_elim hh
    obtain ⟨u, hk, hu⟩ := assertT_val (xt := xt) hk
    refine ⟨u, hk, fun h2 a ha => yields_sem rfl ?_⟩
    rw [ev_agree ha hv]
    exact hu h2
  case extract x i =>
    obtain ⟨v, hv, hk⟩ := wth_elim hh
    cases v <;> first | exact hk.elim | skip
    obtain ⟨u, hu, hk⟩ := wth_elim hk
    refine ⟨u, hk, fun h2 a ha => yields_sem rfl ?_⟩
    rw [ev_agree ha hv]
    simp only [Instr.extract]
    simp only [Array.getElem?_toList] at hu
    rw [hu]
    exact ⟨rfl, rfl⟩
  case call c =>
    obtain ⟨vs, hv, hk⟩ := wth_elim hh
    obtain ⟨callee, args, tys⟩ := c
    cases callee <;> simp only at hc <;> try (cases hc; done)
    rename_i b
    have fin : ∀ {u : Value}, (∀ cs h2, semWP P (builtin b tys type cs ⟨vs⟩) h2 (fun n h' => nextWP P n h' fun x h'' => x = u ∧ h'' = h2)) → ∀ h2 a, Agree e a → Yields P a.eval ⟨dst, .call ⟨.builtin b, args, tys⟩, type, pos, after, guard⟩ h2 u := by
      intro u hu h2 a ha
      refine operWP_of_sem ?_
      have he : execOp a.eval ⟨dst, .call ⟨.builtin b, args, tys⟩, type, pos, after, guard⟩ = builtin b tys type (args.map fun | .const _ => true | _ => false) (args.map a.eval) := rfl
      rw [he, evs_map ha hv]
      exact hu _ h2
    cases b <;> simp only at hc <;> try (cases hc; done)
    · cases vs with
      | nil => exact hk.elim
      | cons v vs => cases vs with
        | cons w vs => exact hk.elim
        | nil =>
          have hm : ∀ k el, und0 P tys ≠ some (.map k el) := by intro k el he; simp [he] at hc
          obtain ⟨u, hk', _⟩ := lenT_pure (cs := #[]) hm hk
          obtain ⟨u2, hk2, hu2⟩ : ∃ u, K u h ∧ ∀ cs h2, semWP P (builtin .len tys type cs ⟨[v]⟩) h2 (fun n h' => nextWP P n h' fun x h'' => x = u ∧ h'' = h2) := by
            obtain ⟨u, h1, h2⟩ := lenT_pure (cs := #[]) hm hk
            exact ⟨u, h1, fun cs h3 => h2 h3⟩
          exact ⟨u2, hk2, fin hu2⟩
    · cases vs with
      | nil => exact hk.elim
      | cons v vs => cases vs with
        | nil => exact hk.elim
        | cons w vs => cases vs with
          | cons x vs => exact hk.elim
          | nil =>
            obtain ⟨u, h1, h2⟩ := minT_pure (P := P) (tys := tys) (t := type) (cs := #[]) (mx := true) hk
            exact ⟨u, h1, fin fun cs h3 => h2 h3⟩
    · cases vs with
      | nil => exact hk.elim
      | cons v vs => cases vs with
        | nil => exact hk.elim
        | cons w vs => cases vs with
          | cons x vs => exact hk.elim
          | nil =>
            obtain ⟨u, h1, h2⟩ := minT_pure (P := P) (tys := tys) (t := type) (cs := #[]) (mx := false) hk
            exact ⟨u, h1, fin fun cs h3 => h2 h3⟩
end
end Go.Proofs.Ytmdhfmljgjnggaa
/- The operations' preconditions are enough: what reads memory, what changes it. No condition. -/
namespace Go.Proofs.Ytmdhfmljgjnggaa

section
variable {P : Program}
theorem opT_read {ty : Tmp → List TypeId} {o : Oper} {e : Env} {h : Hp} {K : Value → Hp → Prop} (hc : cls P o = 1) (hh : opT P ty o e h K) :
    ∃ v, K v h ∧ ∀ a, Agree e a → Yields P a.eval o h v := by
  obtain ⟨dst, op, type, pos, after, guard⟩ := o
  cases op <;> simp only [cls] at hc <;> try (cases hc; done)
  case load t x =>
    obtain ⟨v, hv, hk⟩ := wth_elim hh
    cases v <;> first | exact hk.elim | skip
    obtain ⟨ad, hp, hk1⟩ := wth_elim hk
    clear hk
    subst hp
    obtain ⟨u, hk, hu⟩ := loadT_val hk1
    refine ⟨u, hk, fun a ha => yields_sem rfl ?_⟩
    rw [ev_agree ha hv]
    exact hu
  case binOp op t x y yt =>
    obtain ⟨vx, hx, hh⟩ := wth_elim hh
    obtain ⟨vy, hy, hk⟩ := wth_elim hh
    cases hn : nilConst y with
    | true => simp [hn] at hc
    | false =>
      simp only [hn] at hk hc
      unfold binT at hk
      split at hk
      · rename_i hd; simp [hd] at hc
      · rename_i hd; simp [hd] at hc
      · rename_i hd; simp [hd] at hc
      · obtain ⟨b, hr, hk⟩ := hk
        refine ⟨_, hk, fun a ha => yields_runs rfl ?_⟩
        rw [ev_agree ha hx, ev_agree ha hy]
        exact hr
  case lookup t x i ok =>
    obtain ⟨v, hv, hk⟩ := wth_elim hh
    obtain ⟨vi, hi, hk⟩ := wth_elim hk
    unfold lookupT at hk
    split at hk
    · obtain ⟨u, b, hr, hk⟩ := exTy_elim P hk
      refine ⟨_, hk, fun a ha => yields_runs rfl ?_⟩
      rw [ev_agree ha hv, ev_agree ha hi]
      exact hr
    · obtain ⟨u, hr, hk⟩ := exTy_elim P hk
      refine ⟨_, hk, fun a ha => yields_runs rfl ?_⟩
      rw [ev_agree ha hv, ev_agree ha hi]
      exact hr
  case entry x =>
    obtain ⟨v, hv, hk⟩ := wth_elim hh
    obtain ⟨vs, hr, hk⟩ := exTys_elim P hk
    refine ⟨_, hk, fun a ha => yields_runs rfl ?_⟩
    rw [ev_agree ha hv]
    exact hr
  case convert s d x => split at hc <;> cases hc
  case call c =>
    obtain ⟨vs, hv, hk⟩ := wth_elim hh
    obtain ⟨callee, args, tys⟩ := c
    cases callee <;> simp only at hc <;> try (cases hc; done)
    rename_i b
    cases b <;> simp only at hc <;> try (cases hc; done)
    cases vs with
    | nil => exact hk.elim
    | cons v vs => cases vs with
      | cons w vs => exact hk.elim
      | nil =>
        change lenT P tys type v h K at hk
        unfold lenT at hk
        split at hk <;> try exact hk.elim
        · rename_i hd; simp [hd] at hc
        · rename_i hd; simp [hd] at hc
        · rename_i hd; simp [hd] at hc
        · rename_i hd; simp [hd] at hc
        · obtain ⟨n, hr, hk⟩ := hk
          refine ⟨_, hk, fun a ha w hw => ⟨.value (.int .i64 n), w, ?_, ⟨rfl, hw⟩, .refl w⟩⟩
          have he : execOp a.eval ⟨dst, .call ⟨.builtin .len, args, tys⟩, type, pos, after, guard⟩ = (do pure (.value (← Builtin.len_ tys type (args.map a.eval))) : Sem Next) := rfl
          rw [he, evs_map ha hv, Sem.run_bind, hr w hw]
          rfl
theorem opT_eff {ty : Tmp → List TypeId} {o : Oper} {e : Env} {h : Hp} {K : Value → Hp → Prop} (hh : opT P ty o e h K) {a : Act} (ha : Agree e a) : operWP P a.eval o h K := by
  by_cases h0 : cls P o = 0
  · obtain ⟨v, hk, hy⟩ := opT_pure h0 hh
    exact operWP_mono (by rintro u h' ⟨rfl, rfl⟩; exact hk) (hy h a ha)
  by_cases h1 : cls P o = 1
  · obtain ⟨v, hk, hy⟩ := opT_read h1 hh
    exact operWP_mono (by rintro u h' ⟨rfl, rfl⟩; exact hk) (hy a ha)
  obtain ⟨dst, op, type, pos, after, guard⟩ := o
  cases op <;> first | exact (h0 rfl).elim | exact (h1 rfl).elim | exact hh.elim | skip
  case alloc t =>
    obtain ⟨hz, hk⟩ := condP_iff.1 hh
    refine operWP_val rfl ?_
    simp only [Instr.alloc, semWP_bind, semWP_zeroValue hz, newVar, newRow, newObj, semWP_ret]
    exact letH_iff.1 hk
  case box t x =>
    obtain ⟨v, hv, hk⟩ := wth_elim hh
    refine operWP_val rfl ?_
    rw [ev_agree ha hv]
    exact letH_iff.1 hk
  case buildSlice t n ps =>
    obtain ⟨vs, hv, hk⟩ := wth_elim hh
    refine operWP_val rfl ?_
    rw [evPairs_map ha hv]
    exact buildSliceT_wp hk
  case insert t m k x =>
    obtain ⟨vm, hm, hk⟩ := wth_elim hh
    obtain ⟨vk, hkk, hk⟩ := wth_elim hk
    obtain ⟨vx, hx, hk⟩ := wth_elim hk
    refine operWP_unit rfl ?_
    rw [ev_agree ha hm, ev_agree ha hkk, ev_agree ha hx]
    exact hk
  case store t x y =>
    obtain ⟨v, hv, hk⟩ := wth_elim hh
    obtain ⟨u, hu, hk⟩ := wth_elim hk
    cases v <;> first | exact hk.elim | skip
    obtain ⟨ad, hp, hk1⟩ := wth_elim hk
    clear hk
    subst hp
    refine operWP_unit rfl ?_
    rw [ev_agree ha hv, ev_agree ha hu]
    exact storeT_wp (K := fun _ h' => K undef h') hk1
  case binOp op t x y yt =>
    exfalso
    cases hn : nilConst y with
    | true => exact h0 (by simp only [cls, hn])
    | false =>
      have : (match P.underlying t with | some (.int _) | some .string | some .bool => 0 | _ => 1) = 0 ∨ (match P.underlying t with | some (.int _) | some .string | some .bool => 0 | _ => 1) = 1 := by
        split <;> simp
      rcases this with h | h
      · exact h0 (by simp only [cls, hn]; exact h)
      · exact h1 (by simp only [cls, hn]; exact h)
  case convert s d x =>
    obtain ⟨v, hv, hk⟩ := wth_elim hh
    unfold convT at hk
    split at hk
    · rename_i hs hd; exact (h0 (by simp [cls, hs, hd])).elim
    · rename_i hs hd; exact (h0 (by simp [cls, hs, hd])).elim
    · refine operWP_val rfl ?_
      rw [ev_agree ha hv]
      refine semWP_mono _ _ _ _ (fun u h' hu => ?_) hk
      obtain ⟨w, rfl, hk⟩ := exTy_elim P hu
      exact hk
  case makeMap t r =>
    cases r with
    | some r => exact hh.elim
    | none => exact operWP_val rfl (letH_iff.1 hh)
  case makeSlice t l c =>
    obtain ⟨vl, hl, hk⟩ := wth_elim hh
    obtain ⟨vc, hc, hk⟩ := wth_elim hk
    refine operWP_val rfl ?_
    rw [ev_agree ha hl, ev_agree ha hc]
    refine semWP_mono _ _ _ _ (fun u h' hu => ?_) hk
    obtain ⟨p, n, c, rfl, hk⟩ := hu
    exact hk
  case mapUpdate t m k x =>
    obtain ⟨vm, hm, hk⟩ := wth_elim hh
    obtain ⟨vk, hkk, hk⟩ := wth_elim hk
    obtain ⟨vx, hx, hk⟩ := wth_elim hk
    refine operWP_unit rfl ?_
    rw [ev_agree ha hm, ev_agree ha hkk, ev_agree ha hx]
    exact hk
  case range t x =>
    obtain ⟨v, hv, hk⟩ := wth_elim hh
    refine operWP_val rfl ?_
    rw [ev_agree ha hv]
    refine semWP_mono _ _ _ _ (fun u h' hu => ?_) hk
    obtain ⟨r, rfl, hk⟩ := hu
    exact hk
  case next x b =>
    cases b with
    | true =>
      obtain ⟨v, hv, hk⟩ := wth_elim hh
      refine operWP_val rfl ?_
      rw [ev_agree ha hv]
      refine semWP_mono _ _ _ _ (fun u h' hu => ?_) hk
      rcases hu with ⟨rfl, hk⟩ | ⟨n, c, rfl, hk⟩
      · exact hk
      · exact hk
    | false =>
      obtain ⟨v, hv, hk⟩ := wth_elim hh
      refine operWP_val rfl ?_
      rw [ev_agree ha hv]
      refine semWP_mono _ _ _ _ (fun u h' hu => ?_) hk
      obtain ⟨b, xs, rfl, hk⟩ := hu
      exact hk
  case call c =>
    obtain ⟨vs, hv, hk⟩ := wth_elim hh
    obtain ⟨callee, args, tys⟩ := c
    cases callee with
    | invoke r m => exact hk.elim
    | value f =>
      obtain ⟨fv, hf, hk⟩ := wth_elim hk
      cases fv <;> first | exact hk.elim | skip
      rename_i fn first cap
      cases fn <;> first | exact hk.elim | skip
      rename_i g
      have he : execOp a.eval ⟨dst, .call ⟨.value f, args, tys⟩, type, pos, after, guard⟩ = callFunc g (first ++ args.map a.eval ++ cap) := by
        have : execOp a.eval ⟨dst, .call ⟨.value f, args, tys⟩, type, pos, after, guard⟩ = (Deferred.ofValue (a.eval f) (args.map a.eval) >>= fun d => invoke d.target d.args) := rfl
        rw [this, ev_agree ha hf]
        rfl
      have hargs : first ++ args.map a.eval ++ cap = ⟨first.toList ++ vs ++ cap.toList⟩ := by
        rw [evs_map ha hv]
        apply Array.ext'
        simp
      rcases callT_wp hk with hw | hw
      · refine operWP_of_sem ?_
        rw [he, hargs]
        exact hw
      · intro w hh
        refine ⟨.enter g ⟨first.toList ++ vs ++ cap.toList⟩, w, ?_, ?_, .refl w⟩
        · rw [he, hargs]; exact hw.1 _ w
        · rw [hh]; exact hw
    | builtin b =>
      have hb : execOp a.eval ⟨dst, .call ⟨.builtin b, args, tys⟩, type, pos, after, guard⟩ = builtin b tys type (args.map fun | .const _ => true | _ => false) (args.map a.eval) := rfl
      rw [evs_map ha hv] at hb
      change builtinT P b tys type vs h K at hk
      unfold builtinT at hk
      split at hk
      · rename_i v
        unfold lenT at hk
        split at hk <;> try exact hk.elim
        · rename_i hd; exact (h0 (by simp [cls, hd])).elim
        · rename_i hd; exact (h0 (by simp [cls, hd])).elim
        · rename_i hd; exact (h0 (by simp [cls, hd])).elim
        · rename_i hd; exact (h0 (by simp [cls, hd])).elim
        · rename_i hd; exact (h1 (by simp [cls, hd])).elim
      · exact (h0 rfl).elim
      · exact (h0 rfl).elim
      · refine operWP_val hb (semWP_mono _ _ _ _ (fun u h' hu => ?_) hk)
        obtain ⟨p, n, c, rfl, hk⟩ := hu
        exact hk
      · refine operWP_val hb (semWP_mono _ _ _ _ (fun u h' hu => ?_) hk)
        obtain ⟨n, rfl, hk⟩ := hu
        exact hk
      · refine operWP_val hb (semWP_mono _ _ _ _ (fun u h' hu => ?_) hk)
        obtain ⟨rfl, hk⟩ := hu
        exact hk
      · refine operWP_val hb (semWP_mono _ _ _ _ (fun u h' hu => ?_) hk)
        obtain ⟨rfl, hk⟩ := hu
        exact hk
      · exact hk.elim
end
end Go.Proofs.Ytmdhfmljgjnggaa
/- A region that draws its order: one order serves for all. No condition. -/
namespace Go.Proofs.Ytmdhfmljgjnggaa

section
variable {P : Program}
/-- What an operation that only reckons or reads leaves in its slot. -/
def RD (P : Program) (ops : Array Oper) (o : Oper) (a : Act) (h : Hp) (v : Value) : Prop :=
  if Region.wanted o (yielded ops a.tmps) = true then Yields P a.eval o h v else v = undef
def semD (P : Program) (ops : Array Oper) (ord : Nat → Nat → Bool) : List Nat → List (Nat × (Hp → Prop)) → Act → Hp → (List (Nat × (Hp → Prop)) → Act → Hp → Prop) → Prop
  | [], pend, a, h, Q => Q pend a h
  | i :: L, pend, a, h, Q => ∃ o, ops[i]? = some o ∧ (∀ cs b, o.op ≠ .select cs b) ∧
      ((cls P o = 0 ∧ ∃ v, (∀ h2, RD P ops o a h2 v) ∧ semD P ops ord L pend (a.put o.dst v) h Q) ∨
       (cls P o = 1 ∧ ∃ v, RD P ops o a h v ∧ semD P ops ord L ((i, fun h2 => RD P ops o a h2 v) :: pend) (a.put o.dst v) h Q) ∨
       (cls P o = 2 ∧ if Region.wanted o (yielded ops a.tmps) = true then operWP P a.eval o h fun v h' => (∀ p ∈ pend, ord p.1 i = false → p.2 h') ∧ semD P ops ord L pend (a.put o.dst v) h' Q
        else semD P ops ord L pend (a.put o.dst undef) h Q))
/-- What becomes of an operation, whether it runs or not. -/
def stepD (P : Program) (ops : Array Oper) (o : Oper) (a : Act) (h : Hp) (K : Value → Hp → Prop) : Prop :=
  if Region.wanted o (yielded ops a.tmps) = true then operWP P a.eval o h K else K undef h

theorem RD_put {ops : Array Oper} {o : Oper} {a : Act} {h : Hp} {v u : Value} {d : Option Tmp} (hs : ∀ cs b, o.op ≠ .select cs b) (hd : ∀ t, d = some t → t ∉ o.looksAt ops) :
    RD P ops o (a.put d u) h v = RD P ops o a h v := by
  unfold RD
  rw [wanted_put o a d u hd]
  unfold Yields operWP
  rw [execOp_put o hs a d u hd]
theorem stepD_mono {ops : Array Oper} {o : Oper} {a : Act} {h : Hp} {K K' : Value → Hp → Prop} (hk : ∀ v h, K v h → K' v h) (hh : stepD P ops o a h K) : stepD P ops o a h K' := by
  unfold stepD at *
  split
  · rename_i hw; rw [if_pos hw] at hh; exact operWP_mono hk hh
  · rename_i hw; rw [if_neg hw] at hh; exact hk _ _ hh
theorem stepD_put {ops : Array Oper} {o : Oper} {a : Act} {h : Hp} {u : Value} {d : Option Tmp} {K : Value → Hp → Prop} (hs : ∀ cs b, o.op ≠ .select cs b) (hd : ∀ t, d = some t → t ∉ o.looksAt ops) :
    stepD P ops o (a.put d u) h K = stepD P ops o a h K := by
  unfold stepD operWP
  rw [wanted_put o a d u hd, execOp_put o hs a d u hd]
theorem stepD_RD {ops : Array Oper} {o : Oper} {a : Act} {h : Hp} {v : Value} {K : Value → Hp → Prop} (hr : RD P ops o a h v) (hk : K v h) : stepD P ops o a h K := by
  unfold stepD RD at *
  split
  · rename_i hw; rw [if_pos hw] at hr; exact operWP_mono (by rintro u h' ⟨rfl, rfl⟩; exact hk) hr
  · rename_i hw; rw [if_neg hw] at hr; subst hr; exact hk
/-- What asks less of fewer reads. -/
def Less (Q : List (Nat × (Hp → Prop)) → Act → Hp → Prop) : Prop := ∀ p q a h, (∀ x ∈ q, x ∈ p) → Q p a h → Q q a h
theorem semD_pend {ops : Array Oper} {ord : Nat → Nat → Bool} {Q : List (Nat × (Hp → Prop)) → Act → Hp → Prop} (hQ : Less Q) : ∀ (L : List Nat) (p q : List (Nat × (Hp → Prop))) (a : Act) (h : Hp), (∀ x ∈ q, x ∈ p) → semD P ops ord L p a h Q → semD P ops ord L q a h Q := by
  intro L
  induction L with
  | nil => intro p q a h hpq hh; exact hQ _ _ _ _ hpq hh
  | cons i L ih =>
    intro p q a h hpq hh
    obtain ⟨o, ho, hs, hh⟩ := hh
    refine ⟨o, ho, hs, ?_⟩
    rcases hh with ⟨hc, v, hv, hh⟩ | ⟨hc, v, hv, hh⟩ | hh
    · exact .inl ⟨hc, v, hv, ih _ _ _ _ hpq hh⟩
    · refine .inr (.inl ⟨hc, v, hv, ih _ _ _ _ ?_ hh⟩)
      intro x hx
      rcases List.mem_cons.1 hx with rfl | hx
      · simp
      · exact List.mem_cons_of_mem _ (hpq x hx)
    · obtain ⟨hc, hh⟩ := hh
      refine .inr (.inr ⟨hc, ?_⟩)
      split
      · rename_i hw
        rw [if_pos hw] at hh
        exact operWP_mono (fun v h' ⟨h1, h2⟩ => ⟨fun x hx => h1 x (hpq x hx), ih _ _ _ _ hpq h2⟩) hh
      · rename_i hw
        rw [if_neg hw] at hh
        exact ih _ _ _ _ hpq hh

/-- The i-th of what is left may come first. -/
theorem hoist {ops : Array Oper} {ord : Nat → Nat → Bool} {Q : List (Nat × (Hp → Prop)) → Act → Hp → Prop} (hQ : Less Q) {i : Nat} {oi : Oper} (hi : ops[i]? = some oi) (hsi : ∀ cs b, oi.op ≠ .select cs b) :
    ∀ (L1 L2 : List Nat) (pend : List (Nat × (Hp → Prop))) (a : Act) (h : Hp),
      (∀ x ∈ L1, ord x i = false ∧ ∀ ox, ops[x]? = some ox → cls P ox ≠ 2 ∧ ox.apart ops oi = true) →
      semD P ops ord (L1 ++ i :: L2) pend a h Q →
      stepD P ops oi a h fun u h' => (h' = h ∨ ∀ p ∈ pend, ord p.1 i = false → p.2 h') ∧ semD P ops ord (L1 ++ L2) pend (a.put oi.dst u) h' Q := by
  intro L1
  induction L1 with
  | nil =>
    intro L2 pend a h _ hh
    obtain ⟨o, ho, _, hh⟩ := hh
    rw [hi] at ho
    cases ho
    rcases hh with ⟨hc, v, hv, hh⟩ | ⟨hc, v, hv, hh⟩ | ⟨hc, hh⟩
    · exact stepD_RD (hv h) ⟨.inl rfl, hh⟩
    · exact stepD_RD hv ⟨.inl rfl, semD_pend hQ _ _ _ _ _ (fun x hx => List.mem_cons_of_mem _ hx) hh⟩
    · unfold stepD
      split
      · rename_i hw; rw [if_pos hw] at hh; exact operWP_mono (fun v h' ⟨h1, h2⟩ => ⟨.inr h1, h2⟩) hh
      · rename_i hw; rw [if_neg hw] at hh; exact ⟨.inl rfl, hh⟩
  | cons x L1 ih =>
    intro L2 pend a h hap hh
    obtain ⟨ox, hox, hsx, hh⟩ := hh
    obtain ⟨hord, hx⟩ := hap x (by simp)
    obtain ⟨hcx, hapx⟩ := hx ox hox
    obtain ⟨a1, a2, a3⟩ := Oper.apart_spec hapx
    have hcomm : ∀ (v u : Value), (a.put ox.dst v).put oi.dst u = (a.put oi.dst u).put ox.dst v := fun v u => Act.put_comm a v u a2
    rcases hh with ⟨hc, v, hv, hh⟩ | ⟨hc, v, hv, hh⟩ | ⟨hc, hh⟩
    · have := ih L2 pend _ h (fun y hy => hap y (by simp [hy])) hh
      rw [stepD_put hsi a1] at this
      refine stepD_mono (fun u h' hk => ⟨hk.1, ox, hox, hsx, .inl ⟨hc, v, fun h2 => ?_, ?_⟩⟩) this
      · rw [RD_put hsx a3]; exact hv h2
      · rw [← hcomm]; exact hk.2
    · have := ih L2 _ _ h (fun y hy => hap y (by simp [hy])) hh
      rw [stepD_put hsi a1] at this
      refine stepD_mono (fun u h' hk => ⟨?_, ox, hox, hsx, .inr (.inl ⟨hc, v, ?_, ?_⟩)⟩) this
      · rcases hk.1 with h1 | h1
        · exact .inl h1
        · exact .inr fun p hp => h1 p (List.mem_cons_of_mem _ hp)
      · rw [RD_put hsx a3]
        rcases hk.1 with h1 | h1
        · rw [h1]; exact hv
        · exact h1 (x, fun h2 => RD P ops ox a h2 v) (List.mem_cons_self ..) hord
      · have e : (fun h2 => RD P ops ox (a.put oi.dst u) h2 v) = fun h2 => RD P ops ox a h2 v := by
          funext h2; rw [RD_put hsx a3]
        rw [e, ← hcomm]
        exact hk.2
    · exact (hcx hc).elim

/-- What 'before' knows. -/
theorem before_spec (ops : Array Oper) : ∀ i x, ordOf (beforeL ops) x i = true → ∃ o, ops[i]? = some o ∧ ∃ e ∈ o.after, Region.binds .any e = true ∧ (x = e.on ∨ ordOf (beforeL ops) x e.on = true) := by
  have inner : ∀ (acc : Array Nat) (es : List Edge) (s : Nat) (x : Nat), (es.foldl (fun s e => if Region.binds .any e then s ||| 2 ^ e.on ||| acc.getD e.on 0 else s) s).testBit x = true →
      s.testBit x = true ∨ ∃ e ∈ es, Region.binds .any e = true ∧ (x = e.on ∨ (acc.getD e.on 0).testBit x = true) := by
    intro acc es
    induction es with
    | nil => intro s x hx; exact .inl hx
    | cons e es ih =>
      intro s x hx
      simp only [List.foldl_cons] at hx
      rcases ih _ _ hx with h | ⟨e', he', h⟩
      · by_cases hb : Region.binds .any e = true
        · simp only [hb, if_true, Nat.testBit_or, Bool.or_eq_true] at h
          rcases h with (h | h) | h
          · exact .inl h
          · refine .inr ⟨e, by simp, hb, .inl ?_⟩
            rw [Nat.testBit_two_pow] at h
            simpa using (of_decide_eq_true h).symm
          · exact .inr ⟨e, by simp, hb, .inr h⟩
        · simp only [hb, if_false, Bool.false_eq_true] at h
          exact .inl h
      · exact .inr ⟨e', by simp [he'], h⟩
  have outer : ∀ (l : List Oper) (acc : Array Nat) (pre : List Oper), acc.size = pre.length →
      (∀ i x, (acc.getD i 0).testBit x = true → ∃ o, pre[i]? = some o ∧ ∃ e ∈ o.after, Region.binds .any e = true ∧ (x = e.on ∨ (acc.getD e.on 0).testBit x = true)) →
      ∀ i x, ((l.foldl (fun acc o => acc.push (o.after.foldl (fun s e => if Region.binds .any e then s ||| 2 ^ e.on ||| acc.getD e.on 0 else s) 0)) acc).getD i 0).testBit x = true →
        ∃ o, (pre ++ l)[i]? = some o ∧ ∃ e ∈ o.after, Region.binds .any e = true ∧ (x = e.on ∨ ((l.foldl (fun acc o => acc.push (o.after.foldl (fun s e => if Region.binds .any e then s ||| 2 ^ e.on ||| acc.getD e.on 0 else s) 0)) acc).getD e.on 0).testBit x = true) := by
    intro l
    induction l with
    | nil => intro acc pre hsz hinv; simpa using hinv
    | cons o l ih =>
      intro acc pre hsz hinv
      simp only [List.foldl_cons]
      have := ih (acc.push (o.after.foldl (fun s e => if Region.binds .any e then s ||| 2 ^ e.on ||| acc.getD e.on 0 else s) 0)) (pre ++ [o]) (by simp [hsz]) ?_
      · simpa using this
      · have mono : ∀ v j x, (acc.getD j 0).testBit x = true → ((acc.push v).getD j 0).testBit x = true := by
          intro v j x hx
          have hj : j < acc.size := by
            rcases Nat.lt_or_ge j acc.size with h | h
            · exact h
            · simp [Array.getD, Nat.not_lt.2 h] at hx
          rw [Array.getD_eq_getD_getElem?] at *
          rw [Array.getElem?_push_lt hj] 
          simpa [hj] using hx
        intro i x hx
        by_cases hi : i = acc.size
        · subst hi
          refine ⟨o, by simp [hsz], ?_⟩
          rw [Array.getD_eq_getD_getElem?] at hx
          simp only [Array.getElem?_push_size, Option.getD_some] at hx
          rw [← Array.foldl_toList] at hx
          rcases inner acc o.after.toList 0 x hx with h | ⟨e, he, hb, h⟩
          · simp at h
          · refine ⟨e, by simpa using he, hb, ?_⟩
            rcases h with h | h
            · exact .inl h
            · exact .inr (mono _ _ _ h)
        · have hx' : (acc.getD i 0).testBit x = true := by
            rw [Array.getD_eq_getD_getElem?] at *
            rw [Array.getElem?_push, if_neg hi] at hx
            exact hx
          obtain ⟨o', ho', e, he, hb, h⟩ := hinv i x hx'
          refine ⟨o', ?_, e, he, hb, ?_⟩
          · rw [List.getElem?_append_left]
            · exact ho'
            · exact (List.getElem?_eq_some_iff.1 ho').1
          · rcases h with h | h
            · exact .inl h
            · exact .inr (mono _ _ _ h)
  have conv : ∀ x i, ordOf (beforeL ops) x i = ((Region.before ops).getD i 0).testBit x := by
    intro x i
    unfold ordOf beforeL
    rw [Array.getD_eq_getD_getElem?, Array.getElem?_toList]
    cases (Region.before ops)[i]? <;> simp
  intro i x hx
  rw [conv] at hx
  have hb : Region.before ops = ops.toList.foldl (fun acc o => acc.push (o.after.foldl (fun s e => if Region.binds .any e then s ||| 2 ^ e.on ||| acc.getD e.on 0 else s) 0)) #[] := by
    unfold Region.before
    rw [Array.foldl_toList]
  rw [hb] at hx
  obtain ⟨o, ho, e, he, h1, h2⟩ := outer ops.toList #[] [] rfl (by intro i x h; simp [Array.getD] at h) i x hx
  refine ⟨o, by simpa using ho, e, he, h1, ?_⟩
  rw [conv, hb]
  exact h2

theorem pairsOk_spec {f : Nat → Nat → Bool} : ∀ {L : List Nat}, pairsOk f L = true → ∀ L1 x L2, L = L1 ++ x :: L2 → (∀ y ∈ L1, f y x = true) ∧ pairsOk f (L1 ++ L2) = true := by
  intro L
  induction L with
  | nil => intro _ L1 x L2 h; simp at h
  | cons z L ih =>
    intro hp L1 x L2 h
    simp only [pairsOk, Bool.and_eq_true, List.all_eq_true] at hp
    cases L1 with
    | nil =>
      simp only [List.nil_append, List.cons.injEq] at h
      obtain ⟨rfl, rfl⟩ := h
      exact ⟨by simp, hp.2⟩
    | cons y L1 =>
      simp only [List.cons_append, List.cons.injEq] at h
      obtain ⟨rfl, rfl⟩ := h
      obtain ⟨h1, h2⟩ := ih hp.2 L1 x L2 rfl
      refine ⟨?_, ?_⟩
      · intro y hy
        rcases List.mem_cons.1 hy with rfl | hy
        · exact hp.1 x (by simp)
        · exact h1 y hy
      · simp only [List.cons_append, pairsOk, Bool.and_eq_true, List.all_eq_true]
        refine ⟨fun y hy => hp.1 y ?_, h2⟩
        rcases List.mem_append.1 hy with hy | hy
        · exact List.mem_append_left _ hy
        · exact List.mem_append_right _ (List.mem_cons_of_mem _ hy)

theorem memT_iff {t : Nat} : ∀ {l : List Nat}, memT t l = true ↔ t ∈ l := by
  intro l
  induction l with
  | nil => simp [memT]
  | cons u us ih =>
    simp only [memT]
    split
    · rename_i h; have := Nat.eq_of_beq_eq_true h; subst this; simp
    · rename_i h
      have hne : t ≠ u := by intro he; subst he; simp at h
      rw [ih]; simp [hne]
theorem edgesOk_spec : ∀ {l : List Oper} {k : Nat}, edgesOk l k = true → ∀ i o, l[i]? = some o → (∀ cs b, o.op ≠ .select cs b) ∧ ∀ e ∈ o.after, Region.binds .any e = true → e.on < k + i := by
  intro l
  induction l with
  | nil => intro k _ i o h; simp at h
  | cons x l ih =>
    intro k hk i o h
    simp only [edgesOk, Bool.and_eq_true, List.all_eq_true] at hk
    obtain ⟨⟨h1, h2⟩, h3⟩ := hk
    cases i with
    | zero =>
      simp only [List.getElem?_cons_zero, Option.some.injEq] at h
      subst h
      refine ⟨?_, ?_⟩
      · intro cs b hb; simp [noSel, hb] at h1
      · intro e he hb
        have := h2 e (by simpa using he)
        simp only [hb, Bool.not_true, Bool.false_or] at this
        rw [Nat.blt_eq] at this; omega
    | succ i =>
      have := ih h3 i o (by simpa using h)
      refine ⟨this.1, fun e he hb => ?_⟩
      have := this.2 e he hb
      omega
theorem before_direct (ops : Array Oper) : ∀ i o e, ops[i]? = some o → e ∈ o.after → Region.binds .any e = true → ordOf (beforeL ops) e.on i = true := by
  have inner : ∀ (acc : Array Nat) (es : List Edge) (s : Nat) (e : Edge), Region.binds .any e = true → (e ∈ es ∨ s.testBit e.on = true) → (es.foldl (fun s e => if Region.binds .any e then s ||| 2 ^ e.on ||| acc.getD e.on 0 else s) s).testBit e.on = true := by
    intro acc es
    induction es with
    | nil => intro s e _ h; rcases h with h | h; · cases h
             exact h
    | cons x es ih =>
      intro s e hb h
      simp only [List.foldl_cons]
      refine ih _ e hb ?_
      rcases h with h | h
      · rcases List.mem_cons.1 h with rfl | h
        · right
          simp [hb, Nat.testBit_or]
        · exact .inl h
      · right
        split
        · simp [Nat.testBit_or, h]
        · exact h
  have outer : ∀ (l : List Oper) (acc : Array Nat), (∀ i, i < acc.size → (l.foldl (fun acc o => acc.push (o.after.foldl (fun s e => if Region.binds .any e then s ||| 2 ^ e.on ||| acc.getD e.on 0 else s) 0)) acc).getD i 0 = acc.getD i 0) ∧
      ∀ j o e, l[j]? = some o → e ∈ o.after → Region.binds .any e = true → ((l.foldl (fun acc o => acc.push (o.after.foldl (fun s e => if Region.binds .any e then s ||| 2 ^ e.on ||| acc.getD e.on 0 else s) 0)) acc).getD (acc.size + j) 0).testBit e.on = true := by
    intro l
    induction l with
    | nil => intro acc; exact ⟨fun _ _ => rfl, fun j o e h => by simp at h⟩
    | cons x l ih =>
      intro acc
      simp only [List.foldl_cons]
      obtain ⟨h1, h2⟩ := ih (acc.push (x.after.foldl (fun s e => if Region.binds .any e then s ||| 2 ^ e.on ||| acc.getD e.on 0 else s) 0))
      refine ⟨fun i hi => ?_, fun j o e hj he hb => ?_⟩
      · rw [h1 i (by simp; omega)]
        simp only [Array.getD_eq_getD_getElem?]
        rw [Array.getElem?_push_lt hi]
        simp [hi]
      · cases j with
        | zero =>
          simp only [List.getElem?_cons_zero, Option.some.injEq] at hj
          subst hj
          rw [Nat.add_zero, h1 acc.size (by simp), Array.getD_eq_getD_getElem?, Array.getElem?_push_size, Option.getD_some, ← Array.foldl_toList]
          exact inner acc x.after.toList 0 e hb (.inl (by simpa using he))
        | succ j =>
          have := h2 j o e (by simpa using hj) he hb
          rw [Array.size_push] at this
          rw [show acc.size + (j + 1) = acc.size + 1 + j by omega]
          exact this
  intro i o e ho he hb
  have := (outer ops.toList #[]).2 i o e (by simpa using ho) he hb
  have hbf : Region.before ops = ops.toList.foldl (fun acc o => acc.push (o.after.foldl (fun s e => if Region.binds .any e then s ||| 2 ^ e.on ||| acc.getD e.on 0 else s) 0)) #[] := by
    unfold Region.before
    rw [Array.foldl_toList]
  rw [← hbf] at this
  unfold ordOf beforeL
  rw [Array.getElem?_toList]
  simp only [Array.size_empty, Nat.zero_add, Array.getD_eq_getD_getElem?] at this
  cases hx : (Region.before ops)[i]? with
  | none => simp [hx] at this
  | some v => simpa [hx] using this

theorem ready_iff {ops : Array Oper} {listed : Array Bool} {i : Nat} : i ∈ Region.ready .any ops listed ↔ i < ops.size ∧ listed.getD i true = false ∧ ∃ o, ops[i]? = some o ∧ ∀ e ∈ o.after, Region.binds .any e = true → listed.getD e.on false = true := by
  unfold Region.ready
  rw [List.mem_filter]
  simp only [List.mem_range, Bool.and_eq_true, Bool.not_eq_true']
  constructor
  · rintro ⟨h1, h2, h3⟩
    refine ⟨h1, h2, ops[i], by simp [h1], ?_⟩
    have ho : ops[i]? = some ops[i] := by simp [h1]
    rw [ho] at h3
    simp only [Option.map_some, Option.getD_some] at h3
    intro e he hb
    rw [← Array.all_toList, List.all_eq_true] at h3
    have := h3 e (by simpa using he)
    simpa [hb] using this
  · rintro ⟨h1, h2, o, ho, h3⟩
    refine ⟨h1, h2, ?_⟩
    rw [ho]
    simp only [Option.map_some, Option.getD_some]
    rw [← Array.all_toList, List.all_eq_true]
    intro e he
    by_cases hb : Region.binds .any e = true
    · simp [h3 e (by simpa using he) hb]
    · simp [hb]

theorem semD_ord {ops : Array Oper} {ord ord' : Nat → Nat → Bool} (ho : ∀ x i, ord x i = true → ord' x i = true) {Q Q' : List (Nat × (Hp → Prop)) → Act → Hp → Prop} (hQ : ∀ p a h, Q p a h → Q' p a h) :
    ∀ (L : List Nat) (p : List (Nat × (Hp → Prop))) (a : Act) (h : Hp), semD P ops ord L p a h Q → semD P ops ord' L p a h Q' := by
  intro L
  induction L with
  | nil => intro p a h hh; exact hQ _ _ _ hh
  | cons i L ih =>
    intro p a h hh
    obtain ⟨o, h1, hs, hh⟩ := hh
    refine ⟨o, h1, hs, ?_⟩
    rcases hh with ⟨hc, v, hv, hh⟩ | ⟨hc, v, hv, hh⟩ | ⟨hc, hh⟩
    · exact .inl ⟨hc, v, hv, ih _ _ _ hh⟩
    · exact .inr (.inl ⟨hc, v, hv, ih _ _ _ hh⟩)
    · refine .inr (.inr ⟨hc, ?_⟩)
      split
      · rename_i hw
        rw [if_pos hw] at hh
        refine operWP_mono (fun v h' ⟨h2, h3⟩ => ⟨fun x hx hf => h2 x hx ?_, ih _ _ _ h3⟩) hh
        cases hb : ord x.1 i with
        | false => rfl
        | true => rw [ho _ _ hb] at hf; cases hf
      · rename_i hw
        rw [if_neg hw] at hh
        exact ih _ _ _ hh
theorem semD_append {ops : Array Oper} {ord : Nat → Nat → Bool} {Q : List (Nat × (Hp → Prop)) → Act → Hp → Prop} {R : List Nat} :
    ∀ (L : List Nat) (p : List (Nat × (Hp → Prop))) (a : Act) (h : Hp), semD P ops ord L p a h (fun p a h => semD P ops ord R p a h Q) → semD P ops ord (L ++ R) p a h Q := by
  intro L
  induction L with
  | nil => intro p a h hh; exact hh
  | cons i L ih =>
    intro p a h hh
    obtain ⟨o, h1, hs, hh⟩ := hh
    refine ⟨o, h1, hs, ?_⟩
    rcases hh with ⟨hc, v, hv, hh⟩ | ⟨hc, v, hv, hh⟩ | ⟨hc, hh⟩
    · exact .inl ⟨hc, v, hv, ih _ _ _ hh⟩
    · exact .inr (.inl ⟨hc, v, hv, ih _ _ _ hh⟩)
    · refine .inr (.inr ⟨hc, ?_⟩)
      split
      · rename_i hw
        rw [if_pos hw] at hh
        exact operWP_mono (fun v h' ⟨h2, h3⟩ => ⟨h2, ih _ _ _ h3⟩) hh
      · rename_i hw
        rw [if_neg hw] at hh
        exact ih _ _ _ hh
/-- One operation that may come next is taken. -/
theorem any_step {ops : Array Oper} {ord : Nat → Nat → Bool} {Q : List (Nat × (Hp → Prop)) → Act → Hp → Prop} (hQ : Less Q) {Q' : Exit → Act → World → Prop} {i : Nat} {o : Oper} (ho : ops[i]? = some o) (hso : ∀ cs b, o.op ≠ .select cs b) {L1 L2 : List Nat} {pend : List (Nat × (Hp → Prop))} {a : Act} {w : World} {K' : Act → World → Prop}
    (hno : ∀ x ∈ L1, ord x i = false) (hpair : ∀ x ∈ L1, pairF P ops ord x i = true) (hh : semD P ops ord (L1 ++ i :: L2) pend a w.heap Q)
    (hK : ∀ u w', Same w w' → semD P ops ord (L1 ++ L2) pend (a.put o.dst u) w'.heap Q → K' (a.put o.dst u) w') : wpOp P ops Q' i K' a w := by
  have hap : ∀ x ∈ L1, ord x i = false ∧ ∀ ox, ops[x]? = some ox → cls P ox ≠ 2 ∧ ox.apart ops o = true := by
    intro x hx
    have hno' := hno x hx
    refine ⟨hno', fun ox hox => ?_⟩
    have := hpair x hx
    simp only [pairF, hno', Bool.false_or, Bool.and_eq_true] at this
    obtain ⟨_, _, this⟩ := this
    have e1 : ops.toList[x]? = some ox := by simpa using hox
    have e2 : ops.toList[i]? = some o := by simpa using ho
    simp only [e1, e2, Bool.and_eq_true, Bool.not_eq_true'] at this
    refine ⟨fun he => ?_, this.2⟩
    rw [he] at this
    simp at this
  have hst := hoist hQ ho hso L1 L2 pend a w.heap hap hh
  unfold wpOp
  simp only [ho]
  unfold stepD at hst
  split
  · rename_i hw
    rw [if_pos hw] at hst
    refine .inl (Oper.wp_mono ?_ (oper_wp (Q := Q') hst))
    rintro a' w' ⟨u, rfl, hk, hs'⟩
    exact hK u w' hs' hk.2
  · rename_i hw
    rw [if_neg hw] at hst
    exact hK undef w (.refl w) hst.2
/-- What is done is done with all that it waits for. -/
def Shut (ops : Array Oper) (listed : Array Bool) : Prop := ∀ j, j < ops.size → listed.getD j false = true → ∀ x, ordOf (beforeL ops) x j = true → listed.getD x false = true
theorem getD_tf {listed : Array Bool} {i : Nat} (hi : i < listed.size) : listed.getD i true = listed.getD i false := by
  simp [Array.getD, hi]
theorem getD_set {listed : Array Bool} {i j : Nat} (hi : i < listed.size) (d : Bool) : (listed.setIfInBounds i true).getD j d = if i = j then true else listed.getD j d := by
  rw [Array.getD_eq_getD_getElem?, Array.getElem?_setIfInBounds, Array.getD_eq_getD_getElem?]
  by_cases hij : i = j
  · subst hij; simp [hi]
  · simp [hij]
theorem before_ready {ops : Array Oper} (hE : edgesOk ops.toList 0 = true) {listed : Array Bool} (hcl : Shut ops listed) {i : Nat} (hi : i ∈ Region.ready .any ops listed) : ∀ x, ordOf (beforeL ops) x i = true → listed.getD x false = true := by
  intro x hx
  obtain ⟨hlt, hnl, o, ho, hedges⟩ := ready_iff.1 hi
  obtain ⟨o', ho', e, he, hb, h⟩ := before_spec ops i x hx
  rw [ho] at ho'; cases ho'
  rcases h with rfl | h
  · exact hedges e he hb
  · have hon : e.on < i := by
      have := (edgesOk_spec hE i o (by simpa using ho)).2 e he hb
      simpa using this
    exact hcl e.on (by omega) (hedges e he hb) x h
theorem shut_set {ops : Array Oper} (hE : edgesOk ops.toList 0 = true) {listed : Array Bool} (hsz : listed.size = ops.size) (hcl : Shut ops listed) {i : Nat} (hi : i ∈ Region.ready .any ops listed) : Shut ops (listed.setIfInBounds i true) := by
  have hlt := (ready_iff.1 hi).1
  intro j hj hjl x hx
  rw [getD_set (by omega)] at hjl ⊢
  by_cases hix : i = x
  · rw [if_pos hix]
  · rw [if_neg hix]
    by_cases hij : i = j
    · subst hij; exact before_ready hE hcl hi x hx
    · rw [if_neg hij] at hjl; exact hcl j hj hjl x hx
theorem ready_nil {ops : Array Oper} {ord : Nat → Nat → Bool} (hE : edgesOk ops.toList 0 = true) (hsub : ∀ x i, ordOf (beforeL ops) x i = true → ord x i = true) {listed : Array Bool} {L : List Nat} (hsz : listed.size = ops.size)
    (hL : ∀ i, i ∈ L ↔ i < ops.size ∧ listed.getD i true = false) (hp : pairsOk (pairF P ops ord) L = true) (hr : Region.ready .any ops listed = []) : L = [] := by
  cases L with
  | nil => rfl
  | cons i L =>
    exfalso
    obtain ⟨hi, hl⟩ := (hL i).1 (by simp)
    have ho : ops[i]? = some ops[i] := by simp [hi]
    have : i ∈ Region.ready .any ops listed := by
      refine ready_iff.2 ⟨hi, hl, _, ho, fun e he hb => ?_⟩
      have hlt : e.on < i := by
        have := (edgesOk_spec hE i _ (by simp [hi])).2 e he hb
        simpa using this
      have hord := hsub _ _ (before_direct ops i _ e ho he hb)
      by_cases hx : listed.getD e.on true = false
      · exfalso
        have hm := (hL e.on).2 ⟨by omega, hx⟩
        rcases List.mem_cons.1 hm with h | h
        · omega
        · simp only [pairsOk, Bool.and_eq_true, List.all_eq_true] at hp
          have := hp.1 e.on h
          simp [pairF, hord] at this
      · rw [← getD_tf (by omega)]
        simpa using hx
    rw [hr] at this
    cases this
theorem left_set {ops : Array Oper} {listed : Array Bool} {L1 L2 : List Nat} {i : Nat} (hsz : listed.size = ops.size) (hlt : i < ops.size) (hnd : (L1 ++ i :: L2).Nodup) (hL : ∀ j, j ∈ L1 ++ i :: L2 ↔ j < ops.size ∧ listed.getD j true = false) :
    (L1 ++ L2).Nodup ∧ ∀ j, j ∈ L1 ++ L2 ↔ j < ops.size ∧ (listed.setIfInBounds i true).getD j true = false := by
  have hnd' : (i :: (L1 ++ L2)).Nodup := (List.perm_middle.nodup_iff).1 hnd
  refine ⟨(List.nodup_cons.1 hnd').2, fun j => ?_⟩
  have hj := hL j
  rw [getD_set (by omega)]
  by_cases hij : i = j
  · subst hij
    have : i ∉ L1 ++ L2 := (List.nodup_cons.1 hnd').1
    simp [this]
  · rw [if_neg hij, ← hj]
    simp only [List.mem_append, List.mem_cons]
    constructor
    · rintro (h | h)
      · exact .inl h
      · exact .inr (.inr h)
    · rintro (h | h | h)
      · exact .inl h
      · exact (hij h.symm).elim
      · exact .inr h
theorem semD_any {ops : Array Oper} {ord : Nat → Nat → Bool} {Q : List (Nat × (Hp → Prop)) → Act → Hp → Prop} (hQl : Less Q) {Q' : Exit → Act → World → Prop} {w0 : World} (hQ : ∀ p a w, Same w0 w → Q p a w.heap → Q' .normal a w) (hE : edgesOk ops.toList 0 = true)
    (hsub : ∀ x i, ordOf (beforeL ops) x i = true → ord x i = true) {T : Array Bool → Prop} (hT : ∀ (l : Array Bool) i, l.size = ops.size → i < ops.size → T l → T (l.setIfInBounds i true))
    (hR : ∀ listed : Array Bool, T listed → Shut ops listed → ∀ i, i ∈ Region.ready .any ops listed → ∀ x, ord x i = true → listed.getD x false = true) :
    ∀ (fuel : Nat) (listed : Array Bool) (L : List Nat) (pend : List (Nat × (Hp → Prop))) (a : Act) (w : World), Same w0 w → listed.size = ops.size → T listed → L.Nodup →
      (∀ i, i ∈ L ↔ i < ops.size ∧ listed.getD i true = false) → L.length ≤ fuel → pairsOk (pairF P ops ord) L = true → Shut ops listed →
      semD P ops ord L pend a w.heap Q → wpAny P .any ops Q' fuel listed a w := by
  intro fuel
  induction fuel with
  | zero =>
    intro listed L pend a w hs hsz _ hnd hL hlen hp hcl hh
    have : L = [] := List.eq_nil_of_length_eq_zero (by omega)
    subst this
    refine ⟨?_, hQ _ _ _ hs hh⟩
    cases hr : Region.ready .any ops listed with
    | nil => rfl
    | cons x xs =>
      have : x ∈ Region.ready .any ops listed := by rw [hr]; simp
      obtain ⟨h1, h2, _⟩ := ready_iff.1 this
      have := (hL x).2 ⟨h1, h2⟩
      cases this
  | succ fuel ih =>
    intro listed L pend a w hs hsz hTl hnd hL hlen hp hcl hh
    refine ⟨fun hr => ?_, fun i hi => ?_⟩
    · have := ready_nil hE hsub hsz hL hp hr
      subst this
      exact hQ _ _ _ hs hh
    · obtain ⟨hlt, hnl, o, ho, _⟩ := ready_iff.1 hi
      have hmem := (hL i).2 ⟨hlt, hnl⟩
      obtain ⟨L1, L2, rfl⟩ := List.append_of_mem hmem
      obtain ⟨hpair, hp'⟩ := pairsOk_spec hp L1 i L2 rfl
      obtain ⟨hnd2, hL2⟩ := left_set hsz hlt hnd hL
      refine any_step hQl ho (edgesOk_spec hE i o (by simpa using ho)).1 (fun x hx => ?_) hpair hh fun u w' hs' hd => ih _ (L1 ++ L2) pend _ w' (hs.trans hs') (by simpa using hsz) (hT _ _ hsz hlt hTl) hnd2 hL2 ?_ hp' (shut_set hE hsz hcl hi) hd
      · have hxL := (hL x).1 (by simp [hx])
        cases hb : ord x i with
        | false => rfl
        | true =>
          have := hR listed hTl hcl i hi x hb
          rw [← getD_tf (by omega), hxL.2] at this
          cases this
      · simp only [List.length_append, List.length_cons] at hlen ⊢
        omega
theorem ordX_sub {bs : List Nat} {p q x i : Nat} (h : ordOf bs x i = true) : ordX bs p q x i = true := by simp [ordX, h]
/-- Once p is done, what waits for it does so no more. -/
theorem ordX_ready {ops : Array Oper} (hE : edgesOk ops.toList 0 = true) {p q : Nat} (hp : p < ops.size) {listed : Array Bool} (hT : listed.getD p false = true) (hcl : Shut ops listed) {i : Nat} (hi : i ∈ Region.ready .any ops listed) (x : Nat) (hx : ordX (beforeL ops) p q x i = true) : listed.getD x false = true := by
  simp only [ordX, Bool.or_eq_true, Bool.and_eq_true] at hx
  rcases hx with h | ⟨_, h⟩
  · exact before_ready hE hcl hi x h
  · rcases h with h | h
    · have := Nat.eq_of_beq_eq_true h; subst this; exact hT
    · exact hcl p hp hT x h
theorem semD_two {ops : Array Oper} {p q : Nat} {r1 r2 : List Nat} {Q : List (Nat × (Hp → Prop)) → Act → Hp → Prop} (hQl : Less Q) {Q' : Exit → Act → World → Prop} {w0 : World} (hQ : ∀ p a w, Same w0 w → Q p a w.heap → Q' .normal a w) (hE : edgesOk ops.toList 0 = true)
    (hpq : ordOf (beforeL ops) p q = false) (hqp : ordOf (beforeL ops) q p = false) (hne : p ≠ q) (hps : p < ops.size) (hqs : q < ops.size) (hl1 : later (beforeL ops) p q r1 = true) (hl2 : later (beforeL ops) p q r2 = true) :
    ∀ (fuel : Nat) (listed : Array Bool) (L : List Nat) (pend : List (Nat × (Hp → Prop))) (a : Act) (w : World), Same w0 w → listed.size = ops.size → listed.getD p false = false → listed.getD q false = false → (L ++ p :: r1).Nodup → (L ++ q :: r2).Nodup →
      (∀ i, i ∈ L ++ p :: r1 ↔ i < ops.size ∧ listed.getD i true = false) → (∀ i, i ∈ L ++ q :: r2 ↔ i < ops.size ∧ listed.getD i true = false) → (L ++ p :: r1).length ≤ fuel → (L ++ q :: r2).length ≤ fuel →
      pairsOk (pairF P ops (ordOf (beforeL ops))) L = true → pairsOk (pairF P ops (ordX (beforeL ops) p q)) (L ++ p :: r1) = true → pairsOk (pairF P ops (ordX (beforeL ops) q p)) (L ++ q :: r2) = true → Shut ops listed →
      semD P ops (ordOf (beforeL ops)) L pend a w.heap (fun pend a h => semD P ops (ordX (beforeL ops) p q) (p :: r1) pend a h Q ∧ semD P ops (ordX (beforeL ops) q p) (q :: r2) pend a h Q) → wpAny P .any ops Q' fuel listed a w := by
  have hZ : Less (fun pend a h => semD P ops (ordX (beforeL ops) p q) (p :: r1) pend a h Q ∧ semD P ops (ordX (beforeL ops) q p) (q :: r2) pend a h Q) :=
    fun x y a h hxy hh => ⟨semD_pend hQl _ _ _ _ _ hxy hh.1, semD_pend hQl _ _ _ _ _ hxy hh.2⟩
  have take : ∀ {p q : Nat} {r1 : List Nat}, ordOf (beforeL ops) q p = false → p ≠ q → ∀ (fuel : Nat), ∀ (listed : Array Bool) (L : List Nat) (pend : List (Nat × (Hp → Prop))) (a : Act) (w : World), Same w0 w → listed.size = ops.size → (L ++ p :: r1).Nodup →
      (∀ i, i ∈ L ++ p :: r1 ↔ i < ops.size ∧ listed.getD i true = false) → (L ++ p :: r1).length ≤ fuel + 1 → pairsOk (pairF P ops (ordX (beforeL ops) p q)) (L ++ p :: r1) = true → Shut ops listed → p ∈ Region.ready .any ops listed →
      semD P ops (ordX (beforeL ops) p q) (L ++ p :: r1) pend a w.heap Q → wpOp P ops Q' p (wpAny P .any ops Q' fuel (listed.setIfInBounds p true)) a w := by
    intro p q r1 hqp hne fuel listed L pend a w hs hsz hnd hL hlen hp hcl hi hh
    obtain ⟨hlt, hnl, o, ho, _⟩ := ready_iff.1 hi
    obtain ⟨hpair, hp'⟩ := pairsOk_spec hp L p r1 rfl
    obtain ⟨hnd2, hL2⟩ := left_set hsz hlt hnd hL
    refine any_step hQl ho (edgesOk_spec hE p o (by simpa using ho)).1 (fun x hx => ?_) hpair hh fun u w' hs' hd =>
      semD_any hQl hQ hE (fun x i h => ordX_sub h) (T := fun l => l.getD p false = true) (fun l i hl hi hT => ?_) (fun l hT hcl i hi x hx => ordX_ready hE hlt hT hcl hi x hx) fuel _ (L ++ r1) pend _ w' (hs.trans hs') (by simpa using hsz) (by rw [getD_set (by omega)]; simp) hnd2 hL2 ?_ hp' (shut_set hE hsz hcl hi) hd
    · have hxL := (hL x).1 (by simp [hx])
      cases hb : ordX (beforeL ops) p q x p with
      | false => rfl
      | true =>
        simp only [ordX, Bool.or_eq_true, Bool.and_eq_true] at hb
        rcases hb with h | ⟨h, _⟩
        · have := before_ready hE hcl hi x h
          rw [← getD_tf (by omega), hxL.2] at this
          cases this
        · rcases h with h | h
          · exact (hne (Nat.eq_of_beq_eq_true h)).elim
          · rw [hqp] at h; cases h
    · show (l.setIfInBounds i true).getD p false = true
      rw [getD_set (by omega)]
      split
      · rfl
      · exact hT
    · simp only [List.length_append, List.length_cons] at hlen ⊢
      omega
  intro fuel
  induction fuel with
  | zero =>
    intro listed L pend a w _ _ _ _ _ _ _ _ hlen
    simp only [List.length_append, List.length_cons] at hlen
    omega
  | succ fuel ih =>
    intro listed L pend a w hs hsz hpl hql hnd1 hnd2 hL1 hL2 hlen1 hlen2 hp0 hp1 hp2 hcl hh
    refine ⟨fun hr => ?_, fun i hi => ?_⟩
    · have := ready_nil hE (fun x i h => ordX_sub h) hsz hL1 hp1 hr
      simp at this
    · obtain ⟨hlt, hnl, o, ho, _⟩ := ready_iff.1 hi
      have hmem := (hL1 i).2 ⟨hlt, hnl⟩
      by_cases hiL : i ∈ L
      · obtain ⟨M1, M2, rfl⟩ := List.append_of_mem hiL
        obtain ⟨hpair, hp0'⟩ := pairsOk_spec hp0 M1 i M2 rfl
        have e1 : M1 ++ i :: M2 ++ p :: r1 = M1 ++ i :: (M2 ++ p :: r1) := by simp
        have e2 : M1 ++ i :: M2 ++ q :: r2 = M1 ++ i :: (M2 ++ q :: r2) := by simp
        rw [e1] at hnd1 hL1 hlen1 hp1
        rw [e2] at hnd2 hL2 hlen2 hp2
        obtain ⟨n1, l1⟩ := left_set hsz hlt hnd1 hL1
        obtain ⟨n2, l2⟩ := left_set hsz hlt hnd2 hL2
        have hip : i ≠ p := fun e => by
          have := (List.perm_middle.nodup_iff).1 hnd1
          rw [List.nodup_cons] at this
          exact this.1 (by simp [e])
        have hiq : i ≠ q := fun e => by
          have := (List.perm_middle.nodup_iff).1 hnd2
          rw [List.nodup_cons] at this
          exact this.1 (by simp [e])
        refine any_step hZ ho (edgesOk_spec hE i o (by simpa using ho)).1 (fun x hx => ?_) hpair hh fun u w' hs' hd => ih _ (M1 ++ M2) pend _ w' (hs.trans hs') (by simpa using hsz) (by rw [getD_set (by omega), if_neg hip]; exact hpl) (by rw [getD_set (by omega), if_neg hiq]; exact hql)
          (by rw [List.append_assoc]; exact n1) (by rw [List.append_assoc]; exact n2) (by rw [List.append_assoc]; exact l1) (by rw [List.append_assoc]; exact l2) ?_ ?_ hp0' ?_ ?_ (shut_set hE hsz hcl hi) hd
        · have hxL := (hL1 x).1 (by simp [hx])
          cases hb : ordOf (beforeL ops) x i with
          | false => rfl
          | true =>
            have := before_ready hE hcl hi x hb
            rw [← getD_tf (by omega), hxL.2] at this
            cases this
        · simp only [List.length_append, List.length_cons] at hlen1 ⊢
          omega
        · simp only [List.length_append, List.length_cons] at hlen2 ⊢
          omega
        · rw [List.append_assoc]; exact (pairsOk_spec hp1 M1 i _ rfl).2
        · rw [List.append_assoc]; exact (pairsOk_spec hp2 M1 i _ rfl).2
      · have hcase : i = p ∨ i = q := by
          rcases List.mem_append.1 hmem with h | h
          · exact (hiL h).elim
          · rcases List.mem_cons.1 h with h | h
            · exact .inl h
            · have := hl1
              simp only [later, List.all_eq_true] at this
              have := this i h
              simp only [Bool.or_eq_true] at this
              rcases this with ((h | h) | h) | h
              · exact .inl (Nat.eq_of_beq_eq_true h)
              · exact .inr (Nat.eq_of_beq_eq_true h)
              · have := before_ready hE hcl hi p h
                rw [hpl] at this; cases this
              · have := before_ready hE hcl hi q h
                rw [hql] at this; cases this
        rcases hcase with rfl | rfl
        · refine take hqp hne fuel listed L pend a w hs hsz hnd1 hL1 hlen1 hp1 hcl hi (semD_append L pend a w.heap ?_)
          exact semD_ord (fun x i h => ordX_sub h) (fun _ _ _ h => h.1) L pend a w.heap hh
        · refine take hpq (Ne.symm hne) fuel listed L pend a w hs hsz hnd2 hL2 hlen2 hp2 hcl hi (semD_append L pend a w.heap ?_)
          exact semD_ord (fun x i h => ordX_sub h) (fun _ _ _ h => h.2) L pend a w.heap hh
end
end Go.Proofs.Ytmdhfmljgjnggaa
