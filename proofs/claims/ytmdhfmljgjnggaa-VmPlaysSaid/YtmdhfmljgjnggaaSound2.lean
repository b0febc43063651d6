/- The operations' preconditions are enough, operation by operation. No condition. -/
import Derived.Test.YtmdhfmljgjnggaaSound
import Derived.Test.YtmdhfmljgjnggaaCode
namespace Go.Proofs.Ytmdhfmljgjnggaa

section
variable {P : Program}
/-- An operation that yields v and leaves memory alone. -/
def Yields (P : Program) (ρ : Operand → Value) (o : Oper) (h : Hp) (v : Value) : Prop := operWP P ρ o h fun u h' => u = v ∧ h' = h
theorem operWP_val {ρ : Operand → Value} {o : Oper} {h : Hp} {s : Sem Value} {K : Value → Hp → Prop} (he : execOp ρ o = (do pure (.value (← s)) : Sem Next)) (hs : semWP P s h K) : operWP P ρ o h K := by
  refine operWP_of_sem ?_
  rw [he, semWP_bind]
  exact hs
theorem operWP_unit {ρ : Operand → Value} {o : Oper} {h : Hp} {s : Sem Unit} {K : Value → Hp → Prop} (he : execOp ρ o = (do s; pure .skip : Sem Next)) (hs : semWP P s h fun _ h' => K undef h') : operWP P ρ o h K := by
  refine operWP_of_sem ?_
  rw [he, semWP_bind]
  exact hs
/-- A computation that runs to v. -/
theorem yields_runs {ρ : Operand → Value} {o : Oper} {h : Hp} {s : Sem Value} {v : Value} (he : execOp ρ o = (do pure (.value (← s)) : Sem Next)) (hs : RunsTo P s h v) : Yields P ρ o h v := by
  intro w hw
  refine ⟨.value v, w, ?_, ⟨rfl, hw⟩, .refl w⟩
  rw [he, Sem.run_bind, hs w hw]
  rfl
theorem kindEq_eq {a b : IntKind} (h : kindEq a b = true) : a = b := by simpa [kindEq] using h
theorem eqGuard_none {op : BinOp} {t : TypeId} {x y : Operand} {a b : Value} {h : Hp} {K : Unit → Hp → Prop}
    (hab : (∀ c d, a = .agg c → b = .agg d → False)) (hn : a = .nilIface → b = .nilIface → ∃ c, y = .const c) (hk : K () h) : semWP P (eqGuard op t x y a b) h K := by
  unfold eqGuard
  cases op <;> simp only [Bool.not_true, Bool.not_false, Bool.false_eq_true, if_false, if_true] <;> try exact hk
  all_goals
    split
    · obtain ⟨c, rfl⟩ := hn rfl rfl
      simp only [Bool.or_true, if_true]
      exact hk
    · rename_i c d
      exact (hab c d rfl rfl).elim
    · exact hk
theorem equal_def (t : TypeId) (x y : Value) : Op.equal t x y = Op.equalIn (9999 + 1) t x y := rfl
theorem nilT_val {t : TypeId} {v c : Value} {K : Bool → Prop} (hh : nilT (P.underlying t) v c K) :
    ∃ b, K b ∧ (∀ x d, v = .agg x → c = .agg d → False) ∧ (∀ h, semWP P (binOp .eql t v c) h (fun u h' => u = .bool b ∧ h' = h)) ∧
      (∀ h, semWP P (binOp .neq t v c) h (fun u h' => u = .bool (!b) ∧ h' = h)) := by
  have key : ∀ (b : Bool), (∀ (d : Nat) h, semWP P (Op.equalIn (d + 1) t v c) h (fun u h' => u = b ∧ h' = h)) → 
      (∀ h, semWP P (Op.equal t v c >>= fun r => pure (Value.bool r)) h (fun u h' => u = Value.bool b ∧ h' = h)) ∧
      (∀ h, semWP P (Op.equal t v c >>= fun r => pure (Value.bool (!r))) h (fun u h' => u = Value.bool (!b) ∧ h' = h)) := by
    intro b hb
    constructor <;> intro h <;> rw [semWP_bind, equal_def] <;> refine semWP_mono _ _ _ _ ?_ (hb 9999 h)
    · rintro _ _ ⟨rfl, rfl⟩; exact ⟨rfl, rfl⟩
    · rintro _ _ ⟨rfl, rfl⟩; exact ⟨rfl, rfl⟩
  unfold nilT at hh
  split at hh
  all_goals try exact hh.elim
  all_goals
    rename_i hd
    refine ⟨_, hh, (by intro x d h1 h2; cases h1), key _ ?_⟩
    intro d h
    simp only [Op.equalIn, semWP_bind, semWP_underlying hd]
    first
      | exact ⟨rfl, rfl⟩
      | (rename_i p; cases p <;> exact ⟨rfl, rfl⟩)
      | (rename_i p _ _ _ _; cases p <;> exact ⟨rfl, rfl⟩)
theorem intDT_int {op : BinOp} {k : IntKind} {a b : Int} {y : Operand} {t : TypeId} {K : Value → Prop} (hy : divConst op y = true) (hb : y = .const (.int k b)) (hh : intDT op k a b K) :
    ∃ v, K v ∧ ∀ h, semWP P (binOp op t (.int k a) (.int k b)) h (fun u h' => u = v ∧ h' = h) := by
  subst hb
  have hne : b ≠ 0 := by cases op <;> simp [divConst] at hy <;> exact hy
  cases op <;> simp only [intDT] at hh <;> try exact hh.elim
  all_goals
    refine ⟨_, hh, fun h => ?_⟩
    simp only [binOp, ne_eq, not_true, if_false, Op.intDiv, hne]
    exact ⟨rfl, rfl⟩
theorem intT_int {op : BinOp} {k : IntKind} {a b : Int} {t : TypeId} {K : Value → Prop} (hh : intT op k a b K) :
    ∃ v, K v ∧ ∀ h, semWP P (binOp op t (.int k a) (.int k b)) h (fun u h' => u = v ∧ h' = h) := by
  cases op <;> simp only [intT, intCmpT] at hh <;> try exact hh.elim
  case quo =>
    obtain ⟨hne, hh⟩ := hh
    refine ⟨_, hh, fun h => ?_⟩
    simp only [binOp, ne_eq, not_true, if_false, Op.intDiv, hne]
    exact ⟨rfl, rfl⟩
  case rem =>
    obtain ⟨hne, hh⟩ := hh
    refine ⟨_, hh, fun h => ?_⟩
    simp only [binOp, ne_eq, not_true, if_false, Op.intDiv, hne]
    exact ⟨rfl, rfl⟩
  all_goals
    refine ⟨_, hh, fun h => ?_⟩
    simp only [binOp, ne_eq, not_true, if_false, Op.intArith, Op.intCmp, Op.intBits]
    exact ⟨rfl, rfl⟩
theorem shiftT_int {op : BinOp} {k k' : IntKind} {a b : Int} {t : TypeId} {K : Value → Prop} (hh : shiftT op k a b K) :
    ∃ v, K v ∧ ∀ h, semWP P (binOp op t (.int k a) (.int k' b)) h (fun u h' => u = v ∧ h' = h) := by
  cases op <;> simp only [shiftT] at hh <;> try exact hh.elim
  all_goals
    obtain ⟨h0, hh⟩ := hh
    refine ⟨_, hh, fun h => ?_⟩
    simp only [binOp, Op.shift]
    rw [if_neg (by omega)]
    exact ⟨rfl, rfl⟩
theorem strT_str {op : BinOp} {a b : ByteArray} {t : TypeId} {K : Value → Prop} (hh : strT op a b K) :
    ∃ v, K v ∧ ∀ h, semWP P (binOp op t (.string a) (.string b)) h (fun u h' => u = v ∧ h' = h) := by
  cases op <;> simp only [strT] at hh <;> try exact hh.elim
  case add =>
    obtain ⟨hle, hh⟩ := hh
    refine ⟨_, hh, fun h => ?_⟩
    have hm : IntKind.i64.max = 9223372036854775807 := by decide
    simp only [binOp, Op.stringOp]
    rw [if_neg (by rw [hm]; omega)]
    exact ⟨rfl, rfl⟩
  all_goals
    refine ⟨_, hh, fun h => ?_⟩
    simp only [binOp, Op.stringOp]
    exact ⟨rfl, rfl⟩
theorem boolT_bool {op : BinOp} {a b : Bool} {t : TypeId} {K : Value → Prop} (hd : P.underlying t = some .bool)
    (hh : match op with | .eql => K (.bool (a == b)) | .neq => K (.bool (!(a == b))) | _ => False) :
    ∃ v, K v ∧ ∀ h, semWP P (binOp op t (.bool a) (.bool b)) h (fun u h' => u = v ∧ h' = h) := by
  cases op <;> simp only at hh <;> try exact hh.elim
  all_goals
    refine ⟨_, hh, fun h => ?_⟩
    have key : ∀ (d : Nat), semWP P (Op.equalIn (d + 1) t (.bool a) (.bool b)) h (fun u h' => u = (a == b) ∧ h' = h) := by
      intro d
      simp only [Op.equalIn, semWP_bind, semWP_underlying hd]
      exact ⟨rfl, rfl⟩
    simp only [binOp, semWP_bind, equal_def]
    refine semWP_mono _ _ _ _ ?_ (key 9999)
    rintro _ _ ⟨rfl, rfl⟩; exact ⟨rfl, rfl⟩
theorem unT_val {op : UnOp} {v : Value} {K : Value → Prop} (hh : unT op v K) : ∃ u, K u ∧ ∀ h, semWP P (Op.unary op v) h (fun x h' => x = u ∧ h' = h) := by
  unfold unT at hh
  split at hh
  · exact ⟨_, hh, fun h => ⟨rfl, rfl⟩⟩
  · exact ⟨_, hh, fun h => ⟨rfl, rfl⟩⟩
  · exact hh.elim
theorem structFields_get {t : TypeId} {f : Nat} {fd : Field} (hf : (structFields P t)[f]? = some fd) : ∃ fs, P.underlying t = some (.struct fs) ∧ fs[f]? = some fd := by
  unfold structFields at hf
  split at hf
  · rename_i fs hd
    exact ⟨fs, hd, by simpa using hf⟩
  · simp at hf
theorem fieldAddrT_val {t : TypeId} {v : Value} {f : Nat} {K : Value → Prop} (hh : fieldAddrT P t v f K) : ∃ u, K u ∧ ∀ h, semWP P (Instr.fieldAt t v f) h (fun x h' => x = u ∧ h' = h) := by
  unfold fieldAddrT at hh
  cases v <;> first | exact hh.elim | skip
  dsimp only at hh
  obtain ⟨a, hp, hh1⟩ := wth_elim hh
  clear hh
  subst hp
  obtain ⟨fd, hf, hh⟩ := wth_elim hh1
  obtain ⟨hc, hh⟩ := condP_iff.1 hh
  obtain ⟨fs, hd, hf'⟩ := structFields_get hf
  have hc' : P.cellsOf fd.type ≠ 0 := by intro h0; simp [h0] at hc
  refine ⟨_, hh, fun h => ?_⟩
  simp only [Instr.fieldAt, semWP_bind, semWP_underlying hd, hf', Instr.sureAddr, semWP_ret, fieldPlace, semWP_sizeOf_cells hc']
  rw [if_neg hc']
  exact ⟨rfl, rfl⟩
theorem extract_take (cs : Array Value) (a b : Nat) : cs.extract a (a + b) = ⟨(cs.toList.drop a).take b⟩ := by
  apply Array.ext'
  simp [Array.toList_extract, List.extract_eq_take_drop]
theorem fieldT_val {t : TypeId} {v : Value} {f : Nat} {K : Value → Prop} (hh : fieldT P t v f K) : ∃ u, K u ∧ ∀ h, semWP P (Instr.field t v f) h (fun x h' => x = u ∧ h' = h) := by
  unfold fieldT at hh
  cases v <;> first | exact hh.elim | skip
  rename_i cs
  dsimp only at hh
  obtain ⟨fd, hf, hh⟩ := wth_elim hh
  obtain ⟨fs, hd, hf'⟩ := structFields_get hf
  have key : ∀ {u : Value}, (∀ h, semWP P (part fd.type cs fd.offset) h (fun x h' => x = u ∧ h' = h)) → ∀ h, semWP P (Instr.field t (.agg cs) f) h (fun x h' => x = u ∧ h' = h) := by
    intro u hu h
    simp only [Instr.field, semWP_bind, semWP_underlying hd, hf', asAgg, semWP_ret]
    exact hu h
  split at hh
  · rcases shape_cases (P := P) fd.type with ⟨ss, hs⟩ | ⟨n, hs⟩ | hs | hs
    · simp only [hs] at hh
      obtain ⟨⟨fs', hd'⟩, hl⟩ := shape_agg hs
      refine ⟨_, hh, key fun h => ?_⟩
      simp only [part, semWP_bind, semWP_isAgg hd', show aggB P fd.type = true by simp [aggB, hd'], if_true, semWP_sizeOf hd', semWP_ret, and_true, extract_take]
    · simp only [hs] at hh
    · simp only [hs] at hh
    · obtain ⟨ha, d, hd'⟩ := shape_scalar hs
      have hh' : wth (cs.toList[fd.offset]?) K := by
        generalize shapeOf P fd.type = s at *
        cases s <;> first | (simp [Sh.scalar] at hs; done) | exact hh
      obtain ⟨u, hu, hk⟩ := wth_elim hh'
      refine ⟨u, hk, key fun h => ?_⟩
      have hu' : cs[fd.offset]? = some u := by simpa using hu
      simp only [part, semWP_bind, semWP_isAgg hd', ha, Bool.false_eq_true, if_false, hu', semWP_ret, and_self]
  · obtain ⟨u, hk, hu⟩ := partT_val hh
    exact ⟨u, hk, key hu⟩
theorem indexAddrT_val {t : TypeId} {x i : Value} {K : Value → Prop} (hh : indexAddrT P t x i K) : ∃ u, K u ∧ ∀ h, semWP P (Instr.indexAt t x i) h (fun x h' => x = u ∧ h' = h) := by
  unfold indexAddrT at hh
  cases i <;> first | exact hh.elim | skip
  rename_i k i
  dsimp only at hh
  split at hh
  · rename_i len el p hd
    obtain ⟨a, hp, hh1⟩ := wth_elim hh
    clear hh
    subst hp
    obtain ⟨h0, h1, hk⟩ := hh1
    obtain ⟨h2, hk⟩ := condP_iff.1 hk
    have h2 : P.cellsOf el ≠ 0 := by intro h0; simp [h0] at h2
    refine ⟨_, hk, fun h => ?_⟩
    simp only [Instr.indexAt, semWP_bind, asIntOf, semWP_ret, semWP_underlying hd, Instr.sureAddr]
    rw [if_pos ⟨h0, h1⟩]
    simp only [semWP_bind, semWP_sizeOf_cells h2, semWP_ret, and_self]
  · rename_i el p len cap hd
    obtain ⟨h0, h1, hh⟩ := hh
    obtain ⟨h2, hh⟩ := condP_iff.1 hh
    have h2 : P.cellsOf el ≠ 0 := by intro h0; simp [h0] at h2
    obtain ⟨a, hp, hh1⟩ := wth_elim hh
    clear hh
    subst hp
    refine ⟨_, hh1, fun h => ?_⟩
    simp only [Instr.indexAt, semWP_bind, asIntOf, semWP_ret, semWP_underlying hd]
    rw [if_pos ⟨h0, h1⟩]
    simp only [semWP_bind, semWP_sizeOf_cells h2, semWP_ret, and_self]
  · exact hh.elim
theorem indexT_val {t : TypeId} {x i : Value} {K : Value → Prop} (hh : indexT P t x i K) : ∃ u, K u ∧ ∀ h, semWP P (Instr.index t x i) h (fun x h' => x = u ∧ h' = h) := by
  unfold indexT at hh
  cases i <;> first | exact hh.elim | skip
  rename_i k i
  dsimp only at hh
  split at hh
  · rename_i len el cs hd
    obtain ⟨h0, h1, hh⟩ := hh
    obtain ⟨h2, hh⟩ := condP_iff.1 hh
    have h2 : P.cellsOf el ≠ 0 := by intro h0; simp [h0] at h2
    obtain ⟨u, hk, hu⟩ := partT_val hh
    refine ⟨u, hk, fun h => ?_⟩
    simp only [Instr.index, semWP_bind, asIntOf, semWP_ret, semWP_underlying hd]
    rw [if_pos ⟨h0, h1⟩]
    simp only [semWP_bind, semWP_sizeOf_cells h2]
    exact hu h
  · rename_i s hd
    obtain ⟨h0, b, hb, hk⟩ := hh
    refine ⟨_, hk, fun h => ?_⟩
    simp only [Instr.index, semWP_bind, asIntOf, semWP_ret, semWP_underlying hd, if_pos h0, hb, and_self]
  · exact hh.elim
theorem bound_int {v : Value} {d : Nat} {K : Nat → Prop} (hh : boundT (some v) d K) : ∃ k i, v = .int k i ∧ 0 ≤ i ∧ K i.toNat := by
  cases v <;> first | exact hh.elim | exact ⟨_, _, rfl, hh.1, hh.2⟩
theorem semWP_sliceBound {k : IntKind} {i : Int} {y : Nat} {code : BoundsCode} {h : Hp} {K : Nat → Hp → Prop} (h0 : 0 ≤ i) (h1 : i.toNat ≤ y) : semWP P (Instr.sliceBound (.int k i) y code) h K = K i.toNat h := by
  simp only [Instr.sliceBound, semWP_bind, asIntOf, semWP_ret]
  rw [if_pos ⟨h0, by omega⟩]
  rfl
theorem boundsT_val {isS : Bool} {len cap : Nat} {lo hi mx : Option Value} {K : Nat → Nat → Nat → Prop} (hmx : mx.isSome = true → hi.isSome = true) (hh : boundsT len cap lo hi mx K) :
    ∃ l h' m, K l h' m ∧ ∀ (h : Hp) (K' : Nat × Nat × Nat → Hp → Prop), K' (l, h', m) h → semWP P (Instr.sliceBounds isS len cap lo hi mx) h K' := by
  unfold boundsT at hh
  cases mx with
  | none =>
    cases hi with
    | none =>
      cases lo with
      | none => exact ⟨0, len, cap, hh, fun h K' hk => hk⟩
      | some v =>
        obtain ⟨k, i, rfl, h0, h1, hk⟩ := bound_int (v := v) (d := 0) (K := fun l => l ≤ len ∧ K l len cap) hh
        refine ⟨_, _, _, hk, fun h K' hk' => ?_⟩
        simp only [Instr.sliceBounds, semWP_bind, semWP_ret, semWP_sliceBound h0 h1]
        exact hk'
    | some u =>
      obtain ⟨k, i, rfl, h0, h1, hh⟩ := bound_int (v := u) (d := len) (K := fun r => r ≤ cap ∧ boundT lo 0 fun l => leT lo l r (K l r cap)) hh
      cases lo with
      | none =>
        refine ⟨_, _, _, hh, fun h K' hk' => ?_⟩
        simp only [Instr.sliceBounds, semWP_bind, semWP_ret, semWP_sliceBound h0 h1]
        exact hk'
      | some v =>
        obtain ⟨k', j, rfl, h2, h3, hk⟩ := bound_int (v := v) (d := 0) (K := fun l => l ≤ i.toNat ∧ K l i.toNat cap) hh
        refine ⟨_, _, _, hk, fun h K' hk' => ?_⟩
        simp only [Instr.sliceBounds, semWP_bind, semWP_ret, semWP_sliceBound h0 h1, semWP_sliceBound h2 h3]
        exact hk'
  | some w =>
    obtain ⟨k, i, rfl, h0, h1, hh⟩ := bound_int (v := w) (d := cap) (K := fun m => m ≤ cap ∧ boundT hi len fun r => leT hi r m (boundT lo 0 fun l => leT lo l r (K l r m))) hh
    cases hi with
    | none => simp at hmx
    | some u =>
      obtain ⟨k', j, rfl, h2, h3, hh⟩ := bound_int (v := u) (d := len) (K := fun r => r ≤ i.toNat ∧ boundT lo 0 fun l => leT lo l r (K l r i.toNat)) hh
      cases lo with
      | none =>
        refine ⟨_, _, _, hh, fun h K' hk' => ?_⟩
        simp only [Instr.sliceBounds, semWP_bind, semWP_ret, semWP_sliceBound h0 h1, semWP_sliceBound h2 h3]
        exact hk'
      | some v =>
        obtain ⟨k'', q, rfl, h4, h5, hk⟩ := bound_int (v := v) (d := 0) (K := fun l => l ≤ j.toNat ∧ K l j.toNat i.toNat) hh
        refine ⟨_, _, _, hk, fun h K' hk' => ?_⟩
        simp only [Instr.sliceBounds, semWP_bind, semWP_ret, semWP_sliceBound h0 h1, semWP_sliceBound h2 h3, semWP_sliceBound h4 h5]
        exact hk'
theorem sliceT_val {t : TypeId} {x : Value} {lo hi mx : Option Value} {K : Value → Prop} (hmx : mx.isSome = true → hi.isSome = true) (hh : sliceT P t x lo hi mx K) : ∃ u, K u ∧ ∀ h, semWP P (Instr.sliceAt t x lo hi mx) h (fun x h' => x = u ∧ h' = h) := by
  unfold sliceT at hh
  split at hh
  · rename_i s hd
    obtain ⟨h1, hh⟩ := condP_iff.1 hh
    have hm : mx = none := by simpa using h1
    subst hm
    obtain ⟨l, r, m, hk, hb⟩ := boundsT_val (P := P) (isS := false) (by simp) hh
    refine ⟨_, hk, fun h => ?_⟩
    simp only [Instr.sliceAt, semWP_bind, semWP_underlying hd, Instr.slice, Option.isSome_none, Bool.false_eq_true, if_false, semWP_ret]
    exact hb h _ ⟨rfl, rfl⟩
  · rename_i el p len cap hd
    obtain ⟨h1, hh⟩ := condP_iff.1 hh
    have hc : P.cellsOf el ≠ 0 := by intro h0; simp [h0] at h1
    obtain ⟨l, r, m, hk, hb⟩ := boundsT_val (P := P) (isS := true) hmx hh
    refine ⟨_, hk, fun h => ?_⟩
    simp only [Instr.sliceAt, semWP_bind, semWP_underlying hd, Instr.slice]
    refine hb h _ ?_
    simp only [semWP_sizeOf_cells hc]
    exact ⟨rfl, rfl⟩
  · rename_i n el p hd
    obtain ⟨h1, hh⟩ := condP_iff.1 hh
    have hc : P.cellsOf el ≠ 0 := by intro h0; simp [h0] at h1
    obtain ⟨a, hp, hh1⟩ := wth_elim hh
    clear hh
    subst hp
    obtain ⟨l, r, m, hk, hb⟩ := boundsT_val (P := P) (isS := false) hmx hh1
    refine ⟨_, hk, fun h => ?_⟩
    simp only [Instr.sliceAt, semWP_bind, semWP_underlying hd, Instr.sureAddr, semWP_ret]
    refine hb h _ ?_
    simp [semWP_sizeOf_cells hc]
  · exact hh.elim
end
end Go.Proofs.Ytmdhfmljgjnggaa
