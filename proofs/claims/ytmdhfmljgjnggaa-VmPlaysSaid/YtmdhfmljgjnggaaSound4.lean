/- The operations' preconditions are enough: all operations. No condition. -/
import Derived.Test.YtmdhfmljgjnggaaSound3
namespace Go.Proofs.Ytmdhfmljgjnggaa

section
variable {P : Program}
theorem evs_map {e : Env} {a : Act} (ha : Agree e a) {xs : Array Operand} {vs : List Value} (h : e.evs xs.toList = some vs) : xs.map a.eval = ⟨vs⟩ := by
  apply Array.ext'
  rw [Array.toList_map, evs_agree ha h]
theorem evPairs_map {e : Env} {a : Act} (ha : Agree e a) {xs : Array (Nat × Operand)} {vs : List (Nat × Value)} (h : evPairs e xs.toList = some vs) : (xs.map fun (i, x) => (i, a.eval x)) = ⟨vs⟩ := by
  apply Array.ext'
  rw [Array.toList_map]
  exact evPairs_agree ha h
theorem opt_agree {e : Env} {a : Act} (ha : Agree e a) {x : Option Operand} (h : ∀ y, x = some y → ∃ v, e.ev y = some v) : x.bind e.ev = x.map a.eval := by
  cases x with
  | none => rfl
  | some y =>
    obtain ⟨v, hv⟩ := h y rfl
    simp only [Option.bind_some, Option.map_some, hv, ev_agree ha hv]
theorem evs_mem {e : Env} : ∀ {xs : List Operand} {vs : List Value}, e.evs xs = some vs → ∀ x ∈ xs, ∃ v, e.ev x = some v := by
  intro xs
  induction xs with
  | nil => intro vs _ x hx; cases hx
  | cons y xs ih =>
    intro vs h x hx
    simp only [Env.evs] at h
    cases hy : e.ev y with
    | none => simp [hy] at h
    | some v =>
      cases hxs : e.evs xs with
      | none => simp [hy, hxs] at h
      | some us =>
        rcases List.mem_cons.1 hx with rfl | hx
        · exact ⟨v, hy⟩
        · exact ih hxs x hx
/-- From a computation of a value that leaves memory alone. -/
theorem yields_sem {ρ : Operand → Value} {o : Oper} {s : Sem Value} {v : Value} {h : Hp} (he : execOp ρ o = (do pure (.value (← s)) : Sem Next)) (hs : semWP P s h (fun u h' => u = v ∧ h' = h)) : Yields P ρ o h v :=
  operWP_val he hs

theorem binT_pure {op : BinOp} {t : TypeId} {x y : Operand} {vx vy : Value} {h : Hp} {K : Value → Hp → Prop} (hy : ∀ c, y = .const c → c = vy)
    (hc : match P.underlying t with | some (.int _) | some .string | some .bool => True | _ => False) (hh : binT P op t x y vx vy h K) :
    ∃ v, K v h ∧ ∀ h2, semWP P (do eqGuard op t x y vx vy; binOp op t vx vy) h2 (fun u h' => u = v ∧ h' = h2) := by
  have fin : ∀ {v : Value}, (∀ c d, vx = .agg c → vy = .agg d → False) → (vx ≠ .nilIface) → (∀ h, semWP P (binOp op t vx vy) h (fun u h' => u = v ∧ h' = h)) → ∀ h2, semWP P (do eqGuard op t x y vx vy; binOp op t vx vy) h2 (fun u h' => u = v ∧ h' = h2) := by
    intro v h1 h2 h3 h4
    rw [semWP_bind]
    exact eqGuard_none h1 (fun e => (h2 e).elim) (h3 h4)
  unfold binT at hh
  split at hh
  · cases vx <;> cases vy <;> first | exact hh.elim | skip
    cases hsf : isShift op with
    | true =>
      simp only [hsf] at hh
      obtain ⟨v, hk, hv⟩ := shiftT_int (P := P) (t := t) hh
      exact ⟨v, hk, fin (by intro c d h; cases h) (by intro h; cases h) hv⟩
    | false =>
    simp only [hsf] at hh
    obtain ⟨hk, hh1⟩ := condP_iff.1 hh
    clear hh
    obtain rfl := kindEq_eq hk
    split at hh1
    · rename_i hd
      obtain ⟨c, rfl⟩ : ∃ c, y = .const c := by
        unfold divConst at hd
        split at hd <;> first | exact ⟨_, rfl⟩ | cases hd
      obtain rfl := hy c rfl
      obtain ⟨v, hk, hv⟩ := intDT_int (P := P) (t := t) hd rfl hh1
      exact ⟨v, hk, fin (by intro c d h; cases h) (by intro h; cases h) hv⟩
    · obtain ⟨v, hk, hv⟩ := intT_int (P := P) (t := t) hh1
      exact ⟨v, hk, fin (by intro c d h; cases h) (by intro h; cases h) hv⟩
  · cases vx <;> cases vy <;> first | exact hh.elim | skip
    obtain ⟨v, hk, hv⟩ := strT_str (P := P) (t := t) hh
    exact ⟨v, hk, fin (by intro c d h; cases h) (by intro h; cases h) hv⟩
  · rename_i hd
    cases vx <;> cases vy <;> first | exact hh.elim | skip
    obtain ⟨v, hk, hv⟩ := boolT_bool (P := P) (t := t) hd (K := fun v => K v h) hh
    exact ⟨v, hk, fin (by intro c d h; cases h) (by intro h; cases h) hv⟩
  · rename_i h1 h2 h3
    split at hc <;> first | exact hc.elim | skip
    · exact (h1 _ (by assumption)).elim
    · exact (h2 (by assumption)).elim
    · exact (h3 (by assumption)).elim

theorem opT_pure {ty : Tmp → List TypeId} {o : Oper} {e : Env} {h : Hp} {K : Value → Hp → Prop} (hc : cls P o = 0) (hh : opT P ty o e h K) :
    ∃ v, K v h ∧ ∀ h2 a, Agree e a → Yields P a.eval o h2 v := by
  obtain ⟨dst, op, type, pos, after, guard⟩ := o
  cases op <;> simp only [cls] at hc <;> try (cases hc; done)
  case move x =>
    obtain ⟨v, hv, hk⟩ := wth_elim hh
    refine ⟨v, hk, fun h2 a ha => ?_⟩
    obtain rfl := ev_agree ha hv
    exact operWP_of_sem ⟨rfl, rfl⟩
  case assign x =>
    obtain ⟨v, hv, hk⟩ := wth_elim hh
    refine ⟨v, hk, fun h2 a ha => ?_⟩
    obtain rfl := ev_agree ha hv
    exact operWP_of_sem ⟨rfl, rfl⟩
  case pick c x y =>
    obtain ⟨v, hv, hk⟩ := wth_elim hh
    cases v <;> first | exact hk.elim | skip
    rename_i t
    cases t
    · obtain ⟨u, hu, hk⟩ := wth_elim hk
      refine ⟨u, hk, fun h2 a ha => ?_⟩
      refine operWP_of_sem ?_
      simp only [execOp, ev_agree ha hv, ev_agree ha hu]
      exact ⟨rfl, rfl⟩
    · obtain ⟨u, hu, hk⟩ := wth_elim hk
      refine ⟨u, hk, fun h2 a ha => ?_⟩
      refine operWP_of_sem ?_
      simp only [execOp, ev_agree ha hv, ev_agree ha hu]
      exact ⟨rfl, rfl⟩
  case build t ps =>
    obtain ⟨vs, hv, hk⟩ := wth_elim hh
    obtain ⟨v, hk, hs⟩ := buildT_val hk
    refine ⟨v, hk, fun h2 a ha => yields_sem rfl ?_⟩
    rw [evPairs_map ha hv]
    exact hs h2
  case nilCheck x =>
    obtain ⟨v, hv, hk⟩ := wth_elim hh
    cases v <;> first | exact hk.elim | skip
    · obtain ⟨ad, hp, hk1⟩ := wth_elim hk
      clear hk
      subst hp
      refine ⟨_, hk1, fun h2 a ha => operWP_of_sem ?_⟩
      simp only [execOp, ev_agree ha hv]
      exact ⟨rfl, rfl⟩
    · rename_i fn first cap
      cases fn <;> first | exact hk.elim | skip
      refine ⟨_, hk, fun h2 a ha => operWP_of_sem ?_⟩
      simp only [execOp, ev_agree ha hv]
      exact ⟨rfl, rfl⟩
  case binOp op t x y yt =>
    obtain ⟨vx, hx, hh⟩ := wth_elim hh
    obtain ⟨vy, hy, hk⟩ := wth_elim hh
    cases hn : nilConst y with
    | true =>
      simp only [hn] at hk
      have hyc : y = .const vy := by
        unfold nilConst at hn
        split at hn <;> first | (simp only [Env.ev, Option.some.injEq] at hy; rw [← hy]) | cases hn
      cases op <;> simp only [nilBinT] at hk <;> try exact hk.elim
      · obtain ⟨b, hk, h1, h2, h3⟩ := nilT_val hk
        refine ⟨_, hk, fun hp a ha => yields_sem rfl ?_⟩
        rw [ev_agree ha hx, ev_agree ha hy, semWP_bind]
        exact eqGuard_none h1 (fun _ _ => ⟨_, hyc⟩) (h2 hp)
      · obtain ⟨b, hk, h1, h2, h3⟩ := nilT_val hk
        refine ⟨_, hk, fun hp a ha => yields_sem rfl ?_⟩
        rw [ev_agree ha hx, ev_agree ha hy, semWP_bind]
        exact eqGuard_none h1 (fun _ _ => ⟨_, hyc⟩) (h3 hp)
    | false =>
      simp only [hn] at hk hc
      obtain ⟨v, hk, hv⟩ := binT_pure (by rintro c rfl; simp only [Env.ev, Option.some.injEq] at hy; exact hy) (by split at hc <;> first | (simp only [*]; done) | cases hc) hk
      refine ⟨v, hk, fun hp a ha => yields_sem rfl ?_⟩
      rw [ev_agree ha hx, ev_agree ha hy]
      exact hv hp
  case unOp op t x =>
    obtain ⟨v, hv, hk⟩ := wth_elim hh
    obtain ⟨u, hk, hu⟩ := unT_val (P := P) hk
    refine ⟨u, hk, fun h2 a ha => yields_sem rfl ?_⟩
    rw [ev_agree ha hv]
    exact hu h2
  case convert s d x =>
    obtain ⟨v, hv, hk⟩ := wth_elim hh
    unfold convT at hk
    split at hk
    · rename_i k1 k2 hs hd
      cases v <;> first | exact hk.elim | skip
      refine ⟨_, hk, fun h2 a ha => yields_sem rfl ?_⟩
      rw [ev_agree ha hv]
      simp only [convert, semWP_bind, semWP_underlying hs, semWP_underlying hd]
      exact ⟨rfl, rfl⟩
    · rename_i hs hd
      cases v <;> first | exact hk.elim | skip
      refine ⟨_, hk, fun h2 a ha => yields_sem rfl ?_⟩
      rw [ev_agree ha hv]
      simp only [convert, semWP_bind, semWP_underlying hs, semWP_underlying hd]
      exact ⟨rfl, rfl⟩
    · rename_i h1 h2
      exfalso
      split at hc
      · exact h1 _ _ (by assumption) (by assumption)
      · exact h2 (by assumption) (by assumption)
      · cases hc
  case makeInterface t x =>
    obtain ⟨v, hv, hk⟩ := wth_elim hh
    cases hd : P.underlying t with
    | none => simp only [hd] at hk
    | some d =>
      simp only [hd] at hk
      have hk' : K (.iface t v) h := by cases d <;> first | exact hk.elim | exact hk
      have hni : ∀ ms, d ≠ .interface ms := by rintro ms rfl; exact hk.elim
      refine ⟨_, hk', fun h2 a ha => yields_sem rfl ?_⟩
      rw [ev_agree ha hv]
      simp only [Instr.makeInterface, semWP_bind, semWP_underlying hd]
      cases d <;> first | exact (hni _ rfl).elim | exact ⟨rfl, rfl⟩
  case makeFunc fn first cap =>
    obtain ⟨vs, hv, hk⟩ := wth_elim hh
    obtain ⟨us, hu, hk⟩ := wth_elim hk
    refine ⟨_, hk, fun h2 a ha => yields_sem rfl ?_⟩
    rw [evs_map ha hv, evs_map ha hu]
    exact ⟨rfl, rfl⟩
  case slice t x lo hi mx =>
    obtain ⟨v, hv, hk⟩ := wth_elim hh
    obtain ⟨us, hu, hk⟩ := wth_elim hk
    obtain ⟨hm, hk⟩ := condP_iff.1 hk
    have hmem := evs_mem hu
    have hopt : ∀ {a : Act}, Agree e a → lo.bind e.ev = lo.map a.eval ∧ hi.bind e.ev = hi.map a.eval ∧ mx.bind e.ev = mx.map a.eval := by
      intro a ha
      refine ⟨opt_agree ha ?_, opt_agree ha ?_, opt_agree ha ?_⟩ <;> rintro y rfl <;> exact hmem y (by simp)
    obtain ⟨u, hk, hs⟩ := sliceT_val (by
      intro hms
      cases mx with
      | none => simp at hms
      | some m =>
        cases hi with
        | none => simp at hm
        | some q => obtain ⟨v, hv⟩ := hmem q (by simp); simp [hv]) hk
    refine ⟨u, hk, fun h2 a ha => yields_sem rfl ?_⟩
    obtain ⟨h3, h4, h5⟩ := hopt ha
    rw [ev_agree ha hv, ← h3, ← h4, ← h5]
    exact hs h2
  case fieldAddr t x f =>
    obtain ⟨v, hv, hk⟩ := wth_elim hh
    obtain ⟨u, hk, hu⟩ := fieldAddrT_val hk
    refine ⟨u, hk, fun h2 a ha => yields_sem rfl ?_⟩
    rw [ev_agree ha hv]
    exact hu h2
  case field t x f =>
    obtain ⟨v, hv, hk⟩ := wth_elim hh
    obtain ⟨u, hk, hu⟩ := fieldT_val hk
    refine ⟨u, hk, fun h2 a ha => yields_sem rfl ?_⟩
    rw [ev_agree ha hv]
    exact hu h2
  case indexAddr t x i =>
    obtain ⟨v, hv, hk⟩ := wth_elim hh
    obtain ⟨vi, hi, hk⟩ := wth_elim hk
    obtain ⟨u, hk, hu⟩ := indexAddrT_val hk
    refine ⟨u, hk, fun h2 a ha => yields_sem rfl ?_⟩
    rw [ev_agree ha hv, ev_agree ha hi]
    exact hu h2
  case index t x i =>
    obtain ⟨v, hv, hk⟩ := wth_elim hh
    obtain ⟨vi, hi, hk⟩ := wth_elim hk
    obtain ⟨u, hk, hu⟩ := indexT_val hk
    refine ⟨u, hk, fun h2 a ha => yields_sem rfl ?_⟩
    rw [ev_agree ha hv, ev_agree ha hi]
    exact hu h2
  case typeAssert x xt t ok =>
    obtain ⟨v, hv, hk⟩ := wth_elim hh
    obtain ⟨u, hk, hu⟩ := assertT_val (xt := xt) hk
    refine ⟨u, hk, fun h2 a ha => yields_sem rfl ?_⟩
    rw [ev_agree ha hv]
    exact hu h2
  case extract x i =>
    obtain ⟨v, hv, hk⟩ := wth_elim hh
    cases v <;> first | exact hk.elim | skip
    obtain ⟨u, hu, hk⟩ := wth_elim hk
    refine ⟨u, hk, fun h2 a ha => yields_sem rfl ?_⟩
    rw [ev_agree ha hv]
    simp only [Instr.extract]
    simp only [Array.getElem?_toList] at hu
    rw [hu]
    exact ⟨rfl, rfl⟩
  case call c =>
    obtain ⟨vs, hv, hk⟩ := wth_elim hh
    obtain ⟨callee, args, tys⟩ := c
    cases callee <;> simp only at hc <;> try (cases hc; done)
    rename_i b
    have fin : ∀ {u : Value}, (∀ cs h2, semWP P (builtin b tys type cs ⟨vs⟩) h2 (fun n h' => nextWP P n h' fun x h'' => x = u ∧ h'' = h2)) → ∀ h2 a, Agree e a → Yields P a.eval ⟨dst, .call ⟨.builtin b, args, tys⟩, type, pos, after, guard⟩ h2 u := by
      intro u hu h2 a ha
      refine operWP_of_sem ?_
      have he : execOp a.eval ⟨dst, .call ⟨.builtin b, args, tys⟩, type, pos, after, guard⟩ = builtin b tys type (args.map fun | .const _ => true | _ => false) (args.map a.eval) := rfl
      rw [he, evs_map ha hv]
      exact hu _ h2
    cases b <;> simp only at hc <;> try (cases hc; done)
    · cases vs with
      | nil => exact hk.elim
      | cons v vs => cases vs with
        | cons w vs => exact hk.elim
        | nil =>
          have hm : ∀ k el, und0 P tys ≠ some (.map k el) := by intro k el he; simp [he] at hc
          obtain ⟨u, hk', _⟩ := lenT_pure (cs := #[]) hm hk
          obtain ⟨u2, hk2, hu2⟩ : ∃ u, K u h ∧ ∀ cs h2, semWP P (builtin .len tys type cs ⟨[v]⟩) h2 (fun n h' => nextWP P n h' fun x h'' => x = u ∧ h'' = h2) := by
            obtain ⟨u, h1, h2⟩ := lenT_pure (cs := #[]) hm hk
            exact ⟨u, h1, fun cs h3 => h2 h3⟩
          exact ⟨u2, hk2, fin hu2⟩
    · cases vs with
      | nil => exact hk.elim
      | cons v vs => cases vs with
        | nil => exact hk.elim
        | cons w vs => cases vs with
          | cons x vs => exact hk.elim
          | nil =>
            obtain ⟨u, h1, h2⟩ := minT_pure (P := P) (tys := tys) (t := type) (cs := #[]) (mx := true) hk
            exact ⟨u, h1, fin fun cs h3 => h2 h3⟩
    · cases vs with
      | nil => exact hk.elim
      | cons v vs => cases vs with
        | nil => exact hk.elim
        | cons w vs => cases vs with
          | cons x vs => exact hk.elim
          | nil =>
            obtain ⟨u, h1, h2⟩ := minT_pure (P := P) (tys := tys) (t := type) (cs := #[]) (mx := false) hk
            exact ⟨u, h1, fin fun cs h3 => h2 h3⟩
end
end Go.Proofs.Ytmdhfmljgjnggaa
