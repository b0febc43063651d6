/- The operations' preconditions are enough: what reads memory, what changes it. No condition. -/
import Derived.Test.YtmdhfmljgjnggaaSound4
namespace Go.Proofs.Ytmdhfmljgjnggaa

section
variable {P : Program}
theorem opT_read {ty : Tmp → List TypeId} {o : Oper} {e : Env} {h : Hp} {K : Value → Hp → Prop} (hc : cls P o = 1) (hh : opT P ty o e h K) :
    ∃ v, K v h ∧ ∀ a, Agree e a → Yields P a.eval o h v := by
  obtain ⟨dst, op, type, pos, after, guard⟩ := o
  cases op <;> simp only [cls] at hc <;> try (cases hc; done)
  case load t x =>
    obtain ⟨v, hv, hk⟩ := wth_elim hh
    cases v <;> first | exact hk.elim | skip
    obtain ⟨ad, hp, hk1⟩ := wth_elim hk
    clear hk
    subst hp
    obtain ⟨u, hk, hu⟩ := loadT_val hk1
    refine ⟨u, hk, fun a ha => yields_sem rfl ?_⟩
    rw [ev_agree ha hv]
    exact hu
  case binOp op t x y yt =>
    obtain ⟨vx, hx, hh⟩ := wth_elim hh
    obtain ⟨vy, hy, hk⟩ := wth_elim hh
    cases hn : nilConst y with
    | true => simp [hn] at hc
    | false =>
      simp only [hn] at hk hc
      unfold binT at hk
      split at hk
      · rename_i hd; simp [hd] at hc
      · rename_i hd; simp [hd] at hc
      · rename_i hd; simp [hd] at hc
      · obtain ⟨b, hr, hk⟩ := hk
        refine ⟨_, hk, fun a ha => yields_runs rfl ?_⟩
        rw [ev_agree ha hx, ev_agree ha hy]
        exact hr
  case lookup t x i ok =>
    obtain ⟨v, hv, hk⟩ := wth_elim hh
    obtain ⟨vi, hi, hk⟩ := wth_elim hk
    unfold lookupT at hk
    split at hk
    · obtain ⟨u, b, hr, hk⟩ := exTy_elim P hk
      refine ⟨_, hk, fun a ha => yields_runs rfl ?_⟩
      rw [ev_agree ha hv, ev_agree ha hi]
      exact hr
    · obtain ⟨u, hr, hk⟩ := exTy_elim P hk
      refine ⟨_, hk, fun a ha => yields_runs rfl ?_⟩
      rw [ev_agree ha hv, ev_agree ha hi]
      exact hr
  case entry x =>
    obtain ⟨v, hv, hk⟩ := wth_elim hh
    obtain ⟨vs, hr, hk⟩ := exTys_elim P hk
    refine ⟨_, hk, fun a ha => yields_runs rfl ?_⟩
    rw [ev_agree ha hv]
    exact hr
  case convert s d x => split at hc <;> cases hc
  case call c =>
    obtain ⟨vs, hv, hk⟩ := wth_elim hh
    obtain ⟨callee, args, tys⟩ := c
    cases callee <;> simp only at hc <;> try (cases hc; done)
    rename_i b
    cases b <;> simp only at hc <;> try (cases hc; done)
    cases vs with
    | nil => exact hk.elim
    | cons v vs => cases vs with
      | cons w vs => exact hk.elim
      | nil =>
        change lenT P tys type v h K at hk
        unfold lenT at hk
        split at hk <;> try exact hk.elim
        · rename_i hd; simp [hd] at hc
        · rename_i hd; simp [hd] at hc
        · rename_i hd; simp [hd] at hc
        · rename_i hd; simp [hd] at hc
        · obtain ⟨n, hr, hk⟩ := hk
          refine ⟨_, hk, fun a ha w hw => ⟨.value (.int .i64 n), w, ?_, ⟨rfl, hw⟩, .refl w⟩⟩
          have he : execOp a.eval ⟨dst, .call ⟨.builtin .len, args, tys⟩, type, pos, after, guard⟩ = (do pure (.value (← Builtin.len_ tys type (args.map a.eval))) : Sem Next) := rfl
          rw [he, evs_map ha hv, Sem.run_bind, hr w hw]
          rfl
theorem opT_eff {ty : Tmp → List TypeId} {o : Oper} {e : Env} {h : Hp} {K : Value → Hp → Prop} (hh : opT P ty o e h K) {a : Act} (ha : Agree e a) : operWP P a.eval o h K := by
  by_cases h0 : cls P o = 0
  · obtain ⟨v, hk, hy⟩ := opT_pure h0 hh
    exact operWP_mono (by rintro u h' ⟨rfl, rfl⟩; exact hk) (hy h a ha)
  by_cases h1 : cls P o = 1
  · obtain ⟨v, hk, hy⟩ := opT_read h1 hh
    exact operWP_mono (by rintro u h' ⟨rfl, rfl⟩; exact hk) (hy a ha)
  obtain ⟨dst, op, type, pos, after, guard⟩ := o
  cases op <;> first | exact (h0 rfl).elim | exact (h1 rfl).elim | exact hh.elim | skip
  case alloc t =>
    obtain ⟨hz, hk⟩ := condP_iff.1 hh
    refine operWP_val rfl ?_
    simp only [Instr.alloc, semWP_bind, semWP_zeroValue hz, newVar, newRow, newObj, semWP_ret]
    exact letH_iff.1 hk
  case box t x =>
    obtain ⟨v, hv, hk⟩ := wth_elim hh
    refine operWP_val rfl ?_
    rw [ev_agree ha hv]
    exact letH_iff.1 hk
  case buildSlice t n ps =>
    obtain ⟨vs, hv, hk⟩ := wth_elim hh
    refine operWP_val rfl ?_
    rw [evPairs_map ha hv]
    exact buildSliceT_wp hk
  case insert t m k x =>
    obtain ⟨vm, hm, hk⟩ := wth_elim hh
    obtain ⟨vk, hkk, hk⟩ := wth_elim hk
    obtain ⟨vx, hx, hk⟩ := wth_elim hk
    refine operWP_unit rfl ?_
    rw [ev_agree ha hm, ev_agree ha hkk, ev_agree ha hx]
    exact hk
  case store t x y =>
    obtain ⟨v, hv, hk⟩ := wth_elim hh
    obtain ⟨u, hu, hk⟩ := wth_elim hk
    cases v <;> first | exact hk.elim | skip
    obtain ⟨ad, hp, hk1⟩ := wth_elim hk
    clear hk
    subst hp
    refine operWP_unit rfl ?_
    rw [ev_agree ha hv, ev_agree ha hu]
    exact storeT_wp (K := fun _ h' => K undef h') hk1
  case binOp op t x y yt =>
    exfalso
    cases hn : nilConst y with
    | true => exact h0 (by simp only [cls, hn])
    | false =>
      have : (match P.underlying t with | some (.int _) | some .string | some .bool => 0 | _ => 1) = 0 ∨ (match P.underlying t with | some (.int _) | some .string | some .bool => 0 | _ => 1) = 1 := by
        split <;> simp
      rcases this with h | h
      · exact h0 (by simp only [cls, hn]; exact h)
      · exact h1 (by simp only [cls, hn]; exact h)
  case convert s d x =>
    obtain ⟨v, hv, hk⟩ := wth_elim hh
    unfold convT at hk
    split at hk
    · rename_i hs hd; exact (h0 (by simp [cls, hs, hd])).elim
    · rename_i hs hd; exact (h0 (by simp [cls, hs, hd])).elim
    · refine operWP_val rfl ?_
      rw [ev_agree ha hv]
      refine semWP_mono _ _ _ _ (fun u h' hu => ?_) hk
      obtain ⟨w, rfl, hk⟩ := exTy_elim P hu
      exact hk
  case makeMap t r =>
    cases r with
    | some r => exact hh.elim
    | none => exact operWP_val rfl (letH_iff.1 hh)
  case makeSlice t l c =>
    obtain ⟨vl, hl, hk⟩ := wth_elim hh
    obtain ⟨vc, hc, hk⟩ := wth_elim hk
    refine operWP_val rfl ?_
    rw [ev_agree ha hl, ev_agree ha hc]
    refine semWP_mono _ _ _ _ (fun u h' hu => ?_) hk
    obtain ⟨p, n, c, rfl, hk⟩ := hu
    exact hk
  case mapUpdate t m k x =>
    obtain ⟨vm, hm, hk⟩ := wth_elim hh
    obtain ⟨vk, hkk, hk⟩ := wth_elim hk
    obtain ⟨vx, hx, hk⟩ := wth_elim hk
    refine operWP_unit rfl ?_
    rw [ev_agree ha hm, ev_agree ha hkk, ev_agree ha hx]
    exact hk
  case range t x =>
    obtain ⟨v, hv, hk⟩ := wth_elim hh
    refine operWP_val rfl ?_
    rw [ev_agree ha hv]
    refine semWP_mono _ _ _ _ (fun u h' hu => ?_) hk
    obtain ⟨r, rfl, hk⟩ := hu
    exact hk
  case next x b =>
    cases b with
    | true => exact hh.elim
    | false =>
      obtain ⟨v, hv, hk⟩ := wth_elim hh
      refine operWP_val rfl ?_
      rw [ev_agree ha hv]
      refine semWP_mono _ _ _ _ (fun u h' hu => ?_) hk
      obtain ⟨b, xs, rfl, hk⟩ := hu
      exact hk
  case call c =>
    obtain ⟨vs, hv, hk⟩ := wth_elim hh
    obtain ⟨callee, args, tys⟩ := c
    cases callee with
    | invoke r m => exact hk.elim
    | value f =>
      obtain ⟨fv, hf, hk⟩ := wth_elim hk
      cases fv <;> first | exact hk.elim | skip
      rename_i fn first cap
      cases fn <;> first | exact hk.elim | skip
      rename_i g
      have he : execOp a.eval ⟨dst, .call ⟨.value f, args, tys⟩, type, pos, after, guard⟩ = callFunc g (first ++ args.map a.eval ++ cap) := by
        have : execOp a.eval ⟨dst, .call ⟨.value f, args, tys⟩, type, pos, after, guard⟩ = (Deferred.ofValue (a.eval f) (args.map a.eval) >>= fun d => invoke d.target d.args) := rfl
        rw [this, ev_agree ha hf]
        rfl
      have hargs : first ++ args.map a.eval ++ cap = ⟨first.toList ++ vs ++ cap.toList⟩ := by
        rw [evs_map ha hv]
        apply Array.ext'
        simp
      rcases callT_wp hk with hw | hw
      · refine operWP_of_sem ?_
        rw [he, hargs]
        exact hw
      · intro w hh
        refine ⟨.enter g ⟨first.toList ++ vs ++ cap.toList⟩, w, ?_, ?_, .refl w⟩
        · rw [he, hargs]; exact hw.1 _ w
        · rw [hh]; exact hw
    | builtin b =>
      have hb : execOp a.eval ⟨dst, .call ⟨.builtin b, args, tys⟩, type, pos, after, guard⟩ = builtin b tys type (args.map fun | .const _ => true | _ => false) (args.map a.eval) := rfl
      rw [evs_map ha hv] at hb
      change builtinT P b tys type vs h K at hk
      unfold builtinT at hk
      split at hk
      · rename_i v
        unfold lenT at hk
        split at hk <;> try exact hk.elim
        · rename_i hd; exact (h0 (by simp [cls, hd])).elim
        · rename_i hd; exact (h0 (by simp [cls, hd])).elim
        · rename_i hd; exact (h0 (by simp [cls, hd])).elim
        · rename_i hd; exact (h0 (by simp [cls, hd])).elim
        · rename_i hd; exact (h1 (by simp [cls, hd])).elim
      · exact (h0 rfl).elim
      · exact (h0 rfl).elim
      · refine operWP_val hb (semWP_mono _ _ _ _ (fun u h' hu => ?_) hk)
        obtain ⟨p, n, c, rfl, hk⟩ := hu
        exact hk
      · refine operWP_val hb (semWP_mono _ _ _ _ (fun u h' hu => ?_) hk)
        obtain ⟨n, rfl, hk⟩ := hu
        exact hk
      · refine operWP_val hb (semWP_mono _ _ _ _ (fun u h' hu => ?_) hk)
        obtain ⟨rfl, hk⟩ := hu
        exact hk
      · refine operWP_val hb (semWP_mono _ _ _ _ (fun u h' hu => ?_) hk)
        obtain ⟨rfl, hk⟩ := hu
        exact hk
      · exact hk.elim
end
end Go.Proofs.Ytmdhfmljgjnggaa
