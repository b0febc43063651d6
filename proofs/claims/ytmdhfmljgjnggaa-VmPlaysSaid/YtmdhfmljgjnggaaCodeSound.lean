/- The precondition of a function's code is enough. No condition. -/
import Derived.Test.YtmdhfmljgjnggaaDraw
namespace Go.Proofs.Ytmdhfmljgjnggaa

/-- The frame agrees with what is known. -/
structure St (n : Nat) (e : Env) (a : Act) : Prop where
  agree : Agree e a
  size : a.tmps.size = n
  defers : a.defers = []
/-- Outside some slots the frame is as it was. -/
def Keep (ws : List Tmp) (a a' : Act) : Prop := ∀ t, t ∉ ws → a'.tmps[t]? = a.tmps[t]?
theorem Keep.refl (ws : List Tmp) (a : Act) : Keep ws a a := fun _ _ => rfl
theorem Keep.trans {ws : List Tmp} {a b c : Act} (h : Keep ws a b) (h' : Keep ws b c) : Keep ws a c := fun t ht => (h' t ht).trans (h t ht)
theorem Keep.mono {ws vs : List Tmp} {a b : Act} (h : Keep ws a b) (hs : ∀ t ∈ ws, t ∈ vs) : Keep vs a b := fun t ht => h t fun hm => ht (hs t hm)
theorem Keep.put {ws : List Tmp} {a : Act} {d : Option Tmp} {v : Value} (hd : ∀ t, d = some t → t ∈ ws) : Keep ws a (a.put d v) := by
  intro t ht
  cases d with
  | none => rfl
  | some d =>
    have hne : d ≠ t := fun e => ht (e ▸ hd d rfl)
    simp [Act.put, Array.getElem?_setIfInBounds_ne hne]
theorem put_defers (a : Act) (d : Option Tmp) (v : Value) : (a.put d v).defers = a.defers := by cases d <;> rfl
theorem put_size (a : Act) (d : Option Tmp) (v : Value) : (a.put d v).tmps.size = a.tmps.size := by cases d <;> simp [Act.put]
theorem St.put {n : Nat} {e : Env} {a : Act} (h : St n e a) {d : Option Tmp} {v : Value} (hd : dstOk n d = true) : St n (e.put d v) (a.put d v) := by
  refine ⟨?_, (put_size a d v).trans h.size, (put_defers a d v).trans h.defers⟩
  cases d with
  | none => exact h.agree
  | some d =>
    intro t u hu
    simp only [Env.put, Env.get] at hu
    split at hu
    · rename_i hb
      have := Nat.eq_of_beq_eq_true hb
      subst this
      simp only [Option.some.injEq] at hu
      subst hu
      simp only [dstOk, Nat.blt_eq] at hd
      simp [Act.put, h.size, hd]
    · rename_i hb
      have hne : d ≠ t := by intro he; subst he; simp at hb
      simp only [Act.put, Array.getElem?_setIfInBounds_ne hne]
      exact h.agree t u hu
theorem St.know {n : Nat} {e : Env} {a : Act} (h : St n e a) {t : Tmp} {v : Value} (hv : e.get t = some v) : St n ((t, v) :: e) a := by
  refine ⟨?_, h.size, h.defers⟩
  intro u x hx
  simp only [Env.get] at hx
  split at hx
  · rename_i hb
    have := Nat.eq_of_beq_eq_true hb
    subst this
    simp only [Option.some.injEq] at hx
    subst hx
    exact h.agree _ _ hv
  · exact h.agree u x hx

section
variable {P : Program} {n : Nat} {ann : Ann}
theorem stepT_open {ops : Array Oper} {o : Oper} {e : Env} {h : Hp} {K : Bool → Env → Env → Value → Hp → Prop} {a : Act} (hst : St n e a) (hh : stepT P n ann ops o e h K) :
    dstOk n o.dst = true ∧ ∃ e0, St n e0 a ∧ ((Region.wanted o (yielded ops a.tmps) = true ∧ opT P ann.ty o e0 h fun v h' => K true e0 (e0.put o.dst v) v h') ∨
      (Region.wanted o (yielded ops a.tmps) = false ∧ K false e0 (e0.put o.dst undef) undef h)) := by
  unfold stepT at hh
  obtain ⟨hd, hh⟩ := condP_iff.1 hh
  refine ⟨hd, ?_⟩
  cases hg : o.guard with
  | none =>
    simp only [hg] at hh
    exact ⟨e, hst, .inl ⟨by simp [Region.wanted, hg], hh⟩⟩
  | some jw =>
    obtain ⟨j, want⟩ := jw
    simp only [hg] at hh
    obtain ⟨t, ht, hh⟩ := wth_elim hh
    obtain ⟨gv, hgv, hh⟩ := wth_elim hh
    have hyg : ∀ r : Option Bool, (match gv with | .bool b => some b | _ => none) = r → yielded ops a.tmps j = r := by
      intro r hr
      have h1 := hst.agree t _ hgv
      unfold guardTmp at ht
      unfold yielded
      rw [Array.getElem?_toList] at ht
      cases hj : ops[j]? with
      | none => simp [hj] at ht
      | some oj =>
        simp only [hj] at ht
        simp only [Option.bind_some, ht, h1]
        rw [← hr]
        cases gv <;> rfl
    cases gv <;> first | exact hh.elim | skip
    rotate_left
    · have hy := hyg none rfl
      have hw : Region.wanted o (yielded ops a.tmps) = false := by simp [Region.wanted, hg, hy]
      exact ⟨e, hst, .inr ⟨hw, hh⟩⟩
    rename_i b
    have hy : yielded ops a.tmps j = some b := hyg _ rfl
    have hw : Region.wanted o (yielded ops a.tmps) = (some b == some want) := by simp [Region.wanted, hg, hy]
    have hst' := hst.know hgv
    refine ⟨_, hst', ?_⟩
    cases b <;> cases want <;> simp only [iteP, Bool.xor_false, Bool.xor_true, Bool.not_true, Bool.not_false] at hh
    · exact .inl ⟨by rw [hw]; rfl, hh⟩
    · exact .inr ⟨by rw [hw]; rfl, hh⟩
    · exact .inr ⟨by rw [hw]; rfl, hh⟩
    · exact .inl ⟨by rw [hw]; rfl, hh⟩
theorem dstsOf_cons (o : Oper) (os : List Oper) : (∀ t, o.dst = some t → t ∈ dstsOf (o :: os)) ∧ ∀ t ∈ dstsOf os, t ∈ dstsOf (o :: os) := by
  cases hd : o.dst with
  | none => simp [dstsOf, hd]
  | some d => simp only [dstsOf, hd]; exact ⟨fun t ht => by cases ht; simp, fun t ht => List.mem_cons_of_mem _ ht⟩
theorem regT_sound {ops : Array Oper} {Q : Exit → Act → World → Prop} {K : Env → Hp → Prop} : ∀ (os : List Oper) (k : Nat) (e : Env) (a : Act) (w : World), ops.toList.drop k = os → St n e a → regT P n ann ops os e w.heap K →
    (∀ e' a' w', St n e' a' → Keep (dstsOf os) a a' → Same w w' → K e' w'.heap → Q .normal a' w') → wpOps P ops Q (List.range' k os.length) a w := by
  intro os
  induction os with
  | nil => intro k e a w _ hst hh hQ; exact hQ e a w hst (.refl _ _) (.refl _) hh
  | cons o os ih =>
    intro k e a w hdrop hst hh hQ
    have ho : ops[k]? = some o := by
      have := congrArg (fun l => l[0]?) hdrop
      simpa using this
    have hdrop' : ops.toList.drop (k + 1) = os := by
      rw [← List.drop_drop, hdrop]; rfl
    obtain ⟨hd, e0, hst0, hh⟩ := stepT_open hst hh
    obtain ⟨hd1, hd2⟩ := dstsOf_cons o os
    simp only [List.length_cons, List.range'_succ, wpOps, ho]
    have hnext : ∀ v w', Same w w' → regT P n ann ops os (e0.put o.dst v) w'.heap K → wpOps P ops Q (List.range' (k + 1) os.length) (a.put o.dst v) w' := by
      intro v w' hs hk
      refine ih (k + 1) _ _ w' hdrop' (hst0.put hd) hk fun e' a' w'' h1 h2 h3 h4 => hQ e' a' w'' h1 ?_ (hs.trans h3) h4
      exact (Keep.put hd1).trans (h2.mono hd2)
    rcases hh with ⟨hw, hk⟩ | ⟨hw, hk⟩
    · rw [if_pos hw]
      refine .inl (Oper.wp_mono ?_ (oper_wp (Q := Q) (opT_eff hk hst0.agree)))
      rintro a' w' ⟨v, rfl, hk, hs⟩
      exact hnext v w' hs hk
    · rw [if_neg (by simp [hw])]
      exact hnext undef w (.refl w) hk

theorem cls_cases (o : Oper) : cls P o = 0 ∨ cls P o = 1 ∨ cls P o = 2 := by
  unfold cls
  split <;> try (simp; done)
  · split
    · simp
    · split <;> simp
  · split <;> simp
  · split
    · split <;> simp
    · simp
    · simp
    · simp
theorem chk_spec {ord : Nat → Nat → Bool} {i : Nat} {h : Hp} {X : Prop} : ∀ {ps : List (Nat × (Hp → Prop))}, chk ord i ps h X → (∀ p ∈ ps, ord p.1 i = false → p.2 h) ∧ X := by
  intro ps
  induction ps with
  | nil => intro hh; exact ⟨by simp, hh⟩
  | cons p ps ih =>
    intro hh
    obtain ⟨r, φ⟩ := p
    simp only [chk] at hh
    split at hh
    · rename_i ho
      obtain ⟨h1, h2⟩ := ih hh
      refine ⟨fun p hp hof => ?_, h2⟩
      rcases List.mem_cons.1 hp with rfl | hp
      · rw [ho] at hof; cases hof
      · exact h1 p hp hof
    · obtain ⟨hφ, hh⟩ := hh
      obtain ⟨h1, h2⟩ := ih hh
      refine ⟨fun p hp hof => ?_, h2⟩
      rcases List.mem_cons.1 hp with rfl | hp
      · exact hφ
      · exact h1 p hp hof

theorem regD_sem {ops : Array Oper} {ord : Nat → Nat → Bool} {K : Env → Hp → Prop} (hsel : ∀ (i : Nat) (o : Oper), ops[i]? = some o → ∀ cs b, o.op ≠ Op.select cs b) {a0 : Act} :
    ∀ (L : List Nat) (pT pS : List (Nat × (Hp → Prop))) (e : Env) (a : Act) (h : Hp), St n e a → Keep (dstsOf ops.toList) a0 a → (∀ s ∈ pS, (∀ h, s.2 h) ∨ ∃ t ∈ pT, t.1 = s.1 ∧ ∀ h, t.2 h → s.2 h) → regD P n ann ord ops L pT e h K →
      semD P ops ord L pS a h (fun a' h' => ∃ e', St n e' a' ∧ Keep (dstsOf ops.toList) a0 a' ∧ K e' h') := by
  intro L
  induction L with
  | nil => intro pT pS e a h hst hkp _ hh; exact ⟨e, hst, hkp, hh⟩
  | cons i L ih =>
    intro pT pS e a h hst hkp hp hh
    simp only [regD] at hh
    obtain ⟨o, ho, hh⟩ := wth_elim hh
    have ho' : ops[i]? = some o := by simpa using ho
    obtain ⟨hd, e0, hst0, hh⟩ := stepT_open hst hh
    have hmem : ∀ t, o.dst = some t → t ∈ dstsOf ops.toList := by
      have : ∀ (l : List Oper), o ∈ l → ∀ t, o.dst = some t → t ∈ dstsOf l := by
        intro l
        induction l with
        | nil => intro h; cases h
        | cons x l ih =>
          intro h t ht
          rcases List.mem_cons.1 h with rfl | h
          · exact (dstsOf_cons _ _).1 t ht
          · exact (dstsOf_cons _ _).2 t (ih h t ht)
      exact this _ (List.mem_of_getElem? ho)
    have hkp' : ∀ v, Keep (dstsOf ops.toList) a0 (a.put o.dst v) := fun v => hkp.trans (.put hmem)
    refine ⟨o, ho', hsel i o ho', ?_⟩
    rcases cls_cases (P := P) o with hc | hc | hc
    · refine .inl ⟨hc, ?_⟩
      simp only [hc] at hh
      rcases hh with ⟨hw, hk⟩ | ⟨hw, hk⟩
      · obtain ⟨v, hk, hy⟩ := opT_pure hc hk
        exact ⟨v, fun h2 => by unfold RD; rw [if_pos hw]; exact hy h2 a hst0.agree, ih _ _ _ _ _ (hst0.put hd) (hkp' v) hp hk⟩
      · exact ⟨undef, fun h2 => by unfold RD; rw [if_neg (by simp [hw])], ih _ _ _ _ _ (hst0.put hd) (hkp' undef) hp hk⟩
    · refine .inr (.inl ⟨hc, ?_⟩)
      simp only [hc] at hh
      rcases hh with ⟨hw, hk⟩ | ⟨hw, hk⟩
      · obtain ⟨v, hk, hy⟩ := opT_read hc hk
        refine ⟨v, by unfold RD; rw [if_pos hw]; exact hy a hst0.agree, ih _ _ _ _ _ (hst0.put hd) (hkp' v) ?_ hk⟩
        intro s hs
        rcases List.mem_cons.1 hs with rfl | hs
        · refine .inr ⟨_, List.mem_cons_self .., rfl, fun h2 ht => ?_⟩
          obtain ⟨v', hv', hy'⟩ := opT_read (ty := ann.ty) (e := e0) (h := h2) (K := fun v' _ => v' = v) hc ht
          subst hv'
          show RD P ops o a h2 v'
          unfold RD; rw [if_pos hw]; exact hy' a hst0.agree
        · rcases hp s hs with h1 | ⟨t, ht, h1, h2⟩
          · exact .inl h1
          · exact .inr ⟨t, List.mem_cons_of_mem _ ht, h1, h2⟩
      · refine ⟨undef, by unfold RD; rw [if_neg (by simp [hw])], ih _ _ _ _ _ (hst0.put hd) (hkp' undef) ?_ hk⟩
        intro s hs
        rcases List.mem_cons.1 hs with rfl | hs
        · exact .inl fun h2 => by show RD P ops o a h2 undef; unfold RD; rw [if_neg (by simp [hw])]
        · exact hp s hs
    · refine .inr (.inr ⟨hc, ?_⟩)
      simp only [hc] at hh
      rcases hh with ⟨hw, hk⟩ | ⟨hw, hk⟩
      · rw [if_pos hw]
        refine operWP_mono (fun v h' hk => ?_) (opT_eff hk hst0.agree)
        obtain ⟨h1, h2⟩ := chk_spec hk
        refine ⟨fun s hs hof => ?_, ih _ _ _ _ _ (hst0.put hd) (hkp' v) hp h2⟩
        rcases hp s hs with h3 | ⟨t, ht, h3, h4⟩
        · exact h3 h'
        · exact h4 h' (h1 t ht (by rw [h3]; exact hof))
      · rw [if_neg (by simp [hw])]
        exact ih _ _ _ _ _ (hst0.put hd) (hkp' undef) hp hk
theorem subset_len : ∀ {l m : List Nat}, l.Nodup → (∀ x ∈ l, x ∈ m) → l.length ≤ m.length := by
  intro l
  induction l with
  | nil => intro m _ _; simp
  | cons x l ih =>
    intro m hnd hs
    obtain ⟨m1, m2, rfl⟩ := List.append_of_mem (hs x (by simp))
    have := ih (m := m1 ++ m2) (List.nodup_cons.1 hnd).2 (fun y hy => by
      have hne : y ≠ x := fun e => (List.nodup_cons.1 hnd).1 (e ▸ hy)
      have := hs y (by simp [hy])
      simpa [hne] using this)
    simp only [List.length_append, List.length_cons] at *
    omega
theorem regD_sound {ops : Array Oper} {canon : List Nat} {Q : Exit → Act → World → Prop} {K : Env → Hp → Prop} {id : Nat} {e : Env} {a : Act} {w : World} (hmix : P.follows .mixedOrders = true)
    (hok : drawOk P ops (beforeL ops) canon = true) (hst : St n e a) (hh : regD P n ann (ordOf (beforeL ops)) ops canon [] e w.heap K)
    (hQ : ∀ e' a' w', St n e' a' → Keep (dstsOf ops.toList) a a' → Same w w' → K e' w'.heap → Q .normal a' w') : (Code.region id ops true).wp P Q a w := by
  unfold drawOk at hok
  simp only [Bool.and_eq_true, List.all_eq_true] at hok
  obtain ⟨⟨⟨h1, h2⟩, h3⟩, h4⟩ := hok
  have hsel : ∀ (i : Nat) (o : Oper), ops[i]? = some o → ∀ cs b, o.op ≠ Op.select cs b := fun i o ho => (edgesOk_spec h1 i o (by simpa using ho)).1
  have hsem := regD_sem hsel canon [] [] e a w.heap hst (.refl _ a) (by simp) hh
  have hnd : canon.Nodup := by
    have : ∀ (l : List Nat), pairsOk (pairF P ops (beforeL ops)) l = true → l.Nodup := by
      intro l
      induction l with
      | nil => simp
      | cons x l ih =>
        intro hp
        simp only [pairsOk, Bool.and_eq_true, List.all_eq_true] at hp
        refine List.nodup_cons.2 ⟨fun hx => ?_, ih hp.2⟩
        have := hp.1 x hx
        simp [pairF] at this
    exact this _ h4
  have hmem : ∀ i, i ∈ canon ↔ i < ops.size ∧ (Array.replicate ops.size false).getD i true = false := by
    intro i
    constructor
    · intro hi
      have := h2 i hi
      rw [Nat.blt_eq] at this
      exact ⟨this, by simp [Array.getD, this]⟩
    · rintro ⟨hi, _⟩
      exact memT_iff.1 (h3 i (by simpa using hi))
  have hlen : canon.length ≤ ops.size := by
    have hsub : ∀ x ∈ canon, x ∈ List.range ops.size := by
      intro x hx
      have := h2 x hx
      rw [Nat.blt_eq] at this
      simpa using this
    have := (subset_len hnd hsub)
    simpa using this
  refine wp_region_any hmix ?_
  refine semD_any (P := P) (Q := fun a' h' => ∃ e', St n e' a' ∧ Keep (dstsOf ops.toList) a a' ∧ K e' h') (w0 := w) ?_ h1 ops.size _ canon [] a _ ⟨rfl, rfl, rfl⟩ (by simp) hnd hmem hlen h4 ?_ hsem
  · rintro a' w' hs ⟨e', h5, h6, h7⟩
    exact hQ e' a' w' h5 h6 hs h7
  · intro j hj hl
    simp [Array.getD, hj] at hl

theorem drop_get {ws : List Tmp} : ∀ {e : Env} {t : Tmp} {v : Value}, (e.drop ws).get t = some v → t ∉ ws ∧ e.get t = some v := by
  intro e
  induction e with
  | nil => intro t v h; simp [Env.drop, Env.get] at h
  | cons x e ih =>
    intro t v h
    obtain ⟨u, y⟩ := x
    simp only [Env.drop] at h
    split at h
    · rename_i hm
      obtain ⟨h1, h2⟩ := ih h
      refine ⟨h1, ?_⟩
      simp only [Env.get]
      split
      · rename_i hb
        have := Nat.eq_of_beq_eq_true hb
        subst this
        exact (h1 (memT_iff.1 hm)).elim
      · exact h2
    · rename_i hm
      simp only [Env.get] at h ⊢
      split at h
      · rename_i hb
        have := Nat.eq_of_beq_eq_true hb
        subst this
        refine ⟨fun hin => ?_, h⟩
        rw [memT_iff.2 hin] at hm
        cases hm
      · exact ih h
theorem lay_get : ∀ {sl : List (Tmp × TypeId)} {vs : List Value} {e : Env} {t : Tmp} {v : Value}, (Env.lay sl vs e).get t = some v → (∃ i : Nat, (sl[i]?).map (·.1) = some t ∧ vs[i]? = some v) ∨ e.get t = some v := by
  intro sl
  induction sl with
  | nil => intro vs e t v h; simp only [Env.lay] at h; exact .inr h
  | cons x sl ih =>
    intro vs e t v h
    obtain ⟨u, ty⟩ := x
    cases vs with
    | nil => simp only [Env.lay] at h; exact .inr h
    | cons y vs =>
      simp only [Env.lay, Env.get] at h
      split at h
      · rename_i hb
        have := Nat.eq_of_beq_eq_true hb
        subst this
        exact .inl ⟨0, rfl, h⟩
      · rcases ih h with ⟨i, h1, h2⟩ | h1
        · exact .inl ⟨i + 1, by simpa using h1, by simpa using h2⟩
        · exact .inr h1
theorem gets_get : ∀ {sl : List (Tmp × TypeId)} {e : Env} {vs : List Value}, e.gets sl = some vs → ∀ (i : Nat) (t : Tmp) (v : Value), (sl[i]?).map (·.1) = some t → vs[i]? = some v → e.get t = some v := by
  intro sl
  induction sl with
  | nil => intro e vs _ i t v h; simp at h
  | cons x sl ih =>
    intro e vs h i t v h1 h2
    obtain ⟨u, ty⟩ := x
    simp only [Env.gets] at h
    cases hu : e.get u with
    | none => simp [hu] at h
    | some y =>
      cases hr : e.gets sl with
      | none => simp [hu, hr] at h
      | some ys =>
        simp only [hu, hr, Option.some.injEq] at h
        subst h
        cases i with
        | zero =>
          simp at h1 h2
          subst h1 h2
          exact hu
        | succ i => exact ih hr i t v (by simpa using h1) (by simpa using h2)
/-- Behind a piece of code whose slots ws are forgotten but for some that are known. -/
theorem St.relay {e e' : Env} {a a' : Act} (h : St n e a) (h' : St n e' a') {ws : List Tmp} (hk : Keep ws a a') {sl : List (Tmp × TypeId)} {vs : List Value} (hg : e'.gets sl = some vs) : St n (Env.lay sl vs (e.drop ws)) a' := by
  refine ⟨?_, h'.size, h'.defers⟩
  intro t v ht
  rcases lay_get ht with ⟨i, h1, h2⟩ | h1
  · exact h'.agree t v (gets_get hg i t v h1 h2)
  · obtain ⟨h2, h3⟩ := drop_get h1
    rw [hk t h2]
    exact h.agree t v h3

theorem asSh_inj {s : Sh} {v : Value} {k : s.T → Prop} (h : asSh s v k) : ∃ x, s.inj x = v ∧ k x := by
  unfold asSh at h
  split at h <;> first | exact h.elim | skip
  · obtain ⟨h1, h2⟩ := condP_iff.1 h
    obtain rfl := kindEq_eq h1
    exact ⟨_, rfl, h2⟩
  all_goals exact ⟨_, rfl, h⟩
theorem appT_inv : ∀ {ss : List Sh} {I : CurI ss} {m : CurM ss} {vs : List Value} {k : (Hp → Prop) → (Hp → Nat) → Prop} {hd : List Value → (Hp → Prop) → (Hp → Nat) → Prop},
    appT ss I m vs k → headT ss I m hd → ∃ I' m', k I' m' ∧ hd vs I' m' := by
  intro ss
  induction ss with
  | nil =>
    intro I m vs k hd ha hh
    cases vs with
    | nil => exact ⟨I, m, ha, hh⟩
    | cons v vs => exact ha.elim
  | cons s ss ih =>
    intro I m vs k hd ha hh
    cases vs with
    | nil => exact ha.elim
    | cons v vs =>
      simp only [appT] at ha
      obtain ⟨x, hx, ha⟩ := asSh_inj ha
      obtain ⟨I', m', h1, h2⟩ := ih ha (hh x)
      exact ⟨I', m', h1, by rw [← hx]; exact h2⟩
theorem appI_inv : ∀ {ss : List Sh} {I : CurI ss} {vs : List Value} {k : (Hp → Prop) → Prop} {hd : List Value → (Hp → Prop) → Prop},
    appI ss I vs k → headI ss I hd → ∃ I', k I' ∧ hd vs I' := by
  intro ss
  induction ss with
  | nil =>
    intro I vs k hd ha hh
    cases vs with
    | nil => exact ⟨I, ha, hh⟩
    | cons v vs => exact ha.elim
  | cons s ss ih =>
    intro I vs k hd ha hh
    cases vs with
    | nil => exact ha.elim
    | cons v vs =>
      simp only [appI] at ha
      obtain ⟨x, hx, ha⟩ := asSh_inj ha
      obtain ⟨I', h1, h2⟩ := ih ha (hh x)
      exact ⟨I', h1, by rw [← hx]; exact h2⟩

/-- What is to be shown of a piece of code. -/
def SoundC (P : Program) (n : Nat) (ann : Ann) (c : Code) : Prop := ∀ (K : Exit → Env → Hp → Prop) (Q : Exit → Act → World → Prop) (e : Env) (a : Act) (w : World), St n e a → codeT P n ann c K e w.heap →
    (∀ x e' a' w', St n e' a' → Keep (writesOf c) a a' → Same w w' → K x e' w'.heap → Q x a' w') → c.wp P Q a w
theorem codeT_sound (hmix : P.follows .mixedOrders = true) (c : Code) : SoundC P n ann c := by
  have loop : ∀ (body : Code), SoundC P n ann body →
      ∀ (id : Nat) {K : Exit → Env → Hp → Prop} {Q : Exit → Act → World → Prop} {e : Env} {a : Act} {w : World}, St n e a → loopT P body (codeT P n ann body) id (ann.loops id) K e w.heap →
      (∀ x e' a' w', St n e' a' → Keep (writesOf body) a a' → Same w w' → K x e' w'.heap → Q x a' w') → (Code.block id (.loop body)).wp P Q a w := by
    intro body ih id K Q e a w hst hh hQ
    obtain ⟨I, μ, h0, hround⟩ := hh
    obtain ⟨vs0, hg0, h0⟩ := wth_elim h0
    obtain ⟨I0, m0, h0, hr0⟩ := appT_inv h0 hround
    refine wp_block (wp_loop_ghost (fun k a' w' => ∃ vs Ih mh e', St n e' a' ∧ e'.gets (ann.loops id) = some vs ∧ Keep (writesOf body) a a' ∧ Same w w' ∧ Ih w'.heap ∧ k = mh w'.heap ∧
      (∀ h, Ih h → codeT P n ann body (fun x e' h' => match x with
        | .normal => wth (e'.gets (ann.loops id)) fun us => appT _ I μ us fun I1 m1 => I1 h' ∧ m1 h' < mh h
        | .exit id' => match Nat.beq id' id with
          | true => K .normal e' h'
          | false => K (.exit id') e' h'
        | x => K x e' h') (Env.lay (ann.loops id) vs (e.drop (writesOf body))) h)) _ ⟨vs0, I0, m0, e, hst, hg0, .refl _ _, .refl _, h0, rfl, hr0⟩ ?_)
    rintro k a1 w1 ⟨vs, Ih, mh, e1, hst1, hg1, hk1, hs1, hI1, rfl, hr1⟩
    refine ih _ _ _ _ _ (hst.relay hst1 hk1 hg1) (hr1 _ hI1) ?_
    intro x e2 a2 w2 hst2 hk2 hs2 hx
    cases x with
    | normal =>
      obtain ⟨us, hg2, hx⟩ := wth_elim hx
      obtain ⟨I2, m2, ⟨h3, h4⟩, hr2⟩ := appT_inv hx hround
      exact ⟨m2 w2.heap, h4, us, I2, m2, e2, hst2, hg2, hk1.trans hk2, hs1.trans hs2, h3, rfl, hr2⟩
    | exit id' =>
      show Exit.inBlock id Q (.exit id') a2 w2
      by_cases hid : id' = id
      · subst hid
        simp only [Nat.beq_refl] at hx
        simp only [Exit.inBlock, if_true]
        exact hQ _ _ _ _ hst2 (hk1.trans hk2) (hs1.trans hs2) hx
      · have hb : Nat.beq id' id = false := by
          cases hb : Nat.beq id' id with
          | false => rfl
          | true => exact (hid (Nat.eq_of_beq_eq_true hb)).elim
        simp only [hb] at hx
        simp only [Exit.inBlock, hid, if_false]
        exact hQ _ _ _ _ hst2 (hk1.trans hk2) (hs1.trans hs2) hx
    | goto l => exact hQ _ _ _ _ hst2 (hk1.trans hk2) (hs1.trans hs2) hx
    | ret => exact hQ _ _ _ _ hst2 (hk1.trans hk2) (hs1.trans hs2) hx
    | panic ch => exact hQ _ _ _ _ hst2 (hk1.trans hk2) (hs1.trans hs2) hx
    | outgrown => exact hQ _ _ _ _ hst2 (hk1.trans hk2) (hs1.trans hs2) hx
  have block : ∀ (c : Code), SoundC P n ann c →
      ∀ (id : Nat) {K : Exit → Env → Hp → Prop} {Q : Exit → Act → World → Prop} {e : Env} {a : Act} {w : World}, St n e a → codeT P n ann c (blockK id K) e w.heap →
      (∀ x e' a' w', St n e' a' → Keep (writesOf c) a a' → Same w w' → K x e' w'.heap → Q x a' w') → (Code.block id c).wp P Q a w := by
    intro c ih id K Q e a w hst hh hQ
    refine wp_block (ih _ _ _ _ _ hst hh ?_)
    intro x e2 a2 w2 hst2 hk2 hs2 hx
    cases x with
    | normal => exact hQ _ _ _ _ hst2 hk2 hs2 hx
    | exit id' =>
      show Exit.inBlock id Q (.exit id') a2 w2
      simp only [blockK] at hx
      by_cases hid : id' = id
      · subst hid
        simp only [Nat.beq_refl] at hx
        simp only [Exit.inBlock, if_true]
        exact hQ _ _ _ _ hst2 hk2 hs2 hx
      · have hb : Nat.beq id' id = false := by
          cases hb : Nat.beq id' id with
          | false => rfl
          | true => exact (hid (Nat.eq_of_beq_eq_true hb)).elim
        simp only [hb] at hx
        simp only [Exit.inBlock, hid, if_false]
        exact hQ _ _ _ _ hst2 hk2 hs2 hx
    | goto l => exact hQ _ _ _ _ hst2 hk2 hs2 hx
    | ret => exact hQ _ _ _ _ hst2 hk2 hs2 hx
    | panic ch => exact hQ _ _ _ _ hst2 hk2 hs2 hx
    | outgrown => exact hQ _ _ _ _ hst2 hk2 hs2 hx
  suffices h : SoundC P n ann c ∧ ∀ body, c = .loop body → SoundC P n ann body from h.1
  induction c with
  | skip =>
    refine ⟨?_, fun b hb => by cases hb⟩
    intro K Q e a w hst hh hQ; exact wp_skip (hQ _ e a w hst (.refl _ _) (.refl _) hh)
  | region id ops draw =>
    refine ⟨?_, fun b hb => by cases hb⟩
    intro K Q e a w hst hh hQ
    cases draw with
    | false =>
      refine wp_region ?_
      have := regT_sound (Q := Q) ops.toList 0 e a w rfl hst hh fun e' a' w' h1 h2 h3 h4 => hQ _ e' a' w' h1 h2 h3 h4
      rw [List.range_eq_range']
      simpa using this
    | true =>
      obtain ⟨hok, hh⟩ := condP_iff.1 hh
      exact regD_sound hmix hok hst hh fun e' a' w' h1 h2 h3 h4 => hQ _ e' a' w' h1 h2 h3 h4
  | seq x y ihx ihy =>
    refine ⟨?_, fun b hb => by cases hb⟩
    intro K Q e a w hst hh hQ
    have hsub1 : ∀ t ∈ writesOf x, t ∈ writesOf (.seq x y) := fun t ht => List.mem_append_left _ ht
    have hsub2 : ∀ t ∈ writesOf y, t ∈ writesOf (.seq x y) := fun t ht => List.mem_append_right _ ht
    simp only [codeT] at hh
    split at hh
    · refine wp_seq (ihx.1 _ _ _ _ _ hst hh ?_)
      intro z e1 a1 w1 hst1 hk1 hs1 hz
      cases z with
      | normal => exact ihy.1 _ _ _ _ _ hst1 hz fun x e' a' w' h1 h2 h3 h4 => hQ x e' a' w' h1 ((hk1.mono hsub1).trans (h2.mono hsub2)) (hs1.trans h3) h4
      | _ => exact hQ _ _ _ _ hst1 (hk1.mono hsub1) hs1 hz
    · rename_i sl hcut
      obtain ⟨J, hx, hy⟩ := hh
      refine wp_seq (ihx.1 _ _ _ _ _ hst hx ?_)
      intro z e1 a1 w1 hst1 hk1 hs1 hz
      cases z with
      | normal =>
        obtain ⟨vs, hg, hz⟩ := wth_elim hz
        obtain ⟨J', hJ, hy'⟩ := appI_inv hz hy
        exact ihy.1 _ _ _ _ _ (hst.relay hst1 hk1 hg) (hy' _ hJ) fun x e' a' w' h1 h2 h3 h4 => hQ x e' a' w' h1 ((hk1.mono hsub1).trans (h2.mono hsub2)) (hs1.trans h3) h4
      | _ => exact hQ _ _ _ _ hst1 (hk1.mono hsub1) hs1 hz
  | cond c x y ihx ihy =>
    refine ⟨?_, fun b hb => by cases hb⟩
    intro K Q e a w hst hh hQ
    obtain ⟨v, hv, hh⟩ := wth_elim hh
    cases v <;> first | exact hh.elim | skip
    rename_i b
    refine wp_cond_split (ev_agree hst.agree hv) ?_ ?_
    · rintro rfl
      exact ihx.1 _ _ _ _ _ hst hh fun x' e' a' w' h1 h2 h3 h4 => hQ x' e' a' w' h1 (h2.mono fun t ht => List.mem_append_left _ ht) h3 h4
    · rintro rfl
      exact ihy.1 _ _ _ _ _ hst hh fun x' e' a' w' h1 h2 h3 h4 => hQ x' e' a' w' h1 (h2.mono fun t ht => List.mem_append_right _ ht) h3 h4
  | block id c ih =>
    refine ⟨?_, fun b hb => by cases hb⟩
    intro K Q e a w hst hh hQ
    cases c with
    | loop body => exact loop body (ih.2 body rfl) id hst hh hQ
    | _ => exact block _ ih.1 id hst hh hQ
  | loop body ih => exact ⟨fun K Q e a w hst hh hQ => hh.elim, fun b hb => by cases hb; exact ih.1⟩
  | rangeFunc f ps x y ihx ihy => exact ⟨fun K Q e a w hst hh hQ => hh.elim, fun b hb => by cases hb⟩
  | exit id => exact ⟨fun K Q e a w hst hh hQ => wp_exit (hQ _ e a w hst (.refl _ _) (.refl _) hh), fun b hb => by cases hb⟩
  | scope body ih => exact ⟨fun K Q e a w hst hh hQ => hh.elim, fun b hb => by cases hb⟩
  | label l => exact ⟨fun K Q e a w hst hh hQ => hh.elim, fun b hb => by cases hb⟩
  | goto l => exact ⟨fun K Q e a w hst hh hQ => hh.elim, fun b hb => by cases hb⟩
  | ret => exact ⟨fun K Q e a w hst hh hQ => wp_ret (hQ _ e a w hst (.refl _ _) (.refl _) hh), fun b hb => by cases hb⟩
  | refuse w => exact ⟨fun K Q e a w hst hh hQ => hh.elim, fun b hb => by cases hb⟩

theorem runs_load {a : Addr} {h : Hp} {v : Value} (hc : cellAt h a = some v) : RunsTo P (load a) h v := by
  rintro w rfl
  have : w.cell? a = some v := hc
  simp only [run_load, this]
theorem runs_loadCells {a : Addr} {h : Hp} : ∀ (n i : Nat) (acc : Array Value) (vs : List Value), vs.length = n → (∀ j, j < n → cellAt h (a.add (i + j)) = vs[j]?) →
    RunsTo P (loadCellsFrom a i n acc) h (acc ++ vs.toArray) := by
  intro n
  induction n with
  | zero =>
    intro i acc vs hl hc w hw
    have : vs = [] := List.eq_nil_of_length_eq_zero hl
    subst this
    simp [loadCellsFrom]
  | succ n ih =>
    intro i acc vs hl hc w hw
    cases vs with
    | nil => simp at hl
    | cons v vs =>
      have h0 := runs_load (P := P) (show cellAt h (a.add i) = some v by simpa using hc 0 (by omega)) w hw
      have h1 := ih (i + 1) (acc.push v) vs (by simpa using hl) (by
        intro j hj
        have := hc (j + 1) (by omega)
        rw [show i + 1 + j = i + (j + 1) by omega]
        simpa using this) w hw
      simp only [loadCellsFrom, Sem.run_bind, h0, Result.andThen_ok, h1]
      simp
theorem runs_underlying {t : TypeId} {d : TypeDesc} (hd : P.underlying t = some d) (w : World) : (underlying t).run P w = .ok d w := by
  simp [underlying, hd]
theorem runs_isAgg {t : TypeId} {d : TypeDesc} (hd : P.underlying t = some d) (w : World) : (isAgg t).run P w = .ok (aggB P t) w := by
  simp only [isAgg, Sem.run_bind, runs_underlying hd, Result.andThen_ok, aggB, hd]
  cases d <;> rfl
theorem runs_sizeOf {t : TypeId} {d : TypeDesc} (hd : P.underlying t = some d) (w : World) : (sizeOf t).run P w = .ok (P.cellsOf t) w := by
  unfold Program.underlying at hd
  cases hi : P.info? t with
  | none => simp [hi] at hd
  | some i => simp [sizeOf, typeInfo, hi, Program.cellsOf]
theorem loadT_runs {t : TypeId} {h : Hp} {a : Addr} {K : Value → Prop} (hh : loadT P t h a K) : ∃ v, K v ∧ RunsTo P (loadVar t a) h v := by
  unfold loadT at hh
  rcases shape_cases (P := P) t with ⟨ss, hs⟩ | ⟨n, hs⟩ | hs | hs
  · simp only [hs] at hh
    obtain ⟨⟨fs, hd⟩, hl⟩ := shape_agg hs
    obtain ⟨vs, h1, h2, h3⟩ := loadL_elim hh
    refine ⟨_, h3, fun w hw => ?_⟩
    have := runs_loadCells (P := P) (h := h) (a := a) (P.cellsOf t) 0 #[] vs (by omega) (by intro j hj; exact h2 j (by omega)) w hw
    simp only [loadVar, Sem.run_bind, runs_isAgg hd, Result.andThen_ok, show aggB P t = true by simp [aggB, hd], if_true, runs_sizeOf hd, loadCells, this]
    simp
  · simp only [hs] at hh
    obtain ⟨ha, ⟨d, hd⟩, hn⟩ := shape_row hs
    obtain ⟨cs, ⟨h1, h2⟩, h3⟩ := hh
    refine ⟨_, h3, fun w hw => ?_⟩
    have := runs_loadCells (P := P) (h := h) (a := a) (P.cellsOf t) 0 #[] cs.toList (by simp [h1, hn]) (by intro j hj; have := h2 j (by omega); simpa using this) w hw
    simp only [loadVar, Sem.run_bind, runs_isAgg hd, Result.andThen_ok, ha, if_true, runs_sizeOf hd, loadCells, this]
    simp
  · simp only [hs, exSc] at hh
  · obtain ⟨ha, d, hd⟩ := shape_scalar hs
    have hh' : exSc (shapeOf P t) fun v => cellAt h a = some v ∧ K v := by
      generalize shapeOf P t = s at *
      cases s <;> first | (simp [Sh.scalar] at hs; done) | exact hh
    obtain ⟨v, hv, hk⟩ := exSc_elim hh'
    refine ⟨v, hk, fun w hw => ?_⟩
    simp only [loadVar, Sem.run_bind, runs_isAgg hd, Result.andThen_ok, ha, Bool.false_eq_true, if_false]
    exact runs_load hv w hw

def resOf (a : Act) : ResultVar → Sem Value
  | .tmp t => pure (a.tmps.getD t undef)
  | .cell b t => do loadVar t (← asAddr (a.tmps.getD b undef))
/-- The results are read. -/
theorem resT_spec {e : Env} {a : Act} {w : World} (ha : Agree e a) : ∀ {rs : List ResultVar} {acc : List Value} {K : List Value → Prop}, resT P e w.heap rs acc K →
    ∃ vs, K (acc.reverse ++ vs) ∧ (rs.mapM (resOf a)).run P w = .ok vs w := by
  intro rs
  induction rs with
  | nil => intro acc K hh; exact ⟨[], by simpa [resT] using hh, by simp⟩
  | cons r rs ih =>
    intro acc K hh
    cases r with
    | tmp t =>
      simp only [resT] at hh
      obtain ⟨v, hv, hh⟩ := wth_elim hh
      obtain ⟨vs, h1, h2⟩ := ih hh
      refine ⟨v :: vs, by simpa using h1, ?_⟩
      have : a.tmps.getD t undef = v := by simp [Array.getD_eq_getD_getElem?, ha t v hv]
      simp only [List.mapM_cons, Sem.run_bind, resOf, this, Sem.run_pure, Result.andThen_ok, h2]
    | cell b ty =>
      simp only [resT] at hh
      obtain ⟨v, hv, hh⟩ := wth_elim hh
      have : ∃ ad, v = .pointer (some ad) ∧ loadT P ty w.heap ad fun u => resT P e w.heap rs (u :: acc) K := by
        cases v <;> first | exact hh.elim | skip
        obtain ⟨ad, hp, hh1⟩ := wth_elim hh
        exact ⟨ad, by rw [hp], hh1⟩
      obtain ⟨ad, rfl, hh1⟩ := this
      obtain ⟨u, hh2, hu⟩ := loadT_runs hh1
      obtain ⟨vs, h1, h2⟩ := ih hh2
      refine ⟨u :: vs, by simpa using h1, ?_⟩
      have hb : a.tmps.getD b undef = .pointer (some ad) := by simp [Array.getD_eq_getD_getElem?, ha b _ hv]
      simp only [List.mapM_cons, Sem.run_bind, resOf, hb, asAddr, Sem.run_pure, Result.andThen_ok, hu w rfl, h2]
theorem results_run {fn : Func} {a : Act} {w : World} {vs : List Value} (h : (fn.results.toList.mapM (resOf a)).run P w = .ok vs w) : (results fn a.tmps).run P w = .ok (mkRes vs) w := by
  have e : results fn a.tmps = (List.toArray <$> fn.results.toList.mapM (resOf a)) >>= fun vs => pure (if h : vs.size = 1 then vs[0] else .tuple vs) := by
    unfold results
    rw [← Array.mapM_eq_mapM_toList]
    congr 1
  rw [e]
  simp only [Sem.run_bind, Sem.run_map, h, Result.andThen_ok, Sem.run_pure]
  congr 1
  match vs with
  | [] => rfl
  | [v] => rfl
  | v :: u :: vs => simp [mkRes]
theorem argEnv_get : ∀ {vs : List Value} {i t : Nat} {v : Value}, (argEnv vs i).get t = some v → i ≤ t ∧ vs[t - i]? = some v := by
  intro vs
  induction vs with
  | nil => intro i t v h; simp [argEnv, Env.get] at h
  | cons x vs ih =>
    intro i t v h
    simp only [argEnv, Env.get] at h
    split at h
    · rename_i hb
      have := Nat.eq_of_beq_eq_true hb
      subst this
      exact ⟨Nat.le_refl _, by simpa using h⟩
    · rename_i hb
      obtain ⟨h1, h2⟩ := ih h
      refine ⟨by omega, ?_⟩
      rw [show t - i = t - (i + 1) + 1 by omega]
      simpa using h2
def bodyOf (fn : Func) : Code := match fn.body with | some c => c | none => .skip
theorem calls_of_fnT {f : FuncId} {fn : Func} {c : Code} {args : List Value} {h : Hp} {R : Value → Hp → Prop} (hmix : P.follows .mixedOrders = true) (hf : P.funcs[f]? = some fn) (hb : fn.body = some c) (hn : fn.ntmps = n)
    (hc : ∀ args w, (callFunc f args).run P w = .ok (.enter f args) w) (hle : Nat.ble args.length n = true) (hh : fnT P n ann fn c args h R) : CallsH P f ⟨args⟩ h R := by
  unfold fnT at hh
  refine ⟨hc, ?_⟩
  rintro w rfl
  refine calls_of_wp hf hb ?_
  have hle' := Nat.le_of_ble_eq_true hle
  refine codeT_sound (ann := ann) (n := n) hmix c _ _ (argEnv args 0) _ w ?_ hh ?_
  · refine ⟨?_, ?_, rfl⟩
    · intro t v ht
      obtain ⟨_, h1⟩ := argEnv_get ht
      simp only [Nat.sub_zero] at h1
      have hlt : t < args.length := (List.getElem?_eq_some_iff.1 h1).1
      rw [Array.getElem?_append_left (by simpa using hlt)]
      simpa using h1
    · simp [hn]; omega
  · intro x e' a' w' hst _ hs hx
    cases x with
    | normal =>
      obtain ⟨vs, h1, h2⟩ := resT_spec hst.agree hx
      exact ⟨hst.defers, _, results_run h2, _, rfl, by simpa using h1, hs⟩
    | ret =>
      obtain ⟨vs, h1, h2⟩ := resT_spec hst.agree hx
      exact ⟨hst.defers, _, results_run h2, _, rfl, by simpa using h1, hs⟩
    | _ => exact hx.elim
end
end Go.Proofs.Ytmdhfmljgjnggaa
