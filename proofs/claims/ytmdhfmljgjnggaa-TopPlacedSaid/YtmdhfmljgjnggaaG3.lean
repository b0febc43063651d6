/- The texts CodeSound Mem Mem2 Iter, one behind the other. No condition. -/
import Derived.Test.YtmdhfmljgjnggaaG2
/- The precondition of a function's code is enough. No condition. -/
namespace Go.Proofs.Ytmdhfmljgjnggaa

/-- The frame agrees with what is known. -/
structure St (n : Nat) (e : Env) (a : Act) : Prop where
  agree : Agree e a
  size : a.tmps.size = n
  defers : a.defers = []
/-- Outside some slots the frame is as it was. -/
def Keep (ws : List Tmp) (a a' : Act) : Prop := ∀ t, t ∉ ws → a'.tmps[t]? = a.tmps[t]?
theorem Keep.refl (ws : List Tmp) (a : Act) : Keep ws a a := fun _ _ => rfl
theorem Keep.trans {ws : List Tmp} {a b c : Act} (h : Keep ws a b) (h' : Keep ws b c) : Keep ws a c := fun t ht => (h' t ht).trans (h t ht)
theorem Keep.mono {ws vs : List Tmp} {a b : Act} (h : Keep ws a b) (hs : ∀ t ∈ ws, t ∈ vs) : Keep vs a b := fun t ht => h t fun hm => ht (hs t hm)
theorem Keep.put {ws : List Tmp} {a : Act} {d : Option Tmp} {v : Value} (hd : ∀ t, d = some t → t ∈ ws) : Keep ws a (a.put d v) := by
  intro t ht
  cases d with
  | none => rfl
  | some d =>
    have hne : d ≠ t := fun e => ht (e ▸ hd d rfl)
    simp [Act.put, Array.getElem?_setIfInBounds_ne hne]
theorem put_defers (a : Act) (d : Option Tmp) (v : Value) : (a.put d v).defers = a.defers := by cases d <;> rfl
theorem put_size (a : Act) (d : Option Tmp) (v : Value) : (a.put d v).tmps.size = a.tmps.size := by cases d <;> simp [Act.put]
theorem St.put {n : Nat} {e : Env} {a : Act} (h : St n e a) {d : Option Tmp} {v : Value} (hd : dstOk n d = true) : St n (e.put d v) (a.put d v) := by
  refine ⟨?_, (put_size a d v).trans h.size, (put_defers a d v).trans h.defers⟩
  cases d with
  | none => exact h.agree
  | some d =>
    intro t u hu
    simp only [Env.put, Env.get] at hu
    split at hu
    · rename_i hb
      have := Nat.eq_of_beq_eq_true hb
      subst this
      simp only [Option.some.injEq] at hu
      subst hu
      simp only [dstOk, Nat.blt_eq] at hd
      simp [Act.put, h.size, hd]
    · rename_i hb
      have hne : d ≠ t := by intro he; subst he; simp at hb
      simp only [Act.put, Array.getElem?_setIfInBounds_ne hne]
      exact h.agree t u hu
theorem St.know {n : Nat} {e : Env} {a : Act} (h : St n e a) {t : Tmp} {v : Value} (hv : e.get t = some v) : St n ((t, v) :: e) a := by
  refine ⟨?_, h.size, h.defers⟩
  intro u x hx
  simp only [Env.get] at hx
  split at hx
  · rename_i hb
    have := Nat.eq_of_beq_eq_true hb
    subst this
    simp only [Option.some.injEq] at hx
    subst hx
    exact h.agree _ _ hv
  · exact h.agree u x hx

section
variable {P : Program} {n : Nat} {ann : Ann}
theorem stepT_open {ops : Array Oper} {o : Oper} {e : Env} {h : Hp} {K : Bool → Env → Env → Value → Hp → Prop} {a : Act} (hst : St n e a) (hh : stepT P n ann ops o e h K) :
    dstOk n o.dst = true ∧ ∃ e0, St n e0 a ∧ ((Region.wanted o (yielded ops a.tmps) = true ∧ opT P ann.ty o e0 h fun v h' => K true e0 (e0.put o.dst v) v h') ∨
      (Region.wanted o (yielded ops a.tmps) = false ∧ K false e0 (e0.put o.dst undef) undef h)) := by
  unfold stepT at hh
  obtain ⟨hd, hh⟩ := condP_iff.1 hh
  refine ⟨hd, ?_⟩
  cases hg : o.guard with
  | none =>
    simp only [hg] at hh
    exact ⟨e, hst, .inl ⟨by simp [Region.wanted, hg], hh⟩⟩
  | some jw =>
    obtain ⟨j, want⟩ := jw
    simp only [hg] at hh
    obtain ⟨t, ht, hh⟩ := wth_elim hh
    obtain ⟨gv, hgv, hh⟩ := wth_elim hh
    have hyg : ∀ r : Option Bool, (match gv with | .bool b => some b | _ => none) = r → yielded ops a.tmps j = r := by
      intro r hr
      have h1 := hst.agree t _ hgv
      unfold guardTmp at ht
      unfold yielded
      rw [Array.getElem?_toList] at ht
      cases hj : ops[j]? with
      | none => simp [hj] at ht
      | some oj =>
        simp only [hj] at ht
        simp only [Option.bind_some, ht, h1]
        rw [← hr]
        cases gv <;> rfl
    cases gv <;> first | exact hh.elim | skip
    rotate_left
    · have hy := hyg none rfl
      have hw : Region.wanted o (yielded ops a.tmps) = false := by simp [Region.wanted, hg, hy]
      exact ⟨e, hst, .inr ⟨hw, hh⟩⟩
    rename_i b
    have hy : yielded ops a.tmps j = some b := hyg _ rfl
    have hw : Region.wanted o (yielded ops a.tmps) = (some b == some want) := by simp [Region.wanted, hg, hy]
    have hst' := hst.know hgv
    refine ⟨_, hst', ?_⟩
    cases b <;> cases want <;> simp only [iteP, Bool.xor_false, Bool.xor_true, Bool.not_true, Bool.not_false] at hh
    · exact .inl ⟨by rw [hw]; rfl, hh⟩
    · exact .inr ⟨by rw [hw]; rfl, hh⟩
    · exact .inr ⟨by rw [hw]; rfl, hh⟩
    · exact .inl ⟨by rw [hw]; rfl, hh⟩
theorem dstsOf_cons (o : Oper) (os : List Oper) : (∀ t, o.dst = some t → t ∈ dstsOf (o :: os)) ∧ ∀ t ∈ dstsOf os, t ∈ dstsOf (o :: os) := by
  cases hd : o.dst with
  | none => simp [dstsOf, hd]
  | some d => simp only [dstsOf, hd]; exact ⟨fun t ht => by cases ht; simp, fun t ht => List.mem_cons_of_mem _ ht⟩
theorem regT_sound {ops : Array Oper} {Q : Exit → Act → World → Prop} {K : Env → Hp → Prop} : ∀ (os : List Oper) (k : Nat) (e : Env) (a : Act) (w : World), ops.toList.drop k = os → St n e a → regT P n ann ops os e w.heap K →
    (∀ e' a' w', St n e' a' → Keep (dstsOf os) a a' → Same w w' → K e' w'.heap → Q .normal a' w') → wpOps P ops Q (List.range' k os.length) a w := by
  intro os
  induction os with
  | nil => intro k e a w _ hst hh hQ; exact hQ e a w hst (.refl _ _) (.refl _) hh
  | cons o os ih =>
    intro k e a w hdrop hst hh hQ
    have ho : ops[k]? = some o := by
      have := congrArg (fun l => l[0]?) hdrop
      simpa using this
    have hdrop' : ops.toList.drop (k + 1) = os := by
      rw [← List.drop_drop, hdrop]; rfl
    obtain ⟨hd, e0, hst0, hh⟩ := stepT_open hst hh
    obtain ⟨hd1, hd2⟩ := dstsOf_cons o os
    simp only [List.length_cons, List.range'_succ, wpOps, ho]
    have hnext : ∀ v w', Same w w' → regT P n ann ops os (e0.put o.dst v) w'.heap K → wpOps P ops Q (List.range' (k + 1) os.length) (a.put o.dst v) w' := by
      intro v w' hs hk
      refine ih (k + 1) _ _ w' hdrop' (hst0.put hd) hk fun e' a' w'' h1 h2 h3 h4 => hQ e' a' w'' h1 ?_ (hs.trans h3) h4
      exact (Keep.put hd1).trans (h2.mono hd2)
    rcases hh with ⟨hw, hk⟩ | ⟨hw, hk⟩
    · rw [if_pos hw]
      refine .inl (Oper.wp_mono ?_ (oper_wp (Q := Q) (opT_eff hk hst0.agree)))
      rintro a' w' ⟨v, rfl, hk, hs⟩
      exact hnext v w' hs hk
    · rw [if_neg (by simp [hw])]
      exact hnext undef w (.refl w) hk

theorem cls_cases (o : Oper) : cls P o = 0 ∨ cls P o = 1 ∨ cls P o = 2 := by
  unfold cls
  split <;> try (simp; done)
  · split
    · simp
    · split <;> simp
  · split <;> simp
  · split
    · split <;> simp
    · simp
    · simp
    · simp
theorem chk_spec {ord : Nat → Nat → Bool} {i : Nat} {h : Hp} {X : Prop} : ∀ {ps : List (Nat × (Hp → Prop))}, chk ord i ps h X → (∀ p ∈ ps, ord p.1 i = false → p.2 h) ∧ X := by
  intro ps
  induction ps with
  | nil => intro hh; exact ⟨by simp, hh⟩
  | cons p ps ih =>
    intro hh
    obtain ⟨r, φ⟩ := p
    simp only [chk] at hh
    split at hh
    · rename_i ho
      obtain ⟨h1, h2⟩ := ih hh
      refine ⟨fun p hp hof => ?_, h2⟩
      rcases List.mem_cons.1 hp with rfl | hp
      · rw [ho] at hof; cases hof
      · exact h1 p hp hof
    · obtain ⟨hφ, hh⟩ := hh
      obtain ⟨h1, h2⟩ := ih hh
      refine ⟨fun p hp hof => ?_, h2⟩
      rcases List.mem_cons.1 hp with rfl | hp
      · exact hφ
      · exact h1 p hp hof

/-- What is asked of the reads (at home) bears what is asked of them (in the model). -/
def Rel (pT pS : List (Nat × (Hp → Prop))) : Prop := ∀ s ∈ pS, (∀ h, s.2 h) ∨ ∃ t ∈ pT, t.1 = s.1 ∧ ∀ h, t.2 h → s.2 h
theorem regD_sem {ops : Array Oper} {ord : Nat → Nat → Bool} {K : List (Nat × (Hp → Prop)) → Env → Hp → Prop} (hsel : ∀ (i : Nat) (o : Oper), ops[i]? = some o → ∀ cs b, o.op ≠ Op.select cs b) {a0 : Act} :
    ∀ (L : List Nat) (pT pS : List (Nat × (Hp → Prop))) (e : Env) (a : Act) (h : Hp), St n e a → Keep (dstsOf ops.toList) a0 a → Rel pT pS → regD P n ann ord ops L pT e h K →
      semD P ops ord L pS a h (fun pS' a' h' => ∃ e' pT', St n e' a' ∧ Keep (dstsOf ops.toList) a0 a' ∧ Rel pT' pS' ∧ K pT' e' h') := by
  intro L
  induction L with
  | nil => intro pT pS e a h hst hkp hp hh; exact ⟨e, pT, hst, hkp, hp, hh⟩
  | cons i L ih =>
    intro pT pS e a h hst hkp hp hh
    simp only [regD] at hh
    obtain ⟨o, ho, hh⟩ := wth_elim hh
    have ho' : ops[i]? = some o := by simpa using ho
    obtain ⟨hd, e0, hst0, hh⟩ := stepT_open hst hh
    have hmem : ∀ t, o.dst = some t → t ∈ dstsOf ops.toList := by
      have : ∀ (l : List Oper), o ∈ l → ∀ t, o.dst = some t → t ∈ dstsOf l := by
        intro l
        induction l with
        | nil => intro h; cases h
        | cons x l ih =>
          intro h t ht
          rcases List.mem_cons.1 h with rfl | h
          · exact (dstsOf_cons _ _).1 t ht
          · exact (dstsOf_cons _ _).2 t (ih h t ht)
      exact this _ (List.mem_of_getElem? ho)
    have hkp' : ∀ v, Keep (dstsOf ops.toList) a0 (a.put o.dst v) := fun v => hkp.trans (.put hmem)
    refine ⟨o, ho', hsel i o ho', ?_⟩
    rcases cls_cases (P := P) o with hc | hc | hc
    · refine .inl ⟨hc, ?_⟩
      simp only [hc] at hh
      rcases hh with ⟨hw, hk⟩ | ⟨hw, hk⟩
      · obtain ⟨v, hk, hy⟩ := opT_pure hc hk
        exact ⟨v, fun h2 => by unfold RD; rw [if_pos hw]; exact hy h2 a hst0.agree, ih _ _ _ _ _ (hst0.put hd) (hkp' v) hp hk⟩
      · exact ⟨undef, fun h2 => by unfold RD; rw [if_neg (by simp [hw])], ih _ _ _ _ _ (hst0.put hd) (hkp' undef) hp hk⟩
    · refine .inr (.inl ⟨hc, ?_⟩)
      simp only [hc] at hh
      rcases hh with ⟨hw, hk⟩ | ⟨hw, hk⟩
      · obtain ⟨v, hk, hy⟩ := opT_read hc hk
        refine ⟨v, by unfold RD; rw [if_pos hw]; exact hy a hst0.agree, ih _ _ _ _ _ (hst0.put hd) (hkp' v) ?_ hk⟩
        intro s hs
        rcases List.mem_cons.1 hs with rfl | hs
        · refine .inr ⟨_, List.mem_cons_self .., rfl, fun h2 ht => ?_⟩
          obtain ⟨v', hv', hy'⟩ := opT_read (ty := ann.ty) (e := e0) (h := h2) (K := fun v' _ => v' = v) hc ht
          subst hv'
          show RD P ops o a h2 v'
          unfold RD; rw [if_pos hw]; exact hy' a hst0.agree
        · rcases hp s hs with h1 | ⟨t, ht, h1, h2⟩
          · exact .inl h1
          · exact .inr ⟨t, List.mem_cons_of_mem _ ht, h1, h2⟩
      · refine ⟨undef, by unfold RD; rw [if_neg (by simp [hw])], ih _ _ _ _ _ (hst0.put hd) (hkp' undef) ?_ hk⟩
        intro s hs
        rcases List.mem_cons.1 hs with rfl | hs
        · exact .inl fun h2 => by show RD P ops o a h2 undef; unfold RD; rw [if_neg (by simp [hw])]
        · exact hp s hs
    · refine .inr (.inr ⟨hc, ?_⟩)
      simp only [hc] at hh
      rcases hh with ⟨hw, hk⟩ | ⟨hw, hk⟩
      · rw [if_pos hw]
        refine operWP_mono (fun v h' hk => ?_) (opT_eff hk hst0.agree)
        obtain ⟨h1, h2⟩ := chk_spec hk
        refine ⟨fun s hs hof => ?_, ih _ _ _ _ _ (hst0.put hd) (hkp' v) hp h2⟩
        rcases hp s hs with h3 | ⟨t, ht, h3, h4⟩
        · exact h3 h'
        · exact h4 h' (h1 t ht (by rw [h3]; exact hof))
      · rw [if_neg (by simp [hw])]
        exact ih _ _ _ _ _ (hst0.put hd) (hkp' undef) hp hk
theorem subset_len : ∀ {l m : List Nat}, l.Nodup → (∀ x ∈ l, x ∈ m) → l.length ≤ m.length := by
  intro l
  induction l with
  | nil => intro m _ _; simp
  | cons x l ih =>
    intro m hnd hs
    obtain ⟨m1, m2, rfl⟩ := List.append_of_mem (hs x (by simp))
    have := ih (m := m1 ++ m2) (List.nodup_cons.1 hnd).2 (fun y hy => by
      have hne : y ≠ x := fun e => (List.nodup_cons.1 hnd).1 (e ▸ hy)
      have := hs y (by simp [hy])
      simpa [hne] using this)
    simp only [List.length_append, List.length_cons] at *
    omega
theorem nodup_of_pairs {ops : Array Oper} {ord : Nat → Nat → Bool} : ∀ (l : List Nat), pairsOk (pairF P ops ord) l = true → l.Nodup := by
  intro l
  induction l with
  | nil => simp
  | cons x l ih =>
    intro hp
    simp only [pairsOk, Bool.and_eq_true, List.all_eq_true] at hp
    refine List.nodup_cons.2 ⟨fun hx => ?_, ih hp.2⟩
    have := hp.1 x hx
    simp [pairF] at this
theorem all_of {ops : Array Oper} {canon : List Nat} (hnd : canon.Nodup) (h2 : ∀ i ∈ canon, Nat.blt i ops.size = true) (h3 : ∀ i ∈ List.range ops.size, memT i canon = true) :
    (∀ i, i ∈ canon ↔ i < ops.size ∧ (Array.replicate ops.size false).getD i true = false) ∧ canon.length ≤ ops.size := by
  refine ⟨fun i => ⟨fun hi => ?_, fun ⟨hi, _⟩ => memT_iff.1 (h3 i (by simpa using hi))⟩, ?_⟩
  · have := h2 i hi
    rw [Nat.blt_eq] at this
    exact ⟨this, by simp [Array.getD, this]⟩
  · have hsub : ∀ x ∈ canon, x ∈ List.range ops.size := by
      intro x hx
      have := h2 x hx
      rw [Nat.blt_eq] at this
      simpa using this
    have := (subset_len hnd hsub)
    simpa using this
theorem shut_none (ops : Array Oper) : Shut ops (Array.replicate ops.size false) := by
  intro j hj hl
  simp [Array.getD, hj] at hl
theorem less_of {n : Nat} {ops : Array Oper} {a : Act} {K : Env → Hp → Prop} : Less (fun pS a' h' => ∃ e' pT', St n e' a' ∧ Keep (dstsOf ops.toList) a a' ∧ Rel pT' pS ∧ K e' h') := by
  rintro p q a' h' hpq ⟨e', pT', h1, h2, h3, h4⟩
  exact ⟨e', pT', h1, h2, fun s hs => h3 s (hpq s hs), h4⟩
theorem regD_sound {ops : Array Oper} {canon : List Nat} {Q : Exit → Act → World → Prop} {K : Env → Hp → Prop} {id : Nat} {e : Env} {a : Act} {w : World} (hmix : P.follows .mixedOrders = true)
    (hok : drawOk P ops (beforeL ops) canon = true) (hst : St n e a) (hh : regD P n ann (ordOf (beforeL ops)) ops canon [] e w.heap fun _ => K)
    (hQ : ∀ e' a' w', St n e' a' → Keep (dstsOf ops.toList) a a' → Same w w' → K e' w'.heap → Q .normal a' w') : (Code.region id ops true).wp P Q a w := by
  unfold drawOk at hok
  simp only [Bool.and_eq_true, List.all_eq_true] at hok
  obtain ⟨⟨⟨h1, h2⟩, h3⟩, h4⟩ := hok
  have hsel : ∀ (i : Nat) (o : Oper), ops[i]? = some o → ∀ cs b, o.op ≠ Op.select cs b := fun i o ho => (edgesOk_spec h1 i o (by simpa using ho)).1
  have hsem := regD_sem hsel canon [] [] e a w.heap hst (.refl _ a) (by intro s hs; cases hs) hh
  have hnd := nodup_of_pairs canon h4
  obtain ⟨hmem, hlen⟩ := all_of hnd h2 h3
  refine wp_region_any hmix ?_
  refine semD_any (P := P) (w0 := w) less_of ?_ h1 (fun _ _ h => h) (T := fun _ => True) (fun _ _ _ _ _ => trivial) (fun l _ hcl i hi x hx => before_ready h1 hcl hi x hx) ops.size _ canon [] a _ ⟨rfl, rfl, rfl⟩ (by simp) trivial hnd hmem hlen h4 (shut_none ops) hsem
  rintro p a' w' hs ⟨e', pT', h5, h6, _, h7⟩
  exact hQ e' a' w' h5 h6 hs h7
theorem regD_sound2 {ops : Array Oper} {p q : Nat} {pre r1 r2 : List Nat} {Q : Exit → Act → World → Prop} {K : Env → Hp → Prop} {id : Nat} {e : Env} {a : Act} {w : World} (hmix : P.follows .mixedOrders = true)
    (hok : drawOk2 P ops (beforeL ops) p q pre r1 r2 = true) (hst : St n e a)
    (hh : regD P n ann (ordOf (beforeL ops)) ops pre [] e w.heap fun pend e h => regD P n ann (ordX (beforeL ops) p q) ops (p :: r1) pend e h (fun _ => K) ∧ regD P n ann (ordX (beforeL ops) q p) ops (q :: r2) pend e h (fun _ => K))
    (hQ : ∀ e' a' w', St n e' a' → Keep (dstsOf ops.toList) a a' → Same w w' → K e' w'.heap → Q .normal a' w') : (Code.region id ops true).wp P Q a w := by
  unfold drawOk2 at hok
  simp only [Bool.and_eq_true, Bool.not_eq_true'] at hok
  obtain ⟨⟨⟨⟨⟨⟨⟨⟨⟨⟨⟨⟨h1, hpq⟩, hqp⟩, hne⟩, b1⟩, b2⟩, m1⟩, m2⟩, l1⟩, l2⟩, q0⟩, q1⟩, q2⟩ := hok
  rw [List.all_eq_true] at b1 b2 m1 m2
  have hne' : p ≠ q := by rintro rfl; simp at hne
  have hsel : ∀ (i : Nat) (o : Oper), ops[i]? = some o → ∀ cs b, o.op ≠ Op.select cs b := fun i o ho => (edgesOk_spec h1 i o (by simpa using ho)).1
  have hsem := regD_sem hsel pre [] [] e a w.heap hst (.refl _ a) (by intro s hs; cases hs) hh
  have n1 := nodup_of_pairs _ q1
  have n2 := nodup_of_pairs _ q2
  obtain ⟨mem1, len1⟩ := all_of n1 b1 m1
  obtain ⟨mem2, len2⟩ := all_of n2 b2 m2
  have hps : p < ops.size := by have := b1 p (by simp); rwa [Nat.blt_eq] at this
  have hqs : q < ops.size := by have := b2 q (by simp); rwa [Nat.blt_eq] at this
  have hs2 := semD_ord (ord' := ordOf (beforeL ops)) (fun _ _ h => h) (Q' := fun pend a' h => semD P ops (ordX (beforeL ops) p q) (p :: r1) pend a' h (fun pS a' h' => ∃ e' pT', St n e' a' ∧ Keep (dstsOf ops.toList) a a' ∧ Rel pT' pS ∧ K e' h') ∧
      semD P ops (ordX (beforeL ops) q p) (q :: r2) pend a' h (fun pS a' h' => ∃ e' pT', St n e' a' ∧ Keep (dstsOf ops.toList) a a' ∧ Rel pT' pS ∧ K e' h')) (by
    rintro pS a' h' ⟨e', pT', g1, g2, g3, g4, g5⟩
    exact ⟨regD_sem hsel _ pT' pS e' a' h' g1 g2 g3 g4, regD_sem hsel _ pT' pS e' a' h' g1 g2 g3 g5⟩) _ _ _ _ hsem
  refine wp_region_any hmix ?_
  refine semD_two (P := P) (w0 := w) less_of ?_ h1 hpq hqp hne' hps hqs l1 l2 ops.size _ pre [] a _ ⟨rfl, rfl, rfl⟩ (by simp) (by simp [Array.getD, hps]) (by simp [Array.getD, hqs]) n1 n2 mem1 mem2 len1 len2 q0 q1 q2 (shut_none ops) hs2
  rintro p a' w' hs ⟨e', pT', h5, h6, _, h7⟩
  exact hQ e' a' w' h5 h6 hs h7

theorem drop_get {ws : List Tmp} : ∀ {e : Env} {t : Tmp} {v : Value}, (e.drop ws).get t = some v → t ∉ ws ∧ e.get t = some v := by
  intro e
  induction e with
  | nil => intro t v h; simp [Env.drop, Env.get] at h
  | cons x e ih =>
    intro t v h
    obtain ⟨u, y⟩ := x
    simp only [Env.drop] at h
    split at h
    · rename_i hm
      obtain ⟨h1, h2⟩ := ih h
      refine ⟨h1, ?_⟩
      simp only [Env.get]
      split
      · rename_i hb
        have := Nat.eq_of_beq_eq_true hb
        subst this
        exact (h1 (memT_iff.1 hm)).elim
      · exact h2
    · rename_i hm
      simp only [Env.get] at h ⊢
      split at h
      · rename_i hb
        have := Nat.eq_of_beq_eq_true hb
        subst this
        refine ⟨fun hin => ?_, h⟩
        rw [memT_iff.2 hin] at hm
        cases hm
      · exact ih h
theorem lay_get : ∀ {sl : List (Tmp × TypeId)} {vs : List Value} {e : Env} {t : Tmp} {v : Value}, (Env.lay sl vs e).get t = some v → (∃ i : Nat, (sl[i]?).map (·.1) = some t ∧ vs[i]? = some v) ∨ e.get t = some v := by
  intro sl
  induction sl with
  | nil => intro vs e t v h; simp only [Env.lay] at h; exact .inr h
  | cons x sl ih =>
    intro vs e t v h
    obtain ⟨u, ty⟩ := x
    cases vs with
    | nil => simp only [Env.lay] at h; exact .inr h
    | cons y vs =>
      simp only [Env.lay, Env.get] at h
      split at h
      · rename_i hb
        have := Nat.eq_of_beq_eq_true hb
        subst this
        exact .inl ⟨0, rfl, h⟩
      · rcases ih h with ⟨i, h1, h2⟩ | h1
        · exact .inl ⟨i + 1, by simpa using h1, by simpa using h2⟩
        · exact .inr h1
theorem gets_get : ∀ {sl : List (Tmp × TypeId)} {e : Env} {vs : List Value}, e.gets sl = some vs → ∀ (i : Nat) (t : Tmp) (v : Value), (sl[i]?).map (·.1) = some t → vs[i]? = some v → e.get t = some v := by
  intro sl
  induction sl with
  | nil => intro e vs _ i t v h; simp at h
  | cons x sl ih =>
    intro e vs h i t v h1 h2
    obtain ⟨u, ty⟩ := x
    simp only [Env.gets] at h
    cases hu : e.get u with
    | none => simp [hu] at h
    | some y =>
      cases hr : e.gets sl with
      | none => simp [hu, hr] at h
      | some ys =>
        simp only [hu, hr, Option.some.injEq] at h
        subst h
        cases i with
        | zero =>
          simp at h1 h2
          subst h1 h2
          exact hu
        | succ i => exact ih hr i t v (by simpa using h1) (by simpa using h2)
/-- Behind a piece of code whose slots ws are forgotten but for some that are known. -/
theorem St.relay {e e' : Env} {a a' : Act} (h : St n e a) (h' : St n e' a') {ws : List Tmp} (hk : Keep ws a a') {sl : List (Tmp × TypeId)} {vs : List Value} (hg : e'.gets sl = some vs) : St n (Env.lay sl vs (e.drop ws)) a' := by
  refine ⟨?_, h'.size, h'.defers⟩
  intro t v ht
  rcases lay_get ht with ⟨i, h1, h2⟩ | h1
  · exact h'.agree t v (gets_get hg i t v h1 h2)
  · obtain ⟨h2, h3⟩ := drop_get h1
    rw [hk t h2]
    exact h.agree t v h3

theorem asSh_inj {s : Sh} {v : Value} {k : s.T → Prop} (h : asSh s v k) : ∃ x, s.inj x = v ∧ k x := by
  unfold asSh at h
  split at h <;> first | exact h.elim | skip
  · obtain ⟨h1, h2⟩ := condP_iff.1 h
    obtain rfl := kindEq_eq h1
    exact ⟨_, rfl, h2⟩
  all_goals exact ⟨_, rfl, h⟩
theorem appT_inv : ∀ {ss : List Sh} {I : CurI ss} {m : CurM ss} {vs : List Value} {k : (Hp → Prop) → (Hp → Nat) → Prop} {hd : List Value → (Hp → Prop) → (Hp → Nat) → Prop},
    appT ss I m vs k → headT ss I m hd → ∃ I' m', k I' m' ∧ hd vs I' m' := by
  intro ss
  induction ss with
  | nil =>
    intro I m vs k hd ha hh
    cases vs with
    | nil => exact ⟨I, m, ha, hh⟩
    | cons v vs => exact ha.elim
  | cons s ss ih =>
    intro I m vs k hd ha hh
    cases vs with
    | nil => exact ha.elim
    | cons v vs =>
      simp only [appT] at ha
      obtain ⟨x, hx, ha⟩ := asSh_inj ha
      obtain ⟨I', m', h1, h2⟩ := ih ha (hh x)
      exact ⟨I', m', h1, by rw [← hx]; exact h2⟩
theorem appI_inv : ∀ {ss : List Sh} {I : CurI ss} {vs : List Value} {k : (Hp → Prop) → Prop} {hd : List Value → (Hp → Prop) → Prop},
    appI ss I vs k → headI ss I hd → ∃ I', k I' ∧ hd vs I' := by
  intro ss
  induction ss with
  | nil =>
    intro I vs k hd ha hh
    cases vs with
    | nil => exact ⟨I, ha, hh⟩
    | cons v vs => exact ha.elim
  | cons s ss ih =>
    intro I vs k hd ha hh
    cases vs with
    | nil => exact ha.elim
    | cons v vs =>
      simp only [appI] at ha
      obtain ⟨x, hx, ha⟩ := asSh_inj ha
      obtain ⟨I', h1, h2⟩ := ih ha (hh x)
      exact ⟨I', h1, by rw [← hx]; exact h2⟩

/-- What is to be shown of a piece of code. -/
def SoundC (P : Program) (n : Nat) (ann : Ann) (c : Code) : Prop := ∀ (K : Exit → Env → Hp → Prop) (Q : Exit → Act → World → Prop) (e : Env) (a : Act) (w : World), St n e a → codeT P n ann c K e w.heap →
    (∀ x e' a' w', St n e' a' → Keep (writesOf c) a a' → Same w w' → K x e' w'.heap → Q x a' w') → c.wp P Q a w
theorem codeT_sound (hmix : P.follows .mixedOrders = true) (c : Code) : SoundC P n ann c := by
  have loop : ∀ (body : Code), SoundC P n ann body →
      ∀ (id : Nat) {K : Exit → Env → Hp → Prop} {Q : Exit → Act → World → Prop} {e : Env} {a : Act} {w : World}, St n e a → loopT P body (codeT P n ann body) id (ann.loops id) K e w.heap →
      (∀ x e' a' w', St n e' a' → Keep (writesOf body) a a' → Same w w' → K x e' w'.heap → Q x a' w') → (Code.block id (.loop body)).wp P Q a w := by
    intro body ih id K Q e a w hst hh hQ
    obtain ⟨I, μ, h0, hround⟩ := hh
    obtain ⟨vs0, hg0, h0⟩ := wth_elim h0
    obtain ⟨I0, m0, h0, hr0⟩ := appT_inv h0 hround
    refine wp_block (wp_loop_ghost (fun k a' w' => ∃ vs Ih mh e', St n e' a' ∧ e'.gets (ann.loops id) = some vs ∧ Keep (writesOf body) a a' ∧ Same w w' ∧ Ih w'.heap ∧ k = mh w'.heap ∧
      (∀ h, Ih h → codeT P n ann body (fun x e' h' => match x with
        | .normal => wth (e'.gets (ann.loops id)) fun us => appT _ I μ us fun I1 m1 => I1 h' ∧ m1 h' < mh h
        | .exit id' => match Nat.beq id' id with
          | true => K .normal e' h'
          | false => K (.exit id') e' h'
        | x => K x e' h') (Env.lay (ann.loops id) vs (e.drop (writesOf body))) h)) _ ⟨vs0, I0, m0, e, hst, hg0, .refl _ _, .refl _, h0, rfl, hr0⟩ ?_)
    rintro k a1 w1 ⟨vs, Ih, mh, e1, hst1, hg1, hk1, hs1, hI1, rfl, hr1⟩
    refine ih _ _ _ _ _ (hst.relay hst1 hk1 hg1) (hr1 _ hI1) ?_
    intro x e2 a2 w2 hst2 hk2 hs2 hx
    cases x with
    | normal =>
      obtain ⟨us, hg2, hx⟩ := wth_elim hx
      obtain ⟨I2, m2, ⟨h3, h4⟩, hr2⟩ := appT_inv hx hround
      exact ⟨m2 w2.heap, h4, us, I2, m2, e2, hst2, hg2, hk1.trans hk2, hs1.trans hs2, h3, rfl, hr2⟩
    | exit id' =>
      show Exit.inBlock id Q (.exit id') a2 w2
      by_cases hid : id' = id
      · subst hid
        simp only [Nat.beq_refl] at hx
        simp only [Exit.inBlock, if_true]
        exact hQ _ _ _ _ hst2 (hk1.trans hk2) (hs1.trans hs2) hx
      · have hb : Nat.beq id' id = false := by
          cases hb : Nat.beq id' id with
          | false => rfl
          | true => exact (hid (Nat.eq_of_beq_eq_true hb)).elim
        simp only [hb] at hx
        simp only [Exit.inBlock, hid, if_false]
        exact hQ _ _ _ _ hst2 (hk1.trans hk2) (hs1.trans hs2) hx
    | goto l => exact hQ _ _ _ _ hst2 (hk1.trans hk2) (hs1.trans hs2) hx
    | ret => exact hQ _ _ _ _ hst2 (hk1.trans hk2) (hs1.trans hs2) hx
    | panic ch => exact hQ _ _ _ _ hst2 (hk1.trans hk2) (hs1.trans hs2) hx
    | outgrown => exact hQ _ _ _ _ hst2 (hk1.trans hk2) (hs1.trans hs2) hx
  have block : ∀ (c : Code), SoundC P n ann c →
      ∀ (id : Nat) {K : Exit → Env → Hp → Prop} {Q : Exit → Act → World → Prop} {e : Env} {a : Act} {w : World}, St n e a → codeT P n ann c (blockK id K) e w.heap →
      (∀ x e' a' w', St n e' a' → Keep (writesOf c) a a' → Same w w' → K x e' w'.heap → Q x a' w') → (Code.block id c).wp P Q a w := by
    intro c ih id K Q e a w hst hh hQ
    refine wp_block (ih _ _ _ _ _ hst hh ?_)
    intro x e2 a2 w2 hst2 hk2 hs2 hx
    cases x with
    | normal => exact hQ _ _ _ _ hst2 hk2 hs2 hx
    | exit id' =>
      show Exit.inBlock id Q (.exit id') a2 w2
      simp only [blockK] at hx
      by_cases hid : id' = id
      · subst hid
        simp only [Nat.beq_refl] at hx
        simp only [Exit.inBlock, if_true]
        exact hQ _ _ _ _ hst2 hk2 hs2 hx
      · have hb : Nat.beq id' id = false := by
          cases hb : Nat.beq id' id with
          | false => rfl
          | true => exact (hid (Nat.eq_of_beq_eq_true hb)).elim
        simp only [hb] at hx
        simp only [Exit.inBlock, hid, if_false]
        exact hQ _ _ _ _ hst2 hk2 hs2 hx
    | goto l => exact hQ _ _ _ _ hst2 hk2 hs2 hx
    | ret => exact hQ _ _ _ _ hst2 hk2 hs2 hx
    | panic ch => exact hQ _ _ _ _ hst2 hk2 hs2 hx
    | outgrown => exact hQ _ _ _ _ hst2 hk2 hs2 hx
  suffices h : SoundC P n ann c ∧ ∀ body, c = .loop body → SoundC P n ann body from h.1
  induction c with
  | skip =>
    refine ⟨?_, fun b hb => by cases hb⟩
    intro K Q e a w hst hh hQ; exact wp_skip (hQ _ e a w hst (.refl _ _) (.refl _) hh)
  | region id ops draw =>
    refine ⟨?_, fun b hb => by cases hb⟩
    intro K Q e a w hst hh hQ
    cases draw with
    | false =>
      refine wp_region ?_
      have := regT_sound (Q := Q) ops.toList 0 e a w rfl hst hh fun e' a' w' h1 h2 h3 h4 => hQ _ e' a' w' h1 h2 h3 h4
      rw [List.range_eq_range']
      simpa using this
    | true =>
      cases hpr : ann.pair id with
      | none =>
        simp only [codeT, hpr] at hh
        obtain ⟨hok, hh⟩ := condP_iff.1 hh
        exact regD_sound hmix hok hst hh fun e' a' w' h1 h2 h3 h4 => hQ _ e' a' w' h1 h2 h3 h4
      | some x =>
        obtain ⟨p, q, r1, r2⟩ := x
        simp only [codeT, hpr] at hh
        obtain ⟨hok, hh⟩ := condP_iff.1 hh
        exact regD_sound2 hmix hok hst hh fun e' a' w' h1 h2 h3 h4 => hQ _ e' a' w' h1 h2 h3 h4
  | seq x y ihx ihy =>
    refine ⟨?_, fun b hb => by cases hb⟩
    intro K Q e a w hst hh hQ
    have hsub1 : ∀ t ∈ writesOf x, t ∈ writesOf (.seq x y) := fun t ht => List.mem_append_left _ ht
    have hsub2 : ∀ t ∈ writesOf y, t ∈ writesOf (.seq x y) := fun t ht => List.mem_append_right _ ht
    simp only [codeT] at hh
    split at hh
    · refine wp_seq (ihx.1 _ _ _ _ _ hst hh ?_)
      intro z e1 a1 w1 hst1 hk1 hs1 hz
      cases z with
      | normal => exact ihy.1 _ _ _ _ _ hst1 hz fun x e' a' w' h1 h2 h3 h4 => hQ x e' a' w' h1 ((hk1.mono hsub1).trans (h2.mono hsub2)) (hs1.trans h3) h4
      | _ => exact hQ _ _ _ _ hst1 (hk1.mono hsub1) hs1 hz
    · rename_i sl hcut
      obtain ⟨J, hx, hy⟩ := hh
      refine wp_seq (ihx.1 _ _ _ _ _ hst hx ?_)
      intro z e1 a1 w1 hst1 hk1 hs1 hz
      cases z with
      | normal =>
        obtain ⟨vs, hg, hz⟩ := wth_elim hz
        obtain ⟨J', hJ, hy'⟩ := appI_inv hz hy
        exact ihy.1 _ _ _ _ _ (hst.relay hst1 hk1 hg) (hy' _ hJ) fun x e' a' w' h1 h2 h3 h4 => hQ x e' a' w' h1 ((hk1.mono hsub1).trans (h2.mono hsub2)) (hs1.trans h3) h4
      | _ => exact hQ _ _ _ _ hst1 (hk1.mono hsub1) hs1 hz
  | cond c x y ihx ihy =>
    refine ⟨?_, fun b hb => by cases hb⟩
    intro K Q e a w hst hh hQ
    obtain ⟨v, hv, hh⟩ := wth_elim hh
    cases v <;> first | exact hh.elim | skip
    rename_i b
    refine wp_cond_split (ev_agree hst.agree hv) ?_ ?_
    · rintro rfl
      exact ihx.1 _ _ _ _ _ hst hh fun x' e' a' w' h1 h2 h3 h4 => hQ x' e' a' w' h1 (h2.mono fun t ht => List.mem_append_left _ ht) h3 h4
    · rintro rfl
      exact ihy.1 _ _ _ _ _ hst hh fun x' e' a' w' h1 h2 h3 h4 => hQ x' e' a' w' h1 (h2.mono fun t ht => List.mem_append_right _ ht) h3 h4
  | block id c ih =>
    refine ⟨?_, fun b hb => by cases hb⟩
    intro K Q e a w hst hh hQ
    cases c with
    | loop body => exact loop body (ih.2 body rfl) id hst hh hQ
    | _ => exact block _ ih.1 id hst hh hQ
  | loop body ih => exact ⟨fun K Q e a w hst hh hQ => hh.elim, fun b hb => by cases hb; exact ih.1⟩
  | rangeFunc f ps x y ihx ihy => exact ⟨fun K Q e a w hst hh hQ => hh.elim, fun b hb => by cases hb⟩
  | exit id => exact ⟨fun K Q e a w hst hh hQ => wp_exit (hQ _ e a w hst (.refl _ _) (.refl _) hh), fun b hb => by cases hb⟩
  | scope body ih => exact ⟨fun K Q e a w hst hh hQ => hh.elim, fun b hb => by cases hb⟩
  | label l => exact ⟨fun K Q e a w hst hh hQ => hh.elim, fun b hb => by cases hb⟩
  | goto l => exact ⟨fun K Q e a w hst hh hQ => hh.elim, fun b hb => by cases hb⟩
  | ret => exact ⟨fun K Q e a w hst hh hQ => wp_ret (hQ _ e a w hst (.refl _ _) (.refl _) hh), fun b hb => by cases hb⟩
  | refuse w => exact ⟨fun K Q e a w hst hh hQ => hh.elim, fun b hb => by cases hb⟩

theorem runs_load {a : Addr} {h : Hp} {v : Value} (hc : cellAt h a = some v) : RunsTo P (load a) h v := by
  rintro w rfl
  have : w.cell? a = some v := hc
  simp only [run_load, this]
theorem runs_loadCells {a : Addr} {h : Hp} : ∀ (n i : Nat) (acc : Array Value) (vs : List Value), vs.length = n → (∀ j, j < n → cellAt h (a.add (i + j)) = vs[j]?) →
    RunsTo P (loadCellsFrom a i n acc) h (acc ++ vs.toArray) := by
  intro n
  induction n with
  | zero =>
    intro i acc vs hl hc w hw
    have : vs = [] := List.eq_nil_of_length_eq_zero hl
    subst this
    simp [loadCellsFrom]
  | succ n ih =>
    intro i acc vs hl hc w hw
    cases vs with
    | nil => simp at hl
    | cons v vs =>
      have h0 := runs_load (P := P) (show cellAt h (a.add i) = some v by simpa using hc 0 (by omega)) w hw
      have h1 := ih (i + 1) (acc.push v) vs (by simpa using hl) (by
        intro j hj
        have := hc (j + 1) (by omega)
        rw [show i + 1 + j = i + (j + 1) by omega]
        simpa using this) w hw
      simp only [loadCellsFrom, Sem.run_bind, h0, Result.andThen_ok, h1]
      simp
theorem runs_underlying {t : TypeId} {d : TypeDesc} (hd : P.underlying t = some d) (w : World) : (underlying t).run P w = .ok d w := by
  simp [underlying, hd]
theorem runs_isAgg {t : TypeId} {d : TypeDesc} (hd : P.underlying t = some d) (w : World) : (isAgg t).run P w = .ok (aggB P t) w := by
  simp only [isAgg, Sem.run_bind, runs_underlying hd, Result.andThen_ok, aggB, hd]
  cases d <;> rfl
theorem runs_sizeOf {t : TypeId} {d : TypeDesc} (hd : P.underlying t = some d) (w : World) : (sizeOf t).run P w = .ok (P.cellsOf t) w := by
  unfold Program.underlying at hd
  cases hi : P.info? t with
  | none => simp [hi] at hd
  | some i => simp [sizeOf, typeInfo, hi, Program.cellsOf]
theorem loadT_runs {t : TypeId} {h : Hp} {a : Addr} {K : Value → Prop} (hh : loadT P t h a K) : ∃ v, K v ∧ RunsTo P (loadVar t a) h v := by
  unfold loadT at hh
  rcases shape_cases (P := P) t with ⟨ss, hs⟩ | ⟨n, hs⟩ | hs | hs
  · simp only [hs] at hh
    obtain ⟨⟨fs, hd⟩, hl⟩ := shape_agg hs
    obtain ⟨vs, h1, h2, h3⟩ := loadL_elim hh
    refine ⟨_, h3, fun w hw => ?_⟩
    have := runs_loadCells (P := P) (h := h) (a := a) (P.cellsOf t) 0 #[] vs (by omega) (by intro j hj; exact h2 j (by omega)) w hw
    simp only [loadVar, Sem.run_bind, runs_isAgg hd, Result.andThen_ok, show aggB P t = true by simp [aggB, hd], if_true, runs_sizeOf hd, loadCells, this]
    simp
  · simp only [hs] at hh
    obtain ⟨ha, ⟨d, hd⟩, hn⟩ := shape_row hs
    obtain ⟨cs, ⟨h1, h2⟩, h3⟩ := hh
    refine ⟨_, h3, fun w hw => ?_⟩
    have := runs_loadCells (P := P) (h := h) (a := a) (P.cellsOf t) 0 #[] cs.toList (by simp [h1, hn]) (by intro j hj; have := h2 j (by omega); simpa using this) w hw
    simp only [loadVar, Sem.run_bind, runs_isAgg hd, Result.andThen_ok, ha, if_true, runs_sizeOf hd, loadCells, this]
    simp
  · simp only [hs, exSc] at hh
  · obtain ⟨ha, d, hd⟩ := shape_scalar hs
    have hh' : exSc (shapeOf P t) fun v => cellAt h a = some v ∧ K v := by
      generalize shapeOf P t = s at *
      cases s <;> first | (simp [Sh.scalar] at hs; done) | exact hh
    obtain ⟨v, hv, hk⟩ := exSc_elim hh'
    refine ⟨v, hk, fun w hw => ?_⟩
    simp only [loadVar, Sem.run_bind, runs_isAgg hd, Result.andThen_ok, ha, Bool.false_eq_true, if_false]
    exact runs_load hv w hw

def resOf (a : Act) : ResultVar → Sem Value
  | .tmp t => pure (a.tmps.getD t undef)
  | .cell b t => do loadVar t (← asAddr (a.tmps.getD b undef))
/-- The results are read. -/
theorem resT_spec {e : Env} {a : Act} {w : World} (ha : Agree e a) : ∀ {rs : List ResultVar} {acc : List Value} {K : List Value → Prop}, resT P e w.heap rs acc K →
    ∃ vs, K (acc.reverse ++ vs) ∧ (rs.mapM (resOf a)).run P w = .ok vs w := by
  intro rs
  induction rs with
  | nil => intro acc K hh; exact ⟨[], by simpa [resT] using hh, by simp⟩
  | cons r rs ih =>
    intro acc K hh
    cases r with
    | tmp t =>
      simp only [resT] at hh
      obtain ⟨v, hv, hh⟩ := wth_elim hh
      obtain ⟨vs, h1, h2⟩ := ih hh
      refine ⟨v :: vs, by simpa using h1, ?_⟩
      have : a.tmps.getD t undef = v := by simp [Array.getD_eq_getD_getElem?, ha t v hv]
      simp only [List.mapM_cons, Sem.run_bind, resOf, this, Sem.run_pure, Result.andThen_ok, h2]
    | cell b ty =>
      simp only [resT] at hh
      obtain ⟨v, hv, hh⟩ := wth_elim hh
      have : ∃ ad, v = .pointer (some ad) ∧ loadT P ty w.heap ad fun u => resT P e w.heap rs (u :: acc) K := by
        cases v <;> first | exact hh.elim | skip
        obtain ⟨ad, hp, hh1⟩ := wth_elim hh
        exact ⟨ad, by rw [hp], hh1⟩
      obtain ⟨ad, rfl, hh1⟩ := this
      obtain ⟨u, hh2, hu⟩ := loadT_runs hh1
      obtain ⟨vs, h1, h2⟩ := ih hh2
      refine ⟨u :: vs, by simpa using h1, ?_⟩
      have hb : a.tmps.getD b undef = .pointer (some ad) := by simp [Array.getD_eq_getD_getElem?, ha b _ hv]
      simp only [List.mapM_cons, Sem.run_bind, resOf, hb, asAddr, Sem.run_pure, Result.andThen_ok, hu w rfl, h2]
theorem results_run {fn : Func} {a : Act} {w : World} {vs : List Value} (h : (fn.results.toList.mapM (resOf a)).run P w = .ok vs w) : (results fn a.tmps).run P w = .ok (mkRes vs) w := by
  have e : results fn a.tmps = (List.toArray <$> fn.results.toList.mapM (resOf a)) >>= fun vs => pure (if h : vs.size = 1 then vs[0] else .tuple vs) := by
    unfold results
    rw [← Array.mapM_eq_mapM_toList]
    congr 1
  rw [e]
  simp only [Sem.run_bind, Sem.run_map, h, Result.andThen_ok, Sem.run_pure]
  congr 1
  match vs with
  | [] => rfl
  | [v] => rfl
  | v :: u :: vs => simp [mkRes]
theorem argEnv_get : ∀ {vs : List Value} {i t : Nat} {v : Value}, (argEnv vs i).get t = some v → i ≤ t ∧ vs[t - i]? = some v := by
  intro vs
  induction vs with
  | nil => intro i t v h; simp [argEnv, Env.get] at h
  | cons x vs ih =>
    intro i t v h
    simp only [argEnv, Env.get] at h
    split at h
    · rename_i hb
      have := Nat.eq_of_beq_eq_true hb
      subst this
      exact ⟨Nat.le_refl _, by simpa using h⟩
    · rename_i hb
      obtain ⟨h1, h2⟩ := ih h
      refine ⟨by omega, ?_⟩
      rw [show t - i = t - (i + 1) + 1 by omega]
      simpa using h2
def bodyOf (fn : Func) : Code := match fn.body with | some c => c | none => .skip
theorem calls_of_fnT {f : FuncId} {fn : Func} {c : Code} {args : List Value} {h : Hp} {R : Value → Hp → Prop} (hmix : P.follows .mixedOrders = true) (hf : P.funcs[f]? = some fn) (hb : fn.body = some c) (hn : fn.ntmps = n)
    (hc : ∀ args w, (callFunc f args).run P w = .ok (.enter f args) w) (hle : Nat.ble args.length n = true) (hh : fnT P n ann fn c args h R) : CallsH P f ⟨args⟩ h R := by
  unfold fnT at hh
  refine ⟨hc, ?_⟩
  rintro w rfl
  refine calls_of_wp hf hb ?_
  have hle' := Nat.le_of_ble_eq_true hle
  refine codeT_sound (ann := ann) (n := n) hmix c _ _ (argEnv args 0) _ w ?_ hh ?_
  · refine ⟨?_, ?_, rfl⟩
    · intro t v ht
      obtain ⟨_, h1⟩ := argEnv_get ht
      simp only [Nat.sub_zero] at h1
      have hlt : t < args.length := (List.getElem?_eq_some_iff.1 h1).1
      rw [Array.getElem?_append_left (by simpa using hlt)]
      simpa using h1
    · simp [hn]; omega
  · intro x e' a' w' hst _ hs hx
    cases x with
    | normal =>
      obtain ⟨vs, h1, h2⟩ := resT_spec hst.agree hx
      exact ⟨hst.defers, _, results_run h2, _, rfl, by simpa using h1, hs⟩
    | ret =>
      obtain ⟨vs, h1, h2⟩ := resT_spec hst.agree hx
      exact ⟨hst.defers, _, results_run h2, _, rfl, by simpa using h1, hs⟩
    | _ => exact hx.elim
end
end Go.Proofs.Ytmdhfmljgjnggaa
/- Memory as a row of objects: what a store, a new block, a map's operation does to it. No condition. -/
namespace Go.Proofs.Ytmdhfmljgjnggaa

theorem Addr.add_mk (b o n : Nat) : (⟨b, o, none⟩ : Addr).add n = ⟨b, o + n, none⟩ := by
  unfold Addr.add
  split
  · rename_i h; subst h; rfl
  · rfl
theorem wth_some {α : Type} (a : α) (K : α → Prop) : wth (some a) K = K a := rfl
theorem cellAt_cells {h : Hp} {b o : Nat} {c : Array Value} {e : TypeId} {f : Nat × Nat} (hb : h[b]? = some (.cells c e f)) : cellAt h ⟨b, o, none⟩ = c[o]? := by
  simp [cellAt, hb]
theorem frozenAt_cells {h : Hp} {b o : Nat} {c : Array Value} {e : TypeId} (hb : h[b]? = some (.cells c e (0, 0))) : frozenAt h ⟨b, o, none⟩ = false := by
  simp [frozenAt, hb]
theorem setH_size (h : Hp) (a : Addr) (v : Value) : (setH h a v).size = h.size := by simp [setH]
theorem setH_other {h : Hp} {a : Addr} {v : Value} {r : Nat} (hr : r ≠ a.block) : (setH h a v)[r]? = h[r]? := by
  unfold setH
  rw [Array.getElem?_modify, if_neg (fun e => hr e.symm)]
theorem setH_same {h : Hp} {b o : Nat} {v : Value} {c : Array Value} {e : TypeId} {f : Nat × Nat} (hb : h[b]? = some (.cells c e f)) : (setH h ⟨b, o, none⟩ v)[b]? = some (.cells (c.setIfInBounds o v) e f) := by
  unfold setH
  rw [Array.getElem?_modify, if_pos rfl, hb]
  rfl
theorem push_old {h : Hp} {o : Obj} {r : Nat} (hr : r < h.size) : (h.push o)[r]? = h[r]? := by rw [Array.getElem?_push, if_neg (by omega)]
theorem push_new (h : Hp) (o : Obj) : (h.push o)[h.size]? = some o := by simp
theorem lt_of_at {h : Hp} {r : Nat} {o : Obj} (hr : h[r]? = some o) : r < h.size := by
  rcases Nat.lt_or_ge r h.size with h1 | h1
  · exact h1
  · simp [Array.getElem?_eq_none h1] at hr
theorem ne_of_at {h : Hp} {r s : Nat} {o p : Obj} (hr : h[r]? = some o) (hs : h[s]? = some p) (hop : o ≠ p) : r ≠ s := by
  rintro rfl
  rw [hr] at hs
  exact hop (Option.some.inj hs)

theorem ne_cells {h : Hp} {r s : Nat} {c c' : Array Value} {e e' : TypeId} {f f' : Nat × Nat} (hr : h[r]? = some (.cells c e f)) (hs : h[s]? = some (.cells c' e' f')) (he : e ≠ e') : r ≠ s :=
  ne_of_at hr hs (fun x => he (by injection x))

/-- From memory h to memory h': only the blocks of F are changed, and new ones made; what one has behind it is of F, or new. -/
structure Step (h h' : Hp) (F F' : List Nat) : Prop where
  size : h.size ≤ h'.size
  frame : ∀ r, r < h.size → r ∉ F → h'[r]? = h[r]?
  foot : ∀ r ∈ F', r ∈ F ∨ h.size ≤ r
theorem Step.refl (h : Hp) (F : List Nat) : Step h h F F := ⟨Nat.le_refl _, fun _ _ _ => rfl, fun _ hr => .inl hr⟩
theorem Step.trans {h h1 h2 : Hp} {F F1 F2 : List Nat} (a : Step h h1 F F1) (b : Step h1 h2 F1 F2) : Step h h2 F F2 := by
  refine ⟨Nat.le_trans a.size b.size, fun r hr hf => ?_, fun r hr => ?_⟩
  · rw [b.frame r (Nat.lt_of_lt_of_le hr a.size) ?_, a.frame r hr hf]
    intro h1
    rcases a.foot r h1 with h2 | h2
    · exact hf h2
    · omega
  · rcases b.foot r hr with h1 | h1
    · exact a.foot r h1
    · exact .inr (Nat.le_trans a.size h1)
theorem Step.mono {h h' : Hp} {F F' G G' : List Nat} (a : Step h h' F F') (hF : ∀ r ∈ F, r ∈ G) (hG : ∀ r ∈ G', r ∈ F' ∨ r ∈ G) : Step h h' G G' := by
  refine ⟨a.size, fun r hr hg => a.frame r hr fun hf => hg (hF r hf), fun r hr => ?_⟩
  rcases hG r hr with h1 | h1
  · rcases a.foot r h1 with h2 | h2
    · exact .inl (hF r h2)
    · exact .inr h2
  · exact .inl h1
/-- Only new blocks. -/
abbrev Ext (h h' : Hp) : Prop := Step h h' [] []
theorem Step.ext {h h' : Hp} {F F' : List Nat} (a : Ext h h') (hs : ∀ r ∈ F', r ∈ F) : Step h h' F F' := a.mono (by simp) fun r hr => .inr (hs r hr)
theorem Ext.at {h h' : Hp} (a : Ext h h') {r : Nat} {o : Obj} (hr : h[r]? = some o) : h'[r]? = some o := by
  rw [a.frame r (lt_of_at hr) (by simp), hr]
theorem Ext.push (h : Hp) (o : Obj) : Ext h (h.push o) := ⟨by simp, fun r hr _ => push_old hr, by simp⟩
theorem Step.at {h h' : Hp} {F F' : List Nat} (a : Step h h' F F') {r : Nat} {o : Obj} (hr : h[r]? = some o) (hf : r ∉ F) : h'[r]? = some o := by
  rw [a.frame r (lt_of_at hr) hf, hr]
theorem Step.setH {h : Hp} {b o : Nat} {v : Value} {F : List Nat} (hb : b ∈ F) : Step h (setH h ⟨b, o, none⟩ v) F F :=
  ⟨by rw [setH_size]; exact Nat.le_refl _, fun r _ hf => setH_other (fun e => hf (e ▸ hb)), fun _ hr => .inl hr⟩
theorem Step.push {h : Hp} {o : Obj} {F : List Nat} : Step h (h.push o) F (h.size :: F) :=
  ⟨by simp, fun r hr _ => push_old hr, fun r hr => by rcases List.mem_cons.1 hr with rfl | h1 <;> simp [*]⟩
theorem Step.setObj {h : Hp} {b : Nat} {o : Obj} {F : List Nat} (hb : b ∈ F) : Step h (h.setIfInBounds b o) F F :=
  ⟨by simp, fun r _ hf => by rw [Array.getElem?_setIfInBounds, if_neg (show ¬ b = r from fun e => hf (e ▸ hb))], fun _ hr => .inl hr⟩
/-- What lies aside stays, and stays aside. -/
theorem Step.aside {h h' : Hp} {F F' G : List Nat} (a : Step h h' F F') (hG : ∀ r ∈ G, r < h.size ∧ r ∉ F) : (∀ r ∈ G, h'[r]? = h[r]?) ∧ ∀ r ∈ G, r < h'.size ∧ r ∉ F' := by
  refine ⟨fun r hr => a.frame r (hG r hr).1 (hG r hr).2, fun r hr => ⟨Nat.lt_of_lt_of_le (hG r hr).1 a.size, fun h1 => ?_⟩⟩
  rcases a.foot r h1 with h2 | h2
  · exact (hG r hr).2 h2
  · have := (hG r hr).1; omega

/-! ### Maps keyed by integers -/
def keysOf {α : Type} (l : List (Int × α)) : List Int := l.map (·.1)
/-- Block r holds a map that reads as l, in the order in which the entries came. -/
structure MapAt (k : IntKind) (h : Hp) (r : Nat) (l : List (Int × Value)) : Prop where
  is : ∃ (es : Array MapEntry) (clk : Nat), h[r]? = some (.map es clk) ∧ es.toList.map (fun e => (e.key, e.val)) = l.map (fun p => (.int k p.1, p.2)) ∧ (es.toList.map (·.born)).Nodup ∧ ∀ e ∈ es.toList, e.born < clk
  nodup : (keysOf l).Nodup
theorem MapAt.congr {k : IntKind} {h h' : Hp} {r : Nat} {l : List (Int × Value)} (hm : MapAt k h r l) (he : h'[r]? = h[r]?) : MapAt k h' r l :=
  ⟨by rw [he]; exact hm.is, hm.nodup⟩
theorem MapAt.lt {k : IntKind} {h : Hp} {r : Nat} {l : List (Int × Value)} (hm : MapAt k h r l) : r < h.size := by
  obtain ⟨es, clk, h1, _⟩ := hm.is; exact lt_of_at h1
theorem MapAt.ne_cells {k : IntKind} {h : Hp} {r s : Nat} {l : List (Int × Value)} (hm : MapAt k h r l) {c : Array Value} {e : TypeId} {f : Nat × Nat} (hs : h[s]? = some (.cells c e f)) : r ≠ s := by
  obtain ⟨es, clk, h1, _⟩ := hm.is
  exact ne_of_at h1 hs (by simp)
theorem MapAt.new (k : IntKind) (h : Hp) : MapAt k (h.push (.map #[] 0)) h.size [] := ⟨⟨#[], 0, push_new _ _, rfl, by simp, by simp⟩, by simp [keysOf]⟩

def lkp {α : Type} (n : Int) : List (Int × α) → Option α
  | [] => none
  | (m, v) :: l => if n = m then some v else lkp n l
def upd {α : Type} (n : Int) (v : α) : List (Int × α) → List (Int × α)
  | [] => [(n, v)]
  | (m, u) :: l => if n = m then (m, v) :: l else (m, u) :: upd n v l
def del {α : Type} (n : Int) : List (Int × α) → List (Int × α)
  | [] => []
  | (m, u) :: l => if n = m then l else (m, u) :: del n l
theorem lkp_none {α : Type} {n : Int} {l : List (Int × α)} : lkp n l = none ↔ n ∉ keysOf l := by
  induction l with
  | nil => simp [lkp, keysOf]
  | cons p l ih =>
    obtain ⟨m, v⟩ := p
    simp only [lkp, keysOf, List.map_cons, List.mem_cons, not_or]
    by_cases h : n = m
    · simp [h]
    · simp only [h, if_false, not_false_eq_true, true_and]; exact ih
theorem lkp_mem {α : Type} {n : Int} {v : α} {l : List (Int × α)} (h : lkp n l = some v) : (n, v) ∈ l := by
  induction l with
  | nil => simp [lkp] at h
  | cons p l ih =>
    obtain ⟨m, u⟩ := p
    simp only [lkp] at h
    split at h
    · rename_i he; subst he; cases h; simp
    · exact List.mem_cons_of_mem _ (ih h)
theorem mem_lkp {α : Type} {n : Int} {v : α} {l : List (Int × α)} (hn : (keysOf l).Nodup) (h : (n, v) ∈ l) : lkp n l = some v := by
  induction l with
  | nil => cases h
  | cons p l ih =>
    obtain ⟨m, u⟩ := p
    simp only [keysOf, List.map_cons, List.nodup_cons] at hn
    simp only [lkp]
    rcases List.mem_cons.1 h with h1 | h1
    · cases h1; simp
    · have : n ≠ m := by
        rintro rfl
        exact hn.1 (List.mem_map.2 ⟨(n, v), h1, rfl⟩)
      rw [if_neg this]
      exact ih hn.2 h1
theorem keysOf_upd {α : Type} {n : Int} {v : α} {l : List (Int × α)} : keysOf (upd n v l) = if n ∈ keysOf l then keysOf l else keysOf l ++ [n] := by
  induction l with
  | nil => simp [upd, keysOf]
  | cons p l ih =>
    obtain ⟨m, u⟩ := p
    simp only [upd]
    by_cases h : n = m
    · simp [h, keysOf]
    · simp only [h, if_false]
      have : keysOf ((m, u) :: upd n v l) = m :: keysOf (upd n v l) := rfl
      rw [this, ih]
      by_cases h2 : n ∈ keysOf l
      · simp [h2, keysOf] at *
        simp [h, h2]
      · have h3 : n ∉ keysOf ((m, u) :: l) := by simp [keysOf, h] at *; exact h2
        rw [if_neg h2, if_neg h3]; rfl
theorem nodup_upd {α : Type} {n : Int} {v : α} {l : List (Int × α)} (h : (keysOf l).Nodup) : (keysOf (upd n v l)).Nodup := by
  rw [keysOf_upd]
  split
  · exact h
  · rename_i hn
    rw [List.nodup_append]
    exact ⟨h, by simp, by intro a ha b hb; simp at hb; subst hb; rintro rfl; exact hn ha⟩
theorem lkp_upd {α : Type} {n m : Int} {v : α} {l : List (Int × α)} : lkp m (upd n v l) = if m = n then some v else lkp m l := by
  induction l with
  | nil => simp [upd, lkp]
  | cons p l ih =>
    obtain ⟨q, u⟩ := p
    simp only [upd]
    by_cases h : n = q
    · subst h
      simp only [if_true, lkp]
      by_cases h2 : m = n <;> simp [h2]
    · simp only [h, if_false, lkp, ih]
      by_cases h2 : m = q
      · subst h2
        have : m ≠ n := fun e => h e.symm
        simp [this]
      · simp [h2]
theorem keysOf_del {α : Type} {n : Int} {l : List (Int × α)} : keysOf (del n l) = (keysOf l).erase n := by
  induction l with
  | nil => rfl
  | cons p l ih =>
    obtain ⟨m, u⟩ := p
    simp only [del]
    by_cases h : n = m
    · subst h; simp [keysOf]
    · simp only [h, if_false]
      have e1 : keysOf ((m, u) :: del n l) = m :: keysOf (del n l) := rfl
      have e2 : keysOf ((m, u) :: l) = m :: keysOf l := rfl
      rw [e1, e2, ih, List.erase_cons_tail (by simpa using fun e => h e.symm)]
theorem nodup_del {α : Type} {n : Int} {l : List (Int × α)} (h : (keysOf l).Nodup) : (keysOf (del n l)).Nodup := by
  rw [keysOf_del]; exact h.erase n
theorem lkp_del {α : Type} {n m : Int} {l : List (Int × α)} (hn : (keysOf l).Nodup) : lkp m (del n l) = if m = n then none else lkp m l := by
  induction l with
  | nil => simp [del, lkp]
  | cons p l ih =>
    obtain ⟨q, u⟩ := p
    simp only [keysOf, List.map_cons, List.nodup_cons] at hn
    simp only [del]
    by_cases h : n = q
    · subst h
      simp only [if_true, lkp]
      by_cases h2 : m = n
      · subst h2; simp only [if_true]; exact lkp_none.2 hn.1
      · simp [h2]
    · simp only [h, if_false, lkp, ih hn.2]
      by_cases h2 : m = q
      · subst h2
        have : m ≠ n := fun e => h e.symm
        simp [this]
      · simp [h2]

section
variable {P : Program}
def findL (n : Int) : List (Int × Value) → Nat → Option (Nat × Value)
  | [], _ => none
  | (m, v) :: l, i => if n = m then some (i, v) else findL n l (i + 1)
theorem findNow_int {k : IntKind} {n : Int} : ∀ {es : List MapEntry} {l : List (Int × Value)} {i : Nat}, es.map (fun e => (e.key, e.val)) = l.map (fun p => (.int k p.1, p.2)) → Instr.findNow (.int k) (.int k n) es i = some (findL n l i) := by
  intro es
  induction es with
  | nil =>
    intro l i h
    cases l with
    | nil => rfl
    | cons p l => simp at h
  | cons e es ih =>
    intro l i h
    cases l with
    | nil => simp at h
    | cons p l =>
      obtain ⟨m, v⟩ := p
      simp only [List.map_cons, List.cons.injEq, Prod.mk.injEq] at h
      obtain ⟨⟨h1, h2⟩, h3⟩ := h
      simp only [Instr.findNow, h1, Instr.sameNow, if_true, findL]
      by_cases hnm : n = m
      · subst hnm; simp [h2]
      · have : (n == m) = false := by simpa using hnm
        simp only [this, hnm, if_false]
        exact ih h3
theorem findL_lkp {n : Int} : ∀ {l : List (Int × Value)} {i : Nat}, (findL n l i).map (·.2) = lkp n l := by
  intro l
  induction l with
  | nil => intro i; rfl
  | cons p l ih =>
    intro i
    obtain ⟨m, v⟩ := p
    simp only [findL, lkp]
    split
    · rfl
    · exact ih
theorem runs_checkKey {t : TypeId} {k k' : IntKind} {n : Int} {e : Bool} (hk : P.underlying t = some (.int k)) (d : Nat) (w : World) : (Instr.checkKey e (d + 1) t (.int k' n)).run P w = .ok () w := by
  simp [Instr.checkKey, runs_underlying hk]
theorem runs_getObj {h : Hp} {r : Nat} {es : Array MapEntry} {clk : Nat} (hr : h[r]? = some (.map es clk)) (w : World) (hw : w.heap = h) : (getObj r).run P w = .ok (.map es clk) w := by
  subst hw
  simp [getObj, Sem.run, hr]
theorem runs_findKey {t : TypeId} {k : IntKind} {n : Int} {es : List MapEntry} {l : List (Int × Value)} (hk : P.underlying t = some (.int k)) (he : es.map (fun e => (e.key, e.val)) = l.map (fun p => (.int k p.1, p.2))) (w : World) :
    (Instr.findKey t (.int k n) es).run P w = .ok (findL n l 0) w := by
  simp [Instr.findKey, runs_underlying hk, findNow_int he]
theorem runs_zeroValue {t : TypeId} (hz : hasZero P t = true) (w : World) : (zeroValue t).run P w = .ok (zeroOf P t) w := by
  unfold hasZero at hz
  cases hi : P.info? t with
  | none => simp [hi] at hz
  | some i =>
    simp only [hi] at hz
    cases hzz : i.zero with
    | none => simp [hzz] at hz
    | some z => simp [zeroValue, typeInfo, hi, hzz, zeroOf]
theorem runs_lookup {t kt et : TypeId} {k : IntKind} {n : Int} {h : Hp} {r : Nat} {l : List (Int × Value)} (hm : P.underlying t = some (.map kt et)) (hk : P.underlying kt = some (.int k)) (hz : hasZero P et = true) (ha : MapAt k h r l) (ok : Bool) :
    RunsTo P (Instr.lookup t (.map (some r)) (.int k n) ok) h (if ok then .tuple #[(lkp n l).getD (zeroOf P et), .bool (lkp n l).isSome] else (lkp n l).getD (zeroOf P et)) := by
  obtain ⟨es, clk, h1, h2, _⟩ := ha.is
  intro w hw
  have hck := runs_checkKey (P := P) (e := es.isEmpty) (k' := k) (n := n) hk 9999 w
  have hf := findL_lkp (n := n) (l := l) (i := 0)
  simp only [Instr.lookup, Sem.run_bind, runs_underlying hm, Result.andThen_ok, runs_getObj h1 w hw, hck, runs_findKey hk h2, Sem.run_pure]
  cases hr : findL n l 0 with
  | none =>
    rw [hr] at hf
    simp only [← hf, Option.map_none, Sem.run_bind, runs_zeroValue hz, Result.andThen_ok, Sem.run_pure, Option.getD_none, Option.isSome_none]
  | some p =>
    rw [hr] at hf
    simp only [← hf, Option.map_some, Sem.run_bind, Sem.run_pure, Result.andThen_ok, Option.getD_some, Option.isSome_some]
theorem runs_lookup_nil {t kt et : TypeId} {k : IntKind} {n : Int} {h : Hp} (hm : P.underlying t = some (.map kt et)) (hk : P.underlying kt = some (.int k)) (hz : hasZero P et = true) (ok : Bool) :
    RunsTo P (Instr.lookup t (.map none) (.int k n) ok) h (if ok then .tuple #[zeroOf P et, .bool false] else zeroOf P et) := by
  intro w hw
  have hck := runs_checkKey (P := P) (e := (#[] : Array MapEntry).isEmpty) (k' := k) (n := n) hk 9999 w
  have hfk := runs_findKey (P := P) (n := n) (es := []) (l := []) hk rfl w
  simp only [Instr.lookup, Sem.run_bind, runs_underlying hm, Result.andThen_ok, hck, hfk, Sem.run_pure, findL, runs_zeroValue hz]
theorem runs_len_map {t : TypeId} {tys : Array TypeId} {kt et : TypeId} {ty : TypeId} {h : Hp} {r : Nat} {k : IntKind} {l : List (Int × Value)} (ht : tys[0]? = some t) (hm : P.underlying t = some (.map kt et)) (ha : MapAt k h r l) :
    RunsTo P (Builtin.len_ tys ty #[.map (some r)]) h (.int .i64 l.length) := by
  obtain ⟨es, clk, h1, h2, _⟩ := ha.is
  intro w hw
  have hsz : es.size = l.length := by
    have := congrArg List.length h2
    simpa using this
  simp [Builtin.len_, ht, runs_underlying hm, runs_getObj h1 w hw, goInt, hsz]

theorem objAt_map {h : Hp} {r : Nat} {es : Array MapEntry} {clk : Nat} (hr : h[r]? = some (.map es clk)) : objAt h r = some (.map es clk) := by
  simp [objAt, hr]
theorem semWP_checkKey {t : TypeId} {k k' : IntKind} {n : Int} {e : Bool} {h : Hp} {K : Unit → Hp → Prop} (hk : P.underlying t = some (.int k)) (d : Nat) : semWP P (Instr.checkKey e (d + 1) t (.int k' n)) h K = K () h := by
  simp only [Instr.checkKey, semWP_bind, semWP_underlying hk, semWP_ret]
theorem semWP_findKey {t : TypeId} {k : IntKind} {n : Int} {es : List MapEntry} {l : List (Int × Value)} {h : Hp} {K : Option (Nat × Value) → Hp → Prop} (hk : P.underlying t = some (.int k)) (he : es.map (fun e => (e.key, e.val)) = l.map (fun p => (.int k p.1, p.2))) :
    semWP P (Instr.findKey t (.int k n) es) h K = K (findL n l 0) h := by
  simp only [Instr.findKey, semWP_bind, semWP_underlying hk, findNow_int he, semWP_ret]
theorem findL_some {n : Int} : ∀ {l : List (Int × Value)} {i j : Nat} {v : Value}, findL n l i = some (j, v) → i ≤ j ∧ l[j - i]? = some (n, v) ∧ (∀ u, upd n u l = l.set (j - i) (n, u)) ∧ del n l = l.eraseIdx (j - i) := by
  intro l
  induction l with
  | nil => intro i j v h; simp [findL] at h
  | cons p l ih =>
    intro i j v h
    obtain ⟨m, u⟩ := p
    simp only [findL] at h
    split at h
    · rename_i he
      subst he
      simp only [Option.some.injEq, Prod.mk.injEq] at h
      obtain ⟨rfl, rfl⟩ := h
      simp [upd, del]
    · rename_i he
      obtain ⟨h1, h2, h3, h4⟩ := ih h
      have e : j - i = (j - (i + 1)) + 1 := by omega
      refine ⟨by omega, by rw [e]; simpa using h2, fun w => ?_, ?_⟩
      · simp only [upd, he, if_false, h3, e, List.set_cons_succ]
      · simp only [del, he, if_false, h4, e, List.eraseIdx_cons_succ]
theorem findL_none {n : Int} : ∀ {l : List (Int × Value)} {i : Nat}, findL n l i = none → (∀ u, upd n u l = l ++ [(n, u)]) ∧ del n l = l := by
  intro l
  induction l with
  | nil => intro i _; exact ⟨fun _ => rfl, rfl⟩
  | cons p l ih =>
    intro i h
    obtain ⟨m, u⟩ := p
    simp only [findL] at h
    split at h
    · cases h
    · rename_i he
      obtain ⟨h1, h2⟩ := ih h
      exact ⟨fun w => by simp only [upd, he, if_false, h1]; rfl, by simp only [del, he, if_false, h2]⟩
theorem map_eraseIdx {α β : Type} (f : α → β) : ∀ (l : List α) (i : Nat), (l.eraseIdx i).map f = (l.map f).eraseIdx i := by
  intro l
  induction l with
  | nil => intro i; rfl
  | cons a l ih =>
    intro i
    cases i with
    | zero => rfl
    | succ i => simp only [List.eraseIdx_cons_succ, List.map_cons, ih]
theorem sameBits_int {k : IntKind} {n : Int} (d : Nat) : Instr.sameBits d (.int k n) (.int k n) = true := by
  cases d <;> simp [Instr.sameBits]
/-- m[n] = v. -/
theorem semWP_mapUpdate {t kt et : TypeId} {k : IntKind} {n : Int} {v : Value} {h : Hp} {r : Nat} {l : List (Int × Value)} {K : Unit → Hp → Prop} (hm : P.underlying t = some (.map kt et)) (hk : P.underlying kt = some (.int k)) (ha : MapAt k h r l)
    (hK : ∀ h', MapAt k h' r (upd n v l) → Step h h' [r] [r] → h'.size = h.size → K () h') : semWP P (Instr.mapUpdate t (.map (some r)) (.int k n) v) h K := by
  obtain ⟨es, clk, h1, h2, h3, h4⟩ := ha.is
  have hlt := lt_of_at h1
  have hck := fun (K : Unit → Hp → Prop) => semWP_checkKey (P := P) (e := false) (k' := k) (n := n) (h := h) (K := K) hk 9999
  simp only [Instr.mapUpdate, semWP_bind, semWP_underlying hm]
  refine ⟨_, objAt_map h1, ?_⟩
  rw [semWP_ret']
  simp only [semWP_bind]
  show semWP P (Instr.checkKey false (9999 + 1) kt (.int k n)) h _
  rw [hck, semWP_findKey hk h2]
  cases hr : findL n l 0 with
  | none =>
    obtain ⟨h5, _⟩ := findL_none hr
    refine ⟨⟨_, objAt_map h1⟩, ?_⟩
    refine hK _ ⟨⟨es.push ⟨.int k n, v, clk⟩, clk + 1, by simp [hlt], ?_, ?_, ?_⟩, nodup_upd ha.nodup⟩ (Step.setObj (by simp)) (by simp)
    · rw [h5]; simp [h2]
    · simp only [Array.toList_push, List.map_append, List.map_cons, List.map_nil]
      rw [List.nodup_append]
      refine ⟨h3, by simp, ?_⟩
      intro a ha' b hb
      simp at hb
      subst hb
      obtain ⟨e, he, rfl⟩ := List.mem_map.1 ha'
      exact fun hx => by have := h4 e he; omega
    · intro e he
      simp only [Array.toList_push, List.mem_append, List.mem_singleton] at he
      rcases he with he | rfl
      · have := h4 e he; omega
      · simp
  | some p =>
    obtain ⟨j, u⟩ := p
    obtain ⟨_, h5, h6, _⟩ := findL_some hr
    simp only [Nat.sub_zero] at h5 h6
    have hj : j < es.size := by
      have := congrArg List.length h2
      simp only [List.length_map, Array.length_toList] at this
      rw [this]
      exact (List.getElem?_eq_some_iff.1 h5).1
    have hkey : ((es[j]?).map (·.key)).getD (.int k n) = .int k n := by
      have := congrArg (fun x => x[j]?) h2
      simp only [List.getElem?_map, h5, Option.map_some] at this
      rw [Array.getElem?_toList] at this
      cases he : es[j]? with
      | none => simp
      | some e => rw [he] at this; simp at this; simp [this.1]
    simp only [semWP_bind, hkey, Instr.keyThatStays, sameBits_int, if_true, semWP_ret]
    refine ⟨⟨_, objAt_map h1⟩, ?_⟩
    refine hK _ ⟨⟨es.modify j fun e => { e with key := .int k n, val := v }, clk, by simp [hlt], ?_, ?_, ?_⟩, nodup_upd ha.nodup⟩ (Step.setObj (by simp)) (by simp)
    · rw [h6]
      apply List.ext_getElem?
      intro i
      have := congrArg (fun x => x[i]?) h2
      simp only [List.getElem?_map] at this ⊢
      rw [Array.getElem?_toList] at this ⊢
      rw [Array.getElem?_modify, List.getElem?_set]
      by_cases hij : j = i
      · subst hij
        have hl : j < l.length := (List.getElem?_eq_some_iff.1 h5).1
        simp [hj, hl]
      · simp [hij, this]
    · have : (es.modify j fun e => { e with key := .int k n, val := v }).toList.map (·.born) = es.toList.map (·.born) := by
        apply List.ext_getElem?
        intro i
        simp only [List.getElem?_map, Array.getElem?_toList, Array.getElem?_modify]
        by_cases hij : j = i
        · subst hij; simp [hj]
        · simp [hij]
      rw [this]; exact h3
    · intro e he
      obtain ⟨i, hi⟩ := List.getElem?_of_mem he
      rw [Array.getElem?_toList, Array.getElem?_modify] at hi
      by_cases hij : j = i
      · subst hij
        simp only [if_true, Option.map_eq_some_iff] at hi
        obtain ⟨e', he', rfl⟩ := hi
        exact h4 e' (by rw [← Array.getElem?_toList] at he'; exact List.mem_of_getElem? he')
      · simp only [hij, if_false] at hi
        exact h4 e (by rw [← Array.getElem?_toList] at hi; exact List.mem_of_getElem? hi)
/-- delete(m, n). -/
theorem semWP_delete {t kt et ty : TypeId} {tys : Array TypeId} {k : IntKind} {n : Int} {h : Hp} {r : Nat} {l : List (Int × Value)} {K : Value → Hp → Prop} (ht : tys[0]? = some t) (hm : P.underlying t = some (.map kt et)) (hk : P.underlying kt = some (.int k)) (ha : MapAt k h r l)
    (hK : ∀ h', MapAt k h' r (del n l) → Step h h' [r] [r] → h'.size = h.size → K (.tuple #[]) h') : semWP P (Builtin.delete_ tys ty #[.map (some r), .int k n]) h K := by
  obtain ⟨es, clk, h1, h2, h3, h4⟩ := ha.is
  have hlt := lt_of_at h1
  have hck := fun (K : Unit → Hp → Prop) => semWP_checkKey (P := P) (e := es.isEmpty) (k' := k) (n := n) (h := h) (K := K) hk 9999
  simp only [Builtin.delete_, ht, semWP_bind, List.getElem?_toArray, List.getElem?_cons_zero, List.getElem?_cons_succ, semWP_underlying hm]
  refine ⟨_, objAt_map h1, ?_⟩
  rw [semWP_ret']
  simp only [semWP_bind]
  show semWP P (Instr.checkKey es.isEmpty (9999 + 1) kt (.int k n)) h _
  rw [hck, semWP_findKey hk h2]
  cases hr : findL n l 0 with
  | none =>
    obtain ⟨_, h5⟩ := findL_none hr
    refine ⟨⟨_, objAt_map h1⟩, ?_⟩
    refine hK _ ⟨⟨es, clk, by simp [hlt], ?_, h3, h4⟩, nodup_del ha.nodup⟩ (Step.setObj (by simp)) (by simp)
    rw [h5]; exact h2
  | some p =>
    obtain ⟨j, u⟩ := p
    obtain ⟨_, _, _, h5⟩ := findL_some hr
    simp only [Nat.sub_zero] at h5
    refine ⟨⟨_, objAt_map h1⟩, ?_⟩
    refine hK _ ⟨⟨es.eraseIdxIfInBounds j, clk, by simp [hlt], ?_, ?_, ?_⟩, nodup_del ha.nodup⟩ (Step.setObj (by simp)) (by simp)
    · rw [h5, Array.toList_eraseIdxIfInBounds, map_eraseIdx, h2, map_eraseIdx]
    · rw [Array.toList_eraseIdxIfInBounds, map_eraseIdx]
      exact h3.sublist (List.eraseIdx_sublist ..)
    · intro e he
      rw [Array.toList_eraseIdxIfInBounds] at he
      exact h4 e (List.mem_of_mem_eraseIdx he)
end
end Go.Proofs.Ytmdhfmljgjnggaa
/- Rows of cells: overwriting, clearing, copying, making; cloning a map and ranging over one. No condition. -/
namespace Go.Proofs.Ytmdhfmljgjnggaa

theorem iteP_true (x y : Prop) : iteP true x y = x := rfl
theorem iteP_false (x y : Prop) : iteP false x y = y := rfl
theorem condP_true (x : Prop) : condP true x = x := rfl
theorem wrap64 {x : Int} (h1 : -9223372036854775808 ≤ x) (h2 : x ≤ 9223372036854775807) : IntKind.wrap .i64 x = x := by
  have e : ((2 : Int) ^ (64 : Nat)) = 18446744073709551616 := by decide
  have e2 : ((2 : Int) ^ (63 : Nat)) = 9223372036854775808 := by decide
  simp only [IntKind.wrap, IntKind.bits, IntKind.signed, Bool.true_and, show (64 - 1 : Nat) = 63 from rfl, e, e2]
  split
  · rename_i h; simp only [ge_iff_le, decide_eq_true_eq] at h; omega
  · rename_i h; simp only [ge_iff_le, decide_eq_true_eq] at h; omega
theorem wrap8 (x : Int) : IntKind.wrap .u8 x = x % 256 := by
  have e : ((2 : Int) ^ (8 : Nat)) = 256 := by decide
  simp only [IntKind.wrap, IntKind.bits, IntKind.signed, Bool.false_and, Bool.false_eq_true, if_false, e]
theorem tdiv_nn {x : Int} {n : Nat} (h : 0 ≤ x) : Int.tdiv x n = x / n := Int.tdiv_eq_ediv_of_nonneg h
theorem tmod_nn {x : Int} {n : Nat} (h : 0 ≤ x) : Int.tmod x n = x % n := Int.tmod_eq_emod_of_nonneg h

/-- A row with some elements laid over it from a place on. -/
def over {α : Type} (zs : List α) (off : Nat) : List α → List α
  | [] => zs
  | c :: cs => over (zs.set off c) (off + 1) cs
theorem over_length {α : Type} : ∀ {cs zs : List α} {off : Nat}, (over zs off cs).length = zs.length := by
  intro cs
  induction cs with
  | nil => intro zs off; rfl
  | cons c cs ih => intro zs off; simp only [over]; rw [ih]; simp
theorem over_get {α : Type} : ∀ {cs zs : List α} {off i : Nat}, off + cs.length ≤ zs.length → (over zs off cs)[i]? = if off ≤ i ∧ i < off + cs.length then cs[i - off]? else zs[i]? := by
  intro cs
  induction cs with
  | nil => intro zs off i h; simp only [over]; rw [if_neg (by simp)]
  | cons c cs ih =>
    intro zs off i h
    simp only [List.length_cons] at h
    simp only [over]
    rw [ih (by simp; omega)]
    by_cases h1 : off + 1 ≤ i ∧ i < off + 1 + cs.length
    · rw [if_pos h1, if_pos (by simp; omega)]
      rw [show i - off = (i - (off + 1)) + 1 by omega]; simp
    · rw [if_neg h1]
      by_cases h2 : i = off
      · subst h2
        rw [if_pos (by simp)]
        simp [show i < zs.length by omega]
      · rw [if_neg (by simp; omega), List.getElem?_set, if_neg (fun e => h2 e.symm)]
theorem fillL_over : ∀ (cs zs : List Value) (off : Nat), fillL zs off cs = over zs off cs := by
  intro cs
  induction cs with
  | nil => intro zs off; rfl
  | cons c cs ih => intro zs off; simp only [fillL, over, ih]
theorem over_map {α β : Type} (f : α → β) : ∀ (cs zs : List α) (off : Nat), (over zs off cs).map f = over (zs.map f) off (cs.map f) := by
  intro cs
  induction cs with
  | nil => intro zs off; rfl
  | cons c cs ih => intro zs off; simp only [over, List.map_cons, ih, List.map_set]

theorem setL_size : ∀ {vs : List Value} {h : Hp} {a : Addr} {i : Nat}, (setL h a vs i).size = h.size := by
  intro vs
  induction vs with
  | nil => intro h a i; rfl
  | cons v vs ih => intro h a i; simp only [setL]; rw [ih, setH_size]
theorem setL_other : ∀ {vs : List Value} {h : Hp} {b o i r : Nat}, r ≠ b → (setL h ⟨b, o, none⟩ vs i)[r]? = h[r]? := by
  intro vs
  induction vs with
  | nil => intro h b o i r _; rfl
  | cons v vs ih => intro h b o i r hr; simp only [setL]; rw [ih hr, Addr.add_mk, setH_other hr]
theorem setL_same : ∀ {vs : List Value} {h : Hp} {b o i : Nat} {c : Array Value} {e : TypeId} {f : Nat × Nat}, h[b]? = some (.cells c e f) → (setL h ⟨b, o, none⟩ vs i)[b]? = some (.cells ⟨over c.toList (o + i) vs⟩ e f) := by
  intro vs
  induction vs with
  | nil => intro h b o i c e f hb; exact hb
  | cons v vs ih =>
    intro h b o i c e f hb
    simp only [setL, Addr.add_mk]
    rw [ih (setH_same hb)]
    simp only [over, Array.toList_setIfInBounds]
    rfl
section
variable {P : Program}
theorem semWP_storeCells {h : Hp} {b o : Nat} {vs : List Value} {c : Array Value} {e : TypeId} {K : Unit → Hp → Prop} (hb : h[b]? = some (.cells c e (0, 0))) (hv : ∀ v ∈ vs, oneV v = true) (hle : o + vs.length ≤ c.size)
    (hK : ∀ h', h'[b]? = some (.cells ⟨over c.toList o vs⟩ e (0, 0)) → Step h h' [b] [b] → h'.size = h.size → K () h') : semWP P (storeCells ⟨b, o, none⟩ vs) h K := by
  refine storeCells_wp (storeL_row hv ?_ ?_)
  · intro j hj
    rw [Addr.add_mk, cellAt_cells hb, frozenAt_cells hb]
    have : o + (0 + j) < c.size := by omega
    exact ⟨⟨c[o + (0 + j)], by simp [this]⟩, rfl⟩
  · have := setL_same (vs := vs) (o := o) (i := 0) hb
    exact hK _ this ⟨by rw [setL_size]; exact Nat.le_refl _, fun r _ hf => setL_other (by simpa using hf), fun _ hr => .inl hr⟩ setL_size
theorem semWP_loadCells {h : Hp} {b o n : Nat} {c : Array Value} {e : TypeId} {f : Nat × Nat} {K : Array Value → Hp → Prop} (hb : h[b]? = some (.cells c e f)) (hle : o + n ≤ c.size) (hK : K ((c.toList.drop o).take n).toArray h) : semWP P (loadCells ⟨b, o, none⟩ n) h K := by
  refine loadCellsFrom_wp n 0 #[] ((c.toList.drop o).take n) (by simp; omega) ?_ (by simpa using hK)
  intro j hj
  rw [Addr.add_mk, cellAt_cells hb, List.getElem?_take, if_pos hj, List.getElem?_drop]
  simp
/-- clear(s). -/
theorem semWP_clear {z : Value} {t el ty : TypeId} {tys : Array TypeId} {h : Hp} {b o n cp : Nat} {c : Array Value} {e : TypeId} {K : Value → Hp → Prop} (ht : tys[0]? = some t) (hd : P.underlying t = some (.slice el)) (hz : hasZero P el = true) (hz1 : (zeroCells P el).toList = [z]) (ho : oneV z = true)
    (hn : n ≠ 0) (hb : h[b]? = some (.cells c e (0, 0))) (hle : o + n ≤ c.size)
    (hK : ∀ h', h'[b]? = some (.cells ⟨over c.toList o (List.replicate n z)⟩ e (0, 0)) → Step h h' [b] [b] → h'.size = h.size → K (.tuple #[]) h') : semWP P (Builtin.clear_ tys ty #[.slice (some ⟨b, o, none⟩) n cp]) h K := by
  have hcells : (Builtin.zeroCells (zeroOf P el).cells n).toList = List.replicate n z := by
    have h1 : (zeroOf P el).cells.size = 1 := by have := congrArg List.length hz1; simpa [zeroCells] using this
    have h0 : (zeroOf P el).cells[0]! = z := by
      have : (zeroOf P el).cells.toList[0]? = some z := by rw [show (zeroOf P el).cells.toList = [z] from hz1]; rfl
      rw [Array.getElem?_toList] at this
      simp [getElem!_def, this]
    unfold Builtin.zeroCells
    rw [h1]
    simp only [Nat.mod_one, Nat.mul_one, Array.toList_map, Array.toList_range]
    rw [h0]
    apply List.ext_getElem?
    intro i
    simp [List.getElem?_replicate, List.getElem?_range]
    by_cases hi : i < n <;> simp [hi]
  simp only [Builtin.clear_, ht, semWP_bind, List.getElem?_toArray, List.getElem?_cons_zero, semWP_underlying hd]
  have : semWP P (zeroValue el) h fun z' h' => semWP P (storeCells ⟨b, o, none⟩ (Builtin.zeroCells z'.cells n).toList) h' fun _ h' => K (.tuple #[]) h' := by
    rw [semWP_zeroValue hz, hcells]
    exact semWP_storeCells hb (by intro v hv; rw [List.eq_of_mem_replicate hv]; exact ho) (by simpa using hle) hK
  cases n with
  | zero => exact (hn rfl).elim
  | succ n => simpa only [semWP_bind, semWP_ret] using this
end
theorem over_append {α : Type} : ∀ {cs zs ys : List α} {off : Nat}, off + cs.length ≤ zs.length → Go.Proofs.Ytmdhfmljgjnggaa.over (zs ++ ys) off cs = Go.Proofs.Ytmdhfmljgjnggaa.over zs off cs ++ ys := by
  intro cs
  induction cs with
  | nil => intro zs ys off _; rfl
  | cons c cs ih =>
    intro zs ys off h
    simp only [List.length_cons] at h
    simp only [Go.Proofs.Ytmdhfmljgjnggaa.over]
    rw [List.set_append_left _ _ (by omega), ih (by simp; omega)]
theorem over_split {α : Type} : ∀ {cs zs : List α} {off : Nat}, off + cs.length ≤ zs.length → over zs off cs = zs.take off ++ (cs ++ zs.drop (off + cs.length)) := by
  intro cs zs off h
  apply List.ext_getElem?
  intro i
  rw [over_get h, List.getElem?_append, List.length_take, List.getElem?_take, List.getElem?_append, List.getElem?_drop]
  by_cases h1 : i < off
  · rw [if_neg (by omega), if_pos (by omega), if_pos h1]
  · rw [if_neg (show ¬ i < min off zs.length by omega)]
    by_cases h2 : i < off + cs.length
    · rw [if_pos (by omega), if_pos (by omega)]
      congr 1; omega
    · rw [if_neg (by omega), if_neg (by omega)]
      congr 1; omega
end Go.Proofs.Ytmdhfmljgjnggaa
/- Ranging over a map that nobody changes meanwhile; a slice's making, appending, copying. No condition. -/
namespace Go.Proofs.Ytmdhfmljgjnggaa

/-- Block i ranges over the map in block r, which reads as l; 'left' are still to come, in whatever order. -/
def IterAt (k : IntKind) (h : Hp) (i r : Nat) (l left : List (Int × Value)) : Prop :=
  ∃ (es : Array MapEntry) (clk : Nat) (seen : Array Nat), h[r]? = some (.map es clk) ∧ h[i]? = some (.mapIter (some r) clk seen clk) ∧
    es.toList.map (fun e => (e.key, e.val)) = l.map (fun p => (.int k p.1, p.2)) ∧ (es.toList.map (·.born)).Nodup ∧ (∀ e ∈ es.toList, e.born < clk) ∧
    (es.toList.filter fun e => !seen.contains e.born).map (fun e => (e.key, e.val)) = left.map (fun p => (.int k p.1, p.2))
def CurAt (k : IntKind) (h : Hp) (i r : Nat) (p : Int × Value) : Prop :=
  ∃ (es : Array MapEntry) (clk since : Nat) (seen : Array Nat) (e : MapEntry), h[r]? = some (.map es clk) ∧ h[i]? = some (.mapIter (some r) since seen clk) ∧
    seen.back? = some e.born ∧ es.find? (·.born == e.born) = some e ∧ e.key = .int k p.1 ∧ e.val = p.2
theorem IterAt.congr {k : IntKind} {h h' : Hp} {i r : Nat} {l left : List (Int × Value)} (hi : IterAt k h i r l left) (h1 : h'[i]? = h[i]?) (h2 : h'[r]? = h[r]?) : IterAt k h' i r l left := by
  obtain ⟨es, clk, seen, a, b, c⟩ := hi
  exact ⟨es, clk, seen, by rw [h2]; exact a, by rw [h1]; exact b, c⟩
theorem CurAt.congr {k : IntKind} {h h' : Hp} {i r : Nat} {p : Int × Value} (hi : CurAt k h i r p) (h1 : h'[i]? = h[i]?) (h2 : h'[r]? = h[r]?) : CurAt k h' i r p := by
  obtain ⟨es, clk, since, seen, e, a, b, c⟩ := hi
  exact ⟨es, clk, since, seen, e, by rw [h2]; exact a, by rw [h1]; exact b, c⟩
theorem inj_map {k : IntKind} : ∀ {a b : List (Int × Value)}, a.map (fun p => ((.int k p.1 : Value), p.2)) = b.map (fun p => (.int k p.1, p.2)) → a = b := by
  intro a
  induction a with
  | nil => intro b h; cases b <;> simp at h ⊢
  | cons p a ih =>
    intro b h
    cases b with
    | nil => simp at h
    | cons q b =>
      simp only [List.map_cons, List.cons.injEq, Prod.mk.injEq, Value.int.injEq, true_and] at h
      obtain ⟨⟨h1, h2⟩, h3⟩ := h
      rw [ih h3, show p = q from Prod.ext h1 h2]
section
variable {P : Program} {k : IntKind}
theorem semWP_range {t kt et : TypeId} {h : Hp} {r : Nat} {l : List (Int × Value)} {K : Value → Hp → Prop} (hm : P.underlying t = some (.map kt et)) (ha : MapAt k h r l)
    (hK : ∀ h', IterAt k h' h.size r l l → Ext h h' → h'.size = h.size + 1 → K (.pointer (some ⟨h.size, 0, none⟩)) h') : semWP P (Instr.range t (.map (some r))) h K := by
  obtain ⟨es, clk, h1, h2, h3, h4⟩ := ha.is
  simp only [Instr.range, semWP_bind, semWP_underlying hm]
  refine ⟨_, objAt_map h1, ?_⟩
  refine hK _ ⟨es, clk, #[], by rw [push_old (lt_of_at h1)]; exact h1, push_new _ _, h2, h3, h4, ?_⟩ (Ext.push _ _) (by simp)
  have : (es.toList.filter fun e => !(#[] : Array Nat).contains e.born) = es.toList := by
    rw [List.filter_eq_self]; intro a _; simp
  rw [this]; exact h2
theorem filter_push {es : List MapEntry} {seen : Array Nat} (hnd : (es.map (·.born)).Nodup) {e : MapEntry} {a b : List MapEntry} (hf : (es.filter fun e => !seen.contains e.born) = a ++ e :: b) :
    (es.filter fun x => !(seen.push e.born).contains x.born) = a ++ b := by
  have h1 : (es.filter fun x => !(seen.push e.born).contains x.born) = ((es.filter fun e => !seen.contains e.born).filter fun x => x.born != e.born) := by
    rw [List.filter_filter]
    congr 1
    funext x
    rw [Array.contains_push]
    cases hx : (x.born == e.born) <;> cases hs : seen.contains x.born <;> simp_all [bne]
  have hnd' : ((a ++ e :: b).map (·.born)).Nodup := by
    rw [← hf]
    exact hnd.sublist ((List.filter_sublist).map _)
  rw [h1, hf, List.filter_append, List.filter_cons]
  simp only [List.map_append, List.map_cons] at hnd'
  rw [List.nodup_append] at hnd'
  obtain ⟨h2, h3, h4⟩ := hnd'
  rw [List.nodup_cons] at h3
  have ha : (a.filter fun x => x.born != e.born) = a := by
    rw [List.filter_eq_self]
    intro x hx
    have := h4 x.born (List.mem_map.2 ⟨x, hx, rfl⟩) e.born (by simp)
    simpa using this
  have hb : (b.filter fun x => x.born != e.born) = b := by
    rw [List.filter_eq_self]
    intro x hx
    have : x.born ≠ e.born := fun he => h3.1 (he ▸ List.mem_map.2 ⟨x, hx, rfl⟩)
    simpa using this
  rw [ha, hb]
  simp
theorem objAt_iter {h : Hp} {r : Nat} {m : Option Nat} {s : Nat} {seen : Array Nat} {c : Nat} (hr : h[r]? = some (.mapIter m s seen c)) : objAt h r = some (.mapIter m s seen c) := by
  simp [objAt, hr]
theorem semWP_next {t : TypeId} {h : Hp} {i r : Nat} {l left : List (Int × Value)} {K : Value → Hp → Prop} (hi : IterAt k h i r l left) (hir : i ≠ r)
    (h0 : left = [] → K (.tuple ⟨[.bool false]⟩) h)
    (h1 : ∀ p left' h', left.Perm (p :: left') → IterAt k h' i r l left' → CurAt k h' i r p → Step h h' [i] [i] → h'.size = h.size → K (.tuple ⟨[.bool true, .int k p.1, p.2]⟩) h') :
    semWP P (Instr.next (.pointer (some ⟨i, 0, none⟩)) false t) h K := by
  obtain ⟨es, clk, seen, hr, hit, he, hnd, hlt, hleft⟩ := hi
  simp only [Instr.next, semWP_bind]
  refine ⟨_, objAt_iter hit, ?_⟩
  rw [semWP_ret']
  simp only [semWP_bind]
  refine ⟨_, objAt_map hr, ?_⟩
  rw [semWP_ret']
  have hno : (!seen.isEmpty && !es.isEmpty && es.all (fun x => decide (x.born ≥ clk))) = false := by
    cases hes : es.isEmpty with
    | true => simp
    | false =>
      have : es.all (fun x => decide (x.born ≥ clk)) = false := by
        rw [Bool.eq_false_iff]
        intro hall
        rw [← Array.all_toList, List.all_eq_true] at hall
        cases hl : es.toList with
        | nil => simp [Array.isEmpty] at hes; exact hes (by simpa using hl)
        | cons x xs =>
          have h2 := hall x (by rw [hl]; simp)
          have h3 := hlt x (by rw [hl]; simp)
          simp only [decide_eq_true_eq] at h2
          omega
      rw [this]; simp
  simp only [hno, Bool.false_eq_true, if_false]
  have hold : ((es.filter fun e => !seen.contains e.born).filter fun x => decide (x.born < clk)) = es.filter fun e => !seen.contains e.born := by
    rw [Array.filter_eq_self]
    intro x hx
    have := hlt x (by have := (Array.mem_filter.1 hx).1; simpa using this)
    simpa using this
  have hnew : ((es.filter fun e => !seen.contains e.born).filter fun x => decide (x.born ≥ clk)) = #[] := by
    rw [Array.filter_eq_empty_iff]
    intro x hx
    have := hlt x (by have := (Array.mem_filter.1 hx).1; simpa using this)
    simp; omega
  simp only [hold, hnew, Array.append_empty]
  by_cases hl0 : left = []
  · have hf : (es.filter fun e => !seen.contains e.born) = #[] := by
      apply Array.ext'
      rw [Array.toList_filter]
      rw [hl0] at hleft
      simpa using hleft
    simp only [hf]
    intro t'
    generalize hn : (if (Question.mapNext ((if (#[] : Array MapEntry).isEmpty = true then #[none] else #[]) ++ Array.map some (#[] : Array MapEntry)).size).forced = true then 0 else (Question.mapNext ((if (#[] : Array MapEntry).isEmpty = true then #[none] else #[]) ++ Array.map some (#[] : Array MapEntry)).size).cut t') = j
    have hj : j = 0 := by
      rw [← hn]
      simp [Question.forced, Question.cut, Nat.mod_one]
    subst hj
    have := h0 hl0
    simpa [semWP, Pure.pure, Sem.bind] using this
  · have hne : (es.filter fun e => !seen.contains e.born).isEmpty = false := by
      rw [Bool.eq_false_iff]
      intro hemp
      apply hl0
      have : (es.filter fun e => !seen.contains e.born).toList = [] := by simpa using hemp
      rw [Array.toList_filter] at this
      rw [this] at hleft
      simpa using hleft.symm
    simp only [hne, Bool.false_eq_true, if_false]
    intro t'
    generalize hn : (if (Question.mapNext ((#[] : Array (Option MapEntry)) ++ (es.filter fun e => !seen.contains e.born).map some).size).forced = true then 0 else (Question.mapNext ((#[] : Array (Option MapEntry)) ++ (es.filter fun e => !seen.contains e.born).map some).size).cut t') = j
    have hsz : 0 < (es.filter fun e => !seen.contains e.born).size := by
      rcases Nat.eq_zero_or_pos (es.filter fun e => !seen.contains e.born).size with h | h
      · exfalso; unfold Array.isEmpty at hne; exact of_decide_eq_false hne h
      · exact h
    have hj : j < (es.filter fun e => !seen.contains e.born).size := by
      rw [← hn]
      simp only [Question.forced, Question.cut, Array.empty_append, Array.size_map]
      split
      · exact hsz
      · exact Nat.mod_lt _ hsz
    have hget : ((#[] : Array (Option MapEntry)) ++ (es.filter fun e => !seen.contains e.born).map some)[j]? = some (some ((es.filter fun e => !seen.contains e.born)[j])) := by
      simp [hj]
    simp only [Sem.bind, hget]
    generalize he' : (es.filter fun e => !seen.contains e.born)[j] = e
    have hfl : (es.toList.filter fun e => !seen.contains e.born)[j]? = some e := by
      rw [← Array.toList_filter, Array.getElem?_toList, ← he']; simp [hj]
    obtain ⟨p, hp⟩ : ∃ p, left[j]? = some p := by
      have := congrArg (fun x => x[j]?) hleft
      simp only [List.getElem?_map, hfl, Option.map_some] at this
      cases hlj : left[j]? with
      | none => rw [hlj] at this; simp at this
      | some p => exact ⟨p, rfl⟩
    have hkv : e.key = .int k p.1 ∧ e.val = p.2 := by
      have := congrArg (fun x => x[j]?) hleft
      simp only [List.getElem?_map, hfl, hp, Option.map_some, Option.some.injEq, Prod.mk.injEq] at this
      exact this
    have hsplit : (es.toList.filter fun e => !seen.contains e.born) = (es.toList.filter fun e => !seen.contains e.born).take j ++ e :: (es.toList.filter fun e => !seen.contains e.born).drop (j + 1) := by
      conv => lhs; rw [← List.take_append_drop j (es.toList.filter fun e => !seen.contains e.born)]
      congr 1
      rw [List.drop_eq_getElem_cons (by have := (List.getElem?_eq_some_iff.1 hfl).1; exact this)]
      congr 1
      exact (List.getElem?_eq_some_iff.1 hfl).2
    have hpsplit : left = left.take j ++ p :: left.drop (j + 1) := by
      conv => lhs; rw [← List.take_append_drop j left]
      congr 1
      rw [List.drop_eq_getElem_cons (by exact (List.getElem?_eq_some_iff.1 hp).1)]
      congr 1
      exact (List.getElem?_eq_some_iff.1 hp).2
    have hmem : e ∈ es.toList := (List.mem_filter.1 (List.mem_of_getElem? hfl)).1
    have hilt := lt_of_at hit
    simp only [semWP_bind]
    refine ⟨⟨_, objAt_iter hit⟩, ?_⟩
    rw [hkv.1, hkv.2]
    have hr' : (h.setIfInBounds i (.mapIter (some r) clk (seen.push e.born) clk))[r]? = some (.map es clk) := by
      rw [Array.getElem?_setIfInBounds, if_neg hir]; exact hr
    have hi' : (h.setIfInBounds i (.mapIter (some r) clk (seen.push e.born) clk))[i]? = some (.mapIter (some r) clk (seen.push e.born) clk) := by
      simp [hilt]
    refine h1 p (left.take j ++ left.drop (j + 1)) _ ?_ ⟨es, clk, seen.push e.born, hr', hi', he, hnd, hlt, ?_⟩ ⟨es, clk, clk, seen.push e.born, e, hr', hi', by simp, ?_, hkv.1, hkv.2⟩ (Step.setObj (by simp)) (by simp)
    · conv => lhs; rw [hpsplit]
      exact List.perm_middle
    · rw [filter_push hnd hsplit, List.map_append, List.map_take, List.map_drop, hleft, ← List.map_take, ← List.map_drop, ← List.map_append]
    · rw [← Array.find?_toList]
      have : ∀ (l : List MapEntry), (l.map (·.born)).Nodup → e ∈ l → l.find? (fun x => x.born == e.born) = some e := by
        intro l
        induction l with
        | nil => intro _ hx; cases hx
        | cons x l ih =>
          intro hnd hx
          simp only [List.map_cons, List.nodup_cons] at hnd
          rcases List.mem_cons.1 hx with rfl | hx
          · simp
          · have hne : x.born ≠ e.born := fun heq => hnd.1 (heq ▸ List.mem_map.2 ⟨e, hx, rfl⟩)
            rw [List.find?_cons_of_neg (by simpa using hne)]
            exact ih hnd.2 hx
      exact this _ hnd hmem
theorem runs_entry {h : Hp} {i r : Nat} {p : Int × Value} (hc : CurAt k h i r p) : RunsTo P (Instr.entry (.pointer (some ⟨i, 0, none⟩))) h (.tuple #[.int k p.1, p.2]) := by
  obtain ⟨es, clk, since, seen, e, hr, hi, hb, hf, hk, hv⟩ := hc
  intro w hw
  have h1 : (getObj i).run P w = .ok (.mapIter (some r) since seen clk) w := by subst hw; simp [getObj, Sem.run, hi]
  simp only [Instr.entry, Sem.run_bind, h1, Result.andThen_ok, hb, runs_getObj hr w hw, bne_self_eq_false, Bool.false_eq_true, if_false, hf, hk, hv]
  rfl
end
end Go.Proofs.Ytmdhfmljgjnggaa
