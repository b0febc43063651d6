/- A region that draws its order: one order serves for all. No condition. -/
import Derived.Test.YtmdhfmljgjnggaaSound5
namespace Go.Proofs.Ytmdhfmljgjnggaa

section
variable {P : Program}
/-- What an operation that only reckons or reads leaves in its slot. -/
def RD (P : Program) (ops : Array Oper) (o : Oper) (a : Act) (h : Hp) (v : Value) : Prop :=
  if Region.wanted o (yielded ops a.tmps) = true then Yields P a.eval o h v else v = undef
def semD (P : Program) (ops : Array Oper) (ord : Nat → Nat → Bool) : List Nat → List (Nat × (Hp → Prop)) → Act → Hp → (Act → Hp → Prop) → Prop
  | [], _, a, h, Q => Q a h
  | i :: L, pend, a, h, Q => ∃ o, ops[i]? = some o ∧ (∀ cs b, o.op ≠ .select cs b) ∧
      ((cls P o = 0 ∧ ∃ v, (∀ h2, RD P ops o a h2 v) ∧ semD P ops ord L pend (a.put o.dst v) h Q) ∨
       (cls P o = 1 ∧ ∃ v, RD P ops o a h v ∧ semD P ops ord L ((i, fun h2 => RD P ops o a h2 v) :: pend) (a.put o.dst v) h Q) ∨
       (cls P o = 2 ∧ if Region.wanted o (yielded ops a.tmps) = true then operWP P a.eval o h fun v h' => (∀ p ∈ pend, ord p.1 i = false → p.2 h') ∧ semD P ops ord L pend (a.put o.dst v) h' Q
        else semD P ops ord L pend (a.put o.dst undef) h Q))
/-- What becomes of an operation, whether it runs or not. -/
def stepD (P : Program) (ops : Array Oper) (o : Oper) (a : Act) (h : Hp) (K : Value → Hp → Prop) : Prop :=
  if Region.wanted o (yielded ops a.tmps) = true then operWP P a.eval o h K else K undef h

theorem RD_put {ops : Array Oper} {o : Oper} {a : Act} {h : Hp} {v u : Value} {d : Option Tmp} (hs : ∀ cs b, o.op ≠ .select cs b) (hd : ∀ t, d = some t → t ∉ o.looksAt ops) :
    RD P ops o (a.put d u) h v = RD P ops o a h v := by
  unfold RD
  rw [wanted_put o a d u hd]
  unfold Yields operWP
  rw [execOp_put o hs a d u hd]
theorem stepD_mono {ops : Array Oper} {o : Oper} {a : Act} {h : Hp} {K K' : Value → Hp → Prop} (hk : ∀ v h, K v h → K' v h) (hh : stepD P ops o a h K) : stepD P ops o a h K' := by
  unfold stepD at *
  split
  · rename_i hw; rw [if_pos hw] at hh; exact operWP_mono hk hh
  · rename_i hw; rw [if_neg hw] at hh; exact hk _ _ hh
theorem stepD_put {ops : Array Oper} {o : Oper} {a : Act} {h : Hp} {u : Value} {d : Option Tmp} {K : Value → Hp → Prop} (hs : ∀ cs b, o.op ≠ .select cs b) (hd : ∀ t, d = some t → t ∉ o.looksAt ops) :
    stepD P ops o (a.put d u) h K = stepD P ops o a h K := by
  unfold stepD operWP
  rw [wanted_put o a d u hd, execOp_put o hs a d u hd]
theorem stepD_RD {ops : Array Oper} {o : Oper} {a : Act} {h : Hp} {v : Value} {K : Value → Hp → Prop} (hr : RD P ops o a h v) (hk : K v h) : stepD P ops o a h K := by
  unfold stepD RD at *
  split
  · rename_i hw; rw [if_pos hw] at hr; exact operWP_mono (by rintro u h' ⟨rfl, rfl⟩; exact hk) hr
  · rename_i hw; rw [if_neg hw] at hr; subst hr; exact hk
theorem semD_pend {ops : Array Oper} {ord : Nat → Nat → Bool} {Q : Act → Hp → Prop} : ∀ (L : List Nat) (p q : List (Nat × (Hp → Prop))) (a : Act) (h : Hp), (∀ x ∈ q, x ∈ p) → semD P ops ord L p a h Q → semD P ops ord L q a h Q := by
  intro L
  induction L with
  | nil => intro p q a h _ hh; exact hh
  | cons i L ih =>
    intro p q a h hpq hh
    obtain ⟨o, ho, hs, hh⟩ := hh
    refine ⟨o, ho, hs, ?_⟩
    rcases hh with ⟨hc, v, hv, hh⟩ | ⟨hc, v, hv, hh⟩ | hh
    · exact .inl ⟨hc, v, hv, ih _ _ _ _ hpq hh⟩
    · refine .inr (.inl ⟨hc, v, hv, ih _ _ _ _ ?_ hh⟩)
      intro x hx
      rcases List.mem_cons.1 hx with rfl | hx
      · simp
      · exact List.mem_cons_of_mem _ (hpq x hx)
    · obtain ⟨hc, hh⟩ := hh
      refine .inr (.inr ⟨hc, ?_⟩)
      split
      · rename_i hw
        rw [if_pos hw] at hh
        exact operWP_mono (fun v h' ⟨h1, h2⟩ => ⟨fun x hx => h1 x (hpq x hx), ih _ _ _ _ hpq h2⟩) hh
      · rename_i hw
        rw [if_neg hw] at hh
        exact ih _ _ _ _ hpq hh

/-- The i-th of what is left may come first. -/
theorem hoist {ops : Array Oper} {ord : Nat → Nat → Bool} {Q : Act → Hp → Prop} {i : Nat} {oi : Oper} (hi : ops[i]? = some oi) (hsi : ∀ cs b, oi.op ≠ .select cs b) :
    ∀ (L1 L2 : List Nat) (pend : List (Nat × (Hp → Prop))) (a : Act) (h : Hp),
      (∀ x ∈ L1, ord x i = false ∧ ∀ ox, ops[x]? = some ox → cls P ox ≠ 2 ∧ ox.apart ops oi = true) →
      semD P ops ord (L1 ++ i :: L2) pend a h Q →
      stepD P ops oi a h fun u h' => (h' = h ∨ ∀ p ∈ pend, ord p.1 i = false → p.2 h') ∧ semD P ops ord (L1 ++ L2) pend (a.put oi.dst u) h' Q := by
  intro L1
  induction L1 with
  | nil =>
    intro L2 pend a h _ hh
    obtain ⟨o, ho, _, hh⟩ := hh
    rw [hi] at ho
    cases ho
    rcases hh with ⟨hc, v, hv, hh⟩ | ⟨hc, v, hv, hh⟩ | ⟨hc, hh⟩
    · exact stepD_RD (hv h) ⟨.inl rfl, hh⟩
    · exact stepD_RD hv ⟨.inl rfl, semD_pend _ _ _ _ _ (fun x hx => List.mem_cons_of_mem _ hx) hh⟩
    · unfold stepD
      split
      · rename_i hw; rw [if_pos hw] at hh; exact operWP_mono (fun v h' ⟨h1, h2⟩ => ⟨.inr h1, h2⟩) hh
      · rename_i hw; rw [if_neg hw] at hh; exact ⟨.inl rfl, hh⟩
  | cons x L1 ih =>
    intro L2 pend a h hap hh
    obtain ⟨ox, hox, hsx, hh⟩ := hh
    obtain ⟨hord, hx⟩ := hap x (by simp)
    obtain ⟨hcx, hapx⟩ := hx ox hox
    obtain ⟨a1, a2, a3⟩ := Oper.apart_spec hapx
    have hcomm : ∀ (v u : Value), (a.put ox.dst v).put oi.dst u = (a.put oi.dst u).put ox.dst v := fun v u => Act.put_comm a v u a2
    rcases hh with ⟨hc, v, hv, hh⟩ | ⟨hc, v, hv, hh⟩ | ⟨hc, hh⟩
    · have := ih L2 pend _ h (fun y hy => hap y (by simp [hy])) hh
      rw [stepD_put hsi a1] at this
      refine stepD_mono (fun u h' hk => ⟨hk.1, ox, hox, hsx, .inl ⟨hc, v, fun h2 => ?_, ?_⟩⟩) this
      · rw [RD_put hsx a3]; exact hv h2
      · rw [← hcomm]; exact hk.2
    · have := ih L2 _ _ h (fun y hy => hap y (by simp [hy])) hh
      rw [stepD_put hsi a1] at this
      refine stepD_mono (fun u h' hk => ⟨?_, ox, hox, hsx, .inr (.inl ⟨hc, v, ?_, ?_⟩)⟩) this
      · rcases hk.1 with h1 | h1
        · exact .inl h1
        · exact .inr fun p hp => h1 p (List.mem_cons_of_mem _ hp)
      · rw [RD_put hsx a3]
        rcases hk.1 with h1 | h1
        · rw [h1]; exact hv
        · exact h1 (x, fun h2 => RD P ops ox a h2 v) (List.mem_cons_self ..) hord
      · have e : (fun h2 => RD P ops ox (a.put oi.dst u) h2 v) = fun h2 => RD P ops ox a h2 v := by
          funext h2; rw [RD_put hsx a3]
        rw [e, ← hcomm]
        exact hk.2
    · exact (hcx hc).elim

/-- What 'before' knows. -/
theorem before_spec (ops : Array Oper) : ∀ i x, ordOf (beforeL ops) x i = true → ∃ o, ops[i]? = some o ∧ ∃ e ∈ o.after, Region.binds .any e = true ∧ (x = e.on ∨ ordOf (beforeL ops) x e.on = true) := by
  have inner : ∀ (acc : Array Nat) (es : List Edge) (s : Nat) (x : Nat), (es.foldl (fun s e => if Region.binds .any e then s ||| 2 ^ e.on ||| acc.getD e.on 0 else s) s).testBit x = true →
      s.testBit x = true ∨ ∃ e ∈ es, Region.binds .any e = true ∧ (x = e.on ∨ (acc.getD e.on 0).testBit x = true) := by
    intro acc es
    induction es with
    | nil => intro s x hx; exact .inl hx
    | cons e es ih =>
      intro s x hx
      simp only [List.foldl_cons] at hx
      rcases ih _ _ hx with h | ⟨e', he', h⟩
      · by_cases hb : Region.binds .any e = true
        · simp only [hb, if_true, Nat.testBit_or, Bool.or_eq_true] at h
          rcases h with (h | h) | h
          · exact .inl h
          · refine .inr ⟨e, by simp, hb, .inl ?_⟩
            rw [Nat.testBit_two_pow] at h
            simpa using (of_decide_eq_true h).symm
          · exact .inr ⟨e, by simp, hb, .inr h⟩
        · simp only [hb, if_false, Bool.false_eq_true] at h
          exact .inl h
      · exact .inr ⟨e', by simp [he'], h⟩
  have outer : ∀ (l : List Oper) (acc : Array Nat) (pre : List Oper), acc.size = pre.length →
      (∀ i x, (acc.getD i 0).testBit x = true → ∃ o, pre[i]? = some o ∧ ∃ e ∈ o.after, Region.binds .any e = true ∧ (x = e.on ∨ (acc.getD e.on 0).testBit x = true)) →
      ∀ i x, ((l.foldl (fun acc o => acc.push (o.after.foldl (fun s e => if Region.binds .any e then s ||| 2 ^ e.on ||| acc.getD e.on 0 else s) 0)) acc).getD i 0).testBit x = true →
        ∃ o, (pre ++ l)[i]? = some o ∧ ∃ e ∈ o.after, Region.binds .any e = true ∧ (x = e.on ∨ ((l.foldl (fun acc o => acc.push (o.after.foldl (fun s e => if Region.binds .any e then s ||| 2 ^ e.on ||| acc.getD e.on 0 else s) 0)) acc).getD e.on 0).testBit x = true) := by
    intro l
    induction l with
    | nil => intro acc pre hsz hinv; simpa using hinv
    | cons o l ih =>
      intro acc pre hsz hinv
      simp only [List.foldl_cons]
      have := ih (acc.push (o.after.foldl (fun s e => if Region.binds .any e then s ||| 2 ^ e.on ||| acc.getD e.on 0 else s) 0)) (pre ++ [o]) (by simp [hsz]) ?_
      · simpa using this
      · have mono : ∀ v j x, (acc.getD j 0).testBit x = true → ((acc.push v).getD j 0).testBit x = true := by
          intro v j x hx
          have hj : j < acc.size := by
            rcases Nat.lt_or_ge j acc.size with h | h
            · exact h
            · simp [Array.getD, Nat.not_lt.2 h] at hx
          rw [Array.getD_eq_getD_getElem?] at *
          rw [Array.getElem?_push_lt hj] 
          simpa [hj] using hx
        intro i x hx
        by_cases hi : i = acc.size
        · subst hi
          refine ⟨o, by simp [hsz], ?_⟩
          rw [Array.getD_eq_getD_getElem?] at hx
          simp only [Array.getElem?_push_size, Option.getD_some] at hx
          rw [← Array.foldl_toList] at hx
          rcases inner acc o.after.toList 0 x hx with h | ⟨e, he, hb, h⟩
          · simp at h
          · refine ⟨e, by simpa using he, hb, ?_⟩
            rcases h with h | h
            · exact .inl h
            · exact .inr (mono _ _ _ h)
        · have hx' : (acc.getD i 0).testBit x = true := by
            rw [Array.getD_eq_getD_getElem?] at *
            rw [Array.getElem?_push, if_neg hi] at hx
            exact hx
          obtain ⟨o', ho', e, he, hb, h⟩ := hinv i x hx'
          refine ⟨o', ?_, e, he, hb, ?_⟩
          · rw [List.getElem?_append_left]
            · exact ho'
            · exact (List.getElem?_eq_some_iff.1 ho').1
          · rcases h with h | h
            · exact .inl h
            · exact .inr (mono _ _ _ h)
  have conv : ∀ x i, ordOf (beforeL ops) x i = ((Region.before ops).getD i 0).testBit x := by
    intro x i
    unfold ordOf beforeL
    rw [Array.getD_eq_getD_getElem?, Array.getElem?_toList]
    cases (Region.before ops)[i]? <;> simp
  intro i x hx
  rw [conv] at hx
  have hb : Region.before ops = ops.toList.foldl (fun acc o => acc.push (o.after.foldl (fun s e => if Region.binds .any e then s ||| 2 ^ e.on ||| acc.getD e.on 0 else s) 0)) #[] := by
    unfold Region.before
    rw [Array.foldl_toList]
  rw [hb] at hx
  obtain ⟨o, ho, e, he, h1, h2⟩ := outer ops.toList #[] [] rfl (by intro i x h; simp [Array.getD] at h) i x hx
  refine ⟨o, by simpa using ho, e, he, h1, ?_⟩
  rw [conv, hb]
  exact h2

theorem pairsOk_spec {f : Nat → Nat → Bool} : ∀ {L : List Nat}, pairsOk f L = true → ∀ L1 x L2, L = L1 ++ x :: L2 → (∀ y ∈ L1, f y x = true) ∧ pairsOk f (L1 ++ L2) = true := by
  intro L
  induction L with
  | nil => intro _ L1 x L2 h; simp at h
  | cons z L ih =>
    intro hp L1 x L2 h
    simp only [pairsOk, Bool.and_eq_true, List.all_eq_true] at hp
    cases L1 with
    | nil =>
      simp only [List.nil_append, List.cons.injEq] at h
      obtain ⟨rfl, rfl⟩ := h
      exact ⟨by simp, hp.2⟩
    | cons y L1 =>
      simp only [List.cons_append, List.cons.injEq] at h
      obtain ⟨rfl, rfl⟩ := h
      obtain ⟨h1, h2⟩ := ih hp.2 L1 x L2 rfl
      refine ⟨?_, ?_⟩
      · intro y hy
        rcases List.mem_cons.1 hy with rfl | hy
        · exact hp.1 x (by simp)
        · exact h1 y hy
      · simp only [List.cons_append, pairsOk, Bool.and_eq_true, List.all_eq_true]
        refine ⟨fun y hy => hp.1 y ?_, h2⟩
        rcases List.mem_append.1 hy with hy | hy
        · exact List.mem_append_left _ hy
        · exact List.mem_append_right _ (List.mem_cons_of_mem _ hy)

theorem memT_iff {t : Nat} : ∀ {l : List Nat}, memT t l = true ↔ t ∈ l := by
  intro l
  induction l with
  | nil => simp [memT]
  | cons u us ih =>
    simp only [memT]
    split
    · rename_i h; have := Nat.eq_of_beq_eq_true h; subst this; simp
    · rename_i h
      have hne : t ≠ u := by intro he; subst he; simp at h
      rw [ih]; simp [hne]
theorem edgesOk_spec : ∀ {l : List Oper} {k : Nat}, edgesOk l k = true → ∀ i o, l[i]? = some o → (∀ cs b, o.op ≠ .select cs b) ∧ ∀ e ∈ o.after, Region.binds .any e = true → e.on < k + i := by
  intro l
  induction l with
  | nil => intro k _ i o h; simp at h
  | cons x l ih =>
    intro k hk i o h
    simp only [edgesOk, Bool.and_eq_true, List.all_eq_true] at hk
    obtain ⟨⟨h1, h2⟩, h3⟩ := hk
    cases i with
    | zero =>
      simp only [List.getElem?_cons_zero, Option.some.injEq] at h
      subst h
      refine ⟨?_, ?_⟩
      · intro cs b hb; simp [noSel, hb] at h1
      · intro e he hb
        have := h2 e (by simpa using he)
        simp only [hb, Bool.not_true, Bool.false_or] at this
        rw [Nat.blt_eq] at this; omega
    | succ i =>
      have := ih h3 i o (by simpa using h)
      refine ⟨this.1, fun e he hb => ?_⟩
      have := this.2 e he hb
      omega
theorem before_direct (ops : Array Oper) : ∀ i o e, ops[i]? = some o → e ∈ o.after → Region.binds .any e = true → ordOf (beforeL ops) e.on i = true := by
  have inner : ∀ (acc : Array Nat) (es : List Edge) (s : Nat) (e : Edge), Region.binds .any e = true → (e ∈ es ∨ s.testBit e.on = true) → (es.foldl (fun s e => if Region.binds .any e then s ||| 2 ^ e.on ||| acc.getD e.on 0 else s) s).testBit e.on = true := by
    intro acc es
    induction es with
    | nil => intro s e _ h; rcases h with h | h; · cases h
             exact h
    | cons x es ih =>
      intro s e hb h
      simp only [List.foldl_cons]
      refine ih _ e hb ?_
      rcases h with h | h
      · rcases List.mem_cons.1 h with rfl | h
        · right
          simp [hb, Nat.testBit_or]
        · exact .inl h
      · right
        split
        · simp [Nat.testBit_or, h]
        · exact h
  have outer : ∀ (l : List Oper) (acc : Array Nat), (∀ i, i < acc.size → (l.foldl (fun acc o => acc.push (o.after.foldl (fun s e => if Region.binds .any e then s ||| 2 ^ e.on ||| acc.getD e.on 0 else s) 0)) acc).getD i 0 = acc.getD i 0) ∧
      ∀ j o e, l[j]? = some o → e ∈ o.after → Region.binds .any e = true → ((l.foldl (fun acc o => acc.push (o.after.foldl (fun s e => if Region.binds .any e then s ||| 2 ^ e.on ||| acc.getD e.on 0 else s) 0)) acc).getD (acc.size + j) 0).testBit e.on = true := by
    intro l
    induction l with
    | nil => intro acc; exact ⟨fun _ _ => rfl, fun j o e h => by simp at h⟩
    | cons x l ih =>
      intro acc
      simp only [List.foldl_cons]
      obtain ⟨h1, h2⟩ := ih (acc.push (x.after.foldl (fun s e => if Region.binds .any e then s ||| 2 ^ e.on ||| acc.getD e.on 0 else s) 0))
      refine ⟨fun i hi => ?_, fun j o e hj he hb => ?_⟩
      · rw [h1 i (by simp; omega)]
        simp only [Array.getD_eq_getD_getElem?]
        rw [Array.getElem?_push_lt hi]
        simp [hi]
      · cases j with
        | zero =>
          simp only [List.getElem?_cons_zero, Option.some.injEq] at hj
          subst hj
          rw [Nat.add_zero, h1 acc.size (by simp), Array.getD_eq_getD_getElem?, Array.getElem?_push_size, Option.getD_some, ← Array.foldl_toList]
          exact inner acc x.after.toList 0 e hb (.inl (by simpa using he))
        | succ j =>
          have := h2 j o e (by simpa using hj) he hb
          rw [Array.size_push] at this
          rw [show acc.size + (j + 1) = acc.size + 1 + j by omega]
          exact this
  intro i o e ho he hb
  have := (outer ops.toList #[]).2 i o e (by simpa using ho) he hb
  have hbf : Region.before ops = ops.toList.foldl (fun acc o => acc.push (o.after.foldl (fun s e => if Region.binds .any e then s ||| 2 ^ e.on ||| acc.getD e.on 0 else s) 0)) #[] := by
    unfold Region.before
    rw [Array.foldl_toList]
  rw [← hbf] at this
  unfold ordOf beforeL
  rw [Array.getElem?_toList]
  simp only [Array.size_empty, Nat.zero_add, Array.getD_eq_getD_getElem?] at this
  cases hx : (Region.before ops)[i]? with
  | none => simp [hx] at this
  | some v => simpa [hx] using this

theorem ready_iff {ops : Array Oper} {listed : Array Bool} {i : Nat} : i ∈ Region.ready .any ops listed ↔ i < ops.size ∧ listed.getD i true = false ∧ ∃ o, ops[i]? = some o ∧ ∀ e ∈ o.after, Region.binds .any e = true → listed.getD e.on false = true := by
  unfold Region.ready
  rw [List.mem_filter]
  simp only [List.mem_range, Bool.and_eq_true, Bool.not_eq_true']
  constructor
  · rintro ⟨h1, h2, h3⟩
    refine ⟨h1, h2, ops[i], by simp [h1], ?_⟩
    have ho : ops[i]? = some ops[i] := by simp [h1]
    rw [ho] at h3
    simp only [Option.map_some, Option.getD_some] at h3
    intro e he hb
    rw [← Array.all_toList, List.all_eq_true] at h3
    have := h3 e (by simpa using he)
    simpa [hb] using this
  · rintro ⟨h1, h2, o, ho, h3⟩
    refine ⟨h1, h2, ?_⟩
    rw [ho]
    simp only [Option.map_some, Option.getD_some]
    rw [← Array.all_toList, List.all_eq_true]
    intro e he
    by_cases hb : Region.binds .any e = true
    · simp [h3 e (by simpa using he) hb]
    · simp [hb]

theorem semD_any {ops : Array Oper} {Q : Act → Hp → Prop} {Q' : Exit → Act → World → Prop} {w0 : World} (hQ : ∀ a w, Same w0 w → Q a w.heap → Q' .normal a w) (hE : edgesOk ops.toList 0 = true) :
    ∀ (fuel : Nat) (listed : Array Bool) (L : List Nat) (pend : List (Nat × (Hp → Prop))) (a : Act) (w : World), Same w0 w → listed.size = ops.size → L.Nodup →
      (∀ i, i ∈ L ↔ i < ops.size ∧ listed.getD i true = false) → L.length ≤ fuel → pairsOk (pairF P ops (beforeL ops)) L = true →
      (∀ j, j < ops.size → listed.getD j false = true → ∀ x, ordOf (beforeL ops) x j = true → listed.getD x false = true) →
      semD P ops (ordOf (beforeL ops)) L pend a w.heap Q → wpAny P .any ops Q' fuel listed a w := by
  have getD_tf : ∀ (listed : Array Bool) (i : Nat), i < listed.size → listed.getD i true = listed.getD i false := by
    intro listed i hi
    simp [Array.getD, hi]
  have hE' : ∀ i o, ops[i]? = some o → (∀ cs b, o.op ≠ .select cs b) ∧ ∀ e ∈ o.after, Region.binds .any e = true → e.on < i := by
    intro i o ho
    have := edgesOk_spec hE i o (by simpa using ho)
    simpa using this
  have ready_nil : ∀ (listed : Array Bool) (L : List Nat), listed.size = ops.size → (∀ i, i ∈ L ↔ i < ops.size ∧ listed.getD i true = false) → pairsOk (pairF P ops (beforeL ops)) L = true → Region.ready .any ops listed = [] → L = [] := by
    intro listed L hsz hL hp hr
    cases L with
    | nil => rfl
    | cons i L =>
      exfalso
      obtain ⟨hi, hl⟩ := (hL i).1 (by simp)
      have ho : ops[i]? = some ops[i] := by simp [hi]
      have : i ∈ Region.ready .any ops listed := by
        refine ready_iff.2 ⟨hi, hl, _, ho, fun e he hb => ?_⟩
        have hlt := (hE' i _ ho).2 e he hb
        have hord := before_direct ops i _ e ho he hb
        by_cases hx : listed.getD e.on true = false
        · exfalso
          have hm := (hL e.on).2 ⟨by omega, hx⟩
          rcases List.mem_cons.1 hm with h | h
          · omega
          · simp only [pairsOk, Bool.and_eq_true, List.all_eq_true] at hp
            have := hp.1 e.on h
            simp [pairF, hord] at this
        · rw [← getD_tf listed e.on (by omega)]
          simpa using hx
      rw [hr] at this
      cases this
  intro fuel
  induction fuel with
  | zero =>
    intro listed L pend a w hs hsz hnd hL hlen hp hcl hh
    have : L = [] := List.eq_nil_of_length_eq_zero (by omega)
    subst this
    refine ⟨?_, hQ _ _ hs hh⟩
    cases hr : Region.ready .any ops listed with
    | nil => rfl
    | cons x xs =>
      have : x ∈ Region.ready .any ops listed := by rw [hr]; simp
      obtain ⟨h1, h2, _⟩ := ready_iff.1 this
      have := (hL x).2 ⟨h1, h2⟩
      cases this
  | succ fuel ih =>
    intro listed L pend a w hs hsz hnd hL hlen hp hcl hh
    refine ⟨fun hr => ?_, fun i hi => ?_⟩
    · have := ready_nil listed L hsz hL hp hr
      subst this
      exact hQ _ _ hs hh
    · obtain ⟨hlt, hnl, o, ho, hedges⟩ := ready_iff.1 hi
      have hmem := (hL i).2 ⟨hlt, hnl⟩
      obtain ⟨L1, L2, rfl⟩ := List.append_of_mem hmem
      obtain ⟨hpair, hp'⟩ := pairsOk_spec hp L1 i L2 rfl
      have hbefore : ∀ x, ordOf (beforeL ops) x i = true → listed.getD x false = true := by
        intro x hx
        obtain ⟨o', ho', e, he, hb, h⟩ := before_spec ops i x hx
        rw [ho] at ho'; cases ho'
        rcases h with rfl | h
        · exact hedges e he hb
        · have hon := (hE' i o ho).2 e he hb
          exact hcl e.on (by omega) (hedges e he hb) x h
      have hap : ∀ x ∈ L1, ordOf (beforeL ops) x i = false ∧ ∀ ox, ops[x]? = some ox → cls P ox ≠ 2 ∧ ox.apart ops o = true := by
        intro x hx
        have hxL := (hL x).1 (by simp [hx])
        have hno : ordOf (beforeL ops) x i = false := by
          cases hb : ordOf (beforeL ops) x i with
          | false => rfl
          | true =>
            have := hbefore x hb
            rw [← getD_tf listed x (by omega), hxL.2] at this
            cases this
        refine ⟨hno, fun ox hox => ?_⟩
        have := hpair x hx
        simp only [pairF, hno, Bool.false_or, Bool.and_eq_true] at this
        obtain ⟨_, _, this⟩ := this
        have e1 : ops.toList[x]? = some ox := by simpa using hox
        have e2 : ops.toList[i]? = some o := by simpa using ho
        simp only [e1, e2, Bool.and_eq_true, Bool.not_eq_true'] at this
        refine ⟨fun he => ?_, this.2⟩
        rw [he] at this
        simp at this
      have hst := hoist ho (hE' i o ho).1 L1 L2 pend a w.heap hap hh
      have hstep : ∀ u h' w', w'.heap = h' → Same w w' → ((h' = w.heap ∨ ∀ p ∈ pend, ordOf (beforeL ops) p.1 i = false → p.2 h') ∧ semD P ops (ordOf (beforeL ops)) (L1 ++ L2) pend (a.put o.dst u) h' Q) →
          wpAny P .any ops Q' fuel (listed.setIfInBounds i true) (a.put o.dst u) w' := by
        rintro u h' w' rfl hs' ⟨_, hd⟩
        have hnd' : (i :: (L1 ++ L2)).Nodup := (List.perm_middle.nodup_iff).1 hnd
        refine ih _ (L1 ++ L2) pend _ w' (hs.trans hs') (by simpa using hsz) (List.nodup_cons.1 hnd').2 ?_ ?_ hp' ?_ hd
        · intro j
          have hj := hL j
          rw [Array.getD_eq_getD_getElem?, Array.getElem?_setIfInBounds]
          rw [Array.getD_eq_getD_getElem?] at hj
          by_cases hij : i = j
          · subst hij
            have : i ∉ L1 ++ L2 := (List.nodup_cons.1 hnd').1
            simp [this, hsz, hlt]
          · rw [if_neg hij]
            rw [← hj]
            simp only [List.mem_append, List.mem_cons]
            constructor
            · rintro (h | h)
              · exact .inl h
              · exact .inr (.inr h)
            · rintro (h | h | h)
              · exact .inl h
              · exact (hij h.symm).elim
              · exact .inr h
        · simp only [List.length_append, List.length_cons] at hlen ⊢
          omega
        · intro j hj hjl x hx
          have mono : ∀ y, listed.getD y false = true → (listed.setIfInBounds i true).getD y false = true := by
            intro y hy
            rw [Array.getD_eq_getD_getElem?, Array.getElem?_setIfInBounds]
            rw [Array.getD_eq_getD_getElem?] at hy
            by_cases hiy : i = y
            · rw [if_pos hiy]; subst hiy; simp [hsz, hlt]
            · rw [if_neg hiy]; exact hy
          by_cases hij : i = j
          · subst hij; exact mono x (hbefore x hx)
          · refine mono x (hcl j hj ?_ x hx)
            rw [Array.getD_eq_getD_getElem?, Array.getElem?_setIfInBounds, if_neg hij] at hjl
            rw [Array.getD_eq_getD_getElem?]; exact hjl
      unfold wpOp
      simp only [ho]
      unfold stepD at hst
      split
      · rename_i hw
        rw [if_pos hw] at hst
        refine .inl (Oper.wp_mono ?_ (oper_wp (Q := Q') hst))
        rintro a' w' ⟨u, rfl, hk, hs'⟩
        exact hstep u _ w' rfl hs' hk
      · rename_i hw
        rw [if_neg hw] at hst
        exact hstep undef _ w rfl (.refl w) hst
end
end Go.Proofs.Ytmdhfmljgjnggaa
