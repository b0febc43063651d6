/- A heap-only reading of the model: what an operation or a call does to memory, whatever the tape says. No condition. -/
import Derived.Calls
import Derived.Orders
import Derived.Laws.Sem
import Derived.Deep.LoopGhost
namespace Go.Proofs.Ytmdhfmljgjnggaa

/-- Memory alone. -/
abbrev Hp := Array Obj

def cellAt (h : Hp) (a : Addr) : Option Value :=
  match h[a.block]? with
  | some (.cells c _ _) => if a.spot.isSome then none else c[a.off]?
  | _ => none
def shapeAt (h : Hp) (r : Nat) : Option (TypeId × Nat) :=
  match h[r]? with
  | some (.cells c elem _) => some (elem, c.size)
  | _ => none
def frozenAt (h : Hp) (a : Addr) : Bool :=
  match h[a.block]? with
  | some (.cells _ _ (lo, hi)) => lo ≤ a.off && a.off < hi
  | _ => false
def setH (h : Hp) (a : Addr) (v : Value) : Hp :=
  h.modify a.block fun
    | .cells c elem frozen => .cells (if a.spot.isSome then c else c.setIfInBounds a.off v) elem frozen
    | o => o
def freezeH (h : Hp) (a : Addr) (n : Nat) : Hp :=
  if n = 0 then h else h.modify a.block fun
    | .cells c elem (lo, hi) => .cells c elem (if lo == hi then (a.off, a.off + n) else (min lo a.off, max hi (a.off + n)))
    | o => o
def objAt (h : Hp) (r : Nat) : Option Obj :=
  match h[r]? with
  | some (.cells ..) => none
  | x => x
/-- One cell's value. -/
def oneV : Value → Bool
  | .agg _ | .tuple _ => false
  | _ => true

/-- The rest of the world stands still. -/
def Same (w w' : World) : Prop := w'.tape = w.tape ∧ w'.os = w.os ∧ w'.output = w.output
theorem Same.refl (w : World) : Same w w := ⟨rfl, rfl, rfl⟩
theorem Same.trans {a b c : World} (h : Same a b) (h' : Same b c) : Same a c :=
  ⟨h'.1.trans h.1, h'.2.1.trans h.2.1, h'.2.2.trans h.2.2⟩

/-- What must hold so that a computation comes to its end with K, whatever the tape says. -/
def semWP (P : Program) {α : Type} : Sem α → Hp → (α → Hp → Prop) → Prop
  | .pure a, h, K => K a h
  | .load _ a k, h, K => ∃ v, cellAt h a = some v ∧ semWP P (k v) h K
  | .store _ a v k, h, K => oneV v = true ∧ (∃ old, cellAt h a = some old) ∧ frozenAt h a = false ∧ semWP P k (setH h a v) K
  | .new o k, h, K => semWP P (k h.size) (h.push o) K
  | .shape r k, h, K => semWP P (k (shapeAt h r)) h K
  | .freeze a n k, h, K => semWP P k (freezeH h a n) K
  | .frozen a k, h, K => semWP P (k (frozenAt h a)) h K
  | .getObj r k, h, K => ∃ o, objAt h r = some o ∧ semWP P (k o) h K
  | .setObj r o k, h, K => (∃ o', objAt h r = some o') ∧ semWP P k (h.setIfInBounds r o) K
  | .choose q k, h, K => ∀ t, semWP P (k (if q.forced then 0 else q.cut t)) h K
  | .sys _ _, _, _ => False
  | .program k, h, K => semWP P (k P) h K
  | .mark _ k, h, K => semWP P k h K
  | .halt _, _, _ => False

theorem objAt_run {w : World} {r : Nat} {o : Obj} (h : objAt w.heap r = some o) : ∃ o', w.heap[r]? = some o' ∧ o' = o ∧ ∀ c e f, o ≠ .cells c e f := by
  unfold objAt at h
  split at h
  · cases h
  · rename_i x hx
    cases o with
    | cells c e f => exact absurd h (hx c e f)
    | _ => exact ⟨_, h, rfl, by intros; simp⟩

theorem semWP_run {P : Program} {α : Type} (s : Sem α) : ∀ (w : World) (K : α → Hp → Prop), semWP P s w.heap K →
    ∃ a w', s.run P w = .ok a w' ∧ K a w'.heap ∧ Same w w' := by
  induction s with
  | pure a => intro w K h; exact ⟨a, w, rfl, h, .refl w⟩
  | load m a k ih =>
    intro w K h
    obtain ⟨v, hv, h⟩ := h
    have hc : w.cell? a = some v := hv
    obtain ⟨x, w', h1, h2⟩ := ih v w K h
    exact ⟨x, w', by simp only [Sem.run, hc]; exact h1, h2⟩
  | store m a v k ih =>
    intro w K h
    obtain ⟨h1, ⟨old, h2⟩, h3, h⟩ := h
    have hc : w.cell? a = some old := h2
    have hf : w.frozen? a = false := h3
    obtain ⟨x, w', g1, g2, g3⟩ := ih (w.setCell a v) K h
    refine ⟨x, w', ?_, g2, g3⟩
    cases v <;> first
      | (simp [oneV] at h1; done)
      | (simp only [Sem.run, hc, hf, Bool.false_eq_true, if_false]; exact g1)
  | new o k ih =>
    intro w K h
    obtain ⟨x, w', g1, g2, g3⟩ := ih w.heap.size { w with heap := w.heap.push o } K h
    exact ⟨x, w', g1, g2, g3⟩
  | shape r k ih => intro w K h; exact ih _ w K h
  | freeze a n k ih =>
    intro w K h
    have hh : (w.freeze a n).heap = freezeH w.heap a n := by unfold World.freeze freezeH; split <;> rfl
    have hs : Same w (w.freeze a n) := by unfold World.freeze; split <;> exact ⟨rfl, rfl, rfl⟩
    obtain ⟨x, w', g1, g2, g3⟩ := ih (w.freeze a n) K (by rw [hh]; exact h)
    exact ⟨x, w', g1, g2, hs.trans g3⟩
  | frozen a k ih => intro w K h; exact ih _ w K h
  | getObj r k ih =>
    intro w K h
    obtain ⟨o, ho, h⟩ := h
    obtain ⟨o', h1, rfl, h2⟩ := objAt_run ho
    obtain ⟨x, w', g1, g2, g3⟩ := ih o' w K h
    refine ⟨x, w', ?_, g2, g3⟩
    simp only [Sem.run, h1]
    cases o' with
    | cells c e f => exact absurd rfl (h2 c e f)
    | _ => exact g1
  | setObj r o k ih =>
    intro w K h
    obtain ⟨⟨o', ho⟩, h⟩ := h
    obtain ⟨o'', h1, rfl, h2⟩ := objAt_run ho
    obtain ⟨x, w', g1, g2, g3⟩ := ih { w with heap := w.heap.setIfInBounds r o } K h
    refine ⟨x, w', ?_, g2, g3⟩
    simp only [Sem.run, h1]
    cases o'' with
    | cells c e f => exact absurd rfl (h2 c e f)
    | _ => exact g1
  | choose q k ih =>
    intro w K h
    by_cases hq : q.forced = true
    · have h0 := h 0
      simp only [hq, if_true] at h0
      obtain ⟨x, w', g1, g2, g3⟩ := ih 0 w K h0
      exact ⟨x, w', by simp only [Sem.run, hq, if_true]; exact g1, g2, g3⟩
    · have h0 := h (w.tape w.drawn q)
      simp only [hq, if_false, Bool.false_eq_true] at h0
      obtain ⟨x, w', g1, g2, g3⟩ := ih (q.cut (w.tape w.drawn q)) { w with drawn := w.drawn + 1 } K h0
      exact ⟨x, w', by simp only [Sem.run, hq, if_false, Bool.false_eq_true]; exact g1, g2, g3⟩
  | sys c k ih => intro w K h; exact h.elim
  | program k ih => intro w K h; exact ih P w K h
  | mark m k ih => intro w K h; exact ih w K h
  | halt x => intro w K h; exact h.elim

theorem semWP_mono {P : Program} {α : Type} (s : Sem α) : ∀ (h : Hp) (K K' : α → Hp → Prop), (∀ a h, K a h → K' a h) → semWP P s h K → semWP P s h K' := by
  induction s with
  | pure a => intro h K K' hk hh; exact hk _ _ hh
  | load m a k ih => intro h K K' hk ⟨v, hv, hh⟩; exact ⟨v, hv, ih v h K K' hk hh⟩
  | store m a v k ih => intro h K K' hk ⟨h1, h2, h3, hh⟩; exact ⟨h1, h2, h3, ih _ K K' hk hh⟩
  | new o k ih => intro h K K' hk hh; exact ih _ _ K K' hk hh
  | shape r k ih => intro h K K' hk hh; exact ih _ _ K K' hk hh
  | freeze a n k ih => intro h K K' hk hh; exact ih _ K K' hk hh
  | frozen a k ih => intro h K K' hk hh; exact ih _ _ K K' hk hh
  | getObj r k ih => intro h K K' hk ⟨o, ho, hh⟩; exact ⟨o, ho, ih o h K K' hk hh⟩
  | setObj r o k ih => intro h K K' hk ⟨h1, hh⟩; exact ⟨h1, ih _ K K' hk hh⟩
  | choose q k ih => intro h K K' hk hh t; exact ih _ _ K K' hk (hh t)
  | sys c k ih => intro h K K' hk hh; exact hh.elim
  | program k ih => intro h K K' hk hh; exact ih P h K K' hk hh
  | mark m k ih => intro h K K' hk hh; exact ih h K K' hk hh
  | halt x => intro h K K' hk hh; exact hh.elim

theorem semWP_bind {P : Program} {α β : Type} (s : Sem α) (f : α → Sem β) : ∀ (h : Hp) (K : β → Hp → Prop),
    semWP P (s >>= f) h K = semWP P s h (fun a h => semWP P (f a) h K) := by
  intro h K
  show semWP P (s.bind f) h K = _
  induction s generalizing h with
  | pure a => rfl
  | load m a k ih => simp only [Sem.bind, semWP, ih]
  | store m a v k ih => simp only [Sem.bind, semWP, ih]
  | new o k ih => simp only [Sem.bind, semWP, ih]
  | shape r k ih => simp only [Sem.bind, semWP, ih]
  | freeze a n k ih => simp only [Sem.bind, semWP, ih]
  | frozen a k ih => simp only [Sem.bind, semWP, ih]
  | getObj r k ih => simp only [Sem.bind, semWP, ih]
  | setObj r o k ih => simp only [Sem.bind, semWP, ih]
  | choose q k ih => simp only [Sem.bind, semWP, ih]
  | sys c k ih => simp only [Sem.bind, semWP]
  | program k ih => simp only [Sem.bind, semWP, ih]
  | mark m k ih => simp only [Sem.bind, semWP, ih]
  | halt x => simp only [Sem.bind, semWP]
theorem semWP_pure {P : Program} {α : Type} (a : α) (h : Hp) (K : α → Hp → Prop) : semWP P (Pure.pure a) h K = K a h := rfl

/-- A call that returns, from every world whose memory is h. -/
def CallsH (P : Program) (f : FuncId) (args : Array Value) (h : Hp) (K : Value → Hp → Prop) : Prop :=
  (∀ args w, (callFunc f args).run P w = .ok (.enter f args) w) ∧
  ∀ w : World, w.heap = h → Calls P f args w fun e w' => ∃ v, e = .returned v ∧ K v w'.heap ∧ Same w w'
theorem CallsH.mono {P : Program} {f : FuncId} {args : Array Value} {h : Hp} {K K' : Value → Hp → Prop}
    (hc : CallsH P f args h K) (hk : ∀ v h, K v h → K' v h) : CallsH P f args h K' :=
  ⟨hc.1, fun w hw => (hc.2 w hw).mono fun _ _ ⟨v, he, hv, hs⟩ => ⟨v, he, hk _ _ hv, hs⟩⟩

/-- What must hold of what an operation yields. -/
def nextWP (P : Program) : Next → Hp → (Value → Hp → Prop) → Prop
  | .value v, h, K => K v h
  | .skip, h, K => K undef h
  | .enter f args, h, K => CallsH P f args h K
  | _, _, _ => False

/-- It comes to v, and leaves everything as it was. -/
def RunsTo (P : Program) {α : Type} (s : Sem α) (h : Hp) (v : α) : Prop := ∀ w : World, w.heap = h → s.run P w = .ok v w
theorem RunsTo.unique {P : Program} {α : Type} {s : Sem α} {h : Hp} {u v : α} (hu : RunsTo P s h u) (hv : RunsTo P s h v) : u = v := by
  have h1 := hu { (default : World) with heap := h } rfl
  have h2 := hv { (default : World) with heap := h } rfl
  rw [h1] at h2
  simpa using h2

/-- An operation's precondition, in memory alone. -/
def operWP (P : Program) (ρ : Operand → Value) (o : Oper) (h : Hp) (K : Value → Hp → Prop) : Prop :=
  ∀ w : World, w.heap = h → ∃ n w', (execOp ρ o).run P w = .ok n w' ∧ nextWP P n w'.heap K ∧ Same w w'
theorem operWP_of_sem {P : Program} {ρ : Operand → Value} {o : Oper} {h : Hp} {K : Value → Hp → Prop} (hs : semWP P (execOp ρ o) h fun n h => nextWP P n h K) : operWP P ρ o h K :=
  fun w hw => semWP_run _ w _ (hw ▸ hs)

theorem nextWP_mono {P : Program} {n : Next} {h : Hp} {K K' : Value → Hp → Prop} (hk : ∀ v h, K v h → K' v h) (hh : nextWP P n h K) : nextWP P n h K' := by
  cases n <;> first | exact hk _ _ hh | exact CallsH.mono hh hk | exact hh.elim
theorem operWP_mono {P : Program} {ρ : Operand → Value} {o : Oper} {h : Hp} {K K' : Value → Hp → Prop} (hk : ∀ v h, K v h → K' v h) (hh : operWP P ρ o h K) : operWP P ρ o h K' :=
  fun w hw => let ⟨n, w', h1, h2, h3⟩ := hh w hw; ⟨n, w', h1, nextWP_mono hk h2, h3⟩

theorem oper_wp {P : Program} {o : Oper} {a : Act} {w : World} {K : Value → Hp → Prop} {Q : Exit → Act → World → Prop}
    (h : operWP P a.eval o w.heap K) : o.wp P a w (fun a' w' => ∃ v, a' = a.put o.dst v ∧ K v w'.heap ∧ Same w w') Q := by
  obtain ⟨n, w', hr, hn, hs⟩ := h w rfl
  unfold Oper.wp
  rw [hr]
  cases n with
  | value v => exact ⟨v, rfl, hn, hs⟩
  | skip => exact ⟨undef, rfl, hn, hs⟩
  | enter f args =>
    refine (hn.2 w' rfl).mono ?_
    rintro e w'' ⟨v, rfl, hv, hs'⟩
    exact ⟨v, rfl, hv, hs.trans hs'⟩
  | _ => exact hn.elim
end Go.Proofs.Ytmdhfmljgjnggaa
