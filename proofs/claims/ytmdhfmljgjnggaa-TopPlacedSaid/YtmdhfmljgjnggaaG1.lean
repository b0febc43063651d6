/- The texts Heap T Ops Sound Code Sound2, one behind the other. No condition. -/
import Derived.Calls
import Derived.Orders
import Derived.Laws.Sem
import Derived.Deep.LoopGhost
/- A heap-only reading of the model: what an operation or a call does to memory, whatever the tape says. No condition. -/
namespace Go.Proofs.Ytmdhfmljgjnggaa

/-- Memory alone. -/
abbrev Hp := Array Obj

def cellAt (h : Hp) (a : Addr) : Option Value :=
  match h[a.block]? with
  | some (.cells c _ _) => if a.spot.isSome then none else c[a.off]?
  | _ => none
def shapeAt (h : Hp) (r : Nat) : Option (TypeId × Nat) :=
  match h[r]? with
  | some (.cells c elem _) => some (elem, c.size)
  | _ => none
def frozenAt (h : Hp) (a : Addr) : Bool :=
  match h[a.block]? with
  | some (.cells _ _ (lo, hi)) => lo ≤ a.off && a.off < hi
  | _ => false
def setH (h : Hp) (a : Addr) (v : Value) : Hp :=
  h.modify a.block fun
    | .cells c elem frozen => .cells (if a.spot.isSome then c else c.setIfInBounds a.off v) elem frozen
    | o => o
def freezeH (h : Hp) (a : Addr) (n : Nat) : Hp :=
  if n = 0 then h else h.modify a.block fun
    | .cells c elem (lo, hi) => .cells c elem (if lo == hi then (a.off, a.off + n) else (min lo a.off, max hi (a.off + n)))
    | o => o
def objAt (h : Hp) (r : Nat) : Option Obj :=
  match h[r]? with
  | some (.cells ..) => none
  | x => x
/-- One cell's value. -/
def oneV : Value → Bool
  | .agg _ | .tuple _ => false
  | _ => true

/-- The rest of the world stands still. -/
def Same (w w' : World) : Prop := w'.tape = w.tape ∧ w'.os = w.os ∧ w'.output = w.output
theorem Same.refl (w : World) : Same w w := ⟨rfl, rfl, rfl⟩
theorem Same.trans {a b c : World} (h : Same a b) (h' : Same b c) : Same a c :=
  ⟨h'.1.trans h.1, h'.2.1.trans h.2.1, h'.2.2.trans h.2.2⟩

/-- What must hold so that a computation comes to its end with K, whatever the tape says. -/
def semWP (P : Program) {α : Type} : Sem α → Hp → (α → Hp → Prop) → Prop
  | .pure a, h, K => K a h
  | .load _ a k, h, K => ∃ v, cellAt h a = some v ∧ semWP P (k v) h K
  | .store _ a v k, h, K => oneV v = true ∧ (∃ old, cellAt h a = some old) ∧ frozenAt h a = false ∧ semWP P k (setH h a v) K
  | .new o k, h, K => semWP P (k h.size) (h.push o) K
  | .shape r k, h, K => semWP P (k (shapeAt h r)) h K
  | .freeze a n k, h, K => semWP P k (freezeH h a n) K
  | .frozen a k, h, K => semWP P (k (frozenAt h a)) h K
  | .getObj r k, h, K => ∃ o, objAt h r = some o ∧ semWP P (k o) h K
  | .setObj r o k, h, K => (∃ o', objAt h r = some o') ∧ semWP P k (h.setIfInBounds r o) K
  | .choose q k, h, K => ∀ t, semWP P (k (if q.forced then 0 else q.cut t)) h K
  | .sys _ _, _, _ => False
  | .program k, h, K => semWP P (k P) h K
  | .mark _ k, h, K => semWP P k h K
  | .halt _, _, _ => False

theorem objAt_run {w : World} {r : Nat} {o : Obj} (h : objAt w.heap r = some o) : ∃ o', w.heap[r]? = some o' ∧ o' = o ∧ ∀ c e f, o ≠ .cells c e f := by
  unfold objAt at h
  split at h
  · cases h
  · rename_i x hx
    cases o with
    | cells c e f => exact absurd h (hx c e f)
    | _ => exact ⟨_, h, rfl, by intros; simp⟩

theorem semWP_run {P : Program} {α : Type} (s : Sem α) : ∀ (w : World) (K : α → Hp → Prop), semWP P s w.heap K →
    ∃ a w', s.run P w = .ok a w' ∧ K a w'.heap ∧ Same w w' := by
  induction s with
  | pure a => intro w K h; exact ⟨a, w, rfl, h, .refl w⟩
  | load m a k ih =>
    intro w K h
    obtain ⟨v, hv, h⟩ := h
    have hc : w.cell? a = some v := hv
    obtain ⟨x, w', h1, h2⟩ := ih v w K h
    exact ⟨x, w', by simp only [Sem.run, hc]; exact h1, h2⟩
  | store m a v k ih =>
    intro w K h
    obtain ⟨h1, ⟨old, h2⟩, h3, h⟩ := h
    have hc : w.cell? a = some old := h2
    have hf : w.frozen? a = false := h3
    obtain ⟨x, w', g1, g2, g3⟩ := ih (w.setCell a v) K h
    refine ⟨x, w', ?_, g2, g3⟩
    cases v <;> first
      | (simp [oneV] at h1; done)
      | (simp only [Sem.run, hc, hf, Bool.false_eq_true, if_false]; exact g1)
  | new o k ih =>
    intro w K h
    obtain ⟨x, w', g1, g2, g3⟩ := ih w.heap.size { w with heap := w.heap.push o } K h
    exact ⟨x, w', g1, g2, g3⟩
  | shape r k ih => intro w K h; exact ih _ w K h
  | freeze a n k ih =>
    intro w K h
    have hh : (w.freeze a n).heap = freezeH w.heap a n := by unfold World.freeze freezeH; split <;> rfl
    have hs : Same w (w.freeze a n) := by unfold World.freeze; split <;> exact ⟨rfl, rfl, rfl⟩
    obtain ⟨x, w', g1, g2, g3⟩ := ih (w.freeze a n) K (by rw [hh]; exact h)
    exact ⟨x, w', g1, g2, hs.trans g3⟩
  | frozen a k ih => intro w K h; exact ih _ w K h
  | getObj r k ih =>
    intro w K h
    obtain ⟨o, ho, h⟩ := h
    obtain ⟨o', h1, rfl, h2⟩ := objAt_run ho
    obtain ⟨x, w', g1, g2, g3⟩ := ih o' w K h
    refine ⟨x, w', ?_, g2, g3⟩
    simp only [Sem.run, h1]
    cases o' with
    | cells c e f => exact absurd rfl (h2 c e f)
    | _ => exact g1
  | setObj r o k ih =>
    intro w K h
    obtain ⟨⟨o', ho⟩, h⟩ := h
    obtain ⟨o'', h1, rfl, h2⟩ := objAt_run ho
    obtain ⟨x, w', g1, g2, g3⟩ := ih { w with heap := w.heap.setIfInBounds r o } K h
    refine ⟨x, w', ?_, g2, g3⟩
    simp only [Sem.run, h1]
    cases o'' with
    | cells c e f => exact absurd rfl (h2 c e f)
    | _ => exact g1
  | choose q k ih =>
    intro w K h
    by_cases hq : q.forced = true
    · have h0 := h 0
      simp only [hq, if_true] at h0
      obtain ⟨x, w', g1, g2, g3⟩ := ih 0 w K h0
      exact ⟨x, w', by simp only [Sem.run, hq, if_true]; exact g1, g2, g3⟩
    · have h0 := h (w.tape w.drawn q)
      simp only [hq, if_false, Bool.false_eq_true] at h0
      obtain ⟨x, w', g1, g2, g3⟩ := ih (q.cut (w.tape w.drawn q)) { w with drawn := w.drawn + 1 } K h0
      exact ⟨x, w', by simp only [Sem.run, hq, if_false, Bool.false_eq_true]; exact g1, g2, g3⟩
  | sys c k ih => intro w K h; exact h.elim
  | program k ih => intro w K h; exact ih P w K h
  | mark m k ih => intro w K h; exact ih w K h
  | halt x => intro w K h; exact h.elim

theorem semWP_mono {P : Program} {α : Type} (s : Sem α) : ∀ (h : Hp) (K K' : α → Hp → Prop), (∀ a h, K a h → K' a h) → semWP P s h K → semWP P s h K' := by
  induction s with
  | pure a => intro h K K' hk hh; exact hk _ _ hh
  | load m a k ih => intro h K K' hk ⟨v, hv, hh⟩; exact ⟨v, hv, ih v h K K' hk hh⟩
  | store m a v k ih => intro h K K' hk ⟨h1, h2, h3, hh⟩; exact ⟨h1, h2, h3, ih _ K K' hk hh⟩
  | new o k ih => intro h K K' hk hh; exact ih _ _ K K' hk hh
  | shape r k ih => intro h K K' hk hh; exact ih _ _ K K' hk hh
  | freeze a n k ih => intro h K K' hk hh; exact ih _ K K' hk hh
  | frozen a k ih => intro h K K' hk hh; exact ih _ _ K K' hk hh
  | getObj r k ih => intro h K K' hk ⟨o, ho, hh⟩; exact ⟨o, ho, ih o h K K' hk hh⟩
  | setObj r o k ih => intro h K K' hk ⟨h1, hh⟩; exact ⟨h1, ih _ K K' hk hh⟩
  | choose q k ih => intro h K K' hk hh t; exact ih _ _ K K' hk (hh t)
  | sys c k ih => intro h K K' hk hh; exact hh.elim
  | program k ih => intro h K K' hk hh; exact ih P h K K' hk hh
  | mark m k ih => intro h K K' hk hh; exact ih h K K' hk hh
  | halt x => intro h K K' hk hh; exact hh.elim

theorem semWP_bind {P : Program} {α β : Type} (s : Sem α) (f : α → Sem β) : ∀ (h : Hp) (K : β → Hp → Prop),
    semWP P (s >>= f) h K = semWP P s h (fun a h => semWP P (f a) h K) := by
  intro h K
  show semWP P (s.bind f) h K = _
  induction s generalizing h with
  | pure a => rfl
  | load m a k ih => simp only [Sem.bind, semWP, ih]
  | store m a v k ih => simp only [Sem.bind, semWP, ih]
  | new o k ih => simp only [Sem.bind, semWP, ih]
  | shape r k ih => simp only [Sem.bind, semWP, ih]
  | freeze a n k ih => simp only [Sem.bind, semWP, ih]
  | frozen a k ih => simp only [Sem.bind, semWP, ih]
  | getObj r k ih => simp only [Sem.bind, semWP, ih]
  | setObj r o k ih => simp only [Sem.bind, semWP, ih]
  | choose q k ih => simp only [Sem.bind, semWP, ih]
  | sys c k ih => simp only [Sem.bind, semWP]
  | program k ih => simp only [Sem.bind, semWP, ih]
  | mark m k ih => simp only [Sem.bind, semWP, ih]
  | halt x => simp only [Sem.bind, semWP]
theorem semWP_pure {P : Program} {α : Type} (a : α) (h : Hp) (K : α → Hp → Prop) : semWP P (Pure.pure a) h K = K a h := rfl

/-- A call that returns, from every world whose memory is h. -/
def CallsH (P : Program) (f : FuncId) (args : Array Value) (h : Hp) (K : Value → Hp → Prop) : Prop :=
  (∀ args w, (callFunc f args).run P w = .ok (.enter f args) w) ∧
  ∀ w : World, w.heap = h → Calls P f args w fun e w' => ∃ v, e = .returned v ∧ K v w'.heap ∧ Same w w'
theorem CallsH.mono {P : Program} {f : FuncId} {args : Array Value} {h : Hp} {K K' : Value → Hp → Prop}
    (hc : CallsH P f args h K) (hk : ∀ v h, K v h → K' v h) : CallsH P f args h K' :=
  ⟨hc.1, fun w hw => (hc.2 w hw).mono fun _ _ ⟨v, he, hv, hs⟩ => ⟨v, he, hk _ _ hv, hs⟩⟩

/-- What must hold of what an operation yields. -/
def nextWP (P : Program) : Next → Hp → (Value → Hp → Prop) → Prop
  | .value v, h, K => K v h
  | .skip, h, K => K undef h
  | .enter f args, h, K => CallsH P f args h K
  | _, _, _ => False

/-- It comes to v, and leaves everything as it was. -/
def RunsTo (P : Program) {α : Type} (s : Sem α) (h : Hp) (v : α) : Prop := ∀ w : World, w.heap = h → s.run P w = .ok v w
theorem RunsTo.unique {P : Program} {α : Type} {s : Sem α} {h : Hp} {u v : α} (hu : RunsTo P s h u) (hv : RunsTo P s h v) : u = v := by
  have h1 := hu { (default : World) with heap := h } rfl
  have h2 := hv { (default : World) with heap := h } rfl
  rw [h1] at h2
  simpa using h2

/-- An operation's precondition, in memory alone. -/
def operWP (P : Program) (ρ : Operand → Value) (o : Oper) (h : Hp) (K : Value → Hp → Prop) : Prop :=
  ∀ w : World, w.heap = h → ∃ n w', (execOp ρ o).run P w = .ok n w' ∧ nextWP P n w'.heap K ∧ Same w w'
theorem operWP_of_sem {P : Program} {ρ : Operand → Value} {o : Oper} {h : Hp} {K : Value → Hp → Prop} (hs : semWP P (execOp ρ o) h fun n h => nextWP P n h K) : operWP P ρ o h K :=
  fun w hw => semWP_run _ w _ (hw ▸ hs)

theorem nextWP_mono {P : Program} {n : Next} {h : Hp} {K K' : Value → Hp → Prop} (hk : ∀ v h, K v h → K' v h) (hh : nextWP P n h K) : nextWP P n h K' := by
  cases n <;> first | exact hk _ _ hh | exact CallsH.mono hh hk | exact hh.elim
theorem operWP_mono {P : Program} {ρ : Operand → Value} {o : Oper} {h : Hp} {K K' : Value → Hp → Prop} (hk : ∀ v h, K v h → K' v h) (hh : operWP P ρ o h K) : operWP P ρ o h K' :=
  fun w hw => let ⟨n, w', h1, h2, h3⟩ := hh w hw; ⟨n, w', h1, nextWP_mono hk h2, h3⟩

theorem oper_wp {P : Program} {o : Oper} {a : Act} {w : World} {K : Value → Hp → Prop} {Q : Exit → Act → World → Prop}
    (h : operWP P a.eval o w.heap K) : o.wp P a w (fun a' w' => ∃ v, a' = a.put o.dst v ∧ K v w'.heap ∧ Same w w') Q := by
  obtain ⟨n, w', hr, hn, hs⟩ := h w rfl
  unfold Oper.wp
  rw [hr]
  cases n with
  | value v => exact ⟨v, rfl, hn, hs⟩
  | skip => exact ⟨undef, rfl, hn, hs⟩
  | enter f args =>
    refine (hn.2 w' rfl).mono ?_
    rintro e w'' ⟨v, rfl, hv, hs'⟩
    exact ⟨v, rfl, hv, hs.trans hs'⟩
  | _ => exact hn.elim
end Go.Proofs.Ytmdhfmljgjnggaa
/- The precondition of a function's code, in memory alone, as a formula that the kernel writes out. No condition. -/
namespace Go.Proofs.Ytmdhfmljgjnggaa

/-- A value's shape. -/
inductive Sh where
  | int (k : IntKind) | bool | str | ptr | sl | mp | val
  | agg (l : List Sh)
  | row (n : Nat)
  | bad

def Sh.scalar : Sh → Bool
  | .agg _ | .row _ | .bad => false
  | _ => true

abbrev Sh.T : Sh → Type
  | .int _ => Int
  | .bool => Bool
  | .str => ByteArray
  | .ptr => Option Addr
  | .sl => Option Addr × Nat × Nat
  | .mp => Option Nat
  | .row _ => Array Value
  | _ => Value

def Sh.inj : (s : Sh) → s.T → Value
  | .int k, (n : Int) => .int k n
  | .bool, (b : Bool) => .bool b
  | .str, (s : ByteArray) => .string s
  | .ptr, (p : Option Addr) => .pointer p
  | .sl, (x : Option Addr × Nat × Nat) => .slice x.1 x.2.1 x.2.2
  | .mp, (r : Option Nat) => .map r
  | .row _, (cs : Array Value) => .agg cs
  | .val, (v : Value) => v
  | .agg _, (v : Value) => v
  | .bad, (v : Value) => v

/-- There is a value of the shape of which K holds. -/
def exSc : Sh → (Value → Prop) → Prop
  | .int k, K => ∃ n : Int, K (.int k n)
  | .bool, K => ∃ b : Bool, K (.bool b)
  | .str, K => ∃ s : ByteArray, K (.string s)
  | .ptr, K => ∃ p : Option Addr, K (.pointer p)
  | .sl, K => ∃ (p : Option Addr) (n c : Nat), K (.slice p n c)
  | .mp, K => ∃ r : Option Nat, K (.map r)
  | .row _, K => ∃ cs : Array Value, K (.agg cs)
  | .val, K => ∃ v : Value, K v
  | .agg _, _ => False
  | .bad, _ => False

def exL : List Sh → List Value → (List Value → Prop) → Prop
  | [], acc, K => K acc.reverse
  | s :: ss, acc, K => exSc s fun v => exL ss (v :: acc) K

theorem exSc_elim {s : Sh} {K : Value → Prop} (h : exSc s K) : ∃ v, K v := by
  cases s <;> simp only [exSc] at h
  case sl => obtain ⟨p, n, c, h⟩ := h; exact ⟨_, h⟩
  all_goals obtain ⟨x, h⟩ := h; exact ⟨_, h⟩
theorem exL_elim {ss : List Sh} : ∀ {acc : List Value} {K : List Value → Prop}, exL ss acc K → ∃ vs, K vs := by
  induction ss with
  | nil => intro acc K h; exact ⟨_, h⟩
  | cons s ss ih => intro acc K h; obtain ⟨v, hv⟩ := exSc_elim h; exact ih hv

/-- If b then x else y, taken apart as soon as b is known. -/
def iteP (b : Bool) (x y : Prop) : Prop := match b with | true => x | false => y
theorem iteP_iff {b : Bool} {x y : Prop} : iteP b x y ↔ (b = true → x) ∧ (b = false → y) := by cases b <;> simp [iteP]
/-- A side condition that the kernel reckons. -/
def condP (b : Bool) (x : Prop) : Prop := match b with | true => x | false => False
theorem condP_iff {b : Bool} {x : Prop} : condP b x ↔ b = true ∧ x := by cases b <;> simp [condP]

/-- Memory under a name. -/
def letH (x : Hp) (K : Hp → Prop) : Prop := ∀ h, h = x → K h
theorem letH_iff {x : Hp} {K : Hp → Prop} : letH x K ↔ K x := ⟨fun h => h x rfl, fun h _ e => e ▸ h⟩

section
variable (P : Program)
def flatSh : Nat → TypeId → List Sh
  | 0, _ => []
  | f + 1, t => match P.underlying t with
    | some (.int k) => [.int k]
    | some .bool => [.bool]
    | some .string => [.str]
    | some (.pointer _) => [.ptr]
    | some (.slice _) => [.sl]
    | some (.map _ _) => [.mp]
    | some (.struct fs) => (fs.toList.map fun g => flatSh f g.type).flatten
    | some (.array _ _) => [.row 0]
    | some _ => [.val]
    | none => [.bad]
def isRow : Sh → Bool
  | .row _ => true
  | _ => false
/-- The shape in which a value of this type is told: structs without arrays cell by cell, arrays as rows of cells. -/
def shapeOf (t : TypeId) : Sh :=
  match P.underlying t with
  | some (.struct _) => match (flatSh P 8 t).any isRow with
    | true => .row (P.cellsOf t)
    | false => match Nat.beq (flatSh P 8 t).length (P.cellsOf t) with
      | true => .agg (flatSh P 8 t)
      | false => .bad
  | some (.array _ _) => .row (P.cellsOf t)
  | some (.int k) => .int k
  | some .bool => .bool
  | some .string => .str
  | some (.pointer _) => .ptr
  | some (.slice _) => .sl
  | some (.map _ _) => .mp
  | some _ => .val
  | none => .bad
def exTy (t : TypeId) (K : Value → Prop) : Prop :=
  match shapeOf P t with
  | .agg ss => exL ss [] fun vs => K (.agg ⟨vs⟩)
  | s => exSc s K
def exTys : List TypeId → List Value → (List Value → Prop) → Prop
  | [], acc, K => K acc.reverse
  | t :: ts, acc, K => exTy P t fun v => exTys ts (v :: acc) K
theorem exTy_elim {t : TypeId} {K : Value → Prop} (h : exTy P t K) : ∃ v, K v := by
  unfold exTy at h
  split at h
  · obtain ⟨vs, h⟩ := exL_elim h; exact ⟨_, h⟩
  · exact exSc_elim h
theorem exTys_elim {ts : List TypeId} : ∀ {acc : List Value} {K : List Value → Prop}, exTys P ts acc K → ∃ vs, K vs := by
  induction ts with
  | nil => intro acc K h; exact ⟨_, h⟩
  | cons t ts ih => intro acc K h; obtain ⟨v, hv⟩ := exTy_elim P h; exact ih hv
end

/-- The slots that are known, the newest first. -/
abbrev Env := List (Tmp × Value)
def Env.get : Env → Tmp → Option Value
  | [], _ => none
  | (u, v) :: e, t => match Nat.beq t u with | true => some v | false => Env.get e t
def Env.put (e : Env) (d : Option Tmp) (v : Value) : Env := match d with | some d => (d, v) :: e | none => e
def Env.ev (e : Env) : Operand → Option Value
  | .tmp t => e.get t
  | .const v => some v
  | .global g => some (.pointer (some ⟨g, 0, none⟩))
  | .func f => some (.func (.func f) #[] #[])
def Env.evs (e : Env) : List Operand → Option (List Value)
  | [] => some []
  | x :: xs => match e.ev x with
    | some v => match Env.evs e xs with
      | some vs => some (v :: vs)
      | none => none
    | none => none
/-- K of an operand's value. -/
def wth {α : Type} (o : Option α) (K : α → Prop) : Prop := match o with | some a => K a | none => False
theorem wth_elim {α : Type} {o : Option α} {K : α → Prop} (h : wth o K) : ∃ a, o = some a ∧ K a := by
  cases o with
  | none => exact h.elim
  | some a => exact ⟨a, rfl, h⟩

def Agree (e : Env) (a : Act) : Prop := ∀ t v, e.get t = some v → a.tmps[t]? = some v

section
variable (P : Program)

/-- Cells n of a row, at an address. -/
def rowAt (h : Hp) (a : Addr) (n : Nat) (cs : Array Value) : Prop := cs.size = n ∧ ∀ i, i < n → cellAt h (a.add i) = cs[i]?
/-- Cells laid one behind the other. -/
def setL (h : Hp) (a : Addr) : List Value → Nat → Hp
  | [], _ => h
  | v :: vs, i => setL (setH h (a.add i) v) a vs (i + 1)
def setRow (h : Hp) (a : Addr) (cs : Array Value) : Hp := setL h a cs.toList 0
def okRow (h : Hp) (a : Addr) (n : Nat) : Prop := ∀ i, i < n → (∃ old, cellAt h (a.add i) = some old) ∧ frozenAt h (a.add i) = false

def loadL (h : Hp) (a : Addr) : List Sh → Nat → List Value → (Value → Prop) → Prop
  | [], _, acc, K => K (.agg ⟨acc.reverse⟩)
  | s :: ss, i, acc, K => exSc s fun v => cellAt h (a.add i) = some v ∧ loadL h a ss (i + 1) (v :: acc) K
def loadT (t : TypeId) (h : Hp) (a : Addr) (K : Value → Prop) : Prop :=
  match shapeOf P t with
  | .agg ss => loadL h a ss 0 [] K
  | .row n => ∃ cs : Array Value, rowAt h a n cs ∧ K (.agg cs)
  | s => exSc s fun v => cellAt h a = some v ∧ K v
def storeL (h : Hp) (a : Addr) : List Value → Nat → (Hp → Prop) → Prop
  | [], _, K => K h
  | v :: vs, i, K => condP (oneV v) ((∃ old, cellAt h (a.add i) = some old) ∧ frozenAt h (a.add i) = false ∧ letH (setH h (a.add i) v) fun h' => storeL h' a vs (i + 1) K)
/-- A part of an aggregate. -/
def partT (t : TypeId) (cs : Array Value) (off : Nat) (K : Value → Prop) : Prop :=
  match shapeOf P t with
  | .agg ss => exL ss [] fun vs => cs.extract off (off + P.cellsOf t) = ⟨vs⟩ ∧ K (.agg ⟨vs⟩)
  | .row n => K (.agg (cs.extract off (off + n)))
  | s => exSc s fun v => cs[off]? = some v ∧ K v
end
end Go.Proofs.Ytmdhfmljgjnggaa
/- The precondition of one operation as a formula, and that it is enough. No condition. -/
namespace Go.Proofs.Ytmdhfmljgjnggaa

section
variable (P : Program)
def zeroOf (t : TypeId) : Value := match P.info? t with
  | some i => match i.zero with
    | some z => z
    | none => undef
  | none => undef
def zeroCells (t : TypeId) : Array Value := (zeroOf P t).cells
def hasZero (t : TypeId) : Bool := match P.info? t with
  | some i => i.zero.isSome
  | none => false
def kindEq (a b : IntKind) : Bool := decide (a = b)
def nilConst : Operand → Bool
  | .const (.pointer none) | .const (.map none) | .const (.slice none _ _) | .const .nilFunc | .const .nilIface => true
  | _ => false
/-- Is this value nil? -/
def nilT (d : Option TypeDesc) (v c : Value) (K : Bool → Prop) : Prop :=
  match d, v, c with
  | some (.pointer _), .pointer p, .pointer none => K p.isNone
  | some (.map _ _), .map r, .map none => K r.isNone
  | some (.slice _), .slice p _ _, .slice none _ _ => K p.isNone
  | some (.func _ _ _), .nilFunc, .nilFunc => K true
  | some (.func _ _ _), .func _ _ _, .nilFunc => K false
  | some (.interface _), .nilIface, .nilIface => K true
  | some (.interface _), .iface _ _, .nilIface => K false
  | _, _, _ => False
def intCmpT (op : BinOp) (x y : Int) (K : Bool → Prop) : Prop :=
  match op with
  | .eql => K (x == y)
  | .neq => K (x != y)
  | .lss => K (decide (x < y))
  | .leq => K (decide (x ≤ y))
  | .gtr => K (decide (x > y))
  | .geq => K (decide (x ≥ y))
  | _ => False
def intT (op : BinOp) (k : IntKind) (x y : Int) (K : Value → Prop) : Prop :=
  match op with
  | .add => K (.int k (k.wrap (x + y)))
  | .sub => K (.int k (k.wrap (x - y)))
  | .mul => K (.int k (k.wrap (x * y)))
  | .quo => y ≠ 0 ∧ K (.int k (k.wrap (x.tdiv y)))
  | .rem => y ≠ 0 ∧ K (.int k (x.tmod y))
  | .and => K (.int k (k.wrap ((BitVec.ofInt k.bits x &&& BitVec.ofInt k.bits y).toNat : Int)))
  | .or => K (.int k (k.wrap ((BitVec.ofInt k.bits x ||| BitVec.ofInt k.bits y).toNat : Int)))
  | .xor => K (.int k (k.wrap ((BitVec.ofInt k.bits x ^^^ BitVec.ofInt k.bits y).toNat : Int)))
  | .andNot => K (.int k (k.wrap ((BitVec.ofInt k.bits x &&& ~~~(BitVec.ofInt k.bits y)).toNat : Int)))
  | .eql | .neq | .lss | .leq | .gtr | .geq => intCmpT op x y fun b => K (.bool b)
  | _ => False
def isShift : BinOp → Bool
  | .shl | .shr => true
  | _ => false
def shiftT (op : BinOp) (k : IntKind) (x y : Int) (K : Value → Prop) : Prop :=
  match op with
  | .shl => 0 ≤ y ∧ K (.int k (k.wrap (x * 2 ^ min y.toNat k.bits)))
  | .shr => 0 ≤ y ∧ K (.int k (x.fdiv (2 ^ min y.toNat k.bits)))
  | _ => False
/-- Division by a constant that is not 0 asks for nothing. -/
def divConst (op : BinOp) (y : Operand) : Bool :=
  match op, y with
  | .quo, .const (.int _ n) | .rem, .const (.int _ n) => !decide (n = 0)
  | _, _ => false
def intDT (op : BinOp) (k : IntKind) (x y : Int) (K : Value → Prop) : Prop :=
  match op with
  | .quo => K (.int k (k.wrap (x.tdiv y)))
  | .rem => K (.int k (x.tmod y))
  | _ => False
def strT (op : BinOp) (x y : ByteArray) (K : Value → Prop) : Prop :=
  match op with
  | .add => ((x.size + y.size : Nat) : Int) ≤ 9223372036854775807 ∧ K (.string (x ++ y))
  | .eql => K (.bool (x.toList == y.toList))
  | .neq => K (.bool (!(x.toList == y.toList)))
  | .lss => K (.bool (Op.bytesLess x.toList y.toList))
  | _ => False
def binT (op : BinOp) (t : TypeId) (x y : Operand) (vx vy : Value) (h : Hp) (K : Value → Hp → Prop) : Prop :=
  match P.underlying t with
  | some (.int _) => match vx, vy with
    | .int k a, .int k' b => match isShift op with
      | true => shiftT op k a b fun v => K v h
      | false => condP (kindEq k k') (match divConst op y with
        | true => intDT op k a b fun v => K v h
        | false => intT op k a b fun v => K v h)
    | _, _ => False
  | some .string => match vx, vy with
    | .string a, .string b => strT op a b fun v => K v h
    | _, _ => False
  | some .bool => match vx, vy with
    | .bool a, .bool b => match op with
      | .eql => K (.bool (a == b)) h
      | .neq => K (.bool (!(a == b))) h
      | _ => False
    | _, _ => False
  | _ => ∃ b : Bool, RunsTo P (do eqGuard op t x y vx vy; binOp op t vx vy) h (.bool b) ∧ K (.bool b) h
/-- x == nil, x != nil. -/
def nilBinT (op : BinOp) (t : TypeId) (v c : Value) (h : Hp) (K : Value → Hp → Prop) : Prop :=
  match op with
  | .eql => nilT (P.underlying t) v c fun b => K (.bool b) h
  | .neq => nilT (P.underlying t) v c fun b => K (.bool (!b)) h
  | _ => False
def unT (op : UnOp) (v : Value) (K : Value → Prop) : Prop :=
  match op, v with
  | .not, .bool b => K (.bool (!b))
  | .neg, .int k n => K (.int k (k.wrap (0 - n)))
  | _, _ => False
def convT (s d : TypeId) (v : Value) (h : Hp) (K : Value → Hp → Prop) : Prop :=
  match P.underlying s, P.underlying d with
  | some (.int _), some (.int k) => match v with
    | .int _ n => K (.int k (k.wrap n)) h
    | _ => False
  | some .string, some .string => match v with
    | .string s => K (.string s) h
    | _ => False
  | _, _ => semWP P (convert s d v) h fun v h' => exTy P d fun u => v = u ∧ K u h'
def structFields (t : TypeId) : List Field := match P.underlying t with
  | some (.struct fs) => fs.toList
  | _ => []
def fieldAddrT (t : TypeId) (v : Value) (f : Nat) (K : Value → Prop) : Prop :=
  match v with
  | .pointer p => wth p fun a => wth ((structFields P t)[f]?) fun fd => condP (!Nat.beq (P.cellsOf fd.type) 0) (K (.pointer (some (a.add fd.offset))))
  | _ => False
def fieldT (t : TypeId) (v : Value) (f : Nat) (K : Value → Prop) : Prop :=
  match v with
  | .agg cs => wth ((structFields P t)[f]?) fun fd => match shapeOf P t with
    | .agg _ => match shapeOf P fd.type with
      | .agg _ => K (.agg ⟨(cs.toList.drop fd.offset).take (P.cellsOf fd.type)⟩)
      | .row _ => False
      | .bad => False
      | _ => wth (cs.toList[fd.offset]?) K
    | _ => partT P fd.type cs fd.offset K
  | _ => False
def indexAddrT (t : TypeId) (x i : Value) (K : Value → Prop) : Prop :=
  match i with
  | .int _ i => match P.underlying t, x with
    | some (.array len el), .pointer p => wth p fun a => 0 ≤ i ∧ i < (len : Int) ∧ condP (!Nat.beq (P.cellsOf el) 0) (K (.pointer (some (a.add (i.toNat * P.cellsOf el)))))
    | some (.slice el), .slice p len _ => 0 ≤ i ∧ i < (len : Int) ∧ condP (!Nat.beq (P.cellsOf el) 0) (wth p fun a => K (.pointer (some (a.add (i.toNat * P.cellsOf el)))))
    | _, _ => False
  | _ => False
def indexT (t : TypeId) (x i : Value) (K : Value → Prop) : Prop :=
  match i with
  | .int _ i => match P.underlying t, x with
    | some (.array len el), .agg cs => 0 ≤ i ∧ i < (len : Int) ∧ condP (!Nat.beq (P.cellsOf el) 0) (partT P el cs (i.toNat * P.cellsOf el) K)
    | some .string, .string s => 0 ≤ i ∧ ∃ b : UInt8, s[i.toNat]? = some b ∧ K (.int .u8 b.toNat)
    | _, _ => False
  | _ => False
def boundT (x : Option Value) (dflt : Nat) (K : Nat → Prop) : Prop :=
  match x with
  | none => K dflt
  | some (.int _ i) => 0 ≤ i ∧ K i.toNat
  | some _ => False
def leT (x : Option Value) (n m : Nat) (K : Prop) : Prop :=
  match x with
  | none => K
  | some _ => n ≤ m ∧ K
/-- s[lo:hi:max]: the three bounds. -/
def boundsT (len cap : Nat) (lo hi mx : Option Value) (K : Nat → Nat → Nat → Prop) : Prop :=
  boundT mx cap fun m => leT mx m cap (boundT hi len fun h => leT hi h m (boundT lo 0 fun l => leT lo l h (K l h m)))
def sliceT (t : TypeId) (x : Value) (lo hi mx : Option Value) (K : Value → Prop) : Prop :=
  match P.underlying t, x with
  | some .string, .string s => condP mx.isNone (boundsT s.size s.size lo hi none fun l h _ => K (.string (s.extract l h)))
  | some (.slice el), .slice p len cap => condP (!Nat.beq (P.cellsOf el) 0) (boundsT len cap lo hi mx fun l h m => K (.slice (if m = l then p else p.map (·.add (l * P.cellsOf el))) (h - l) (m - l)))
  | some (.array n el), .pointer p => condP (!Nat.beq (P.cellsOf el) 0) (wth p fun a => boundsT n n lo hi mx fun l h m => K (.slice (some (if m = l then a else a.add (l * P.cellsOf el))) (h - l) (m - l)))
  | _, _ => False
/-- Cells laid over others from a place on. -/
def fillL (zs : List Value) (off : Nat) : List Value → List Value
  | [] => zs
  | c :: cs => fillL (zs.set off c) (off + 1) cs
def partCells (P : Program) (t : TypeId) (v : Value) (K : List Value → Prop) : Prop :=
  match shapeOf P t, v with
  | .agg _, .agg cs => condP (Nat.beq cs.toList.length (P.cellsOf t)) (K cs.toList)
  | .row n, .agg cs => cs.size = n ∧ condP (Nat.beq n (P.cellsOf t)) (K cs.toList)
  | .agg _, _ => False
  | .row _, _ => False
  | .bad, _ => False
  | _, v => condP (Nat.beq (P.cellsOf t) 1) (condP (oneV v) (K [v]))
def fillPartsT (place : Nat → Option (Nat × TypeId)) (len : Nat) : List (Nat × Value) → List Value → (List Value → Prop) → Prop
  | [], zs, K => K zs
  | (i, v) :: ps, zs, K => wth (place i) fun pl => partCells P pl.2 v fun cs => condP (Nat.ble (pl.1 + P.cellsOf pl.2) len) (fillPartsT place len ps (fillL zs pl.1 cs) K)
def fieldPlaceOf (t : TypeId) (i : Nat) : Option (Nat × TypeId) := match (structFields P t)[i]? with
  | some f => some (f.offset, f.type)
  | none => none
def evPairs (e : Env) : List (Nat × Operand) → Option (List (Nat × Value))
  | [] => some []
  | (i, x) :: xs => match e.ev x with
    | some v => match evPairs e xs with
      | some vs => some ((i, v) :: vs)
      | none => none
    | none => none
def okFields (t : TypeId) : Bool := (structFields P t).all fun f => (P.info? f.type).isSome
def buildT (t : TypeId) (ps : List (Nat × Value)) (K : Value → Prop) : Prop :=
  match P.underlying t with
  | some (.struct _) => condP (hasZero P t && okFields P t) (fillPartsT P (fieldPlaceOf P t) (zeroCells P t).toList.length ps (zeroCells P t).toList fun cs => K (.agg ⟨cs⟩))
  | some (.array _ el) => condP (hasZero P t && !Nat.beq (P.cellsOf el) 0) (fillPartsT P (fun i => some (i * P.cellsOf el, el)) (zeroCells P t).toList.length ps (zeroCells P t).toList fun cs => K (.agg ⟨cs⟩))
  | _ => False
def repL : Nat → List Value → List Value
  | 0, _ => []
  | n + 1, z => z ++ repL n z
def buildSliceT (t : TypeId) (len : Nat) (ps : List (Nat × Value)) (h : Hp) (K : Value → Hp → Prop) : Prop :=
  match P.underlying t with
  | some (.slice el) => condP (Nat.ble (len * P.cellsOf el) 1000 && Nat.ble 1 (P.cellsOf el) && hasZero P el && Nat.beq (zeroCells P el).toList.length (P.cellsOf el))
      (fillPartsT P (fun i => some (i * P.cellsOf el, el)) (repL len (zeroCells P el).toList).length ps (repL len (zeroCells P el).toList) fun cs =>
        letH (h.push (.cells ⟨cs⟩ el)) fun h' => K (.slice (some ⟨h.size, 0, none⟩) len len) h')
  | _ => False
def storeT (t : TypeId) (h : Hp) (a : Addr) (v : Value) (K : Hp → Prop) : Prop :=
  match shapeOf P t with
  | .agg _ => match v with
    | .agg cs => condP (Nat.beq cs.toList.length (P.cellsOf t)) (storeL h a cs.toList 0 K)
    | _ => False
  | .row n => match v with
    | .agg cs => condP (Nat.beq n (P.cellsOf t)) (cs.size = n ∧ (∀ i, i < n → ∃ u, cs[i]? = some u ∧ oneV u = true) ∧ okRow h a n ∧ letH (setRow h a cs) K)
    | _ => False
  | .bad => False
  | _ => condP (Nat.beq (P.cellsOf t) 1) (condP (oneV v) ((∃ old, cellAt h a = some old) ∧ frozenAt h a = false ∧ letH (setH h a v) K))
/-- Not a value of that type. -/
def notIface (t : TypeId) (v : Value) : Prop := v = .nilIface ∨ ∃ t' u, v = .iface t' u ∧ t' ≠ t
def assertC (t : TypeId) (v : Value) (ok : Bool) (K : Value → Prop) : Prop :=
  match ok with
  | true => (exTy P t fun u => v = .iface t u ∧ K (.tuple ⟨[u, .bool true]⟩)) ∨ (notIface t v ∧ condP (hasZero P t) (K (.tuple ⟨[zeroOf P t, .bool false]⟩)))
  | false => exTy P t fun u => v = .iface t u ∧ K u
def assertT (t : TypeId) (v : Value) (ok : Bool) (K : Value → Prop) : Prop :=
  match P.underlying t with
  | some (.interface _) => False
  | some _ => assertC P t v ok K
  | none => False
def mkRes : List Value → Value
  | [v] => v
  | vs => .tuple ⟨vs⟩
def bodied (f : FuncId) : Bool := match P.funcs[f]? with
  | some fn => fn.body.isSome
  | none => false
def resTys (f : FuncId) : List TypeId := match P.funcs[f]? with
  | some fn => fn.resultTypes.toList
  | none => []
/-- A call whose results are of their types. -/
def callT (f : FuncId) (args : Array Value) (h : Hp) (K : Value → Hp → Prop) : Prop :=
  match bodied P f with
  | true => CallsH P f args h fun r h' => exTys P (resTys P f) [] fun vs => r = mkRes vs ∧ K (mkRes vs) h'
  | false => semWP P (callFunc f args) h fun n h' => nextWP P n h' fun r h'' => exTys P (resTys P f) [] fun vs => r = mkRes vs ∧ K (mkRes vs) h''
def und0 (tys : Array TypeId) : Option TypeDesc := match tys[0]? with
  | some ty => P.underlying ty
  | none => none
def lenT (tys : Array TypeId) (t : TypeId) (v : Value) (h : Hp) (K : Value → Hp → Prop) : Prop :=
  match und0 P tys with
  | some .string => match v with
    | .string s => K (.int .i64 s.size) h
    | _ => False
  | some (.array n _) => K (.int .i64 n) h
  | some (.slice _) => match v with
    | .slice _ n _ => K (.int .i64 n) h
    | _ => False
  | some (.pointer arr) => match P.underlying arr with
    | some (.array n _) => K (.int .i64 n) h
    | _ => False
  | some (.map _ _) => ∃ n : Int, RunsTo P (Builtin.len_ tys t ⟨[v]⟩) h (.int .i64 n) ∧ K (.int .i64 n) h
  | _ => False
def minT (mx : Bool) (a b : Value) (h : Hp) (K : Value → Hp → Prop) : Prop :=
  match a, b with
  | .int k x, .int k' y => condP (kindEq k k') (match mx with
    | false => K (.int k (if y < x then y else x)) h
    | true => K (.int k (if y > x then y else x)) h)
  | _, _ => False
def builtinT (b : Builtin) (tys : Array TypeId) (t : TypeId) (vs : List Value) (h : Hp) (K : Value → Hp → Prop) : Prop :=
  match b, vs with
  | .len, [v] => lenT P tys t v h K
  | .min, [a, b] => minT false a b h K
  | .max, [a, b] => minT true a b h K
  | .append, [s, x] => semWP P (Builtin.append_ tys t ⟨[s, x]⟩) h fun v h' => ∃ (p : Option Addr) (n c : Nat), v = .slice p n c ∧ K (.slice p n c) h'
  | .copy, [d, s] => semWP P (Builtin.copy_ tys t ⟨[d, s]⟩) h fun v h' => ∃ n : Int, v = .int .i64 n ∧ K (.int .i64 n) h'
  | .delete, [m, k] => semWP P (Builtin.delete_ tys t ⟨[m, k]⟩) h fun v h' => v = .tuple #[] ∧ K (.tuple #[]) h'
  | .clear, [x] => semWP P (Builtin.clear_ tys t ⟨[x]⟩) h fun v h' => v = .tuple #[] ∧ K (.tuple #[]) h'
  | _, _ => False
def mapElem (t : TypeId) : TypeId := match P.underlying t with
  | some (.map _ el) => el
  | _ => 0
def lookupT (t : TypeId) (m k : Value) (ok : Bool) (h : Hp) (K : Value → Hp → Prop) : Prop :=
  match ok with
  | true => exTy P (mapElem P t) fun u => ∃ b : Bool, RunsTo P (Instr.lookup t m k true) h (.tuple ⟨[u, .bool b]⟩) ∧ K (.tuple ⟨[u, .bool b]⟩) h
  | false => exTy P (mapElem P t) fun u => RunsTo P (Instr.lookup t m k false) h u ∧ K u h

/-- The precondition of an operation. 'ty': the types of what a range yields, by the slot in which it lands. -/
def opT (ty : Tmp → List TypeId) (o : Oper) (e : Env) (h : Hp) (K : Value → Hp → Prop) : Prop :=
  match o.op with
  | .move x | .assign x => wth (e.ev x) fun v => K v h
  | .pick c a b => wth (e.ev c) fun cv => match cv with
    | .bool t => iteP t (wth (e.ev a) fun v => K v h) (wth (e.ev b) fun v => K v h)
    | _ => False
  | .alloc t => condP (hasZero P t) (letH (h.push (.cells (zeroCells P t) t)) fun h' => K (.pointer (some ⟨h.size, 0, none⟩)) h')
  | .box t x => wth (e.ev x) fun v => letH (h.push (.cells v.cells t)) fun h' => K (.pointer (some ⟨h.size, 0, none⟩)) h'
  | .build t ps => wth (evPairs e ps.toList) fun vs => buildT P t vs fun v => K v h
  | .buildSlice t n ps => wth (evPairs e ps.toList) fun vs => buildSliceT P t n vs h K
  | .load t x => wth (e.ev x) fun v => match v with
    | .pointer p => wth p fun a => loadT P t h a fun v => K v h
    | _ => False
  | .store t x y => wth (e.ev x) fun v => wth (e.ev y) fun u => match v with
    | .pointer p => wth p fun a => storeT P t h a u fun h' => K undef h'
    | _ => False
  | .nilCheck x => wth (e.ev x) fun v => match v with
    | .pointer p => wth p fun a => K (.pointer (some a)) h
    | .func (.func f) first cap => K (.func (.func f) first cap) h
    | _ => False
  | .binOp op t x y _ => wth (e.ev x) fun vx => wth (e.ev y) fun vy => match nilConst y with
    | true => nilBinT P op t vx vy h K
    | false => binT P op t x y vx vy h K
  | .unOp op _ x => wth (e.ev x) fun v => unT op v fun v => K v h
  | .convert s d x => wth (e.ev x) fun v => convT P s d v h K
  | .makeInterface t x => wth (e.ev x) fun v => match P.underlying t with
    | some (.interface _) => False
    | some _ => K (.iface t v) h
    | none => False
  | .makeFunc fn first cap => wth (e.evs first.toList) fun vs => wth (e.evs cap.toList) fun us => K (.func fn ⟨vs⟩ ⟨us⟩) h
  | .makeMap _ none => letH (h.push (.map #[] 0)) fun h' => K (.map (some h.size)) h'
  | .makeSlice t l c => wth (e.ev l) fun vl => wth (e.ev c) fun vc => semWP P (Instr.makeSlice t vl vc) h fun v h' => ∃ (p : Option Addr) (n c : Nat), v = .slice p n c ∧ K (.slice p n c) h'
  | .slice t x lo hi mx => wth (e.ev x) fun v => wth (e.evs (lo.toList ++ hi.toList ++ mx.toList)) fun _ => condP (!mx.isSome || hi.isSome) (sliceT P t v (lo.bind e.ev) (hi.bind e.ev) (mx.bind e.ev) fun v => K v h)
  | .fieldAddr t x f => wth (e.ev x) fun v => fieldAddrT P t v f fun v => K v h
  | .field t x f => wth (e.ev x) fun v => fieldT P t v f fun v => K v h
  | .indexAddr t x i => wth (e.ev x) fun v => wth (e.ev i) fun vi => indexAddrT P t v vi fun v => K v h
  | .index t x i => wth (e.ev x) fun v => wth (e.ev i) fun vi => indexT P t v vi fun v => K v h
  | .lookup t x i ok => wth (e.ev x) fun v => wth (e.ev i) fun vi => lookupT P t v vi ok h K
  | .mapUpdate t m k x | .insert t m k x => wth (e.ev m) fun vm => wth (e.ev k) fun vk => wth (e.ev x) fun vx => semWP P (Instr.mapUpdate t vm vk vx) h fun _ h' => K undef h'
  | .range t x => wth (e.ev x) fun v => semWP P (Instr.range t v) h fun v h' => ∃ r : Nat, v = .pointer (some ⟨r, 0, none⟩) ∧ K (.pointer (some ⟨r, 0, none⟩)) h'
  | .next x false => wth (e.ev x) fun v => semWP P (Instr.next v false o.type) h fun v h' => ∃ (b : Bool) (xs : List Value), v = .tuple ⟨.bool b :: xs⟩ ∧ K (.tuple ⟨.bool b :: xs⟩) h'
  | .next x true => wth (e.ev x) fun v => semWP P (Instr.next v true o.type) h fun v h' => (v = .tuple ⟨[.bool false]⟩ ∧ K (.tuple ⟨[.bool false]⟩) h') ∨ ∃ n c : Int, v = .tuple ⟨[.bool true, .int .i64 n, .int .i32 c]⟩ ∧ K (.tuple ⟨[.bool true, .int .i64 n, .int .i32 c]⟩) h'
  | .entry x => wth (e.ev x) fun v => exTys P (match o.dst with | some d => ty d | none => []) [] fun vs => RunsTo P (Instr.entry v) h (.tuple ⟨vs⟩) ∧ K (.tuple ⟨vs⟩) h
  | .typeAssert x _ t ok => wth (e.ev x) fun v => assertT P t v ok fun v => K v h
  | .extract x i => wth (e.ev x) fun v => match v with
    | .tuple vs => wth (vs.toList[i]?) fun v => K v h
    | _ => False
  | .call c => wth (e.evs c.args.toList) fun vs => match c.callee with
    | .value f => wth (e.ev f) fun fv => match fv with
      | .func (.func g) first cap => callT P g ⟨first.toList ++ vs ++ cap.toList⟩ h K
      | _ => False
    | .builtin b => builtinT P b c.argTypes o.type vs h K
    | .invoke _ _ => False
  | _ => False
end
end Go.Proofs.Ytmdhfmljgjnggaa
/- The operations' preconditions are enough. No condition. -/
namespace Go.Proofs.Ytmdhfmljgjnggaa

theorem Env.get_put_self (e : Env) (d : Tmp) (v : Value) : (Env.put e (some d) v).get d = some v := by
  simp only [Env.put, Env.get, Nat.beq_refl]
theorem ev_agree {e : Env} {a : Act} (ha : Agree e a) {x : Operand} {v : Value} (h : e.ev x = some v) : a.eval x = v := by
  cases x with
  | tmp t =>
    have := ha t v h
    simp only [Act.eval, Array.getD_eq_getD_getElem?, this, Option.getD_some]
  | const c => simp only [Env.ev, Option.some.injEq] at h; exact h
  | global g => simp only [Env.ev, Option.some.injEq] at h; exact h
  | func f => simp only [Env.ev, Option.some.injEq] at h; exact h
theorem evs_agree {e : Env} {a : Act} (ha : Agree e a) : ∀ {xs : List Operand} {vs : List Value}, e.evs xs = some vs → xs.map a.eval = vs := by
  intro xs
  induction xs with
  | nil => intro vs h; simp only [Env.evs, Option.some.injEq] at h; subst h; rfl
  | cons x xs ih =>
    intro vs h
    simp only [Env.evs] at h
    cases hx : e.ev x with
    | none => simp [hx] at h
    | some v =>
      cases hxs : e.evs xs with
      | none => simp [hx, hxs] at h
      | some us =>
        simp only [hx, hxs, Option.some.injEq] at h
        subst h
        simp only [List.map_cons, ev_agree ha hx, ih hxs]
theorem evPairs_agree {e : Env} {a : Act} (ha : Agree e a) : ∀ {xs : List (Nat × Operand)} {vs : List (Nat × Value)}, evPairs e xs = some vs → xs.map (fun p => (p.1, a.eval p.2)) = vs := by
  intro xs
  induction xs with
  | nil => intro vs h; simp only [evPairs, Option.some.injEq] at h; subst h; rfl
  | cons x xs ih =>
    intro vs h
    obtain ⟨i, x⟩ := x
    simp only [evPairs] at h
    cases hx : e.ev x with
    | none => simp [hx] at h
    | some v =>
      cases hxs : evPairs e xs with
      | none => simp [hx, hxs] at h
      | some us =>
        simp only [hx, hxs, Option.some.injEq] at h
        subst h
        simp only [List.map_cons, ev_agree ha hx, ih hxs]

section
variable {P : Program} {h : Hp}
theorem semWP_program {K : Program → Hp → Prop} : semWP P program h K = K P h := rfl
theorem semWP_ret {α : Type} {a : α} {K : α → Hp → Prop} : semWP P (pure a) h K = K a h := rfl
theorem semWP_ret' {α : Type} {a : α} {K : α → Hp → Prop} : semWP P (Sem.pure a) h K = K a h := rfl
theorem semWP_ite {α : Type} {c : Prop} [Decidable c] {x y : Sem α} {K : α → Hp → Prop} : semWP P (if c then x else y) h K = if c then semWP P x h K else semWP P y h K := by split <;> rfl
theorem semWP_underlying {t : TypeId} {d : TypeDesc} (hd : P.underlying t = some d) {K : TypeDesc → Hp → Prop} : semWP P (underlying t) h K = K d h := by
  simp only [underlying, semWP_bind, semWP_program, hd, semWP_ret]
theorem semWP_typeInfo {t : TypeId} {i : TypeInfo} (hi : P.info? t = some i) {K : TypeInfo → Hp → Prop} : semWP P (typeInfo t) h K = K i h := by
  simp only [typeInfo, semWP_bind, semWP_program, hi, semWP_ret]
theorem semWP_sizeOf {t : TypeId} {d : TypeDesc} (hd : P.underlying t = some d) {K : Nat → Hp → Prop} : semWP P (sizeOf t) h K = K (P.cellsOf t) h := by
  unfold Program.underlying at hd
  cases hi : P.info? t with
  | none => simp [hi] at hd
  | some i => simp only [sizeOf, semWP_bind, semWP_typeInfo hi, semWP_ret, Program.cellsOf, hi, Option.map_some, Option.getD_some]
theorem info_of_cells {t : TypeId} (hc : P.cellsOf t ≠ 0) : ∃ i, P.info? t = some i := by
  unfold Program.cellsOf at hc
  cases hi : P.info? t with
  | none => simp [hi] at hc
  | some i => exact ⟨i, rfl⟩
theorem semWP_sizeOf_cells {t : TypeId} (hc : P.cellsOf t ≠ 0) {K : Nat → Hp → Prop} : semWP P (sizeOf t) h K = K (P.cellsOf t) h := by
  obtain ⟨i, hi⟩ := info_of_cells hc
  simp only [sizeOf, semWP_bind, semWP_typeInfo hi, semWP_ret, Program.cellsOf, hi, Option.map_some, Option.getD_some]
theorem semWP_zeroValue {t : TypeId} (hz : hasZero P t = true) {K : Value → Hp → Prop} : semWP P (zeroValue t) h K = K (zeroOf P t) h := by
  unfold hasZero at hz
  cases hi : P.info? t with
  | none => simp [hi] at hz
  | some i =>
    simp only [hi] at hz
    cases hzz : i.zero with
    | none => simp [hzz] at hz
    | some z => simp only [zeroValue, semWP_bind, semWP_typeInfo hi, hzz, semWP_ret, zeroOf, hi]
def aggB (P : Program) (t : TypeId) : Bool := match P.underlying t with
  | some (.struct _) | some (.array _ _) => true
  | _ => false
theorem semWP_isAgg {t : TypeId} {d : TypeDesc} (hd : P.underlying t = some d) {K : Bool → Hp → Prop} : semWP P (isAgg t) h K = K (aggB P t) h := by
  simp only [isAgg, semWP_bind, semWP_underlying hd, aggB, hd]
  cases d <;> rfl

/-- What a shape says of a type. -/
theorem shape_agg {t : TypeId} {ss : List Sh} (hs : shapeOf P t = .agg ss) : (∃ fs, P.underlying t = some (.struct fs)) ∧ ss.length = P.cellsOf t := by
  unfold shapeOf at hs
  cases hd : P.underlying t with
  | none => simp [hd] at hs
  | some d =>
    cases d <;> simp only [hd] at hs <;> try cases hs
    case struct fs =>
      refine ⟨⟨fs, rfl⟩, ?_⟩
      split at hs
      · cases hs
      · split at hs
        · rename_i hb; cases hs; exact Nat.eq_of_beq_eq_true hb
        · cases hs
theorem shape_row {t : TypeId} {n : Nat} (hs : shapeOf P t = .row n) : aggB P t = true ∧ (∃ d, P.underlying t = some d) ∧ n = P.cellsOf t := by
  unfold shapeOf at hs
  unfold aggB
  split at hs
  · rename_i fs hd
    refine ⟨by simp only [hd], ⟨_, hd⟩, ?_⟩
    split at hs
    · cases hs; rfl
    · split at hs <;> cases hs
  · rename_i hd
    cases hs
    exact ⟨by simp only [hd], ⟨_, hd⟩, rfl⟩
  all_goals cases hs
theorem shape_scalar {t : TypeId} (hs : (shapeOf P t).scalar = true) : aggB P t = false ∧ (∃ d, P.underlying t = some d) := by
  cases hd : P.underlying t with
  | none => simp [shapeOf, hd, Sh.scalar] at hs
  | some d =>
    refine ⟨?_, ⟨d, rfl⟩⟩
    unfold aggB
    cases d <;> simp only [hd]
    · exfalso
      simp only [shapeOf, hd] at hs
      cases hs
    · exfalso
      simp only [shapeOf, hd] at hs
      split at hs
      · cases hs
      · split at hs <;> cases hs
theorem shape_cases (t : TypeId) : (∃ ss, shapeOf P t = .agg ss) ∨ (∃ n, shapeOf P t = .row n) ∨ shapeOf P t = .bad ∨ (shapeOf P t).scalar = true := by
  cases shapeOf P t <;> simp [Sh.scalar]

theorem add_zero' (a : Addr) : a.add 0 = a := rfl
theorem loadCellsFrom_wp {a : Addr} {K : Array Value → Hp → Prop} : ∀ (n i : Nat) (acc : Array Value) (vs : List Value), vs.length = n → (∀ j, j < n → cellAt h (a.add (i + j)) = vs[j]?) →
    K (acc ++ vs.toArray) h → semWP P (loadCellsFrom a i n acc) h K := by
  intro n
  induction n with
  | zero =>
    intro i acc vs hl hc hk
    have : vs = [] := List.eq_nil_of_length_eq_zero hl
    subst this
    simpa [loadCellsFrom, semWP_ret] using hk
  | succ n ih =>
    intro i acc vs hl hc hk
    cases vs with
    | nil => simp at hl
    | cons v vs =>
      simp only [loadCellsFrom, semWP_bind]
      refine ⟨v, by simpa using hc 0 (by omega), ?_⟩
      refine ih (i + 1) (acc.push v) vs (by simpa using hl) ?_ ?_
      · intro j hj
        have := hc (j + 1) (by omega)
        rw [show i + 1 + j = i + (j + 1) by omega]
        simpa using this
      · simpa using hk
theorem loadL_elim {a : Addr} {K : Value → Prop} : ∀ {ss : List Sh} {i : Nat} {acc : List Value}, loadL h a ss i acc K →
    ∃ vs : List Value, vs.length = ss.length ∧ (∀ j, j < ss.length → cellAt h (a.add (i + j)) = vs[j]?) ∧ K (.agg ⟨acc.reverse ++ vs⟩) := by
  intro ss
  induction ss with
  | nil => intro i acc hh; exact ⟨[], rfl, by simp, by simpa [loadL] using hh⟩
  | cons s ss ih =>
    intro i acc hh
    simp only [loadL] at hh
    obtain ⟨v, hv, hh⟩ := exSc_elim hh
    obtain ⟨vs, h1, h2, h3⟩ := ih hh
    refine ⟨v :: vs, by simp [h1], ?_, by simpa using h3⟩
    intro j hj
    cases j with
    | zero => simpa using hv
    | succ j =>
      have := h2 j (by simpa using hj)
      rw [show i + (j + 1) = i + 1 + j by omega]
      simpa using this

/-- A load reads one value. -/
theorem loadT_val {t : TypeId} {a : Addr} {K : Value → Prop} (hh : loadT P t h a K) : ∃ v, K v ∧ semWP P (loadVar t a) h (fun u h' => u = v ∧ h' = h) := by
  unfold loadT at hh
  rcases shape_cases (P := P) t with ⟨ss, hs⟩ | ⟨n, hs⟩ | hs | hs
  · simp only [hs] at hh
    obtain ⟨⟨fs, hd⟩, hl⟩ := shape_agg hs
    obtain ⟨vs, h1, h2, h3⟩ := loadL_elim hh
    refine ⟨_, h3, ?_⟩
    simp only [loadVar, semWP_bind, semWP_isAgg hd, show aggB P t = true by simp [aggB, hd], if_true, semWP_sizeOf hd, loadCells]
    refine loadCellsFrom_wp _ 0 #[] vs (by omega) (by intro j hj; exact h2 j (by omega)) ?_
    simp [semWP_ret]
  · simp only [hs] at hh
    obtain ⟨ha, ⟨d, hd⟩, hn⟩ := shape_row hs
    obtain ⟨cs, ⟨h1, h2⟩, h3⟩ := hh
    refine ⟨_, h3, ?_⟩
    simp only [loadVar, semWP_bind, semWP_isAgg hd, ha, if_true, semWP_sizeOf hd, loadCells]
    refine loadCellsFrom_wp _ 0 #[] cs.toList (by simp [h1, hn]) (by intro j hj; have := h2 j (by omega); simpa using this) ?_
    simp [semWP_ret]
  · simp only [hs, exSc] at hh
  · obtain ⟨ha, d, hd⟩ := shape_scalar hs
    have hh' : exSc (shapeOf P t) fun v => cellAt h a = some v ∧ K v := by
      generalize shapeOf P t = s at *
      cases s <;> first | (simp [Sh.scalar] at hs; done) | exact hh
    obtain ⟨v, hv, hk⟩ := exSc_elim hh'
    refine ⟨v, hk, ?_⟩
    simp only [loadVar, semWP_bind, semWP_isAgg hd, ha, Bool.false_eq_true, if_false]
    exact ⟨v, hv, rfl, rfl⟩

theorem cellAt_setH_some {a b : Addr} {v old : Value} (hc : cellAt h b = some old) : ∃ u, cellAt (setH h a v) b = some u := by
  unfold cellAt at *
  unfold setH
  rw [Array.getElem?_modify]
  cases hb : h[b.block]? with
  | none => simp [hb] at hc
  | some o =>
    cases o <;> simp only [hb] at hc <;> try cases hc
    case cells c e f =>
      by_cases hab : a.block = b.block
      · simp only [hab, if_true, Option.map_some]
        split at hc
        · cases hc
        · rename_i hsp
          simp only [hsp, Bool.false_eq_true, if_false]
          split
          · exact ⟨_, hc⟩
          · rw [Array.getElem?_setIfInBounds]
            split
            · rename_i hlt
              have : b.off < c.size := by
                rcases Nat.lt_or_ge b.off c.size with hx | hx
                · exact hx
                · simp [Array.getElem?_eq_none hx] at hc
              rw [← hlt] at this
              simp [this]
            · exact ⟨_, hc⟩
      · simp only [hab, if_false]
        exact ⟨_, hc⟩
theorem frozenAt_setH {a b : Addr} {v : Value} : frozenAt (setH h a v) b = frozenAt h b := by
  unfold frozenAt setH
  rw [Array.getElem?_modify]
  by_cases hab : a.block = b.block
  · simp only [hab, if_true]
    cases h[b.block]? with
    | none => rfl
    | some o => cases o <;> rfl
  · simp only [hab, if_false]
theorem semWP_store {a : Addr} {v : Value} {K : Unit → Hp → Prop} (h1 : oneV v = true) (h2 : ∃ old, cellAt h a = some old) (h3 : frozenAt h a = false) (hk : K () (setH h a v)) :
    semWP P (store a v) h K := ⟨h1, h2, h3, hk⟩
theorem storeCells_wp {a : Addr} {K : Unit → Hp → Prop} : ∀ {vs : List Value} {i : Nat} {h : Hp}, storeL h a vs i (K ()) → semWP P (storeCells a vs i) h K := by
  intro vs
  induction vs with
  | nil => intro i h hh; exact hh
  | cons v vs ih =>
    intro i h hh
    simp only [storeL] at hh
    obtain ⟨h1, h2, h3, hh⟩ := condP_iff.1 hh
    simp only [storeCells, semWP_bind]
    exact semWP_store h1 h2 h3 (ih (letH_iff.1 hh))
theorem storeL_row {a : Addr} {K : Hp → Prop} : ∀ {vs : List Value} {i : Nat} {h : Hp}, (∀ v ∈ vs, oneV v = true) → (∀ j, j < vs.length → (∃ old, cellAt h (a.add (i + j)) = some old) ∧ frozenAt h (a.add (i + j)) = false) →
    K (setL h a vs i) → storeL h a vs i K := by
  intro vs
  induction vs with
  | nil => intro i h h1 h2 hk; exact hk
  | cons v vs ih =>
    intro i h h1 h2 hk
    obtain ⟨h3, h4⟩ := h2 0 (by simp)
    simp only [storeL]
    refine condP_iff.2 ⟨h1 v (by simp), h3, h4, letH_iff.2 ?_⟩
    refine ih (fun u hu => h1 u (by simp [hu])) ?_ hk
    intro j hj
    obtain ⟨⟨old, h5⟩, h6⟩ := h2 (j + 1) (by simpa using hj)
    rw [show i + 1 + j = i + (j + 1) by omega]
    exact ⟨cellAt_setH_some h5, by rw [frozenAt_setH]; exact h6⟩
theorem storeVar_wp {t : TypeId} {d : TypeDesc} {a : Addr} {v : Value} {K : Unit → Hp → Prop} (hd : P.underlying t = some d) (hsz : v.cells.size = P.cellsOf t) (hh : storeL h a v.cells.toList 0 (K ())) : semWP P (storeVar t a v) h K := by
  simp only [storeVar, semWP_bind, semWP_sizeOf hd]
  have hne : ¬ (v.cells.size ≠ P.cellsOf t) := fun hx => hx hsz
  rw [if_neg hne]
  exact storeCells_wp hh
theorem storeT_wp {t : TypeId} {a : Addr} {v : Value} {K : Unit → Hp → Prop} (hh : storeT P t h a v (K ())) : semWP P (storeVar t a v) h K := by
  unfold storeT at hh
  rcases shape_cases (P := P) t with ⟨ss, hs⟩ | ⟨n, hs⟩ | hs | hs
  · simp only [hs] at hh
    obtain ⟨⟨fs, hd⟩, hl⟩ := shape_agg hs
    cases v <;> first | exact hh.elim | skip
    rename_i cs
    obtain ⟨h1, hh⟩ := condP_iff.1 hh
    have h1 := Nat.eq_of_beq_eq_true h1
    exact storeVar_wp hd (by simpa [Value.cells] using h1) hh
  · simp only [hs] at hh
    obtain ⟨ha, ⟨d, hd⟩, hn⟩ := shape_row hs
    cases v <;> first | exact hh.elim | skip
    rename_i cs
    obtain ⟨h1, h2, h3, h4, hh⟩ := condP_iff.1 hh
    refine storeVar_wp hd (by simp [Value.cells, h2, hn]) (show storeL h a cs.toList 0 (K ()) from storeL_row ?_ ?_ (letH_iff.1 hh))
    · intro u hu
      obtain ⟨i, hi, hiu⟩ := List.getElem_of_mem hu
      obtain ⟨u', h5, h6⟩ := h3 i (by simpa [h2] using hi)
      have : cs[i]? = some u := by rw [← hiu]; simp at hi; simp [hi]
      rw [this] at h5; cases h5; exact h6
    · intro j hj
      simpa using h4 j (by simpa [h2] using hj)
  · simp only [hs] at hh
  · obtain ⟨ha, d, hd⟩ := shape_scalar hs
    have hh' : condP (Nat.beq (P.cellsOf t) 1) (condP (oneV v) ((∃ old, cellAt h a = some old) ∧ frozenAt h a = false ∧ letH (setH h a v) (K ()))) := by
      generalize shapeOf P t = s at *
      cases s <;> first | (simp [Sh.scalar] at hs; done) | exact hh
    obtain ⟨h1, hh'⟩ := condP_iff.1 hh'
    obtain ⟨h2, h3, h4, hh'⟩ := condP_iff.1 hh'
    have h1 := Nat.eq_of_beq_eq_true h1
    have hc : v.cells = #[v] := by cases v <;> first | rfl | (simp [oneV] at h2; done)
    refine storeVar_wp hd (by simp [hc, h1]) ?_
    rw [hc]
    exact condP_iff.2 ⟨h2, h3, h4, hh'⟩

/-- A part of an aggregate is one value. -/
theorem exL_spec : ∀ {ss : List Sh} {acc : List Value} {K : List Value → Prop}, exL ss acc K → ∃ vs : List Value, vs.length = ss.length ∧ K (acc.reverse ++ vs) := by
  intro ss
  induction ss with
  | nil => intro acc K hh; exact ⟨[], rfl, by simpa [exL] using hh⟩
  | cons s ss ih =>
    intro acc K hh
    simp only [exL] at hh
    obtain ⟨v, hv⟩ := exSc_elim hh
    obtain ⟨vs, h1, h2⟩ := ih hv
    exact ⟨v :: vs, by simp [h1], by simpa using h2⟩
theorem partT_val {t : TypeId} {cs : Array Value} {off : Nat} {K : Value → Prop} (hh : partT P t cs off K) :
    ∃ v, K v ∧ ∀ h, semWP P (part t cs off) h (fun u h' => u = v ∧ h' = h) := by
  unfold partT at hh
  rcases shape_cases (P := P) t with ⟨ss, hs⟩ | ⟨n, hs⟩ | hs | hs
  · simp only [hs] at hh
    obtain ⟨⟨fs, hd⟩, hl⟩ := shape_agg hs
    obtain ⟨vs, _, h2, h3⟩ := exL_spec hh
    refine ⟨_, h3, fun h => ?_⟩
    simp only [part, semWP_bind, semWP_isAgg hd, show aggB P t = true by simp [aggB, hd], if_true, semWP_sizeOf hd, semWP_ret, and_true]
    rw [h2]
  · simp only [hs] at hh
    obtain ⟨ha, ⟨d, hd⟩, hn⟩ := shape_row hs
    refine ⟨_, hh, fun h => ?_⟩
    simp only [part, semWP_bind, semWP_isAgg hd, ha, if_true, semWP_sizeOf hd, semWP_ret, and_true, hn]
  · simp only [hs, exSc] at hh
  · obtain ⟨ha, d, hd⟩ := shape_scalar hs
    have hh' : exSc (shapeOf P t) fun v => cs[off]? = some v ∧ K v := by
      generalize shapeOf P t = s at *
      cases s <;> first | (simp [Sh.scalar] at hs; done) | exact hh
    obtain ⟨v, hv, hk⟩ := exSc_elim hh'
    refine ⟨v, hk, fun h => ?_⟩
    simp only [part, semWP_bind, semWP_isAgg hd, ha, Bool.false_eq_true, if_false, hv, semWP_ret, and_self]
end
end Go.Proofs.Ytmdhfmljgjnggaa
/- The precondition of a function's code. No condition. -/
namespace Go.Proofs.Ytmdhfmljgjnggaa

/-- What a reader of the code says beside it: by loop the slots that a round hands to the next; by slot what a range yields; by region an order. -/
structure Ann where
  loops : Nat → List (Tmp × TypeId)
  ty : Tmp → List TypeId
  canon : Nat → List Nat
  cuts : Nat → Option (List (Tmp × TypeId))
  pair : Nat → Option (Nat × Nat × List Nat × List Nat) := fun _ => none

/-- What holds of typed values and memory. -/
abbrev CurI : List Sh → Type
  | [] => Hp → Prop
  | s :: ss => s.T → CurI ss
abbrev CurM : List Sh → Type
  | [] => Hp → Nat
  | s :: ss => s.T → CurM ss
/-- For all values of the shapes. -/
def headT : (ss : List Sh) → CurI ss → CurM ss → (List Value → (Hp → Prop) → (Hp → Nat) → Prop) → Prop
  | [], I, m, k => k [] I m
  | s :: ss, I, m, k => ∀ x : s.T, headT ss (I x) (m x) fun vs I' m' => k (s.inj x :: vs) I' m'
def headI : (ss : List Sh) → CurI ss → (List Value → (Hp → Prop) → Prop) → Prop
  | [], I, k => k [] I
  | s :: ss, I, k => ∀ x : s.T, headI ss (I x) fun vs I' => k (s.inj x :: vs) I'
/-- A value as a shape's. -/
def asSh (s : Sh) (v : Value) (k : s.T → Prop) : Prop :=
  match s, v, k with
  | .int k', .int k n, f => condP (kindEq k k') (f n)
  | .bool, .bool b, f => f b
  | .str, .string s, f => f s
  | .ptr, .pointer p, f => f p
  | .sl, .slice p n c, f => f (p, n, c)
  | .mp, .map r, f => f r
  | .row _, .agg cs, f => f cs
  | .val, v, f => f v
  | _, _, _ => False
def appT : (ss : List Sh) → CurI ss → CurM ss → List Value → ((Hp → Prop) → (Hp → Nat) → Prop) → Prop
  | [], I, m, [], k => k I m
  | s :: ss, I, m, v :: vs, k => asSh s v fun x => appT ss (I x) (m x) vs k
  | _, _, _, _, _ => False
def appI : (ss : List Sh) → CurI ss → List Value → ((Hp → Prop) → Prop) → Prop
  | [], I, [], k => k I
  | s :: ss, I, v :: vs, k => asSh s v fun x => appI ss (I x) vs k
  | _, _, _, _ => False
def Env.gets (e : Env) : List (Tmp × TypeId) → Option (List Value)
  | [] => some []
  | (t, _) :: ts => match e.get t with
    | some v => match Env.gets e ts with
      | some vs => some (v :: vs)
      | none => none
    | none => none
def Env.lay : List (Tmp × TypeId) → List Value → Env → Env
  | (t, _) :: ts, v :: vs, e => (t, v) :: Env.lay ts vs e
  | _, _, e => e
def memT (t : Tmp) : List Tmp → Bool
  | [] => false
  | u :: us => match Nat.beq t u with | true => true | false => memT t us
def Env.drop (ws : List Tmp) : Env → Env
  | [] => []
  | (t, v) :: e => match memT t ws with | true => Env.drop ws e | false => (t, v) :: Env.drop ws e
def dstsOf : List Oper → List Tmp
  | [] => []
  | o :: os => match o.dst with | some d => d :: dstsOf os | none => dstsOf os
def writesOf : Code → List Tmp
  | .region _ ops _ => dstsOf ops.toList
  | .seq a b => writesOf a ++ writesOf b
  | .cond _ a b => writesOf a ++ writesOf b
  | .block _ b => writesOf b
  | .loop b => writesOf b
  | .rangeFunc _ ps a b => ps.toList ++ writesOf a ++ writesOf b
  | .scope b => writesOf b
  | _ => []

section
variable (P : Program) (n : Nat) (ann : Ann)
def dstOk (d : Option Tmp) : Bool := match d with | some d => Nat.blt d n | none => true
def guardTmp (ops : Array Oper) (j : Nat) : Option Tmp := match ops.toList[j]? with
  | some o => o.dst
  | none => none
/-- One operation, its guard asked. K is told whether it ran. -/
def stepT (ops : Array Oper) (o : Oper) (e : Env) (h : Hp) (K : Bool → Env → Env → Value → Hp → Prop) : Prop :=
  condP (dstOk n o.dst) (match o.guard with
    | none => opT P ann.ty o e h fun v h' => K true e (e.put o.dst v) v h'
    | some (j, want) => wth (guardTmp ops j) fun t => wth (e.get t) fun gv => match gv with
      | .bool b =>
        let br : Bool → Prop := fun b' => match xor b' want with
          | false => opT P ann.ty o ((t, .bool b') :: e) h fun v h' => K true ((t, .bool b') :: e) (Env.put ((t, .bool b') :: e) o.dst v) v h'
          | true => K false ((t, .bool b') :: e) (Env.put ((t, .bool b') :: e) o.dst undef) undef h
        iteP b (br true) (br false)
      | .tuple _ => K false e (Env.put e o.dst undef) undef h
      | _ => False)
def regT (ops : Array Oper) : List Oper → Env → Hp → (Env → Hp → Prop) → Prop
  | [], e, h, K => K e h
  | o :: os, e, h, K => stepT P n ann ops o e h fun _ _ e' _ h' => regT ops os e' h' K
/-- 0: it reckons alone; 1: it reads memory; 2: anything. -/
def cls (o : Oper) : Nat :=
  match o.op with
  | .move _ | .assign _ | .pick .. | .build .. | .nilCheck _ | .unOp .. | .makeInterface .. | .makeFunc .. | .slice .. | .fieldAddr .. | .field .. | .indexAddr .. | .index .. | .extract .. | .typeAssert .. => 0
  | .binOp _ t _ y _ => match nilConst y with
    | true => 0
    | false => match P.underlying t with
      | some (.int _) | some .string | some .bool => 0
      | _ => 1
  | .convert s d _ => match P.underlying s, P.underlying d with
    | some (.int _), some (.int _) => 0
    | some .string, some .string => 0
    | _, _ => 2
  | .load .. | .lookup .. | .entry .. => 1
  | .call c => match c.callee with
    | .builtin .len => match und0 P c.argTypes with
      | some .string | some (.array _ _) | some (.slice _) | some (.pointer _) => 0
      | _ => 1
    | .builtin .min | .builtin .max => 0
    | _ => 2
  | _ => 2
def chk (ord : Nat → Nat → Bool) (i : Nat) : List (Nat × (Hp → Prop)) → Hp → Prop → Prop
  | [], _, X => X
  | (r, φ) :: ps, h, X => match ord r i with
    | true => chk ord i ps h X
    | false => φ h ∧ chk ord i ps h X
/-- A region that draws its order, in one order; what is read stays as it was read behind whatever may come ahead of the read. -/
def regD (ord : Nat → Nat → Bool) (ops : Array Oper) : List Nat → List (Nat × (Hp → Prop)) → Env → Hp → (List (Nat × (Hp → Prop)) → Env → Hp → Prop) → Prop
  | [], pend, e, h, K => K pend e h
  | i :: L, pend, e, h, K => wth (ops.toList[i]?) fun o => stepT P n ann ops o e h fun ran e0 e' v h' =>
    match cls P o with
    | 0 => regD ord ops L pend e' h' K
    | 1 => match ran with
      | true => regD ord ops L ((i, fun h2 => opT P ann.ty o e0 h2 fun v' _ => v' = v) :: pend) e' h' K
      | false => regD ord ops L pend e' h' K
    | _ => match ran with
      | true => chk ord i pend h' (regD ord ops L pend e' h' K)
      | false => regD ord ops L pend e' h' K

/-- Is i ahead of j? -/
def ordOf (bs : List Nat) (i j : Nat) : Bool := match bs[j]? with
  | some b => b.testBit i
  | none => false
def pairsOk (f : Nat → Nat → Bool) : List Nat → Bool
  | [] => true
  | i :: L => L.all (f i) && pairsOk f L
/-- The order given serves: it holds each operation once; none comes ahead of one that it waits for; what follows something loud waits for it; what is not ordered is apart. -/
def pairF (ops : Array Oper) (ord : Nat → Nat → Bool) (i j : Nat) : Bool :=
  !Nat.beq i j && (!ord j i && (ord i j || (match ops.toList[i]?, ops.toList[j]? with
    | some oi, some oj => !Nat.beq (cls P oi) 2 && oi.apart ops oj
    | _, _ => false)))
def noSel (o : Oper) : Bool := match o.op with
  | .select _ _ => false
  | _ => true
def edgesOk : List Oper → Nat → Bool
  | [], _ => true
  | o :: os, i => noSel o && o.after.toList.all (fun e => !Region.binds .any e || Nat.blt e.on i) && edgesOk os (i + 1)
def drawOk (ops : Array Oper) (bs : List Nat) (canon : List Nat) : Bool :=
  edgesOk ops.toList 0 && canon.all (fun i => Nat.blt i ops.size) && (List.range ops.size).all (fun i => memT i canon) && pairsOk (pairF P ops (ordOf bs)) canon

/-- The order in which p stands ahead of q besides. -/
def ordX (bs : List Nat) (p q : Nat) (x i : Nat) : Bool := ordOf bs x i || ((Nat.beq i q || ordOf bs q i) && (Nat.beq x p || ordOf bs x p))
def later (bs : List Nat) (p q : Nat) (L : List Nat) : Bool := L.all fun i => Nat.beq i p || Nat.beq i q || ordOf bs p i || ordOf bs q i
/-- Two orders serve: both begin alike; then p or q comes first. -/
def drawOk2 (ops : Array Oper) (bs : List Nat) (p q : Nat) (pre r1 r2 : List Nat) : Bool :=
  edgesOk ops.toList 0 && !ordOf bs p q && !ordOf bs q p && !Nat.beq p q && (pre ++ p :: r1).all (fun i => Nat.blt i ops.size) && (pre ++ q :: r2).all (fun i => Nat.blt i ops.size) &&
  (List.range ops.size).all (fun i => memT i (pre ++ p :: r1)) && (List.range ops.size).all (fun i => memT i (pre ++ q :: r2)) && later bs p q r1 && later bs p q r2 &&
  pairsOk (pairF P ops (ordOf bs)) pre && pairsOk (pairF P ops (ordX bs p q)) (pre ++ p :: r1) && pairsOk (pairF P ops (ordX bs q p)) (pre ++ q :: r2)

def resT (e : Env) (h : Hp) : List ResultVar → List Value → (List Value → Prop) → Prop
  | [], acc, K => K acc.reverse
  | .tmp t :: rs, acc, K => wth (e.get t) fun v => resT e h rs (v :: acc) K
  | .cell a ty :: rs, acc, K => wth (e.get a) fun v => match v with
    | .pointer p => wth p fun ad => loadT P ty h ad fun u => resT e h rs (u :: acc) K
    | _ => False
def shs (l : List (Tmp × TypeId)) : List Sh := l.map fun x => shapeOf P x.2
def beforeL (ops : Array Oper) : List Nat := (Region.before ops).toList
def loopT (body : Code) (T : (Exit → Env → Hp → Prop) → Env → Hp → Prop) (id : Nat) (sl : List (Tmp × TypeId)) (K : Exit → Env → Hp → Prop) (e : Env) (h : Hp) : Prop :=
  ∃ (I : CurI (shs P sl)) (μ : CurM (shs P sl)), wth (e.gets sl) (fun vs => appT _ I μ vs fun I0 _ => I0 h) ∧
    headT _ I μ fun vs Ih mh => ∀ h, Ih h → T (fun x e' h' => match x with
      | .normal => wth (e'.gets sl) fun us => appT _ I μ us fun I1 m1 => I1 h' ∧ m1 h' < mh h
      | .exit id' => match Nat.beq id' id with
        | true => K .normal e' h'
        | false => K (.exit id') e' h'
      | x => K x e' h') (Env.lay sl vs (e.drop (writesOf body))) h
def blockK (id : Nat) (K : Exit → Env → Hp → Prop) : Exit → Env → Hp → Prop := fun x e h => match x with
  | .exit id' => match Nat.beq id' id with
    | true => K .normal e h
    | false => K (.exit id') e h
  | x => K x e h
/-- The first region of a piece of code. -/
def firstReg : Code → Option Nat
  | .region id _ _ => some id
  | .seq a _ => firstReg a
  | _ => none
def cutOf (c : Code) : Option (List (Tmp × TypeId)) := match firstReg c with
  | some r => ann.cuts r
  | none => none
def codeT : Code → (Exit → Env → Hp → Prop) → Env → Hp → Prop
  | .skip, K, e, h => K .normal e h
  | .region id ops draw, K, e, h => match draw with
    | false => regT P n ann ops ops.toList e h (K .normal)
    | true => match ann.pair id with
      | none => condP (drawOk P ops (beforeL ops) (ann.canon id)) (regD P n ann (ordOf (beforeL ops)) ops (ann.canon id) [] e h fun _ => K .normal)
      | some (p, q, r1, r2) => condP (drawOk2 P ops (beforeL ops) p q (ann.canon id) r1 r2) (regD P n ann (ordOf (beforeL ops)) ops (ann.canon id) [] e h fun pend e h =>
          regD P n ann (ordX (beforeL ops) p q) ops (p :: r1) pend e h (fun _ => K .normal) ∧ regD P n ann (ordX (beforeL ops) q p) ops (q :: r2) pend e h (fun _ => K .normal))
  | .seq x y, K, e, h => match cutOf ann y with
    | none => codeT x (fun z e h => match z with | .normal => codeT y K e h | z => K z e h) e h
    | some sl => ∃ J : CurI (shs P sl),
        codeT x (fun z e' h => match z with | .normal => wth (e'.gets sl) (fun vs => appI _ J vs fun J0 => J0 h) | z => K z e' h) e h ∧
        headI _ J fun vs Jh => ∀ h, Jh h → codeT y K (Env.lay sl vs (e.drop (writesOf x))) h
  | .cond c x y, K, e, h => wth (e.ev c) fun v => match v with
    | .bool b => iteP b (codeT x K e h) (codeT y K e h)
    | _ => False
  | .block id (.loop body), K, e, h => loopT P body (codeT body) id (ann.loops id) K e h
  | .block id c, K, e, h => codeT c (blockK id K) e h
  | .exit id, K, e, h => K (.exit id) e h
  | .ret, K, e, h => K .ret e h
  | _, _, _, _ => False
def argEnv : List Value → Nat → Env
  | [], _ => []
  | v :: vs, i => (i, v) :: argEnv vs (i + 1)
/-- The precondition of a function's body. -/
def fnT (fn : Func) (c : Code) (args : List Value) (h : Hp) (R : Value → Hp → Prop) : Prop :=
  codeT P n ann c (fun x e h => match x with
    | .normal | .ret => resT P e h fn.results.toList [] fun vs => R (mkRes vs) h
    | _ => False) (argEnv args 0) h
end
attribute [irreducible] fnT
end Go.Proofs.Ytmdhfmljgjnggaa
/- The operations' preconditions are enough, operation by operation. No condition. -/
namespace Go.Proofs.Ytmdhfmljgjnggaa

section
variable {P : Program}
/-- An operation that yields v and leaves memory alone. -/
def Yields (P : Program) (ρ : Operand → Value) (o : Oper) (h : Hp) (v : Value) : Prop := operWP P ρ o h fun u h' => u = v ∧ h' = h
theorem operWP_val {ρ : Operand → Value} {o : Oper} {h : Hp} {s : Sem Value} {K : Value → Hp → Prop} (he : execOp ρ o = (do pure (.value (← s)) : Sem Next)) (hs : semWP P s h K) : operWP P ρ o h K := by
  refine operWP_of_sem ?_
  rw [he, semWP_bind]
  exact hs
theorem operWP_unit {ρ : Operand → Value} {o : Oper} {h : Hp} {s : Sem Unit} {K : Value → Hp → Prop} (he : execOp ρ o = (do s; pure .skip : Sem Next)) (hs : semWP P s h fun _ h' => K undef h') : operWP P ρ o h K := by
  refine operWP_of_sem ?_
  rw [he, semWP_bind]
  exact hs
/-- A computation that runs to v. -/
theorem yields_runs {ρ : Operand → Value} {o : Oper} {h : Hp} {s : Sem Value} {v : Value} (he : execOp ρ o = (do pure (.value (← s)) : Sem Next)) (hs : RunsTo P s h v) : Yields P ρ o h v := by
  intro w hw
  refine ⟨.value v, w, ?_, ⟨rfl, hw⟩, .refl w⟩
  rw [he, Sem.run_bind, hs w hw]
  rfl
theorem kindEq_eq {a b : IntKind} (h : kindEq a b = true) : a = b := by simpa [kindEq] using h
theorem eqGuard_none {op : BinOp} {t : TypeId} {x y : Operand} {a b : Value} {h : Hp} {K : Unit → Hp → Prop}
    (hab : (∀ c d, a = .agg c → b = .agg d → False)) (hn : a = .nilIface → b = .nilIface → ∃ c, y = .const c) (hk : K () h) : semWP P (eqGuard op t x y a b) h K := by
  unfold eqGuard
  cases op <;> simp only [Bool.not_true, Bool.not_false, Bool.false_eq_true, if_false, if_true] <;> try exact hk
  all_goals
    split
    · obtain ⟨c, rfl⟩ := hn rfl rfl
      simp only [Bool.or_true, if_true]
      exact hk
    · rename_i c d
      exact (hab c d rfl rfl).elim
    · exact hk
theorem equal_def (t : TypeId) (x y : Value) : Op.equal t x y = Op.equalIn (9999 + 1) t x y := rfl
theorem nilT_val {t : TypeId} {v c : Value} {K : Bool → Prop} (hh : nilT (P.underlying t) v c K) :
    ∃ b, K b ∧ (∀ x d, v = .agg x → c = .agg d → False) ∧ (∀ h, semWP P (binOp .eql t v c) h (fun u h' => u = .bool b ∧ h' = h)) ∧
      (∀ h, semWP P (binOp .neq t v c) h (fun u h' => u = .bool (!b) ∧ h' = h)) := by
  have key : ∀ (b : Bool), (∀ (d : Nat) h, semWP P (Op.equalIn (d + 1) t v c) h (fun u h' => u = b ∧ h' = h)) → 
      (∀ h, semWP P (Op.equal t v c >>= fun r => pure (Value.bool r)) h (fun u h' => u = Value.bool b ∧ h' = h)) ∧
      (∀ h, semWP P (Op.equal t v c >>= fun r => pure (Value.bool (!r))) h (fun u h' => u = Value.bool (!b) ∧ h' = h)) := by
    intro b hb
    constructor <;> intro h <;> rw [semWP_bind, equal_def] <;> refine semWP_mono _ _ _ _ ?_ (hb 9999 h)
    · rintro _ _ ⟨rfl, rfl⟩; exact ⟨rfl, rfl⟩
    · rintro _ _ ⟨rfl, rfl⟩; exact ⟨rfl, rfl⟩
  unfold nilT at hh
  split at hh
  all_goals try exact hh.elim
  all_goals
    rename_i hd
    refine ⟨_, hh, (by intro x d h1 h2; cases h1), key _ ?_⟩
    intro d h
    simp only [Op.equalIn, semWP_bind, semWP_underlying hd]
    first
      | exact ⟨rfl, rfl⟩
      | (rename_i p; cases p <;> exact ⟨rfl, rfl⟩)
      | (rename_i p _ _ _ _; cases p <;> exact ⟨rfl, rfl⟩)
theorem intDT_int {op : BinOp} {k : IntKind} {a b : Int} {y : Operand} {t : TypeId} {K : Value → Prop} (hy : divConst op y = true) (hb : y = .const (.int k b)) (hh : intDT op k a b K) :
    ∃ v, K v ∧ ∀ h, semWP P (binOp op t (.int k a) (.int k b)) h (fun u h' => u = v ∧ h' = h) := by
  subst hb
  have hne : b ≠ 0 := by cases op <;> simp [divConst] at hy <;> exact hy
  cases op <;> simp only [intDT] at hh <;> try exact hh.elim
  all_goals
    refine ⟨_, hh, fun h => ?_⟩
    simp only [binOp, ne_eq, not_true, if_false, Op.intDiv, hne]
    exact ⟨rfl, rfl⟩
theorem intT_int {op : BinOp} {k : IntKind} {a b : Int} {t : TypeId} {K : Value → Prop} (hh : intT op k a b K) :
    ∃ v, K v ∧ ∀ h, semWP P (binOp op t (.int k a) (.int k b)) h (fun u h' => u = v ∧ h' = h) := by
  cases op <;> simp only [intT, intCmpT] at hh <;> try exact hh.elim
  case quo =>
    obtain ⟨hne, hh⟩ := hh
    refine ⟨_, hh, fun h => ?_⟩
    simp only [binOp, ne_eq, not_true, if_false, Op.intDiv, hne]
    exact ⟨rfl, rfl⟩
  case rem =>
    obtain ⟨hne, hh⟩ := hh
    refine ⟨_, hh, fun h => ?_⟩
    simp only [binOp, ne_eq, not_true, if_false, Op.intDiv, hne]
    exact ⟨rfl, rfl⟩
  all_goals
    refine ⟨_, hh, fun h => ?_⟩
    simp only [binOp, ne_eq, not_true, if_false, Op.intArith, Op.intCmp, Op.intBits]
    exact ⟨rfl, rfl⟩
theorem shiftT_int {op : BinOp} {k k' : IntKind} {a b : Int} {t : TypeId} {K : Value → Prop} (hh : shiftT op k a b K) :
    ∃ v, K v ∧ ∀ h, semWP P (binOp op t (.int k a) (.int k' b)) h (fun u h' => u = v ∧ h' = h) := by
  cases op <;> simp only [shiftT] at hh <;> try exact hh.elim
  all_goals
    obtain ⟨h0, hh⟩ := hh
    refine ⟨_, hh, fun h => ?_⟩
    simp only [binOp, Op.shift]
    rw [if_neg (by omega)]
    exact ⟨rfl, rfl⟩
theorem strT_str {op : BinOp} {a b : ByteArray} {t : TypeId} {K : Value → Prop} (hh : strT op a b K) :
    ∃ v, K v ∧ ∀ h, semWP P (binOp op t (.string a) (.string b)) h (fun u h' => u = v ∧ h' = h) := by
  cases op <;> simp only [strT] at hh <;> try exact hh.elim
  case add =>
    obtain ⟨hle, hh⟩ := hh
    refine ⟨_, hh, fun h => ?_⟩
    have hm : IntKind.i64.max = 9223372036854775807 := by decide
    simp only [binOp, Op.stringOp]
    rw [if_neg (by rw [hm]; omega)]
    exact ⟨rfl, rfl⟩
  all_goals
    refine ⟨_, hh, fun h => ?_⟩
    simp only [binOp, Op.stringOp]
    exact ⟨rfl, rfl⟩
theorem boolT_bool {op : BinOp} {a b : Bool} {t : TypeId} {K : Value → Prop} (hd : P.underlying t = some .bool)
    (hh : match op with | .eql => K (.bool (a == b)) | .neq => K (.bool (!(a == b))) | _ => False) :
    ∃ v, K v ∧ ∀ h, semWP P (binOp op t (.bool a) (.bool b)) h (fun u h' => u = v ∧ h' = h) := by
  cases op <;> simp only at hh <;> try exact hh.elim
  all_goals
    refine ⟨_, hh, fun h => ?_⟩
    have key : ∀ (d : Nat), semWP P (Op.equalIn (d + 1) t (.bool a) (.bool b)) h (fun u h' => u = (a == b) ∧ h' = h) := by
      intro d
      simp only [Op.equalIn, semWP_bind, semWP_underlying hd]
      exact ⟨rfl, rfl⟩
    simp only [binOp, semWP_bind, equal_def]
    refine semWP_mono _ _ _ _ ?_ (key 9999)
    rintro _ _ ⟨rfl, rfl⟩; exact ⟨rfl, rfl⟩
theorem unT_val {op : UnOp} {v : Value} {K : Value → Prop} (hh : unT op v K) : ∃ u, K u ∧ ∀ h, semWP P (Op.unary op v) h (fun x h' => x = u ∧ h' = h) := by
  unfold unT at hh
  split at hh
  · exact ⟨_, hh, fun h => ⟨rfl, rfl⟩⟩
  · exact ⟨_, hh, fun h => ⟨rfl, rfl⟩⟩
  · exact hh.elim
theorem structFields_get {t : TypeId} {f : Nat} {fd : Field} (hf : (structFields P t)[f]? = some fd) : ∃ fs, P.underlying t = some (.struct fs) ∧ fs[f]? = some fd := by
  unfold structFields at hf
  split at hf
  · rename_i fs hd
    exact ⟨fs, hd, by simpa using hf⟩
  · simp at hf
theorem fieldAddrT_val {t : TypeId} {v : Value} {f : Nat} {K : Value → Prop} (hh : fieldAddrT P t v f K) : ∃ u, K u ∧ ∀ h, semWP P (Instr.fieldAt t v f) h (fun x h' => x = u ∧ h' = h) := by
  unfold fieldAddrT at hh
  cases v <;> first | exact hh.elim | skip
  dsimp only at hh
  obtain ⟨a, hp, hh1⟩ := wth_elim hh
  clear hh
  subst hp
  obtain ⟨fd, hf, hh⟩ := wth_elim hh1
  obtain ⟨hc, hh⟩ := condP_iff.1 hh
  obtain ⟨fs, hd, hf'⟩ := structFields_get hf
  have hc' : P.cellsOf fd.type ≠ 0 := by intro h0; simp [h0] at hc
  refine ⟨_, hh, fun h => ?_⟩
  simp only [Instr.fieldAt, semWP_bind, semWP_underlying hd, hf', Instr.sureAddr, semWP_ret, fieldPlace, semWP_sizeOf_cells hc']
  rw [if_neg hc']
  exact ⟨rfl, rfl⟩
theorem extract_take (cs : Array Value) (a b : Nat) : cs.extract a (a + b) = ⟨(cs.toList.drop a).take b⟩ := by
  apply Array.ext'
  simp [Array.toList_extract, List.extract_eq_take_drop]
theorem fieldT_val {t : TypeId} {v : Value} {f : Nat} {K : Value → Prop} (hh : fieldT P t v f K) : ∃ u, K u ∧ ∀ h, semWP P (Instr.field t v f) h (fun x h' => x = u ∧ h' = h) := by
  unfold fieldT at hh
  cases v <;> first | exact hh.elim | skip
  rename_i cs
  dsimp only at hh
  obtain ⟨fd, hf, hh⟩ := wth_elim hh
  obtain ⟨fs, hd, hf'⟩ := structFields_get hf
  have key : ∀ {u : Value}, (∀ h, semWP P (part fd.type cs fd.offset) h (fun x h' => x = u ∧ h' = h)) → ∀ h, semWP P (Instr.field t (.agg cs) f) h (fun x h' => x = u ∧ h' = h) := by
    intro u hu h
    simp only [Instr.field, semWP_bind, semWP_underlying hd, hf', asAgg, semWP_ret]
    exact hu h
  split at hh
  · rcases shape_cases (P := P) fd.type with ⟨ss, hs⟩ | ⟨n, hs⟩ | hs | hs
    · simp only [hs] at hh
      obtain ⟨⟨fs', hd'⟩, hl⟩ := shape_agg hs
      refine ⟨_, hh, key fun h => ?_⟩
      simp only [part, semWP_bind, semWP_isAgg hd', show aggB P fd.type = true by simp [aggB, hd'], if_true, semWP_sizeOf hd', semWP_ret, and_true, extract_take]
    · simp only [hs] at hh
    · simp only [hs] at hh
    · obtain ⟨ha, d, hd'⟩ := shape_scalar hs
      have hh' : wth (cs.toList[fd.offset]?) K := by
        generalize shapeOf P fd.type = s at *
        cases s <;> first | (simp [Sh.scalar] at hs; done) | exact hh
      obtain ⟨u, hu, hk⟩ := wth_elim hh'
      refine ⟨u, hk, key fun h => ?_⟩
      have hu' : cs[fd.offset]? = some u := by simpa using hu
      simp only [part, semWP_bind, semWP_isAgg hd', ha, Bool.false_eq_true, if_false, hu', semWP_ret, and_self]
  · obtain ⟨u, hk, hu⟩ := partT_val hh
    exact ⟨u, hk, key hu⟩
theorem indexAddrT_val {t : TypeId} {x i : Value} {K : Value → Prop} (hh : indexAddrT P t x i K) : ∃ u, K u ∧ ∀ h, semWP P (Instr.indexAt t x i) h (fun x h' => x = u ∧ h' = h) := by
  unfold indexAddrT at hh
  cases i <;> first | exact hh.elim | skip
  rename_i k i
  dsimp only at hh
  split at hh
  · rename_i len el p hd
    obtain ⟨a, hp, hh1⟩ := wth_elim hh
    clear hh
    subst hp
    obtain ⟨h0, h1, hk⟩ := hh1
    obtain ⟨h2, hk⟩ := condP_iff.1 hk
    have h2 : P.cellsOf el ≠ 0 := by intro h0; simp [h0] at h2
    refine ⟨_, hk, fun h => ?_⟩
    simp only [Instr.indexAt, semWP_bind, asIntOf, semWP_ret, semWP_underlying hd, Instr.sureAddr]
    rw [if_pos ⟨h0, h1⟩]
    simp only [semWP_bind, semWP_sizeOf_cells h2, semWP_ret, and_self]
  · rename_i el p len cap hd
    obtain ⟨h0, h1, hh⟩ := hh
    obtain ⟨h2, hh⟩ := condP_iff.1 hh
    have h2 : P.cellsOf el ≠ 0 := by intro h0; simp [h0] at h2
    obtain ⟨a, hp, hh1⟩ := wth_elim hh
    clear hh
    subst hp
    refine ⟨_, hh1, fun h => ?_⟩
    simp only [Instr.indexAt, semWP_bind, asIntOf, semWP_ret, semWP_underlying hd]
    rw [if_pos ⟨h0, h1⟩]
    simp only [semWP_bind, semWP_sizeOf_cells h2, semWP_ret, and_self]
  · exact hh.elim
theorem indexT_val {t : TypeId} {x i : Value} {K : Value → Prop} (hh : indexT P t x i K) : ∃ u, K u ∧ ∀ h, semWP P (Instr.index t x i) h (fun x h' => x = u ∧ h' = h) := by
  unfold indexT at hh
  cases i <;> first | exact hh.elim | skip
  rename_i k i
  dsimp only at hh
  split at hh
  · rename_i len el cs hd
    obtain ⟨h0, h1, hh⟩ := hh
    obtain ⟨h2, hh⟩ := condP_iff.1 hh
    have h2 : P.cellsOf el ≠ 0 := by intro h0; simp [h0] at h2
    obtain ⟨u, hk, hu⟩ := partT_val hh
    refine ⟨u, hk, fun h => ?_⟩
    simp only [Instr.index, semWP_bind, asIntOf, semWP_ret, semWP_underlying hd]
    rw [if_pos ⟨h0, h1⟩]
    simp only [semWP_bind, semWP_sizeOf_cells h2]
    exact hu h
  · rename_i s hd
    obtain ⟨h0, b, hb, hk⟩ := hh
    refine ⟨_, hk, fun h => ?_⟩
    simp only [Instr.index, semWP_bind, asIntOf, semWP_ret, semWP_underlying hd, if_pos h0, hb, and_self]
  · exact hh.elim
theorem bound_int {v : Value} {d : Nat} {K : Nat → Prop} (hh : boundT (some v) d K) : ∃ k i, v = .int k i ∧ 0 ≤ i ∧ K i.toNat := by
  cases v <;> first | exact hh.elim | exact ⟨_, _, rfl, hh.1, hh.2⟩
theorem semWP_sliceBound {k : IntKind} {i : Int} {y : Nat} {code : BoundsCode} {h : Hp} {K : Nat → Hp → Prop} (h0 : 0 ≤ i) (h1 : i.toNat ≤ y) : semWP P (Instr.sliceBound (.int k i) y code) h K = K i.toNat h := by
  simp only [Instr.sliceBound, semWP_bind, asIntOf, semWP_ret]
  rw [if_pos ⟨h0, by omega⟩]
  rfl
theorem boundsT_val {isS : Bool} {len cap : Nat} {lo hi mx : Option Value} {K : Nat → Nat → Nat → Prop} (hmx : mx.isSome = true → hi.isSome = true) (hh : boundsT len cap lo hi mx K) :
    ∃ l h' m, K l h' m ∧ ∀ (h : Hp) (K' : Nat × Nat × Nat → Hp → Prop), K' (l, h', m) h → semWP P (Instr.sliceBounds isS len cap lo hi mx) h K' := by
  unfold boundsT at hh
  cases mx with
  | none =>
    cases hi with
    | none =>
      cases lo with
      | none => exact ⟨0, len, cap, hh, fun h K' hk => hk⟩
      | some v =>
        obtain ⟨k, i, rfl, h0, h1, hk⟩ := bound_int (v := v) (d := 0) (K := fun l => l ≤ len ∧ K l len cap) hh
        refine ⟨_, _, _, hk, fun h K' hk' => ?_⟩
        simp only [Instr.sliceBounds, semWP_bind, semWP_ret, semWP_sliceBound h0 h1]
        exact hk'
    | some u =>
      obtain ⟨k, i, rfl, h0, h1, hh⟩ := bound_int (v := u) (d := len) (K := fun r => r ≤ cap ∧ boundT lo 0 fun l => leT lo l r (K l r cap)) hh
      cases lo with
      | none =>
        refine ⟨_, _, _, hh, fun h K' hk' => ?_⟩
        simp only [Instr.sliceBounds, semWP_bind, semWP_ret, semWP_sliceBound h0 h1]
        exact hk'
      | some v =>
        obtain ⟨k', j, rfl, h2, h3, hk⟩ := bound_int (v := v) (d := 0) (K := fun l => l ≤ i.toNat ∧ K l i.toNat cap) hh
        refine ⟨_, _, _, hk, fun h K' hk' => ?_⟩
        simp only [Instr.sliceBounds, semWP_bind, semWP_ret, semWP_sliceBound h0 h1, semWP_sliceBound h2 h3]
        exact hk'
  | some w =>
    obtain ⟨k, i, rfl, h0, h1, hh⟩ := bound_int (v := w) (d := cap) (K := fun m => m ≤ cap ∧ boundT hi len fun r => leT hi r m (boundT lo 0 fun l => leT lo l r (K l r m))) hh
    cases hi with
    | none => simp at hmx
    | some u =>
      obtain ⟨k', j, rfl, h2, h3, hh⟩ := bound_int (v := u) (d := len) (K := fun r => r ≤ i.toNat ∧ boundT lo 0 fun l => leT lo l r (K l r i.toNat)) hh
      cases lo with
      | none =>
        refine ⟨_, _, _, hh, fun h K' hk' => ?_⟩
        simp only [Instr.sliceBounds, semWP_bind, semWP_ret, semWP_sliceBound h0 h1, semWP_sliceBound h2 h3]
        exact hk'
      | some v =>
        obtain ⟨k'', q, rfl, h4, h5, hk⟩ := bound_int (v := v) (d := 0) (K := fun l => l ≤ j.toNat ∧ K l j.toNat i.toNat) hh
        refine ⟨_, _, _, hk, fun h K' hk' => ?_⟩
        simp only [Instr.sliceBounds, semWP_bind, semWP_ret, semWP_sliceBound h0 h1, semWP_sliceBound h2 h3, semWP_sliceBound h4 h5]
        exact hk'
theorem sliceT_val {t : TypeId} {x : Value} {lo hi mx : Option Value} {K : Value → Prop} (hmx : mx.isSome = true → hi.isSome = true) (hh : sliceT P t x lo hi mx K) : ∃ u, K u ∧ ∀ h, semWP P (Instr.sliceAt t x lo hi mx) h (fun x h' => x = u ∧ h' = h) := by
  unfold sliceT at hh
  split at hh
  · rename_i s hd
    obtain ⟨h1, hh⟩ := condP_iff.1 hh
    have hm : mx = none := by simpa using h1
    subst hm
    obtain ⟨l, r, m, hk, hb⟩ := boundsT_val (P := P) (isS := false) (by simp) hh
    refine ⟨_, hk, fun h => ?_⟩
    simp only [Instr.sliceAt, semWP_bind, semWP_underlying hd, Instr.slice, Option.isSome_none, Bool.false_eq_true, if_false, semWP_ret]
    exact hb h _ ⟨rfl, rfl⟩
  · rename_i el p len cap hd
    obtain ⟨h1, hh⟩ := condP_iff.1 hh
    have hc : P.cellsOf el ≠ 0 := by intro h0; simp [h0] at h1
    obtain ⟨l, r, m, hk, hb⟩ := boundsT_val (P := P) (isS := true) hmx hh
    refine ⟨_, hk, fun h => ?_⟩
    simp only [Instr.sliceAt, semWP_bind, semWP_underlying hd, Instr.slice]
    refine hb h _ ?_
    simp only [semWP_sizeOf_cells hc]
    exact ⟨rfl, rfl⟩
  · rename_i n el p hd
    obtain ⟨h1, hh⟩ := condP_iff.1 hh
    have hc : P.cellsOf el ≠ 0 := by intro h0; simp [h0] at h1
    obtain ⟨a, hp, hh1⟩ := wth_elim hh
    clear hh
    subst hp
    obtain ⟨l, r, m, hk, hb⟩ := boundsT_val (P := P) (isS := false) hmx hh1
    refine ⟨_, hk, fun h => ?_⟩
    simp only [Instr.sliceAt, semWP_bind, semWP_underlying hd, Instr.sureAddr, semWP_ret]
    refine hb h _ ?_
    simp [semWP_sizeOf_cells hc]
  · exact hh.elim
end
end Go.Proofs.Ytmdhfmljgjnggaa
