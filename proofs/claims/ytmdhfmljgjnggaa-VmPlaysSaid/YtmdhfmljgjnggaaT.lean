/- The precondition of a function's code, in memory alone, as a formula that the kernel writes out. No condition. -/
import Derived.Test.YtmdhfmljgjnggaaHeap
namespace Go.Proofs.Ytmdhfmljgjnggaa

/-- A value's shape. -/
inductive Sh where
  | int (k : IntKind) | bool | str | ptr | sl | mp | val
  | agg (l : List Sh)
  | row (n : Nat)
  | bad

def Sh.scalar : Sh → Bool
  | .agg _ | .row _ | .bad => false
  | _ => true

abbrev Sh.T : Sh → Type
  | .int _ => Int
  | .bool => Bool
  | .str => ByteArray
  | .ptr => Option Addr
  | .sl => Option Addr × Nat × Nat
  | .mp => Option Nat
  | .row _ => Array Value
  | _ => Value

def Sh.inj : (s : Sh) → s.T → Value
  | .int k, (n : Int) => .int k n
  | .bool, (b : Bool) => .bool b
  | .str, (s : ByteArray) => .string s
  | .ptr, (p : Option Addr) => .pointer p
  | .sl, (x : Option Addr × Nat × Nat) => .slice x.1 x.2.1 x.2.2
  | .mp, (r : Option Nat) => .map r
  | .row _, (cs : Array Value) => .agg cs
  | .val, (v : Value) => v
  | .agg _, (v : Value) => v
  | .bad, (v : Value) => v

/-- There is a value of the shape of which K holds. -/
def exSc : Sh → (Value → Prop) → Prop
  | .int k, K => ∃ n : Int, K (.int k n)
  | .bool, K => ∃ b : Bool, K (.bool b)
  | .str, K => ∃ s : ByteArray, K (.string s)
  | .ptr, K => ∃ p : Option Addr, K (.pointer p)
  | .sl, K => ∃ (p : Option Addr) (n c : Nat), K (.slice p n c)
  | .mp, K => ∃ r : Option Nat, K (.map r)
  | .row _, K => ∃ cs : Array Value, K (.agg cs)
  | .val, K => ∃ v : Value, K v
  | .agg _, _ => False
  | .bad, _ => False

def exL : List Sh → List Value → (List Value → Prop) → Prop
  | [], acc, K => K acc.reverse
  | s :: ss, acc, K => exSc s fun v => exL ss (v :: acc) K

theorem exSc_elim {s : Sh} {K : Value → Prop} (h : exSc s K) : ∃ v, K v := by
  cases s <;> simp only [exSc] at h
  case sl => obtain ⟨p, n, c, h⟩ := h; exact ⟨_, h⟩
  all_goals obtain ⟨x, h⟩ := h; exact ⟨_, h⟩
theorem exL_elim {ss : List Sh} : ∀ {acc : List Value} {K : List Value → Prop}, exL ss acc K → ∃ vs, K vs := by
  induction ss with
  | nil => intro acc K h; exact ⟨_, h⟩
  | cons s ss ih => intro acc K h; obtain ⟨v, hv⟩ := exSc_elim h; exact ih hv

/-- If b then x else y, taken apart as soon as b is known. -/
def iteP (b : Bool) (x y : Prop) : Prop := match b with | true => x | false => y
theorem iteP_iff {b : Bool} {x y : Prop} : iteP b x y ↔ (b = true → x) ∧ (b = false → y) := by cases b <;> simp [iteP]
/-- A side condition that the kernel reckons. -/
def condP (b : Bool) (x : Prop) : Prop := match b with | true => x | false => False
theorem condP_iff {b : Bool} {x : Prop} : condP b x ↔ b = true ∧ x := by cases b <;> simp [condP]

/-- Memory under a name. -/
def letH (x : Hp) (K : Hp → Prop) : Prop := ∀ h, h = x → K h
theorem letH_iff {x : Hp} {K : Hp → Prop} : letH x K ↔ K x := ⟨fun h => h x rfl, fun h _ e => e ▸ h⟩

section
variable (P : Program)
def flatSh : Nat → TypeId → List Sh
  | 0, _ => []
  | f + 1, t => match P.underlying t with
    | some (.int k) => [.int k]
    | some .bool => [.bool]
    | some .string => [.str]
    | some (.pointer _) => [.ptr]
    | some (.slice _) => [.sl]
    | some (.map _ _) => [.mp]
    | some (.struct fs) => (fs.toList.map fun g => flatSh f g.type).flatten
    | some (.array _ _) => [.row 0]
    | some _ => [.val]
    | none => [.bad]
def isRow : Sh → Bool
  | .row _ => true
  | _ => false
/-- The shape in which a value of this type is told: structs without arrays cell by cell, arrays as rows of cells. -/
def shapeOf (t : TypeId) : Sh :=
  match P.underlying t with
  | some (.struct _) => match (flatSh P 8 t).any isRow with
    | true => .row (P.cellsOf t)
    | false => match Nat.beq (flatSh P 8 t).length (P.cellsOf t) with
      | true => .agg (flatSh P 8 t)
      | false => .bad
  | some (.array _ _) => .row (P.cellsOf t)
  | some (.int k) => .int k
  | some .bool => .bool
  | some .string => .str
  | some (.pointer _) => .ptr
  | some (.slice _) => .sl
  | some (.map _ _) => .mp
  | some _ => .val
  | none => .bad
def exTy (t : TypeId) (K : Value → Prop) : Prop :=
  match shapeOf P t with
  | .agg ss => exL ss [] fun vs => K (.agg ⟨vs⟩)
  | s => exSc s K
def exTys : List TypeId → List Value → (List Value → Prop) → Prop
  | [], acc, K => K acc.reverse
  | t :: ts, acc, K => exTy P t fun v => exTys ts (v :: acc) K
theorem exTy_elim {t : TypeId} {K : Value → Prop} (h : exTy P t K) : ∃ v, K v := by
  unfold exTy at h
  split at h
  · obtain ⟨vs, h⟩ := exL_elim h; exact ⟨_, h⟩
  · exact exSc_elim h
theorem exTys_elim {ts : List TypeId} : ∀ {acc : List Value} {K : List Value → Prop}, exTys P ts acc K → ∃ vs, K vs := by
  induction ts with
  | nil => intro acc K h; exact ⟨_, h⟩
  | cons t ts ih => intro acc K h; obtain ⟨v, hv⟩ := exTy_elim P h; exact ih hv
end

/-- The slots that are known, the newest first. -/
abbrev Env := List (Tmp × Value)
def Env.get : Env → Tmp → Option Value
  | [], _ => none
  | (u, v) :: e, t => match Nat.beq t u with | true => some v | false => Env.get e t
def Env.put (e : Env) (d : Option Tmp) (v : Value) : Env := match d with | some d => (d, v) :: e | none => e
def Env.ev (e : Env) : Operand → Option Value
  | .tmp t => e.get t
  | .const v => some v
  | .global g => some (.pointer (some ⟨g, 0, none⟩))
  | .func f => some (.func (.func f) #[] #[])
def Env.evs (e : Env) : List Operand → Option (List Value)
  | [] => some []
  | x :: xs => match e.ev x with
    | some v => match Env.evs e xs with
      | some vs => some (v :: vs)
      | none => none
    | none => none
/-- K of an operand's value. -/
def wth {α : Type} (o : Option α) (K : α → Prop) : Prop := match o with | some a => K a | none => False
theorem wth_elim {α : Type} {o : Option α} {K : α → Prop} (h : wth o K) : ∃ a, o = some a ∧ K a := by
  cases o with
  | none => exact h.elim
  | some a => exact ⟨a, rfl, h⟩

def Agree (e : Env) (a : Act) : Prop := ∀ t v, e.get t = some v → a.tmps[t]? = some v

section
variable (P : Program)

/-- Cells n of a row, at an address. -/
def rowAt (h : Hp) (a : Addr) (n : Nat) (cs : Array Value) : Prop := cs.size = n ∧ ∀ i, i < n → cellAt h (a.add i) = cs[i]?
/-- Cells laid one behind the other. -/
def setL (h : Hp) (a : Addr) : List Value → Nat → Hp
  | [], _ => h
  | v :: vs, i => setL (setH h (a.add i) v) a vs (i + 1)
def setRow (h : Hp) (a : Addr) (cs : Array Value) : Hp := setL h a cs.toList 0
def okRow (h : Hp) (a : Addr) (n : Nat) : Prop := ∀ i, i < n → (∃ old, cellAt h (a.add i) = some old) ∧ frozenAt h (a.add i) = false

def loadL (h : Hp) (a : Addr) : List Sh → Nat → List Value → (Value → Prop) → Prop
  | [], _, acc, K => K (.agg ⟨acc.reverse⟩)
  | s :: ss, i, acc, K => exSc s fun v => cellAt h (a.add i) = some v ∧ loadL h a ss (i + 1) (v :: acc) K
def loadT (t : TypeId) (h : Hp) (a : Addr) (K : Value → Prop) : Prop :=
  match shapeOf P t with
  | .agg ss => loadL h a ss 0 [] K
  | .row n => ∃ cs : Array Value, rowAt h a n cs ∧ K (.agg cs)
  | s => exSc s fun v => cellAt h a = some v ∧ K v
def storeL (h : Hp) (a : Addr) : List Value → Nat → (Hp → Prop) → Prop
  | [], _, K => K h
  | v :: vs, i, K => condP (oneV v) ((∃ old, cellAt h (a.add i) = some old) ∧ frozenAt h (a.add i) = false ∧ letH (setH h (a.add i) v) fun h' => storeL h' a vs (i + 1) K)
/-- A part of an aggregate. -/
def partT (t : TypeId) (cs : Array Value) (off : Nat) (K : Value → Prop) : Prop :=
  match shapeOf P t with
  | .agg ss => exL ss [] fun vs => cs.extract off (off + P.cellsOf t) = ⟨vs⟩ ∧ K (.agg ⟨vs⟩)
  | .row n => K (.agg (cs.extract off (off + n)))
  | s => exSc s fun v => cs[off]? = some v ∧ K v
end
end Go.Proofs.Ytmdhfmljgjnggaa
