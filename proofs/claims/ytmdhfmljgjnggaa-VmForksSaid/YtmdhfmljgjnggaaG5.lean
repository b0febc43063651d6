/- The texts Qref, one behind the other. No condition. -/
import Derived.Test.YtmdhfmljgjnggaaG4
/- Formulas of the reference of vm. No condition. -/
set_option linter.constructorNameAsVariable false
namespace Go.Proofs.Ytmdhfmljgjnggaa

def q_ref19_New_ann : Ann := { loops := fun _ => [], ty := fun _ => [], canon := fun _ => [], cuts := fun _ => none }
def q_ref19_New (x0 : Int) (h : Hp) (K : Value → Hp → Prop) : Prop :=
    CallsH Try.prog f_ref06_New #[(.int .i64 x0)] h fun r1 h2 => ∃ p3 : Option Addr, r1 = (.pointer p3) ∧ iteP p3.isNone (K (.pointer none) h2) (letH (h2.push (.cells ⟨(fillL (zeroCells Try.prog T_N_ref19_Vm).toList 0 [(.pointer p3)])⟩ T_N_ref19_Vm)) fun h4
    => K (.pointer (some ⟨h2.size, 0, none⟩)) h4)
theorem q_ref19_New_calls (x0 : Int) (h : Hp) (K : Value → Hp → Prop) (hq : q_ref19_New x0 h K) : CallsH Try.prog f_ref19_New #[(.int .i64 x0)] h K := by
  have e : q_ref19_New x0 h K = fnT Try.prog 11 q_ref19_New_ann Try.f86 (bodyOf Try.f86) [(.int .i64 x0)] h K := by kernel_rfl
  rw [e] at hq
  exact calls_of_fnT (n := 11) (ann := q_ref19_New_ann) mixOk Try.func86 (by kernel_rfl) (by kernel_rfl) (fun args w => Try.call86 args w) (by kernel_rfl) hq

def q_ref19_Vm_may_ann : Ann := { loops := fun _ => [], ty := fun _ => [], canon := fun _ => [], cuts := fun _ => none }
def q_ref19_Vm_may (x0 : Nat) (x1 : Int) (h : Hp) (K : Value → Hp → Prop) : Prop :=
    iteP (decide (x1 < 0)) (K (.int .i64 5) h) (iteP (decide (x1 ≥ 6)) (K (.int .i64 5) h) ((0 : Int) ≤ x1 ∧ x1 < ((6 : Nat) : Int) ∧ ∃ b1 : Bool, cellAt h ((⟨x0, 1, none⟩ : Addr).add (Int.toNat x1 * 1)) = some (.bool b1) ∧ iteP (!b1) (K (.int .i64 5) h) (K (.int .i64 0) h)))
theorem q_ref19_Vm_may_calls (x0 : Nat) (x1 : Int) (h : Hp) (K : Value → Hp → Prop) (hq : q_ref19_Vm_may x0 x1 h K) : CallsH Try.prog f_ref19_Vm_may #[(.pointer (some ⟨x0, 0, none⟩)), (.int .i64 x1)] h K := by
  have e : q_ref19_Vm_may x0 x1 h K = fnT Try.prog 24 q_ref19_Vm_may_ann Try.f129 (bodyOf Try.f129) [(.pointer (some ⟨x0, 0, none⟩)), (.int .i64 x1)] h K := by kernel_rfl
  rw [e] at hq
  exact calls_of_fnT (n := 24) (ann := q_ref19_Vm_may_ann) mixOk Try.func129 (by kernel_rfl) (by kernel_rfl) (fun args w => Try.call129 args w) (by kernel_rfl) hq

def q_ref19_Vm_fresh_ann : Ann := { loops := fun _ => [], ty := fun _ => [], canon := fun _ => [], cuts := fun _ => none }
def q_ref19_Vm_fresh (x0 : Nat) (x1 : Int) (h : Hp) (K : Value → Hp → Prop) : Prop :=
    iteP (decide (x1 < 0)) (K (.int .i64 2) h) (iteP (decide (x1 ≥ 6)) (K (.int .i64 2) h) ((0 : Int) ≤ x1 ∧ x1 < ((6 : Nat) : Int) ∧ ∃ b1 : Bool, cellAt h ((⟨x0, 1, none⟩ : Addr).add (Int.toNat x1 * 1)) = some (.bool b1) ∧ iteP b1 (K (.int .i64 6) h) (K (.int .i64 0) h)))
theorem q_ref19_Vm_fresh_calls (x0 : Nat) (x1 : Int) (h : Hp) (K : Value → Hp → Prop) (hq : q_ref19_Vm_fresh x0 x1 h K) : CallsH Try.prog f_ref19_Vm_fresh #[(.pointer (some ⟨x0, 0, none⟩)), (.int .i64 x1)] h K := by
  have e : q_ref19_Vm_fresh x0 x1 h K = fnT Try.prog 22 q_ref19_Vm_fresh_ann Try.f134 (bodyOf Try.f134) [(.pointer (some ⟨x0, 0, none⟩)), (.int .i64 x1)] h K := by kernel_rfl
  rw [e] at hq
  exact calls_of_fnT (n := 22) (ann := q_ref19_Vm_fresh_ann) mixOk Try.func134 (by kernel_rfl) (by kernel_rfl) (fun args w => Try.call134 args w) (by kernel_rfl) hq

def q_ref19_Vm_Begin_ann : Ann := { loops := fun _ => [], ty := fun _ => [], canon := fun _ => [], cuts := fun _ => none }
def q_ref19_Vm_Begin (x0 : Nat) (x1 : Int) (h : Hp) (K : Value → Hp → Prop) : Prop :=
    CallsH Try.prog f_ref19_Vm_fresh #[(.pointer (some ⟨x0, 0, none⟩)), (.int .i64 x1)] h fun r1 h2 => ∃ n3 : Int, r1 = (.int .i64 n3) ∧ iteP (n3 == 0) ((0 : Int) ≤ x1 ∧ x1 < ((6 : Nat) : Int) ∧ (∃ old, cellAt h2 ((⟨x0, 1, none⟩ : Addr).add (Int.toNat x1 * 1)) = some old)
    ∧ frozenAt h2 ((⟨x0, 1, none⟩ : Addr).add (Int.toNat x1 * 1)) = false ∧ letH (setH h2 ((⟨x0, 1, none⟩ : Addr).add (Int.toNat x1 * 1)) (.bool true)) fun h4 => K (.int .i64 n3) h4) (K (.int .i64 n3) h2)
theorem q_ref19_Vm_Begin_calls (x0 : Nat) (x1 : Int) (h : Hp) (K : Value → Hp → Prop) (hq : q_ref19_Vm_Begin x0 x1 h K) : CallsH Try.prog f_ref19_Vm_Begin #[(.pointer (some ⟨x0, 0, none⟩)), (.int .i64 x1)] h K := by
  have e : q_ref19_Vm_Begin x0 x1 h K = fnT Try.prog 17 q_ref19_Vm_Begin_ann Try.f96 (bodyOf Try.f96) [(.pointer (some ⟨x0, 0, none⟩)), (.int .i64 x1)] h K := by kernel_rfl
  rw [e] at hq
  exact calls_of_fnT (n := 17) (ann := q_ref19_Vm_Begin_ann) mixOk Try.func96 (by kernel_rfl) (by kernel_rfl) (fun args w => Try.call96 args w) (by kernel_rfl) hq

def q_ref19_Vm_End_ann : Ann := { loops := fun x => match x with | 0 => [(6, T_int)] | _ => [], ty := fun _ => [], canon := fun _ => [], cuts := fun _ => none }
def q_ref19_Vm_End (x0 : Nat) (x1 : Int) (h : Hp) (K : Value → Hp → Prop) : Prop :=
    CallsH Try.prog f_ref19_Vm_may #[(.pointer (some ⟨x0, 0, none⟩)), (.int .i64 x1)] h fun r1 h2 => ∃ n3 : Int, r1 = (.int .i64 n3) ∧ iteP (n3 == 0) ((0 : Int) ≤ x1 ∧ x1 < ((6 : Nat) : Int) ∧ (∃ old, cellAt h2 ((⟨x0, 1, none⟩ : Addr).add (Int.toNat x1 * 1)) = some old)
    ∧ frozenAt h2 ((⟨x0, 1, none⟩ : Addr).add (Int.toNat x1 * 1)) = false ∧ letH (setH h2 ((⟨x0, 1, none⟩ : Addr).add (Int.toNat x1 * 1)) (.bool false)) fun h4 => ∃ (I5 : Int → Hp → Prop) (μ6 : Int → Hp → Nat), I5 0 h4 ∧ ∀ i7 h8, I5 i7 h8 → iteP (decide (i7 < 16)) ((0 : Int) ≤ x1
    ∧ x1 < ((6 : Nat) : Int) ∧ (0 : Int) ≤ i7 ∧ i7 < ((16 : Nat) : Int) ∧ (∃ old, cellAt h8 (((⟨x0, 7, none⟩ : Addr).add (Int.toNat x1 * 32)).add (Int.toNat i7 * 2)) = some old) ∧ frozenAt h8 (((⟨x0, 7, none⟩ : Addr).add (Int.toNat x1 * 32)).add (Int.toNat i7 * 2)) = false
    ∧ letH (setH h8 (((⟨x0, 7, none⟩ : Addr).add (Int.toNat x1 * 32)).add (Int.toNat i7 * 2)) (.bool false)) fun h9 => (∃ old, cellAt h9 ((((⟨x0, 7, none⟩ : Addr).add (Int.toNat x1 * 32)).add (Int.toNat i7 * 2)).add 1) = some old)
    ∧ frozenAt h9 ((((⟨x0, 7, none⟩ : Addr).add (Int.toNat x1 * 32)).add (Int.toNat i7 * 2)).add 1) = false ∧ letH (setH h9 ((((⟨x0, 7, none⟩ : Addr).add (Int.toNat x1 * 32)).add (Int.toNat i7 * 2)).add 1) (.int .i64 0)) fun h10
    => I5 (IntKind.wrap .i64 (i7 + 1)) h10 ∧ μ6 (IntKind.wrap .i64 (i7 + 1)) h10 < μ6 i7 h8) (K (.int .i64 n3) h8)) (K (.int .i64 n3) h2)
theorem q_ref19_Vm_End_calls (x0 : Nat) (x1 : Int) (h : Hp) (K : Value → Hp → Prop) (hq : q_ref19_Vm_End x0 x1 h K) : CallsH Try.prog f_ref19_Vm_End #[(.pointer (some ⟨x0, 0, none⟩)), (.int .i64 x1)] h K := by
  have e : q_ref19_Vm_End x0 x1 h K = fnT Try.prog 30 q_ref19_Vm_End_ann Try.f97 (bodyOf Try.f97) [(.pointer (some ⟨x0, 0, none⟩)), (.int .i64 x1)] h K := by kernel_rfl
  rw [e] at hq
  exact calls_of_fnT (n := 30) (ann := q_ref19_Vm_End_ann) mixOk Try.func97 (by kernel_rfl) (by kernel_rfl) (fun args w => Try.call97 args w) (by kernel_rfl) hq

def q_ref19_Vm_Fork_ann : Ann := { loops := fun _ => [], ty := fun _ => [], canon := fun x => match x with | 7 => [0, 1, 2, 3, 4, 5, 6, 7, 8, 9, 10, 11, 12, 14, 15, 13, 16, 17] | _ => [], cuts := fun _ => none }
def q_ref19_Vm_Fork (x0 : Nat) (x1 : Int) (x2 : Int) (h : Hp) (K : Value → Hp → Prop) : Prop :=
    CallsH Try.prog f_ref19_Vm_may #[(.pointer (some ⟨x0, 0, none⟩)), (.int .i64 x1)] h fun r1 h2 => ∃ n3 : Int, r1 = (.int .i64 n3) ∧ iteP (n3 != 0) (K (.int .i64 n3) h2) (CallsH Try.prog f_ref19_Vm_fresh #[(.pointer (some ⟨x0, 0, none⟩)), (.int .i64 x2)] h2 fun r4 h5
    => ∃ n6 : Int, r4 = (.int .i64 n6) ∧ iteP (n6 != 0) (K (.int .i64 n6) h5) ((0 : Int) ≤ x1 ∧ x1 < ((6 : Nat) : Int) ∧ ∃ cs7 : Array Value, rowAt h5 ((⟨x0, 7, none⟩ : Addr).add (Int.toNat x1 * 32)) 32 cs7 ∧ (0 : Int) ≤ x2 ∧
    x2 < ((6 : Nat) : Int) ∧ (∃ old, cellAt h5 ((⟨x0, 1, none⟩ : Addr).add (Int.toNat x2 * 1)) = some old) ∧ frozenAt h5 ((⟨x0, 1, none⟩ : Addr).add (Int.toNat x2 * 1)) = false ∧ letH (setH h5 ((⟨x0, 1, none⟩ : Addr).add (Int.toNat x2 * 1)) (.bool true)) fun h8
    => (0 : Int) ≤ x2 ∧ x2 < ((6 : Nat) : Int) ∧ (cs7 : Array Value).size = 32 ∧ (∀ i, i < 32 → ∃ u, (cs7 : Array Value)[i]? = some u ∧ oneV u = true) ∧ okRow h8 ((⟨x0, 7, none⟩ : Addr).add (Int.toNat x2 * 32)) 32 ∧ letH (setRow h8 ((⟨x0, 7, none⟩ : Addr).add (Int.toNat x2 * 32)) cs7) fun h9
    => K (.int .i64 0) h9))
theorem q_ref19_Vm_Fork_calls (x0 : Nat) (x1 : Int) (x2 : Int) (h : Hp) (K : Value → Hp → Prop) (hq : q_ref19_Vm_Fork x0 x1 x2 h K) : CallsH Try.prog f_ref19_Vm_Fork #[(.pointer (some ⟨x0, 0, none⟩)), (.int .i64 x1), (.int .i64 x2)] h K := by
  have e : q_ref19_Vm_Fork x0 x1 x2 h K = fnT Try.prog 37 q_ref19_Vm_Fork_ann Try.f98 (bodyOf Try.f98) [(.pointer (some ⟨x0, 0, none⟩)), (.int .i64 x1), (.int .i64 x2)] h K := by kernel_rfl
  rw [e] at hq
  exact calls_of_fnT (n := 37) (ann := q_ref19_Vm_Fork_ann) mixOk Try.func98 (by kernel_rfl) (by kernel_rfl) (fun args w => Try.call98 args w) (by kernel_rfl) hq

def q_ref19_Vm_Map_ann : Ann := { loops := fun _ => [], ty := fun _ => [], canon := fun _ => [], cuts := fun _ => none }
def q_ref19_Vm_Map (x0 : Nat) (x1 : Int) (x2 : Int) (h : Hp) (K : Value → Hp → Prop) : Prop :=
    CallsH Try.prog f_ref19_Vm_may #[(.pointer (some ⟨x0, 0, none⟩)), (.int .i64 x1)] h fun r1 h2 => ∃ n3 : Int, r1 = (.int .i64 n3) ∧ iteP (n3 != 0) (K (.int .i64 n3) h2) (iteP (decide (x2 < 0)) (K (.int .i64 2) h2) (iteP (decide (x2 ≥ 16)) (K (.int .i64 2) h2) ((0 : Int) ≤ x1
    ∧ x1 < ((6 : Nat) : Int) ∧ (0 : Int) ≤ x2 ∧ x2 < ((16 : Nat) : Int) ∧ ∃ b4 : Bool, cellAt h2 (((⟨x0, 7, none⟩ : Addr).add (Int.toNat x1 * 32)).add (Int.toNat x2 * 2)) = some (.bool b4) ∧ iteP b4 (K (.int .i64 6) h2) ((0 : Int) ≤ x1
    ∧ x1 < ((6 : Nat) : Int) ∧ (0 : Int) ≤ x2 ∧ x2 < ((16 : Nat) : Int) ∧ (∃ old, cellAt h2 (((⟨x0, 7, none⟩ : Addr).add (Int.toNat x1 * 32)).add (Int.toNat x2 * 2)) = some old) ∧ frozenAt h2 (((⟨x0, 7, none⟩ : Addr).add (Int.toNat x1 * 32)).add (Int.toNat x2 * 2)) = false
    ∧ letH (setH h2 (((⟨x0, 7, none⟩ : Addr).add (Int.toNat x1 * 32)).add (Int.toNat x2 * 2)) (.bool true)) fun h5 => (∃ old, cellAt h5 ((((⟨x0, 7, none⟩ : Addr).add (Int.toNat x1 * 32)).add (Int.toNat x2 * 2)).add 1) = some old)
    ∧ frozenAt h5 ((((⟨x0, 7, none⟩ : Addr).add (Int.toNat x1 * 32)).add (Int.toNat x2 * 2)).add 1) = false ∧ letH (setH h5 ((((⟨x0, 7, none⟩ : Addr).add (Int.toNat x1 * 32)).add (Int.toNat x2 * 2)).add 1) (.int .i64 0)) fun h6
    => K (.int .i64 0) h6))))
theorem q_ref19_Vm_Map_calls (x0 : Nat) (x1 : Int) (x2 : Int) (h : Hp) (K : Value → Hp → Prop) (hq : q_ref19_Vm_Map x0 x1 x2 h K) : CallsH Try.prog f_ref19_Vm_Map #[(.pointer (some ⟨x0, 0, none⟩)), (.int .i64 x1), (.int .i64 x2)] h K := by
  have e : q_ref19_Vm_Map x0 x1 x2 h K = fnT Try.prog 39 q_ref19_Vm_Map_ann Try.f99 (bodyOf Try.f99) [(.pointer (some ⟨x0, 0, none⟩)), (.int .i64 x1), (.int .i64 x2)] h K := by kernel_rfl
  rw [e] at hq
  exact calls_of_fnT (n := 39) (ann := q_ref19_Vm_Map_ann) mixOk Try.func99 (by kernel_rfl) (by kernel_rfl) (fun args w => Try.call99 args w) (by kernel_rfl) hq

def q_ref19_Vm_Unmap_ann : Ann := { loops := fun _ => [], ty := fun _ => [], canon := fun _ => [], cuts := fun _ => none }
def q_ref19_Vm_Unmap (x0 : Nat) (x1 : Int) (x2 : Int) (h : Hp) (K : Value → Hp → Prop) : Prop :=
    CallsH Try.prog f_ref19_Vm_may #[(.pointer (some ⟨x0, 0, none⟩)), (.int .i64 x1)] h fun r1 h2 => ∃ n3 : Int, r1 = (.int .i64 n3) ∧ iteP (n3 != 0) (K (.int .i64 n3) h2) (iteP (decide (x2 < 0)) (K (.int .i64 2) h2) (iteP (decide (x2 ≥ 16)) (K (.int .i64 2) h2) ((0 : Int) ≤ x1
    ∧ x1 < ((6 : Nat) : Int) ∧ (0 : Int) ≤ x2 ∧ x2 < ((16 : Nat) : Int) ∧ ∃ b4 : Bool, cellAt h2 (((⟨x0, 7, none⟩ : Addr).add (Int.toNat x1 * 32)).add (Int.toNat x2 * 2)) = some (.bool b4) ∧ iteP (!b4) (K (.int .i64 10) h2) ((0 : Int) ≤ x1
    ∧ x1 < ((6 : Nat) : Int) ∧ (0 : Int) ≤ x2 ∧ x2 < ((16 : Nat) : Int) ∧ (∃ old, cellAt h2 (((⟨x0, 7, none⟩ : Addr).add (Int.toNat x1 * 32)).add (Int.toNat x2 * 2)) = some old) ∧ frozenAt h2 (((⟨x0, 7, none⟩ : Addr).add (Int.toNat x1 * 32)).add (Int.toNat x2 * 2)) = false
    ∧ letH (setH h2 (((⟨x0, 7, none⟩ : Addr).add (Int.toNat x1 * 32)).add (Int.toNat x2 * 2)) (.bool false)) fun h5 => (∃ old, cellAt h5 ((((⟨x0, 7, none⟩ : Addr).add (Int.toNat x1 * 32)).add (Int.toNat x2 * 2)).add 1) = some old)
    ∧ frozenAt h5 ((((⟨x0, 7, none⟩ : Addr).add (Int.toNat x1 * 32)).add (Int.toNat x2 * 2)).add 1) = false ∧ letH (setH h5 ((((⟨x0, 7, none⟩ : Addr).add (Int.toNat x1 * 32)).add (Int.toNat x2 * 2)).add 1) (.int .i64 0)) fun h6
    => K (.int .i64 0) h6))))
theorem q_ref19_Vm_Unmap_calls (x0 : Nat) (x1 : Int) (x2 : Int) (h : Hp) (K : Value → Hp → Prop) (hq : q_ref19_Vm_Unmap x0 x1 x2 h K) : CallsH Try.prog f_ref19_Vm_Unmap #[(.pointer (some ⟨x0, 0, none⟩)), (.int .i64 x1), (.int .i64 x2)] h K := by
  have e : q_ref19_Vm_Unmap x0 x1 x2 h K = fnT Try.prog 40 q_ref19_Vm_Unmap_ann Try.f100 (bodyOf Try.f100) [(.pointer (some ⟨x0, 0, none⟩)), (.int .i64 x1), (.int .i64 x2)] h K := by kernel_rfl
  rw [e] at hq
  exact calls_of_fnT (n := 40) (ann := q_ref19_Vm_Unmap_ann) mixOk Try.func100 (by kernel_rfl) (by kernel_rfl) (fun args w => Try.call100 args w) (by kernel_rfl) hq

def q_ref19_Vm_next_ann : Ann := { loops := fun x => match x with | 0 => [(3, T_int)] | _ => [], ty := fun _ => [], canon := fun _ => [], cuts := fun _ => none }
def q_ref19_Vm_next (x0 : Nat) (h : Hp) (K : Value → Hp → Prop) : Prop :=
    ∃ (I1 : Int → Hp → Prop) (μ2 : Int → Hp → Nat), I1 0 h ∧ ∀ i3 h4, I1 i3 h4 → ∃ p5 : Option Addr, cellAt h4 ⟨x0, 0, none⟩ = some (.pointer p5) ∧ CallsH Try.prog f_ref06_Memory_Size #[(.pointer p5)] h4 fun r6 h7 => ∃ n8 : Int, r6 = (.int .i64 n8)
    ∧ iteP (decide (i3 < n8)) (CallsH Try.prog f_ref19_Vm_Refs #[(.pointer (some ⟨x0, 0, none⟩)), (.int .i64 i3)] h7 fun r9 h10 => ∃ n11 : Int, r9 = (.int .i64 n11) ∧ iteP (n11 == 0) (K (.int .i64 i3) h10) (I1 (IntKind.wrap .i64 (i3 + 1)) h10
    ∧ μ2 (IntKind.wrap .i64 (i3 + 1)) h10 < μ2 i3 h4)) (K (.int .i64 (-1)) h7)
theorem q_ref19_Vm_next_calls (x0 : Nat) (h : Hp) (K : Value → Hp → Prop) (hq : q_ref19_Vm_next x0 h K) : CallsH Try.prog f_ref19_Vm_next #[(.pointer (some ⟨x0, 0, none⟩))] h K := by
  have e : q_ref19_Vm_next x0 h K = fnT Try.prog 18 q_ref19_Vm_next_ann Try.f136 (bodyOf Try.f136) [(.pointer (some ⟨x0, 0, none⟩))] h K := by kernel_rfl
  rw [e] at hq
  exact calls_of_fnT (n := 18) (ann := q_ref19_Vm_next_ann) mixOk Try.func136 (by kernel_rfl) (by kernel_rfl) (fun args w => Try.call136 args w) (by kernel_rfl) hq

def q_ref19_Vm_at_ann : Ann := { loops := fun _ => [], ty := fun _ => [], canon := fun _ => [], cuts := fun _ => none }
def q_ref19_Vm_at (x0 : Nat) (x1 : Int) (x2 : Int) (h : Hp) (K : Value → Hp → Prop) : Prop :=
    CallsH Try.prog f_ref19_Vm_may #[(.pointer (some ⟨x0, 0, none⟩)), (.int .i64 x1)] h fun r1 h2 => ∃ n3 : Int, r1 = (.int .i64 n3) ∧ iteP (n3 != 0) (K (.int .i64 n3) h2) (iteP (decide (x2 < 0)) (K (.int .i64 2) h2) (iteP (decide (x2 ≥ 512)) (K (.int .i64 2) h2) ((0 : Int) ≤ x1
    ∧ x1 < ((6 : Nat) : Int) ∧ (0 : Int) ≤ (IntKind.wrap .i64 (Int.tdiv x2 32)) ∧ (IntKind.wrap .i64 (Int.tdiv x2 32)) < ((16 : Nat) : Int) ∧ ∃ b4 : Bool, cellAt h2 (((⟨x0, 7, none⟩ : Addr).add (Int.toNat x1 * 32)).add (Int.toNat (IntKind.wrap .i64 (Int.tdiv x2 32)) * 2)) = some (.bool b4)
    ∧ iteP (!b4) (K (.int .i64 10) h2) (K (.int .i64 0) h2))))
theorem q_ref19_Vm_at_calls (x0 : Nat) (x1 : Int) (x2 : Int) (h : Hp) (K : Value → Hp → Prop) (hq : q_ref19_Vm_at x0 x1 x2 h K) : CallsH Try.prog f_ref19_Vm_at #[(.pointer (some ⟨x0, 0, none⟩)), (.int .i64 x1), (.int .i64 x2)] h K := by
  have e : q_ref19_Vm_at x0 x1 x2 h K = fnT Try.prog 33 q_ref19_Vm_at_ann Try.f130 (bodyOf Try.f130) [(.pointer (some ⟨x0, 0, none⟩)), (.int .i64 x1), (.int .i64 x2)] h K := by kernel_rfl
  rw [e] at hq
  exact calls_of_fnT (n := 33) (ann := q_ref19_Vm_at_ann) mixOk Try.func130 (by kernel_rfl) (by kernel_rfl) (fun args w => Try.call130 args w) (by kernel_rfl) hq

def q_ref19_Vm_Peek_ann : Ann := { loops := fun _ => [], ty := fun _ => [], canon := fun _ => [], cuts := fun _ => none }
def q_ref19_Vm_Peek (x0 : Nat) (x1 : Int) (x2 : Int) (h : Hp) (K : Value → Hp → Prop) : Prop :=
    CallsH Try.prog f_ref19_Vm_at #[(.pointer (some ⟨x0, 0, none⟩)), (.int .i64 x1), (.int .i64 x2)] h fun r1 h2 => ∃ n3 : Int, r1 = (.int .i64 n3) ∧ iteP (n3 != 0) (K (.tuple #[(.int .u8 0), (.int .i64 n3)]) h2) ((0 : Int) ≤ x1
    ∧ x1 < ((6 : Nat) : Int) ∧ (0 : Int) ≤ (IntKind.wrap .i64 (Int.tdiv x2 32)) ∧ (IntKind.wrap .i64 (Int.tdiv x2 32)) < ((16 : Nat) : Int) ∧ ∃ n4 : Int, cellAt h2 ((((⟨x0, 7, none⟩ : Addr).add (Int.toNat x1 * 32)).add (Int.toNat (IntKind.wrap .i64 (Int.tdiv x2 32)) * 2)).add 1) = some (.int .i64 n4)
    ∧ iteP (n4 == 0) (K (.tuple #[(.int .u8 0), (.int .i64 0)]) h2) (∃ p5 : Option Addr, cellAt h2 ⟨x0, 0, none⟩ = some (.pointer p5) ∧ CallsH Try.prog f_ref06_Memory_Byte #[(.pointer p5), (.int .i64 (IntKind.wrap .i64 (n4 - 1))), (.int .i64 (Int.tmod x2 32))] h2 fun r6 h7
    => ∃ n8 : Int, ∃ n9 : Int, r6 = (.tuple #[(.int .u8 n8), (.int .i64 n9)]) ∧ K (.tuple #[(.int .u8 n8), (.int .i64 n9)]) h7))
theorem q_ref19_Vm_Peek_calls (x0 : Nat) (x1 : Int) (x2 : Int) (h : Hp) (K : Value → Hp → Prop) (hq : q_ref19_Vm_Peek x0 x1 x2 h K) : CallsH Try.prog f_ref19_Vm_Peek #[(.pointer (some ⟨x0, 0, none⟩)), (.int .i64 x1), (.int .i64 x2)] h K := by
  have e : q_ref19_Vm_Peek x0 x1 x2 h K = fnT Try.prog 40 q_ref19_Vm_Peek_ann Try.f90 (bodyOf Try.f90) [(.pointer (some ⟨x0, 0, none⟩)), (.int .i64 x1), (.int .i64 x2)] h K := by kernel_rfl
  rw [e] at hq
  exact calls_of_fnT (n := 40) (ann := q_ref19_Vm_Peek_ann) mixOk Try.func90 (by kernel_rfl) (by kernel_rfl) (fun args w => Try.call90 args w) (by kernel_rfl) hq

def q_ref19_Vm_needs_ann : Ann := { loops := fun _ => [], ty := fun _ => [], canon := fun _ => [], cuts := fun _ => none }
def q_ref19_Vm_needs (x0 : Nat) (x1a : Bool) (x1b : Int) (h : Hp) (K : Value → Hp → Prop) : Prop :=
    letH (h.push (.cells #[(.bool x1a), (.int .i64 x1b)] T_N_ref19_page)) fun h1 => ∃ n2 : Int, cellAt h1 ⟨h.size, 1, none⟩ = some (.int .i64 n2) ∧ iteP (n2 == 0) (K (.bool true) h1) (∃ n3 : Int, cellAt h1 ⟨h.size, 1, none⟩ = some (.int .i64 n3)
    ∧ CallsH Try.prog f_ref19_Vm_Refs #[(.pointer (some ⟨x0, 0, none⟩)), (.int .i64 (IntKind.wrap .i64 (n3 - 1)))] h1 fun r4 h5 => ∃ n6 : Int, r4 = (.int .i64 n6) ∧ K (.bool (decide (n6 > 1))) h5)
theorem q_ref19_Vm_needs_calls (x0 : Nat) (x1a : Bool) (x1b : Int) (h : Hp) (K : Value → Hp → Prop) (hq : q_ref19_Vm_needs x0 x1a x1b h K) : CallsH Try.prog f_ref19_Vm_needs #[(.pointer (some ⟨x0, 0, none⟩)), (.agg #[(.bool x1a), (.int .i64 x1b)])] h K := by
  have e : q_ref19_Vm_needs x0 x1a x1b h K = fnT Try.prog 16 q_ref19_Vm_needs_ann Try.f135 (bodyOf Try.f135) [(.pointer (some ⟨x0, 0, none⟩)), (.agg #[(.bool x1a), (.int .i64 x1b)])] h K := by kernel_rfl
  rw [e] at hq
  exact calls_of_fnT (n := 16) (ann := q_ref19_Vm_needs_ann) mixOk Try.func135 (by kernel_rfl) (by kernel_rfl) (fun args w => Try.call135 args w) (by kernel_rfl) hq

def q_ref19_Vm_Poke_ann : Ann := { loops := fun _ => [], ty := fun _ => [], canon := fun x => match x with | 12 => [0, 1, 2, 3, 4, 5, 6, 7, 8] | 15 => [0, 1, 2, 3, 4, 5, 6, 7, 8, 9, 10, 11, 12, 13, 14, 15, 16, 17, 18] | _ => [], cuts := fun _ => none }
def q_ref19_Vm_Poke (x0 : Nat) (x1 : Int) (x2 : Int) (x3 : Int) (h : Hp) (K : Value → Hp → Prop) : Prop :=
    CallsH Try.prog f_ref19_Vm_at #[(.pointer (some ⟨x0, 0, none⟩)), (.int .i64 x1), (.int .i64 x2)] h fun r1 h2 => ∃ n3 : Int, r1 = (.int .i64 n3) ∧ iteP (n3 != 0) (K (.int .i64 n3) h2) ((0 : Int) ≤ x1 ∧ x1 < ((6 : Nat) : Int)
    ∧ (0 : Int) ≤ (IntKind.wrap .i64 (Int.tdiv x2 32)) ∧ (IntKind.wrap .i64 (Int.tdiv x2 32)) < ((16 : Nat) : Int) ∧ ∃ b4 : Bool, cellAt h2 (((⟨x0, 7, none⟩ : Addr).add (Int.toNat x1 * 32)).add (Int.toNat (IntKind.wrap .i64 (Int.tdiv x2 32)) * 2)) = some (.bool b4)
    ∧ ∃ n5 : Int, cellAt h2 ((((⟨x0, 7, none⟩ : Addr).add (Int.toNat x1 * 32)).add (Int.toNat (IntKind.wrap .i64 (Int.tdiv x2 32)) * 2)).add 1) = some (.int .i64 n5) ∧ letH (h2.push (.cells (zeroCells Try.prog T_N_ref19_page) T_N_ref19_page)) fun h6
    => (∃ old, cellAt h6 ⟨h2.size, 0, none⟩ = some old) ∧ frozenAt h6 ⟨h2.size, 0, none⟩ = false ∧ letH (setH h6 ⟨h2.size, 0, none⟩ (.bool b4)) fun h7 => (∃ old, cellAt h7 ⟨h2.size, 1, none⟩ = some old) ∧ frozenAt h7 ⟨h2.size, 1, none⟩ = false
    ∧ letH (setH h7 ⟨h2.size, 1, none⟩ (.int .i64 n5)) fun h8 => ∃ b9 : Bool, cellAt h8 ⟨h2.size, 0, none⟩ = some (.bool b9) ∧ ∃ n10 : Int, cellAt h8 ⟨h2.size, 1, none⟩ = some (.int .i64 n10) ∧ CallsH Try.prog f_ref19_Vm_needs #[(.pointer (some ⟨x0, 0, none⟩)), (.agg #[(.bool b9), (.int .i64 n10)])] h8 fun r11 h12
    => ∃ b13 : Bool, r11 = (.bool b13) ∧ iteP b13 (CallsH Try.prog f_ref19_Vm_next #[(.pointer (some ⟨x0, 0, none⟩))] h12 fun r14 h15 => ∃ n16 : Int, r14 = (.int .i64 n16) ∧ iteP (decide (n16 < 0)) (K (.int .i64 4) h15) (∃ n17 : Int, cellAt h15 ⟨h2.size, 1, none⟩ = some (.int .i64 n17)
    ∧ iteP (n17 == 0) (∃ p18 : Option Addr, cellAt h15 ⟨x0, 0, none⟩ = some (.pointer p18) ∧ CallsH Try.prog f_ref06_Memory_Zero #[(.pointer p18), (.int .i64 n16)] h15 fun r19 h20 => ∃ n21 : Int, r19 = (.int .i64 n21) ∧ (0 : Int) ≤ x1
    ∧ x1 < ((6 : Nat) : Int) ∧ (0 : Int) ≤ (IntKind.wrap .i64 (Int.tdiv x2 32)) ∧ (IntKind.wrap .i64 (Int.tdiv x2 32)) < ((16 : Nat) : Int) ∧ (∃ old, cellAt h20 ((((⟨x0, 7, none⟩ : Addr).add (Int.toNat x1 * 32)).add (Int.toNat (IntKind.wrap .i64 (Int.tdiv x2 32)) * 2)).add 1) = some old)
    ∧ frozenAt h20 ((((⟨x0, 7, none⟩ : Addr).add (Int.toNat x1 * 32)).add (Int.toNat (IntKind.wrap .i64 (Int.tdiv x2 32)) * 2)).add 1) = false ∧ letH (setH h20 ((((⟨x0, 7, none⟩ : Addr).add (Int.toNat x1 * 32)).add (Int.toNat (IntKind.wrap .i64 (Int.tdiv x2 32)) * 2)).add 1) (.int .i64 (IntKind.wrap .i64 (n16 + 1)))) fun h22
    => ∃ p23 : Option Addr, cellAt h22 ⟨x0, 0, none⟩ = some (.pointer p23) ∧ (0 : Int) ≤ x1 ∧ x1 < ((6 : Nat) : Int) ∧ (0 : Int) ≤ (IntKind.wrap .i64 (Int.tdiv x2 32)) ∧ (IntKind.wrap .i64 (Int.tdiv x2 32)) < ((16 : Nat) : Int)
    ∧ ∃ n24 : Int, cellAt h22 ((((⟨x0, 7, none⟩ : Addr).add (Int.toNat x1 * 32)).add (Int.toNat (IntKind.wrap .i64 (Int.tdiv x2 32)) * 2)).add 1) = some (.int .i64 n24) ∧ CallsH Try.prog f_ref06_Memory_SetByte #[(.pointer p23), (.int .i64 (IntKind.wrap .i64 (n24 - 1))), (.int .i64 (Int.tmod x2 32)), (.int .u8 x3)] h22 fun r25 h26
    => ∃ n27 : Int, r25 = (.int .i64 n27) ∧ K (.int .i64 n27) h26) (∃ p28 : Option Addr, cellAt h15 ⟨x0, 0, none⟩ = some (.pointer p28) ∧ ∃ n29 : Int, cellAt h15 ⟨h2.size, 1, none⟩ = some (.int .i64 n29) ∧ CallsH Try.prog f_ref06_Memory_Copy #[(.pointer p28), (.int .i64 n16), (.int .i64 (IntKind.wrap .i64 (n29 - 1)))] h15 fun r30 h31
    => ∃ n32 : Int, r30 = (.int .i64 n32) ∧ ∃ n33 : Int, cellAt h31 ⟨x0, 199, none⟩ = some (.int .i64 n33) ∧ (∃ old, cellAt h31 ⟨x0, 199, none⟩ = some old) ∧ frozenAt h31 ⟨x0, 199, none⟩ = false ∧ letH (setH h31 ⟨x0, 199, none⟩ (.int .i64 (IntKind.wrap .i64 (n33 + 1)))) fun h34
    => (0 : Int) ≤ x1 ∧ x1 < ((6 : Nat) : Int) ∧ (0 : Int) ≤ (IntKind.wrap .i64 (Int.tdiv x2 32)) ∧ (IntKind.wrap .i64 (Int.tdiv x2 32)) < ((16 : Nat) : Int) ∧ (∃ old, cellAt h34 ((((⟨x0, 7, none⟩ : Addr).add (Int.toNat x1 * 32)).add (Int.toNat (IntKind.wrap .i64 (Int.tdiv x2 32)) * 2)).add 1) = some old)
    ∧ frozenAt h34 ((((⟨x0, 7, none⟩ : Addr).add (Int.toNat x1 * 32)).add (Int.toNat (IntKind.wrap .i64 (Int.tdiv x2 32)) * 2)).add 1) = false ∧ letH (setH h34 ((((⟨x0, 7, none⟩ : Addr).add (Int.toNat x1 * 32)).add (Int.toNat (IntKind.wrap .i64 (Int.tdiv x2 32)) * 2)).add 1) (.int .i64 (IntKind.wrap .i64 (n16 + 1)))) fun h35
    => ∃ p36 : Option Addr, cellAt h35 ⟨x0, 0, none⟩ = some (.pointer p36) ∧ (0 : Int) ≤ x1 ∧ x1 < ((6 : Nat) : Int) ∧ (0 : Int) ≤ (IntKind.wrap .i64 (Int.tdiv x2 32)) ∧ (IntKind.wrap .i64 (Int.tdiv x2 32)) < ((16 : Nat) : Int)
    ∧ ∃ n37 : Int, cellAt h35 ((((⟨x0, 7, none⟩ : Addr).add (Int.toNat x1 * 32)).add (Int.toNat (IntKind.wrap .i64 (Int.tdiv x2 32)) * 2)).add 1) = some (.int .i64 n37) ∧ CallsH Try.prog f_ref06_Memory_SetByte #[(.pointer p36), (.int .i64 (IntKind.wrap .i64 (n37 - 1))), (.int .i64 (Int.tmod x2 32)), (.int .u8 x3)] h35 fun r38 h39
    => ∃ n40 : Int, r38 = (.int .i64 n40) ∧ K (.int .i64 n40) h39))) (∃ p41 : Option Addr, cellAt h12 ⟨x0, 0, none⟩ = some (.pointer p41) ∧ (0 : Int) ≤ x1 ∧ x1 < ((6 : Nat) : Int) ∧ (0 : Int) ≤ (IntKind.wrap .i64 (Int.tdiv x2 32))
    ∧ (IntKind.wrap .i64 (Int.tdiv x2 32)) < ((16 : Nat) : Int) ∧ ∃ n42 : Int, cellAt h12 ((((⟨x0, 7, none⟩ : Addr).add (Int.toNat x1 * 32)).add (Int.toNat (IntKind.wrap .i64 (Int.tdiv x2 32)) * 2)).add 1) = some (.int .i64 n42)
    ∧ CallsH Try.prog f_ref06_Memory_SetByte #[(.pointer p41), (.int .i64 (IntKind.wrap .i64 (n42 - 1))), (.int .i64 (Int.tmod x2 32)), (.int .u8 x3)] h12 fun r43 h44 => ∃ n45 : Int, r43 = (.int .i64 n45) ∧ K (.int .i64 n45) h44))
theorem q_ref19_Vm_Poke_calls (x0 : Nat) (x1 : Int) (x2 : Int) (x3 : Int) (h : Hp) (K : Value → Hp → Prop) (hq : q_ref19_Vm_Poke x0 x1 x2 x3 h K) : CallsH Try.prog f_ref19_Vm_Poke #[(.pointer (some ⟨x0, 0, none⟩)), (.int .i64 x1), (.int .i64 x2), (.int .u8 x3)] h K := by
  have e : q_ref19_Vm_Poke x0 x1 x2 x3 h K = fnT Try.prog 90 q_ref19_Vm_Poke_ann Try.f101 (bodyOf Try.f101) [(.pointer (some ⟨x0, 0, none⟩)), (.int .i64 x1), (.int .i64 x2), (.int .u8 x3)] h K := by kernel_rfl
  rw [e] at hq
  exact calls_of_fnT (n := 90) (ann := q_ref19_Vm_Poke_ann) mixOk Try.func101 (by kernel_rfl) (by kernel_rfl) (fun args w => Try.call101 args w) (by kernel_rfl) hq

def q_ref19_Vm_Fill_ann : Ann := { loops := fun x => match x with | 0 => [(10, T_int), (11, T_int)] | 2 => [(13, T_int)] | _ => [], ty := fun _ => [], canon := fun _ => [], cuts := fun _ => none }
def q_ref19_Vm_Fill (x0 : Nat) (x1 : Int) (x2 : Int) (x3p : Option Addr) (x3n : Nat) (x3c : Nat) (h : Hp) (K : Value → Hp → Prop) : Prop :=
    CallsH Try.prog f_ref19_Vm_may #[(.pointer (some ⟨x0, 0, none⟩)), (.int .i64 x1)] h fun r1 h2 => ∃ n3 : Int, r1 = (.int .i64 n3) ∧ iteP (n3 != 0) (K (.int .i64 n3) h2) (iteP (decide (x2 < 0)) (K (.int .i64 2) h2) (iteP (decide (x2 ≥ 512)) (K (.int .i64 2) h2) (iteP (decide (((x3n : Nat) : Int) > (IntKind.wrap .i64 (512 - x2)))) (K (.int .i64 2) h2) (∃ (I4 : Int → Int → Hp → Prop) (μ5 : Int → Int → Hp → Nat), I4 0 0 h2
    ∧ ∀ i6 i7 h8, I4 i6 i7 h8 → iteP (decide (i7 < ((x3n : Nat) : Int))) (CallsH Try.prog f_ref19_Vm_at #[(.pointer (some ⟨x0, 0, none⟩)), (.int .i64 x1), (.int .i64 (IntKind.wrap .i64 (x2 + i7)))] h8 fun r9 h10 => ∃ n11 : Int, r9 = (.int .i64 n11)
    ∧ iteP (n11 != 0) (K (.int .i64 n11) h10) (iteP (i7 == 0) ((0 : Int) ≤ x1 ∧ x1 < ((6 : Nat) : Int) ∧ (0 : Int) ≤ (IntKind.wrap .i64 (Int.tdiv (IntKind.wrap .i64 (x2 + i7)) 32)) ∧ (IntKind.wrap .i64 (Int.tdiv (IntKind.wrap .i64 (x2 + i7)) 32)) < ((16 : Nat) : Int)
    ∧ ∃ b12 : Bool, cellAt h10 (((⟨x0, 7, none⟩ : Addr).add (Int.toNat x1 * 32)).add (Int.toNat (IntKind.wrap .i64 (Int.tdiv (IntKind.wrap .i64 (x2 + i7)) 32)) * 2)) = some (.bool b12) ∧ ∃ n13 : Int, cellAt h10 ((((⟨x0, 7, none⟩ : Addr).add (Int.toNat x1 * 32)).add (Int.toNat (IntKind.wrap .i64 (Int.tdiv (IntKind.wrap .i64 (x2 + i7)) 32)) * 2)).add 1) = some (.int .i64 n13)
    ∧ CallsH Try.prog f_ref19_Vm_needs #[(.pointer (some ⟨x0, 0, none⟩)), (.agg #[(.bool b12), (.int .i64 n13)])] h10 fun r14 h15 => ∃ b16 : Bool, r14 = (.bool b16) ∧ iteP b16 (I4 (IntKind.wrap .i64 (i6 + 1)) (IntKind.wrap .i64 (i7 + 1)) h15
    ∧ μ5 (IntKind.wrap .i64 (i6 + 1)) (IntKind.wrap .i64 (i7 + 1)) h15 < μ5 i6 i7 h8) (I4 i6 (IntKind.wrap .i64 (i7 + 1)) h15 ∧ μ5 i6 (IntKind.wrap .i64 (i7 + 1)) h15 < μ5 i6 i7 h8)) (iteP ((Int.tmod (IntKind.wrap .i64 (x2 + i7)) 32) == 0) ((0 : Int) ≤ x1
    ∧ x1 < ((6 : Nat) : Int) ∧ (0 : Int) ≤ (IntKind.wrap .i64 (Int.tdiv (IntKind.wrap .i64 (x2 + i7)) 32)) ∧ (IntKind.wrap .i64 (Int.tdiv (IntKind.wrap .i64 (x2 + i7)) 32)) < ((16 : Nat) : Int) ∧ ∃ b17 : Bool, cellAt h10 (((⟨x0, 7, none⟩ : Addr).add (Int.toNat x1 * 32)).add (Int.toNat (IntKind.wrap .i64 (Int.tdiv (IntKind.wrap .i64 (x2 + i7)) 32)) * 2)) = some (.bool b17)
    ∧ ∃ n18 : Int, cellAt h10 ((((⟨x0, 7, none⟩ : Addr).add (Int.toNat x1 * 32)).add (Int.toNat (IntKind.wrap .i64 (Int.tdiv (IntKind.wrap .i64 (x2 + i7)) 32)) * 2)).add 1) = some (.int .i64 n18) ∧ CallsH Try.prog f_ref19_Vm_needs #[(.pointer (some ⟨x0, 0, none⟩)), (.agg #[(.bool b17), (.int .i64 n18)])] h10 fun r19 h20
    => ∃ b21 : Bool, r19 = (.bool b21) ∧ iteP b21 (I4 (IntKind.wrap .i64 (i6 + 1)) (IntKind.wrap .i64 (i7 + 1)) h20 ∧ μ5 (IntKind.wrap .i64 (i6 + 1)) (IntKind.wrap .i64 (i7 + 1)) h20 < μ5 i6 i7 h8) (I4 i6 (IntKind.wrap .i64 (i7 + 1)) h20
    ∧ μ5 i6 (IntKind.wrap .i64 (i7 + 1)) h20 < μ5 i6 i7 h8)) (I4 i6 (IntKind.wrap .i64 (i7 + 1)) h10 ∧ μ5 i6 (IntKind.wrap .i64 (i7 + 1)) h10 < μ5 i6 i7 h8)))) (CallsH Try.prog f_ref19_Vm_Left #[(.pointer (some ⟨x0, 0, none⟩))] h8 fun r22 h23
    => ∃ n24 : Int, r22 = (.int .i64 n24) ∧ iteP (decide (i6 > n24)) (K (.int .i64 4) h23) (∃ (I25 : Int → Hp → Prop) (μ26 : Int → Hp → Nat), I25 0 h23 ∧ ∀ i27 h28, I25 i27 h28 → iteP (decide (i27 < ((x3n : Nat) : Int))) ((0 : Int) ≤ i27
    ∧ i27 < ((x3n : Nat) : Int) ∧ wth x3p fun a29 => ∃ n30 : Int, cellAt h28 (a29.add (Int.toNat i27 * 1)) = some (.int .u8 n30) ∧ CallsH Try.prog f_ref19_Vm_Poke #[(.pointer (some ⟨x0, 0, none⟩)), (.int .i64 x1), (.int .i64 (IntKind.wrap .i64 (x2 + i27))), (.int .u8 n30)] h28 fun r31 h32
    => ∃ n33 : Int, r31 = (.int .i64 n33) ∧ I25 (IntKind.wrap .i64 (i27 + 1)) h32 ∧ μ26 (IntKind.wrap .i64 (i27 + 1)) h32 < μ26 i27 h28) (K (.int .i64 0) h28)))))))
theorem q_ref19_Vm_Fill_calls (x0 : Nat) (x1 : Int) (x2 : Int) (x3p : Option Addr) (x3n : Nat) (x3c : Nat) (h : Hp) (K : Value → Hp → Prop) (hq : q_ref19_Vm_Fill x0 x1 x2 x3p x3n x3c h K) : CallsH Try.prog f_ref19_Vm_Fill #[(.pointer (some ⟨x0, 0, none⟩)), (.int .i64 x1), (.int .i64 x2), (.slice x3p x3n x3c)] h K := by
  have e : q_ref19_Vm_Fill x0 x1 x2 x3p x3n x3c h K = fnT Try.prog 94 q_ref19_Vm_Fill_ann Try.f103 (bodyOf Try.f103) [(.pointer (some ⟨x0, 0, none⟩)), (.int .i64 x1), (.int .i64 x2), (.slice x3p x3n x3c)] h K := by kernel_rfl
  rw [e] at hq
  exact calls_of_fnT (n := 94) (ann := q_ref19_Vm_Fill_ann) mixOk Try.func103 (by kernel_rfl) (by kernel_rfl) (fun args w => Try.call103 args w) (by kernel_rfl) hq

def q_ref19_Vm_Pages_ann : Ann := { loops := fun x => match x with | 0 => [(5, T_s_int), (6, T_int)] | _ => [], ty := fun _ => [], canon := fun _ => [], cuts := fun _ => none }
def q_ref19_Vm_Pages (x0 : Nat) (x1 : Int) (h : Hp) (K : Value → Hp → Prop) : Prop :=
    ∃ (I1 : (Option Addr × Nat × Nat) → Int → Hp → Prop) (μ2 : (Option Addr × Nat × Nat) → Int → Hp → Nat), I1 (none, 0, 0) 0 h ∧ ∀ x3 i4 h5, I1 x3 i4 h5 → CallsH Try.prog f_ref19_Vm_may #[(.pointer (some ⟨x0, 0, none⟩)), (.int .i64 x1)] h5 fun r6 h7
    => ∃ n8 : Int, r6 = (.int .i64 n8) ∧ iteP (n8 == 0) (iteP (decide (i4 < 16)) ((0 : Int) ≤ x1 ∧ x1 < ((6 : Nat) : Int) ∧ (0 : Int) ≤ i4 ∧ i4 < ((16 : Nat) : Int) ∧ ∃ b9 : Bool, cellAt h7 (((⟨x0, 7, none⟩ : Addr).add (Int.toNat x1 * 32)).add (Int.toNat i4 * 2)) = some (.bool b9)
    ∧ iteP b9 (letH (h7.push (.cells #[(.int .i64 i4)] T_int)) fun h10 => semWP Try.prog (Builtin.append_ #[T_s_int, T_s_int] T_s_int #[(.slice x3.1 x3.2.1 x3.2.2), (.slice (some ⟨h7.size, 0, none⟩) 1 1)]) h10 fun r11 h12 =>
    ∃ (p13 : Option Addr) (l14 c15 : Nat), r11 = .slice p13 l14 c15 ∧ I1 (p13, l14, c15) (IntKind.wrap .i64 (i4 + 1)) h12 ∧ μ2 (p13, l14, c15) (IntKind.wrap .i64 (i4 + 1)) h12 < μ2 x3 i4 h5) (I1 (x3.1, x3.2.1, x3.2.2) (IntKind.wrap .i64 (i4 + 1)) h7
    ∧ μ2 (x3.1, x3.2.1, x3.2.2) (IntKind.wrap .i64 (i4 + 1)) h7 < μ2 x3 i4 h5)) (K (.slice x3.1 x3.2.1 x3.2.2) h7)) (K (.slice x3.1 x3.2.1 x3.2.2) h7)
theorem q_ref19_Vm_Pages_calls (x0 : Nat) (x1 : Int) (h : Hp) (K : Value → Hp → Prop) (hq : q_ref19_Vm_Pages x0 x1 h K) : CallsH Try.prog f_ref19_Vm_Pages #[(.pointer (some ⟨x0, 0, none⟩)), (.int .i64 x1)] h K := by
  have e : q_ref19_Vm_Pages x0 x1 h K = fnT Try.prog 31 q_ref19_Vm_Pages_ann Try.f88 (bodyOf Try.f88) [(.pointer (some ⟨x0, 0, none⟩)), (.int .i64 x1)] h K := by kernel_rfl
  rw [e] at hq
  exact calls_of_fnT (n := 31) (ann := q_ref19_Vm_Pages_ann) mixOk Try.func88 (by kernel_rfl) (by kernel_rfl) (fun args w => Try.call88 args w) (by kernel_rfl) hq

def q_ref19_Vm_Frame_ann : Ann := { loops := fun _ => [], ty := fun _ => [], canon := fun _ => [], cuts := fun _ => none }
def q_ref19_Vm_Frame (x0 : Nat) (x1 : Int) (x2 : Int) (h : Hp) (K : Value → Hp → Prop) : Prop :=
    CallsH Try.prog f_ref19_Vm_may #[(.pointer (some ⟨x0, 0, none⟩)), (.int .i64 x1)] h fun r1 h2 => ∃ n3 : Int, r1 = (.int .i64 n3) ∧ iteP (n3 != 0) (K (.tuple #[(.int .i64 0), (.bool false)]) h2) (iteP (decide (x2 < 0)) (K (.tuple #[(.int .i64 0), (.bool false)]) h2) (iteP (decide (x2 ≥ 16)) (K (.tuple #[(.int .i64 0), (.bool false)]) h2) ((0 : Int) ≤ x1
    ∧ x1 < ((6 : Nat) : Int) ∧ (0 : Int) ≤ x2 ∧ x2 < ((16 : Nat) : Int) ∧ ∃ n4 : Int, cellAt h2 ((((⟨x0, 7, none⟩ : Addr).add (Int.toNat x1 * 32)).add (Int.toNat x2 * 2)).add 1) = some (.int .i64 n4) ∧ iteP (n4 == 0) (K (.tuple #[(.int .i64 0), (.bool false)]) h2) ((0 : Int) ≤ x1
    ∧ x1 < ((6 : Nat) : Int) ∧ (0 : Int) ≤ x2 ∧ x2 < ((16 : Nat) : Int) ∧ ∃ n5 : Int, cellAt h2 ((((⟨x0, 7, none⟩ : Addr).add (Int.toNat x1 * 32)).add (Int.toNat x2 * 2)).add 1) = some (.int .i64 n5) ∧ K (.tuple #[(.int .i64 (IntKind.wrap .i64 (n5 - 1))), (.bool true)]) h2))))
theorem q_ref19_Vm_Frame_calls (x0 : Nat) (x1 : Int) (x2 : Int) (h : Hp) (K : Value → Hp → Prop) (hq : q_ref19_Vm_Frame x0 x1 x2 h K) : CallsH Try.prog f_ref19_Vm_Frame #[(.pointer (some ⟨x0, 0, none⟩)), (.int .i64 x1), (.int .i64 x2)] h K := by
  have e : q_ref19_Vm_Frame x0 x1 x2 h K = fnT Try.prog 42 q_ref19_Vm_Frame_ann Try.f89 (bodyOf Try.f89) [(.pointer (some ⟨x0, 0, none⟩)), (.int .i64 x1), (.int .i64 x2)] h K := by kernel_rfl
  rw [e] at hq
  exact calls_of_fnT (n := 42) (ann := q_ref19_Vm_Frame_ann) mixOk Try.func89 (by kernel_rfl) (by kernel_rfl) (fun args w => Try.call89 args w) (by kernel_rfl) hq

def q_ref19_Vm_Refs_ann : Ann := { loops := fun x => match x with | 0 => [(5, T_int), (6, T_int)] | 2 => [(5, T_int), (7, T_int)] | _ => [], ty := fun _ => [], canon := fun _ => [], cuts := fun _ => none }
def q_ref19_Vm_Refs (x0 : Nat) (x1 : Int) (h : Hp) (K : Value → Hp → Prop) : Prop :=
    ∃ (I1 : Int → Int → Hp → Prop) (μ2 : Int → Int → Hp → Nat), I1 0 0 h ∧ ∀ i3 i4 h5, I1 i3 i4 h5 → iteP (decide (i4 < 6)) (∃ (I6 : Int → Int → Hp → Prop) (μ7 : Int → Int → Hp → Nat), I6 i3 0 h5 ∧ ∀ i8 i9 h10, I6 i8 i9 h10 → iteP (decide (i9 < 16)) ((0 : Int) ≤ i4
    ∧ i4 < ((6 : Nat) : Int) ∧ (0 : Int) ≤ i9 ∧ i9 < ((16 : Nat) : Int) ∧ ∃ n11 : Int, cellAt h10 ((((⟨x0, 7, none⟩ : Addr).add (Int.toNat i4 * 32)).add (Int.toNat i9 * 2)).add 1) = some (.int .i64 n11) ∧ iteP (n11 != 0) ((0 : Int) ≤ i4
    ∧ i4 < ((6 : Nat) : Int) ∧ (0 : Int) ≤ i9 ∧ i9 < ((16 : Nat) : Int) ∧ ∃ n12 : Int, cellAt h10 ((((⟨x0, 7, none⟩ : Addr).add (Int.toNat i4 * 32)).add (Int.toNat i9 * 2)).add 1) = some (.int .i64 n12) ∧ iteP ((IntKind.wrap .i64 (n12 - 1)) == x1) (I6 (IntKind.wrap .i64 (i8 + 1)) (IntKind.wrap .i64 (i9 + 1)) h10
    ∧ μ7 (IntKind.wrap .i64 (i8 + 1)) (IntKind.wrap .i64 (i9 + 1)) h10 < μ7 i8 i9 h10) (I6 i8 (IntKind.wrap .i64 (i9 + 1)) h10 ∧ μ7 i8 (IntKind.wrap .i64 (i9 + 1)) h10 < μ7 i8 i9 h10)) (I6 i8 (IntKind.wrap .i64 (i9 + 1)) h10
    ∧ μ7 i8 (IntKind.wrap .i64 (i9 + 1)) h10 < μ7 i8 i9 h10)) (I1 i8 (IntKind.wrap .i64 (i4 + 1)) h10 ∧ μ2 i8 (IntKind.wrap .i64 (i4 + 1)) h10 < μ2 i3 i4 h5)) (K (.int .i64 i3) h5)
theorem q_ref19_Vm_Refs_calls (x0 : Nat) (x1 : Int) (h : Hp) (K : Value → Hp → Prop) (hq : q_ref19_Vm_Refs x0 x1 h K) : CallsH Try.prog f_ref19_Vm_Refs #[(.pointer (some ⟨x0, 0, none⟩)), (.int .i64 x1)] h K := by
  have e : q_ref19_Vm_Refs x0 x1 h K = fnT Try.prog 47 q_ref19_Vm_Refs_ann Try.f91 (bodyOf Try.f91) [(.pointer (some ⟨x0, 0, none⟩)), (.int .i64 x1)] h K := by kernel_rfl
  rw [e] at hq
  exact calls_of_fnT (n := 47) (ann := q_ref19_Vm_Refs_ann) mixOk Try.func91 (by kernel_rfl) (by kernel_rfl) (fun args w => Try.call91 args w) (by kernel_rfl) hq

def q_ref19_Vm_Left_ann : Ann := { loops := fun x => match x with | 0 => [(3, T_int), (4, T_int)] | _ => [], ty := fun _ => [], canon := fun _ => [], cuts := fun _ => none }
def q_ref19_Vm_Left (x0 : Nat) (h : Hp) (K : Value → Hp → Prop) : Prop :=
    ∃ (I1 : Int → Int → Hp → Prop) (μ2 : Int → Int → Hp → Nat), I1 0 0 h ∧ ∀ i3 i4 h5, I1 i3 i4 h5 → ∃ p6 : Option Addr, cellAt h5 ⟨x0, 0, none⟩ = some (.pointer p6) ∧ CallsH Try.prog f_ref06_Memory_Size #[(.pointer p6)] h5 fun r7 h8
    => ∃ n9 : Int, r7 = (.int .i64 n9) ∧ iteP (decide (i4 < n9)) (CallsH Try.prog f_ref19_Vm_Refs #[(.pointer (some ⟨x0, 0, none⟩)), (.int .i64 i4)] h8 fun r10 h11 => ∃ n12 : Int, r10 = (.int .i64 n12) ∧ iteP (n12 == 0) (I1 (IntKind.wrap .i64 (i3 + 1)) (IntKind.wrap .i64 (i4 + 1)) h11
    ∧ μ2 (IntKind.wrap .i64 (i3 + 1)) (IntKind.wrap .i64 (i4 + 1)) h11 < μ2 i3 i4 h5) (I1 i3 (IntKind.wrap .i64 (i4 + 1)) h11 ∧ μ2 i3 (IntKind.wrap .i64 (i4 + 1)) h11 < μ2 i3 i4 h5)) (K (.int .i64 i3) h8)
theorem q_ref19_Vm_Left_calls (x0 : Nat) (h : Hp) (K : Value → Hp → Prop) (hq : q_ref19_Vm_Left x0 h K) : CallsH Try.prog f_ref19_Vm_Left #[(.pointer (some ⟨x0, 0, none⟩))] h K := by
  have e : q_ref19_Vm_Left x0 h K = fnT Try.prog 25 q_ref19_Vm_Left_ann Try.f92 (bodyOf Try.f92) [(.pointer (some ⟨x0, 0, none⟩))] h K := by kernel_rfl
  rw [e] at hq
  exact calls_of_fnT (n := 25) (ann := q_ref19_Vm_Left_ann) mixOk Try.func92 (by kernel_rfl) (by kernel_rfl) (fun args w => Try.call92 args w) (by kernel_rfl) hq

def q_ref19_Vm_Copies_ann : Ann := { loops := fun _ => [], ty := fun _ => [], canon := fun _ => [], cuts := fun _ => none }
def q_ref19_Vm_Copies (x0 : Nat) (h : Hp) (K : Value → Hp → Prop) : Prop :=
    ∃ n1 : Int, cellAt h ⟨x0, 199, none⟩ = some (.int .i64 n1) ∧ K (.int .i64 n1) h
theorem q_ref19_Vm_Copies_calls (x0 : Nat) (h : Hp) (K : Value → Hp → Prop) (hq : q_ref19_Vm_Copies x0 h K) : CallsH Try.prog f_ref19_Vm_Copies #[(.pointer (some ⟨x0, 0, none⟩))] h K := by
  have e : q_ref19_Vm_Copies x0 h K = fnT Try.prog 9 q_ref19_Vm_Copies_ann Try.f93 (bodyOf Try.f93) [(.pointer (some ⟨x0, 0, none⟩))] h K := by kernel_rfl
  rw [e] at hq
  exact calls_of_fnT (n := 9) (ann := q_ref19_Vm_Copies_ann) mixOk Try.func93 (by kernel_rfl) (by kernel_rfl) (fun args w => Try.call93 args w) (by kernel_rfl) hq

def q_ref19_Vm_Copy_ann : Ann := { loops := fun _ => [], ty := fun _ => [], canon := fun _ => [], cuts := fun _ => none }
def q_ref19_Vm_Copy (x0 : Nat) (h : Hp) (K : Value → Hp → Prop) : Prop :=
    ∃ cs1 : Array Value, rowAt h ⟨x0, 0, none⟩ 200 cs1 ∧ letH (h.push (.cells (zeroCells Try.prog T_N_ref19_Vm) T_N_ref19_Vm)) fun h2 => (cs1 : Array Value).size = 200 ∧ (∀ i, i < 200 → ∃ u, (cs1 : Array Value)[i]? = some u ∧ 
    oneV u = true) ∧ okRow h2 ⟨h.size, 0, none⟩ 200 ∧ letH (setRow h2 ⟨h.size, 0, none⟩ cs1) fun h3 => ∃ p4 : Option Addr, cellAt h3 ⟨x0, 0, none⟩ = some (.pointer p4) ∧ CallsH Try.prog f_ref06_Memory_Fork #[(.pointer p4)] h3 fun r5 h6
    => ∃ p7 : Option Addr, r5 = (.pointer p7) ∧ (∃ old, cellAt h6 ⟨h.size, 0, none⟩ = some old) ∧ frozenAt h6 ⟨h.size, 0, none⟩ = false ∧ letH (setH h6 ⟨h.size, 0, none⟩ (.pointer p7)) fun h8 => K (.pointer (some ⟨h.size, 0, none⟩)) h8
theorem q_ref19_Vm_Copy_calls (x0 : Nat) (h : Hp) (K : Value → Hp → Prop) (hq : q_ref19_Vm_Copy x0 h K) : CallsH Try.prog f_ref19_Vm_Copy #[(.pointer (some ⟨x0, 0, none⟩))] h K := by
  have e : q_ref19_Vm_Copy x0 h K = fnT Try.prog 15 q_ref19_Vm_Copy_ann Try.f40 (bodyOf Try.f40) [(.pointer (some ⟨x0, 0, none⟩))] h K := by kernel_rfl
  rw [e] at hq
  exact calls_of_fnT (n := 15) (ann := q_ref19_Vm_Copy_ann) mixOk Try.func40 (by kernel_rfl) (by kernel_rfl) (fun args w => Try.call40 args w) (by kernel_rfl) hq

def q_ref06_New_ann : Ann := { loops := fun _ => [], ty := fun _ => [], canon := fun _ => [], cuts := fun _ => none }
def q_ref06_New (x0 : Int) (h : Hp) (K : Value → Hp → Prop) : Prop :=
    iteP (decide (x0 < 1)) (K (.pointer none) h) (iteP (decide (x0 > 64)) (K (.pointer none) h) (semWP Try.prog (Instr.makeSlice T_s_uint8 (.int .i64 (IntKind.wrap .i64 (x0 * 32))) (.int .i64 (IntKind.wrap .i64 (x0 * 32)))) h fun r1 h2
    => ∃ (p3 : Option Addr) (l4 c5 : Nat), r1 = .slice p3 l4 c5 ∧ letH (h2.push (.cells #[(.slice p3 l4 c5)] T_N_ref06_Memory)) fun h6 => K (.pointer (some ⟨h2.size, 0, none⟩)) h6))
theorem q_ref06_New_calls (x0 : Int) (h : Hp) (K : Value → Hp → Prop) (hq : q_ref06_New x0 h K) : CallsH Try.prog f_ref06_New #[(.int .i64 x0)] h K := by
  have e : q_ref06_New x0 h K = fnT Try.prog 14 q_ref06_New_ann Try.f128 (bodyOf Try.f128) [(.int .i64 x0)] h K := by kernel_rfl
  rw [e] at hq
  exact calls_of_fnT (n := 14) (ann := q_ref06_New_ann) mixOk Try.func128 (by kernel_rfl) (by kernel_rfl) (fun args w => Try.call128 args w) (by kernel_rfl) hq

def q_ref06_Memory_Byte_ann : Ann := { loops := fun _ => [], ty := fun _ => [], canon := fun _ => [], cuts := fun _ => none }
def q_ref06_Memory_Byte (x0 : Nat) (x1 : Int) (x2 : Int) (h : Hp) (K : Value → Hp → Prop) : Prop :=
    CallsH Try.prog f_ref06_Memory_may #[(.pointer (some ⟨x0, 0, none⟩)), (.int .i64 x1), (.int .i64 x2), (.int .i64 1)] h fun r1 h2 => ∃ n3 : Int, r1 = (.int .i64 n3) ∧ iteP (n3 != 0) (K (.tuple #[(.int .u8 0), (.int .i64 n3)]) h2) (∃ (p4 : Option Addr) (l5 c6 : Nat), cellAt h2 ⟨x0, 0, none⟩ = some (.slice p4 l5 c6)
    ∧ (0 : Int) ≤ (IntKind.wrap .i64 ((IntKind.wrap .i64 (x1 * 32)) + x2)) ∧ (IntKind.wrap .i64 ((IntKind.wrap .i64 (x1 * 32)) + x2)) < ((l5 : Nat) : Int) ∧ wth p4 fun a7 => ∃ n8 : Int, cellAt h2 (a7.add (Int.toNat (IntKind.wrap .i64 ((IntKind.wrap .i64 (x1 * 32)) + x2)) * 1)) = some (.int .u8 n8)
    ∧ K (.tuple #[(.int .u8 n8), (.int .i64 0)]) h2)
theorem q_ref06_Memory_Byte_calls (x0 : Nat) (x1 : Int) (x2 : Int) (h : Hp) (K : Value → Hp → Prop) (hq : q_ref06_Memory_Byte x0 x1 x2 h K) : CallsH Try.prog f_ref06_Memory_Byte #[(.pointer (some ⟨x0, 0, none⟩)), (.int .i64 x1), (.int .i64 x2)] h K := by
  have e : q_ref06_Memory_Byte x0 x1 x2 h K = fnT Try.prog 26 q_ref06_Memory_Byte_ann Try.f131 (bodyOf Try.f131) [(.pointer (some ⟨x0, 0, none⟩)), (.int .i64 x1), (.int .i64 x2)] h K := by kernel_rfl
  rw [e] at hq
  exact calls_of_fnT (n := 26) (ann := q_ref06_Memory_Byte_ann) mixOk Try.func131 (by kernel_rfl) (by kernel_rfl) (fun args w => Try.call131 args w) (by kernel_rfl) hq

def q_ref06_Memory_SetByte_ann : Ann := { loops := fun _ => [], ty := fun _ => [], canon := fun _ => [], cuts := fun _ => none }
def q_ref06_Memory_SetByte (x0 : Nat) (x1 : Int) (x2 : Int) (x3 : Int) (h : Hp) (K : Value → Hp → Prop) : Prop :=
    CallsH Try.prog f_ref06_Memory_may #[(.pointer (some ⟨x0, 0, none⟩)), (.int .i64 x1), (.int .i64 x2), (.int .i64 1)] h fun r1 h2 => ∃ n3 : Int, r1 = (.int .i64 n3) ∧ iteP (n3 != 0) (K (.int .i64 n3) h2) (∃ (p4 : Option Addr) (l5 c6 : Nat), cellAt h2 ⟨x0, 0, none⟩ = some (.slice p4 l5 c6)
    ∧ (0 : Int) ≤ (IntKind.wrap .i64 ((IntKind.wrap .i64 (x1 * 32)) + x2)) ∧ (IntKind.wrap .i64 ((IntKind.wrap .i64 (x1 * 32)) + x2)) < ((l5 : Nat) : Int) ∧ wth p4 fun a7 => (∃ old, cellAt h2 (a7.add (Int.toNat (IntKind.wrap .i64 ((IntKind.wrap .i64 (x1 * 32)) + x2)) * 1)) = some old)
    ∧ frozenAt h2 (a7.add (Int.toNat (IntKind.wrap .i64 ((IntKind.wrap .i64 (x1 * 32)) + x2)) * 1)) = false ∧ letH (setH h2 (a7.add (Int.toNat (IntKind.wrap .i64 ((IntKind.wrap .i64 (x1 * 32)) + x2)) * 1)) (.int .u8 x3)) fun h8
    => K (.int .i64 0) h8)
theorem q_ref06_Memory_SetByte_calls (x0 : Nat) (x1 : Int) (x2 : Int) (x3 : Int) (h : Hp) (K : Value → Hp → Prop) (hq : q_ref06_Memory_SetByte x0 x1 x2 x3 h K) : CallsH Try.prog f_ref06_Memory_SetByte #[(.pointer (some ⟨x0, 0, none⟩)), (.int .i64 x1), (.int .i64 x2), (.int .u8 x3)] h K := by
  have e : q_ref06_Memory_SetByte x0 x1 x2 x3 h K = fnT Try.prog 27 q_ref06_Memory_SetByte_ann Try.f139 (bodyOf Try.f139) [(.pointer (some ⟨x0, 0, none⟩)), (.int .i64 x1), (.int .i64 x2), (.int .u8 x3)] h K := by kernel_rfl
  rw [e] at hq
  exact calls_of_fnT (n := 27) (ann := q_ref06_Memory_SetByte_ann) mixOk Try.func139 (by kernel_rfl) (by kernel_rfl) (fun args w => Try.call139 args w) (by kernel_rfl) hq

def q_ref06_Memory_Zero_ann : Ann := { loops := fun x => match x with | 0 => [(6, T_int)] | _ => [], ty := fun _ => [], canon := fun _ => [], cuts := fun _ => none }
def q_ref06_Memory_Zero (x0 : Nat) (x1 : Int) (h : Hp) (K : Value → Hp → Prop) : Prop :=
    CallsH Try.prog f_ref06_Memory_may #[(.pointer (some ⟨x0, 0, none⟩)), (.int .i64 x1), (.int .i64 0), (.int .i64 1)] h fun r1 h2 => ∃ n3 : Int, r1 = (.int .i64 n3) ∧ iteP (n3 != 0) (K (.int .i64 n3) h2) (∃ (I4 : Int → Hp → Prop) (μ5 : Int → Hp → Nat), I4 0 h2
    ∧ ∀ i6 h7, I4 i6 h7 → iteP (decide (i6 < 32)) (∃ (p8 : Option Addr) (l9 c10 : Nat), cellAt h7 ⟨x0, 0, none⟩ = some (.slice p8 l9 c10) ∧ (0 : Int) ≤ (IntKind.wrap .i64 ((IntKind.wrap .i64 (x1 * 32)) + i6)) ∧ (IntKind.wrap .i64 ((IntKind.wrap .i64 (x1 * 32)) + i6)) < ((l9 : Nat) : Int)
    ∧ wth p8 fun a11 => (∃ old, cellAt h7 (a11.add (Int.toNat (IntKind.wrap .i64 ((IntKind.wrap .i64 (x1 * 32)) + i6)) * 1)) = some old) ∧ frozenAt h7 (a11.add (Int.toNat (IntKind.wrap .i64 ((IntKind.wrap .i64 (x1 * 32)) + i6)) * 1)) = false
    ∧ letH (setH h7 (a11.add (Int.toNat (IntKind.wrap .i64 ((IntKind.wrap .i64 (x1 * 32)) + i6)) * 1)) (.int .u8 0)) fun h12 => I4 (IntKind.wrap .i64 (i6 + 1)) h12 ∧ μ5 (IntKind.wrap .i64 (i6 + 1)) h12 < μ5 i6 h7) (K (.int .i64 0) h7))
theorem q_ref06_Memory_Zero_calls (x0 : Nat) (x1 : Int) (h : Hp) (K : Value → Hp → Prop) (hq : q_ref06_Memory_Zero x0 x1 h K) : CallsH Try.prog f_ref06_Memory_Zero #[(.pointer (some ⟨x0, 0, none⟩)), (.int .i64 x1)] h K := by
  have e : q_ref06_Memory_Zero x0 x1 h K = fnT Try.prog 26 q_ref06_Memory_Zero_ann Try.f137 (bodyOf Try.f137) [(.pointer (some ⟨x0, 0, none⟩)), (.int .i64 x1)] h K := by kernel_rfl
  rw [e] at hq
  exact calls_of_fnT (n := 26) (ann := q_ref06_Memory_Zero_ann) mixOk Try.func137 (by kernel_rfl) (by kernel_rfl) (fun args w => Try.call137 args w) (by kernel_rfl) hq

def q_ref06_Memory_Copy_ann : Ann := { loops := fun x => match x with | 0 => [(9, T_int)] | _ => [], ty := fun _ => [], canon := fun x => match x with | 10 => [0, 1, 2, 3, 4, 5, 6, 7, 8, 9, 10, 11, 12, 13, 14, 15, 16, 17, 18, 19] | _ => [], cuts := fun _ => none }
def q_ref06_Memory_Copy (x0 : Nat) (x1 : Int) (x2 : Int) (h : Hp) (K : Value → Hp → Prop) : Prop :=
    CallsH Try.prog f_ref06_Memory_may #[(.pointer (some ⟨x0, 0, none⟩)), (.int .i64 x1), (.int .i64 0), (.int .i64 1)] h fun r1 h2 => ∃ n3 : Int, r1 = (.int .i64 n3) ∧ iteP (n3 != 0) (K (.int .i64 n3) h2) (CallsH Try.prog f_ref06_Memory_may #[(.pointer (some ⟨x0, 0, none⟩)), (.int .i64 x2), (.int .i64 0), (.int .i64 1)] h2 fun r4 h5
    => ∃ n6 : Int, r4 = (.int .i64 n6) ∧ iteP (n6 != 0) (K (.int .i64 n6) h5) (∃ (I7 : Int → Hp → Prop) (μ8 : Int → Hp → Nat), I7 0 h5 ∧ ∀ i9 h10, I7 i9 h10 → iteP (decide (i9 < 32)) (∃ (p11 : Option Addr) (l12 c13 : Nat), cellAt h10 ⟨x0, 0, none⟩ = some (.slice p11 l12 c13)
    ∧ ∃ (p14 : Option Addr) (l15 c16 : Nat), cellAt h10 ⟨x0, 0, none⟩ = some (.slice p14 l15 c16) ∧ (0 : Int) ≤ (IntKind.wrap .i64 ((IntKind.wrap .i64 (x2 * 32)) + i9)) ∧ (IntKind.wrap .i64 ((IntKind.wrap .i64 (x2 * 32)) + i9)) < ((l15 : Nat) : Int)
    ∧ wth p14 fun a17 => ∃ n18 : Int, cellAt h10 (a17.add (Int.toNat (IntKind.wrap .i64 ((IntKind.wrap .i64 (x2 * 32)) + i9)) * 1)) = some (.int .u8 n18) ∧ (0 : Int) ≤ (IntKind.wrap .i64 ((IntKind.wrap .i64 (x1 * 32)) + i9))
    ∧ (IntKind.wrap .i64 ((IntKind.wrap .i64 (x1 * 32)) + i9)) < ((l12 : Nat) : Int) ∧ wth p11 fun a19 => (∃ old, cellAt h10 (a19.add (Int.toNat (IntKind.wrap .i64 ((IntKind.wrap .i64 (x1 * 32)) + i9)) * 1)) = some old) ∧ frozenAt h10 (a19.add (Int.toNat (IntKind.wrap .i64 ((IntKind.wrap .i64 (x1 * 32)) + i9)) * 1)) = false
    ∧ letH (setH h10 (a19.add (Int.toNat (IntKind.wrap .i64 ((IntKind.wrap .i64 (x1 * 32)) + i9)) * 1)) (.int .u8 n18)) fun h20 => I7 (IntKind.wrap .i64 (i9 + 1)) h20 ∧ μ8 (IntKind.wrap .i64 (i9 + 1)) h20 < μ8 i9 h10) (K (.int .i64 0) h10)))
theorem q_ref06_Memory_Copy_calls (x0 : Nat) (x1 : Int) (x2 : Int) (h : Hp) (K : Value → Hp → Prop) (hq : q_ref06_Memory_Copy x0 x1 x2 h K) : CallsH Try.prog f_ref06_Memory_Copy #[(.pointer (some ⟨x0, 0, none⟩)), (.int .i64 x1), (.int .i64 x2)] h K := by
  have e : q_ref06_Memory_Copy x0 x1 x2 h K = fnT Try.prog 45 q_ref06_Memory_Copy_ann Try.f138 (bodyOf Try.f138) [(.pointer (some ⟨x0, 0, none⟩)), (.int .i64 x1), (.int .i64 x2)] h K := by kernel_rfl
  rw [e] at hq
  exact calls_of_fnT (n := 45) (ann := q_ref06_Memory_Copy_ann) mixOk Try.func138 (by kernel_rfl) (by kernel_rfl) (fun args w => Try.call138 args w) (by kernel_rfl) hq

def q_ref06_Memory_Size_ann : Ann := { loops := fun _ => [], ty := fun _ => [], canon := fun _ => [], cuts := fun _ => none }
def q_ref06_Memory_Size (x0 : Nat) (h : Hp) (K : Value → Hp → Prop) : Prop :=
    ∃ (p1 : Option Addr) (l2 c3 : Nat), cellAt h ⟨x0, 0, none⟩ = some (.slice p1 l2 c3) ∧ K (.int .i64 (IntKind.wrap .i64 (Int.tdiv ((l2 : Nat) : Int) 32))) h
theorem q_ref06_Memory_Size_calls (x0 : Nat) (h : Hp) (K : Value → Hp → Prop) (hq : q_ref06_Memory_Size x0 h K) : CallsH Try.prog f_ref06_Memory_Size #[(.pointer (some ⟨x0, 0, none⟩))] h K := by
  have e : q_ref06_Memory_Size x0 h K = fnT Try.prog 11 q_ref06_Memory_Size_ann Try.f132 (bodyOf Try.f132) [(.pointer (some ⟨x0, 0, none⟩))] h K := by kernel_rfl
  rw [e] at hq
  exact calls_of_fnT (n := 11) (ann := q_ref06_Memory_Size_ann) mixOk Try.func132 (by kernel_rfl) (by kernel_rfl) (fun args w => Try.call132 args w) (by kernel_rfl) hq

def q_ref06_Memory_may_ann : Ann := { loops := fun _ => [], ty := fun _ => [], canon := fun _ => [], cuts := fun _ => none }
def q_ref06_Memory_may (x0 : Nat) (x1 : Int) (x2 : Int) (x3 : Int) (h : Hp) (K : Value → Hp → Prop) : Prop :=
    iteP (decide (x1 < 0)) (K (.int .i64 2) h) (CallsH Try.prog f_ref06_Memory_Size #[(.pointer (some ⟨x0, 0, none⟩))] h fun r1 h2 => ∃ n3 : Int, r1 = (.int .i64 n3) ∧ iteP (decide (x1 ≥ n3)) (K (.int .i64 2) h2) (iteP (decide (x2 < 0)) (K (.int .i64 2) h2) (iteP (decide (x2 > (IntKind.wrap .i64 (32 - x3)))) (K (.int .i64 2) h2) (K (.int .i64 0) h2))))
theorem q_ref06_Memory_may_calls (x0 : Nat) (x1 : Int) (x2 : Int) (x3 : Int) (h : Hp) (K : Value → Hp → Prop) (hq : q_ref06_Memory_may x0 x1 x2 x3 h K) : CallsH Try.prog f_ref06_Memory_may #[(.pointer (some ⟨x0, 0, none⟩)), (.int .i64 x1), (.int .i64 x2), (.int .i64 x3)] h K := by
  have e : q_ref06_Memory_may x0 x1 x2 x3 h K = fnT Try.prog 31 q_ref06_Memory_may_ann Try.f169 (bodyOf Try.f169) [(.pointer (some ⟨x0, 0, none⟩)), (.int .i64 x1), (.int .i64 x2), (.int .i64 x3)] h K := by kernel_rfl
  rw [e] at hq
  exact calls_of_fnT (n := 31) (ann := q_ref06_Memory_may_ann) mixOk Try.func169 (by kernel_rfl) (by kernel_rfl) (fun args w => Try.call169 args w) (by kernel_rfl) hq

def q_ref06_Memory_Fork_ann : Ann := { loops := fun _ => [], ty := fun _ => [], canon := fun _ => [], cuts := fun _ => none }
def q_ref06_Memory_Fork (x0 : Nat) (h : Hp) (K : Value → Hp → Prop) : Prop :=
    letH (h.push (.cells #[] T_uint8)) fun h1 => ∃ (p2 : Option Addr) (l3 c4 : Nat), cellAt h1 ⟨x0, 0, none⟩ = some (.slice p2 l3 c4) ∧ semWP Try.prog (Builtin.append_ #[T_s_uint8, T_s_uint8] T_s_uint8 #[(.slice (some ⟨h.size, 0, none⟩) 0 0), (.slice p2 l3 c4)]) h1 fun r5 h6
    => ∃ (p7 : Option Addr) (l8 c9 : Nat), r5 = .slice p7 l8 c9 ∧ letH (h6.push (.cells #[(.slice p7 l8 c9)] T_N_ref06_Memory)) fun h10 => K (.pointer (some ⟨h6.size, 0, none⟩)) h10
theorem q_ref06_Memory_Fork_calls (x0 : Nat) (h : Hp) (K : Value → Hp → Prop) (hq : q_ref06_Memory_Fork x0 h K) : CallsH Try.prog f_ref06_Memory_Fork #[(.pointer (some ⟨x0, 0, none⟩))] h K := by
  have e : q_ref06_Memory_Fork x0 h K = fnT Try.prog 13 q_ref06_Memory_Fork_ann Try.f95 (bodyOf Try.f95) [(.pointer (some ⟨x0, 0, none⟩))] h K := by kernel_rfl
  rw [e] at hq
  exact calls_of_fnT (n := 13) (ann := q_ref06_Memory_Fork_ann) mixOk Try.func95 (by kernel_rfl) (by kernel_rfl) (fun args w => Try.call95 args w) (by kernel_rfl) hq

def q_ref06_SameInts_ann : Ann := { loops := fun x => match x with | 0 => [(5, T_int)] | _ => [], ty := fun _ => [], canon := fun x => match x with | 6 => [0, 1, 2, 3, 4, 5, 6, 7, 8] | _ => [], cuts := fun _ => none }
def q_ref06_SameInts (x0p : Option Addr) (x0n : Nat) (x0c : Nat) (x1p : Option Addr) (x1n : Nat) (x1c : Nat) (h : Hp) (K : Value → Hp → Prop) : Prop :=
    iteP (((x0n : Nat) : Int) != ((x1n : Nat) : Int)) (K (.bool false) h) (∃ (I1 : Int → Hp → Prop) (μ2 : Int → Hp → Nat), I1 0 h ∧ ∀ i3 h4, I1 i3 h4 → iteP (decide (i3 < ((x0n : Nat) : Int))) ((0 : Int) ≤ i3 ∧ i3 < ((x0n : Nat) : Int)
    ∧ wth x0p fun a5 => ∃ n6 : Int, cellAt h4 (a5.add (Int.toNat i3 * 1)) = some (.int .i64 n6) ∧ (0 : Int) ≤ i3 ∧ i3 < ((x1n : Nat) : Int) ∧ wth x1p fun a7 => ∃ n8 : Int, cellAt h4 (a7.add (Int.toNat i3 * 1)) = some (.int .i64 n8)
    ∧ iteP (n6 != n8) (K (.bool false) h4) (I1 (IntKind.wrap .i64 (i3 + 1)) h4 ∧ μ2 (IntKind.wrap .i64 (i3 + 1)) h4 < μ2 i3 h4)) (K (.bool true) h4))
theorem q_ref06_SameInts_calls (x0p : Option Addr) (x0n : Nat) (x0c : Nat) (x1p : Option Addr) (x1n : Nat) (x1c : Nat) (h : Hp) (K : Value → Hp → Prop) (hq : q_ref06_SameInts x0p x0n x0c x1p x1n x1c h K) : CallsH Try.prog f_ref06_SameInts #[(.slice x0p x0n x0c), (.slice x1p x1n x1c)] h K := by
  have e : q_ref06_SameInts x0p x0n x0c x1p x1n x1c h K = fnT Try.prog 26 q_ref06_SameInts_ann Try.f87 (bodyOf Try.f87) [(.slice x0p x0n x0c), (.slice x1p x1n x1c)] h K := by kernel_rfl
  rw [e] at hq
  exact calls_of_fnT (n := 26) (ann := q_ref06_SameInts_ann) mixOk Try.func87 (by kernel_rfl) (by kernel_rfl) (fun args w => Try.call87 args w) (by kernel_rfl) hq

def q_law19_do_ann : Ann := { loops := fun _ => [], ty := fun _ => [], canon := fun x => match x with | 3 => [0, 1, 2, 4, 5, 6, 3, 7, 8, 9] | 5 => [0, 1, 2, 4, 5, 6, 3, 7, 8, 9] | 7 => [0, 1, 2, 3, 4, 6, 7, 8, 9, 10, 5, 11, 12, 13] | 9 => [0, 1, 2, 3, 4, 6, 7, 8, 9, 10, 5, 11, 12, 13] | 11 => [0, 1, 2, 3, 4, 6, 7, 8, 9, 10, 5, 11, 12, 13] | 13 => [0, 1, 2, 3, 4, 5, 6, 8, 9, 10, 11, 12, 13, 14, 7, 15, 16, 17] | 15 => [0, 1, 2, 3, 4, 5, 6, 9, 10, 11, 12, 13, 14, 15, 7, 8, 16, 17, 18, 19] | _ => [], cuts := fun _ => none }
def q_law19_do (x0 : Nat) (x1 : Nat) (x2a : Int) (x2b : Int) (x2c : Int) (x2d : Int) (x2e : Int) (x2fp : Option Addr) (x2fn : Nat) (x2fc : Nat) (h : Hp) (K : Value → Hp → Prop) : Prop :=
    letH (h.push (.cells #[(.int .i64 x2a), (.int .i64 x2b), (.int .i64 x2c), (.int .i64 x2d), (.int .u8 x2e), (.slice x2fp x2fn x2fc)] T_N_law19_Deed)) fun h1 => ∃ n2 : Int, cellAt h1 ⟨h.size, 0, none⟩ = some (.int .i64 n2) ∧ 
    iteP (n2 == 0) (∃ n3 : Int, cellAt h1 ⟨h.size, 1, none⟩ = some (.int .i64 n3) ∧ ∃ n4 : Int, cellAt h1 ⟨h.size, 1, none⟩ = some (.int .i64 n4) ∧ CallsH Try.prog f_vm_Vm_Begin #[(.pointer (some ⟨x0, 0, none⟩)), (.int .i64 n3)] h1 fun r5 h6
    => ∃ n7 : Int, r5 = (.int .i64 n7) ∧ (∃ n8 : Int, cellAt h6 ⟨h.size, 1, none⟩ = some (.int .i64 n8) ∧ ((.int .i64 n8) : Value) = (.int .i64 n4)) ∧ CallsH Try.prog f_ref19_Vm_Begin #[(.pointer (some ⟨x1, 0, none⟩)), (.int .i64 n4)] h6 fun r9 h10
    => ∃ n11 : Int, r9 = (.int .i64 n11) ∧ K (.bool (n7 == n11)) h10) (iteP (n2 == 1) (∃ n12 : Int, cellAt h1 ⟨h.size, 1, none⟩ = some (.int .i64 n12) ∧ ∃ n13 : Int, cellAt h1 ⟨h.size, 1, none⟩ = some (.int .i64 n13) ∧ CallsH Try.prog f_vm_Vm_End #[(.pointer (some ⟨x0, 0, none⟩)), (.int .i64 n12)] h1 fun r14 h15
    => ∃ n16 : Int, r14 = (.int .i64 n16) ∧ (∃ n17 : Int, cellAt h15 ⟨h.size, 1, none⟩ = some (.int .i64 n17) ∧ ((.int .i64 n17) : Value) = (.int .i64 n13)) ∧ CallsH Try.prog f_ref19_Vm_End #[(.pointer (some ⟨x1, 0, none⟩)), (.int .i64 n13)] h15 fun r18 h19
    => ∃ n20 : Int, r18 = (.int .i64 n20) ∧ K (.bool (n16 == n20)) h19) (iteP (n2 == 2) (∃ n21 : Int, cellAt h1 ⟨h.size, 1, none⟩ = some (.int .i64 n21) ∧ ∃ n22 : Int, cellAt h1 ⟨h.size, 2, none⟩ = some (.int .i64 n22) ∧ ∃ n23 : Int, cellAt h1 ⟨h.size, 1, none⟩ = some (.int .i64 n23)
    ∧ ∃ n24 : Int, cellAt h1 ⟨h.size, 2, none⟩ = some (.int .i64 n24) ∧ CallsH Try.prog f_vm_Vm_Fork #[(.pointer (some ⟨x0, 0, none⟩)), (.int .i64 n21), (.int .i64 n22)] h1 fun r25 h26 => ∃ n27 : Int, r25 = (.int .i64 n27) ∧
    (∃ n28 : Int, cellAt h26 ⟨h.size, 2, none⟩ = some (.int .i64 n28) ∧ ((.int .i64 n28) : Value) = (.int .i64 n24)) ∧ (∃ n29 : Int, cellAt h26 ⟨h.size, 1, none⟩ = some (.int .i64 n29) ∧ ((.int .i64 n29) : Value) = (.int .i64 n23))
    ∧ CallsH Try.prog f_ref19_Vm_Fork #[(.pointer (some ⟨x1, 0, none⟩)), (.int .i64 n23), (.int .i64 n24)] h26 fun r30 h31 => ∃ n32 : Int, r30 = (.int .i64 n32) ∧ K (.bool (n27 == n32)) h31) (iteP (n2 == 3) (∃ n33 : Int, cellAt h1 ⟨h.size, 1, none⟩ = some (.int .i64 n33)
    ∧ ∃ n34 : Int, cellAt h1 ⟨h.size, 3, none⟩ = some (.int .i64 n34) ∧ ∃ n35 : Int, cellAt h1 ⟨h.size, 1, none⟩ = some (.int .i64 n35) ∧ ∃ n36 : Int, cellAt h1 ⟨h.size, 3, none⟩ = some (.int .i64 n36) ∧ CallsH Try.prog f_vm_Vm_Map #[(.pointer (some ⟨x0, 0, none⟩)), (.int .i64 n33), (.int .i64 n34)] h1 fun r37 h38
    => ∃ n39 : Int, r37 = (.int .i64 n39) ∧ (∃ n40 : Int, cellAt h38 ⟨h.size, 3, none⟩ = some (.int .i64 n40) ∧ ((.int .i64 n40) : Value) = (.int .i64 n36)) ∧ (∃ n41 : Int, cellAt h38 ⟨h.size, 1, none⟩ = some (.int .i64 n41)
    ∧ ((.int .i64 n41) : Value) = (.int .i64 n35)) ∧ CallsH Try.prog f_ref19_Vm_Map #[(.pointer (some ⟨x1, 0, none⟩)), (.int .i64 n35), (.int .i64 n36)] h38 fun r42 h43 => ∃ n44 : Int, r42 = (.int .i64 n44) ∧ K (.bool (n39 == n44)) h43) (iteP (n2 == 4) (∃ n45 : Int, cellAt h1 ⟨h.size, 1, none⟩ = some (.int .i64 n45)
    ∧ ∃ n46 : Int, cellAt h1 ⟨h.size, 3, none⟩ = some (.int .i64 n46) ∧ ∃ n47 : Int, cellAt h1 ⟨h.size, 1, none⟩ = some (.int .i64 n47) ∧ ∃ n48 : Int, cellAt h1 ⟨h.size, 3, none⟩ = some (.int .i64 n48) ∧ CallsH Try.prog f_vm_Vm_Unmap #[(.pointer (some ⟨x0, 0, none⟩)), (.int .i64 n45), (.int .i64 n46)] h1 fun r49 h50
    => ∃ n51 : Int, r49 = (.int .i64 n51) ∧ (∃ n52 : Int, cellAt h50 ⟨h.size, 3, none⟩ = some (.int .i64 n52) ∧ ((.int .i64 n52) : Value) = (.int .i64 n48)) ∧ (∃ n53 : Int, cellAt h50 ⟨h.size, 1, none⟩ = some (.int .i64 n53)
    ∧ ((.int .i64 n53) : Value) = (.int .i64 n47)) ∧ CallsH Try.prog f_ref19_Vm_Unmap #[(.pointer (some ⟨x1, 0, none⟩)), (.int .i64 n47), (.int .i64 n48)] h50 fun r54 h55 => ∃ n56 : Int, r54 = (.int .i64 n56) ∧ K (.bool (n51 == n56)) h55) (iteP (n2 == 5) (∃ n57 : Int, cellAt h1 ⟨h.size, 1, none⟩ = some (.int .i64 n57)
    ∧ ∃ n58 : Int, cellAt h1 ⟨h.size, 3, none⟩ = some (.int .i64 n58) ∧ ∃ n59 : Int, cellAt h1 ⟨h.size, 4, none⟩ = some (.int .u8 n59) ∧ ∃ n60 : Int, cellAt h1 ⟨h.size, 1, none⟩ = some (.int .i64 n60) ∧ ∃ n61 : Int, cellAt h1 ⟨h.size, 3, none⟩ = some (.int .i64 n61)
    ∧ ∃ n62 : Int, cellAt h1 ⟨h.size, 4, none⟩ = some (.int .u8 n62) ∧ CallsH Try.prog f_vm_Vm_Poke #[(.pointer (some ⟨x0, 0, none⟩)), (.int .i64 n57), (.int .i64 n58), (.int .u8 n59)] h1 fun r63 h64 => ∃ n65 : Int, r63 = (.int .i64 n65)
    ∧ (∃ n66 : Int, cellAt h64 ⟨h.size, 4, none⟩ = some (.int .u8 n66) ∧ ((.int .u8 n66) : Value) = (.int .u8 n62)) ∧ (∃ n67 : Int, cellAt h64 ⟨h.size, 3, none⟩ = some (.int .i64 n67) ∧ ((.int .i64 n67) : Value) = (.int .i64 n61))
    ∧ (∃ n68 : Int, cellAt h64 ⟨h.size, 1, none⟩ = some (.int .i64 n68) ∧ ((.int .i64 n68) : Value) = (.int .i64 n60)) ∧ CallsH Try.prog f_ref19_Vm_Poke #[(.pointer (some ⟨x1, 0, none⟩)), (.int .i64 n60), (.int .i64 n61), (.int .u8 n62)] h64 fun r69 h70
    => ∃ n71 : Int, r69 = (.int .i64 n71) ∧ K (.bool (n65 == n71)) h70) (iteP (n2 == 6) (∃ n72 : Int, cellAt h1 ⟨h.size, 1, none⟩ = some (.int .i64 n72) ∧ ∃ n73 : Int, cellAt h1 ⟨h.size, 3, none⟩ = some (.int .i64 n73) ∧ ∃ (p74 : Option Addr) (l75 c76 : Nat), cellAt h1 ⟨h.size, 5, none⟩ = some (.slice p74 l75 c76)
    ∧ ∃ n77 : Int, cellAt h1 ⟨h.size, 1, none⟩ = some (.int .i64 n77) ∧ ∃ n78 : Int, cellAt h1 ⟨h.size, 3, none⟩ = some (.int .i64 n78) ∧ ∃ (p79 : Option Addr) (l80 c81 : Nat), cellAt h1 ⟨h.size, 5, none⟩ = some (.slice p79 l80 c81)
    ∧ CallsH Try.prog f_law19_few #[(.slice p74 l75 c76)] h1 fun r82 h83 => ∃ (p84 : Option Addr) (l85 c86 : Nat), r82 = (.slice p84 l85 c86) ∧ (∃ (p87 : Option Addr) (l88 c89 : Nat), cellAt h83 ⟨h.size, 5, none⟩ = some (.slice p87 l88 c89)
    ∧ ((.slice p87 l88 c89) : Value) = (.slice p79 l80 c81)) ∧ (∃ n90 : Int, cellAt h83 ⟨h.size, 3, none⟩ = some (.int .i64 n90) ∧ ((.int .i64 n90) : Value) = (.int .i64 n78)) ∧ (∃ n91 : Int, cellAt h83 ⟨h.size, 1, none⟩ = some (.int .i64 n91)
    ∧ ((.int .i64 n91) : Value) = (.int .i64 n77)) ∧ (∃ n92 : Int, cellAt h83 ⟨h.size, 3, none⟩ = some (.int .i64 n92) ∧ ((.int .i64 n92) : Value) = (.int .i64 n73)) ∧ (∃ n93 : Int, cellAt h83 ⟨h.size, 1, none⟩ = some (.int .i64 n93)
    ∧ ((.int .i64 n93) : Value) = (.int .i64 n72)) ∧ CallsH Try.prog f_vm_Vm_Fill #[(.pointer (some ⟨x0, 0, none⟩)), (.int .i64 n72), (.int .i64 n73), (.slice p84 l85 c86)] h83 fun r94 h95 => ∃ n96 : Int, r94 = (.int .i64 n96)
    ∧ (∃ (p97 : Option Addr) (l98 c99 : Nat), cellAt h95 ⟨h.size, 5, none⟩ = some (.slice p97 l98 c99) ∧ ((.slice p97 l98 c99) : Value) = (.slice p79 l80 c81)) ∧ (∃ n100 : Int, cellAt h95 ⟨h.size, 3, none⟩ = some (.int .i64 n100)
    ∧ ((.int .i64 n100) : Value) = (.int .i64 n78)) ∧ (∃ n101 : Int, cellAt h95 ⟨h.size, 1, none⟩ = some (.int .i64 n101) ∧ ((.int .i64 n101) : Value) = (.int .i64 n77)) ∧ CallsH Try.prog f_law19_few #[(.slice p79 l80 c81)] h95 fun r102 h103
    => ∃ (p104 : Option Addr) (l105 c106 : Nat), r102 = (.slice p104 l105 c106) ∧ (∃ n107 : Int, cellAt h103 ⟨h.size, 3, none⟩ = some (.int .i64 n107) ∧ ((.int .i64 n107) : Value) = (.int .i64 n78)) ∧ (∃ n108 : Int, cellAt h103 ⟨h.size, 1, none⟩ = some (.int .i64 n108)
    ∧ ((.int .i64 n108) : Value) = (.int .i64 n77)) ∧ CallsH Try.prog f_ref19_Vm_Fill #[(.pointer (some ⟨x1, 0, none⟩)), (.int .i64 n77), (.int .i64 n78), (.slice p104 l105 c106)] h103 fun r109 h110 => ∃ n111 : Int, r109 = (.int .i64 n111)
    ∧ K (.bool (n96 == n111)) h110) (K (.bool true) h1)))))))
theorem q_law19_do_calls (x0 : Nat) (x1 : Nat) (x2a : Int) (x2b : Int) (x2c : Int) (x2d : Int) (x2e : Int) (x2fp : Option Addr) (x2fn : Nat) (x2fc : Nat) (h : Hp) (K : Value → Hp → Prop) (hq : q_law19_do x0 x1 x2a x2b x2c x2d x2e x2fp x2fn x2fc h K) : CallsH Try.prog f_law19_do #[(.pointer (some ⟨x0, 0, none⟩)), (.pointer (some ⟨x1, 0, none⟩)), (.agg #[(.int .i64 x2a), (.int .i64 x2b), (.int .i64 x2c), (.int .i64 x2d), (.int .u8 x2e), (.slice x2fp x2fn x2fc)])] h K := by
  have e : q_law19_do x0 x1 x2a x2b x2c x2d x2e x2fp x2fn x2fc h K = fnT Try.prog 116 q_law19_do_ann Try.f41 (bodyOf Try.f41) [(.pointer (some ⟨x0, 0, none⟩)), (.pointer (some ⟨x1, 0, none⟩)), (.agg #[(.int .i64 x2a), (.int .i64 x2b), (.int .i64 x2c), (.int .i64 x2d), (.int .u8 x2e), (.slice x2fp x2fn x2fc)])] h K := by kernel_rfl
  rw [e] at hq
  exact calls_of_fnT (n := 116) (ann := q_law19_do_ann) mixOk Try.func41 (by kernel_rfl) (by kernel_rfl) (fun args w => Try.call41 args w) (by kernel_rfl) hq

def q_law19_same_ann : Ann := { loops := fun x => match x with | 0 => [(5, T_int)] | 2 => [(6, T_int)] | 4 => [(11, T_int)] | 6 => [(16, T_int)] | _ => [], ty := fun _ => [], canon := fun _ => [], cuts := fun _ => none }
def q_law19_same (x0 : Nat) (x1 : Nat) (h : Hp) (K : Value → Hp → Prop) : Prop :=
    ∃ (I1 : Int → Hp → Prop) (μ2 : Int → Hp → Nat), I1 (-1) h ∧ ∀ i3 h4, I1 i3 h4 → iteP (decide (i3 ≤ 6)) (CallsH Try.prog f_vm_Vm_Pages #[(.pointer (some ⟨x0, 0, none⟩)), (.int .i64 i3)] h4 fun r5 h6 => ∃ (p7 : Option Addr) (l8 c9 : Nat), r5 = (.slice p7 l8 c9)
    ∧ CallsH Try.prog f_ref19_Vm_Pages #[(.pointer (some ⟨x1, 0, none⟩)), (.int .i64 i3)] h6 fun r10 h11 => ∃ (p12 : Option Addr) (l13 c14 : Nat), r10 = (.slice p12 l13 c14) ∧ CallsH Try.prog f_ref06_SameInts #[(.slice p7 l8 c9), (.slice p12 l13 c14)] h11 fun r15 h16
    => ∃ b17 : Bool, r15 = (.bool b17) ∧ iteP (!b17) (K (.bool false) h16) (∃ (I18 : Int → Hp → Prop) (μ19 : Int → Hp → Nat), I18 (-1) h16 ∧ ∀ i20 h21, I18 i20 h21 → iteP (decide (i20 < 6)) (CallsH Try.prog f_vm_Vm_Frame #[(.pointer (some ⟨x0, 0, none⟩)), (.int .i64 i3), (.int .i64 i20)] h21 fun r22 h23
    => ∃ n24 : Int, ∃ b25 : Bool, r22 = (.tuple #[(.int .i64 n24), (.bool b25)]) ∧ CallsH Try.prog f_ref19_Vm_Frame #[(.pointer (some ⟨x1, 0, none⟩)), (.int .i64 i3), (.int .i64 i20)] h23 fun r26 h27 => ∃ n28 : Int, ∃ b29 : Bool, r26 = (.tuple #[(.int .i64 n28), (.bool b29)])
    ∧ iteP (n24 != n28) (K (.bool false) h27) (iteP (!(b25 == b29)) (K (.bool false) h27) (I18 (IntKind.wrap .i64 (i20 + 1)) h27 ∧ μ19 (IntKind.wrap .i64 (i20 + 1)) h27 < μ19 i20 h21))) (∃ (I30 : Int → Hp → Prop) (μ31 : Int → Hp → Nat), I30 (-1) h21
    ∧ ∀ i32 h33, I30 i32 h33 → iteP (decide (i32 < 130)) (CallsH Try.prog f_vm_Vm_Peek #[(.pointer (some ⟨x0, 0, none⟩)), (.int .i64 i3), (.int .i64 i32)] h33 fun r34 h35 => ∃ n36 : Int, ∃ n37 : Int, r34 = (.tuple #[(.int .u8 n36), (.int .i64 n37)])
    ∧ CallsH Try.prog f_ref19_Vm_Peek #[(.pointer (some ⟨x1, 0, none⟩)), (.int .i64 i3), (.int .i64 i32)] h35 fun r38 h39 => ∃ n40 : Int, ∃ n41 : Int, r38 = (.tuple #[(.int .u8 n40), (.int .i64 n41)]) ∧ iteP (n36 != n40) (K (.bool false) h39) (iteP (n37 != n41) (K (.bool false) h39) (I30 (IntKind.wrap .i64 (i32 + 5)) h39
    ∧ μ31 (IntKind.wrap .i64 (i32 + 5)) h39 < μ31 i32 h33))) (I1 (IntKind.wrap .i64 (i3 + 1)) h33 ∧ μ2 (IntKind.wrap .i64 (i3 + 1)) h33 < μ2 i3 h4)))) (∃ (I42 : Int → Hp → Prop) (μ43 : Int → Hp → Nat), I42 (-1) h4 ∧ ∀ i44 h45, I42 i44 h45 → iteP (decide (i44 < 10)) (CallsH Try.prog f_vm_Vm_Refs #[(.pointer (some ⟨x0, 0, none⟩)), (.int .i64 i44)] h45 fun r46 h47
    => ∃ n48 : Int, r46 = (.int .i64 n48) ∧ CallsH Try.prog f_ref19_Vm_Refs #[(.pointer (some ⟨x1, 0, none⟩)), (.int .i64 i44)] h47 fun r49 h50 => ∃ n51 : Int, r49 = (.int .i64 n51) ∧ iteP (n48 != n51) (K (.bool false) h50) (I42 (IntKind.wrap .i64 (i44 + 1)) h50
    ∧ μ43 (IntKind.wrap .i64 (i44 + 1)) h50 < μ43 i44 h45)) (CallsH Try.prog f_vm_Vm_Left #[(.pointer (some ⟨x0, 0, none⟩))] h45 fun r52 h53 => ∃ n54 : Int, r52 = (.int .i64 n54) ∧ CallsH Try.prog f_ref19_Vm_Left #[(.pointer (some ⟨x1, 0, none⟩))] h53 fun r55 h56
    => ∃ n57 : Int, r55 = (.int .i64 n57) ∧ iteP (n54 == n57) (CallsH Try.prog f_vm_Vm_Copies #[(.pointer (some ⟨x0, 0, none⟩))] h56 fun r58 h59 => ∃ n60 : Int, r58 = (.int .i64 n60) ∧ CallsH Try.prog f_ref19_Vm_Copies #[(.pointer (some ⟨x1, 0, none⟩))] h59 fun r61 h62
    => ∃ n63 : Int, r61 = (.int .i64 n63) ∧ K (.bool (n60 == n63)) h62) (K (.bool false) h56)))
theorem q_law19_same_calls (x0 : Nat) (x1 : Nat) (h : Hp) (K : Value → Hp → Prop) (hq : q_law19_same x0 x1 h K) : CallsH Try.prog f_law19_same #[(.pointer (some ⟨x0, 0, none⟩)), (.pointer (some ⟨x1, 0, none⟩))] h K := by
  have e : q_law19_same x0 x1 h K = fnT Try.prog 104 q_law19_same_ann Try.f38 (bodyOf Try.f38) [(.pointer (some ⟨x0, 0, none⟩)), (.pointer (some ⟨x1, 0, none⟩))] h K := by kernel_rfl
  rw [e] at hq
  exact calls_of_fnT (n := 104) (ann := q_law19_same_ann) mixOk Try.func38 (by kernel_rfl) (by kernel_rfl) (fun args w => Try.call38 args w) (by kernel_rfl) hq

def q_law19_play_ann : Ann := { loops := fun x => match x with | 0 => [(10, T_int)] | 2 => [(11, T_int)] | _ => [], ty := fun _ => [], canon := fun _ => [], cuts := fun _ => none }
def q_law19_play (x0 : Int) (x1p : Option Addr) (x1n : Nat) (x1c : Nat) (h : Hp) (K : Value → Hp → Prop) : Prop :=
    CallsH Try.prog f_vm_New #[(.int .i64 (IntKind.wrap .i64 ((Int.tmod (IntKind.wrap .i64 x0) 8) + 1)))] h fun r1 h2 => ∃ p3 : Option Addr, r1 = (.pointer p3) ∧ CallsH Try.prog f_ref19_New #[(.int .i64 (IntKind.wrap .i64 ((Int.tmod (IntKind.wrap .i64 x0) 8) + 1)))] h2 fun r4 h5
    => ∃ p6 : Option Addr, r4 = (.pointer p6) ∧ iteP p3.isNone (K (.tuple #[(.pointer p3), (.pointer p6), (.bool false)]) h5) (iteP p6.isNone (K (.tuple #[(.pointer p3), (.pointer p6), (.bool false)]) h5) (CallsH Try.prog f_law19_do #[(.pointer p3), (.pointer p6), (.agg #[(.int .i64 0), (.int .i64 0), (.int .i64 0), (.int .i64 0), (.int .u8 0), (.slice none 0 0)])] h5 fun r7 h8
    => ∃ b9 : Bool, r7 = (.bool b9) ∧ iteP (!b9) (K (.tuple #[(.pointer p3), (.pointer p6), (.bool false)]) h8) (∃ (I10 : Int → Hp → Prop) (μ11 : Int → Hp → Nat), I10 0 h8 ∧ ∀ i12 h13, I10 i12 h13 → iteP (decide (i12 < 3)) (CallsH Try.prog f_law19_do #[(.pointer p3), (.pointer p6), (.agg #[(.int .i64 3), (.int .i64 0), (.int .i64 0), (.int .i64 i12), (.int .u8 0), (.slice none 0 0)])] h13 fun r14 h15
    => ∃ b16 : Bool, r14 = (.bool b16) ∧ iteP (!b16) (K (.tuple #[(.pointer p3), (.pointer p6), (.bool false)]) h15) (I10 (IntKind.wrap .i64 (i12 + 1)) h15 ∧ μ11 (IntKind.wrap .i64 (i12 + 1)) h15 < μ11 i12 h13)) (∃ (I17 : Int → Hp → Prop) (μ18 : Int → Hp → Nat), I17 0 h13
    ∧ ∀ i19 h20, I17 i19 h20 → iteP (decide (i19 < ((x1n : Nat) : Int))) (iteP (decide (i19 < 40)) ((0 : Int) ≤ i19 ∧ i19 < ((x1n : Nat) : Int) ∧ wth x1p fun a21 => ∃ n22 : Int, cellAt h20 (a21.add (Int.toNat i19 * 6)) = some (.int .i64 n22)
    ∧ ∃ n23 : Int, cellAt h20 ((a21.add (Int.toNat i19 * 6)).add 1) = some (.int .i64 n23) ∧ ∃ n24 : Int, cellAt h20 ((a21.add (Int.toNat i19 * 6)).add 2) = some (.int .i64 n24) ∧ ∃ n25 : Int, cellAt h20 ((a21.add (Int.toNat i19 * 6)).add 3) = some (.int .i64 n25)
    ∧ ∃ n26 : Int, cellAt h20 ((a21.add (Int.toNat i19 * 6)).add 4) = some (.int .u8 n26) ∧ ∃ (p27 : Option Addr) (l28 c29 : Nat), cellAt h20 ((a21.add (Int.toNat i19 * 6)).add 5) = some (.slice p27 l28 c29) ∧ CallsH Try.prog f_law19_do #[(.pointer p3), (.pointer p6), (.agg #[(.int .i64 n22), (.int .i64 n23), (.int .i64 n24), (.int .i64 n25), (.int .u8 n26), (.slice p27 l28 c29)])] h20 fun r30 h31
    => ∃ b32 : Bool, r30 = (.bool b32) ∧ iteP (!b32) (K (.tuple #[(.pointer p3), (.pointer p6), (.bool false)]) h31) (I17 (IntKind.wrap .i64 (i19 + 1)) h31 ∧ μ18 (IntKind.wrap .i64 (i19 + 1)) h31 < μ18 i19 h20)) (K (.tuple #[(.pointer p3), (.pointer p6), (.bool true)]) h20)) (K (.tuple #[(.pointer p3), (.pointer p6), (.bool true)]) h20)))))
theorem q_law19_play_calls (x0 : Int) (x1p : Option Addr) (x1n : Nat) (x1c : Nat) (h : Hp) (K : Value → Hp → Prop) (hq : q_law19_play x0 x1p x1n x1c h K) : CallsH Try.prog f_law19_play #[(.int .u8 x0), (.slice x1p x1n x1c)] h K := by
  have e : q_law19_play x0 x1p x1n x1c h K = fnT Try.prog 69 q_law19_play_ann Try.f36 (bodyOf Try.f36) [(.int .u8 x0), (.slice x1p x1n x1c)] h K := by kernel_rfl
  rw [e] at hq
  exact calls_of_fnT (n := 69) (ann := q_law19_play_ann) mixOk Try.func36 (by kernel_rfl) (by kernel_rfl) (fun args w => Try.call36 args w) (by kernel_rfl) hq

def q_law19_few_ann : Ann := { loops := fun _ => [], ty := fun _ => [], canon := fun _ => [], cuts := fun _ => none }
def q_law19_few (x0p : Option Addr) (x0n : Nat) (x0c : Nat) (h : Hp) (K : Value → Hp → Prop) : Prop :=
    iteP (decide (((x0n : Nat) : Int) > 120)) ((0 : Int) ≤ 120 ∧ (Int.toNat 120) ≤ x0c ∧ K (.slice (if x0c = 0 then x0p else Option.map (fun a : Addr => a.add (0 * 1)) x0p) ((Int.toNat 120) - 0) (x0c - 0)) h) (K (.slice x0p x0n x0c) h)
theorem q_law19_few_calls (x0p : Option Addr) (x0n : Nat) (x0c : Nat) (h : Hp) (K : Value → Hp → Prop) (hq : q_law19_few x0p x0n x0c h K) : CallsH Try.prog f_law19_few #[(.slice x0p x0n x0c)] h K := by
  have e : q_law19_few x0p x0n x0c h K = fnT Try.prog 9 q_law19_few_ann Try.f102 (bodyOf Try.f102) [(.slice x0p x0n x0c)] h K := by kernel_rfl
  rw [e] at hq
  exact calls_of_fnT (n := 9) (ann := q_law19_few_ann) mixOk Try.func102 (by kernel_rfl) (by kernel_rfl) (fun args w => Try.call102 args w) (by kernel_rfl) hq

def q_law19_VmPlays_ann : Ann := { loops := fun _ => [], ty := fun _ => [], canon := fun _ => [], cuts := fun _ => none }
def q_law19_VmPlays (x0 : Int) (x1p : Option Addr) (x1n : Nat) (x1c : Nat) (h : Hp) (K : Value → Hp → Prop) : Prop :=
    CallsH Try.prog f_law19_play #[(.int .u8 x0), (.slice x1p x1n x1c)] h fun r1 h2 => ∃ p3 : Option Addr, ∃ p4 : Option Addr, ∃ b5 : Bool, r1 = (.tuple #[(.pointer p3), (.pointer p4), (.bool b5)]) ∧ CallsH Try.prog f_law19_live #[] h2 fun r6 h7
    => ∃ b8 : Bool, r6 = (.bool b8) ∧ iteP b8 (iteP b5 (CallsH Try.prog f_law19_same #[(.pointer p3), (.pointer p4)] h7 fun r9 h10 => ∃ b11 : Bool, r9 = (.bool b11) ∧ K (.bool b11) h10) (K (.bool false) h7)) (K (.bool false) h7)
theorem q_law19_VmPlays_calls (x0 : Int) (x1p : Option Addr) (x1n : Nat) (x1c : Nat) (h : Hp) (K : Value → Hp → Prop) (hq : q_law19_VmPlays x0 x1p x1n x1c h K) : CallsH Try.prog f_law19_VmPlays #[(.int .u8 x0), (.slice x1p x1n x1c)] h K := by
  have e : q_law19_VmPlays x0 x1p x1n x1c h K = fnT Try.prog 24 q_law19_VmPlays_ann Try.f6 (bodyOf Try.f6) [(.int .u8 x0), (.slice x1p x1n x1c)] h K := by kernel_rfl
  rw [e] at hq
  exact calls_of_fnT (n := 24) (ann := q_law19_VmPlays_ann) mixOk Try.func6 (by kernel_rfl) (by kernel_rfl) (fun args w => Try.call6 args w) (by kernel_rfl) hq

def q_law19_VmForks_ann : Ann := { loops := fun x => match x with | 0 => [(12, T_int)] | _ => [], ty := fun _ => [], canon := fun _ => [], cuts := fun _ => none }
def q_law19_VmForks (x0 : Int) (x1p : Option Addr) (x1n : Nat) (x1c : Nat) (x2p : Option Addr) (x2n : Nat) (x2c : Nat) (h : Hp) (K : Value → Hp → Prop) : Prop :=
    CallsH Try.prog f_law19_play #[(.int .u8 x0), (.slice x1p x1n x1c)] h fun r1 h2 => ∃ p3 : Option Addr, ∃ p4 : Option Addr, ∃ b5 : Bool, r1 = (.tuple #[(.pointer p3), (.pointer p4), (.bool b5)]) ∧ CallsH Try.prog f_law19_live #[] h2 fun r6 h7
    => ∃ b8 : Bool, r6 = (.bool b8) ∧ iteP (!b8) (K (.bool false) h7) (iteP (!b5) (K (.bool false) h7) (CallsH Try.prog f_vm_Vm_Copy #[(.pointer p3)] h7 fun r9 h10 => ∃ p11 : Option Addr, r9 = (.pointer p11) ∧ CallsH Try.prog f_ref19_Vm_Copy #[(.pointer p4)] h10 fun r12 h13
    => ∃ p14 : Option Addr, r12 = (.pointer p14) ∧ ∃ (I15 : Int → Hp → Prop) (μ16 : Int → Hp → Nat), I15 0 h13 ∧ ∀ i17 h18, I15 i17 h18 → iteP (decide (i17 < ((x2n : Nat) : Int))) (iteP (decide (i17 < 14)) ((0 : Int) ≤ i17 ∧
    i17 < ((x2n : Nat) : Int) ∧ wth x2p fun a19 => ∃ n20 : Int, cellAt h18 (a19.add (Int.toNat i17 * 6)) = some (.int .i64 n20) ∧ ∃ n21 : Int, cellAt h18 ((a19.add (Int.toNat i17 * 6)).add 1) = some (.int .i64 n21) ∧ ∃ n22 : Int, cellAt h18 ((a19.add (Int.toNat i17 * 6)).add 2) = some (.int .i64 n22)
    ∧ ∃ n23 : Int, cellAt h18 ((a19.add (Int.toNat i17 * 6)).add 3) = some (.int .i64 n23) ∧ ∃ n24 : Int, cellAt h18 ((a19.add (Int.toNat i17 * 6)).add 4) = some (.int .u8 n24) ∧ ∃ (p25 : Option Addr) (l26 c27 : Nat), cellAt h18 ((a19.add (Int.toNat i17 * 6)).add 5) = some (.slice p25 l26 c27)
    ∧ CallsH Try.prog f_law19_do #[(.pointer p11), (.pointer p14), (.agg #[(.int .i64 n20), (.int .i64 n21), (.int .i64 n22), (.int .i64 n23), (.int .u8 n24), (.slice p25 l26 c27)])] h18 fun r28 h29 => ∃ b30 : Bool, r28 = (.bool b30)
    ∧ iteP (!b30) (K (.bool false) h29) (I15 (IntKind.wrap .i64 (i17 + 1)) h29 ∧ μ16 (IntKind.wrap .i64 (i17 + 1)) h29 < μ16 i17 h18)) (CallsH Try.prog f_law19_same #[(.pointer p3), (.pointer p4)] h18 fun r31 h32 => ∃ b33 : Bool, r31 = (.bool b33)
    ∧ iteP b33 (CallsH Try.prog f_law19_same #[(.pointer p11), (.pointer p14)] h32 fun r34 h35 => ∃ b36 : Bool, r34 = (.bool b36) ∧ K (.bool b36) h35) (K (.bool false) h32))) (CallsH Try.prog f_law19_same #[(.pointer p3), (.pointer p4)] h18 fun r37 h38
    => ∃ b39 : Bool, r37 = (.bool b39) ∧ iteP b39 (CallsH Try.prog f_law19_same #[(.pointer p11), (.pointer p14)] h38 fun r40 h41 => ∃ b42 : Bool, r40 = (.bool b42) ∧ K (.bool b42) h41) (K (.bool false) h38))))
theorem q_law19_VmForks_calls (x0 : Int) (x1p : Option Addr) (x1n : Nat) (x1c : Nat) (x2p : Option Addr) (x2n : Nat) (x2c : Nat) (h : Hp) (K : Value → Hp → Prop) (hq : q_law19_VmForks x0 x1p x1n x1c x2p x2n x2c h K) : CallsH Try.prog f_law19_VmForks #[(.int .u8 x0), (.slice x1p x1n x1c), (.slice x2p x2n x2c)] h K := by
  have e : q_law19_VmForks x0 x1p x1n x1c x2p x2n x2c h K = fnT Try.prog 56 q_law19_VmForks_ann Try.f7 (bodyOf Try.f7) [(.int .u8 x0), (.slice x1p x1n x1c), (.slice x2p x2n x2c)] h K := by kernel_rfl
  rw [e] at hq
  exact calls_of_fnT (n := 56) (ann := q_law19_VmForks_ann) mixOk Try.func7 (by kernel_rfl) (by kernel_rfl) (fun args w => Try.call7 args w) (by kernel_rfl) hq

end Go.Proofs.Ytmdhfmljgjnggaa
