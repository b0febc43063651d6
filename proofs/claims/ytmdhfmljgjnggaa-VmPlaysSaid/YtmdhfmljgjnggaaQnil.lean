/- Formulas of package vm at a nil pointer, of live and VmNone. No condition. -/
import Derived.Test.YtmdhfmljgjnggaaNames
set_option linter.constructorNameAsVariable false
namespace Go.Proofs.Ytmdhfmljgjnggaa

def q_vm_Vm_of_nil_ann : Ann := { loops := fun _ => [], ty := fun _ => [], canon := fun _ => [], cuts := fun _ => none }
def q_vm_Vm_of_nil (x1 : Int) (h : Hp) (K : Value → Hp → Prop) : Prop :=
    K (.tuple #[(.map none), (.int .i64 1)]) h
theorem q_vm_Vm_of_nil_calls (x1 : Int) (h : Hp) (K : Value → Hp → Prop) (hq : q_vm_Vm_of_nil x1 h K) : CallsH Try.prog f_vm_Vm_of #[(.pointer none), (.int .i64 x1)] h K := by
  have e : q_vm_Vm_of_nil x1 h K = fnT Try.prog 22 q_vm_Vm_of_nil_ann Try.f60 (bodyOf Try.f60) [(.pointer none), (.int .i64 x1)] h K := by kernel_rfl
  rw [e] at hq
  exact calls_of_fnT (n := 22) (ann := q_vm_Vm_of_nil_ann) mixOk Try.func60 (by kernel_rfl) (by kernel_rfl) (fun args w => Try.call60 args w) (by kernel_rfl) hq

def q_vm_Vm_fresh_nil_ann : Ann := { loops := fun _ => [], ty := fun _ => [], canon := fun _ => [], cuts := fun _ => none }
def q_vm_Vm_fresh_nil (x1 : Int) (h : Hp) (K : Value → Hp → Prop) : Prop :=
    K (.int .i64 1) h
theorem q_vm_Vm_fresh_nil_calls (x1 : Int) (h : Hp) (K : Value → Hp → Prop) (hq : q_vm_Vm_fresh_nil x1 h K) : CallsH Try.prog f_vm_Vm_fresh #[(.pointer none), (.int .i64 x1)] h K := by
  have e : q_vm_Vm_fresh_nil x1 h K = fnT Try.prog 25 q_vm_Vm_fresh_nil_ann Try.f58 (bodyOf Try.f58) [(.pointer none), (.int .i64 x1)] h K := by kernel_rfl
  rw [e] at hq
  exact calls_of_fnT (n := 25) (ann := q_vm_Vm_fresh_nil_ann) mixOk Try.func58 (by kernel_rfl) (by kernel_rfl) (fun args w => Try.call58 args w) (by kernel_rfl) hq

def q_vm_Vm_at_nil_ann : Ann := { loops := fun _ => [], ty := fun _ => [], canon := fun _ => [], cuts := fun _ => none }
def q_vm_Vm_at_nil (x1 : Int) (x2 : Int) (h : Hp) (K : Value → Hp → Prop) : Prop :=
    CallsH Try.prog f_vm_Vm_of #[(.pointer none), (.int .i64 x1)] h fun r1 h2 => ∃ m3 : Option Nat, ∃ n4 : Int, r1 = (.tuple #[(.map m3), (.int .i64 n4)]) ∧ iteP (n4 != 0) (K (.tuple #[(.map none), (.int .i64 n4)]) h2) (iteP (decide (x2 < 0)) (K (.tuple #[(.map none), (.int .i64 2)]) h2) (iteP (decide (x2 ≥ 512)) (K (.tuple #[(.map none), (.int .i64 2)]) h2) (CallsH Try.prog f_vm_Vm_page #[(.pointer none), (.int .i64 x1), (.int .i64 (IntKind.wrap .i64 (Int.tdiv x2 32)))] h2 fun r5 h6
    => ∃ m7 : Option Nat, ∃ b8 : Bool, ∃ n9 : Int, r5 = (.tuple #[(.map m7), (.bool b8), (.int .i64 n9)]) ∧ iteP (!b8) (K (.tuple #[(.map none), (.int .i64 10)]) h6) (K (.tuple #[(.map m7), (.int .i64 0)]) h6))))
theorem q_vm_Vm_at_nil_calls (x1 : Int) (x2 : Int) (h : Hp) (K : Value → Hp → Prop) (hq : q_vm_Vm_at_nil x1 x2 h K) : CallsH Try.prog f_vm_Vm_at #[(.pointer none), (.int .i64 x1), (.int .i64 x2)] h K := by
  have e : q_vm_Vm_at_nil x1 x2 h K = fnT Try.prog 40 q_vm_Vm_at_nil_ann Try.f62 (bodyOf Try.f62) [(.pointer none), (.int .i64 x1), (.int .i64 x2)] h K := by kernel_rfl
  rw [e] at hq
  exact calls_of_fnT (n := 40) (ann := q_vm_Vm_at_nil_ann) mixOk Try.func62 (by kernel_rfl) (by kernel_rfl) (fun args w => Try.call62 args w) (by kernel_rfl) hq

def q_vm_Vm_page_nil_ann : Ann := { loops := fun _ => [], ty := fun _ => [], canon := fun _ => [], cuts := fun _ => none }
def q_vm_Vm_page_nil (x1 : Int) (x2 : Int) (h : Hp) (K : Value → Hp → Prop) : Prop :=
    CallsH Try.prog f_vm_Vm_of #[(.pointer none), (.int .i64 x1)] h fun r1 h2 => ∃ m3 : Option Nat, ∃ n4 : Int, r1 = (.tuple #[(.map m3), (.int .i64 n4)]) ∧ iteP (n4 != 0) (K (.tuple #[(.map none), (.bool false), (.int .i64 n4)]) h2) (iteP (decide (x2 < 0)) (K (.tuple #[(.map none), (.bool false), (.int .i64 2)]) h2) (iteP (decide (x2 ≥ 16)) (K (.tuple #[(.map none), (.bool false), (.int .i64 2)]) h2) (∃ n6 : Int, ∃ b5 : Bool, RunsTo Try.prog (Instr.lookup T_N_vm_space (.map m3) (.int .i64 x2) true) h2 (.tuple #[(.int .i64 n6), .bool b5])
    ∧ K (.tuple #[(.map m3), (.bool b5), (.int .i64 0)]) h2)))
theorem q_vm_Vm_page_nil_calls (x1 : Int) (x2 : Int) (h : Hp) (K : Value → Hp → Prop) (hq : q_vm_Vm_page_nil x1 x2 h K) : CallsH Try.prog f_vm_Vm_page #[(.pointer none), (.int .i64 x1), (.int .i64 x2)] h K := by
  have e : q_vm_Vm_page_nil x1 x2 h K = fnT Try.prog 36 q_vm_Vm_page_nil_ann Try.f59 (bodyOf Try.f59) [(.pointer none), (.int .i64 x1), (.int .i64 x2)] h K := by kernel_rfl
  rw [e] at hq
  exact calls_of_fnT (n := 36) (ann := q_vm_Vm_page_nil_ann) mixOk Try.func59 (by kernel_rfl) (by kernel_rfl) (fun args w => Try.call59 args w) (by kernel_rfl) hq

def q_vm_Vm_Peek_nil_ann : Ann := { loops := fun _ => [], ty := fun _ => [], canon := fun _ => [], cuts := fun _ => none }
def q_vm_Vm_Peek_nil (x1 : Int) (x2 : Int) (h : Hp) (K : Value → Hp → Prop) : Prop :=
    CallsH Try.prog f_vm_Vm_at #[(.pointer none), (.int .i64 x1), (.int .i64 x2)] h fun r1 h2 => ∃ m3 : Option Nat, ∃ n4 : Int, r1 = (.tuple #[(.map m3), (.int .i64 n4)]) ∧ iteP (n4 != 0) (K (.tuple #[(.int .u8 0), (.int .i64 n4)]) h2) (∃ n5 : Int, RunsTo Try.prog (Instr.lookup T_N_vm_space (.map m3) (.int .i64 (IntKind.wrap .i64 (Int.tdiv x2 32))) false) h2 (.int .i64 n5)
    ∧ iteP (n5 == (-1)) (K (.tuple #[(.int .u8 0), (.int .i64 0)]) h2) (False))
theorem q_vm_Vm_Peek_nil_calls (x1 : Int) (x2 : Int) (h : Hp) (K : Value → Hp → Prop) (hq : q_vm_Vm_Peek_nil x1 x2 h K) : CallsH Try.prog f_vm_Vm_Peek #[(.pointer none), (.int .i64 x1), (.int .i64 x2)] h K := by
  have e : q_vm_Vm_Peek_nil x1 x2 h K = fnT Try.prog 37 q_vm_Vm_Peek_nil_ann Try.f15 (bodyOf Try.f15) [(.pointer none), (.int .i64 x1), (.int .i64 x2)] h K := by kernel_rfl
  rw [e] at hq
  exact calls_of_fnT (n := 37) (ann := q_vm_Vm_Peek_nil_ann) mixOk Try.func15 (by kernel_rfl) (by kernel_rfl) (fun args w => Try.call15 args w) (by kernel_rfl) hq

def q_vm_Vm_Frame_nil_ann : Ann := { loops := fun _ => [], ty := fun _ => [], canon := fun _ => [], cuts := fun _ => none }
def q_vm_Vm_Frame_nil (x1 : Int) (x2 : Int) (h : Hp) (K : Value → Hp → Prop) : Prop :=
    CallsH Try.prog f_vm_Vm_of #[(.pointer none), (.int .i64 x1)] h fun r1 h2 => ∃ m3 : Option Nat, ∃ n4 : Int, r1 = (.tuple #[(.map m3), (.int .i64 n4)]) ∧ ∃ n6 : Int, ∃ b5 : Bool, RunsTo Try.prog (Instr.lookup T_N_vm_space (.map m3) (.int .i64 x2) true) h2 (.tuple #[(.int .i64 n6), .bool b5])
    ∧ iteP (!b5) (K (.tuple #[(.int .i64 0), (.bool false)]) h2) (iteP (n6 == (-1)) (K (.tuple #[(.int .i64 0), (.bool false)]) h2) (K (.tuple #[(.int .i64 n6), (.bool true)]) h2))
theorem q_vm_Vm_Frame_nil_calls (x1 : Int) (x2 : Int) (h : Hp) (K : Value → Hp → Prop) (hq : q_vm_Vm_Frame_nil x1 x2 h K) : CallsH Try.prog f_vm_Vm_Frame #[(.pointer none), (.int .i64 x1), (.int .i64 x2)] h K := by
  have e : q_vm_Vm_Frame_nil x1 x2 h K = fnT Try.prog 31 q_vm_Vm_Frame_nil_ann Try.f42 (bodyOf Try.f42) [(.pointer none), (.int .i64 x1), (.int .i64 x2)] h K := by kernel_rfl
  rw [e] at hq
  exact calls_of_fnT (n := 31) (ann := q_vm_Vm_Frame_nil_ann) mixOk Try.func42 (by kernel_rfl) (by kernel_rfl) (fun args w => Try.call42 args w) (by kernel_rfl) hq

def q_vm_Vm_Begin_nil_ann : Ann := { loops := fun _ => [], ty := fun _ => [], canon := fun _ => [], cuts := fun _ => none }
def q_vm_Vm_Begin_nil (x1 : Int) (h : Hp) (K : Value → Hp → Prop) : Prop :=
    CallsH Try.prog f_vm_Vm_fresh #[(.pointer none), (.int .i64 x1)] h fun r1 h2 => ∃ n3 : Int, r1 = (.int .i64 n3) ∧ iteP (n3 == 0) (False) (K (.int .i64 n3) h2)
theorem q_vm_Vm_Begin_nil_calls (x1 : Int) (h : Hp) (K : Value → Hp → Prop) (hq : q_vm_Vm_Begin_nil x1 h K) : CallsH Try.prog f_vm_Vm_Begin #[(.pointer none), (.int .i64 x1)] h K := by
  have e : q_vm_Vm_Begin_nil x1 h K = fnT Try.prog 18 q_vm_Vm_Begin_nil_ann Try.f11 (bodyOf Try.f11) [(.pointer none), (.int .i64 x1)] h K := by kernel_rfl
  rw [e] at hq
  exact calls_of_fnT (n := 18) (ann := q_vm_Vm_Begin_nil_ann) mixOk Try.func11 (by kernel_rfl) (by kernel_rfl) (fun args w => Try.call11 args w) (by kernel_rfl) hq

def q_vm_Vm_End_nil_ann : Ann := { loops := fun x => match x with | 0 => [] | _ => [], ty := fun x => match x with | 22 => [T_int, T_int] | _ => [], canon := fun _ => [], cuts := fun _ => none }
def q_vm_Vm_End_nil (x1 : Int) (h : Hp) (K : Value → Hp → Prop) : Prop :=
    CallsH Try.prog f_vm_Vm_of #[(.pointer none), (.int .i64 x1)] h fun r1 h2 => ∃ m3 : Option Nat, ∃ n4 : Int, r1 = (.tuple #[(.map m3), (.int .i64 n4)]) ∧ iteP (n4 != 0) (K (.int .i64 n4) h2) (CallsH Try.prog f_maps_Clone_vm_space_int_int #[(.map m3)] h2 fun r5 h6
    => ∃ m7 : Option Nat, r5 = (.map m7) ∧ semWP Try.prog (Instr.range T_N_vm_space (.map m7)) h6 fun r8 h9 => ∃ i10 : Nat, r8 = .pointer (some ⟨i10, 0, none⟩) ∧ ∃ (I11 : Hp → Prop) (μ12 : Hp → Nat), I11  h9 ∧ ∀  h13, I11  h13 → semWP Try.prog (Instr.next (.pointer (some ⟨i10, 0, none⟩)) false T_x) h13 fun r14 h15
    => ∃ (b16 : Bool) (xs17 : List Value), r14 = .tuple ⟨.bool b16 :: xs17⟩ ∧ iteP b16 (∃ n18 : Int, ∃ n19 : Int, RunsTo Try.prog (Instr.entry (.pointer (some ⟨i10, 0, none⟩))) h15 (.tuple #[(.int .i64 n18), (.int .i64 n19)])
    ∧ CallsH Try.prog f_vm_Vm_drop #[(.pointer none), (.map m3), (.int .i64 n18)] h15 fun r20 h21 => r20 = (.tuple #[]) ∧ I11  h21 ∧ μ12  h21 < μ12  h13) (False))
theorem q_vm_Vm_End_nil_calls (x1 : Int) (h : Hp) (K : Value → Hp → Prop) (hq : q_vm_Vm_End_nil x1 h K) : CallsH Try.prog f_vm_Vm_End #[(.pointer none), (.int .i64 x1)] h K := by
  have e : q_vm_Vm_End_nil x1 h K = fnT Try.prog 33 q_vm_Vm_End_nil_ann Try.f43 (bodyOf Try.f43) [(.pointer none), (.int .i64 x1)] h K := by kernel_rfl
  rw [e] at hq
  exact calls_of_fnT (n := 33) (ann := q_vm_Vm_End_nil_ann) mixOk Try.func43 (by kernel_rfl) (by kernel_rfl) (fun args w => Try.call43 args w) (by kernel_rfl) hq

def q_vm_Vm_Fork_nil_ann : Ann := { loops := fun _ => [], ty := fun x => match x with | 38 => [T_int, T_int] | _ => [], canon := fun x => match x with | 7 => [0, 1, 2, 3, 4, 5, 6, 7] | _ => [], cuts := fun _ => none }
def q_vm_Vm_Fork_nil (x1 : Int) (x2 : Int) (h : Hp) (K : Value → Hp → Prop) : Prop :=
    CallsH Try.prog f_vm_Vm_of #[(.pointer none), (.int .i64 x1)] h fun r1 h2 => ∃ m3 : Option Nat, ∃ n4 : Int, r1 = (.tuple #[(.map m3), (.int .i64 n4)]) ∧ iteP (n4 != 0) (K (.int .i64 n4) h2) (CallsH Try.prog f_vm_Vm_fresh #[(.pointer none), (.int .i64 x2)] h2 fun r5 h6
    => ∃ n7 : Int, r5 = (.int .i64 n7) ∧ iteP (n7 != 0) (K (.int .i64 n7) h6) (False))
theorem q_vm_Vm_Fork_nil_calls (x1 : Int) (x2 : Int) (h : Hp) (K : Value → Hp → Prop) (hq : q_vm_Vm_Fork_nil x1 x2 h K) : CallsH Try.prog f_vm_Vm_Fork #[(.pointer none), (.int .i64 x1), (.int .i64 x2)] h K := by
  have e : q_vm_Vm_Fork_nil x1 x2 h K = fnT Try.prog 52 q_vm_Vm_Fork_nil_ann Try.f13 (bodyOf Try.f13) [(.pointer none), (.int .i64 x1), (.int .i64 x2)] h K := by kernel_rfl
  rw [e] at hq
  exact calls_of_fnT (n := 52) (ann := q_vm_Vm_Fork_nil_ann) mixOk Try.func13 (by kernel_rfl) (by kernel_rfl) (fun args w => Try.call13 args w) (by kernel_rfl) hq

def q_vm_Vm_Map_nil_ann : Ann := { loops := fun _ => [], ty := fun _ => [], canon := fun _ => [], cuts := fun _ => none }
def q_vm_Vm_Map_nil (x1 : Int) (x2 : Int) (h : Hp) (K : Value → Hp → Prop) : Prop :=
    CallsH Try.prog f_vm_Vm_page #[(.pointer none), (.int .i64 x1), (.int .i64 x2)] h fun r1 h2 => ∃ m3 : Option Nat, ∃ b4 : Bool, ∃ n5 : Int, r1 = (.tuple #[(.map m3), (.bool b4), (.int .i64 n5)]) ∧ iteP (n5 != 0) (K (.int .i64 n5) h2) (iteP b4 (K (.int .i64 6) h2) (semWP Try.prog (Instr.mapUpdate T_N_vm_space (.map m3) (.int .i64 x2) (.int .i64 (-1))) h2 fun _ h6
    => K (.int .i64 0) h6))
theorem q_vm_Vm_Map_nil_calls (x1 : Int) (x2 : Int) (h : Hp) (K : Value → Hp → Prop) (hq : q_vm_Vm_Map_nil x1 x2 h K) : CallsH Try.prog f_vm_Vm_Map #[(.pointer none), (.int .i64 x1), (.int .i64 x2)] h K := by
  have e : q_vm_Vm_Map_nil x1 x2 h K = fnT Try.prog 26 q_vm_Vm_Map_nil_ann Try.f12 (bodyOf Try.f12) [(.pointer none), (.int .i64 x1), (.int .i64 x2)] h K := by kernel_rfl
  rw [e] at hq
  exact calls_of_fnT (n := 26) (ann := q_vm_Vm_Map_nil_ann) mixOk Try.func12 (by kernel_rfl) (by kernel_rfl) (fun args w => Try.call12 args w) (by kernel_rfl) hq

def q_vm_Vm_Unmap_nil_ann : Ann := { loops := fun _ => [], ty := fun _ => [], canon := fun _ => [], cuts := fun _ => none }
def q_vm_Vm_Unmap_nil (x1 : Int) (x2 : Int) (h : Hp) (K : Value → Hp → Prop) : Prop :=
    CallsH Try.prog f_vm_Vm_page #[(.pointer none), (.int .i64 x1), (.int .i64 x2)] h fun r1 h2 => ∃ m3 : Option Nat, ∃ b4 : Bool, ∃ n5 : Int, r1 = (.tuple #[(.map m3), (.bool b4), (.int .i64 n5)]) ∧ iteP (n5 != 0) (K (.int .i64 n5) h2) (iteP (!b4) (K (.int .i64 10) h2) (CallsH Try.prog f_vm_Vm_drop #[(.pointer none), (.map m3), (.int .i64 x2)] h2 fun r6 h7
    => r6 = (.tuple #[]) ∧ K (.int .i64 0) h7))
theorem q_vm_Vm_Unmap_nil_calls (x1 : Int) (x2 : Int) (h : Hp) (K : Value → Hp → Prop) (hq : q_vm_Vm_Unmap_nil x1 x2 h K) : CallsH Try.prog f_vm_Vm_Unmap #[(.pointer none), (.int .i64 x1), (.int .i64 x2)] h K := by
  have e : q_vm_Vm_Unmap_nil x1 x2 h K = fnT Try.prog 29 q_vm_Vm_Unmap_nil_ann Try.f44 (bodyOf Try.f44) [(.pointer none), (.int .i64 x1), (.int .i64 x2)] h K := by kernel_rfl
  rw [e] at hq
  exact calls_of_fnT (n := 29) (ann := q_vm_Vm_Unmap_nil_ann) mixOk Try.func44 (by kernel_rfl) (by kernel_rfl) (fun args w => Try.call44 args w) (by kernel_rfl) hq

def q_vm_Vm_Poke_nil_ann : Ann := { loops := fun _ => [], ty := fun _ => [], canon := fun x => match x with | 8 => [0, 1, 2, 3, 4, 5, 6, 7, 8, 9, 10, 11] | _ => [], cuts := fun _ => none }
def q_vm_Vm_Poke_nil (x1 : Int) (x2 : Int) (x3 : Int) (h : Hp) (K : Value → Hp → Prop) : Prop :=
    CallsH Try.prog f_vm_Vm_at #[(.pointer none), (.int .i64 x1), (.int .i64 x2)] h fun r1 h2 => ∃ m3 : Option Nat, ∃ n4 : Int, r1 = (.tuple #[(.map m3), (.int .i64 n4)]) ∧ iteP (n4 != 0) (K (.int .i64 n4) h2) (CallsH Try.prog f_vm_Vm_own #[(.pointer none), (.map m3), (.int .i64 (IntKind.wrap .i64 (Int.tdiv x2 32)))] h2 fun r5 h6
    => ∃ n7 : Int, r5 = (.int .i64 n7) ∧ iteP (n7 != 0) (K (.int .i64 n7) h6) (False))
theorem q_vm_Vm_Poke_nil_calls (x1 : Int) (x2 : Int) (x3 : Int) (h : Hp) (K : Value → Hp → Prop) (hq : q_vm_Vm_Poke_nil x1 x2 x3 h K) : CallsH Try.prog f_vm_Vm_Poke #[(.pointer none), (.int .i64 x1), (.int .i64 x2), (.int .u8 x3)] h K := by
  have e : q_vm_Vm_Poke_nil x1 x2 x3 h K = fnT Try.prog 43 q_vm_Vm_Poke_nil_ann Try.f14 (bodyOf Try.f14) [(.pointer none), (.int .i64 x1), (.int .i64 x2), (.int .u8 x3)] h K := by kernel_rfl
  rw [e] at hq
  exact calls_of_fnT (n := 43) (ann := q_vm_Vm_Poke_nil_ann) mixOk Try.func14 (by kernel_rfl) (by kernel_rfl) (fun args w => Try.call14 args w) (by kernel_rfl) hq

def q_vm_Vm_Fill_nil_ann : Ann := { loops := fun x => match x with | 0 => [(11, T_int), (12, T_int)] | 2 => [(74, T_int)] | _ => [], ty := fun _ => [], canon := fun _ => [], cuts := fun _ => none }
def q_vm_Vm_Fill_nil (x1 : Int) (x2 : Int) (x3p : Option Addr) (x3n : Nat) (x3c : Nat) (h : Hp) (K : Value → Hp → Prop) : Prop :=
    CallsH Try.prog f_vm_Vm_of #[(.pointer none), (.int .i64 x1)] h fun r1 h2 => ∃ m3 : Option Nat, ∃ n4 : Int, r1 = (.tuple #[(.map m3), (.int .i64 n4)]) ∧ iteP (n4 != 0) (K (.int .i64 n4) h2) (iteP (decide (x2 < 0)) (K (.int .i64 2) h2) (iteP (decide (x2 ≥ 512)) (K (.int .i64 2) h2) (iteP (decide (((x3n : Nat) : Int) > (IntKind.wrap .i64 (512 - x2)))) (K (.int .i64 2) h2) (iteP (((x3n : Nat) : Int) == 0) (K (.int .i64 0) h2) (∃ (I5 : Int → Int → Hp → Prop) (μ6 : Int → Int → Hp → Nat), I5 0 (IntKind.wrap .i64 (Int.tdiv x2 32)) h2
    ∧ ∀ i7 i8 h9, I5 i7 i8 h9 → iteP (decide (i8 ≤ (IntKind.wrap .i64 (Int.tdiv (IntKind.wrap .i64 ((IntKind.wrap .i64 (x2 + ((x3n : Nat) : Int))) - 1)) 32)))) (∃ n11 : Int, ∃ b10 : Bool, RunsTo Try.prog (Instr.lookup T_N_vm_space (.map m3) (.int .i64 i8) true) h9 (.tuple #[(.int .i64 n11), .bool b10])
    ∧ iteP (!b10) (K (.int .i64 10) h9) (CallsH Try.prog f_vm_Vm_alone #[(.pointer none), (.int .i64 n11)] h9 fun r12 h13 => ∃ b14 : Bool, r12 = (.bool b14) ∧ iteP (!b14) (I5 (IntKind.wrap .i64 (i7 + 1)) (IntKind.wrap .i64 (i8 + 1)) h13
    ∧ μ6 (IntKind.wrap .i64 (i7 + 1)) (IntKind.wrap .i64 (i8 + 1)) h13 < μ6 i7 i8 h9) (I5 i7 (IntKind.wrap .i64 (i8 + 1)) h13 ∧ μ6 i7 (IntKind.wrap .i64 (i8 + 1)) h13 < μ6 i7 i8 h9))) (CallsH Try.prog f_vm_Vm_Left #[(.pointer none)] h9 fun r15 h16
    => ∃ n17 : Int, r15 = (.int .i64 n17) ∧ iteP (decide (i7 > n17)) (K (.int .i64 4) h16) (∃ (I18 : Int → Hp → Prop) (μ19 : Int → Hp → Nat), I18 0 h16 ∧ ∀ i20 h21, I18 i20 h21 → iteP (decide (i20 < ((x3n : Nat) : Int))) ((0 : Int) ≤ i20
    ∧ i20 < ((x3n : Nat) : Int) ∧ wth x3p fun a22 => ∃ n23 : Int, cellAt h21 (a22.add (Int.toNat i20 * 1)) = some (.int .u8 n23) ∧ CallsH Try.prog f_vm_Vm_Poke #[(.pointer none), (.int .i64 x1), (.int .i64 (IntKind.wrap .i64 (x2 + i20))), (.int .u8 n23)] h21 fun r24 h25
    => ∃ n26 : Int, r24 = (.int .i64 n26) ∧ I18 (IntKind.wrap .i64 (i20 + 1)) h25 ∧ μ19 (IntKind.wrap .i64 (i20 + 1)) h25 < μ19 i20 h21) (K (.int .i64 0) h21))))))))
theorem q_vm_Vm_Fill_nil_calls (x1 : Int) (x2 : Int) (x3p : Option Addr) (x3n : Nat) (x3c : Nat) (h : Hp) (K : Value → Hp → Prop) (hq : q_vm_Vm_Fill_nil x1 x2 x3p x3n x3c h K) : CallsH Try.prog f_vm_Vm_Fill #[(.pointer none), (.int .i64 x1), (.int .i64 x2), (.slice x3p x3n x3c)] h K := by
  have e : q_vm_Vm_Fill_nil x1 x2 x3p x3n x3c h K = fnT Try.prog 87 q_vm_Vm_Fill_nil_ann Try.f45 (bodyOf Try.f45) [(.pointer none), (.int .i64 x1), (.int .i64 x2), (.slice x3p x3n x3c)] h K := by kernel_rfl
  rw [e] at hq
  exact calls_of_fnT (n := 87) (ann := q_vm_Vm_Fill_nil_ann) mixOk Try.func45 (by kernel_rfl) (by kernel_rfl) (fun args w => Try.call45 args w) (by kernel_rfl) hq

def q_vm_Vm_Pages_nil_ann : Ann := { loops := fun _ => [], ty := fun _ => [], canon := fun _ => [], cuts := fun _ => none }
def q_vm_Vm_Pages_nil (x1 : Int) (h : Hp) (K : Value → Hp → Prop) : Prop :=
    CallsH Try.prog f_vm_Vm_of #[(.pointer none), (.int .i64 x1)] h fun r1 h2 => ∃ m3 : Option Nat, ∃ n4 : Int, r1 = (.tuple #[(.map m3), (.int .i64 n4)]) ∧ CallsH Try.prog f_maps_Keys_vm_space_int_int #[(.map m3)] h2 fun r5 h6
    => ∃ v7 : Value, r5 = v7 ∧ CallsH Try.prog f_slices_Sorted_int #[v7] h6 fun r8 h9 => ∃ (p10 : Option Addr) (l11 c12 : Nat), r8 = (.slice p10 l11 c12) ∧ K (.slice p10 l11 c12) h9
theorem q_vm_Vm_Pages_nil_calls (x1 : Int) (h : Hp) (K : Value → Hp → Prop) (hq : q_vm_Vm_Pages_nil x1 h K) : CallsH Try.prog f_vm_Vm_Pages #[(.pointer none), (.int .i64 x1)] h K := by
  have e : q_vm_Vm_Pages_nil x1 h K = fnT Try.prog 16 q_vm_Vm_Pages_nil_ann Try.f46 (bodyOf Try.f46) [(.pointer none), (.int .i64 x1)] h K := by kernel_rfl
  rw [e] at hq
  exact calls_of_fnT (n := 16) (ann := q_vm_Vm_Pages_nil_ann) mixOk Try.func46 (by kernel_rfl) (by kernel_rfl) (fun args w => Try.call46 args w) (by kernel_rfl) hq

def q_vm_Vm_Refs_nil_ann : Ann := { loops := fun _ => [], ty := fun _ => [], canon := fun _ => [], cuts := fun _ => none }
def q_vm_Vm_Refs_nil (x1 : Int) (h : Hp) (K : Value → Hp → Prop) : Prop :=
    K (.int .i64 0) h
theorem q_vm_Vm_Refs_nil_calls (x1 : Int) (h : Hp) (K : Value → Hp → Prop) (hq : q_vm_Vm_Refs_nil x1 h K) : CallsH Try.prog f_vm_Vm_Refs #[(.pointer none), (.int .i64 x1)] h K := by
  have e : q_vm_Vm_Refs_nil x1 h K = fnT Try.prog 21 q_vm_Vm_Refs_nil_ann Try.f47 (bodyOf Try.f47) [(.pointer none), (.int .i64 x1)] h K := by kernel_rfl
  rw [e] at hq
  exact calls_of_fnT (n := 21) (ann := q_vm_Vm_Refs_nil_ann) mixOk Try.func47 (by kernel_rfl) (by kernel_rfl) (fun args w => Try.call47 args w) (by kernel_rfl) hq

def q_vm_Vm_Left_nil_ann : Ann := { loops := fun _ => [], ty := fun _ => [], canon := fun _ => [], cuts := fun _ => none }
def q_vm_Vm_Left_nil  (h : Hp) (K : Value → Hp → Prop) : Prop :=
    K (.int .i64 0) h
theorem q_vm_Vm_Left_nil_calls  (h : Hp) (K : Value → Hp → Prop) (hq : q_vm_Vm_Left_nil  h K) : CallsH Try.prog f_vm_Vm_Left #[(.pointer none)] h K := by
  have e : q_vm_Vm_Left_nil  h K = fnT Try.prog 26 q_vm_Vm_Left_nil_ann Try.f17 (bodyOf Try.f17) [(.pointer none)] h K := by kernel_rfl
  rw [e] at hq
  exact calls_of_fnT (n := 26) (ann := q_vm_Vm_Left_nil_ann) mixOk Try.func17 (by kernel_rfl) (by kernel_rfl) (fun args w => Try.call17 args w) (by kernel_rfl) hq

def q_vm_Vm_Copies_nil_ann : Ann := { loops := fun _ => [], ty := fun _ => [], canon := fun _ => [], cuts := fun _ => none }
def q_vm_Vm_Copies_nil  (h : Hp) (K : Value → Hp → Prop) : Prop :=
    K (.int .i64 0) h
theorem q_vm_Vm_Copies_nil_calls  (h : Hp) (K : Value → Hp → Prop) (hq : q_vm_Vm_Copies_nil  h K) : CallsH Try.prog f_vm_Vm_Copies #[(.pointer none)] h K := by
  have e : q_vm_Vm_Copies_nil  h K = fnT Try.prog 9 q_vm_Vm_Copies_nil_ann Try.f16 (bodyOf Try.f16) [(.pointer none)] h K := by kernel_rfl
  rw [e] at hq
  exact calls_of_fnT (n := 9) (ann := q_vm_Vm_Copies_nil_ann) mixOk Try.func16 (by kernel_rfl) (by kernel_rfl) (fun args w => Try.call16 args w) (by kernel_rfl) hq

def q_vm_Vm_Copy_nil_ann : Ann := { loops := fun _ => [], ty := fun x => match x with | 31 => [T_int, T_N_vm_space] | _ => [], canon := fun _ => [], cuts := fun _ => none }
def q_vm_Vm_Copy_nil  (h : Hp) (K : Value → Hp → Prop) : Prop :=
    K (.pointer none) h
theorem q_vm_Vm_Copy_nil_calls  (h : Hp) (K : Value → Hp → Prop) (hq : q_vm_Vm_Copy_nil  h K) : CallsH Try.prog f_vm_Vm_Copy #[(.pointer none)] h K := by
  have e : q_vm_Vm_Copy_nil  h K = fnT Try.prog 42 q_vm_Vm_Copy_nil_ann Try.f39 (bodyOf Try.f39) [(.pointer none)] h K := by kernel_rfl
  rw [e] at hq
  exact calls_of_fnT (n := 42) (ann := q_vm_Vm_Copy_nil_ann) mixOk Try.func39 (by kernel_rfl) (by kernel_rfl) (fun args w => Try.call39 args w) (by kernel_rfl) hq

def q_maps_Keys_vm_space_int_int_ann : Ann := { loops := fun _ => [], ty := fun _ => [], canon := fun _ => [], cuts := fun _ => none }
def q_maps_Keys_vm_space_int_int (x0 : Nat) (h : Hp) (K : Value → Hp → Prop) : Prop :=
    letH (h.push (.cells #[(.map (some x0))] T_N_vm_space)) fun h1 => K (.func (.func f_maps_Keys_vm_space_int_int_1) #[] #[(.pointer (some ⟨h.size, 0, none⟩))]) h1
theorem q_maps_Keys_vm_space_int_int_calls (x0 : Nat) (h : Hp) (K : Value → Hp → Prop) (hq : q_maps_Keys_vm_space_int_int x0 h K) : CallsH Try.prog f_maps_Keys_vm_space_int_int #[(.map (some x0))] h K := by
  have e : q_maps_Keys_vm_space_int_int x0 h K = fnT Try.prog 4 q_maps_Keys_vm_space_int_int_ann Try.f107 (bodyOf Try.f107) [(.map (some x0))] h K := by kernel_rfl
  rw [e] at hq
  exact calls_of_fnT (n := 4) (ann := q_maps_Keys_vm_space_int_int_ann) mixOk Try.func107 (by kernel_rfl) (by kernel_rfl) (fun args w => Try.call107 args w) (by kernel_rfl) hq

def q_maps_Keys_vm_space_int_int_nil_ann : Ann := { loops := fun _ => [], ty := fun _ => [], canon := fun _ => [], cuts := fun _ => none }
def q_maps_Keys_vm_space_int_int_nil  (h : Hp) (K : Value → Hp → Prop) : Prop :=
    letH (h.push (.cells #[(.map none)] T_N_vm_space)) fun h1 => K (.func (.func f_maps_Keys_vm_space_int_int_1) #[] #[(.pointer (some ⟨h.size, 0, none⟩))]) h1
theorem q_maps_Keys_vm_space_int_int_nil_calls  (h : Hp) (K : Value → Hp → Prop) (hq : q_maps_Keys_vm_space_int_int_nil  h K) : CallsH Try.prog f_maps_Keys_vm_space_int_int #[(.map none)] h K := by
  have e : q_maps_Keys_vm_space_int_int_nil  h K = fnT Try.prog 4 q_maps_Keys_vm_space_int_int_nil_ann Try.f107 (bodyOf Try.f107) [(.map none)] h K := by kernel_rfl
  rw [e] at hq
  exact calls_of_fnT (n := 4) (ann := q_maps_Keys_vm_space_int_int_nil_ann) mixOk Try.func107 (by kernel_rfl) (by kernel_rfl) (fun args w => Try.call107 args w) (by kernel_rfl) hq

def q_law19_live_ann : Ann := { loops := fun _ => [], ty := fun _ => [], canon := fun _ => [], cuts := fun _ => none }
def q_law19_live  (h : Hp) (K : Value → Hp → Prop) : Prop :=
    CallsH Try.prog f_vm_New #[(.int .i64 3)] h fun r1 h2 => ∃ p3 : Option Addr, r1 = (.pointer p3) ∧ CallsH Try.prog f_vm_Vm_Begin #[(.pointer p3), (.int .i64 0)] h2 fun r4 h5 => ∃ n6 : Int, r4 = (.int .i64 n6) ∧ CallsH Try.prog f_vm_Vm_Map #[(.pointer p3), (.int .i64 0), (.int .i64 0)] h5 fun r7 h8
    => ∃ n9 : Int, r7 = (.int .i64 n9) ∧ CallsH Try.prog f_vm_Vm_Poke #[(.pointer p3), (.int .i64 0), (.int .i64 5), (.int .u8 7)] h8 fun r10 h11 => ∃ n12 : Int, r10 = (.int .i64 n12) ∧ CallsH Try.prog f_vm_Vm_Fork #[(.pointer p3), (.int .i64 0), (.int .i64 1)] h11 fun r13 h14
    => ∃ n15 : Int, r13 = (.int .i64 n15) ∧ CallsH Try.prog f_vm_Vm_Poke #[(.pointer p3), (.int .i64 1), (.int .i64 5), (.int .u8 8)] h14 fun r16 h17 => ∃ n18 : Int, r16 = (.int .i64 n18) ∧ CallsH Try.prog f_vm_Vm_Peek #[(.pointer p3), (.int .i64 0), (.int .i64 5)] h17 fun r19 h20
    => ∃ n21 : Int, ∃ n22 : Int, r19 = (.tuple #[(.int .u8 n21), (.int .i64 n22)]) ∧ CallsH Try.prog f_vm_Vm_Peek #[(.pointer p3), (.int .i64 1), (.int .i64 5)] h20 fun r23 h24 => ∃ n25 : Int, ∃ n26 : Int, r23 = (.tuple #[(.int .u8 n25), (.int .i64 n26)])
    ∧ iteP (n9 == 0) (iteP (n12 == 0) (iteP (n15 == 0) (iteP (n18 == 0) (iteP (n21 == 7) (iteP (n25 == 8) (CallsH Try.prog f_vm_Vm_Copies #[(.pointer p3)] h24 fun r27 h28 => ∃ n29 : Int, r27 = (.int .i64 n29) ∧ iteP (n29 == 1) (CallsH Try.prog f_vm_Vm_Left #[(.pointer p3)] h28 fun r30 h31
    => ∃ n32 : Int, r30 = (.int .i64 n32) ∧ K (.bool (n32 == 1)) h31) (K (.bool false) h28)) (K (.bool false) h24)) (K (.bool false) h24)) (K (.bool false) h24)) (K (.bool false) h24)) (K (.bool false) h24)) (K (.bool false) h24)
theorem q_law19_live_calls  (h : Hp) (K : Value → Hp → Prop) (hq : q_law19_live  h K) : CallsH Try.prog f_law19_live #[] h K := by
  have e : q_law19_live  h K = fnT Try.prog 63 q_law19_live_ann Try.f37 (bodyOf Try.f37) [] h K := by kernel_rfl
  rw [e] at hq
  exact calls_of_fnT (n := 63) (ann := q_law19_live_ann) mixOk Try.func37 (by kernel_rfl) (by kernel_rfl) (fun args w => Try.call37 args w) (by kernel_rfl) hq

def q_law19_VmNone_ann : Ann := { loops := fun _ => [], ty := fun _ => [], canon := fun _ => [], cuts := fun _ => none }
def q_law19_VmNone (x0a : Int) (x0b : Int) (x0c : Int) (x0d : Int) (x0e : Int) (x0fp : Option Addr) (x0fn : Nat) (x0fc : Nat) (x1 : Int) (h : Hp) (K : Value → Hp → Prop) : Prop :=
    letH (h.push (.cells #[(.int .i64 x0a), (.int .i64 x0b), (.int .i64 x0c), (.int .i64 x0d), (.int .u8 x0e), (.slice x0fp x0fn x0fc)] T_N_law19_Deed)) fun h1 => ∃ n2 : Int, cellAt h1 ⟨h.size, 1, none⟩ = some (.int .i64 n2) ∧ 
    ∃ n3 : Int, cellAt h1 ⟨h.size, 3, none⟩ = some (.int .i64 n3) ∧ CallsH Try.prog f_vm_Vm_Peek #[(.pointer none), (.int .i64 n2), (.int .i64 n3)] h1 fun r4 h5 => ∃ n6 : Int, ∃ n7 : Int, r4 = (.tuple #[(.int .u8 n6), (.int .i64 n7)])
    ∧ ∃ n8 : Int, cellAt h5 ⟨h.size, 1, none⟩ = some (.int .i64 n8) ∧ ∃ n9 : Int, cellAt h5 ⟨h.size, 3, none⟩ = some (.int .i64 n9) ∧ CallsH Try.prog f_vm_Vm_Frame #[(.pointer none), (.int .i64 n8), (.int .i64 n9)] h5 fun r10 h11
    => ∃ n12 : Int, ∃ b13 : Bool, r10 = (.tuple #[(.int .i64 n12), (.bool b13)]) ∧ CallsH Try.prog f_law19_live #[] h11 fun r14 h15 => ∃ b16 : Bool, r14 = (.bool b16) ∧ iteP b16 (∃ n17 : Int, cellAt h15 ⟨h.size, 1, none⟩ = some (.int .i64 n17)
    ∧ CallsH Try.prog f_vm_Vm_Begin #[(.pointer none), (.int .i64 n17)] h15 fun r18 h19 => ∃ n20 : Int, r18 = (.int .i64 n20) ∧ iteP (n20 == 1) (∃ n21 : Int, cellAt h19 ⟨h.size, 1, none⟩ = some (.int .i64 n21) ∧ CallsH Try.prog f_vm_Vm_End #[(.pointer none), (.int .i64 n21)] h19 fun r22 h23
    => ∃ n24 : Int, r22 = (.int .i64 n24) ∧ iteP (n24 == 1) (∃ n25 : Int, cellAt h23 ⟨h.size, 1, none⟩ = some (.int .i64 n25) ∧ ∃ n26 : Int, cellAt h23 ⟨h.size, 2, none⟩ = some (.int .i64 n26) ∧ CallsH Try.prog f_vm_Vm_Fork #[(.pointer none), (.int .i64 n25), (.int .i64 n26)] h23 fun r27 h28
    => ∃ n29 : Int, r27 = (.int .i64 n29) ∧ iteP (n29 == 1) (∃ n30 : Int, cellAt h28 ⟨h.size, 1, none⟩ = some (.int .i64 n30) ∧ ∃ n31 : Int, cellAt h28 ⟨h.size, 3, none⟩ = some (.int .i64 n31) ∧ CallsH Try.prog f_vm_Vm_Map #[(.pointer none), (.int .i64 n30), (.int .i64 n31)] h28 fun r32 h33
    => ∃ n34 : Int, r32 = (.int .i64 n34) ∧ iteP (n34 == 1) (∃ n35 : Int, cellAt h33 ⟨h.size, 1, none⟩ = some (.int .i64 n35) ∧ ∃ n36 : Int, cellAt h33 ⟨h.size, 3, none⟩ = some (.int .i64 n36) ∧ CallsH Try.prog f_vm_Vm_Unmap #[(.pointer none), (.int .i64 n35), (.int .i64 n36)] h33 fun r37 h38
    => ∃ n39 : Int, r37 = (.int .i64 n39) ∧ iteP (n39 == 1) (∃ n40 : Int, cellAt h38 ⟨h.size, 1, none⟩ = some (.int .i64 n40) ∧ ∃ n41 : Int, cellAt h38 ⟨h.size, 3, none⟩ = some (.int .i64 n41) ∧ CallsH Try.prog f_vm_Vm_Poke #[(.pointer none), (.int .i64 n40), (.int .i64 n41), (.int .u8 1)] h38 fun r42 h43
    => ∃ n44 : Int, r42 = (.int .i64 n44) ∧ iteP (n44 == 1) (iteP (n6 == 0) (iteP (n7 == 1) (∃ n45 : Int, cellAt h43 ⟨h.size, 1, none⟩ = some (.int .i64 n45) ∧ ∃ n46 : Int, cellAt h43 ⟨h.size, 3, none⟩ = some (.int .i64 n46)
    ∧ CallsH Try.prog f_vm_Vm_Fill #[(.pointer none), (.int .i64 n45), (.int .i64 n46), (.slice none 0 0)] h43 fun r47 h48 => ∃ n49 : Int, r47 = (.int .i64 n49) ∧ iteP (n49 == 1) (∃ n50 : Int, cellAt h48 ⟨h.size, 1, none⟩ = some (.int .i64 n50)
    ∧ CallsH Try.prog f_vm_Vm_Pages #[(.pointer none), (.int .i64 n50)] h48 fun r51 h52 => ∃ (p53 : Option Addr) (l54 c55 : Nat), r51 = (.slice p53 l54 c55) ∧ iteP (((l54 : Nat) : Int) == 0) (iteP (n12 == 0) (iteP (!b13) (∃ n56 : Int, cellAt h52 ⟨h.size, 3, none⟩ = some (.int .i64 n56)
    ∧ CallsH Try.prog f_vm_Vm_Refs #[(.pointer none), (.int .i64 n56)] h52 fun r57 h58 => ∃ n59 : Int, r57 = (.int .i64 n59) ∧ iteP (n59 == 0) (CallsH Try.prog f_vm_Vm_Left #[(.pointer none)] h58 fun r60 h61 => ∃ n62 : Int, r60 = (.int .i64 n62)
    ∧ iteP (n62 == 0) (CallsH Try.prog f_vm_Vm_Copies #[(.pointer none)] h61 fun r63 h64 => ∃ n65 : Int, r63 = (.int .i64 n65) ∧ iteP (n65 == 0) (CallsH Try.prog f_vm_Vm_Copy #[(.pointer none)] h64 fun r66 h67 => ∃ p68 : Option Addr, r66 = (.pointer p68)
    ∧ iteP p68.isNone (CallsH Try.prog f_vm_New #[(.int .i64 x1)] h67 fun r69 h70 => ∃ p71 : Option Addr, r69 = (.pointer p71) ∧ iteP (decide (x1 < 1)) (K (.bool (p71.isNone == true)) h70) (K (.bool (p71.isNone == (decide (x1 > 64)))) h70)) (K (.bool false) h67)) (K (.bool false) h64)) (K (.bool false) h61)) (K (.bool false) h58)) (K (.bool false) h52)) (K (.bool false) h52)) (K (.bool false) h52)) (K (.bool false) h48)) (K (.bool false) h43)) (K (.bool false) h43)) (K (.bool false) h43)) (K (.bool false) h38)) (K (.bool false) h33)) (K (.bool false) h28)) (K (.bool false) h23)) (K (.bool false) h19)) (K (.bool false) h15)
theorem q_law19_VmNone_calls (x0a : Int) (x0b : Int) (x0c : Int) (x0d : Int) (x0e : Int) (x0fp : Option Addr) (x0fn : Nat) (x0fc : Nat) (x1 : Int) (h : Hp) (K : Value → Hp → Prop) (hq : q_law19_VmNone x0a x0b x0c x0d x0e x0fp x0fn x0fc x1 h K) : CallsH Try.prog f_law19_VmNone #[(.agg #[(.int .i64 x0a), (.int .i64 x0b), (.int .i64 x0c), (.int .i64 x0d), (.int .u8 x0e), (.slice x0fp x0fn x0fc)]), (.int .i64 x1)] h K := by
  have e : q_law19_VmNone x0a x0b x0c x0d x0e x0fp x0fn x0fc x1 h K = fnT Try.prog 146 q_law19_VmNone_ann Try.f8 (bodyOf Try.f8) [(.agg #[(.int .i64 x0a), (.int .i64 x0b), (.int .i64 x0c), (.int .i64 x0d), (.int .u8 x0e), (.slice x0fp x0fn x0fc)]), (.int .i64 x1)] h K := by kernel_rfl
  rw [e] at hq
  exact calls_of_fnT (n := 146) (ann := q_law19_VmNone_ann) mixOk Try.func8 (by kernel_rfl) (by kernel_rfl) (fun args w => Try.call8 args w) (by kernel_rfl) hq

end Go.Proofs.Ytmdhfmljgjnggaa
