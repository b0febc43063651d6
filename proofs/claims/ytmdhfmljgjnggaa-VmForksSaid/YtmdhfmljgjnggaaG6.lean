/- The texts Qnil Plain Qvm Qmem, one behind the other. No condition. -/
import Derived.Test.YtmdhfmljgjnggaaG4
import Derived.Shelf.SlGeneric
import Derived.Shelf.SlIterI.Nil
import Derived.Shelf.SortM.SortNone
import Derived.Ground.GgzProg
import Derived.Ground.SlgmProg
import Derived.Test.YtmdhfmljgjnggaaProg
import Derived.Test.YtmdhfmljgjnggaaG5
/- Formulas of package vm at a nil pointer, of live and VmNone. No condition. -/
set_option linter.constructorNameAsVariable false
namespace Go.Proofs.Ytmdhfmljgjnggaa

def q_vm_Vm_of_nil_ann : Ann := { loops := fun _ => [], ty := fun _ => [], canon := fun _ => [], cuts := fun _ => none }
def q_vm_Vm_of_nil (x1 : Int) (h : Hp) (K : Value → Hp → Prop) : Prop :=
    K (.tuple #[(.map none), (.int .i64 1)]) h
theorem q_vm_Vm_of_nil_calls (x1 : Int) (h : Hp) (K : Value → Hp → Prop) (hq : q_vm_Vm_of_nil x1 h K) : CallsH Try.prog f_vm_Vm_of #[(.pointer none), (.int .i64 x1)] h K := by
  have e : q_vm_Vm_of_nil x1 h K = fnT Try.prog 22 q_vm_Vm_of_nil_ann Try.f60 (bodyOf Try.f60) [(.pointer none), (.int .i64 x1)] h K := by kernel_rfl
  rw [e] at hq
  exact calls_of_fnT (n := 22) (ann := q_vm_Vm_of_nil_ann) mixOk Try.func60 (by kernel_rfl) (by kernel_rfl) (fun args w => Try.call60 args w) (by kernel_rfl) hq

def q_vm_Vm_fresh_nil_ann : Ann := { loops := fun _ => [], ty := fun _ => [], canon := fun _ => [], cuts := fun _ => none }
def q_vm_Vm_fresh_nil (x1 : Int) (h : Hp) (K : Value → Hp → Prop) : Prop :=
    K (.int .i64 1) h
theorem q_vm_Vm_fresh_nil_calls (x1 : Int) (h : Hp) (K : Value → Hp → Prop) (hq : q_vm_Vm_fresh_nil x1 h K) : CallsH Try.prog f_vm_Vm_fresh #[(.pointer none), (.int .i64 x1)] h K := by
  have e : q_vm_Vm_fresh_nil x1 h K = fnT Try.prog 25 q_vm_Vm_fresh_nil_ann Try.f58 (bodyOf Try.f58) [(.pointer none), (.int .i64 x1)] h K := by kernel_rfl
  rw [e] at hq
  exact calls_of_fnT (n := 25) (ann := q_vm_Vm_fresh_nil_ann) mixOk Try.func58 (by kernel_rfl) (by kernel_rfl) (fun args w => Try.call58 args w) (by kernel_rfl) hq

def q_vm_Vm_at_nil_ann : Ann := { loops := fun _ => [], ty := fun _ => [], canon := fun _ => [], cuts := fun _ => none }
def q_vm_Vm_at_nil (x1 : Int) (x2 : Int) (h : Hp) (K : Value → Hp → Prop) : Prop :=
    CallsH Try.prog f_vm_Vm_of #[(.pointer none), (.int .i64 x1)] h fun r1 h2 => ∃ m3 : Option Nat, ∃ n4 : Int, r1 = (.tuple #[(.map m3), (.int .i64 n4)]) ∧ iteP (n4 != 0) (K (.tuple #[(.map none), (.int .i64 n4)]) h2) (iteP (decide (x2 < 0)) (K (.tuple #[(.map none), (.int .i64 2)]) h2) (iteP (decide (x2 ≥ 512)) (K (.tuple #[(.map none), (.int .i64 2)]) h2) (CallsH Try.prog f_vm_Vm_page #[(.pointer none), (.int .i64 x1), (.int .i64 (IntKind.wrap .i64 (Int.tdiv x2 32)))] h2 fun r5 h6
    => ∃ m7 : Option Nat, ∃ b8 : Bool, ∃ n9 : Int, r5 = (.tuple #[(.map m7), (.bool b8), (.int .i64 n9)]) ∧ iteP (!b8) (K (.tuple #[(.map none), (.int .i64 10)]) h6) (K (.tuple #[(.map m7), (.int .i64 0)]) h6))))
theorem q_vm_Vm_at_nil_calls (x1 : Int) (x2 : Int) (h : Hp) (K : Value → Hp → Prop) (hq : q_vm_Vm_at_nil x1 x2 h K) : CallsH Try.prog f_vm_Vm_at #[(.pointer none), (.int .i64 x1), (.int .i64 x2)] h K := by
  have e : q_vm_Vm_at_nil x1 x2 h K = fnT Try.prog 40 q_vm_Vm_at_nil_ann Try.f62 (bodyOf Try.f62) [(.pointer none), (.int .i64 x1), (.int .i64 x2)] h K := by kernel_rfl
  rw [e] at hq
  exact calls_of_fnT (n := 40) (ann := q_vm_Vm_at_nil_ann) mixOk Try.func62 (by kernel_rfl) (by kernel_rfl) (fun args w => Try.call62 args w) (by kernel_rfl) hq

def q_vm_Vm_page_nil_ann : Ann := { loops := fun _ => [], ty := fun _ => [], canon := fun _ => [], cuts := fun _ => none }
def q_vm_Vm_page_nil (x1 : Int) (x2 : Int) (h : Hp) (K : Value → Hp → Prop) : Prop :=
    CallsH Try.prog f_vm_Vm_of #[(.pointer none), (.int .i64 x1)] h fun r1 h2 => ∃ m3 : Option Nat, ∃ n4 : Int, r1 = (.tuple #[(.map m3), (.int .i64 n4)]) ∧ iteP (n4 != 0) (K (.tuple #[(.map none), (.bool false), (.int .i64 n4)]) h2) (iteP (decide (x2 < 0)) (K (.tuple #[(.map none), (.bool false), (.int .i64 2)]) h2) (iteP (decide (x2 ≥ 16)) (K (.tuple #[(.map none), (.bool false), (.int .i64 2)]) h2) (∃ n6 : Int, ∃ b5 : Bool, RunsTo Try.prog (Instr.lookup T_N_vm_space (.map m3) (.int .i64 x2) true) h2 (.tuple #[(.int .i64 n6), .bool b5])
    ∧ K (.tuple #[(.map m3), (.bool b5), (.int .i64 0)]) h2)))
theorem q_vm_Vm_page_nil_calls (x1 : Int) (x2 : Int) (h : Hp) (K : Value → Hp → Prop) (hq : q_vm_Vm_page_nil x1 x2 h K) : CallsH Try.prog f_vm_Vm_page #[(.pointer none), (.int .i64 x1), (.int .i64 x2)] h K := by
  have e : q_vm_Vm_page_nil x1 x2 h K = fnT Try.prog 36 q_vm_Vm_page_nil_ann Try.f59 (bodyOf Try.f59) [(.pointer none), (.int .i64 x1), (.int .i64 x2)] h K := by kernel_rfl
  rw [e] at hq
  exact calls_of_fnT (n := 36) (ann := q_vm_Vm_page_nil_ann) mixOk Try.func59 (by kernel_rfl) (by kernel_rfl) (fun args w => Try.call59 args w) (by kernel_rfl) hq

def q_vm_Vm_Peek_nil_ann : Ann := { loops := fun _ => [], ty := fun _ => [], canon := fun _ => [], cuts := fun _ => none }
def q_vm_Vm_Peek_nil (x1 : Int) (x2 : Int) (h : Hp) (K : Value → Hp → Prop) : Prop :=
    CallsH Try.prog f_vm_Vm_at #[(.pointer none), (.int .i64 x1), (.int .i64 x2)] h fun r1 h2 => ∃ m3 : Option Nat, ∃ n4 : Int, r1 = (.tuple #[(.map m3), (.int .i64 n4)]) ∧ iteP (n4 != 0) (K (.tuple #[(.int .u8 0), (.int .i64 n4)]) h2) (∃ n5 : Int, RunsTo Try.prog (Instr.lookup T_N_vm_space (.map m3) (.int .i64 (IntKind.wrap .i64 (Int.tdiv x2 32))) false) h2 (.int .i64 n5)
    ∧ iteP (n5 == (-1)) (K (.tuple #[(.int .u8 0), (.int .i64 0)]) h2) (False))
theorem q_vm_Vm_Peek_nil_calls (x1 : Int) (x2 : Int) (h : Hp) (K : Value → Hp → Prop) (hq : q_vm_Vm_Peek_nil x1 x2 h K) : CallsH Try.prog f_vm_Vm_Peek #[(.pointer none), (.int .i64 x1), (.int .i64 x2)] h K := by
  have e : q_vm_Vm_Peek_nil x1 x2 h K = fnT Try.prog 37 q_vm_Vm_Peek_nil_ann Try.f15 (bodyOf Try.f15) [(.pointer none), (.int .i64 x1), (.int .i64 x2)] h K := by kernel_rfl
  rw [e] at hq
  exact calls_of_fnT (n := 37) (ann := q_vm_Vm_Peek_nil_ann) mixOk Try.func15 (by kernel_rfl) (by kernel_rfl) (fun args w => Try.call15 args w) (by kernel_rfl) hq

def q_vm_Vm_Frame_nil_ann : Ann := { loops := fun _ => [], ty := fun _ => [], canon := fun _ => [], cuts := fun _ => none }
def q_vm_Vm_Frame_nil (x1 : Int) (x2 : Int) (h : Hp) (K : Value → Hp → Prop) : Prop :=
    CallsH Try.prog f_vm_Vm_of #[(.pointer none), (.int .i64 x1)] h fun r1 h2 => ∃ m3 : Option Nat, ∃ n4 : Int, r1 = (.tuple #[(.map m3), (.int .i64 n4)]) ∧ ∃ n6 : Int, ∃ b5 : Bool, RunsTo Try.prog (Instr.lookup T_N_vm_space (.map m3) (.int .i64 x2) true) h2 (.tuple #[(.int .i64 n6), .bool b5])
    ∧ iteP (!b5) (K (.tuple #[(.int .i64 0), (.bool false)]) h2) (iteP (n6 == (-1)) (K (.tuple #[(.int .i64 0), (.bool false)]) h2) (K (.tuple #[(.int .i64 n6), (.bool true)]) h2))
theorem q_vm_Vm_Frame_nil_calls (x1 : Int) (x2 : Int) (h : Hp) (K : Value → Hp → Prop) (hq : q_vm_Vm_Frame_nil x1 x2 h K) : CallsH Try.prog f_vm_Vm_Frame #[(.pointer none), (.int .i64 x1), (.int .i64 x2)] h K := by
  have e : q_vm_Vm_Frame_nil x1 x2 h K = fnT Try.prog 31 q_vm_Vm_Frame_nil_ann Try.f42 (bodyOf Try.f42) [(.pointer none), (.int .i64 x1), (.int .i64 x2)] h K := by kernel_rfl
  rw [e] at hq
  exact calls_of_fnT (n := 31) (ann := q_vm_Vm_Frame_nil_ann) mixOk Try.func42 (by kernel_rfl) (by kernel_rfl) (fun args w => Try.call42 args w) (by kernel_rfl) hq

def q_vm_Vm_Begin_nil_ann : Ann := { loops := fun _ => [], ty := fun _ => [], canon := fun _ => [], cuts := fun _ => none }
def q_vm_Vm_Begin_nil (x1 : Int) (h : Hp) (K : Value → Hp → Prop) : Prop :=
    CallsH Try.prog f_vm_Vm_fresh #[(.pointer none), (.int .i64 x1)] h fun r1 h2 => ∃ n3 : Int, r1 = (.int .i64 n3) ∧ iteP (n3 == 0) (False) (K (.int .i64 n3) h2)
theorem q_vm_Vm_Begin_nil_calls (x1 : Int) (h : Hp) (K : Value → Hp → Prop) (hq : q_vm_Vm_Begin_nil x1 h K) : CallsH Try.prog f_vm_Vm_Begin #[(.pointer none), (.int .i64 x1)] h K := by
  have e : q_vm_Vm_Begin_nil x1 h K = fnT Try.prog 18 q_vm_Vm_Begin_nil_ann Try.f11 (bodyOf Try.f11) [(.pointer none), (.int .i64 x1)] h K := by kernel_rfl
  rw [e] at hq
  exact calls_of_fnT (n := 18) (ann := q_vm_Vm_Begin_nil_ann) mixOk Try.func11 (by kernel_rfl) (by kernel_rfl) (fun args w => Try.call11 args w) (by kernel_rfl) hq

def q_vm_Vm_End_nil_ann : Ann := { loops := fun x => match x with | 0 => [] | _ => [], ty := fun x => match x with | 22 => [T_int, T_int] | _ => [], canon := fun _ => [], cuts := fun _ => none }
def q_vm_Vm_End_nil (x1 : Int) (h : Hp) (K : Value → Hp → Prop) : Prop :=
    CallsH Try.prog f_vm_Vm_of #[(.pointer none), (.int .i64 x1)] h fun r1 h2 => ∃ m3 : Option Nat, ∃ n4 : Int, r1 = (.tuple #[(.map m3), (.int .i64 n4)]) ∧ iteP (n4 != 0) (K (.int .i64 n4) h2) (CallsH Try.prog f_maps_Clone_vm_space_int_int #[(.map m3)] h2 fun r5 h6
    => ∃ m7 : Option Nat, r5 = (.map m7) ∧ semWP Try.prog (Instr.range T_N_vm_space (.map m7)) h6 fun r8 h9 => ∃ i10 : Nat, r8 = .pointer (some ⟨i10, 0, none⟩) ∧ ∃ (I11 : Hp → Prop) (μ12 : Hp → Nat), I11  h9 ∧ ∀  h13, I11  h13 → semWP Try.prog (Instr.next (.pointer (some ⟨i10, 0, none⟩)) false T_x) h13 fun r14 h15
    => ∃ (b16 : Bool) (xs17 : List Value), r14 = .tuple ⟨.bool b16 :: xs17⟩ ∧ iteP b16 (∃ n18 : Int, ∃ n19 : Int, RunsTo Try.prog (Instr.entry (.pointer (some ⟨i10, 0, none⟩))) h15 (.tuple #[(.int .i64 n18), (.int .i64 n19)])
    ∧ CallsH Try.prog f_vm_Vm_drop #[(.pointer none), (.map m3), (.int .i64 n18)] h15 fun r20 h21 => r20 = (.tuple #[]) ∧ I11  h21 ∧ μ12  h21 < μ12  h13) (False))
theorem q_vm_Vm_End_nil_calls (x1 : Int) (h : Hp) (K : Value → Hp → Prop) (hq : q_vm_Vm_End_nil x1 h K) : CallsH Try.prog f_vm_Vm_End #[(.pointer none), (.int .i64 x1)] h K := by
  have e : q_vm_Vm_End_nil x1 h K = fnT Try.prog 33 q_vm_Vm_End_nil_ann Try.f43 (bodyOf Try.f43) [(.pointer none), (.int .i64 x1)] h K := by kernel_rfl
  rw [e] at hq
  exact calls_of_fnT (n := 33) (ann := q_vm_Vm_End_nil_ann) mixOk Try.func43 (by kernel_rfl) (by kernel_rfl) (fun args w => Try.call43 args w) (by kernel_rfl) hq

def q_vm_Vm_Fork_nil_ann : Ann := { loops := fun _ => [], ty := fun x => match x with | 38 => [T_int, T_int] | _ => [], canon := fun x => match x with | 7 => [0, 1, 2, 3, 4, 5, 6, 7] | _ => [], cuts := fun _ => none }
def q_vm_Vm_Fork_nil (x1 : Int) (x2 : Int) (h : Hp) (K : Value → Hp → Prop) : Prop :=
    CallsH Try.prog f_vm_Vm_of #[(.pointer none), (.int .i64 x1)] h fun r1 h2 => ∃ m3 : Option Nat, ∃ n4 : Int, r1 = (.tuple #[(.map m3), (.int .i64 n4)]) ∧ iteP (n4 != 0) (K (.int .i64 n4) h2) (CallsH Try.prog f_vm_Vm_fresh #[(.pointer none), (.int .i64 x2)] h2 fun r5 h6
    => ∃ n7 : Int, r5 = (.int .i64 n7) ∧ iteP (n7 != 0) (K (.int .i64 n7) h6) (False))
theorem q_vm_Vm_Fork_nil_calls (x1 : Int) (x2 : Int) (h : Hp) (K : Value → Hp → Prop) (hq : q_vm_Vm_Fork_nil x1 x2 h K) : CallsH Try.prog f_vm_Vm_Fork #[(.pointer none), (.int .i64 x1), (.int .i64 x2)] h K := by
  have e : q_vm_Vm_Fork_nil x1 x2 h K = fnT Try.prog 52 q_vm_Vm_Fork_nil_ann Try.f13 (bodyOf Try.f13) [(.pointer none), (.int .i64 x1), (.int .i64 x2)] h K := by kernel_rfl
  rw [e] at hq
  exact calls_of_fnT (n := 52) (ann := q_vm_Vm_Fork_nil_ann) mixOk Try.func13 (by kernel_rfl) (by kernel_rfl) (fun args w => Try.call13 args w) (by kernel_rfl) hq

def q_vm_Vm_Map_nil_ann : Ann := { loops := fun _ => [], ty := fun _ => [], canon := fun _ => [], cuts := fun _ => none }
def q_vm_Vm_Map_nil (x1 : Int) (x2 : Int) (h : Hp) (K : Value → Hp → Prop) : Prop :=
    CallsH Try.prog f_vm_Vm_page #[(.pointer none), (.int .i64 x1), (.int .i64 x2)] h fun r1 h2 => ∃ m3 : Option Nat, ∃ b4 : Bool, ∃ n5 : Int, r1 = (.tuple #[(.map m3), (.bool b4), (.int .i64 n5)]) ∧ iteP (n5 != 0) (K (.int .i64 n5) h2) (iteP b4 (K (.int .i64 6) h2) (semWP Try.prog (Instr.mapUpdate T_N_vm_space (.map m3) (.int .i64 x2) (.int .i64 (-1))) h2 fun _ h6
    => K (.int .i64 0) h6))
theorem q_vm_Vm_Map_nil_calls (x1 : Int) (x2 : Int) (h : Hp) (K : Value → Hp → Prop) (hq : q_vm_Vm_Map_nil x1 x2 h K) : CallsH Try.prog f_vm_Vm_Map #[(.pointer none), (.int .i64 x1), (.int .i64 x2)] h K := by
  have e : q_vm_Vm_Map_nil x1 x2 h K = fnT Try.prog 26 q_vm_Vm_Map_nil_ann Try.f12 (bodyOf Try.f12) [(.pointer none), (.int .i64 x1), (.int .i64 x2)] h K := by kernel_rfl
  rw [e] at hq
  exact calls_of_fnT (n := 26) (ann := q_vm_Vm_Map_nil_ann) mixOk Try.func12 (by kernel_rfl) (by kernel_rfl) (fun args w => Try.call12 args w) (by kernel_rfl) hq

def q_vm_Vm_Unmap_nil_ann : Ann := { loops := fun _ => [], ty := fun _ => [], canon := fun _ => [], cuts := fun _ => none }
def q_vm_Vm_Unmap_nil (x1 : Int) (x2 : Int) (h : Hp) (K : Value → Hp → Prop) : Prop :=
    CallsH Try.prog f_vm_Vm_page #[(.pointer none), (.int .i64 x1), (.int .i64 x2)] h fun r1 h2 => ∃ m3 : Option Nat, ∃ b4 : Bool, ∃ n5 : Int, r1 = (.tuple #[(.map m3), (.bool b4), (.int .i64 n5)]) ∧ iteP (n5 != 0) (K (.int .i64 n5) h2) (iteP (!b4) (K (.int .i64 10) h2) (CallsH Try.prog f_vm_Vm_drop #[(.pointer none), (.map m3), (.int .i64 x2)] h2 fun r6 h7
    => r6 = (.tuple #[]) ∧ K (.int .i64 0) h7))
theorem q_vm_Vm_Unmap_nil_calls (x1 : Int) (x2 : Int) (h : Hp) (K : Value → Hp → Prop) (hq : q_vm_Vm_Unmap_nil x1 x2 h K) : CallsH Try.prog f_vm_Vm_Unmap #[(.pointer none), (.int .i64 x1), (.int .i64 x2)] h K := by
  have e : q_vm_Vm_Unmap_nil x1 x2 h K = fnT Try.prog 29 q_vm_Vm_Unmap_nil_ann Try.f44 (bodyOf Try.f44) [(.pointer none), (.int .i64 x1), (.int .i64 x2)] h K := by kernel_rfl
  rw [e] at hq
  exact calls_of_fnT (n := 29) (ann := q_vm_Vm_Unmap_nil_ann) mixOk Try.func44 (by kernel_rfl) (by kernel_rfl) (fun args w => Try.call44 args w) (by kernel_rfl) hq

def q_vm_Vm_Poke_nil_ann : Ann := { loops := fun _ => [], ty := fun _ => [], canon := fun x => match x with | 8 => [0, 1, 2, 3, 4, 5, 6, 7, 8, 9, 10, 11] | _ => [], cuts := fun _ => none }
def q_vm_Vm_Poke_nil (x1 : Int) (x2 : Int) (x3 : Int) (h : Hp) (K : Value → Hp → Prop) : Prop :=
    CallsH Try.prog f_vm_Vm_at #[(.pointer none), (.int .i64 x1), (.int .i64 x2)] h fun r1 h2 => ∃ m3 : Option Nat, ∃ n4 : Int, r1 = (.tuple #[(.map m3), (.int .i64 n4)]) ∧ iteP (n4 != 0) (K (.int .i64 n4) h2) (CallsH Try.prog f_vm_Vm_own #[(.pointer none), (.map m3), (.int .i64 (IntKind.wrap .i64 (Int.tdiv x2 32)))] h2 fun r5 h6
    => ∃ n7 : Int, r5 = (.int .i64 n7) ∧ iteP (n7 != 0) (K (.int .i64 n7) h6) (False))
theorem q_vm_Vm_Poke_nil_calls (x1 : Int) (x2 : Int) (x3 : Int) (h : Hp) (K : Value → Hp → Prop) (hq : q_vm_Vm_Poke_nil x1 x2 x3 h K) : CallsH Try.prog f_vm_Vm_Poke #[(.pointer none), (.int .i64 x1), (.int .i64 x2), (.int .u8 x3)] h K := by
  have e : q_vm_Vm_Poke_nil x1 x2 x3 h K = fnT Try.prog 43 q_vm_Vm_Poke_nil_ann Try.f14 (bodyOf Try.f14) [(.pointer none), (.int .i64 x1), (.int .i64 x2), (.int .u8 x3)] h K := by kernel_rfl
  rw [e] at hq
  exact calls_of_fnT (n := 43) (ann := q_vm_Vm_Poke_nil_ann) mixOk Try.func14 (by kernel_rfl) (by kernel_rfl) (fun args w => Try.call14 args w) (by kernel_rfl) hq

def q_vm_Vm_Fill_nil_ann : Ann := { loops := fun x => match x with | 0 => [(11, T_int), (12, T_int)] | 2 => [(74, T_int)] | _ => [], ty := fun _ => [], canon := fun _ => [], cuts := fun _ => none }
def q_vm_Vm_Fill_nil (x1 : Int) (x2 : Int) (x3p : Option Addr) (x3n : Nat) (x3c : Nat) (h : Hp) (K : Value → Hp → Prop) : Prop :=
    CallsH Try.prog f_vm_Vm_of #[(.pointer none), (.int .i64 x1)] h fun r1 h2 => ∃ m3 : Option Nat, ∃ n4 : Int, r1 = (.tuple #[(.map m3), (.int .i64 n4)]) ∧ iteP (n4 != 0) (K (.int .i64 n4) h2) (iteP (decide (x2 < 0)) (K (.int .i64 2) h2) (iteP (decide (x2 ≥ 512)) (K (.int .i64 2) h2) (iteP (decide (((x3n : Nat) : Int) > (IntKind.wrap .i64 (512 - x2)))) (K (.int .i64 2) h2) (iteP (((x3n : Nat) : Int) == 0) (K (.int .i64 0) h2) (∃ (I5 : Int → Int → Hp → Prop) (μ6 : Int → Int → Hp → Nat), I5 0 (IntKind.wrap .i64 (Int.tdiv x2 32)) h2
    ∧ ∀ i7 i8 h9, I5 i7 i8 h9 → iteP (decide (i8 ≤ (IntKind.wrap .i64 (Int.tdiv (IntKind.wrap .i64 ((IntKind.wrap .i64 (x2 + ((x3n : Nat) : Int))) - 1)) 32)))) (∃ n11 : Int, ∃ b10 : Bool, RunsTo Try.prog (Instr.lookup T_N_vm_space (.map m3) (.int .i64 i8) true) h9 (.tuple #[(.int .i64 n11), .bool b10])
    ∧ iteP (!b10) (K (.int .i64 10) h9) (CallsH Try.prog f_vm_Vm_alone #[(.pointer none), (.int .i64 n11)] h9 fun r12 h13 => ∃ b14 : Bool, r12 = (.bool b14) ∧ iteP (!b14) (I5 (IntKind.wrap .i64 (i7 + 1)) (IntKind.wrap .i64 (i8 + 1)) h13
    ∧ μ6 (IntKind.wrap .i64 (i7 + 1)) (IntKind.wrap .i64 (i8 + 1)) h13 < μ6 i7 i8 h9) (I5 i7 (IntKind.wrap .i64 (i8 + 1)) h13 ∧ μ6 i7 (IntKind.wrap .i64 (i8 + 1)) h13 < μ6 i7 i8 h9))) (CallsH Try.prog f_vm_Vm_Left #[(.pointer none)] h9 fun r15 h16
    => ∃ n17 : Int, r15 = (.int .i64 n17) ∧ iteP (decide (i7 > n17)) (K (.int .i64 4) h16) (∃ (I18 : Int → Hp → Prop) (μ19 : Int → Hp → Nat), I18 0 h16 ∧ ∀ i20 h21, I18 i20 h21 → iteP (decide (i20 < ((x3n : Nat) : Int))) ((0 : Int) ≤ i20
    ∧ i20 < ((x3n : Nat) : Int) ∧ wth x3p fun a22 => ∃ n23 : Int, cellAt h21 (a22.add (Int.toNat i20 * 1)) = some (.int .u8 n23) ∧ CallsH Try.prog f_vm_Vm_Poke #[(.pointer none), (.int .i64 x1), (.int .i64 (IntKind.wrap .i64 (x2 + i20))), (.int .u8 n23)] h21 fun r24 h25
    => ∃ n26 : Int, r24 = (.int .i64 n26) ∧ I18 (IntKind.wrap .i64 (i20 + 1)) h25 ∧ μ19 (IntKind.wrap .i64 (i20 + 1)) h25 < μ19 i20 h21) (K (.int .i64 0) h21))))))))
theorem q_vm_Vm_Fill_nil_calls (x1 : Int) (x2 : Int) (x3p : Option Addr) (x3n : Nat) (x3c : Nat) (h : Hp) (K : Value → Hp → Prop) (hq : q_vm_Vm_Fill_nil x1 x2 x3p x3n x3c h K) : CallsH Try.prog f_vm_Vm_Fill #[(.pointer none), (.int .i64 x1), (.int .i64 x2), (.slice x3p x3n x3c)] h K := by
  have e : q_vm_Vm_Fill_nil x1 x2 x3p x3n x3c h K = fnT Try.prog 87 q_vm_Vm_Fill_nil_ann Try.f45 (bodyOf Try.f45) [(.pointer none), (.int .i64 x1), (.int .i64 x2), (.slice x3p x3n x3c)] h K := by kernel_rfl
  rw [e] at hq
  exact calls_of_fnT (n := 87) (ann := q_vm_Vm_Fill_nil_ann) mixOk Try.func45 (by kernel_rfl) (by kernel_rfl) (fun args w => Try.call45 args w) (by kernel_rfl) hq

def q_vm_Vm_Pages_nil_ann : Ann := { loops := fun _ => [], ty := fun _ => [], canon := fun _ => [], cuts := fun _ => none }
def q_vm_Vm_Pages_nil (x1 : Int) (h : Hp) (K : Value → Hp → Prop) : Prop :=
    CallsH Try.prog f_vm_Vm_of #[(.pointer none), (.int .i64 x1)] h fun r1 h2 => ∃ m3 : Option Nat, ∃ n4 : Int, r1 = (.tuple #[(.map m3), (.int .i64 n4)]) ∧ CallsH Try.prog f_maps_Keys_vm_space_int_int #[(.map m3)] h2 fun r5 h6
    => ∃ v7 : Value, r5 = v7 ∧ CallsH Try.prog f_slices_Sorted_int #[v7] h6 fun r8 h9 => ∃ (p10 : Option Addr) (l11 c12 : Nat), r8 = (.slice p10 l11 c12) ∧ K (.slice p10 l11 c12) h9
theorem q_vm_Vm_Pages_nil_calls (x1 : Int) (h : Hp) (K : Value → Hp → Prop) (hq : q_vm_Vm_Pages_nil x1 h K) : CallsH Try.prog f_vm_Vm_Pages #[(.pointer none), (.int .i64 x1)] h K := by
  have e : q_vm_Vm_Pages_nil x1 h K = fnT Try.prog 16 q_vm_Vm_Pages_nil_ann Try.f46 (bodyOf Try.f46) [(.pointer none), (.int .i64 x1)] h K := by kernel_rfl
  rw [e] at hq
  exact calls_of_fnT (n := 16) (ann := q_vm_Vm_Pages_nil_ann) mixOk Try.func46 (by kernel_rfl) (by kernel_rfl) (fun args w => Try.call46 args w) (by kernel_rfl) hq

def q_vm_Vm_Refs_nil_ann : Ann := { loops := fun _ => [], ty := fun _ => [], canon := fun _ => [], cuts := fun _ => none }
def q_vm_Vm_Refs_nil (x1 : Int) (h : Hp) (K : Value → Hp → Prop) : Prop :=
    K (.int .i64 0) h
theorem q_vm_Vm_Refs_nil_calls (x1 : Int) (h : Hp) (K : Value → Hp → Prop) (hq : q_vm_Vm_Refs_nil x1 h K) : CallsH Try.prog f_vm_Vm_Refs #[(.pointer none), (.int .i64 x1)] h K := by
  have e : q_vm_Vm_Refs_nil x1 h K = fnT Try.prog 21 q_vm_Vm_Refs_nil_ann Try.f47 (bodyOf Try.f47) [(.pointer none), (.int .i64 x1)] h K := by kernel_rfl
  rw [e] at hq
  exact calls_of_fnT (n := 21) (ann := q_vm_Vm_Refs_nil_ann) mixOk Try.func47 (by kernel_rfl) (by kernel_rfl) (fun args w => Try.call47 args w) (by kernel_rfl) hq

def q_vm_Vm_Left_nil_ann : Ann := { loops := fun _ => [], ty := fun _ => [], canon := fun _ => [], cuts := fun _ => none }
def q_vm_Vm_Left_nil  (h : Hp) (K : Value → Hp → Prop) : Prop :=
    K (.int .i64 0) h
theorem q_vm_Vm_Left_nil_calls  (h : Hp) (K : Value → Hp → Prop) (hq : q_vm_Vm_Left_nil  h K) : CallsH Try.prog f_vm_Vm_Left #[(.pointer none)] h K := by
  have e : q_vm_Vm_Left_nil  h K = fnT Try.prog 26 q_vm_Vm_Left_nil_ann Try.f17 (bodyOf Try.f17) [(.pointer none)] h K := by kernel_rfl
  rw [e] at hq
  exact calls_of_fnT (n := 26) (ann := q_vm_Vm_Left_nil_ann) mixOk Try.func17 (by kernel_rfl) (by kernel_rfl) (fun args w => Try.call17 args w) (by kernel_rfl) hq

def q_vm_Vm_Copies_nil_ann : Ann := { loops := fun _ => [], ty := fun _ => [], canon := fun _ => [], cuts := fun _ => none }
def q_vm_Vm_Copies_nil  (h : Hp) (K : Value → Hp → Prop) : Prop :=
    K (.int .i64 0) h
theorem q_vm_Vm_Copies_nil_calls  (h : Hp) (K : Value → Hp → Prop) (hq : q_vm_Vm_Copies_nil  h K) : CallsH Try.prog f_vm_Vm_Copies #[(.pointer none)] h K := by
  have e : q_vm_Vm_Copies_nil  h K = fnT Try.prog 9 q_vm_Vm_Copies_nil_ann Try.f16 (bodyOf Try.f16) [(.pointer none)] h K := by kernel_rfl
  rw [e] at hq
  exact calls_of_fnT (n := 9) (ann := q_vm_Vm_Copies_nil_ann) mixOk Try.func16 (by kernel_rfl) (by kernel_rfl) (fun args w => Try.call16 args w) (by kernel_rfl) hq

def q_vm_Vm_Copy_nil_ann : Ann := { loops := fun _ => [], ty := fun x => match x with | 31 => [T_int, T_N_vm_space] | _ => [], canon := fun _ => [], cuts := fun _ => none }
def q_vm_Vm_Copy_nil  (h : Hp) (K : Value → Hp → Prop) : Prop :=
    K (.pointer none) h
theorem q_vm_Vm_Copy_nil_calls  (h : Hp) (K : Value → Hp → Prop) (hq : q_vm_Vm_Copy_nil  h K) : CallsH Try.prog f_vm_Vm_Copy #[(.pointer none)] h K := by
  have e : q_vm_Vm_Copy_nil  h K = fnT Try.prog 42 q_vm_Vm_Copy_nil_ann Try.f39 (bodyOf Try.f39) [(.pointer none)] h K := by kernel_rfl
  rw [e] at hq
  exact calls_of_fnT (n := 42) (ann := q_vm_Vm_Copy_nil_ann) mixOk Try.func39 (by kernel_rfl) (by kernel_rfl) (fun args w => Try.call39 args w) (by kernel_rfl) hq

def q_maps_Keys_vm_space_int_int_ann : Ann := { loops := fun _ => [], ty := fun _ => [], canon := fun _ => [], cuts := fun _ => none }
def q_maps_Keys_vm_space_int_int (x0 : Nat) (h : Hp) (K : Value → Hp → Prop) : Prop :=
    letH (h.push (.cells #[(.map (some x0))] T_N_vm_space)) fun h1 => K (.func (.func f_maps_Keys_vm_space_int_int_1) #[] #[(.pointer (some ⟨h.size, 0, none⟩))]) h1
theorem q_maps_Keys_vm_space_int_int_calls (x0 : Nat) (h : Hp) (K : Value → Hp → Prop) (hq : q_maps_Keys_vm_space_int_int x0 h K) : CallsH Try.prog f_maps_Keys_vm_space_int_int #[(.map (some x0))] h K := by
  have e : q_maps_Keys_vm_space_int_int x0 h K = fnT Try.prog 4 q_maps_Keys_vm_space_int_int_ann Try.f107 (bodyOf Try.f107) [(.map (some x0))] h K := by kernel_rfl
  rw [e] at hq
  exact calls_of_fnT (n := 4) (ann := q_maps_Keys_vm_space_int_int_ann) mixOk Try.func107 (by kernel_rfl) (by kernel_rfl) (fun args w => Try.call107 args w) (by kernel_rfl) hq

def q_maps_Keys_vm_space_int_int_nil_ann : Ann := { loops := fun _ => [], ty := fun _ => [], canon := fun _ => [], cuts := fun _ => none }
def q_maps_Keys_vm_space_int_int_nil  (h : Hp) (K : Value → Hp → Prop) : Prop :=
    letH (h.push (.cells #[(.map none)] T_N_vm_space)) fun h1 => K (.func (.func f_maps_Keys_vm_space_int_int_1) #[] #[(.pointer (some ⟨h.size, 0, none⟩))]) h1
theorem q_maps_Keys_vm_space_int_int_nil_calls  (h : Hp) (K : Value → Hp → Prop) (hq : q_maps_Keys_vm_space_int_int_nil  h K) : CallsH Try.prog f_maps_Keys_vm_space_int_int #[(.map none)] h K := by
  have e : q_maps_Keys_vm_space_int_int_nil  h K = fnT Try.prog 4 q_maps_Keys_vm_space_int_int_nil_ann Try.f107 (bodyOf Try.f107) [(.map none)] h K := by kernel_rfl
  rw [e] at hq
  exact calls_of_fnT (n := 4) (ann := q_maps_Keys_vm_space_int_int_nil_ann) mixOk Try.func107 (by kernel_rfl) (by kernel_rfl) (fun args w => Try.call107 args w) (by kernel_rfl) hq

def q_law19_live_ann : Ann := { loops := fun _ => [], ty := fun _ => [], canon := fun _ => [], cuts := fun _ => none }
def q_law19_live  (h : Hp) (K : Value → Hp → Prop) : Prop :=
    CallsH Try.prog f_vm_New #[(.int .i64 3)] h fun r1 h2 => ∃ p3 : Option Addr, r1 = (.pointer p3) ∧ CallsH Try.prog f_vm_Vm_Begin #[(.pointer p3), (.int .i64 0)] h2 fun r4 h5 => ∃ n6 : Int, r4 = (.int .i64 n6) ∧ CallsH Try.prog f_vm_Vm_Map #[(.pointer p3), (.int .i64 0), (.int .i64 0)] h5 fun r7 h8
    => ∃ n9 : Int, r7 = (.int .i64 n9) ∧ CallsH Try.prog f_vm_Vm_Poke #[(.pointer p3), (.int .i64 0), (.int .i64 5), (.int .u8 7)] h8 fun r10 h11 => ∃ n12 : Int, r10 = (.int .i64 n12) ∧ CallsH Try.prog f_vm_Vm_Fork #[(.pointer p3), (.int .i64 0), (.int .i64 1)] h11 fun r13 h14
    => ∃ n15 : Int, r13 = (.int .i64 n15) ∧ CallsH Try.prog f_vm_Vm_Poke #[(.pointer p3), (.int .i64 1), (.int .i64 5), (.int .u8 8)] h14 fun r16 h17 => ∃ n18 : Int, r16 = (.int .i64 n18) ∧ CallsH Try.prog f_vm_Vm_Peek #[(.pointer p3), (.int .i64 0), (.int .i64 5)] h17 fun r19 h20
    => ∃ n21 : Int, ∃ n22 : Int, r19 = (.tuple #[(.int .u8 n21), (.int .i64 n22)]) ∧ CallsH Try.prog f_vm_Vm_Peek #[(.pointer p3), (.int .i64 1), (.int .i64 5)] h20 fun r23 h24 => ∃ n25 : Int, ∃ n26 : Int, r23 = (.tuple #[(.int .u8 n25), (.int .i64 n26)])
    ∧ iteP (n9 == 0) (iteP (n12 == 0) (iteP (n15 == 0) (iteP (n18 == 0) (iteP (n21 == 7) (iteP (n25 == 8) (CallsH Try.prog f_vm_Vm_Copies #[(.pointer p3)] h24 fun r27 h28 => ∃ n29 : Int, r27 = (.int .i64 n29) ∧ iteP (n29 == 1) (CallsH Try.prog f_vm_Vm_Left #[(.pointer p3)] h28 fun r30 h31
    => ∃ n32 : Int, r30 = (.int .i64 n32) ∧ K (.bool (n32 == 1)) h31) (K (.bool false) h28)) (K (.bool false) h24)) (K (.bool false) h24)) (K (.bool false) h24)) (K (.bool false) h24)) (K (.bool false) h24)) (K (.bool false) h24)
theorem q_law19_live_calls  (h : Hp) (K : Value → Hp → Prop) (hq : q_law19_live  h K) : CallsH Try.prog f_law19_live #[] h K := by
  have e : q_law19_live  h K = fnT Try.prog 63 q_law19_live_ann Try.f37 (bodyOf Try.f37) [] h K := by kernel_rfl
  rw [e] at hq
  exact calls_of_fnT (n := 63) (ann := q_law19_live_ann) mixOk Try.func37 (by kernel_rfl) (by kernel_rfl) (fun args w => Try.call37 args w) (by kernel_rfl) hq

def q_law19_VmNone_ann : Ann := { loops := fun _ => [], ty := fun _ => [], canon := fun _ => [], cuts := fun _ => none }
def q_law19_VmNone (x0a : Int) (x0b : Int) (x0c : Int) (x0d : Int) (x0e : Int) (x0fp : Option Addr) (x0fn : Nat) (x0fc : Nat) (x1 : Int) (h : Hp) (K : Value → Hp → Prop) : Prop :=
    letH (h.push (.cells #[(.int .i64 x0a), (.int .i64 x0b), (.int .i64 x0c), (.int .i64 x0d), (.int .u8 x0e), (.slice x0fp x0fn x0fc)] T_N_law19_Deed)) fun h1 => ∃ n2 : Int, cellAt h1 ⟨h.size, 1, none⟩ = some (.int .i64 n2) ∧ 
    ∃ n3 : Int, cellAt h1 ⟨h.size, 3, none⟩ = some (.int .i64 n3) ∧ CallsH Try.prog f_vm_Vm_Peek #[(.pointer none), (.int .i64 n2), (.int .i64 n3)] h1 fun r4 h5 => ∃ n6 : Int, ∃ n7 : Int, r4 = (.tuple #[(.int .u8 n6), (.int .i64 n7)])
    ∧ ∃ n8 : Int, cellAt h5 ⟨h.size, 1, none⟩ = some (.int .i64 n8) ∧ ∃ n9 : Int, cellAt h5 ⟨h.size, 3, none⟩ = some (.int .i64 n9) ∧ CallsH Try.prog f_vm_Vm_Frame #[(.pointer none), (.int .i64 n8), (.int .i64 n9)] h5 fun r10 h11
    => ∃ n12 : Int, ∃ b13 : Bool, r10 = (.tuple #[(.int .i64 n12), (.bool b13)]) ∧ CallsH Try.prog f_law19_live #[] h11 fun r14 h15 => ∃ b16 : Bool, r14 = (.bool b16) ∧ iteP b16 (∃ n17 : Int, cellAt h15 ⟨h.size, 1, none⟩ = some (.int .i64 n17)
    ∧ CallsH Try.prog f_vm_Vm_Begin #[(.pointer none), (.int .i64 n17)] h15 fun r18 h19 => ∃ n20 : Int, r18 = (.int .i64 n20) ∧ iteP (n20 == 1) (∃ n21 : Int, cellAt h19 ⟨h.size, 1, none⟩ = some (.int .i64 n21) ∧ CallsH Try.prog f_vm_Vm_End #[(.pointer none), (.int .i64 n21)] h19 fun r22 h23
    => ∃ n24 : Int, r22 = (.int .i64 n24) ∧ iteP (n24 == 1) (∃ n25 : Int, cellAt h23 ⟨h.size, 1, none⟩ = some (.int .i64 n25) ∧ ∃ n26 : Int, cellAt h23 ⟨h.size, 2, none⟩ = some (.int .i64 n26) ∧ CallsH Try.prog f_vm_Vm_Fork #[(.pointer none), (.int .i64 n25), (.int .i64 n26)] h23 fun r27 h28
    => ∃ n29 : Int, r27 = (.int .i64 n29) ∧ iteP (n29 == 1) (∃ n30 : Int, cellAt h28 ⟨h.size, 1, none⟩ = some (.int .i64 n30) ∧ ∃ n31 : Int, cellAt h28 ⟨h.size, 3, none⟩ = some (.int .i64 n31) ∧ CallsH Try.prog f_vm_Vm_Map #[(.pointer none), (.int .i64 n30), (.int .i64 n31)] h28 fun r32 h33
    => ∃ n34 : Int, r32 = (.int .i64 n34) ∧ iteP (n34 == 1) (∃ n35 : Int, cellAt h33 ⟨h.size, 1, none⟩ = some (.int .i64 n35) ∧ ∃ n36 : Int, cellAt h33 ⟨h.size, 3, none⟩ = some (.int .i64 n36) ∧ CallsH Try.prog f_vm_Vm_Unmap #[(.pointer none), (.int .i64 n35), (.int .i64 n36)] h33 fun r37 h38
    => ∃ n39 : Int, r37 = (.int .i64 n39) ∧ iteP (n39 == 1) (∃ n40 : Int, cellAt h38 ⟨h.size, 1, none⟩ = some (.int .i64 n40) ∧ ∃ n41 : Int, cellAt h38 ⟨h.size, 3, none⟩ = some (.int .i64 n41) ∧ CallsH Try.prog f_vm_Vm_Poke #[(.pointer none), (.int .i64 n40), (.int .i64 n41), (.int .u8 1)] h38 fun r42 h43
    => ∃ n44 : Int, r42 = (.int .i64 n44) ∧ iteP (n44 == 1) (iteP (n6 == 0) (iteP (n7 == 1) (∃ n45 : Int, cellAt h43 ⟨h.size, 1, none⟩ = some (.int .i64 n45) ∧ ∃ n46 : Int, cellAt h43 ⟨h.size, 3, none⟩ = some (.int .i64 n46)
    ∧ CallsH Try.prog f_vm_Vm_Fill #[(.pointer none), (.int .i64 n45), (.int .i64 n46), (.slice none 0 0)] h43 fun r47 h48 => ∃ n49 : Int, r47 = (.int .i64 n49) ∧ iteP (n49 == 1) (∃ n50 : Int, cellAt h48 ⟨h.size, 1, none⟩ = some (.int .i64 n50)
    ∧ CallsH Try.prog f_vm_Vm_Pages #[(.pointer none), (.int .i64 n50)] h48 fun r51 h52 => ∃ (p53 : Option Addr) (l54 c55 : Nat), r51 = (.slice p53 l54 c55) ∧ iteP (((l54 : Nat) : Int) == 0) (iteP (n12 == 0) (iteP (!b13) (∃ n56 : Int, cellAt h52 ⟨h.size, 3, none⟩ = some (.int .i64 n56)
    ∧ CallsH Try.prog f_vm_Vm_Refs #[(.pointer none), (.int .i64 n56)] h52 fun r57 h58 => ∃ n59 : Int, r57 = (.int .i64 n59) ∧ iteP (n59 == 0) (CallsH Try.prog f_vm_Vm_Left #[(.pointer none)] h58 fun r60 h61 => ∃ n62 : Int, r60 = (.int .i64 n62)
    ∧ iteP (n62 == 0) (CallsH Try.prog f_vm_Vm_Copies #[(.pointer none)] h61 fun r63 h64 => ∃ n65 : Int, r63 = (.int .i64 n65) ∧ iteP (n65 == 0) (CallsH Try.prog f_vm_Vm_Copy #[(.pointer none)] h64 fun r66 h67 => ∃ p68 : Option Addr, r66 = (.pointer p68)
    ∧ iteP p68.isNone (CallsH Try.prog f_vm_New #[(.int .i64 x1)] h67 fun r69 h70 => ∃ p71 : Option Addr, r69 = (.pointer p71) ∧ iteP (decide (x1 < 1)) (K (.bool (p71.isNone == true)) h70) (K (.bool (p71.isNone == (decide (x1 > 64)))) h70)) (K (.bool false) h67)) (K (.bool false) h64)) (K (.bool false) h61)) (K (.bool false) h58)) (K (.bool false) h52)) (K (.bool false) h52)) (K (.bool false) h52)) (K (.bool false) h48)) (K (.bool false) h43)) (K (.bool false) h43)) (K (.bool false) h43)) (K (.bool false) h38)) (K (.bool false) h33)) (K (.bool false) h28)) (K (.bool false) h23)) (K (.bool false) h19)) (K (.bool false) h15)
theorem q_law19_VmNone_calls (x0a : Int) (x0b : Int) (x0c : Int) (x0d : Int) (x0e : Int) (x0fp : Option Addr) (x0fn : Nat) (x0fc : Nat) (x1 : Int) (h : Hp) (K : Value → Hp → Prop) (hq : q_law19_VmNone x0a x0b x0c x0d x0e x0fp x0fn x0fc x1 h K) : CallsH Try.prog f_law19_VmNone #[(.agg #[(.int .i64 x0a), (.int .i64 x0b), (.int .i64 x0c), (.int .i64 x0d), (.int .u8 x0e), (.slice x0fp x0fn x0fc)]), (.int .i64 x1)] h K := by
  have e : q_law19_VmNone x0a x0b x0c x0d x0e x0fp x0fn x0fc x1 h K = fnT Try.prog 146 q_law19_VmNone_ann Try.f8 (bodyOf Try.f8) [(.agg #[(.int .i64 x0a), (.int .i64 x0b), (.int .i64 x0c), (.int .i64 x0d), (.int .u8 x0e), (.slice x0fp x0fn x0fc)]), (.int .i64 x1)] h K := by kernel_rfl
  rw [e] at hq
  exact calls_of_fnT (n := 146) (ann := q_law19_VmNone_ann) mixOk Try.func8 (by kernel_rfl) (by kernel_rfl) (fun args w => Try.call8 args w) (by kernel_rfl) hq

end Go.Proofs.Ytmdhfmljgjnggaa
/- The library contracts for maps.Keys, slices.Sorted and slices.Sort at int laid over this translation (written by lay-plain). No condition. -/
namespace Go.Proofs
open Go.Shelf
def Try.keysA_ren : Go.Shelf.Ren := ⟨fun | 7 => 107 | 10 => 142 | n => n, fun | 23 => 103 | 26 => 3 | 3 => 3 | 28 => 172 | 0 => 0 | 27 => 171 | 33 => 154 | 4 => 4 | n => n, fun | n => n⟩
theorem Try.keysA : Go.Proofs.SlLaysZI.n7 Try.prog Try.keysA_ren := {
  mixed := by kernel_rfl
  f7 := ⟨Try.f107.name, by decide, Try.func107.trans (congrArg some (by kernel_rfl))⟩
  f10 := ⟨Try.f142.name, by decide, Try.func142.trans (congrArg some (by kernel_rfl))⟩
  t0 := Try.underlying0
  a0 := Try.isAgg0
  z0 := Try.sizeOf0
  v0 := Try.zeroValue0
  t4 := Try.underlying4
  a4 := Try.isAgg4
  z4 := Try.sizeOf4
  v4 := Try.zeroValue4
  t23 := Try.underlying103
  a23 := Try.isAgg103
  z23 := Try.sizeOf103
  v23 := Try.zeroValue103
  t26 := Try.underlying3
  a26 := Try.isAgg3
  z26 := Try.sizeOf3
  v26 := Try.zeroValue3
  t27 := Try.underlying171
  a27 := Try.isAgg171
  z27 := Try.sizeOf171
  v27 := Try.zeroValue171
  t28 := Try.underlying172
  a28 := Try.isAgg172
  z28 := Try.sizeOf172
  v28 := Try.zeroValue172
  t33 := Try.underlying154
  a33 := Try.isAgg154
  z33 := Try.sizeOf154
  v33 := Try.zeroValue154 }
def Try.sortedA_ren : Go.Shelf.Ren := ⟨fun | 6 => 106 | 8 => 140 | 9 => 141 | 11 => 170 | 13 => 119 | 12 => 171 | 23 => 158 | 24 => 159 | 14 => 195 | 15 => 196 | 16 => 197 | 17 => 198 | 18 => 199 | 19 => 200 | 20 => 201 | 21 => 202 | 22 => 203 | 25 => 212 | 26 => 187 | 27 => 188 | 28 => 213 | 29 => 214 | 30 => 215 | 31 => 221 | n => n, fun | 26 => 3 | 28 => 172 | 24 => 83 | 0 => 0 | 3 => 3 | 37 => 191 | 48 => 149 | 50 => 242 | 4 => 4 | 40 => 235 | 39 => 234 | 45 => 42 | 5 => 5 | 9 => 9 | 51 => 266 | 55 => 270 | 57 => 287 | 58 => 288 | 33 => 154 | n => n, fun | n => n⟩
theorem Try.sortedA : Go.Proofs.SlLaysZI.n6 Try.prog Try.sortedA_ren := {
  mixed := by kernel_rfl
  f6 := ⟨Try.f106.name, by decide, Try.func106.trans (congrArg some (by kernel_rfl))⟩
  f8 := ⟨Try.f140.name, by decide, Try.func140.trans (congrArg some (by kernel_rfl))⟩
  f11 := ⟨Try.f170.name, by decide, Try.func170.trans (congrArg some (by kernel_rfl))⟩
  t0 := Try.underlying0
  a0 := Try.isAgg0
  z0 := Try.sizeOf0
  v0 := Try.zeroValue0
  t24 := Try.underlying83
  a24 := Try.isAgg83
  z24 := Try.sizeOf83
  v24 := Try.zeroValue83
  t26 := Try.underlying3
  a26 := Try.isAgg3
  z26 := Try.sizeOf3
  v26 := Try.zeroValue3
  t28 := Try.underlying172
  a28 := Try.isAgg172
  z28 := Try.sizeOf172
  v28 := Try.zeroValue172
  i26 := by kernel_rfl }
def Try.sortA_ren : Go.Shelf.Ren := ⟨fun | 5 => 141 | 8 => 119 | 7 => 171 | 19 => 158 | 20 => 159 | 10 => 195 | 11 => 196 | 12 => 197 | 13 => 198 | 14 => 199 | 15 => 200 | 16 => 201 | 17 => 202 | 18 => 203 | 30 => 212 | 31 => 187 | 32 => 188 | 33 => 213 | 34 => 214 | 35 => 215 | 40 => 221 | n => n, fun | 23 => 83 | 25 => 3 | 3 => 3 | 32 => 191 | 22 => 83 | 0 => 0 | 44 => 149 | 46 => 242 | 4 => 4 | 36 => 235 | 35 => 234 | 41 => 42 | 5 => 5 | 9 => 9 | 53 => 266 | 57 => 270 | 63 => 287 | 64 => 288 | n => n, fun | n => n⟩
theorem Try.sortA : Go.Proofs.SlLaysM.n5 Try.prog Try.sortA_ren := {
  mixed := by kernel_rfl
  f5 := ⟨Try.f141.name, by decide, Try.func141.trans (congrArg some (by kernel_rfl))⟩
  f7 := ⟨Try.f171.name, by decide, Try.func171.trans (congrArg some (by kernel_rfl))⟩
  f8 := Try.func119.trans (congrArg some (by kernel_rfl))
  f10 := ⟨Try.f195.name, by decide, Try.func195.trans (congrArg some (by kernel_rfl))⟩
  f11 := ⟨Try.f196.name, by decide, Try.func196.trans (congrArg some (by kernel_rfl))⟩
  f12 := ⟨Try.f197.name, by decide, Try.func197.trans (congrArg some (by kernel_rfl))⟩
  f13 := ⟨Try.f198.name, by decide, Try.func198.trans (congrArg some (by kernel_rfl))⟩
  f14 := ⟨Try.f199.name, by decide, Try.func199.trans (congrArg some (by kernel_rfl))⟩
  f15 := ⟨Try.f200.name, by decide, Try.func200.trans (congrArg some (by kernel_rfl))⟩
  f16 := ⟨Try.f201.name, by decide, Try.func201.trans (congrArg some (by kernel_rfl))⟩
  f17 := ⟨Try.f202.name, by decide, Try.func202.trans (congrArg some (by kernel_rfl))⟩
  f18 := ⟨Try.f203.name, by decide, Try.func203.trans (congrArg some (by kernel_rfl))⟩
  f19 := Try.func158.trans (congrArg some (by kernel_rfl))
  f20 := Try.func159.trans (congrArg some (by kernel_rfl))
  f30 := ⟨Try.f212.name, by decide, Try.func212.trans (congrArg some (by kernel_rfl))⟩
  f31 := Try.func187.trans (congrArg some (by kernel_rfl))
  f32 := Try.func188.trans (congrArg some (by kernel_rfl))
  f33 := ⟨Try.f213.name, by decide, Try.func213.trans (congrArg some (by kernel_rfl))⟩
  f34 := ⟨Try.f214.name, by decide, Try.func214.trans (congrArg some (by kernel_rfl))⟩
  f35 := ⟨Try.f215.name, by decide, Try.func215.trans (congrArg some (by kernel_rfl))⟩
  f40 := ⟨Try.f221.name, by decide, Try.func221.trans (congrArg some (by kernel_rfl))⟩
  t0 := Try.underlying0
  a0 := Try.isAgg0
  z0 := Try.sizeOf0
  v0 := Try.zeroValue0
  t3 := Try.underlying3
  a3 := Try.isAgg3
  z3 := Try.sizeOf3
  v3 := Try.zeroValue3
  t4 := Try.underlying4
  a4 := Try.isAgg4
  z4 := Try.sizeOf4
  v4 := Try.zeroValue4
  t5 := Try.underlying5
  a5 := Try.isAgg5
  z5 := Try.sizeOf5
  v5 := Try.zeroValue5
  t9 := Try.underlying9
  a9 := Try.isAgg9
  z9 := Try.sizeOf9
  v9 := Try.zeroValue9
  t22 := Try.underlying83
  a22 := Try.isAgg83
  z22 := Try.sizeOf83
  v22 := Try.zeroValue83
  t23 := Try.underlying83
  a23 := Try.isAgg83
  z23 := Try.sizeOf83
  v23 := Try.zeroValue83
  t25 := Try.underlying3
  a25 := Try.isAgg3
  z25 := Try.sizeOf3
  v25 := Try.zeroValue3
  t32 := Try.underlying191
  a32 := Try.isAgg191
  z32 := Try.sizeOf191
  v32 := Try.zeroValue191
  t35 := Try.underlying234
  a35 := Try.isAgg234
  z35 := Try.sizeOf234
  v35 := Try.zeroValue234
  t36 := Try.underlying235
  a36 := Try.isAgg235
  z36 := Try.sizeOf235
  v36 := Try.zeroValue235
  t41 := Try.underlying42
  a41 := Try.isAgg42
  z41 := Try.sizeOf42
  v41 := Try.zeroValue42
  t44 := Try.underlying149
  a44 := Try.isAgg149
  z44 := Try.sizeOf149
  v44 := Try.zeroValue149
  t46 := Try.underlying242
  a46 := Try.isAgg242
  z46 := Try.sizeOf242
  v46 := Try.zeroValue242
  t53 := Try.underlying266
  a53 := Try.isAgg266
  z53 := Try.sizeOf266
  v53 := Try.zeroValue266
  t57 := Try.underlying270
  a57 := Try.isAgg270
  z57 := Try.sizeOf270
  v57 := Try.zeroValue270
  t63 := Try.underlying287
  a63 := Try.isAgg287
  z63 := Try.sizeOf287
  v63 := Try.zeroValue287
  t64 := Try.underlying288
  a64 := Try.isAgg288
  z64 := Try.sizeOf288
  v64 := Try.zeroValue288 }
end Go.Proofs
/- Formulas of package vm. No condition. -/
set_option linter.constructorNameAsVariable false
namespace Go.Proofs.Ytmdhfmljgjnggaa

def q_vm_Vm_of_ann : Ann := { loops := fun _ => [], ty := fun _ => [], canon := fun _ => [], cuts := fun _ => none }
def q_vm_Vm_of (x0 : Nat) (x1 : Int) (h : Hp) (K : Value → Hp → Prop) : Prop :=
    ∃ m1 : Option Nat, cellAt h ⟨x0, 65, none⟩ = some (.map m1) ∧ ∃ m3 : Option Nat, ∃ b2 : Bool, RunsTo Try.prog (Instr.lookup T_m_int_vm_space (.map m1) (.int .i64 x1) true) h (.tuple #[(.map m3), .bool b2]) ∧ iteP (!b2) (K (.tuple #[(.map none), (.int .i64 5)]) h) (K (.tuple #[(.map m3), (.int .i64 0)]) h)
theorem q_vm_Vm_of_calls (x0 : Nat) (x1 : Int) (h : Hp) (K : Value → Hp → Prop) (hq : q_vm_Vm_of x0 x1 h K) : CallsH Try.prog f_vm_Vm_of #[(.pointer (some ⟨x0, 0, none⟩)), (.int .i64 x1)] h K := by
  have e : q_vm_Vm_of x0 x1 h K = fnT Try.prog 22 q_vm_Vm_of_ann Try.f60 (bodyOf Try.f60) [(.pointer (some ⟨x0, 0, none⟩)), (.int .i64 x1)] h K := by kernel_rfl
  rw [e] at hq
  exact calls_of_fnT (n := 22) (ann := q_vm_Vm_of_ann) mixOk Try.func60 (by kernel_rfl) (by kernel_rfl) (fun args w => Try.call60 args w) (by kernel_rfl) hq

def q_vm_Vm_fresh_ann : Ann := { loops := fun _ => [], ty := fun _ => [], canon := fun _ => [], cuts := fun _ => none }
def q_vm_Vm_fresh (x0 : Nat) (x1 : Int) (h : Hp) (K : Value → Hp → Prop) : Prop :=
    iteP (decide (x1 < 0)) (K (.int .i64 2) h) (iteP (decide (x1 ≥ 6)) (K (.int .i64 2) h) (∃ m1 : Option Nat, cellAt h ⟨x0, 65, none⟩ = some (.map m1) ∧ ∃ m3 : Option Nat, ∃ b2 : Bool, RunsTo Try.prog (Instr.lookup T_m_int_vm_space (.map m1) (.int .i64 x1) true) h (.tuple #[(.map m3), .bool b2])
    ∧ iteP b2 (K (.int .i64 6) h) (K (.int .i64 0) h)))
theorem q_vm_Vm_fresh_calls (x0 : Nat) (x1 : Int) (h : Hp) (K : Value → Hp → Prop) (hq : q_vm_Vm_fresh x0 x1 h K) : CallsH Try.prog f_vm_Vm_fresh #[(.pointer (some ⟨x0, 0, none⟩)), (.int .i64 x1)] h K := by
  have e : q_vm_Vm_fresh x0 x1 h K = fnT Try.prog 25 q_vm_Vm_fresh_ann Try.f58 (bodyOf Try.f58) [(.pointer (some ⟨x0, 0, none⟩)), (.int .i64 x1)] h K := by kernel_rfl
  rw [e] at hq
  exact calls_of_fnT (n := 25) (ann := q_vm_Vm_fresh_ann) mixOk Try.func58 (by kernel_rfl) (by kernel_rfl) (fun args w => Try.call58 args w) (by kernel_rfl) hq

def q_vm_Vm_Begin_ann : Ann := { loops := fun _ => [], ty := fun _ => [], canon := fun _ => [], cuts := fun _ => none }
def q_vm_Vm_Begin (x0 : Nat) (x1 : Int) (h : Hp) (K : Value → Hp → Prop) : Prop :=
    CallsH Try.prog f_vm_Vm_fresh #[(.pointer (some ⟨x0, 0, none⟩)), (.int .i64 x1)] h fun r1 h2 => ∃ n3 : Int, r1 = (.int .i64 n3) ∧ iteP (n3 == 0) (∃ m4 : Option Nat, cellAt h2 ⟨x0, 65, none⟩ = some (.map m4) ∧ letH (h2.push (.map #[] 0)) fun h5
    => semWP Try.prog (Instr.mapUpdate T_m_int_vm_space (.map m4) (.int .i64 x1) (.map (some h2.size))) h5 fun _ h6 => K (.int .i64 n3) h6) (K (.int .i64 n3) h2)
theorem q_vm_Vm_Begin_calls (x0 : Nat) (x1 : Int) (h : Hp) (K : Value → Hp → Prop) (hq : q_vm_Vm_Begin x0 x1 h K) : CallsH Try.prog f_vm_Vm_Begin #[(.pointer (some ⟨x0, 0, none⟩)), (.int .i64 x1)] h K := by
  have e : q_vm_Vm_Begin x0 x1 h K = fnT Try.prog 18 q_vm_Vm_Begin_ann Try.f11 (bodyOf Try.f11) [(.pointer (some ⟨x0, 0, none⟩)), (.int .i64 x1)] h K := by kernel_rfl
  rw [e] at hq
  exact calls_of_fnT (n := 18) (ann := q_vm_Vm_Begin_ann) mixOk Try.func11 (by kernel_rfl) (by kernel_rfl) (fun args w => Try.call11 args w) (by kernel_rfl) hq

def q_vm_Vm_Poke_ann : Ann := { loops := fun _ => [], ty := fun _ => [], canon := fun x => match x with | 8 => [0, 1, 2, 3, 4, 5, 6, 7, 8, 9, 10, 11] | _ => [], cuts := fun _ => none }
def q_vm_Vm_Poke (x0 : Nat) (x1 : Int) (x2 : Int) (x3 : Int) (h : Hp) (K : Value → Hp → Prop) : Prop :=
    CallsH Try.prog f_vm_Vm_at #[(.pointer (some ⟨x0, 0, none⟩)), (.int .i64 x1), (.int .i64 x2)] h fun r1 h2 => ∃ m3 : Option Nat, ∃ n4 : Int, r1 = (.tuple #[(.map m3), (.int .i64 n4)]) ∧ iteP (n4 != 0) (K (.int .i64 n4) h2) (CallsH Try.prog f_vm_Vm_own #[(.pointer (some ⟨x0, 0, none⟩)), (.map m3), (.int .i64 (IntKind.wrap .i64 (Int.tdiv x2 32)))] h2 fun r5 h6
    => ∃ n7 : Int, r5 = (.int .i64 n7) ∧ iteP (n7 != 0) (K (.int .i64 n7) h6) (∃ p8 : Option Addr, cellAt h6 ⟨x0, 0, none⟩ = some (.pointer p8) ∧ ∃ n9 : Int, RunsTo Try.prog (Instr.lookup T_N_vm_space (.map m3) (.int .i64 (IntKind.wrap .i64 (Int.tdiv x2 32))) false) h6 (.int .i64 n9)
    ∧ CallsH Try.prog f_mem_Memory_SetByte #[(.pointer p8), (.int .i64 n9), (.int .i64 (Int.tmod x2 32)), (.int .u8 x3)] h6 fun r10 h11 => ∃ n12 : Int, r10 = (.int .i64 n12) ∧ K (.int .i64 n12) h11))
theorem q_vm_Vm_Poke_calls (x0 : Nat) (x1 : Int) (x2 : Int) (x3 : Int) (h : Hp) (K : Value → Hp → Prop) (hq : q_vm_Vm_Poke x0 x1 x2 x3 h K) : CallsH Try.prog f_vm_Vm_Poke #[(.pointer (some ⟨x0, 0, none⟩)), (.int .i64 x1), (.int .i64 x2), (.int .u8 x3)] h K := by
  have e : q_vm_Vm_Poke x0 x1 x2 x3 h K = fnT Try.prog 43 q_vm_Vm_Poke_ann Try.f14 (bodyOf Try.f14) [(.pointer (some ⟨x0, 0, none⟩)), (.int .i64 x1), (.int .i64 x2), (.int .u8 x3)] h K := by kernel_rfl
  rw [e] at hq
  exact calls_of_fnT (n := 43) (ann := q_vm_Vm_Poke_ann) mixOk Try.func14 (by kernel_rfl) (by kernel_rfl) (fun args w => Try.call14 args w) (by kernel_rfl) hq

def q_vm_Vm_Fork_ann : Ann := { loops := fun x => match x with | 0 => [] | _ => [], ty := fun x => match x with | 38 => [T_int, T_int] | _ => [], canon := fun x => match x with | 7 => [0, 1, 2, 3, 4, 5, 6, 7] | 12 => [0, 1, 2, 3, 4, 5, 6, 7, 8, 9, 10] | _ => [], cuts := fun _ => none }
def q_vm_Vm_Fork (x0 : Nat) (x1 : Int) (x2 : Int) (h : Hp) (K : Value → Hp → Prop) : Prop :=
    CallsH Try.prog f_vm_Vm_of #[(.pointer (some ⟨x0, 0, none⟩)), (.int .i64 x1)] h fun r1 h2 => ∃ m3 : Option Nat, ∃ n4 : Int, r1 = (.tuple #[(.map m3), (.int .i64 n4)]) ∧ iteP (n4 != 0) (K (.int .i64 n4) h2) (CallsH Try.prog f_vm_Vm_fresh #[(.pointer (some ⟨x0, 0, none⟩)), (.int .i64 x2)] h2 fun r5 h6
    => ∃ n7 : Int, r5 = (.int .i64 n7) ∧ iteP (n7 != 0) (K (.int .i64 n7) h6) (∃ m8 : Option Nat, cellAt h6 ⟨x0, 65, none⟩ = some (.map m8) ∧ CallsH Try.prog f_maps_Clone_vm_space_int_int #[(.map m3)] h6 fun r9 h10 => ∃ m11 : Option Nat, r9 = (.map m11)
    ∧ (∃ m12 : Option Nat, cellAt h10 ⟨x0, 65, none⟩ = some (.map m12) ∧ ((.map m12) : Value) = (.map m8)) ∧ semWP Try.prog (Instr.mapUpdate T_m_int_vm_space (.map m8) (.int .i64 x2) (.map m11)) h10 fun _ h13 => semWP Try.prog (Instr.range T_N_vm_space (.map m3)) h13 fun r14 h15
    => ∃ i16 : Nat, r14 = .pointer (some ⟨i16, 0, none⟩) ∧ ∃ (I17 : Hp → Prop) (μ18 : Hp → Nat), I17  h15 ∧ ∀  h19, I17  h19 → semWP Try.prog (Instr.next (.pointer (some ⟨i16, 0, none⟩)) false T_x) h19 fun r20 h21 => ∃ (b22 : Bool) (xs23 : List Value), r20 = .tuple ⟨.bool b22 :: xs23⟩
    ∧ iteP b22 (∃ n24 : Int, ∃ n25 : Int, RunsTo Try.prog (Instr.entry (.pointer (some ⟨i16, 0, none⟩))) h21 (.tuple #[(.int .i64 n24), (.int .i64 n25)]) ∧ iteP (n25 != (-1)) ((0 : Int) ≤ n25 ∧ n25 < ((64 : Nat) : Int) ∧ ∃ n26 : Int, cellAt h21 ((⟨x0, 1, none⟩ : Addr).add (Int.toNat n25 * 1)) = some (.int .i64 n26)
    ∧ (0 : Int) ≤ n25 ∧ n25 < ((64 : Nat) : Int) ∧ (∃ old, cellAt h21 ((⟨x0, 1, none⟩ : Addr).add (Int.toNat n25 * 1)) = some old) ∧ frozenAt h21 ((⟨x0, 1, none⟩ : Addr).add (Int.toNat n25 * 1)) = false ∧ letH (setH h21 ((⟨x0, 1, none⟩ : Addr).add (Int.toNat n25 * 1)) (.int .i64 (IntKind.wrap .i64 (n26 + 1)))) fun h27
    => I17  h27 ∧ μ18  h27 < μ18  h19) (I17  h21 ∧ μ18  h21 < μ18  h19)) (K (.int .i64 0) h21)))
theorem q_vm_Vm_Fork_calls (x0 : Nat) (x1 : Int) (x2 : Int) (h : Hp) (K : Value → Hp → Prop) (hq : q_vm_Vm_Fork x0 x1 x2 h K) : CallsH Try.prog f_vm_Vm_Fork #[(.pointer (some ⟨x0, 0, none⟩)), (.int .i64 x1), (.int .i64 x2)] h K := by
  have e : q_vm_Vm_Fork x0 x1 x2 h K = fnT Try.prog 52 q_vm_Vm_Fork_ann Try.f13 (bodyOf Try.f13) [(.pointer (some ⟨x0, 0, none⟩)), (.int .i64 x1), (.int .i64 x2)] h K := by kernel_rfl
  rw [e] at hq
  exact calls_of_fnT (n := 52) (ann := q_vm_Vm_Fork_ann) mixOk Try.func13 (by kernel_rfl) (by kernel_rfl) (fun args w => Try.call13 args w) (by kernel_rfl) hq

def q_vm_Vm_drop_ann : Ann := { loops := fun _ => [], ty := fun _ => [], canon := fun x => match x with | 2 => [0, 1, 2, 3, 4, 5, 6, 7, 8, 9, 10] | _ => [], cuts := fun _ => none }
def q_vm_Vm_drop (x0 : Nat) (x1 : Nat) (x2 : Int) (h : Hp) (K : Value → Hp → Prop) : Prop :=
    ∃ n1 : Int, RunsTo Try.prog (Instr.lookup T_N_vm_space (.map (some x1)) (.int .i64 x2) false) h (.int .i64 n1) ∧ iteP (n1 != (-1)) ((0 : Int) ≤ n1 ∧ n1 < ((64 : Nat) : Int) ∧ ∃ n2 : Int, cellAt h ((⟨x0, 1, none⟩ : Addr).add (Int.toNat n1 * 1)) = some (.int .i64 n2)
    ∧ (0 : Int) ≤ n1 ∧ n1 < ((64 : Nat) : Int) ∧ (∃ old, cellAt h ((⟨x0, 1, none⟩ : Addr).add (Int.toNat n1 * 1)) = some old) ∧ frozenAt h ((⟨x0, 1, none⟩ : Addr).add (Int.toNat n1 * 1)) = false ∧ letH (setH h ((⟨x0, 1, none⟩ : Addr).add (Int.toNat n1 * 1)) (.int .i64 (IntKind.wrap .i64 (n2 - 1)))) fun h3
    => semWP Try.prog (Builtin.delete_ #[T_N_vm_space, T_int] T_x #[(.map (some x1)), (.int .i64 x2)]) h3 fun r4 h5 => r4 = .tuple #[] ∧ K (.tuple #[]) h5) (semWP Try.prog (Builtin.delete_ #[T_N_vm_space, T_int] T_x #[(.map (some x1)), (.int .i64 x2)]) h fun r6 h7
    => r6 = .tuple #[] ∧ K (.tuple #[]) h7)
theorem q_vm_Vm_drop_calls (x0 : Nat) (x1 : Nat) (x2 : Int) (h : Hp) (K : Value → Hp → Prop) (hq : q_vm_Vm_drop x0 x1 x2 h K) : CallsH Try.prog f_vm_Vm_drop #[(.pointer (some ⟨x0, 0, none⟩)), (.map (some x1)), (.int .i64 x2)] h K := by
  have e : q_vm_Vm_drop x0 x1 x2 h K = fnT Try.prog 24 q_vm_Vm_drop_ann Try.f104 (bodyOf Try.f104) [(.pointer (some ⟨x0, 0, none⟩)), (.map (some x1)), (.int .i64 x2)] h K := by kernel_rfl
  rw [e] at hq
  exact calls_of_fnT (n := 24) (ann := q_vm_Vm_drop_ann) mixOk Try.func104 (by kernel_rfl) (by kernel_rfl) (fun args w => Try.call104 args w) (by kernel_rfl) hq

def q_vm_Vm_End_ann : Ann := { loops := fun x => match x with | 0 => [] | _ => [], ty := fun x => match x with | 22 => [T_int, T_int] | _ => [], canon := fun _ => [], cuts := fun _ => none }
def q_vm_Vm_End (x0 : Nat) (x1 : Int) (h : Hp) (K : Value → Hp → Prop) : Prop :=
    CallsH Try.prog f_vm_Vm_of #[(.pointer (some ⟨x0, 0, none⟩)), (.int .i64 x1)] h fun r1 h2 => ∃ m3 : Option Nat, ∃ n4 : Int, r1 = (.tuple #[(.map m3), (.int .i64 n4)]) ∧ iteP (n4 != 0) (K (.int .i64 n4) h2) (CallsH Try.prog f_maps_Clone_vm_space_int_int #[(.map m3)] h2 fun r5 h6
    => ∃ m7 : Option Nat, r5 = (.map m7) ∧ semWP Try.prog (Instr.range T_N_vm_space (.map m7)) h6 fun r8 h9 => ∃ i10 : Nat, r8 = .pointer (some ⟨i10, 0, none⟩) ∧ ∃ (I11 : Hp → Prop) (μ12 : Hp → Nat), I11  h9 ∧ ∀  h13, I11  h13 → semWP Try.prog (Instr.next (.pointer (some ⟨i10, 0, none⟩)) false T_x) h13 fun r14 h15
    => ∃ (b16 : Bool) (xs17 : List Value), r14 = .tuple ⟨.bool b16 :: xs17⟩ ∧ iteP b16 (∃ n18 : Int, ∃ n19 : Int, RunsTo Try.prog (Instr.entry (.pointer (some ⟨i10, 0, none⟩))) h15 (.tuple #[(.int .i64 n18), (.int .i64 n19)])
    ∧ CallsH Try.prog f_vm_Vm_drop #[(.pointer (some ⟨x0, 0, none⟩)), (.map m3), (.int .i64 n18)] h15 fun r20 h21 => r20 = (.tuple #[]) ∧ I11  h21 ∧ μ12  h21 < μ12  h13) (∃ m22 : Option Nat, cellAt h15 ⟨x0, 65, none⟩ = some (.map m22)
    ∧ semWP Try.prog (Builtin.delete_ #[T_m_int_vm_space, T_int] T_x #[(.map m22), (.int .i64 x1)]) h15 fun r23 h24 => r23 = .tuple #[] ∧ K (.int .i64 0) h24))
theorem q_vm_Vm_End_calls (x0 : Nat) (x1 : Int) (h : Hp) (K : Value → Hp → Prop) (hq : q_vm_Vm_End x0 x1 h K) : CallsH Try.prog f_vm_Vm_End #[(.pointer (some ⟨x0, 0, none⟩)), (.int .i64 x1)] h K := by
  have e : q_vm_Vm_End x0 x1 h K = fnT Try.prog 33 q_vm_Vm_End_ann Try.f43 (bodyOf Try.f43) [(.pointer (some ⟨x0, 0, none⟩)), (.int .i64 x1)] h K := by kernel_rfl
  rw [e] at hq
  exact calls_of_fnT (n := 33) (ann := q_vm_Vm_End_ann) mixOk Try.func43 (by kernel_rfl) (by kernel_rfl) (fun args w => Try.call43 args w) (by kernel_rfl) hq

def q_vm_Vm_page_ann : Ann := { loops := fun _ => [], ty := fun _ => [], canon := fun _ => [], cuts := fun _ => none }
def q_vm_Vm_page (x0 : Nat) (x1 : Int) (x2 : Int) (h : Hp) (K : Value → Hp → Prop) : Prop :=
    CallsH Try.prog f_vm_Vm_of #[(.pointer (some ⟨x0, 0, none⟩)), (.int .i64 x1)] h fun r1 h2 => ∃ m3 : Option Nat, ∃ n4 : Int, r1 = (.tuple #[(.map m3), (.int .i64 n4)]) ∧ iteP (n4 != 0) (K (.tuple #[(.map none), (.bool false), (.int .i64 n4)]) h2) (iteP (decide (x2 < 0)) (K (.tuple #[(.map none), (.bool false), (.int .i64 2)]) h2) (iteP (decide (x2 ≥ 16)) (K (.tuple #[(.map none), (.bool false), (.int .i64 2)]) h2) (∃ n6 : Int, ∃ b5 : Bool, RunsTo Try.prog (Instr.lookup T_N_vm_space (.map m3) (.int .i64 x2) true) h2 (.tuple #[(.int .i64 n6), .bool b5])
    ∧ K (.tuple #[(.map m3), (.bool b5), (.int .i64 0)]) h2)))
theorem q_vm_Vm_page_calls (x0 : Nat) (x1 : Int) (x2 : Int) (h : Hp) (K : Value → Hp → Prop) (hq : q_vm_Vm_page x0 x1 x2 h K) : CallsH Try.prog f_vm_Vm_page #[(.pointer (some ⟨x0, 0, none⟩)), (.int .i64 x1), (.int .i64 x2)] h K := by
  have e : q_vm_Vm_page x0 x1 x2 h K = fnT Try.prog 36 q_vm_Vm_page_ann Try.f59 (bodyOf Try.f59) [(.pointer (some ⟨x0, 0, none⟩)), (.int .i64 x1), (.int .i64 x2)] h K := by kernel_rfl
  rw [e] at hq
  exact calls_of_fnT (n := 36) (ann := q_vm_Vm_page_ann) mixOk Try.func59 (by kernel_rfl) (by kernel_rfl) (fun args w => Try.call59 args w) (by kernel_rfl) hq

def q_vm_Vm_Map_ann : Ann := { loops := fun _ => [], ty := fun _ => [], canon := fun _ => [], cuts := fun _ => none }
def q_vm_Vm_Map (x0 : Nat) (x1 : Int) (x2 : Int) (h : Hp) (K : Value → Hp → Prop) : Prop :=
    CallsH Try.prog f_vm_Vm_page #[(.pointer (some ⟨x0, 0, none⟩)), (.int .i64 x1), (.int .i64 x2)] h fun r1 h2 => ∃ m3 : Option Nat, ∃ b4 : Bool, ∃ n5 : Int, r1 = (.tuple #[(.map m3), (.bool b4), (.int .i64 n5)]) ∧ iteP (n5 != 0) (K (.int .i64 n5) h2) (iteP b4 (K (.int .i64 6) h2) (semWP Try.prog (Instr.mapUpdate T_N_vm_space (.map m3) (.int .i64 x2) (.int .i64 (-1))) h2 fun _ h6
    => K (.int .i64 0) h6))
theorem q_vm_Vm_Map_calls (x0 : Nat) (x1 : Int) (x2 : Int) (h : Hp) (K : Value → Hp → Prop) (hq : q_vm_Vm_Map x0 x1 x2 h K) : CallsH Try.prog f_vm_Vm_Map #[(.pointer (some ⟨x0, 0, none⟩)), (.int .i64 x1), (.int .i64 x2)] h K := by
  have e : q_vm_Vm_Map x0 x1 x2 h K = fnT Try.prog 26 q_vm_Vm_Map_ann Try.f12 (bodyOf Try.f12) [(.pointer (some ⟨x0, 0, none⟩)), (.int .i64 x1), (.int .i64 x2)] h K := by kernel_rfl
  rw [e] at hq
  exact calls_of_fnT (n := 26) (ann := q_vm_Vm_Map_ann) mixOk Try.func12 (by kernel_rfl) (by kernel_rfl) (fun args w => Try.call12 args w) (by kernel_rfl) hq

def q_vm_Vm_Unmap_ann : Ann := { loops := fun _ => [], ty := fun _ => [], canon := fun _ => [], cuts := fun _ => none }
def q_vm_Vm_Unmap (x0 : Nat) (x1 : Int) (x2 : Int) (h : Hp) (K : Value → Hp → Prop) : Prop :=
    CallsH Try.prog f_vm_Vm_page #[(.pointer (some ⟨x0, 0, none⟩)), (.int .i64 x1), (.int .i64 x2)] h fun r1 h2 => ∃ m3 : Option Nat, ∃ b4 : Bool, ∃ n5 : Int, r1 = (.tuple #[(.map m3), (.bool b4), (.int .i64 n5)]) ∧ iteP (n5 != 0) (K (.int .i64 n5) h2) (iteP (!b4) (K (.int .i64 10) h2) (CallsH Try.prog f_vm_Vm_drop #[(.pointer (some ⟨x0, 0, none⟩)), (.map m3), (.int .i64 x2)] h2 fun r6 h7
    => r6 = (.tuple #[]) ∧ K (.int .i64 0) h7))
theorem q_vm_Vm_Unmap_calls (x0 : Nat) (x1 : Int) (x2 : Int) (h : Hp) (K : Value → Hp → Prop) (hq : q_vm_Vm_Unmap x0 x1 x2 h K) : CallsH Try.prog f_vm_Vm_Unmap #[(.pointer (some ⟨x0, 0, none⟩)), (.int .i64 x1), (.int .i64 x2)] h K := by
  have e : q_vm_Vm_Unmap x0 x1 x2 h K = fnT Try.prog 29 q_vm_Vm_Unmap_ann Try.f44 (bodyOf Try.f44) [(.pointer (some ⟨x0, 0, none⟩)), (.int .i64 x1), (.int .i64 x2)] h K := by kernel_rfl
  rw [e] at hq
  exact calls_of_fnT (n := 29) (ann := q_vm_Vm_Unmap_ann) mixOk Try.func44 (by kernel_rfl) (by kernel_rfl) (fun args w => Try.call44 args w) (by kernel_rfl) hq

def q_vm_Vm_at_ann : Ann := { loops := fun _ => [], ty := fun _ => [], canon := fun _ => [], cuts := fun _ => none }
def q_vm_Vm_at (x0 : Nat) (x1 : Int) (x2 : Int) (h : Hp) (K : Value → Hp → Prop) : Prop :=
    CallsH Try.prog f_vm_Vm_of #[(.pointer (some ⟨x0, 0, none⟩)), (.int .i64 x1)] h fun r1 h2 => ∃ m3 : Option Nat, ∃ n4 : Int, r1 = (.tuple #[(.map m3), (.int .i64 n4)]) ∧ iteP (n4 != 0) (K (.tuple #[(.map none), (.int .i64 n4)]) h2) (iteP (decide (x2 < 0)) (K (.tuple #[(.map none), (.int .i64 2)]) h2) (iteP (decide (x2 ≥ 512)) (K (.tuple #[(.map none), (.int .i64 2)]) h2) (CallsH Try.prog f_vm_Vm_page #[(.pointer (some ⟨x0, 0, none⟩)), (.int .i64 x1), (.int .i64 (IntKind.wrap .i64 (Int.tdiv x2 32)))] h2 fun r5 h6
    => ∃ m7 : Option Nat, ∃ b8 : Bool, ∃ n9 : Int, r5 = (.tuple #[(.map m7), (.bool b8), (.int .i64 n9)]) ∧ iteP (!b8) (K (.tuple #[(.map none), (.int .i64 10)]) h6) (K (.tuple #[(.map m7), (.int .i64 0)]) h6))))
theorem q_vm_Vm_at_calls (x0 : Nat) (x1 : Int) (x2 : Int) (h : Hp) (K : Value → Hp → Prop) (hq : q_vm_Vm_at x0 x1 x2 h K) : CallsH Try.prog f_vm_Vm_at #[(.pointer (some ⟨x0, 0, none⟩)), (.int .i64 x1), (.int .i64 x2)] h K := by
  have e : q_vm_Vm_at x0 x1 x2 h K = fnT Try.prog 40 q_vm_Vm_at_ann Try.f62 (bodyOf Try.f62) [(.pointer (some ⟨x0, 0, none⟩)), (.int .i64 x1), (.int .i64 x2)] h K := by kernel_rfl
  rw [e] at hq
  exact calls_of_fnT (n := 40) (ann := q_vm_Vm_at_ann) mixOk Try.func62 (by kernel_rfl) (by kernel_rfl) (fun args w => Try.call62 args w) (by kernel_rfl) hq

def q_vm_Vm_next_ann : Ann := { loops := fun _ => [], ty := fun _ => [], canon := fun x => match x with | 1 => [0, 1, 2, 3, 4, 5, 6, 7, 8, 9, 10] | _ => [], cuts := fun _ => none }
def q_vm_Vm_next (x0 : Nat) (h : Hp) (K : Value → Hp → Prop) : Prop :=
    ∃ p1 : Option Addr, cellAt h ⟨x0, 0, none⟩ = some (.pointer p1) ∧ CallsH Try.prog f_mem_Memory_Size #[(.pointer p1)] h fun r2 h3 => ∃ n4 : Int, r2 = (.int .i64 n4) ∧ (0 : Int) ≤ n4 ∧ (Int.toNat n4) ≤ 64 ∧ CallsH Try.prog f_slices_Index_int_int #[(.slice (some (if 64 = 0 then (⟨x0, 1, none⟩ : Addr) else (⟨x0, 1, none⟩ : Addr).add (0 * 1))) ((Int.toNat n4) - 0) (64 - 0)), (.int .i64 0)] h3 fun r5 h6
    => ∃ n7 : Int, r5 = (.int .i64 n7) ∧ K (.tuple #[(.int .i64 n7), (.bool (decide (n7 ≥ 0)))]) h6
theorem q_vm_Vm_next_calls (x0 : Nat) (h : Hp) (K : Value → Hp → Prop) (hq : q_vm_Vm_next x0 h K) : CallsH Try.prog f_vm_Vm_next #[(.pointer (some ⟨x0, 0, none⟩))] h K := by
  have e : q_vm_Vm_next x0 h K = fnT Try.prog 18 q_vm_Vm_next_ann Try.f114 (bodyOf Try.f114) [(.pointer (some ⟨x0, 0, none⟩))] h K := by kernel_rfl
  rw [e] at hq
  exact calls_of_fnT (n := 18) (ann := q_vm_Vm_next_ann) mixOk Try.func114 (by kernel_rfl) (by kernel_rfl) (fun args w => Try.call114 args w) (by kernel_rfl) hq

def q_vm_Vm_alone_ann : Ann := { loops := fun _ => [], ty := fun _ => [], canon := fun _ => [], cuts := fun _ => none }
def q_vm_Vm_alone (x0 : Nat) (x1 : Int) (h : Hp) (K : Value → Hp → Prop) : Prop :=
    iteP (x1 != (-1)) ((0 : Int) ≤ x1 ∧ x1 < ((64 : Nat) : Int) ∧ ∃ n1 : Int, cellAt h ((⟨x0, 1, none⟩ : Addr).add (Int.toNat x1 * 1)) = some (.int .i64 n1) ∧ K (.bool (n1 == 1)) h) (K (.bool false) h)
theorem q_vm_Vm_alone_calls (x0 : Nat) (x1 : Int) (h : Hp) (K : Value → Hp → Prop) (hq : q_vm_Vm_alone x0 x1 h K) : CallsH Try.prog f_vm_Vm_alone #[(.pointer (some ⟨x0, 0, none⟩)), (.int .i64 x1)] h K := by
  have e : q_vm_Vm_alone x0 x1 h K = fnT Try.prog 16 q_vm_Vm_alone_ann Try.f105 (bodyOf Try.f105) [(.pointer (some ⟨x0, 0, none⟩)), (.int .i64 x1)] h K := by kernel_rfl
  rw [e] at hq
  exact calls_of_fnT (n := 16) (ann := q_vm_Vm_alone_ann) mixOk Try.func105 (by kernel_rfl) (by kernel_rfl) (fun args w => Try.call105 args w) (by kernel_rfl) hq

def q_vm_Vm_own_ann : Ann := { loops := fun _ => [], ty := fun _ => [], canon := fun x => match x with | 10 => [0, 1, 2, 3, 4, 5, 6, 7, 8, 9, 10] | 12 => [0, 1, 2, 3, 4, 5, 6, 7, 8, 9, 10] | _ => [], cuts := fun _ => none }
def q_vm_Vm_own (x0 : Nat) (x1 : Nat) (x2 : Int) (h : Hp) (K : Value → Hp → Prop) : Prop :=
    ∃ n1 : Int, RunsTo Try.prog (Instr.lookup T_N_vm_space (.map (some x1)) (.int .i64 x2) false) h (.int .i64 n1) ∧ CallsH Try.prog f_vm_Vm_alone #[(.pointer (some ⟨x0, 0, none⟩)), (.int .i64 n1)] h fun r2 h3 => ∃ b4 : Bool, r2 = (.bool b4)
    ∧ iteP b4 (K (.int .i64 0) h3) (CallsH Try.prog f_vm_Vm_next #[(.pointer (some ⟨x0, 0, none⟩))] h3 fun r5 h6 => ∃ n7 : Int, ∃ b8 : Bool, r5 = (.tuple #[(.int .i64 n7), (.bool b8)]) ∧ iteP (!b8) (K (.int .i64 4) h6) (iteP (n1 == (-1)) (∃ p9 : Option Addr, cellAt h6 ⟨x0, 0, none⟩ = some (.pointer p9)
    ∧ CallsH Try.prog f_mem_Memory_Zero #[(.pointer p9), (.int .i64 n7)] h6 fun r10 h11 => ∃ n12 : Int, r10 = (.int .i64 n12) ∧ (0 : Int) ≤ n7 ∧ n7 < ((64 : Nat) : Int) ∧ ∃ n13 : Int, cellAt h11 ((⟨x0, 1, none⟩ : Addr).add (Int.toNat n7 * 1)) = some (.int .i64 n13)
    ∧ (0 : Int) ≤ n7 ∧ n7 < ((64 : Nat) : Int) ∧ (∃ old, cellAt h11 ((⟨x0, 1, none⟩ : Addr).add (Int.toNat n7 * 1)) = some old) ∧ frozenAt h11 ((⟨x0, 1, none⟩ : Addr).add (Int.toNat n7 * 1)) = false ∧ letH (setH h11 ((⟨x0, 1, none⟩ : Addr).add (Int.toNat n7 * 1)) (.int .i64 (IntKind.wrap .i64 (n13 + 1)))) fun h14
    => semWP Try.prog (Instr.mapUpdate T_N_vm_space (.map (some x1)) (.int .i64 x2) (.int .i64 n7)) h14 fun _ h15 => K (.int .i64 0) h15) (∃ p16 : Option Addr, cellAt h6 ⟨x0, 0, none⟩ = some (.pointer p16) ∧ CallsH Try.prog f_mem_Memory_Copy #[(.pointer p16), (.int .i64 n7), (.int .i64 n1)] h6 fun r17 h18
    => ∃ n19 : Int, r17 = (.int .i64 n19) ∧ (0 : Int) ≤ n1 ∧ n1 < ((64 : Nat) : Int) ∧ ∃ n20 : Int, cellAt h18 ((⟨x0, 1, none⟩ : Addr).add (Int.toNat n1 * 1)) = some (.int .i64 n20) ∧ (0 : Int) ≤ n1 ∧ n1 < ((64 : Nat) : Int)
    ∧ (∃ old, cellAt h18 ((⟨x0, 1, none⟩ : Addr).add (Int.toNat n1 * 1)) = some old) ∧ frozenAt h18 ((⟨x0, 1, none⟩ : Addr).add (Int.toNat n1 * 1)) = false ∧ letH (setH h18 ((⟨x0, 1, none⟩ : Addr).add (Int.toNat n1 * 1)) (.int .i64 (IntKind.wrap .i64 (n20 - 1)))) fun h21
    => ∃ n22 : Int, cellAt h21 ⟨x0, 66, none⟩ = some (.int .i64 n22) ∧ (∃ old, cellAt h21 ⟨x0, 66, none⟩ = some old) ∧ frozenAt h21 ⟨x0, 66, none⟩ = false ∧ letH (setH h21 ⟨x0, 66, none⟩ (.int .i64 (IntKind.wrap .i64 (n22 + 1)))) fun h23
    => (0 : Int) ≤ n7 ∧ n7 < ((64 : Nat) : Int) ∧ ∃ n24 : Int, cellAt h23 ((⟨x0, 1, none⟩ : Addr).add (Int.toNat n7 * 1)) = some (.int .i64 n24) ∧ (0 : Int) ≤ n7 ∧ n7 < ((64 : Nat) : Int) ∧ (∃ old, cellAt h23 ((⟨x0, 1, none⟩ : Addr).add (Int.toNat n7 * 1)) = some old)
    ∧ frozenAt h23 ((⟨x0, 1, none⟩ : Addr).add (Int.toNat n7 * 1)) = false ∧ letH (setH h23 ((⟨x0, 1, none⟩ : Addr).add (Int.toNat n7 * 1)) (.int .i64 (IntKind.wrap .i64 (n24 + 1)))) fun h25 => semWP Try.prog (Instr.mapUpdate T_N_vm_space (.map (some x1)) (.int .i64 x2) (.int .i64 n7)) h25 fun _ h26
    => K (.int .i64 0) h26)))
theorem q_vm_Vm_own_calls (x0 : Nat) (x1 : Nat) (x2 : Int) (h : Hp) (K : Value → Hp → Prop) (hq : q_vm_Vm_own x0 x1 x2 h K) : CallsH Try.prog f_vm_Vm_own #[(.pointer (some ⟨x0, 0, none⟩)), (.map (some x1)), (.int .i64 x2)] h K := by
  have e : q_vm_Vm_own x0 x1 x2 h K = fnT Try.prog 68 q_vm_Vm_own_ann Try.f63 (bodyOf Try.f63) [(.pointer (some ⟨x0, 0, none⟩)), (.map (some x1)), (.int .i64 x2)] h K := by kernel_rfl
  rw [e] at hq
  exact calls_of_fnT (n := 68) (ann := q_vm_Vm_own_ann) mixOk Try.func63 (by kernel_rfl) (by kernel_rfl) (fun args w => Try.call63 args w) (by kernel_rfl) hq

def q_vm_Vm_Peek_ann : Ann := { loops := fun _ => [], ty := fun _ => [], canon := fun _ => [], cuts := fun _ => none }
def q_vm_Vm_Peek (x0 : Nat) (x1 : Int) (x2 : Int) (h : Hp) (K : Value → Hp → Prop) : Prop :=
    CallsH Try.prog f_vm_Vm_at #[(.pointer (some ⟨x0, 0, none⟩)), (.int .i64 x1), (.int .i64 x2)] h fun r1 h2 => ∃ m3 : Option Nat, ∃ n4 : Int, r1 = (.tuple #[(.map m3), (.int .i64 n4)]) ∧ iteP (n4 != 0) (K (.tuple #[(.int .u8 0), (.int .i64 n4)]) h2) (∃ n5 : Int, RunsTo Try.prog (Instr.lookup T_N_vm_space (.map m3) (.int .i64 (IntKind.wrap .i64 (Int.tdiv x2 32))) false) h2 (.int .i64 n5)
    ∧ iteP (n5 == (-1)) (K (.tuple #[(.int .u8 0), (.int .i64 0)]) h2) (∃ p6 : Option Addr, cellAt h2 ⟨x0, 0, none⟩ = some (.pointer p6) ∧ CallsH Try.prog f_mem_Memory_Byte #[(.pointer p6), (.int .i64 n5), (.int .i64 (Int.tmod x2 32))] h2 fun r7 h8
    => ∃ n9 : Int, ∃ n10 : Int, r7 = (.tuple #[(.int .u8 n9), (.int .i64 n10)]) ∧ K (.tuple #[(.int .u8 n9), (.int .i64 n10)]) h8))
theorem q_vm_Vm_Peek_calls (x0 : Nat) (x1 : Int) (x2 : Int) (h : Hp) (K : Value → Hp → Prop) (hq : q_vm_Vm_Peek x0 x1 x2 h K) : CallsH Try.prog f_vm_Vm_Peek #[(.pointer (some ⟨x0, 0, none⟩)), (.int .i64 x1), (.int .i64 x2)] h K := by
  have e : q_vm_Vm_Peek x0 x1 x2 h K = fnT Try.prog 37 q_vm_Vm_Peek_ann Try.f15 (bodyOf Try.f15) [(.pointer (some ⟨x0, 0, none⟩)), (.int .i64 x1), (.int .i64 x2)] h K := by kernel_rfl
  rw [e] at hq
  exact calls_of_fnT (n := 37) (ann := q_vm_Vm_Peek_ann) mixOk Try.func15 (by kernel_rfl) (by kernel_rfl) (fun args w => Try.call15 args w) (by kernel_rfl) hq

def q_vm_Vm_Fill_ann : Ann := { loops := fun x => match x with | 0 => [(11, T_int), (12, T_int)] | 2 => [(74, T_int)] | _ => [], ty := fun _ => [], canon := fun _ => [], cuts := fun _ => none }
def q_vm_Vm_Fill (x0 : Nat) (x1 : Int) (x2 : Int) (x3p : Option Addr) (x3n : Nat) (x3c : Nat) (h : Hp) (K : Value → Hp → Prop) : Prop :=
    CallsH Try.prog f_vm_Vm_of #[(.pointer (some ⟨x0, 0, none⟩)), (.int .i64 x1)] h fun r1 h2 => ∃ m3 : Option Nat, ∃ n4 : Int, r1 = (.tuple #[(.map m3), (.int .i64 n4)]) ∧ iteP (n4 != 0) (K (.int .i64 n4) h2) (iteP (decide (x2 < 0)) (K (.int .i64 2) h2) (iteP (decide (x2 ≥ 512)) (K (.int .i64 2) h2) (iteP (decide (((x3n : Nat) : Int) > (IntKind.wrap .i64 (512 - x2)))) (K (.int .i64 2) h2) (iteP (((x3n : Nat) : Int) == 0) (K (.int .i64 0) h2) (∃ (I5 : Int → Int → Hp → Prop) (μ6 : Int → Int → Hp → Nat), I5 0 (IntKind.wrap .i64 (Int.tdiv x2 32)) h2
    ∧ ∀ i7 i8 h9, I5 i7 i8 h9 → iteP (decide (i8 ≤ (IntKind.wrap .i64 (Int.tdiv (IntKind.wrap .i64 ((IntKind.wrap .i64 (x2 + ((x3n : Nat) : Int))) - 1)) 32)))) (∃ n11 : Int, ∃ b10 : Bool, RunsTo Try.prog (Instr.lookup T_N_vm_space (.map m3) (.int .i64 i8) true) h9 (.tuple #[(.int .i64 n11), .bool b10])
    ∧ iteP (!b10) (K (.int .i64 10) h9) (CallsH Try.prog f_vm_Vm_alone #[(.pointer (some ⟨x0, 0, none⟩)), (.int .i64 n11)] h9 fun r12 h13 => ∃ b14 : Bool, r12 = (.bool b14) ∧ iteP (!b14) (I5 (IntKind.wrap .i64 (i7 + 1)) (IntKind.wrap .i64 (i8 + 1)) h13
    ∧ μ6 (IntKind.wrap .i64 (i7 + 1)) (IntKind.wrap .i64 (i8 + 1)) h13 < μ6 i7 i8 h9) (I5 i7 (IntKind.wrap .i64 (i8 + 1)) h13 ∧ μ6 i7 (IntKind.wrap .i64 (i8 + 1)) h13 < μ6 i7 i8 h9))) (CallsH Try.prog f_vm_Vm_Left #[(.pointer (some ⟨x0, 0, none⟩))] h9 fun r15 h16
    => ∃ n17 : Int, r15 = (.int .i64 n17) ∧ iteP (decide (i7 > n17)) (K (.int .i64 4) h16) (∃ (I18 : Int → Hp → Prop) (μ19 : Int → Hp → Nat), I18 0 h16 ∧ ∀ i20 h21, I18 i20 h21 → iteP (decide (i20 < ((x3n : Nat) : Int))) ((0 : Int) ≤ i20
    ∧ i20 < ((x3n : Nat) : Int) ∧ wth x3p fun a22 => ∃ n23 : Int, cellAt h21 (a22.add (Int.toNat i20 * 1)) = some (.int .u8 n23) ∧ CallsH Try.prog f_vm_Vm_Poke #[(.pointer (some ⟨x0, 0, none⟩)), (.int .i64 x1), (.int .i64 (IntKind.wrap .i64 (x2 + i20))), (.int .u8 n23)] h21 fun r24 h25
    => ∃ n26 : Int, r24 = (.int .i64 n26) ∧ I18 (IntKind.wrap .i64 (i20 + 1)) h25 ∧ μ19 (IntKind.wrap .i64 (i20 + 1)) h25 < μ19 i20 h21) (K (.int .i64 0) h21))))))))
theorem q_vm_Vm_Fill_calls (x0 : Nat) (x1 : Int) (x2 : Int) (x3p : Option Addr) (x3n : Nat) (x3c : Nat) (h : Hp) (K : Value → Hp → Prop) (hq : q_vm_Vm_Fill x0 x1 x2 x3p x3n x3c h K) : CallsH Try.prog f_vm_Vm_Fill #[(.pointer (some ⟨x0, 0, none⟩)), (.int .i64 x1), (.int .i64 x2), (.slice x3p x3n x3c)] h K := by
  have e : q_vm_Vm_Fill x0 x1 x2 x3p x3n x3c h K = fnT Try.prog 87 q_vm_Vm_Fill_ann Try.f45 (bodyOf Try.f45) [(.pointer (some ⟨x0, 0, none⟩)), (.int .i64 x1), (.int .i64 x2), (.slice x3p x3n x3c)] h K := by kernel_rfl
  rw [e] at hq
  exact calls_of_fnT (n := 87) (ann := q_vm_Vm_Fill_ann) mixOk Try.func45 (by kernel_rfl) (by kernel_rfl) (fun args w => Try.call45 args w) (by kernel_rfl) hq

def q_vm_Vm_Pages_ann : Ann := { loops := fun _ => [], ty := fun _ => [], canon := fun _ => [], cuts := fun _ => none }
def q_vm_Vm_Pages (x0 : Nat) (x1 : Int) (h : Hp) (K : Value → Hp → Prop) : Prop :=
    CallsH Try.prog f_vm_Vm_of #[(.pointer (some ⟨x0, 0, none⟩)), (.int .i64 x1)] h fun r1 h2 => ∃ m3 : Option Nat, ∃ n4 : Int, r1 = (.tuple #[(.map m3), (.int .i64 n4)]) ∧ CallsH Try.prog f_maps_Keys_vm_space_int_int #[(.map m3)] h2 fun r5 h6
    => ∃ v7 : Value, r5 = v7 ∧ CallsH Try.prog f_slices_Sorted_int #[v7] h6 fun r8 h9 => ∃ (p10 : Option Addr) (l11 c12 : Nat), r8 = (.slice p10 l11 c12) ∧ K (.slice p10 l11 c12) h9
theorem q_vm_Vm_Pages_calls (x0 : Nat) (x1 : Int) (h : Hp) (K : Value → Hp → Prop) (hq : q_vm_Vm_Pages x0 x1 h K) : CallsH Try.prog f_vm_Vm_Pages #[(.pointer (some ⟨x0, 0, none⟩)), (.int .i64 x1)] h K := by
  have e : q_vm_Vm_Pages x0 x1 h K = fnT Try.prog 16 q_vm_Vm_Pages_ann Try.f46 (bodyOf Try.f46) [(.pointer (some ⟨x0, 0, none⟩)), (.int .i64 x1)] h K := by kernel_rfl
  rw [e] at hq
  exact calls_of_fnT (n := 16) (ann := q_vm_Vm_Pages_ann) mixOk Try.func46 (by kernel_rfl) (by kernel_rfl) (fun args w => Try.call46 args w) (by kernel_rfl) hq

def q_vm_Vm_Frame_ann : Ann := { loops := fun _ => [], ty := fun _ => [], canon := fun _ => [], cuts := fun _ => none }
def q_vm_Vm_Frame (x0 : Nat) (x1 : Int) (x2 : Int) (h : Hp) (K : Value → Hp → Prop) : Prop :=
    CallsH Try.prog f_vm_Vm_of #[(.pointer (some ⟨x0, 0, none⟩)), (.int .i64 x1)] h fun r1 h2 => ∃ m3 : Option Nat, ∃ n4 : Int, r1 = (.tuple #[(.map m3), (.int .i64 n4)]) ∧ ∃ n6 : Int, ∃ b5 : Bool, RunsTo Try.prog (Instr.lookup T_N_vm_space (.map m3) (.int .i64 x2) true) h2 (.tuple #[(.int .i64 n6), .bool b5])
    ∧ iteP (!b5) (K (.tuple #[(.int .i64 0), (.bool false)]) h2) (iteP (n6 == (-1)) (K (.tuple #[(.int .i64 0), (.bool false)]) h2) (K (.tuple #[(.int .i64 n6), (.bool true)]) h2))
theorem q_vm_Vm_Frame_calls (x0 : Nat) (x1 : Int) (x2 : Int) (h : Hp) (K : Value → Hp → Prop) (hq : q_vm_Vm_Frame x0 x1 x2 h K) : CallsH Try.prog f_vm_Vm_Frame #[(.pointer (some ⟨x0, 0, none⟩)), (.int .i64 x1), (.int .i64 x2)] h K := by
  have e : q_vm_Vm_Frame x0 x1 x2 h K = fnT Try.prog 31 q_vm_Vm_Frame_ann Try.f42 (bodyOf Try.f42) [(.pointer (some ⟨x0, 0, none⟩)), (.int .i64 x1), (.int .i64 x2)] h K := by kernel_rfl
  rw [e] at hq
  exact calls_of_fnT (n := 31) (ann := q_vm_Vm_Frame_ann) mixOk Try.func42 (by kernel_rfl) (by kernel_rfl) (fun args w => Try.call42 args w) (by kernel_rfl) hq

def q_vm_Vm_Refs_ann : Ann := { loops := fun _ => [], ty := fun _ => [], canon := fun _ => [], cuts := fun _ => none }
def q_vm_Vm_Refs (x0 : Nat) (x1 : Int) (h : Hp) (K : Value → Hp → Prop) : Prop :=
    iteP (decide (x1 < 0)) (K (.int .i64 0) h) (iteP (decide (x1 ≥ 64)) (K (.int .i64 0) h) ((0 : Int) ≤ x1 ∧ x1 < ((64 : Nat) : Int) ∧ ∃ n1 : Int, cellAt h ((⟨x0, 1, none⟩ : Addr).add (Int.toNat x1 * 1)) = some (.int .i64 n1)
    ∧ K (.int .i64 n1) h))
theorem q_vm_Vm_Refs_calls (x0 : Nat) (x1 : Int) (h : Hp) (K : Value → Hp → Prop) (hq : q_vm_Vm_Refs x0 x1 h K) : CallsH Try.prog f_vm_Vm_Refs #[(.pointer (some ⟨x0, 0, none⟩)), (.int .i64 x1)] h K := by
  have e : q_vm_Vm_Refs x0 x1 h K = fnT Try.prog 21 q_vm_Vm_Refs_ann Try.f47 (bodyOf Try.f47) [(.pointer (some ⟨x0, 0, none⟩)), (.int .i64 x1)] h K := by kernel_rfl
  rw [e] at hq
  exact calls_of_fnT (n := 21) (ann := q_vm_Vm_Refs_ann) mixOk Try.func47 (by kernel_rfl) (by kernel_rfl) (fun args w => Try.call47 args w) (by kernel_rfl) hq

def q_vm_Vm_Left_ann : Ann := { loops := fun x => match x with | 0 => [(3, T_int), (12, T_int)] | _ => [], ty := fun _ => [], canon := fun _ => [], cuts := fun _ => none }
def q_vm_Vm_Left (x0 : Nat) (h : Hp) (K : Value → Hp → Prop) : Prop :=
    ∃ p1 : Option Addr, cellAt h ⟨x0, 0, none⟩ = some (.pointer p1) ∧ CallsH Try.prog f_mem_Memory_Size #[(.pointer p1)] h fun r2 h3 => ∃ n4 : Int, r2 = (.int .i64 n4) ∧ ∃ (I5 : Int → Int → Hp → Prop) (μ6 : Int → Int → Hp → Nat), I5 0 0 h3
    ∧ ∀ i7 i8 h9, I5 i7 i8 h9 → iteP (decide (i8 < n4)) ((0 : Int) ≤ i8 ∧ i8 < ((64 : Nat) : Int) ∧ ∃ n10 : Int, cellAt h9 ((⟨x0, 1, none⟩ : Addr).add (Int.toNat i8 * 1)) = some (.int .i64 n10) ∧ iteP (n10 == 0) (I5 (IntKind.wrap .i64 (i7 + 1)) (IntKind.wrap .i64 (i8 + 1)) h9
    ∧ μ6 (IntKind.wrap .i64 (i7 + 1)) (IntKind.wrap .i64 (i8 + 1)) h9 < μ6 i7 i8 h9) (I5 i7 (IntKind.wrap .i64 (i8 + 1)) h9 ∧ μ6 i7 (IntKind.wrap .i64 (i8 + 1)) h9 < μ6 i7 i8 h9)) (K (.int .i64 i7) h9)
theorem q_vm_Vm_Left_calls (x0 : Nat) (h : Hp) (K : Value → Hp → Prop) (hq : q_vm_Vm_Left x0 h K) : CallsH Try.prog f_vm_Vm_Left #[(.pointer (some ⟨x0, 0, none⟩))] h K := by
  have e : q_vm_Vm_Left x0 h K = fnT Try.prog 26 q_vm_Vm_Left_ann Try.f17 (bodyOf Try.f17) [(.pointer (some ⟨x0, 0, none⟩))] h K := by kernel_rfl
  rw [e] at hq
  exact calls_of_fnT (n := 26) (ann := q_vm_Vm_Left_ann) mixOk Try.func17 (by kernel_rfl) (by kernel_rfl) (fun args w => Try.call17 args w) (by kernel_rfl) hq

def q_vm_Vm_Copies_ann : Ann := { loops := fun _ => [], ty := fun _ => [], canon := fun _ => [], cuts := fun _ => none }
def q_vm_Vm_Copies (x0 : Nat) (h : Hp) (K : Value → Hp → Prop) : Prop :=
    ∃ n1 : Int, cellAt h ⟨x0, 66, none⟩ = some (.int .i64 n1) ∧ K (.int .i64 n1) h
theorem q_vm_Vm_Copies_calls (x0 : Nat) (h : Hp) (K : Value → Hp → Prop) (hq : q_vm_Vm_Copies x0 h K) : CallsH Try.prog f_vm_Vm_Copies #[(.pointer (some ⟨x0, 0, none⟩))] h K := by
  have e : q_vm_Vm_Copies x0 h K = fnT Try.prog 9 q_vm_Vm_Copies_ann Try.f16 (bodyOf Try.f16) [(.pointer (some ⟨x0, 0, none⟩))] h K := by kernel_rfl
  rw [e] at hq
  exact calls_of_fnT (n := 9) (ann := q_vm_Vm_Copies_ann) mixOk Try.func16 (by kernel_rfl) (by kernel_rfl) (fun args w => Try.call16 args w) (by kernel_rfl) hq

def q_vm_New_ann : Ann := { loops := fun _ => [], ty := fun _ => [], canon := fun _ => [], cuts := fun _ => none }
def q_vm_New (x0 : Int) (h : Hp) (K : Value → Hp → Prop) : Prop :=
    CallsH Try.prog f_mem_New #[(.int .i64 x0)] h fun r1 h2 => ∃ p3 : Option Addr, r1 = (.pointer p3) ∧ iteP p3.isNone (K (.pointer none) h2) (letH (h2.push (.map #[] 0)) fun h4 => letH (h4.push (.cells ⟨(fillL (fillL (zeroCells Try.prog T_N_vm_Vm).toList 0 [(.pointer p3)]) 65 [(.map (some h2.size))])⟩ T_N_vm_Vm)) fun h5
    => K (.pointer (some ⟨h4.size, 0, none⟩)) h5)
theorem q_vm_New_calls (x0 : Int) (h : Hp) (K : Value → Hp → Prop) (hq : q_vm_New x0 h K) : CallsH Try.prog f_vm_New #[(.int .i64 x0)] h K := by
  have e : q_vm_New x0 h K = fnT Try.prog 12 q_vm_New_ann Try.f10 (bodyOf Try.f10) [(.int .i64 x0)] h K := by kernel_rfl
  rw [e] at hq
  exact calls_of_fnT (n := 12) (ann := q_vm_New_ann) mixOk Try.func10 (by kernel_rfl) (by kernel_rfl) (fun args w => Try.call10 args w) (by kernel_rfl) hq

end Go.Proofs.Ytmdhfmljgjnggaa
/- Formulas of package mem. No condition. -/
set_option linter.constructorNameAsVariable false
namespace Go.Proofs.Ytmdhfmljgjnggaa

def q_mem_New_ann : Ann := { loops := fun _ => [], ty := fun _ => [], canon := fun _ => [], cuts := fun _ => none }
def q_mem_New (x0 : Int) (h : Hp) (K : Value → Hp → Prop) : Prop :=
    iteP (decide (x0 < 1)) (K (.pointer none) h) (iteP (decide (x0 > 64)) (K (.pointer none) h) (semWP Try.prog (Instr.makeSlice T_s_mem_frame (.int .i64 x0) (.int .i64 x0)) h fun r1 h2 => ∃ (p3 : Option Addr) (l4 c5 : Nat), r1 = .slice p3 l4 c5
    ∧ letH (h2.push (.cells #[(.slice p3 l4 c5)] T_N_mem_Memory)) fun h6 => K (.pointer (some ⟨h2.size, 0, none⟩)) h6))
theorem q_mem_New_calls (x0 : Int) (h : Hp) (K : Value → Hp → Prop) (hq : q_mem_New x0 h K) : CallsH Try.prog f_mem_New #[(.int .i64 x0)] h K := by
  have e : q_mem_New x0 h K = fnT Try.prog 13 q_mem_New_ann Try.f57 (bodyOf Try.f57) [(.int .i64 x0)] h K := by kernel_rfl
  rw [e] at hq
  exact calls_of_fnT (n := 13) (ann := q_mem_New_ann) mixOk Try.func57 (by kernel_rfl) (by kernel_rfl) (fun args w => Try.call57 args w) (by kernel_rfl) hq

def q_mem_Memory_at_ann : Ann := { loops := fun _ => [], ty := fun _ => [], canon := fun _ => [], cuts := fun _ => none }
def q_mem_Memory_at (x0 : Nat) (x1 : Int) (x2 : Int) (x3 : Int) (h : Hp) (K : Value → Hp → Prop) : Prop :=
    iteP (decide (x1 < 0)) (K (.tuple #[(.slice none 0 0), (.int .i64 2)]) h) (∃ (p1 : Option Addr) (l2 c3 : Nat), cellAt h ⟨x0, 0, none⟩ = some (.slice p1 l2 c3) ∧ iteP (decide (x1 ≥ ((l2 : Nat) : Int))) (K (.tuple #[(.slice none 0 0), (.int .i64 2)]) h) (iteP (decide (x2 < 0)) (K (.tuple #[(.slice none 0 0), (.int .i64 2)]) h) (iteP (decide (x2 > (IntKind.wrap .i64 (32 - x3)))) (K (.tuple #[(.slice none 0 0), (.int .i64 2)]) h) (∃ (p4 : Option Addr) (l5 c6 : Nat), cellAt h ⟨x0, 0, none⟩ = some (.slice p4 l5 c6)
    ∧ (0 : Int) ≤ x1 ∧ x1 < ((l5 : Nat) : Int) ∧ wth p4 fun a7 => (0 : Int) ≤ (IntKind.wrap .i64 (x2 + x3)) ∧ (Int.toNat (IntKind.wrap .i64 (x2 + x3))) ≤ 32 ∧ (0 : Int) ≤ (IntKind.wrap .i64 (x2 + x3)) ∧ (Int.toNat (IntKind.wrap .i64 (x2 + x3))) ≤ (Int.toNat (IntKind.wrap .i64 (x2 + x3)))
    ∧ (0 : Int) ≤ x2 ∧ (Int.toNat x2) ≤ (Int.toNat (IntKind.wrap .i64 (x2 + x3))) ∧ K (.tuple #[(.slice (some (if (Int.toNat (IntKind.wrap .i64 (x2 + x3))) = (Int.toNat x2) then (a7.add (Int.toNat x1 * 32)) else (a7.add (Int.toNat x1 * 32)).add ((Int.toNat x2) * 1))) ((Int.toNat (IntKind.wrap .i64 (x2 + x3))) - (Int.toNat x2)) ((Int.toNat (IntKind.wrap .i64 (x2 + x3))) - (Int.toNat x2))), (.int .i64 0)]) h))))
theorem q_mem_Memory_at_calls (x0 : Nat) (x1 : Int) (x2 : Int) (x3 : Int) (h : Hp) (K : Value → Hp → Prop) (hq : q_mem_Memory_at x0 x1 x2 x3 h K) : CallsH Try.prog f_mem_Memory_at #[(.pointer (some ⟨x0, 0, none⟩)), (.int .i64 x1), (.int .i64 x2), (.int .i64 x3)] h K := by
  have e : q_mem_Memory_at x0 x1 x2 x3 h K = fnT Try.prog 49 q_mem_Memory_at_ann Try.f117 (bodyOf Try.f117) [(.pointer (some ⟨x0, 0, none⟩)), (.int .i64 x1), (.int .i64 x2), (.int .i64 x3)] h K := by kernel_rfl
  rw [e] at hq
  exact calls_of_fnT (n := 49) (ann := q_mem_Memory_at_ann) mixOk Try.func117 (by kernel_rfl) (by kernel_rfl) (fun args w => Try.call117 args w) (by kernel_rfl) hq

def q_mem_Memory_Byte_ann : Ann := { loops := fun _ => [], ty := fun _ => [], canon := fun _ => [], cuts := fun _ => none }
def q_mem_Memory_Byte (x0 : Nat) (x1 : Int) (x2 : Int) (h : Hp) (K : Value → Hp → Prop) : Prop :=
    CallsH Try.prog f_mem_Memory_at #[(.pointer (some ⟨x0, 0, none⟩)), (.int .i64 x1), (.int .i64 x2), (.int .i64 1)] h fun r1 h2 => ∃ (p3 : Option Addr) (l4 c5 : Nat), ∃ n6 : Int, r1 = (.tuple #[(.slice p3 l4 c5), (.int .i64 n6)])
    ∧ iteP (n6 != 0) (K (.tuple #[(.int .u8 0), (.int .i64 n6)]) h2) ((0 : Int) ≤ 0 ∧ 0 < ((l4 : Nat) : Int) ∧ wth p3 fun a7 => ∃ n8 : Int, cellAt h2 (a7.add (Int.toNat 0 * 1)) = some (.int .u8 n8) ∧ K (.tuple #[(.int .u8 n8), (.int .i64 0)]) h2)
theorem q_mem_Memory_Byte_calls (x0 : Nat) (x1 : Int) (x2 : Int) (h : Hp) (K : Value → Hp → Prop) (hq : q_mem_Memory_Byte x0 x1 x2 h K) : CallsH Try.prog f_mem_Memory_Byte #[(.pointer (some ⟨x0, 0, none⟩)), (.int .i64 x1), (.int .i64 x2)] h K := by
  have e : q_mem_Memory_Byte x0 x1 x2 h K = fnT Try.prog 23 q_mem_Memory_Byte_ann Try.f65 (bodyOf Try.f65) [(.pointer (some ⟨x0, 0, none⟩)), (.int .i64 x1), (.int .i64 x2)] h K := by kernel_rfl
  rw [e] at hq
  exact calls_of_fnT (n := 23) (ann := q_mem_Memory_Byte_ann) mixOk Try.func65 (by kernel_rfl) (by kernel_rfl) (fun args w => Try.call65 args w) (by kernel_rfl) hq

def q_mem_Memory_SetByte_ann : Ann := { loops := fun _ => [], ty := fun _ => [], canon := fun _ => [], cuts := fun _ => none }
def q_mem_Memory_SetByte (x0 : Nat) (x1 : Int) (x2 : Int) (x3 : Int) (h : Hp) (K : Value → Hp → Prop) : Prop :=
    CallsH Try.prog f_mem_Memory_at #[(.pointer (some ⟨x0, 0, none⟩)), (.int .i64 x1), (.int .i64 x2), (.int .i64 1)] h fun r1 h2 => ∃ (p3 : Option Addr) (l4 c5 : Nat), ∃ n6 : Int, r1 = (.tuple #[(.slice p3 l4 c5), (.int .i64 n6)])
    ∧ iteP (n6 == 0) ((0 : Int) ≤ 0 ∧ 0 < ((l4 : Nat) : Int) ∧ wth p3 fun a7 => (∃ old, cellAt h2 (a7.add (Int.toNat 0 * 1)) = some old) ∧ frozenAt h2 (a7.add (Int.toNat 0 * 1)) = false ∧ letH (setH h2 (a7.add (Int.toNat 0 * 1)) (.int .u8 x3)) fun h8
    => K (.int .i64 n6) h8) (K (.int .i64 n6) h2)
theorem q_mem_Memory_SetByte_calls (x0 : Nat) (x1 : Int) (x2 : Int) (x3 : Int) (h : Hp) (K : Value → Hp → Prop) (hq : q_mem_Memory_SetByte x0 x1 x2 x3 h K) : CallsH Try.prog f_mem_Memory_SetByte #[(.pointer (some ⟨x0, 0, none⟩)), (.int .i64 x1), (.int .i64 x2), (.int .u8 x3)] h K := by
  have e : q_mem_Memory_SetByte x0 x1 x2 x3 h K = fnT Try.prog 24 q_mem_Memory_SetByte_ann Try.f64 (bodyOf Try.f64) [(.pointer (some ⟨x0, 0, none⟩)), (.int .i64 x1), (.int .i64 x2), (.int .u8 x3)] h K := by kernel_rfl
  rw [e] at hq
  exact calls_of_fnT (n := 24) (ann := q_mem_Memory_SetByte_ann) mixOk Try.func64 (by kernel_rfl) (by kernel_rfl) (fun args w => Try.call64 args w) (by kernel_rfl) hq

def q_mem_Memory_Zero_ann : Ann := { loops := fun _ => [], ty := fun _ => [], canon := fun _ => [], cuts := fun _ => none }
def q_mem_Memory_Zero (x0 : Nat) (x1 : Int) (h : Hp) (K : Value → Hp → Prop) : Prop :=
    CallsH Try.prog f_mem_Memory_at #[(.pointer (some ⟨x0, 0, none⟩)), (.int .i64 x1), (.int .i64 0), (.int .i64 32)] h fun r1 h2 => ∃ (p3 : Option Addr) (l4 c5 : Nat), ∃ n6 : Int, r1 = (.tuple #[(.slice p3 l4 c5), (.int .i64 n6)])
    ∧ semWP Try.prog (Builtin.clear_ #[T_s_uint8] T_x #[(.slice p3 l4 c5)]) h2 fun r7 h8 => r7 = .tuple #[] ∧ K (.int .i64 n6) h8
theorem q_mem_Memory_Zero_calls (x0 : Nat) (x1 : Int) (h : Hp) (K : Value → Hp → Prop) (hq : q_mem_Memory_Zero x0 x1 h K) : CallsH Try.prog f_mem_Memory_Zero #[(.pointer (some ⟨x0, 0, none⟩)), (.int .i64 x1)] h K := by
  have e : q_mem_Memory_Zero x0 x1 h K = fnT Try.prog 15 q_mem_Memory_Zero_ann Try.f115 (bodyOf Try.f115) [(.pointer (some ⟨x0, 0, none⟩)), (.int .i64 x1)] h K := by kernel_rfl
  rw [e] at hq
  exact calls_of_fnT (n := 15) (ann := q_mem_Memory_Zero_ann) mixOk Try.func115 (by kernel_rfl) (by kernel_rfl) (fun args w => Try.call115 args w) (by kernel_rfl) hq

def q_mem_Memory_Copy_ann : Ann := { loops := fun _ => [], ty := fun _ => [], canon := fun _ => [], cuts := fun _ => none }
def q_mem_Memory_Copy (x0 : Nat) (x1 : Int) (x2 : Int) (h : Hp) (K : Value → Hp → Prop) : Prop :=
    CallsH Try.prog f_mem_Memory_at #[(.pointer (some ⟨x0, 0, none⟩)), (.int .i64 x1), (.int .i64 0), (.int .i64 32)] h fun r1 h2 => ∃ (p3 : Option Addr) (l4 c5 : Nat), ∃ n6 : Int, r1 = (.tuple #[(.slice p3 l4 c5), (.int .i64 n6)])
    ∧ CallsH Try.prog f_mem_Memory_at #[(.pointer (some ⟨x0, 0, none⟩)), (.int .i64 x2), (.int .i64 0), (.int .i64 32)] h2 fun r7 h8 => ∃ (p9 : Option Addr) (l10 c11 : Nat), ∃ n12 : Int, r7 = (.tuple #[(.slice p9 l10 c11), (.int .i64 n12)])
    ∧ iteP (n6 != 0) (K (.int .i64 n6) h8) (iteP (n12 != 0) (K (.int .i64 n12) h8) (semWP Try.prog (Builtin.copy_ #[T_s_uint8, T_s_uint8] T_int #[(.slice p3 l4 c5), (.slice p9 l10 c11)]) h8 fun r13 h14 => ∃ n15 : Int, r13 = .int .i64 n15
    ∧ K (.int .i64 0) h14))
theorem q_mem_Memory_Copy_calls (x0 : Nat) (x1 : Int) (x2 : Int) (h : Hp) (K : Value → Hp → Prop) (hq : q_mem_Memory_Copy x0 x1 x2 h K) : CallsH Try.prog f_mem_Memory_Copy #[(.pointer (some ⟨x0, 0, none⟩)), (.int .i64 x1), (.int .i64 x2)] h K := by
  have e : q_mem_Memory_Copy x0 x1 x2 h K = fnT Try.prog 34 q_mem_Memory_Copy_ann Try.f116 (bodyOf Try.f116) [(.pointer (some ⟨x0, 0, none⟩)), (.int .i64 x1), (.int .i64 x2)] h K := by kernel_rfl
  rw [e] at hq
  exact calls_of_fnT (n := 34) (ann := q_mem_Memory_Copy_ann) mixOk Try.func116 (by kernel_rfl) (by kernel_rfl) (fun args w => Try.call116 args w) (by kernel_rfl) hq

def q_mem_Memory_Size_ann : Ann := { loops := fun _ => [], ty := fun _ => [], canon := fun _ => [], cuts := fun _ => none }
def q_mem_Memory_Size (x0 : Nat) (h : Hp) (K : Value → Hp → Prop) : Prop :=
    ∃ (p1 : Option Addr) (l2 c3 : Nat), cellAt h ⟨x0, 0, none⟩ = some (.slice p1 l2 c3) ∧ K (.int .i64 ((l2 : Nat) : Int)) h
theorem q_mem_Memory_Size_calls (x0 : Nat) (h : Hp) (K : Value → Hp → Prop) (hq : q_mem_Memory_Size x0 h K) : CallsH Try.prog f_mem_Memory_Size #[(.pointer (some ⟨x0, 0, none⟩))] h K := by
  have e : q_mem_Memory_Size x0 h K = fnT Try.prog 10 q_mem_Memory_Size_ann Try.f66 (bodyOf Try.f66) [(.pointer (some ⟨x0, 0, none⟩))] h K := by kernel_rfl
  rw [e] at hq
  exact calls_of_fnT (n := 10) (ann := q_mem_Memory_Size_ann) mixOk Try.func66 (by kernel_rfl) (by kernel_rfl) (fun args w => Try.call66 args w) (by kernel_rfl) hq

def q_mem_Memory_Fork_ann : Ann := { loops := fun _ => [], ty := fun _ => [], canon := fun _ => [], cuts := fun _ => none }
def q_mem_Memory_Fork (x0 : Nat) (h : Hp) (K : Value → Hp → Prop) : Prop :=
    ∃ (p1 : Option Addr) (l2 c3 : Nat), cellAt h ⟨x0, 0, none⟩ = some (.slice p1 l2 c3) ∧ CallsH Try.prog f_slices_Clone_mem_frame_mem_frame #[(.slice p1 l2 c3)] h fun r4 h5 => ∃ (p6 : Option Addr) (l7 c8 : Nat), r4 = (.slice p6 l7 c8)
    ∧ letH (h5.push (.cells #[(.slice p6 l7 c8)] T_N_mem_Memory)) fun h9 => K (.pointer (some ⟨h5.size, 0, none⟩)) h9
theorem q_mem_Memory_Fork_calls (x0 : Nat) (h : Hp) (K : Value → Hp → Prop) (hq : q_mem_Memory_Fork x0 h K) : CallsH Try.prog f_mem_Memory_Fork #[(.pointer (some ⟨x0, 0, none⟩))] h K := by
  have e : q_mem_Memory_Fork x0 h K = fnT Try.prog 12 q_mem_Memory_Fork_ann Try.f94 (bodyOf Try.f94) [(.pointer (some ⟨x0, 0, none⟩))] h K := by kernel_rfl
  rw [e] at hq
  exact calls_of_fnT (n := 12) (ann := q_mem_Memory_Fork_ann) mixOk Try.func94 (by kernel_rfl) (by kernel_rfl) (fun args w => Try.call94 args w) (by kernel_rfl) hq

def q_slices_Clone_mem_frame_mem_frame_ann : Ann := { loops := fun _ => [], ty := fun _ => [], canon := fun _ => [], cuts := fun _ => none }
def q_slices_Clone_mem_frame_mem_frame (x0p : Option Addr) (x0n : Nat) (x0c : Nat) (h : Hp) (K : Value → Hp → Prop) : Prop :=
    iteP x0p.isNone (K (.slice none 0 0) h) (letH (h.push (.cells ⟨(repL 0 (zeroCells Try.prog T_N_mem_frame).toList)⟩ T_N_mem_frame)) fun h1 => semWP Try.prog (Builtin.append_ #[T_s_mem_frame, T_s_mem_frame] T_s_mem_frame #[(.slice (some ⟨h.size, 0, none⟩) 0 0), (.slice x0p x0n x0c)]) h1 fun r2 h3
    => ∃ (p4 : Option Addr) (l5 c6 : Nat), r2 = .slice p4 l5 c6 ∧ K (.slice p4 l5 c6) h3)
theorem q_slices_Clone_mem_frame_mem_frame_calls (x0p : Option Addr) (x0n : Nat) (x0c : Nat) (h : Hp) (K : Value → Hp → Prop) (hq : q_slices_Clone_mem_frame_mem_frame x0p x0n x0c h K) : CallsH Try.prog f_slices_Clone_mem_frame_mem_frame #[(.slice x0p x0n x0c)] h K := by
  have e : q_slices_Clone_mem_frame_mem_frame x0p x0n x0c h K = fnT Try.prog 8 q_slices_Clone_mem_frame_mem_frame_ann Try.f133 (bodyOf Try.f133) [(.slice x0p x0n x0c)] h K := by kernel_rfl
  rw [e] at hq
  exact calls_of_fnT (n := 8) (ann := q_slices_Clone_mem_frame_mem_frame_ann) mixOk Try.func133 (by kernel_rfl) (by kernel_rfl) (fun args w => Try.call133 args w) (by kernel_rfl) hq

def q_maps_Clone_vm_space_int_int_ann : Ann := { loops := fun _ => [], ty := fun _ => [], canon := fun _ => [], cuts := fun _ => none }
def q_maps_Clone_vm_space_int_int (x0 : Nat) (h : Hp) (K : Value → Hp → Prop) : Prop :=
    semWP Try.prog (callFunc f_maps_clone #[(.iface T_N_vm_space (.map (some x0)))]) h fun x3 h4 => nextWP Try.prog x3 h4 fun r1 h2 => ∃ v5 : Value, r1 = v5 ∧ ∃ m6 : Option Nat, v5 = .iface T_N_vm_space (.map m6) ∧ K (.map m6) h2
theorem q_maps_Clone_vm_space_int_int_calls (x0 : Nat) (h : Hp) (K : Value → Hp → Prop) (hq : q_maps_Clone_vm_space_int_int x0 h K) : CallsH Try.prog f_maps_Clone_vm_space_int_int #[(.map (some x0))] h K := by
  have e : q_maps_Clone_vm_space_int_int x0 h K = fnT Try.prog 9 q_maps_Clone_vm_space_int_int_ann Try.f61 (bodyOf Try.f61) [(.map (some x0))] h K := by kernel_rfl
  rw [e] at hq
  exact calls_of_fnT (n := 9) (ann := q_maps_Clone_vm_space_int_int_ann) mixOk Try.func61 (by kernel_rfl) (by kernel_rfl) (fun args w => Try.call61 args w) (by kernel_rfl) hq

def q_slices_Index_int_int_ann : Ann := { loops := fun x => match x with | 0 => [(8, T_int)] | _ => [], ty := fun _ => [], canon := fun _ => [], cuts := fun _ => none }
def q_slices_Index_int_int (x0p : Option Addr) (x0n : Nat) (x0c : Nat) (x1 : Int) (h : Hp) (K : Value → Hp → Prop) : Prop :=
    ∃ (I1 : Int → Hp → Prop) (μ2 : Int → Hp → Nat), I1 0 h ∧ ∀ i3 h4, I1 i3 h4 → iteP (decide (i3 < ((x0n : Nat) : Int))) ((0 : Int) ≤ i3 ∧ i3 < ((x0n : Nat) : Int) ∧ wth x0p fun a5 => ∃ n6 : Int, cellAt h4 (a5.add (Int.toNat i3 * 1)) = some (.int .i64 n6)
    ∧ iteP (x1 == n6) (K (.int .i64 i3) h4) (I1 (IntKind.wrap .i64 (i3 + 1)) h4 ∧ μ2 (IntKind.wrap .i64 (i3 + 1)) h4 < μ2 i3 h4)) (K (.int .i64 (-1)) h4)
theorem q_slices_Index_int_int_calls (x0p : Option Addr) (x0n : Nat) (x0c : Nat) (x1 : Int) (h : Hp) (K : Value → Hp → Prop) (hq : q_slices_Index_int_int x0p x0n x0c x1 h K) : CallsH Try.prog f_slices_Index_int_int #[(.slice x0p x0n x0c), (.int .i64 x1)] h K := by
  have e : q_slices_Index_int_int x0p x0n x0c x1 h K = fnT Try.prog 19 q_slices_Index_int_int_ann Try.f148 (bodyOf Try.f148) [(.slice x0p x0n x0c), (.int .i64 x1)] h K := by kernel_rfl
  rw [e] at hq
  exact calls_of_fnT (n := 19) (ann := q_slices_Index_int_int_ann) mixOk Try.func148 (by kernel_rfl) (by kernel_rfl) (fun args w => Try.call148 args w) (by kernel_rfl) hq

end Go.Proofs.Ytmdhfmljgjnggaa
