/- Formulas of package vm. No condition. -/
import Derived.Test.YtmdhfmljgjnggaaNames
set_option linter.constructorNameAsVariable false
namespace Go.Proofs.Ytmdhfmljgjnggaa

def q_vm_Vm_of_ann : Ann := { loops := fun _ => [], ty := fun _ => [], canon := fun _ => [], cuts := fun _ => none }
def q_vm_Vm_of (x0 : Nat) (x1 : Int) (h : Hp) (K : Value → Hp → Prop) : Prop :=
    ∃ m1 : Option Nat, cellAt h ⟨x0, 65, none⟩ = some (.map m1) ∧ ∃ m3 : Option Nat, ∃ b2 : Bool, RunsTo Try.prog (Instr.lookup T_m_int_vm_space (.map m1) (.int .i64 x1) true) h (.tuple #[(.map m3), .bool b2]) ∧ iteP (!b2) (K (.tuple #[(.map none), (.int .i64 5)]) h) (K (.tuple #[(.map m3), (.int .i64 0)]) h)
theorem q_vm_Vm_of_calls (x0 : Nat) (x1 : Int) (h : Hp) (K : Value → Hp → Prop) (hq : q_vm_Vm_of x0 x1 h K) : CallsH Try.prog f_vm_Vm_of #[(.pointer (some ⟨x0, 0, none⟩)), (.int .i64 x1)] h K := by
  have e : q_vm_Vm_of x0 x1 h K = fnT Try.prog 22 q_vm_Vm_of_ann Try.f60 (bodyOf Try.f60) [(.pointer (some ⟨x0, 0, none⟩)), (.int .i64 x1)] h K := by kernel_rfl
  rw [e] at hq
  exact calls_of_fnT (n := 22) (ann := q_vm_Vm_of_ann) mixOk Try.func60 (by kernel_rfl) (by kernel_rfl) (fun args w => Try.call60 args w) (by kernel_rfl) hq

def q_vm_Vm_fresh_ann : Ann := { loops := fun _ => [], ty := fun _ => [], canon := fun _ => [], cuts := fun _ => none }
def q_vm_Vm_fresh (x0 : Nat) (x1 : Int) (h : Hp) (K : Value → Hp → Prop) : Prop :=
    iteP (decide (x1 < 0)) (K (.int .i64 2) h) (iteP (decide (x1 ≥ 6)) (K (.int .i64 2) h) (∃ m1 : Option Nat, cellAt h ⟨x0, 65, none⟩ = some (.map m1) ∧ ∃ m3 : Option Nat, ∃ b2 : Bool, RunsTo Try.prog (Instr.lookup T_m_int_vm_space (.map m1) (.int .i64 x1) true) h (.tuple #[(.map m3), .bool b2])
    ∧ iteP b2 (K (.int .i64 6) h) (K (.int .i64 0) h)))
theorem q_vm_Vm_fresh_calls (x0 : Nat) (x1 : Int) (h : Hp) (K : Value → Hp → Prop) (hq : q_vm_Vm_fresh x0 x1 h K) : CallsH Try.prog f_vm_Vm_fresh #[(.pointer (some ⟨x0, 0, none⟩)), (.int .i64 x1)] h K := by
  have e : q_vm_Vm_fresh x0 x1 h K = fnT Try.prog 25 q_vm_Vm_fresh_ann Try.f58 (bodyOf Try.f58) [(.pointer (some ⟨x0, 0, none⟩)), (.int .i64 x1)] h K := by kernel_rfl
  rw [e] at hq
  exact calls_of_fnT (n := 25) (ann := q_vm_Vm_fresh_ann) mixOk Try.func58 (by kernel_rfl) (by kernel_rfl) (fun args w => Try.call58 args w) (by kernel_rfl) hq

def q_vm_Vm_Begin_ann : Ann := { loops := fun _ => [], ty := fun _ => [], canon := fun _ => [], cuts := fun _ => none }
def q_vm_Vm_Begin (x0 : Nat) (x1 : Int) (h : Hp) (K : Value → Hp → Prop) : Prop :=
    CallsH Try.prog f_vm_Vm_fresh #[(.pointer (some ⟨x0, 0, none⟩)), (.int .i64 x1)] h fun r1 h2 => ∃ n3 : Int, r1 = (.int .i64 n3) ∧ iteP (n3 == 0) (∃ m4 : Option Nat, cellAt h2 ⟨x0, 65, none⟩ = some (.map m4) ∧ letH (h2.push (.map #[] 0)) fun h5
    => semWP Try.prog (Instr.mapUpdate T_m_int_vm_space (.map m4) (.int .i64 x1) (.map (some h2.size))) h5 fun _ h6 => K (.int .i64 n3) h6) (K (.int .i64 n3) h2)
theorem q_vm_Vm_Begin_calls (x0 : Nat) (x1 : Int) (h : Hp) (K : Value → Hp → Prop) (hq : q_vm_Vm_Begin x0 x1 h K) : CallsH Try.prog f_vm_Vm_Begin #[(.pointer (some ⟨x0, 0, none⟩)), (.int .i64 x1)] h K := by
  have e : q_vm_Vm_Begin x0 x1 h K = fnT Try.prog 18 q_vm_Vm_Begin_ann Try.f11 (bodyOf Try.f11) [(.pointer (some ⟨x0, 0, none⟩)), (.int .i64 x1)] h K := by kernel_rfl
  rw [e] at hq
  exact calls_of_fnT (n := 18) (ann := q_vm_Vm_Begin_ann) mixOk Try.func11 (by kernel_rfl) (by kernel_rfl) (fun args w => Try.call11 args w) (by kernel_rfl) hq

def q_vm_Vm_Poke_ann : Ann := { loops := fun _ => [], ty := fun _ => [], canon := fun x => match x with | 8 => [0, 1, 2, 3, 4, 5, 6, 7, 8, 9, 10, 11] | _ => [], cuts := fun _ => none }
def q_vm_Vm_Poke (x0 : Nat) (x1 : Int) (x2 : Int) (x3 : Int) (h : Hp) (K : Value → Hp → Prop) : Prop :=
    CallsH Try.prog f_vm_Vm_at #[(.pointer (some ⟨x0, 0, none⟩)), (.int .i64 x1), (.int .i64 x2)] h fun r1 h2 => ∃ m3 : Option Nat, ∃ n4 : Int, r1 = (.tuple #[(.map m3), (.int .i64 n4)]) ∧ iteP (n4 != 0) (K (.int .i64 n4) h2) (CallsH Try.prog f_vm_Vm_own #[(.pointer (some ⟨x0, 0, none⟩)), (.map m3), (.int .i64 (IntKind.wrap .i64 (Int.tdiv x2 32)))] h2 fun r5 h6
    => ∃ n7 : Int, r5 = (.int .i64 n7) ∧ iteP (n7 != 0) (K (.int .i64 n7) h6) (∃ p8 : Option Addr, cellAt h6 ⟨x0, 0, none⟩ = some (.pointer p8) ∧ ∃ n9 : Int, RunsTo Try.prog (Instr.lookup T_N_vm_space (.map m3) (.int .i64 (IntKind.wrap .i64 (Int.tdiv x2 32))) false) h6 (.int .i64 n9)
    ∧ CallsH Try.prog f_mem_Memory_SetByte #[(.pointer p8), (.int .i64 n9), (.int .i64 (Int.tmod x2 32)), (.int .u8 x3)] h6 fun r10 h11 => ∃ n12 : Int, r10 = (.int .i64 n12) ∧ K (.int .i64 n12) h11))
theorem q_vm_Vm_Poke_calls (x0 : Nat) (x1 : Int) (x2 : Int) (x3 : Int) (h : Hp) (K : Value → Hp → Prop) (hq : q_vm_Vm_Poke x0 x1 x2 x3 h K) : CallsH Try.prog f_vm_Vm_Poke #[(.pointer (some ⟨x0, 0, none⟩)), (.int .i64 x1), (.int .i64 x2), (.int .u8 x3)] h K := by
  have e : q_vm_Vm_Poke x0 x1 x2 x3 h K = fnT Try.prog 43 q_vm_Vm_Poke_ann Try.f14 (bodyOf Try.f14) [(.pointer (some ⟨x0, 0, none⟩)), (.int .i64 x1), (.int .i64 x2), (.int .u8 x3)] h K := by kernel_rfl
  rw [e] at hq
  exact calls_of_fnT (n := 43) (ann := q_vm_Vm_Poke_ann) mixOk Try.func14 (by kernel_rfl) (by kernel_rfl) (fun args w => Try.call14 args w) (by kernel_rfl) hq

def q_vm_Vm_Fork_ann : Ann := { loops := fun x => match x with | 0 => [] | _ => [], ty := fun x => match x with | 38 => [T_int, T_int] | _ => [], canon := fun x => match x with | 7 => [0, 1, 2, 3, 4, 5, 6, 7] | 12 => [0, 1, 2, 3, 4, 5, 6, 7, 8, 9, 10] | _ => [], cuts := fun _ => none }
def q_vm_Vm_Fork (x0 : Nat) (x1 : Int) (x2 : Int) (h : Hp) (K : Value → Hp → Prop) : Prop :=
    CallsH Try.prog f_vm_Vm_of #[(.pointer (some ⟨x0, 0, none⟩)), (.int .i64 x1)] h fun r1 h2 => ∃ m3 : Option Nat, ∃ n4 : Int, r1 = (.tuple #[(.map m3), (.int .i64 n4)]) ∧ iteP (n4 != 0) (K (.int .i64 n4) h2) (CallsH Try.prog f_vm_Vm_fresh #[(.pointer (some ⟨x0, 0, none⟩)), (.int .i64 x2)] h2 fun r5 h6
    => ∃ n7 : Int, r5 = (.int .i64 n7) ∧ iteP (n7 != 0) (K (.int .i64 n7) h6) (∃ m8 : Option Nat, cellAt h6 ⟨x0, 65, none⟩ = some (.map m8) ∧ CallsH Try.prog f_maps_Clone_vm_space_int_int #[(.map m3)] h6 fun r9 h10 => ∃ m11 : Option Nat, r9 = (.map m11)
    ∧ (∃ m12 : Option Nat, cellAt h10 ⟨x0, 65, none⟩ = some (.map m12) ∧ ((.map m12) : Value) = (.map m8)) ∧ semWP Try.prog (Instr.mapUpdate T_m_int_vm_space (.map m8) (.int .i64 x2) (.map m11)) h10 fun _ h13 => semWP Try.prog (Instr.range T_N_vm_space (.map m3)) h13 fun r14 h15
    => ∃ i16 : Nat, r14 = .pointer (some ⟨i16, 0, none⟩) ∧ ∃ (I17 : Hp → Prop) (μ18 : Hp → Nat), I17  h15 ∧ ∀  h19, I17  h19 → semWP Try.prog (Instr.next (.pointer (some ⟨i16, 0, none⟩)) false T_x) h19 fun r20 h21 => ∃ (b22 : Bool) (xs23 : List Value), r20 = .tuple ⟨.bool b22 :: xs23⟩
    ∧ iteP b22 (∃ n24 : Int, ∃ n25 : Int, RunsTo Try.prog (Instr.entry (.pointer (some ⟨i16, 0, none⟩))) h21 (.tuple #[(.int .i64 n24), (.int .i64 n25)]) ∧ iteP (n25 != (-1)) ((0 : Int) ≤ n25 ∧ n25 < ((64 : Nat) : Int) ∧ ∃ n26 : Int, cellAt h21 ((⟨x0, 1, none⟩ : Addr).add (Int.toNat n25 * 1)) = some (.int .i64 n26)
    ∧ (0 : Int) ≤ n25 ∧ n25 < ((64 : Nat) : Int) ∧ (∃ old, cellAt h21 ((⟨x0, 1, none⟩ : Addr).add (Int.toNat n25 * 1)) = some old) ∧ frozenAt h21 ((⟨x0, 1, none⟩ : Addr).add (Int.toNat n25 * 1)) = false ∧ letH (setH h21 ((⟨x0, 1, none⟩ : Addr).add (Int.toNat n25 * 1)) (.int .i64 (IntKind.wrap .i64 (n26 + 1)))) fun h27
    => I17  h27 ∧ μ18  h27 < μ18  h19) (I17  h21 ∧ μ18  h21 < μ18  h19)) (K (.int .i64 0) h21)))
theorem q_vm_Vm_Fork_calls (x0 : Nat) (x1 : Int) (x2 : Int) (h : Hp) (K : Value → Hp → Prop) (hq : q_vm_Vm_Fork x0 x1 x2 h K) : CallsH Try.prog f_vm_Vm_Fork #[(.pointer (some ⟨x0, 0, none⟩)), (.int .i64 x1), (.int .i64 x2)] h K := by
  have e : q_vm_Vm_Fork x0 x1 x2 h K = fnT Try.prog 52 q_vm_Vm_Fork_ann Try.f13 (bodyOf Try.f13) [(.pointer (some ⟨x0, 0, none⟩)), (.int .i64 x1), (.int .i64 x2)] h K := by kernel_rfl
  rw [e] at hq
  exact calls_of_fnT (n := 52) (ann := q_vm_Vm_Fork_ann) mixOk Try.func13 (by kernel_rfl) (by kernel_rfl) (fun args w => Try.call13 args w) (by kernel_rfl) hq

def q_vm_Vm_drop_ann : Ann := { loops := fun _ => [], ty := fun _ => [], canon := fun x => match x with | 2 => [0, 1, 2, 3, 4, 5, 6, 7, 8, 9, 10] | _ => [], cuts := fun _ => none }
def q_vm_Vm_drop (x0 : Nat) (x1 : Nat) (x2 : Int) (h : Hp) (K : Value → Hp → Prop) : Prop :=
    ∃ n1 : Int, RunsTo Try.prog (Instr.lookup T_N_vm_space (.map (some x1)) (.int .i64 x2) false) h (.int .i64 n1) ∧ iteP (n1 != (-1)) ((0 : Int) ≤ n1 ∧ n1 < ((64 : Nat) : Int) ∧ ∃ n2 : Int, cellAt h ((⟨x0, 1, none⟩ : Addr).add (Int.toNat n1 * 1)) = some (.int .i64 n2)
    ∧ (0 : Int) ≤ n1 ∧ n1 < ((64 : Nat) : Int) ∧ (∃ old, cellAt h ((⟨x0, 1, none⟩ : Addr).add (Int.toNat n1 * 1)) = some old) ∧ frozenAt h ((⟨x0, 1, none⟩ : Addr).add (Int.toNat n1 * 1)) = false ∧ letH (setH h ((⟨x0, 1, none⟩ : Addr).add (Int.toNat n1 * 1)) (.int .i64 (IntKind.wrap .i64 (n2 - 1)))) fun h3
    => semWP Try.prog (Builtin.delete_ #[T_N_vm_space, T_int] T_x #[(.map (some x1)), (.int .i64 x2)]) h3 fun r4 h5 => r4 = .tuple #[] ∧ K (.tuple #[]) h5) (semWP Try.prog (Builtin.delete_ #[T_N_vm_space, T_int] T_x #[(.map (some x1)), (.int .i64 x2)]) h fun r6 h7
    => r6 = .tuple #[] ∧ K (.tuple #[]) h7)
theorem q_vm_Vm_drop_calls (x0 : Nat) (x1 : Nat) (x2 : Int) (h : Hp) (K : Value → Hp → Prop) (hq : q_vm_Vm_drop x0 x1 x2 h K) : CallsH Try.prog f_vm_Vm_drop #[(.pointer (some ⟨x0, 0, none⟩)), (.map (some x1)), (.int .i64 x2)] h K := by
  have e : q_vm_Vm_drop x0 x1 x2 h K = fnT Try.prog 24 q_vm_Vm_drop_ann Try.f104 (bodyOf Try.f104) [(.pointer (some ⟨x0, 0, none⟩)), (.map (some x1)), (.int .i64 x2)] h K := by kernel_rfl
  rw [e] at hq
  exact calls_of_fnT (n := 24) (ann := q_vm_Vm_drop_ann) mixOk Try.func104 (by kernel_rfl) (by kernel_rfl) (fun args w => Try.call104 args w) (by kernel_rfl) hq

def q_vm_Vm_End_ann : Ann := { loops := fun x => match x with | 0 => [] | _ => [], ty := fun x => match x with | 22 => [T_int, T_int] | _ => [], canon := fun _ => [], cuts := fun _ => none }
def q_vm_Vm_End (x0 : Nat) (x1 : Int) (h : Hp) (K : Value → Hp → Prop) : Prop :=
    CallsH Try.prog f_vm_Vm_of #[(.pointer (some ⟨x0, 0, none⟩)), (.int .i64 x1)] h fun r1 h2 => ∃ m3 : Option Nat, ∃ n4 : Int, r1 = (.tuple #[(.map m3), (.int .i64 n4)]) ∧ iteP (n4 != 0) (K (.int .i64 n4) h2) (CallsH Try.prog f_maps_Clone_vm_space_int_int #[(.map m3)] h2 fun r5 h6
    => ∃ m7 : Option Nat, r5 = (.map m7) ∧ semWP Try.prog (Instr.range T_N_vm_space (.map m7)) h6 fun r8 h9 => ∃ i10 : Nat, r8 = .pointer (some ⟨i10, 0, none⟩) ∧ ∃ (I11 : Hp → Prop) (μ12 : Hp → Nat), I11  h9 ∧ ∀  h13, I11  h13 → semWP Try.prog (Instr.next (.pointer (some ⟨i10, 0, none⟩)) false T_x) h13 fun r14 h15
    => ∃ (b16 : Bool) (xs17 : List Value), r14 = .tuple ⟨.bool b16 :: xs17⟩ ∧ iteP b16 (∃ n18 : Int, ∃ n19 : Int, RunsTo Try.prog (Instr.entry (.pointer (some ⟨i10, 0, none⟩))) h15 (.tuple #[(.int .i64 n18), (.int .i64 n19)])
    ∧ CallsH Try.prog f_vm_Vm_drop #[(.pointer (some ⟨x0, 0, none⟩)), (.map m3), (.int .i64 n18)] h15 fun r20 h21 => r20 = (.tuple #[]) ∧ I11  h21 ∧ μ12  h21 < μ12  h13) (∃ m22 : Option Nat, cellAt h15 ⟨x0, 65, none⟩ = some (.map m22)
    ∧ semWP Try.prog (Builtin.delete_ #[T_m_int_vm_space, T_int] T_x #[(.map m22), (.int .i64 x1)]) h15 fun r23 h24 => r23 = .tuple #[] ∧ K (.int .i64 0) h24))
theorem q_vm_Vm_End_calls (x0 : Nat) (x1 : Int) (h : Hp) (K : Value → Hp → Prop) (hq : q_vm_Vm_End x0 x1 h K) : CallsH Try.prog f_vm_Vm_End #[(.pointer (some ⟨x0, 0, none⟩)), (.int .i64 x1)] h K := by
  have e : q_vm_Vm_End x0 x1 h K = fnT Try.prog 33 q_vm_Vm_End_ann Try.f43 (bodyOf Try.f43) [(.pointer (some ⟨x0, 0, none⟩)), (.int .i64 x1)] h K := by kernel_rfl
  rw [e] at hq
  exact calls_of_fnT (n := 33) (ann := q_vm_Vm_End_ann) mixOk Try.func43 (by kernel_rfl) (by kernel_rfl) (fun args w => Try.call43 args w) (by kernel_rfl) hq

def q_vm_Vm_page_ann : Ann := { loops := fun _ => [], ty := fun _ => [], canon := fun _ => [], cuts := fun _ => none }
def q_vm_Vm_page (x0 : Nat) (x1 : Int) (x2 : Int) (h : Hp) (K : Value → Hp → Prop) : Prop :=
    CallsH Try.prog f_vm_Vm_of #[(.pointer (some ⟨x0, 0, none⟩)), (.int .i64 x1)] h fun r1 h2 => ∃ m3 : Option Nat, ∃ n4 : Int, r1 = (.tuple #[(.map m3), (.int .i64 n4)]) ∧ iteP (n4 != 0) (K (.tuple #[(.map none), (.bool false), (.int .i64 n4)]) h2) (iteP (decide (x2 < 0)) (K (.tuple #[(.map none), (.bool false), (.int .i64 2)]) h2) (iteP (decide (x2 ≥ 16)) (K (.tuple #[(.map none), (.bool false), (.int .i64 2)]) h2) (∃ n6 : Int, ∃ b5 : Bool, RunsTo Try.prog (Instr.lookup T_N_vm_space (.map m3) (.int .i64 x2) true) h2 (.tuple #[(.int .i64 n6), .bool b5])
    ∧ K (.tuple #[(.map m3), (.bool b5), (.int .i64 0)]) h2)))
theorem q_vm_Vm_page_calls (x0 : Nat) (x1 : Int) (x2 : Int) (h : Hp) (K : Value → Hp → Prop) (hq : q_vm_Vm_page x0 x1 x2 h K) : CallsH Try.prog f_vm_Vm_page #[(.pointer (some ⟨x0, 0, none⟩)), (.int .i64 x1), (.int .i64 x2)] h K := by
  have e : q_vm_Vm_page x0 x1 x2 h K = fnT Try.prog 36 q_vm_Vm_page_ann Try.f59 (bodyOf Try.f59) [(.pointer (some ⟨x0, 0, none⟩)), (.int .i64 x1), (.int .i64 x2)] h K := by kernel_rfl
  rw [e] at hq
  exact calls_of_fnT (n := 36) (ann := q_vm_Vm_page_ann) mixOk Try.func59 (by kernel_rfl) (by kernel_rfl) (fun args w => Try.call59 args w) (by kernel_rfl) hq

def q_vm_Vm_Map_ann : Ann := { loops := fun _ => [], ty := fun _ => [], canon := fun _ => [], cuts := fun _ => none }
def q_vm_Vm_Map (x0 : Nat) (x1 : Int) (x2 : Int) (h : Hp) (K : Value → Hp → Prop) : Prop :=
    CallsH Try.prog f_vm_Vm_page #[(.pointer (some ⟨x0, 0, none⟩)), (.int .i64 x1), (.int .i64 x2)] h fun r1 h2 => ∃ m3 : Option Nat, ∃ b4 : Bool, ∃ n5 : Int, r1 = (.tuple #[(.map m3), (.bool b4), (.int .i64 n5)]) ∧ iteP (n5 != 0) (K (.int .i64 n5) h2) (iteP b4 (K (.int .i64 6) h2) (semWP Try.prog (Instr.mapUpdate T_N_vm_space (.map m3) (.int .i64 x2) (.int .i64 (-1))) h2 fun _ h6
    => K (.int .i64 0) h6))
theorem q_vm_Vm_Map_calls (x0 : Nat) (x1 : Int) (x2 : Int) (h : Hp) (K : Value → Hp → Prop) (hq : q_vm_Vm_Map x0 x1 x2 h K) : CallsH Try.prog f_vm_Vm_Map #[(.pointer (some ⟨x0, 0, none⟩)), (.int .i64 x1), (.int .i64 x2)] h K := by
  have e : q_vm_Vm_Map x0 x1 x2 h K = fnT Try.prog 26 q_vm_Vm_Map_ann Try.f12 (bodyOf Try.f12) [(.pointer (some ⟨x0, 0, none⟩)), (.int .i64 x1), (.int .i64 x2)] h K := by kernel_rfl
  rw [e] at hq
  exact calls_of_fnT (n := 26) (ann := q_vm_Vm_Map_ann) mixOk Try.func12 (by kernel_rfl) (by kernel_rfl) (fun args w => Try.call12 args w) (by kernel_rfl) hq

def q_vm_Vm_Unmap_ann : Ann := { loops := fun _ => [], ty := fun _ => [], canon := fun _ => [], cuts := fun _ => none }
def q_vm_Vm_Unmap (x0 : Nat) (x1 : Int) (x2 : Int) (h : Hp) (K : Value → Hp → Prop) : Prop :=
    CallsH Try.prog f_vm_Vm_page #[(.pointer (some ⟨x0, 0, none⟩)), (.int .i64 x1), (.int .i64 x2)] h fun r1 h2 => ∃ m3 : Option Nat, ∃ b4 : Bool, ∃ n5 : Int, r1 = (.tuple #[(.map m3), (.bool b4), (.int .i64 n5)]) ∧ iteP (n5 != 0) (K (.int .i64 n5) h2) (iteP (!b4) (K (.int .i64 10) h2) (CallsH Try.prog f_vm_Vm_drop #[(.pointer (some ⟨x0, 0, none⟩)), (.map m3), (.int .i64 x2)] h2 fun r6 h7
    => r6 = (.tuple #[]) ∧ K (.int .i64 0) h7))
theorem q_vm_Vm_Unmap_calls (x0 : Nat) (x1 : Int) (x2 : Int) (h : Hp) (K : Value → Hp → Prop) (hq : q_vm_Vm_Unmap x0 x1 x2 h K) : CallsH Try.prog f_vm_Vm_Unmap #[(.pointer (some ⟨x0, 0, none⟩)), (.int .i64 x1), (.int .i64 x2)] h K := by
  have e : q_vm_Vm_Unmap x0 x1 x2 h K = fnT Try.prog 29 q_vm_Vm_Unmap_ann Try.f44 (bodyOf Try.f44) [(.pointer (some ⟨x0, 0, none⟩)), (.int .i64 x1), (.int .i64 x2)] h K := by kernel_rfl
  rw [e] at hq
  exact calls_of_fnT (n := 29) (ann := q_vm_Vm_Unmap_ann) mixOk Try.func44 (by kernel_rfl) (by kernel_rfl) (fun args w => Try.call44 args w) (by kernel_rfl) hq

def q_vm_Vm_at_ann : Ann := { loops := fun _ => [], ty := fun _ => [], canon := fun _ => [], cuts := fun _ => none }
def q_vm_Vm_at (x0 : Nat) (x1 : Int) (x2 : Int) (h : Hp) (K : Value → Hp → Prop) : Prop :=
    CallsH Try.prog f_vm_Vm_of #[(.pointer (some ⟨x0, 0, none⟩)), (.int .i64 x1)] h fun r1 h2 => ∃ m3 : Option Nat, ∃ n4 : Int, r1 = (.tuple #[(.map m3), (.int .i64 n4)]) ∧ iteP (n4 != 0) (K (.tuple #[(.map none), (.int .i64 n4)]) h2) (iteP (decide (x2 < 0)) (K (.tuple #[(.map none), (.int .i64 2)]) h2) (iteP (decide (x2 ≥ 512)) (K (.tuple #[(.map none), (.int .i64 2)]) h2) (CallsH Try.prog f_vm_Vm_page #[(.pointer (some ⟨x0, 0, none⟩)), (.int .i64 x1), (.int .i64 (IntKind.wrap .i64 (Int.tdiv x2 32)))] h2 fun r5 h6
    => ∃ m7 : Option Nat, ∃ b8 : Bool, ∃ n9 : Int, r5 = (.tuple #[(.map m7), (.bool b8), (.int .i64 n9)]) ∧ iteP (!b8) (K (.tuple #[(.map none), (.int .i64 10)]) h6) (K (.tuple #[(.map m7), (.int .i64 0)]) h6))))
theorem q_vm_Vm_at_calls (x0 : Nat) (x1 : Int) (x2 : Int) (h : Hp) (K : Value → Hp → Prop) (hq : q_vm_Vm_at x0 x1 x2 h K) : CallsH Try.prog f_vm_Vm_at #[(.pointer (some ⟨x0, 0, none⟩)), (.int .i64 x1), (.int .i64 x2)] h K := by
  have e : q_vm_Vm_at x0 x1 x2 h K = fnT Try.prog 40 q_vm_Vm_at_ann Try.f62 (bodyOf Try.f62) [(.pointer (some ⟨x0, 0, none⟩)), (.int .i64 x1), (.int .i64 x2)] h K := by kernel_rfl
  rw [e] at hq
  exact calls_of_fnT (n := 40) (ann := q_vm_Vm_at_ann) mixOk Try.func62 (by kernel_rfl) (by kernel_rfl) (fun args w => Try.call62 args w) (by kernel_rfl) hq

def q_vm_Vm_next_ann : Ann := { loops := fun _ => [], ty := fun _ => [], canon := fun x => match x with | 1 => [0, 1, 2, 3, 4, 5, 6, 7, 8, 9, 10] | _ => [], cuts := fun _ => none }
def q_vm_Vm_next (x0 : Nat) (h : Hp) (K : Value → Hp → Prop) : Prop :=
    ∃ p1 : Option Addr, cellAt h ⟨x0, 0, none⟩ = some (.pointer p1) ∧ CallsH Try.prog f_mem_Memory_Size #[(.pointer p1)] h fun r2 h3 => ∃ n4 : Int, r2 = (.int .i64 n4) ∧ (0 : Int) ≤ n4 ∧ (Int.toNat n4) ≤ 64 ∧ CallsH Try.prog f_slices_Index_int_int #[(.slice (some (if 64 = 0 then (⟨x0, 1, none⟩ : Addr) else (⟨x0, 1, none⟩ : Addr).add (0 * 1))) ((Int.toNat n4) - 0) (64 - 0)), (.int .i64 0)] h3 fun r5 h6
    => ∃ n7 : Int, r5 = (.int .i64 n7) ∧ K (.tuple #[(.int .i64 n7), (.bool (decide (n7 ≥ 0)))]) h6
theorem q_vm_Vm_next_calls (x0 : Nat) (h : Hp) (K : Value → Hp → Prop) (hq : q_vm_Vm_next x0 h K) : CallsH Try.prog f_vm_Vm_next #[(.pointer (some ⟨x0, 0, none⟩))] h K := by
  have e : q_vm_Vm_next x0 h K = fnT Try.prog 18 q_vm_Vm_next_ann Try.f114 (bodyOf Try.f114) [(.pointer (some ⟨x0, 0, none⟩))] h K := by kernel_rfl
  rw [e] at hq
  exact calls_of_fnT (n := 18) (ann := q_vm_Vm_next_ann) mixOk Try.func114 (by kernel_rfl) (by kernel_rfl) (fun args w => Try.call114 args w) (by kernel_rfl) hq

def q_vm_Vm_alone_ann : Ann := { loops := fun _ => [], ty := fun _ => [], canon := fun _ => [], cuts := fun _ => none }
def q_vm_Vm_alone (x0 : Nat) (x1 : Int) (h : Hp) (K : Value → Hp → Prop) : Prop :=
    iteP (x1 != (-1)) ((0 : Int) ≤ x1 ∧ x1 < ((64 : Nat) : Int) ∧ ∃ n1 : Int, cellAt h ((⟨x0, 1, none⟩ : Addr).add (Int.toNat x1 * 1)) = some (.int .i64 n1) ∧ K (.bool (n1 == 1)) h) (K (.bool false) h)
theorem q_vm_Vm_alone_calls (x0 : Nat) (x1 : Int) (h : Hp) (K : Value → Hp → Prop) (hq : q_vm_Vm_alone x0 x1 h K) : CallsH Try.prog f_vm_Vm_alone #[(.pointer (some ⟨x0, 0, none⟩)), (.int .i64 x1)] h K := by
  have e : q_vm_Vm_alone x0 x1 h K = fnT Try.prog 16 q_vm_Vm_alone_ann Try.f105 (bodyOf Try.f105) [(.pointer (some ⟨x0, 0, none⟩)), (.int .i64 x1)] h K := by kernel_rfl
  rw [e] at hq
  exact calls_of_fnT (n := 16) (ann := q_vm_Vm_alone_ann) mixOk Try.func105 (by kernel_rfl) (by kernel_rfl) (fun args w => Try.call105 args w) (by kernel_rfl) hq

def q_vm_Vm_own_ann : Ann := { loops := fun _ => [], ty := fun _ => [], canon := fun x => match x with | 10 => [0, 1, 2, 3, 4, 5, 6, 7, 8, 9, 10] | 12 => [0, 1, 2, 3, 4, 5, 6, 7, 8, 9, 10] | _ => [], cuts := fun _ => none }
def q_vm_Vm_own (x0 : Nat) (x1 : Nat) (x2 : Int) (h : Hp) (K : Value → Hp → Prop) : Prop :=
    ∃ n1 : Int, RunsTo Try.prog (Instr.lookup T_N_vm_space (.map (some x1)) (.int .i64 x2) false) h (.int .i64 n1) ∧ CallsH Try.prog f_vm_Vm_alone #[(.pointer (some ⟨x0, 0, none⟩)), (.int .i64 n1)] h fun r2 h3 => ∃ b4 : Bool, r2 = (.bool b4)
    ∧ iteP b4 (K (.int .i64 0) h3) (CallsH Try.prog f_vm_Vm_next #[(.pointer (some ⟨x0, 0, none⟩))] h3 fun r5 h6 => ∃ n7 : Int, ∃ b8 : Bool, r5 = (.tuple #[(.int .i64 n7), (.bool b8)]) ∧ iteP (!b8) (K (.int .i64 4) h6) (iteP (n1 == (-1)) (∃ p9 : Option Addr, cellAt h6 ⟨x0, 0, none⟩ = some (.pointer p9)
    ∧ CallsH Try.prog f_mem_Memory_Zero #[(.pointer p9), (.int .i64 n7)] h6 fun r10 h11 => ∃ n12 : Int, r10 = (.int .i64 n12) ∧ (0 : Int) ≤ n7 ∧ n7 < ((64 : Nat) : Int) ∧ ∃ n13 : Int, cellAt h11 ((⟨x0, 1, none⟩ : Addr).add (Int.toNat n7 * 1)) = some (.int .i64 n13)
    ∧ (0 : Int) ≤ n7 ∧ n7 < ((64 : Nat) : Int) ∧ (∃ old, cellAt h11 ((⟨x0, 1, none⟩ : Addr).add (Int.toNat n7 * 1)) = some old) ∧ frozenAt h11 ((⟨x0, 1, none⟩ : Addr).add (Int.toNat n7 * 1)) = false ∧ letH (setH h11 ((⟨x0, 1, none⟩ : Addr).add (Int.toNat n7 * 1)) (.int .i64 (IntKind.wrap .i64 (n13 + 1)))) fun h14
    => semWP Try.prog (Instr.mapUpdate T_N_vm_space (.map (some x1)) (.int .i64 x2) (.int .i64 n7)) h14 fun _ h15 => K (.int .i64 0) h15) (∃ p16 : Option Addr, cellAt h6 ⟨x0, 0, none⟩ = some (.pointer p16) ∧ CallsH Try.prog f_mem_Memory_Copy #[(.pointer p16), (.int .i64 n7), (.int .i64 n1)] h6 fun r17 h18
    => ∃ n19 : Int, r17 = (.int .i64 n19) ∧ (0 : Int) ≤ n1 ∧ n1 < ((64 : Nat) : Int) ∧ ∃ n20 : Int, cellAt h18 ((⟨x0, 1, none⟩ : Addr).add (Int.toNat n1 * 1)) = some (.int .i64 n20) ∧ (0 : Int) ≤ n1 ∧ n1 < ((64 : Nat) : Int)
    ∧ (∃ old, cellAt h18 ((⟨x0, 1, none⟩ : Addr).add (Int.toNat n1 * 1)) = some old) ∧ frozenAt h18 ((⟨x0, 1, none⟩ : Addr).add (Int.toNat n1 * 1)) = false ∧ letH (setH h18 ((⟨x0, 1, none⟩ : Addr).add (Int.toNat n1 * 1)) (.int .i64 (IntKind.wrap .i64 (n20 - 1)))) fun h21
    => ∃ n22 : Int, cellAt h21 ⟨x0, 66, none⟩ = some (.int .i64 n22) ∧ (∃ old, cellAt h21 ⟨x0, 66, none⟩ = some old) ∧ frozenAt h21 ⟨x0, 66, none⟩ = false ∧ letH (setH h21 ⟨x0, 66, none⟩ (.int .i64 (IntKind.wrap .i64 (n22 + 1)))) fun h23
    => (0 : Int) ≤ n7 ∧ n7 < ((64 : Nat) : Int) ∧ ∃ n24 : Int, cellAt h23 ((⟨x0, 1, none⟩ : Addr).add (Int.toNat n7 * 1)) = some (.int .i64 n24) ∧ (0 : Int) ≤ n7 ∧ n7 < ((64 : Nat) : Int) ∧ (∃ old, cellAt h23 ((⟨x0, 1, none⟩ : Addr).add (Int.toNat n7 * 1)) = some old)
    ∧ frozenAt h23 ((⟨x0, 1, none⟩ : Addr).add (Int.toNat n7 * 1)) = false ∧ letH (setH h23 ((⟨x0, 1, none⟩ : Addr).add (Int.toNat n7 * 1)) (.int .i64 (IntKind.wrap .i64 (n24 + 1)))) fun h25 => semWP Try.prog (Instr.mapUpdate T_N_vm_space (.map (some x1)) (.int .i64 x2) (.int .i64 n7)) h25 fun _ h26
    => K (.int .i64 0) h26)))
theorem q_vm_Vm_own_calls (x0 : Nat) (x1 : Nat) (x2 : Int) (h : Hp) (K : Value → Hp → Prop) (hq : q_vm_Vm_own x0 x1 x2 h K) : CallsH Try.prog f_vm_Vm_own #[(.pointer (some ⟨x0, 0, none⟩)), (.map (some x1)), (.int .i64 x2)] h K := by
  have e : q_vm_Vm_own x0 x1 x2 h K = fnT Try.prog 68 q_vm_Vm_own_ann Try.f63 (bodyOf Try.f63) [(.pointer (some ⟨x0, 0, none⟩)), (.map (some x1)), (.int .i64 x2)] h K := by kernel_rfl
  rw [e] at hq
  exact calls_of_fnT (n := 68) (ann := q_vm_Vm_own_ann) mixOk Try.func63 (by kernel_rfl) (by kernel_rfl) (fun args w => Try.call63 args w) (by kernel_rfl) hq

def q_vm_Vm_Peek_ann : Ann := { loops := fun _ => [], ty := fun _ => [], canon := fun _ => [], cuts := fun _ => none }
def q_vm_Vm_Peek (x0 : Nat) (x1 : Int) (x2 : Int) (h : Hp) (K : Value → Hp → Prop) : Prop :=
    CallsH Try.prog f_vm_Vm_at #[(.pointer (some ⟨x0, 0, none⟩)), (.int .i64 x1), (.int .i64 x2)] h fun r1 h2 => ∃ m3 : Option Nat, ∃ n4 : Int, r1 = (.tuple #[(.map m3), (.int .i64 n4)]) ∧ iteP (n4 != 0) (K (.tuple #[(.int .u8 0), (.int .i64 n4)]) h2) (∃ n5 : Int, RunsTo Try.prog (Instr.lookup T_N_vm_space (.map m3) (.int .i64 (IntKind.wrap .i64 (Int.tdiv x2 32))) false) h2 (.int .i64 n5)
    ∧ iteP (n5 == (-1)) (K (.tuple #[(.int .u8 0), (.int .i64 0)]) h2) (∃ p6 : Option Addr, cellAt h2 ⟨x0, 0, none⟩ = some (.pointer p6) ∧ CallsH Try.prog f_mem_Memory_Byte #[(.pointer p6), (.int .i64 n5), (.int .i64 (Int.tmod x2 32))] h2 fun r7 h8
    => ∃ n9 : Int, ∃ n10 : Int, r7 = (.tuple #[(.int .u8 n9), (.int .i64 n10)]) ∧ K (.tuple #[(.int .u8 n9), (.int .i64 n10)]) h8))
theorem q_vm_Vm_Peek_calls (x0 : Nat) (x1 : Int) (x2 : Int) (h : Hp) (K : Value → Hp → Prop) (hq : q_vm_Vm_Peek x0 x1 x2 h K) : CallsH Try.prog f_vm_Vm_Peek #[(.pointer (some ⟨x0, 0, none⟩)), (.int .i64 x1), (.int .i64 x2)] h K := by
  have e : q_vm_Vm_Peek x0 x1 x2 h K = fnT Try.prog 37 q_vm_Vm_Peek_ann Try.f15 (bodyOf Try.f15) [(.pointer (some ⟨x0, 0, none⟩)), (.int .i64 x1), (.int .i64 x2)] h K := by kernel_rfl
  rw [e] at hq
  exact calls_of_fnT (n := 37) (ann := q_vm_Vm_Peek_ann) mixOk Try.func15 (by kernel_rfl) (by kernel_rfl) (fun args w => Try.call15 args w) (by kernel_rfl) hq

def q_vm_Vm_Fill_ann : Ann := { loops := fun x => match x with | 0 => [(11, T_int), (12, T_int)] | 2 => [(74, T_int)] | _ => [], ty := fun _ => [], canon := fun _ => [], cuts := fun _ => none }
def q_vm_Vm_Fill (x0 : Nat) (x1 : Int) (x2 : Int) (x3p : Option Addr) (x3n : Nat) (x3c : Nat) (h : Hp) (K : Value → Hp → Prop) : Prop :=
    CallsH Try.prog f_vm_Vm_of #[(.pointer (some ⟨x0, 0, none⟩)), (.int .i64 x1)] h fun r1 h2 => ∃ m3 : Option Nat, ∃ n4 : Int, r1 = (.tuple #[(.map m3), (.int .i64 n4)]) ∧ iteP (n4 != 0) (K (.int .i64 n4) h2) (iteP (decide (x2 < 0)) (K (.int .i64 2) h2) (iteP (decide (x2 ≥ 512)) (K (.int .i64 2) h2) (iteP (decide (((x3n : Nat) : Int) > (IntKind.wrap .i64 (512 - x2)))) (K (.int .i64 2) h2) (iteP (((x3n : Nat) : Int) == 0) (K (.int .i64 0) h2) (∃ (I5 : Int → Int → Hp → Prop) (μ6 : Int → Int → Hp → Nat), I5 0 (IntKind.wrap .i64 (Int.tdiv x2 32)) h2
    ∧ ∀ i7 i8 h9, I5 i7 i8 h9 → iteP (decide (i8 ≤ (IntKind.wrap .i64 (Int.tdiv (IntKind.wrap .i64 ((IntKind.wrap .i64 (x2 + ((x3n : Nat) : Int))) - 1)) 32)))) (∃ n11 : Int, ∃ b10 : Bool, RunsTo Try.prog (Instr.lookup T_N_vm_space (.map m3) (.int .i64 i8) true) h9 (.tuple #[(.int .i64 n11), .bool b10])
    ∧ iteP (!b10) (K (.int .i64 10) h9) (CallsH Try.prog f_vm_Vm_alone #[(.pointer (some ⟨x0, 0, none⟩)), (.int .i64 n11)] h9 fun r12 h13 => ∃ b14 : Bool, r12 = (.bool b14) ∧ iteP (!b14) (I5 (IntKind.wrap .i64 (i7 + 1)) (IntKind.wrap .i64 (i8 + 1)) h13
    ∧ μ6 (IntKind.wrap .i64 (i7 + 1)) (IntKind.wrap .i64 (i8 + 1)) h13 < μ6 i7 i8 h9) (I5 i7 (IntKind.wrap .i64 (i8 + 1)) h13 ∧ μ6 i7 (IntKind.wrap .i64 (i8 + 1)) h13 < μ6 i7 i8 h9))) (CallsH Try.prog f_vm_Vm_Left #[(.pointer (some ⟨x0, 0, none⟩))] h9 fun r15 h16
    => ∃ n17 : Int, r15 = (.int .i64 n17) ∧ iteP (decide (i7 > n17)) (K (.int .i64 4) h16) (∃ (I18 : Int → Hp → Prop) (μ19 : Int → Hp → Nat), I18 0 h16 ∧ ∀ i20 h21, I18 i20 h21 → iteP (decide (i20 < ((x3n : Nat) : Int))) ((0 : Int) ≤ i20
    ∧ i20 < ((x3n : Nat) : Int) ∧ wth x3p fun a22 => ∃ n23 : Int, cellAt h21 (a22.add (Int.toNat i20 * 1)) = some (.int .u8 n23) ∧ CallsH Try.prog f_vm_Vm_Poke #[(.pointer (some ⟨x0, 0, none⟩)), (.int .i64 x1), (.int .i64 (IntKind.wrap .i64 (x2 + i20))), (.int .u8 n23)] h21 fun r24 h25
    => ∃ n26 : Int, r24 = (.int .i64 n26) ∧ I18 (IntKind.wrap .i64 (i20 + 1)) h25 ∧ μ19 (IntKind.wrap .i64 (i20 + 1)) h25 < μ19 i20 h21) (K (.int .i64 0) h21))))))))
theorem q_vm_Vm_Fill_calls (x0 : Nat) (x1 : Int) (x2 : Int) (x3p : Option Addr) (x3n : Nat) (x3c : Nat) (h : Hp) (K : Value → Hp → Prop) (hq : q_vm_Vm_Fill x0 x1 x2 x3p x3n x3c h K) : CallsH Try.prog f_vm_Vm_Fill #[(.pointer (some ⟨x0, 0, none⟩)), (.int .i64 x1), (.int .i64 x2), (.slice x3p x3n x3c)] h K := by
  have e : q_vm_Vm_Fill x0 x1 x2 x3p x3n x3c h K = fnT Try.prog 87 q_vm_Vm_Fill_ann Try.f45 (bodyOf Try.f45) [(.pointer (some ⟨x0, 0, none⟩)), (.int .i64 x1), (.int .i64 x2), (.slice x3p x3n x3c)] h K := by kernel_rfl
  rw [e] at hq
  exact calls_of_fnT (n := 87) (ann := q_vm_Vm_Fill_ann) mixOk Try.func45 (by kernel_rfl) (by kernel_rfl) (fun args w => Try.call45 args w) (by kernel_rfl) hq

def q_vm_Vm_Pages_ann : Ann := { loops := fun _ => [], ty := fun _ => [], canon := fun _ => [], cuts := fun _ => none }
def q_vm_Vm_Pages (x0 : Nat) (x1 : Int) (h : Hp) (K : Value → Hp → Prop) : Prop :=
    CallsH Try.prog f_vm_Vm_of #[(.pointer (some ⟨x0, 0, none⟩)), (.int .i64 x1)] h fun r1 h2 => ∃ m3 : Option Nat, ∃ n4 : Int, r1 = (.tuple #[(.map m3), (.int .i64 n4)]) ∧ CallsH Try.prog f_maps_Keys_vm_space_int_int #[(.map m3)] h2 fun r5 h6
    => ∃ v7 : Value, r5 = v7 ∧ CallsH Try.prog f_slices_Sorted_int #[v7] h6 fun r8 h9 => ∃ (p10 : Option Addr) (l11 c12 : Nat), r8 = (.slice p10 l11 c12) ∧ K (.slice p10 l11 c12) h9
theorem q_vm_Vm_Pages_calls (x0 : Nat) (x1 : Int) (h : Hp) (K : Value → Hp → Prop) (hq : q_vm_Vm_Pages x0 x1 h K) : CallsH Try.prog f_vm_Vm_Pages #[(.pointer (some ⟨x0, 0, none⟩)), (.int .i64 x1)] h K := by
  have e : q_vm_Vm_Pages x0 x1 h K = fnT Try.prog 16 q_vm_Vm_Pages_ann Try.f46 (bodyOf Try.f46) [(.pointer (some ⟨x0, 0, none⟩)), (.int .i64 x1)] h K := by kernel_rfl
  rw [e] at hq
  exact calls_of_fnT (n := 16) (ann := q_vm_Vm_Pages_ann) mixOk Try.func46 (by kernel_rfl) (by kernel_rfl) (fun args w => Try.call46 args w) (by kernel_rfl) hq

def q_vm_Vm_Frame_ann : Ann := { loops := fun _ => [], ty := fun _ => [], canon := fun _ => [], cuts := fun _ => none }
def q_vm_Vm_Frame (x0 : Nat) (x1 : Int) (x2 : Int) (h : Hp) (K : Value → Hp → Prop) : Prop :=
    CallsH Try.prog f_vm_Vm_of #[(.pointer (some ⟨x0, 0, none⟩)), (.int .i64 x1)] h fun r1 h2 => ∃ m3 : Option Nat, ∃ n4 : Int, r1 = (.tuple #[(.map m3), (.int .i64 n4)]) ∧ ∃ n6 : Int, ∃ b5 : Bool, RunsTo Try.prog (Instr.lookup T_N_vm_space (.map m3) (.int .i64 x2) true) h2 (.tuple #[(.int .i64 n6), .bool b5])
    ∧ iteP (!b5) (K (.tuple #[(.int .i64 0), (.bool false)]) h2) (iteP (n6 == (-1)) (K (.tuple #[(.int .i64 0), (.bool false)]) h2) (K (.tuple #[(.int .i64 n6), (.bool true)]) h2))
theorem q_vm_Vm_Frame_calls (x0 : Nat) (x1 : Int) (x2 : Int) (h : Hp) (K : Value → Hp → Prop) (hq : q_vm_Vm_Frame x0 x1 x2 h K) : CallsH Try.prog f_vm_Vm_Frame #[(.pointer (some ⟨x0, 0, none⟩)), (.int .i64 x1), (.int .i64 x2)] h K := by
  have e : q_vm_Vm_Frame x0 x1 x2 h K = fnT Try.prog 31 q_vm_Vm_Frame_ann Try.f42 (bodyOf Try.f42) [(.pointer (some ⟨x0, 0, none⟩)), (.int .i64 x1), (.int .i64 x2)] h K := by kernel_rfl
  rw [e] at hq
  exact calls_of_fnT (n := 31) (ann := q_vm_Vm_Frame_ann) mixOk Try.func42 (by kernel_rfl) (by kernel_rfl) (fun args w => Try.call42 args w) (by kernel_rfl) hq

def q_vm_Vm_Refs_ann : Ann := { loops := fun _ => [], ty := fun _ => [], canon := fun _ => [], cuts := fun _ => none }
def q_vm_Vm_Refs (x0 : Nat) (x1 : Int) (h : Hp) (K : Value → Hp → Prop) : Prop :=
    iteP (decide (x1 < 0)) (K (.int .i64 0) h) (iteP (decide (x1 ≥ 64)) (K (.int .i64 0) h) ((0 : Int) ≤ x1 ∧ x1 < ((64 : Nat) : Int) ∧ ∃ n1 : Int, cellAt h ((⟨x0, 1, none⟩ : Addr).add (Int.toNat x1 * 1)) = some (.int .i64 n1)
    ∧ K (.int .i64 n1) h))
theorem q_vm_Vm_Refs_calls (x0 : Nat) (x1 : Int) (h : Hp) (K : Value → Hp → Prop) (hq : q_vm_Vm_Refs x0 x1 h K) : CallsH Try.prog f_vm_Vm_Refs #[(.pointer (some ⟨x0, 0, none⟩)), (.int .i64 x1)] h K := by
  have e : q_vm_Vm_Refs x0 x1 h K = fnT Try.prog 21 q_vm_Vm_Refs_ann Try.f47 (bodyOf Try.f47) [(.pointer (some ⟨x0, 0, none⟩)), (.int .i64 x1)] h K := by kernel_rfl
  rw [e] at hq
  exact calls_of_fnT (n := 21) (ann := q_vm_Vm_Refs_ann) mixOk Try.func47 (by kernel_rfl) (by kernel_rfl) (fun args w => Try.call47 args w) (by kernel_rfl) hq

def q_vm_Vm_Left_ann : Ann := { loops := fun x => match x with | 0 => [(3, T_int), (12, T_int)] | _ => [], ty := fun _ => [], canon := fun _ => [], cuts := fun _ => none }
def q_vm_Vm_Left (x0 : Nat) (h : Hp) (K : Value → Hp → Prop) : Prop :=
    ∃ p1 : Option Addr, cellAt h ⟨x0, 0, none⟩ = some (.pointer p1) ∧ CallsH Try.prog f_mem_Memory_Size #[(.pointer p1)] h fun r2 h3 => ∃ n4 : Int, r2 = (.int .i64 n4) ∧ ∃ (I5 : Int → Int → Hp → Prop) (μ6 : Int → Int → Hp → Nat), I5 0 0 h3
    ∧ ∀ i7 i8 h9, I5 i7 i8 h9 → iteP (decide (i8 < n4)) ((0 : Int) ≤ i8 ∧ i8 < ((64 : Nat) : Int) ∧ ∃ n10 : Int, cellAt h9 ((⟨x0, 1, none⟩ : Addr).add (Int.toNat i8 * 1)) = some (.int .i64 n10) ∧ iteP (n10 == 0) (I5 (IntKind.wrap .i64 (i7 + 1)) (IntKind.wrap .i64 (i8 + 1)) h9
    ∧ μ6 (IntKind.wrap .i64 (i7 + 1)) (IntKind.wrap .i64 (i8 + 1)) h9 < μ6 i7 i8 h9) (I5 i7 (IntKind.wrap .i64 (i8 + 1)) h9 ∧ μ6 i7 (IntKind.wrap .i64 (i8 + 1)) h9 < μ6 i7 i8 h9)) (K (.int .i64 i7) h9)
theorem q_vm_Vm_Left_calls (x0 : Nat) (h : Hp) (K : Value → Hp → Prop) (hq : q_vm_Vm_Left x0 h K) : CallsH Try.prog f_vm_Vm_Left #[(.pointer (some ⟨x0, 0, none⟩))] h K := by
  have e : q_vm_Vm_Left x0 h K = fnT Try.prog 26 q_vm_Vm_Left_ann Try.f17 (bodyOf Try.f17) [(.pointer (some ⟨x0, 0, none⟩))] h K := by kernel_rfl
  rw [e] at hq
  exact calls_of_fnT (n := 26) (ann := q_vm_Vm_Left_ann) mixOk Try.func17 (by kernel_rfl) (by kernel_rfl) (fun args w => Try.call17 args w) (by kernel_rfl) hq

def q_vm_Vm_Copies_ann : Ann := { loops := fun _ => [], ty := fun _ => [], canon := fun _ => [], cuts := fun _ => none }
def q_vm_Vm_Copies (x0 : Nat) (h : Hp) (K : Value → Hp → Prop) : Prop :=
    ∃ n1 : Int, cellAt h ⟨x0, 66, none⟩ = some (.int .i64 n1) ∧ K (.int .i64 n1) h
theorem q_vm_Vm_Copies_calls (x0 : Nat) (h : Hp) (K : Value → Hp → Prop) (hq : q_vm_Vm_Copies x0 h K) : CallsH Try.prog f_vm_Vm_Copies #[(.pointer (some ⟨x0, 0, none⟩))] h K := by
  have e : q_vm_Vm_Copies x0 h K = fnT Try.prog 9 q_vm_Vm_Copies_ann Try.f16 (bodyOf Try.f16) [(.pointer (some ⟨x0, 0, none⟩))] h K := by kernel_rfl
  rw [e] at hq
  exact calls_of_fnT (n := 9) (ann := q_vm_Vm_Copies_ann) mixOk Try.func16 (by kernel_rfl) (by kernel_rfl) (fun args w => Try.call16 args w) (by kernel_rfl) hq

def q_vm_New_ann : Ann := { loops := fun _ => [], ty := fun _ => [], canon := fun _ => [], cuts := fun _ => none }
def q_vm_New (x0 : Int) (h : Hp) (K : Value → Hp → Prop) : Prop :=
    CallsH Try.prog f_mem_New #[(.int .i64 x0)] h fun r1 h2 => ∃ p3 : Option Addr, r1 = (.pointer p3) ∧ iteP p3.isNone (K (.pointer none) h2) (letH (h2.push (.map #[] 0)) fun h4 => letH (h4.push (.cells ⟨(fillL (fillL (zeroCells Try.prog T_N_vm_Vm).toList 0 [(.pointer p3)]) 65 [(.map (some h2.size))])⟩ T_N_vm_Vm)) fun h5
    => K (.pointer (some ⟨h4.size, 0, none⟩)) h5)
theorem q_vm_New_calls (x0 : Int) (h : Hp) (K : Value → Hp → Prop) (hq : q_vm_New x0 h K) : CallsH Try.prog f_vm_New #[(.int .i64 x0)] h K := by
  have e : q_vm_New x0 h K = fnT Try.prog 12 q_vm_New_ann Try.f10 (bodyOf Try.f10) [(.int .i64 x0)] h K := by kernel_rfl
  rw [e] at hq
  exact calls_of_fnT (n := 12) (ann := q_vm_New_ann) mixOk Try.func10 (by kernel_rfl) (by kernel_rfl) (fun args w => Try.call10 args w) (by kernel_rfl) hq

end Go.Proofs.Ytmdhfmljgjnggaa
