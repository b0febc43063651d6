/- Formula of TopForked. No condition. -/
import Derived.Test.YtmdhfmljgjnggaaNames
set_option linter.constructorNameAsVariable false
namespace Go.Proofs.Ytmdhfmljgjnggaa

def q_top_TopForked_ann : Ann := { loops := fun x => match x with | 0 => [(7, T_int)] | 2 => [(8, T_int)] | 4 => [(9, T_int)] | _ => [], ty := fun _ => [], canon := fun _ => [], cuts := fun _ => none }
def q_top_TopForked (x0 : Int) (x1 : Array Value) (h : Hp) (K : Value → Hp → Prop) : Prop :=
    letH (h.push (.cells x1 T_6_uint8)) fun h1 => CallsH Try.prog f_vm_New #[(.int .i64 16)] h1 fun r2 h3 => ∃ p4 : Option Addr, r2 = (.pointer p4) ∧ CallsH Try.prog f_vm_Vm_Begin #[(.pointer p4), (.int .i64 0)] h3 fun r5 h6 => 
    ∃ n7 : Int, r5 = (.int .i64 n7) ∧ iteP (n7 != 0) (K (.bool false) h6) (CallsH Try.prog f_vm_Vm_Map #[(.pointer p4), (.int .i64 0), (.int .i64 0)] h6 fun r8 h9 => ∃ n10 : Int, r8 = (.int .i64 n10) ∧ iteP (n10 != 0) (K (.bool false) h9) (∃ (I11 : Int → Hp → Prop) (μ12 : Int → Hp → Nat), I11 0 h9
    ∧ ∀ i13 h14, I11 i13 h14 → iteP (decide (i13 < (IntKind.wrap .i64 ((Int.tmod (IntKind.wrap .i64 x0) 6) + 1)))) (iteP (decide (i13 > 0)) (CallsH Try.prog f_vm_Vm_Fork #[(.pointer p4), (.int .i64 (IntKind.wrap .i64 (i13 - 1))), (.int .i64 i13)] h14 fun r15 h16
    => ∃ n17 : Int, r15 = (.int .i64 n17) ∧ iteP (n17 != 0) (K (.bool false) h16) ((0 : Int) ≤ i13 ∧ i13 < ((6 : Nat) : Int) ∧ ∃ n18 : Int, cellAt h16 ((⟨h.size, 0, none⟩ : Addr).add (Int.toNat i13 * 1)) = some (.int .u8 n18)
    ∧ CallsH Try.prog f_vm_Vm_Poke #[(.pointer p4), (.int .i64 i13), (.int .i64 i13), (.int .u8 n18)] h16 fun r19 h20 => ∃ n21 : Int, r19 = (.int .i64 n21) ∧ iteP (n21 != 0) (K (.bool false) h20) (I11 (IntKind.wrap .i64 (i13 + 1)) h20
    ∧ μ12 (IntKind.wrap .i64 (i13 + 1)) h20 < μ12 i13 h14))) ((0 : Int) ≤ i13 ∧ i13 < ((6 : Nat) : Int) ∧ ∃ n22 : Int, cellAt h14 ((⟨h.size, 0, none⟩ : Addr).add (Int.toNat i13 * 1)) = some (.int .u8 n22) ∧ CallsH Try.prog f_vm_Vm_Poke #[(.pointer p4), (.int .i64 i13), (.int .i64 i13), (.int .u8 n22)] h14 fun r23 h24
    => ∃ n25 : Int, r23 = (.int .i64 n25) ∧ iteP (n25 != 0) (K (.bool false) h24) (I11 (IntKind.wrap .i64 (i13 + 1)) h24 ∧ μ12 (IntKind.wrap .i64 (i13 + 1)) h24 < μ12 i13 h14))) (∃ (I26 : Int → Hp → Prop) (μ27 : Int → Hp → Nat), I26 0 h14
    ∧ ∀ i28 h29, I26 i28 h29 → iteP (decide (i28 < (IntKind.wrap .i64 ((Int.tmod (IntKind.wrap .i64 x0) 6) + 1)))) (∃ (I30 : Int → Hp → Prop) (μ31 : Int → Hp → Nat), I30 0 h29 ∧ ∀ i32 h33, I30 i32 h33 → iteP (decide (i32 < (IntKind.wrap .i64 ((Int.tmod (IntKind.wrap .i64 x0) 6) + 1)))) (CallsH Try.prog f_vm_Vm_Peek #[(.pointer p4), (.int .i64 i28), (.int .i64 i32)] h33 fun r34 h35
    => ∃ n36 : Int, ∃ n37 : Int, r34 = (.tuple #[(.int .u8 n36), (.int .i64 n37)]) ∧ (0 : Int) ≤ i32 ∧ i32 < ((6 : Nat) : Int) ∧ ∃ n38 : Int, cellAt h35 ((⟨h.size, 0, none⟩ : Addr).add (Int.toNat i32 * 1)) = some (.int .u8 n38)
    ∧ iteP (decide (i32 > i28)) (iteP (n37 != 0) (K (.bool false) h35) (iteP (n36 != 0) (K (.bool false) h35) (I30 (IntKind.wrap .i64 (i32 + 1)) h35 ∧ μ31 (IntKind.wrap .i64 (i32 + 1)) h35 < μ31 i32 h33))) (iteP (n37 != 0) (K (.bool false) h35) (iteP (n36 != n38) (K (.bool false) h35) (I30 (IntKind.wrap .i64 (i32 + 1)) h35
    ∧ μ31 (IntKind.wrap .i64 (i32 + 1)) h35 < μ31 i32 h33)))) (I26 (IntKind.wrap .i64 (i28 + 1)) h33 ∧ μ27 (IntKind.wrap .i64 (i28 + 1)) h33 < μ27 i28 h29)) (CallsH Try.prog f_vm_Vm_Copies #[(.pointer p4)] h29 fun r39 h40 =>
    ∃ n41 : Int, r39 = (.int .i64 n41) ∧ iteP (n41 == (IntKind.wrap .i64 ((IntKind.wrap .i64 ((Int.tmod (IntKind.wrap .i64 x0) 6) + 1)) - 1))) (CallsH Try.prog f_vm_Vm_Left #[(.pointer p4)] h40 fun r42 h43 => ∃ n44 : Int, r42 = (.int .i64 n44)
    ∧ K (.bool (n44 == (IntKind.wrap .i64 (16 - (IntKind.wrap .i64 ((Int.tmod (IntKind.wrap .i64 x0) 6) + 1)))))) h43) (K (.bool false) h40)))))
theorem q_top_TopForked_calls (x0 : Int) (x1 : Array Value) (h : Hp) (K : Value → Hp → Prop) (hq : q_top_TopForked x0 x1 h K) : CallsH Try.prog f_top_TopForked #[(.int .u8 x0), (.agg x1)] h K := by
  have e : q_top_TopForked x0 x1 h K = fnT Try.prog 91 q_top_TopForked_ann Try.f3 (bodyOf Try.f3) [(.int .u8 x0), (.agg x1)] h K := by kernel_rfl
  rw [e] at hq
  exact calls_of_fnT (n := 91) (ann := q_top_TopForked_ann) mixOk Try.func3 (by kernel_rfl) (by kernel_rfl) (fun args w => Try.call3 args w) (by kernel_rfl) hq

end Go.Proofs.Ytmdhfmljgjnggaa
