/- Formulas of package mem. No condition. -/
import Derived.Test.YtmdhfmljgjnggaaNames
set_option linter.constructorNameAsVariable false
namespace Go.Proofs.Ytmdhfmljgjnggaa

def q_mem_New_ann : Ann := { loops := fun _ => [], ty := fun _ => [], canon := fun _ => [], cuts := fun _ => none }
def q_mem_New (x0 : Int) (h : Hp) (K : Value → Hp → Prop) : Prop :=
    iteP (decide (x0 < 1)) (K (.pointer none) h) (iteP (decide (x0 > 64)) (K (.pointer none) h) (semWP Try.prog (Instr.makeSlice T_s_mem_frame (.int .i64 x0) (.int .i64 x0)) h fun r1 h2 => ∃ (p3 : Option Addr) (l4 c5 : Nat), r1 = .slice p3 l4 c5
    ∧ letH (h2.push (.cells #[(.slice p3 l4 c5)] T_N_mem_Memory)) fun h6 => K (.pointer (some ⟨h2.size, 0, none⟩)) h6))
theorem q_mem_New_calls (x0 : Int) (h : Hp) (K : Value → Hp → Prop) (hq : q_mem_New x0 h K) : CallsH Try.prog f_mem_New #[(.int .i64 x0)] h K := by
  have e : q_mem_New x0 h K = fnT Try.prog 13 q_mem_New_ann Try.f57 (bodyOf Try.f57) [(.int .i64 x0)] h K := by kernel_rfl
  rw [e] at hq
  exact calls_of_fnT (n := 13) (ann := q_mem_New_ann) mixOk Try.func57 (by kernel_rfl) (by kernel_rfl) (fun args w => Try.call57 args w) (by kernel_rfl) hq

def q_mem_Memory_at_ann : Ann := { loops := fun _ => [], ty := fun _ => [], canon := fun _ => [], cuts := fun _ => none }
def q_mem_Memory_at (x0 : Nat) (x1 : Int) (x2 : Int) (x3 : Int) (h : Hp) (K : Value → Hp → Prop) : Prop :=
    iteP (decide (x1 < 0)) (K (.tuple #[(.slice none 0 0), (.int .i64 2)]) h) (∃ (p1 : Option Addr) (l2 c3 : Nat), cellAt h ⟨x0, 0, none⟩ = some (.slice p1 l2 c3) ∧ iteP (decide (x1 ≥ ((l2 : Nat) : Int))) (K (.tuple #[(.slice none 0 0), (.int .i64 2)]) h) (iteP (decide (x2 < 0)) (K (.tuple #[(.slice none 0 0), (.int .i64 2)]) h) (iteP (decide (x2 > (IntKind.wrap .i64 (32 - x3)))) (K (.tuple #[(.slice none 0 0), (.int .i64 2)]) h) (∃ (p4 : Option Addr) (l5 c6 : Nat), cellAt h ⟨x0, 0, none⟩ = some (.slice p4 l5 c6)
    ∧ (0 : Int) ≤ x1 ∧ x1 < ((l5 : Nat) : Int) ∧ wth p4 fun a7 => (0 : Int) ≤ (IntKind.wrap .i64 (x2 + x3)) ∧ (Int.toNat (IntKind.wrap .i64 (x2 + x3))) ≤ 32 ∧ (0 : Int) ≤ (IntKind.wrap .i64 (x2 + x3)) ∧ (Int.toNat (IntKind.wrap .i64 (x2 + x3))) ≤ (Int.toNat (IntKind.wrap .i64 (x2 + x3)))
    ∧ (0 : Int) ≤ x2 ∧ (Int.toNat x2) ≤ (Int.toNat (IntKind.wrap .i64 (x2 + x3))) ∧ K (.tuple #[(.slice (some (if (Int.toNat (IntKind.wrap .i64 (x2 + x3))) = (Int.toNat x2) then (a7.add (Int.toNat x1 * 32)) else (a7.add (Int.toNat x1 * 32)).add ((Int.toNat x2) * 1))) ((Int.toNat (IntKind.wrap .i64 (x2 + x3))) - (Int.toNat x2)) ((Int.toNat (IntKind.wrap .i64 (x2 + x3))) - (Int.toNat x2))), (.int .i64 0)]) h))))
theorem q_mem_Memory_at_calls (x0 : Nat) (x1 : Int) (x2 : Int) (x3 : Int) (h : Hp) (K : Value → Hp → Prop) (hq : q_mem_Memory_at x0 x1 x2 x3 h K) : CallsH Try.prog f_mem_Memory_at #[(.pointer (some ⟨x0, 0, none⟩)), (.int .i64 x1), (.int .i64 x2), (.int .i64 x3)] h K := by
  have e : q_mem_Memory_at x0 x1 x2 x3 h K = fnT Try.prog 49 q_mem_Memory_at_ann Try.f117 (bodyOf Try.f117) [(.pointer (some ⟨x0, 0, none⟩)), (.int .i64 x1), (.int .i64 x2), (.int .i64 x3)] h K := by kernel_rfl
  rw [e] at hq
  exact calls_of_fnT (n := 49) (ann := q_mem_Memory_at_ann) mixOk Try.func117 (by kernel_rfl) (by kernel_rfl) (fun args w => Try.call117 args w) (by kernel_rfl) hq

def q_mem_Memory_Byte_ann : Ann := { loops := fun _ => [], ty := fun _ => [], canon := fun _ => [], cuts := fun _ => none }
def q_mem_Memory_Byte (x0 : Nat) (x1 : Int) (x2 : Int) (h : Hp) (K : Value → Hp → Prop) : Prop :=
    CallsH Try.prog f_mem_Memory_at #[(.pointer (some ⟨x0, 0, none⟩)), (.int .i64 x1), (.int .i64 x2), (.int .i64 1)] h fun r1 h2 => ∃ (p3 : Option Addr) (l4 c5 : Nat), ∃ n6 : Int, r1 = (.tuple #[(.slice p3 l4 c5), (.int .i64 n6)])
    ∧ iteP (n6 != 0) (K (.tuple #[(.int .u8 0), (.int .i64 n6)]) h2) ((0 : Int) ≤ 0 ∧ 0 < ((l4 : Nat) : Int) ∧ wth p3 fun a7 => ∃ n8 : Int, cellAt h2 (a7.add (Int.toNat 0 * 1)) = some (.int .u8 n8) ∧ K (.tuple #[(.int .u8 n8), (.int .i64 0)]) h2)
theorem q_mem_Memory_Byte_calls (x0 : Nat) (x1 : Int) (x2 : Int) (h : Hp) (K : Value → Hp → Prop) (hq : q_mem_Memory_Byte x0 x1 x2 h K) : CallsH Try.prog f_mem_Memory_Byte #[(.pointer (some ⟨x0, 0, none⟩)), (.int .i64 x1), (.int .i64 x2)] h K := by
  have e : q_mem_Memory_Byte x0 x1 x2 h K = fnT Try.prog 23 q_mem_Memory_Byte_ann Try.f65 (bodyOf Try.f65) [(.pointer (some ⟨x0, 0, none⟩)), (.int .i64 x1), (.int .i64 x2)] h K := by kernel_rfl
  rw [e] at hq
  exact calls_of_fnT (n := 23) (ann := q_mem_Memory_Byte_ann) mixOk Try.func65 (by kernel_rfl) (by kernel_rfl) (fun args w => Try.call65 args w) (by kernel_rfl) hq

def q_mem_Memory_SetByte_ann : Ann := { loops := fun _ => [], ty := fun _ => [], canon := fun _ => [], cuts := fun _ => none }
def q_mem_Memory_SetByte (x0 : Nat) (x1 : Int) (x2 : Int) (x3 : Int) (h : Hp) (K : Value → Hp → Prop) : Prop :=
    CallsH Try.prog f_mem_Memory_at #[(.pointer (some ⟨x0, 0, none⟩)), (.int .i64 x1), (.int .i64 x2), (.int .i64 1)] h fun r1 h2 => ∃ (p3 : Option Addr) (l4 c5 : Nat), ∃ n6 : Int, r1 = (.tuple #[(.slice p3 l4 c5), (.int .i64 n6)])
    ∧ iteP (n6 == 0) ((0 : Int) ≤ 0 ∧ 0 < ((l4 : Nat) : Int) ∧ wth p3 fun a7 => (∃ old, cellAt h2 (a7.add (Int.toNat 0 * 1)) = some old) ∧ frozenAt h2 (a7.add (Int.toNat 0 * 1)) = false ∧ letH (setH h2 (a7.add (Int.toNat 0 * 1)) (.int .u8 x3)) fun h8
    => K (.int .i64 n6) h8) (K (.int .i64 n6) h2)
theorem q_mem_Memory_SetByte_calls (x0 : Nat) (x1 : Int) (x2 : Int) (x3 : Int) (h : Hp) (K : Value → Hp → Prop) (hq : q_mem_Memory_SetByte x0 x1 x2 x3 h K) : CallsH Try.prog f_mem_Memory_SetByte #[(.pointer (some ⟨x0, 0, none⟩)), (.int .i64 x1), (.int .i64 x2), (.int .u8 x3)] h K := by
  have e : q_mem_Memory_SetByte x0 x1 x2 x3 h K = fnT Try.prog 24 q_mem_Memory_SetByte_ann Try.f64 (bodyOf Try.f64) [(.pointer (some ⟨x0, 0, none⟩)), (.int .i64 x1), (.int .i64 x2), (.int .u8 x3)] h K := by kernel_rfl
  rw [e] at hq
  exact calls_of_fnT (n := 24) (ann := q_mem_Memory_SetByte_ann) mixOk Try.func64 (by kernel_rfl) (by kernel_rfl) (fun args w => Try.call64 args w) (by kernel_rfl) hq

def q_mem_Memory_Zero_ann : Ann := { loops := fun _ => [], ty := fun _ => [], canon := fun _ => [], cuts := fun _ => none }
def q_mem_Memory_Zero (x0 : Nat) (x1 : Int) (h : Hp) (K : Value → Hp → Prop) : Prop :=
    CallsH Try.prog f_mem_Memory_at #[(.pointer (some ⟨x0, 0, none⟩)), (.int .i64 x1), (.int .i64 0), (.int .i64 32)] h fun r1 h2 => ∃ (p3 : Option Addr) (l4 c5 : Nat), ∃ n6 : Int, r1 = (.tuple #[(.slice p3 l4 c5), (.int .i64 n6)])
    ∧ semWP Try.prog (Builtin.clear_ #[T_s_uint8] T_x #[(.slice p3 l4 c5)]) h2 fun r7 h8 => r7 = .tuple #[] ∧ K (.int .i64 n6) h8
theorem q_mem_Memory_Zero_calls (x0 : Nat) (x1 : Int) (h : Hp) (K : Value → Hp → Prop) (hq : q_mem_Memory_Zero x0 x1 h K) : CallsH Try.prog f_mem_Memory_Zero #[(.pointer (some ⟨x0, 0, none⟩)), (.int .i64 x1)] h K := by
  have e : q_mem_Memory_Zero x0 x1 h K = fnT Try.prog 15 q_mem_Memory_Zero_ann Try.f115 (bodyOf Try.f115) [(.pointer (some ⟨x0, 0, none⟩)), (.int .i64 x1)] h K := by kernel_rfl
  rw [e] at hq
  exact calls_of_fnT (n := 15) (ann := q_mem_Memory_Zero_ann) mixOk Try.func115 (by kernel_rfl) (by kernel_rfl) (fun args w => Try.call115 args w) (by kernel_rfl) hq

def q_mem_Memory_Copy_ann : Ann := { loops := fun _ => [], ty := fun _ => [], canon := fun _ => [], cuts := fun _ => none }
def q_mem_Memory_Copy (x0 : Nat) (x1 : Int) (x2 : Int) (h : Hp) (K : Value → Hp → Prop) : Prop :=
    CallsH Try.prog f_mem_Memory_at #[(.pointer (some ⟨x0, 0, none⟩)), (.int .i64 x1), (.int .i64 0), (.int .i64 32)] h fun r1 h2 => ∃ (p3 : Option Addr) (l4 c5 : Nat), ∃ n6 : Int, r1 = (.tuple #[(.slice p3 l4 c5), (.int .i64 n6)])
    ∧ CallsH Try.prog f_mem_Memory_at #[(.pointer (some ⟨x0, 0, none⟩)), (.int .i64 x2), (.int .i64 0), (.int .i64 32)] h2 fun r7 h8 => ∃ (p9 : Option Addr) (l10 c11 : Nat), ∃ n12 : Int, r7 = (.tuple #[(.slice p9 l10 c11), (.int .i64 n12)])
    ∧ iteP (n6 != 0) (K (.int .i64 n6) h8) (iteP (n12 != 0) (K (.int .i64 n12) h8) (semWP Try.prog (Builtin.copy_ #[T_s_uint8, T_s_uint8] T_int #[(.slice p3 l4 c5), (.slice p9 l10 c11)]) h8 fun r13 h14 => ∃ n15 : Int, r13 = .int .i64 n15
    ∧ K (.int .i64 0) h14))
theorem q_mem_Memory_Copy_calls (x0 : Nat) (x1 : Int) (x2 : Int) (h : Hp) (K : Value → Hp → Prop) (hq : q_mem_Memory_Copy x0 x1 x2 h K) : CallsH Try.prog f_mem_Memory_Copy #[(.pointer (some ⟨x0, 0, none⟩)), (.int .i64 x1), (.int .i64 x2)] h K := by
  have e : q_mem_Memory_Copy x0 x1 x2 h K = fnT Try.prog 34 q_mem_Memory_Copy_ann Try.f116 (bodyOf Try.f116) [(.pointer (some ⟨x0, 0, none⟩)), (.int .i64 x1), (.int .i64 x2)] h K := by kernel_rfl
  rw [e] at hq
  exact calls_of_fnT (n := 34) (ann := q_mem_Memory_Copy_ann) mixOk Try.func116 (by kernel_rfl) (by kernel_rfl) (fun args w => Try.call116 args w) (by kernel_rfl) hq

def q_mem_Memory_Size_ann : Ann := { loops := fun _ => [], ty := fun _ => [], canon := fun _ => [], cuts := fun _ => none }
def q_mem_Memory_Size (x0 : Nat) (h : Hp) (K : Value → Hp → Prop) : Prop :=
    ∃ (p1 : Option Addr) (l2 c3 : Nat), cellAt h ⟨x0, 0, none⟩ = some (.slice p1 l2 c3) ∧ K (.int .i64 ((l2 : Nat) : Int)) h
theorem q_mem_Memory_Size_calls (x0 : Nat) (h : Hp) (K : Value → Hp → Prop) (hq : q_mem_Memory_Size x0 h K) : CallsH Try.prog f_mem_Memory_Size #[(.pointer (some ⟨x0, 0, none⟩))] h K := by
  have e : q_mem_Memory_Size x0 h K = fnT Try.prog 10 q_mem_Memory_Size_ann Try.f66 (bodyOf Try.f66) [(.pointer (some ⟨x0, 0, none⟩))] h K := by kernel_rfl
  rw [e] at hq
  exact calls_of_fnT (n := 10) (ann := q_mem_Memory_Size_ann) mixOk Try.func66 (by kernel_rfl) (by kernel_rfl) (fun args w => Try.call66 args w) (by kernel_rfl) hq

def q_mem_Memory_Fork_ann : Ann := { loops := fun _ => [], ty := fun _ => [], canon := fun _ => [], cuts := fun _ => none }
def q_mem_Memory_Fork (x0 : Nat) (h : Hp) (K : Value → Hp → Prop) : Prop :=
    ∃ (p1 : Option Addr) (l2 c3 : Nat), cellAt h ⟨x0, 0, none⟩ = some (.slice p1 l2 c3) ∧ CallsH Try.prog f_slices_Clone_mem_frame_mem_frame #[(.slice p1 l2 c3)] h fun r4 h5 => ∃ (p6 : Option Addr) (l7 c8 : Nat), r4 = (.slice p6 l7 c8)
    ∧ letH (h5.push (.cells #[(.slice p6 l7 c8)] T_N_mem_Memory)) fun h9 => K (.pointer (some ⟨h5.size, 0, none⟩)) h9
theorem q_mem_Memory_Fork_calls (x0 : Nat) (h : Hp) (K : Value → Hp → Prop) (hq : q_mem_Memory_Fork x0 h K) : CallsH Try.prog f_mem_Memory_Fork #[(.pointer (some ⟨x0, 0, none⟩))] h K := by
  have e : q_mem_Memory_Fork x0 h K = fnT Try.prog 12 q_mem_Memory_Fork_ann Try.f94 (bodyOf Try.f94) [(.pointer (some ⟨x0, 0, none⟩))] h K := by kernel_rfl
  rw [e] at hq
  exact calls_of_fnT (n := 12) (ann := q_mem_Memory_Fork_ann) mixOk Try.func94 (by kernel_rfl) (by kernel_rfl) (fun args w => Try.call94 args w) (by kernel_rfl) hq

def q_slices_Clone_mem_frame_mem_frame_ann : Ann := { loops := fun _ => [], ty := fun _ => [], canon := fun _ => [], cuts := fun _ => none }
def q_slices_Clone_mem_frame_mem_frame (x0p : Option Addr) (x0n : Nat) (x0c : Nat) (h : Hp) (K : Value → Hp → Prop) : Prop :=
    iteP x0p.isNone (K (.slice none 0 0) h) (letH (h.push (.cells ⟨(repL 0 (zeroCells Try.prog T_N_mem_frame).toList)⟩ T_N_mem_frame)) fun h1 => semWP Try.prog (Builtin.append_ #[T_s_mem_frame, T_s_mem_frame] T_s_mem_frame #[(.slice (some ⟨h.size, 0, none⟩) 0 0), (.slice x0p x0n x0c)]) h1 fun r2 h3
    => ∃ (p4 : Option Addr) (l5 c6 : Nat), r2 = .slice p4 l5 c6 ∧ K (.slice p4 l5 c6) h3)
theorem q_slices_Clone_mem_frame_mem_frame_calls (x0p : Option Addr) (x0n : Nat) (x0c : Nat) (h : Hp) (K : Value → Hp → Prop) (hq : q_slices_Clone_mem_frame_mem_frame x0p x0n x0c h K) : CallsH Try.prog f_slices_Clone_mem_frame_mem_frame #[(.slice x0p x0n x0c)] h K := by
  have e : q_slices_Clone_mem_frame_mem_frame x0p x0n x0c h K = fnT Try.prog 8 q_slices_Clone_mem_frame_mem_frame_ann Try.f133 (bodyOf Try.f133) [(.slice x0p x0n x0c)] h K := by kernel_rfl
  rw [e] at hq
  exact calls_of_fnT (n := 8) (ann := q_slices_Clone_mem_frame_mem_frame_ann) mixOk Try.func133 (by kernel_rfl) (by kernel_rfl) (fun args w => Try.call133 args w) (by kernel_rfl) hq

def q_maps_Clone_vm_space_int_int_ann : Ann := { loops := fun _ => [], ty := fun _ => [], canon := fun _ => [], cuts := fun _ => none }
def q_maps_Clone_vm_space_int_int (x0 : Nat) (h : Hp) (K : Value → Hp → Prop) : Prop :=
    semWP Try.prog (callFunc f_maps_clone #[(.iface T_N_vm_space (.map (some x0)))]) h fun x3 h4 => nextWP Try.prog x3 h4 fun r1 h2 => ∃ v5 : Value, r1 = v5 ∧ ∃ m6 : Option Nat, v5 = .iface T_N_vm_space (.map m6) ∧ K (.map m6) h2
theorem q_maps_Clone_vm_space_int_int_calls (x0 : Nat) (h : Hp) (K : Value → Hp → Prop) (hq : q_maps_Clone_vm_space_int_int x0 h K) : CallsH Try.prog f_maps_Clone_vm_space_int_int #[(.map (some x0))] h K := by
  have e : q_maps_Clone_vm_space_int_int x0 h K = fnT Try.prog 9 q_maps_Clone_vm_space_int_int_ann Try.f61 (bodyOf Try.f61) [(.map (some x0))] h K := by kernel_rfl
  rw [e] at hq
  exact calls_of_fnT (n := 9) (ann := q_maps_Clone_vm_space_int_int_ann) mixOk Try.func61 (by kernel_rfl) (by kernel_rfl) (fun args w => Try.call61 args w) (by kernel_rfl) hq

def q_slices_Index_int_int_ann : Ann := { loops := fun x => match x with | 0 => [(8, T_int)] | _ => [], ty := fun _ => [], canon := fun _ => [], cuts := fun _ => none }
def q_slices_Index_int_int (x0p : Option Addr) (x0n : Nat) (x0c : Nat) (x1 : Int) (h : Hp) (K : Value → Hp → Prop) : Prop :=
    ∃ (I1 : Int → Hp → Prop) (μ2 : Int → Hp → Nat), I1 0 h ∧ ∀ i3 h4, I1 i3 h4 → iteP (decide (i3 < ((x0n : Nat) : Int))) ((0 : Int) ≤ i3 ∧ i3 < ((x0n : Nat) : Int) ∧ wth x0p fun a5 => ∃ n6 : Int, cellAt h4 (a5.add (Int.toNat i3 * 1)) = some (.int .i64 n6)
    ∧ iteP (x1 == n6) (K (.int .i64 i3) h4) (I1 (IntKind.wrap .i64 (i3 + 1)) h4 ∧ μ2 (IntKind.wrap .i64 (i3 + 1)) h4 < μ2 i3 h4)) (K (.int .i64 (-1)) h4)
theorem q_slices_Index_int_int_calls (x0p : Option Addr) (x0n : Nat) (x0c : Nat) (x1 : Int) (h : Hp) (K : Value → Hp → Prop) (hq : q_slices_Index_int_int x0p x0n x0c x1 h K) : CallsH Try.prog f_slices_Index_int_int #[(.slice x0p x0n x0c), (.int .i64 x1)] h K := by
  have e : q_slices_Index_int_int x0p x0n x0c x1 h K = fnT Try.prog 19 q_slices_Index_int_int_ann Try.f148 (bodyOf Try.f148) [(.slice x0p x0n x0c), (.int .i64 x1)] h K := by kernel_rfl
  rw [e] at hq
  exact calls_of_fnT (n := 19) (ann := q_slices_Index_int_int_ann) mixOk Try.func148 (by kernel_rfl) (by kernel_rfl) (fun args w => Try.call148 args w) (by kernel_rfl) hq

end Go.Proofs.Ytmdhfmljgjnggaa
