/- The texts Qfds CFds, one behind the other. No condition. -/
import Derived.Test.YtmdhfmljgjnggaaG4
/- Formulas of package fds and of TopPlaced. No condition. -/
set_option linter.constructorNameAsVariable false
namespace Go.Proofs.Ytmdhfmljgjnggaa

def q_fds_New_ann : Ann := { loops := fun _ => [], ty := fun _ => [], canon := fun _ => [], cuts := fun _ => none }
def q_fds_New  (h : Hp) (K : Value → Hp → Prop) : Prop :=
    letH (h.push (.cells ⟨(zeroCells Try.prog T_N_fds_Table).toList⟩ T_N_fds_Table)) fun h1 => K (.pointer (some ⟨h.size, 0, none⟩)) h1
theorem q_fds_New_calls  (h : Hp) (K : Value → Hp → Prop) (hq : q_fds_New  h K) : CallsH Try.prog f_fds_New #[] h K := by
  have e : q_fds_New  h K = fnT Try.prog 3 q_fds_New_ann Try.f26 (bodyOf Try.f26) [] h K := by kernel_rfl
  rw [e] at hq
  exact calls_of_fnT (n := 3) (ann := q_fds_New_ann) mixOk Try.func26 (by kernel_rfl) (by kernel_rfl) (fun args w => Try.call26 args w) (by kernel_rfl) hq

def q_fds_Table_fresh_ann : Ann := { loops := fun _ => [], ty := fun _ => [], canon := fun _ => [], cuts := fun _ => none }
def q_fds_Table_fresh (x0 : Nat) (x1 : Int) (h : Hp) (K : Value → Hp → Prop) : Prop :=
    iteP (decide (x1 < 0)) (K (.int .i64 2) h) (iteP (decide (x1 ≥ 6)) (K (.int .i64 2) h) ((0 : Int) ≤ x1 ∧ x1 < ((6 : Nat) : Int) ∧ ∃ p1 : Option Addr, cellAt h ((⟨x0, 0, none⟩ : Addr).add (Int.toNat x1 * 1)) = some (.pointer p1)
    ∧ iteP (!p1.isNone) (K (.int .i64 6) h) (K (.int .i64 0) h)))
theorem q_fds_Table_fresh_calls (x0 : Nat) (x1 : Int) (h : Hp) (K : Value → Hp → Prop) (hq : q_fds_Table_fresh x0 x1 h K) : CallsH Try.prog f_fds_Table_fresh #[(.pointer (some ⟨x0, 0, none⟩)), (.int .i64 x1)] h K := by
  have e : q_fds_Table_fresh x0 x1 h K = fnT Try.prog 23 q_fds_Table_fresh_ann Try.f74 (bodyOf Try.f74) [(.pointer (some ⟨x0, 0, none⟩)), (.int .i64 x1)] h K := by kernel_rfl
  rw [e] at hq
  exact calls_of_fnT (n := 23) (ann := q_fds_Table_fresh_ann) mixOk Try.func74 (by kernel_rfl) (by kernel_rfl) (fun args w => Try.call74 args w) (by kernel_rfl) hq

def q_fds_Table_of_ann : Ann := { loops := fun _ => [], ty := fun _ => [], canon := fun _ => [], cuts := fun _ => none }
def q_fds_Table_of (x0 : Nat) (x1 : Int) (h : Hp) (K : Value → Hp → Prop) : Prop :=
    iteP (decide (x1 < 0)) (K (.tuple #[(.pointer none), (.int .i64 5)]) h) (iteP (decide (x1 ≥ 6)) (K (.tuple #[(.pointer none), (.int .i64 5)]) h) ((0 : Int) ≤ x1 ∧ x1 < ((6 : Nat) : Int) ∧ ∃ p1 : Option Addr, cellAt h ((⟨x0, 0, none⟩ : Addr).add (Int.toNat x1 * 1)) = some (.pointer p1)
    ∧ iteP p1.isNone (K (.tuple #[(.pointer none), (.int .i64 5)]) h) ((0 : Int) ≤ x1 ∧ x1 < ((6 : Nat) : Int) ∧ ∃ p2 : Option Addr, cellAt h ((⟨x0, 0, none⟩ : Addr).add (Int.toNat x1 * 1)) = some (.pointer p2) ∧ K (.tuple #[(.pointer p2), (.int .i64 0)]) h)))
theorem q_fds_Table_of_calls (x0 : Nat) (x1 : Int) (h : Hp) (K : Value → Hp → Prop) (hq : q_fds_Table_of x0 x1 h K) : CallsH Try.prog f_fds_Table_of #[(.pointer (some ⟨x0, 0, none⟩)), (.int .i64 x1)] h K := by
  have e : q_fds_Table_of x0 x1 h K = fnT Try.prog 31 q_fds_Table_of_ann Try.f75 (bodyOf Try.f75) [(.pointer (some ⟨x0, 0, none⟩)), (.int .i64 x1)] h K := by kernel_rfl
  rw [e] at hq
  exact calls_of_fnT (n := 31) (ann := q_fds_Table_of_ann) mixOk Try.func75 (by kernel_rfl) (by kernel_rfl) (fun args w => Try.call75 args w) (by kernel_rfl) hq

def q_fds_Table_Begin_ann : Ann := { loops := fun _ => [], ty := fun _ => [], canon := fun _ => [], cuts := fun _ => none }
def q_fds_Table_Begin (x0 : Nat) (x1 : Int) (h : Hp) (K : Value → Hp → Prop) : Prop :=
    CallsH Try.prog f_fds_Table_fresh #[(.pointer (some ⟨x0, 0, none⟩)), (.int .i64 x1)] h fun r1 h2 => ∃ n3 : Int, r1 = (.int .i64 n3) ∧ iteP (n3 == 0) (letH (h2.push (.cells ⟨(zeroCells Try.prog T_N_fds_process).toList⟩ T_N_fds_process)) fun h4
    => (0 : Int) ≤ x1 ∧ x1 < ((6 : Nat) : Int) ∧ (∃ old, cellAt h4 ((⟨x0, 0, none⟩ : Addr).add (Int.toNat x1 * 1)) = some old) ∧ frozenAt h4 ((⟨x0, 0, none⟩ : Addr).add (Int.toNat x1 * 1)) = false ∧ letH (setH h4 ((⟨x0, 0, none⟩ : Addr).add (Int.toNat x1 * 1)) (.pointer (some ⟨h2.size, 0, none⟩))) fun h5
    => K (.int .i64 n3) h5) (K (.int .i64 n3) h2)
theorem q_fds_Table_Begin_calls (x0 : Nat) (x1 : Int) (h : Hp) (K : Value → Hp → Prop) (hq : q_fds_Table_Begin x0 x1 h K) : CallsH Try.prog f_fds_Table_Begin #[(.pointer (some ⟨x0, 0, none⟩)), (.int .i64 x1)] h K := by
  have e : q_fds_Table_Begin x0 x1 h K = fnT Try.prog 19 q_fds_Table_Begin_ann Try.f28 (bodyOf Try.f28) [(.pointer (some ⟨x0, 0, none⟩)), (.int .i64 x1)] h K := by kernel_rfl
  rw [e] at hq
  exact calls_of_fnT (n := 19) (ann := q_fds_Table_Begin_ann) mixOk Try.func28 (by kernel_rfl) (by kernel_rfl) (fun args w => Try.call28 args w) (by kernel_rfl) hq

def q_fds_Table_at_ann : Ann := { loops := fun _ => [], ty := fun _ => [], canon := fun x => match x with | 6 => [0, 1, 2, 3, 4, 5, 6, 7, 8] | _ => [], cuts := fun _ => none }
def q_fds_Table_at (x0 : Nat) (x1 : Int) (x2 : Int) (h : Hp) (K : Value → Hp → Prop) : Prop :=
    CallsH Try.prog f_fds_Table_of #[(.pointer (some ⟨x0, 0, none⟩)), (.int .i64 x1)] h fun r1 h2 => ∃ p3 : Option Addr, ∃ n4 : Int, r1 = (.tuple #[(.pointer p3), (.int .i64 n4)]) ∧ iteP (n4 != 0) (K (.tuple #[(.pointer none), (.pointer none), (.int .i64 n4)]) h2) (iteP (decide (x2 < 0)) (K (.tuple #[(.pointer none), (.pointer none), (.int .i64 3)]) h2) (iteP (decide (x2 ≥ 8)) (K (.tuple #[(.pointer none), (.pointer none), (.int .i64 3)]) h2) (wth p3 fun a5
    => (0 : Int) ≤ x2 ∧ x2 < ((8 : Nat) : Int) ∧ ∃ p6 : Option Addr, cellAt h2 (a5.add (Int.toNat x2 * 1)) = some (.pointer p6) ∧ iteP p6.isNone (K (.tuple #[(.pointer none), (.pointer none), (.int .i64 3)]) h2) (wth p3 fun a7
    => (0 : Int) ≤ x2 ∧ x2 < ((8 : Nat) : Int) ∧ ∃ p8 : Option Addr, cellAt h2 (a7.add (Int.toNat x2 * 1)) = some (.pointer p8) ∧ K (.tuple #[(.pointer p3), (.pointer p8), (.int .i64 0)]) h2))))
theorem q_fds_Table_at_calls (x0 : Nat) (x1 : Int) (x2 : Int) (h : Hp) (K : Value → Hp → Prop) (hq : q_fds_Table_at x0 x1 x2 h K) : CallsH Try.prog f_fds_Table_at #[(.pointer (some ⟨x0, 0, none⟩)), (.int .i64 x1), (.int .i64 x2)] h K := by
  have e : q_fds_Table_at x0 x1 x2 h K = fnT Try.prog 40 q_fds_Table_at_ann Try.f77 (bodyOf Try.f77) [(.pointer (some ⟨x0, 0, none⟩)), (.int .i64 x1), (.int .i64 x2)] h K := by kernel_rfl
  rw [e] at hq
  exact calls_of_fnT (n := 40) (ann := q_fds_Table_at_ann) mixOk Try.func77 (by kernel_rfl) (by kernel_rfl) (fun args w => Try.call77 args w) (by kernel_rfl) hq

def q_fds_process_release_ann : Ann := { loops := fun _ => [], ty := fun _ => [], canon := fun _ => [], cuts := fun _ => none }
def q_fds_process_release (x0 : Nat) (x1 : Int) (h : Hp) (K : Value → Hp → Prop) : Prop :=
    (0 : Int) ≤ x1 ∧ x1 < ((8 : Nat) : Int) ∧ ∃ p1 : Option Addr, cellAt h ((⟨x0, 0, none⟩ : Addr).add (Int.toNat x1 * 1)) = some (.pointer p1) ∧ (0 : Int) ≤ x1 ∧ x1 < ((8 : Nat) : Int) ∧ (∃ old, cellAt h ((⟨x0, 0, none⟩ : Addr).add (Int.toNat x1 * 1)) = some old)
    ∧ frozenAt h ((⟨x0, 0, none⟩ : Addr).add (Int.toNat x1 * 1)) = false ∧ letH (setH h ((⟨x0, 0, none⟩ : Addr).add (Int.toNat x1 * 1)) (.pointer none)) fun h2 => wth p1 fun a3 => ∃ n4 : Int, cellAt h2 (a3.add 3) = some (.int .i64 n4)
    ∧ wth p1 fun a5 => (∃ old, cellAt h2 (a5.add 3) = some old) ∧ frozenAt h2 (a5.add 3) = false ∧ letH (setH h2 (a5.add 3) (.int .i64 (IntKind.wrap .i64 (n4 - 1)))) fun h6 => wth p1 fun a7 => ∃ n8 : Int, cellAt h6 (a7.add 3) = some (.int .i64 n8)
    ∧ K (.bool (n8 == 0)) h6
theorem q_fds_process_release_calls (x0 : Nat) (x1 : Int) (h : Hp) (K : Value → Hp → Prop) (hq : q_fds_process_release x0 x1 h K) : CallsH Try.prog f_fds_process_release #[(.pointer (some ⟨x0, 0, none⟩)), (.int .i64 x1)] h K := by
  have e : q_fds_process_release x0 x1 h K = fnT Try.prog 27 q_fds_process_release_ann Try.f85 (bodyOf Try.f85) [(.pointer (some ⟨x0, 0, none⟩)), (.int .i64 x1)] h K := by kernel_rfl
  rw [e] at hq
  exact calls_of_fnT (n := 27) (ann := q_fds_process_release_ann) mixOk Try.func85 (by kernel_rfl) (by kernel_rfl) (fun args w => Try.call85 args w) (by kernel_rfl) hq

def q_fds_process_give_ann : Ann := { loops := fun _ => [], ty := fun _ => [], canon := fun _ => [], cuts := fun _ => none }
def q_fds_process_give (x0 : Nat) (x1 : Nat) (h : Hp) (K : Value → Hp → Prop) : Prop :=
    CallsH Try.prog f_slices_Index_fds_shared_fds_shared #[(.slice (some (if 8 = 0 then (⟨x0, 0, none⟩ : Addr) else (⟨x0, 0, none⟩ : Addr).add (0 * 1))) (8 - 0) (8 - 0)), (.pointer none)] h fun r1 h2 => ∃ n3 : Int, r1 = (.int .i64 n3)
    ∧ iteP (decide (n3 < 0)) (K (.tuple #[(.int .i64 0), (.int .i64 11)]) h2) ((0 : Int) ≤ n3 ∧ n3 < ((8 : Nat) : Int) ∧ (∃ old, cellAt h2 ((⟨x0, 0, none⟩ : Addr).add (Int.toNat n3 * 1)) = some old) ∧ frozenAt h2 ((⟨x0, 0, none⟩ : Addr).add (Int.toNat n3 * 1)) = false
    ∧ letH (setH h2 ((⟨x0, 0, none⟩ : Addr).add (Int.toNat n3 * 1)) (.pointer (some ⟨x1, 0, none⟩))) fun h4 => ∃ n5 : Int, cellAt h4 ⟨x1, 3, none⟩ = some (.int .i64 n5) ∧ (∃ old, cellAt h4 ⟨x1, 3, none⟩ = some old) ∧ frozenAt h4 ⟨x1, 3, none⟩ = false
    ∧ letH (setH h4 ⟨x1, 3, none⟩ (.int .i64 (IntKind.wrap .i64 (n5 + 1)))) fun h6 => K (.tuple #[(.int .i64 n3), (.int .i64 0)]) h6)
theorem q_fds_process_give_calls (x0 : Nat) (x1 : Nat) (h : Hp) (K : Value → Hp → Prop) (hq : q_fds_process_give x0 x1 h K) : CallsH Try.prog f_fds_process_give #[(.pointer (some ⟨x0, 0, none⟩)), (.pointer (some ⟨x1, 0, none⟩))] h K := by
  have e : q_fds_process_give x0 x1 h K = fnT Try.prog 26 q_fds_process_give_ann Try.f76 (bodyOf Try.f76) [(.pointer (some ⟨x0, 0, none⟩)), (.pointer (some ⟨x1, 0, none⟩))] h K := by kernel_rfl
  rw [e] at hq
  exact calls_of_fnT (n := 26) (ann := q_fds_process_give_ann) mixOk Try.func76 (by kernel_rfl) (by kernel_rfl) (fun args w => Try.call76 args w) (by kernel_rfl) hq

def q_slices_Index_fds_shared_fds_shared_nil_ann : Ann := { loops := fun x => match x with | 0 => [(8, T_int)] | _ => [], ty := fun _ => [], canon := fun _ => [], cuts := fun _ => none }
def q_slices_Index_fds_shared_fds_shared_nil (x0p : Option Addr) (x0n : Nat) (x0c : Nat) (h : Hp) (K : Value → Hp → Prop) : Prop :=
    ∃ (I1 : Int → Hp → Prop) (μ2 : Int → Hp → Nat), I1 0 h ∧ ∀ i3 h4, I1 i3 h4 → iteP (decide (i3 < ((x0n : Nat) : Int))) ((0 : Int) ≤ i3 ∧ i3 < ((x0n : Nat) : Int) ∧ wth x0p fun a5 => ∃ p6 : Option Addr, cellAt h4 (a5.add (Int.toNat i3 * 1)) = some (.pointer p6)
    ∧ ∃ b7 : Bool, RunsTo Try.prog (do eqGuard .eql T_p_fds_shared (.tmp 11) (.tmp 15) (.pointer none) (.pointer p6); binOp .eql T_p_fds_shared (.pointer none) (.pointer p6)) h4 (.bool b7) ∧ iteP b7 (K (.int .i64 i3) h4) (I1 (IntKind.wrap .i64 (i3 + 1)) h4
    ∧ μ2 (IntKind.wrap .i64 (i3 + 1)) h4 < μ2 i3 h4)) (K (.int .i64 (-1)) h4)
theorem q_slices_Index_fds_shared_fds_shared_nil_calls (x0p : Option Addr) (x0n : Nat) (x0c : Nat) (h : Hp) (K : Value → Hp → Prop) (hq : q_slices_Index_fds_shared_fds_shared_nil x0p x0n x0c h K) : CallsH Try.prog f_slices_Index_fds_shared_fds_shared #[(.slice x0p x0n x0c), (.pointer none)] h K := by
  have e : q_slices_Index_fds_shared_fds_shared_nil x0p x0n x0c h K = fnT Try.prog 19 q_slices_Index_fds_shared_fds_shared_nil_ann Try.f121 (bodyOf Try.f121) [(.slice x0p x0n x0c), (.pointer none)] h K := by kernel_rfl
  rw [e] at hq
  exact calls_of_fnT (n := 19) (ann := q_slices_Index_fds_shared_fds_shared_nil_ann) mixOk Try.func121 (by kernel_rfl) (by kernel_rfl) (fun args w => Try.call121 args w) (by kernel_rfl) hq

def q_fds_Table_Open_ann : Ann := { loops := fun _ => [], ty := fun _ => [], canon := fun _ => [], cuts := fun _ => none }
def q_fds_Table_Open (x0 : Nat) (x1 : Int) (x2a : Int) (x2b : Int) (x2c : Int) (h : Hp) (K : Value → Hp → Prop) : Prop :=
    letH (h.push (.cells #[(.int .u8 x2a), (.int .i64 x2b), (.int .i64 x2c)] T_N_api_Open)) fun h1 => CallsH Try.prog f_fds_Table_of #[(.pointer (some ⟨x0, 0, none⟩)), (.int .i64 x1)] h1 fun r2 h3 => ∃ p4 : Option Addr, ∃ n5 : Int, r2 = (.tuple #[(.pointer p4), (.int .i64 n5)])
    ∧ iteP (n5 != 0) (K (.tuple #[(.int .i64 0), (.int .i64 n5)]) h3) (∃ n6 : Int, cellAt h3 ⟨h.size, 0, none⟩ = some (.int .u8 n6) ∧ iteP (n6 == 0) (K (.tuple #[(.int .i64 0), (.int .i64 2)]) h3) (∃ n7 : Int, cellAt h3 ⟨h.size, 0, none⟩ = some (.int .u8 n7)
    ∧ iteP (decide (n7 > 3)) (K (.tuple #[(.int .i64 0), (.int .i64 2)]) h3) (∃ n8 : Int, cellAt h3 ⟨h.size, 0, none⟩ = some (.int .u8 n8) ∧ ∃ n9 : Int, cellAt h3 ⟨h.size, 1, none⟩ = some (.int .i64 n9) ∧ ∃ n10 : Int, cellAt h3 ⟨h.size, 2, none⟩ = some (.int .i64 n10)
    ∧ letH (h3.push (.cells #[(.int .u8 n8), (.int .i64 n9), (.int .i64 n10), (.int .i64 0)] T_N_fds_shared)) fun h11 => CallsH Try.prog f_fds_process_give #[(.pointer p4), (.pointer (some ⟨h3.size, 0, none⟩))] h11 fun r12 h13
    => ∃ n14 : Int, ∃ n15 : Int, r12 = (.tuple #[(.int .i64 n14), (.int .i64 n15)]) ∧ K (.tuple #[(.int .i64 n14), (.int .i64 n15)]) h13)))
theorem q_fds_Table_Open_calls (x0 : Nat) (x1 : Int) (x2a : Int) (x2b : Int) (x2c : Int) (h : Hp) (K : Value → Hp → Prop) (hq : q_fds_Table_Open x0 x1 x2a x2b x2c h K) : CallsH Try.prog f_fds_Table_Open #[(.pointer (some ⟨x0, 0, none⟩)), (.int .i64 x1), (.agg #[(.int .u8 x2a), (.int .i64 x2b), (.int .i64 x2c)])] h K := by
  have e : q_fds_Table_Open x0 x1 x2a x2b x2c h K = fnT Try.prog 34 q_fds_Table_Open_ann Try.f29 (bodyOf Try.f29) [(.pointer (some ⟨x0, 0, none⟩)), (.int .i64 x1), (.agg #[(.int .u8 x2a), (.int .i64 x2b), (.int .i64 x2c)])] h K := by kernel_rfl
  rw [e] at hq
  exact calls_of_fnT (n := 34) (ann := q_fds_Table_Open_ann) mixOk Try.func29 (by kernel_rfl) (by kernel_rfl) (fun args w => Try.call29 args w) (by kernel_rfl) hq

def q_fds_Table_Dup_ann : Ann := { loops := fun _ => [], ty := fun _ => [], canon := fun _ => [], cuts := fun _ => none }
def q_fds_Table_Dup (x0 : Nat) (x1 : Int) (x2 : Int) (h : Hp) (K : Value → Hp → Prop) : Prop :=
    CallsH Try.prog f_fds_Table_at #[(.pointer (some ⟨x0, 0, none⟩)), (.int .i64 x1), (.int .i64 x2)] h fun r1 h2 => ∃ p3 : Option Addr, ∃ p4 : Option Addr, ∃ n5 : Int, r1 = (.tuple #[(.pointer p3), (.pointer p4), (.int .i64 n5)])
    ∧ iteP (n5 != 0) (K (.tuple #[(.int .i64 0), (.int .i64 n5)]) h2) (CallsH Try.prog f_fds_process_give #[(.pointer p3), (.pointer p4)] h2 fun r6 h7 => ∃ n8 : Int, ∃ n9 : Int, r6 = (.tuple #[(.int .i64 n8), (.int .i64 n9)])
    ∧ K (.tuple #[(.int .i64 n8), (.int .i64 n9)]) h7)
theorem q_fds_Table_Dup_calls (x0 : Nat) (x1 : Int) (x2 : Int) (h : Hp) (K : Value → Hp → Prop) (hq : q_fds_Table_Dup x0 x1 x2 h K) : CallsH Try.prog f_fds_Table_Dup #[(.pointer (some ⟨x0, 0, none⟩)), (.int .i64 x1), (.int .i64 x2)] h K := by
  have e : q_fds_Table_Dup x0 x1 x2 h K = fnT Try.prog 27 q_fds_Table_Dup_ann Try.f30 (bodyOf Try.f30) [(.pointer (some ⟨x0, 0, none⟩)), (.int .i64 x1), (.int .i64 x2)] h K := by kernel_rfl
  rw [e] at hq
  exact calls_of_fnT (n := 27) (ann := q_fds_Table_Dup_ann) mixOk Try.func30 (by kernel_rfl) (by kernel_rfl) (fun args w => Try.call30 args w) (by kernel_rfl) hq

def q_fds_Table_Get_ann : Ann := { loops := fun _ => [], ty := fun _ => [], canon := fun _ => [], cuts := fun _ => none }
def q_fds_Table_Get (x0 : Nat) (x1 : Int) (x2 : Int) (h : Hp) (K : Value → Hp → Prop) : Prop :=
    letH (h.push (.cells (zeroCells Try.prog T_N_api_Open) T_N_api_Open)) fun h1 => CallsH Try.prog f_fds_Table_at #[(.pointer (some ⟨x0, 0, none⟩)), (.int .i64 x1), (.int .i64 x2)] h1 fun r2 h3 => ∃ p4 : Option Addr, ∃ p5 : Option Addr, ∃ n6 : Int, r2 = (.tuple #[(.pointer p4), (.pointer p5), (.int .i64 n6)])
    ∧ iteP (n6 != 0) ((∃ old, cellAt h3 ⟨h.size, 0, none⟩ = some old) ∧ frozenAt h3 ⟨h.size, 0, none⟩ = false ∧ letH (setH h3 ⟨h.size, 0, none⟩ (.int .u8 0)) fun h7 => (∃ old, cellAt h7 ⟨h.size, 1, none⟩ = some old) ∧ frozenAt h7 ⟨h.size, 1, none⟩ = false
    ∧ letH (setH h7 ⟨h.size, 1, none⟩ (.int .i64 0)) fun h8 => (∃ old, cellAt h8 ⟨h.size, 2, none⟩ = some old) ∧ frozenAt h8 ⟨h.size, 2, none⟩ = false ∧ letH (setH h8 ⟨h.size, 2, none⟩ (.int .i64 0)) fun h9 => ∃ n10 : Int, cellAt h9 ⟨h.size, 0, none⟩ = some (.int .u8 n10)
    ∧ ∃ n11 : Int, cellAt h9 ⟨h.size, 1, none⟩ = some (.int .i64 n11) ∧ ∃ n12 : Int, cellAt h9 ⟨h.size, 2, none⟩ = some (.int .i64 n12) ∧ K (.tuple #[(.agg #[(.int .u8 n10), (.int .i64 n11), (.int .i64 n12)]), (.int .i64 n6)]) h9) (wth p5 fun a13
    => ∃ n14 : Int, cellAt h3 a13 = some (.int .u8 n14) ∧ ∃ n15 : Int, cellAt h3 (a13.add 1) = some (.int .i64 n15) ∧ ∃ n16 : Int, cellAt h3 (a13.add 2) = some (.int .i64 n16) ∧ (∃ old, cellAt h3 ⟨h.size, 0, none⟩ = some old)
    ∧ frozenAt h3 ⟨h.size, 0, none⟩ = false ∧ letH (setH h3 ⟨h.size, 0, none⟩ (.int .u8 n14)) fun h17 => (∃ old, cellAt h17 ⟨h.size, 1, none⟩ = some old) ∧ frozenAt h17 ⟨h.size, 1, none⟩ = false ∧ letH (setH h17 ⟨h.size, 1, none⟩ (.int .i64 n15)) fun h18
    => (∃ old, cellAt h18 ⟨h.size, 2, none⟩ = some old) ∧ frozenAt h18 ⟨h.size, 2, none⟩ = false ∧ letH (setH h18 ⟨h.size, 2, none⟩ (.int .i64 n16)) fun h19 => ∃ n20 : Int, cellAt h19 ⟨h.size, 0, none⟩ = some (.int .u8 n20) ∧
    ∃ n21 : Int, cellAt h19 ⟨h.size, 1, none⟩ = some (.int .i64 n21) ∧ ∃ n22 : Int, cellAt h19 ⟨h.size, 2, none⟩ = some (.int .i64 n22) ∧ K (.tuple #[(.agg #[(.int .u8 n20), (.int .i64 n21), (.int .i64 n22)]), (.int .i64 0)]) h19)
theorem q_fds_Table_Get_calls (x0 : Nat) (x1 : Int) (x2 : Int) (h : Hp) (K : Value → Hp → Prop) (hq : q_fds_Table_Get x0 x1 x2 h K) : CallsH Try.prog f_fds_Table_Get #[(.pointer (some ⟨x0, 0, none⟩)), (.int .i64 x1), (.int .i64 x2)] h K := by
  have e : q_fds_Table_Get x0 x1 x2 h K = fnT Try.prog 27 q_fds_Table_Get_ann Try.f31 (bodyOf Try.f31) [(.pointer (some ⟨x0, 0, none⟩)), (.int .i64 x1), (.int .i64 x2)] h K := by kernel_rfl
  rw [e] at hq
  exact calls_of_fnT (n := 27) (ann := q_fds_Table_Get_ann) mixOk Try.func31 (by kernel_rfl) (by kernel_rfl) (fun args w => Try.call31 args w) (by kernel_rfl) hq

def q_fds_Table_Move_ann : Ann := { loops := fun _ => [], ty := fun _ => [], canon := fun _ => [], cuts := fun _ => none }
def q_fds_Table_Move (x0 : Nat) (x1 : Int) (x2 : Int) (x3 : Int) (h : Hp) (K : Value → Hp → Prop) : Prop :=
    CallsH Try.prog f_fds_Table_at #[(.pointer (some ⟨x0, 0, none⟩)), (.int .i64 x1), (.int .i64 x2)] h fun r1 h2 => ∃ p3 : Option Addr, ∃ p4 : Option Addr, ∃ n5 : Int, r1 = (.tuple #[(.pointer p3), (.pointer p4), (.int .i64 n5)])
    ∧ iteP (n5 == 0) (wth p4 fun a6 => (∃ old, cellAt h2 (a6.add 2) = some old) ∧ frozenAt h2 (a6.add 2) = false ∧ letH (setH h2 (a6.add 2) (.int .i64 x3)) fun h7 => K (.int .i64 n5) h7) (K (.int .i64 n5) h2)
theorem q_fds_Table_Move_calls (x0 : Nat) (x1 : Int) (x2 : Int) (x3 : Int) (h : Hp) (K : Value → Hp → Prop) (hq : q_fds_Table_Move x0 x1 x2 x3 h K) : CallsH Try.prog f_fds_Table_Move #[(.pointer (some ⟨x0, 0, none⟩)), (.int .i64 x1), (.int .i64 x2), (.int .i64 x3)] h K := by
  have e : q_fds_Table_Move x0 x1 x2 x3 h K = fnT Try.prog 28 q_fds_Table_Move_ann Try.f33 (bodyOf Try.f33) [(.pointer (some ⟨x0, 0, none⟩)), (.int .i64 x1), (.int .i64 x2), (.int .i64 x3)] h K := by kernel_rfl
  rw [e] at hq
  exact calls_of_fnT (n := 28) (ann := q_fds_Table_Move_ann) mixOk Try.func33 (by kernel_rfl) (by kernel_rfl) (fun args w => Try.call33 args w) (by kernel_rfl) hq

def q_fds_Table_Close_ann : Ann := { loops := fun _ => [], ty := fun _ => [], canon := fun x => match x with | 4 => [0, 1, 2, 3, 4, 5, 6, 7, 8, 9] | _ => [], cuts := fun _ => none }
def q_fds_Table_Close (x0 : Nat) (x1 : Int) (x2 : Int) (h : Hp) (K : Value → Hp → Prop) : Prop :=
    letH (h.push (.cells (zeroCells Try.prog T_N_api_Open) T_N_api_Open)) fun h1 => CallsH Try.prog f_fds_Table_at #[(.pointer (some ⟨x0, 0, none⟩)), (.int .i64 x1), (.int .i64 x2)] h1 fun r2 h3 => ∃ p4 : Option Addr, ∃ p5 : Option Addr, ∃ n6 : Int, r2 = (.tuple #[(.pointer p4), (.pointer p5), (.int .i64 n6)])
    ∧ iteP (n6 != 0) ((∃ old, cellAt h3 ⟨h.size, 0, none⟩ = some old) ∧ frozenAt h3 ⟨h.size, 0, none⟩ = false ∧ letH (setH h3 ⟨h.size, 0, none⟩ (.int .u8 0)) fun h7 => (∃ old, cellAt h7 ⟨h.size, 1, none⟩ = some old) ∧ frozenAt h7 ⟨h.size, 1, none⟩ = false
    ∧ letH (setH h7 ⟨h.size, 1, none⟩ (.int .i64 0)) fun h8 => (∃ old, cellAt h8 ⟨h.size, 2, none⟩ = some old) ∧ frozenAt h8 ⟨h.size, 2, none⟩ = false ∧ letH (setH h8 ⟨h.size, 2, none⟩ (.int .i64 0)) fun h9 => ∃ n10 : Int, cellAt h9 ⟨h.size, 0, none⟩ = some (.int .u8 n10)
    ∧ ∃ n11 : Int, cellAt h9 ⟨h.size, 1, none⟩ = some (.int .i64 n11) ∧ ∃ n12 : Int, cellAt h9 ⟨h.size, 2, none⟩ = some (.int .i64 n12) ∧ K (.tuple #[(.agg #[(.int .u8 n10), (.int .i64 n11), (.int .i64 n12)]), (.bool false), (.int .i64 n6)]) h9) (wth p5 fun a13
    => ∃ n14 : Int, cellAt h3 a13 = some (.int .u8 n14) ∧ ∃ n15 : Int, cellAt h3 (a13.add 1) = some (.int .i64 n15) ∧ ∃ n16 : Int, cellAt h3 (a13.add 2) = some (.int .i64 n16) ∧ CallsH Try.prog f_fds_process_release #[(.pointer p4), (.int .i64 x2)] h3 fun r17 h18
    => ∃ b19 : Bool, r17 = (.bool b19) ∧ (∃ n20 : Int, cellAt h18 a13 = some (.int .u8 n20) ∧ ∃ n21 : Int, cellAt h18 (a13.add 1) = some (.int .i64 n21) ∧ ∃ n22 : Int, cellAt h18 (a13.add 2) = some (.int .i64 n22) ∧ ((.agg #[(.int .u8 n20), (.int .i64 n21), (.int .i64 n22)]) : Value) = (.agg #[(.int .u8 n14), (.int .i64 n15), (.int .i64 n16)]))
    ∧ (∃ old, cellAt h18 ⟨h.size, 0, none⟩ = some old) ∧ frozenAt h18 ⟨h.size, 0, none⟩ = false ∧ letH (setH h18 ⟨h.size, 0, none⟩ (.int .u8 n14)) fun h23 => (∃ old, cellAt h23 ⟨h.size, 1, none⟩ = some old) ∧ frozenAt h23 ⟨h.size, 1, none⟩ = false
    ∧ letH (setH h23 ⟨h.size, 1, none⟩ (.int .i64 n15)) fun h24 => (∃ old, cellAt h24 ⟨h.size, 2, none⟩ = some old) ∧ frozenAt h24 ⟨h.size, 2, none⟩ = false ∧ letH (setH h24 ⟨h.size, 2, none⟩ (.int .i64 n16)) fun h25 => ∃ n26 : Int, cellAt h25 ⟨h.size, 0, none⟩ = some (.int .u8 n26)
    ∧ ∃ n27 : Int, cellAt h25 ⟨h.size, 1, none⟩ = some (.int .i64 n27) ∧ ∃ n28 : Int, cellAt h25 ⟨h.size, 2, none⟩ = some (.int .i64 n28) ∧ K (.tuple #[(.agg #[(.int .u8 n26), (.int .i64 n27), (.int .i64 n28)]), (.bool b19), (.int .i64 0)]) h25)
theorem q_fds_Table_Close_calls (x0 : Nat) (x1 : Int) (x2 : Int) (h : Hp) (K : Value → Hp → Prop) (hq : q_fds_Table_Close x0 x1 x2 h K) : CallsH Try.prog f_fds_Table_Close #[(.pointer (some ⟨x0, 0, none⟩)), (.int .i64 x1), (.int .i64 x2)] h K := by
  have e : q_fds_Table_Close x0 x1 x2 h K = fnT Try.prog 31 q_fds_Table_Close_ann Try.f35 (bodyOf Try.f35) [(.pointer (some ⟨x0, 0, none⟩)), (.int .i64 x1), (.int .i64 x2)] h K := by kernel_rfl
  rw [e] at hq
  exact calls_of_fnT (n := 31) (ann := q_fds_Table_Close_ann) mixOk Try.func35 (by kernel_rfl) (by kernel_rfl) (fun args w => Try.call35 args w) (by kernel_rfl) hq

def q_top_TopPlaced_ann : Ann := { loops := fun x => match x with | 0 => [(11, T_string), (12, T_int)] | _ => [], ty := fun _ => [], canon := fun _ => [], cuts := fun x => match x with | 16 => some [(13, T_string)] | 19 => some [(14, T_int)] | 29 => some [(11, T_string)] | _ => none }
def q_top_TopPlaced (x0p : Option Addr) (x0n : Nat) (x0c : Nat) (h : Hp) (K : Value → Hp → Prop) : Prop :=
    CallsH Try.prog f_file_New #[(.int .i64 8)] h fun r1 h2 => ∃ p3 : Option Addr, r1 = (.pointer p3) ∧ CallsH Try.prog f_fds_New #[] h2 fun r4 h5 => ∃ p6 : Option Addr, r4 = (.pointer p6) ∧ CallsH Try.prog f_file_Store_Make #[(.pointer p3), (.string ⟨#[102]⟩)] h5 fun r7 h8
    => ∃ n9 : Int, ∃ n10 : Int, r7 = (.tuple #[(.int .i64 n9), (.int .i64 n10)]) ∧ iteP (n10 != 0) (K (.bool false) h8) (CallsH Try.prog f_fds_Table_Begin #[(.pointer p6), (.int .i64 0)] h8 fun r11 h12 => ∃ n13 : Int, r11 = (.int .i64 n13)
    ∧ iteP (n13 != 0) (K (.bool false) h12) (CallsH Try.prog f_fds_Table_Begin #[(.pointer p6), (.int .i64 1)] h12 fun r14 h15 => ∃ n16 : Int, r14 = (.int .i64 n16) ∧ iteP (n16 != 0) (K (.bool false) h15) (CallsH Try.prog f_fds_Table_Open #[(.pointer p6), (.int .i64 0), (.agg #[(.int .u8 1), (.int .i64 n9), (.int .i64 0)])] h15 fun r17 h18
    => ∃ n19 : Int, ∃ n20 : Int, r17 = (.tuple #[(.int .i64 n19), (.int .i64 n20)]) ∧ CallsH Try.prog f_fds_Table_Dup #[(.pointer p6), (.int .i64 0), (.int .i64 n19)] h18 fun r21 h22 => ∃ n23 : Int, ∃ n24 : Int, r21 = (.tuple #[(.int .i64 n23), (.int .i64 n24)])
    ∧ iteP (n20 != 0) (K (.bool false) h22) (iteP (n24 != 0) (K (.bool false) h22) (∃ J25 : ByteArray → Hp → Prop, (∃ (I26 : ByteArray → Int → Hp → Prop) (μ27 : ByteArray → Int → Hp → Nat), I26 ⟨#[]⟩ 0 h22 ∧ ∀ s28 i29 h30, I26 s28 i29 h30 → iteP (decide (i29 < ((x0n : Nat) : Int))) (iteP (decide (i29 < 20)) ((0 : Int) ≤ i29
    ∧ i29 < ((x0n : Nat) : Int) ∧ wth x0p fun a31 => ∃ s32 : ByteArray, cellAt h30 (a31.add (Int.toNat i29 * 1)) = some (.string s32) ∧ ∃ J33 : ByteArray → Hp → Prop, (iteP (decide (((s32.size : Nat) : Int) > 20)) ((0 : Int) ≤ 20
    ∧ (Int.toNat 20) ≤ s32.size ∧ J33 (s32.extract 0 (Int.toNat 20)) h30) (J33 s32 h30)) ∧ ∀ s34 h35, J33 s34 h35 → ∃ J36 : Int → Hp → Prop, (iteP ((Int.tmod i29 2) == 1) (J36 n23 h35) (J36 n19 h35)) ∧ ∀ i37 h38, J36 i37 h38 → CallsH Try.prog f_fds_Table_Get #[(.pointer p6), (.int .i64 0), (.int .i64 i37)] h38 fun r39 h40
    => ∃ n41 : Int, ∃ n42 : Int, ∃ n43 : Int, ∃ n44 : Int, r39 = (.tuple #[(.agg #[(.int .u8 n41), (.int .i64 n42), (.int .i64 n43)]), (.int .i64 n44)]) ∧ letH (h40.push (.cells (zeroCells Try.prog T_N_api_Open) T_N_api_Open)) fun h45
    => (∃ old, cellAt h45 ⟨h40.size, 0, none⟩ = some old) ∧ frozenAt h45 ⟨h40.size, 0, none⟩ = false ∧ letH (setH h45 ⟨h40.size, 0, none⟩ (.int .u8 n41)) fun h46 => (∃ old, cellAt h46 ⟨h40.size, 1, none⟩ = some old) ∧ frozenAt h46 ⟨h40.size, 1, none⟩ = false
    ∧ letH (setH h46 ⟨h40.size, 1, none⟩ (.int .i64 n42)) fun h47 => (∃ old, cellAt h47 ⟨h40.size, 2, none⟩ = some old) ∧ frozenAt h47 ⟨h40.size, 2, none⟩ = false ∧ letH (setH h47 ⟨h40.size, 2, none⟩ (.int .i64 n43)) fun h48
    => iteP (n44 != 0) (K (.bool false) h48) (∃ n49 : Int, cellAt h48 ⟨h40.size, 2, none⟩ = some (.int .i64 n49) ∧ iteP (n49 != ((s28.size : Nat) : Int)) (K (.bool false) h48) (∃ n50 : Int, cellAt h48 ⟨h40.size, 1, none⟩ = some (.int .i64 n50)
    ∧ ∃ n51 : Int, cellAt h48 ⟨h40.size, 2, none⟩ = some (.int .i64 n51) ∧ CallsH Try.prog f_file_Store_Write #[(.pointer p3), (.int .i64 n50), (.int .i64 n51), (.string s34)] h48 fun r52 h53 => ∃ n54 : Int, r52 = (.int .i64 n54)
    ∧ iteP (n54 != 0) (iteP (n54 != 2) (K (.bool false) h53) (iteP (decide ((IntKind.wrap .i64 (((s28.size : Nat) : Int) + ((s34.size : Nat) : Int))) ≤ 96)) (K (.bool false) h53) (I26 s28 (IntKind.wrap .i64 (i29 + 1)) h53 ∧
    μ27 s28 (IntKind.wrap .i64 (i29 + 1)) h53 < μ27 s28 i29 h30))) (((s28.size + s34.size : Nat) : Int) ≤ 9223372036854775807 ∧ ∃ n55 : Int, cellAt h53 ⟨h40.size, 2, none⟩ = some (.int .i64 n55) ∧ CallsH Try.prog f_fds_Table_Move #[(.pointer p6), (.int .i64 0), (.int .i64 i37), (.int .i64 (IntKind.wrap .i64 (n55 + ((s34.size : Nat) : Int))))] h53 fun r56 h57
    => ∃ n58 : Int, r56 = (.int .i64 n58) ∧ iteP (n58 != 0) (K (.bool false) h57) (I26 (s28 ++ s34) (IntKind.wrap .i64 (i29 + 1)) h57 ∧ μ27 (s28 ++ s34) (IntKind.wrap .i64 (i29 + 1)) h57 < μ27 s28 i29 h30))))) (J25 s28 h30)) (J25 s28 h30))
    ∧ ∀ s59 h60, J25 s59 h60 → CallsH Try.prog f_file_Store_Read #[(.pointer p3), (.int .i64 n9), (.int .i64 0), (.int .i64 96)] h60 fun r61 h62 => ∃ s63 : ByteArray, ∃ n64 : Int, r61 = (.tuple #[(.string s63), (.int .i64 n64)])
    ∧ CallsH Try.prog f_fds_Table_Close #[(.pointer p6), (.int .i64 0), (.int .i64 n19)] h62 fun r65 h66 => ∃ n67 : Int, ∃ n68 : Int, ∃ n69 : Int, ∃ b70 : Bool, ∃ n71 : Int, r65 = (.tuple #[(.agg #[(.int .u8 n67), (.int .i64 n68), (.int .i64 n69)]), (.bool b70), (.int .i64 n71)])
    ∧ letH (h66.push (.cells (zeroCells Try.prog T_N_api_Open) T_N_api_Open)) fun h72 => (∃ old, cellAt h72 ⟨h66.size, 0, none⟩ = some old) ∧ frozenAt h72 ⟨h66.size, 0, none⟩ = false ∧ letH (setH h72 ⟨h66.size, 0, none⟩ (.int .u8 n67)) fun h73
    => (∃ old, cellAt h73 ⟨h66.size, 1, none⟩ = some old) ∧ frozenAt h73 ⟨h66.size, 1, none⟩ = false ∧ letH (setH h73 ⟨h66.size, 1, none⟩ (.int .i64 n68)) fun h74 => (∃ old, cellAt h74 ⟨h66.size, 2, none⟩ = some old) ∧ frozenAt h74 ⟨h66.size, 2, none⟩ = false
    ∧ letH (setH h74 ⟨h66.size, 2, none⟩ (.int .i64 n69)) fun h75 => CallsH Try.prog f_fds_Table_Close #[(.pointer p6), (.int .i64 0), (.int .i64 n23)] h75 fun r76 h77 => ∃ n78 : Int, ∃ n79 : Int, ∃ n80 : Int, ∃ b81 : Bool, ∃ n82 : Int, r76 = (.tuple #[(.agg #[(.int .u8 n78), (.int .i64 n79), (.int .i64 n80)]), (.bool b81), (.int .i64 n82)])
    ∧ letH (h77.push (.cells (zeroCells Try.prog T_N_api_Open) T_N_api_Open)) fun h83 => (∃ old, cellAt h83 ⟨h77.size, 0, none⟩ = some old) ∧ frozenAt h83 ⟨h77.size, 0, none⟩ = false ∧ letH (setH h83 ⟨h77.size, 0, none⟩ (.int .u8 n78)) fun h84
    => (∃ old, cellAt h84 ⟨h77.size, 1, none⟩ = some old) ∧ frozenAt h84 ⟨h77.size, 1, none⟩ = false ∧ letH (setH h84 ⟨h77.size, 1, none⟩ (.int .i64 n79)) fun h85 => (∃ old, cellAt h85 ⟨h77.size, 2, none⟩ = some old) ∧ frozenAt h85 ⟨h77.size, 2, none⟩ = false
    ∧ letH (setH h85 ⟨h77.size, 2, none⟩ (.int .i64 n80)) fun h86 => iteP (n64 == 0) (iteP (s63.toList == s59.toList) (iteP (n71 == 0) (iteP (n82 == 0) (iteP (!b70) (K (.bool b81) h86) (K (.bool false) h86)) (K (.bool false) h86)) (K (.bool false) h86)) (K (.bool false) h86)) (K (.bool false) h86))))))
theorem q_top_TopPlaced_calls (x0p : Option Addr) (x0n : Nat) (x0c : Nat) (h : Hp) (K : Value → Hp → Prop) (hq : q_top_TopPlaced x0p x0n x0c h K) : CallsH Try.prog f_top_TopPlaced #[(.slice x0p x0n x0c)] h K := by
  have e : q_top_TopPlaced x0p x0n x0c h K = fnT Try.prog 176 q_top_TopPlaced_ann Try.f5 (bodyOf Try.f5) [(.slice x0p x0n x0c)] h K := by kernel_rfl
  rw [e] at hq
  exact calls_of_fnT (n := 176) (ann := q_top_TopPlaced_ann) mixOk Try.func5 (by kernel_rfl) (by kernel_rfl) (fun args w => Try.call5 args w) (by kernel_rfl) hq

end Go.Proofs.Ytmdhfmljgjnggaa
/- What the functions of package fds do, as far as one shared descriptor needs them. No condition. -/
namespace Go.Proofs.Ytmdhfmljgjnggaa
attribute [local irreducible] semWP
set_option linter.constructorNameAsVariable false
set_option linter.unusedVariables false
theorem runs_eqNil {P : Program} {t el : TypeId} {h : Hp} {x y : Operand} {p : Option Addr} (ht : P.underlying t = some (.pointer el)) :
    RunsTo P (do eqGuard .eql t x y (.pointer none) (.pointer p); binOp .eql t (.pointer none) (.pointer p)) h (.bool p.isNone) := by
  have h1 : (do eqGuard .eql t x y (.pointer none) (.pointer p); binOp .eql t (.pointer none) (.pointer p) : Sem Value) = (do pure (.bool (← Op.equalIn (9999 + 1) t (.pointer none) (.pointer p)))) := by rfl
  rw [h1]
  intro w hw
  rw [Op.equalIn]
  simp only [Sem.run_bind, runs_underlying ht, Result.andThen_ok]
  rfl
section
variable {h h' : Hp} {t q s : Nat} {K : Value → Hp → Prop}
theorem c_fdsNew (hK : ∀ h', h'[h.size]? = some (.cells #[.pointer none, .pointer none, .pointer none, .pointer none, .pointer none, .pointer none] T_N_fds_Table (0, 0)) → Ext h h' → h'.size = h.size + 1 → K (.pointer (some ⟨h.size, 0, none⟩)) h') : CallsH Try.prog f_fds_New #[] h K := by
  refine q_fds_New_calls h K ?_
  unfold q_fds_New
  have e : (⟨(zeroCells Try.prog T_N_fds_Table).toList⟩ : Array Value) = #[.pointer none, .pointer none, .pointer none, .pointer none, .pointer none, .pointer none] := by kernel_rfl
  rw [e]
  exact newB fun g b x z => hK g b x z
theorem c_fresh {cs : Array Value} (i : Nat) (hi : i < 6) (ht : h[t]? = some (.cells cs T_N_fds_Table (0, 0))) (hc : cs[i]? = some (.pointer none)) (hK : K (.int .i64 0) h) : CallsH Try.prog f_fds_Table_fresh #[.pointer (some ⟨t, 0, none⟩), .int .i64 (i : Int)] h K := by
  refine q_fds_Table_fresh_calls t i h K ?_
  unfold q_fds_Table_fresh
  refine iteP_no (by omega) (iteP_no (by omega) ⟨by omega, by omega, none, ?_, iteP_f rfl hK⟩)
  rw [Addr.add_mk]
  exact cellB ht (by simpa using hc)
theorem c_of {cs : Array Value} (i : Nat) (hi : i < 6) (ht : h[t]? = some (.cells cs T_N_fds_Table (0, 0))) (hc : cs[i]? = some (.pointer (some ⟨q, 0, none⟩))) (hK : K (.tuple #[.pointer (some ⟨q, 0, none⟩), .int .i64 0]) h) : CallsH Try.prog f_fds_Table_of #[.pointer (some ⟨t, 0, none⟩), .int .i64 (i : Int)] h K := by
  refine q_fds_Table_of_calls t i h K ?_
  unfold q_fds_Table_of
  have hcell : cellAt h ((⟨t, 0, none⟩ : Addr).add (Int.toNat (i : Int) * 1)) = some (.pointer (some ⟨q, 0, none⟩)) := by
    rw [Addr.add_mk]
    exact cellB ht (by simpa using hc)
  exact iteP_no (by omega) (iteP_no (by omega) ⟨by omega, by omega, _, hcell, iteP_f rfl ⟨by omega, by omega, _, hcell, hK⟩⟩)
theorem c_fdsBegin {cs : Array Value} (i : Nat) (hi : i < 6) (ht : h[t]? = some (.cells cs T_N_fds_Table (0, 0))) (hc : cs[i]? = some (.pointer none))
    (hK : ∀ h', h'[t]? = some (.cells (cs.setIfInBounds i (.pointer (some ⟨h.size, 0, none⟩))) T_N_fds_Table (0, 0)) → h'[h.size]? = some (.cells #[.pointer none, .pointer none, .pointer none, .pointer none, .pointer none, .pointer none, .pointer none, .pointer none] T_N_fds_process (0, 0)) → Step h h' [t] [t] → h'.size = h.size + 1 → K (.int .i64 0) h') :
    CallsH Try.prog f_fds_Table_Begin #[.pointer (some ⟨t, 0, none⟩), .int .i64 (i : Int)] h K := by
  refine q_fds_Table_Begin_calls t i h K ?_
  unfold q_fds_Table_Begin
  refine c_fresh i hi ht hc ⟨_, rfl, iteP_eq rfl ?_⟩
  have e : (⟨(zeroCells Try.prog T_N_fds_process).toList⟩ : Array Value) = #[.pointer none, .pointer none, .pointer none, .pointer none, .pointer none, .pointer none, .pointer none, .pointer none] := by kernel_rfl
  rw [e]
  have hlt := lt_of_at ht
  have hsz : i < cs.size := (Array.getElem?_eq_some_iff.1 hc).1
  refine newB fun g b x z => ⟨by omega, by omega, ?_⟩
  rw [show (⟨t, 0, none⟩ : Addr).add (Int.toNat (i : Int) * 1) = ⟨t, i, none⟩ by rw [Addr.add_mk]; simp]
  refine setB (x.at ht) hsz fun g2 b2 st2 z2 => hK g2 b2 ?_ ((Step.ext x fun _ hr => hr).trans st2) (by omega)
  rw [st2.frame h.size (by omega) (by simp; omega)]
  exact b
theorem c_at0 {cs ps : Array Value} (i : Nat) (hi : i < 6) (ht : h[t]? = some (.cells cs T_N_fds_Table (0, 0))) (hc : cs[i]? = some (.pointer (some ⟨q, 0, none⟩))) (j : Nat) (hj : j < 8) (hq : h[q]? = some (.cells ps T_N_fds_process (0, 0))) (hp : ps[j]? = some (.pointer (some ⟨s, 0, none⟩)))
    (hK : K (.tuple #[.pointer (some ⟨q, 0, none⟩), .pointer (some ⟨s, 0, none⟩), .int .i64 0]) h) : CallsH Try.prog f_fds_Table_at #[.pointer (some ⟨t, 0, none⟩), .int .i64 (i : Int), .int .i64 (j : Int)] h K := by
  refine q_fds_Table_at_calls t i j h K ?_
  unfold q_fds_Table_at
  have hcell : cellAt h ((⟨q, 0, none⟩ : Addr).add (Int.toNat (j : Int) * 1)) = some (.pointer (some ⟨s, 0, none⟩)) := by
    rw [Addr.add_mk]
    exact cellB hq (by simpa using hp)
  refine c_of i hi ht hc ⟨_, _, rfl, iteP_nne rfl (iteP_no (by omega) (iteP_no (by omega) ?_))⟩
  simp only [wth_some]
  exact ⟨by omega, by omega, _, hcell, iteP_f rfl ⟨by omega, by omega, _, hcell, hK⟩⟩
theorem c_indexNil {ps : Array Value} (j : Nat) (hj : j < 8) (hs : ps.size = 8) (hq : h[q]? = some (.cells ps T_N_fds_process (0, 0))) (hp : ∀ k, k < j → ∃ a, ps[k]? = some (.pointer (some a))) (hn : ps[j]? = some (.pointer none)) (hK : K (.int .i64 (j : Int)) h) :
    CallsH Try.prog f_slices_Index_fds_shared_fds_shared #[.slice (some ⟨q, 0, none⟩) 8 8, .pointer none] h K := by
  refine q_slices_Index_fds_shared_fds_shared_nil_calls _ 8 8 h K ?_
  unfold q_slices_Index_fds_shared_fds_shared_nil
  refine ⟨fun i g => 0 ≤ i ∧ i ≤ j ∧ g = h, fun i _ => (8 - i).toNat, ⟨by omega, by omega, rfl⟩, ?_⟩
  rintro i g ⟨i0, i1, rfl⟩
  refine iteP_yes (by omega) ⟨i0, by omega, ?_⟩
  rw [wth_some]
  by_cases he : i = j
  · subst he
    exact ⟨none, by rw [Addr.add_mk]; exact cellB hq (by simpa using hn), _, runs_eqNil (el := T_N_fds_shared) (by kernel_rfl), iteP_t rfl hK⟩
  · obtain ⟨a, ha⟩ := hp i.toNat (by omega)
    refine ⟨some a, by rw [Addr.add_mk]; exact cellB hq (by simpa using ha), _, runs_eqNil (el := T_N_fds_shared) (by kernel_rfl), iteP_f rfl ⟨⟨?_, ?_, rfl⟩, ?_⟩⟩
    · rw [wrap64 (x := i + 1) (by omega) (by omega)]; omega
    · rw [wrap64 (x := i + 1) (by omega) (by omega)]; omega
    · show (8 - IntKind.wrap .i64 (i + 1)).toNat < (8 - i).toNat
      rw [wrap64 (x := i + 1) (by omega) (by omega)]; omega
theorem c_give {ps : Array Value} {k r pos refs : Int} (j : Nat) (hj : j < 8) (hs : ps.size = 8) (hq : h[q]? = some (.cells ps T_N_fds_process (0, 0))) (hp : ∀ k, k < j → ∃ a, ps[k]? = some (.pointer (some a))) (hn : ps[j]? = some (.pointer none))
    (hsh : h[s]? = some (.cells #[.int .u8 k, .int .i64 r, .int .i64 pos, .int .i64 refs] T_N_fds_shared (0, 0))) (hr : 0 ≤ refs ∧ refs < 1000)
    (hK : ∀ h', h'[q]? = some (.cells (ps.setIfInBounds j (.pointer (some ⟨s, 0, none⟩))) T_N_fds_process (0, 0)) → h'[s]? = some (.cells #[.int .u8 k, .int .i64 r, .int .i64 pos, .int .i64 (refs + 1)] T_N_fds_shared (0, 0)) → Step h h' [q, s] [q, s] → h'.size = h.size → K (.tuple #[.int .i64 (j : Int), .int .i64 0]) h') :
    CallsH Try.prog f_fds_process_give #[.pointer (some ⟨q, 0, none⟩), .pointer (some ⟨s, 0, none⟩)] h K := by
  refine q_fds_process_give_calls q s h K ?_
  unfold q_fds_process_give
  rw [show (some (if 8 = 0 then (⟨q, 0, none⟩ : Addr) else (⟨q, 0, none⟩ : Addr).add (0 * 1))) = some ⟨q, 0, none⟩ by rw [if_neg (by decide), Addr.add_mk]]
  refine c_indexNil j hj hs hq hp hn ⟨_, rfl, iteP_no (by omega) ⟨by omega, by omega, ?_⟩⟩
  rw [show (⟨q, 0, none⟩ : Addr).add (Int.toNat (j : Int) * 1) = ⟨q, j, none⟩ by rw [Addr.add_mk]; simp]
  have hne : s ≠ q := ne_cells hsh hq (by decide)
  refine setB hq (by omega) fun g1 b1 st1 z1 => ?_
  have hs1 : g1[s]? = some (.cells #[.int .u8 k, .int .i64 r, .int .i64 pos, .int .i64 refs] T_N_fds_shared (0, 0)) := by rw [st1.frame s (lt_of_at hsh) (by simpa using hne)]; exact hsh
  refine ⟨_, cellB hs1 rfl, setB hs1 (by simp) fun g2 b2 st2 z2 => ?_⟩
  rw [wrap64 (x := refs + 1) (by omega) (by omega)] at b2
  refine hK g2 ?_ b2 ?_ (by omega)
  · rw [st2.frame q (by have := lt_of_at hq; omega) (by simpa using Ne.symm hne)]; exact b1
  · exact (st1.mono (by simp) (fun _ hr => .inr hr)).trans (st2.mono (by simp) (fun _ hr => .inr hr))
theorem zeroOpen : zeroCells Try.prog T_N_api_Open = #[.int .u8 0, .int .i64 0, .int .i64 0] := by kernel_rfl
/-- Three cells are set, one behind the other. -/
theorem set3 {h : Hp} {b : Nat} {a0 a1 a2 v0 v1 v2 : Value} {e : TypeId} {K : Hp → Prop} (hb : h[b]? = some (.cells #[a0, a1, a2] e (0, 0)))
    (hK : ∀ h', h'[b]? = some (.cells #[v0, v1, v2] e (0, 0)) → Step h h' [b] [b] → h'.size = h.size → K h') :
    (∃ old, cellAt h ⟨b, 0, none⟩ = some old) ∧ frozenAt h ⟨b, 0, none⟩ = false ∧ letH (setH h ⟨b, 0, none⟩ v0) fun h1 =>
    (∃ old, cellAt h1 ⟨b, 1, none⟩ = some old) ∧ frozenAt h1 ⟨b, 1, none⟩ = false ∧ letH (setH h1 ⟨b, 1, none⟩ v1) fun h2 =>
    (∃ old, cellAt h2 ⟨b, 2, none⟩ = some old) ∧ frozenAt h2 ⟨b, 2, none⟩ = false ∧ letH (setH h2 ⟨b, 2, none⟩ v2) K := by
  refine setB hb (by simp) fun h1 b1 s1 z1 => setB b1 (by simp) fun h2 b2 s2 z2 => setB b2 (by simp) fun h3 b3 s3 z3 => ?_
  exact hK h3 b3 (s1.trans (s2.trans s3)) (by omega)
theorem c_fdsOpen {cs ps : Array Value} (ht : h[t]? = some (.cells cs T_N_fds_Table (0, 0))) (hc : cs[0]? = some (.pointer (some ⟨q, 0, none⟩))) (j : Nat) (hj : j < 8) (hs : ps.size = 8) (hq : h[q]? = some (.cells ps T_N_fds_process (0, 0))) (hp : ∀ k, k < j → ∃ a, ps[k]? = some (.pointer (some a))) (hn : ps[j]? = some (.pointer none)) (r pos : Int)
    (hK : ∀ h' s, h.size ≤ s → h'[q]? = some (.cells (ps.setIfInBounds j (.pointer (some ⟨s, 0, none⟩))) T_N_fds_process (0, 0)) → h'[s]? = some (.cells #[.int .u8 1, .int .i64 r, .int .i64 pos, .int .i64 1] T_N_fds_shared (0, 0)) → Step h h' [q] [q] → K (.tuple #[.int .i64 (j : Int), .int .i64 0]) h') :
    CallsH Try.prog f_fds_Table_Open #[.pointer (some ⟨t, 0, none⟩), .int .i64 0, .agg #[.int .u8 1, .int .i64 r, .int .i64 pos]] h K := by
  refine q_fds_Table_Open_calls t 0 1 r pos h K ?_
  unfold q_fds_Table_Open
  refine newB fun g b x z => c_of 0 (by decide) (x.at ht) hc ⟨_, _, rfl, iteP_nne rfl ⟨_, cellB b rfl, iteP_neq (by decide) ⟨_, cellB b rfl, iteP_no (by decide) ⟨_, cellB b rfl, _, cellB b rfl, _, cellB b rfl, newB fun g2 b2 x2 z2 => ?_⟩⟩⟩⟩
  have hqlt := lt_of_at hq
  refine c_give j hj hs (x2.at (x.at hq)) hp hn b2 (by omega) fun g3 b3 s3 st3 z3 => ⟨_, _, rfl, hK g3 g.size (by omega) b3 s3 ?_⟩
  refine ⟨by omega, fun a ha hF => ?_, fun a ha => .inl ha⟩
  rw [st3.frame a (by omega) (by simp at hF; simp; omega), x2.same (by omega), x.same ha]
theorem c_fdsDup {cs ps : Array Value} {k r pos refs : Int} (ht : h[t]? = some (.cells cs T_N_fds_Table (0, 0))) (hc : cs[0]? = some (.pointer (some ⟨q, 0, none⟩))) (i j : Nat) (hi : i < 8) (hj : j < 8) (hs : ps.size = 8) (hq : h[q]? = some (.cells ps T_N_fds_process (0, 0))) (hpi : ps[i]? = some (.pointer (some ⟨s, 0, none⟩))) (hp : ∀ k, k < j → ∃ a, ps[k]? = some (.pointer (some a))) (hn : ps[j]? = some (.pointer none))
    (hsh : h[s]? = some (.cells #[.int .u8 k, .int .i64 r, .int .i64 pos, .int .i64 refs] T_N_fds_shared (0, 0))) (hr : 0 ≤ refs ∧ refs < 1000)
    (hK : ∀ h', h'[q]? = some (.cells (ps.setIfInBounds j (.pointer (some ⟨s, 0, none⟩))) T_N_fds_process (0, 0)) → h'[s]? = some (.cells #[.int .u8 k, .int .i64 r, .int .i64 pos, .int .i64 (refs + 1)] T_N_fds_shared (0, 0)) → Step h h' [q, s] [q, s] → h'.size = h.size → K (.tuple #[.int .i64 (j : Int), .int .i64 0]) h') :
    CallsH Try.prog f_fds_Table_Dup #[.pointer (some ⟨t, 0, none⟩), .int .i64 0, .int .i64 (i : Int)] h K := by
  refine q_fds_Table_Dup_calls t 0 i h K ?_
  unfold q_fds_Table_Dup
  refine c_at0 0 (by decide) ht hc i hi hq hpi ⟨_, _, _, rfl, iteP_nne rfl (c_give j hj hs hq hp hn hsh hr fun g b1 b2 st z => ⟨_, _, rfl, hK g b1 b2 st z⟩)⟩
theorem c_fdsGet {cs ps : Array Value} {k r pos refs : Int} (ht : h[t]? = some (.cells cs T_N_fds_Table (0, 0))) (hc : cs[0]? = some (.pointer (some ⟨q, 0, none⟩))) (i : Nat) (hi : i < 8) (hq : h[q]? = some (.cells ps T_N_fds_process (0, 0))) (hpi : ps[i]? = some (.pointer (some ⟨s, 0, none⟩)))
    (hsh : h[s]? = some (.cells #[.int .u8 k, .int .i64 r, .int .i64 pos, .int .i64 refs] T_N_fds_shared (0, 0)))
    (hK : ∀ h', Ext h h' → K (.tuple #[.agg #[.int .u8 k, .int .i64 r, .int .i64 pos], .int .i64 0]) h') :
    CallsH Try.prog f_fds_Table_Get #[.pointer (some ⟨t, 0, none⟩), .int .i64 0, .int .i64 (i : Int)] h K := by
  refine q_fds_Table_Get_calls t 0 i h K ?_
  unfold q_fds_Table_Get
  rw [zeroOpen]
  refine newB fun g b x z => c_at0 0 (by decide) (x.at ht) hc i hi (x.at hq) hpi ⟨_, _, _, rfl, iteP_nne rfl ?_⟩
  simp only [wth_some]
  refine ⟨_, cellB (x.at hsh) rfl, _, by rw [Addr.add_mk]; exact cellB (x.at hsh) rfl, _, by rw [Addr.add_mk]; exact cellB (x.at hsh) rfl, set3 b fun g2 b2 st2 z2 => ⟨_, cellB b2 rfl, _, cellB b2 rfl, _, cellB b2 rfl, hK g2 (x.thenNew st2 (by simp))⟩⟩
theorem c_fdsMove {cs ps : Array Value} {k r pos refs : Int} (ht : h[t]? = some (.cells cs T_N_fds_Table (0, 0))) (hc : cs[0]? = some (.pointer (some ⟨q, 0, none⟩))) (i : Nat) (hi : i < 8) (hq : h[q]? = some (.cells ps T_N_fds_process (0, 0))) (hpi : ps[i]? = some (.pointer (some ⟨s, 0, none⟩)))
    (hsh : h[s]? = some (.cells #[.int .u8 k, .int .i64 r, .int .i64 pos, .int .i64 refs] T_N_fds_shared (0, 0))) (np : Int)
    (hK : ∀ h', h'[s]? = some (.cells #[.int .u8 k, .int .i64 r, .int .i64 np, .int .i64 refs] T_N_fds_shared (0, 0)) → Step h h' [s] [s] → h'.size = h.size → K (.int .i64 0) h') :
    CallsH Try.prog f_fds_Table_Move #[.pointer (some ⟨t, 0, none⟩), .int .i64 0, .int .i64 (i : Int), .int .i64 np] h K := by
  refine q_fds_Table_Move_calls t 0 i np h K ?_
  unfold q_fds_Table_Move
  refine c_at0 0 (by decide) ht hc i hi hq hpi ⟨_, _, _, rfl, iteP_eq rfl ?_⟩
  simp only [wth_some, Addr.add_mk, Nat.zero_add]
  exact setB hsh (by simp) fun g b st z => hK g b st z
theorem c_release {ps : Array Value} {k r pos refs : Int} (i : Nat) (hi : i < 8) (hs : ps.size = 8) (hq : h[q]? = some (.cells ps T_N_fds_process (0, 0))) (hpi : ps[i]? = some (.pointer (some ⟨s, 0, none⟩)))
    (hsh : h[s]? = some (.cells #[.int .u8 k, .int .i64 r, .int .i64 pos, .int .i64 refs] T_N_fds_shared (0, 0))) (hr : 0 ≤ refs ∧ refs < 1000)
    (hK : ∀ h', h'[q]? = some (.cells (ps.setIfInBounds i (.pointer none)) T_N_fds_process (0, 0)) → h'[s]? = some (.cells #[.int .u8 k, .int .i64 r, .int .i64 pos, .int .i64 (refs - 1)] T_N_fds_shared (0, 0)) → Step h h' [q, s] [q, s] → h'.size = h.size → K (.bool (refs - 1 == 0)) h') :
    CallsH Try.prog f_fds_process_release #[.pointer (some ⟨q, 0, none⟩), .int .i64 (i : Int)] h K := by
  refine q_fds_process_release_calls q i h K ?_
  unfold q_fds_process_release
  rw [show (⟨q, 0, none⟩ : Addr).add (Int.toNat (i : Int) * 1) = ⟨q, i, none⟩ by rw [Addr.add_mk]; simp]
  have hne : s ≠ q := ne_cells hsh hq (by decide)
  refine ⟨by omega, by omega, _, cellB hq hpi, by omega, by omega, setB hq (by omega) fun g1 b1 st1 z1 => ?_⟩
  have hs1 : g1[s]? = some (.cells #[.int .u8 k, .int .i64 r, .int .i64 pos, .int .i64 refs] T_N_fds_shared (0, 0)) := by rw [st1.frame s (lt_of_at hsh) (by simpa using hne)]; exact hsh
  simp only [wth_some, Addr.add_mk, Nat.zero_add]
  refine ⟨_, cellB hs1 rfl, setB hs1 (by simp) fun g2 b2 st2 z2 => ?_⟩
  rw [wrap64 (x := refs - 1) (by omega) (by omega)] at b2
  refine ⟨_, cellB b2 rfl, hK g2 ?_ b2 ?_ (by omega)⟩
  · rw [st2.frame q (by have := lt_of_at hq; omega) (by simpa using Ne.symm hne)]; exact b1
  · exact (st1.mono (by simp) (fun _ hr => .inr hr)).trans (st2.mono (by simp) (fun _ hr => .inr hr))
theorem c_fdsClose {cs ps : Array Value} {k r pos refs : Int} (ht : h[t]? = some (.cells cs T_N_fds_Table (0, 0))) (hc : cs[0]? = some (.pointer (some ⟨q, 0, none⟩))) (i : Nat) (hi : i < 8) (hs : ps.size = 8) (hq : h[q]? = some (.cells ps T_N_fds_process (0, 0))) (hpi : ps[i]? = some (.pointer (some ⟨s, 0, none⟩)))
    (hsh : h[s]? = some (.cells #[.int .u8 k, .int .i64 r, .int .i64 pos, .int .i64 refs] T_N_fds_shared (0, 0))) (hr : 0 ≤ refs ∧ refs < 1000)
    (hK : ∀ h', h'[q]? = some (.cells (ps.setIfInBounds i (.pointer none)) T_N_fds_process (0, 0)) → h'[s]? = some (.cells #[.int .u8 k, .int .i64 r, .int .i64 pos, .int .i64 (refs - 1)] T_N_fds_shared (0, 0)) → Step h h' [q, s] [q, s] → K (.tuple #[.agg #[.int .u8 k, .int .i64 r, .int .i64 pos], .bool (refs - 1 == 0), .int .i64 0]) h') :
    CallsH Try.prog f_fds_Table_Close #[.pointer (some ⟨t, 0, none⟩), .int .i64 0, .int .i64 (i : Int)] h K := by
  refine q_fds_Table_Close_calls t 0 i h K ?_
  unfold q_fds_Table_Close
  rw [zeroOpen]
  have hltq := lt_of_at hq
  have hlts := lt_of_at hsh
  refine newB fun g b x z => c_at0 0 (by decide) (x.at ht) hc i hi (x.at hq) hpi ⟨_, _, _, rfl, iteP_nne rfl ?_⟩
  simp only [wth_some, Addr.add_mk, Nat.zero_add]
  refine ⟨_, cellB (x.at hsh) rfl, _, cellB (x.at hsh) rfl, _, cellB (x.at hsh) rfl, c_release i hi hs (x.at hq) hpi (x.at hsh) hr fun g2 b2 s2 st2 z2 => ⟨_, rfl, ⟨_, cellB s2 rfl, _, cellB s2 rfl, _, cellB s2 rfl, rfl⟩, ?_⟩⟩
  have b' : g2[h.size]? = some (.cells #[.int .u8 0, .int .i64 0, .int .i64 0] T_N_api_Open (0, 0)) := by rw [st2.frame h.size (by omega) (by simp; omega)]; exact b
  refine set3 b' fun g3 b3 st3 z3 => ⟨_, cellB b3 rfl, _, cellB b3 rfl, _, cellB b3 rfl, hK g3 ?_ ?_ ?_⟩
  · rw [st3.frame q (by omega) (by simp; omega)]; exact b2
  · rw [st3.frame s (by omega) (by simp; omega)]; exact s2
  · refine ⟨by omega, fun a ha hF => ?_, fun a ha => .inl ha⟩
    rw [st3.frame a (by omega) (by simp; omega), st2.frame a (by omega) hF, x.same ha]
end
end Go.Proofs.Ytmdhfmljgjnggaa
