/- The texts Qext CExt CExt2, one behind the other. No condition. -/
import Derived.Test.YtmdhfmljgjnggaaG4
import Derived.Test.YtmdhfmljgjnggaaG5
/- Formulas of package extent. No condition. -/
set_option linter.constructorNameAsVariable false
namespace Go.Proofs.Ytmdhfmljgjnggaa

def q_extent_New_ann : Ann := { loops := fun _ => [], ty := fun _ => [], canon := fun _ => [], cuts := fun _ => none }
def q_extent_New (x0 : Int) (h : Hp) (K : Value → Hp → Prop) : Prop :=
    iteP (decide (x0 < 1)) (K (.pointer none) h) (iteP (decide (x0 > 64)) (K (.pointer none) h) (letH (h.push (.cells #[(.int .i64 x0), (.pointer none), (.int .i64 0), (.int .u32 0)] T_N_extent_Table)) fun h1 => K (.pointer (some ⟨h.size, 0, none⟩)) h1))
theorem q_extent_New_calls (x0 : Int) (h : Hp) (K : Value → Hp → Prop) (hq : q_extent_New x0 h K) : CallsH Try.prog f_extent_New #[(.int .i64 x0)] h K := by
  have e : q_extent_New x0 h K = fnT Try.prog 12 q_extent_New_ann Try.f72 (bodyOf Try.f72) [(.int .i64 x0)] h K := by kernel_rfl
  rw [e] at hq
  exact calls_of_fnT (n := 12) (ann := q_extent_New_ann) mixOk Try.func72 (by kernel_rfl) (by kernel_rfl) (fun args w => Try.call72 args w) (by kernel_rfl) hq

def q_extent_numbered_ann : Ann := { loops := fun _ => [], ty := fun _ => [], canon := fun _ => [], cuts := fun _ => none }
def q_extent_numbered (x0 : Int) (h : Hp) (K : Value → Hp → Prop) : Prop :=
    letH (h.push (.cells #[(.int .u32 x0)] T_uint32)) fun h1 => K (.func (.func f_extent_numbered_1) #[] #[(.pointer (some ⟨h.size, 0, none⟩))]) h1
theorem q_extent_numbered_calls (x0 : Int) (h : Hp) (K : Value → Hp → Prop) (hq : q_extent_numbered x0 h K) : CallsH Try.prog f_extent_numbered #[(.int .u32 x0)] h K := by
  have e : q_extent_numbered x0 h K = fnT Try.prog 4 q_extent_numbered_ann Try.f168 (bodyOf Try.f168) [(.int .u32 x0)] h K := by kernel_rfl
  rw [e] at hq
  exact calls_of_fnT (n := 4) (ann := q_extent_numbered_ann) mixOk Try.func168 (by kernel_rfl) (by kernel_rfl) (fun args w => Try.call168 args w) (by kernel_rfl) hq

def q_extent_numbered_1_ann : Ann := { loops := fun _ => [], ty := fun _ => [], canon := fun _ => [], cuts := fun _ => none }
def q_extent_numbered_1 (x0a : Int) (x0b : Int) (x0c : Int) (x0d : Int) (x0e : ByteArray) (x0f : Int) (y0 : Nat) (h : Hp) (K : Value → Hp → Prop) : Prop :=
    letH (h.push (.cells #[(.int .u32 x0a), (.int .i64 x0b), (.int .i64 x0c), (.int .u8 x0d), (.string x0e), (.int .u8 x0f)] T_N_api_Extent)) fun h1 => ∃ n2 : Int, cellAt h1 ⟨h.size, 0, none⟩ = some (.int .u32 n2) ∧ ∃ n3 : Int, cellAt h1 ⟨y0, 0, none⟩ = some (.int .u32 n3)
    ∧ K (.bool (n2 == n3)) h1
theorem q_extent_numbered_1_calls (x0a : Int) (x0b : Int) (x0c : Int) (x0d : Int) (x0e : ByteArray) (x0f : Int) (y0 : Nat) (h : Hp) (K : Value → Hp → Prop) (hq : q_extent_numbered_1 x0a x0b x0c x0d x0e x0f y0 h K) : CallsH Try.prog f_extent_numbered_1 #[(.agg #[(.int .u32 x0a), (.int .i64 x0b), (.int .i64 x0c), (.int .u8 x0d), (.string x0e), (.int .u8 x0f)]), (.pointer (some ⟨y0, 0, none⟩))] h K := by
  have e : q_extent_numbered_1 x0a x0b x0c x0d x0e x0f y0 h K = fnT Try.prog 8 q_extent_numbered_1_ann Try.f194 (bodyOf Try.f194) [(.agg #[(.int .u32 x0a), (.int .i64 x0b), (.int .i64 x0c), (.int .u8 x0d), (.string x0e), (.int .u8 x0f)]), (.pointer (some ⟨y0, 0, none⟩))] h K := by kernel_rfl
  rw [e] at hq
  exact calls_of_fnT (n := 8) (ann := q_extent_numbered_1_ann) mixOk Try.func194 (by kernel_rfl) (by kernel_rfl) (fun args w => Try.call194 args w) (by kernel_rfl) hq

def q_extent_end_ann : Ann := { loops := fun _ => [], ty := fun _ => [], canon := fun _ => [], cuts := fun _ => none }
def q_extent_end (x0a : Int) (x0b : Int) (x0c : Int) (x0d : Int) (x0e : ByteArray) (x0f : Int) (h : Hp) (K : Value → Hp → Prop) : Prop :=
    letH (h.push (.cells #[(.int .u32 x0a), (.int .i64 x0b), (.int .i64 x0c), (.int .u8 x0d), (.string x0e), (.int .u8 x0f)] T_N_api_Extent)) fun h1 => ∃ n2 : Int, cellAt h1 ⟨h.size, 1, none⟩ = some (.int .i64 n2) ∧ ∃ n3 : Int, cellAt h1 ⟨h.size, 2, none⟩ = some (.int .i64 n3)
    ∧ K (.int .i64 (IntKind.wrap .i64 (n2 + n3))) h1
theorem q_extent_end_calls (x0a : Int) (x0b : Int) (x0c : Int) (x0d : Int) (x0e : ByteArray) (x0f : Int) (h : Hp) (K : Value → Hp → Prop) (hq : q_extent_end x0a x0b x0c x0d x0e x0f h K) : CallsH Try.prog f_extent_end #[(.agg #[(.int .u32 x0a), (.int .i64 x0b), (.int .i64 x0c), (.int .u8 x0d), (.string x0e), (.int .u8 x0f)])] h K := by
  have e : q_extent_end x0a x0b x0c x0d x0e x0f h K = fnT Try.prog 8 q_extent_end_ann Try.f161 (bodyOf Try.f161) [(.agg #[(.int .u32 x0a), (.int .i64 x0b), (.int .i64 x0c), (.int .u8 x0d), (.string x0e), (.int .u8 x0f)])] h K := by kernel_rfl
  rw [e] at hq
  exact calls_of_fnT (n := 8) (ann := q_extent_end_ann) mixOk Try.func161 (by kernel_rfl) (by kernel_rfl) (fun args w => Try.call161 args w) (by kernel_rfl) hq

def q_extent_ahead_ann : Ann := { loops := fun _ => [], ty := fun _ => [], canon := fun _ => [], cuts := fun _ => none }
def q_extent_ahead (x0a : Int) (x0b : Int) (x0c : Int) (x0d : Int) (x0e : ByteArray) (x0f : Int) (x1a : Int) (x1b : Int) (x1c : Int) (x1d : Int) (x1e : ByteArray) (x1f : Int) (h : Hp) (K : Value → Hp → Prop) : Prop :=
    letH (h.push (.cells #[(.int .u32 x0a), (.int .i64 x0b), (.int .i64 x0c), (.int .u8 x0d), (.string x0e), (.int .u8 x0f)] T_N_api_Extent)) fun h1 => letH (h1.push (.cells #[(.int .u32 x1a), (.int .i64 x1b), (.int .i64 x1c), (.int .u8 x1d), (.string x1e), (.int .u8 x1f)] T_N_api_Extent)) fun h2
    => ∃ n3 : Int, cellAt h2 ⟨h.size, 1, none⟩ = some (.int .i64 n3) ∧ ∃ n4 : Int, cellAt h2 ⟨h1.size, 1, none⟩ = some (.int .i64 n4) ∧ K (.bool (decide (n3 < n4))) h2
theorem q_extent_ahead_calls (x0a : Int) (x0b : Int) (x0c : Int) (x0d : Int) (x0e : ByteArray) (x0f : Int) (x1a : Int) (x1b : Int) (x1c : Int) (x1d : Int) (x1e : ByteArray) (x1f : Int) (h : Hp) (K : Value → Hp → Prop) (hq : q_extent_ahead x0a x0b x0c x0d x0e x0f x1a x1b x1c x1d x1e x1f h K) : CallsH Try.prog f_extent_ahead #[(.agg #[(.int .u32 x0a), (.int .i64 x0b), (.int .i64 x0c), (.int .u8 x0d), (.string x0e), (.int .u8 x0f)]), (.agg #[(.int .u32 x1a), (.int .i64 x1b), (.int .i64 x1c), (.int .u8 x1d), (.string x1e), (.int .u8 x1f)])] h K := by
  have e : q_extent_ahead x0a x0b x0c x0d x0e x0f x1a x1b x1c x1d x1e x1f h K = fnT Try.prog 10 q_extent_ahead_ann Try.f185 (bodyOf Try.f185) [(.agg #[(.int .u32 x0a), (.int .i64 x0b), (.int .i64 x0c), (.int .u8 x0d), (.string x0e), (.int .u8 x0f)]), (.agg #[(.int .u32 x1a), (.int .i64 x1b), (.int .i64 x1c), (.int .u8 x1d), (.string x1e), (.int .u8 x1f)])] h K := by kernel_rfl
  rw [e] at hq
  exact calls_of_fnT (n := 10) (ann := q_extent_ahead_ann) mixOk Try.func185 (by kernel_rfl) (by kernel_rfl) (fun args w => Try.call185 args w) (by kernel_rfl) hq

def q_extent_one_ann : Ann := { loops := fun _ => [], ty := fun _ => [], canon := fun _ => [], cuts := fun _ => none }
def q_extent_one (x0 : Nat) (h : Hp) (K : Value → Hp → Prop) : Prop :=
    letH (h.push (.cells (zeroCells Try.prog T_N_api_Extent) T_N_api_Extent)) fun h1 => ∃ n2 : Int, cellAt h1 ⟨x0, 0, none⟩ = some (.int .u32 n2) ∧ ∃ n3 : Int, cellAt h1 ⟨x0, 1, none⟩ = some (.int .i64 n3) ∧ ∃ n4 : Int, cellAt h1 ⟨x0, 2, none⟩ = some (.int .i64 n4)
    ∧ ∃ n5 : Int, cellAt h1 ⟨x0, 3, none⟩ = some (.int .u8 n5) ∧ ∃ s6 : ByteArray, cellAt h1 ⟨x0, 4, none⟩ = some (.string s6) ∧ ∃ n7 : Int, cellAt h1 ⟨x0, 5, none⟩ = some (.int .u8 n7) ∧ (∃ old, cellAt h1 ⟨h.size, 0, none⟩ = some old)
    ∧ frozenAt h1 ⟨h.size, 0, none⟩ = false ∧ letH (setH h1 ⟨h.size, 0, none⟩ (.int .u32 n2)) fun h8 => (∃ old, cellAt h8 ⟨h.size, 1, none⟩ = some old) ∧ frozenAt h8 ⟨h.size, 1, none⟩ = false ∧ letH (setH h8 ⟨h.size, 1, none⟩ (.int .i64 n3)) fun h9
    => (∃ old, cellAt h9 ⟨h.size, 2, none⟩ = some old) ∧ frozenAt h9 ⟨h.size, 2, none⟩ = false ∧ letH (setH h9 ⟨h.size, 2, none⟩ (.int .i64 n4)) fun h10 => (∃ old, cellAt h10 ⟨h.size, 3, none⟩ = some old) ∧ frozenAt h10 ⟨h.size, 3, none⟩ = false
    ∧ letH (setH h10 ⟨h.size, 3, none⟩ (.int .u8 n5)) fun h11 => (∃ old, cellAt h11 ⟨h.size, 4, none⟩ = some old) ∧ frozenAt h11 ⟨h.size, 4, none⟩ = false ∧ letH (setH h11 ⟨h.size, 4, none⟩ (.string s6)) fun h12 => (∃ old, cellAt h12 ⟨h.size, 5, none⟩ = some old)
    ∧ frozenAt h12 ⟨h.size, 5, none⟩ = false ∧ letH (setH h12 ⟨h.size, 5, none⟩ (.int .u8 n7)) fun h13 => ∃ n14 : Int, cellAt h13 ⟨h.size, 0, none⟩ = some (.int .u32 n14) ∧ ∃ n15 : Int, cellAt h13 ⟨h.size, 1, none⟩ = some (.int .i64 n15)
    ∧ ∃ n16 : Int, cellAt h13 ⟨h.size, 2, none⟩ = some (.int .i64 n16) ∧ ∃ n17 : Int, cellAt h13 ⟨h.size, 3, none⟩ = some (.int .u8 n17) ∧ ∃ s18 : ByteArray, cellAt h13 ⟨h.size, 4, none⟩ = some (.string s18) ∧ ∃ n19 : Int, cellAt h13 ⟨h.size, 5, none⟩ = some (.int .u8 n19)
    ∧ K (.tuple #[(.agg #[(.int .u32 n14), (.int .i64 n15), (.int .i64 n16), (.int .u8 n17), (.string s18), (.int .u8 n19)]), (.bool true)]) h13
theorem q_extent_one_calls (x0 : Nat) (h : Hp) (K : Value → Hp → Prop) (hq : q_extent_one x0 h K) : CallsH Try.prog f_extent_one #[(.pointer (some ⟨x0, 0, none⟩))] h K := by
  have e : q_extent_one x0 h K = fnT Try.prog 10 q_extent_one_ann Try.f166 (bodyOf Try.f166) [(.pointer (some ⟨x0, 0, none⟩))] h K := by kernel_rfl
  rw [e] at hq
  exact calls_of_fnT (n := 10) (ann := q_extent_one_ann) mixOk Try.func166 (by kernel_rfl) (by kernel_rfl) (fun args w => Try.call166 args w) (by kernel_rfl) hq

def q_extent_Table_meets_ann : Ann := { loops := fun _ => [], ty := fun _ => [], canon := fun _ => [], cuts := fun _ => none }
def q_extent_Table_meets (x0 : Nat) (x1 : Int) (x2 : Int) (h : Hp) (K : Value → Hp → Prop) : Prop :=
    letH (h.push (.cells #[(.int .i64 x1)] T_int)) fun h1 => letH (h1.push (.cells #[(.int .i64 x2)] T_int)) fun h2 => CallsH Try.prog f_extent_list_api_Extent_find #[(.pointer (some ⟨x0, 1, none⟩)), (.func (.func f_extent_Table_meets_1) #[] #[(.pointer (some ⟨h1.size, 0, none⟩)), (.pointer (some ⟨h.size, 0, none⟩))])] h2 fun r3 h4
    => ∃ p5 : Option Addr, r3 = (.pointer p5) ∧ K (.pointer p5) h4
theorem q_extent_Table_meets_calls (x0 : Nat) (x1 : Int) (x2 : Int) (h : Hp) (K : Value → Hp → Prop) (hq : q_extent_Table_meets x0 x1 x2 h K) : CallsH Try.prog f_extent_Table_meets #[(.pointer (some ⟨x0, 0, none⟩)), (.int .i64 x1), (.int .i64 x2)] h K := by
  have e : q_extent_Table_meets x0 x1 x2 h K = fnT Try.prog 12 q_extent_Table_meets_ann Try.f163 (bodyOf Try.f163) [(.pointer (some ⟨x0, 0, none⟩)), (.int .i64 x1), (.int .i64 x2)] h K := by kernel_rfl
  rw [e] at hq
  exact calls_of_fnT (n := 12) (ann := q_extent_Table_meets_ann) mixOk Try.func163 (by kernel_rfl) (by kernel_rfl) (fun args w => Try.call163 args w) (by kernel_rfl) hq

def q_extent_Table_meets_1_ann : Ann := { loops := fun _ => [], ty := fun _ => [], canon := fun x => match x with | 1 => [0, 1, 2, 3, 4, 5, 6, 7, 8, 9, 10] | _ => [], cuts := fun _ => none }
def q_extent_Table_meets_1 (x0a : Int) (x0b : Int) (x0c : Int) (x0d : Int) (x0e : ByteArray) (x0f : Int) (y0 : Nat) (y1 : Nat) (h : Hp) (K : Value → Hp → Prop) : Prop :=
    letH (h.push (.cells #[(.int .u32 x0a), (.int .i64 x0b), (.int .i64 x0c), (.int .u8 x0d), (.string x0e), (.int .u8 x0f)] T_N_api_Extent)) fun h1 => ∃ n2 : Int, cellAt h1 ⟨h.size, 1, none⟩ = some (.int .i64 n2) ∧ ∃ n3 : Int, cellAt h1 ⟨y0, 0, none⟩ = some (.int .i64 n3)
    ∧ iteP (decide (n2 < n3)) (∃ n4 : Int, cellAt h1 ⟨y1, 0, none⟩ = some (.int .i64 n4) ∧ ∃ n5 : Int, cellAt h1 ⟨h.size, 0, none⟩ = some (.int .u32 n5) ∧ ∃ n6 : Int, cellAt h1 ⟨h.size, 1, none⟩ = some (.int .i64 n6) ∧ ∃ n7 : Int, cellAt h1 ⟨h.size, 2, none⟩ = some (.int .i64 n7)
    ∧ ∃ n8 : Int, cellAt h1 ⟨h.size, 3, none⟩ = some (.int .u8 n8) ∧ ∃ s9 : ByteArray, cellAt h1 ⟨h.size, 4, none⟩ = some (.string s9) ∧ ∃ n10 : Int, cellAt h1 ⟨h.size, 5, none⟩ = some (.int .u8 n10) ∧ CallsH Try.prog f_extent_end #[(.agg #[(.int .u32 n5), (.int .i64 n6), (.int .i64 n7), (.int .u8 n8), (.string s9), (.int .u8 n10)])] h1 fun r11 h12
    => ∃ n13 : Int, r11 = (.int .i64 n13) ∧ (∃ n14 : Int, cellAt h12 ⟨y1, 0, none⟩ = some (.int .i64 n14) ∧ ((.int .i64 n14) : Value) = (.int .i64 n4)) ∧ K (.bool (decide (n4 < n13))) h12) (K (.bool false) h1)
theorem q_extent_Table_meets_1_calls (x0a : Int) (x0b : Int) (x0c : Int) (x0d : Int) (x0e : ByteArray) (x0f : Int) (y0 : Nat) (y1 : Nat) (h : Hp) (K : Value → Hp → Prop) (hq : q_extent_Table_meets_1 x0a x0b x0c x0d x0e x0f y0 y1 h K) : CallsH Try.prog f_extent_Table_meets_1 #[(.agg #[(.int .u32 x0a), (.int .i64 x0b), (.int .i64 x0c), (.int .u8 x0d), (.string x0e), (.int .u8 x0f)]), (.pointer (some ⟨y0, 0, none⟩)), (.pointer (some ⟨y1, 0, none⟩))] h K := by
  have e : q_extent_Table_meets_1 x0a x0b x0c x0d x0e x0f y0 y1 h K = fnT Try.prog 15 q_extent_Table_meets_1_ann Try.f193 (bodyOf Try.f193) [(.agg #[(.int .u32 x0a), (.int .i64 x0b), (.int .i64 x0c), (.int .u8 x0d), (.string x0e), (.int .u8 x0f)]), (.pointer (some ⟨y0, 0, none⟩)), (.pointer (some ⟨y1, 0, none⟩))] h K := by kernel_rfl
  rw [e] at hq
  exact calls_of_fnT (n := 15) (ann := q_extent_Table_meets_1_ann) mixOk Try.func193 (by kernel_rfl) (by kernel_rfl) (fun args w => Try.call193 args w) (by kernel_rfl) hq

def q_extent_Table_add_ann : Ann := { loops := fun _ => [], ty := fun _ => [], canon := fun x => match x with | 3 => [0, 1, 2, 3, 4] | _ => [], cuts := fun _ => none }
def q_extent_Table_add (x0 : Nat) (x1a : Int) (x1b : Int) (x1c : Int) (x1d : Int) (x1e : ByteArray) (x1f : Int) (h : Hp) (K : Value → Hp → Prop) : Prop :=
    letH (h.push (.cells #[(.int .u32 x1a), (.int .i64 x1b), (.int .i64 x1c), (.int .u8 x1d), (.string x1e), (.int .u8 x1f)] T_N_api_Extent)) fun h1 => ∃ n2 : Int, cellAt h1 ⟨x0, 3, none⟩ = some (.int .u32 n2) ∧ (∃ old, cellAt h1 ⟨x0, 3, none⟩ = some old)
    ∧ frozenAt h1 ⟨x0, 3, none⟩ = false ∧ letH (setH h1 ⟨x0, 3, none⟩ (.int .u32 (IntKind.wrap .u32 (n2 + 1)))) fun h3 => ∃ n4 : Int, cellAt h3 ⟨x0, 3, none⟩ = some (.int .u32 n4) ∧ (∃ old, cellAt h3 ⟨h.size, 0, none⟩ = some old)
    ∧ frozenAt h3 ⟨h.size, 0, none⟩ = false ∧ letH (setH h3 ⟨h.size, 0, none⟩ (.int .u32 n4)) fun h5 => ∃ n6 : Int, cellAt h5 ⟨h.size, 0, none⟩ = some (.int .u32 n6) ∧ ∃ n7 : Int, cellAt h5 ⟨h.size, 1, none⟩ = some (.int .i64 n7)
    ∧ ∃ n8 : Int, cellAt h5 ⟨h.size, 2, none⟩ = some (.int .i64 n8) ∧ ∃ n9 : Int, cellAt h5 ⟨h.size, 3, none⟩ = some (.int .u8 n9) ∧ ∃ s10 : ByteArray, cellAt h5 ⟨h.size, 4, none⟩ = some (.string s10) ∧ ∃ n11 : Int, cellAt h5 ⟨h.size, 5, none⟩ = some (.int .u8 n11)
    ∧ CallsH Try.prog f_extent_list_api_Extent_insert #[(.pointer (some ⟨x0, 1, none⟩)), (.agg #[(.int .u32 n6), (.int .i64 n7), (.int .i64 n8), (.int .u8 n9), (.string s10), (.int .u8 n11)]), (.func (.func f_extent_ahead) #[] #[])] h5 fun r12 h13
    => r12 = (.tuple #[]) ∧ ∃ n14 : Int, cellAt h13 ⟨h.size, 0, none⟩ = some (.int .u32 n14) ∧ K (.int .u32 n14) h13
theorem q_extent_Table_add_calls (x0 : Nat) (x1a : Int) (x1b : Int) (x1c : Int) (x1d : Int) (x1e : ByteArray) (x1f : Int) (h : Hp) (K : Value → Hp → Prop) (hq : q_extent_Table_add x0 x1a x1b x1c x1d x1e x1f h K) : CallsH Try.prog f_extent_Table_add #[(.pointer (some ⟨x0, 0, none⟩)), (.agg #[(.int .u32 x1a), (.int .i64 x1b), (.int .i64 x1c), (.int .u8 x1d), (.string x1e), (.int .u8 x1f)])] h K := by
  have e : q_extent_Table_add x0 x1a x1b x1c x1d x1e x1f h K = fnT Try.prog 24 q_extent_Table_add_ann Try.f164 (bodyOf Try.f164) [(.pointer (some ⟨x0, 0, none⟩)), (.agg #[(.int .u32 x1a), (.int .i64 x1b), (.int .i64 x1c), (.int .u8 x1d), (.string x1e), (.int .u8 x1f)])] h K := by kernel_rfl
  rw [e] at hq
  exact calls_of_fnT (n := 24) (ann := q_extent_Table_add_ann) mixOk Try.func164 (by kernel_rfl) (by kernel_rfl) (fun args w => Try.call164 args w) (by kernel_rfl) hq

def q_extent_Table_own_ann : Ann := { loops := fun _ => [], ty := fun _ => [], canon := fun x => match x with | 3 => [0, 1, 2, 3, 4, 5, 6] | _ => [], cuts := fun _ => none }
def q_extent_Table_own (x0 : Nat) (x1 : Int) (x2 : Int) (h : Hp) (K : Value → Hp → Prop) : Prop :=
    CallsH Try.prog f_extent_numbered #[(.int .u32 x2)] h fun r1 h2 => ∃ v3 : Value, r1 = v3 ∧ CallsH Try.prog f_extent_list_api_Extent_find #[(.pointer (some ⟨x0, 1, none⟩)), v3] h2 fun r4 h5 => ∃ p6 : Option Addr, r4 = (.pointer p6)
    ∧ iteP p6.isNone (K (.tuple #[(.pointer none), (.int .i64 5)]) h5) (wth p6 fun a7 => ∃ n8 : Int, cellAt h5 (a7.add 3) = some (.int .u8 n8) ∧ iteP (n8 != x1) (K (.tuple #[(.pointer none), (.int .i64 7)]) h5) (K (.tuple #[(.pointer p6), (.int .i64 0)]) h5))
theorem q_extent_Table_own_calls (x0 : Nat) (x1 : Int) (x2 : Int) (h : Hp) (K : Value → Hp → Prop) (hq : q_extent_Table_own x0 x1 x2 h K) : CallsH Try.prog f_extent_Table_own #[(.pointer (some ⟨x0, 0, none⟩)), (.int .u8 x1), (.int .u32 x2)] h K := by
  have e : q_extent_Table_own x0 x1 x2 h K = fnT Try.prog 28 q_extent_Table_own_ann Try.f172 (bodyOf Try.f172) [(.pointer (some ⟨x0, 0, none⟩)), (.int .u8 x1), (.int .u32 x2)] h K := by kernel_rfl
  rw [e] at hq
  exact calls_of_fnT (n := 28) (ann := q_extent_Table_own_ann) mixOk Try.func172 (by kernel_rfl) (by kernel_rfl) (fun args w => Try.call172 args w) (by kernel_rfl) hq

def q_extent_Table_Free_ann : Ann := { loops := fun _ => [], ty := fun _ => [], canon := fun x => match x with | 3 => [0, 1, 2, 3, 4, 5] | _ => [], cuts := fun _ => none }
def q_extent_Table_Free (x0 : Nat) (x1 : Int) (x2 : Int) (h : Hp) (K : Value → Hp → Prop) : Prop :=
    CallsH Try.prog f_extent_Table_own #[(.pointer (some ⟨x0, 0, none⟩)), (.int .u8 x1), (.int .u32 x2)] h fun r1 h2 => ∃ p3 : Option Addr, ∃ n4 : Int, r1 = (.tuple #[(.pointer p3), (.int .i64 n4)]) ∧ iteP (n4 == 0) (CallsH Try.prog f_extent_numbered #[(.int .u32 x2)] h2 fun r5 h6
    => ∃ v7 : Value, r5 = v7 ∧ CallsH Try.prog f_extent_list_api_Extent_remove #[(.pointer (some ⟨x0, 1, none⟩)), v7] h6 fun r8 h9 => r8 = (.tuple #[]) ∧ K (.int .i64 n4) h9) (K (.int .i64 n4) h2)
theorem q_extent_Table_Free_calls (x0 : Nat) (x1 : Int) (x2 : Int) (h : Hp) (K : Value → Hp → Prop) (hq : q_extent_Table_Free x0 x1 x2 h K) : CallsH Try.prog f_extent_Table_Free #[(.pointer (some ⟨x0, 0, none⟩)), (.int .u8 x1), (.int .u32 x2)] h K := by
  have e : q_extent_Table_Free x0 x1 x2 h K = fnT Try.prog 25 q_extent_Table_Free_ann Try.f143 (bodyOf Try.f143) [(.pointer (some ⟨x0, 0, none⟩)), (.int .u8 x1), (.int .u32 x2)] h K := by kernel_rfl
  rw [e] at hq
  exact calls_of_fnT (n := 25) (ann := q_extent_Table_Free_ann) mixOk Try.func143 (by kernel_rfl) (by kernel_rfl) (fun args w => Try.call143 args w) (by kernel_rfl) hq

def q_extent_Table_Get_ann : Ann := { loops := fun _ => [], ty := fun _ => [], canon := fun x => match x with | 3 => [0, 1, 2, 3, 4, 5, 6, 7, 8, 9, 10] | _ => [], cuts := fun _ => none }
def q_extent_Table_Get (x0 : Nat) (x1 : Int) (h : Hp) (K : Value → Hp → Prop) : Prop :=
    letH (h.push (.cells (zeroCells Try.prog T_N_api_Extent) T_N_api_Extent)) fun h1 => CallsH Try.prog f_extent_numbered #[(.int .u32 x1)] h1 fun r2 h3 => ∃ v4 : Value, r2 = v4 ∧ CallsH Try.prog f_extent_list_api_Extent_find #[(.pointer (some ⟨x0, 1, none⟩)), v4] h3 fun r5 h6
    => ∃ p7 : Option Addr, r5 = (.pointer p7) ∧ CallsH Try.prog f_extent_one #[(.pointer p7)] h6 fun r8 h9 => ∃ n10 : Int, ∃ n11 : Int, ∃ n12 : Int, ∃ n13 : Int, ∃ s14 : ByteArray, ∃ n15 : Int, ∃ b16 : Bool, r8 = (.tuple #[(.agg #[(.int .u32 n10), (.int .i64 n11), (.int .i64 n12), (.int .u8 n13), (.string s14), (.int .u8 n15)]), (.bool b16)])
    ∧ (∃ old, cellAt h9 ⟨h.size, 0, none⟩ = some old) ∧ frozenAt h9 ⟨h.size, 0, none⟩ = false ∧ letH (setH h9 ⟨h.size, 0, none⟩ (.int .u32 n10)) fun h17 => (∃ old, cellAt h17 ⟨h.size, 1, none⟩ = some old) ∧ frozenAt h17 ⟨h.size, 1, none⟩ = false
    ∧ letH (setH h17 ⟨h.size, 1, none⟩ (.int .i64 n11)) fun h18 => (∃ old, cellAt h18 ⟨h.size, 2, none⟩ = some old) ∧ frozenAt h18 ⟨h.size, 2, none⟩ = false ∧ letH (setH h18 ⟨h.size, 2, none⟩ (.int .i64 n12)) fun h19 => (∃ old, cellAt h19 ⟨h.size, 3, none⟩ = some old)
    ∧ frozenAt h19 ⟨h.size, 3, none⟩ = false ∧ letH (setH h19 ⟨h.size, 3, none⟩ (.int .u8 n13)) fun h20 => (∃ old, cellAt h20 ⟨h.size, 4, none⟩ = some old) ∧ frozenAt h20 ⟨h.size, 4, none⟩ = false ∧ letH (setH h20 ⟨h.size, 4, none⟩ (.string s14)) fun h21
    => (∃ old, cellAt h21 ⟨h.size, 5, none⟩ = some old) ∧ frozenAt h21 ⟨h.size, 5, none⟩ = false ∧ letH (setH h21 ⟨h.size, 5, none⟩ (.int .u8 n15)) fun h22 => ∃ n23 : Int, cellAt h22 ⟨h.size, 0, none⟩ = some (.int .u32 n23) ∧
    ∃ n24 : Int, cellAt h22 ⟨h.size, 1, none⟩ = some (.int .i64 n24) ∧ ∃ n25 : Int, cellAt h22 ⟨h.size, 2, none⟩ = some (.int .i64 n25) ∧ ∃ n26 : Int, cellAt h22 ⟨h.size, 3, none⟩ = some (.int .u8 n26) ∧ ∃ s27 : ByteArray, cellAt h22 ⟨h.size, 4, none⟩ = some (.string s27)
    ∧ ∃ n28 : Int, cellAt h22 ⟨h.size, 5, none⟩ = some (.int .u8 n28) ∧ K (.tuple #[(.agg #[(.int .u32 n23), (.int .i64 n24), (.int .i64 n25), (.int .u8 n26), (.string s27), (.int .u8 n28)]), (.bool b16)]) h22
theorem q_extent_Table_Get_calls (x0 : Nat) (x1 : Int) (h : Hp) (K : Value → Hp → Prop) (hq : q_extent_Table_Get x0 x1 h K) : CallsH Try.prog f_extent_Table_Get #[(.pointer (some ⟨x0, 0, none⟩)), (.int .u32 x1)] h K := by
  have e : q_extent_Table_Get x0 x1 h K = fnT Try.prog 18 q_extent_Table_Get_ann Try.f127 (bodyOf Try.f127) [(.pointer (some ⟨x0, 0, none⟩)), (.int .u32 x1)] h K := by kernel_rfl
  rw [e] at hq
  exact calls_of_fnT (n := 18) (ann := q_extent_Table_Get_ann) mixOk Try.func127 (by kernel_rfl) (by kernel_rfl) (fun args w => Try.call127 args w) (by kernel_rfl) hq

def q_extent_Table_Room_ann : Ann := { loops := fun x => match x with | 1 => [(6, T_int), (18, T_int)] | _ => [], ty := fun _ => [], canon := fun _ => [], cuts := fun _ => none }
def q_extent_Table_Room (x0 : Nat) (x1 : Int) (h : Hp) (K : Value → Hp → Prop) : Prop :=
    iteP (decide (x1 < 1)) (K (.tuple #[(.int .i64 0), (.int .i64 2)]) h) (CallsH Try.prog f_extent_Table_List #[(.pointer (some ⟨x0, 0, none⟩))] h fun r1 h2 => ∃ (p3 : Option Addr) (l4 c5 : Nat), r1 = (.slice p3 l4 c5) ∧ ∃ (I6 : Int → Int → Hp → Prop) (μ7 : Int → Int → Hp → Nat), I6 0 0 h2
    ∧ ∀ i8 i9 h10, I6 i8 i9 h10 → iteP (decide (i9 < ((l4 : Nat) : Int))) ((0 : Int) ≤ i9 ∧ i9 < ((l4 : Nat) : Int) ∧ wth p3 fun a11 => ∃ n12 : Int, cellAt h10 (a11.add (Int.toNat i9 * 6)) = some (.int .u32 n12) ∧ ∃ n13 : Int, cellAt h10 ((a11.add (Int.toNat i9 * 6)).add 1) = some (.int .i64 n13)
    ∧ ∃ n14 : Int, cellAt h10 ((a11.add (Int.toNat i9 * 6)).add 2) = some (.int .i64 n14) ∧ ∃ n15 : Int, cellAt h10 ((a11.add (Int.toNat i9 * 6)).add 3) = some (.int .u8 n15) ∧ ∃ s16 : ByteArray, cellAt h10 ((a11.add (Int.toNat i9 * 6)).add 4) = some (.string s16)
    ∧ ∃ n17 : Int, cellAt h10 ((a11.add (Int.toNat i9 * 6)).add 5) = some (.int .u8 n17) ∧ letH (h10.push (.cells (zeroCells Try.prog T_N_api_Extent) T_N_api_Extent)) fun h18 => (∃ old, cellAt h18 ⟨h10.size, 0, none⟩ = some old)
    ∧ frozenAt h18 ⟨h10.size, 0, none⟩ = false ∧ letH (setH h18 ⟨h10.size, 0, none⟩ (.int .u32 n12)) fun h19 => (∃ old, cellAt h19 ⟨h10.size, 1, none⟩ = some old) ∧ frozenAt h19 ⟨h10.size, 1, none⟩ = false ∧ letH (setH h19 ⟨h10.size, 1, none⟩ (.int .i64 n13)) fun h20
    => (∃ old, cellAt h20 ⟨h10.size, 2, none⟩ = some old) ∧ frozenAt h20 ⟨h10.size, 2, none⟩ = false ∧ letH (setH h20 ⟨h10.size, 2, none⟩ (.int .i64 n14)) fun h21 => (∃ old, cellAt h21 ⟨h10.size, 3, none⟩ = some old) ∧ frozenAt h21 ⟨h10.size, 3, none⟩ = false
    ∧ letH (setH h21 ⟨h10.size, 3, none⟩ (.int .u8 n15)) fun h22 => (∃ old, cellAt h22 ⟨h10.size, 4, none⟩ = some old) ∧ frozenAt h22 ⟨h10.size, 4, none⟩ = false ∧ letH (setH h22 ⟨h10.size, 4, none⟩ (.string s16)) fun h23 =>
    (∃ old, cellAt h23 ⟨h10.size, 5, none⟩ = some old) ∧ frozenAt h23 ⟨h10.size, 5, none⟩ = false ∧ letH (setH h23 ⟨h10.size, 5, none⟩ (.int .u8 n17)) fun h24 => ∃ n25 : Int, cellAt h24 ⟨h10.size, 1, none⟩ = some (.int .i64 n25)
    ∧ iteP (decide (x1 ≤ (IntKind.wrap .i64 (n25 - i8)))) (K (.tuple #[(.int .i64 i8), (.int .i64 0)]) h24) (∃ n26 : Int, cellAt h24 ⟨h10.size, 0, none⟩ = some (.int .u32 n26) ∧ ∃ n27 : Int, cellAt h24 ⟨h10.size, 1, none⟩ = some (.int .i64 n27)
    ∧ ∃ n28 : Int, cellAt h24 ⟨h10.size, 2, none⟩ = some (.int .i64 n28) ∧ ∃ n29 : Int, cellAt h24 ⟨h10.size, 3, none⟩ = some (.int .u8 n29) ∧ ∃ s30 : ByteArray, cellAt h24 ⟨h10.size, 4, none⟩ = some (.string s30) ∧ ∃ n31 : Int, cellAt h24 ⟨h10.size, 5, none⟩ = some (.int .u8 n31)
    ∧ CallsH Try.prog f_extent_end #[(.agg #[(.int .u32 n26), (.int .i64 n27), (.int .i64 n28), (.int .u8 n29), (.string s30), (.int .u8 n31)])] h24 fun r32 h33 => ∃ n34 : Int, r32 = (.int .i64 n34) ∧ I6 n34 (IntKind.wrap .i64 (i9 + 1)) h33
    ∧ μ7 n34 (IntKind.wrap .i64 (i9 + 1)) h33 < μ7 i8 i9 h10)) (∃ n35 : Int, cellAt h10 ⟨x0, 0, none⟩ = some (.int .i64 n35) ∧ iteP (decide (x1 ≤ (IntKind.wrap .i64 (n35 - i8)))) (K (.tuple #[(.int .i64 i8), (.int .i64 0)]) h10) (K (.tuple #[(.int .i64 0), (.int .i64 4)]) h10)))
theorem q_extent_Table_Room_calls (x0 : Nat) (x1 : Int) (h : Hp) (K : Value → Hp → Prop) (hq : q_extent_Table_Room x0 x1 h K) : CallsH Try.prog f_extent_Table_Room #[(.pointer (some ⟨x0, 0, none⟩)), (.int .i64 x1)] h K := by
  have e : q_extent_Table_Room x0 x1 h K = fnT Try.prog 41 q_extent_Table_Room_ann Try.f123 (bodyOf Try.f123) [(.pointer (some ⟨x0, 0, none⟩)), (.int .i64 x1)] h K := by kernel_rfl
  rw [e] at hq
  exact calls_of_fnT (n := 41) (ann := q_extent_Table_Room_ann) mixOk Try.func123 (by kernel_rfl) (by kernel_rfl) (fun args w => Try.call123 args w) (by kernel_rfl) hq

def q_extent_Table_Left_ann : Ann := { loops := fun x => match x with | 0 => [(3, T_int), (15, T_int)] | _ => [], ty := fun _ => [], canon := fun _ => [], cuts := fun _ => none }
def q_extent_Table_Left (x0 : Nat) (h : Hp) (K : Value → Hp → Prop) : Prop :=
    ∃ n1 : Int, cellAt h ⟨x0, 0, none⟩ = some (.int .i64 n1) ∧ CallsH Try.prog f_extent_Table_List #[(.pointer (some ⟨x0, 0, none⟩))] h fun r2 h3 => ∃ (p4 : Option Addr) (l5 c6 : Nat), r2 = (.slice p4 l5 c6) ∧ ∃ (I7 : Int → Int → Hp → Prop) (μ8 : Int → Int → Hp → Nat), I7 n1 0 h3
    ∧ ∀ i9 i10 h11, I7 i9 i10 h11 → iteP (decide (i10 < ((l5 : Nat) : Int))) ((0 : Int) ≤ i10 ∧ i10 < ((l5 : Nat) : Int) ∧ wth p4 fun a12 => ∃ n13 : Int, cellAt h11 (a12.add (Int.toNat i10 * 6)) = some (.int .u32 n13) ∧ ∃ n14 : Int, cellAt h11 ((a12.add (Int.toNat i10 * 6)).add 1) = some (.int .i64 n14)
    ∧ ∃ n15 : Int, cellAt h11 ((a12.add (Int.toNat i10 * 6)).add 2) = some (.int .i64 n15) ∧ ∃ n16 : Int, cellAt h11 ((a12.add (Int.toNat i10 * 6)).add 3) = some (.int .u8 n16) ∧ ∃ s17 : ByteArray, cellAt h11 ((a12.add (Int.toNat i10 * 6)).add 4) = some (.string s17)
    ∧ ∃ n18 : Int, cellAt h11 ((a12.add (Int.toNat i10 * 6)).add 5) = some (.int .u8 n18) ∧ letH (h11.push (.cells (zeroCells Try.prog T_N_api_Extent) T_N_api_Extent)) fun h19 => (∃ old, cellAt h19 ⟨h11.size, 0, none⟩ = some old)
    ∧ frozenAt h19 ⟨h11.size, 0, none⟩ = false ∧ letH (setH h19 ⟨h11.size, 0, none⟩ (.int .u32 n13)) fun h20 => (∃ old, cellAt h20 ⟨h11.size, 1, none⟩ = some old) ∧ frozenAt h20 ⟨h11.size, 1, none⟩ = false ∧ letH (setH h20 ⟨h11.size, 1, none⟩ (.int .i64 n14)) fun h21
    => (∃ old, cellAt h21 ⟨h11.size, 2, none⟩ = some old) ∧ frozenAt h21 ⟨h11.size, 2, none⟩ = false ∧ letH (setH h21 ⟨h11.size, 2, none⟩ (.int .i64 n15)) fun h22 => (∃ old, cellAt h22 ⟨h11.size, 3, none⟩ = some old) ∧ frozenAt h22 ⟨h11.size, 3, none⟩ = false
    ∧ letH (setH h22 ⟨h11.size, 3, none⟩ (.int .u8 n16)) fun h23 => (∃ old, cellAt h23 ⟨h11.size, 4, none⟩ = some old) ∧ frozenAt h23 ⟨h11.size, 4, none⟩ = false ∧ letH (setH h23 ⟨h11.size, 4, none⟩ (.string s17)) fun h24 =>
    (∃ old, cellAt h24 ⟨h11.size, 5, none⟩ = some old) ∧ frozenAt h24 ⟨h11.size, 5, none⟩ = false ∧ letH (setH h24 ⟨h11.size, 5, none⟩ (.int .u8 n18)) fun h25 => ∃ n26 : Int, cellAt h25 ⟨h11.size, 2, none⟩ = some (.int .i64 n26)
    ∧ I7 (IntKind.wrap .i64 (i9 - n26)) (IntKind.wrap .i64 (i10 + 1)) h25 ∧ μ8 (IntKind.wrap .i64 (i9 - n26)) (IntKind.wrap .i64 (i10 + 1)) h25 < μ8 i9 i10 h11) (K (.int .i64 i9) h11)
theorem q_extent_Table_Left_calls (x0 : Nat) (h : Hp) (K : Value → Hp → Prop) (hq : q_extent_Table_Left x0 h K) : CallsH Try.prog f_extent_Table_Left #[(.pointer (some ⟨x0, 0, none⟩))] h K := by
  have e : q_extent_Table_Left x0 h K = fnT Try.prog 25 q_extent_Table_Left_ann Try.f80 (bodyOf Try.f80) [(.pointer (some ⟨x0, 0, none⟩))] h K := by kernel_rfl
  rw [e] at hq
  exact calls_of_fnT (n := 25) (ann := q_extent_Table_Left_ann) mixOk Try.func80 (by kernel_rfl) (by kernel_rfl) (fun args w => Try.call80 args w) (by kernel_rfl) hq

def q_extent_Table_List_ann : Ann := { loops := fun _ => [], ty := fun _ => [], canon := fun _ => [], cuts := fun _ => none }
def q_extent_Table_List (x0 : Nat) (h : Hp) (K : Value → Hp → Prop) : Prop :=
    CallsH Try.prog f_extent_list_api_Extent_values #[(.pointer (some ⟨x0, 1, none⟩))] h fun r1 h2 => ∃ (p3 : Option Addr) (l4 c5 : Nat), r1 = (.slice p3 l4 c5) ∧ K (.slice p3 l4 c5) h2
theorem q_extent_Table_List_calls (x0 : Nat) (h : Hp) (K : Value → Hp → Prop) (hq : q_extent_Table_List x0 h K) : CallsH Try.prog f_extent_Table_List #[(.pointer (some ⟨x0, 0, none⟩))] h K := by
  have e : q_extent_Table_List x0 h K = fnT Try.prog 9 q_extent_Table_List_ann Try.f122 (bodyOf Try.f122) [(.pointer (some ⟨x0, 0, none⟩))] h K := by kernel_rfl
  rw [e] at hq
  exact calls_of_fnT (n := 9) (ann := q_extent_Table_List_ann) mixOk Try.func122 (by kernel_rfl) (by kernel_rfl) (fun args w => Try.call122 args w) (by kernel_rfl) hq

def q_extent_Table_Alloc_ann : Ann := { loops := fun _ => [], ty := fun _ => [], canon := fun _ => [], cuts := fun _ => none }
def q_extent_Table_Alloc (x0 : Nat) (x1 : Int) (x2 : Int) (x3 : Int) (x4a : ByteArray) (x4b : Int) (h : Hp) (K : Value → Hp → Prop) : Prop :=
    letH (h.push (.cells #[(.string x4a), (.int .u8 x4b)] T_N_api_Cap)) fun h1 => iteP (decide (x1 ≥ 6)) (K (.tuple #[(.int .u32 0), (.int .i64 2)]) h1) (iteP (decide (x2 < 0)) (K (.tuple #[(.int .u32 0), (.int .i64 2)]) h1) (∃ n2 : Int, cellAt h1 ⟨x0, 0, none⟩ = some (.int .i64 n2)
    ∧ iteP (decide (x2 ≥ n2)) (K (.tuple #[(.int .u32 0), (.int .i64 2)]) h1) (iteP (decide (x3 < 1)) (K (.tuple #[(.int .u32 0), (.int .i64 2)]) h1) (∃ n3 : Int, cellAt h1 ⟨x0, 0, none⟩ = some (.int .i64 n3) ∧ iteP (decide (x3 > (IntKind.wrap .i64 (n3 - x2)))) (K (.tuple #[(.int .u32 0), (.int .i64 2)]) h1) (∃ s4 : ByteArray, cellAt h1 ⟨h.size, 0, none⟩ = some (.string s4)
    ∧ ∃ n5 : Int, cellAt h1 ⟨h.size, 1, none⟩ = some (.int .u8 n5) ∧ CallsH Try.prog f_name_Right #[(.agg #[(.string s4), (.int .u8 n5)])] h1 fun r6 h7 => ∃ b8 : Bool, r6 = (.bool b8) ∧ iteP (!b8) (K (.tuple #[(.int .u32 0), (.int .i64 3)]) h7) (CallsH Try.prog f_extent_Table_meets #[(.pointer (some ⟨x0, 0, none⟩)), (.int .i64 x2), (.int .i64 (IntKind.wrap .i64 (x2 + x3)))] h7 fun r9 h10
    => ∃ p11 : Option Addr, r9 = (.pointer p11) ∧ iteP (!p11.isNone) (K (.tuple #[(.int .u32 0), (.int .i64 8)]) h10) (∃ n12 : Int, cellAt h10 ⟨x0, 2, none⟩ = some (.int .i64 n12) ∧ iteP (decide (n12 ≥ 24)) (K (.tuple #[(.int .u32 0), (.int .i64 4)]) h10) (∃ s13 : ByteArray, cellAt h10 ⟨h.size, 0, none⟩ = some (.string s13)
    ∧ ∃ n14 : Int, cellAt h10 ⟨h.size, 1, none⟩ = some (.int .u8 n14) ∧ CallsH Try.prog f_extent_Table_add #[(.pointer (some ⟨x0, 0, none⟩)), (.agg #[(.int .u32 0), (.int .i64 x2), (.int .i64 x3), (.int .u8 x1), (.string s13), (.int .u8 n14)])] h10 fun r15 h16
    => ∃ n17 : Int, r15 = (.int .u32 n17) ∧ K (.tuple #[(.int .u32 n17), (.int .i64 0)]) h16))))))))
theorem q_extent_Table_Alloc_calls (x0 : Nat) (x1 : Int) (x2 : Int) (x3 : Int) (x4a : ByteArray) (x4b : Int) (h : Hp) (K : Value → Hp → Prop) (hq : q_extent_Table_Alloc x0 x1 x2 x3 x4a x4b h K) : CallsH Try.prog f_extent_Table_Alloc #[(.pointer (some ⟨x0, 0, none⟩)), (.int .u8 x1), (.int .i64 x2), (.int .i64 x3), (.agg #[(.string x4a), (.int .u8 x4b)])] h K := by
  have e : q_extent_Table_Alloc x0 x1 x2 x3 x4a x4b h K = fnT Try.prog 70 q_extent_Table_Alloc_ann Try.f124 (bodyOf Try.f124) [(.pointer (some ⟨x0, 0, none⟩)), (.int .u8 x1), (.int .i64 x2), (.int .i64 x3), (.agg #[(.string x4a), (.int .u8 x4b)])] h K := by kernel_rfl
  rw [e] at hq
  exact calls_of_fnT (n := 70) (ann := q_extent_Table_Alloc_ann) mixOk Try.func124 (by kernel_rfl) (by kernel_rfl) (fun args w => Try.call124 args w) (by kernel_rfl) hq

def q_extent_list_api_Extent_values_at_ann : Ann := { loops := fun x => match x with | 0 => [(3, T_s_api_Extent), (4, T_p_extent_link_api_Extent)] | _ => [], ty := fun _ => [], canon := fun _ => [], cuts := fun _ => none }
def q_extent_list_api_Extent_values_at (x0 : Nat) (h : Hp) (K : Value → Hp → Prop) : Prop :=
    ∃ p1 : Option Addr, cellAt h ⟨x0, 1, none⟩ = some (.pointer p1) ∧ ∃ (I2 : (Option Addr × Nat × Nat) → (Option Addr) → Hp → Prop) (μ3 : (Option Addr × Nat × Nat) → (Option Addr) → Hp → Nat), I2 (none, 0, 0) p1 h ∧ ∀ x4 p5 h6, I2 x4 p5 h6 → iteP (!p5.isNone) (wth p5 fun a7
    => ∃ n8 : Int, cellAt h6 a7 = some (.int .u32 n8) ∧ ∃ n9 : Int, cellAt h6 (a7.add 1) = some (.int .i64 n9) ∧ ∃ n10 : Int, cellAt h6 (a7.add 2) = some (.int .i64 n10) ∧ ∃ n11 : Int, cellAt h6 (a7.add 3) = some (.int .u8 n11)
    ∧ ∃ s12 : ByteArray, cellAt h6 (a7.add 4) = some (.string s12) ∧ ∃ n13 : Int, cellAt h6 (a7.add 5) = some (.int .u8 n13) ∧ letH (h6.push (.cells #[(.int .u32 n8), (.int .i64 n9), (.int .i64 n10), (.int .u8 n11), (.string s12), (.int .u8 n13)] T_N_api_Extent)) fun h14
    => semWP Try.prog (Builtin.append_ #[T_s_api_Extent, T_s_api_Extent] T_s_api_Extent #[(.slice x4.1 x4.2.1 x4.2.2), (.slice (some ⟨h6.size, 0, none⟩) 1 1)]) h14 fun r15 h16 => ∃ (p17 : Option Addr) (l18 c19 : Nat), r15 = .slice p17 l18 c19
    ∧ wth p5 fun a20 => ∃ p21 : Option Addr, cellAt h16 (a20.add 6) = some (.pointer p21) ∧ I2 (p17, l18, c19) p21 h16 ∧ μ3 (p17, l18, c19) p21 h16 < μ3 x4 p5 h6) (K (.slice x4.1 x4.2.1 x4.2.2) h6)
theorem q_extent_list_api_Extent_values_at_calls (x0 : Nat) (h : Hp) (K : Value → Hp → Prop) (hq : q_extent_list_api_Extent_values_at x0 h K) : CallsH Try.prog f_extent_list_api_Extent_values #[(.pointer (some ⟨x0, 1, none⟩))] h K := by
  have e : q_extent_list_api_Extent_values_at x0 h K = fnT Try.prog 23 q_extent_list_api_Extent_values_at_ann Try.f160 (bodyOf Try.f160) [(.pointer (some ⟨x0, 1, none⟩))] h K := by kernel_rfl
  rw [e] at hq
  exact calls_of_fnT (n := 23) (ann := q_extent_list_api_Extent_values_at_ann) mixOk Try.func160 (by kernel_rfl) (by kernel_rfl) (fun args w => Try.call160 args w) (by kernel_rfl) hq

def q_extent_list_api_Extent_find_num_ann : Ann := { loops := fun x => match x with | 0 => [(5, T_p_extent_link_api_Extent)] | _ => [], ty := fun _ => [], canon := fun _ => [], cuts := fun _ => none }
def q_extent_list_api_Extent_find_num (x0 : Nat) (b : Nat) (h : Hp) (K : Value → Hp → Prop) : Prop :=
    ∃ p1 : Option Addr, cellAt h ⟨x0, 1, none⟩ = some (.pointer p1) ∧ ∃ (I2 : (Option Addr) → Hp → Prop) (μ3 : (Option Addr) → Hp → Nat), I2 p1 h ∧ ∀ p4 h5, I2 p4 h5 → iteP (!p4.isNone) (wth p4 fun a6 => ∃ n7 : Int, cellAt h5 a6 = some (.int .u32 n7)
    ∧ ∃ n8 : Int, cellAt h5 (a6.add 1) = some (.int .i64 n8) ∧ ∃ n9 : Int, cellAt h5 (a6.add 2) = some (.int .i64 n9) ∧ ∃ n10 : Int, cellAt h5 (a6.add 3) = some (.int .u8 n10) ∧ ∃ s11 : ByteArray, cellAt h5 (a6.add 4) = some (.string s11)
    ∧ ∃ n12 : Int, cellAt h5 (a6.add 5) = some (.int .u8 n12) ∧ CallsH Try.prog f_extent_numbered_1 #[(.agg #[(.int .u32 n7), (.int .i64 n8), (.int .i64 n9), (.int .u8 n10), (.string s11), (.int .u8 n12)]), (.pointer (some ⟨b, 0, none⟩))] h5 fun r13 h14
    => ∃ b15 : Bool, r13 = (.bool b15) ∧ iteP b15 (wth p4 fun a16 => K (.pointer (some a16)) h14) (wth p4 fun a17 => ∃ p18 : Option Addr, cellAt h14 (a17.add 6) = some (.pointer p18) ∧ I2 p18 h14 ∧ μ3 p18 h14 < μ3 p4 h5)) (K (.pointer none) h5)
theorem q_extent_list_api_Extent_find_num_calls (x0 : Nat) (b : Nat) (h : Hp) (K : Value → Hp → Prop) (hq : q_extent_list_api_Extent_find_num x0 b h K) : CallsH Try.prog f_extent_list_api_Extent_find #[(.pointer (some ⟨x0, 1, none⟩)), (.func (.func f_extent_numbered_1) #[] #[(.pointer (some ⟨b, 0, none⟩))])] h K := by
  have e : q_extent_list_api_Extent_find_num x0 b h K = fnT Try.prog 25 q_extent_list_api_Extent_find_num_ann Try.f167 (bodyOf Try.f167) [(.pointer (some ⟨x0, 1, none⟩)), (.func (.func f_extent_numbered_1) #[] #[(.pointer (some ⟨b, 0, none⟩))])] h K := by kernel_rfl
  rw [e] at hq
  exact calls_of_fnT (n := 25) (ann := q_extent_list_api_Extent_find_num_ann) mixOk Try.func167 (by kernel_rfl) (by kernel_rfl) (fun args w => Try.call167 args w) (by kernel_rfl) hq

def q_extent_list_api_Extent_find_meets_ann : Ann := { loops := fun x => match x with | 0 => [(5, T_p_extent_link_api_Extent)] | _ => [], ty := fun _ => [], canon := fun _ => [], cuts := fun _ => none }
def q_extent_list_api_Extent_find_meets (x0 : Nat) (b : Nat) (c : Nat) (h : Hp) (K : Value → Hp → Prop) : Prop :=
    ∃ p1 : Option Addr, cellAt h ⟨x0, 1, none⟩ = some (.pointer p1) ∧ ∃ (I2 : (Option Addr) → Hp → Prop) (μ3 : (Option Addr) → Hp → Nat), I2 p1 h ∧ ∀ p4 h5, I2 p4 h5 → iteP (!p4.isNone) (wth p4 fun a6 => ∃ n7 : Int, cellAt h5 a6 = some (.int .u32 n7)
    ∧ ∃ n8 : Int, cellAt h5 (a6.add 1) = some (.int .i64 n8) ∧ ∃ n9 : Int, cellAt h5 (a6.add 2) = some (.int .i64 n9) ∧ ∃ n10 : Int, cellAt h5 (a6.add 3) = some (.int .u8 n10) ∧ ∃ s11 : ByteArray, cellAt h5 (a6.add 4) = some (.string s11)
    ∧ ∃ n12 : Int, cellAt h5 (a6.add 5) = some (.int .u8 n12) ∧ CallsH Try.prog f_extent_Table_meets_1 #[(.agg #[(.int .u32 n7), (.int .i64 n8), (.int .i64 n9), (.int .u8 n10), (.string s11), (.int .u8 n12)]), (.pointer (some ⟨b, 0, none⟩)), (.pointer (some ⟨c, 0, none⟩))] h5 fun r13 h14
    => ∃ b15 : Bool, r13 = (.bool b15) ∧ iteP b15 (wth p4 fun a16 => K (.pointer (some a16)) h14) (wth p4 fun a17 => ∃ p18 : Option Addr, cellAt h14 (a17.add 6) = some (.pointer p18) ∧ I2 p18 h14 ∧ μ3 p18 h14 < μ3 p4 h5)) (K (.pointer none) h5)
theorem q_extent_list_api_Extent_find_meets_calls (x0 : Nat) (b : Nat) (c : Nat) (h : Hp) (K : Value → Hp → Prop) (hq : q_extent_list_api_Extent_find_meets x0 b c h K) : CallsH Try.prog f_extent_list_api_Extent_find #[(.pointer (some ⟨x0, 1, none⟩)), (.func (.func f_extent_Table_meets_1) #[] #[(.pointer (some ⟨b, 0, none⟩)), (.pointer (some ⟨c, 0, none⟩))])] h K := by
  have e : q_extent_list_api_Extent_find_meets x0 b c h K = fnT Try.prog 25 q_extent_list_api_Extent_find_meets_ann Try.f167 (bodyOf Try.f167) [(.pointer (some ⟨x0, 1, none⟩)), (.func (.func f_extent_Table_meets_1) #[] #[(.pointer (some ⟨b, 0, none⟩)), (.pointer (some ⟨c, 0, none⟩))])] h K := by kernel_rfl
  rw [e] at hq
  exact calls_of_fnT (n := 25) (ann := q_extent_list_api_Extent_find_meets_ann) mixOk Try.func167 (by kernel_rfl) (by kernel_rfl) (fun args w => Try.call167 args w) (by kernel_rfl) hq

def q_extent_list_api_Extent_remove_num_ann : Ann := { loops := fun x => match x with | 0 => [(4, T_p_p_extent_link_api_Extent)] | _ => [], ty := fun _ => [], canon := fun _ => [], cuts := fun _ => none }
def q_extent_list_api_Extent_remove_num (x0 : Nat) (b : Nat) (h : Hp) (K : Value → Hp → Prop) : Prop :=
    ∃ (I1 : (Option Addr) → Hp → Prop) (μ2 : (Option Addr) → Hp → Nat), I1 (some ⟨x0, 1, none⟩) h ∧ ∀ p3 h4, I1 p3 h4 → wth p3 fun a5 => ∃ p6 : Option Addr, cellAt h4 a5 = some (.pointer p6) ∧ iteP (!p6.isNone) (wth p3 fun a7
    => ∃ p8 : Option Addr, cellAt h4 a7 = some (.pointer p8) ∧ wth p8 fun a9 => ∃ n10 : Int, cellAt h4 a9 = some (.int .u32 n10) ∧ ∃ n11 : Int, cellAt h4 (a9.add 1) = some (.int .i64 n11) ∧ ∃ n12 : Int, cellAt h4 (a9.add 2) = some (.int .i64 n12)
    ∧ ∃ n13 : Int, cellAt h4 (a9.add 3) = some (.int .u8 n13) ∧ ∃ s14 : ByteArray, cellAt h4 (a9.add 4) = some (.string s14) ∧ ∃ n15 : Int, cellAt h4 (a9.add 5) = some (.int .u8 n15) ∧ CallsH Try.prog f_extent_numbered_1 #[(.agg #[(.int .u32 n10), (.int .i64 n11), (.int .i64 n12), (.int .u8 n13), (.string s14), (.int .u8 n15)]), (.pointer (some ⟨b, 0, none⟩))] h4 fun r16 h17
    => ∃ b18 : Bool, r16 = (.bool b18) ∧ iteP b18 (wth p3 fun a19 => ∃ p20 : Option Addr, cellAt h17 a19 = some (.pointer p20) ∧ wth p20 fun a21 => ∃ p22 : Option Addr, cellAt h17 (a21.add 6) = some (.pointer p22) ∧ wth p3 fun a23
    => (∃ old, cellAt h17 a23 = some old) ∧ frozenAt h17 a23 = false ∧ letH (setH h17 a23 (.pointer p22)) fun h24 => ∃ n25 : Int, cellAt h24 ⟨x0, 2, none⟩ = some (.int .i64 n25) ∧ (∃ old, cellAt h24 ⟨x0, 2, none⟩ = some old)
    ∧ frozenAt h24 ⟨x0, 2, none⟩ = false ∧ letH (setH h24 ⟨x0, 2, none⟩ (.int .i64 (IntKind.wrap .i64 (n25 - 1)))) fun h26 => K (.tuple #[]) h26) (wth p3 fun a27 => ∃ p28 : Option Addr, cellAt h17 a27 = some (.pointer p28) ∧
    wth p28 fun a29 => I1 (some (a29.add 6)) h17 ∧ μ2 (some (a29.add 6)) h17 < μ2 p3 h4)) (K (.tuple #[]) h4)
theorem q_extent_list_api_Extent_remove_num_calls (x0 : Nat) (b : Nat) (h : Hp) (K : Value → Hp → Prop) (hq : q_extent_list_api_Extent_remove_num x0 b h K) : CallsH Try.prog f_extent_list_api_Extent_remove #[(.pointer (some ⟨x0, 1, none⟩)), (.func (.func f_extent_numbered_1) #[] #[(.pointer (some ⟨b, 0, none⟩))])] h K := by
  have e : q_extent_list_api_Extent_remove_num x0 b h K = fnT Try.prog 40 q_extent_list_api_Extent_remove_num_ann Try.f173 (bodyOf Try.f173) [(.pointer (some ⟨x0, 1, none⟩)), (.func (.func f_extent_numbered_1) #[] #[(.pointer (some ⟨b, 0, none⟩))])] h K := by kernel_rfl
  rw [e] at hq
  exact calls_of_fnT (n := 40) (ann := q_extent_list_api_Extent_remove_num_ann) mixOk Try.func173 (by kernel_rfl) (by kernel_rfl) (fun args w => Try.call173 args w) (by kernel_rfl) hq

def q_extent_list_api_Extent_insert_at_ann : Ann := { loops := fun x => match x with | 0 => [(6, T_p_p_extent_link_api_Extent)] | _ => [], ty := fun _ => [], canon := fun x => match x with | 2 => [0, 1, 2, 3, 4, 5, 6, 7, 8, 9, 10, 11, 12, 13, 14, 15] | 4 => [0, 1, 2, 3, 4, 5, 6, 7, 8] | _ => [], cuts := fun _ => none }
def q_extent_list_api_Extent_insert_at (x0 : Nat) (x1a : Int) (x1b : Int) (x1c : Int) (x1d : Int) (x1e : ByteArray) (x1f : Int) (h : Hp) (K : Value → Hp → Prop) : Prop :=
    letH (h.push (.cells #[(.int .u32 x1a), (.int .i64 x1b), (.int .i64 x1c), (.int .u8 x1d), (.string x1e), (.int .u8 x1f)] T_N_api_Extent)) fun h1 => ∃ (I2 : (Option Addr) → Hp → Prop) (μ3 : (Option Addr) → Hp → Nat), I2 (some ⟨x0, 1, none⟩) h1
    ∧ ∀ p4 h5, I2 p4 h5 → wth p4 fun a6 => ∃ p7 : Option Addr, cellAt h5 a6 = some (.pointer p7) ∧ iteP (!p7.isNone) (∃ n8 : Int, cellAt h5 ⟨h.size, 0, none⟩ = some (.int .u32 n8) ∧ ∃ n9 : Int, cellAt h5 ⟨h.size, 1, none⟩ = some (.int .i64 n9)
    ∧ ∃ n10 : Int, cellAt h5 ⟨h.size, 2, none⟩ = some (.int .i64 n10) ∧ ∃ n11 : Int, cellAt h5 ⟨h.size, 3, none⟩ = some (.int .u8 n11) ∧ ∃ s12 : ByteArray, cellAt h5 ⟨h.size, 4, none⟩ = some (.string s12) ∧ ∃ n13 : Int, cellAt h5 ⟨h.size, 5, none⟩ = some (.int .u8 n13)
    ∧ wth p4 fun a14 => ∃ p15 : Option Addr, cellAt h5 a14 = some (.pointer p15) ∧ wth p15 fun a16 => ∃ n17 : Int, cellAt h5 a16 = some (.int .u32 n17) ∧ ∃ n18 : Int, cellAt h5 (a16.add 1) = some (.int .i64 n18) ∧ ∃ n19 : Int, cellAt h5 (a16.add 2) = some (.int .i64 n19)
    ∧ ∃ n20 : Int, cellAt h5 (a16.add 3) = some (.int .u8 n20) ∧ ∃ s21 : ByteArray, cellAt h5 (a16.add 4) = some (.string s21) ∧ ∃ n22 : Int, cellAt h5 (a16.add 5) = some (.int .u8 n22) ∧ CallsH Try.prog f_extent_ahead #[(.agg #[(.int .u32 n8), (.int .i64 n9), (.int .i64 n10), (.int .u8 n11), (.string s12), (.int .u8 n13)]), (.agg #[(.int .u32 n17), (.int .i64 n18), (.int .i64 n19), (.int .u8 n20), (.string s21), (.int .u8 n22)])] h5 fun r23 h24
    => ∃ b25 : Bool, r23 = (.bool b25) ∧ iteP (!b25) (wth p4 fun a26 => ∃ p27 : Option Addr, cellAt h24 a26 = some (.pointer p27) ∧ wth p27 fun a28 => I2 (some (a28.add 6)) h24 ∧ μ3 (some (a28.add 6)) h24 < μ3 p4 h5) (∃ n29 : Int, cellAt h24 ⟨h.size, 0, none⟩ = some (.int .u32 n29)
    ∧ ∃ n30 : Int, cellAt h24 ⟨h.size, 1, none⟩ = some (.int .i64 n30) ∧ ∃ n31 : Int, cellAt h24 ⟨h.size, 2, none⟩ = some (.int .i64 n31) ∧ ∃ n32 : Int, cellAt h24 ⟨h.size, 3, none⟩ = some (.int .u8 n32) ∧ ∃ s33 : ByteArray, cellAt h24 ⟨h.size, 4, none⟩ = some (.string s33)
    ∧ ∃ n34 : Int, cellAt h24 ⟨h.size, 5, none⟩ = some (.int .u8 n34) ∧ wth p4 fun a35 => ∃ p36 : Option Addr, cellAt h24 a35 = some (.pointer p36) ∧ letH (h24.push (.cells #[(.int .u32 n29), (.int .i64 n30), (.int .i64 n31), (.int .u8 n32), (.string s33), (.int .u8 n34), (.pointer p36)] T_N_extent_link_api_Extent)) fun h37
    => wth p4 fun a38 => (∃ old, cellAt h37 a38 = some old) ∧ frozenAt h37 a38 = false ∧ letH (setH h37 a38 (.pointer (some ⟨h24.size, 0, none⟩))) fun h39 => ∃ n40 : Int, cellAt h39 ⟨x0, 2, none⟩ = some (.int .i64 n40) ∧ (∃ old, cellAt h39 ⟨x0, 2, none⟩ = some old)
    ∧ frozenAt h39 ⟨x0, 2, none⟩ = false ∧ letH (setH h39 ⟨x0, 2, none⟩ (.int .i64 (IntKind.wrap .i64 (n40 + 1)))) fun h41 => K (.tuple #[]) h41)) (∃ n42 : Int, cellAt h5 ⟨h.size, 0, none⟩ = some (.int .u32 n42) ∧ ∃ n43 : Int, cellAt h5 ⟨h.size, 1, none⟩ = some (.int .i64 n43)
    ∧ ∃ n44 : Int, cellAt h5 ⟨h.size, 2, none⟩ = some (.int .i64 n44) ∧ ∃ n45 : Int, cellAt h5 ⟨h.size, 3, none⟩ = some (.int .u8 n45) ∧ ∃ s46 : ByteArray, cellAt h5 ⟨h.size, 4, none⟩ = some (.string s46) ∧ ∃ n47 : Int, cellAt h5 ⟨h.size, 5, none⟩ = some (.int .u8 n47)
    ∧ wth p4 fun a48 => ∃ p49 : Option Addr, cellAt h5 a48 = some (.pointer p49) ∧ letH (h5.push (.cells #[(.int .u32 n42), (.int .i64 n43), (.int .i64 n44), (.int .u8 n45), (.string s46), (.int .u8 n47), (.pointer p49)] T_N_extent_link_api_Extent)) fun h50
    => wth p4 fun a51 => (∃ old, cellAt h50 a51 = some old) ∧ frozenAt h50 a51 = false ∧ letH (setH h50 a51 (.pointer (some ⟨h5.size, 0, none⟩))) fun h52 => ∃ n53 : Int, cellAt h52 ⟨x0, 2, none⟩ = some (.int .i64 n53) ∧ (∃ old, cellAt h52 ⟨x0, 2, none⟩ = some old)
    ∧ frozenAt h52 ⟨x0, 2, none⟩ = false ∧ letH (setH h52 ⟨x0, 2, none⟩ (.int .i64 (IntKind.wrap .i64 (n53 + 1)))) fun h54 => K (.tuple #[]) h54)
theorem q_extent_list_api_Extent_insert_at_calls (x0 : Nat) (x1a : Int) (x1b : Int) (x1c : Int) (x1d : Int) (x1e : ByteArray) (x1f : Int) (h : Hp) (K : Value → Hp → Prop) (hq : q_extent_list_api_Extent_insert_at x0 x1a x1b x1c x1d x1e x1f h K) : CallsH Try.prog f_extent_list_api_Extent_insert #[(.pointer (some ⟨x0, 1, none⟩)), (.agg #[(.int .u32 x1a), (.int .i64 x1b), (.int .i64 x1c), (.int .u8 x1d), (.string x1e), (.int .u8 x1f)]), (.func (.func f_extent_ahead) #[] #[])] h K := by
  have e : q_extent_list_api_Extent_insert_at x0 x1a x1b x1c x1d x1e x1f h K = fnT Try.prog 46 q_extent_list_api_Extent_insert_at_ann Try.f184 (bodyOf Try.f184) [(.pointer (some ⟨x0, 1, none⟩)), (.agg #[(.int .u32 x1a), (.int .i64 x1b), (.int .i64 x1c), (.int .u8 x1d), (.string x1e), (.int .u8 x1f)]), (.func (.func f_extent_ahead) #[] #[])] h K := by kernel_rfl
  rw [e] at hq
  exact calls_of_fnT (n := 46) (ann := q_extent_list_api_Extent_insert_at_ann) mixOk Try.func184 (by kernel_rfl) (by kernel_rfl) (fun args w => Try.call184 args w) (by kernel_rfl) hq

def q_name_Right_ann : Ann := { loops := fun _ => [], ty := fun _ => [], canon := fun _ => [], cuts := fun _ => none }
def q_name_Right (x0a : ByteArray) (x0b : Int) (h : Hp) (K : Value → Hp → Prop) : Prop :=
    letH (h.push (.cells #[(.string x0a), (.int .u8 x0b)] T_N_api_Cap)) fun h1 => ∃ s2 : ByteArray, cellAt h1 ⟨h.size, 0, none⟩ = some (.string s2) ∧ CallsH Try.prog f_name_Split #[(.string s2)] h1 fun r3 h4 => ∃ (p5 : Option Addr) (l6 c7 : Nat), ∃ n8 : Int, r3 = (.tuple #[(.slice p5 l6 c7), (.int .i64 n8)])
    ∧ iteP (n8 == 0) (∃ n9 : Int, cellAt h4 ⟨h.size, 1, none⟩ = some (.int .u8 n9) ∧ K (.bool (decide (n9 ≤ 31))) h4) (K (.bool false) h4)
theorem q_name_Right_calls (x0a : ByteArray) (x0b : Int) (h : Hp) (K : Value → Hp → Prop) (hq : q_name_Right x0a x0b h K) : CallsH Try.prog f_name_Right #[(.agg #[(.string x0a), (.int .u8 x0b)])] h K := by
  have e : q_name_Right x0a x0b h K = fnT Try.prog 18 q_name_Right_ann Try.f162 (bodyOf Try.f162) [(.agg #[(.string x0a), (.int .u8 x0b)])] h K := by kernel_rfl
  rw [e] at hq
  exact calls_of_fnT (n := 18) (ann := q_name_Right_ann) mixOk Try.func162 (by kernel_rfl) (by kernel_rfl) (fun args w => Try.call162 args w) (by kernel_rfl) hq

def q_name_Split_root_ann : Ann := { loops := fun _ => [], ty := fun _ => [], canon := fun _ => [], cuts := fun _ => none }
def q_name_Split_root  (h : Hp) (K : Value → Hp → Prop) : Prop :=
    letH (h.push (.cells (zeroCells Try.prog T_s_string) T_s_string)) fun h1 => letH (h1.push (.cells (zeroCells Try.prog T_N_api_Errno) T_N_api_Errno)) fun h2 => iteP ((⟨#[47]⟩ : ByteArray).toList == (⟨#[47]⟩ : ByteArray).toList) ((∃ old, cellAt h2 ⟨h.size, 0, none⟩ = some old)
    ∧ frozenAt h2 ⟨h.size, 0, none⟩ = false ∧ letH (setH h2 ⟨h.size, 0, none⟩ (.slice none 0 0)) fun h3 => (∃ old, cellAt h3 ⟨h1.size, 0, none⟩ = some old) ∧ frozenAt h3 ⟨h1.size, 0, none⟩ = false ∧ letH (setH h3 ⟨h1.size, 0, none⟩ (.int .i64 0)) fun h4
    => ∃ (p5 : Option Addr) (l6 c7 : Nat), cellAt h4 ⟨h.size, 0, none⟩ = some (.slice p5 l6 c7) ∧ ∃ n8 : Int, cellAt h4 ⟨h1.size, 0, none⟩ = some (.int .i64 n8) ∧ K (.tuple #[(.slice p5 l6 c7), (.int .i64 n8)]) h4) (CallsH Try.prog f_strings_HasPrefix #[(.string ⟨#[47]⟩), (.string ⟨#[47]⟩)] h2 fun r9 h10
    => ∃ b11 : Bool, r9 = (.bool b11) ∧ iteP (!b11) ((∃ old, cellAt h10 ⟨h.size, 0, none⟩ = some old) ∧ frozenAt h10 ⟨h.size, 0, none⟩ = false ∧ letH (setH h10 ⟨h.size, 0, none⟩ (.slice none 0 0)) fun h12 => (∃ old, cellAt h12 ⟨h1.size, 0, none⟩ = some old)
    ∧ frozenAt h12 ⟨h1.size, 0, none⟩ = false ∧ letH (setH h12 ⟨h1.size, 0, none⟩ (.int .i64 3)) fun h13 => ∃ (p14 : Option Addr) (l15 c16 : Nat), cellAt h13 ⟨h.size, 0, none⟩ = some (.slice p14 l15 c16) ∧ ∃ n17 : Int, cellAt h13 ⟨h1.size, 0, none⟩ = some (.int .i64 n17)
    ∧ K (.tuple #[(.slice p14 l15 c16), (.int .i64 n17)]) h13) (CallsH Try.prog f_strings_HasSuffix #[(.string ⟨#[47]⟩), (.string ⟨#[47]⟩)] h10 fun r18 h19 => ∃ b20 : Bool, r18 = (.bool b20) ∧ iteP b20 ((∃ old, cellAt h19 ⟨h.size, 0, none⟩ = some old)
    ∧ frozenAt h19 ⟨h.size, 0, none⟩ = false ∧ letH (setH h19 ⟨h.size, 0, none⟩ (.slice none 0 0)) fun h21 => (∃ old, cellAt h21 ⟨h1.size, 0, none⟩ = some old) ∧ frozenAt h21 ⟨h1.size, 0, none⟩ = false ∧ letH (setH h21 ⟨h1.size, 0, none⟩ (.int .i64 3)) fun h22
    => ∃ (p23 : Option Addr) (l24 c25 : Nat), cellAt h22 ⟨h.size, 0, none⟩ = some (.slice p23 l24 c25) ∧ ∃ n26 : Int, cellAt h22 ⟨h1.size, 0, none⟩ = some (.int .i64 n26) ∧ K (.tuple #[(.slice p23 l24 c25), (.int .i64 n26)]) h22) (letH (h19.push (.cells (zeroCells Try.prog T_s_string) T_s_string)) fun h27
    => CallsH Try.prog f_name_labels #[(.string ⟨#[47]⟩)] h27 fun r28 h29 => ∃ v30 : Value, r28 = v30 ∧ False)))
theorem q_name_Split_root_calls  (h : Hp) (K : Value → Hp → Prop) (hq : q_name_Split_root  h K) : CallsH Try.prog f_name_Split #[(.string ⟨#[47]⟩)] h K := by
  have e : q_name_Split_root  h K = fnT Try.prog 31 q_name_Split_root_ann Try.f192 (bodyOf Try.f192) [(.string ⟨#[47]⟩)] h K := by kernel_rfl
  rw [e] at hq
  exact calls_of_fnT (n := 31) (ann := q_name_Split_root_ann) mixOk Try.func192 (by kernel_rfl) (by kernel_rfl) (fun args w => Try.call192 args w) (by kernel_rfl) hq

end Go.Proofs.Ytmdhfmljgjnggaa
/- What the functions of package extent do, as far as files need them: extents of one sector each. No condition. -/
namespace Go.Proofs.Ytmdhfmljgjnggaa
attribute [local irreducible] semWP
set_option linter.constructorNameAsVariable false
theorem cellBa {h : Hp} {b o n : Nat} {c : Array Value} {e : TypeId} {f : Nat × Nat} {v : Value} (hb : h[b]? = some (.cells c e f)) (hv : c[o + n]? = some v) : cellAt h ((⟨b, o, none⟩ : Addr).add n) = some v := by rw [Addr.add_mk]; exact cellB hb hv
/-- An extent of one sector: where it lies, its number. -/
def ext6 (x : Int × Int) : List Value := [.int .u32 x.2, .int .i64 x.1, .int .i64 1, .int .u8 0, .string ⟨#[47]⟩, .int .u8 0]
theorem ext6_len (x : Int × Int) : (ext6 x).length = 6 := rfl
/-- From a pointer on: links, each in a block of its own. -/
def LkAt (h : Hp) : Option Addr → List (Int × Int) → List Nat → Prop
  | p, [], bl => p = none ∧ bl = []
  | p, x :: E, bl => ∃ (b : Nat) (next : Option Addr) (bl' : List Nat), p = some ⟨b, 0, none⟩ ∧ bl = b :: bl' ∧ h[b]? = some (.cells ⟨ext6 x ++ [.pointer next]⟩ T_N_extent_link_api_Extent (0, 0)) ∧ LkAt h next E bl'
theorem LkAt.congr {h h' : Hp} : ∀ {E : List (Int × Int)} {p : Option Addr} {bl : List Nat}, LkAt h p E bl → (∀ b ∈ bl, h'[b]? = h[b]?) → LkAt h' p E bl := by
  intro E
  induction E with
  | nil => intro p bl hl _; exact hl
  | cons x E ih =>
    intro p bl hl he
    obtain ⟨b, next, bl', rfl, rfl, hb, hl⟩ := hl
    exact ⟨b, next, bl', rfl, rfl, by rw [he b (by simp)]; exact hb, ih hl fun q hq => he q (by simp [hq])⟩
theorem LkAt.lt {h : Hp} : ∀ {E : List (Int × Int)} {p : Option Addr} {bl : List Nat}, LkAt h p E bl → ∀ b ∈ bl, b < h.size := by
  intro E
  induction E with
  | nil => intro p bl hl b hb; rw [hl.2] at hb; cases hb
  | cons x E ih =>
    intro p bl hl b hb
    obtain ⟨b', next, bl', rfl, rfl, hb', hl⟩ := hl
    rcases List.mem_cons.1 hb with rfl | hb
    · exact lt_of_at hb'
    · exact ih hl b hb
theorem LkAt.len {h : Hp} : ∀ {E : List (Int × Int)} {p : Option Addr} {bl : List Nat}, LkAt h p E bl → bl.length = E.length := by
  intro E
  induction E with
  | nil => intro p bl hl; rw [hl.2]; rfl
  | cons x E ih =>
    intro p bl hl
    obtain ⟨b', next, bl', rfl, rfl, hb', hl⟩ := hl
    simp [ih hl]
/-- How many links follow. -/
def chainN : Nat → Hp → Option Addr → Nat
  | 0, _, _ => 0
  | _ + 1, _, none => 0
  | f + 1, h, some a => match cellAt h (a.add 6) with
    | some (.pointer q) => chainN f h q + 1
    | _ => 1
theorem LkAt.chain {h : Hp} : ∀ {E : List (Int × Int)} {p : Option Addr} {bl : List Nat} {f : Nat}, LkAt h p E bl → E.length < f → chainN f h p = E.length := by
  intro E
  induction E with
  | nil => intro p bl f hl hf; cases f with
    | zero => omega
    | succ f => rw [hl.1]; rfl
  | cons x E ih =>
    intro p bl f hl hf
    obtain ⟨b, next, bl', rfl, rfl, hb, hl⟩ := hl
    cases f with
    | zero => omega
    | succ f =>
      simp only [List.length_cons] at hf
      have : cellAt h ((⟨b, 0, none⟩ : Addr).add 6) = some (.pointer next) := cellBa hb rfl
      simp only [chainN, this, List.length_cons]
      rw [ih hl (by omega)]
/-- Block t is a table of k sectors with these extents; the last number. -/
def TabAt (h : Hp) (t : Nat) (k : Int) (E : List (Int × Int)) (last : Int) (F : List Nat) : Prop :=
  ∃ p bl, F = t :: bl ∧ h[t]? = some (.cells #[.int .i64 k, .pointer p, .int .i64 (E.length : Int), .int .u32 last] T_N_extent_Table (0, 0)) ∧ LkAt h p E bl ∧ (t :: bl).Nodup
section
variable {h h' : Hp} {t b : Nat} {k last id : Int} {E : List (Int × Int)} {F : List Nat} {K : Value → Hp → Prop}
theorem TabAt.congr (ha : TabAt h t k E last F) (he : ∀ q ∈ F, h'[q]? = h[q]?) : TabAt h' t k E last F := by
  obtain ⟨p, bl, rfl, h1, h2, h3⟩ := ha
  exact ⟨p, bl, rfl, by rw [he t (by simp)]; exact h1, h2.congr fun q hq => he q (by simp [hq]), h3⟩
theorem TabAt.lt (ha : TabAt h t k E last F) : ∀ q ∈ F, q < h.size := by
  obtain ⟨p, bl, rfl, h1, h2, h3⟩ := ha
  intro q hq
  rcases List.mem_cons.1 hq with rfl | hq
  · exact lt_of_at h1
  · exact h2.lt q hq
theorem TabAt.ext (ha : TabAt h t k E last F) (x : Ext h h') : TabAt h' t k E last F := ha.congr fun q hq => x.same (ha.lt q hq)
theorem c_extNew (n : Int) (h1 : 1 ≤ n) (h2 : n ≤ 64) (hK : ∀ h', TabAt h' h.size n [] 0 [h.size] → Ext h h' → K (.pointer (some ⟨h.size, 0, none⟩)) h') : CallsH Try.prog f_extent_New #[.int .i64 n] h K := by
  refine q_extent_New_calls n h K ?_
  unfold q_extent_New
  refine iteP_no (by omega) (iteP_no (by omega) (newB fun g b1 x1 z1 => ?_))
  exact hK g ⟨none, [], rfl, b1, ⟨rfl, rfl⟩, by simp⟩ x1
theorem c_numbered (hK : ∀ h', h'[h.size]? = some (.cells #[.int .u32 id] T_uint32 (0, 0)) → Ext h h' → h'.size = h.size + 1 → K (.func (.func f_extent_numbered_1) #[] #[.pointer (some ⟨h.size, 0, none⟩)]) h') : CallsH Try.prog f_extent_numbered #[.int .u32 id] h K := by
  refine q_extent_numbered_calls id h K ?_
  unfold q_extent_numbered
  exact newB fun g b1 x1 z1 => hK g b1 x1 z1
theorem c_num1 (x : Int × Int) (hb : h[b]? = some (.cells #[.int .u32 id] T_uint32 (0, 0))) (hK : ∀ h', Ext h h' → K (.bool (x.2 == id)) h') :
    CallsH Try.prog f_extent_numbered_1 #[.agg #[.int .u32 x.2, .int .i64 x.1, .int .i64 1, .int .u8 0, .string ⟨#[47]⟩, .int .u8 0], .pointer (some ⟨b, 0, none⟩)] h K := by
  refine q_extent_numbered_1_calls _ _ _ _ _ _ b h K ?_
  unfold q_extent_numbered_1
  exact newB fun g b1 x1 z1 => ⟨_, cellB b1 rfl, _, cellB (x1.at hb) rfl, hK g x1⟩
theorem c_end (x : Int × Int) (h1 : 0 ≤ x.1) (h2 : x.1 < 64) (hK : ∀ h', Ext h h' → K (.int .i64 (x.1 + 1)) h') :
    CallsH Try.prog f_extent_end #[.agg #[.int .u32 x.2, .int .i64 x.1, .int .i64 1, .int .u8 0, .string ⟨#[47]⟩, .int .u8 0]] h K := by
  refine q_extent_end_calls _ _ _ _ _ _ h K ?_
  unfold q_extent_end
  refine newB fun g b1 x1 z1 => ⟨_, cellB b1 rfl, _, cellB b1 rfl, ?_⟩
  rw [wrap64 (by omega) (by omega)]
  exact hK g x1
theorem c_ahead (x y : Int × Int) (hK : ∀ h', Ext h h' → K (.bool (decide (x.1 < y.1))) h') :
    CallsH Try.prog f_extent_ahead #[.agg #[.int .u32 x.2, .int .i64 x.1, .int .i64 1, .int .u8 0, .string ⟨#[47]⟩, .int .u8 0], .agg #[.int .u32 y.2, .int .i64 y.1, .int .i64 1, .int .u8 0, .string ⟨#[47]⟩, .int .u8 0]] h K := by
  refine q_extent_ahead_calls _ _ _ _ _ _ _ _ _ _ _ _ h K ?_
  unfold q_extent_ahead
  refine newB fun g b1 x1 z1 => newB fun g2 b2 x2 z2 => ⟨_, cellB (x2.at b1) rfl, _, cellB b2 rfl, hK g2 (x1.trans x2)⟩
/-- The link of a number. -/
def linkOf (E : List (Int × Int)) (bl : List Nat) (id : Int) : Option ((Int × Int) × Nat) := (E.zip bl).find? fun y => y.1.2 == id
theorem c_find_num (ha : TabAt h t k E last F) (hE : E.length ≤ 24) (hb : h[b]? = some (.cells #[.int .u32 id] T_uint32 (0, 0)))
    (h0 : (∀ x ∈ E, x.2 ≠ id) → ∀ h', Ext h h' → K (.pointer none) h')
    (h1 : ∀ x blk next h', x ∈ E → x.2 = id → blk ∈ F → h[blk]? = some (.cells ⟨ext6 x ++ [.pointer next]⟩ T_N_extent_link_api_Extent (0, 0)) → Ext h h' → K (.pointer (some ⟨blk, 0, none⟩)) h') :
    CallsH Try.prog f_extent_list_api_Extent_find #[.pointer (some ⟨t, 1, none⟩), .func (.func f_extent_numbered_1) #[] #[.pointer (some ⟨b, 0, none⟩)]] h K := by
  obtain ⟨p, bl, rfl, ht, hl, hnd⟩ := ha
  refine q_extent_list_api_Extent_find_num_calls t b h K ?_
  unfold q_extent_list_api_Extent_find_num
  refine ⟨_, cellB ht rfl, fun q g => ∃ E1 E2 bl1 bl2, E = E1 ++ E2 ∧ bl = bl1 ++ bl2 ∧ LkAt h q E2 bl2 ∧ (∀ x ∈ E1, x.2 ≠ id) ∧ Ext h g, fun q g => chainN 25 g q, ⟨[], E, [], bl, rfl, rfl, hl, by simp, Step.refl _ _⟩, ?_⟩
  rintro q g ⟨E1, E2, bl1, bl2, rfl, rfl, hq, hne, xg⟩
  cases E2 with
  | nil =>
    obtain ⟨rfl, rfl⟩ := hq
    exact iteP_f rfl (h0 (by simpa using hne) g xg)
  | cons x E2 =>
    obtain ⟨blk, next, bl2, rfl, rfl, hblk, hq⟩ := hq
    refine iteP_t rfl ?_
    have hg := xg.at hblk
    simp only [wth_some]
    refine ⟨_, cellB hg rfl, _, cellBa hg rfl, _, cellBa hg rfl, _, cellBa hg rfl, _, cellBa hg rfl, _, cellBa hg rfl, c_num1 x (xg.at hb) fun g2 x2 => ⟨_, rfl, ?_⟩⟩
    refine iteP_eqc (fun he => ?_) fun he => ⟨_, cellBa (x2.at hg) rfl, ⟨E1 ++ [x], E2, bl1 ++ [blk], bl2, by simp, by simp, hq, ?_, xg.trans x2⟩, ?_⟩
    · exact h1 x blk next g2 (by simp) he (by simp) hblk (xg.trans x2)
    · intro y hy
      rcases List.mem_append.1 hy with hy | hy
      · exact hne y hy
      · simp at hy; rw [hy]; exact he
    · have hlen : (E1 ++ x :: E2).length ≤ 24 := hE
      simp only [List.length_append, List.length_cons] at hlen
      have l1 : LkAt g (some ⟨blk, 0, none⟩) (x :: E2) (blk :: bl2) := ⟨blk, next, bl2, rfl, rfl, hg, hq.congr fun q hqq => xg.same (hq.lt q hqq)⟩
      have l2 : LkAt g2 next E2 bl2 := hq.congr fun q hqq => Ext.same (xg.trans x2) (hq.lt q hqq)
      show chainN 25 g2 next < chainN 25 g (some ⟨blk, 0, none⟩)
      rw [l1.chain (by simp only [List.length_cons]; omega), l2.chain (by omega)]
      simp
theorem c_meets1 (x : Int × Int) (h1 : 0 ≤ x.1) (h2 : x.1 < 64) {c : Nat} {fr to : Int} (hb : h[b]? = some (.cells #[.int .i64 to] T_int (0, 0))) (hc : h[c]? = some (.cells #[.int .i64 fr] T_int (0, 0))) (hK : ∀ h', Ext h h' → K (.bool (decide (x.1 < to ∧ fr ≤ x.1))) h') :
    CallsH Try.prog f_extent_Table_meets_1 #[.agg #[.int .u32 x.2, .int .i64 x.1, .int .i64 1, .int .u8 0, .string ⟨#[47]⟩, .int .u8 0], .pointer (some ⟨b, 0, none⟩), .pointer (some ⟨c, 0, none⟩)] h K := by
  refine q_extent_Table_meets_1_calls _ _ _ _ _ _ b c h K ?_
  unfold q_extent_Table_meets_1
  refine newB fun g b1 x1 z1 => ⟨_, cellB b1 rfl, _, cellB (x1.at hb) rfl, iteP_cases (fun hi => ?_) fun hi => ?_⟩
  · refine ⟨_, cellB (x1.at hc) rfl, _, cellB b1 rfl, _, cellB b1 rfl, _, cellB b1 rfl, _, cellB b1 rfl, _, cellB b1 rfl, _, cellB b1 rfl, c_end x h1 h2 fun g2 x2 => ⟨_, rfl, ⟨_, cellB (Ext.at (x1.trans x2) hc) rfl, rfl⟩, ?_⟩⟩
    have := hK g2 (x1.trans x2)
    have e : decide (x.1 < to ∧ fr ≤ x.1) = decide (fr < x.1 + 1) := by
      by_cases hf : fr ≤ x.1
      · rw [decide_eq_true ⟨hi, hf⟩, decide_eq_true (by omega)]
      · rw [decide_eq_false (by omega), decide_eq_false (by omega)]
    rw [e] at this; exact this
  · have := hK g x1
    rw [decide_eq_false (by omega)] at this
    exact this
theorem c_meets (ha : TabAt h t k E last F) (hE : E.length ≤ 24) (hin : ∀ x ∈ E, 0 ≤ x.1 ∧ x.1 < 64) (fr : Int) (hfree : ∀ x ∈ E, x.1 ≠ fr) (hK : ∀ h', Ext h h' → K (.pointer none) h') :
    CallsH Try.prog f_extent_Table_meets #[.pointer (some ⟨t, 0, none⟩), .int .i64 fr, .int .i64 (fr + 1)] h K := by
  refine q_extent_Table_meets_calls t fr (fr + 1) h K ?_
  unfold q_extent_Table_meets
  refine newB fun g1 b1 x1 z1 => newB fun g2 b2 x2 z2 => ?_
  obtain ⟨p, bl, rfl, ht, hl, hnd⟩ := ha.ext (x1.trans x2)
  refine q_extent_list_api_Extent_find_meets_calls t _ _ g2 _ ?_
  unfold q_extent_list_api_Extent_find_meets
  have b1' := x2.at b1
  have x12 := x1.trans x2
  generalize g1.size = r2 at *
  generalize h.size = r1 at *
  refine ⟨_, cellB ht rfl, fun q g => ∃ E1 E2 bl1 bl2, E = E1 ++ E2 ∧ bl = bl1 ++ bl2 ∧ LkAt g2 q E2 bl2 ∧ Ext g2 g, fun q g => chainN 25 g q, ⟨[], E, [], bl, rfl, rfl, hl, Step.refl _ _⟩, ?_⟩
  rintro q g ⟨E1, E2, bl1, bl2, rfl, rfl, hq, xg⟩
  cases E2 with
  | nil =>
    obtain ⟨rfl, rfl⟩ := hq
    exact iteP_f rfl ⟨_, rfl, hK g (x12.trans xg)⟩
  | cons x E2 =>
    obtain ⟨blk, next, bl2, rfl, rfl, hblk, hq⟩ := hq
    obtain ⟨i1, i2⟩ := hin x (by simp)
    have i3 := hfree x (by simp)
    refine iteP_t rfl ?_
    have hg := xg.at hblk
    simp only [wth_some]
    refine ⟨_, cellB hg rfl, _, cellBa hg rfl, _, cellBa hg rfl, _, cellBa hg rfl, _, cellBa hg rfl, _, cellBa hg rfl, c_meets1 x i1 i2 (xg.at b2) (xg.at b1') fun g3 x3 => ⟨_, rfl, ?_⟩⟩
    rw [decide_eq_false (by omega)]
    refine iteP_f rfl ⟨_, cellBa (x3.at hg) rfl, ⟨E1 ++ [x], E2, bl1 ++ [blk], bl2, by simp, by simp, hq, xg.trans x3⟩, ?_⟩
    have hlen : (E1 ++ x :: E2).length ≤ 24 := hE
    simp only [List.length_append, List.length_cons] at hlen
    have l1 : LkAt g (some ⟨blk, 0, none⟩) (x :: E2) (blk :: bl2) := ⟨blk, next, bl2, rfl, rfl, hg, hq.congr fun q hqq => xg.same (hq.lt q hqq)⟩
    have l2 : LkAt g3 next E2 bl2 := hq.congr fun q hqq => Ext.same (xg.trans x3) (hq.lt q hqq)
    show chainN 25 g3 next < chainN 25 g (some ⟨blk, 0, none⟩)
    rw [l1.chain (by simp only [List.length_cons]; omega), l2.chain (by omega)]
    simp
end
end Go.Proofs.Ytmdhfmljgjnggaa
/- Package extent: all extents, the first room, how many are left, one of a number, one given up. No condition. -/
namespace Go.Proofs.Ytmdhfmljgjnggaa
attribute [local irreducible] semWP
set_option linter.constructorNameAsVariable false
theorem zeroExt : zeroCells Try.prog T_N_api_Extent = #[.int .u32 0, .int .i64 0, .int .i64 0, .int .u8 0, .string ⟨#[]⟩, .int .u8 0] := by kernel_rfl
theorem ext6_one (x : Int × Int) : ∀ v ∈ ext6 x, oneV v = true := by
  intro v hv
  simp only [ext6, List.mem_cons, List.not_mem_nil, or_false] at hv
  rcases hv with rfl | rfl | rfl | rfl | rfl | rfl <;> rfl
theorem ext_cells {h : Hp} {p : Option Addr} {c : Nat} {E : List (Int × Int)} {G : List Nat} (hs : SlAt h T_N_api_Extent 6 p E.length c (E.flatMap ext6) G) {i : Nat} {x : Int × Int} (hi : E[i]? = some x) :
    ∃ a, p = some a ∧ cellAt h (a.add (i * 6)) = some (.int .u32 x.2) ∧ cellAt h ((a.add (i * 6)).add 1) = some (.int .i64 x.1) ∧ cellAt h ((a.add (i * 6)).add 2) = some (.int .i64 1) ∧
      cellAt h ((a.add (i * 6)).add 3) = some (.int .u8 0) ∧ cellAt h ((a.add (i * 6)).add 4) = some (.string ⟨#[47]⟩) ∧ cellAt h ((a.add (i * 6)).add 5) = some (.int .u8 0) := by
  have hlt := (List.getElem?_eq_some_iff.1 hi).1
  have key : ∀ j, j < 6 → ∃ a v, p = some a ∧ (ext6 x)[j]? = some v ∧ cellAt h (a.add (i * 6 + j)) = some v := by
    intro j hj
    obtain ⟨a, v, h1, h2, h3, _⟩ := hs.cellk (j := i * 6 + j) (by omega)
    rw [flatMap_get ext6_len E i j hj, hi] at h2
    exact ⟨a, v, h1, h2, h3⟩
  obtain ⟨a, v0, rfl, e0, c0⟩ := key 0 (by omega)
  obtain ⟨a1, v1, q1, e1, c1⟩ := key 1 (by omega)
  obtain ⟨a2, v2, q2, e2, c2⟩ := key 2 (by omega)
  obtain ⟨a3, v3, q3, e3, c3⟩ := key 3 (by omega)
  obtain ⟨a4, v4, q4, e4, c4⟩ := key 4 (by omega)
  obtain ⟨a5, v5, q5, e5, c5⟩ := key 5 (by omega)
  cases q1; cases q2; cases q3; cases q4; cases q5
  cases e0; cases e1; cases e2; cases e3; cases e4; cases e5
  simp only [Addr.add_add]
  exact ⟨a, rfl, c0, c1, c2, c3, c4, c5⟩
section
variable {h h' : Hp} {t b : Nat} {k last id : Int} {E : List (Int × Int)} {F : List Nat} {K : Value → Hp → Prop}
theorem c_List (ha : TabAt h t k E last F) (hE : E.length ≤ 24) (hK : ∀ h' p c G, SlAt h' T_N_api_Extent 6 p E.length c (E.flatMap ext6) G → Ext h h' → K (.slice p E.length c) h') :
    CallsH Try.prog f_extent_Table_List #[.pointer (some ⟨t, 0, none⟩)] h K := by
  refine q_extent_Table_List_calls t h K ?_
  unfold q_extent_Table_List
  obtain ⟨p, bl, rfl, ht, hl, hnd⟩ := ha
  refine q_extent_list_api_Extent_values_at_calls t h _ ?_
  unfold q_extent_list_api_Extent_values_at
  refine ⟨_, cellB ht rfl, fun x q g => ∃ E1 E2 bl1 bl2 G, E = E1 ++ E2 ∧ bl = bl1 ++ bl2 ∧ LkAt h q E2 bl2 ∧ Ext h g ∧ x.2.1 = E1.length ∧ SlAt g T_N_api_Extent 6 x.1 E1.length x.2.2 (E1.flatMap ext6) G ∧ ∀ q ∈ G, h.size ≤ q, fun _ q g => chainN 25 g q,
    ⟨[], E, [], bl, [], rfl, rfl, hl, Step.refl _ _, rfl, SlAt.nil _ _ _, by simp⟩, ?_⟩
  rintro ⟨sp, sn, sc⟩ q g ⟨E1, E2, bl1, bl2, G, rfl, rfl, hq, xg, hsn, hs, hG⟩
  obtain rfl : sn = E1.length := hsn
  cases E2 with
  | nil =>
    obtain ⟨rfl, rfl⟩ := hq
    refine iteP_f rfl ⟨_, _, _, rfl, ?_⟩
    rw [List.append_nil] at hK
    exact hK g _ _ G hs xg
  | cons x E2 =>
    obtain ⟨blk, next, bl2, rfl, rfl, hblk, hq⟩ := hq
    refine iteP_t rfl ?_
    have hg := xg.at hblk
    have hlen : (E1 ++ x :: E2).length ≤ 24 := hE
    simp only [List.length_append, List.length_cons] at hlen
    simp only [wth_some]
    refine ⟨_, cellB hg rfl, _, cellBa hg rfl, _, cellBa hg rfl, _, cellBa hg rfl, _, cellBa hg rfl, _, cellBa hg rfl, newB fun g2 b2 x2 z2 => ?_⟩
    refine semWP_append (t := T_s_api_Extent) (xt := T_s_api_Extent) (el := T_N_api_Extent) (xel := T_N_api_Extent) (i := Try.prog.types[T_N_api_Extent]!) (sz := 6) (by rfl) (by rfl) (by kernel_rfl) (by kernel_rfl) (by kernel_rfl) (by kernel_rfl) (by kernel_rfl) (by kernel_rfl) (by kernel_rfl) (by decide +kernel) (by show E1.length + 1 ≤ _; omega)
      (hs.ext x2) (xs := ext6 x) (G := [g.size]) ⟨rfl, by omega, .inr ⟨g.size, 0, _, rfl, rfl, b2, by simp, by simp [ext6]⟩⟩ (ext6_one x) fun g3 p3 c3 F3 s3 st3 => ⟨_, _, _, rfl, ?_⟩
    have x3 : Ext h g3 := Ext.thenNew (xg.trans x2) st3 hG
    refine ⟨_, cellBa (x3.at hblk) rfl, ⟨E1 ++ [x], E2, bl1 ++ [blk], bl2, F3, by simp, by simp, hq, x3, by simp, ?_, fun q hq3 => ?_⟩, ?_⟩
    · rw [List.flatMap_append, List.length_append]
      simpa using s3
    · rcases st3.foot q hq3 with h5 | h5
      · exact hG q h5
      · have := xg.size; have := x2.size; omega
    · have l1 : LkAt g (some ⟨blk, 0, none⟩) (x :: E2) (blk :: bl2) := ⟨blk, next, bl2, rfl, rfl, hg, hq.congr fun q hqq => xg.same (hq.lt q hqq)⟩
      have l2 : LkAt g3 next E2 bl2 := hq.congr fun q hqq => x3.same (hq.lt q hqq)
      show chainN 25 g3 next < chainN 25 g (some ⟨blk, 0, none⟩)
      rw [l1.chain (by simp only [List.length_cons]; omega), l2.chain (by omega)]
      simp
def roomE (k : Int) : List (Int × Int) → Int → Int × Int
  | [], fr => if 1 ≤ k - fr then (fr, 0) else (0, 4)
  | x :: E, fr => if 1 ≤ x.1 - fr then (fr, 0) else roomE k E (x.1 + 1)
theorem drop_at {α : Type} {l : List α} {i : Nat} {x : α} (h : l[i]? = some x) : l.drop i = x :: l.drop (i + 1) := by
  obtain ⟨h1, rfl⟩ := List.getElem?_eq_some_iff.1 h
  exact List.drop_eq_getElem_cons h1
theorem c_Room (ha : TabAt h t k E last F) (hE : E.length ≤ 24) (hk : 0 ≤ k ∧ k ≤ 64) (hin : ∀ x ∈ E, 0 ≤ x.1 ∧ x.1 < 64) (hK : ∀ h', Ext h h' → K (.tuple #[.int .i64 (roomE k E 0).1, .int .i64 (roomE k E 0).2]) h') :
    CallsH Try.prog f_extent_Table_Room #[.pointer (some ⟨t, 0, none⟩), .int .i64 1] h K := by
  refine q_extent_Table_Room_calls t 1 h K ?_
  unfold q_extent_Table_Room
  refine iteP_no (by omega) (c_List ha hE fun g p c G hs xg => ⟨_, _, _, rfl, ?_⟩)
  have ht : cellAt g ⟨t, 0, none⟩ = some (.int .i64 k) := by
    obtain ⟨_, _, _, h1, _⟩ := ha
    exact cellB (xg.at h1) rfl
  refine ⟨fun fr i g' => 0 ≤ i ∧ i ≤ E.length ∧ 0 ≤ fr ∧ fr ≤ 64 ∧ Ext g g' ∧ roomE k E 0 = roomE k (E.drop i.toNat) fr, fun _ i _ => (E.length - i.toNat), ⟨by omega, by omega, by omega, by omega, Step.refl _ _, rfl⟩, ?_⟩
  rintro fr i g' ⟨i0, i1, f0, f1, xg', hr⟩
  refine iteP_cases (fun hi => ⟨i0, hi, ?_⟩) fun hi => ?_
  · have hlt : i.toNat < E.length := by omega
    obtain ⟨a, rfl, c0, c1, c2, c3, c4, c5⟩ := ext_cells (hs.ext xg') (List.getElem?_eq_getElem hlt)
    obtain ⟨q1, q2⟩ := hin _ (List.getElem_mem hlt)
    have hd := drop_at (List.getElem?_eq_getElem hlt)
    generalize E[i.toNat] = x at *
    simp only [wth_some]
    refine ⟨_, c0, _, c1, _, c2, _, c3, _, c4, _, c5, newB fun g2 b2 x2 z2 => ?_⟩
    rw [zeroExt] at b2
    refine set6 b2 fun g3 b3 st3 z3 => ⟨_, cellB b3 rfl, ?_⟩
    have x3 : Ext g' g3 := x2.thenNew st3 (by simp)
    rw [hd] at hr
    simp only [roomE] at hr
    rw [wrap64 (x := x.1 - fr) (by omega) (by omega)]
    refine iteP_cases (fun hc => ?_) fun hc => ?_
    · rw [if_pos hc] at hr
      have := hK g3 (xg.trans (xg'.trans x3))
      rw [hr] at this; exact this
    · rw [if_neg hc] at hr
      refine ⟨_, cellB b3 rfl, _, cellB b3 rfl, _, cellB b3 rfl, _, cellB b3 rfl, _, cellB b3 rfl, _, cellB b3 rfl, c_end x q1 q2 fun g4 x4 => ⟨_, rfl, ?_⟩⟩
      rw [wrap64 (x := i + 1) (by omega) (by omega)]
      exact ⟨⟨by omega, by omega, by omega, by omega, xg'.trans (x3.trans x4), by rw [show (i + 1).toNat = i.toNat + 1 by omega]; exact hr⟩, by show E.length - (i + 1).toNat < E.length - i.toNat; omega⟩
  · have hd : E.drop i.toNat = [] := List.drop_of_length_le (by omega)
    rw [hd] at hr
    simp only [roomE] at hr
    refine ⟨_, Ext.cell xg' ht, ?_⟩
    rw [wrap64 (x := k - fr) (by omega) (by omega)]
    have := hK g' (xg.trans xg')
    rw [hr] at this
    refine iteP_cases (fun hc => ?_) fun hc => ?_
    · rw [if_pos hc] at this; exact this
    · rw [if_neg hc] at this; exact this
theorem c_extLeft (ha : TabAt h t k E last F) (hE : E.length ≤ 24) (hk : 0 ≤ k ∧ k ≤ 64) (hK : ∀ h', Ext h h' → K (.int .i64 (k - E.length)) h') :
    CallsH Try.prog f_extent_Table_Left #[.pointer (some ⟨t, 0, none⟩)] h K := by
  refine q_extent_Table_Left_calls t h K ?_
  unfold q_extent_Table_Left
  have ht : cellAt h ⟨t, 0, none⟩ = some (.int .i64 k) := by
    obtain ⟨_, _, _, h1, _⟩ := ha
    exact cellB h1 rfl
  refine ⟨_, ht, c_List ha hE fun g p c G hs xg => ⟨_, _, _, rfl, ?_⟩⟩
  refine ⟨fun n i g' => 0 ≤ i ∧ i ≤ E.length ∧ n = k - i ∧ Ext g g', fun _ i _ => (E.length - i.toNat), ⟨by omega, by omega, by omega, Step.refl _ _⟩, ?_⟩
  rintro n i g' ⟨i0, i1, rfl, xg'⟩
  refine iteP_cases (fun hi => ⟨i0, hi, ?_⟩) fun hi => ?_
  · have hlt : i.toNat < E.length := by omega
    obtain ⟨a, rfl, c0, c1, c2, c3, c4, c5⟩ := ext_cells (hs.ext xg') (List.getElem?_eq_getElem hlt)
    generalize E[i.toNat] = x at *
    simp only [wth_some]
    refine ⟨_, c0, _, c1, _, c2, _, c3, _, c4, _, c5, newB fun g2 b2 x2 z2 => ?_⟩
    rw [zeroExt] at b2
    refine set6 b2 fun g3 b3 st3 z3 => ⟨_, cellB b3 rfl, ?_⟩
    have x3 : Ext g' g3 := x2.thenNew st3 (by simp)
    rw [wrap64 (x := i + 1) (by omega) (by omega), wrap64 (x := k - i - 1) (by omega) (by omega)]
    exact ⟨⟨by omega, by omega, by omega, xg'.trans x3⟩, by show E.length - (i + 1).toNat < E.length - i.toNat; omega⟩
  · have := hK g' (xg.trans xg')
    rw [show k - i = k - E.length by omega]; exact this
theorem c_Get (ha : TabAt h t k E last F) (hE : E.length ≤ 24) {st : Int} (hx : (st, id) ∈ E) (hu : ∀ x ∈ E, x.2 = id → x = (st, id)) (hK : ∀ h', Ext h h' → K (.tuple #[.agg #[.int .u32 id, .int .i64 st, .int .i64 1, .int .u8 0, .string ⟨#[47]⟩, .int .u8 0], .bool true]) h') :
    CallsH Try.prog f_extent_Table_Get #[.pointer (some ⟨t, 0, none⟩), .int .u32 id] h K := by
  refine q_extent_Table_Get_calls t id h K ?_
  unfold q_extent_Table_Get
  refine newB fun g1 b1 x1 z1 => c_numbered fun g2 b2 x2 z2 => ⟨_, rfl, ?_⟩
  refine c_find_num (ha.ext (x1.trans x2)) hE b2 (fun hn => (hn _ hx rfl).elim) fun x blk next g3 hxE hxid _ hblk x3 => ⟨_, rfl, ?_⟩
  obtain rfl := hu x hxE hxid
  refine q_extent_one_calls blk g3 _ ?_
  unfold q_extent_one
  have hb3 := x3.at hblk
  refine newB fun g4 b4 x4 z4 => ?_
  have hb4 := x4.at hb3
  refine ⟨_, cellB hb4 rfl, _, cellB hb4 rfl, _, cellB hb4 rfl, _, cellB hb4 rfl, _, cellB hb4 rfl, _, cellB hb4 rfl, ?_⟩
  rw [zeroExt] at b4
  refine set6 b4 fun g5 b5 st5 z5 => ?_
  refine ⟨_, cellB b5 rfl, _, cellB b5 rfl, _, cellB b5 rfl, _, cellB b5 rfl, _, cellB b5 rfl, _, cellB b5 rfl, _, _, _, _, _, _, _, rfl, ?_⟩
  have x5 : Ext g1 g5 := Ext.thenNew (x2.trans (x3.trans x4)) st5 (by have := x2.size; have := x3.size; simp; omega)
  rw [zeroExt] at b1
  refine set6 (x5.at b1) fun g6 b6 st6 z6 => ?_
  refine ⟨_, cellB b6 rfl, _, cellB b6 rfl, _, cellB b6 rfl, _, cellB b6 rfl, _, cellB b6 rfl, _, cellB b6 rfl, ?_⟩
  exact hK g6 (Ext.thenNew (x1.trans x5) st6 (by simp))
end
end Go.Proofs.Ytmdhfmljgjnggaa
