/- What the functions of package vm do at a nil pointer; what 'live' answers. No condition. -/
import Derived.Test.YtmdhfmljgjnggaaQnil
import Derived.Test.YtmdhfmljgjnggaaCKeys
import Derived.Test.YtmdhfmljgjnggaaFkWalk
namespace Go.Proofs.Ytmdhfmljgjnggaa
attribute [local irreducible] semWP
section
variable {h : Hp} {K : Value → Hp → Prop}
theorem n_of (a : Int) (hK : K (.tuple #[.map none, .int .i64 1]) h) : CallsH Try.prog f_vm_Vm_of #[.pointer none, .int .i64 a] h K := q_vm_Vm_of_nil_calls a h K hK
theorem n_fresh (a : Int) (hK : K (.int .i64 1) h) : CallsH Try.prog f_vm_Vm_fresh #[.pointer none, .int .i64 a] h K := q_vm_Vm_fresh_nil_calls a h K hK
theorem n_at (a b : Int) (hK : K (.tuple #[.map none, .int .i64 1]) h) : CallsH Try.prog f_vm_Vm_at #[.pointer none, .int .i64 a, .int .i64 b] h K := by
  refine q_vm_Vm_at_nil_calls a b h K ?_
  unfold q_vm_Vm_at_nil
  exact n_of a ⟨_, _, rfl, iteP_ne (by decide) hK⟩
theorem n_page (a b : Int) (hK : K (.tuple #[.map none, .bool false, .int .i64 1]) h) : CallsH Try.prog f_vm_Vm_page #[.pointer none, .int .i64 a, .int .i64 b] h K := by
  refine q_vm_Vm_page_nil_calls a b h K ?_
  unfold q_vm_Vm_page_nil
  exact n_of a ⟨_, _, rfl, iteP_ne (by decide) hK⟩
theorem n_Peek (a b : Int) (hK : K (.tuple #[.int .u8 0, .int .i64 1]) h) : CallsH Try.prog f_vm_Vm_Peek #[.pointer none, .int .i64 a, .int .i64 b] h K := by
  refine q_vm_Vm_Peek_nil_calls a b h K ?_
  unfold q_vm_Vm_Peek_nil
  exact n_at a b ⟨_, _, rfl, iteP_ne (by decide) hK⟩
theorem look_nil (b : Int) : RunsTo Try.prog (Instr.lookup T_N_vm_space (.map none) (.int .i64 b) true) h (.tuple #[.int .i64 0, .bool false]) := by
  have := runs_lookup_nil (P := Try.prog) (h := h) (t := T_N_vm_space) (kt := T_int) (et := T_int) (k := .i64) (n := b) (by kernel_rfl) (by kernel_rfl) (by kernel_rfl) true
  rw [show zeroOf Try.prog T_int = .int .i64 0 by kernel_rfl] at this
  simpa using this
theorem n_Frame (a b : Int) (hK : K (.tuple #[.int .i64 0, .bool false]) h) : CallsH Try.prog f_vm_Vm_Frame #[.pointer none, .int .i64 a, .int .i64 b] h K := by
  refine q_vm_Vm_Frame_nil_calls a b h K ?_
  unfold q_vm_Vm_Frame_nil
  exact n_of a ⟨_, _, rfl, _, _, look_nil b, iteP_t rfl hK⟩
theorem n_Begin (a : Int) (hK : K (.int .i64 1) h) : CallsH Try.prog f_vm_Vm_Begin #[.pointer none, .int .i64 a] h K := by
  refine q_vm_Vm_Begin_nil_calls a h K ?_
  unfold q_vm_Vm_Begin_nil
  exact n_fresh a ⟨_, rfl, iteP_neq (by decide) hK⟩
theorem n_End (a : Int) (hK : K (.int .i64 1) h) : CallsH Try.prog f_vm_Vm_End #[.pointer none, .int .i64 a] h K := by
  refine q_vm_Vm_End_nil_calls a h K ?_
  unfold q_vm_Vm_End_nil
  exact n_of a ⟨_, _, rfl, iteP_ne (by decide) hK⟩
theorem n_Fork (a b : Int) (hK : K (.int .i64 1) h) : CallsH Try.prog f_vm_Vm_Fork #[.pointer none, .int .i64 a, .int .i64 b] h K := by
  refine q_vm_Vm_Fork_nil_calls a b h K ?_
  unfold q_vm_Vm_Fork_nil
  exact n_of a ⟨_, _, rfl, iteP_ne (by decide) hK⟩
theorem n_Map (a b : Int) (hK : K (.int .i64 1) h) : CallsH Try.prog f_vm_Vm_Map #[.pointer none, .int .i64 a, .int .i64 b] h K := by
  refine q_vm_Vm_Map_nil_calls a b h K ?_
  unfold q_vm_Vm_Map_nil
  exact n_page a b ⟨_, _, _, rfl, iteP_ne (by decide) hK⟩
theorem n_Unmap (a b : Int) (hK : K (.int .i64 1) h) : CallsH Try.prog f_vm_Vm_Unmap #[.pointer none, .int .i64 a, .int .i64 b] h K := by
  refine q_vm_Vm_Unmap_nil_calls a b h K ?_
  unfold q_vm_Vm_Unmap_nil
  exact n_page a b ⟨_, _, _, rfl, iteP_ne (by decide) hK⟩
theorem n_Poke (a b c : Int) (hK : K (.int .i64 1) h) : CallsH Try.prog f_vm_Vm_Poke #[.pointer none, .int .i64 a, .int .i64 b, .int .u8 c] h K := by
  refine q_vm_Vm_Poke_nil_calls a b c h K ?_
  unfold q_vm_Vm_Poke_nil
  exact n_at a b ⟨_, _, rfl, iteP_ne (by decide) hK⟩
theorem n_Fill (a b : Int) (p : Option Addr) (n c : Nat) (hK : K (.int .i64 1) h) : CallsH Try.prog f_vm_Vm_Fill #[.pointer none, .int .i64 a, .int .i64 b, .slice p n c] h K := by
  refine q_vm_Vm_Fill_nil_calls a b p n c h K ?_
  unfold q_vm_Vm_Fill_nil
  exact n_of a ⟨_, _, rfl, iteP_ne (by decide) hK⟩
theorem c_Keys_nil (hK : ∀ h', h' = h.push (.cells #[.map none] T_N_vm_space) → K (.func (.func f_maps_Keys_vm_space_int_int_1) #[] #[.pointer (some ⟨h.size, 0, none⟩)]) h') : CallsH Try.prog f_maps_Keys_vm_space_int_int #[.map none] h K := by
  refine q_maps_Keys_vm_space_int_int_nil_calls h K ?_
  unfold q_maps_Keys_vm_space_int_int_nil
  exact letH_iff.2 (hK _ rfl)
theorem n_Pages (a : Int) (hK : ∀ h', Ext h h' → K (.slice none 0 0) h') : CallsH Try.prog f_vm_Vm_Pages #[.pointer none, .int .i64 a] h K := by
  refine q_vm_Vm_Pages_nil_calls a h K ?_
  unfold q_vm_Vm_Pages_nil
  refine n_of a ⟨_, _, rfl, c_Keys_nil fun h1 e1 => ⟨_, rfl, ?_⟩⟩
  subst e1
  exact c_sorted_nil (push_new _ _) fun h' x' => ⟨_, _, _, rfl, hK h' ((Ext.push _ _).trans x')⟩
theorem n_Refs (a : Int) (hK : K (.int .i64 0) h) : CallsH Try.prog f_vm_Vm_Refs #[.pointer none, .int .i64 a] h K := q_vm_Vm_Refs_nil_calls a h K hK
theorem n_Left (hK : K (.int .i64 0) h) : CallsH Try.prog f_vm_Vm_Left #[.pointer none] h K := q_vm_Vm_Left_nil_calls h K hK
theorem n_Copies (hK : K (.int .i64 0) h) : CallsH Try.prog f_vm_Vm_Copies #[.pointer none] h K := q_vm_Vm_Copies_nil_calls h K hK
theorem n_Copy (hK : K (.pointer none) h) : CallsH Try.prog f_vm_Vm_Copy #[.pointer none] h K := q_vm_Vm_Copy_nil_calls h K hK

def liveS1 : VmS := (mapS (beginS (newS 3) 0).2 0 0).2
def liveS2 : VmS := (pokeS liveS1 0 5 7).2
def liveS3 : VmS := (forkS liveS2 0 1).2
def liveS4 : VmS := (pokeS liveS3 1 5 8).2
theorem live_1 : (mapS (beginS (newS 3) 0).2 0 0).1 = 0 := by kernel_rfl
theorem live_2 : (pokeS liveS1 0 5 7).1 = 0 := by kernel_rfl
theorem live_3 : (forkS liveS2 0 1).1 = 0 := by kernel_rfl
theorem live_4 : (pokeS liveS3 1 5 8).1 = 0 := by kernel_rfl
theorem live_5 : peekS liveS4 0 5 = (7, 0) := by kernel_rfl
theorem live_6 : peekS liveS4 1 5 = (8, 0) := by kernel_rfl
theorem live_7 : liveS4.cp = 1 := by kernel_rfl
theorem live_8 : leftS liveS4 = 1 := by kernel_rfl
/-- 'live' answers true. -/
theorem c_live (hK : ∀ h', Ext h h' → K (.bool true) h') : CallsH Try.prog f_law19_live #[] h K := by
  refine q_law19_live_calls h K ?_
  unfold q_law19_live
  refine c_vm_New 3 (fun hb => by omega) fun _ _ h1 v F1 v1 x1 n1 => ⟨_, rfl, ?_⟩
  have w1 : VmRep h1 v (newS 3) F1 := v1
  refine c_vm_Begin w1 0 fun h2 F2 v2 x2 => ⟨_, rfl, ?_⟩
  refine c_vm_Map v2 0 0 fun h3 F3 v3 x3 => ⟨_, rfl, ?_⟩
  rw [live_1]
  have w3 : VmRep h3 v liveS1 F3 := v3
  refine c_vm_Poke w3 0 5 7 fun h4 F4 v4 x4 => ⟨_, rfl, ?_⟩
  rw [live_2]
  have w4 : VmRep h4 v liveS2 F4 := v4
  refine c_vm_Fork w4 0 1 fun h5 F5 v5 x5 => ⟨_, rfl, ?_⟩
  rw [live_3]
  have w5 : VmRep h5 v liveS3 F5 := v5
  refine c_vm_Poke w5 1 5 8 fun h6 F6 v6 x6 => ⟨_, rfl, ?_⟩
  rw [live_4]
  have w6 : VmRep h6 v liveS4 F6 := v6
  have x : Ext h h6 := x1.trans' ((((x2.trans x3).trans x4).trans x5).trans x6) n1
  refine c_vm_Peek w6 0 5 ?_
  rw [live_5]
  refine ⟨_, _, rfl, c_vm_Peek w6 1 5 ?_⟩
  rw [live_6]
  refine ⟨_, _, rfl, iteP_eq rfl (iteP_eq rfl (iteP_eq rfl (iteP_eq rfl (iteP_eq rfl (iteP_eq rfl ?_)))))⟩
  refine c_vm_Copies w6 ?_
  rw [live_7]
  refine ⟨_, rfl, iteP_eq rfl (c_vm_Left w6 ?_)⟩
  rw [live_8]
  exact ⟨_, rfl, hK h6 x⟩
theorem c_VmNone (a b c d e n : Int) (p : Option Addr) (l cp : Nat) (hK : ∀ h', Ext h h' → K (.bool true) h') : CallsH Try.prog f_law19_VmNone #[.agg #[.int .i64 a, .int .i64 b, .int .i64 c, .int .i64 d, .int .u8 e, .slice p l cp], .int .i64 n] h K := by
  refine q_law19_VmNone_calls a b c d e p l cp n h K ?_
  unfold q_law19_VmNone
  refine letH_iff.2 ?_
  have x1 : Ext h (h.push (.cells #[.int .i64 a, .int .i64 b, .int .i64 c, .int .i64 d, .int .u8 e, .slice p l cp] T_N_law19_Deed)) := Ext.push _ _
  have hb : (h.push (.cells #[.int .i64 a, .int .i64 b, .int .i64 c, .int .i64 d, .int .u8 e, .slice p l cp] T_N_law19_Deed))[h.size]? = some (.cells #[.int .i64 a, .int .i64 b, .int .i64 c, .int .i64 d, .int .u8 e, .slice p l cp] T_N_law19_Deed) := push_new _ _
  generalize h.push (.cells #[.int .i64 a, .int .i64 b, .int .i64 c, .int .i64 d, .int .u8 e, .slice p l cp] T_N_law19_Deed) = g at *
  have c1 : ∀ {g' : Hp}, Ext g g' → cellAt g' ⟨h.size, 1, none⟩ = some (.int .i64 b) := fun x => by rw [cellAt_cells (x.at hb)]; rfl
  have c2 : ∀ {g' : Hp}, Ext g g' → cellAt g' ⟨h.size, 2, none⟩ = some (.int .i64 c) := fun x => by rw [cellAt_cells (x.at hb)]; rfl
  have c3 : ∀ {g' : Hp}, Ext g g' → cellAt g' ⟨h.size, 3, none⟩ = some (.int .i64 d) := fun x => by rw [cellAt_cells (x.at hb)]; rfl
  have x0 : Ext g g := Step.refl _ _
  refine ⟨_, c1 x0, _, c3 x0, n_Peek _ _ ⟨_, _, rfl, _, c1 x0, _, c3 x0, n_Frame _ _ ⟨_, _, rfl, c_live fun g1 y1 => ⟨_, rfl, iteP_t rfl ?_⟩⟩⟩⟩
  refine ⟨_, c1 y1, n_Begin _ ⟨_, rfl, iteP_eq rfl ⟨_, c1 y1, n_End _ ⟨_, rfl, iteP_eq rfl ?_⟩⟩⟩⟩
  refine ⟨_, c1 y1, _, c2 y1, n_Fork _ _ ⟨_, rfl, iteP_eq rfl ⟨_, c1 y1, _, c3 y1, n_Map _ _ ⟨_, rfl, iteP_eq rfl ?_⟩⟩⟩⟩
  refine ⟨_, c1 y1, _, c3 y1, n_Unmap _ _ ⟨_, rfl, iteP_eq rfl ⟨_, c1 y1, _, c3 y1, n_Poke _ _ _ ⟨_, rfl, iteP_eq rfl ?_⟩⟩⟩⟩
  refine iteP_eq rfl (iteP_eq rfl ⟨_, c1 y1, _, c3 y1, n_Fill _ _ _ _ _ ⟨_, rfl, iteP_eq rfl ⟨_, c1 y1, n_Pages _ fun g2 y2 => ⟨_, _, _, rfl, iteP_eq rfl (iteP_eq rfl (iteP_t rfl ?_))⟩⟩⟩⟩)
  have y3 := y1.trans y2
  refine ⟨_, c3 y3, n_Refs _ ⟨_, rfl, iteP_eq rfl (n_Left ⟨_, rfl, iteP_eq rfl (n_Copies ⟨_, rfl, iteP_eq rfl (n_Copy ⟨_, rfl, iteP_t rfl ?_⟩)⟩)⟩)⟩⟩
  refine c_vm_New n (fun hb => ⟨_, rfl, ?_⟩) fun h1 h2 g3 v F3 v3 x3 _ => ⟨_, rfl, ?_⟩
  · have := hK g2 (x1.trans y3)
    refine iteP_cases (fun h1 => this) fun h1 => ?_
    rw [show decide (n > 64) = true by simp; omega]
    exact this
  · have := hK g3 (x1.trans (y3.trans x3))
    refine iteP_no (by omega) ?_
    rw [show decide (n > 64) = false by simp; omega]
    exact this
end
end Go.Proofs.Ytmdhfmljgjnggaa
