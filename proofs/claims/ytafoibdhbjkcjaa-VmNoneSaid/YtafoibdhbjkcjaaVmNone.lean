/- A nil memory of processes answers so, whatever the deed and the number: the given statement Rows.VmNoneSaid is proved. No condition. -/
import Derived.Test.YtafoibdhbjkcjaaFrame
import Derived.Test.YtafoibdhbjkcjaaCNil
namespace Go.Proofs.Ytafoibdhbjkcjaa.vmnone
open Go.ChangeShapes Go.WideShapes Go.ChangeAt Go.RowKit
set_option linter.unusedVariables false
set_option linter.constructorNameAsVariable false
theorem params : Try.f5.params = #[T_N_law19_Deed, T_int] := by kernel_rfl
theorem undDeed : ∃ fs, Try.prog.underlying T_N_law19_Deed = some (.struct fs) := ⟨_, Try.underlying35⟩
theorem typesDeed : Try.prog.cellTypes Try.prog.depth T_N_law19_Deed = some [T_int, T_int, T_int, T_int, T_uint8, T_s_uint8] := by kernel_rfl
theorem cellsDeed : Try.prog.cellsOf T_N_law19_Deed = 6 := by kernel_rfl
theorem undBytes : Try.prog.underlying T_s_uint8 = some (.slice T_uint8) := by kernel_rfl
set_option maxRecDepth 100000 in
theorem lifted (os : Os) (started : os.Started) (H : Type) (enc : TypeId × Value → H) :
    ReturnsInHanded {} Try.checked os 5 .any (Rows.vmNoneSpec.pre6 enc Try.prog Try.f5 Rows.vmNoneRow.domain false) (Rows.vmNoneSpec.post enc Try.prog Try.f5 false true false false) := by
  refine returnsInHanded_of_change (C := Try.checked) own started (by kernel_rfl) Try.func5
    (ChangeSpec.witness6 (enc := enc) (C := Try.checked) false ⟨#[], #[.agg #[.int .i64 0, .int .i64 0, .int .i64 0, .int .i64 0, .int .u8 0, .slice none 0 0], .int .i64 0], []⟩ 8 (by kernel_rfl) (by kernel_rfl) (by kernel_rfl) (by kernel_rfl)) ?_
  intro W base args ds gs before hval0 hW hcnd _
  have hval : ∀ (j : Nat) t v, Try.f5.params[j]? = some t → args[j]? = some v → Value.okWide Try.prog W .any base t v := hval0
  have hW' := hW
  obtain ⟨p, q, hA0, hV, rfl, hfz, hnd⟩ := hW
  have hA : DataW.TrodAll enc Try.prog W 0 (fun _ => true) true Try.f5.params.toList args.toList ds p := hA0
  rw [params] at hA hval
  obtain ⟨v0, vs0, d0, ds0, p0, q0, hargs, rfl, rfl, h0, r0⟩ := trodAll_cons hA
  obtain ⟨v1, vs1, d1, ds1, p1, q1, rfl, rfl, rfl, h1, r1⟩ := trodAll_cons r0
  obtain ⟨rfl, rfl, rfl⟩ := trodAll_nil r1
  obtain rfl : args = #[v0, v1] := by cases args; simp_all
  obtain ⟨rfl, rfl⟩ := trodVars_none hV
  have k0 := h0
  have lt0 : ∀ x ∈ p0, x.block < W.heap.size := by obtain ⟨m, hm⟩ := k0; exact DataW.trod_lt m _ _ _ hm
  have k1 := h1
  have lt1 : ∀ x ∈ p1, x.block < W.heap.size := by obtain ⟨m, hm⟩ := k1; exact DataW.trod_lt m _ _ _ hm
  obtain ⟨fs, hfs⟩ := undDeed
  obtain ⟨a, b, c, d, e, sp, sl, sk, rfl⟩ := deed_open hfs typesDeed cellsDeed und3 und5 undBytes (hval 0 T_N_law19_Deed v0 rfl rfl)
  obtain ⟨n, rfl, _, _, w1⟩ := open_int und3 (hval 1 T_int v1 rfl rfl) h1
  clear hA0 hval0
  refine (calls_below (c_VmNone (h := W.heap) a b c d e n sp sl sk fun h' x => ⟨rfl, x⟩)).mono fun e W' ⟨he, bel⟩ => ?_
  subst he
  exact ⟨_, rfl, _, _, _, [], _, [], hW', trodAll_mk1 (shut_bool und4 _), (trodAll_cons_mk (Below.trod laidOut (by kernel_rfl) (of_decide_eq_true (by kernel_rfl)) k0 bel lt0) (trodAll_cons_mk (Below.trod laidOut (by kernel_rfl) (of_decide_eq_true (by kernel_rfl)) k1 bel lt1) trodAll_mk0)), rfl, bel.frame _, fun h => by cases h⟩
theorem over : Rows.vmNoneRow.holds Try.pinned (OpenSpec.ofChange Rows.vmNoneSpec) :=
  OpenClaim.holds_of_wide 5 Try.f5 rfl rfl rfl rfl rfl rfl rfl ⟨rfl, rfl, rfl, rfl, rfl⟩ rfl rfl rfl rfl rfl (by kernel_rfl) Try.func5 (by kernel_rfl)
    (of_decide_eq_true (by kernel_rfl)) (by unfold Func.isWrapper; first | (rw [if_pos (by decide +kernel)]; kernel_rfl) | (rw [if_neg (by decide +kernel)]; exact ⟨rfl, rfl⟩))
    (fun os started H enc _ => lifted os started H enc)
/-- The statement. -/
theorem vmNone_holds : Rows.VmNoneSaid := over
end Go.Proofs.Ytafoibdhbjkcjaa.vmnone
