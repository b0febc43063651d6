/- A file that is written and read through a descriptor's place is one row of bytes: the given statement Rows.TopPlacedSaid is proved. No condition. -/
import Derived.Test.YtmdhfmljgjnggaaG4
import Derived.Test.YtmdhfmljgjnggaaG11
namespace Go.Proofs.Ytmdhfmljgjnggaa.placed
open Go.ChangeShapes Go.WideShapes Go.ChangeAt Go.RowKit
set_option linter.unusedVariables false
set_option linter.constructorNameAsVariable false
theorem params : Try.f5.params = #[T_s_string] := by kernel_rfl
theorem undStrs : Try.prog.underlying T_s_string = some (.slice T_string) := by kernel_rfl
theorem undStr : Try.prog.underlying T_string = some .string := by kernel_rfl
theorem cellsStr : Try.prog.cellsOf T_string = 1 := by kernel_rfl
theorem strs {H : Type} {enc : TypeId × Value → H} {w : World} {spare : Nat → Bool} {held : Bool} {cs : List Value} (h : Reads enc Try.prog w spare held T_s_string cs) : ∃ p n c, cs = [.slice p n c] ∧ StrsAt w.heap p n w.heap.size := by
  obtain ⟨p, n, c, rfl, _, _, h2⟩ := reads_slice undStrs h
  refine ⟨p, n, c, rfl, fun i hi => ?_⟩
  obtain ⟨a, us, rfl, h3, h4, h5⟩ := h2 i hi
  obtain ⟨s, rfl, _⟩ := reads_string undStr h5
  rw [cellsStr] at h4
  have g0 := h4 0 (by decide)
  rw [Addr.add_add, Nat.add_zero] at g0
  have hlt := cellAt_lt g0
  rw [Addr.add_block] at hlt
  exact ⟨a, s, rfl, hlt, g0⟩
set_option maxRecDepth 100000 in
theorem lifted (os : Os) (started : os.Started) (H : Type) (enc : TypeId × Value → H) :
    ReturnsInHanded {} Try.checked os 5 .any (Rows.topPlacedSpec.pre6 enc Try.prog Try.f5 Rows.topPlacedRow.domain false) (Rows.topPlacedSpec.post enc Try.prog Try.f5 false true false false) := by
  refine returnsInHanded_of_change (C := Try.checked) own started (by kernel_rfl) Try.func5
    (ChangeSpec.witness6 (enc := enc) (C := Try.checked) false ⟨#[], #[.slice none 0 0], []⟩ 8 (by kernel_rfl) (by kernel_rfl) (by kernel_rfl) (by kernel_rfl)) ?_
  intro W base args ds gs before hval0 hW hcnd _
  have hval : ∀ (j : Nat) t v, Try.f5.params[j]? = some t → args[j]? = some v → Value.okWide Try.prog W .any base t v := hval0
  have hW' := hW
  obtain ⟨p, q, hA0, hV, rfl, hfz, hnd⟩ := hW
  have hA : DataW.TrodAll enc Try.prog W 0 (fun _ => true) true Try.f5.params.toList args.toList ds p := hA0
  rw [params] at hA hval
  obtain ⟨v0, vs0, d0, ds0, p0, q0, hargs, rfl, rfl, h0, r0⟩ := trodAll_cons hA
  obtain ⟨rfl, rfl, rfl⟩ := trodAll_nil r0
  obtain rfl : args = #[v0] := by cases args; simp_all
  obtain ⟨rfl, rfl⟩ := trodVars_none hV
  have k0 := h0
  have lt0 : ∀ x ∈ p0, x.block < W.heap.size := by obtain ⟨m, hm⟩ := k0; exact DataW.trod_lt m _ _ _ hm
  obtain ⟨sp, sl, sk, rfl⟩ := okWide_slice undStrs (hval 0 T_s_string v0 rfl rfl)
  have hD : StrsAt W.heap sp sl W.heap.size := by
    obtain ⟨m, hm⟩ := k0
    obtain ⟨p', n', c', he, hd⟩ := strs ⟨m, _, hm⟩
    cases he
    exact hd
  clear hA0 hval0
  refine (calls_below (c_Placed (h := W.heap) hD fun h' x => ⟨rfl, x⟩)).mono fun e W' ⟨he, bel⟩ => ?_
  subst he
  exact ⟨_, rfl, _, _, _, [], _, [], hW', trodAll_mk1 (shut_bool und4 _), (trodAll_cons_mk (Below.trod laidOut (by kernel_rfl) (of_decide_eq_true (by kernel_rfl)) k0 bel lt0) trodAll_mk0), rfl, bel.frame _, fun h => by cases h⟩
theorem over : Rows.topPlacedRow.holds Try.pinned (OpenSpec.ofChange Rows.topPlacedSpec) :=
  OpenClaim.holds_of_wide 5 Try.f5 rfl rfl rfl rfl rfl rfl rfl ⟨rfl, rfl, rfl, rfl, rfl⟩ rfl rfl rfl rfl rfl (by kernel_rfl) Try.func5 (by kernel_rfl)
    (of_decide_eq_true (by kernel_rfl)) (by unfold Func.isWrapper; first | (rw [if_pos (by decide +kernel)]; kernel_rfl) | (rw [if_neg (by decide +kernel)]; exact ⟨rfl, rfl⟩))
    (fun os started H enc _ => lifted os started H enc)
/-- The statement. -/
theorem topPlaced_holds : Rows.TopPlacedSaid := over
end Go.Proofs.Ytmdhfmljgjnggaa.placed
