/- A nil store of files answers so, whatever the deed and the number: the given statement Rows.FileNoneSaid is proved. No condition. -/
import Derived.Test.YtmdhfmljgjnggaaG4
import Derived.Test.YtmdhfmljgjnggaaG10
namespace Go.Proofs.Ytmdhfmljgjnggaa.filenone
open Go.ChangeShapes Go.WideShapes Go.ChangeAt Go.RowKit
set_option linter.unusedVariables false
set_option linter.constructorNameAsVariable false
theorem params : Try.f9.params = #[T_N_law22_Deed, T_int] := by kernel_rfl
theorem undDeed : ∃ fs, Try.prog.underlying T_N_law22_Deed = some (.struct fs) := ⟨_, Try.underlying88⟩
theorem typesDeed : Try.prog.cellTypes Try.prog.depth T_N_law22_Deed = some [T_int, T_int, T_int, 4, T_string] := by kernel_rfl
theorem cellsDeed : Try.prog.cellsOf T_N_law22_Deed = 5 := by kernel_rfl
theorem undStr : Try.prog.underlying T_string = some .string := by kernel_rfl
theorem five' {α : Type} {ns : List α} (h : ns.length = 5) : ∃ b0 b1 b2 b3 b4 : α, ns = [b0, b1, b2, b3, b4] := by
  match ns, h with
  | [b0, b1, b2, b3, b4], _ => exact ⟨b0, b1, b2, b3, b4, rfl⟩
theorem cell_string {P : Program} {w : World} {base : Nat} {e : TypeId} {c : Value} (he : P.underlying e = some .string) (h : Cell.okWide P w .any base e c) : ∃ s, c = .string s := by
  have hv : Value.okWide P w .any base e c := by simp only [Value.okWide, he]; exact h
  exact okWide_string he hv
theorem cell_bool {P : Program} {w : World} {base : Nat} {e : TypeId} {c : Value} (he : P.underlying e = some .bool) (h : Cell.okWide P w .any base e c) : ∃ b, c = .bool b := by
  have hv : Value.okWide P w .any base e c := by simp only [Value.okWide, he]; exact h
  exact okWide_bool he hv
theorem deed_open5 {P : Program} {w : World} {base : Nat} {t ti tb ts : TypeId} {fs : Array Field} {v : Value} (hu : P.underlying t = some (.struct fs)) (hct : P.cellTypes P.depth t = some [ti, ti, ti, tb, ts]) (hc : P.cellsOf t = 5)
    (hi : P.underlying ti = some (.int .i64)) (hb : P.underlying tb = some .bool) (hs : P.underlying ts = some .string) (h : Value.okWide P w .any base t v) :
    ∃ (a b c : Int) (d : Bool) (e : ByteArray), v = .agg #[.int .i64 a, .int .i64 b, .int .i64 c, .bool d, .string e] := by
  obtain ⟨cs, rfl, hl, hall⟩ := struct_cells hu hct hc h
  obtain ⟨c0, c1, c2, c3, c4, rfl⟩ := five' hl
  have g : ∀ i u c, [c0, c1, c2, c3, c4][i]? = some c → [ti, ti, ti, tb, ts][i % 5]? = some u → Cell.okWide P w .any base u c := fun i u c h1 h2 => by
    obtain ⟨u', h3, h4⟩ := hall i c h1
    rw [show [ti, ti, ti, tb, ts].length = 5 from rfl, h2] at h3
    cases h3
    exact h4
  obtain ⟨a, rfl⟩ := cell_int hi (g 0 ti c0 rfl rfl)
  obtain ⟨b, rfl⟩ := cell_int hi (g 1 ti c1 rfl rfl)
  obtain ⟨c, rfl⟩ := cell_int hi (g 2 ti c2 rfl rfl)
  obtain ⟨d, rfl⟩ := cell_bool hb (g 3 tb c3 rfl rfl)
  obtain ⟨e, rfl⟩ := cell_string hs (g 4 ts c4 rfl rfl)
  exact ⟨a, b, c, d, e, rfl⟩
set_option maxRecDepth 100000 in
theorem lifted (os : Os) (started : os.Started) (H : Type) (enc : TypeId × Value → H) :
    ReturnsInHanded {} Try.checked os 9 .any (Rows.fileNoneSpec.pre6 enc Try.prog Try.f9 Rows.fileNoneRow.domain false) (Rows.fileNoneSpec.post enc Try.prog Try.f9 false true false false) := by
  refine returnsInHanded_of_change (C := Try.checked) own started (by kernel_rfl) Try.func9
    (ChangeSpec.witness6 (enc := enc) (C := Try.checked) false ⟨#[], #[.agg #[.int .i64 0, .int .i64 0, .int .i64 0, .bool false, .string ⟨#[]⟩], .int .i64 0], []⟩ 8 (by kernel_rfl) (by kernel_rfl) (by kernel_rfl) (by kernel_rfl)) ?_
  intro W base args ds gs before hval0 hW hcnd _
  have hval : ∀ (j : Nat) t v, Try.f9.params[j]? = some t → args[j]? = some v → Value.okWide Try.prog W .any base t v := hval0
  have hW' := hW
  obtain ⟨p, q, hA0, hV, rfl, hfz, hnd⟩ := hW
  have hA : DataW.TrodAll enc Try.prog W 0 (fun _ => true) true Try.f9.params.toList args.toList ds p := hA0
  rw [params] at hA hval
  obtain ⟨v0, vs0, d0, ds0, p0, q0, hargs, rfl, rfl, h0, r0⟩ := trodAll_cons hA
  obtain ⟨v1, vs1, d1, ds1, p1, q1, rfl, rfl, rfl, h1, r1⟩ := trodAll_cons r0
  obtain ⟨rfl, rfl, rfl⟩ := trodAll_nil r1
  obtain rfl : args = #[v0, v1] := by cases args; simp_all
  obtain ⟨rfl, rfl⟩ := trodVars_none hV
  have k0 := h0
  have lt0 : ∀ x ∈ p0, x.block < W.heap.size := by obtain ⟨m, hm⟩ := k0; exact DataW.trod_lt m _ _ _ hm
  have k1 := h1
  have lt1 : ∀ x ∈ p1, x.block < W.heap.size := by obtain ⟨m, hm⟩ := k1; exact DataW.trod_lt m _ _ _ hm
  obtain ⟨fs, hfs⟩ := undDeed
  obtain ⟨a, b, c, d, e, rfl⟩ := deed_open5 hfs typesDeed cellsDeed und3 und4 undStr (hval 0 T_N_law22_Deed v0 rfl rfl)
  obtain ⟨n, rfl, _, _, w1⟩ := open_int und3 (hval 1 T_int v1 rfl rfl) h1
  clear hA0 hval0
  refine (calls_below (c_FileNone (h := W.heap) a b c d e n fun h' x => ⟨rfl, x⟩)).mono fun e W' ⟨he, bel⟩ => ?_
  subst he
  exact ⟨_, rfl, _, _, _, [], _, [], hW', trodAll_mk1 (shut_bool und4 _), (trodAll_cons_mk (Below.trod laidOut (by kernel_rfl) (of_decide_eq_true (by kernel_rfl)) k0 bel lt0) (trodAll_cons_mk (Below.trod laidOut (by kernel_rfl) (of_decide_eq_true (by kernel_rfl)) k1 bel lt1) trodAll_mk0)), rfl, bel.frame _, fun h => by cases h⟩
theorem over : Rows.fileNoneRow.holds Try.pinned (OpenSpec.ofChange Rows.fileNoneSpec) :=
  OpenClaim.holds_of_wide 9 Try.f9 rfl rfl rfl rfl rfl rfl rfl ⟨rfl, rfl, rfl, rfl, rfl⟩ rfl rfl rfl rfl rfl (by kernel_rfl) Try.func9 (by kernel_rfl)
    (of_decide_eq_true (by kernel_rfl)) (by unfold Func.isWrapper; first | (rw [if_pos (by decide +kernel)]; kernel_rfl) | (rw [if_neg (by decide +kernel)]; exact ⟨rfl, rfl⟩))
    (fun os started H enc _ => lifted os started H enc)
/-- The statement. -/
theorem fileNone_holds : Rows.FileNoneSaid := over
end Go.Proofs.Ytmdhfmljgjnggaa.filenone
