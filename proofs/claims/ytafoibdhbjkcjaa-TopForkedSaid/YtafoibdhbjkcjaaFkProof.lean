/- A ROW OF PROCESSES, EACH FORKED OF THE ONE AHEAD: the given statement Rows.TopForkedSaid is proved. No condition. -/
import Derived.Test.YtafoibdhbjkcjaaRows
import Derived.Test.YtafoibdhbjkcjaaFkWalk
import Derived.WalkKit
import Derived.ProofKit
import Derived.OpenShut
import Derived.ShutString
import Derived.ChangeOld
import Derived.Below
import Derived.Carry
namespace Go.Proofs.Ytafoibdhbjkcjaa.forked
open Go.ChangeShapes Go.WideShapes Go.ChangeAt Go.RowKit
open Go.ChangeMaps (open_string shut_string)
set_option linter.unusedVariables false
set_option linter.constructorNameAsVariable false

theorem own : ownKnob Try.prog.godebug = none := by kernel_rfl
theorem laidOut : laidOutB Try.prog = true := by kernel_rfl
theorem und5 : Try.prog.underlying T_uint8 = some (.int .u8) := by kernel_rfl
theorem und4 : Try.prog.underlying 4 = some .bool := by kernel_rfl
theorem params : Try.f7.params = #[T_uint8, T_6_uint8] := by kernel_rfl

theorem below_of {h h' : Hp} {w w' : World} (hw : w.heap = h) (hw' : w'.heap = h') (hs : Same w w') (he : Ext h h') : Below w.heap.size w w' :=
  ⟨hs.2.1, hs.1, hs.2.2, by rw [hw, hw']; exact he.size, fun k hk => by rw [hw'] ; rw [hw] at hk ⊢; exact he.frame k hk (by simp)⟩
theorem ints_of {k : IntKind} : ∀ {cs : List Value}, (∀ c ∈ cs, ∃ n, c = .int k n) → ∃ ns : List Int, cs = ns.map (.int k) := by
  intro cs
  induction cs with
  | nil => intro _; exact ⟨[], rfl⟩
  | cons c cs ih =>
    intro hc
    obtain ⟨n, rfl⟩ := hc c (by simp)
    obtain ⟨ns, rfl⟩ := ih fun c hm => hc c (by simp [hm])
    exact ⟨n :: ns, rfl⟩
theorem cell_int {P : Program} {w : World} {base : Nat} {e : TypeId} {k : IntKind} {c : Value} (he : P.underlying e = some (.int k)) (h : Cell.okWide P w .any base e c) : ∃ n, c = .int k n := by
  have hv : Value.okWide P w .any base e c := by simp only [Value.okWide, he]; exact h
  exact okWide_int he hv
theorem arr_row {P : Program} {w : World} {base : Nat} {t e : TypeId} {k : IntKind} {n : Nat} {v : Value} (hu : P.underlying t = some (.array n e)) (hct : P.cellTypes P.depth t = some (List.replicate n e)) (hc : P.cellsOf t = n) (he : P.underlying e = some (.int k))
    (h : Value.okWide P w .any base t v) : ∃ ns : List Int, ns.length = n ∧ v = .agg ⟨ns.map (.int k)⟩ := by
  simp only [Value.okWide, hu, hc] at h
  obtain ⟨cs, rfl, hsz, ts, hts, _, hall⟩ := h
  rw [hct] at hts
  injection hts with hts
  subst hts
  obtain ⟨ns, hns⟩ := ints_of (k := k) (cs := cs.toList) fun c hm => by
    obtain ⟨i, hi⟩ := List.getElem?_of_mem hm
    obtain ⟨u, hu2, hok⟩ := hall i c (by rw [← Array.getElem?_toList]; exact hi)
    have hu3 : u = e := List.eq_of_mem_replicate (List.mem_of_getElem? hu2)
    subst hu3
    exact cell_int he hok
  have hl : ns.length = n := by
    have := congrArg List.length hns
    simp only [Array.length_toList, List.length_map] at this
    omega
  exact ⟨ns, hl, congrArg Value.agg (Array.ext' hns)⟩
theorem six {ns : List Int} (h : ns.length = 6) : ∃ b0 b1 b2 b3 b4 b5 : Int, ns = [b0, b1, b2, b3, b4, b5] := by
  match ns, h with
  | [b0, b1, b2, b3, b4, b5], _ => exact ⟨b0, b1, b2, b3, b4, b5, rfl⟩
theorem und69 : Try.prog.underlying T_6_uint8 = some (.array 6 T_uint8) := by kernel_rfl
theorem cells69 : Try.prog.cellsOf T_6_uint8 = 6 := by kernel_rfl
theorem types69 : Try.prog.cellTypes Try.prog.depth T_6_uint8 = some (List.replicate 6 T_uint8) := by kernel_rfl
theorem walk (x0 b0 b1 b2 b3 b4 b5 : Int) (w : World) (h0 : (Lit.int .u8 x0).wf = true) :
    Calls Try.prog 7 #[.int .u8 x0, .agg ⟨[b0, b1, b2, b3, b4, b5].map (.int .u8)⟩] w fun e w' => e = .returned (.bool true) ∧ Below w.heap.size w w' := by
  have hb : 0 ≤ x0 ∧ x0 < 256 := by
    simp only [Lit.wf, Bool.and_eq_true, decide_eq_true_eq] at h0
    have e1 : IntKind.u8.min = 0 := by decide
    have e2 : IntKind.u8.max = 255 := by decide
    rw [e1, e2] at h0
    omega
  refine ((c_TopForked (h := w.heap) b0 b1 b2 b3 b4 b5 x0 hb.1 hb.2).2 w rfl).mono ?_
  rintro e w' ⟨v, rfl, ⟨rfl, he⟩, hs⟩
  exact ⟨rfl, below_of rfl rfl hs he⟩
set_option maxRecDepth 100000 in
theorem lifted (os : Os) (started : os.Started) (H : Type) (enc : TypeId × Value → H) :
    ReturnsInHanded {} Try.checked os 7 .any (Rows.topForkedSpec.pre6 enc Try.prog Try.f7 Rows.topForkedRow.domain false) (Rows.topForkedSpec.post enc Try.prog Try.f7 false true false false) := by
  refine returnsInHanded_of_change (C := Try.checked) own started (by kernel_rfl) Try.func7
    (ChangeSpec.witness6 (enc := enc) (C := Try.checked) false ⟨#[], #[.int .u8 0, .agg #[.int .u8 0, .int .u8 0, .int .u8 0, .int .u8 0, .int .u8 0, .int .u8 0]], []⟩ 8 (by kernel_rfl) (by kernel_rfl) (by kernel_rfl) (by kernel_rfl)) ?_
  intro W base args ds gs before hval0 hW hcnd _
  have hval : ∀ (j : Nat) t v, Try.f7.params[j]? = some t → args[j]? = some v → Value.okWide Try.prog W .any base t v := hval0
  have hW' := hW
  obtain ⟨p, q, hA0, hV, rfl, hfz, hnd⟩ := hW
  have hA : DataW.TrodAll enc Try.prog W 0 (fun _ => true) true Try.f7.params.toList args.toList ds p := hA0
  rw [params] at hA hval
  obtain ⟨v0, vs0, d0, ds0, p0, q0, hargs, rfl, rfl, h0, r0⟩ := trodAll_cons hA
  obtain ⟨v1, vs1, d1, ds1, p1, q1, rfl, rfl, rfl, h1, r1⟩ := trodAll_cons r0
  obtain ⟨rfl, rfl, rfl⟩ := trodAll_nil r1
  obtain rfl : args = #[v0, v1] := by cases args; simp_all
  obtain ⟨rfl, rfl⟩ := trodVars_none hV
  have k0 := h0
  have lt0 : ∀ x ∈ p0, x.block < W.heap.size := by obtain ⟨m, hm⟩ := k0; exact DataW.trod_lt m _ _ _ hm
  have k1 := h1
  have lt1 : ∀ x ∈ p1, x.block < W.heap.size := by obtain ⟨m, hm⟩ := k1; exact DataW.trod_lt m _ _ _ hm
  obtain ⟨a0, rfl, _, _, w0⟩ := open_int und5 (hval 0 T_uint8 v0 rfl rfl) h0
  obtain ⟨ns, hns, rfl⟩ := arr_row und69 types69 cells69 und5 (hval 1 T_6_uint8 v1 rfl rfl)
  obtain ⟨b0, b1, b2, b3, b4, b5, rfl⟩ := six hns
  clear hA0 hval0
  refine (walk a0 b0 b1 b2 b3 b4 b5 W w0).mono fun e W' ⟨he, bel⟩ => ?_
  subst he
  exact ⟨_, rfl, _, _, _, [], _, [], hW', trodAll_mk1 (shut_bool und4 _), (trodAll_cons_mk (Below.trod laidOut (by kernel_rfl) (of_decide_eq_true (by kernel_rfl)) k0 bel lt0) (trodAll_cons_mk (Below.trod laidOut (by kernel_rfl) (of_decide_eq_true (by kernel_rfl)) k1 bel lt1) trodAll_mk0)), rfl, bel.frame _, fun h => by cases h⟩
theorem over : Rows.topForkedRow.holds Try.pinned (OpenSpec.ofChange Rows.topForkedSpec) :=
  OpenClaim.holds_of_wide 7 Try.f7 rfl rfl rfl rfl rfl rfl rfl ⟨rfl, rfl, rfl, rfl, rfl⟩ rfl rfl rfl rfl rfl (by kernel_rfl) Try.func7 (by kernel_rfl)
    (of_decide_eq_true (by kernel_rfl)) (by unfold Func.isWrapper; first | (rw [if_pos (by decide +kernel)]; kernel_rfl) | (rw [if_neg (by decide +kernel)]; exact ⟨rfl, rfl⟩))
    (fun os started H enc _ => lifted os started H enc)
/-- The statement. -/
theorem topForked_holds : Rows.TopForkedSaid := over
end Go.Proofs.Ytafoibdhbjkcjaa.forked
