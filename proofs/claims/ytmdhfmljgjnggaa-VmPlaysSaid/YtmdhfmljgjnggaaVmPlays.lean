/- What stands in which frame, and when it is copied, is just what the reference says, behind any deeds: the given statement Rows.VmPlaysSaid is proved. No condition. -/
import Derived.Test.YtmdhfmljgjnggaaOpen
import Derived.Test.YtmdhfmljgjnggaaVmPlay
namespace Go.Proofs.Ytmdhfmljgjnggaa.vmplays
open Go.ChangeShapes Go.WideShapes Go.ChangeAt Go.RowKit
set_option linter.unusedVariables false
set_option linter.constructorNameAsVariable false
theorem params : Try.f6.params = #[T_uint8, T_s_law19_Deed] := by kernel_rfl
theorem undDeeds : Try.prog.underlying T_s_law19_Deed = some (.slice T_N_law19_Deed) := by kernel_rfl
theorem undDeed : ∃ fs, Try.prog.underlying T_N_law19_Deed = some (.struct fs) := ⟨_, Try.underlying79⟩
theorem fieldsDeed : (structFields Try.prog T_N_law19_Deed).map (fun f => (f.type, f.offset)) = [(T_int, 0), (T_int, 1), (T_int, 2), (T_int, 3), (T_uint8, 4), (T_s_uint8, 5)] := by kernel_rfl
theorem cellsDeed : Try.prog.cellsOf T_N_law19_Deed = 6 := by kernel_rfl
theorem cells1 : Try.prog.cellsOf T_int = 1 := by kernel_rfl
theorem cells2 : Try.prog.cellsOf T_uint8 = 1 := by kernel_rfl
theorem cells3 : Try.prog.cellsOf T_s_uint8 = 1 := by kernel_rfl
theorem undBytes : Try.prog.underlying T_s_uint8 = some (.slice T_uint8) := by kernel_rfl
theorem six {α : Type} {ns : List α} (h : ns.length = 6) : ∃ b0 b1 b2 b3 b4 b5 : α, ns = [b0, b1, b2, b3, b4, b5] := by
  match ns, h with
  | [b0, b1, b2, b3, b4, b5], _ => exact ⟨b0, b1, b2, b3, b4, b5, rfl⟩
theorem deeds {H : Type} {enc : TypeId × Value → H} {w : World} {spare : Nat → Bool} {held : Bool} {cs : List Value} (h : Reads enc Try.prog w spare held T_s_law19_Deed cs) : ∃ p n c, cs = [.slice p n c] ∧ DeedsAt w.heap p n w.heap.size := by
  obtain ⟨p, n, c, rfl, _, _, h2⟩ := reads_slice undDeeds h
  refine ⟨p, n, c, rfl, fun i hi => ?_⟩
  obtain ⟨a, us, rfl, h3, h4, h5⟩ := h2 i hi
  rw [cellsDeed] at h3 h4
  obtain ⟨_, h6⟩ := reads_fields undDeed fieldsDeed h5
  obtain ⟨u0, u1, u2, u3, u4, u5, rfl⟩ := six h3
  have f0 := h6 _ (List.Mem.head _)
  have f1 := h6 _ (.tail _ (List.Mem.head _))
  have f2 := h6 _ (.tail _ (.tail _ (List.Mem.head _)))
  have f3 := h6 _ (.tail _ (.tail _ (.tail _ (List.Mem.head _))))
  have f4 := h6 _ (.tail _ (.tail _ (.tail _ (.tail _ (List.Mem.head _)))))
  have f5 := h6 _ (.tail _ (.tail _ (.tail _ (.tail _ (.tail _ (List.Mem.head _))))))
  simp only [cells1, cells2, cells3, List.drop_succ_cons, List.drop_zero, List.take_succ_cons, List.take_zero] at f0 f1 f2 f3 f4 f5
  obtain ⟨n0, e0, _⟩ := reads_int und3 f0
  obtain ⟨n1, e1, _⟩ := reads_int und3 f1
  obtain ⟨n2, e2, _⟩ := reads_int und3 f2
  obtain ⟨n3, e3, _⟩ := reads_int und3 f3
  obtain ⟨n4, e4, _⟩ := reads_int und5 f4
  obtain ⟨bp, bn, bk, bs, e5, l1, l2, rd⟩ := reads_bytes undBytes und5 cells2 f5
  cases e0; cases e1; cases e2; cases e3; cases e4; cases e5
  have g0 := h4 0 (by decide)
  rw [Addr.add_add, Nat.add_zero] at g0
  have hlt := cellAt_lt g0
  rw [Addr.add_block] at hlt
  exact ⟨a, rfl, hlt, n0, n1, n2, n3, n4, bp, bn, bk, bs, g0, h4 1 (by decide), h4 2 (by decide), h4 3 (by decide), h4 4 (by decide), h4 5 (by decide), rd, l2, l1⟩
set_option maxRecDepth 100000 in
theorem lifted (os : Os) (started : os.Started) (H : Type) (enc : TypeId × Value → H) :
    ReturnsInHanded {} Try.checked os 6 .any (Rows.vmPlaysSpec.pre6 enc Try.prog Try.f6 Rows.vmPlaysRow.domain false) (Rows.vmPlaysSpec.post enc Try.prog Try.f6 false true false false) := by
  refine returnsInHanded_of_change (C := Try.checked) own started (by kernel_rfl) Try.func6
    (ChangeSpec.witness6 (enc := enc) (C := Try.checked) false ⟨#[], #[.int .u8 0, .slice none 0 0], []⟩ 8 (by kernel_rfl) (by kernel_rfl) (by kernel_rfl) (by kernel_rfl)) ?_
  intro W base args ds gs before hval0 hW hcnd _
  have hval : ∀ (j : Nat) t v, Try.f6.params[j]? = some t → args[j]? = some v → Value.okWide Try.prog W .any base t v := hval0
  have hW' := hW
  obtain ⟨p, q, hA0, hV, rfl, hfz, hnd⟩ := hW
  have hA : DataW.TrodAll enc Try.prog W 0 (fun _ => true) true Try.f6.params.toList args.toList ds p := hA0
  rw [params] at hA hval
  obtain ⟨v0, vs0, d0, ds0, p0, q0, hargs, rfl, rfl, h0, r0⟩ := trodAll_cons hA
  obtain ⟨v1, vs1, d1, ds1, p1, q1, rfl, rfl, rfl, h1, r1⟩ := trodAll_cons r0
  obtain ⟨rfl, rfl, rfl⟩ := trodAll_nil r1
  obtain rfl : args = #[v0, v1] := by cases args; simp_all
  obtain ⟨rfl, rfl⟩ := trodVars_none hV
  have k0 := h0
  have lt0 : ∀ x ∈ p0, x.block < W.heap.size := by obtain ⟨m, hm⟩ := k0; exact DataW.trod_lt m _ _ _ hm
  have k1 := h1
  have lt1 : ∀ x ∈ p1, x.block < W.heap.size := by obtain ⟨m, hm⟩ := k1; exact DataW.trod_lt m _ _ _ hm
  obtain ⟨a0, rfl, _, _, w0⟩ := open_int und5 (hval 0 T_uint8 v0 rfl rfl) h0
  obtain ⟨sp, sl, sk, rfl⟩ := okWide_slice undDeeds (hval 1 T_s_law19_Deed v1 rfl rfl)
  have hD : DeedsAt W.heap sp sl W.heap.size := by
    obtain ⟨m, hm⟩ := k1
    obtain ⟨p', n', c', he, hd⟩ := deeds ⟨m, _, hm⟩
    cases he
    exact hd
  have hb : 0 ≤ a0 ∧ a0 < 256 := by
    simp only [Lit.wf, Bool.and_eq_true, decide_eq_true_eq] at w0
    have e1 : IntKind.u8.min = 0 := by decide
    have e2 : IntKind.u8.max = 255 := by decide
    rw [e1, e2] at w0
    omega
  clear hA0 hval0
  refine (calls_below (c_VmPlays (h := W.heap) a0 hb.1 hb.2 hD fun h' x => ⟨rfl, x⟩)).mono fun e W' ⟨he, bel⟩ => ?_
  subst he
  exact ⟨_, rfl, _, _, _, [], _, [], hW', trodAll_mk1 (shut_bool und4 _), (trodAll_cons_mk (Below.trod laidOut (by kernel_rfl) (of_decide_eq_true (by kernel_rfl)) k0 bel lt0) (trodAll_cons_mk (Below.trod laidOut (by kernel_rfl) (of_decide_eq_true (by kernel_rfl)) k1 bel lt1) trodAll_mk0)), rfl, bel.frame _, fun h => by cases h⟩
theorem over : Rows.vmPlaysRow.holds Try.pinned (OpenSpec.ofChange Rows.vmPlaysSpec) :=
  OpenClaim.holds_of_wide 6 Try.f6 rfl rfl rfl rfl rfl rfl rfl ⟨rfl, rfl, rfl, rfl, rfl⟩ rfl rfl rfl rfl rfl (by kernel_rfl) Try.func6 (by kernel_rfl)
    (of_decide_eq_true (by kernel_rfl)) (by unfold Func.isWrapper; first | (rw [if_pos (by decide +kernel)]; kernel_rfl) | (rw [if_neg (by decide +kernel)]; exact ⟨rfl, rfl⟩))
    (fun os started H enc _ => lifted os started H enc)
/-- The statement. -/
theorem vmPlays_holds : Rows.VmPlaysSaid := over
end Go.Proofs.Ytmdhfmljgjnggaa.vmplays
