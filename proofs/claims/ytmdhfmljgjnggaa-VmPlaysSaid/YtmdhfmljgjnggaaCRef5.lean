/- The reference of vm: needs, Fork, New. No condition. -/
import Derived.Test.YtmdhfmljgjnggaaCRef4
namespace Go.Proofs.Ytmdhfmljgjnggaa
attribute [local irreducible] semWP
set_option linter.constructorNameAsVariable false
section
variable {h : Hp} {r : Nat} {s : VmS} {K : Value → Hp → Prop} {F : List Nat}
theorem RefRep.ext {h' : Hp} (hv : RefRep h r s F) (he : Ext h h') : RefRep h' r s F := hv.congr fun q hq => he.frame q (hv.lt q hq) (by simp)
theorem r_needs (hv : RefRep h r s F) {pid page : Int} (hp : pgOf s pid page ≠ -2) (bb : Bool) (hK : ∀ h', Ext h h' → K (.bool (!aloneS s pid page)) h') :
    CallsH Try.prog f_ref19_Vm_needs #[.pointer (some ⟨r, 0, none⟩), .agg #[.bool bb, .int .i64 (frm (pgOf s pid page))]] h K := by
  obtain ⟨i1, i2, i3, i4⟩ := pgOf_in hp
  have hw : Wf s := by obtain ⟨m, f, rfl, ha, hw⟩ := hv; exact hw
  have hle := hw.pg_le pid page
  have h64 := hw.le
  have hat := hw.at i1 i2 i3 i4
  refine q_ref19_Vm_needs_calls r bb _ h K ?_
  unfold q_ref19_Vm_needs
  refine letH_iff.2 ?_
  have x1 : Ext h (h.push (.cells #[.bool bb, .int .i64 (frm (pgOf s pid page))] T_N_ref19_page)) := Ext.push _ _
  have hc : cellAt (h.push (.cells #[.bool bb, .int .i64 (frm (pgOf s pid page))] T_N_ref19_page)) ⟨h.size, 1, none⟩ = some (.int .i64 (frm (pgOf s pid page))) := by
    rw [cellAt_cells (push_new _ _)]; rfl
  generalize h.push (.cells #[.bool bb, .int .i64 (frm (pgOf s pid page))] T_N_ref19_page) = g at *
  have hk := hK g x1
  unfold aloneS at hk
  refine ⟨_, hc, iteP_eqc (fun h0 => ?_) fun h0 => ⟨_, hc, ?_⟩⟩
  · rw [frm_eq (by omega)] at h0
    rw [show pgOf s pid page = -1 by omega] at hk
    exact hk
  · rw [ne_eq, frm_eq (by omega)] at h0
    have e : IntKind.wrap .i64 (frm (pgOf s pid page) - 1) = pgOf s pid page := by
      unfold frm; rw [if_neg h0, wrap64 (by omega) (by omega)]; omega
    rw [e]
    refine r_Refs (hv.ext x1) _ ⟨_, rfl, ?_⟩
    have er : refS s (pgOf s pid page) = cnt (pgOf s pid page) s.pg := by unfold refS; rw [if_neg (by omega)]
    have hpos := cnt_pos hat
    rw [er]
    have e2 : (!(pgOf s pid page != -1 && cnt (pgOf s pid page) s.pg == 1)) = decide (cnt (pgOf s pid page) s.pg > 1) := by
      have : (pgOf s pid page != -1) = true := by simp; omega
      rw [this, Bool.true_and]
      by_cases h1 : cnt (pgOf s pid page) s.pg = 1
      · simp [h1]
      · have : cnt (pgOf s pid page) s.pg > 1 := by omega
        simp [h1, this]
    rw [e2] at hk
    exact hk
end
end Go.Proofs.Ytmdhfmljgjnggaa
