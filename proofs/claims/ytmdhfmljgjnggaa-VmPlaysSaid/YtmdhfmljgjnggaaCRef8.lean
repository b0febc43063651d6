/- The reference of vm: End, Pages, New. No condition. -/
import Derived.Test.YtmdhfmljgjnggaaCRef7
namespace Go.Proofs.Ytmdhfmljgjnggaa
attribute [local irreducible] semWP
set_option linter.constructorNameAsVariable false
theorem pgOf_setPg' {s : VmS} (hlp : s.pg.length = 96) {pid page x p q : Int} (h1 : 0 ≤ pid) (h2 : pid < 6) (h3 : 0 ≤ page) (h4 : page < 16) : pgOf (setPg s pid page x) p q = if p = pid ∧ q = page then x else pgOf s p q := by
  unfold pgOf setPg
  by_cases hr : 0 ≤ p ∧ p < 6 ∧ 0 ≤ q ∧ q < 16
  · rw [if_pos hr, if_pos hr, List.getElem?_set]
    by_cases he : p = pid ∧ q = page
    · obtain ⟨rfl, rfl⟩ := he
      have : ixOf p q < s.pg.length := by rw [hlp]; unfold ixOf; omega
      simp [this]
    · rw [if_neg he, if_neg]
      intro h5
      have := ixOf_inj h1 h3 h4 hr.1 hr.2.2.1 hr.2.2.2 h5
      omega
  · rw [if_neg hr, if_neg hr, if_neg]
    omega
theorem refCell_setPg' {s : VmS} (hlp : s.pg.length = 96) {m : Nat} {pid page x : Int} (h1 : 0 ≤ pid) (h2 : pid < 6) (h3 : 0 ≤ page) (h4 : page < 16) (i : Nat) :
    (if i = 7 + pid.toNat * 32 + page.toNat * 2 + 1 then some (.int .i64 (frm x)) else if i = 7 + pid.toNat * 32 + page.toNat * 2 then some (.bool (x != -2)) else refCell s m i) = refCell (setPg s pid page x) m i := by
  by_cases hA : i = 7 + pid.toNat * 32 + page.toNat * 2 + 1
  · rw [if_pos hA, hA, rc_frm h1 h2 h3 h4, pgOf_setPg' hlp h1 h2 h3 h4, if_pos ⟨rfl, rfl⟩]
  · rw [if_neg hA]
    by_cases hB : i = 7 + pid.toNat * 32 + page.toNat * 2
    · rw [if_pos hB, hB, rc_map h1 h2 h3 h4, pgOf_setPg' hlp h1 h2 h3 h4, if_pos ⟨rfl, rfl⟩]
    · rw [if_neg hB]
      unfold refCell
      by_cases h7 : 7 ≤ i
      · by_cases h9 : i < 199
        · have hne : ¬ ((((i - 7) / 32 : Nat) : Int) = pid ∧ (((i - 7) % 32 / 2 : Nat) : Int) = page) := by omega
          rw [pgOf_setPg' hlp h1 h2 h3 h4, if_neg hne]
          rfl
        · simp only [if_neg h9]
          rfl
      · by_cases h0 : i = 0
        · rw [if_pos h0, if_pos h0]
        · rw [if_neg h0, if_neg h0, if_pos (by omega), if_pos (by omega)]
          rfl
section
variable {h h' : Hp} {r m f : Nat} {s : VmS} {K : Value → Hp → Prop} {F : List Nat} {g : Nat → Option Value}
theorem Wf.end_ {s : VmS} (hw : Wf s) {pid : Int} (p1 : 0 ≤ pid) (p2 : pid < 6) (hn : 1 ≤ s.n) : Wf { s with has := s.has.set pid.toNat false, pg := over s.pg (pid.toNat * 16) (List.replicate 16 (-2)) } := by
  refine ⟨by simp [hw.lh], by show (over _ _ _).length = 96; rw [over_length, hw.lp], fun x hx => ?_, fun q page hq => ?_, hw.le⟩
  · obtain ⟨i, hi⟩ := List.getElem?_of_mem hx
    have hi' : (over s.pg (pid.toNat * 16) (List.replicate 16 (-2)))[i]? = some x := hi
    rw [over_get (by simp [hw.lp]; omega)] at hi'
    split at hi'
    · rw [List.eq_of_mem_replicate (List.mem_of_getElem? hi')]
      exact ⟨by decide, by show (-2 : Int) < (s.n : Int); omega⟩
    · exact hw.pgs x (List.mem_of_getElem? hi')
  · have hs := hasOf_set (q := q) (x := false) hw.lh p1 p2
    rw [hasOf_congr (s' := { s with has := s.has.set pid.toNat false }) (by rfl) q, hs] at hq
    rw [pgOf_end hw p1 p2]
    by_cases hqb : q = pid
    · rw [if_pos hqb]
    · rw [if_neg hqb] at hq ⊢; exact hw.off q page hq
theorem r_End (hv : RefRep h r s F) (pid : Int) (hK : ∀ h', RefRep h' r (endS s pid).2 F → Step h h' F F → K (.int .i64 (endS s pid).1) h') :
    CallsH Try.prog f_ref19_Vm_End #[.pointer (some ⟨r, 0, none⟩), .int .i64 pid] h K := by
  have hv0 := hv
  obtain ⟨m, f, rfl, ha, hw⟩ := hv
  refine q_ref19_Vm_End_calls r pid h K ?_
  unfold q_ref19_Vm_End
  unfold endS at hK
  refine r_vmay ha pid ⟨_, rfl, ?_⟩
  cases hh : hasOf s pid with
  | false => rw [if_pos hh] at hK; exact iteP_neq (by decide) (hK h hv0 (Step.refl _ _))
  | true =>
    rw [if_neg (by simp [hh])] at hK
    obtain ⟨h1, h2⟩ := hasOf_in hh
    refine iteP_eq rfl ⟨h1, h2, ⟨_, ha.has h1 h2⟩, by rw [Addr.add_mk]; exact ha.vm.fz _, letH_iff.2 ?_⟩
    rw [Addr.add_mk, Nat.mul_one]
    have s0 : Step h (setH h ⟨r, 1 + pid.toNat, none⟩ (.bool false)) [r] [r] := Step.setH (by simp)
    have a0 : RefAt (setH h ⟨r, 1 + pid.toNat, none⟩ (.bool false)) r m f { s with has := s.has.set pid.toNat false, pg := over s.pg (pid.toNat * 16) (List.replicate (Int.toNat 0) (-2)) } :=
      ha.raw ((ha.vm.put (rc_has h1 h2)).ext fun i => refCell_has hw h1 h2 i) s0 rfl rfl
    generalize setH h ⟨r, 1 + pid.toNat, none⟩ (.bool false) = h0 at *
    refine ⟨fun i hc => 0 ≤ i ∧ i ≤ 16 ∧ RefAt hc r m f { s with has := s.has.set pid.toNat false, pg := over s.pg (pid.toNat * 16) (List.replicate i.toNat (-2)) } ∧ Step h hc [r] [r], fun i _ => (16 - i).toNat, ⟨by omega, by omega, a0, s0⟩, ?_⟩
    rintro i hc ⟨i0, i1, ac, sc⟩
    refine iteP_cases (fun hi => ⟨h1, h2, i0, hi, ⟨_, ac.map h1 h2 i0 hi⟩, by simp only [Addr.add_mk]; exact ac.vm.fz _, letH_iff.2 ?_⟩) fun hi => ?_
    · simp only [Addr.add_mk]
      have p1 := ac.vm.put (v := .bool false) (rc_map h1 h2 i0 hi)
      have s1 : Step hc (setH hc ⟨r, 7 + pid.toNat * 32 + i.toNat * 2, none⟩ (.bool false)) [r] [r] := Step.setH (by simp)
      have hne : ¬ 7 + pid.toNat * 32 + i.toNat * 2 + 1 = 7 + pid.toNat * 32 + i.toNat * 2 := by omega
      have o1 := rc_frm (s := { s with has := s.has.set pid.toNat false, pg := over s.pg (pid.toNat * 16) (List.replicate i.toNat (-2)) }) (m := m) h1 h2 i0 hi
      have o2 : ∃ u, (fun j => if j = 7 + pid.toNat * 32 + i.toNat * 2 then some (Value.bool false) else refCell { s with has := s.has.set pid.toNat false, pg := over s.pg (pid.toNat * 16) (List.replicate i.toNat (-2)) } m j) (7 + pid.toNat * 32 + i.toNat * 2 + 1) = some u := ⟨_, by simp only [if_neg hne]; exact o1⟩
      obtain ⟨u2, o2⟩ := o2
      refine ⟨⟨_, by rw [p1.cell]; exact o2⟩, p1.fz _, letH_iff.2 ?_⟩
      have p2 := p1.put (v := .int .i64 0) o2
      have s2 : Step (setH hc ⟨r, 7 + pid.toNat * 32 + i.toNat * 2, none⟩ (.bool false)) (setH (setH hc ⟨r, 7 + pid.toNat * 32 + i.toNat * 2, none⟩ (.bool false)) ⟨r, 7 + pid.toNat * 32 + i.toNat * 2 + 1, none⟩ (.int .i64 0)) [r] [r] := Step.setH (by simp)
      rw [wrap64 (x := i + 1) (by omega) (by omega)]
      refine ⟨⟨by omega, by omega, ?_, sc.trans (s1.trans s2)⟩, by show (16 - (i + 1)).toNat < (16 - i).toNat; omega⟩
      have eo : over s.pg (pid.toNat * 16) (List.replicate (i + 1).toNat (-2)) = (over s.pg (pid.toNat * 16) (List.replicate i.toNat (-2))).set (ixOf pid i) (-2) := by
        rw [show (i + 1).toNat = i.toNat + 1 by omega, List.replicate_succ', over_snoc, List.length_replicate]
        rfl
      rw [eo]
      refine ac.raw (s' := setPg { s with has := s.has.set pid.toNat false, pg := over s.pg (pid.toNat * 16) (List.replicate i.toNat (-2)) } pid i (-2)) (p2.ext fun j => ?_) (s1.trans s2) rfl rfl
      have e := refCell_setPg' (s := { s with has := s.has.set pid.toNat false, pg := over s.pg (pid.toNat * 16) (List.replicate i.toNat (-2)) }) (by show (over _ _ _).length = 96; rw [over_length, hw.lp]) (x := -2) (m := m) h1 h2 i0 hi j
      rw [show frm (-2) = 0 by decide, show ((-2 : Int) != -2) = false by decide] at e
      exact e
    · have : i.toNat = 16 := by omega
      rw [this] at ac
      exact hK hc ⟨m, f, rfl, ac, hw.end_ h1 h2 ha.mem.pos⟩ (sc.in1 (by simp))
end
end Go.Proofs.Ytmdhfmljgjnggaa
