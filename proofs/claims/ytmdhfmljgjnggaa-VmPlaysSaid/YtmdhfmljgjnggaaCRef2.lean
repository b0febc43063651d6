/- The reference of vm: Begin, Map, Unmap, Peek, Copies, Frame. No condition. -/
import Derived.Test.YtmdhfmljgjnggaaCRef
namespace Go.Proofs.Ytmdhfmljgjnggaa
attribute [local irreducible] semWP
set_option linter.constructorNameAsVariable false
theorem refCell_has {s : VmS} (hw : Wf s) {m : Nat} {pid : Int} {x : Bool} (h1 : 0 ≤ pid) (h2 : pid < 6) (i : Nat) : (if i = 1 + pid.toNat then some (.bool x) else refCell s m i) = refCell { s with has := s.has.set pid.toNat x } m i := by
  unfold refCell
  by_cases h0 : i = 0
  · rw [if_neg (by omega), if_pos h0, if_pos h0]
  · rw [if_neg h0, if_neg h0]
    by_cases h7 : i < 7
    · rw [if_pos h7, if_pos h7, hasOf_set hw.lh h1 h2]
      by_cases hi : i = 1 + pid.toNat
      · rw [if_pos hi, if_pos (by omega)]
      · rw [if_neg hi, if_neg (by omega)]
    · rw [if_neg (by omega), if_neg h7, if_neg h7]
      rw [pgOf_congr (s := { s with has := s.has.set pid.toNat x }) (s' := s) (by rfl)]
theorem refCell_setPg {s : VmS} (hw : Wf s) {m : Nat} {pid page x : Int} (h1 : 0 ≤ pid) (h2 : pid < 6) (h3 : 0 ≤ page) (h4 : page < 16) (i : Nat) :
    (if i = 7 + pid.toNat * 32 + page.toNat * 2 + 1 then some (.int .i64 (frm x)) else if i = 7 + pid.toNat * 32 + page.toNat * 2 then some (.bool (x != -2)) else refCell s m i) = refCell (setPg s pid page x) m i := by
  by_cases hA : i = 7 + pid.toNat * 32 + page.toNat * 2 + 1
  · rw [if_pos hA, hA, rc_frm h1 h2 h3 h4, pgOf_setPg hw h1 h2 h3 h4, if_pos ⟨rfl, rfl⟩]
  · rw [if_neg hA]
    by_cases hB : i = 7 + pid.toNat * 32 + page.toNat * 2
    · rw [if_pos hB, hB, rc_map h1 h2 h3 h4, pgOf_setPg hw h1 h2 h3 h4, if_pos ⟨rfl, rfl⟩]
    · rw [if_neg hB]
      unfold refCell
      by_cases h7 : 7 ≤ i
      · by_cases h9 : i < 199
        · have hne : ¬ ((((i - 7) / 32 : Nat) : Int) = pid ∧ (((i - 7) % 32 / 2 : Nat) : Int) = page) := by omega
          rw [pgOf_setPg hw h1 h2 h3 h4, if_neg hne]
          rfl
        · simp only [if_neg h9]
          rfl
      · by_cases h0 : i = 0
        · rw [if_pos h0, if_pos h0]
        · rw [if_neg h0, if_neg h0, if_pos (by omega), if_pos (by omega)]
          rfl
section
variable {h : Hp} {r m f : Nat} {s : VmS} {K : Value → Hp → Prop} {F : List Nat}
theorem RefAt.raw (ha : RefAt h r m f s) {h' : Hp} {s' : VmS} (hv : RawAt h' r (refCell s' m)) (hs : Step h h' [r] [r]) (h1 : s'.n = s.n) (h2 : s'.b = s.b) : RefAt h' r m f s' := by
  obtain ⟨n1, n2, n3⟩ := ha.ne
  obtain ⟨l1, l2, l3⟩ := ha.lt
  refine ⟨hv, ?_⟩
  rw [h1, h2]
  exact ha.mem.congr (hs.frame m l2 (by simpa using Ne.symm n1)) (hs.frame f l3 (by simpa using Ne.symm n2))
theorem r_Begin (hv : RefRep h r s F) (pid : Int) (hK : ∀ h', RefRep h' r (beginS s pid).2 F → Step h h' F F → K (.int .i64 (beginS s pid).1) h') : CallsH Try.prog f_ref19_Vm_Begin #[.pointer (some ⟨r, 0, none⟩), .int .i64 pid] h K := by
  have hv0 := hv
  obtain ⟨m, f, rfl, ha, hw⟩ := hv
  refine q_ref19_Vm_Begin_calls r pid h K ?_
  unfold q_ref19_Vm_Begin
  unfold beginS at hK
  refine r_vfresh ha pid ⟨_, rfl, iteP_eqc (fun he => ?_) fun he => ?_⟩
  · rw [if_pos he] at hK
    obtain ⟨h1, h2, h3⟩ := freshE_ok he
    refine ⟨h1, h2, ⟨_, ha.has h1 h2⟩, by rw [Addr.add_mk]; exact ha.vm.fz _, letH_iff.2 ?_⟩
    rw [he, Addr.add_mk, Nat.mul_one]
    have st : Step h (setH h ⟨r, 1 + pid.toNat, none⟩ (.bool true)) [r] [r] := Step.setH (by simp)
    refine hK _ ⟨m, f, rfl, ha.raw (((ha.vm.put (rc_has h1 h2)).ext fun i => refCell_has hw h1 h2 i)) st rfl rfl, ?_⟩ (st.in1 (by simp))
    refine ⟨by simp [hw.lh], hw.lp, hw.pgs, fun q page hq => ?_, hw.le⟩
    rw [hasOf_set hw.lh h1 h2] at hq
    by_cases hqp : q = pid
    · rw [if_pos hqp] at hq; cases hq
    · rw [if_neg hqp] at hq; exact (pgOf_congr (s' := s) (by rfl) q page).trans (hw.off q page hq)
  · rw [if_neg he] at hK
    exact hK h hv0 (Step.refl _ _)
theorem r_Map (hv : RefRep h r s F) (pid page : Int) (hK : ∀ h', RefRep h' r (mapS s pid page).2 F → Step h h' F F → K (.int .i64 (mapS s pid page).1) h') : CallsH Try.prog f_ref19_Vm_Map #[.pointer (some ⟨r, 0, none⟩), .int .i64 pid, .int .i64 page] h K := by
  have hv0 := hv
  obtain ⟨m, f, rfl, ha, hw⟩ := hv
  refine q_ref19_Vm_Map_calls r pid page h K ?_
  unfold q_ref19_Vm_Map
  unfold mapS at hK
  refine r_vmay ha pid ⟨_, rfl, ?_⟩
  cases hh : hasOf s pid with
  | false =>
    rw [show pageE s pid page = 5 by simp [pageE, hh], if_pos (by decide)] at hK
    exact iteP_ne (by decide) (hK h hv0 (Step.refl _ _))
  | true =>
    obtain ⟨h1, h2⟩ := hasOf_in hh
    refine iteP_nne rfl ?_
    have hbad : (page < 0 ∨ 16 ≤ page) → K (.int .i64 2) h := fun hx => by
      rw [show pageE s pid page = 2 by simp [pageE, hh, hx], if_pos (by decide)] at hK
      exact hK h hv0 (Step.refl _ _)
    refine iteP_cases (fun h3 => hbad (.inl h3)) fun h3 => iteP_cases (fun h4 => hbad (.inr h4)) fun h4 => ?_
    rw [show pageE s pid page = 0 by unfold pageE; rw [if_neg (by simp [hh]), if_neg (by omega)], if_neg (by decide)] at hK
    have g3 : 0 ≤ page := by omega
    have g4 : page < 16 := by omega
    refine ⟨h1, h2, g3, g4, _, ha.map h1 h2 g3 g4, ?_⟩
    by_cases hp : pgOf s pid page = -2
    · rw [if_neg (by simp [hp])] at hK
      refine iteP_f (by simp [hp]) ⟨h1, h2, g3, g4, ⟨_, ha.map h1 h2 g3 g4⟩, by simp only [Addr.add_mk]; exact ha.vm.fz _, letH_iff.2 ?_⟩
      simp only [Addr.add_mk]
      have a1 := ha.vm.put (v := .bool true) (rc_map (s := s) (m := m) h1 h2 g3 g4)
      have s1 : Step h (setH h ⟨r, 7 + pid.toNat * 32 + page.toNat * 2, none⟩ (.bool true)) [r] [r] := Step.setH (by simp)
      have o1 : (fun i => if i = 7 + pid.toNat * 32 + page.toNat * 2 then some (Value.bool true) else refCell s m i) (7 + pid.toNat * 32 + page.toNat * 2 + 1) = some (.int .i64 (frm (pgOf s pid page))) := by
        show (if _ then _ else _) = _
        rw [if_neg (by omega), rc_frm h1 h2 g3 g4]
      refine ⟨⟨_, by rw [a1.cell]; exact o1⟩, a1.fz _, letH_iff.2 ?_⟩
      have a2 := a1.put (v := .int .i64 0) o1
      have s2 := s1.trans (Step.setH (h := setH h ⟨r, 7 + pid.toNat * 32 + page.toNat * 2, none⟩ (.bool true)) (b := r) (o := 7 + pid.toNat * 32 + page.toNat * 2 + 1) (v := .int .i64 0) (F := [r]) (by simp))
      refine hK _ ⟨m, f, rfl, ha.raw (a2.ext fun i => by have e := refCell_setPg hw (x := -1) (m := m) h1 h2 g3 g4 i; rw [show frm (-1) = 0 by decide, show ((-1 : Int) != -2) = true by decide] at e; exact e) s2 rfl rfl, hw.setPg hh g3 g4 (by decide) (by have := ha.mem.pos; omega)⟩ (s2.in1 (by simp))
    · rw [if_pos hp] at hK
      exact iteP_t (by simpa using hp) (hK h hv0 (Step.refl _ _))
theorem r_Unmap (hv : RefRep h r s F) (pid page : Int) (hK : ∀ h', RefRep h' r (unmapS s pid page).2 F → Step h h' F F → K (.int .i64 (unmapS s pid page).1) h') : CallsH Try.prog f_ref19_Vm_Unmap #[.pointer (some ⟨r, 0, none⟩), .int .i64 pid, .int .i64 page] h K := by
  have hv0 := hv
  obtain ⟨m, f, rfl, ha, hw⟩ := hv
  refine q_ref19_Vm_Unmap_calls r pid page h K ?_
  unfold q_ref19_Vm_Unmap
  unfold unmapS at hK
  refine r_vmay ha pid ⟨_, rfl, ?_⟩
  cases hh : hasOf s pid with
  | false =>
    rw [show pageE s pid page = 5 by simp [pageE, hh], if_pos (by decide)] at hK
    exact iteP_ne (by decide) (hK h hv0 (Step.refl _ _))
  | true =>
    obtain ⟨h1, h2⟩ := hasOf_in hh
    refine iteP_nne rfl ?_
    have hbad : (page < 0 ∨ 16 ≤ page) → K (.int .i64 2) h := fun hx => by
      rw [show pageE s pid page = 2 by simp [pageE, hh, hx], if_pos (by decide)] at hK
      exact hK h hv0 (Step.refl _ _)
    refine iteP_cases (fun h3 => hbad (.inl h3)) fun h3 => iteP_cases (fun h4 => hbad (.inr h4)) fun h4 => ?_
    rw [show pageE s pid page = 0 by unfold pageE; rw [if_neg (by simp [hh]), if_neg (by omega)], if_neg (by decide)] at hK
    have g3 : 0 ≤ page := by omega
    have g4 : page < 16 := by omega
    refine ⟨h1, h2, g3, g4, _, ha.map h1 h2 g3 g4, ?_⟩
    by_cases hp : pgOf s pid page = -2
    · rw [if_pos hp] at hK
      exact iteP_t (by simp [hp]) (hK h hv0 (Step.refl _ _))
    · rw [if_neg hp] at hK
      refine iteP_f (by simpa using hp) ⟨h1, h2, g3, g4, ⟨_, ha.map h1 h2 g3 g4⟩, by simp only [Addr.add_mk]; exact ha.vm.fz _, letH_iff.2 ?_⟩
      simp only [Addr.add_mk]
      have a1 := ha.vm.put (v := .bool false) (rc_map (s := s) (m := m) h1 h2 g3 g4)
      have s1 : Step h (setH h ⟨r, 7 + pid.toNat * 32 + page.toNat * 2, none⟩ (.bool false)) [r] [r] := Step.setH (by simp)
      have o1 : (fun i => if i = 7 + pid.toNat * 32 + page.toNat * 2 then some (Value.bool false) else refCell s m i) (7 + pid.toNat * 32 + page.toNat * 2 + 1) = some (.int .i64 (frm (pgOf s pid page))) := by
        show (if _ then _ else _) = _
        rw [if_neg (by omega), rc_frm h1 h2 g3 g4]
      refine ⟨⟨_, by rw [a1.cell]; exact o1⟩, a1.fz _, letH_iff.2 ?_⟩
      have a2 := a1.put (v := .int .i64 0) o1
      have s2 := s1.trans (Step.setH (h := setH h ⟨r, 7 + pid.toNat * 32 + page.toNat * 2, none⟩ (.bool false)) (b := r) (o := 7 + pid.toNat * 32 + page.toNat * 2 + 1) (v := .int .i64 0) (F := [r]) (by simp))
      refine hK _ ⟨m, f, rfl, ha.raw (a2.ext fun i => by have e := refCell_setPg hw (x := -2) (m := m) h1 h2 g3 g4 i; rw [show frm (-2) = 0 by decide, show ((-2 : Int) != -2) = false by decide] at e; exact e) s2 rfl rfl, hw.setPg hh g3 g4 (by decide) (by have := ha.mem.pos; omega)⟩ (s2.in1 (by simp))
theorem r_Copies (hv : RefRep h r s F) (hK : K (.int .i64 s.cp) h) : CallsH Try.prog f_ref19_Vm_Copies #[.pointer (some ⟨r, 0, none⟩)] h K := by
  obtain ⟨m, f, rfl, ha, hw⟩ := hv
  refine q_ref19_Vm_Copies_calls r h K ?_
  unfold q_ref19_Vm_Copies
  exact ⟨_, ha.c199, hK⟩
end
end Go.Proofs.Ytmdhfmljgjnggaa
