/- The reference of vm: Left, next, needs. No condition. -/
import Derived.Test.YtmdhfmljgjnggaaCRef3
namespace Go.Proofs.Ytmdhfmljgjnggaa
attribute [local irreducible] semWP
set_option linter.constructorNameAsVariable false
section
variable {h : Hp} {r : Nat} {s : VmS} {K : Value → Hp → Prop} {F : List Nat}
theorem r_Left (hv : RefRep h r s F) (hK : K (.int .i64 (leftS s)) h) : CallsH Try.prog f_ref19_Vm_Left #[.pointer (some ⟨r, 0, none⟩)] h K := by
  have hv0 := hv
  obtain ⟨m, f, rfl, ha, hw⟩ := hv
  refine q_ref19_Vm_Left_calls r h K ?_
  unfold q_ref19_Vm_Left
  have hn := ha.mem.le
  refine ⟨fun a i h' => h = h' ∧ 0 ≤ i ∧ i ≤ s.n ∧ a = leftL (refsOf s.pg) i.toNat, fun _ i _ => ((s.n : Int) - i).toNat, ⟨rfl, by omega, by omega, rfl⟩, ?_⟩
  rintro a i _ ⟨rfl, i0, i1, rfl⟩
  have hb := leftL_le (refsOf s.pg) i.toNat
  refine ⟨_, ha.c0, r_Size ha.mem ⟨_, rfl, iteP_cases (fun hi => ?_) fun hi => ?_⟩⟩
  · have hg := refsOf_get (pg := s.pg) (f := i.toNat) (by omega)
    have e : leftL (refsOf s.pg) (i + 1).toNat = leftL (refsOf s.pg) i.toNat + if cnt ((i.toNat : Nat) : Int) s.pg = 0 then 1 else 0 := by
      rw [show (i + 1).toNat = i.toNat + 1 by omega]; simp only [leftL, hg, Option.getD_some]
    rw [show ((i.toNat : Nat) : Int) = i by omega] at e
    have er : refS s i = cnt i s.pg := by unfold refS; rw [if_neg (by omega)]
    rw [wrap64 (x := i + 1) (by omega) (by omega), wrap64 (x := leftL (refsOf s.pg) i.toNat + 1) (by omega) (by omega)]
    have hmu : ((s.n : Int) - (i + 1)).toNat < ((s.n : Int) - i).toNat := by omega
    refine r_Refs hv0 i ⟨_, rfl, ?_⟩
    rw [er]
    refine iteP_eqc (fun h4 => ⟨⟨rfl, by omega, by omega, ?_⟩, hmu⟩) fun h4 => ⟨⟨rfl, by omega, by omega, ?_⟩, hmu⟩
    · rw [e, if_pos h4]
    · rw [e, if_neg h4]; omega
  · have : i.toNat = s.n := by omega
    rw [this]; exact hK
theorem nextF_none {pg : List Int} {n : Nat} (hn : n ≤ 64) (h : ∀ j : Nat, j < n → cnt j pg ≠ 0) : nextF (refsOf pg) n = none := by
  unfold nextF
  rw [List.find?_eq_none]
  intro j hj
  have hj' : j < n := by simpa using hj
  rw [refsOf_get (by omega)]
  simpa using h j hj'
theorem nextF_some {pg : List Int} {n i : Nat} (hn : n ≤ 64) (hi : i < n) (h : ∀ j : Nat, j < i → cnt j pg ≠ 0) (h0 : cnt i pg = 0) : nextF (refsOf pg) n = some i := by
  unfold nextF
  rw [List.find?_eq_some_iff_append]
  refine ⟨by rw [refsOf_get (by omega), h0]; rfl, List.range i, (List.range' (i + 1) (n - (i + 1))), ?_, ?_⟩
  · rw [List.range_eq_range', List.range_eq_range', show n = i + (n - i) by omega, ← List.range'_append_1]
    rw [show n - i = (n - (i + 1)) + 1 by omega, List.range'_succ]
    simp
    omega
  · intro j hj
    have hj' : j < i := by simpa using hj
    rw [refsOf_get (by omega)]
    simpa using h j hj'
theorem r_next (hv : RefRep h r s F) (hK : K (.int .i64 ((nextF (refsOf s.pg) s.n).elim (-1) fun i => (i : Int))) h) : CallsH Try.prog f_ref19_Vm_next #[.pointer (some ⟨r, 0, none⟩)] h K := by
  have hv0 := hv
  obtain ⟨m, f, rfl, ha, hw⟩ := hv
  refine q_ref19_Vm_next_calls r h K ?_
  unfold q_ref19_Vm_next
  have hn := ha.mem.le
  refine ⟨fun i h' => h = h' ∧ 0 ≤ i ∧ i ≤ s.n ∧ ∀ j : Nat, (j : Int) < i → cnt j s.pg ≠ 0, fun i _ => ((s.n : Int) - i).toNat, ⟨rfl, by omega, by omega, fun j hj => by omega⟩, ?_⟩
  rintro i _ ⟨rfl, i0, i1, hall⟩
  refine ⟨_, ha.c0, r_Size ha.mem ⟨_, rfl, iteP_cases (fun hi => ?_) fun hi => ?_⟩⟩
  · have er : refS s i = cnt i s.pg := by unfold refS; rw [if_neg (by omega)]
    rw [wrap64 (x := i + 1) (by omega) (by omega)]
    refine r_Refs hv0 i ⟨_, rfl, ?_⟩
    rw [er]
    have ei : ((i.toNat : Nat) : Int) = i := by omega
    refine iteP_eqc (fun h4 => ?_) fun h4 => ⟨⟨rfl, by omega, by omega, fun j hj => ?_⟩, by show ((s.n : Int) - (i + 1)).toNat < ((s.n : Int) - i).toNat; omega⟩
    · rw [nextF_some (i := i.toNat) hn (by omega) (fun j hj => hall j (by omega)) (by rw [ei]; exact h4)] at hK
      rw [Option.elim_some, ei] at hK
      exact hK
    · by_cases hji : (j : Int) < i
      · exact hall j hji
      · rw [show (j : Int) = i by omega]; exact h4
  · rw [nextF_none hn (fun j hj => hall j (by omega))] at hK
    exact hK
end
end Go.Proofs.Ytmdhfmljgjnggaa
