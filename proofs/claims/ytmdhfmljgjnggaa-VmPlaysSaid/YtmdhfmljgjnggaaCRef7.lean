/- The reference of vm: Fork. No condition. -/
import Derived.Test.YtmdhfmljgjnggaaCRef6
namespace Go.Proofs.Ytmdhfmljgjnggaa
attribute [local irreducible] semWP
set_option linter.constructorNameAsVariable false
section
variable {h h' : Hp} {r m f : Nat} {s : VmS} {K : Value → Hp → Prop} {F : List Nat} {g : Nat → Option Value}
theorem RawAt.putRow (ha : RawAt h r g) {o : Nat} {vs : List Value} (hl : 0 < vs.length) (hs : (g (o + (vs.length - 1))).isSome = true) :
    RawAt (setL h ⟨r, o, none⟩ vs 0) r (fun i => if o ≤ i ∧ i < o + vs.length then vs[i - o]? else g i) := by
  obtain ⟨cs, h1, h2⟩ := ha
  have hle : o + vs.length ≤ cs.toList.length := by
    rw [← h2] at hs
    obtain ⟨x, hx⟩ := Option.isSome_iff_exists.1 hs
    have := (Array.getElem?_eq_some_iff.1 hx).1
    simp only [Array.length_toList]; omega
  refine ⟨_, setL_same h1, fun i => ?_⟩
  have := over_get (i := i) hle
  rw [Nat.add_zero, ← Array.getElem?_toList]
  show (over cs.toList o vs)[i]? = _
  rw [this]
  show _ = if o ≤ i ∧ i < o + vs.length then vs[i - o]? else g i
  split
  · rfl
  · rw [Array.getElem?_toList, h2]
theorem refCell_fork {s : VmS} (hw : Wf s) {m : Nat} {a b : Int} (a1 : 0 ≤ a) (a2 : a < 6) (b1 : 0 ≤ b) (b2 : b < 6) (i : Nat) :
    (if 7 + b.toNat * 32 ≤ i ∧ i < 7 + b.toNat * 32 + 32 then refCell s m (7 + a.toNat * 32 + (i - (7 + b.toNat * 32))) else if i = 1 + b.toNat then some (.bool true) else refCell s m i) =
    refCell { s with has := s.has.set b.toNat true, pg := over s.pg (b.toNat * 16) (rowOf s a) } m i := by
  by_cases h7 : i < 7
  · rw [if_neg (by omega), refCell_has hw b1 b2]
    unfold refCell
    by_cases h0 : i = 0
    · rw [if_pos h0, if_pos h0]
    · rw [if_neg h0, if_neg h0, if_pos h7, if_pos h7]; rfl
  · by_cases h9 : i < 199
    · have e : ∀ t : VmS, refCell t m i = (if (i - 7) % 2 = 0 then some (.bool (pgOf t (((i - 7) / 32 : Nat) : Int) (((i - 7) % 32 / 2 : Nat) : Int) != -2)) else some (.int .i64 (frm (pgOf t (((i - 7) / 32 : Nat) : Int) (((i - 7) % 32 / 2 : Nat) : Int))))) := fun t => by
        unfold refCell; rw [if_neg (by omega), if_neg h7, if_pos h9]
      have epg := pgOf_fork hw (q := (((i - 7) / 32 : Nat) : Int)) (page := (((i - 7) % 32 / 2 : Nat) : Int)) a1 a2 b1 b2 (s.has.set b.toNat true)
      rw [e { s with has := s.has.set b.toNat true, pg := over s.pg (b.toNat * 16) (rowOf s a) }, epg, e s]
      by_cases hb : 7 + b.toNat * 32 ≤ i ∧ i < 7 + b.toNat * 32 + 32
      · have qb : (((i - 7) / 32 : Nat) : Int) = b := by omega
        rw [if_pos hb]
        simp only [if_pos qb]
        unfold refCell
        rw [if_neg (by omega), if_neg (by omega), if_pos (by omega)]
        have q1 : (((7 + a.toNat * 32 + (i - (7 + b.toNat * 32)) - 7) / 32 : Nat) : Int) = a := by omega
        have q2 : ((7 + a.toNat * 32 + (i - (7 + b.toNat * 32)) - 7) % 32 / 2) = ((i - 7) % 32 / 2) := by omega
        have q3 : (7 + a.toNat * 32 + (i - (7 + b.toNat * 32)) - 7) % 2 = (i - 7) % 2 := by omega
        rw [q1, q2, q3]
      · have nb : ¬ (((i - 7) / 32 : Nat) : Int) = b := by omega
        rw [if_neg hb, if_neg (show ¬ i = 1 + b.toNat by omega)]
        simp only [if_neg nb]
    · rw [if_neg (by omega), if_neg (by omega)]
      unfold refCell
      simp only [if_neg (show ¬ i = 0 by omega), if_neg h7, if_neg h9]
theorem r_Fork (hv : RefRep h r s F) (a b : Int) (hK : ∀ h', RefRep h' r (forkS s a b).2 F → Step h h' F F → K (.int .i64 (forkS s a b).1) h') :
    CallsH Try.prog f_ref19_Vm_Fork #[.pointer (some ⟨r, 0, none⟩), .int .i64 a, .int .i64 b] h K := by
  have hv0 := hv
  obtain ⟨m, f, rfl, ha, hw⟩ := hv
  refine q_ref19_Vm_Fork_calls r a b h K ?_
  unfold q_ref19_Vm_Fork
  unfold forkS at hK
  refine r_vmay ha a ⟨_, rfl, ?_⟩
  cases hh : hasOf s a with
  | false => rw [if_pos hh] at hK; exact iteP_ne (by decide) (hK h hv0 (Step.refl _ _))
  | true =>
    rw [if_neg (by simp [hh])] at hK
    refine iteP_nne rfl (r_vfresh ha b ⟨_, rfl, iteP_nec (fun he => ?_) fun he => ?_⟩)
    · rw [if_pos he] at hK; exact hK h hv0 (Step.refl _ _)
    rw [if_neg (by simp [he])] at hK
    obtain ⟨b1, b2, hb⟩ := freshE_ok he
    obtain ⟨a1, a2⟩ := hasOf_in hh
    have hsome : ∀ i, i < 32 → ∃ u, refCell s m (7 + a.toNat * 32 + i) = some u ∧ oneV u = true := fun i hi => by
      unfold refCell
      rw [if_neg (by omega), if_neg (by omega), if_pos (by omega)]
      split
      · exact ⟨_, rfl, rfl⟩
      · exact ⟨_, rfl, rfl⟩
    obtain ⟨cs, hcs, hget⟩ : ∃ cs : List Value, cs.length = 32 ∧ ∀ i, i < 32 → cs[i]? = refCell s m (7 + a.toNat * 32 + i) :=
      ⟨(List.range 32).map fun i => (refCell s m (7 + a.toNat * 32 + i)).getD undef, by simp, fun i hi => by
        obtain ⟨u, hu, _⟩ := hsome i hi
        simp [hi, hu]⟩
    refine ⟨a1, a2, ⟨cs⟩, ⟨by simpa using hcs, fun i hi => ?_⟩, b1, b2, ⟨_, ha.has b1 b2⟩, by rw [Addr.add_mk]; exact ha.vm.fz _, letH_iff.2 ⟨b1, b2, by simpa using hcs, fun i hi => ?_, ?_⟩⟩
    · rw [Addr.add_mk, Addr.add_mk, ha.vm.cell, ← hget i hi]; simp
    · obtain ⟨u, hu, ho⟩ := hsome i hi
      exact ⟨u, by rw [← hu, ← hget i hi]; simp, ho⟩
    rw [Addr.add_mk, Nat.mul_one, Addr.add_mk]
    have p1 := ha.vm.put (v := .bool true) (rc_has (s := s) (m := m) b1 b2)
    have st1 : Step h (setH h ⟨r, 1 + b.toNat, none⟩ (.bool true)) [r] [r] := Step.setH (by simp)
    generalize setH h ⟨r, 1 + b.toNat, none⟩ (.bool true) = h1 at *
    have hc : ∀ i, i < 32 → ∃ u, (fun i => if i = 1 + b.toNat then some (Value.bool true) else refCell s m i) (7 + b.toNat * 32 + i) = some u := fun i hi => by
      have hne : ¬ 7 + b.toNat * 32 + i = 1 + b.toNat := by omega
      simp only [if_neg hne]
      unfold refCell
      rw [if_neg (by omega), if_neg (by omega), if_pos (by omega)]
      split <;> exact ⟨_, rfl⟩
    refine ⟨fun i hi => ⟨?_, by rw [Addr.add_mk]; exact p1.fz _⟩, letH_iff.2 ?_⟩
    · rw [Addr.add_mk, p1.cell]; exact hc i hi
    have p2 := p1.putRow (o := 7 + b.toNat * 32) (vs := cs) (by omega) (by obtain ⟨u, hu⟩ := hc 31 (by omega); rw [hcs]; exact Option.isSome_iff_exists.2 ⟨u, hu⟩)
    have st2 : Step h1 (setRow h1 ⟨r, 7 + b.toNat * 32, none⟩ ⟨cs⟩) [r] [r] := ⟨by unfold setRow; rw [setL_size]; exact Nat.le_refl _, fun q _ hq => setL_other (by simpa using hq), fun _ hq => .inl hq⟩
    have hfin : RefAt (setRow h1 ⟨r, 7 + b.toNat * 32, none⟩ ⟨cs⟩) r m f { s with has := s.has.set b.toNat true, pg := over s.pg (b.toNat * 16) (rowOf s a) } := by
      refine ha.raw (p2.ext fun i => ?_) (st1.trans st2) rfl rfl
      rw [← refCell_fork hw a1 a2 b1 b2, hcs]
      by_cases hi : 7 + b.toNat * 32 ≤ i ∧ i < 7 + b.toNat * 32 + 32
      · rw [if_pos hi, if_pos hi, hget _ (by omega)]
      · rw [if_neg hi, if_neg hi]
    exact hK _ ⟨m, f, rfl, hfin, hw.fork hh b1 b2⟩ ((st1.trans st2).in1 (by simp))
end
end Go.Proofs.Ytmdhfmljgjnggaa
