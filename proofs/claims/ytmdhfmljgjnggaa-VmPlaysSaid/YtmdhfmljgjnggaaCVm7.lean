/- What End of package vm does. No condition. -/
import Derived.Test.YtmdhfmljgjnggaaCVm6
namespace Go.Proofs.Ytmdhfmljgjnggaa
attribute [local irreducible] semWP
set_option linter.constructorNameAsVariable false
theorem keysOf_perm {α : Type} {l m : List (Int × α)} (h : l.Perm m) : (keysOf l).Perm (keysOf m) := h.map _
section
variable {h : Hp} {v : Nat} {s : VmS} {K : Value → Hp → Prop} {F : List Nat}
theorem lkp_del_snd {l : List (Int × Nat)} {pid q : Int} {r : Nat} (hn : (keysOf l).Nodup) (h : lkp q (del pid l) = some r) : q ≠ pid ∧ lkp q l = some r := by
  rw [lkp_del hn] at h
  split at h
  · cases h
  · rename_i hne; exact ⟨hne, h⟩
theorem del_sub {α : Type} {n : Int} : ∀ {l : List (Int × α)}, (del n l).Sublist l := by
  intro l
  induction l with
  | nil => exact List.Sublist.refl _
  | cons p l ih =>
    obtain ⟨m, u⟩ := p
    simp only [del]
    split
    · exact List.sublist_cons_self _ _
    · exact ih.cons_cons _
set_option maxHeartbeats 1000000 in
theorem c_vm_End (hv : VmRep h v s F) (pid : Int) (hK : ∀ h' F', VmRep h' v (endS s pid).2 F' → Step h h' F F' → K (.int .i64 (endS s pid).1) h') :
    CallsH Try.prog f_vm_Vm_End #[.pointer (some ⟨v, 0, none⟩), .int .i64 pid] h K := by
  have hv0 := hv
  obtain ⟨m, f, sb, sl, rfl, hv, hw⟩ := hv
  refine q_vm_Vm_End_calls v pid h K ?_
  unfold q_vm_Vm_End
  unfold endS at hK
  refine c_vm_of hv pid (fun hh => ⟨_, _, rfl, iteP_ne (by decide) ?_⟩) fun r hh hr => ⟨_, _, rfl, iteP_nne rfl ?_⟩
  · rw [if_pos hh] at hK; exact hK h _ hv0 (Step.refl _ _)
  rw [if_neg (by simp [hh])] at hK
  obtain ⟨p1, p2⟩ := hasOf_in hh
  obtain ⟨l, hl, hlk⟩ := hv.pages pid r hr
  refine c_maps_Clone hl fun h1 m1 st1 z1 => ⟨_, rfl, ?_⟩
  refine semWP_range (kt := T_int) (et := T_int) (by kernel_rfl) m1 fun h2 it2 st2 z2 => ⟨_, rfl, ?_⟩
  have hv2 : VmAt h2 v m f sb sl (refsOf s.pg) s := hv.congr fun r' hr' => by
    have := hv.lt r' hr'
    rw [st2.frame r' (by omega) (by simp), st1.frame r' this (by simp)]
  have ek : keysOf (l.map fun p => (p.1, Value.int .i64 p.2)) = keysOf l := keysOf_map (Value.int .i64)
  have hn : (keysOf l).Nodup := by have := hl.nodup; rwa [ek] at this
  generalize hL : (l.map fun p => ((p.1, Value.int .i64 p.2) : Int × Value)) = L at *
  have hkL : ∀ page, page ∈ keysOf L ↔ pgOf s pid page ≠ -2 := fun page => by
    rw [ek, mem_keys, hlk]
    by_cases hp : pgOf s pid page = -2 <;> simp [hp]
  generalize hb : h.size = blk at *
  generalize hi : h1.size = i at *
  have hbl : ∀ r' ∈ foot v m f sb sl, r' < blk := fun r' hr' => by have := hv.lt r' hr'; omega
  refine ⟨fun hc => ∃ left sc, IterAt .i64 hc i blk L left ∧ VmAt hc v m f sb sl (refsOf sc.pg) sc ∧ Wf sc ∧ sc.n = s.n ∧ sc.b = s.b ∧ sc.cp = s.cp ∧ sc.has = s.has ∧ (∀ q page, pgOf sc q page = if q = pid ∧ page ∉ keysOf left then -2 else pgOf s q page) ∧ (keysOf left).Nodup ∧ (∀ a ∈ keysOf left, pgOf s pid a ≠ -2) ∧ Step h2 hc (i :: foot v m f sb sl) (i :: foot v m f sb sl),
    fun hc => itLeft hc i blk, ⟨L, s, it2, hv2, hw, rfl, rfl, rfl, rfl, fun q page => ?_, by rw [ek]; exact hn, fun a ha => (hkL a).1 ha, Step.refl _ _⟩, ?_⟩
  · split
    · rename_i hq
      rw [hkL, Classical.not_not] at hq
      rw [hq.1]; exact hq.2
    · rfl
  rintro hc ⟨left, sc, it, hvc, hwc, e1, e2, e3, e4, hpg, hnl, hml, stc⟩
  refine semWP_next it (by omega) (fun h0 => ⟨_, _, rfl, ?_⟩) fun p left' h4 hperm it4 cur4 st4 z4 => ⟨_, _, rfl, ?_⟩
  · rw [iteP_false]
    subst h0
    refine ⟨_, hvc.c65, ?_⟩
    refine semWP_delete (t := T_m_int_vm_space) (kt := T_int) (et := T_N_vm_space) (by rfl) (by kernel_rfl) (by kernel_rfl) hvc.sps fun h5 m5 st5 z5 => ⟨rfl, ?_⟩
    have hdel : del pid (sl.map fun p => (p.1, Value.map (some p.2))) = (del pid sl).map fun p => (p.1, Value.map (some p.2)) := del_map (fun x => Value.map (some x))
    rw [hdel] at m5
    obtain ⟨_, _, _, g4, g5, g6, g7⟩ := hvc.vm_ne
    have hpg2 : sc.pg = over s.pg (pid.toNat * 16) (List.replicate 16 (-2)) := by
      have := pg_ext (s := sc) (t := { s with has := s.has, pg := over s.pg (pid.toNat * 16) (List.replicate 16 (-2)) }) hwc.lp (by rw [over_length]; exact hw.lp) fun q page => by
        rw [hpg, pgOf_end hw p1 p2]
        simp [keysOf]
      exact this
    have hs' : ({ sc with has := sc.has.set pid.toNat false } : VmS) = { s with has := s.has.set pid.toNat false, pg := over s.pg (pid.toNat * 16) (List.replicate 16 (-2)) } := by
      obtain ⟨n', b', has', pg', cp'⟩ := sc
      simp only at e1 e2 e3 e4 hpg2
      subst e1 e2 e3 e4 hpg2
      rfl
    have hmem : ∀ r' ∈ (del pid sl).map (·.2), r' ∈ sl.map (·.2) := fun r' hr' => (del_sub.map _).subset hr'
    have hat : VmAt h5 v m f sb (del pid sl) (refsOf sc.pg) { sc with has := sc.has.set pid.toNat false } := by
      refine ⟨?_, hvc.rl, ?_, m5, fun q r' hr' => ?_, fun q => ?_, ?_⟩
      · rw [st5.frame v (hvc.lt v foot_v) (by simpa using Ne.symm g4)]; exact hvc.vm
      · exact hvc.mem.congr (st5.frame m (lt_of_at hvc.mem.mem) (by simpa using Ne.symm g5)) (st5.frame f (lt_of_at hvc.mem.fr) (by simpa using Ne.symm g6))
      · obtain ⟨hne, hr2⟩ := lkp_del_snd hvc.keys hr'
        have hlt := hvc.lt r' (foot_r hr2)
        exact ((hvc.pages q r' hr2).congr (st5.frame r' hlt (by simpa using (g7 r' (lkp_snd hr2)).2.2.2))).ext fun page => pgOf_congr rfl q page
      · rw [lkp_del hvc.keys, hasOf_set hwc.lh p1 p2]
        by_cases hq : q = pid
        · rw [if_pos hq, if_pos hq]; rfl
        · rw [if_neg hq, if_neg hq]; exact hvc.has q
      · have hnd := hvc.nd
        rw [List.nodup_cons] at hnd ⊢
        exact ⟨fun hx => hnd.1 (hmem _ hx), hnd.2.sublist (del_sub.map _)⟩
    have hwf : Wf { sc with has := sc.has.set pid.toNat false } := by
      refine ⟨by simp [hwc.lh], hwc.lp, hwc.pgs, fun q page hq => ?_, hwc.le⟩
      rw [hasOf_set hwc.lh p1 p2] at hq
      refine (pgOf_congr (s' := sc) (by rfl) q page).trans ?_
      by_cases hqp : q = pid
      · rw [hpg, if_pos ⟨hqp, by simp [keysOf]⟩]
      · rw [if_neg hqp] at hq; exact hwc.off q page hq
    rw [hs'] at hat hwf
    have er : refsOf sc.pg = refsOf (over s.pg (pid.toNat * 16) (List.replicate 16 (-2))) := by rw [hpg2]
    rw [er] at hat
    refine hK h5 _ ⟨m, f, sb, del pid sl, rfl, hat, hwf⟩ ⟨?_, fun r' h6 h7 => ?_, fun r' h6 => ?_⟩
    · have := stc.size
      have := st5.size
      omega
    · have hne : r' ≠ sb := fun e => h7 (e ▸ foot_sb)
      have hsz := stc.size
      rw [st5.frame r' (by omega) (by simpa using hne), stc.frame r' (by omega) (by simp only [List.mem_cons, not_or]; exact ⟨by omega, h7⟩), st2.frame r' (by omega) (by simp), st1.frame r' (by omega) (by simp)]
    · left
      simp only [foot, List.mem_cons] at h6 ⊢
      rcases h6 with h7 | h7 | h7 | h7 | h7
      · simp [h7]
      · simp [h7]
      · simp [h7]
      · simp [h7]
      · exact .inr (.inr (.inr (.inr (hmem r' h7))))
  · rw [iteP_true]
    have hin : p.1 ∈ keysOf left := (keysOf_perm hperm).mem_iff.2 (by simp [keysOf])
    have hval : ∃ x, p.2 = .int .i64 x := by
      obtain ⟨es, clk, seen, _, _, ee, _, _, el⟩ := it
      have : p ∈ left := hperm.mem_iff.2 (by simp)
      have h6 : (Value.int .i64 p.1, p.2) ∈ left.map fun q => ((.int .i64 q.1 : Value), q.2) := List.mem_map.2 ⟨p, this, rfl⟩
      rw [← el] at h6
      obtain ⟨e0, he0, heq⟩ := List.mem_map.1 h6
      have h7 : (e0.key, e0.val) ∈ es.toList.map fun e => (e.key, e.val) := List.mem_map.2 ⟨e0, (List.mem_filter.1 he0).1, rfl⟩
      rw [ee, heq, ← hL] at h7
      obtain ⟨q, hq, heq2⟩ := List.mem_map.1 h7
      obtain ⟨q0, _, rfl⟩ := List.mem_map.1 hq
      simp only [Prod.mk.injEq] at heq2
      exact ⟨q0.2, heq2.2.symm⟩
    obtain ⟨x, hx⟩ := hval
    have hent := runs_entry (P := Try.prog) cur4
    rw [hx] at hent
    refine ⟨_, _, hent, ?_⟩
    have hsz := stc.size
    have hv4 := hvc.congr (h' := h4) fun r' hr' => st4.frame r' (hvc.lt r' hr') (by simp only [List.mem_singleton]; have := hbl r' hr'; omega)
    have hmap : pgOf sc pid p.1 ≠ -2 := by
      rw [hpg, if_neg (by simp [hin])]
      exact hml _ hin
    obtain ⟨_, _, i3, i4⟩ := pgOf_in hmap
    have hhc : hasOf sc pid = true := by rw [hasOf_congr e4]; exact hh
    refine c_vm_drop hv4 hwc hr hmap fun h5 hv5 st5 z5 st5' => ⟨rfl, ?_⟩
    have hvi : i ≠ v := by have := hbl v foot_v; omega
    have hri : i ≠ r := by have := hbl r (foot_r hr); omega
    have hvb : blk ≠ v := by have := hbl v foot_v; omega
    have hrb : blk ≠ r := by have := hbl r (foot_r hr); omega
    have hi4 : i < h4.size := by omega
    have hb4 : blk < h4.size := by omega
    have it5 := it4.congr (h' := h5) (st5'.frame i hi4 (by simp [hvi, hri])) (st5'.frame blk hb4 (by simp [hvb, hrb]))
    have hkp := keysOf_perm hperm
    have hnl' : (p.1 :: keysOf left').Nodup := hkp.nodup_iff.1 hnl
    rw [List.nodup_cons] at hnl'
    refine ⟨⟨left', setPg sc pid p.1 (-2), it5, hv5, hwc.setPg hhc i3 i4 (by decide) (by have := hwc.pg_le pid p.1; have := hvc.mem.pos; omega), e1, e2, e3, e4, fun q page => ?_, hnl'.2, fun a ha => hml a (hkp.mem_iff.2 (List.mem_cons_of_mem _ ha)), stc.trans ((st4.in1 (by simp)).trans (st5.mono (fun _ hr' => List.mem_cons_of_mem _ hr') fun _ hr' => .inr hr'))⟩, ?_⟩
    · rw [pgOf_setPg hwc p1 p2 i3 i4, hpg]
      by_cases hq : q = pid
      · subst hq
        by_cases hpp : page = p.1
        · subst hpp
          rw [if_pos ⟨rfl, rfl⟩, if_pos ⟨rfl, hnl'.1⟩]
        · rw [if_neg (by rintro ⟨_, h6⟩; exact hpp h6)]
          have hiff : page ∈ keysOf left ↔ page ∈ keysOf left' := by
            rw [hkp.mem_iff]
            show page ∈ p.1 :: keysOf left' ↔ _
            rw [List.mem_cons]
            exact ⟨fun h6 => h6.resolve_left hpp, .inr⟩
          simp only [hiff]
      · rw [if_neg (by rintro ⟨h6, _⟩; exact hq h6), if_neg (by rintro ⟨h6, _⟩; exact hq h6), if_neg (by rintro ⟨h6, _⟩; exact hq h6)]
    · show itLeft h5 i blk < itLeft hc i blk
      rw [it.left, it5.left, hperm.length_eq]; simp
end
end Go.Proofs.Ytmdhfmljgjnggaa
