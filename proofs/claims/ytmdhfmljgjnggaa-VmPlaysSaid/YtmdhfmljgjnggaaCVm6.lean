/- What Frame, Pages and End of package vm do. No condition. -/
import Derived.Test.YtmdhfmljgjnggaaCNil
namespace Go.Proofs.Ytmdhfmljgjnggaa
attribute [local irreducible] semWP
set_option linter.constructorNameAsVariable false

def pagesS (s : VmS) (pid : Int) : List Int := ((List.range 16).map fun (i : Nat) => (i : Int)).filter fun i => pgOf s pid i != -2
def endS (s : VmS) (pid : Int) : Int × VmS :=
  if hasOf s pid = false then (5, s) else (0, { s with has := s.has.set pid.toNat false, pg := over s.pg (pid.toNat * 16) (List.replicate 16 (-2)) })
theorem pg_ext {s t : VmS} (h1 : s.pg.length = 96) (h2 : t.pg.length = 96) (h : ∀ q page, pgOf s q page = pgOf t q page) : s.pg = t.pg := by
  apply List.ext_getElem?
  intro i
  by_cases hi : i < 96
  · have h3 := h ((i / 16 : Nat) : Int) ((i % 16 : Nat) : Int)
    unfold pgOf at h3
    rw [if_pos (by omega), if_pos (by omega)] at h3
    have e : ixOf ((i / 16 : Nat) : Int) ((i % 16 : Nat) : Int) = i := by unfold ixOf; omega
    rw [e] at h3
    have l1 : i < s.pg.length := by omega
    have l2 : i < t.pg.length := by omega
    rw [List.getElem?_eq_getElem l1, List.getElem?_eq_getElem l2] at h3 ⊢
    simpa using h3
  · rw [List.getElem?_eq_none (by omega), List.getElem?_eq_none (by omega)]
theorem pgOf_end {s : VmS} (hw : Wf s) {pid q page : Int} (h1 : 0 ≤ pid) (h2 : pid < 6) (has : List Bool) : pgOf { s with has := has, pg := over s.pg (pid.toNat * 16) (List.replicate 16 (-2)) } q page = if q = pid then -2 else pgOf s q page := by
  by_cases hq : 0 ≤ q ∧ q < 6 ∧ 0 ≤ page ∧ page < 16
  · unfold pgOf
    simp only [if_pos hq]
    rw [over_get (by simp [hw.lp]; omega)]
    unfold ixOf
    by_cases he : q = pid
    · subst he
      rw [if_pos (by simp; omega), if_pos rfl, List.getElem?_replicate]
      split <;> rfl
    · rw [if_neg (by simp; omega), if_neg he]
  · have e : ∀ t : VmS, pgOf t q page = -2 := fun t => by unfold pgOf; rw [if_neg hq]
    rw [e, e]; split <;> rfl
section
variable {h : Hp} {v : Nat} {s : VmS} {K : Value → Hp → Prop} {F : List Nat}
theorem c_vm_Frame (hv : VmRep h v s F) (pid page : Int) (hK : K (.tuple #[.int .i64 (frameS s pid page).1, .bool (frameS s pid page).2]) h) :
    CallsH Try.prog f_vm_Vm_Frame #[.pointer (some ⟨v, 0, none⟩), .int .i64 pid, .int .i64 page] h K := by
  obtain ⟨m, f, sb, sl, rfl, hv, hw⟩ := hv
  refine q_vm_Vm_Frame_calls v pid page h K ?_
  unfold q_vm_Vm_Frame
  unfold frameS at hK
  refine c_vm_of hv pid (fun hh => ⟨_, _, rfl, _, _, look_nil page, iteP_t rfl ?_⟩) fun r hh hr => ⟨_, _, rfl, _, _, (hv.pages pid r hr).look2 page, ?_⟩
  · rw [if_pos (.inl (hw.off pid page hh))] at hK; exact hK
  · by_cases hp : pgOf s pid page = -2
    · rw [if_pos (.inl hp)] at hK
      exact iteP_t (by simp [hp]) hK
    · refine iteP_f (by simpa using hp) ?_
      rw [if_neg hp]
      refine iteP_eqc (fun hc => ?_) fun hc => ?_
      · rw [if_pos (.inr hc)] at hK; exact hK
      · rw [if_neg (by rintro (h1 | h1) <;> contradiction)] at hK; exact hK
theorem c_Keys {r : Nat} (hK : ∀ h', h' = h.push (.cells #[.map (some r)] T_N_vm_space) → K (.func (.func f_maps_Keys_vm_space_int_int_1) #[] #[.pointer (some ⟨h.size, 0, none⟩)]) h') : CallsH Try.prog f_maps_Keys_vm_space_int_int #[.map (some r)] h K := by
  refine q_maps_Keys_vm_space_int_int_calls r h K ?_
  unfold q_maps_Keys_vm_space_int_int
  exact letH_iff.2 (hK _ rfl)
theorem mem_keys {l : List (Int × Int)} {n : Int} : n ∈ keysOf l ↔ lkp n l ≠ none := by
  rw [ne_eq, lkp_none]; simp
theorem pages_sorted {s : VmS} {pid : Int} {l : List (Int × Int)} (hn : (keysOf l).Nodup) (hl : ∀ page, lkp page l = if pgOf s pid page = -2 then none else some (pgOf s pid page)) : sortI (keysOf l) = pagesS s pid := by
  have hnd : (pagesS s pid).Nodup := by
    unfold pagesS
    refine List.Nodup.sublist List.filter_sublist ?_
    rw [List.nodup_iff_pairwise_ne, List.pairwise_map]
    exact List.nodup_range.imp fun hne e => hne (by omega)
  have hmem : ∀ a, a ∈ keysOf l ↔ a ∈ pagesS s pid := by
    intro a
    rw [mem_keys, hl]
    unfold pagesS
    rw [List.mem_filter]
    constructor
    · intro h1
      by_cases hp : pgOf s pid a = -2
      · rw [if_pos hp] at h1; exact (h1 rfl).elim
      · obtain ⟨_, _, a1, a2⟩ := pgOf_in hp
        exact ⟨List.mem_map.2 ⟨a.toNat, by simp; omega, by omega⟩, by simpa using hp⟩
    · rintro ⟨_, h2⟩
      have : pgOf s pid a ≠ -2 := by simpa using h2
      rw [if_neg this]; simp
  have hp : (keysOf l).Perm (pagesS s pid) := (List.perm_ext_iff_of_nodup hn hnd).2 hmem
  have hs : (pagesS s pid).Pairwise fun x y => decide (x ≤ y) = true := by
    unfold pagesS
    refine List.Pairwise.sublist List.filter_sublist ?_
    rw [List.pairwise_map]
    exact List.pairwise_lt_range.imp fun hlt => by simp; omega
  unfold sortI
  rw [mergeSort_of_perm_i hp]
  exact List.mergeSort_of_pairwise hs
theorem c_vm_Pages (hv : VmRep h v s F) (pid : Int) (hK : ∀ h' p n c F', SlAt h' T_int 1 p n c ((pagesS s pid).map (.int .i64)) F' → Ext h h' → (∀ q ∈ F', h.size ≤ q) → K (.slice p n c) h') :
    CallsH Try.prog f_vm_Vm_Pages #[.pointer (some ⟨v, 0, none⟩), .int .i64 pid] h K := by
  obtain ⟨m, f, sb, sl, rfl, hv, hw⟩ := hv
  refine q_vm_Vm_Pages_calls v pid h K ?_
  unfold q_vm_Vm_Pages
  refine c_vm_of hv pid (fun hh => ⟨_, _, rfl, c_Keys_nil fun h1 e1 => ⟨_, rfl, ?_⟩⟩) fun r hh hr => ⟨_, _, rfl, c_Keys fun h1 e1 => ⟨_, rfl, ?_⟩⟩
  · subst e1
    refine c_sorted_nil (push_new _ _) fun h' x' => ⟨_, _, _, rfl, hK h' none 0 0 [] ?_ ((Ext.push _ _).trans x') (by simp)⟩
    have e : pagesS s pid = [] := by
      unfold pagesS
      rw [List.filter_eq_nil_iff]
      intro a _
      simp [hw.off pid a hh]
    rw [e]; exact SlAt.nil _ _ _
  · obtain ⟨l, hl, hlk⟩ := hv.pages pid r hr
    have x1 : Ext h h1 := by rw [e1]; exact Ext.push _ _
    have hb : h1[h.size]? = some (.cells #[.map (some r)] T_N_vm_space) := by rw [e1]; exact push_new _ _
    have hl1 : MapAt .i64 h1 r (l.map fun p => (p.1, .int .i64 p.2)) := hl.congr (x1.frame r hl.lt (by simp))
    have ek : keysOf (l.map fun p => (p.1, Value.int .i64 p.2)) = keysOf l := keysOf_map (Value.int .i64)
    have hn : (keysOf l).Nodup := by have := hl.nodup; rwa [ek] at this
    have hin : ∀ a ∈ keysOf l, 0 ≤ a ∧ a < 16 := fun a ha => by
      rw [mem_keys, hlk] at ha
      by_cases hp : pgOf s pid a = -2
      · rw [if_pos hp] at ha; exact (ha rfl).elim
      · exact (pgOf_in hp).2.2
    have hps := pages_sorted hn hlk
    have hlen : l.length ≤ 16 := by
      have h1 : (keysOf l).length = (pagesS s pid).length := by rw [← hps]; unfold sortI; rw [List.length_mergeSort]
      have h2 : (pagesS s pid).length ≤ 16 := by
        unfold pagesS
        refine Nat.le_trans (List.length_filter_le ..) ?_
        simp
      have h3 : (keysOf l).length = l.length := by simp [keysOf]
      omega
    refine c_sorted_keys hl1 hb (fun p hp => ?_) (by rw [List.length_map]; omega) fun h' p c F' hs x' hF => ⟨_, _, _, rfl, hK h' _ _ _ F' ?_ (x1.trans x') fun q hq => ?_⟩
    · obtain ⟨q, hq, rfl⟩ := List.mem_map.1 hp
      have := hin q.1 (List.mem_map.2 ⟨q, hq, rfl⟩)
      have e1 : IntKind.i64.min = -9223372036854775808 := by decide
      have e2 : IntKind.i64.max = 9223372036854775807 := by decide
      simp only [Lit.wf, e1, e2, Bool.and_eq_true, decide_eq_true_eq]
      omega
    · rw [ek, hps] at hs; exact hs
    · have := hF q hq
      have := x1.size
      omega
end
end Go.Proofs.Ytmdhfmljgjnggaa
