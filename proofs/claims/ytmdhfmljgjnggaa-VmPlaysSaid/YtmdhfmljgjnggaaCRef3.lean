/- The reference of vm: addresses, Peek, Frame, Refs, Left, next, needs. No condition. -/
import Derived.Test.YtmdhfmljgjnggaaCRef2
namespace Go.Proofs.Ytmdhfmljgjnggaa
attribute [local irreducible] semWP
set_option linter.constructorNameAsVariable false
section
variable {h : Hp} {r m f : Nat} {s : VmS} {K : Value → Hp → Prop} {F : List Nat}
theorem r_at (ha : RefAt h r m f s) (pid addr : Int) (hK : K (.int .i64 (addrE s pid addr)) h) : CallsH Try.prog f_ref19_Vm_at #[.pointer (some ⟨r, 0, none⟩), .int .i64 pid, .int .i64 addr] h K := by
  refine q_ref19_Vm_at_calls r pid addr h K ?_
  unfold q_ref19_Vm_at
  unfold addrE at hK
  refine r_vmay ha pid ⟨_, rfl, ?_⟩
  cases hh : hasOf s pid with
  | false => rw [if_pos hh] at hK; exact iteP_ne (by decide) hK
  | true =>
    rw [if_neg (by simp [hh])] at hK
    obtain ⟨h1, h2⟩ := hasOf_in hh
    refine iteP_nne rfl (iteP_cases (fun h3 => ?_) fun h3 => iteP_cases (fun h4 => ?_) fun h4 => ?_)
    · rw [if_pos (.inl h3)] at hK; exact hK
    · rw [if_pos (.inr h4)] at hK; exact hK
    · rw [if_neg (by omega)] at hK
      rw [tdiv32 (by omega) (by omega)]
      refine ⟨h1, h2, by omega, by omega, _, ha.map h1 h2 (by omega) (by omega), ?_⟩
      by_cases hp : pgOf s pid (addr / 32) = -2
      · rw [if_pos hp] at hK; exact iteP_t (by simp [hp]) hK
      · rw [if_neg hp] at hK; exact iteP_f (by simpa using hp) hK
theorem frm_eq {c : Int} (h : -2 ≤ c) : frm c = 0 ↔ c < 0 := by unfold frm; split <;> omega
theorem addrE_ok {s : VmS} {pid addr : Int} (h : addrE s pid addr = 0) : hasOf s pid = true ∧ 0 ≤ pid ∧ pid < 6 ∧ 0 ≤ addr ∧ addr < 512 ∧ pgOf s pid (addr / 32) ≠ -2 := by
  unfold addrE at h
  cases hh : hasOf s pid with
  | false => rw [if_pos hh] at h; cases h
  | true =>
    rw [if_neg (by simp [hh])] at h
    split at h
    · cases h
    · split at h
      · cases h
      · obtain ⟨a, b⟩ := hasOf_in hh
        exact ⟨rfl, a, b, by omega, by omega, by assumption⟩
theorem r_Peek (hv : RefRep h r s F) (pid addr : Int) (hK : K (.tuple #[.int .u8 (peekS s pid addr).1, .int .i64 (peekS s pid addr).2]) h) :
    CallsH Try.prog f_ref19_Vm_Peek #[.pointer (some ⟨r, 0, none⟩), .int .i64 pid, .int .i64 addr] h K := by
  obtain ⟨m, f, rfl, ha, hw⟩ := hv
  refine q_ref19_Vm_Peek_calls r pid addr h K ?_
  unfold q_ref19_Vm_Peek
  unfold peekS at hK
  refine r_at ha pid addr ⟨_, rfl, iteP_nec (fun he => ?_) fun he => ?_⟩
  · rw [if_pos he] at hK; exact hK
  · rw [if_neg (by simp [he])] at hK
    obtain ⟨_, h1, h2, h3, h4, hp⟩ := addrE_ok he
    have hle := hw.pg_le pid (addr / 32)
    have h64 := hw.le
    rw [tdiv32 h3 h4, tmod32 h3]
    refine ⟨h1, h2, by omega, by omega, _, ha.frm h1 h2 (by omega) (by omega), iteP_eqc (fun hc => ?_) fun hc => ?_⟩
    · rw [frm_eq (by omega)] at hc
      rw [if_pos (by omega)] at hK; exact hK
    · rw [ne_eq, frm_eq (by omega)] at hc
      rw [if_neg (by omega)] at hK
      have e : IntKind.wrap .i64 (frm (pgOf s pid (addr / 32)) - 1) = pgOf s pid (addr / 32) := by
        unfold frm; rw [if_neg hc, wrap64 (by omega) (by omega)]; omega
      refine ⟨_, ha.c0, ?_⟩
      rw [e]
      exact r_Byte ha.mem _ _ (by omega) (by omega) (by omega) (by omega) ⟨_, _, rfl, hK⟩
theorem r_Frame (hv : RefRep h r s F) (pid page : Int) (hK : K (.tuple #[.int .i64 (frameS s pid page).1, .bool (frameS s pid page).2]) h) :
    CallsH Try.prog f_ref19_Vm_Frame #[.pointer (some ⟨r, 0, none⟩), .int .i64 pid, .int .i64 page] h K := by
  obtain ⟨m, f, rfl, ha, hw⟩ := hv
  refine q_ref19_Vm_Frame_calls r pid page h K ?_
  unfold q_ref19_Vm_Frame
  unfold frameS at hK
  have hno : pgOf s pid page = -2 → K (.tuple #[.int .i64 0, .bool false]) h := fun hx => by rw [if_pos (.inl hx)] at hK; exact hK
  refine r_vmay ha pid ⟨_, rfl, ?_⟩
  cases hh : hasOf s pid with
  | false => exact iteP_ne (by decide) (hno (hw.off pid page hh))
  | true =>
    obtain ⟨h1, h2⟩ := hasOf_in hh
    have hout : ¬ (0 ≤ page ∧ page < 16) → pgOf s pid page = -2 := fun hx => by unfold pgOf; rw [if_neg (by omega)]
    refine iteP_nne rfl (iteP_cases (fun h3 => hno (hout (by omega))) fun h3 => iteP_cases (fun h4 => hno (hout (by omega))) fun h4 => ?_)
    have hle := hw.pg_le pid page
    have h64 := hw.le
    refine ⟨h1, h2, by omega, by omega, _, ha.frm h1 h2 (by omega) (by omega), iteP_eqc (fun hc => ?_) fun hc => ⟨h1, h2, by omega, by omega, _, ha.frm h1 h2 (by omega) (by omega), ?_⟩⟩
    · rw [frm_eq (by omega)] at hc
      rw [if_pos (by omega)] at hK; exact hK
    · rw [ne_eq, frm_eq (by omega)] at hc
      rw [if_neg (by omega)] at hK
      have e : IntKind.wrap .i64 (frm (pgOf s pid page) - 1) = pgOf s pid page := by
        unfold frm; rw [if_neg hc, wrap64 (by omega) (by omega)]; omega
      rw [e]; exact hK
def rcnt (x : Int) (l : List Int) : Int := if x < 0 then 0 else cnt x l
theorem rcnt_step {x c : Int} {l : List Int} (hc : -2 ≤ c) : rcnt x (l ++ [c]) = rcnt x l + if frm c ≠ 0 ∧ frm c - 1 = x then 1 else 0 := by
  unfold rcnt
  by_cases hx : x < 0
  · rw [if_pos hx, if_pos hx, if_neg]
    · rfl
    · unfold frm; split <;> omega
  · rw [if_neg hx, if_neg hx, cnt_append]
    simp only [cnt, Int.add_zero]
    congr 1
    unfold frm
    by_cases hcx : c = x
    · rw [if_neg (show ¬ c < 0 by omega), if_pos hcx, if_pos (by omega)]
    · rw [if_neg hcx, if_neg]
      split <;> omega
theorem rcnt_le {x : Int} {l : List Int} : 0 ≤ rcnt x l ∧ rcnt x l ≤ l.length := by
  unfold rcnt
  split
  · omega
  · exact ⟨cnt_nonneg, Go.Proofs.Ytmdhfmljgjnggaa.cnt_le⟩
theorem cnt_none {x : Int} : ∀ {l : List Int}, (∀ y ∈ l, y ≠ x) → cnt x l = 0 := by
  intro l
  induction l with
  | nil => intro _; rfl
  | cons a l ih => intro h; simp only [cnt, if_neg (h a (by simp)), ih fun y hy => h y (by simp [hy])]; rfl
theorem rcnt_refS {s : VmS} (hw : Wf s) (x : Int) : rcnt x s.pg = refS s x := by
  unfold rcnt refS
  by_cases hx : x < 0
  · rw [if_pos hx, if_pos (.inl hx)]
  · rw [if_neg hx]
    by_cases h6 : 64 ≤ x
    · rw [if_pos (.inr h6)]
      exact cnt_none fun y hy => by have := hw.pgs y hy; have := hw.le; omega
    · rw [if_neg (by omega)]
theorem r_Refs (hv : RefRep h r s F) (x : Int) (hK : K (.int .i64 (refS s x)) h) : CallsH Try.prog f_ref19_Vm_Refs #[.pointer (some ⟨r, 0, none⟩), .int .i64 x] h K := by
  obtain ⟨m, f, rfl, ha, hw⟩ := hv
  refine q_ref19_Vm_Refs_calls r x h K ?_
  unfold q_ref19_Vm_Refs
  have h64 := hw.le
  have hlen : ∀ k : Nat, (s.pg.take k).length ≤ 96 := fun k => by rw [List.length_take, hw.lp]; omega
  refine ⟨fun a i h' => h = h' ∧ 0 ≤ i ∧ i ≤ 6 ∧ a = rcnt x (s.pg.take (i.toNat * 16)), fun _ i _ => (6 - i).toNat, ⟨rfl, by omega, by omega, by simp [rcnt, cnt]⟩, ?_⟩
  rintro a i _ ⟨rfl, i0, i1, rfl⟩
  refine iteP_cases (fun hi => ?_) fun hi => ?_
  · refine ⟨fun a j h' => h = h' ∧ 0 ≤ j ∧ j ≤ 16 ∧ a = rcnt x (s.pg.take (i.toNat * 16 + j.toNat)), fun _ j _ => (16 - j).toNat, ⟨rfl, by omega, by omega, by simp⟩, ?_⟩
    rintro a j _ ⟨rfl, j0, j1, rfl⟩
    refine iteP_cases (fun hj => ?_) fun hj => ?_
    · have hle := hw.pg_le i j
      have hat := hw.at i0 hi j0 hj
      have ht : s.pg.take (i.toNat * 16 + (j + 1).toNat) = s.pg.take (i.toNat * 16 + j.toNat) ++ [pgOf s i j] := by
        rw [show i.toNat * 16 + (j + 1).toNat = (i.toNat * 16 + j.toNat) + 1 by omega, List.take_add_one]
        unfold ixOf at hat
        rw [hat]; rfl
      have hst := rcnt_step (x := x) (l := s.pg.take (i.toNat * 16 + j.toNat)) hle.1
      rw [← ht] at hst
      have hb := rcnt_le (x := x) (l := s.pg.take (i.toNat * 16 + j.toNat))
      have hl := hlen (i.toNat * 16 + j.toNat)
      have hmu : (16 - (j + 1)).toNat < (16 - j).toNat := by omega
      rw [wrap64 (x := j + 1) (by omega) (by omega), wrap64 (x := rcnt x (s.pg.take (i.toNat * 16 + j.toNat)) + 1) (by omega) (by omega)]
      refine ⟨i0, hi, j0, hj, _, ha.frm i0 hi j0 hj, iteP_nec (fun hc => ⟨i0, hi, j0, hj, _, ha.frm i0 hi j0 hj, ?_⟩) fun hc => ⟨⟨rfl, by omega, by omega, ?_⟩, hmu⟩⟩
      · have hf : frm (pgOf s i j) ≤ 64 ∧ 0 ≤ frm (pgOf s i j) := by unfold frm; split <;> omega
        rw [wrap64 (x := frm (pgOf s i j) - 1) (by omega) (by omega)]
        refine iteP_eqc (fun hx => ⟨⟨rfl, by omega, by omega, ?_⟩, hmu⟩) fun hx => ⟨⟨rfl, by omega, by omega, ?_⟩, hmu⟩
        · rw [hst, if_pos ⟨hc, hx⟩]
        · rw [hst, if_neg (fun e => hx e.2)]; omega
      · rw [hst, if_neg (fun e => e.1 hc)]; omega
    · rw [wrap64 (x := i + 1) (by omega) (by omega)]
      refine ⟨⟨rfl, by omega, by omega, ?_⟩, by show (6 - (i + 1)).toNat < (6 - i).toNat; omega⟩
      rw [show i.toNat * 16 + j.toNat = (i + 1).toNat * 16 by omega]
  · have e : s.pg.take (i.toNat * 16) = s.pg := by rw [List.take_of_length_le]; rw [hw.lp]; omega
    rw [e, rcnt_refS hw]; exact hK
end
end Go.Proofs.Ytmdhfmljgjnggaa
