/- The reference of vm: its block's cells, and what its small functions do. No condition. -/
import Derived.Test.YtmdhfmljgjnggaaCRef06
namespace Go.Proofs.Ytmdhfmljgjnggaa
attribute [local irreducible] semWP
set_option linter.constructorNameAsVariable false
def frm (c : Int) : Int := if c < 0 then 0 else c + 1
def refCell (s : VmS) (m : Nat) (i : Nat) : Option Value :=
  if i = 0 then some (.pointer (some ⟨m, 0, none⟩))
  else if i < 7 then some (.bool (hasOf s ((i - 1 : Nat) : Int)))
  else if i < 199 then (if (i - 7) % 2 = 0 then some (.bool (pgOf s (((i - 7) / 32 : Nat) : Int) (((i - 7) % 32 / 2 : Nat) : Int) != -2)) else some (.int .i64 (frm (pgOf s (((i - 7) / 32 : Nat) : Int) (((i - 7) % 32 / 2 : Nat) : Int)))))
  else if i = 199 then some (.int .i64 s.cp) else none
/-- A block's cells as a function. -/
def RawAt (h : Hp) (r : Nat) (g : Nat → Option Value) : Prop := ∃ cs, h[r]? = some (.cells cs T_N_ref19_Vm (0, 0)) ∧ ∀ i : Nat, cs[i]? = g i
structure RefAt (h : Hp) (r m f : Nat) (s : VmS) : Prop where
  vm : RawAt h r (refCell s m)
  mem : MrAt h m f s.n s.b
def RefRep (h : Hp) (r : Nat) (s : VmS) (F : List Nat) : Prop := ∃ m f, F = [r, m, f] ∧ RefAt h r m f s ∧ Wf s
section
variable {h h' : Hp} {r m f : Nat} {s : VmS} {K : Value → Hp → Prop} {F : List Nat} {g : Nat → Option Value}
theorem RawAt.cell (ha : RawAt h r g) (o : Nat) : cellAt h ⟨r, o, none⟩ = g o := by
  obtain ⟨cs, h1, h2⟩ := ha
  rw [cellAt_cells h1, h2]
theorem RawAt.fz (ha : RawAt h r g) (o : Nat) : frozenAt h ⟨r, o, none⟩ = false := by
  obtain ⟨cs, h1, _⟩ := ha
  exact frozenAt_cells h1
theorem RawAt.put (ha : RawAt h r g) {o : Nat} {v old : Value} (ho : g o = some old) : RawAt (setH h ⟨r, o, none⟩ v) r (fun i => if i = o then some v else g i) := by
  obtain ⟨cs, h1, h2⟩ := ha
  refine ⟨_, setH_same h1, fun i => ?_⟩
  rw [Array.getElem?_setIfInBounds]
  have hlt : o < cs.size := by
    have := h2 o
    rw [ho] at this
    exact (Array.getElem?_eq_some_iff.1 this).1
  by_cases hi : o = i
  · subst hi; rw [if_pos rfl, if_pos hlt]; simp
  · rw [if_neg hi]
    show _ = if i = o then some v else g i
    rw [if_neg (show ¬ i = o from fun e => hi e.symm), h2]
theorem RawAt.congr (ha : RawAt h r g) (he : h'[r]? = h[r]?) : RawAt h' r g := by
  obtain ⟨cs, h1, h2⟩ := ha; exact ⟨cs, by rw [he]; exact h1, h2⟩
theorem RawAt.ext {g' : Nat → Option Value} (ha : RawAt h r g) (he : ∀ i, g i = g' i) : RawAt h r g' := by
  obtain ⟨cs, h1, h2⟩ := ha; exact ⟨cs, h1, fun i => by rw [h2, he]⟩
theorem RefAt.ne (ha : RefAt h r m f s) : r ≠ m ∧ r ≠ f ∧ m ≠ f := by
  obtain ⟨cs, h1, _⟩ := ha.vm
  exact ⟨ne_cells h1 ha.mem.mem (by decide), ne_cells h1 ha.mem.fr (by decide), ha.mem.ne⟩
theorem RefAt.lt (ha : RefAt h r m f s) : r < h.size ∧ m < h.size ∧ f < h.size := by
  obtain ⟨cs, h1, _⟩ := ha.vm
  exact ⟨lt_of_at h1, lt_of_at ha.mem.mem, lt_of_at ha.mem.fr⟩
theorem RefAt.congr (ha : RefAt h r m f s) (he : ∀ q ∈ [r, m, f], h'[q]? = h[q]?) : RefAt h' r m f s :=
  ⟨ha.vm.congr (he r (by simp)), ha.mem.congr (he m (by simp)) (he f (by simp))⟩
theorem RefRep.congr (hv : RefRep h r s F) (he : ∀ q ∈ F, h'[q]? = h[q]?) : RefRep h' r s F := by
  obtain ⟨m, f, rfl, h1, h2⟩ := hv
  exact ⟨m, f, rfl, h1.congr he, h2⟩
theorem RefRep.lt (hv : RefRep h r s F) : ∀ q ∈ F, q < h.size := by
  obtain ⟨m, f, rfl, h1, h2⟩ := hv
  obtain ⟨a, b, c⟩ := h1.lt
  intro q hq
  simp only [List.mem_cons, List.not_mem_nil, or_false] at hq
  rcases hq with rfl | rfl | rfl <;> assumption
theorem rc_has {pid : Int} (h1 : 0 ≤ pid) (h2 : pid < 6) : refCell s m (1 + pid.toNat) = some (.bool (hasOf s pid)) := by
  unfold refCell
  rw [if_neg (by omega), if_pos (by omega), show ((1 + pid.toNat - 1 : Nat) : Int) = pid by omega]
theorem rc_idx {pid page : Int} (h1 : 0 ≤ pid) (h3 : 0 ≤ page) (h4 : page < 16) (k : Nat) (hk : k < 2) :
    (((7 + pid.toNat * 32 + page.toNat * 2 + k - 7) / 32 : Nat) : Int) = pid ∧ (((7 + pid.toNat * 32 + page.toNat * 2 + k - 7) % 32 / 2 : Nat) : Int) = page := by
  constructor <;> omega
theorem rc_map {pid page : Int} (h1 : 0 ≤ pid) (h2 : pid < 6) (h3 : 0 ≤ page) (h4 : page < 16) : refCell s m (7 + pid.toNat * 32 + page.toNat * 2) = some (.bool (pgOf s pid page != -2)) := by
  unfold refCell
  obtain ⟨e1, e2⟩ := rc_idx (pid := pid) (page := page) h1 h3 h4 0 (by omega)
  rw [Nat.add_zero] at e1 e2
  rw [if_neg (by omega), if_neg (by omega), if_pos (by omega), if_pos (by omega), e1, e2]
theorem rc_frm {pid page : Int} (h1 : 0 ≤ pid) (h2 : pid < 6) (h3 : 0 ≤ page) (h4 : page < 16) : refCell s m (7 + pid.toNat * 32 + page.toNat * 2 + 1) = some (.int .i64 (frm (pgOf s pid page))) := by
  unfold refCell
  obtain ⟨e1, e2⟩ := rc_idx (pid := pid) (page := page) h1 h3 h4 1 (by omega)
  rw [if_neg (by omega), if_neg (by omega), if_pos (by omega), if_neg (by omega), e1, e2]
theorem RefAt.has (ha : RefAt h r m f s) {pid : Int} (h1 : 0 ≤ pid) (h2 : pid < 6) : cellAt h ((⟨r, 1, none⟩ : Addr).add (Int.toNat pid * 1)) = some (.bool (hasOf s pid)) := by
  rw [Addr.add_mk, ha.vm.cell, Nat.mul_one, rc_has h1 h2]
theorem RefAt.map (ha : RefAt h r m f s) {pid page : Int} (h1 : 0 ≤ pid) (h2 : pid < 6) (h3 : 0 ≤ page) (h4 : page < 16) : cellAt h (((⟨r, 7, none⟩ : Addr).add (Int.toNat pid * 32)).add (Int.toNat page * 2)) = some (.bool (pgOf s pid page != -2)) := by
  rw [Addr.add_mk, Addr.add_mk, ha.vm.cell, rc_map h1 h2 h3 h4]
theorem RefAt.frm (ha : RefAt h r m f s) {pid page : Int} (h1 : 0 ≤ pid) (h2 : pid < 6) (h3 : 0 ≤ page) (h4 : page < 16) : cellAt h ((((⟨r, 7, none⟩ : Addr).add (Int.toNat pid * 32)).add (Int.toNat page * 2)).add 1) = some (.int .i64 (frm (pgOf s pid page))) := by
  rw [Addr.add_mk, Addr.add_mk, Addr.add_mk, ha.vm.cell, rc_frm h1 h2 h3 h4]
theorem RefAt.c0 (ha : RefAt h r m f s) : cellAt h ⟨r, 0, none⟩ = some (.pointer (some ⟨m, 0, none⟩)) := by rw [ha.vm.cell]; rfl
theorem RefAt.c199 (ha : RefAt h r m f s) : cellAt h ⟨r, 199, none⟩ = some (.int .i64 s.cp) := by rw [ha.vm.cell]; rfl
theorem r_vmay (ha : RefAt h r m f s) (pid : Int) (hK : K (.int .i64 (if hasOf s pid = false then 5 else 0)) h) : CallsH Try.prog f_ref19_Vm_may #[.pointer (some ⟨r, 0, none⟩), .int .i64 pid] h K := by
  refine q_ref19_Vm_may_calls r pid h K ?_
  unfold q_ref19_Vm_may
  have hout : ¬ (0 ≤ pid ∧ pid < 6) → K (.int .i64 5) h := fun hx => by
    rw [if_pos (by unfold hasOf; rw [if_neg hx])] at hK; exact hK
  refine iteP_cases (fun h1 => hout (by omega)) fun h1 => iteP_cases (fun h2 => hout (by omega)) fun h2 => ⟨by omega, by omega, _, ha.has (by omega) (by omega), ?_⟩
  cases hh : hasOf s pid with
  | true => rw [hh] at hK; exact hK
  | false => rw [hh] at hK; exact hK
theorem r_vfresh (ha : RefAt h r m f s) (pid : Int) (hK : K (.int .i64 (freshE s pid)) h) : CallsH Try.prog f_ref19_Vm_fresh #[.pointer (some ⟨r, 0, none⟩), .int .i64 pid] h K := by
  refine q_ref19_Vm_fresh_calls r pid h K ?_
  unfold q_ref19_Vm_fresh
  unfold freshE at hK
  refine iteP_cases (fun h1 => ?_) fun h1 => iteP_cases (fun h2 => ?_) fun h2 => ⟨by omega, by omega, _, ha.has (by omega) (by omega), ?_⟩
  · rw [if_pos (.inl h1)] at hK; exact hK
  · rw [if_pos (.inr h2)] at hK; exact hK
  · rw [if_neg (by omega)] at hK
    cases hh : hasOf s pid with
    | true => rw [hh] at hK; exact hK
    | false => rw [hh] at hK; exact hK
end
end Go.Proofs.Ytmdhfmljgjnggaa
