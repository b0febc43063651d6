/- What the inner functions of package vm do. No condition. -/
import Derived.Test.YtmdhfmljgjnggaaCVm
namespace Go.Proofs.Ytmdhfmljgjnggaa
attribute [local irreducible] semWP

/-- The answer of 'fresh', of an address, of a page. -/
def freshE (s : VmS) (pid : Int) : Int := if pid < 0 ∨ 6 ≤ pid then 2 else if hasOf s pid then 6 else 0
def addrE (s : VmS) (pid addr : Int) : Int := if hasOf s pid = false then 5 else if addr < 0 ∨ 512 ≤ addr then 2 else if pgOf s pid (addr / 32) = -2 then 10 else 0
/-- The first frame in which no page lies. -/
def nextF (rf : List Int) (n : Nat) : Option Nat := (List.range n).find? fun f => rf[f]? == some 0

section
variable {h : Hp} {v m f sb : Nat} {sl : List (Int × Nat)} {rf : List Int} {s : VmS} {K : Value → Hp → Prop}
theorem VmAt.lookSpace (hv : VmAt h v m f sb sl rf s) (pid : Int) : RunsTo Try.prog (Instr.lookup T_m_int_vm_space (.map (some sb)) (.int .i64 pid) true) h (.tuple #[.map (lkp pid sl), .bool (hasOf s pid)]) := by
  have := runs_lookup (P := Try.prog) (t := T_m_int_vm_space) (kt := T_int) (et := T_N_vm_space) (n := pid) (by kernel_rfl) (by kernel_rfl) (by kernel_rfl) hv.sps true
  have e : lkp pid (sl.map fun p => (p.1, Value.map (some p.2))) = (lkp pid sl).map fun x => Value.map (some x) := lkp_map (fun x => Value.map (some x))
  rw [e, show zeroOf Try.prog T_N_vm_space = .map none by kernel_rfl] at this
  have hh := hv.has pid
  cases hx : lkp pid sl with
  | none => rw [hx] at this hh; simpa [← hh] using this
  | some r => rw [hx] at this hh; simpa [← hh] using this
theorem VmAt.hasT (hv : VmAt h v m f sb sl rf s) {pid : Int} (hh : hasOf s pid = true) : ∃ r, lkp pid sl = some r := by
  have := hv.has pid
  rw [hh] at this
  exact Option.isSome_iff_exists.1 this
theorem VmAt.hasF (hv : VmAt h v m f sb sl rf s) {pid : Int} (hh : hasOf s pid = false) : lkp pid sl = none := by
  have := hv.has pid
  rw [hh] at this
  simpa using this
theorem c_vm_of (hv : VmAt h v m f sb sl rf s) (pid : Int) (hbad : hasOf s pid = false → K (.tuple #[.map none, .int .i64 5]) h)
    (hok : ∀ r, hasOf s pid = true → lkp pid sl = some r → K (.tuple #[.map (some r), .int .i64 0]) h) : CallsH Try.prog f_vm_Vm_of #[.pointer (some ⟨v, 0, none⟩), .int .i64 pid] h K := by
  refine q_vm_Vm_of_calls v pid h K ?_
  unfold q_vm_Vm_of
  refine ⟨_, hv.c65, _, _, hv.lookSpace pid, ?_⟩
  refine iteP_split (fun hb => hbad (by simpa using hb)) fun hb => ?_
  have hb' : hasOf s pid = true := by simpa using hb
  obtain ⟨r, hr⟩ := hv.hasT hb'
  rw [hr]
  exact hok r hb' hr
theorem c_vm_fresh (hv : VmAt h v m f sb sl rf s) (pid : Int) (hK : K (.int .i64 (freshE s pid)) h) : CallsH Try.prog f_vm_Vm_fresh #[.pointer (some ⟨v, 0, none⟩), .int .i64 pid] h K := by
  refine q_vm_Vm_fresh_calls v pid h K ?_
  unfold q_vm_Vm_fresh
  unfold freshE at hK
  refine iteP_cases (fun h1 => ?_) fun h1 => iteP_cases (fun h2 => ?_) fun h2 => ?_
  · rw [if_pos (.inl h1)] at hK; exact hK
  · rw [if_pos (.inr h2)] at hK; exact hK
  · rw [if_neg (by omega)] at hK
    refine ⟨_, hv.c65, _, _, hv.lookSpace pid, ?_⟩
    cases hh : hasOf s pid with
    | true => rw [hh] at hK; exact hK
    | false => rw [hh] at hK; exact hK
theorem c_vm_alone (hv : VmAt h v m f sb sl rf s) (c : Int) (h1 : -1 ≤ c) (h2 : c < 64) (hK : K (.bool (c != -1 && (rf[c.toNat]?).getD 0 == 1)) h) : CallsH Try.prog f_vm_Vm_alone #[.pointer (some ⟨v, 0, none⟩), .int .i64 c] h K := by
  refine q_vm_Vm_alone_calls v c h K ?_
  unfold q_vm_Vm_alone
  refine iteP_nec (fun hc => ?_) fun hc => ?_
  · have hl : c.toNat < rf.length := by rw [hv.rl]; omega
    refine ⟨by omega, by omega, _, hv.ref (x := rf[c.toNat]) (by simp [hl]), ?_⟩
    have e : (c != -1) = true := by simpa using hc
    simpa [e, hl] using hK
  · subst hc; exact hK
theorem c_slices_Index {b o : Nat} {n c : Nat} {x : Int} {cs : Array Value} {e : TypeId} {fz : Nat × Nat} {vs : List Int} (hb : h[b]? = some (.cells cs e fz)) (hn : n < 9223372036854775807) (hvs : ∀ i, i < n → cs[o + i]? = (vs[i]?).map (.int .i64)) (hl : vs.length = n)
    (hK : K (.int .i64 (((List.range n).find? fun i => vs[i]? == some x).elim (-1) fun i => (i : Int))) h) : CallsH Try.prog f_slices_Index_int_int #[.slice (some ⟨b, o, none⟩) n c, .int .i64 x] h K := by
  refine q_slices_Index_int_int_calls _ n c x h K ?_
  unfold q_slices_Index_int_int
  refine ⟨fun i h' => h' = h ∧ 0 ≤ i ∧ i ≤ n ∧ ∀ j : Nat, (j : Int) < i → vs[j]? ≠ some x, fun i _ => ((n : Int) - i).toNat, ⟨rfl, by omega, by omega, by intro j hj; omega⟩, ?_⟩
  rintro i h' ⟨hh, h1, h2, h3⟩
  subst hh
  refine iteP_cases (fun h4 => ⟨h1, h4, ?_⟩) fun h4 => ?_
  · rw [wth_some, Addr.add_mk]
    have hi : i.toNat < vs.length := by rw [hl]; omega
    refine ⟨vs[i.toNat], ?_, ?_⟩
    · rw [cellAt_cells hb, show o + i.toNat * 1 = o + i.toNat by omega, hvs i.toNat (by omega)]
      simp [hi]
    · refine iteP_eqc (fun he => ?_) fun he => ?_
      · have hf : (List.range n).find? (fun j => vs[j]? == some x) = some i.toNat := by
          rw [List.find?_eq_some_iff_append]
          refine ⟨by simp [hi, he], List.range i.toNat, (List.range' (i.toNat + 1) (n - (i.toNat + 1))), ?_, ?_⟩
          · rw [List.range_eq_range', List.range_eq_range', show n = i.toNat + (n - i.toNat) by omega, ← List.range'_append_1]
            rw [show n - i.toNat = (n - (i.toNat + 1)) + 1 by omega, List.range'_succ]
            simp
            omega
          · intro j hj
            have hj' : j < i.toNat := by simpa using hj
            have := h3 j (by omega)
            simpa using this
        rw [hf] at hK
        rw [show i = ((i.toNat : Nat) : Int) by omega]
        exact hK
      · rw [wrap64 (by omega) (by omega)]
        refine ⟨⟨rfl, by omega, by omega, ?_⟩, by show ((n : Int) - (i + 1)).toNat < ((n : Int) - i).toNat; omega⟩
        intro j hj
        by_cases hji : (j : Int) < i
        · exact h3 j hji
        · have : j = i.toNat := by omega
          subst this
          simp only [List.getElem?_eq_getElem hi, ne_eq, Option.some.injEq]
          exact fun hx => he hx.symm
  · have hf : (List.range n).find? (fun j => vs[j]? == some x) = none := by
      rw [List.find?_eq_none]
      intro j hj
      have hj' : j < n := by simpa using hj
      have := h3 j (by omega)
      simpa using this
    rw [hf] at hK
    exact hK
theorem c_vm_next (hv : VmAt h v m f sb sl rf s) (hK : K (match nextF rf s.n with | some i => .tuple #[.int .i64 i, .bool true] | none => .tuple #[.int .i64 (-1), .bool false]) h) : CallsH Try.prog f_vm_Vm_next #[.pointer (some ⟨v, 0, none⟩)] h K := by
  refine q_vm_Vm_next_calls v h K ?_
  unfold q_vm_Vm_next
  refine ⟨_, hv.c0, c_mem_Size hv.mem ?_⟩
  have hp := hv.mem.pos
  have hle := hv.mem.le
  refine ⟨_, rfl, by omega, by omega, ?_⟩
  have e1 : (if 64 = 0 then (⟨v, 1, none⟩ : Addr) else (⟨v, 1, none⟩ : Addr).add (0 * 1)) = ⟨v, 1, none⟩ := rfl
  have e2 : (((s.n : Int)).toNat - 0) = s.n := by omega
  rw [e1, e2]
  refine c_slices_Index (vs := rf.take s.n) hv.vm (by omega) ?_ (by rw [List.length_take, hv.rl]; omega) ?_
  · intro i hi
    have : i < rf.length := by rw [hv.rl]; omega
    rw [List.getElem?_take, if_pos hi, show 1 + i = i + 1 by omega]
    simp [List.getElem?_append, this]
  · have e3 : (List.range s.n).find? (fun i => (rf.take s.n)[i]? == some 0) = nextF rf s.n := by
      unfold nextF
      apply find_congr
      intro i hi
      have hi' : i < s.n := by simpa using hi
      rw [List.getElem?_take, if_pos hi']
    rw [e3]
    cases hx : nextF rf s.n with
    | none => rw [hx] at hK; exact ⟨_, rfl, hK⟩
    | some i =>
      rw [hx] at hK
      refine ⟨_, rfl, ?_⟩
      have : decide ((i : Int) ≥ 0) = true := by simp
      simp only [Option.elim_some, this]
      exact hK
where
  find_congr {α : Type} {p q : α → Bool} {l : List α} (h : ∀ x ∈ l, p x = q x) : l.find? p = l.find? q := by
    induction l with
    | nil => rfl
    | cons a l ih => simp only [List.find?_cons, h a (by simp)]; rw [ih fun x hx => h x (by simp [hx])]
theorem c_vm_page (hv : VmAt h v m f sb sl rf s) (pid page : Int) (h5 : hasOf s pid = false → K (.tuple #[.map none, .bool false, .int .i64 5]) h) (h2 : hasOf s pid = true → (page < 0 ∨ 16 ≤ page) → K (.tuple #[.map none, .bool false, .int .i64 2]) h)
    (hok : ∀ r, hasOf s pid = true → lkp pid sl = some r → 0 ≤ page → page < 16 → K (.tuple #[.map (some r), .bool (pgOf s pid page != -2), .int .i64 0]) h) : CallsH Try.prog f_vm_Vm_page #[.pointer (some ⟨v, 0, none⟩), .int .i64 pid, .int .i64 page] h K := by
  refine q_vm_Vm_page_calls v pid page h K ?_
  unfold q_vm_Vm_page
  refine c_vm_of hv pid (fun hh => ⟨_, _, rfl, iteP_ne (by decide) (h5 hh)⟩) fun r hh hr => ⟨_, _, rfl, iteP_nne rfl ?_⟩
  refine iteP_cases (fun h1 => h2 hh (.inl h1)) fun h1 => iteP_cases (fun h3 => h2 hh (.inr h3)) fun h3 => ?_
  exact ⟨_, _, (hv.pages pid r hr).look2 page, hok r hh hr (by omega) (by omega)⟩
theorem tdiv32 {x : Int} (h1 : 0 ≤ x) (h2 : x < 512) : IntKind.wrap .i64 (Int.tdiv x 32) = x / 32 := by
  have : Int.tdiv x 32 = x / 32 := Int.tdiv_eq_ediv_of_nonneg h1
  rw [this]
  exact wrap64 (by omega) (by omega)
theorem tmod32 {x : Int} (h1 : 0 ≤ x) : Int.tmod x 32 = x % 32 := Int.tmod_eq_emod_of_nonneg h1
theorem c_vm_at (hv : VmAt h v m f sb sl rf s) (pid addr : Int) (hbad : addrE s pid addr ≠ 0 → K (.tuple #[.map none, .int .i64 (addrE s pid addr)]) h)
    (hok : ∀ r, hasOf s pid = true → lkp pid sl = some r → 0 ≤ addr → addr < 512 → pgOf s pid (addr / 32) ≠ -2 → K (.tuple #[.map (some r), .int .i64 0]) h) : CallsH Try.prog f_vm_Vm_at #[.pointer (some ⟨v, 0, none⟩), .int .i64 pid, .int .i64 addr] h K := by
  refine q_vm_Vm_at_calls v pid addr h K ?_
  unfold q_vm_Vm_at
  unfold addrE at hbad
  refine c_vm_of hv pid (fun hh => ⟨_, _, rfl, iteP_ne (by decide) ?_⟩) fun r hh hr => ⟨_, _, rfl, iteP_nne rfl ?_⟩
  · rw [if_pos hh] at hbad; exact hbad (by decide)
  rw [if_neg (by simp [hh])] at hbad
  refine iteP_cases (fun h1 => ?_) fun h1 => iteP_cases (fun h3 => ?_) fun h3 => ?_
  · rw [if_pos (.inl h1)] at hbad; exact hbad (by decide)
  · rw [if_pos (.inr h3)] at hbad; exact hbad (by decide)
  rw [if_neg (by omega)] at hbad
  rw [tdiv32 (by omega) (by omega)]
  refine c_vm_page hv pid (addr / 32) (fun h4 => by rw [hh] at h4; cases h4) (fun _ h4 => by omega) fun r' _ hr' h4 h5 => ?_
  rw [hr] at hr'
  cases hr'
  refine ⟨_, _, _, rfl, ?_⟩
  by_cases hp : pgOf s pid (addr / 32) = -2
  · rw [if_pos hp] at hbad
    refine iteP_t (by simp [hp]) (hbad (by decide))
  · exact iteP_f (by simpa using hp) (hok r hh hr (by omega) (by omega) hp)
end
end Go.Proofs.Ytmdhfmljgjnggaa
