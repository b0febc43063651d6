/- What Fill of package vm does. No condition. -/
import Derived.Test.YtmdhfmljgjnggaaCVm7
import Derived.Test.YtmdhfmljgjnggaaRd
namespace Go.Proofs.Ytmdhfmljgjnggaa
attribute [local irreducible] semWP
set_option linter.constructorNameAsVariable false
def aloneS (s : VmS) (pid page : Int) : Bool := pgOf s pid page != -1 && cnt (pgOf s pid page) s.pg == 1
/-- Of the pages from one on: how many lie in no frame of their own. -/
def needN (s : VmS) (pid p0 : Int) : Nat → Int
  | 0 => 0
  | k + 1 => needN s pid p0 k + if aloneS s pid (p0 + k) then 0 else 1
def mappedN (s : VmS) (pid p0 : Int) : Nat → Bool
  | 0 => true
  | k + 1 => mappedN s pid p0 k && pgOf s pid (p0 + k) != -2
def pokesS (s : VmS) (pid addr : Int) : List Int → VmS
  | [] => s
  | b :: bs => pokesS (pokeS s pid addr b).2 pid (addr + 1) bs
/-- How many pages some bytes meet. -/
def spanN (addr : Int) (n : Nat) : Nat := ((addr + n - 1) / 32 - addr / 32 + 1).toNat
def fillS (s : VmS) (pid addr : Int) (bs : List Int) : Int × VmS :=
  if hasOf s pid = false then (5, s) else if addr < 0 ∨ 512 ≤ addr ∨ 512 - addr < bs.length then (2, s) else if bs.length = 0 then (0, s) else
  if mappedN s pid (addr / 32) (spanN addr bs.length) = false then (10, s) else if leftS s < needN s pid (addr / 32) (spanN addr bs.length) then (4, s) else (0, pokesS s pid addr bs)
theorem needN_le (s : VmS) (pid p0 : Int) : ∀ k : Nat, 0 ≤ needN s pid p0 k ∧ needN s pid p0 k ≤ k := by
  intro k
  induction k with
  | zero => simp [needN]
  | succ k ih => simp only [needN]; split <;> omega
theorem mappedN_false {s : VmS} {pid p0 : Int} {j : Nat} (hj : pgOf s pid (p0 + j) = -2) : ∀ {k : Nat}, j < k → mappedN s pid p0 k = false := by
  intro k
  induction k with
  | zero => intro h; omega
  | succ k ih =>
    intro h
    simp only [mappedN]
    by_cases hk : j = k
    · subst hk; simp [hj]
    · rw [ih (by omega)]; rfl
theorem pokesS_append (s : VmS) (pid addr : Int) : ∀ (bs : List Int) (b : Int), pokesS s pid addr (bs ++ [b]) = (pokeS (pokesS s pid addr bs) pid (addr + bs.length) b).2 := by
  intro bs
  induction bs generalizing s addr with
  | nil => intro b; simp [pokesS]
  | cons c bs ih =>
    intro b
    simp only [List.cons_append, pokesS]
    rw [ih]
    congr 2
    simp only [List.length_cons]
    omega
section
variable {h : Hp} {v : Nat} {s : VmS} {K : Value → Hp → Prop} {F : List Nat}
theorem c_vm_alone' (hv : VmRep h v s F) {pid page : Int} (hp : pgOf s pid page ≠ -2) (hK : K (.bool (aloneS s pid page)) h) : CallsH Try.prog f_vm_Vm_alone #[.pointer (some ⟨v, 0, none⟩), .int .i64 (pgOf s pid page)] h K := by
  obtain ⟨m, f, sb, sl, rfl, hv, hw⟩ := hv
  have hle := hw.pg_le pid page
  have h64 := hw.le
  refine c_vm_alone hv _ (by omega) (by omega) ?_
  unfold aloneS at hK
  by_cases hc : pgOf s pid page = -1
  · simpa [hc] using hK
  · have hg := refsOf_get (pg := s.pg) (f := (pgOf s pid page).toNat) (by omega)
    rw [show (((pgOf s pid page).toNat : Nat) : Int) = pgOf s pid page by omega] at hg
    rw [hg]
    exact hK
theorem VmRep.space (hv : VmRep h v s F) {pid : Int} {r : Nat} (hr : ∃ m f sb sl, F = foot v m f sb sl ∧ VmAt h v m f sb sl (refsOf s.pg) s ∧ lkp pid sl = some r) (page : Int) :
    RunsTo Try.prog (Instr.lookup T_N_vm_space (.map (some r)) (.int .i64 page) true) h (.tuple #[.int .i64 (if pgOf s pid page = -2 then 0 else pgOf s pid page), .bool (pgOf s pid page != -2)]) := by
  obtain ⟨m, f, sb, sl, _, hva, hl⟩ := hr
  exact (hva.pages pid r hl).look2 page
set_option maxHeartbeats 1000000 in
theorem c_vm_Fill (hv : VmRep h v s F) (pid addr : Int) {p : Option Addr} {n c B : Nat} {bs : List Int} (hs : RdAt h p (bs.map (.int .u8)) B) (hbn : bs.length = n) (hB : B ≤ h.size) (hG : ∀ q ∈ F, B ≤ q)
    (hK : ∀ h' F', VmRep h' v (fillS s pid addr bs).2 F' → Step h h' F F' → K (.int .i64 (fillS s pid addr bs).1) h') :
    CallsH Try.prog f_vm_Vm_Fill #[.pointer (some ⟨v, 0, none⟩), .int .i64 pid, .int .i64 addr, .slice p n c] h K := by
  have hv0 := hv
  obtain ⟨m, f, sb, sl, rfl, hva, hw⟩ := hv
  refine q_vm_Vm_Fill_calls v pid addr p n c h K ?_
  unfold q_vm_Vm_Fill
  unfold fillS at hK
  rw [hbn] at hK
  refine c_vm_of hva pid (fun hh => ⟨_, _, rfl, iteP_ne (by decide) ?_⟩) fun r hh hr => ⟨_, _, rfl, iteP_nne rfl ?_⟩
  · rw [if_pos hh] at hK; exact hK h _ hv0 (Step.refl _ _)
  rw [if_neg (by simp [hh])] at hK
  have hbad : (addr < 0 ∨ 512 ≤ addr ∨ 512 - addr < n) → K (.int .i64 2) h := fun hx => by
    rw [if_pos hx] at hK; exact hK h _ hv0 (Step.refl _ _)
  refine iteP_cases (fun h1 => hbad (.inl h1)) fun h1 => iteP_cases (fun h2 => hbad (.inr (.inl h2))) fun h2 => ?_
  rw [wrap64 (x := 512 - addr) (by omega) (by omega)]
  refine iteP_cases (fun h3 => hbad (.inr (.inr h3))) fun h3 => ?_
  rw [if_neg (by omega)] at hK
  refine iteP_eqc (fun h4 => ?_) fun h4 => ?_
  · rw [if_pos (by omega)] at hK; exact hK h _ hv0 (Step.refl _ _)
  rw [if_neg (by omega)] at hK
  have ed : IntKind.wrap .i64 (Int.tdiv addr 32) = addr / 32 := tdiv32 (by omega) (by omega)
  have ee : IntKind.wrap .i64 (Int.tdiv (IntKind.wrap .i64 ((IntKind.wrap .i64 (addr + (n : Int))) - 1)) 32) = (addr + n - 1) / 32 := by
    rw [wrap64 (x := addr + (n : Int)) (by omega) (by omega), wrap64 (x := addr + (n : Int) - 1) (by omega) (by omega)]
    exact tdiv32 (by omega) (by omega)
  rw [ed, ee]
  have hsp : (spanN addr n : Int) = (addr + n - 1) / 32 - addr / 32 + 1 := by unfold spanN; omega
  generalize hq0 : addr / 32 = q0 at *
  generalize hq1 : (addr + (n : Int) - 1) / 32 = q1 at *
  have hb0 : 0 ≤ q0 := by omega
  have hb1 : q1 < 16 := by omega
  refine ⟨fun a i h' => h = h' ∧ q0 ≤ i ∧ i ≤ q1 + 1 ∧ a = needN s pid q0 (i - q0).toNat ∧ mappedN s pid q0 (i - q0).toNat = true, fun _ i _ => (q1 + 1 - i).toNat, ⟨rfl, by omega, by omega, by simp [needN], by simp [mappedN]⟩, ?_⟩
  rintro a i _ ⟨rfl, i0, i1, rfl, hmp⟩
  have hnl := needN_le s pid q0 (i - q0).toNat
  refine iteP_cases (fun hi => ?_) fun hi => ?_
  · have hstep : (i + 1 - q0).toNat = (i - q0).toNat + 1 := by omega
    have hpi : q0 + (((i - q0).toNat : Nat) : Int) = i := by omega
    refine ⟨_, _, hv0.space ⟨m, f, sb, sl, rfl, hva, hr⟩ i, ?_⟩
    by_cases hp : pgOf s pid i = -2
    · refine iteP_t (by simp [hp]) ?_
      have := mappedN_false (s := s) (pid := pid) (p0 := q0) (j := (i - q0).toNat) (by rw [hpi]; exact hp) (k := spanN addr n) (by omega)
      rw [if_pos this] at hK
      exact hK h _ hv0 (Step.refl _ _)
    · refine iteP_f (by simpa using hp) ?_
      rw [if_neg hp]
      have hm2 : mappedN s pid q0 (i + 1 - q0).toNat = true := by
        rw [hstep]; simp only [mappedN, hmp, hpi]; simpa using hp
      refine c_vm_alone' hv0 hp ⟨_, rfl, ?_⟩
      rw [wrap64 (x := i + 1) (by omega) (by omega), wrap64 (x := needN s pid q0 (i - q0).toNat + 1) (by omega) (by omega)]
      have hmu : (q1 + 1 - (i + 1)).toNat < (q1 + 1 - i).toNat := by omega
      refine iteP_split (fun ha => ⟨⟨rfl, by omega, by omega, ?_, hm2⟩, hmu⟩) fun ha => ⟨⟨rfl, by omega, by omega, ?_, hm2⟩, hmu⟩
      · rw [hstep]; simp only [needN, hpi]
        rw [if_neg (by simpa using ha)]
      · rw [hstep]; simp only [needN, hpi]
        rw [if_pos (by simpa using ha)]; omega
  · have hk : (i - q0).toNat = spanN addr n := by omega
    rw [hk] at hmp ⊢
    rw [if_neg (by simp [hmp])] at hK
    refine c_vm_Left hv0 ⟨_, rfl, iteP_cases (fun hl => ?_) fun hl => ?_⟩
    · rw [if_pos hl] at hK; exact hK h _ hv0 (Step.refl _ _)
    rw [if_neg hl] at hK
    refine ⟨fun j hc => ∃ F', 0 ≤ j ∧ j ≤ n ∧ VmRep hc v (pokesS s pid addr (bs.take j.toNat)) F' ∧ Step h hc (foot v m f sb sl) F', fun j _ => ((n : Int) - j).toNat, ⟨_, by omega, by omega, hv0, Step.refl _ _⟩, ?_⟩
    rintro j hc ⟨F', j0, j1, hvc, stc⟩
    refine iteP_cases (fun hj => ⟨j0, hj, ?_⟩) fun hj => ?_
    · have hjl : j.toNat < bs.length := by omega
      obtain ⟨a, rfl, ha, hcell⟩ := hs.low (Low.step stc hB hG) j.toNat (.int .u8 bs[j.toNat]) (by rw [List.getElem?_map, List.getElem?_eq_getElem hjl]; rfl)
      rw [wth_some, Nat.mul_one]
      refine ⟨_, hcell, ?_⟩
      rw [wrap64 (x := addr + j) (by omega) (by omega), wrap64 (x := j + 1) (by omega) (by omega)]
      refine c_vm_Poke hvc pid (addr + j) _ fun h5 F5 v5 st5 => ⟨_, rfl, ⟨F5, by omega, by omega, ?_, stc.trans st5⟩, by show ((n : Int) - (j + 1)).toNat < ((n : Int) - j).toNat; omega⟩
      have e : bs.take (j + 1).toNat = bs.take j.toNat ++ [bs[j.toNat]] := by
        rw [show (j + 1).toNat = j.toNat + 1 by omega, List.take_add_one, List.getElem?_eq_getElem hjl]; rfl
      rw [e, pokesS_append, List.length_take, Nat.min_eq_left (by omega), show ((j.toNat : Nat) : Int) = j by omega]
      exact v5
    · have : bs.take j.toNat = bs := by rw [List.take_of_length_le]; omega
      rw [this] at hvc
      exact hK hc F' hvc stc
end
end Go.Proofs.Ytmdhfmljgjnggaa
