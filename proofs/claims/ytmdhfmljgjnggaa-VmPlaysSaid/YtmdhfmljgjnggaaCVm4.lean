/- What New, Begin, Map, Unmap, Peek, Poke, Copies, Left, Refs and Frame of package vm do. No condition. -/
import Derived.Test.YtmdhfmljgjnggaaCVm3
namespace Go.Proofs.Ytmdhfmljgjnggaa
attribute [local irreducible] semWP

/-- Block v is such a memory of processes; the blocks F are its own. -/
def VmRep (h : Hp) (v : Nat) (s : VmS) (F : List Nat) : Prop := ∃ m f sb sl, F = foot v m f sb sl ∧ VmAt h v m f sb sl (refsOf s.pg) s ∧ Wf s
theorem VmRep.congr {h h' : Hp} {v : Nat} {s : VmS} {F : List Nat} (hv : VmRep h v s F) (he : ∀ r ∈ F, h'[r]? = h[r]?) : VmRep h' v s F := by
  obtain ⟨m, f, sb, sl, rfl, h1, h2⟩ := hv
  exact ⟨m, f, sb, sl, rfl, h1.congr he, h2⟩
theorem VmRep.lt {h : Hp} {v : Nat} {s : VmS} {F : List Nat} (hv : VmRep h v s F) : ∀ r ∈ F, r < h.size := by
  obtain ⟨m, f, sb, sl, rfl, h1, h2⟩ := hv
  exact h1.lt
theorem VmRep.ext {h h' : Hp} {v : Nat} {s : VmS} {F : List Nat} (hv : VmRep h v s F) (he : Ext h h') : VmRep h' v s F :=
  hv.congr fun r hr => he.frame r (hv.lt r hr) (by simp)
theorem VmRep.wf {h : Hp} {v : Nat} {s : VmS} {F : List Nat} (hv : VmRep h v s F) : Wf s := by
  obtain ⟨m, f, sb, sl, rfl, h1, h2⟩ := hv; exact h2

def newS (n : Nat) : VmS := { n := n, b := List.replicate (n * 32) 0, has := List.replicate 6 false, pg := List.replicate 96 (-2), cp := 0 }
def beginS (s : VmS) (pid : Int) : Int × VmS := if freshE s pid = 0 then (0, { s with has := s.has.set pid.toNat true }) else (freshE s pid, s)
def pageE (s : VmS) (pid page : Int) : Int := if hasOf s pid = false then 5 else if page < 0 ∨ 16 ≤ page then 2 else 0
def mapS (s : VmS) (pid page : Int) : Int × VmS := if pageE s pid page ≠ 0 then (pageE s pid page, s) else if pgOf s pid page ≠ -2 then (6, s) else (0, setPg s pid page (-1))
def unmapS (s : VmS) (pid page : Int) : Int × VmS := if pageE s pid page ≠ 0 then (pageE s pid page, s) else if pgOf s pid page = -2 then (10, s) else (0, setPg s pid page (-2))
def peekS (s : VmS) (pid addr : Int) : Int × Int :=
  if addrE s pid addr ≠ 0 then (0, addrE s pid addr) else if pgOf s pid (addr / 32) = -1 then (0, 0) else (byteAt s.b (pgOf s pid (addr / 32)) (addr % 32), 0)
def pokeS (s : VmS) (pid addr c : Int) : Int × VmS :=
  if addrE s pid addr ≠ 0 then (addrE s pid addr, s) else match ownS s pid (addr / 32) with
  | none => (4, s)
  | some s' => (0, { s' with b := s'.b.set (pgOf s' pid (addr / 32) * 32 + addr % 32).toNat c })
def leftL (rf : List Int) : Nat → Int
  | 0 => 0
  | n + 1 => leftL rf n + if (rf[n]?).getD 0 = 0 then 1 else 0
def leftS (s : VmS) : Int := leftL (refsOf s.pg) s.n
def refS (s : VmS) (f : Int) : Int := if f < 0 ∨ 64 ≤ f then 0 else cnt f s.pg
def frameS (s : VmS) (pid page : Int) : Int × Bool := if pgOf s pid page = -2 ∨ pgOf s pid page = -1 then (0, false) else (pgOf s pid page, true)

theorem hasOf_set {s : VmS} {pid q : Int} {x : Bool} (hw : s.has.length = 6) (h1 : 0 ≤ pid) (h2 : pid < 6) : hasOf { s with has := s.has.set pid.toNat x } q = if q = pid then x else hasOf s q := by
  unfold hasOf
  by_cases hr : 0 ≤ q ∧ q < 6
  · rw [if_pos hr, if_pos hr, List.getElem?_set]
    by_cases he : q = pid
    · subst he
      have : q.toNat < s.has.length := by rw [hw]; omega
      simp [this]
    · rw [if_neg he, if_neg (by omega)]
  · rw [if_neg hr, if_neg hr, if_neg (by omega)]
theorem freshE_ok {s : VmS} {pid : Int} (h : freshE s pid = 0) : 0 ≤ pid ∧ pid < 6 ∧ hasOf s pid = false := by
  unfold freshE at h
  split at h
  · cases h
  · split at h
    · cases h
    · rename_i h1 h2
      exact ⟨by omega, by omega, by simpa using h2⟩
theorem upd_new {α : Type} {n : Int} {x : α} {l : List (Int × α)} (h : lkp n l = none) : upd n x l = l ++ [(n, x)] := by
  induction l with
  | nil => rfl
  | cons p l ih =>
    obtain ⟨m, u⟩ := p
    simp only [lkp] at h
    split at h
    · cases h
    · rename_i hne
      simp only [upd, if_neg hne, ih h]; rfl
section
variable {h h' : Hp} {v m f sb : Nat} {sl : List (Int × Nat)} {rf : List Int} {s : VmS} {K : Value → Hp → Prop} {F : List Nat}
/-- A space is added, whose map is block blk. -/
theorem VmAt.add (hv : VmAt h v m f sb sl rf s) {s' : VmS} {pid : Int} {blk : Nat} (hb : h.size ≤ blk) (hh : hasOf s pid = false) (hk : ∀ r ∈ foot v m f sb sl, r ≠ sb → h'[r]? = h[r]?)
    (hm : MapAt .i64 h' sb (upd pid (.map (some blk)) (sl.map fun p => (p.1, .map (some p.2))))) (hp : PgAt h' blk (pgOf s' pid)) (ho : ∀ q page, q ≠ pid → pgOf s' q page = pgOf s q page) (hs : ∀ q, hasOf s' q = if q = pid then true else hasOf s q) (h1 : s'.n = s.n) (h2 : s'.b = s.b) (h3 : s'.cp = s.cp) :
    VmAt h' v m f sb (sl ++ [(pid, blk)]) rf s' := by
  obtain ⟨_, _, _, h4, h5, h6, h7⟩ := hv.vm_ne
  have hnone := hv.hasF hh
  have hu : upd pid blk sl = sl ++ [(pid, blk)] := upd_new hnone
  have hblk : blk ∉ sl.map (·.2) := fun hx => by
    have := hv.lt blk (by simp only [foot, List.mem_cons]; exact .inr (.inr (.inr (.inr hx))))
    omega
  refine ⟨by rw [hk v foot_v (Ne.symm h4), h3]; exact hv.vm, hv.rl, ?_, ?_, fun q r hr => ?_, fun q => ?_, ?_⟩
  · rw [h1, h2]
    exact hv.mem.congr (hk m (by simp [foot]) (Ne.symm h5)) (hk f foot_f (Ne.symm h6))
  · have e : upd pid (Value.map (some blk)) (sl.map fun p => (p.1, Value.map (some p.2))) = (upd pid blk sl).map fun p => (p.1, Value.map (some p.2)) := upd_map (fun x => Value.map (some x))
    rw [e, hu] at hm
    exact hm
  · rw [← hu, lkp_upd] at hr
    by_cases hq : q = pid
    · rw [if_pos hq] at hr; cases hr; rw [hq]; exact hp
    · rw [if_neg hq] at hr
      exact ((hv.pages q r hr).congr (hk r (foot_r hr) (h7 r (lkp_snd hr)).2.2.2)).ext fun page => (ho q page hq).symm
  · rw [← hu, lkp_upd, hs]
    by_cases hq : q = pid
    · rw [if_pos hq, if_pos hq]; rfl
    · rw [if_neg hq, if_neg hq]; exact hv.has q
  · have hnd := hv.nd
    rw [List.nodup_cons] at hnd
    rw [List.map_append, List.nodup_cons, List.nodup_append]
    refine ⟨?_, hnd.2, by simp, ?_⟩
    · simp only [List.mem_append, List.map_cons, List.map_nil, List.mem_singleton, not_or]
      refine ⟨hnd.1, ?_⟩
      rintro rfl
      have := hv.lt sb foot_sb
      omega
    · intro a ha b hb2
      simp only [List.map_cons, List.map_nil, List.mem_singleton] at hb2
      subst hb2
      rintro rfl
      exact hblk ha
theorem c_vm_Begin (hv : VmRep h v s F) (pid : Int) (hK : ∀ h' F', VmRep h' v (beginS s pid).2 F' → Step h h' F F' → K (.int .i64 (beginS s pid).1) h') :
    CallsH Try.prog f_vm_Vm_Begin #[.pointer (some ⟨v, 0, none⟩), .int .i64 pid] h K := by
  have hv0 := hv
  obtain ⟨m, f, sb, sl, rfl, hv, hw⟩ := hv
  refine q_vm_Vm_Begin_calls v pid h K ?_
  unfold q_vm_Vm_Begin
  unfold beginS at hK
  refine c_vm_fresh hv pid ⟨_, rfl, iteP_eqc (fun he => ?_) fun he => ?_⟩
  · rw [if_pos he] at hK
    obtain ⟨h1, h2, h3⟩ := freshE_ok he
    refine ⟨_, hv.c65, letH_iff.2 ?_⟩
    have hpush : ∀ r ∈ foot v m f sb sl, (h.push (.map #[] 0))[r]? = h[r]? := fun r hr => push_old (hv.lt r hr)
    have hv1 := hv.congr hpush
    refine semWP_mapUpdate (kt := T_int) (et := T_N_vm_space) (by kernel_rfl) (by kernel_rfl) hv1.sps fun h' m1 st1 z1 => ?_
    rw [he]
    have hblk : h.size ≠ sb := by have := hv.lt sb foot_sb; omega
    have hnew : PgAt h' h.size (fun _ => -2) := by
      have e : h'[h.size]? = (h.push (.map #[] 0))[h.size]? := st1.frame _ (by simp) (by simpa using hblk)
      exact ⟨[], (MapAt.new .i64 h).congr e, fun page => by simp [lkp]⟩
    have hv2 : VmAt h' v m f sb (sl ++ [(pid, h.size)]) (refsOf s.pg) { s with has := s.has.set pid.toNat true } := by
      refine hv.add (Nat.le_refl _) h3 (fun r hr hn => ?_) m1 (hnew.ext fun page => ?_) (fun q page hq => pgOf_congr rfl q page) (fun q => hasOf_set hw.lh h1 h2) rfl rfl rfl
      · rw [st1.frame r (by have := hv.lt r hr; simp; omega) (by simpa using hn), hpush r hr]
      · exact (hw.off pid page h3).symm.trans (pgOf_congr (by rfl) pid page)
    refine hK h' _ ⟨m, f, sb, _, rfl, hv2, ?_⟩ ?_
    · refine ⟨by simp [hw.lh], hw.lp, hw.pgs, fun q page hq => ?_, hw.le⟩
      rw [hasOf_set hw.lh h1 h2] at hq
      by_cases hqp : q = pid
      · rw [if_pos hqp] at hq; cases hq
      · rw [if_neg hqp] at hq; exact (pgOf_congr (by rfl) q page).trans (hw.off q page hq)
    · have := (Step.push (h := h) (o := .map #[] 0) (F := foot v m f sb sl)).trans (st1.in1 (F := h.size :: foot v m f sb sl) (by simp [foot]))
      refine this.mono (fun _ hr => hr) fun r hr => ?_
      simp only [foot, List.map_append, List.mem_cons, List.mem_append, List.map_cons, List.map_nil, List.mem_singleton] at hr ⊢
      left
      rcases hr with h4 | h4 | h4 | h4 | h4 | h4 | h4 <;> first | (simp [h4]; done) | (simp at h4)
  · rw [if_neg he] at hK
    exact hK h _ hv0 (Step.refl _ _)
theorem c_vm_Map (hv : VmRep h v s F) (pid page : Int) (hK : ∀ h' F', VmRep h' v (mapS s pid page).2 F' → Step h h' F F' → K (.int .i64 (mapS s pid page).1) h') :
    CallsH Try.prog f_vm_Vm_Map #[.pointer (some ⟨v, 0, none⟩), .int .i64 pid, .int .i64 page] h K := by
  have hv0 := hv
  obtain ⟨m, f, sb, sl, rfl, hv, hw⟩ := hv
  refine q_vm_Vm_Map_calls v pid page h K ?_
  unfold q_vm_Vm_Map
  unfold mapS at hK
  refine c_vm_page hv pid page (fun hh => ⟨_, _, _, rfl, iteP_ne (by decide) ?_⟩) (fun hh hp => ⟨_, _, _, rfl, iteP_ne (by decide) ?_⟩) fun r hh hr h1 h2 => ⟨_, _, _, rfl, iteP_nne rfl ?_⟩
  · rw [show pageE s pid page = 5 by simp [pageE, hh], if_pos (by decide)] at hK; exact hK h _ hv0 (Step.refl _ _)
  · rw [show pageE s pid page = 2 by simp [pageE, hh, hp], if_pos (by decide)] at hK; exact hK h _ hv0 (Step.refl _ _)
  rw [show pageE s pid page = 0 by unfold pageE; rw [if_neg (by simp [hh]), if_neg (by omega)], if_neg (by decide)] at hK
  by_cases hp : pgOf s pid page = -2
  · rw [if_neg (by simp [hp])] at hK
    refine iteP_f (by simp [hp]) ?_
    obtain ⟨i1, i2⟩ := hasOf_in hh
    have hat := hw.at i1 i2 h1 h2
    refine (hv.pages pid r hr).set (by decide) fun h' p1 st1 z1 => hK h' _ ⟨m, f, sb, sl, rfl, ?_, hw.setPg hh h1 h2 (by decide) (by have := hv.mem.pos; omega)⟩ (st1.in1 (foot_r hr))
    have e : refsOf (setPg s pid page (-1)).pg = refsOf s.pg := refsOf_nop hat (by omega) (by decide)
    rw [e]
    exact hv.setSpace hr (p1.ext fun q => by rw [pgOf_setPg hw i1 i2 h1 h2]; simp) st1 (fun q p hq => by rw [pgOf_setPg hw i1 i2 h1 h2, if_neg (by rintro ⟨rfl, _⟩; exact hq rfl)]) (fun _ => rfl) rfl rfl rfl
  · rw [if_pos hp] at hK
    exact iteP_t (by simpa using hp) (hK h _ hv0 (Step.refl _ _))
theorem c_vm_Unmap (hv : VmRep h v s F) (pid page : Int) (hK : ∀ h' F', VmRep h' v (unmapS s pid page).2 F' → Step h h' F F' → K (.int .i64 (unmapS s pid page).1) h') :
    CallsH Try.prog f_vm_Vm_Unmap #[.pointer (some ⟨v, 0, none⟩), .int .i64 pid, .int .i64 page] h K := by
  have hv0 := hv
  obtain ⟨m, f, sb, sl, rfl, hv, hw⟩ := hv
  refine q_vm_Vm_Unmap_calls v pid page h K ?_
  unfold q_vm_Vm_Unmap
  unfold unmapS at hK
  refine c_vm_page hv pid page (fun hh => ⟨_, _, _, rfl, iteP_ne (by decide) ?_⟩) (fun hh hp => ⟨_, _, _, rfl, iteP_ne (by decide) ?_⟩) fun r hh hr h1 h2 => ⟨_, _, _, rfl, iteP_nne rfl ?_⟩
  · rw [show pageE s pid page = 5 by simp [pageE, hh], if_pos (by decide)] at hK; exact hK h _ hv0 (Step.refl _ _)
  · rw [show pageE s pid page = 2 by simp [pageE, hh, hp], if_pos (by decide)] at hK; exact hK h _ hv0 (Step.refl _ _)
  rw [show pageE s pid page = 0 by unfold pageE; rw [if_neg (by simp [hh]), if_neg (by omega)], if_neg (by decide)] at hK
  by_cases hp : pgOf s pid page = -2
  · rw [if_pos hp] at hK
    exact iteP_t (by simp [hp]) (hK h _ hv0 (Step.refl _ _))
  · rw [if_neg hp] at hK
    refine iteP_f (by simpa using hp) ?_
    exact c_vm_drop hv hw hr hp fun h' hv' st1 z1 _ => ⟨rfl, hK h' _ ⟨m, f, sb, sl, rfl, hv', hw.setPg hh h1 h2 (by decide) (by omega)⟩ st1⟩
theorem c_vm_Peek (hv : VmRep h v s F) (pid addr : Int) (hK : K (.tuple #[.int .u8 (peekS s pid addr).1, .int .i64 (peekS s pid addr).2]) h) :
    CallsH Try.prog f_vm_Vm_Peek #[.pointer (some ⟨v, 0, none⟩), .int .i64 pid, .int .i64 addr] h K := by
  obtain ⟨m, f, sb, sl, rfl, hv, hw⟩ := hv
  refine q_vm_Vm_Peek_calls v pid addr h K ?_
  unfold q_vm_Vm_Peek
  unfold peekS at hK
  refine c_vm_at hv pid addr (fun hb => ⟨_, _, rfl, iteP_ne hb ?_⟩) fun r hh hr h1 h2 hp => ⟨_, _, rfl, iteP_nne rfl ?_⟩
  · rw [if_pos hb] at hK; exact hK
  have hz : addrE s pid addr = 0 := by unfold addrE; rw [if_neg (by simp [hh]), if_neg (by omega), if_neg hp]
  rw [if_neg (by simp [hz])] at hK
  have hlk := (hv.pages pid r hr).look (addr / 32)
  rw [if_neg hp] at hlk
  rw [tdiv32 h1 h2, tmod32 h1]
  have hle := hw.pg_le pid (addr / 32)
  refine ⟨_, hlk, iteP_eqc (fun hc => ?_) fun hc => ⟨_, hv.c0, ?_⟩⟩
  · rw [if_pos hc] at hK; exact hK
  · rw [if_neg hc] at hK
    exact c_mem_Byte hv.mem _ _ (fun hb => (hb ⟨by omega, by omega, by omega, by omega⟩).elim) fun _ _ _ _ => ⟨_, _, rfl, hK⟩
theorem c_vm_Poke (hv : VmRep h v s F) (pid addr c : Int) (hK : ∀ h' F', VmRep h' v (pokeS s pid addr c).2 F' → Step h h' F F' → K (.int .i64 (pokeS s pid addr c).1) h') :
    CallsH Try.prog f_vm_Vm_Poke #[.pointer (some ⟨v, 0, none⟩), .int .i64 pid, .int .i64 addr, .int .u8 c] h K := by
  have hv0 := hv
  obtain ⟨m, f, sb, sl, rfl, hv, hw⟩ := hv
  refine q_vm_Vm_Poke_calls v pid addr c h K ?_
  unfold q_vm_Vm_Poke
  unfold pokeS at hK
  refine c_vm_at hv pid addr (fun hb => ⟨_, _, rfl, iteP_ne hb ?_⟩) fun r hh hr h1 h2 hp => ⟨_, _, rfl, iteP_nne rfl ?_⟩
  · rw [if_pos hb] at hK; exact hK h _ hv0 (Step.refl _ _)
  have hz : addrE s pid addr = 0 := by unfold addrE; rw [if_neg (by simp [hh]), if_neg (by omega), if_neg hp]
  rw [if_neg (by simp [hz])] at hK
  rw [tdiv32 h1 h2, tmod32 h1]
  refine c_vm_own hv hw hr hp (fun hno => ⟨_, rfl, iteP_ne (by decide) ?_⟩) fun s' hs' h' hv' hw' st z => ⟨_, rfl, iteP_nne rfl ?_⟩
  · rw [hno] at hK; exact hK h _ hv0 (Step.refl _ _)
  rw [hs'] at hK
  obtain ⟨hp1, hp2⟩ := ownS_at hw hh hp hs'
  have hlk := (hv'.pages pid r hr).look (addr / 32)
  rw [if_neg (by omega)] at hlk
  have hle := hw'.pg_le pid (addr / 32)
  refine ⟨_, hv'.c0, _, hlk, ?_⟩
  refine c_mem_SetByte hv'.mem _ _ c (fun hb => (hb ⟨by omega, by omega, by omega, by omega⟩).elim) fun _ _ _ _ h2 m2 st2 z2 => ⟨_, rfl, hK h2 _ ⟨m, f, sb, sl, rfl, hv'.setMem m2 st2, hw'.congr rfl rfl rfl⟩ (st.trans (st2.in1 foot_f))⟩
where
  ownS_at {s s' : VmS} {pid page : Int} (hw : Wf s) (hh : hasOf s pid = true) (hp : pgOf s pid page ≠ -2) (hs : ownS s pid page = some s') : 0 ≤ pgOf s' pid page ∧ hasOf s' pid = true := by
    obtain ⟨i1, i2, i3, i4⟩ := pgOf_in hp
    have hle := hw.pg_le pid page
    unfold ownS at hs
    split at hs
    · cases hs; exact ⟨by omega, hh⟩
    · cases hx : nextF (refsOf s.pg) s.n with
      | none => rw [hx] at hs; cases hs
      | some i =>
        rw [hx] at hs
        simp only at hs
        have hg := pgOf_setPg hw (x := (i : Int)) (p := pid) (q := page) i1 i2 i3 i4
        rw [if_pos ⟨rfl, rfl⟩] at hg
        have h2 : s'.pg = (setPg s pid page i).pg ∧ s'.has = s.has := by
          split at hs
          · injection hs with hs; rw [← hs]; exact ⟨rfl, rfl⟩
          · injection hs with hs; rw [← hs]; exact ⟨rfl, rfl⟩
        rw [pgOf_congr h2.1, hg, hasOf_congr h2.2]
        exact ⟨by omega, hh⟩
theorem c_vm_Copies (hv : VmRep h v s F) (hK : K (.int .i64 s.cp) h) : CallsH Try.prog f_vm_Vm_Copies #[.pointer (some ⟨v, 0, none⟩)] h K := by
  obtain ⟨m, f, sb, sl, rfl, hv, hw⟩ := hv
  refine q_vm_Vm_Copies_calls v h K ?_
  unfold q_vm_Vm_Copies
  exact ⟨_, hv.c66, hK⟩
theorem leftL_le (rf : List Int) : ∀ n : Nat, 0 ≤ leftL rf n ∧ leftL rf n ≤ n := by
  intro n
  induction n with
  | zero => simp [leftL]
  | succ n ih => simp only [leftL]; split <;> omega
theorem c_vm_Left (hv : VmRep h v s F) (hK : K (.int .i64 (leftS s)) h) : CallsH Try.prog f_vm_Vm_Left #[.pointer (some ⟨v, 0, none⟩)] h K := by
  obtain ⟨m, f, sb, sl, rfl, hv, hw⟩ := hv
  refine q_vm_Vm_Left_calls v h K ?_
  unfold q_vm_Vm_Left
  have hn := hv.mem.le
  refine ⟨_, hv.c0, c_mem_Size hv.mem ⟨_, rfl, ?_⟩⟩
  refine ⟨fun a i h' => h' = h ∧ 0 ≤ i ∧ i ≤ s.n ∧ a = leftL (refsOf s.pg) i.toNat, fun _ i _ => ((s.n : Int) - i).toNat, ⟨rfl, by omega, by omega, rfl⟩, ?_⟩
  rintro a i h' ⟨rfl, h1, h2, rfl⟩
  have hb := leftL_le (refsOf s.pg) i.toNat
  refine iteP_cases (fun h3 => ⟨h1, by omega, ?_⟩) fun h3 => ?_
  · have hg := refsOf_get (pg := s.pg) (f := i.toNat) (by omega)
    refine ⟨_, hv.ref hg, ?_⟩
    have e : leftL (refsOf s.pg) (i + 1).toNat = leftL (refsOf s.pg) i.toNat + if cnt ((i.toNat : Nat) : Int) s.pg = 0 then 1 else 0 := by
      rw [show (i + 1).toNat = i.toNat + 1 by omega]; simp only [leftL, hg, Option.getD_some]
    rw [wrap64 (x := i + 1) (by omega) (by omega), wrap64 (x := leftL (refsOf s.pg) i.toNat + 1) (by omega) (by omega)]
    refine iteP_eqc (fun h4 => ⟨⟨rfl, by omega, by omega, ?_⟩, ?_⟩) fun h4 => ⟨⟨rfl, by omega, by omega, ?_⟩, ?_⟩
    · rw [e, if_pos h4]
    · show ((s.n : Int) - (i + 1)).toNat < ((s.n : Int) - i).toNat; omega
    · rw [e, if_neg h4]; omega
    · show ((s.n : Int) - (i + 1)).toNat < ((s.n : Int) - i).toNat; omega
  · have : i.toNat = s.n := by omega
    rw [this]; exact hK
theorem c_vm_Refs (hv : VmRep h v s F) (i : Int) (hK : K (.int .i64 (refS s i)) h) : CallsH Try.prog f_vm_Vm_Refs #[.pointer (some ⟨v, 0, none⟩), .int .i64 i] h K := by
  obtain ⟨m, f, sb, sl, rfl, hv, hw⟩ := hv
  refine q_vm_Vm_Refs_calls v i h K ?_
  unfold q_vm_Vm_Refs
  unfold refS at hK
  refine iteP_cases (fun h1 => ?_) fun h1 => iteP_cases (fun h2 => ?_) fun h2 => ?_
  · rw [if_pos (.inl h1)] at hK; exact hK
  · rw [if_pos (.inr h2)] at hK; exact hK
  · rw [if_neg (by omega)] at hK
    have hg := refsOf_get (pg := s.pg) (f := i.toNat) (by omega)
    rw [show ((i.toNat : Nat) : Int) = i by omega] at hg
    exact ⟨by omega, by omega, _, hv.ref hg, hK⟩
theorem c_vm_New (n : Int) (hbad : n < 1 ∨ 64 < n → K (.pointer none) h) (hok : 1 ≤ n → n ≤ 64 → ∀ h' v F', VmRep h' v (newS n.toNat) F' → Ext h h' → (∀ r ∈ F', h.size ≤ r) → K (.pointer (some ⟨v, 0, none⟩)) h') :
    CallsH Try.prog f_vm_New #[.int .i64 n] h K := by
  refine q_vm_New_calls n h K ?_
  unfold q_vm_New
  refine c_mem_New n (fun hb => ⟨_, rfl, iteP_t rfl (hbad hb)⟩) fun h1 h2 h' hm st z => ⟨_, rfl, iteP_f rfl ?_⟩
  refine letH_iff.2 (letH_iff.2 ?_)
  have hz : (zeroCells Try.prog T_N_vm_Vm).toList = .pointer none :: (List.replicate 64 (.int .i64 0) ++ [.map none, .int .i64 0]) := by kernel_rfl
  rw [hz]
  have e0 : (h'.push (Obj.map #[] 0)).size = h'.size + 1 := by simp
  have st2 : Ext h' ((h'.push (Obj.map #[] 0)).push (Obj.cells ⟨fillL (fillL (.pointer none :: (List.replicate 64 (.int .i64 0) ++ [.map none, .int .i64 0])) 0 [.pointer (some ⟨h.size + 1, 0, none⟩)]) 65 [.map (some h'.size)]⟩ T_N_vm_Vm)) := (Ext.push _ _).trans (Ext.push _ _)
  rw [e0]
  have hr0 : refsOf (List.replicate 96 (-2)) = List.replicate 64 0 := by kernel_rfl
  refine hok h1 h2 _ (h'.size + 1) _ ⟨h.size + 1, h.size, h'.size, [], rfl, ?_, ?_⟩ (st.trans st2) ?_
  · refine ⟨?_, ?_, ?_, ?_, ?_, ?_, by simp⟩
    · have := push_new (h'.push (Obj.map #[] 0)) (Obj.cells ⟨fillL (fillL (.pointer none :: (List.replicate 64 (.int .i64 0) ++ [.map none, .int .i64 0])) 0 [.pointer (some ⟨h.size + 1, 0, none⟩)]) 65 [.map (some h'.size)]⟩ T_N_vm_Vm)
      rw [e0] at this
      rw [this]
      show _ = some (Obj.cells ⟨.pointer (some ⟨h.size + 1, 0, none⟩) :: ((refsOf (List.replicate 96 (-2))).map (.int .i64) ++ [.map (some h'.size), .int .i64 0])⟩ T_N_vm_Vm (0, 0))
      rw [hr0]
      rfl
    · exact refsOf_length
    · exact hm.congr (st2.at hm.mem ▸ hm.mem.symm ▸ rfl) (st2.at hm.fr ▸ hm.fr.symm ▸ rfl)
    · exact (MapAt.new .i64 h').congr (push_old (by simp))
    · intro pid r hr; simp [lkp] at hr
    · intro pid
      simp only [lkp, Option.isSome_none, hasOf, newS]
      split
      · rw [List.getElem?_replicate]; split <;> rfl
      · rfl
  · refine ⟨rfl, rfl, fun x hx => ?_, fun pid page _ => ?_, by show n.toNat ≤ 64; omega⟩
    · rw [List.eq_of_mem_replicate hx]; exact ⟨by decide, by show (-2 : Int) < (n.toNat : Int); omega⟩
    · simp only [pgOf, newS]
      split
      · rw [List.getElem?_replicate]; split <;> rfl
      · rfl
  · intro r hr
    simp only [foot, List.map_nil, List.mem_cons, List.not_mem_nil, or_false] at hr
    have := st.size
    rcases hr with rfl | rfl | rfl | rfl <;> omega
end
end Go.Proofs.Ytmdhfmljgjnggaa
