/- The texts CVm CVm2 CVm3 CVm4 CVm5, one behind the other. No condition. -/
import Derived.Test.YtmdhfmljgjnggaaG8
/- What the small functions of package vm do. No condition. -/
namespace Go.Proofs.Ytmdhfmljgjnggaa
attribute [local irreducible] semWP

theorem lkp_map {α β : Type} (g : α → β) {n : Int} {l : List (Int × α)} : lkp n (l.map fun p => (p.1, g p.2)) = (lkp n l).map g := by
  induction l with
  | nil => rfl
  | cons p l ih => simp only [List.map_cons, lkp]; split <;> simp [*]
theorem upd_map {α β : Type} (g : α → β) {n : Int} {v : α} {l : List (Int × α)} : upd n (g v) (l.map fun p => (p.1, g p.2)) = (upd n v l).map fun p => (p.1, g p.2) := by
  induction l with
  | nil => rfl
  | cons p l ih => simp only [List.map_cons, upd]; split <;> simp [*]
theorem del_map {α β : Type} (g : α → β) {n : Int} {l : List (Int × α)} : del n (l.map fun p => (p.1, g p.2)) = (del n l).map fun p => (p.1, g p.2) := by
  induction l with
  | nil => rfl
  | cons p l ih => simp only [List.map_cons, del]; split <;> simp [*]
theorem keysOf_map {α β : Type} (g : α → β) {l : List (Int × α)} : keysOf (l.map fun p => (p.1, g p.2)) = keysOf l := by simp [keysOf]

/-- Block r holds a map from int to int that reads as g (-2: not there). -/
def PgAt (h : Hp) (r : Nat) (g : Int → Int) : Prop := ∃ l : List (Int × Int), MapAt .i64 h r (l.map fun p => (p.1, .int .i64 p.2)) ∧ ∀ page, lkp page l = if g page = -2 then none else some (g page)
theorem PgAt.congr {h h' : Hp} {r : Nat} {g : Int → Int} (hp : PgAt h r g) (he : h'[r]? = h[r]?) : PgAt h' r g := by
  obtain ⟨l, h1, h2⟩ := hp; exact ⟨l, h1.congr he, h2⟩
theorem PgAt.lt {h : Hp} {r : Nat} {g : Int → Int} (hp : PgAt h r g) : r < h.size := by obtain ⟨l, h1, _⟩ := hp; exact h1.lt
theorem PgAt.ne {h : Hp} {r s : Nat} {g : Int → Int} (hp : PgAt h r g) {c : Array Value} {e : TypeId} {f : Nat × Nat} (hs : h[s]? = some (.cells c e f)) : r ≠ s := by
  obtain ⟨l, h1, _⟩ := hp; exact h1.ne_cells hs
theorem PgAt.ext {h : Hp} {r : Nat} {g g' : Int → Int} (hp : PgAt h r g) (he : ∀ page, g page = g' page) : PgAt h r g' := by
  obtain ⟨l, h1, h2⟩ := hp; exact ⟨l, h1, fun page => by rw [← he]; exact h2 page⟩
theorem PgAt.look {h : Hp} {r : Nat} {g : Int → Int} (hp : PgAt h r g) (page : Int) : RunsTo Try.prog (Instr.lookup T_N_vm_space (.map (some r)) (.int .i64 page) false) h (.int .i64 (if g page = -2 then 0 else g page)) := by
  obtain ⟨l, h1, h2⟩ := hp
  have := runs_lookup (P := Try.prog) (t := T_N_vm_space) (kt := T_int) (et := T_int) (n := page) (by kernel_rfl) (by kernel_rfl) (by kernel_rfl) h1 false
  rw [lkp_map, h2, show zeroOf Try.prog T_int = .int .i64 0 by kernel_rfl] at this
  by_cases hg : g page = -2
  · simpa [hg] using this
  · simpa [hg] using this
theorem PgAt.look2 {h : Hp} {r : Nat} {g : Int → Int} (hp : PgAt h r g) (page : Int) : RunsTo Try.prog (Instr.lookup T_N_vm_space (.map (some r)) (.int .i64 page) true) h (.tuple #[.int .i64 (if g page = -2 then 0 else g page), .bool (g page != -2)]) := by
  obtain ⟨l, h1, h2⟩ := hp
  have := runs_lookup (P := Try.prog) (t := T_N_vm_space) (kt := T_int) (et := T_int) (n := page) (by kernel_rfl) (by kernel_rfl) (by kernel_rfl) h1 true
  rw [lkp_map, h2, show zeroOf Try.prog T_int = .int .i64 0 by kernel_rfl] at this
  by_cases hg : g page = -2
  · simpa [hg] using this
  · have e : (g page != -2) = true := by simpa using hg
    rw [e]
    simpa [hg] using this
theorem PgAt.set {h : Hp} {r : Nat} {g : Int → Int} (hp : PgAt h r g) {page x : Int} (hx : x ≠ -2) {K : Unit → Hp → Prop}
    (hK : ∀ h', PgAt h' r (fun q => if q = page then x else g q) → Step h h' [r] [r] → h'.size = h.size → K () h') : semWP Try.prog (Instr.mapUpdate T_N_vm_space (.map (some r)) (.int .i64 page) (.int .i64 x)) h K := by
  obtain ⟨l, h1, h2⟩ := hp
  refine semWP_mapUpdate (kt := T_int) (et := T_int) (by kernel_rfl) (by kernel_rfl) h1 fun h' h3 h4 h5 => hK h' ⟨upd page x l, ?_, fun q => ?_⟩ h4 h5
  · rw [← upd_map (Value.int .i64)]; exact h3
  · rw [lkp_upd, h2]
    by_cases hq : q = page
    · simp [hq, hx]
    · simp [hq]
theorem PgAt.del {h : Hp} {r : Nat} {g : Int → Int} (hp : PgAt h r g) {page : Int} {K : Value → Hp → Prop}
    (hK : ∀ h', PgAt h' r (fun q => if q = page then -2 else g q) → Step h h' [r] [r] → h'.size = h.size → K (.tuple #[]) h') : semWP Try.prog (Builtin.delete_ #[T_N_vm_space, T_int] T_x #[.map (some r), .int .i64 page]) h K := by
  obtain ⟨l, h1, h2⟩ := hp
  have hn : (keysOf l).Nodup := by have := h1.nodup; rwa [keysOf_map] at this
  refine semWP_delete (t := T_N_vm_space) (kt := T_int) (et := T_int) (by rfl) (by kernel_rfl) (by kernel_rfl) h1 fun h' h3 h4 h5 => hK h' ⟨Go.Proofs.Ytmdhfmljgjnggaa.del page l, ?_, fun q => ?_⟩ h4 h5
  · rw [← del_map (Value.int .i64)]; exact h3
  · rw [lkp_del hn, h2]
    by_cases hq : q = page
    · simp [hq]
    · simp [hq]

/-- Blocks v (the struct), m and f (its memory), sb (the map of spaces, sl: each one's block); rf: what stands in refs. -/
structure VmAt (h : Hp) (v m f sb : Nat) (sl : List (Int × Nat)) (rf : List Int) (s : VmS) : Prop where
  vm : h[v]? = some (.cells ⟨.pointer (some ⟨m, 0, none⟩) :: (rf.map (.int .i64) ++ [.map (some sb), .int .i64 s.cp])⟩ T_N_vm_Vm (0, 0))
  rl : rf.length = 64
  mem : MemAt h m f s.n s.b
  sps : MapAt .i64 h sb (sl.map fun p => (p.1, .map (some p.2)))
  pages : ∀ pid r, lkp pid sl = some r → PgAt h r (pgOf s pid)
  has : ∀ pid, (lkp pid sl).isSome = hasOf s pid
  nd : (sb :: sl.map (·.2)).Nodup
def foot (v m f sb : Nat) (sl : List (Int × Nat)) : List Nat := v :: m :: f :: sb :: sl.map (·.2)
section
variable {h h' : Hp} {v m f sb : Nat} {sl : List (Int × Nat)} {rf : List Int} {s : VmS} {K : Value → Hp → Prop}
theorem lkp_snd {α : Type} {n : Int} {r : α} {l : List (Int × α)} (h : lkp n l = some r) : r ∈ l.map (·.2) := List.mem_map.2 ⟨_, lkp_mem h, rfl⟩
theorem VmAt.congr (hv : VmAt h v m f sb sl rf s) (he : ∀ r ∈ foot v m f sb sl, h'[r]? = h[r]?) : VmAt h' v m f sb sl rf s :=
  ⟨by rw [he v (by simp [foot])]; exact hv.vm, hv.rl, hv.mem.congr (he m (by simp [foot])) (he f (by simp [foot])), hv.sps.congr (he sb (by simp [foot])),
   fun pid r hr => (hv.pages pid r hr).congr (he r (by simp only [foot, List.mem_cons]; exact .inr (.inr (.inr (.inr (lkp_snd hr)))))), hv.has, hv.nd⟩
theorem VmAt.keys (hv : VmAt h v m f sb sl rf s) : (keysOf sl).Nodup := by
  have := hv.sps.nodup
  have e : keysOf (sl.map fun p => (p.1, Value.map (some p.2))) = keysOf sl := keysOf_map (fun x => Value.map (some x))
  rwa [e] at this
theorem VmAt.lt (hv : VmAt h v m f sb sl rf s) : ∀ r ∈ foot v m f sb sl, r < h.size := by
  intro r hr
  simp only [foot, List.mem_cons] at hr
  rcases hr with rfl | rfl | rfl | rfl | hr
  · exact lt_of_at hv.vm
  · exact hv.mem.ltm
  · exact hv.mem.ltf
  · exact hv.sps.lt
  · obtain ⟨⟨pid, r'⟩, hm, rfl⟩ := List.mem_map.1 hr
    exact (hv.pages pid r' (mem_lkp hv.keys hm)).lt
theorem VmAt.blk (hv : VmAt h v m f sb sl rf s) {r : Nat} (hr : r ∈ sl.map (·.2)) : ∃ pid, lkp pid sl = some r := by
  obtain ⟨⟨pid, r'⟩, hm, rfl⟩ := List.mem_map.1 hr
  exact ⟨pid, mem_lkp hv.keys hm⟩
/-- Blocks that the struct, the memory and its frames are: none is another, nor a map. -/
theorem VmAt.vm_ne (hv : VmAt h v m f sb sl rf s) : v ≠ m ∧ v ≠ f ∧ m ≠ f ∧ sb ≠ v ∧ sb ≠ m ∧ sb ≠ f ∧ ∀ r ∈ sl.map (·.2), r ≠ v ∧ r ≠ m ∧ r ≠ f ∧ r ≠ sb := by
  refine ⟨hv.mem.ne_m hv.vm (by decide), hv.mem.ne_f hv.vm (by decide), hv.mem.ne, hv.sps.ne_cells hv.vm, hv.mem.map_m hv.sps, hv.mem.map_f hv.sps, fun r hr => ?_⟩
  obtain ⟨pid, hp⟩ := hv.blk hr
  have h1 := hv.pages pid r hp
  refine ⟨h1.ne hv.vm, by obtain ⟨l, h2, _⟩ := h1; exact hv.mem.map_m h2, by obtain ⟨l, h2, _⟩ := h1; exact hv.mem.map_f h2, ?_⟩
  have := hv.nd
  rw [List.nodup_cons] at this
  rintro rfl
  exact this.1 hr
theorem VmAt.c0 (hv : VmAt h v m f sb sl rf s) : cellAt h ⟨v, 0, none⟩ = some (.pointer (some ⟨m, 0, none⟩)) := by rw [cellAt_cells hv.vm]; rfl
theorem VmAt.c65 (hv : VmAt h v m f sb sl rf s) : cellAt h ⟨v, 65, none⟩ = some (.map (some sb)) := by
  rw [cellAt_cells hv.vm]
  simp [List.getElem?_append, hv.rl]
theorem VmAt.c66 (hv : VmAt h v m f sb sl rf s) : cellAt h ⟨v, 66, none⟩ = some (.int .i64 s.cp) := by
  rw [cellAt_cells hv.vm]
  simp [List.getElem?_append, hv.rl]
theorem VmAt.ref (hv : VmAt h v m f sb sl rf s) {i : Int} {x : Int} (hx : rf[i.toNat]? = some x) : cellAt h ((⟨v, 1, none⟩ : Addr).add (Int.toNat i * 1)) = some (.int .i64 x) := by
  rw [Addr.add_mk, cellAt_cells hv.vm]
  obtain ⟨this, hx2⟩ := List.getElem?_eq_some_iff.1 hx
  rw [show 1 + i.toNat * 1 = i.toNat + 1 by omega]
  simp [List.getElem?_append, this, hx2]
theorem VmAt.fz (hv : VmAt h v m f sb sl rf s) (o : Nat) : frozenAt h ⟨v, o, none⟩ = false := frozenAt_cells hv.vm
theorem VmAt.setRef (hv : VmAt h v m f sb sl rf s) {i x : Int} (hi : i.toNat < 64) : VmAt (setH h ((⟨v, 1, none⟩ : Addr).add (Int.toNat i * 1)) (.int .i64 x)) v m f sb sl (rf.set i.toNat x) s := by
  rw [Addr.add_mk, show 1 + i.toNat * 1 = i.toNat + 1 by omega]
  obtain ⟨h1, h2, h3, h4, h5, h6, h7⟩ := hv.vm_ne
  have ho : ∀ r, r ≠ v → (setH h ⟨v, i.toNat + 1, none⟩ (.int .i64 x))[r]? = h[r]? := fun r hr => setH_other hr
  refine ⟨?_, by simp [hv.rl], hv.mem.congr (ho m (Ne.symm h1)) (ho f (Ne.symm h2)), hv.sps.congr (ho sb h4), fun pid r hr => (hv.pages pid r hr).congr (ho r (h7 r (lkp_snd hr)).1), hv.has, hv.nd⟩
  rw [setH_same hv.vm]
  have : i.toNat < (rf.map (Value.int .i64)).length := by rw [List.length_map, hv.rl]; exact hi
  simp only [List.setIfInBounds_toArray, List.set_cons_succ, List.set_append, this, if_true, List.map_set]
theorem VmAt.setCp (hv : VmAt h v m f sb sl rf s) {x : Int} : VmAt (setH h ⟨v, 66, none⟩ (.int .i64 x)) v m f sb sl rf { s with cp := x } := by
  obtain ⟨h1, h2, h3, h4, h5, h6, h7⟩ := hv.vm_ne
  have ho : ∀ r, r ≠ v → (setH h ⟨v, 66, none⟩ (.int .i64 x))[r]? = h[r]? := fun r hr => setH_other hr
  refine ⟨?_, hv.rl, hv.mem.congr (ho m (Ne.symm h1)) (ho f (Ne.symm h2)), hv.sps.congr (ho sb h4), fun pid r hr => (hv.pages pid r hr).congr (ho r (h7 r (lkp_snd hr)).1), hv.has, hv.nd⟩
  rw [setH_same hv.vm]
  have : ¬ 65 < (rf.map (Value.int .i64)).length := by rw [List.length_map, hv.rl]; decide
  simp only [List.setIfInBounds_toArray, List.set_cons_succ, List.set_append, this, if_false, List.length_map, hv.rl]
  rfl
theorem VmAt.setMem (hv : VmAt h v m f sb sl rf s) {b : List Int} (hm : MemAt h' m f s.n b) (hs : Step h h' [f] [f]) : VmAt h' v m f sb sl rf { s with b := b } := by
  obtain ⟨h1, h2, h3, h4, h5, h6, h7⟩ := hv.vm_ne
  have ho : ∀ r ∈ foot v m f sb sl, r ≠ f → h'[r]? = h[r]? := fun r hr hn => hs.frame r (hv.lt r hr) (by simpa using hn)
  refine ⟨by rw [ho v (by simp [foot]) h2]; exact hv.vm, hv.rl, hm, hv.sps.congr (ho sb (by simp [foot]) h6), fun pid r hr => (hv.pages pid r hr).congr (ho r (by simp only [foot, List.mem_cons]; exact .inr (.inr (.inr (.inr (lkp_snd hr))))) (h7 r (lkp_snd hr)).2.2.1), hv.has, hv.nd⟩
/-- A space's block is changed. -/
theorem VmAt.setSpace (hv : VmAt h v m f sb sl rf s) {pid : Int} {r : Nat} {s' : VmS} (hr : lkp pid sl = some r) (hp : PgAt h' r (pgOf s' pid)) (hs : Step h h' [r] [r]) (ho : ∀ q page, q ≠ pid → pgOf s' q page = pgOf s q page) (hh : ∀ q, hasOf s' q = hasOf s q) (h1 : s'.n = s.n) (h2 : s'.b = s.b) (h3 : s'.cp = s.cp) :
    VmAt h' v m f sb sl rf s' := by
  obtain ⟨_, _, _, _, _, _, h7⟩ := hv.vm_ne
  have h8 := h7 r (lkp_snd hr)
  have hk : ∀ q ∈ foot v m f sb sl, q ≠ r → h'[q]? = h[q]? := fun q hq hn => hs.frame q (hv.lt q hq) (by simpa using hn)
  refine ⟨by rw [hk v (by simp [foot]) (Ne.symm h8.1), h3]; exact hv.vm, hv.rl, ?_, hv.sps.congr (hk sb (by simp [foot]) (Ne.symm h8.2.2.2)), fun q r' hr' => ?_, fun q => by rw [hh]; exact hv.has q, hv.nd⟩
  · rw [h1, h2]
    exact hv.mem.congr (hk m (by simp [foot]) (Ne.symm h8.2.1)) (hk f (by simp [foot]) (Ne.symm h8.2.2.1))
  · by_cases hq : q = pid
    · subst hq; rw [hr] at hr'; cases hr'; exact hp
    · have hne : r' ≠ r := by
        rintro rfl
        have hnd := hv.nd
        rw [List.nodup_cons] at hnd
        have := nodup_snd hnd.2 hr hr'
        exact hq this.symm
      refine ((hv.pages q r' hr').congr (hk r' ?_ hne)).ext fun page => (ho q page hq).symm
      simp only [foot, List.mem_cons]; exact .inr (.inr (.inr (.inr (lkp_snd hr'))))
where
  nodup_snd {l : List (Int × Nat)} {p q : Int} {r : Nat} (hn : (l.map (·.2)).Nodup) (h1 : lkp p l = some r) (h2 : lkp q l = some r) : p = q := by
    have a := lkp_mem h1
    have b := lkp_mem h2
    induction l with
    | nil => cases a
    | cons x l ih =>
      simp only [List.map_cons, List.nodup_cons] at hn
      rcases List.mem_cons.1 a with e1 | a
      · rcases List.mem_cons.1 b with e2 | b
        · rw [← e1] at e2; cases e2; rfl
        · exact (hn.1 (List.mem_map.2 ⟨_, b, by rw [← e1]⟩)).elim
      · rcases List.mem_cons.1 b with e2 | b
        · exact (hn.1 (List.mem_map.2 ⟨_, a, by rw [← e2]⟩)).elim
        · exact ih hn.2 (by
            simp only [lkp] at h1
            split at h1
            · exact absurd (List.mem_map.2 ⟨_, a, rfl⟩) (by rw [show r = x.2 by cases h1; rfl]; exact hn.1)
            · exact h1) (by
            simp only [lkp] at h2
            split at h2
            · exact absurd (List.mem_map.2 ⟨_, a, rfl⟩) (by rw [show r = x.2 by cases h2; rfl]; exact hn.1)
            · exact h2) a b
end
end Go.Proofs.Ytmdhfmljgjnggaa
/- What the inner functions of package vm do. No condition. -/
namespace Go.Proofs.Ytmdhfmljgjnggaa
attribute [local irreducible] semWP

/-- The answer of 'fresh', of an address, of a page. -/
def freshE (s : VmS) (pid : Int) : Int := if pid < 0 ∨ 6 ≤ pid then 2 else if hasOf s pid then 6 else 0
def addrE (s : VmS) (pid addr : Int) : Int := if hasOf s pid = false then 5 else if addr < 0 ∨ 512 ≤ addr then 2 else if pgOf s pid (addr / 32) = -2 then 10 else 0
/-- The first frame in which no page lies. -/
def nextF (rf : List Int) (n : Nat) : Option Nat := (List.range n).find? fun f => rf[f]? == some 0

section
variable {h : Hp} {v m f sb : Nat} {sl : List (Int × Nat)} {rf : List Int} {s : VmS} {K : Value → Hp → Prop}
theorem VmAt.lookSpace (hv : VmAt h v m f sb sl rf s) (pid : Int) : RunsTo Try.prog (Instr.lookup T_m_int_vm_space (.map (some sb)) (.int .i64 pid) true) h (.tuple #[.map (lkp pid sl), .bool (hasOf s pid)]) := by
  have := runs_lookup (P := Try.prog) (t := T_m_int_vm_space) (kt := T_int) (et := T_N_vm_space) (n := pid) (by kernel_rfl) (by kernel_rfl) (by kernel_rfl) hv.sps true
  have e : lkp pid (sl.map fun p => (p.1, Value.map (some p.2))) = (lkp pid sl).map fun x => Value.map (some x) := lkp_map (fun x => Value.map (some x))
  rw [e, show zeroOf Try.prog T_N_vm_space = .map none by kernel_rfl] at this
  have hh := hv.has pid
  cases hx : lkp pid sl with
  | none => rw [hx] at this hh; simpa [← hh] using this
  | some r => rw [hx] at this hh; simpa [← hh] using this
theorem VmAt.hasT (hv : VmAt h v m f sb sl rf s) {pid : Int} (hh : hasOf s pid = true) : ∃ r, lkp pid sl = some r := by
  have := hv.has pid
  rw [hh] at this
  exact Option.isSome_iff_exists.1 this
theorem VmAt.hasF (hv : VmAt h v m f sb sl rf s) {pid : Int} (hh : hasOf s pid = false) : lkp pid sl = none := by
  have := hv.has pid
  rw [hh] at this
  simpa using this
theorem c_vm_of (hv : VmAt h v m f sb sl rf s) (pid : Int) (hbad : hasOf s pid = false → K (.tuple #[.map none, .int .i64 5]) h)
    (hok : ∀ r, hasOf s pid = true → lkp pid sl = some r → K (.tuple #[.map (some r), .int .i64 0]) h) : CallsH Try.prog f_vm_Vm_of #[.pointer (some ⟨v, 0, none⟩), .int .i64 pid] h K := by
  refine q_vm_Vm_of_calls v pid h K ?_
  unfold q_vm_Vm_of
  refine ⟨_, hv.c65, _, _, hv.lookSpace pid, ?_⟩
  refine iteP_split (fun hb => hbad (by simpa using hb)) fun hb => ?_
  have hb' : hasOf s pid = true := by simpa using hb
  obtain ⟨r, hr⟩ := hv.hasT hb'
  rw [hr]
  exact hok r hb' hr
theorem c_vm_fresh (hv : VmAt h v m f sb sl rf s) (pid : Int) (hK : K (.int .i64 (freshE s pid)) h) : CallsH Try.prog f_vm_Vm_fresh #[.pointer (some ⟨v, 0, none⟩), .int .i64 pid] h K := by
  refine q_vm_Vm_fresh_calls v pid h K ?_
  unfold q_vm_Vm_fresh
  unfold freshE at hK
  refine iteP_cases (fun h1 => ?_) fun h1 => iteP_cases (fun h2 => ?_) fun h2 => ?_
  · rw [if_pos (.inl h1)] at hK; exact hK
  · rw [if_pos (.inr h2)] at hK; exact hK
  · rw [if_neg (by omega)] at hK
    refine ⟨_, hv.c65, _, _, hv.lookSpace pid, ?_⟩
    cases hh : hasOf s pid with
    | true => rw [hh] at hK; exact hK
    | false => rw [hh] at hK; exact hK
theorem c_vm_alone (hv : VmAt h v m f sb sl rf s) (c : Int) (h1 : -1 ≤ c) (h2 : c < 64) (hK : K (.bool (c != -1 && (rf[c.toNat]?).getD 0 == 1)) h) : CallsH Try.prog f_vm_Vm_alone #[.pointer (some ⟨v, 0, none⟩), .int .i64 c] h K := by
  refine q_vm_Vm_alone_calls v c h K ?_
  unfold q_vm_Vm_alone
  refine iteP_nec (fun hc => ?_) fun hc => ?_
  · have hl : c.toNat < rf.length := by rw [hv.rl]; omega
    refine ⟨by omega, by omega, _, hv.ref (x := rf[c.toNat]) (by simp [hl]), ?_⟩
    have e : (c != -1) = true := by simpa using hc
    simpa [e, hl] using hK
  · subst hc; exact hK
theorem c_slices_Index {b o : Nat} {n c : Nat} {x : Int} {cs : Array Value} {e : TypeId} {fz : Nat × Nat} {vs : List Int} (hb : h[b]? = some (.cells cs e fz)) (hn : n < 9223372036854775807) (hvs : ∀ i, i < n → cs[o + i]? = (vs[i]?).map (.int .i64)) (hl : vs.length = n)
    (hK : K (.int .i64 (((List.range n).find? fun i => vs[i]? == some x).elim (-1) fun i => (i : Int))) h) : CallsH Try.prog f_slices_Index_int_int #[.slice (some ⟨b, o, none⟩) n c, .int .i64 x] h K := by
  refine q_slices_Index_int_int_calls _ n c x h K ?_
  unfold q_slices_Index_int_int
  refine ⟨fun i h' => h' = h ∧ 0 ≤ i ∧ i ≤ n ∧ ∀ j : Nat, (j : Int) < i → vs[j]? ≠ some x, fun i _ => ((n : Int) - i).toNat, ⟨rfl, by omega, by omega, by intro j hj; omega⟩, ?_⟩
  rintro i h' ⟨hh, h1, h2, h3⟩
  subst hh
  refine iteP_cases (fun h4 => ⟨h1, h4, ?_⟩) fun h4 => ?_
  · rw [wth_some, Addr.add_mk]
    have hi : i.toNat < vs.length := by rw [hl]; omega
    refine ⟨vs[i.toNat], ?_, ?_⟩
    · rw [cellAt_cells hb, show o + i.toNat * 1 = o + i.toNat by omega, hvs i.toNat (by omega)]
      simp [hi]
    · refine iteP_eqc (fun he => ?_) fun he => ?_
      · have hf : (List.range n).find? (fun j => vs[j]? == some x) = some i.toNat := by
          rw [List.find?_eq_some_iff_append]
          refine ⟨by simp [hi, he], List.range i.toNat, (List.range' (i.toNat + 1) (n - (i.toNat + 1))), ?_, ?_⟩
          · rw [List.range_eq_range', List.range_eq_range', show n = i.toNat + (n - i.toNat) by omega, ← List.range'_append_1]
            rw [show n - i.toNat = (n - (i.toNat + 1)) + 1 by omega, List.range'_succ]
            simp
            omega
          · intro j hj
            have hj' : j < i.toNat := by simpa using hj
            have := h3 j (by omega)
            simpa using this
        rw [hf] at hK
        rw [show i = ((i.toNat : Nat) : Int) by omega]
        exact hK
      · rw [wrap64 (by omega) (by omega)]
        refine ⟨⟨rfl, by omega, by omega, ?_⟩, by show ((n : Int) - (i + 1)).toNat < ((n : Int) - i).toNat; omega⟩
        intro j hj
        by_cases hji : (j : Int) < i
        · exact h3 j hji
        · have : j = i.toNat := by omega
          subst this
          simp only [List.getElem?_eq_getElem hi, ne_eq, Option.some.injEq]
          exact fun hx => he hx.symm
  · have hf : (List.range n).find? (fun j => vs[j]? == some x) = none := by
      rw [List.find?_eq_none]
      intro j hj
      have hj' : j < n := by simpa using hj
      have := h3 j (by omega)
      simpa using this
    rw [hf] at hK
    exact hK
theorem c_vm_next (hv : VmAt h v m f sb sl rf s) (hK : K (match nextF rf s.n with | some i => .tuple #[.int .i64 i, .bool true] | none => .tuple #[.int .i64 (-1), .bool false]) h) : CallsH Try.prog f_vm_Vm_next #[.pointer (some ⟨v, 0, none⟩)] h K := by
  refine q_vm_Vm_next_calls v h K ?_
  unfold q_vm_Vm_next
  refine ⟨_, hv.c0, c_mem_Size hv.mem ?_⟩
  have hp := hv.mem.pos
  have hle := hv.mem.le
  refine ⟨_, rfl, by omega, by omega, ?_⟩
  have e1 : (if 64 = 0 then (⟨v, 1, none⟩ : Addr) else (⟨v, 1, none⟩ : Addr).add (0 * 1)) = ⟨v, 1, none⟩ := rfl
  have e2 : (((s.n : Int)).toNat - 0) = s.n := by omega
  rw [e1, e2]
  refine c_slices_Index (vs := rf.take s.n) hv.vm (by omega) ?_ (by rw [List.length_take, hv.rl]; omega) ?_
  · intro i hi
    have : i < rf.length := by rw [hv.rl]; omega
    rw [List.getElem?_take, if_pos hi, show 1 + i = i + 1 by omega]
    simp [List.getElem?_append, this]
  · have e3 : (List.range s.n).find? (fun i => (rf.take s.n)[i]? == some 0) = nextF rf s.n := by
      unfold nextF
      apply find_congr
      intro i hi
      have hi' : i < s.n := by simpa using hi
      rw [List.getElem?_take, if_pos hi']
    rw [e3]
    cases hx : nextF rf s.n with
    | none => rw [hx] at hK; exact ⟨_, rfl, hK⟩
    | some i =>
      rw [hx] at hK
      refine ⟨_, rfl, ?_⟩
      have : decide ((i : Int) ≥ 0) = true := by simp
      simp only [Option.elim_some, this]
      exact hK
where
  find_congr {α : Type} {p q : α → Bool} {l : List α} (h : ∀ x ∈ l, p x = q x) : l.find? p = l.find? q := by
    induction l with
    | nil => rfl
    | cons a l ih => simp only [List.find?_cons, h a (by simp)]; rw [ih fun x hx => h x (by simp [hx])]
theorem c_vm_page (hv : VmAt h v m f sb sl rf s) (pid page : Int) (h5 : hasOf s pid = false → K (.tuple #[.map none, .bool false, .int .i64 5]) h) (h2 : hasOf s pid = true → (page < 0 ∨ 16 ≤ page) → K (.tuple #[.map none, .bool false, .int .i64 2]) h)
    (hok : ∀ r, hasOf s pid = true → lkp pid sl = some r → 0 ≤ page → page < 16 → K (.tuple #[.map (some r), .bool (pgOf s pid page != -2), .int .i64 0]) h) : CallsH Try.prog f_vm_Vm_page #[.pointer (some ⟨v, 0, none⟩), .int .i64 pid, .int .i64 page] h K := by
  refine q_vm_Vm_page_calls v pid page h K ?_
  unfold q_vm_Vm_page
  refine c_vm_of hv pid (fun hh => ⟨_, _, rfl, iteP_ne (by decide) (h5 hh)⟩) fun r hh hr => ⟨_, _, rfl, iteP_nne rfl ?_⟩
  refine iteP_cases (fun h1 => h2 hh (.inl h1)) fun h1 => iteP_cases (fun h3 => h2 hh (.inr h3)) fun h3 => ?_
  exact ⟨_, _, (hv.pages pid r hr).look2 page, hok r hh hr (by omega) (by omega)⟩
theorem tdiv32 {x : Int} (h1 : 0 ≤ x) (h2 : x < 512) : IntKind.wrap .i64 (Int.tdiv x 32) = x / 32 := by
  have : Int.tdiv x 32 = x / 32 := Int.tdiv_eq_ediv_of_nonneg h1
  rw [this]
  exact wrap64 (by omega) (by omega)
theorem tmod32 {x : Int} (h1 : 0 ≤ x) : Int.tmod x 32 = x % 32 := Int.tmod_eq_emod_of_nonneg h1
theorem c_vm_at (hv : VmAt h v m f sb sl rf s) (pid addr : Int) (hbad : addrE s pid addr ≠ 0 → K (.tuple #[.map none, .int .i64 (addrE s pid addr)]) h)
    (hok : ∀ r, hasOf s pid = true → lkp pid sl = some r → 0 ≤ addr → addr < 512 → pgOf s pid (addr / 32) ≠ -2 → K (.tuple #[.map (some r), .int .i64 0]) h) : CallsH Try.prog f_vm_Vm_at #[.pointer (some ⟨v, 0, none⟩), .int .i64 pid, .int .i64 addr] h K := by
  refine q_vm_Vm_at_calls v pid addr h K ?_
  unfold q_vm_Vm_at
  unfold addrE at hbad
  refine c_vm_of hv pid (fun hh => ⟨_, _, rfl, iteP_ne (by decide) ?_⟩) fun r hh hr => ⟨_, _, rfl, iteP_nne rfl ?_⟩
  · rw [if_pos hh] at hbad; exact hbad (by decide)
  rw [if_neg (by simp [hh])] at hbad
  refine iteP_cases (fun h1 => ?_) fun h1 => iteP_cases (fun h3 => ?_) fun h3 => ?_
  · rw [if_pos (.inl h1)] at hbad; exact hbad (by decide)
  · rw [if_pos (.inr h3)] at hbad; exact hbad (by decide)
  rw [if_neg (by omega)] at hbad
  rw [tdiv32 (by omega) (by omega)]
  refine c_vm_page hv pid (addr / 32) (fun h4 => by rw [hh] at h4; cases h4) (fun _ h4 => by omega) fun r' _ hr' h4 h5 => ?_
  rw [hr] at hr'
  cases hr'
  refine ⟨_, _, _, rfl, ?_⟩
  by_cases hp : pgOf s pid (addr / 32) = -2
  · rw [if_pos hp] at hbad
    refine iteP_t (by simp [hp]) (hbad (by decide))
  · exact iteP_f (by simpa using hp) (hok r hh hr (by omega) (by omega) hp)
end
end Go.Proofs.Ytmdhfmljgjnggaa
/- What Begin, Map, Unmap, Peek and Poke of package vm do. No condition. -/
namespace Go.Proofs.Ytmdhfmljgjnggaa
attribute [local irreducible] semWP

theorem refsOf_set {pg : List Int} {i : Nat} {x y : Int} (hy : pg[i]? = some y) {f : Nat} : (refsOf (pg.set i x))[f]? = if f < 64 then some (cnt f pg - (if y = f then 1 else 0) + (if x = f then 1 else 0)) else none := by
  by_cases hf : f < 64
  · rw [refsOf_get hf, if_pos hf, cnt_set hy]
  · rw [if_neg hf, List.getElem?_eq_none]; rw [refsOf_length]; omega
theorem refsOf_getq {pg : List Int} {f : Nat} : (refsOf pg)[f]? = if f < 64 then some (cnt f pg) else none := by
  by_cases hf : f < 64
  · rw [refsOf_get hf, if_pos hf]
  · rw [if_neg hf, List.getElem?_eq_none]; rw [refsOf_length]; omega
theorem refsOf_nop {pg : List Int} {i : Nat} {x y : Int} (hy : pg[i]? = some y) (h1 : y < 0) (h2 : x < 0) : refsOf (pg.set i x) = refsOf pg := by
  apply List.ext_getElem?
  intro f
  rw [refsOf_set hy, refsOf_getq, if_neg (show ¬ y = (f : Int) by omega), if_neg (show ¬ x = (f : Int) by omega)]
  simp
theorem refsOf_dec {pg : List Int} {i : Nat} {x y : Int} (hy : pg[i]? = some y) (h1 : 0 ≤ y) (h2 : x < 0) : refsOf (pg.set i x) = (refsOf pg).set y.toNat (cnt y pg - 1) := by
  apply List.ext_getElem?
  intro f
  rw [refsOf_set hy, List.getElem?_set, refsOf_getq, refsOf_length, if_neg (show ¬ x = (f : Int) by omega)]
  by_cases he : y.toNat = f
  · rw [if_pos he, if_pos (show y = (f : Int) by omega)]
    subst he
    rw [show ((y.toNat : Nat) : Int) = y by omega]
    simp
  · rw [if_neg he, if_neg (show ¬ y = (f : Int) by omega)]; simp
theorem refsOf_inc {pg : List Int} {i : Nat} {x y : Int} (hy : pg[i]? = some y) (h1 : y < 0) (h2 : 0 ≤ x) : refsOf (pg.set i x) = (refsOf pg).set x.toNat (cnt x pg + 1) := by
  apply List.ext_getElem?
  intro f
  rw [refsOf_set hy, List.getElem?_set, refsOf_getq, refsOf_length, if_neg (show ¬ y = (f : Int) by omega)]
  by_cases he : x.toNat = f
  · rw [if_pos he, if_pos (show x = (f : Int) by omega)]
    subst he
    rw [show ((x.toNat : Nat) : Int) = x by omega]
    simp
  · rw [if_neg he, if_neg (show ¬ x = (f : Int) by omega)]; simp
theorem refsOf_move {pg : List Int} {i : Nat} {x y : Int} (hy : pg[i]? = some y) (h1 : 0 ≤ y) (h2 : 0 ≤ x) (hn : x ≠ y) : refsOf (pg.set i x) = ((refsOf pg).set y.toNat (cnt y pg - 1)).set x.toNat (cnt x pg + 1) := by
  apply List.ext_getElem?
  intro f
  rw [refsOf_set hy, List.getElem?_set, List.getElem?_set, refsOf_getq, List.length_set, refsOf_length]
  by_cases he : x.toNat = f
  · rw [if_pos he, if_pos (show x = (f : Int) by omega), if_neg (show ¬ y = (f : Int) by omega)]
    subst he
    rw [show ((x.toNat : Nat) : Int) = x by omega]
    simp
  · rw [if_neg he, if_neg (show ¬ x = (f : Int) by omega)]
    by_cases he2 : y.toNat = f
    · rw [if_pos he2, if_pos (show y = (f : Int) by omega)]
      subst he2
      rw [show ((y.toNat : Nat) : Int) = y by omega]
      simp
    · rw [if_neg he2, if_neg (show ¬ y = (f : Int) by omega)]; simp
theorem nextF_spec {pg : List Int} {n i : Nat} (h : nextF (refsOf pg) n = some i) (hn : n ≤ 64) : i < n ∧ cnt i pg = 0 := by
  unfold nextF at h
  have h1 := List.mem_of_find?_eq_some h
  have h2 := List.find?_some h
  have hi : i < n := by simpa using h1
  rw [refsOf_get (by omega)] at h2
  exact ⟨hi, by simpa using h2⟩

/-- A page has a frame of its own (none: there is no frame). -/
def ownS (s : VmS) (pid page : Int) : Option VmS :=
  if pgOf s pid page ≠ -1 ∧ cnt (pgOf s pid page) s.pg = 1 then some s else
  match nextF (refsOf s.pg) s.n with
  | none => none
  | some f =>
    if pgOf s pid page = -1 then some { s with b := over s.b (f * 32) (List.replicate 32 0), pg := s.pg.set (ixOf pid page) f }
    else some { s with b := over s.b (f * 32) ((s.b.drop ((pgOf s pid page).toNat * 32)).take 32), pg := s.pg.set (ixOf pid page) f, cp := IntKind.wrap .i64 (s.cp + 1) }

section
variable {h : Hp} {v m f sb : Nat} {sl : List (Int × Nat)} {s : VmS} {K : Value → Hp → Prop}
theorem Wf.congr {s s' : VmS} (hw : Wf s) (h1 : s'.has = s.has) (h2 : s'.pg = s.pg) (h3 : s'.n = s.n) : Wf s' := by
  obtain ⟨n, b, has, pg, cp⟩ := s
  obtain ⟨n', b', has', pg', cp'⟩ := s'
  simp only at h1 h2 h3
  subst h1 h2 h3
  exact ⟨hw.lh, hw.lp, hw.pgs, hw.off, hw.le⟩
theorem pgOf_congr {s s' : VmS} (h : s.pg = s'.pg) (p q : Int) : pgOf s p q = pgOf s' p q := by unfold pgOf; rw [h]
theorem hasOf_congr {s s' : VmS} (h : s.has = s'.has) (p : Int) : hasOf s p = hasOf s' p := by unfold hasOf; rw [h]
theorem foot_v {v m f sb : Nat} {sl : List (Int × Nat)} : v ∈ foot v m f sb sl := by simp [foot]
theorem foot_f {v m f sb : Nat} {sl : List (Int × Nat)} : f ∈ foot v m f sb sl := by simp [foot]
theorem foot_sb {v m f sb : Nat} {sl : List (Int × Nat)} : sb ∈ foot v m f sb sl := by simp [foot]
theorem foot_r {v m f sb : Nat} {sl : List (Int × Nat)} {pid : Int} {r : Nat} (h : lkp pid sl = some r) : r ∈ foot v m f sb sl := by
  simp only [foot, List.mem_cons]; exact .inr (.inr (.inr (.inr (lkp_snd h))))
theorem Step.in1 {h h' : Hp} {b : Nat} {F : List Nat} (a : Step h h' [b] [b]) (hb : b ∈ F) : Step h h' F F :=
  a.mono (by simpa using hb) fun _ hr => .inr hr
theorem c_vm_drop (hv : VmAt h v m f sb sl (refsOf s.pg) s) (hw : Wf s) {pid page : Int} {r : Nat} (hr : lkp pid sl = some r) (hp : pgOf s pid page ≠ -2)
    (hK : ∀ h', VmAt h' v m f sb sl (refsOf (setPg s pid page (-2)).pg) (setPg s pid page (-2)) → Step h h' (foot v m f sb sl) (foot v m f sb sl) → h'.size = h.size → Step h h' [v, r] [v, r] → K (.tuple #[]) h') :
    CallsH Try.prog f_vm_Vm_drop #[.pointer (some ⟨v, 0, none⟩), .map (some r), .int .i64 page] h K := by
  refine q_vm_Vm_drop_calls v r page h K ?_
  unfold q_vm_Vm_drop
  obtain ⟨i1, i2, i3, i4⟩ := pgOf_in hp
  have hat := hw.at i1 i2 i3 i4
  have hle := hw.pg_le pid page
  have hn := hw.le
  have hlk := (hv.pages pid r hr).look page
  rw [if_neg hp] at hlk
  have hpg : ∀ {h' : Hp}, PgAt h' r (fun q => if q = page then -2 else pgOf s pid q) → PgAt h' r (pgOf (setPg s pid page (-2)) pid) := fun hq => hq.ext fun q => by rw [pgOf_setPg hw i1 i2 i3 i4]; simp
  refine ⟨_, hlk, iteP_nec (fun hc => ?_) fun hc => ?_⟩
  · have hg := refsOf_get (pg := s.pg) (f := (pgOf s pid page).toNat) (by omega)
    rw [show (((pgOf s pid page).toNat : Nat) : Int) = pgOf s pid page by omega] at hg
    refine ⟨by omega, by omega, _, hv.ref hg, by omega, by omega, ⟨_, hv.ref hg⟩, ?_, letH_iff.2 ?_⟩
    · rw [Addr.add_mk]; exact hv.fz _
    have hcl := hw.cnt_le (pgOf s pid page)
    rw [wrap64 (by omega) (by omega)]
    have hv2 := hv.setRef (i := pgOf s pid page) (x := cnt (pgOf s pid page) s.pg - 1) (by omega)
    rw [← refsOf_dec (x := -2) hat (by omega) (by decide)] at hv2
    have hst : Step h (setH h ((⟨v, 1, none⟩ : Addr).add ((pgOf s pid page).toNat * 1)) (.int .i64 (cnt (pgOf s pid page) s.pg - 1))) [v] [v] := by rw [Addr.add_mk]; exact Step.setH (by simp)
    have hsz : (setH h ((⟨v, 1, none⟩ : Addr).add ((pgOf s pid page).toNat * 1)) (.int .i64 (cnt (pgOf s pid page) s.pg - 1))).size = h.size := setH_size _ _ _
    refine (hv2.pages pid r hr).del fun h' h1 h2 h3 => ⟨rfl, hK h' ?_ ((hst.in1 foot_v).trans (h2.in1 (foot_r hr))) (by rw [h3, hsz]) ((hst.in1 (by simp)).trans (h2.in1 (by simp)))⟩
    exact hv2.setSpace hr (hpg h1) h2 (fun q p hq => by rw [pgOf_setPg hw i1 i2 i3 i4, if_neg (by rintro ⟨rfl, _⟩; exact hq rfl)]) (fun _ => rfl) rfl rfl rfl
  · refine (hv.pages pid r hr).del fun h' h1 h2 h3 => ⟨rfl, hK h' ?_ (h2.in1 (foot_r hr)) h3 (h2.in1 (by simp))⟩
    have e : refsOf (setPg s pid page (-2)).pg = refsOf s.pg := refsOf_nop hat (by omega) (by decide)
    rw [e]
    exact hv.setSpace hr (hpg h1) h2 (fun q p hq => by rw [pgOf_setPg hw i1 i2 i3 i4, if_neg (by rintro ⟨rfl, _⟩; exact hq rfl)]) (fun _ => rfl) rfl rfl rfl
set_option maxHeartbeats 1000000 in
theorem c_vm_own (hv : VmAt h v m f sb sl (refsOf s.pg) s) (hw : Wf s) {pid page : Int} {r : Nat} (hr : lkp pid sl = some r) (hp : pgOf s pid page ≠ -2) (hbad : ownS s pid page = none → K (.int .i64 4) h)
    (hok : ∀ s', ownS s pid page = some s' → ∀ h', VmAt h' v m f sb sl (refsOf s'.pg) s' → Wf s' → Step h h' (foot v m f sb sl) (foot v m f sb sl) → h'.size = h.size → K (.int .i64 0) h') :
    CallsH Try.prog f_vm_Vm_own #[.pointer (some ⟨v, 0, none⟩), .map (some r), .int .i64 page] h K := by
  refine q_vm_Vm_own_calls v r page h K ?_
  unfold q_vm_Vm_own
  obtain ⟨i1, i2, i3, i4⟩ := pgOf_in hp
  have hat := hw.at i1 i2 i3 i4
  have hle := hw.pg_le pid page
  have hn := hw.le
  have hhas : hasOf s pid = true := by rw [← hv.has pid, hr]; rfl
  have hlk := (hv.pages pid r hr).look page
  rw [if_neg hp] at hlk
  unfold ownS at hbad hok
  generalize hc : pgOf s pid page = c at *
  refine ⟨_, hlk, c_vm_alone hv c (by omega) (by omega) ⟨_, rfl, iteP_split (fun hb => ?_) fun hb => ?_⟩⟩
  · simp only [Bool.and_eq_true, bne_iff_ne, ne_eq, beq_iff_eq] at hb
    have hg := refsOf_get (pg := s.pg) (f := c.toNat) (by omega)
    rw [hg, show ((c.toNat : Nat) : Int) = c by omega] at hb
    rw [if_pos ⟨hb.1, by simpa using hb.2⟩] at hok
    exact hok s rfl h hv hw (Step.refl _ _) rfl
  have hnot : ¬ (c ≠ -1 ∧ cnt c s.pg = 1) := by
    rintro ⟨h1, h2⟩
    have hg := refsOf_get (pg := s.pg) (f := c.toNat) (by omega)
    rw [show ((c.toNat : Nat) : Int) = c by omega] at hg
    rw [hg, h2] at hb
    simp [h1] at hb
  rw [if_neg hnot] at hbad hok
  refine c_vm_next hv ?_
  cases hnx : nextF (refsOf s.pg) s.n with
  | none =>
    rw [hnx] at hbad
    exact ⟨_, _, rfl, iteP_t rfl (hbad rfl)⟩
  | some i =>
    rw [hnx] at hok
    obtain ⟨hi, hi0⟩ := nextF_spec hnx hn
    simp only at hok
    refine ⟨_, _, rfl, iteP_f rfl ?_⟩
    have hwf : ∀ (b : List Int) (cp : Int), Wf { s with b := b, pg := s.pg.set (ixOf pid page) i, cp := cp } := fun b cp =>
      (hw.setPg (x := (i : Int)) hhas i3 i4 (by omega) (by omega)).congr rfl rfl rfl
    have hpg : ∀ (b : List Int) (cp : Int) {h' : Hp}, PgAt h' r (fun q => if q = page then (i : Int) else pgOf s pid q) → PgAt h' r (pgOf { s with b := b, pg := s.pg.set (ixOf pid page) i, cp := cp } pid) := fun b cp _ hq =>
      hq.ext fun q => by have := pgOf_setPg hw (x := (i : Int)) (p := pid) (q := q) i1 i2 i3 i4; simp only [true_and] at this; exact this.symm
    have hoth : ∀ (b : List Int) (cp : Int) (q p : Int), q ≠ pid → pgOf { s with b := b, pg := s.pg.set (ixOf pid page) i, cp := cp } q p = pgOf s q p := fun b cp q p hq => by
      have := pgOf_setPg hw (x := (i : Int)) (p := q) (q := p) i1 i2 i3 i4
      rw [if_neg (by rintro ⟨rfl, _⟩; exact hq rfl)] at this
      exact this
    have hgi := refsOf_get (pg := s.pg) (f := i) (by omega)
    rw [hi0] at hgi
    refine iteP_eqc (fun hc1 => ?_) fun hc1 => ?_
    · rw [if_pos hc1] at hok
      refine ⟨_, hv.c0, c_mem_Zero hv.mem i (by omega) (by omega) fun h1 m1 st1 z1 => ?_⟩
      rw [show ((i : Nat) : Int).toNat * 32 = i * 32 by omega] at m1
      generalize over s.b (i * 32) (List.replicate 32 0) = B at *
      refine ⟨_, rfl, by omega, by omega, ?_⟩
      have hv1 := hv.setMem m1 st1
      have hgi' : (refsOf s.pg)[((i : Nat) : Int).toNat]? = some 0 := by simpa using hgi
      refine ⟨_, hv1.ref hgi', by omega, by omega, ⟨_, hv1.ref hgi'⟩, by rw [Addr.add_mk]; exact hv1.fz _, letH_iff.2 ?_⟩
      rw [wrap64 (by omega) (by omega)]
      have hv2 := hv1.setRef (i := (i : Int)) (x := 0 + 1) (by omega)
      have e : refsOf (s.pg.set (ixOf pid page) i) = (refsOf s.pg).set ((i : Nat) : Int).toNat (0 + 1) := by
        rw [refsOf_inc hat (by omega) (by omega), hi0]
      rw [← e] at hv2
      have st2 : Step h1 (setH h1 ((⟨v, 1, none⟩ : Addr).add (((i : Nat) : Int).toNat * 1)) (.int .i64 (0 + 1))) [v] [v] := by rw [Addr.add_mk]; exact Step.setH (by simp)
      have z2 : (setH h1 ((⟨v, 1, none⟩ : Addr).add (((i : Nat) : Int).toNat * 1)) (.int .i64 (0 + 1))).size = h1.size := setH_size _ _ _
      refine (hv2.pages pid r hr).set (by omega) fun h3 p3 st3 z3 => hok _ rfl h3 ?_ (hwf _ _) (((st1.in1 foot_f).trans (st2.in1 foot_v)).trans (st3.in1 (foot_r hr))) (by rw [z3, z2, z1])
      have q1 : ∀ q p, pgOf { s with b := B, cp := s.cp } q p = pgOf s q p := fun q p => pgOf_congr rfl q p
      refine hv2.setSpace (s' := { s with b := B, pg := s.pg.set (ixOf pid page) i, cp := s.cp }) hr (hpg B (s.cp) (p3.ext fun q => ?_)) st3 (fun q p hq => ?_) (fun q => ?_) rfl rfl rfl
      · show (if q = page then (i : Int) else pgOf _ pid q) = _
        rw [q1 pid q]
      · rw [q1 q p]; exact hoth B (s.cp) q p hq
      · exact hasOf_congr rfl q
    · rw [if_neg hc1] at hok
      refine ⟨_, hv.c0, c_mem_Copy hv.mem i c (by omega) (by omega) (by omega) (by omega) fun h1 m1 st1 z1 => ?_⟩
      rw [show ((i : Nat) : Int).toNat * 32 = i * 32 by omega] at m1
      generalize over s.b (i * 32) ((s.b.drop (c.toNat * 32)).take 32) = B at *
      refine ⟨_, rfl, by omega, by omega, ?_⟩
      have hv1 := hv.setMem m1 st1
      have hgc := refsOf_get (pg := s.pg) (f := c.toNat) (by omega)
      rw [show ((c.toNat : Nat) : Int) = c by omega] at hgc
      refine ⟨_, hv1.ref hgc, by omega, by omega, ⟨_, hv1.ref hgc⟩, by rw [Addr.add_mk]; exact hv1.fz _, letH_iff.2 ?_⟩
      have hcl := hw.cnt_le c
      rw [wrap64 (by omega) (by omega)]
      have hv2 := hv1.setRef (i := c) (x := cnt c s.pg - 1) (by omega)
      have st2 : Step h1 (setH h1 ((⟨v, 1, none⟩ : Addr).add (c.toNat * 1)) (.int .i64 (cnt c s.pg - 1))) [v] [v] := by rw [Addr.add_mk]; exact Step.setH (by simp)
      have z2 : (setH h1 ((⟨v, 1, none⟩ : Addr).add (c.toNat * 1)) (.int .i64 (cnt c s.pg - 1))).size = h1.size := setH_size _ _ _
      generalize setH h1 ((⟨v, 1, none⟩ : Addr).add (c.toNat * 1)) (.int .i64 (cnt c s.pg - 1)) = h2 at *
      refine ⟨_, hv2.c66, ⟨_, hv2.c66⟩, hv2.fz _, letH_iff.2 ?_⟩
      have hv3 := hv2.setCp (x := IntKind.wrap .i64 (s.cp + 1))
      have st3 : Step h2 (setH h2 ⟨v, 66, none⟩ (.int .i64 (IntKind.wrap .i64 (s.cp + 1)))) [v] [v] := Step.setH (by simp)
      have z3 : (setH h2 ⟨v, 66, none⟩ (.int .i64 (IntKind.wrap .i64 (s.cp + 1)))).size = h2.size := setH_size _ _ _
      show _ ∧ _
      refine ⟨by omega, by omega, ?_⟩
      have hic : c ≠ i := by
        rintro rfl
        have := cnt_pos hat
        omega
      have hgi' : ((refsOf s.pg).set c.toNat (cnt c s.pg - 1))[((i : Nat) : Int).toNat]? = some 0 := by
        rw [List.getElem?_set, if_neg (by omega)]; simpa using hgi
      generalize setH h2 ⟨v, 66, none⟩ (.int .i64 (IntKind.wrap .i64 (s.cp + 1))) = h3 at *
      refine ⟨_, hv3.ref hgi', by omega, by omega, ⟨_, hv3.ref hgi'⟩, by rw [Addr.add_mk]; exact hv3.fz _, letH_iff.2 ?_⟩
      rw [wrap64 (x := 0 + 1) (by omega) (by omega)]
      have hv4 := hv3.setRef (i := (i : Int)) (x := 0 + 1) (by omega)
      have e : refsOf (s.pg.set (ixOf pid page) i) = ((refsOf s.pg).set c.toNat (cnt c s.pg - 1)).set ((i : Nat) : Int).toNat (0 + 1) := by
        rw [refsOf_move hat (by omega) (by omega) (Ne.symm hic), hi0]
      rw [← e] at hv4
      have st4 : Step h3 (setH h3 ((⟨v, 1, none⟩ : Addr).add (((i : Nat) : Int).toNat * 1)) (.int .i64 (0 + 1))) [v] [v] := by rw [Addr.add_mk]; exact Step.setH (by simp)
      have z4 : (setH h3 ((⟨v, 1, none⟩ : Addr).add (((i : Nat) : Int).toNat * 1)) (.int .i64 (0 + 1))).size = h3.size := setH_size _ _ _
      refine (hv4.pages pid r hr).set (by omega) fun h5 p5 st5 z5 => hok _ rfl h5 ?_ (hwf _ _) ((((((st1.in1 foot_f).trans (st2.in1 foot_v)).trans (st3.in1 foot_v)).trans (st4.in1 foot_v))).trans (st5.in1 (foot_r hr))) (by rw [z5, z4, z3, z2, z1])
      have q1 : ∀ q p, pgOf { s with b := B, cp := IntKind.wrap .i64 (s.cp + 1) } q p = pgOf s q p := fun q p => pgOf_congr rfl q p
      refine hv4.setSpace (s' := { s with b := B, pg := s.pg.set (ixOf pid page) i, cp := IntKind.wrap .i64 (s.cp + 1) }) hr (hpg B (IntKind.wrap .i64 (s.cp + 1)) (p5.ext fun q => ?_)) st5 (fun q p hq => ?_) (fun q => ?_) rfl rfl rfl
      · show (if q = page then (i : Int) else pgOf _ pid q) = _
        rw [q1 pid q]
      · rw [q1 q p]; exact hoth B (IntKind.wrap .i64 (s.cp + 1)) q p hq
      · exact hasOf_congr rfl q
end
end Go.Proofs.Ytmdhfmljgjnggaa
/- What New, Begin, Map, Unmap, Peek, Poke, Copies, Left, Refs and Frame of package vm do. No condition. -/
namespace Go.Proofs.Ytmdhfmljgjnggaa
attribute [local irreducible] semWP

/-- Block v is such a memory of processes; the blocks F are its own. -/
def VmRep (h : Hp) (v : Nat) (s : VmS) (F : List Nat) : Prop := ∃ m f sb sl, F = foot v m f sb sl ∧ VmAt h v m f sb sl (refsOf s.pg) s ∧ Wf s
theorem VmRep.congr {h h' : Hp} {v : Nat} {s : VmS} {F : List Nat} (hv : VmRep h v s F) (he : ∀ r ∈ F, h'[r]? = h[r]?) : VmRep h' v s F := by
  obtain ⟨m, f, sb, sl, rfl, h1, h2⟩ := hv
  exact ⟨m, f, sb, sl, rfl, h1.congr he, h2⟩
theorem VmRep.lt {h : Hp} {v : Nat} {s : VmS} {F : List Nat} (hv : VmRep h v s F) : ∀ r ∈ F, r < h.size := by
  obtain ⟨m, f, sb, sl, rfl, h1, h2⟩ := hv
  exact h1.lt
theorem VmRep.ext {h h' : Hp} {v : Nat} {s : VmS} {F : List Nat} (hv : VmRep h v s F) (he : Ext h h') : VmRep h' v s F :=
  hv.congr fun r hr => he.frame r (hv.lt r hr) (by simp)
theorem VmRep.wf {h : Hp} {v : Nat} {s : VmS} {F : List Nat} (hv : VmRep h v s F) : Wf s := by
  obtain ⟨m, f, sb, sl, rfl, h1, h2⟩ := hv; exact h2

def newS (n : Nat) : VmS := { n := n, b := List.replicate (n * 32) 0, has := List.replicate 6 false, pg := List.replicate 96 (-2), cp := 0 }
def beginS (s : VmS) (pid : Int) : Int × VmS := if freshE s pid = 0 then (0, { s with has := s.has.set pid.toNat true }) else (freshE s pid, s)
def pageE (s : VmS) (pid page : Int) : Int := if hasOf s pid = false then 5 else if page < 0 ∨ 16 ≤ page then 2 else 0
def mapS (s : VmS) (pid page : Int) : Int × VmS := if pageE s pid page ≠ 0 then (pageE s pid page, s) else if pgOf s pid page ≠ -2 then (6, s) else (0, setPg s pid page (-1))
def unmapS (s : VmS) (pid page : Int) : Int × VmS := if pageE s pid page ≠ 0 then (pageE s pid page, s) else if pgOf s pid page = -2 then (10, s) else (0, setPg s pid page (-2))
def peekS (s : VmS) (pid addr : Int) : Int × Int :=
  if addrE s pid addr ≠ 0 then (0, addrE s pid addr) else if pgOf s pid (addr / 32) = -1 then (0, 0) else (byteAt s.b (pgOf s pid (addr / 32)) (addr % 32), 0)
def pokeS (s : VmS) (pid addr c : Int) : Int × VmS :=
  if addrE s pid addr ≠ 0 then (addrE s pid addr, s) else match ownS s pid (addr / 32) with
  | none => (4, s)
  | some s' => (0, { s' with b := s'.b.set (pgOf s' pid (addr / 32) * 32 + addr % 32).toNat c })
def leftL (rf : List Int) : Nat → Int
  | 0 => 0
  | n + 1 => leftL rf n + if (rf[n]?).getD 0 = 0 then 1 else 0
def leftS (s : VmS) : Int := leftL (refsOf s.pg) s.n
def refS (s : VmS) (f : Int) : Int := if f < 0 ∨ 64 ≤ f then 0 else cnt f s.pg
def frameS (s : VmS) (pid page : Int) : Int × Bool := if pgOf s pid page = -2 ∨ pgOf s pid page = -1 then (0, false) else (pgOf s pid page, true)

theorem hasOf_set {s : VmS} {pid q : Int} {x : Bool} (hw : s.has.length = 6) (h1 : 0 ≤ pid) (h2 : pid < 6) : hasOf { s with has := s.has.set pid.toNat x } q = if q = pid then x else hasOf s q := by
  unfold hasOf
  by_cases hr : 0 ≤ q ∧ q < 6
  · rw [if_pos hr, if_pos hr, List.getElem?_set]
    by_cases he : q = pid
    · subst he
      have : q.toNat < s.has.length := by rw [hw]; omega
      simp [this]
    · rw [if_neg he, if_neg (by omega)]
  · rw [if_neg hr, if_neg hr, if_neg (by omega)]
theorem freshE_ok {s : VmS} {pid : Int} (h : freshE s pid = 0) : 0 ≤ pid ∧ pid < 6 ∧ hasOf s pid = false := by
  unfold freshE at h
  split at h
  · cases h
  · split at h
    · cases h
    · rename_i h1 h2
      exact ⟨by omega, by omega, by simpa using h2⟩
theorem upd_new {α : Type} {n : Int} {x : α} {l : List (Int × α)} (h : lkp n l = none) : upd n x l = l ++ [(n, x)] := by
  induction l with
  | nil => rfl
  | cons p l ih =>
    obtain ⟨m, u⟩ := p
    simp only [lkp] at h
    split at h
    · cases h
    · rename_i hne
      simp only [upd, if_neg hne, ih h]; rfl
section
variable {h h' : Hp} {v m f sb : Nat} {sl : List (Int × Nat)} {rf : List Int} {s : VmS} {K : Value → Hp → Prop} {F : List Nat}
/-- A space is added, whose map is block blk. -/
theorem VmAt.add (hv : VmAt h v m f sb sl rf s) {s' : VmS} {pid : Int} {blk : Nat} (hb : h.size ≤ blk) (hh : hasOf s pid = false) (hk : ∀ r ∈ foot v m f sb sl, r ≠ sb → h'[r]? = h[r]?)
    (hm : MapAt .i64 h' sb (upd pid (.map (some blk)) (sl.map fun p => (p.1, .map (some p.2))))) (hp : PgAt h' blk (pgOf s' pid)) (ho : ∀ q page, q ≠ pid → pgOf s' q page = pgOf s q page) (hs : ∀ q, hasOf s' q = if q = pid then true else hasOf s q) (h1 : s'.n = s.n) (h2 : s'.b = s.b) (h3 : s'.cp = s.cp) :
    VmAt h' v m f sb (sl ++ [(pid, blk)]) rf s' := by
  obtain ⟨_, _, _, h4, h5, h6, h7⟩ := hv.vm_ne
  have hnone := hv.hasF hh
  have hu : upd pid blk sl = sl ++ [(pid, blk)] := upd_new hnone
  have hblk : blk ∉ sl.map (·.2) := fun hx => by
    have := hv.lt blk (by simp only [foot, List.mem_cons]; exact .inr (.inr (.inr (.inr hx))))
    omega
  refine ⟨by rw [hk v foot_v (Ne.symm h4), h3]; exact hv.vm, hv.rl, ?_, ?_, fun q r hr => ?_, fun q => ?_, ?_⟩
  · rw [h1, h2]
    exact hv.mem.congr (hk m (by simp [foot]) (Ne.symm h5)) (hk f foot_f (Ne.symm h6))
  · have e : upd pid (Value.map (some blk)) (sl.map fun p => (p.1, Value.map (some p.2))) = (upd pid blk sl).map fun p => (p.1, Value.map (some p.2)) := upd_map (fun x => Value.map (some x))
    rw [e, hu] at hm
    exact hm
  · rw [← hu, lkp_upd] at hr
    by_cases hq : q = pid
    · rw [if_pos hq] at hr; cases hr; rw [hq]; exact hp
    · rw [if_neg hq] at hr
      exact ((hv.pages q r hr).congr (hk r (foot_r hr) (h7 r (lkp_snd hr)).2.2.2)).ext fun page => (ho q page hq).symm
  · rw [← hu, lkp_upd, hs]
    by_cases hq : q = pid
    · rw [if_pos hq, if_pos hq]; rfl
    · rw [if_neg hq, if_neg hq]; exact hv.has q
  · have hnd := hv.nd
    rw [List.nodup_cons] at hnd
    rw [List.map_append, List.nodup_cons, List.nodup_append]
    refine ⟨?_, hnd.2, by simp, ?_⟩
    · simp only [List.mem_append, List.map_cons, List.map_nil, List.mem_singleton, not_or]
      refine ⟨hnd.1, ?_⟩
      rintro rfl
      have := hv.lt sb foot_sb
      omega
    · intro a ha b hb2
      simp only [List.map_cons, List.map_nil, List.mem_singleton] at hb2
      subst hb2
      rintro rfl
      exact hblk ha
theorem c_vm_Begin (hv : VmRep h v s F) (pid : Int) (hK : ∀ h' F', VmRep h' v (beginS s pid).2 F' → Step h h' F F' → K (.int .i64 (beginS s pid).1) h') :
    CallsH Try.prog f_vm_Vm_Begin #[.pointer (some ⟨v, 0, none⟩), .int .i64 pid] h K := by
  have hv0 := hv
  obtain ⟨m, f, sb, sl, rfl, hv, hw⟩ := hv
  refine q_vm_Vm_Begin_calls v pid h K ?_
  unfold q_vm_Vm_Begin
  unfold beginS at hK
  refine c_vm_fresh hv pid ⟨_, rfl, iteP_eqc (fun he => ?_) fun he => ?_⟩
  · rw [if_pos he] at hK
    obtain ⟨h1, h2, h3⟩ := freshE_ok he
    refine ⟨_, hv.c65, letH_iff.2 ?_⟩
    have hpush : ∀ r ∈ foot v m f sb sl, (h.push (.map #[] 0))[r]? = h[r]? := fun r hr => push_old (hv.lt r hr)
    have hv1 := hv.congr hpush
    refine semWP_mapUpdate (kt := T_int) (et := T_N_vm_space) (by kernel_rfl) (by kernel_rfl) hv1.sps fun h' m1 st1 z1 => ?_
    rw [he]
    have hblk : h.size ≠ sb := by have := hv.lt sb foot_sb; omega
    have hnew : PgAt h' h.size (fun _ => -2) := by
      have e : h'[h.size]? = (h.push (.map #[] 0))[h.size]? := st1.frame _ (by simp) (by simpa using hblk)
      exact ⟨[], (MapAt.new .i64 h).congr e, fun page => by simp [lkp]⟩
    have hv2 : VmAt h' v m f sb (sl ++ [(pid, h.size)]) (refsOf s.pg) { s with has := s.has.set pid.toNat true } := by
      refine hv.add (Nat.le_refl _) h3 (fun r hr hn => ?_) m1 (hnew.ext fun page => ?_) (fun q page hq => pgOf_congr rfl q page) (fun q => hasOf_set hw.lh h1 h2) rfl rfl rfl
      · rw [st1.frame r (by have := hv.lt r hr; simp; omega) (by simpa using hn), hpush r hr]
      · exact (hw.off pid page h3).symm.trans (pgOf_congr (by rfl) pid page)
    refine hK h' _ ⟨m, f, sb, _, rfl, hv2, ?_⟩ ?_
    · refine ⟨by simp [hw.lh], hw.lp, hw.pgs, fun q page hq => ?_, hw.le⟩
      rw [hasOf_set hw.lh h1 h2] at hq
      by_cases hqp : q = pid
      · rw [if_pos hqp] at hq; cases hq
      · rw [if_neg hqp] at hq; exact (pgOf_congr (by rfl) q page).trans (hw.off q page hq)
    · have := (Step.push (h := h) (o := .map #[] 0) (F := foot v m f sb sl)).trans (st1.in1 (F := h.size :: foot v m f sb sl) (by simp [foot]))
      refine this.mono (fun _ hr => hr) fun r hr => ?_
      simp only [foot, List.map_append, List.mem_cons, List.mem_append, List.map_cons, List.map_nil, List.mem_singleton] at hr ⊢
      left
      rcases hr with h4 | h4 | h4 | h4 | h4 | h4 | h4 <;> first | (simp [h4]; done) | (simp at h4)
  · rw [if_neg he] at hK
    exact hK h _ hv0 (Step.refl _ _)
theorem c_vm_Map (hv : VmRep h v s F) (pid page : Int) (hK : ∀ h' F', VmRep h' v (mapS s pid page).2 F' → Step h h' F F' → K (.int .i64 (mapS s pid page).1) h') :
    CallsH Try.prog f_vm_Vm_Map #[.pointer (some ⟨v, 0, none⟩), .int .i64 pid, .int .i64 page] h K := by
  have hv0 := hv
  obtain ⟨m, f, sb, sl, rfl, hv, hw⟩ := hv
  refine q_vm_Vm_Map_calls v pid page h K ?_
  unfold q_vm_Vm_Map
  unfold mapS at hK
  refine c_vm_page hv pid page (fun hh => ⟨_, _, _, rfl, iteP_ne (by decide) ?_⟩) (fun hh hp => ⟨_, _, _, rfl, iteP_ne (by decide) ?_⟩) fun r hh hr h1 h2 => ⟨_, _, _, rfl, iteP_nne rfl ?_⟩
  · rw [show pageE s pid page = 5 by simp [pageE, hh], if_pos (by decide)] at hK; exact hK h _ hv0 (Step.refl _ _)
  · rw [show pageE s pid page = 2 by simp [pageE, hh, hp], if_pos (by decide)] at hK; exact hK h _ hv0 (Step.refl _ _)
  rw [show pageE s pid page = 0 by unfold pageE; rw [if_neg (by simp [hh]), if_neg (by omega)], if_neg (by decide)] at hK
  by_cases hp : pgOf s pid page = -2
  · rw [if_neg (by simp [hp])] at hK
    refine iteP_f (by simp [hp]) ?_
    obtain ⟨i1, i2⟩ := hasOf_in hh
    have hat := hw.at i1 i2 h1 h2
    refine (hv.pages pid r hr).set (by decide) fun h' p1 st1 z1 => hK h' _ ⟨m, f, sb, sl, rfl, ?_, hw.setPg hh h1 h2 (by decide) (by have := hv.mem.pos; omega)⟩ (st1.in1 (foot_r hr))
    have e : refsOf (setPg s pid page (-1)).pg = refsOf s.pg := refsOf_nop hat (by omega) (by decide)
    rw [e]
    exact hv.setSpace hr (p1.ext fun q => by rw [pgOf_setPg hw i1 i2 h1 h2]; simp) st1 (fun q p hq => by rw [pgOf_setPg hw i1 i2 h1 h2, if_neg (by rintro ⟨rfl, _⟩; exact hq rfl)]) (fun _ => rfl) rfl rfl rfl
  · rw [if_pos hp] at hK
    exact iteP_t (by simpa using hp) (hK h _ hv0 (Step.refl _ _))
theorem c_vm_Unmap (hv : VmRep h v s F) (pid page : Int) (hK : ∀ h' F', VmRep h' v (unmapS s pid page).2 F' → Step h h' F F' → K (.int .i64 (unmapS s pid page).1) h') :
    CallsH Try.prog f_vm_Vm_Unmap #[.pointer (some ⟨v, 0, none⟩), .int .i64 pid, .int .i64 page] h K := by
  have hv0 := hv
  obtain ⟨m, f, sb, sl, rfl, hv, hw⟩ := hv
  refine q_vm_Vm_Unmap_calls v pid page h K ?_
  unfold q_vm_Vm_Unmap
  unfold unmapS at hK
  refine c_vm_page hv pid page (fun hh => ⟨_, _, _, rfl, iteP_ne (by decide) ?_⟩) (fun hh hp => ⟨_, _, _, rfl, iteP_ne (by decide) ?_⟩) fun r hh hr h1 h2 => ⟨_, _, _, rfl, iteP_nne rfl ?_⟩
  · rw [show pageE s pid page = 5 by simp [pageE, hh], if_pos (by decide)] at hK; exact hK h _ hv0 (Step.refl _ _)
  · rw [show pageE s pid page = 2 by simp [pageE, hh, hp], if_pos (by decide)] at hK; exact hK h _ hv0 (Step.refl _ _)
  rw [show pageE s pid page = 0 by unfold pageE; rw [if_neg (by simp [hh]), if_neg (by omega)], if_neg (by decide)] at hK
  by_cases hp : pgOf s pid page = -2
  · rw [if_pos hp] at hK
    exact iteP_t (by simp [hp]) (hK h _ hv0 (Step.refl _ _))
  · rw [if_neg hp] at hK
    refine iteP_f (by simpa using hp) ?_
    exact c_vm_drop hv hw hr hp fun h' hv' st1 z1 _ => ⟨rfl, hK h' _ ⟨m, f, sb, sl, rfl, hv', hw.setPg hh h1 h2 (by decide) (by omega)⟩ st1⟩
theorem c_vm_Peek (hv : VmRep h v s F) (pid addr : Int) (hK : K (.tuple #[.int .u8 (peekS s pid addr).1, .int .i64 (peekS s pid addr).2]) h) :
    CallsH Try.prog f_vm_Vm_Peek #[.pointer (some ⟨v, 0, none⟩), .int .i64 pid, .int .i64 addr] h K := by
  obtain ⟨m, f, sb, sl, rfl, hv, hw⟩ := hv
  refine q_vm_Vm_Peek_calls v pid addr h K ?_
  unfold q_vm_Vm_Peek
  unfold peekS at hK
  refine c_vm_at hv pid addr (fun hb => ⟨_, _, rfl, iteP_ne hb ?_⟩) fun r hh hr h1 h2 hp => ⟨_, _, rfl, iteP_nne rfl ?_⟩
  · rw [if_pos hb] at hK; exact hK
  have hz : addrE s pid addr = 0 := by unfold addrE; rw [if_neg (by simp [hh]), if_neg (by omega), if_neg hp]
  rw [if_neg (by simp [hz])] at hK
  have hlk := (hv.pages pid r hr).look (addr / 32)
  rw [if_neg hp] at hlk
  rw [tdiv32 h1 h2, tmod32 h1]
  have hle := hw.pg_le pid (addr / 32)
  refine ⟨_, hlk, iteP_eqc (fun hc => ?_) fun hc => ⟨_, hv.c0, ?_⟩⟩
  · rw [if_pos hc] at hK; exact hK
  · rw [if_neg hc] at hK
    exact c_mem_Byte hv.mem _ _ (fun hb => (hb ⟨by omega, by omega, by omega, by omega⟩).elim) fun _ _ _ _ => ⟨_, _, rfl, hK⟩
theorem c_vm_Poke (hv : VmRep h v s F) (pid addr c : Int) (hK : ∀ h' F', VmRep h' v (pokeS s pid addr c).2 F' → Step h h' F F' → K (.int .i64 (pokeS s pid addr c).1) h') :
    CallsH Try.prog f_vm_Vm_Poke #[.pointer (some ⟨v, 0, none⟩), .int .i64 pid, .int .i64 addr, .int .u8 c] h K := by
  have hv0 := hv
  obtain ⟨m, f, sb, sl, rfl, hv, hw⟩ := hv
  refine q_vm_Vm_Poke_calls v pid addr c h K ?_
  unfold q_vm_Vm_Poke
  unfold pokeS at hK
  refine c_vm_at hv pid addr (fun hb => ⟨_, _, rfl, iteP_ne hb ?_⟩) fun r hh hr h1 h2 hp => ⟨_, _, rfl, iteP_nne rfl ?_⟩
  · rw [if_pos hb] at hK; exact hK h _ hv0 (Step.refl _ _)
  have hz : addrE s pid addr = 0 := by unfold addrE; rw [if_neg (by simp [hh]), if_neg (by omega), if_neg hp]
  rw [if_neg (by simp [hz])] at hK
  rw [tdiv32 h1 h2, tmod32 h1]
  refine c_vm_own hv hw hr hp (fun hno => ⟨_, rfl, iteP_ne (by decide) ?_⟩) fun s' hs' h' hv' hw' st z => ⟨_, rfl, iteP_nne rfl ?_⟩
  · rw [hno] at hK; exact hK h _ hv0 (Step.refl _ _)
  rw [hs'] at hK
  obtain ⟨hp1, hp2⟩ := ownS_at hw hh hp hs'
  have hlk := (hv'.pages pid r hr).look (addr / 32)
  rw [if_neg (by omega)] at hlk
  have hle := hw'.pg_le pid (addr / 32)
  refine ⟨_, hv'.c0, _, hlk, ?_⟩
  refine c_mem_SetByte hv'.mem _ _ c (fun hb => (hb ⟨by omega, by omega, by omega, by omega⟩).elim) fun _ _ _ _ h2 m2 st2 z2 => ⟨_, rfl, hK h2 _ ⟨m, f, sb, sl, rfl, hv'.setMem m2 st2, hw'.congr rfl rfl rfl⟩ (st.trans (st2.in1 foot_f))⟩
where
  ownS_at {s s' : VmS} {pid page : Int} (hw : Wf s) (hh : hasOf s pid = true) (hp : pgOf s pid page ≠ -2) (hs : ownS s pid page = some s') : 0 ≤ pgOf s' pid page ∧ hasOf s' pid = true := by
    obtain ⟨i1, i2, i3, i4⟩ := pgOf_in hp
    have hle := hw.pg_le pid page
    unfold ownS at hs
    split at hs
    · cases hs; exact ⟨by omega, hh⟩
    · cases hx : nextF (refsOf s.pg) s.n with
      | none => rw [hx] at hs; cases hs
      | some i =>
        rw [hx] at hs
        simp only at hs
        have hg := pgOf_setPg hw (x := (i : Int)) (p := pid) (q := page) i1 i2 i3 i4
        rw [if_pos ⟨rfl, rfl⟩] at hg
        have h2 : s'.pg = (setPg s pid page i).pg ∧ s'.has = s.has := by
          split at hs
          · injection hs with hs; rw [← hs]; exact ⟨rfl, rfl⟩
          · injection hs with hs; rw [← hs]; exact ⟨rfl, rfl⟩
        rw [pgOf_congr h2.1, hg, hasOf_congr h2.2]
        exact ⟨by omega, hh⟩
theorem c_vm_Copies (hv : VmRep h v s F) (hK : K (.int .i64 s.cp) h) : CallsH Try.prog f_vm_Vm_Copies #[.pointer (some ⟨v, 0, none⟩)] h K := by
  obtain ⟨m, f, sb, sl, rfl, hv, hw⟩ := hv
  refine q_vm_Vm_Copies_calls v h K ?_
  unfold q_vm_Vm_Copies
  exact ⟨_, hv.c66, hK⟩
theorem leftL_le (rf : List Int) : ∀ n : Nat, 0 ≤ leftL rf n ∧ leftL rf n ≤ n := by
  intro n
  induction n with
  | zero => simp [leftL]
  | succ n ih => simp only [leftL]; split <;> omega
theorem c_vm_Left (hv : VmRep h v s F) (hK : K (.int .i64 (leftS s)) h) : CallsH Try.prog f_vm_Vm_Left #[.pointer (some ⟨v, 0, none⟩)] h K := by
  obtain ⟨m, f, sb, sl, rfl, hv, hw⟩ := hv
  refine q_vm_Vm_Left_calls v h K ?_
  unfold q_vm_Vm_Left
  have hn := hv.mem.le
  refine ⟨_, hv.c0, c_mem_Size hv.mem ⟨_, rfl, ?_⟩⟩
  refine ⟨fun a i h' => h' = h ∧ 0 ≤ i ∧ i ≤ s.n ∧ a = leftL (refsOf s.pg) i.toNat, fun _ i _ => ((s.n : Int) - i).toNat, ⟨rfl, by omega, by omega, rfl⟩, ?_⟩
  rintro a i h' ⟨rfl, h1, h2, rfl⟩
  have hb := leftL_le (refsOf s.pg) i.toNat
  refine iteP_cases (fun h3 => ⟨h1, by omega, ?_⟩) fun h3 => ?_
  · have hg := refsOf_get (pg := s.pg) (f := i.toNat) (by omega)
    refine ⟨_, hv.ref hg, ?_⟩
    have e : leftL (refsOf s.pg) (i + 1).toNat = leftL (refsOf s.pg) i.toNat + if cnt ((i.toNat : Nat) : Int) s.pg = 0 then 1 else 0 := by
      rw [show (i + 1).toNat = i.toNat + 1 by omega]; simp only [leftL, hg, Option.getD_some]
    rw [wrap64 (x := i + 1) (by omega) (by omega), wrap64 (x := leftL (refsOf s.pg) i.toNat + 1) (by omega) (by omega)]
    refine iteP_eqc (fun h4 => ⟨⟨rfl, by omega, by omega, ?_⟩, ?_⟩) fun h4 => ⟨⟨rfl, by omega, by omega, ?_⟩, ?_⟩
    · rw [e, if_pos h4]
    · show ((s.n : Int) - (i + 1)).toNat < ((s.n : Int) - i).toNat; omega
    · rw [e, if_neg h4]; omega
    · show ((s.n : Int) - (i + 1)).toNat < ((s.n : Int) - i).toNat; omega
  · have : i.toNat = s.n := by omega
    rw [this]; exact hK
theorem c_vm_Refs (hv : VmRep h v s F) (i : Int) (hK : K (.int .i64 (refS s i)) h) : CallsH Try.prog f_vm_Vm_Refs #[.pointer (some ⟨v, 0, none⟩), .int .i64 i] h K := by
  obtain ⟨m, f, sb, sl, rfl, hv, hw⟩ := hv
  refine q_vm_Vm_Refs_calls v i h K ?_
  unfold q_vm_Vm_Refs
  unfold refS at hK
  refine iteP_cases (fun h1 => ?_) fun h1 => iteP_cases (fun h2 => ?_) fun h2 => ?_
  · rw [if_pos (.inl h1)] at hK; exact hK
  · rw [if_pos (.inr h2)] at hK; exact hK
  · rw [if_neg (by omega)] at hK
    have hg := refsOf_get (pg := s.pg) (f := i.toNat) (by omega)
    rw [show ((i.toNat : Nat) : Int) = i by omega] at hg
    exact ⟨by omega, by omega, _, hv.ref hg, hK⟩
theorem c_vm_New (n : Int) (hbad : n < 1 ∨ 64 < n → K (.pointer none) h) (hok : 1 ≤ n → n ≤ 64 → ∀ h' v F', VmRep h' v (newS n.toNat) F' → Ext h h' → (∀ r ∈ F', h.size ≤ r) → K (.pointer (some ⟨v, 0, none⟩)) h') :
    CallsH Try.prog f_vm_New #[.int .i64 n] h K := by
  refine q_vm_New_calls n h K ?_
  unfold q_vm_New
  refine c_mem_New n (fun hb => ⟨_, rfl, iteP_t rfl (hbad hb)⟩) fun h1 h2 h' hm st z => ⟨_, rfl, iteP_f rfl ?_⟩
  refine letH_iff.2 (letH_iff.2 ?_)
  have hz : (zeroCells Try.prog T_N_vm_Vm).toList = .pointer none :: (List.replicate 64 (.int .i64 0) ++ [.map none, .int .i64 0]) := by kernel_rfl
  rw [hz]
  have e0 : (h'.push (Obj.map #[] 0)).size = h'.size + 1 := by simp
  have st2 : Ext h' ((h'.push (Obj.map #[] 0)).push (Obj.cells ⟨fillL (fillL (.pointer none :: (List.replicate 64 (.int .i64 0) ++ [.map none, .int .i64 0])) 0 [.pointer (some ⟨h.size + 1, 0, none⟩)]) 65 [.map (some h'.size)]⟩ T_N_vm_Vm)) := (Ext.push _ _).trans (Ext.push _ _)
  rw [e0]
  have hr0 : refsOf (List.replicate 96 (-2)) = List.replicate 64 0 := by kernel_rfl
  refine hok h1 h2 _ (h'.size + 1) _ ⟨h.size + 1, h.size, h'.size, [], rfl, ?_, ?_⟩ (st.trans st2) ?_
  · refine ⟨?_, ?_, ?_, ?_, ?_, ?_, by simp⟩
    · have := push_new (h'.push (Obj.map #[] 0)) (Obj.cells ⟨fillL (fillL (.pointer none :: (List.replicate 64 (.int .i64 0) ++ [.map none, .int .i64 0])) 0 [.pointer (some ⟨h.size + 1, 0, none⟩)]) 65 [.map (some h'.size)]⟩ T_N_vm_Vm)
      rw [e0] at this
      rw [this]
      show _ = some (Obj.cells ⟨.pointer (some ⟨h.size + 1, 0, none⟩) :: ((refsOf (List.replicate 96 (-2))).map (.int .i64) ++ [.map (some h'.size), .int .i64 0])⟩ T_N_vm_Vm (0, 0))
      rw [hr0]
      rfl
    · exact refsOf_length
    · exact hm.congr (st2.frame _ hm.ltm (by simp)) (st2.frame _ hm.ltf (by simp))
    · exact (MapAt.new .i64 h').congr (push_old (by simp))
    · intro pid r hr; simp [lkp] at hr
    · intro pid
      simp only [lkp, Option.isSome_none, hasOf, newS]
      split
      · rw [List.getElem?_replicate]; split <;> rfl
      · rfl
  · refine ⟨rfl, rfl, fun x hx => ?_, fun pid page _ => ?_, by show n.toNat ≤ 64; omega⟩
    · rw [List.eq_of_mem_replicate hx]; exact ⟨by decide, by show (-2 : Int) < (n.toNat : Int); omega⟩
    · simp only [pgOf, newS]
      split
      · rw [List.getElem?_replicate]; split <;> rfl
      · rfl
  · intro r hr
    simp only [foot, List.map_nil, List.mem_cons, List.not_mem_nil, or_false] at hr
    have := st.size
    rcases hr with rfl | rfl | rfl | rfl <;> omega
end
end Go.Proofs.Ytmdhfmljgjnggaa
/- What Fork of package vm does. No condition. -/
namespace Go.Proofs.Ytmdhfmljgjnggaa
attribute [local irreducible] semWP

def rowOf (s : VmS) (pid : Int) : List Int := (s.pg.drop (pid.toNat * 16)).take 16
def forkS (s : VmS) (a b : Int) : Int × VmS :=
  if hasOf s a = false then (5, s) else if freshE s b ≠ 0 then (freshE s b, s) else (0, { s with has := s.has.set b.toNat true, pg := over s.pg (b.toNat * 16) (rowOf s a) })

theorem rowOf_length {s : VmS} (hw : Wf s) {p : Int} (h1 : 0 ≤ p) (h2 : p < 6) : (rowOf s p).length = 16 := by
  unfold rowOf; rw [List.length_take, List.length_drop, hw.lp]; omega
theorem rowOf_get {s : VmS} (hw : Wf s) {p : Int} (h1 : 0 ≤ p) (h2 : p < 6) {i : Nat} (hi : i < 16) : (rowOf s p)[i]? = some (pgOf s p i) := by
  unfold rowOf
  rw [List.getElem?_take, if_pos hi, List.getElem?_drop]
  have := hw.at h1 h2 (page := (i : Int)) (by omega) (by omega)
  rw [← this]
  unfold ixOf
  congr 1
theorem rowOf_eq {s : VmS} (hw : Wf s) {p : Int} (h1 : 0 ≤ p) (h2 : p < 6) : rowOf s p = (List.range 16).map fun (i : Nat) => pgOf s p i := by
  apply List.ext_getElem?
  intro i
  by_cases hi : i < 16
  · rw [rowOf_get hw h1 h2 hi]; simp [hi]
  · rw [List.getElem?_eq_none (by rw [rowOf_length hw h1 h2]; omega), List.getElem?_eq_none (by simp; omega)]
theorem rowCnt {f : Int} (hf : f ≠ -2) : ∀ {l : List (Int × Int)} {g : Int → Int}, (keysOf l).Nodup → (∀ page, lkp page l = if g page = -2 then none else some (g page)) → (∀ page, g page ≠ -2 → 0 ≤ page ∧ page < 16) →
    cnt f (l.map (·.2)) = cnt f ((List.range 16).map fun (i : Nat) => g i) := by
  intro l
  induction l with
  | nil =>
    intro g _ h _
    have e : (List.range 16).map (fun (i : Nat) => g i) = List.replicate 16 (-2) := by
      apply List.ext_getElem?
      intro i
      by_cases hi : i < 16
      · have := h i
        simp only [lkp] at this
        have hg : g i = -2 := by
          by_cases hx : g i = -2
          · exact hx
          · rw [if_neg hx] at this; cases this
        rw [List.getElem?_map, List.getElem?_replicate, if_pos hi, List.getElem?_range hi]
        simp [hg]
      · rw [List.getElem?_eq_none (by simp; omega), List.getElem?_eq_none (by simp; omega)]
    rw [e, cnt_replicate (Ne.symm hf)]; rfl
  | cons x l ih =>
    intro g hn h hr
    obtain ⟨p, x⟩ := x
    simp only [keysOf, List.map_cons, List.nodup_cons] at hn
    have hp := h p
    simp only [lkp, if_true] at hp
    have hg2 : g p ≠ -2 := by intro hx; rw [if_pos hx] at hp; cases hp
    rw [if_neg hg2] at hp
    have hgx : x = g p := by injection hp
    obtain ⟨r1, r2⟩ := hr p hg2
    have h3 := ih (g := fun q => if q = p then -2 else g q) hn.2 (fun page => by
      have := h page
      simp only [lkp] at this
      by_cases hq : page = p
      · subst hq
        simp only [if_true]
        exact lkp_none.2 hn.1
      · rw [if_neg hq] at this
        simp only [if_neg hq]
        exact this) (fun page hx => by
        by_cases hq : page = p
        · simp [hq] at hx
        · simp only [if_neg hq] at hx; exact hr page hx)
    have e : (List.range 16).map (fun (i : Nat) => if (i : Int) = p then -2 else g i) = ((List.range 16).map fun (i : Nat) => g i).set p.toNat (-2) := by
      apply List.ext_getElem?
      intro i
      rw [List.getElem?_set]
      by_cases hi : i < 16
      · by_cases hq : p.toNat = i
        · rw [if_pos hq]; simp [show ((i : Nat) : Int) = p by omega, show p.toNat < 16 by omega, hi]
        · rw [if_neg hq]; simp [show ¬ ((i : Nat) : Int) = p by omega, hi]
      · rw [List.getElem?_eq_none (by simp; omega), if_neg (by omega), List.getElem?_eq_none (by simp; omega)]
    have hat : ((List.range 16).map fun (i : Nat) => g i)[p.toNat]? = some (g p) := by
      have : ((p.toNat : Nat) : Int) = p := by omega
      simp [this, show p.toNat < 16 by omega]
    simp only [List.map_cons, cnt, h3, e]
    rw [cnt_set hat, if_neg (Ne.symm hf), hgx]
    omega
theorem pgOf_fork {s : VmS} (hw : Wf s) {a b q page : Int} (a1 : 0 ≤ a) (a2 : a < 6) (b1 : 0 ≤ b) (b2 : b < 6) (has : List Bool) :
    pgOf { s with has := has, pg := over s.pg (b.toNat * 16) (rowOf s a) } q page = if q = b then pgOf s a page else pgOf s q page := by
  by_cases he : q = b
  · subst he
    rw [if_pos rfl]
    by_cases hr : 0 ≤ page ∧ page < 16
    · unfold pgOf
      rw [if_pos ⟨b1, b2, hr⟩, if_pos ⟨a1, a2, hr⟩]
      simp only
      rw [over_get (by rw [rowOf_length hw a1 a2, hw.lp]; omega), rowOf_length hw a1 a2]
      have := rowOf_get hw a1 a2 (i := page.toNat) (by omega)
      rw [show ((page.toNat : Nat) : Int) = page by omega] at this
      unfold pgOf at this
      rw [if_pos ⟨a1, a2, hr⟩] at this
      unfold ixOf at this ⊢
      rw [if_pos (by omega), show q.toNat * 16 + page.toNat - q.toNat * 16 = page.toNat by omega, this]
      rfl
    · unfold pgOf
      rw [if_neg (by omega), if_neg (by omega)]
  · rw [if_neg he]
    unfold pgOf
    by_cases hq : 0 ≤ q ∧ q < 6 ∧ 0 ≤ page ∧ page < 16
    · simp only [if_pos hq]
      rw [over_get (by rw [rowOf_length hw a1 a2, hw.lp]; omega), rowOf_length hw a1 a2]
      unfold ixOf
      rw [if_neg (by omega)]
    · simp only [if_neg hq]
theorem cnt_fork {s : VmS} (hw : Wf s) {a b f : Int} (a1 : 0 ≤ a) (a2 : a < 6) (b1 : 0 ≤ b) (b2 : b < 6) (hb : hasOf s b = false) (hf : f ≠ -2) :
    cnt f (over s.pg (b.toNat * 16) (rowOf s a)) = cnt f s.pg + cnt f (rowOf s a) := by
  rw [cnt_over (by rw [rowOf_length hw a1 a2, hw.lp]; omega), rowOf_length hw a1 a2]
  have e : (s.pg.drop (b.toNat * 16)).take 16 = List.replicate 16 (-2) := by
    show rowOf s b = _
    rw [rowOf_eq hw b1 b2]
    apply List.ext_getElem?
    intro i
    by_cases hi : i < 16
    · rw [List.getElem?_map, List.getElem?_replicate, if_pos hi, List.getElem?_range hi]
      simp [hw.off b i hb]
    · rw [List.getElem?_eq_none (by simp; omega), List.getElem?_eq_none (by simp; omega)]
  rw [e, cnt_replicate (Ne.symm hf)]; omega
theorem Wf.fork {s : VmS} (hw : Wf s) {a b : Int} (ha : hasOf s a = true) (b1 : 0 ≤ b) (b2 : b < 6) : Wf { s with has := s.has.set b.toNat true, pg := over s.pg (b.toNat * 16) (rowOf s a) } := by
  obtain ⟨a1, a2⟩ := hasOf_in ha
  refine ⟨by simp [hw.lh], by show (over _ _ _).length = 96; rw [over_length, hw.lp], fun x hx => ?_, fun q page hq => ?_, hw.le⟩
  · obtain ⟨i, hi⟩ := List.getElem?_of_mem hx
    have hi' : (over s.pg (b.toNat * 16) (rowOf s a))[i]? = some x := hi
    rw [over_get (by rw [rowOf_length hw a1 a2, hw.lp]; omega)] at hi'
    split at hi'
    · have h1 := List.mem_of_getElem? hi'
      exact hw.pgs x (List.mem_of_mem_drop (List.mem_of_mem_take h1))
    · exact hw.pgs x (List.mem_of_getElem? hi')
  · have hs := hasOf_set (q := q) (x := true) hw.lh b1 b2
    rw [hasOf_congr (s' := { s with has := s.has.set b.toNat true }) (by rfl) q, hs] at hq
    rw [pgOf_fork hw a1 a2 b1 b2]
    by_cases hqb : q = b
    · rw [if_pos hqb] at hq; cases hq
    · rw [if_neg hqb] at hq ⊢; exact hw.off q page hq

/-- How many entries are still to come. -/
def itLeft (h : Hp) (i r : Nat) : Nat := match h[i]?, h[r]? with
  | some (.mapIter _ _ seen _), some (.map es _) => (es.toList.filter fun e => !seen.contains e.born).length
  | _, _ => 0
theorem IterAt.left {k : IntKind} {h : Hp} {i r : Nat} {l left : List (Int × Value)} (hi : IterAt k h i r l left) : itLeft h i r = left.length := by
  obtain ⟨es, clk, seen, h1, h2, _, _, _, h3⟩ := hi
  have := congrArg List.length h3
  simp only [List.length_map] at this
  unfold itLeft
  rw [h1, h2]
  exact this
def ival : Value → Int
  | .int _ n => n
  | _ => 0
def refsLess (pg lv : List Int) : List Int := (List.range 64).map fun (f : Nat) => cnt (f : Int) pg - cnt (f : Int) lv
theorem refsLess_get {pg lv : List Int} {f : Nat} (h : f < 64) : (refsLess pg lv)[f]? = some (cnt f pg - cnt f lv) := by simp [refsLess, h]
theorem refsLess_nil {pg : List Int} : refsLess pg [] = refsOf pg := by simp [refsLess, refsOf, cnt]
theorem refsLess_length {pg lv : List Int} : (refsLess pg lv).length = 64 := by simp [refsLess]
theorem refsLess_perm {pg lv lv' : List Int} (h : ∀ f : Nat, cnt f lv = cnt f lv') : refsLess pg lv = refsLess pg lv' := by
  unfold refsLess
  apply List.map_congr_left
  intro f _
  rw [h f]
theorem refsLess_step {pg lv : List Int} {x : Int} (h1 : 0 ≤ x) (h2 : x < 64) : (refsLess pg (x :: lv)).set x.toNat (cnt x pg - cnt x lv) = refsLess pg lv := by
  apply List.ext_getElem?
  intro f
  rw [List.getElem?_set, refsLess_length]
  by_cases hf : f < 64
  · rw [refsLess_get hf, refsLess_get hf]
    by_cases he : x.toNat = f
    · rw [if_pos he, if_pos (by omega), show x = (f : Int) by omega]
    · rw [if_neg he]; simp only [cnt]; rw [if_neg (show ¬ x = (f : Int) by omega)]; simp
  · rw [if_neg (by omega), List.getElem?_eq_none (by rw [refsLess_length]; omega), List.getElem?_eq_none (by rw [refsLess_length]; omega)]
theorem refsLess_skip {pg lv : List Int} {x : Int} (h1 : x < 0) : refsLess pg (x :: lv) = refsLess pg lv := by
  apply refsLess_perm
  intro f
  simp only [cnt]
  rw [if_neg (by omega)]; simp
section
variable {h : Hp} {v : Nat} {s : VmS} {K : Value → Hp → Prop} {F : List Nat}
theorem c_maps_Clone {r : Nat} {l : List (Int × Value)} (ha : MapAt .i64 h r l) (hK : ∀ h', MapAt .i64 h' h.size l → Ext h h' → h'.size = h.size + 1 → K (.map (some h.size)) h') : CallsH Try.prog f_maps_Clone_vm_space_int_int #[.map (some r)] h K := by
  refine q_maps_Clone_vm_space_int_int_calls r h K ?_
  unfold q_maps_Clone_vm_space_int_int
  refine semWP_mapsClone (fun args h K hh => ?_) ha fun h' h1 h2 h3 => ⟨_, rfl, _, rfl, hK h' h1 h2 h3⟩
  have e : semWP Try.prog (callFunc f_maps_clone args) h K = semWP Try.prog (Extern.MapsClone.clone args >>= fun v => pure (Next.value v)) h K := by kernel_rfl
  rw [e, semWP_bind]
  exact semWP_mono _ _ _ _ (fun a h hx => by rw [semWP_ret]; exact hx) hh
theorem c_vm_Fork (hv : VmRep h v s F) (a b : Int) (hK : ∀ h' F', VmRep h' v (forkS s a b).2 F' → Step h h' F F' → K (.int .i64 (forkS s a b).1) h') :
    CallsH Try.prog f_vm_Vm_Fork #[.pointer (some ⟨v, 0, none⟩), .int .i64 a, .int .i64 b] h K := by
  have hv0 := hv
  obtain ⟨m, f, sb, sl, rfl, hv, hw⟩ := hv
  refine q_vm_Vm_Fork_calls v a b h K ?_
  unfold q_vm_Vm_Fork
  unfold forkS at hK
  refine c_vm_of hv a (fun hh => ⟨_, _, rfl, iteP_ne (by decide) ?_⟩) fun r hh hr => ⟨_, _, rfl, iteP_nne rfl ?_⟩
  · rw [if_pos hh] at hK; exact hK h _ hv0 (Step.refl _ _)
  rw [if_neg (by simp [hh])] at hK
  refine c_vm_fresh hv b ⟨_, rfl, iteP_nec (fun he => ?_) fun he => ?_⟩
  · rw [if_pos he] at hK; exact hK h _ hv0 (Step.refl _ _)
  rw [if_neg (by simp [he])] at hK
  obtain ⟨b1, b2, hb⟩ := freshE_ok he
  obtain ⟨a1, a2⟩ := hasOf_in hh
  have hab : a ≠ b := by rintro rfl; rw [hh] at hb; cases hb
  have hwf := hw.fork hh b1 b2 (s := s)
  have hcnt := fun f hf => cnt_fork hw (f := f) a1 a2 b1 b2 hb hf
  have hpgf := fun q page => pgOf_fork hw (q := q) (page := page) a1 a2 b1 b2 (s.has.set b.toNat true)
  obtain ⟨l, hl, hlk⟩ := hv.pages a r hr
  refine ⟨_, hv.c65, c_maps_Clone hl fun h1 m1 st1 z1 => ⟨_, rfl, ?_⟩⟩
  have hv1 := hv.congr (h' := h1) fun r' hr' => st1.frame r' (hv.lt r' hr') (by simp)
  refine ⟨⟨_, hv1.c65, rfl⟩, ?_⟩
  refine semWP_mapUpdate (kt := T_int) (et := T_N_vm_space) (by kernel_rfl) (by kernel_rfl) hv1.sps fun h2 m2 st2 z2 => ?_
  have hsb : sb < h.size := hv.lt sb foot_sb
  have hv2 : VmAt h2 v m f sb (sl ++ [(b, h.size)]) (refsOf s.pg) { s with has := s.has.set b.toNat true, pg := over s.pg (b.toNat * 16) (rowOf s a) } := by
    refine hv.add (Nat.le_refl _) hb (fun r' hr' hn => ?_) m2 ?_ (fun q page hq => by rw [hpgf, if_neg hq]) (fun q => ?_) rfl rfl rfl
    · rw [st2.frame r' (by have := hv.lt r' hr'; omega) (by simpa using hn), st1.frame r' (hv.lt r' hr') (by simp)]
    · refine ⟨l, m1.congr (st2.frame _ (by omega) (by simp; omega)), fun page => ?_⟩
      rw [hpgf, if_pos rfl]; exact hlk page
    · rw [hasOf_congr (s' := { s with has := s.has.set b.toNat true }) (by rfl) q]; exact hasOf_set hw.lh b1 b2
  generalize hs' : ({ s with has := s.has.set b.toNat true, pg := over s.pg (b.toNat * 16) (rowOf s a) } : VmS) = s' at *
  have hpg' : s'.pg = over s.pg (b.toNat * 16) (rowOf s a) := by rw [← hs']
  have hr2 : lkp a (sl ++ [(b, h.size)]) = some r := by
    rw [← upd_new (hv.hasF hb), lkp_upd, if_neg hab]; exact hr
  have hl2 : MapAt .i64 h2 r (l.map fun p => (p.1, .int .i64 p.2)) := by
    have h7 := hv.vm_ne.2.2.2.2.2.2 r (lkp_snd hr)
    have hrl := hv.lt r (foot_r hr)
    exact hl.congr (by rw [st2.frame r (by omega) (by simpa using h7.2.2.2), st1.frame r hrl (by simp)])
  have hrow : ∀ f : Int, f ≠ -2 → cnt f (l.map (·.2)) = cnt f (rowOf s a) := fun f hf => by
    rw [rowOf_eq hw a1 a2]
    refine rowCnt hf ?_ hlk fun page hp => (pgOf_in hp).2.2
    have := hl.nodup
    have e : keysOf (l.map fun p => (p.1, Value.int .i64 p.2)) = keysOf l := keysOf_map (Value.int .i64)
    rwa [e] at this
  have hvals : ∀ q ∈ l.map (fun p => ((p.1, Value.int .i64 p.2) : Int × Value)), ∃ x, q.2 = .int .i64 x ∧ -1 ≤ x ∧ x < 64 := by
    intro q hq
    obtain ⟨⟨p, x⟩, hm, rfl⟩ := List.mem_map.1 hq
    have hn : (keysOf l).Nodup := by
      have := hl.nodup
      have e : keysOf (l.map fun p => (p.1, Value.int .i64 p.2)) = keysOf l := keysOf_map (Value.int .i64)
      rwa [e] at this
    have h3 := mem_lkp hn hm
    rw [hlk] at h3
    split at h3
    · cases h3
    · rename_i h4
      have h5 := hw.pg_le a p
      have h6 := hw.le
      injection h3 with h3
      subst h3
      exact ⟨_, rfl, by omega, by omega⟩
  have hrf : refsOf s.pg = refsLess s'.pg ((l.map fun p => ((p.1, Value.int .i64 p.2) : Int × Value)).map fun q => ival q.2) := by
    unfold refsOf refsLess
    apply List.map_congr_left
    intro f _
    have e : (l.map fun p => ((p.1, Value.int .i64 p.2) : Int × Value)).map (fun q => ival q.2) = l.map (·.2) := by
      rw [List.map_map]; rfl
    rw [e, hpg', hcnt f (by omega), hrow f (by omega)]; omega
  have hlecnt : ∀ f : Nat, cnt f ((l.map fun p => ((p.1, Value.int .i64 p.2) : Int × Value)).map fun q => ival q.2) ≤ cnt f s'.pg := by
    intro f
    have e : (l.map fun p => ((p.1, Value.int .i64 p.2) : Int × Value)).map (fun q => ival q.2) = l.map (·.2) := by
      rw [List.map_map]; rfl
    rw [e, hpg', hcnt f (by omega), hrow f (by omega)]
    have := cnt_nonneg (f := (f : Int)) (l := s.pg)
    omega
  rw [hrf] at hv2
  generalize hL : (l.map fun p => ((p.1, Value.int .i64 p.2) : Int × Value)) = L at *
  refine semWP_range (kt := T_int) (et := T_int) (by kernel_rfl) hl2 fun h3 it3 st3 z3 => ⟨_, rfl, ?_⟩
  generalize hi : h2.size = i at *
  have hi0 : h.size < i := by omega
  have hfoot : ∀ r' ∈ foot v m f sb (sl ++ [(b, h.size)]), r' < i := fun r' hr' => by have := hv2.lt r' hr'; omega
  refine ⟨fun hc => ∃ left, IterAt .i64 hc i r L left ∧ (∀ q ∈ left, ∃ x, q.2 = .int .i64 x ∧ -1 ≤ x ∧ x < 64) ∧ (∀ f : Nat, cnt f (left.map fun q => ival q.2) ≤ cnt f s'.pg) ∧ VmAt hc v m f sb (sl ++ [(b, h.size)]) (refsLess s'.pg (left.map fun q => ival q.2)) s' ∧ Step h3 hc [v, i] [v, i], fun hc => itLeft hc i r, ⟨L, it3, hvals, hlecnt, hv2.congr fun r' hr' => st3.frame r' (by have := hfoot r' hr'; omega) (by simp), Step.refl _ _⟩, ?_⟩
  rintro hc ⟨left, it, hvl, hle, hvc, stc⟩
  have hri : r < i := hfoot r (foot_r hr2)
  refine semWP_next it (by omega) (fun h0 => ⟨_, _, rfl, ?_⟩) fun p left' h4 hperm it4 cur4 st4 z4 => ⟨_, _, rfl, ?_⟩
  · rw [iteP_false]
    subst h0
    simp only [List.map_nil, refsLess_nil] at hvc
    refine hK hc _ ⟨m, f, sb, _, rfl, hvc, hwf⟩ ⟨?_, fun r' h5 h6 => ?_, fun r' h5 => ?_⟩
    · have := stc.size; omega
    · rw [stc.frame r' (by omega) (by simp only [List.mem_cons, List.not_mem_nil, or_false, not_or]; exact ⟨fun e => h6 (e ▸ foot_v), by omega⟩), st3.frame r' (by omega) (by simp), st2.frame r' (by omega) (by simp only [List.mem_singleton]; exact fun e => h6 (e ▸ foot_sb)), st1.frame r' h5 (by simp)]
    · simp only [foot, List.map_append, List.mem_cons, List.mem_append, List.map_cons, List.map_nil] at h5 ⊢
      rcases h5 with h7 | h7 | h7 | h7 | h7 | h7 | h7
      · simp [h7]
      · simp [h7]
      · simp [h7]
      · simp [h7]
      · simp [h7]
      · right; omega
      · simp at h7
  · rw [iteP_true]
    obtain ⟨x, hx1, hx2, hx3⟩ := hvl p (hperm.mem_iff.2 (by simp))
    have hent := runs_entry (P := Try.prog) cur4
    rw [hx1] at hent
    have hv4 := hvc.congr (h' := h4) fun r' hr' => st4.frame r' (hvc.lt r' hr') (by simp only [List.mem_singleton]; have := hfoot r' hr'; omega)
    have hpc : ∀ f : Nat, cnt f (left.map fun q => ival q.2) = cnt f (x :: left'.map fun q => ival q.2) := fun f => by
      have := cnt_perm (f := (f : Int)) (hperm.map fun q => ival q.2)
      rw [this]
      simp only [List.map_cons, hx1, ival]
    rw [refsLess_perm hpc] at hv4
    have hvl' : ∀ q ∈ left', ∃ x, q.2 = .int .i64 x ∧ -1 ≤ x ∧ x < 64 := fun q hq => hvl q (hperm.mem_iff.2 (by simp [hq]))
    have hle' : ∀ f : Nat, cnt f (left'.map fun q => ival q.2) ≤ cnt f s'.pg := fun f => by
      have h5 := hle f
      rw [hpc f] at h5
      simp only [cnt] at h5
      split at h5 <;> omega
    have hmu : itLeft h4 i r < itLeft hc i r := by
      rw [it.left, it4.left, hperm.length_eq]; simp
    refine ⟨_, _, hent, iteP_nec (fun hne => ?_) fun hne => ?_⟩
    · have hcl : 0 ≤ cnt x s'.pg ∧ cnt x s'.pg ≤ 96 := hwf.cnt_le x
      have hln := hle x.toNat
      rw [hpc, show ((x.toNat : Nat) : Int) = x by omega] at hln
      have hl0 := cnt_nonneg (f := x) (l := x :: left'.map fun q => ival q.2)
      have hg := refsLess_get (pg := s'.pg) (lv := x :: left'.map fun q => ival q.2) (f := x.toNat) (by omega)
      rw [show ((x.toNat : Nat) : Int) = x by omega] at hg
      refine ⟨by omega, by omega, _, hv4.ref hg, by omega, by omega, ⟨_, hv4.ref hg⟩, by rw [Addr.add_mk]; exact hv4.fz _, letH_iff.2 ?_⟩
      rw [wrap64 (by omega) (by omega)]
      have e : cnt x s'.pg - cnt x (x :: left'.map fun q => ival q.2) + 1 = cnt x s'.pg - cnt x (left'.map fun q => ival q.2) := by
        simp only [cnt, if_true]; omega
      have hv5 := hv4.setRef (i := x) (x := cnt x s'.pg - cnt x (x :: left'.map fun q => ival q.2) + 1) (by omega)
      rw [e, refsLess_step (by omega) hx3, ← e] at hv5
      have st5 : Step h4 (setH h4 ((⟨v, 1, none⟩ : Addr).add (x.toNat * 1)) (.int .i64 (cnt x s'.pg - cnt x (x :: left'.map fun q => ival q.2) + 1))) [v, i] [v, i] := by rw [Addr.add_mk]; exact Step.setH (by simp)
      have hvi : v ≠ i := by have := hfoot v foot_v; omega
      have hvr : v ≠ r := fun hx => (hv2.vm_ne.2.2.2.2.2.2 r (lkp_snd hr2)).1 hx.symm
      have o5 : ∀ r', r' ≠ v → (setH h4 ((⟨v, 1, none⟩ : Addr).add (x.toNat * 1)) (.int .i64 (cnt x s'.pg - cnt x (x :: left'.map fun q => ival q.2) + 1)))[r']? = h4[r']? := fun r' hr' => by rw [Addr.add_mk]; exact setH_other hr'
      generalize setH h4 ((⟨v, 1, none⟩ : Addr).add (x.toNat * 1)) (.int .i64 (cnt x s'.pg - cnt x (x :: left'.map fun q => ival q.2) + 1)) = h5 at *
      have it5 := it4.congr (h' := h5) (o5 i (Ne.symm hvi)) (o5 r (Ne.symm hvr))
      refine ⟨⟨left', it5, hvl', hle', hv5, stc.trans ((st4.in1 (by simp)).trans st5)⟩, ?_⟩
      show itLeft h5 i r < itLeft hc i r
      rw [it.left, it5.left, hperm.length_eq]; simp
    · rw [hne, refsLess_skip (by decide)] at hv4
      exact ⟨⟨left', it4, hvl', hle', hv4, stc.trans (st4.in1 (by simp))⟩, hmu⟩
end
end Go.Proofs.Ytmdhfmljgjnggaa
