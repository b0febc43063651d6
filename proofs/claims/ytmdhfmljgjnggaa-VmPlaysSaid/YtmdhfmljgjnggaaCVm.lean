/- What the small functions of package vm do. No condition. -/
import Derived.Test.YtmdhfmljgjnggaaQvm
import Derived.Test.YtmdhfmljgjnggaaVmS
namespace Go.Proofs.Ytmdhfmljgjnggaa
attribute [local irreducible] semWP

theorem lkp_map {α β : Type} (g : α → β) {n : Int} {l : List (Int × α)} : lkp n (l.map fun p => (p.1, g p.2)) = (lkp n l).map g := by
  induction l with
  | nil => rfl
  | cons p l ih => simp only [List.map_cons, lkp]; split <;> simp [*]
theorem upd_map {α β : Type} (g : α → β) {n : Int} {v : α} {l : List (Int × α)} : upd n (g v) (l.map fun p => (p.1, g p.2)) = (upd n v l).map fun p => (p.1, g p.2) := by
  induction l with
  | nil => rfl
  | cons p l ih => simp only [List.map_cons, upd]; split <;> simp [*]
theorem del_map {α β : Type} (g : α → β) {n : Int} {l : List (Int × α)} : del n (l.map fun p => (p.1, g p.2)) = (del n l).map fun p => (p.1, g p.2) := by
  induction l with
  | nil => rfl
  | cons p l ih => simp only [List.map_cons, del]; split <;> simp [*]
theorem keysOf_map {α β : Type} (g : α → β) {l : List (Int × α)} : keysOf (l.map fun p => (p.1, g p.2)) = keysOf l := by simp [keysOf]

/-- Block r holds a map from int to int that reads as g (-2: not there). -/
def PgAt (h : Hp) (r : Nat) (g : Int → Int) : Prop := ∃ l : List (Int × Int), MapAt .i64 h r (l.map fun p => (p.1, .int .i64 p.2)) ∧ ∀ page, lkp page l = if g page = -2 then none else some (g page)
theorem PgAt.congr {h h' : Hp} {r : Nat} {g : Int → Int} (hp : PgAt h r g) (he : h'[r]? = h[r]?) : PgAt h' r g := by
  obtain ⟨l, h1, h2⟩ := hp; exact ⟨l, h1.congr he, h2⟩
theorem PgAt.lt {h : Hp} {r : Nat} {g : Int → Int} (hp : PgAt h r g) : r < h.size := by obtain ⟨l, h1, _⟩ := hp; exact h1.lt
theorem PgAt.ne {h : Hp} {r s : Nat} {g : Int → Int} (hp : PgAt h r g) {c : Array Value} {e : TypeId} {f : Nat × Nat} (hs : h[s]? = some (.cells c e f)) : r ≠ s := by
  obtain ⟨l, h1, _⟩ := hp; exact h1.ne_cells hs
theorem PgAt.ext {h : Hp} {r : Nat} {g g' : Int → Int} (hp : PgAt h r g) (he : ∀ page, g page = g' page) : PgAt h r g' := by
  obtain ⟨l, h1, h2⟩ := hp; exact ⟨l, h1, fun page => by rw [← he]; exact h2 page⟩
theorem PgAt.look {h : Hp} {r : Nat} {g : Int → Int} (hp : PgAt h r g) (page : Int) : RunsTo Try.prog (Instr.lookup T_N_vm_space (.map (some r)) (.int .i64 page) false) h (.int .i64 (if g page = -2 then 0 else g page)) := by
  obtain ⟨l, h1, h2⟩ := hp
  have := runs_lookup (P := Try.prog) (t := T_N_vm_space) (kt := T_int) (et := T_int) (n := page) (by kernel_rfl) (by kernel_rfl) (by kernel_rfl) h1 false
  rw [lkp_map, h2, show zeroOf Try.prog T_int = .int .i64 0 by kernel_rfl] at this
  by_cases hg : g page = -2
  · simpa [hg] using this
  · simpa [hg] using this
theorem PgAt.look2 {h : Hp} {r : Nat} {g : Int → Int} (hp : PgAt h r g) (page : Int) : RunsTo Try.prog (Instr.lookup T_N_vm_space (.map (some r)) (.int .i64 page) true) h (.tuple #[.int .i64 (if g page = -2 then 0 else g page), .bool (g page != -2)]) := by
  obtain ⟨l, h1, h2⟩ := hp
  have := runs_lookup (P := Try.prog) (t := T_N_vm_space) (kt := T_int) (et := T_int) (n := page) (by kernel_rfl) (by kernel_rfl) (by kernel_rfl) h1 true
  rw [lkp_map, h2, show zeroOf Try.prog T_int = .int .i64 0 by kernel_rfl] at this
  by_cases hg : g page = -2
  · simpa [hg] using this
  · have e : (g page != -2) = true := by simpa using hg
    rw [e]
    simpa [hg] using this
theorem PgAt.set {h : Hp} {r : Nat} {g : Int → Int} (hp : PgAt h r g) {page x : Int} (hx : x ≠ -2) {K : Unit → Hp → Prop}
    (hK : ∀ h', PgAt h' r (fun q => if q = page then x else g q) → Step h h' [r] [r] → h'.size = h.size → K () h') : semWP Try.prog (Instr.mapUpdate T_N_vm_space (.map (some r)) (.int .i64 page) (.int .i64 x)) h K := by
  obtain ⟨l, h1, h2⟩ := hp
  refine semWP_mapUpdate (kt := T_int) (et := T_int) (by kernel_rfl) (by kernel_rfl) h1 fun h' h3 h4 h5 => hK h' ⟨upd page x l, ?_, fun q => ?_⟩ h4 h5
  · rw [← upd_map (Value.int .i64)]; exact h3
  · rw [lkp_upd, h2]
    by_cases hq : q = page
    · simp [hq, hx]
    · simp [hq]
theorem PgAt.del {h : Hp} {r : Nat} {g : Int → Int} (hp : PgAt h r g) {page : Int} {K : Value → Hp → Prop}
    (hK : ∀ h', PgAt h' r (fun q => if q = page then -2 else g q) → Step h h' [r] [r] → h'.size = h.size → K (.tuple #[]) h') : semWP Try.prog (Builtin.delete_ #[T_N_vm_space, T_int] T_x #[.map (some r), .int .i64 page]) h K := by
  obtain ⟨l, h1, h2⟩ := hp
  have hn : (keysOf l).Nodup := by have := h1.nodup; rwa [keysOf_map] at this
  refine semWP_delete (t := T_N_vm_space) (kt := T_int) (et := T_int) (by rfl) (by kernel_rfl) (by kernel_rfl) h1 fun h' h3 h4 h5 => hK h' ⟨Go.Proofs.Ytmdhfmljgjnggaa.del page l, ?_, fun q => ?_⟩ h4 h5
  · rw [← del_map (Value.int .i64)]; exact h3
  · rw [lkp_del hn, h2]
    by_cases hq : q = page
    · simp [hq]
    · simp [hq]

/-- Blocks v (the struct), m and f (its memory), sb (the map of spaces, sl: each one's block); rf: what stands in refs. -/
structure VmAt (h : Hp) (v m f sb : Nat) (sl : List (Int × Nat)) (rf : List Int) (s : VmS) : Prop where
  vm : h[v]? = some (.cells ⟨.pointer (some ⟨m, 0, none⟩) :: (rf.map (.int .i64) ++ [.map (some sb), .int .i64 s.cp])⟩ T_N_vm_Vm (0, 0))
  rl : rf.length = 64
  mem : MemAt h m f s.n s.b
  sps : MapAt .i64 h sb (sl.map fun p => (p.1, .map (some p.2)))
  pages : ∀ pid r, lkp pid sl = some r → PgAt h r (pgOf s pid)
  has : ∀ pid, (lkp pid sl).isSome = hasOf s pid
  nd : (sb :: sl.map (·.2)).Nodup
def foot (v m f sb : Nat) (sl : List (Int × Nat)) : List Nat := v :: m :: f :: sb :: sl.map (·.2)
section
variable {h h' : Hp} {v m f sb : Nat} {sl : List (Int × Nat)} {rf : List Int} {s : VmS} {K : Value → Hp → Prop}
theorem lkp_snd {α : Type} {n : Int} {r : α} {l : List (Int × α)} (h : lkp n l = some r) : r ∈ l.map (·.2) := List.mem_map.2 ⟨_, lkp_mem h, rfl⟩
theorem VmAt.congr (hv : VmAt h v m f sb sl rf s) (he : ∀ r ∈ foot v m f sb sl, h'[r]? = h[r]?) : VmAt h' v m f sb sl rf s :=
  ⟨by rw [he v (by simp [foot])]; exact hv.vm, hv.rl, hv.mem.congr (he m (by simp [foot])) (he f (by simp [foot])), hv.sps.congr (he sb (by simp [foot])),
   fun pid r hr => (hv.pages pid r hr).congr (he r (by simp only [foot, List.mem_cons]; exact .inr (.inr (.inr (.inr (lkp_snd hr)))))), hv.has, hv.nd⟩
theorem VmAt.keys (hv : VmAt h v m f sb sl rf s) : (keysOf sl).Nodup := by
  have := hv.sps.nodup
  have e : keysOf (sl.map fun p => (p.1, Value.map (some p.2))) = keysOf sl := keysOf_map (fun x => Value.map (some x))
  rwa [e] at this
theorem VmAt.lt (hv : VmAt h v m f sb sl rf s) : ∀ r ∈ foot v m f sb sl, r < h.size := by
  intro r hr
  simp only [foot, List.mem_cons] at hr
  rcases hr with rfl | rfl | rfl | rfl | hr
  · exact lt_of_at hv.vm
  · exact lt_of_at hv.mem.mem
  · exact lt_of_at hv.mem.fr
  · exact hv.sps.lt
  · obtain ⟨⟨pid, r'⟩, hm, rfl⟩ := List.mem_map.1 hr
    exact (hv.pages pid r' (mem_lkp hv.keys hm)).lt
theorem VmAt.blk (hv : VmAt h v m f sb sl rf s) {r : Nat} (hr : r ∈ sl.map (·.2)) : ∃ pid, lkp pid sl = some r := by
  obtain ⟨⟨pid, r'⟩, hm, rfl⟩ := List.mem_map.1 hr
  exact ⟨pid, mem_lkp hv.keys hm⟩
/-- Blocks that the struct, the memory and its frames are: none is another, nor a map. -/
theorem VmAt.vm_ne (hv : VmAt h v m f sb sl rf s) : v ≠ m ∧ v ≠ f ∧ m ≠ f ∧ sb ≠ v ∧ sb ≠ m ∧ sb ≠ f ∧ ∀ r ∈ sl.map (·.2), r ≠ v ∧ r ≠ m ∧ r ≠ f ∧ r ≠ sb := by
  refine ⟨ne_cells hv.vm hv.mem.mem (by decide), ne_cells hv.vm hv.mem.fr (by decide), hv.mem.ne, hv.sps.ne_cells hv.vm, hv.sps.ne_cells hv.mem.mem, hv.sps.ne_cells hv.mem.fr, fun r hr => ?_⟩
  obtain ⟨pid, hp⟩ := hv.blk hr
  have h1 := hv.pages pid r hp
  refine ⟨h1.ne hv.vm, h1.ne hv.mem.mem, h1.ne hv.mem.fr, ?_⟩
  have := hv.nd
  rw [List.nodup_cons] at this
  rintro rfl
  exact this.1 hr
theorem VmAt.c0 (hv : VmAt h v m f sb sl rf s) : cellAt h ⟨v, 0, none⟩ = some (.pointer (some ⟨m, 0, none⟩)) := by rw [cellAt_cells hv.vm]; rfl
theorem VmAt.c65 (hv : VmAt h v m f sb sl rf s) : cellAt h ⟨v, 65, none⟩ = some (.map (some sb)) := by
  rw [cellAt_cells hv.vm]
  simp [List.getElem?_append, hv.rl]
theorem VmAt.c66 (hv : VmAt h v m f sb sl rf s) : cellAt h ⟨v, 66, none⟩ = some (.int .i64 s.cp) := by
  rw [cellAt_cells hv.vm]
  simp [List.getElem?_append, hv.rl]
theorem VmAt.ref (hv : VmAt h v m f sb sl rf s) {i : Int} {x : Int} (hx : rf[i.toNat]? = some x) : cellAt h ((⟨v, 1, none⟩ : Addr).add (Int.toNat i * 1)) = some (.int .i64 x) := by
  rw [Addr.add_mk, cellAt_cells hv.vm]
  obtain ⟨this, hx2⟩ := List.getElem?_eq_some_iff.1 hx
  rw [show 1 + i.toNat * 1 = i.toNat + 1 by omega]
  simp [List.getElem?_append, this, hx2]
theorem VmAt.fz (hv : VmAt h v m f sb sl rf s) (o : Nat) : frozenAt h ⟨v, o, none⟩ = false := frozenAt_cells hv.vm
theorem VmAt.setRef (hv : VmAt h v m f sb sl rf s) {i x : Int} (hi : i.toNat < 64) : VmAt (setH h ((⟨v, 1, none⟩ : Addr).add (Int.toNat i * 1)) (.int .i64 x)) v m f sb sl (rf.set i.toNat x) s := by
  rw [Addr.add_mk, show 1 + i.toNat * 1 = i.toNat + 1 by omega]
  obtain ⟨h1, h2, h3, h4, h5, h6, h7⟩ := hv.vm_ne
  have ho : ∀ r, r ≠ v → (setH h ⟨v, i.toNat + 1, none⟩ (.int .i64 x))[r]? = h[r]? := fun r hr => setH_other hr
  refine ⟨?_, by simp [hv.rl], hv.mem.congr (ho m (Ne.symm h1)) (ho f (Ne.symm h2)), hv.sps.congr (ho sb h4), fun pid r hr => (hv.pages pid r hr).congr (ho r (h7 r (lkp_snd hr)).1), hv.has, hv.nd⟩
  rw [setH_same hv.vm]
  have : i.toNat < (rf.map (Value.int .i64)).length := by rw [List.length_map, hv.rl]; exact hi
  simp only [List.setIfInBounds_toArray, List.set_cons_succ, List.set_append, this, if_true, List.map_set]
theorem VmAt.setCp (hv : VmAt h v m f sb sl rf s) {x : Int} : VmAt (setH h ⟨v, 66, none⟩ (.int .i64 x)) v m f sb sl rf { s with cp := x } := by
  obtain ⟨h1, h2, h3, h4, h5, h6, h7⟩ := hv.vm_ne
  have ho : ∀ r, r ≠ v → (setH h ⟨v, 66, none⟩ (.int .i64 x))[r]? = h[r]? := fun r hr => setH_other hr
  refine ⟨?_, hv.rl, hv.mem.congr (ho m (Ne.symm h1)) (ho f (Ne.symm h2)), hv.sps.congr (ho sb h4), fun pid r hr => (hv.pages pid r hr).congr (ho r (h7 r (lkp_snd hr)).1), hv.has, hv.nd⟩
  rw [setH_same hv.vm]
  have : ¬ 65 < (rf.map (Value.int .i64)).length := by rw [List.length_map, hv.rl]; decide
  simp only [List.setIfInBounds_toArray, List.set_cons_succ, List.set_append, this, if_false, List.length_map, hv.rl]
  rfl
theorem VmAt.setMem (hv : VmAt h v m f sb sl rf s) {b : List Int} (hm : MemAt h' m f s.n b) (hs : Step h h' [f] [f]) : VmAt h' v m f sb sl rf { s with b := b } := by
  obtain ⟨h1, h2, h3, h4, h5, h6, h7⟩ := hv.vm_ne
  have ho : ∀ r ∈ foot v m f sb sl, r ≠ f → h'[r]? = h[r]? := fun r hr hn => hs.frame r (hv.lt r hr) (by simpa using hn)
  refine ⟨by rw [ho v (by simp [foot]) h2]; exact hv.vm, hv.rl, hm, hv.sps.congr (ho sb (by simp [foot]) h6), fun pid r hr => (hv.pages pid r hr).congr (ho r (by simp only [foot, List.mem_cons]; exact .inr (.inr (.inr (.inr (lkp_snd hr))))) (h7 r (lkp_snd hr)).2.2.1), hv.has, hv.nd⟩
/-- A space's block is changed. -/
theorem VmAt.setSpace (hv : VmAt h v m f sb sl rf s) {pid : Int} {r : Nat} {s' : VmS} (hr : lkp pid sl = some r) (hp : PgAt h' r (pgOf s' pid)) (hs : Step h h' [r] [r]) (ho : ∀ q page, q ≠ pid → pgOf s' q page = pgOf s q page) (hh : ∀ q, hasOf s' q = hasOf s q) (h1 : s'.n = s.n) (h2 : s'.b = s.b) (h3 : s'.cp = s.cp) :
    VmAt h' v m f sb sl rf s' := by
  obtain ⟨_, _, _, _, _, _, h7⟩ := hv.vm_ne
  have h8 := h7 r (lkp_snd hr)
  have hk : ∀ q ∈ foot v m f sb sl, q ≠ r → h'[q]? = h[q]? := fun q hq hn => hs.frame q (hv.lt q hq) (by simpa using hn)
  refine ⟨by rw [hk v (by simp [foot]) (Ne.symm h8.1), h3]; exact hv.vm, hv.rl, ?_, hv.sps.congr (hk sb (by simp [foot]) (Ne.symm h8.2.2.2)), fun q r' hr' => ?_, fun q => by rw [hh]; exact hv.has q, hv.nd⟩
  · rw [h1, h2]
    exact hv.mem.congr (hk m (by simp [foot]) (Ne.symm h8.2.1)) (hk f (by simp [foot]) (Ne.symm h8.2.2.1))
  · by_cases hq : q = pid
    · subst hq; rw [hr] at hr'; cases hr'; exact hp
    · have hne : r' ≠ r := by
        rintro rfl
        have hnd := hv.nd
        rw [List.nodup_cons] at hnd
        have := nodup_snd hnd.2 hr hr'
        exact hq this.symm
      refine ((hv.pages q r' hr').congr (hk r' ?_ hne)).ext fun page => (ho q page hq).symm
      simp only [foot, List.mem_cons]; exact .inr (.inr (.inr (.inr (lkp_snd hr'))))
where
  nodup_snd {l : List (Int × Nat)} {p q : Int} {r : Nat} (hn : (l.map (·.2)).Nodup) (h1 : lkp p l = some r) (h2 : lkp q l = some r) : p = q := by
    have a := lkp_mem h1
    have b := lkp_mem h2
    induction l with
    | nil => cases a
    | cons x l ih =>
      simp only [List.map_cons, List.nodup_cons] at hn
      rcases List.mem_cons.1 a with e1 | a
      · rcases List.mem_cons.1 b with e2 | b
        · rw [← e1] at e2; cases e2; rfl
        · exact (hn.1 (List.mem_map.2 ⟨_, b, by rw [← e1]⟩)).elim
      · rcases List.mem_cons.1 b with e2 | b
        · exact (hn.1 (List.mem_map.2 ⟨_, a, by rw [← e2]⟩)).elim
        · exact ih hn.2 (by
            simp only [lkp] at h1
            split at h1
            · exact absurd (List.mem_map.2 ⟨_, a, rfl⟩) (by rw [show r = x.2 by cases h1; rfl]; exact hn.1)
            · exact h1) (by
            simp only [lkp] at h2
            split at h2
            · exact absurd (List.mem_map.2 ⟨_, a, rfl⟩) (by rw [show r = x.2 by cases h2; rfl]; exact hn.1)
            · exact h2) a b
end
end Go.Proofs.Ytmdhfmljgjnggaa
