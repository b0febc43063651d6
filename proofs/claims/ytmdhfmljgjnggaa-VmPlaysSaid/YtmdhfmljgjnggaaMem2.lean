/- Rows of cells: overwriting, clearing, copying, making; cloning a map and ranging over one. No condition. -/
import Derived.Test.YtmdhfmljgjnggaaMem
namespace Go.Proofs.Ytmdhfmljgjnggaa

theorem iteP_true (x y : Prop) : iteP true x y = x := rfl
theorem iteP_false (x y : Prop) : iteP false x y = y := rfl
theorem condP_true (x : Prop) : condP true x = x := rfl
theorem wrap64 {x : Int} (h1 : -9223372036854775808 ≤ x) (h2 : x ≤ 9223372036854775807) : IntKind.wrap .i64 x = x := by
  have e : ((2 : Int) ^ (64 : Nat)) = 18446744073709551616 := by decide
  have e2 : ((2 : Int) ^ (63 : Nat)) = 9223372036854775808 := by decide
  simp only [IntKind.wrap, IntKind.bits, IntKind.signed, Bool.true_and, show (64 - 1 : Nat) = 63 from rfl, e, e2]
  split
  · rename_i h; simp only [ge_iff_le, decide_eq_true_eq] at h; omega
  · rename_i h; simp only [ge_iff_le, decide_eq_true_eq] at h; omega
theorem wrap8 (x : Int) : IntKind.wrap .u8 x = x % 256 := by
  have e : ((2 : Int) ^ (8 : Nat)) = 256 := by decide
  simp only [IntKind.wrap, IntKind.bits, IntKind.signed, Bool.false_and, Bool.false_eq_true, if_false, e]
theorem tdiv_nn {x : Int} {n : Nat} (h : 0 ≤ x) : Int.tdiv x n = x / n := Int.tdiv_eq_ediv_of_nonneg h
theorem tmod_nn {x : Int} {n : Nat} (h : 0 ≤ x) : Int.tmod x n = x % n := Int.tmod_eq_emod_of_nonneg h

/-- A row with some elements laid over it from a place on. -/
def over {α : Type} (zs : List α) (off : Nat) : List α → List α
  | [] => zs
  | c :: cs => over (zs.set off c) (off + 1) cs
theorem over_length {α : Type} : ∀ {cs zs : List α} {off : Nat}, (over zs off cs).length = zs.length := by
  intro cs
  induction cs with
  | nil => intro zs off; rfl
  | cons c cs ih => intro zs off; simp only [over]; rw [ih]; simp
theorem over_get {α : Type} : ∀ {cs zs : List α} {off i : Nat}, off + cs.length ≤ zs.length → (over zs off cs)[i]? = if off ≤ i ∧ i < off + cs.length then cs[i - off]? else zs[i]? := by
  intro cs
  induction cs with
  | nil => intro zs off i h; simp only [over]; rw [if_neg (by simp)]
  | cons c cs ih =>
    intro zs off i h
    simp only [List.length_cons] at h
    simp only [over]
    rw [ih (by simp; omega)]
    by_cases h1 : off + 1 ≤ i ∧ i < off + 1 + cs.length
    · rw [if_pos h1, if_pos (by simp; omega)]
      rw [show i - off = (i - (off + 1)) + 1 by omega]; simp
    · rw [if_neg h1]
      by_cases h2 : i = off
      · subst h2
        rw [if_pos (by simp)]
        simp [show i < zs.length by omega]
      · rw [if_neg (by simp; omega), List.getElem?_set, if_neg (fun e => h2 e.symm)]
theorem fillL_over : ∀ (cs zs : List Value) (off : Nat), fillL zs off cs = over zs off cs := by
  intro cs
  induction cs with
  | nil => intro zs off; rfl
  | cons c cs ih => intro zs off; simp only [fillL, over, ih]
theorem over_map {α β : Type} (f : α → β) : ∀ (cs zs : List α) (off : Nat), (over zs off cs).map f = over (zs.map f) off (cs.map f) := by
  intro cs
  induction cs with
  | nil => intro zs off; rfl
  | cons c cs ih => intro zs off; simp only [over, List.map_cons, ih, List.map_set]

theorem setL_size : ∀ {vs : List Value} {h : Hp} {a : Addr} {i : Nat}, (setL h a vs i).size = h.size := by
  intro vs
  induction vs with
  | nil => intro h a i; rfl
  | cons v vs ih => intro h a i; simp only [setL]; rw [ih, setH_size]
theorem setL_other : ∀ {vs : List Value} {h : Hp} {b o i r : Nat}, r ≠ b → (setL h ⟨b, o, none⟩ vs i)[r]? = h[r]? := by
  intro vs
  induction vs with
  | nil => intro h b o i r _; rfl
  | cons v vs ih => intro h b o i r hr; simp only [setL]; rw [ih hr, Addr.add_mk, setH_other hr]
theorem setL_same : ∀ {vs : List Value} {h : Hp} {b o i : Nat} {c : Array Value} {e : TypeId} {f : Nat × Nat}, h[b]? = some (.cells c e f) → (setL h ⟨b, o, none⟩ vs i)[b]? = some (.cells ⟨over c.toList (o + i) vs⟩ e f) := by
  intro vs
  induction vs with
  | nil => intro h b o i c e f hb; exact hb
  | cons v vs ih =>
    intro h b o i c e f hb
    simp only [setL, Addr.add_mk]
    rw [ih (setH_same hb)]
    simp only [over, Array.toList_setIfInBounds]
    rfl
section
variable {P : Program}
theorem semWP_storeCells {h : Hp} {b o : Nat} {vs : List Value} {c : Array Value} {e : TypeId} {K : Unit → Hp → Prop} (hb : h[b]? = some (.cells c e (0, 0))) (hv : ∀ v ∈ vs, oneV v = true) (hle : o + vs.length ≤ c.size)
    (hK : ∀ h', h'[b]? = some (.cells ⟨over c.toList o vs⟩ e (0, 0)) → Step h h' [b] [b] → h'.size = h.size → K () h') : semWP P (storeCells ⟨b, o, none⟩ vs) h K := by
  refine storeCells_wp (storeL_row hv ?_ ?_)
  · intro j hj
    rw [Addr.add_mk, cellAt_cells hb, frozenAt_cells hb]
    have : o + (0 + j) < c.size := by omega
    exact ⟨⟨c[o + (0 + j)], by simp [this]⟩, rfl⟩
  · have := setL_same (vs := vs) (o := o) (i := 0) hb
    exact hK _ this ⟨by rw [setL_size]; exact Nat.le_refl _, fun r _ hf => setL_other (by simpa using hf), fun _ hr => .inl hr⟩ setL_size
theorem semWP_loadCells {h : Hp} {b o n : Nat} {c : Array Value} {e : TypeId} {f : Nat × Nat} {K : Array Value → Hp → Prop} (hb : h[b]? = some (.cells c e f)) (hle : o + n ≤ c.size) (hK : K ((c.toList.drop o).take n).toArray h) : semWP P (loadCells ⟨b, o, none⟩ n) h K := by
  refine loadCellsFrom_wp n 0 #[] ((c.toList.drop o).take n) (by simp; omega) ?_ (by simpa using hK)
  intro j hj
  rw [Addr.add_mk, cellAt_cells hb, List.getElem?_take, if_pos hj, List.getElem?_drop]
  simp
/-- clear(s). -/
theorem semWP_clear {z : Value} {t el ty : TypeId} {tys : Array TypeId} {h : Hp} {b o n cp : Nat} {c : Array Value} {e : TypeId} {K : Value → Hp → Prop} (ht : tys[0]? = some t) (hd : P.underlying t = some (.slice el)) (hz : hasZero P el = true) (hz1 : (zeroCells P el).toList = [z]) (ho : oneV z = true)
    (hn : n ≠ 0) (hb : h[b]? = some (.cells c e (0, 0))) (hle : o + n ≤ c.size)
    (hK : ∀ h', h'[b]? = some (.cells ⟨over c.toList o (List.replicate n z)⟩ e (0, 0)) → Step h h' [b] [b] → h'.size = h.size → K (.tuple #[]) h') : semWP P (Builtin.clear_ tys ty #[.slice (some ⟨b, o, none⟩) n cp]) h K := by
  have hcells : (Builtin.zeroCells (zeroOf P el).cells n).toList = List.replicate n z := by
    have h1 : (zeroOf P el).cells.size = 1 := by have := congrArg List.length hz1; simpa [zeroCells] using this
    have h0 : (zeroOf P el).cells[0]! = z := by
      have : (zeroOf P el).cells.toList[0]? = some z := by rw [show (zeroOf P el).cells.toList = [z] from hz1]; rfl
      rw [Array.getElem?_toList] at this
      simp [getElem!_def, this]
    unfold Builtin.zeroCells
    rw [h1]
    simp only [Nat.mod_one, Nat.mul_one, Array.toList_map, Array.toList_range]
    rw [h0]
    apply List.ext_getElem?
    intro i
    simp [List.getElem?_replicate, List.getElem?_range]
    by_cases hi : i < n <;> simp [hi]
  simp only [Builtin.clear_, ht, semWP_bind, List.getElem?_toArray, List.getElem?_cons_zero, semWP_underlying hd]
  have : semWP P (zeroValue el) h fun z' h' => semWP P (storeCells ⟨b, o, none⟩ (Builtin.zeroCells z'.cells n).toList) h' fun _ h' => K (.tuple #[]) h' := by
    rw [semWP_zeroValue hz, hcells]
    exact semWP_storeCells hb (by intro v hv; rw [List.eq_of_mem_replicate hv]; exact ho) (by simpa using hle) hK
  cases n with
  | zero => exact (hn rfl).elim
  | succ n => simpa only [semWP_bind, semWP_ret] using this
end
end Go.Proofs.Ytmdhfmljgjnggaa
