/- Memory as a row of objects: what a store, a new block, a map's operation does to it. No condition. -/
import Derived.Test.YtmdhfmljgjnggaaCodeSound
namespace Go.Proofs.Ytmdhfmljgjnggaa

theorem Addr.add_mk (b o n : Nat) : (⟨b, o, none⟩ : Addr).add n = ⟨b, o + n, none⟩ := by
  unfold Addr.add
  split
  · rename_i h; subst h; rfl
  · rfl
theorem wth_some {α : Type} (a : α) (K : α → Prop) : wth (some a) K = K a := rfl
theorem cellAt_cells {h : Hp} {b o : Nat} {c : Array Value} {e : TypeId} {f : Nat × Nat} (hb : h[b]? = some (.cells c e f)) : cellAt h ⟨b, o, none⟩ = c[o]? := by
  simp [cellAt, hb]
theorem frozenAt_cells {h : Hp} {b o : Nat} {c : Array Value} {e : TypeId} (hb : h[b]? = some (.cells c e (0, 0))) : frozenAt h ⟨b, o, none⟩ = false := by
  simp [frozenAt, hb]
theorem setH_size (h : Hp) (a : Addr) (v : Value) : (setH h a v).size = h.size := by simp [setH]
theorem setH_other {h : Hp} {a : Addr} {v : Value} {r : Nat} (hr : r ≠ a.block) : (setH h a v)[r]? = h[r]? := by
  unfold setH
  rw [Array.getElem?_modify, if_neg (fun e => hr e.symm)]
theorem setH_same {h : Hp} {b o : Nat} {v : Value} {c : Array Value} {e : TypeId} {f : Nat × Nat} (hb : h[b]? = some (.cells c e f)) : (setH h ⟨b, o, none⟩ v)[b]? = some (.cells (c.setIfInBounds o v) e f) := by
  unfold setH
  rw [Array.getElem?_modify, if_pos rfl, hb]
  rfl
theorem push_old {h : Hp} {o : Obj} {r : Nat} (hr : r < h.size) : (h.push o)[r]? = h[r]? := by rw [Array.getElem?_push, if_neg (by omega)]
theorem push_new (h : Hp) (o : Obj) : (h.push o)[h.size]? = some o := by simp
theorem lt_of_at {h : Hp} {r : Nat} {o : Obj} (hr : h[r]? = some o) : r < h.size := by
  rcases Nat.lt_or_ge r h.size with h1 | h1
  · exact h1
  · simp [Array.getElem?_eq_none h1] at hr
theorem ne_of_at {h : Hp} {r s : Nat} {o p : Obj} (hr : h[r]? = some o) (hs : h[s]? = some p) (hop : o ≠ p) : r ≠ s := by
  rintro rfl
  rw [hr] at hs
  exact hop (Option.some.inj hs)

theorem ne_cells {h : Hp} {r s : Nat} {c c' : Array Value} {e e' : TypeId} {f f' : Nat × Nat} (hr : h[r]? = some (.cells c e f)) (hs : h[s]? = some (.cells c' e' f')) (he : e ≠ e') : r ≠ s :=
  ne_of_at hr hs (fun x => he (by injection x))

/-- From memory h to memory h': only the blocks of F are changed, and new ones made; what one has behind it is of F, or new. -/
structure Step (h h' : Hp) (F F' : List Nat) : Prop where
  size : h.size ≤ h'.size
  frame : ∀ r, r < h.size → r ∉ F → h'[r]? = h[r]?
  foot : ∀ r ∈ F', r ∈ F ∨ h.size ≤ r
theorem Step.refl (h : Hp) (F : List Nat) : Step h h F F := ⟨Nat.le_refl _, fun _ _ _ => rfl, fun _ hr => .inl hr⟩
theorem Step.trans {h h1 h2 : Hp} {F F1 F2 : List Nat} (a : Step h h1 F F1) (b : Step h1 h2 F1 F2) : Step h h2 F F2 := by
  refine ⟨Nat.le_trans a.size b.size, fun r hr hf => ?_, fun r hr => ?_⟩
  · rw [b.frame r (Nat.lt_of_lt_of_le hr a.size) ?_, a.frame r hr hf]
    intro h1
    rcases a.foot r h1 with h2 | h2
    · exact hf h2
    · omega
  · rcases b.foot r hr with h1 | h1
    · exact a.foot r h1
    · exact .inr (Nat.le_trans a.size h1)
theorem Step.mono {h h' : Hp} {F F' G G' : List Nat} (a : Step h h' F F') (hF : ∀ r ∈ F, r ∈ G) (hG : ∀ r ∈ G', r ∈ F' ∨ r ∈ G) : Step h h' G G' := by
  refine ⟨a.size, fun r hr hg => a.frame r hr fun hf => hg (hF r hf), fun r hr => ?_⟩
  rcases hG r hr with h1 | h1
  · rcases a.foot r h1 with h2 | h2
    · exact .inl (hF r h2)
    · exact .inr h2
  · exact .inl h1
/-- Only new blocks. -/
abbrev Ext (h h' : Hp) : Prop := Step h h' [] []
theorem Step.ext {h h' : Hp} {F F' : List Nat} (a : Ext h h') (hs : ∀ r ∈ F', r ∈ F) : Step h h' F F' := a.mono (by simp) fun r hr => .inr (hs r hr)
theorem Ext.at {h h' : Hp} (a : Ext h h') {r : Nat} {o : Obj} (hr : h[r]? = some o) : h'[r]? = some o := by
  rw [a.frame r (lt_of_at hr) (by simp), hr]
theorem Ext.push (h : Hp) (o : Obj) : Ext h (h.push o) := ⟨by simp, fun r hr _ => push_old hr, by simp⟩
theorem Step.at {h h' : Hp} {F F' : List Nat} (a : Step h h' F F') {r : Nat} {o : Obj} (hr : h[r]? = some o) (hf : r ∉ F) : h'[r]? = some o := by
  rw [a.frame r (lt_of_at hr) hf, hr]
theorem Step.setH {h : Hp} {b o : Nat} {v : Value} {F : List Nat} (hb : b ∈ F) : Step h (setH h ⟨b, o, none⟩ v) F F :=
  ⟨by rw [setH_size]; exact Nat.le_refl _, fun r _ hf => setH_other (fun e => hf (e ▸ hb)), fun _ hr => .inl hr⟩
theorem Step.push {h : Hp} {o : Obj} {F : List Nat} : Step h (h.push o) F (h.size :: F) :=
  ⟨by simp, fun r hr _ => push_old hr, fun r hr => by rcases List.mem_cons.1 hr with rfl | h1 <;> simp [*]⟩
theorem Step.setObj {h : Hp} {b : Nat} {o : Obj} {F : List Nat} (hb : b ∈ F) : Step h (h.setIfInBounds b o) F F :=
  ⟨by simp, fun r _ hf => by rw [Array.getElem?_setIfInBounds, if_neg (show ¬ b = r from fun e => hf (e ▸ hb))], fun _ hr => .inl hr⟩
/-- What lies aside stays, and stays aside. -/
theorem Step.aside {h h' : Hp} {F F' G : List Nat} (a : Step h h' F F') (hG : ∀ r ∈ G, r < h.size ∧ r ∉ F) : (∀ r ∈ G, h'[r]? = h[r]?) ∧ ∀ r ∈ G, r < h'.size ∧ r ∉ F' := by
  refine ⟨fun r hr => a.frame r (hG r hr).1 (hG r hr).2, fun r hr => ⟨Nat.lt_of_lt_of_le (hG r hr).1 a.size, fun h1 => ?_⟩⟩
  rcases a.foot r h1 with h2 | h2
  · exact (hG r hr).2 h2
  · have := (hG r hr).1; omega

/-! ### Maps keyed by integers -/
def keysOf {α : Type} (l : List (Int × α)) : List Int := l.map (·.1)
/-- Block r holds a map that reads as l, in the order in which the entries came. -/
structure MapAt (k : IntKind) (h : Hp) (r : Nat) (l : List (Int × Value)) : Prop where
  is : ∃ (es : Array MapEntry) (clk : Nat), h[r]? = some (.map es clk) ∧ es.toList.map (fun e => (e.key, e.val)) = l.map (fun p => (.int k p.1, p.2)) ∧ (es.toList.map (·.born)).Nodup ∧ ∀ e ∈ es.toList, e.born < clk
  nodup : (keysOf l).Nodup
theorem MapAt.congr {k : IntKind} {h h' : Hp} {r : Nat} {l : List (Int × Value)} (hm : MapAt k h r l) (he : h'[r]? = h[r]?) : MapAt k h' r l :=
  ⟨by rw [he]; exact hm.is, hm.nodup⟩
theorem MapAt.lt {k : IntKind} {h : Hp} {r : Nat} {l : List (Int × Value)} (hm : MapAt k h r l) : r < h.size := by
  obtain ⟨es, clk, h1, _⟩ := hm.is; exact lt_of_at h1
theorem MapAt.ne_cells {k : IntKind} {h : Hp} {r s : Nat} {l : List (Int × Value)} (hm : MapAt k h r l) {c : Array Value} {e : TypeId} {f : Nat × Nat} (hs : h[s]? = some (.cells c e f)) : r ≠ s := by
  obtain ⟨es, clk, h1, _⟩ := hm.is
  exact ne_of_at h1 hs (by simp)
theorem MapAt.new (k : IntKind) (h : Hp) : MapAt k (h.push (.map #[] 0)) h.size [] := ⟨⟨#[], 0, push_new _ _, rfl, by simp, by simp⟩, by simp [keysOf]⟩

def lkp {α : Type} (n : Int) : List (Int × α) → Option α
  | [] => none
  | (m, v) :: l => if n = m then some v else lkp n l
def upd {α : Type} (n : Int) (v : α) : List (Int × α) → List (Int × α)
  | [] => [(n, v)]
  | (m, u) :: l => if n = m then (m, v) :: l else (m, u) :: upd n v l
def del {α : Type} (n : Int) : List (Int × α) → List (Int × α)
  | [] => []
  | (m, u) :: l => if n = m then l else (m, u) :: del n l
theorem lkp_none {α : Type} {n : Int} {l : List (Int × α)} : lkp n l = none ↔ n ∉ keysOf l := by
  induction l with
  | nil => simp [lkp, keysOf]
  | cons p l ih =>
    obtain ⟨m, v⟩ := p
    simp only [lkp, keysOf, List.map_cons, List.mem_cons, not_or]
    by_cases h : n = m
    · simp [h]
    · simp only [h, if_false, not_false_eq_true, true_and]; exact ih
theorem lkp_mem {α : Type} {n : Int} {v : α} {l : List (Int × α)} (h : lkp n l = some v) : (n, v) ∈ l := by
  induction l with
  | nil => simp [lkp] at h
  | cons p l ih =>
    obtain ⟨m, u⟩ := p
    simp only [lkp] at h
    split at h
    · rename_i he; subst he; cases h; simp
    · exact List.mem_cons_of_mem _ (ih h)
theorem mem_lkp {α : Type} {n : Int} {v : α} {l : List (Int × α)} (hn : (keysOf l).Nodup) (h : (n, v) ∈ l) : lkp n l = some v := by
  induction l with
  | nil => cases h
  | cons p l ih =>
    obtain ⟨m, u⟩ := p
    simp only [keysOf, List.map_cons, List.nodup_cons] at hn
    simp only [lkp]
    rcases List.mem_cons.1 h with h1 | h1
    · cases h1; simp
    · have : n ≠ m := by
        rintro rfl
        exact hn.1 (List.mem_map.2 ⟨(n, v), h1, rfl⟩)
      rw [if_neg this]
      exact ih hn.2 h1
theorem keysOf_upd {α : Type} {n : Int} {v : α} {l : List (Int × α)} : keysOf (upd n v l) = if n ∈ keysOf l then keysOf l else keysOf l ++ [n] := by
  induction l with
  | nil => simp [upd, keysOf]
  | cons p l ih =>
    obtain ⟨m, u⟩ := p
    simp only [upd]
    by_cases h : n = m
    · simp [h, keysOf]
    · simp only [h, if_false]
      have : keysOf ((m, u) :: upd n v l) = m :: keysOf (upd n v l) := rfl
      rw [this, ih]
      by_cases h2 : n ∈ keysOf l
      · simp [h2, keysOf] at *
        simp [h, h2]
      · have h3 : n ∉ keysOf ((m, u) :: l) := by simp [keysOf, h] at *; exact h2
        rw [if_neg h2, if_neg h3]; rfl
theorem nodup_upd {α : Type} {n : Int} {v : α} {l : List (Int × α)} (h : (keysOf l).Nodup) : (keysOf (upd n v l)).Nodup := by
  rw [keysOf_upd]
  split
  · exact h
  · rename_i hn
    rw [List.nodup_append]
    exact ⟨h, by simp, by intro a ha b hb; simp at hb; subst hb; rintro rfl; exact hn ha⟩
theorem lkp_upd {α : Type} {n m : Int} {v : α} {l : List (Int × α)} : lkp m (upd n v l) = if m = n then some v else lkp m l := by
  induction l with
  | nil => simp [upd, lkp]
  | cons p l ih =>
    obtain ⟨q, u⟩ := p
    simp only [upd]
    by_cases h : n = q
    · subst h
      simp only [if_true, lkp]
      by_cases h2 : m = n <;> simp [h2]
    · simp only [h, if_false, lkp, ih]
      by_cases h2 : m = q
      · subst h2
        have : m ≠ n := fun e => h e.symm
        simp [this]
      · simp [h2]
theorem keysOf_del {α : Type} {n : Int} {l : List (Int × α)} : keysOf (del n l) = (keysOf l).erase n := by
  induction l with
  | nil => rfl
  | cons p l ih =>
    obtain ⟨m, u⟩ := p
    simp only [del]
    by_cases h : n = m
    · subst h; simp [keysOf]
    · simp only [h, if_false]
      have e1 : keysOf ((m, u) :: del n l) = m :: keysOf (del n l) := rfl
      have e2 : keysOf ((m, u) :: l) = m :: keysOf l := rfl
      rw [e1, e2, ih, List.erase_cons_tail (by simpa using fun e => h e.symm)]
theorem nodup_del {α : Type} {n : Int} {l : List (Int × α)} (h : (keysOf l).Nodup) : (keysOf (del n l)).Nodup := by
  rw [keysOf_del]; exact h.erase n
theorem lkp_del {α : Type} {n m : Int} {l : List (Int × α)} (hn : (keysOf l).Nodup) : lkp m (del n l) = if m = n then none else lkp m l := by
  induction l with
  | nil => simp [del, lkp]
  | cons p l ih =>
    obtain ⟨q, u⟩ := p
    simp only [keysOf, List.map_cons, List.nodup_cons] at hn
    simp only [del]
    by_cases h : n = q
    · subst h
      simp only [if_true, lkp]
      by_cases h2 : m = n
      · subst h2; simp only [if_true]; exact lkp_none.2 hn.1
      · simp [h2]
    · simp only [h, if_false, lkp, ih hn.2]
      by_cases h2 : m = q
      · subst h2
        have : m ≠ n := fun e => h e.symm
        simp [this]
      · simp [h2]

section
variable {P : Program}
def findL (n : Int) : List (Int × Value) → Nat → Option (Nat × Value)
  | [], _ => none
  | (m, v) :: l, i => if n = m then some (i, v) else findL n l (i + 1)
theorem findNow_int {k : IntKind} {n : Int} : ∀ {es : List MapEntry} {l : List (Int × Value)} {i : Nat}, es.map (fun e => (e.key, e.val)) = l.map (fun p => (.int k p.1, p.2)) → Instr.findNow (.int k) (.int k n) es i = some (findL n l i) := by
  intro es
  induction es with
  | nil =>
    intro l i h
    cases l with
    | nil => rfl
    | cons p l => simp at h
  | cons e es ih =>
    intro l i h
    cases l with
    | nil => simp at h
    | cons p l =>
      obtain ⟨m, v⟩ := p
      simp only [List.map_cons, List.cons.injEq, Prod.mk.injEq] at h
      obtain ⟨⟨h1, h2⟩, h3⟩ := h
      simp only [Instr.findNow, h1, Instr.sameNow, if_true, findL]
      by_cases hnm : n = m
      · subst hnm; simp [h2]
      · have : (n == m) = false := by simpa using hnm
        simp only [this, hnm, if_false]
        exact ih h3
theorem findL_lkp {n : Int} : ∀ {l : List (Int × Value)} {i : Nat}, (findL n l i).map (·.2) = lkp n l := by
  intro l
  induction l with
  | nil => intro i; rfl
  | cons p l ih =>
    intro i
    obtain ⟨m, v⟩ := p
    simp only [findL, lkp]
    split
    · rfl
    · exact ih
theorem runs_checkKey {t : TypeId} {k k' : IntKind} {n : Int} {e : Bool} (hk : P.underlying t = some (.int k)) (d : Nat) (w : World) : (Instr.checkKey e (d + 1) t (.int k' n)).run P w = .ok () w := by
  simp [Instr.checkKey, runs_underlying hk]
theorem runs_getObj {h : Hp} {r : Nat} {es : Array MapEntry} {clk : Nat} (hr : h[r]? = some (.map es clk)) (w : World) (hw : w.heap = h) : (getObj r).run P w = .ok (.map es clk) w := by
  subst hw
  simp [getObj, Sem.run, hr]
theorem runs_findKey {t : TypeId} {k : IntKind} {n : Int} {es : List MapEntry} {l : List (Int × Value)} (hk : P.underlying t = some (.int k)) (he : es.map (fun e => (e.key, e.val)) = l.map (fun p => (.int k p.1, p.2))) (w : World) :
    (Instr.findKey t (.int k n) es).run P w = .ok (findL n l 0) w := by
  simp [Instr.findKey, runs_underlying hk, findNow_int he]
theorem runs_zeroValue {t : TypeId} (hz : hasZero P t = true) (w : World) : (zeroValue t).run P w = .ok (zeroOf P t) w := by
  unfold hasZero at hz
  cases hi : P.info? t with
  | none => simp [hi] at hz
  | some i =>
    simp only [hi] at hz
    cases hzz : i.zero with
    | none => simp [hzz] at hz
    | some z => simp [zeroValue, typeInfo, hi, hzz, zeroOf]
theorem runs_lookup {t kt et : TypeId} {k : IntKind} {n : Int} {h : Hp} {r : Nat} {l : List (Int × Value)} (hm : P.underlying t = some (.map kt et)) (hk : P.underlying kt = some (.int k)) (hz : hasZero P et = true) (ha : MapAt k h r l) (ok : Bool) :
    RunsTo P (Instr.lookup t (.map (some r)) (.int k n) ok) h (if ok then .tuple #[(lkp n l).getD (zeroOf P et), .bool (lkp n l).isSome] else (lkp n l).getD (zeroOf P et)) := by
  obtain ⟨es, clk, h1, h2, _⟩ := ha.is
  intro w hw
  have hck := runs_checkKey (P := P) (e := es.isEmpty) (k' := k) (n := n) hk 9999 w
  have hf := findL_lkp (n := n) (l := l) (i := 0)
  simp only [Instr.lookup, Sem.run_bind, runs_underlying hm, Result.andThen_ok, runs_getObj h1 w hw, hck, runs_findKey hk h2, Sem.run_pure]
  cases hr : findL n l 0 with
  | none =>
    rw [hr] at hf
    simp only [← hf, Option.map_none, Sem.run_bind, runs_zeroValue hz, Result.andThen_ok, Sem.run_pure, Option.getD_none, Option.isSome_none]
  | some p =>
    rw [hr] at hf
    simp only [← hf, Option.map_some, Sem.run_bind, Sem.run_pure, Result.andThen_ok, Option.getD_some, Option.isSome_some]
theorem runs_lookup_nil {t kt et : TypeId} {k : IntKind} {n : Int} {h : Hp} (hm : P.underlying t = some (.map kt et)) (hk : P.underlying kt = some (.int k)) (hz : hasZero P et = true) (ok : Bool) :
    RunsTo P (Instr.lookup t (.map none) (.int k n) ok) h (if ok then .tuple #[zeroOf P et, .bool false] else zeroOf P et) := by
  intro w hw
  have hck := runs_checkKey (P := P) (e := (#[] : Array MapEntry).isEmpty) (k' := k) (n := n) hk 9999 w
  have hfk := runs_findKey (P := P) (n := n) (es := []) (l := []) hk rfl w
  simp only [Instr.lookup, Sem.run_bind, runs_underlying hm, Result.andThen_ok, hck, hfk, Sem.run_pure, findL, runs_zeroValue hz]
theorem runs_len_map {t : TypeId} {tys : Array TypeId} {kt et : TypeId} {ty : TypeId} {h : Hp} {r : Nat} {k : IntKind} {l : List (Int × Value)} (ht : tys[0]? = some t) (hm : P.underlying t = some (.map kt et)) (ha : MapAt k h r l) :
    RunsTo P (Builtin.len_ tys ty #[.map (some r)]) h (.int .i64 l.length) := by
  obtain ⟨es, clk, h1, h2, _⟩ := ha.is
  intro w hw
  have hsz : es.size = l.length := by
    have := congrArg List.length h2
    simpa using this
  simp [Builtin.len_, ht, runs_underlying hm, runs_getObj h1 w hw, goInt, hsz]

theorem objAt_map {h : Hp} {r : Nat} {es : Array MapEntry} {clk : Nat} (hr : h[r]? = some (.map es clk)) : objAt h r = some (.map es clk) := by
  simp [objAt, hr]
theorem semWP_checkKey {t : TypeId} {k k' : IntKind} {n : Int} {e : Bool} {h : Hp} {K : Unit → Hp → Prop} (hk : P.underlying t = some (.int k)) (d : Nat) : semWP P (Instr.checkKey e (d + 1) t (.int k' n)) h K = K () h := by
  simp only [Instr.checkKey, semWP_bind, semWP_underlying hk, semWP_ret]
theorem semWP_findKey {t : TypeId} {k : IntKind} {n : Int} {es : List MapEntry} {l : List (Int × Value)} {h : Hp} {K : Option (Nat × Value) → Hp → Prop} (hk : P.underlying t = some (.int k)) (he : es.map (fun e => (e.key, e.val)) = l.map (fun p => (.int k p.1, p.2))) :
    semWP P (Instr.findKey t (.int k n) es) h K = K (findL n l 0) h := by
  simp only [Instr.findKey, semWP_bind, semWP_underlying hk, findNow_int he, semWP_ret]
theorem findL_some {n : Int} : ∀ {l : List (Int × Value)} {i j : Nat} {v : Value}, findL n l i = some (j, v) → i ≤ j ∧ l[j - i]? = some (n, v) ∧ (∀ u, upd n u l = l.set (j - i) (n, u)) ∧ del n l = l.eraseIdx (j - i) := by
  intro l
  induction l with
  | nil => intro i j v h; simp [findL] at h
  | cons p l ih =>
    intro i j v h
    obtain ⟨m, u⟩ := p
    simp only [findL] at h
    split at h
    · rename_i he
      subst he
      simp only [Option.some.injEq, Prod.mk.injEq] at h
      obtain ⟨rfl, rfl⟩ := h
      simp [upd, del]
    · rename_i he
      obtain ⟨h1, h2, h3, h4⟩ := ih h
      have e : j - i = (j - (i + 1)) + 1 := by omega
      refine ⟨by omega, by rw [e]; simpa using h2, fun w => ?_, ?_⟩
      · simp only [upd, he, if_false, h3, e, List.set_cons_succ]
      · simp only [del, he, if_false, h4, e, List.eraseIdx_cons_succ]
theorem findL_none {n : Int} : ∀ {l : List (Int × Value)} {i : Nat}, findL n l i = none → (∀ u, upd n u l = l ++ [(n, u)]) ∧ del n l = l := by
  intro l
  induction l with
  | nil => intro i _; exact ⟨fun _ => rfl, rfl⟩
  | cons p l ih =>
    intro i h
    obtain ⟨m, u⟩ := p
    simp only [findL] at h
    split at h
    · cases h
    · rename_i he
      obtain ⟨h1, h2⟩ := ih h
      exact ⟨fun w => by simp only [upd, he, if_false, h1]; rfl, by simp only [del, he, if_false, h2]⟩
theorem map_eraseIdx {α β : Type} (f : α → β) : ∀ (l : List α) (i : Nat), (l.eraseIdx i).map f = (l.map f).eraseIdx i := by
  intro l
  induction l with
  | nil => intro i; rfl
  | cons a l ih =>
    intro i
    cases i with
    | zero => rfl
    | succ i => simp only [List.eraseIdx_cons_succ, List.map_cons, ih]
theorem sameBits_int {k : IntKind} {n : Int} (d : Nat) : Instr.sameBits d (.int k n) (.int k n) = true := by
  cases d <;> simp [Instr.sameBits]
/-- m[n] = v. -/
theorem semWP_mapUpdate {t kt et : TypeId} {k : IntKind} {n : Int} {v : Value} {h : Hp} {r : Nat} {l : List (Int × Value)} {K : Unit → Hp → Prop} (hm : P.underlying t = some (.map kt et)) (hk : P.underlying kt = some (.int k)) (ha : MapAt k h r l)
    (hK : ∀ h', MapAt k h' r (upd n v l) → Step h h' [r] [r] → h'.size = h.size → K () h') : semWP P (Instr.mapUpdate t (.map (some r)) (.int k n) v) h K := by
  obtain ⟨es, clk, h1, h2, h3, h4⟩ := ha.is
  have hlt := lt_of_at h1
  have hck := fun (K : Unit → Hp → Prop) => semWP_checkKey (P := P) (e := false) (k' := k) (n := n) (h := h) (K := K) hk 9999
  simp only [Instr.mapUpdate, semWP_bind, semWP_underlying hm]
  refine ⟨_, objAt_map h1, ?_⟩
  rw [semWP_ret']
  simp only [semWP_bind]
  show semWP P (Instr.checkKey false (9999 + 1) kt (.int k n)) h _
  rw [hck, semWP_findKey hk h2]
  cases hr : findL n l 0 with
  | none =>
    obtain ⟨h5, _⟩ := findL_none hr
    refine ⟨⟨_, objAt_map h1⟩, ?_⟩
    refine hK _ ⟨⟨es.push ⟨.int k n, v, clk⟩, clk + 1, by simp [hlt], ?_, ?_, ?_⟩, nodup_upd ha.nodup⟩ (Step.setObj (by simp)) (by simp)
    · rw [h5]; simp [h2]
    · simp only [Array.toList_push, List.map_append, List.map_cons, List.map_nil]
      rw [List.nodup_append]
      refine ⟨h3, by simp, ?_⟩
      intro a ha' b hb
      simp at hb
      subst hb
      obtain ⟨e, he, rfl⟩ := List.mem_map.1 ha'
      exact fun hx => by have := h4 e he; omega
    · intro e he
      simp only [Array.toList_push, List.mem_append, List.mem_singleton] at he
      rcases he with he | rfl
      · have := h4 e he; omega
      · simp
  | some p =>
    obtain ⟨j, u⟩ := p
    obtain ⟨_, h5, h6, _⟩ := findL_some hr
    simp only [Nat.sub_zero] at h5 h6
    have hj : j < es.size := by
      have := congrArg List.length h2
      simp only [List.length_map, Array.length_toList] at this
      rw [this]
      exact (List.getElem?_eq_some_iff.1 h5).1
    have hkey : ((es[j]?).map (·.key)).getD (.int k n) = .int k n := by
      have := congrArg (fun x => x[j]?) h2
      simp only [List.getElem?_map, h5, Option.map_some] at this
      rw [Array.getElem?_toList] at this
      cases he : es[j]? with
      | none => simp
      | some e => rw [he] at this; simp at this; simp [this.1]
    simp only [semWP_bind, hkey, Instr.keyThatStays, sameBits_int, if_true, semWP_ret]
    refine ⟨⟨_, objAt_map h1⟩, ?_⟩
    refine hK _ ⟨⟨es.modify j fun e => { e with key := .int k n, val := v }, clk, by simp [hlt], ?_, ?_, ?_⟩, nodup_upd ha.nodup⟩ (Step.setObj (by simp)) (by simp)
    · rw [h6]
      apply List.ext_getElem?
      intro i
      have := congrArg (fun x => x[i]?) h2
      simp only [List.getElem?_map] at this ⊢
      rw [Array.getElem?_toList] at this ⊢
      rw [Array.getElem?_modify, List.getElem?_set]
      by_cases hij : j = i
      · subst hij
        have hl : j < l.length := (List.getElem?_eq_some_iff.1 h5).1
        simp [hj, hl]
      · simp [hij, this]
    · have : (es.modify j fun e => { e with key := .int k n, val := v }).toList.map (·.born) = es.toList.map (·.born) := by
        apply List.ext_getElem?
        intro i
        simp only [List.getElem?_map, Array.getElem?_toList, Array.getElem?_modify]
        by_cases hij : j = i
        · subst hij; simp [hj]
        · simp [hij]
      rw [this]; exact h3
    · intro e he
      obtain ⟨i, hi⟩ := List.getElem?_of_mem he
      rw [Array.getElem?_toList, Array.getElem?_modify] at hi
      by_cases hij : j = i
      · subst hij
        simp only [if_true, Option.map_eq_some_iff] at hi
        obtain ⟨e', he', rfl⟩ := hi
        exact h4 e' (by rw [← Array.getElem?_toList] at he'; exact List.mem_of_getElem? he')
      · simp only [hij, if_false] at hi
        exact h4 e (by rw [← Array.getElem?_toList] at hi; exact List.mem_of_getElem? hi)
/-- delete(m, n). -/
theorem semWP_delete {t kt et ty : TypeId} {tys : Array TypeId} {k : IntKind} {n : Int} {h : Hp} {r : Nat} {l : List (Int × Value)} {K : Value → Hp → Prop} (ht : tys[0]? = some t) (hm : P.underlying t = some (.map kt et)) (hk : P.underlying kt = some (.int k)) (ha : MapAt k h r l)
    (hK : ∀ h', MapAt k h' r (del n l) → Step h h' [r] [r] → h'.size = h.size → K (.tuple #[]) h') : semWP P (Builtin.delete_ tys ty #[.map (some r), .int k n]) h K := by
  obtain ⟨es, clk, h1, h2, h3, h4⟩ := ha.is
  have hlt := lt_of_at h1
  have hck := fun (K : Unit → Hp → Prop) => semWP_checkKey (P := P) (e := es.isEmpty) (k' := k) (n := n) (h := h) (K := K) hk 9999
  simp only [Builtin.delete_, ht, semWP_bind, List.getElem?_toArray, List.getElem?_cons_zero, List.getElem?_cons_succ, semWP_underlying hm]
  refine ⟨_, objAt_map h1, ?_⟩
  rw [semWP_ret']
  simp only [semWP_bind]
  show semWP P (Instr.checkKey es.isEmpty (9999 + 1) kt (.int k n)) h _
  rw [hck, semWP_findKey hk h2]
  cases hr : findL n l 0 with
  | none =>
    obtain ⟨_, h5⟩ := findL_none hr
    refine ⟨⟨_, objAt_map h1⟩, ?_⟩
    refine hK _ ⟨⟨es, clk, by simp [hlt], ?_, h3, h4⟩, nodup_del ha.nodup⟩ (Step.setObj (by simp)) (by simp)
    rw [h5]; exact h2
  | some p =>
    obtain ⟨j, u⟩ := p
    obtain ⟨_, _, _, h5⟩ := findL_some hr
    simp only [Nat.sub_zero] at h5
    refine ⟨⟨_, objAt_map h1⟩, ?_⟩
    refine hK _ ⟨⟨es.eraseIdxIfInBounds j, clk, by simp [hlt], ?_, ?_, ?_⟩, nodup_del ha.nodup⟩ (Step.setObj (by simp)) (by simp)
    · rw [h5, Array.toList_eraseIdxIfInBounds, map_eraseIdx, h2, map_eraseIdx]
    · rw [Array.toList_eraseIdxIfInBounds, map_eraseIdx]
      exact h3.sublist (List.eraseIdx_sublist ..)
    · intro e he
      rw [Array.toList_eraseIdxIfInBounds] at he
      exact h4 e (List.mem_of_mem_eraseIdx he)
end
end Go.Proofs.Ytmdhfmljgjnggaa
