/- Ranging over a map that nobody changes meanwhile; a slice's making, appending, copying. No condition. -/
import Derived.Test.YtmdhfmljgjnggaaMem2
namespace Go.Proofs.Ytmdhfmljgjnggaa

/-- Block i ranges over the map in block r, which reads as l; 'left' are still to come, in whatever order. -/
def IterAt (k : IntKind) (h : Hp) (i r : Nat) (l left : List (Int × Value)) : Prop :=
  ∃ (es : Array MapEntry) (clk : Nat) (seen : Array Nat), h[r]? = some (.map es clk) ∧ h[i]? = some (.mapIter (some r) clk seen clk) ∧
    es.toList.map (fun e => (e.key, e.val)) = l.map (fun p => (.int k p.1, p.2)) ∧ (es.toList.map (·.born)).Nodup ∧ (∀ e ∈ es.toList, e.born < clk) ∧
    (es.toList.filter fun e => !seen.contains e.born).map (fun e => (e.key, e.val)) = left.map (fun p => (.int k p.1, p.2))
def CurAt (k : IntKind) (h : Hp) (i r : Nat) (p : Int × Value) : Prop :=
  ∃ (es : Array MapEntry) (clk since : Nat) (seen : Array Nat) (e : MapEntry), h[r]? = some (.map es clk) ∧ h[i]? = some (.mapIter (some r) since seen clk) ∧
    seen.back? = some e.born ∧ es.find? (·.born == e.born) = some e ∧ e.key = .int k p.1 ∧ e.val = p.2
theorem IterAt.congr {k : IntKind} {h h' : Hp} {i r : Nat} {l left : List (Int × Value)} (hi : IterAt k h i r l left) (h1 : h'[i]? = h[i]?) (h2 : h'[r]? = h[r]?) : IterAt k h' i r l left := by
  obtain ⟨es, clk, seen, a, b, c⟩ := hi
  exact ⟨es, clk, seen, by rw [h2]; exact a, by rw [h1]; exact b, c⟩
theorem CurAt.congr {k : IntKind} {h h' : Hp} {i r : Nat} {p : Int × Value} (hi : CurAt k h i r p) (h1 : h'[i]? = h[i]?) (h2 : h'[r]? = h[r]?) : CurAt k h' i r p := by
  obtain ⟨es, clk, since, seen, e, a, b, c⟩ := hi
  exact ⟨es, clk, since, seen, e, by rw [h2]; exact a, by rw [h1]; exact b, c⟩
theorem inj_map {k : IntKind} : ∀ {a b : List (Int × Value)}, a.map (fun p => ((.int k p.1 : Value), p.2)) = b.map (fun p => (.int k p.1, p.2)) → a = b := by
  intro a
  induction a with
  | nil => intro b h; cases b <;> simp at h ⊢
  | cons p a ih =>
    intro b h
    cases b with
    | nil => simp at h
    | cons q b =>
      simp only [List.map_cons, List.cons.injEq, Prod.mk.injEq, Value.int.injEq, true_and] at h
      obtain ⟨⟨h1, h2⟩, h3⟩ := h
      rw [ih h3, show p = q from Prod.ext h1 h2]
section
variable {P : Program} {k : IntKind}
theorem semWP_range {t kt et : TypeId} {h : Hp} {r : Nat} {l : List (Int × Value)} {K : Value → Hp → Prop} (hm : P.underlying t = some (.map kt et)) (ha : MapAt k h r l)
    (hK : ∀ h', IterAt k h' h.size r l l → Ext h h' → h'.size = h.size + 1 → K (.pointer (some ⟨h.size, 0, none⟩)) h') : semWP P (Instr.range t (.map (some r))) h K := by
  obtain ⟨es, clk, h1, h2, h3, h4⟩ := ha.is
  simp only [Instr.range, semWP_bind, semWP_underlying hm]
  refine ⟨_, objAt_map h1, ?_⟩
  refine hK _ ⟨es, clk, #[], by rw [push_old (lt_of_at h1)]; exact h1, push_new _ _, h2, h3, h4, ?_⟩ (Ext.push _ _) (by simp)
  have : (es.toList.filter fun e => !(#[] : Array Nat).contains e.born) = es.toList := by
    rw [List.filter_eq_self]; intro a _; simp
  rw [this]; exact h2
theorem filter_push {es : List MapEntry} {seen : Array Nat} (hnd : (es.map (·.born)).Nodup) {e : MapEntry} {a b : List MapEntry} (hf : (es.filter fun e => !seen.contains e.born) = a ++ e :: b) :
    (es.filter fun x => !(seen.push e.born).contains x.born) = a ++ b := by
  have h1 : (es.filter fun x => !(seen.push e.born).contains x.born) = ((es.filter fun e => !seen.contains e.born).filter fun x => x.born != e.born) := by
    rw [List.filter_filter]
    congr 1
    funext x
    rw [Array.contains_push]
    cases hx : (x.born == e.born) <;> cases hs : seen.contains x.born <;> simp_all [bne]
  have hnd' : ((a ++ e :: b).map (·.born)).Nodup := by
    rw [← hf]
    exact hnd.sublist ((List.filter_sublist).map _)
  rw [h1, hf, List.filter_append, List.filter_cons]
  simp only [List.map_append, List.map_cons] at hnd'
  rw [List.nodup_append] at hnd'
  obtain ⟨h2, h3, h4⟩ := hnd'
  rw [List.nodup_cons] at h3
  have ha : (a.filter fun x => x.born != e.born) = a := by
    rw [List.filter_eq_self]
    intro x hx
    have := h4 x.born (List.mem_map.2 ⟨x, hx, rfl⟩) e.born (by simp)
    simpa using this
  have hb : (b.filter fun x => x.born != e.born) = b := by
    rw [List.filter_eq_self]
    intro x hx
    have : x.born ≠ e.born := fun he => h3.1 (he ▸ List.mem_map.2 ⟨x, hx, rfl⟩)
    simpa using this
  rw [ha, hb]
  simp
theorem objAt_iter {h : Hp} {r : Nat} {m : Option Nat} {s : Nat} {seen : Array Nat} {c : Nat} (hr : h[r]? = some (.mapIter m s seen c)) : objAt h r = some (.mapIter m s seen c) := by
  simp [objAt, hr]
theorem semWP_next {t : TypeId} {h : Hp} {i r : Nat} {l left : List (Int × Value)} {K : Value → Hp → Prop} (hi : IterAt k h i r l left) (hir : i ≠ r)
    (h0 : left = [] → K (.tuple ⟨[.bool false]⟩) h)
    (h1 : ∀ p left' h', left.Perm (p :: left') → IterAt k h' i r l left' → CurAt k h' i r p → Step h h' [i] [i] → h'.size = h.size → K (.tuple ⟨[.bool true, .int k p.1, p.2]⟩) h') :
    semWP P (Instr.next (.pointer (some ⟨i, 0, none⟩)) false t) h K := by
  obtain ⟨es, clk, seen, hr, hit, he, hnd, hlt, hleft⟩ := hi
  simp only [Instr.next, semWP_bind]
  refine ⟨_, objAt_iter hit, ?_⟩
  rw [semWP_ret']
  simp only [semWP_bind]
  refine ⟨_, objAt_map hr, ?_⟩
  rw [semWP_ret']
  have hno : (!seen.isEmpty && !es.isEmpty && es.all (fun x => decide (x.born ≥ clk))) = false := by
    cases hes : es.isEmpty with
    | true => simp
    | false =>
      have : es.all (fun x => decide (x.born ≥ clk)) = false := by
        rw [Bool.eq_false_iff]
        intro hall
        rw [← Array.all_toList, List.all_eq_true] at hall
        cases hl : es.toList with
        | nil => simp [Array.isEmpty] at hes; exact hes (by simpa using hl)
        | cons x xs =>
          have h2 := hall x (by rw [hl]; simp)
          have h3 := hlt x (by rw [hl]; simp)
          simp only [decide_eq_true_eq] at h2
          omega
      rw [this]; simp
  simp only [hno, Bool.false_eq_true, if_false]
  have hold : ((es.filter fun e => !seen.contains e.born).filter fun x => decide (x.born < clk)) = es.filter fun e => !seen.contains e.born := by
    rw [Array.filter_eq_self]
    intro x hx
    have := hlt x (by have := (Array.mem_filter.1 hx).1; simpa using this)
    simpa using this
  have hnew : ((es.filter fun e => !seen.contains e.born).filter fun x => decide (x.born ≥ clk)) = #[] := by
    rw [Array.filter_eq_empty_iff]
    intro x hx
    have := hlt x (by have := (Array.mem_filter.1 hx).1; simpa using this)
    simp; omega
  simp only [hold, hnew, Array.append_empty]
  by_cases hl0 : left = []
  · have hf : (es.filter fun e => !seen.contains e.born) = #[] := by
      apply Array.ext'
      rw [Array.toList_filter]
      rw [hl0] at hleft
      simpa using hleft
    simp only [hf]
    intro t'
    generalize hn : (if (Question.mapNext ((if (#[] : Array MapEntry).isEmpty = true then #[none] else #[]) ++ Array.map some (#[] : Array MapEntry)).size).forced = true then 0 else (Question.mapNext ((if (#[] : Array MapEntry).isEmpty = true then #[none] else #[]) ++ Array.map some (#[] : Array MapEntry)).size).cut t') = j
    have hj : j = 0 := by
      rw [← hn]
      simp [Question.forced, Question.cut, Nat.mod_one]
    subst hj
    have := h0 hl0
    simpa [semWP, Pure.pure, Sem.bind] using this
  · have hne : (es.filter fun e => !seen.contains e.born).isEmpty = false := by
      rw [Bool.eq_false_iff]
      intro hemp
      apply hl0
      have : (es.filter fun e => !seen.contains e.born).toList = [] := by simpa using hemp
      rw [Array.toList_filter] at this
      rw [this] at hleft
      simpa using hleft.symm
    simp only [hne, Bool.false_eq_true, if_false]
    intro t'
    generalize hn : (if (Question.mapNext ((#[] : Array (Option MapEntry)) ++ (es.filter fun e => !seen.contains e.born).map some).size).forced = true then 0 else (Question.mapNext ((#[] : Array (Option MapEntry)) ++ (es.filter fun e => !seen.contains e.born).map some).size).cut t') = j
    have hsz : 0 < (es.filter fun e => !seen.contains e.born).size := by
      rcases Nat.eq_zero_or_pos (es.filter fun e => !seen.contains e.born).size with h | h
      · exfalso; unfold Array.isEmpty at hne; exact of_decide_eq_false hne h
      · exact h
    have hj : j < (es.filter fun e => !seen.contains e.born).size := by
      rw [← hn]
      simp only [Question.forced, Question.cut, Array.empty_append, Array.size_map]
      split
      · exact hsz
      · exact Nat.mod_lt _ hsz
    have hget : ((#[] : Array (Option MapEntry)) ++ (es.filter fun e => !seen.contains e.born).map some)[j]? = some (some ((es.filter fun e => !seen.contains e.born)[j])) := by
      simp [hj]
    simp only [Sem.bind, hget]
    generalize he' : (es.filter fun e => !seen.contains e.born)[j] = e
    have hfl : (es.toList.filter fun e => !seen.contains e.born)[j]? = some e := by
      rw [← Array.toList_filter, Array.getElem?_toList, ← he']; simp [hj]
    obtain ⟨p, hp⟩ : ∃ p, left[j]? = some p := by
      have := congrArg (fun x => x[j]?) hleft
      simp only [List.getElem?_map, hfl, Option.map_some] at this
      cases hlj : left[j]? with
      | none => rw [hlj] at this; simp at this
      | some p => exact ⟨p, rfl⟩
    have hkv : e.key = .int k p.1 ∧ e.val = p.2 := by
      have := congrArg (fun x => x[j]?) hleft
      simp only [List.getElem?_map, hfl, hp, Option.map_some, Option.some.injEq, Prod.mk.injEq] at this
      exact this
    have hsplit : (es.toList.filter fun e => !seen.contains e.born) = (es.toList.filter fun e => !seen.contains e.born).take j ++ e :: (es.toList.filter fun e => !seen.contains e.born).drop (j + 1) := by
      conv => lhs; rw [← List.take_append_drop j (es.toList.filter fun e => !seen.contains e.born)]
      congr 1
      rw [List.drop_eq_getElem_cons (by have := (List.getElem?_eq_some_iff.1 hfl).1; exact this)]
      congr 1
      exact (List.getElem?_eq_some_iff.1 hfl).2
    have hpsplit : left = left.take j ++ p :: left.drop (j + 1) := by
      conv => lhs; rw [← List.take_append_drop j left]
      congr 1
      rw [List.drop_eq_getElem_cons (by exact (List.getElem?_eq_some_iff.1 hp).1)]
      congr 1
      exact (List.getElem?_eq_some_iff.1 hp).2
    have hmem : e ∈ es.toList := (List.mem_filter.1 (List.mem_of_getElem? hfl)).1
    have hilt := lt_of_at hit
    simp only [semWP_bind]
    refine ⟨⟨_, objAt_iter hit⟩, ?_⟩
    rw [hkv.1, hkv.2]
    have hr' : (h.setIfInBounds i (.mapIter (some r) clk (seen.push e.born) clk))[r]? = some (.map es clk) := by
      rw [Array.getElem?_setIfInBounds, if_neg hir]; exact hr
    have hi' : (h.setIfInBounds i (.mapIter (some r) clk (seen.push e.born) clk))[i]? = some (.mapIter (some r) clk (seen.push e.born) clk) := by
      simp [hilt]
    refine h1 p (left.take j ++ left.drop (j + 1)) _ ?_ ⟨es, clk, seen.push e.born, hr', hi', he, hnd, hlt, ?_⟩ ⟨es, clk, clk, seen.push e.born, e, hr', hi', by simp, ?_, hkv.1, hkv.2⟩ (Step.setObj (by simp)) (by simp)
    · conv => lhs; rw [hpsplit]
      exact List.perm_middle
    · rw [filter_push hnd hsplit, List.map_append, List.map_take, List.map_drop, hleft, ← List.map_take, ← List.map_drop, ← List.map_append]
    · rw [← Array.find?_toList]
      have : ∀ (l : List MapEntry), (l.map (·.born)).Nodup → e ∈ l → l.find? (fun x => x.born == e.born) = some e := by
        intro l
        induction l with
        | nil => intro _ hx; cases hx
        | cons x l ih =>
          intro hnd hx
          simp only [List.map_cons, List.nodup_cons] at hnd
          rcases List.mem_cons.1 hx with rfl | hx
          · simp
          · have hne : x.born ≠ e.born := fun heq => hnd.1 (heq ▸ List.mem_map.2 ⟨e, hx, rfl⟩)
            rw [List.find?_cons_of_neg (by simpa using hne)]
            exact ih hnd.2 hx
      exact this _ hnd hmem
theorem runs_entry {h : Hp} {i r : Nat} {p : Int × Value} (hc : CurAt k h i r p) : RunsTo P (Instr.entry (.pointer (some ⟨i, 0, none⟩))) h (.tuple #[.int k p.1, p.2]) := by
  obtain ⟨es, clk, since, seen, e, hr, hi, hb, hf, hk, hv⟩ := hc
  intro w hw
  have h1 : (getObj i).run P w = .ok (.mapIter (some r) since seen clk) w := by subst hw; simp [getObj, Sem.run, hi]
  simp only [Instr.entry, Sem.run_bind, h1, Result.andThen_ok, hb, runs_getObj hr w hw, bne_self_eq_false, Bool.false_eq_true, if_false, hf, hk, hv]
  rfl
end
end Go.Proofs.Ytmdhfmljgjnggaa
