/- The reference of vm: New; comparing rows of integers. No condition. -/
import Derived.Test.YtmdhfmljgjnggaaCRef9
namespace Go.Proofs.Ytmdhfmljgjnggaa
attribute [local irreducible] semWP
set_option linter.constructorNameAsVariable false
theorem pgOf_new (n : Nat) (p q : Int) : pgOf (newS n) p q = -2 := by
  unfold pgOf newS
  split
  · simp only [List.getElem?_replicate]; split <;> rfl
  · rfl
theorem hasOf_new (n : Nat) (p : Int) : hasOf (newS n) p = false := by
  unfold hasOf newS
  split
  · simp only [List.getElem?_replicate]; split <;> rfl
  · rfl
def zc19 (i : Nat) : Value := if i = 0 then .pointer none else if i < 7 then .bool false else if i < 199 then (if (i - 7) % 2 = 0 then .bool false else .int .i64 0) else .int .i64 0
theorem zero19 : (zeroCells Try.prog T_N_ref19_Vm).toList = (List.range 200).map zc19 := by kernel_rfl
theorem Wf.new {n : Nat} (hn : n ≤ 64) (h1 : 1 ≤ n) : Wf (newS n) :=
  ⟨by simp [newS], by simp [newS], fun x hx => by rw [List.eq_of_mem_replicate hx]; exact ⟨by decide, by show (-2 : Int) < (n : Int); omega⟩, fun p q _ => pgOf_new n p q, hn⟩
section
variable {h : Hp} {K : Value → Hp → Prop}
theorem r19_New (k : Int) (h1 : 1 ≤ k) (h2 : k ≤ 64) (hok : ∀ h' r F', RefRep h' r (newS k.toNat) F' → Ext h h' → (∀ q ∈ F', h.size ≤ q) → K (.pointer (some ⟨r, 0, none⟩)) h') : CallsH Try.prog f_ref19_New #[.int .i64 k] h K := by
  refine q_ref19_New_calls k h K ?_
  unfold q_ref19_New
  refine r_New k h1 h2 fun g mg xg zg => ⟨_, rfl, iteP_f rfl (letH_iff.2 ?_)⟩
  rw [zero19, fillL_over]
  have x1 : Ext g (g.push (.cells ⟨over ((List.range 200).map zc19) 0 [.pointer (some ⟨h.size + 1, 0, none⟩)]⟩ T_N_ref19_Vm)) := Ext.push _ _
  have b1 : (g.push (.cells ⟨over ((List.range 200).map zc19) 0 [.pointer (some ⟨h.size + 1, 0, none⟩)]⟩ T_N_ref19_Vm))[g.size]? = some (.cells ⟨over ((List.range 200).map zc19) 0 [.pointer (some ⟨h.size + 1, 0, none⟩)]⟩ T_N_ref19_Vm) := push_new _ _
  generalize hcs : over ((List.range 200).map zc19) 0 [.pointer (some ⟨h.size + 1, 0, none⟩)] = cs at *
  generalize g.push (.cells ⟨cs⟩ T_N_ref19_Vm) = g2 at *
  refine hok g2 g.size [g.size, h.size + 1, h.size] ⟨h.size + 1, h.size, rfl, ⟨⟨_, b1, fun i => ?_⟩, mg.congr (x1.frame _ (by omega) (by simp)) (x1.frame _ (by omega) (by simp))⟩, Wf.new (by omega) (by omega)⟩ (xg.trans x1) ?_
  · have e : (⟨cs⟩ : Array Value)[i]? = cs[i]? := by simp
    rw [e, ← hcs, over_get (by simp)]
    unfold refCell
    by_cases h0 : i = 0
    · subst h0; rfl
    · rw [if_neg (by simp; omega), if_neg h0]
      simp only [hasOf_new, pgOf_new]
      by_cases h9 : i < 200
      · rw [List.getElem?_map, List.getElem?_range h9]
        show some (zc19 i) = _
        unfold zc19
        rw [if_neg h0]
        split
        · rfl
        · split
          · split <;> rfl
          · rw [if_pos (by omega)]; rfl
      · rw [List.getElem?_eq_none (by simp; omega), if_neg (by omega), if_neg (by omega), if_neg (by omega)]
  · intro q hq
    simp only [List.mem_cons, List.not_mem_nil, or_false] at hq
    have := xg.size
    omega
theorem c_SameInts {p q : Option Addr} {n m c d : Nat} {xs ys : List Int} {el el' : TypeId} {F G : List Nat} (ha : SlAt h el 1 p n c (xs.map (.int .i64)) F) (hb : SlAt h el' 1 q m d (ys.map (.int .i64)) G) (hn : n ≤ 1000000) (hK : K (.bool (decide (xs = ys))) h) :
    CallsH Try.prog f_ref06_SameInts #[.slice p n c, .slice q m d] h K := by
  refine q_ref06_SameInts_calls p n c q m d h K ?_
  unfold q_ref06_SameInts
  have la : xs.length = n := by have := ha.len; simpa using this
  have lb : ys.length = m := by have := hb.len; simpa using this
  refine iteP_nec (fun h1 => ?_) fun h1 => ?_
  · rw [show decide (xs = ys) = false by apply decide_eq_false; rintro rfl; omega] at hK; exact hK
  have hnm : n = m := by omega
  refine ⟨fun i g => g = h ∧ 0 ≤ i ∧ i ≤ n ∧ xs.take i.toNat = ys.take i.toNat, fun i _ => ((n : Int) - i).toNat, ⟨rfl, by omega, by omega, by simp⟩, ?_⟩
  rintro i g ⟨rfl, i0, i1, ht⟩
  refine iteP_cases (fun hi => ?_) fun hi => ?_
  · obtain ⟨a1, v1, rfl, e1, c1, _⟩ := ha.cell (i := i.toNat) (by omega)
    obtain ⟨a2, v2, rfl, e2, c2, _⟩ := hb.cell (i := i.toNat) (by omega)
    have l1 : i.toNat < xs.length := by omega
    have l2 : i.toNat < ys.length := by omega
    rw [List.getElem?_map, List.getElem?_eq_getElem l1] at e1
    rw [List.getElem?_map, List.getElem?_eq_getElem l2] at e2
    cases e1; cases e2
    refine ⟨i0, by omega, ?_⟩
    rw [wth_some]
    refine ⟨_, c1, i0, by omega, ?_⟩
    rw [wth_some]
    refine ⟨_, c2, iteP_nec (fun h3 => ?_) fun h3 => ?_⟩
    · rw [show decide (xs = ys) = false by apply decide_eq_false; rintro rfl; exact h3 rfl] at hK; exact hK
    · rw [wrap64 (x := i + 1) (by omega) (by omega)]
      refine ⟨⟨rfl, by omega, by omega, ?_⟩, by show ((n : Int) - (i + 1)).toNat < ((n : Int) - i).toNat; omega⟩
      rw [show (i + 1).toNat = i.toNat + 1 by omega, List.take_add_one, List.take_add_one, ht, List.getElem?_eq_getElem l1, List.getElem?_eq_getElem l2]
      have h4 : xs[i.toNat] = ys[i.toNat] := by omega
      rw [h4]
  · rw [List.take_of_length_le (by omega), List.take_of_length_le (by omega)] at ht
    rw [show decide (xs = ys) = true from decide_eq_true ht] at hK; exact hK
end
end Go.Proofs.Ytmdhfmljgjnggaa
