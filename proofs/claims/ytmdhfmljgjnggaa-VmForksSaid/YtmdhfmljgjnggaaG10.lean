/- The texts CRef10 VmLaw VmPlay VmOpen Qvmc CVm9 CRef11, one behind the other. No condition. -/
import Derived.Test.YtmdhfmljgjnggaaG9
import Derived.Test.YtmdhfmljgjnggaaG4
/- The reference of vm: New; comparing rows of integers. No condition. -/
namespace Go.Proofs.Ytmdhfmljgjnggaa
attribute [local irreducible] semWP
set_option linter.constructorNameAsVariable false
theorem pgOf_new (n : Nat) (p q : Int) : pgOf (newS n) p q = -2 := by
  unfold pgOf newS
  split
  · simp only [List.getElem?_replicate]; split <;> rfl
  · rfl
theorem hasOf_new (n : Nat) (p : Int) : hasOf (newS n) p = false := by
  unfold hasOf newS
  split
  · simp only [List.getElem?_replicate]; split <;> rfl
  · rfl
def zc19 (i : Nat) : Value := if i = 0 then .pointer none else if i < 7 then .bool false else if i < 199 then (if (i - 7) % 2 = 0 then .bool false else .int .i64 0) else .int .i64 0
theorem zero19 : (zeroCells Try.prog T_N_ref19_Vm).toList = (List.range 200).map zc19 := by kernel_rfl
theorem Wf.new {n : Nat} (hn : n ≤ 64) (h1 : 1 ≤ n) : Wf (newS n) :=
  ⟨by simp [newS], by simp [newS], fun x hx => by rw [List.eq_of_mem_replicate hx]; exact ⟨by decide, by show (-2 : Int) < (n : Int); omega⟩, fun p q _ => pgOf_new n p q, hn⟩
section
variable {h : Hp} {K : Value → Hp → Prop}
theorem r19_New (k : Int) (h1 : 1 ≤ k) (h2 : k ≤ 64) (hok : ∀ h' r F', RefRep h' r (newS k.toNat) F' → Ext h h' → (∀ q ∈ F', h.size ≤ q) → K (.pointer (some ⟨r, 0, none⟩)) h') : CallsH Try.prog f_ref19_New #[.int .i64 k] h K := by
  refine q_ref19_New_calls k h K ?_
  unfold q_ref19_New
  refine r_New k h1 h2 fun g mg xg zg => ⟨_, rfl, iteP_f rfl (letH_iff.2 ?_)⟩
  rw [zero19, fillL_over]
  have x1 : Ext g (g.push (.cells ⟨over ((List.range 200).map zc19) 0 [.pointer (some ⟨h.size + 1, 0, none⟩)]⟩ T_N_ref19_Vm)) := Ext.push _ _
  have b1 : (g.push (.cells ⟨over ((List.range 200).map zc19) 0 [.pointer (some ⟨h.size + 1, 0, none⟩)]⟩ T_N_ref19_Vm))[g.size]? = some (.cells ⟨over ((List.range 200).map zc19) 0 [.pointer (some ⟨h.size + 1, 0, none⟩)]⟩ T_N_ref19_Vm) := push_new _ _
  generalize hcs : over ((List.range 200).map zc19) 0 [.pointer (some ⟨h.size + 1, 0, none⟩)] = cs at *
  generalize g.push (.cells ⟨cs⟩ T_N_ref19_Vm) = g2 at *
  refine hok g2 g.size [g.size, h.size + 1, h.size] ⟨h.size + 1, h.size, rfl, ⟨⟨_, b1, fun i => ?_⟩, mg.congr (x1.frame _ (by omega) (by simp)) (x1.frame _ (by omega) (by simp))⟩, Wf.new (by omega) (by omega)⟩ (xg.trans x1) ?_
  · have e : (⟨cs⟩ : Array Value)[i]? = cs[i]? := by simp
    rw [e, ← hcs, over_get (by simp)]
    unfold refCell
    by_cases h0 : i = 0
    · subst h0; rfl
    · rw [if_neg (by simp; omega), if_neg h0]
      simp only [hasOf_new, pgOf_new]
      by_cases h9 : i < 200
      · rw [List.getElem?_map, List.getElem?_range h9]
        show some (zc19 i) = _
        unfold zc19
        rw [if_neg h0]
        split
        · rfl
        · split
          · split <;> rfl
          · rw [if_pos (by omega)]; rfl
      · rw [List.getElem?_eq_none (by simp; omega), if_neg (by omega), if_neg (by omega), if_neg (by omega)]
  · intro q hq
    simp only [List.mem_cons, List.not_mem_nil, or_false] at hq
    have := xg.size
    omega
theorem c_SameInts {p q : Option Addr} {n m c d : Nat} {xs ys : List Int} {el el' : TypeId} {F G : List Nat} (ha : SlAt h el 1 p n c (xs.map (.int .i64)) F) (hb : SlAt h el' 1 q m d (ys.map (.int .i64)) G) (hn : n ≤ 1000000) (hK : K (.bool (decide (xs = ys))) h) :
    CallsH Try.prog f_ref06_SameInts #[.slice p n c, .slice q m d] h K := by
  refine q_ref06_SameInts_calls p n c q m d h K ?_
  unfold q_ref06_SameInts
  have la : xs.length = n := by have := ha.len; simpa using this
  have lb : ys.length = m := by have := hb.len; simpa using this
  refine iteP_nec (fun h1 => ?_) fun h1 => ?_
  · rw [show decide (xs = ys) = false by apply decide_eq_false; rintro rfl; omega] at hK; exact hK
  have hnm : n = m := by omega
  refine ⟨fun i g => g = h ∧ 0 ≤ i ∧ i ≤ n ∧ xs.take i.toNat = ys.take i.toNat, fun i _ => ((n : Int) - i).toNat, ⟨rfl, by omega, by omega, by simp⟩, ?_⟩
  rintro i g ⟨rfl, i0, i1, ht⟩
  refine iteP_cases (fun hi => ?_) fun hi => ?_
  · obtain ⟨a1, v1, rfl, e1, c1, _⟩ := ha.cell (i := i.toNat) (by omega)
    obtain ⟨a2, v2, rfl, e2, c2, _⟩ := hb.cell (i := i.toNat) (by omega)
    have l1 : i.toNat < xs.length := by omega
    have l2 : i.toNat < ys.length := by omega
    rw [List.getElem?_map, List.getElem?_eq_getElem l1] at e1
    rw [List.getElem?_map, List.getElem?_eq_getElem l2] at e2
    cases e1; cases e2
    refine ⟨i0, by omega, ?_⟩
    rw [wth_some]
    refine ⟨_, c1, i0, by omega, ?_⟩
    rw [wth_some]
    refine ⟨_, c2, iteP_nec (fun h3 => ?_) fun h3 => ?_⟩
    · rw [show decide (xs = ys) = false by apply decide_eq_false; rintro rfl; exact h3 rfl] at hK; exact hK
    · rw [wrap64 (x := i + 1) (by omega) (by omega)]
      refine ⟨⟨rfl, by omega, by omega, ?_⟩, by show ((n : Int) - (i + 1)).toNat < ((n : Int) - i).toNat; omega⟩
      rw [show (i + 1).toNat = i.toNat + 1 by omega, List.take_add_one, List.take_add_one, ht, List.getElem?_eq_getElem l1, List.getElem?_eq_getElem l2]
      have h4 : xs[i.toNat] = ys[i.toNat] := by omega
      rw [h4]
  · rw [List.take_of_length_le (by omega), List.take_of_length_le (by omega)] at ht
    rw [show decide (xs = ys) = true from decide_eq_true ht] at hK; exact hK
end
end Go.Proofs.Ytmdhfmljgjnggaa
/- The law of vm: a deed on both; do both tell the same? No condition. -/
namespace Go.Proofs.Ytmdhfmljgjnggaa
attribute [local irreducible] semWP
set_option linter.constructorNameAsVariable false
/-- The memory of processes and its reference, in the same state, apart, in blocks from B on. -/
structure BothAt (B : Nat) (h : Hp) (v r : Nat) (s : VmS) (F G : List Nat) : Prop where
  vm : VmRep h v s F
  rf : RefRep h r s G
  ap : ∀ q ∈ G, q ∉ F
  vb : ∀ q ∈ F, B ≤ q
  rb : ∀ q ∈ G, B ≤ q
  le : B ≤ h.size
section
variable {h h1 h2 h3 : Hp} {v r B : Nat} {s s' : VmS} {K : Value → Hp → Prop} {F G F2 G3 : List Nat}
theorem BothAt.ext (hb : BothAt B h v r s F G) (x : Ext h h1) : BothAt B h1 v r s F G :=
  ⟨hb.vm.ext x, hb.rf.ext x, hb.ap, hb.vb, hb.rb, Nat.le_trans hb.le x.size⟩
theorem BothAt.mid (hb : BothAt B h v r s F G) (st : Step h h2 F F2) : RefRep h2 r s G := hb.rf.congr fun q hq => st.frame q (hb.rf.lt q hq) (hb.ap q hq)
theorem BothAt.step (hb : BothAt B h v r s F G) (v2 : VmRep h2 v s' F2) (st2 : Step h h2 F F2) (r3 : RefRep h3 r s' G3) (st3 : Step h2 h3 G G3) : BothAt B h3 v r s' F2 G3 ∧ Low B h h3 ∧ h.size ≤ h3.size := by
  have z2 := st2.size
  have z3 := st3.size
  have hl := hb.le
  have hF2 : ∀ q ∈ F2, B ≤ q := fun q hq => by
    rcases st2.foot q hq with h | h
    · exact hb.vb q h
    · omega
  refine ⟨⟨v2.congr fun q hq => st3.frame q (v2.lt q hq) fun hg => ?_, r3, fun q hq hf => ?_, hF2, fun q hq => ?_, by omega⟩, fun q hq => ?_, by omega⟩
  · rcases st2.foot q hq with h | h
    · exact hb.ap q hg h
    · have := hb.rf.lt q hg; omega
  · rcases st3.foot q hq with h | h
    · rcases st2.foot q hf with h' | h'
      · exact hb.ap q h h'
      · have := hb.rf.lt q h; omega
    · have := v2.lt q hf; omega
  · rcases st3.foot q hq with h | h
    · exact hb.rb q h
    · omega
  · rw [st3.frame q (by omega) (fun hg => by have := hb.rb q hg; omega), st2.frame q (by omega) (fun hg => by have := hb.vb q hg; omega)]
theorem c_few {p : Option Addr} {n c : Nat} {vs : List Value} (hr : RdAt h p vs B) (hl : vs.length = n) (hc : n ≤ c) (hK : ∀ k, RdAt h p (vs.take 120) B → (vs.take 120).length = k → K (.slice p k c) h) : CallsH Try.prog f_law19_few #[.slice p n c] h K := by
  refine q_law19_few_calls p n c h K ?_
  unfold q_law19_few
  refine iteP_cases (fun h1 => ⟨by decide, by omega, ?_⟩) fun h1 => ?_
  · have e : (if c = 0 then p else Option.map (fun a : Addr => a.add (0 * 1)) p) = p := by
      split
      · rfl
      · cases p <;> rfl
    rw [e, Nat.sub_zero, Nat.sub_zero]
    exact hK _ (hr.take 120) (by rw [List.length_take]; omega)
  · have e : vs.take 120 = vs := List.take_of_length_le (by omega)
    rw [e] at hK
    exact hK n hr hl
set_option maxHeartbeats 1000000 in
theorem c_do (hb : BothAt B h v r s F G) (a b c d e : Int) {p : Option Addr} {n k : Nat} {bs : List Int} (hs : RdAt h p (bs.map (.int .u8)) B) (hn : bs.length = n) (hnk : n ≤ k)
    (hK : ∀ h' s' F' G', BothAt B h' v r s' F' G' → Low B h h' → h.size ≤ h'.size → K (.bool true) h') :
    CallsH Try.prog f_law19_do #[.pointer (some ⟨v, 0, none⟩), .pointer (some ⟨r, 0, none⟩), .agg #[.int .i64 a, .int .i64 b, .int .i64 c, .int .i64 d, .int .u8 e, .slice p n k]] h K := by
  refine q_law19_do_calls v r a b c d e p n k h K ?_
  unfold q_law19_do
  refine letH_iff.2 ?_
  have x1 : Ext h (h.push (.cells #[.int .i64 a, .int .i64 b, .int .i64 c, .int .i64 d, .int .u8 e, .slice p n k] T_N_law19_Deed)) := Ext.push _ _
  have b1 : (h.push (.cells #[.int .i64 a, .int .i64 b, .int .i64 c, .int .i64 d, .int .u8 e, .slice p n k] T_N_law19_Deed))[h.size]? = some (.cells #[.int .i64 a, .int .i64 b, .int .i64 c, .int .i64 d, .int .u8 e, .slice p n k] T_N_law19_Deed) := push_new _ _
  have z1 : (h.push (.cells #[.int .i64 a, .int .i64 b, .int .i64 c, .int .i64 d, .int .u8 e, .slice p n k] T_N_law19_Deed)).size = h.size + 1 := by simp
  generalize h.push (.cells #[.int .i64 a, .int .i64 b, .int .i64 c, .int .i64 d, .int .u8 e, .slice p n k] T_N_law19_Deed) = h1 at *
  have cc : ∀ {g : Hp} (i : Nat), g[h.size]? = h1[h.size]? → cellAt g ⟨h.size, i, none⟩ = (#[Value.int .i64 a, .int .i64 b, .int .i64 c, .int .i64 d, .int .u8 e, .slice p n k])[i]? := fun i he => by rw [cellAt_cells (he.trans b1)]
  have hb1 := hb.ext x1
  have hout : h.size ∉ F := fun hf => by have := hb.vm.lt _ hf; omega
  have hmid : ∀ {g : Hp} {F'}, Step h1 g F F' → g[h.size]? = h1[h.size]? := fun st => st.frame _ (by omega) hout
  have fin : ∀ {g2 g3 : Hp} {s' F2 G3} {x : Int}, VmRep g2 v s' F2 → Step h1 g2 F F2 → RefRep g3 r s' G3 → Step g2 g3 G G3 → K (.bool (x == x)) g3 := fun v2 st2 r3 st3 => by
    obtain ⟨f1, f2, f3⟩ := hb1.step v2 st2 r3 st3
    rw [beq_self_eq_true]
    refine hK _ _ _ _ f1 (Low.trans (Low.step x1 hb.le (by simp)) f2) ?_
    have := x1.size; omega
  refine ⟨_, cc 0 rfl, iteP_eqc (fun hk => ⟨_, cc 1 rfl, _, cc 1 rfl, c_vm_Begin hb1.vm b fun h2 F2 v2 st2 => ⟨_, rfl, ⟨_, cc 1 (hmid st2), rfl⟩, r_Begin (hb1.mid st2) b fun h3 r3 st3 => ⟨_, rfl, fin v2 st2 r3 st3⟩⟩⟩) fun hk => ?_⟩
  refine iteP_eqc (fun hk => ⟨_, cc 1 rfl, _, cc 1 rfl, c_vm_End hb1.vm b fun h2 F2 v2 st2 => ⟨_, rfl, ⟨_, cc 1 (hmid st2), rfl⟩, r_End (hb1.mid st2) b fun h3 r3 st3 => ⟨_, rfl, fin v2 st2 r3 st3⟩⟩⟩) fun hk => ?_
  refine iteP_eqc (fun hk => ⟨_, cc 1 rfl, _, cc 2 rfl, _, cc 1 rfl, _, cc 2 rfl, c_vm_Fork hb1.vm b c fun h2 F2 v2 st2 => ⟨_, rfl, ⟨_, cc 2 (hmid st2), rfl⟩, ⟨_, cc 1 (hmid st2), rfl⟩, r_Fork (hb1.mid st2) b c fun h3 r3 st3 => ⟨_, rfl, fin v2 st2 r3 st3⟩⟩⟩) fun hk => ?_
  refine iteP_eqc (fun hk => ⟨_, cc 1 rfl, _, cc 3 rfl, _, cc 1 rfl, _, cc 3 rfl, c_vm_Map hb1.vm b d fun h2 F2 v2 st2 => ⟨_, rfl, ⟨_, cc 3 (hmid st2), rfl⟩, ⟨_, cc 1 (hmid st2), rfl⟩, r_Map (hb1.mid st2) b d fun h3 r3 st3 => ⟨_, rfl, fin v2 st2 r3 st3⟩⟩⟩) fun hk => ?_
  refine iteP_eqc (fun hk => ⟨_, cc 1 rfl, _, cc 3 rfl, _, cc 1 rfl, _, cc 3 rfl, c_vm_Unmap hb1.vm b d fun h2 F2 v2 st2 => ⟨_, rfl, ⟨_, cc 3 (hmid st2), rfl⟩, ⟨_, cc 1 (hmid st2), rfl⟩, r_Unmap (hb1.mid st2) b d fun h3 r3 st3 => ⟨_, rfl, fin v2 st2 r3 st3⟩⟩⟩) fun hk => ?_
  refine iteP_eqc (fun hk => ⟨_, cc 1 rfl, _, cc 3 rfl, _, cc 4 rfl, _, cc 1 rfl, _, cc 3 rfl, _, cc 4 rfl, c_vm_Poke hb1.vm b d e fun h2 F2 v2 st2 => ⟨_, rfl, ⟨_, cc 4 (hmid st2), rfl⟩, ⟨_, cc 3 (hmid st2), rfl⟩, ⟨_, cc 1 (hmid st2), rfl⟩, r_Poke (hb1.mid st2) b d e fun h3 r3 st3 => ⟨_, rfl, fin v2 st2 r3 st3⟩⟩⟩) fun hk => ?_
  have hs1 := hs.low (Low.step x1 hb.le (by simp))
  have hl1 : (bs.map (Value.int .u8)).length = n := by rw [List.length_map]; exact hn
  refine iteP_eqc (fun hk => ⟨_, cc 1 rfl, _, cc 3 rfl, _, _, _, cc 5 rfl, _, cc 1 rfl, _, cc 3 rfl, _, _, _, cc 5 rfl, c_few hs1 hl1 hnk fun m hs2 hm => ⟨_, _, _, rfl, ⟨_, _, _, cc 5 rfl, rfl⟩, ⟨_, cc 3 rfl, rfl⟩, ⟨_, cc 1 rfl, rfl⟩, ⟨_, cc 3 rfl, rfl⟩, ⟨_, cc 1 rfl, rfl⟩, ?_⟩⟩) fun hk => ?_
  · rw [← List.map_take] at hs2 hm
    rw [List.length_map] at hm
    refine c_vm_Fill hb1.vm b d hs2 hm hb1.le hb1.vb fun h2 F2 v2 st2 => ⟨_, rfl, ⟨_, _, _, cc 5 (hmid st2), rfl⟩, ⟨_, cc 3 (hmid st2), rfl⟩, ⟨_, cc 1 (hmid st2), rfl⟩, ?_⟩
    have l2 : Low B h1 h2 := Low.step st2 hb1.le hb1.vb
    refine c_few (hs1.low l2) hl1 hnk fun m' hs3 hm' => ⟨_, _, _, rfl, ⟨_, cc 3 (hmid st2), rfl⟩, ⟨_, cc 1 (hmid st2), rfl⟩, ?_⟩
    rw [← List.map_take] at hs3 hm'
    rw [List.length_map] at hm'
    exact r_Fill (hb1.mid st2) b d hs3 hm' (by have := hb1.le; have := st2.size; omega) hb1.rb fun h3 r3 st3 => ⟨_, rfl, fin v2 st2 r3 st3⟩
  · exact hK h1 s F G hb1 (Low.step x1 hb.le (by simp)) x1.size
set_option maxHeartbeats 1000000 in
theorem c_same (hb : BothAt B h v r s F G) (hK : ∀ h', Ext h h' → K (.bool true) h') : CallsH Try.prog f_law19_same #[.pointer (some ⟨v, 0, none⟩), .pointer (some ⟨r, 0, none⟩)] h K := by
  refine q_law19_same_calls v r h K ?_
  unfold q_law19_same
  refine ⟨fun i hc => -1 ≤ i ∧ i ≤ 7 ∧ Ext h hc, fun i _ => (7 - i).toNat, ⟨by decide, by decide, Step.refl _ _⟩, ?_⟩
  rintro i hc ⟨i0, i1, xc⟩
  have hbc := hb.ext xc
  refine iteP_cases (fun hi => ?_) fun hi => ?_
  · refine c_vm_Pages hbc.vm i fun h2 p2 n2 c2 G2 s2 x2 g2 => ⟨_, _, _, rfl, ?_⟩
    have hb2 := hbc.ext x2
    refine r_Pages hb2.rf i fun h3 p3 n3 c3 G3 s3 x3 g3 => ⟨_, _, _, rfl, ?_⟩
    have hG2 : ∀ q ∈ G2, q < h2.size := fun q hq => by
      rcases s2.is with ⟨_, _, hG⟩ | ⟨b, o, cs, _, hG, hb, _, _⟩
      · rw [hG] at hq; simp at hq
      · rw [hG] at hq; simp at hq; rw [hq]; exact lt_of_at hb
    have s2' := s2.congr fun q hq => x3.frame q (hG2 q hq) (by simp)
    have hl2 : n2 ≤ 1000000 := by
      have := s2.len
      have h5 := pagesTo_len s i 16
      have : pagesTo s i 16 = pagesS s i := rfl
      rw [this] at h5
      simp at *
      omega
    refine c_SameInts s2' s3 hl2 ⟨_, rfl, ?_⟩
    rw [decide_eq_true rfl]
    have hb3 := hb2.ext x3
    refine iteP_f rfl ⟨fun j g => -1 ≤ j ∧ j ≤ 6 ∧ Ext h3 g, fun j _ => (6 - j).toNat, ⟨by decide, by decide, Step.refl _ _⟩, ?_⟩
    rintro j g ⟨j0, j1, xg⟩
    have hbg := hb3.ext xg
    refine iteP_cases (fun hj => c_vm_Frame hbg.vm i j ⟨_, _, rfl, r_Frame hbg.rf i j ⟨_, _, rfl, ?_⟩⟩) fun hj => ?_
    · rw [wrap64 (x := j + 1) (by omega) (by omega)]
      exact iteP_nne rfl (iteP_f (by simp) ⟨⟨by omega, by omega, xg⟩, by show (6 - (j + 1)).toNat < (6 - j).toNat; omega⟩)
    · refine ⟨fun j g' => -1 ≤ j ∧ j ≤ 134 ∧ Ext g g', fun j _ => (134 - j).toNat, ⟨by decide, by decide, Step.refl _ _⟩, ?_⟩
      rintro j g' ⟨j0, j1, xg'⟩
      have hbg' := hbg.ext xg'
      refine iteP_cases (fun hj => c_vm_Peek hbg'.vm i j ⟨_, _, rfl, r_Peek hbg'.rf i j ⟨_, _, rfl, ?_⟩⟩) fun hj => ?_
      · rw [wrap64 (x := j + 5) (by omega) (by omega)]
        exact iteP_nne rfl (iteP_nne rfl ⟨⟨by omega, by omega, xg'⟩, by show (134 - (j + 5)).toNat < (134 - j).toNat; omega⟩)
      · rw [wrap64 (x := i + 1) (by omega) (by omega)]
        exact ⟨⟨by omega, by omega, xc.trans (x2.trans (x3.trans (xg.trans xg')))⟩, by show (7 - (i + 1)).toNat < (7 - i).toNat; omega⟩
  · refine ⟨fun j g => -1 ≤ j ∧ j ≤ 10 ∧ Ext hc g, fun j _ => (10 - j).toNat, ⟨by decide, by decide, Step.refl _ _⟩, ?_⟩
    rintro j g ⟨j0, j1, xg⟩
    have hbg := hbc.ext xg
    refine iteP_cases (fun hj => c_vm_Refs hbg.vm j ⟨_, rfl, r_Refs hbg.rf j ⟨_, rfl, ?_⟩⟩) fun hj => ?_
    · rw [wrap64 (x := j + 1) (by omega) (by omega)]
      exact iteP_nne rfl ⟨⟨by omega, by omega, xg⟩, by show (10 - (j + 1)).toNat < (10 - j).toNat; omega⟩
    · refine c_vm_Left hbg.vm ⟨_, rfl, r_Left hbg.rf ⟨_, rfl, iteP_eq rfl (c_vm_Copies hbg.vm ⟨_, rfl, r_Copies hbg.rf ⟨_, rfl, ?_⟩⟩)⟩⟩
      rw [beq_self_eq_true]
      exact hK g (xc.trans xg)
end
end Go.Proofs.Ytmdhfmljgjnggaa
/- The law of vm: deeds on both, whatever the deeds; VmPlays. No condition. -/
namespace Go.Proofs.Ytmdhfmljgjnggaa
attribute [local irreducible] semWP
set_option linter.constructorNameAsVariable false
/-- A row of deeds from p on, in blocks below B. -/
def DeedsAt (h : Hp) (p : Option Addr) (n B : Nat) : Prop := ∀ i : Nat, i < n → ∃ ad : Addr, p = some ad ∧ ad.block < B ∧ ∃ (a b c d e : Int) (bp : Option Addr) (bn bk : Nat) (bs : List Int),
  cellAt h (ad.add (i * 6)) = some (.int .i64 a) ∧ cellAt h ((ad.add (i * 6)).add 1) = some (.int .i64 b) ∧ cellAt h ((ad.add (i * 6)).add 2) = some (.int .i64 c) ∧ cellAt h ((ad.add (i * 6)).add 3) = some (.int .i64 d) ∧
  cellAt h ((ad.add (i * 6)).add 4) = some (.int .u8 e) ∧ cellAt h ((ad.add (i * 6)).add 5) = some (.slice bp bn bk) ∧ RdAt h bp (bs.map (.int .u8)) B ∧ bs.length = bn ∧ bn ≤ bk
theorem DeedsAt.low {h h' : Hp} {p : Option Addr} {n B : Nat} (hd : DeedsAt h p n B) (hl : Low B h h') : DeedsAt h' p n B := by
  intro i hi
  obtain ⟨ad, h1, h2, a, b, c, d, e, bp, bn, bk, bs, c0, c1, c2, c3, c4, c5, r, l1, l2⟩ := hd i hi
  have hs : ∀ x y, cellAt h' ((ad.add x).add y) = cellAt h ((ad.add x).add y) := fun x y => cellAt_same (hl _ (by rw [Addr.add_block, Addr.add_block]; exact h2))
  have hs0 : ∀ x, cellAt h' (ad.add x) = cellAt h (ad.add x) := fun x => cellAt_same (hl _ (by rw [Addr.add_block]; exact h2))
  exact ⟨ad, h1, h2, a, b, c, d, e, bp, bn, bk, bs, by rw [hs0]; exact c0, by rw [hs]; exact c1, by rw [hs]; exact c2, by rw [hs]; exact c3, by rw [hs]; exact c4, by rw [hs]; exact c5, r.low hl, l1, l2⟩
section
variable {h : Hp} {B : Nat} {K : Value → Hp → Prop}
theorem rd_nil {h : Hp} {B : Nat} : RdAt h none (([] : List Int).map (.int .u8)) B := fun i v hv => by simp at hv
set_option maxHeartbeats 1000000 in
theorem c_play (x : Int) (hx0 : 0 ≤ x) (hx1 : x < 256) {p : Option Addr} {n c : Nat} (hd : DeedsAt h p n B) (hB : B ≤ h.size)
    (hK : ∀ h' v r s F G, BothAt B h' v r s F G → Low B h h' → h.size ≤ h'.size → K (.tuple #[.pointer (some ⟨v, 0, none⟩), .pointer (some ⟨r, 0, none⟩), .bool true]) h') :
    CallsH Try.prog f_law19_play #[.int .u8 x, .slice p n c] h K := by
  refine q_law19_play_calls x p n c h K ?_
  unfold q_law19_play
  have e1 : IntKind.wrap .i64 ((Int.tmod (IntKind.wrap .i64 x) 8) + 1) = x % 8 + 1 := by
    rw [wrap64 (x := x) (by omega) (by omega), show Int.tmod x 8 = x % 8 from tmod_nn hx0, wrap64 (by omega) (by omega)]
  rw [e1]
  refine c_vm_New _ (fun hb => by omega) fun n1 n2 h1 v F v1 x1 f1 => ⟨_, rfl, r19_New _ (by omega) (by omega) fun h2 r G r2 x2 g2 => ⟨_, rfl, iteP_f rfl (iteP_f rfl ?_)⟩⟩
  have hb2 : BothAt B h2 v r (newS (x % 8 + 1).toNat) F G := ⟨v1.ext x2, r2, fun q hq hf => by have := g2 q hq; have := v1.lt q hf; omega, fun q hq => by have := f1 q hq; omega, fun q hq => by have := g2 q hq; have := x1.size; omega, by have := x1.size; have := x2.size; omega⟩
  have l2 : Low B h h2 := Low.step (x1.trans x2) hB (by simp)
  have z2 := (x1.trans x2).size
  refine c_do hb2 0 0 0 0 0 rd_nil rfl (Nat.le_refl _) fun h3 s3 F3 G3 hb3 l3 z3 => ⟨_, rfl, iteP_f rfl ?_⟩
  refine ⟨fun i g => 0 ≤ i ∧ i ≤ 3 ∧ ∃ s F G, BothAt B g v r s F G ∧ Low B h g ∧ h.size ≤ g.size, fun i _ => (3 - i).toNat, ⟨by decide, by decide, s3, F3, G3, hb3, l2.trans l3, by omega⟩, ?_⟩
  rintro i g ⟨i0, i1, s, F, G, hb, lg, zg⟩
  refine iteP_cases (fun hi => ?_) fun hi => ?_
  · refine c_do hb 3 0 0 i 0 rd_nil rfl (Nat.le_refl _) fun g' s' F' G' hb' l' z' => ⟨_, rfl, iteP_f rfl ?_⟩
    rw [wrap64 (x := i + 1) (by omega) (by omega)]
    exact ⟨⟨by omega, by omega, s', F', G', hb', lg.trans l', by omega⟩, by show (3 - (i + 1)).toNat < (3 - i).toNat; omega⟩
  · refine ⟨fun i g => 0 ≤ i ∧ i ≤ 40 ∧ ∃ s F G, BothAt B g v r s F G ∧ Low B h g ∧ h.size ≤ g.size, fun i _ => (40 - i).toNat, ⟨by decide, by decide, s, F, G, hb, lg, zg⟩, ?_⟩
    rintro i g ⟨i0, i1, s, F, G, hb, lg, zg⟩
    refine iteP_cases (fun hi => iteP_cases (fun hi4 => ?_) fun _ => hK g v r s F G hb lg zg) fun _ => hK g v r s F G hb lg zg
    obtain ⟨ad, rfl, _, a, b, c', d, e, bp, bn, bk, bs, c0, c1, c2, c3, c4, c5, rd, l1, l2⟩ := hd.low lg i.toNat (by omega)
    refine ⟨i0, hi, ?_⟩
    rw [wth_some]
    refine ⟨_, c0, _, c1, _, c2, _, c3, _, c4, _, _, _, c5, c_do hb a b c' d e rd l1 l2 fun g' s' F' G' hb' l' z' => ⟨_, rfl, iteP_f rfl ?_⟩⟩
    rw [wrap64 (x := i + 1) (by omega) (by omega)]
    exact ⟨⟨by omega, by omega, s', F', G', hb', lg.trans l', by omega⟩, by show (40 - (i + 1)).toNat < (40 - i).toNat; omega⟩
theorem c_VmPlays (x : Int) (hx0 : 0 ≤ x) (hx1 : x < 256) {p : Option Addr} {n c : Nat} (hd : DeedsAt h p n h.size) (hK : ∀ h', Ext h h' → K (.bool true) h') :
    CallsH Try.prog f_law19_VmPlays #[.int .u8 x, .slice p n c] h K := by
  refine q_law19_VmPlays_calls x p n c h K ?_
  unfold q_law19_VmPlays
  refine c_play x hx0 hx1 hd (Nat.le_refl _) fun h1 v r s F G hb l1 z1 => ⟨_, _, _, rfl, c_live fun h2 x2 => ⟨_, rfl, iteP_t rfl (iteP_t rfl ?_)⟩⟩
  refine c_same (hb.ext x2) fun h3 x3 => ⟨_, rfl, hK h3 ⟨by have := x2.size; have := x3.size; omega, fun q hq _ => ?_, by simp⟩⟩
  rw [x3.frame q (by have := x2.size; omega) (by simp), x2.frame q (by omega) (by simp), l1 q hq]
end
end Go.Proofs.Ytmdhfmljgjnggaa
/- Opening the argument 'deeds' of the law of vm. No condition. -/
namespace Go.Proofs.Ytmdhfmljgjnggaa
open Go.ChangeShapes Go.WideShapes Go.ChangeAt Go.RowKit
set_option linter.unusedVariables false
set_option linter.constructorNameAsVariable false
theorem undDeeds : Try.prog.underlying T_s_law19_Deed = some (.slice T_N_law19_Deed) := by kernel_rfl
theorem undDeed : ∃ fs, Try.prog.underlying T_N_law19_Deed = some (.struct fs) := ⟨_, Try.underlying79⟩
theorem fieldsDeed : (structFields Try.prog T_N_law19_Deed).map (fun f => (f.type, f.offset)) = [(T_int, 0), (T_int, 1), (T_int, 2), (T_int, 3), (T_uint8, 4), (T_s_uint8, 5)] := by kernel_rfl
theorem cellsDeed : Try.prog.cellsOf T_N_law19_Deed = 6 := by kernel_rfl
theorem cells1 : Try.prog.cellsOf T_int = 1 := by kernel_rfl
theorem cells2 : Try.prog.cellsOf T_uint8 = 1 := by kernel_rfl
theorem cells3 : Try.prog.cellsOf T_s_uint8 = 1 := by kernel_rfl
theorem undBytes : Try.prog.underlying T_s_uint8 = some (.slice T_uint8) := by kernel_rfl
theorem six {α : Type} {ns : List α} (h : ns.length = 6) : ∃ b0 b1 b2 b3 b4 b5 : α, ns = [b0, b1, b2, b3, b4, b5] := by
  match ns, h with
  | [b0, b1, b2, b3, b4, b5], _ => exact ⟨b0, b1, b2, b3, b4, b5, rfl⟩
theorem deeds {H : Type} {enc : TypeId × Value → H} {w : World} {spare : Nat → Bool} {held : Bool} {cs : List Value} (h : Reads enc Try.prog w spare held T_s_law19_Deed cs) : ∃ p n c, cs = [.slice p n c] ∧ DeedsAt w.heap p n w.heap.size := by
  obtain ⟨p, n, c, rfl, _, _, h2⟩ := reads_slice undDeeds h
  refine ⟨p, n, c, rfl, fun i hi => ?_⟩
  obtain ⟨a, us, rfl, h3, h4, h5⟩ := h2 i hi
  rw [cellsDeed] at h3 h4
  obtain ⟨_, h6⟩ := reads_fields undDeed fieldsDeed h5
  obtain ⟨u0, u1, u2, u3, u4, u5, rfl⟩ := six h3
  have f0 := h6 _ (List.Mem.head _)
  have f1 := h6 _ (.tail _ (List.Mem.head _))
  have f2 := h6 _ (.tail _ (.tail _ (List.Mem.head _)))
  have f3 := h6 _ (.tail _ (.tail _ (.tail _ (List.Mem.head _))))
  have f4 := h6 _ (.tail _ (.tail _ (.tail _ (.tail _ (List.Mem.head _)))))
  have f5 := h6 _ (.tail _ (.tail _ (.tail _ (.tail _ (.tail _ (List.Mem.head _))))))
  simp only [cells1, cells2, cells3, List.drop_succ_cons, List.drop_zero, List.take_succ_cons, List.take_zero] at f0 f1 f2 f3 f4 f5
  obtain ⟨n0, e0, _⟩ := reads_int und3 f0
  obtain ⟨n1, e1, _⟩ := reads_int und3 f1
  obtain ⟨n2, e2, _⟩ := reads_int und3 f2
  obtain ⟨n3, e3, _⟩ := reads_int und3 f3
  obtain ⟨n4, e4, _⟩ := reads_int und5 f4
  obtain ⟨bp, bn, bk, bs, e5, l1, l2, rd⟩ := reads_bytes undBytes und5 cells2 f5
  cases e0; cases e1; cases e2; cases e3; cases e4; cases e5
  have g0 := h4 0 (by decide)
  rw [Addr.add_add, Nat.add_zero] at g0
  have hlt := cellAt_lt g0
  rw [Addr.add_block] at hlt
  exact ⟨a, rfl, hlt, n0, n1, n2, n3, n4, bp, bn, bk, bs, g0, h4 1 (by decide), h4 2 (by decide), h4 3 (by decide), h4 4 (by decide), h4 5 (by decide), rd, l2, l1⟩
end Go.Proofs.Ytmdhfmljgjnggaa
/- Formula of Copy of package vm. No condition. -/
set_option linter.constructorNameAsVariable false
namespace Go.Proofs.Ytmdhfmljgjnggaa

def q_vm_Vm_Copy_ann : Ann := { loops := fun x => match x with | 0 => [] | _ => [], ty := fun x => match x with | 31 => [T_int, T_N_vm_space] | _ => [], canon := fun x => match x with | 3 => [0, 1, 2, 3, 5, 6, 7, 8, 10, 11, 12, 13] | 7 => [0, 1, 2, 3, 4, 5, 6, 7] | _ => [], cuts := fun x => match x with | 4 => some [(3, T_p_vm_Vm)] | _ => none, pair := fun x => match x with | 3 => some (4, 9, [9, 14, 15, 16], [4, 14, 15, 16]) | _ => none }
def q_vm_Vm_Copy (x0 : Nat) (h : Hp) (K : Value → Hp → Prop) : Prop :=
    ∃ J1 : (Option Addr) → Hp → Prop, (∃ p2 : Option Addr, cellAt h ⟨x0, 0, none⟩ = some (.pointer p2) ∧ ∃ cs3 : Array Value, rowAt h ⟨x0, 1, none⟩ 64 cs3 ∧ ∃ n4 : Int, cellAt h ⟨x0, 66, none⟩ = some (.int .i64 n4) ∧ (CallsH Try.prog f_mem_Memory_Fork #[(.pointer p2)] h fun r5 h6
    => ∃ p7 : Option Addr, r5 = (.pointer p7) ∧ (∃ n8 : Int, cellAt h6 ⟨x0, 66, none⟩ = some (.int .i64 n8) ∧ ((.int .i64 n8) : Value) = (.int .i64 n4)) ∧ (∃ cs9 : Array Value, rowAt h6 ⟨x0, 1, none⟩ 64 cs9 ∧ ((.agg cs9) : Value) = (.agg cs3))
    ∧ letH (h6.push (.map #[] 0)) fun h10 => (∃ n11 : Int, cellAt h10 ⟨x0, 66, none⟩ = some (.int .i64 n11) ∧ ((.int .i64 n11) : Value) = (.int .i64 n4)) ∧ (∃ cs12 : Array Value, rowAt h10 ⟨x0, 1, none⟩ 64 cs12 ∧ ((.agg cs12) : Value) = (.agg cs3))
    ∧ (cs3 : Array Value).size = 64 ∧ letH (h10.push (.cells ⟨(fillL (fillL (fillL (fillL (zeroCells Try.prog T_N_vm_Vm).toList 0 [(.pointer p7)]) 1 (cs3 : Array Value).toList) 65 [(.map (some h6.size))]) 66 [(.int .i64 n4)])⟩ T_N_vm_Vm)) fun h13
    => J1 (some ⟨h10.size, 0, none⟩) h13) ∧ letH (h.push (.map #[] 0)) fun h14 => (∃ n15 : Int, cellAt h14 ⟨x0, 66, none⟩ = some (.int .i64 n15) ∧ ((.int .i64 n15) : Value) = (.int .i64 n4)) ∧ (∃ cs16 : Array Value, rowAt h14 ⟨x0, 1, none⟩ 64 cs16
    ∧ ((.agg cs16) : Value) = (.agg cs3)) ∧ (∃ p17 : Option Addr, cellAt h14 ⟨x0, 0, none⟩ = some (.pointer p17) ∧ ((.pointer p17) : Value) = (.pointer p2)) ∧ CallsH Try.prog f_mem_Memory_Fork #[(.pointer p2)] h14 fun r18 h19
    => ∃ p20 : Option Addr, r18 = (.pointer p20) ∧ (∃ n21 : Int, cellAt h19 ⟨x0, 66, none⟩ = some (.int .i64 n21) ∧ ((.int .i64 n21) : Value) = (.int .i64 n4)) ∧ (∃ cs22 : Array Value, rowAt h19 ⟨x0, 1, none⟩ 64 cs22 ∧ ((.agg cs22) : Value) = (.agg cs3))
    ∧ (cs3 : Array Value).size = 64 ∧ letH (h19.push (.cells ⟨(fillL (fillL (fillL (fillL (zeroCells Try.prog T_N_vm_Vm).toList 0 [(.pointer p20)]) 1 (cs3 : Array Value).toList) 65 [(.map (some h.size))]) 66 [(.int .i64 n4)])⟩ T_N_vm_Vm)) fun h23
    => J1 (some ⟨h19.size, 0, none⟩) h23) ∧ ∀ p24 h25, J1 p24 h25 → ∃ m26 : Option Nat, cellAt h25 ⟨x0, 65, none⟩ = some (.map m26) ∧ semWP Try.prog (Instr.range T_m_int_vm_space (.map m26)) h25 fun r27 h28 => ∃ i29 : Nat, r27 = .pointer (some ⟨i29, 0, none⟩)
    ∧ ∃ (I30 : Hp → Prop) (μ31 : Hp → Nat), I30  h28 ∧ ∀  h32, I30  h32 → semWP Try.prog (Instr.next (.pointer (some ⟨i29, 0, none⟩)) false T_x) h32 fun r33 h34 => ∃ (b35 : Bool) (xs36 : List Value), r33 = .tuple ⟨.bool b35 :: xs36⟩
    ∧ iteP b35 (∃ n37 : Int, ∃ m38 : Option Nat, RunsTo Try.prog (Instr.entry (.pointer (some ⟨i29, 0, none⟩))) h34 (.tuple #[(.int .i64 n37), (.map m38)]) ∧ wth p24 fun a39 => ∃ m40 : Option Nat, cellAt h34 (a39.add 65) = some (.map m40)
    ∧ CallsH Try.prog f_maps_Clone_vm_space_int_int #[(.map m38)] h34 fun r41 h42 => ∃ m43 : Option Nat, r41 = (.map m43) ∧ (∃ m44 : Option Nat, cellAt h42 (a39.add 65) = some (.map m44) ∧ ((.map m44) : Value) = (.map m40)) ∧
    semWP Try.prog (Instr.mapUpdate T_m_int_vm_space (.map m40) (.int .i64 n37) (.map m43)) h42 fun _ h45 => I30  h45 ∧ μ31  h45 < μ31  h32) (K (.pointer p24) h34)
theorem q_vm_Vm_Copy_calls (x0 : Nat) (h : Hp) (K : Value → Hp → Prop) (hq : q_vm_Vm_Copy x0 h K) : CallsH Try.prog f_vm_Vm_Copy #[(.pointer (some ⟨x0, 0, none⟩))] h K := by
  have e : q_vm_Vm_Copy x0 h K = fnT Try.prog 42 q_vm_Vm_Copy_ann Try.f39 (bodyOf Try.f39) [(.pointer (some ⟨x0, 0, none⟩))] h K := by kernel_rfl
  rw [e] at hq
  exact calls_of_fnT (n := 42) (ann := q_vm_Vm_Copy_ann) mixOk Try.func39 (by kernel_rfl) (by kernel_rfl) (fun args w => Try.call39 args w) (by kernel_rfl) hq

end Go.Proofs.Ytmdhfmljgjnggaa
/- What Copy of package vm does: another one with the same, in new memory. No condition. -/
namespace Go.Proofs.Ytmdhfmljgjnggaa
attribute [local irreducible] semWP
set_option linter.constructorNameAsVariable false
section
variable {h : Hp} {m f n : Nat} {b : List Int} {K : Value → Hp → Prop}
theorem bytes_one {b : List Int} : ∀ v ∈ b.map (Value.int .u8), oneV v = true := by
  intro v hv
  obtain ⟨x, _, rfl⟩ := List.mem_map.1 hv
  rfl
theorem src_cells {P : Program} {h : Hp} {f n c sz : Nat} {vs rest : List Value} {e : TypeId} (hf : h[f]? = some (.cells ⟨vs ++ rest⟩ e (0, 0))) (hl : vs.length = n * sz) : Src P h (.slice (some ⟨f, 0, none⟩) n c) sz n vs :=
  src_rd hl fun i v hv => ⟨_, rfl, by
    rw [Addr.add_mk, cellAt_cells hf, Nat.zero_add]
    have := (List.getElem?_eq_some_iff.1 hv).1
    rw [← hv]
    simp [List.getElem?_append, this]⟩
theorem c_mem_Fork (hm : MemAt h m f n b) (hK : ∀ h' m' f', MemAt h' m' f' n b → Ext h h' → h.size ≤ m' → h.size ≤ f' → K (.pointer (some ⟨m', 0, none⟩)) h') : CallsH Try.prog f_mem_Memory_Fork #[.pointer (some ⟨m, 0, none⟩)] h K := by
  refine q_mem_Memory_Fork_calls m h K ?_
  unfold q_mem_Memory_Fork
  obtain ⟨c, hc, hcell⟩ := hm.cell
  refine ⟨_, _, _, hcell, ?_⟩
  refine q_slices_Clone_mem_frame_mem_frame_calls _ _ _ _ _ ?_
  unfold q_slices_Clone_mem_frame_mem_frame
  refine iteP_f rfl (letH_iff.2 ?_)
  obtain ⟨rest, hfr⟩ := hm.fr
  have x1 : Ext h (h.push (.cells ⟨repL 0 (zeroCells Try.prog T_N_mem_frame).toList⟩ T_N_mem_frame)) := Ext.push _ _
  have b1 : (h.push (.cells ⟨repL 0 (zeroCells Try.prog T_N_mem_frame).toList⟩ T_N_mem_frame))[h.size]? = some (.cells #[] T_N_mem_frame) := push_new _ _
  have z1 : (h.push (.cells ⟨repL 0 (zeroCells Try.prog T_N_mem_frame).toList⟩ T_N_mem_frame)).size = h.size + 1 := by simp
  generalize h.push (.cells ⟨repL 0 (zeroCells Try.prog T_N_mem_frame).toList⟩ T_N_mem_frame) = g at *
  have hl := hm.len
  have hn := hm.le
  have hp := hm.pos
  refine semWP_appendX (t := T_s_mem_frame) (xt := T_s_mem_frame) (el := T_N_mem_frame) (xd := .slice T_N_mem_frame) (i := Try.prog.types[T_N_mem_frame]!) (sz := 32) (by rfl) (by rfl) (by kernel_rfl) (by kernel_rfl) (.inl ⟨_, rfl⟩) (by kernel_rfl) (by kernel_rfl) (by kernel_rfl) (by kernel_rfl) (by kernel_rfl) (by decide +kernel) (by omega)
    (vs := []) (F := [h.size]) (xs := b.map (.int .u8)) ⟨rfl, by omega, .inr ⟨h.size, 0, _, rfl, rfl, b1, by simp, by simp⟩⟩ (src_cells (x1.at hfr) (by simpa using hl)) bytes_one fun h2 p2 c2 F2 s2 st2 hnew => ⟨_, _, _, rfl, _, _, _, rfl, letH_iff.2 ?_⟩
  obtain ⟨rest2, rfl, rfl, e2, l2⟩ := hnew (by omega)
  rw [Nat.zero_add] at *
  rw [List.nil_append] at e2
  have x2 : Ext g h2 := by rw [e2]; exact Ext.push _ _
  have z2 : h2.size = g.size + 1 := by rw [e2]; simp
  have b2 : h2[g.size]? = some (.cells ⟨b.map (.int .u8) ++ rest2⟩ T_N_mem_frame) := by rw [e2]; exact push_new _ _
  refine hK _ h2.size g.size ⟨⟨c2, s2.le, push_new _ _⟩, ⟨rest2, by rw [push_old (by omega)]; exact b2⟩, hl, hp, hn⟩ (x1.trans (x2.trans (Ext.push _ _))) (by omega) (by omega)
end
theorem has_ext {s t : VmS} (h1 : s.has.length = 6) (h2 : t.has.length = 6) (h : ∀ q, hasOf s q = hasOf t q) : s.has = t.has := by
  apply List.ext_getElem?
  intro i
  by_cases hi : i < 6
  · have h3 := h (i : Int)
    unfold hasOf at h3
    rw [if_pos (by omega), if_pos (by omega)] at h3
    have l1 : i < s.has.length := by omega
    have l2 : i < t.has.length := by omega
    rw [Int.toNat_natCast, List.getElem?_eq_getElem l1, List.getElem?_eq_getElem l2] at h3
    rw [List.getElem?_eq_getElem l1, List.getElem?_eq_getElem l2]
    simpa using h3
  · rw [List.getElem?_eq_none (by omega), List.getElem?_eq_none (by omega)]
theorem vms_ext {s t : VmS} (h1 : t.n = s.n) (h2 : t.b = s.b) (h3 : t.cp = s.cp) (h4 : t.has = s.has) (h5 : t.pg = s.pg) : t = s := by
  obtain ⟨_, _, _, _, _⟩ := s
  obtain ⟨_, _, _, _, _⟩ := t
  simp only at h1 h2 h3 h4 h5
  subst h1 h2 h3 h4 h5
  rfl
/-- The state without the spaces of some processes. -/
def without (s : VmS) (ks : List Int) : VmS := { s with
  has := (List.range 6).map fun (i : Nat) => hasOf s i && !decide ((i : Int) ∈ ks)
  pg := (List.range 96).map fun (i : Nat) => if ((i / 16 : Nat) : Int) ∈ ks then -2 else pgOf s ((i / 16 : Nat) : Int) ((i % 16 : Nat) : Int) }
theorem hasOf_without {s : VmS} {ks : List Int} (q : Int) : hasOf (without s ks) q = (hasOf s q && !decide (q ∈ ks)) := by
  by_cases hq : 0 ≤ q ∧ q < 6
  · conv => lhs; unfold hasOf
    rw [if_pos hq]
    have : ((q.toNat : Nat) : Int) = q := by omega
    simp [without, show q.toNat < 6 by omega, this]
  · have e : ∀ t : VmS, hasOf t q = false := fun t => by unfold hasOf; rw [if_neg hq]
    rw [e, e]; rfl
theorem pgOf_without {s : VmS} {ks : List Int} (q page : Int) : pgOf (without s ks) q page = if q ∈ ks then -2 else pgOf s q page := by
  by_cases hq : 0 ≤ q ∧ q < 6 ∧ 0 ≤ page ∧ page < 16
  · conv => lhs; unfold pgOf
    rw [if_pos hq]
    have hi : ixOf q page < 96 := by unfold ixOf; omega
    have e1 : ((ixOf q page / 16 : Nat) : Int) = q := by unfold ixOf; omega
    have e2 : ((ixOf q page % 16 : Nat) : Int) = page := by unfold ixOf; omega
    simp only [without, List.getElem?_map, List.getElem?_range hi, Option.map_some, e1, e2, Option.getD_some]
  · have e : ∀ t : VmS, pgOf t q page = -2 := fun t => by unfold pgOf; rw [if_neg hq]
    rw [e, e]; split <;> rfl
section
variable {h : Hp} {v : Nat} {s : VmS} {K : Value → Hp → Prop} {F : List Nat}
theorem over_vm {rf : List Int} (hr : rf.length = 64) (p : Value) (mp : Value) (cp : Value) (hz : (zeroCells Try.prog T_N_vm_Vm).toList = .pointer none :: (List.replicate 64 (.int .i64 0) ++ [.map none, .int .i64 0])) :
    fillL (fillL (fillL (fillL (zeroCells Try.prog T_N_vm_Vm).toList 0 [p]) 1 (rf.map (Value.int .i64))) 65 [mp]) 66 [cp] = p :: (rf.map (.int .i64) ++ [mp, cp]) := by
  rw [hz]
  simp only [fillL_over]
  have e1 : over (Value.pointer none :: (List.replicate 64 (.int .i64 0) ++ [.map none, .int .i64 0])) 0 [p] = p :: (List.replicate 64 (.int .i64 0) ++ [.map none, .int .i64 0]) := rfl
  rw [e1]
  have e2 : over (p :: (List.replicate 64 (.int .i64 0) ++ [.map none, .int .i64 0])) 1 (rf.map (Value.int .i64)) = p :: (rf.map (Value.int .i64) ++ [.map none, .int .i64 0]) := by
    rw [over_split (by simp [hr])]
    simp [hr]
  rw [e2]
  have e3 : over (p :: (rf.map (Value.int .i64) ++ [.map none, .int .i64 0])) 65 [mp] = p :: (rf.map (Value.int .i64) ++ [mp, .int .i64 0]) := by
    rw [over_split (by simp [hr])]
    simp [hr, List.drop_append, List.take_append]
  rw [e3, over_split (by simp [hr])]
  have t1 : (rf.map (Value.int .i64)).take 65 = rf.map (Value.int .i64) := List.take_of_length_le (by simp [hr])
  have t2 : (rf.map (Value.int .i64)).drop 66 = [] := List.drop_of_length_le (by simp [hr])
  simp [hr, List.drop_append, List.take_append, t1, t2]
theorem zero_vm : (zeroCells Try.prog T_N_vm_Vm).toList = .pointer none :: (List.replicate 64 (.int .i64 0) ++ [.map none, .int .i64 0]) := by kernel_rfl
theorem VmAt.row {m f sb : Nat} {sl : List (Int × Nat)} {rf : List Int} (hv : VmAt h v m f sb sl rf s) : rowAt h ⟨v, 1, none⟩ 64 ⟨rf.map (.int .i64)⟩ := by
  refine ⟨by simp [hv.rl], fun i hi => ?_⟩
  rw [Addr.add_mk, cellAt_cells hv.vm, Nat.add_comm]
  have : i < (rf.map (Value.int .i64)).length := by rw [List.length_map, hv.rl]; exact hi
  simp [List.getElem?_append, hv.rl, hi]
set_option maxHeartbeats 1000000 in
theorem c_vm_Copy (hv : VmRep h v s F) (hK : ∀ h' v' F', VmRep h' v' s F' → Ext h h' → (∀ q ∈ F', h.size ≤ q) → K (.pointer (some ⟨v', 0, none⟩)) h') : CallsH Try.prog f_vm_Vm_Copy #[.pointer (some ⟨v, 0, none⟩)] h K := by
  have hv0 := hv
  obtain ⟨m, f, sb, sl, rfl, hva, hw⟩ := hv
  refine q_vm_Vm_Copy_calls v h K ?_
  unfold q_vm_Vm_Copy
  have hrl := refsOf_length (pg := s.pg)
  have hvat : ∀ {g : Hp}, Ext h g → VmAt g v m f sb sl (refsOf s.pg) s := fun x => hva.congr fun q hq => x.frame q (hva.lt q hq) (by simp)
  have hsz : (⟨(refsOf s.pg).map (Value.int .i64)⟩ : Array Value).size = 64 := by simp [hrl]
  have none0 : ∀ q, hasOf (without s [0, 1, 2, 3, 4, 5]) q = false := fun q => by
    rw [hasOf_without]
    cases hh : hasOf s q with
    | false => rfl
    | true =>
      obtain ⟨q0, q1⟩ := hasOf_in hh
      have : q ∈ ([0, 1, 2, 3, 4, 5] : List Int) := by simp; omega
      simp [this]
  have start : ∀ {g : Hp} {m' f' sb' : Nat}, MemAt g m' f' s.n s.b → g[sb']? = some (.map #[] 0) → VmAt (g.push (.cells ⟨fillL (fillL (fillL (fillL (zeroCells Try.prog T_N_vm_Vm).toList 0 [.pointer (some ⟨m', 0, none⟩)]) 1 ((refsOf s.pg).map (Value.int .i64))) 65 [.map (some sb')]) 66 [.int .i64 s.cp]⟩ T_N_vm_Vm)) g.size m' f' sb' [] (refsOf s.pg) (without s [0, 1, 2, 3, 4, 5]) := fun {g m' f' sb'} hm hsb => by
    rw [over_vm hrl _ _ _ zero_vm]
    have x := Ext.push g (.cells ⟨.pointer (some ⟨m', 0, none⟩) :: ((refsOf s.pg).map (.int .i64) ++ [.map (some sb'), .int .i64 s.cp])⟩ T_N_vm_Vm)
    refine ⟨push_new _ _, hrl, hm.congr (x.frame _ hm.ltm (by simp)) (x.frame _ hm.ltf (by simp)), ⟨⟨#[], 0, x.at hsb, rfl, by simp, by simp⟩, by simp [keysOf]⟩, fun pid r hr => by simp [lkp] at hr, fun pid => by rw [none0]; rfl, by simp⟩
  refine ⟨fun p g => ∃ v' m' f' sb', p = some ⟨v', 0, none⟩ ∧ VmAt g v' m' f' sb' [] (refsOf s.pg) (without s [0, 1, 2, 3, 4, 5]) ∧ Ext h g ∧ ∀ q ∈ foot v' m' f' sb' [], h.size ≤ q, ⟨_, hva.c0, _, hva.row, _, hva.c66, ?_, ?_⟩, ?_⟩
  · refine c_mem_Fork hva.mem fun g m' f' hm x1 i1 i2 => ⟨_, rfl, ⟨_, (hvat x1).c66, rfl⟩, ⟨_, (hvat x1).row, rfl⟩, letH_iff.2 ?_⟩
    have x2 : Ext g (g.push (.map #[] 0)) := Ext.push _ _
    refine ⟨⟨_, (hvat (x1.trans x2)).c66, rfl⟩, ⟨_, (hvat (x1.trans x2)).row, rfl⟩, hsz, letH_iff.2 ?_⟩
    have hm2 := hm.congr (x2.frame _ hm.ltm (by simp)) (x2.frame _ hm.ltf (by simp))
    refine ⟨_, _, _, _, rfl, start hm2 (push_new _ _), x1.trans (x2.trans (Ext.push _ _)), fun q hq => ?_⟩
    have := x1.size
    have := x2.size
    simp only [foot, List.map_nil, List.mem_cons, List.not_mem_nil, or_false] at hq
    rcases hq with rfl | rfl | rfl | rfl <;> omega
  · refine letH_iff.2 ?_
    have x1 : Ext h (h.push (.map #[] 0)) := Ext.push _ _
    have b1 : (h.push (.map #[] 0))[h.size]? = some (.map #[] 0) := push_new _ _
    have z1 : (h.push (.map #[] 0)).size = h.size + 1 := by simp
    generalize h.push (.map #[] 0) = g at *
    refine ⟨⟨_, (hvat x1).c66, rfl⟩, ⟨_, (hvat x1).row, rfl⟩, ⟨_, (hvat x1).c0, rfl⟩, ?_⟩
    refine c_mem_Fork (hvat x1).mem fun g2 m' f' hm x2 i1 i2 => ⟨_, rfl, ⟨_, (hvat (x1.trans x2)).c66, rfl⟩, ⟨_, (hvat (x1.trans x2)).row, rfl⟩, hsz, letH_iff.2 ?_⟩
    refine ⟨_, _, _, _, rfl, start hm (x2.at b1), x1.trans (x2.trans (Ext.push _ _)), fun q hq => ?_⟩
    have := x1.size
    have := x2.size
    simp only [foot, List.map_nil, List.mem_cons, List.not_mem_nil, or_false] at hq
    rcases hq with rfl | rfl | rfl | rfl <;> omega
  rintro _ g ⟨v', m', f', sb', rfl, hn0, xg, gn⟩
  refine ⟨_, (hvat xg).c65, ?_⟩
  refine semWP_range (kt := T_int) (et := T_N_vm_space) (by kernel_rfl) (hvat xg).sps fun g1 it1 x1 z1 => ⟨_, rfl, ?_⟩
  have ek : keysOf (sl.map fun p => (p.1, Value.map (some p.2))) = keysOf sl := keysOf_map (fun x => Value.map (some x))
  have hkeys : ∀ q, q ∈ keysOf sl ↔ hasOf s q = true := fun q => by
    rw [← hva.has q, Option.isSome_iff_ne_none, ne_eq, lkp_none, Classical.not_not]
  generalize hL : (sl.map fun p => ((p.1, Value.map (some p.2)) : Int × Value)) = L at *
  generalize hi : g.size = i at *
  have hbl : ∀ q ∈ foot v m f sb sl, q < h.size := hva.lt
  have xh1 : Ext h g1 := xg.trans x1
  refine ⟨fun hc => ∃ left sl', IterAt .i64 hc i sb L left ∧ VmAt hc v' m' f' sb' sl' (refsOf s.pg) (without s (keysOf left)) ∧ (keysOf left).Nodup ∧ (∀ p ∈ left, p ∈ L) ∧ Ext h hc ∧ (∀ q ∈ foot v' m' f' sb' sl', h.size ≤ q ∧ q ≠ i), fun hc => itLeft hc i sb,
    ⟨L, [], it1, ?_, by rw [ek]; exact hva.keys, fun _ hp => hp, xh1, fun q hq => ⟨gn q hq, ?_⟩⟩, ?_⟩
  · have : VmAt g1 v' m' f' sb' [] (refsOf s.pg) (without s [0, 1, 2, 3, 4, 5]) := hn0.congr fun q hq => x1.frame q (by have := hn0.lt q hq; omega) (by simp)
    refine ⟨this.vm, this.rl, this.mem, this.sps, fun pid r hr => by simp [lkp] at hr, fun pid => ?_, this.nd⟩
    rw [hasOf_without, ek]
    by_cases hp : pid ∈ keysOf sl
    · simp [hp, lkp]
    · have : hasOf s pid = false := by
        cases hh : hasOf s pid with
        | false => rfl
        | true => exact (hp ((hkeys pid).2 hh)).elim
      rw [this]; rfl
  · have := hn0.lt q hq; omega
  rintro hc ⟨left, sl', it, hvc, hnl, hsub, xc, gc⟩
  have hiv : i ≠ sb := by have := hbl sb foot_sb; have := xg.size; omega
  refine semWP_next it hiv (fun h0 => ⟨_, _, rfl, ?_⟩) fun p left' h4 hperm it4 cur4 st4 z4 => ⟨_, _, rfl, ?_⟩
  · rw [iteP_false]
    subst h0
    have e : without s (keysOf ([] : List (Int × Value))) = s := by
      have h1 : (without s (keysOf ([] : List (Int × Value)))).has = s.has := has_ext (by simp [without]) hw.lh fun q => by rw [hasOf_without]; simp [keysOf]
      have h2 : (without s (keysOf ([] : List (Int × Value)))).pg = s.pg := pg_ext (by simp [without]) hw.lp fun q page => by rw [pgOf_without]; simp [keysOf]
      exact vms_ext rfl rfl rfl h1 h2
    rw [e] at hvc
    exact hK hc v' _ ⟨m', f', sb', sl', rfl, hvc, hw⟩ xc fun q hq => (gc q hq).1
  · rw [iteP_true]
    have hin : p ∈ left := hperm.mem_iff.2 (by simp)
    have hpL := hsub p hin
    rw [← hL] at hpL
    obtain ⟨⟨pid, r⟩, hm, rfl⟩ := List.mem_map.1 hpL
    have hr : lkp pid sl = some r := mem_lkp hva.keys hm
    have hhas : hasOf s pid = true := by rw [← hkeys]; exact List.mem_map.2 ⟨_, hm, rfl⟩
    refine ⟨_, _, runs_entry (P := Try.prog) cur4, ?_⟩
    have x4 : Ext h h4 := ⟨by have := xc.size; have := st4.size; omega, fun q hq _ => by rw [st4.frame q (by have := xc.size; omega) (by simp; have := xg.size; omega), xc.frame q hq (by simp)], by simp⟩
    have hvc4 : VmAt h4 v' m' f' sb' sl' (refsOf s.pg) (without s (keysOf left)) := hvc.congr fun q hq => st4.frame q (hvc.lt q hq) (by simpa using (gc q hq).2)
    rw [wth_some]
    obtain ⟨l, hl, hlk⟩ := (hvat x4).pages pid r hr
    refine ⟨_, by rw [Addr.add_mk]; exact hvc4.c65, c_maps_Clone hl fun h5 m5 x5 z5 => ⟨_, rfl, ?_⟩⟩
    have hvc5 := hvc4.congr fun q hq => x5.frame q (hvc4.lt q hq) (by simp)
    refine ⟨⟨_, by rw [Addr.add_mk]; exact hvc5.c65, rfl⟩, ?_⟩
    refine semWP_mapUpdate (kt := T_int) (et := T_N_vm_space) (by kernel_rfl) (by kernel_rfl) hvc5.sps fun h6 m6 st6 z6 => ?_
    have hkp := keysOf_perm hperm
    have hnl' : (pid :: keysOf left').Nodup := hkp.nodup_iff.1 hnl
    rw [List.nodup_cons] at hnl'
    have hmemk : ∀ q, q ∈ keysOf left ↔ q = pid ∨ q ∈ keysOf left' := fun q => by
      rw [hkp.mem_iff]
      show q ∈ pid :: keysOf left' ↔ _
      rw [List.mem_cons]
    have hsb' : sb' < h4.size := hvc4.lt sb' foot_sb
    have hic : i < hc.size := by
      obtain ⟨_, _, _, _, h9, _⟩ := it
      exact lt_of_at h9
    have hi6 : h6[i]? = h4[i]? := by rw [st6.frame i (by omega) (by simpa using Ne.symm (gc sb' foot_sb).2), x5.frame i (by omega) (by simp)]
    have hsb6 : h6[sb]? = h4[sb]? := by
      have h7 := hbl sb foot_sb
      have h8 := (gc sb' foot_sb).1
      have := x4.size
      rw [st6.frame sb (by omega) (by simp; omega), x5.frame sb (by omega) (by simp)]
    have it6 := it4.congr hi6 hsb6
    refine ⟨⟨left', sl' ++ [(pid, h4.size)], it6, ?_, hnl'.2, fun q hq => hsub q (hperm.mem_iff.2 (List.mem_cons_of_mem _ hq)), ?_, fun q hq => ?_⟩, ?_⟩
    · refine hvc4.add (Nat.le_refl _) ?_ (fun q hq hn => ?_) m6 ?_ (fun q page hq => ?_) (fun q => ?_) rfl rfl rfl
      · rw [hasOf_without, decide_eq_true ((hmemk pid).2 (.inl rfl))]; simp
      · rw [st6.frame q (by have := hvc4.lt q hq; omega) (by simpa using hn), x5.frame q (hvc4.lt q hq) (by simp)]
      · refine ⟨l, m5.congr (st6.frame _ (by omega) (by simp; omega)), fun page => ?_⟩
        rw [pgOf_without, if_neg hnl'.1]
        exact hlk page
      · rw [pgOf_without, pgOf_without]
        have : q ∈ keysOf left' ↔ q ∈ keysOf left := by rw [hmemk]; exact ⟨.inr, fun h => h.resolve_left hq⟩
        simp only [this]
      · rw [hasOf_without, hasOf_without]
        by_cases hq : q = pid
        · subst hq; rw [if_pos rfl, hhas, decide_eq_false hnl'.1]; rfl
        · rw [if_neg hq]
          have : q ∈ keysOf left' ↔ q ∈ keysOf left := by rw [hmemk]; exact ⟨.inr, fun h => h.resolve_left hq⟩
          simp only [this]
    · refine ⟨by have := x4.size; have := x5.size; have := st6.size; omega, fun q hq _ => ?_, by simp⟩
      have := x4.size
      have h8 := (gc sb' foot_sb).1
      rw [st6.frame q (by omega) (by simp; omega), x5.frame q (by omega) (by simp), x4.frame q hq (by simp)]
    · simp only [foot, List.map_append, List.mem_cons, List.mem_append, List.map_cons, List.map_nil, List.not_mem_nil, or_false] at hq
      have hold : q ∈ foot v' m' f' sb' sl' → h.size ≤ q ∧ q ≠ i := gc q
      simp only [foot, List.mem_cons] at hold
      rcases hq with h7 | h7 | h7 | h7 | h7 | h7
      · exact hold (.inl h7)
      · exact hold (.inr (.inl h7))
      · exact hold (.inr (.inr (.inl h7)))
      · exact hold (.inr (.inr (.inr (.inl h7))))
      · exact hold (.inr (.inr (.inr (.inr h7))))
      · have := x4.size; omega
    · show itLeft h6 i sb < itLeft hc i sb
      rw [it.left, it6.left, hperm.length_eq]; simp
end
end Go.Proofs.Ytmdhfmljgjnggaa
/- The reference of vm: Copy; VmForks. No condition. -/
namespace Go.Proofs.Ytmdhfmljgjnggaa
attribute [local irreducible] semWP
set_option linter.constructorNameAsVariable false
section
variable {h : Hp} {m f n : Nat} {b : List Int} {K : Value → Hp → Prop}
theorem r_mFork (hm : MrAt h m f n b) (hK : ∀ h' m' f', MrAt h' m' f' n b → Ext h h' → h.size ≤ m' → h.size ≤ f' → K (.pointer (some ⟨m', 0, none⟩)) h') : CallsH Try.prog f_ref06_Memory_Fork #[.pointer (some ⟨m, 0, none⟩)] h K := by
  refine q_ref06_Memory_Fork_calls m h K ?_
  unfold q_ref06_Memory_Fork
  refine letH_iff.2 ?_
  obtain ⟨rest, hfr⟩ := hm.fr
  have x1 : Ext h (h.push (.cells #[] T_uint8)) := Ext.push _ _
  have b1 : (h.push (.cells #[] T_uint8))[h.size]? = some (.cells #[] T_uint8) := push_new _ _
  have z1 : (h.push (.cells #[] T_uint8)).size = h.size + 1 := by simp
  generalize h.push (.cells #[] T_uint8) = g at *
  have hm1 := hm.congr (x1.frame _ hm.ltm (by simp)) (x1.frame _ hm.ltf (by simp))
  obtain ⟨c, hc, hcell⟩ := hm1.cell
  refine ⟨_, _, _, hcell, ?_⟩
  have hl := hm.len
  have hn := hm.le
  have hp := hm.pos
  refine semWP_appendX (t := T_s_uint8) (xt := T_s_uint8) (el := T_uint8) (xd := .slice T_uint8) (i := Try.prog.types[T_uint8]!) (sz := 1) (by rfl) (by rfl) (by kernel_rfl) (by kernel_rfl) (.inl ⟨_, rfl⟩) (by kernel_rfl) (by kernel_rfl) (by kernel_rfl) (by kernel_rfl) (by kernel_rfl) (by decide +kernel) (by omega)
    (vs := []) (F := [h.size]) (xs := b.map (.int .u8)) ⟨rfl, by omega, .inr ⟨h.size, 0, _, rfl, rfl, b1, by simp, by simp⟩⟩ (src_cells (x1.at hfr) (by simpa using hl)) bytes_one fun h2 p2 c2 F2 s2 st2 hnew => ⟨_, _, _, rfl, letH_iff.2 ?_⟩
  obtain ⟨rest2, rfl, rfl, e2, l2⟩ := hnew (by omega)
  rw [Nat.zero_add] at *
  rw [List.nil_append] at e2
  have x2 : Ext g h2 := by rw [e2]; exact Ext.push _ _
  have z2 : h2.size = g.size + 1 := by rw [e2]; simp
  have b2 : h2[g.size]? = some (.cells ⟨b.map (.int .u8) ++ rest2⟩ T_uint8) := by rw [e2]; exact push_new _ _
  refine hK _ h2.size g.size ⟨⟨c2, s2.le, push_new _ _⟩, ⟨rest2, by rw [push_old (by omega)]; exact b2⟩, hl, hp, hn⟩ (x1.trans (x2.trans (Ext.push _ _))) (by omega) (by omega)
end
theorem refCell_some {s : VmS} {m i : Nat} (hi : i < 200) : ∃ u, refCell s m i = some u ∧ oneV u = true := by
  unfold refCell
  split
  · exact ⟨_, rfl, rfl⟩
  · split
    · exact ⟨_, rfl, rfl⟩
    · split
      · split
        · exact ⟨_, rfl, rfl⟩
        · exact ⟨_, rfl, rfl⟩
      · rw [if_pos (by omega)]
        exact ⟨_, rfl, rfl⟩
theorem refCell_none {s : VmS} {m i : Nat} (hi : 200 ≤ i) : refCell s m i = none := by
  unfold refCell
  rw [if_neg (by omega), if_neg (by omega), if_neg (by omega), if_neg (by omega)]
theorem refCell_m {s : VmS} {m m' i : Nat} : (if i = 0 then some (.pointer (some ⟨m', 0, none⟩)) else refCell s m i) = refCell s m' i := by
  unfold refCell
  by_cases h0 : i = 0
  · rw [if_pos h0, if_pos h0]
  · rw [if_neg h0, if_neg h0, if_neg h0]
theorem over_all {α : Type} {cs zs : List α} (h : cs.length = zs.length) : over zs 0 cs = cs := by
  rw [over_split (by omega)]
  simp [h]
section
variable {h : Hp} {r B : Nat} {s : VmS} {K : Value → Hp → Prop} {F G : List Nat}
theorem r_Copy' (hv : RefRep h r s F) (hK : ∀ h' r' F', RefRep h' r' s F' → Ext h h' → (∀ q ∈ F', h.size ≤ q) → K (.pointer (some ⟨r', 0, none⟩)) h') : CallsH Try.prog f_ref19_Vm_Copy #[.pointer (some ⟨r, 0, none⟩)] h K := by
  have hv0 := hv
  obtain ⟨m, f, rfl, ha, hw⟩ := hv
  refine q_ref19_Vm_Copy_calls r h K ?_
  unfold q_ref19_Vm_Copy
  obtain ⟨cs, hcs, hget⟩ := ha.vm
  have hsize : cs.size = 200 := by
    have h1 := hget 200
    rw [refCell_none (Nat.le_refl _)] at h1
    have h2 := hget 199
    obtain ⟨u, h3, _⟩ := refCell_some (s := s) (m := m) (i := 199) (by omega)
    rw [h3] at h2
    have h4 := (Array.getElem?_eq_some_iff.1 h2).1
    rw [Array.getElem?_eq_none_iff] at h1
    omega
  refine ⟨cs, ⟨hsize, fun i hi => by rw [Addr.add_mk, Nat.zero_add, cellAt_cells hcs]⟩, letH_iff.2 ?_⟩
  have x1 : Ext h (h.push (.cells (zeroCells Try.prog T_N_ref19_Vm) T_N_ref19_Vm)) := Ext.push _ _
  have b1 : (h.push (.cells (zeroCells Try.prog T_N_ref19_Vm) T_N_ref19_Vm))[h.size]? = some (.cells (zeroCells Try.prog T_N_ref19_Vm) T_N_ref19_Vm) := push_new _ _
  have z1 : (h.push (.cells (zeroCells Try.prog T_N_ref19_Vm) T_N_ref19_Vm)).size = h.size + 1 := by simp
  generalize h.push (.cells (zeroCells Try.prog T_N_ref19_Vm) T_N_ref19_Vm) = g at *
  have hzl : (zeroCells Try.prog T_N_ref19_Vm).toList.length = 200 := by rw [zero19]; simp
  refine ⟨hsize, fun i hi => ?_, fun i hi => ⟨?_, ?_⟩, letH_iff.2 ?_⟩
  · obtain ⟨u, h3, h4⟩ := refCell_some (s := s) (m := m) hi
    exact ⟨u, by rw [hget, h3], h4⟩
  · rw [Addr.add_mk, cellAt_cells b1]
    have : 0 + i < (zeroCells Try.prog T_N_ref19_Vm).size := by rw [← Array.length_toList, hzl]; omega
    exact ⟨_, Array.getElem?_eq_getElem this⟩
  · rw [Addr.add_mk]; exact frozenAt_cells b1
  have b2 := setL_same (vs := cs.toList) (o := 0) (i := 0) b1
  rw [over_all (by rw [hzl, Array.length_toList, hsize])] at b2
  have st2 : Step g (setRow g ⟨h.size, 0, none⟩ cs) [h.size] [h.size] := ⟨by unfold setRow; rw [setL_size]; exact Nat.le_refl _, fun q _ hq => by unfold setRow; exact setL_other (by simpa using hq), fun _ hq => .inl hq⟩
  have b2' : (setRow g ⟨h.size, 0, none⟩ cs)[h.size]? = some (.cells cs T_N_ref19_Vm) := b2
  generalize setRow g ⟨h.size, 0, none⟩ cs = g2 at *
  have x2 : Ext h g2 := x1.trans' st2 (by simp)
  have ha2 : RefAt g2 r m f s := ha.congr fun q hq => x2.frame q (hv0.lt q hq) (by simp)
  refine ⟨_, ha2.c0, r_mFork ha2.mem fun g3 m' f' hm x3 i1 i2 => ⟨_, rfl, ?_⟩⟩
  have b3 := x3.at b2'
  have zg2 : g2.size ≥ h.size + 1 := by have := st2.size; omega
  have ra3 : RawAt g3 h.size (refCell s m) := ⟨cs, b3, hget⟩
  refine ⟨⟨_, ra3.cell 0⟩, ra3.fz 0, letH_iff.2 ?_⟩
  have p4 := (ra3.put (o := 0) (v := .pointer (some ⟨m', 0, none⟩)) (old := .pointer (some ⟨m, 0, none⟩)) rfl).ext fun i => refCell_m
  have st4 : Step g3 (setH g3 ⟨h.size, 0, none⟩ (.pointer (some ⟨m', 0, none⟩))) [h.size] [h.size] := Step.setH (by simp)
  generalize setH g3 ⟨h.size, 0, none⟩ (.pointer (some ⟨m', 0, none⟩)) = g4 at *
  refine hK g4 h.size [h.size, m', f'] ⟨m', f', rfl, ⟨p4, hm.congr (st4.frame _ hm.ltm (by simp; omega)) (st4.frame _ hm.ltf (by simp; omega))⟩, hw⟩ (Ext.trans' (x2.trans x3) st4 (by simp)) ?_
  intro q hq
  simp only [List.mem_cons, List.not_mem_nil, or_false] at hq
  rcases hq with rfl | rfl | rfl <;> omega
end
theorem RdAt.mono {h : Hp} {p : Option Addr} {vs : List Value} {B B' : Nat} (hr : RdAt h p vs B) (hb : B ≤ B') : RdAt h p vs B' := fun i v hv => by
  obtain ⟨a, h1, h2, h3⟩ := hr i v hv
  exact ⟨a, h1, by omega, h3⟩
theorem DeedsAt.mono {h : Hp} {p : Option Addr} {n B B' : Nat} (hd : DeedsAt h p n B) (hb : B ≤ B') : DeedsAt h p n B' := fun i hi => by
  obtain ⟨ad, h1, h2, a, b, c, d, e, bp, bn, bk, bs, c0, c1, c2, c3, c4, c5, r, l1, l2⟩ := hd i hi
  exact ⟨ad, h1, by omega, a, b, c, d, e, bp, bn, bk, bs, c0, c1, c2, c3, c4, c5, r.mono hb, l1, l2⟩
section
variable {h : Hp} {K : Value → Hp → Prop}
theorem BothAt.low {B B' : Nat} {h h' : Hp} {v r : Nat} {s : VmS} {F G : List Nat} (hb : BothAt B h v r s F G) (hl : Low B' h h') (hz : h.size ≤ B') (hz' : h.size ≤ h'.size) : BothAt B h' v r s F G :=
  ⟨hb.vm.congr fun q hq => hl q (by have := hb.vm.lt q hq; omega), hb.rf.congr fun q hq => hl q (by have := hb.rf.lt q hq; omega), hb.ap, hb.vb, hb.rb, by have := hb.le; omega⟩
set_option maxHeartbeats 1000000 in
theorem c_VmForks (x : Int) (hx0 : 0 ≤ x) (hx1 : x < 256) {p p2 : Option Addr} {n c n2 c2 : Nat} (hd : DeedsAt h p n h.size) (hd2 : DeedsAt h p2 n2 h.size) (hK : ∀ h', Ext h h' → K (.bool true) h') :
    CallsH Try.prog f_law19_VmForks #[.int .u8 x, .slice p n c, .slice p2 n2 c2] h K := by
  refine q_law19_VmForks_calls x p n c p2 n2 c2 h K ?_
  unfold q_law19_VmForks
  refine c_play x hx0 hx1 hd (Nat.le_refl _) fun h1 v r s F G hb1 l1 z1 => ⟨_, _, _, rfl, c_live fun h2 x2 => ⟨_, rfl, iteP_f rfl (iteP_f rfl ?_)⟩⟩
  have hb2 := hb1.ext x2
  have z2 := x2.size
  refine c_vm_Copy hb2.vm fun h3 v' F' v3 x3 f3 => ⟨_, rfl, ?_⟩
  have hb3 := hb2.ext x3
  have z3 := x3.size
  refine r_Copy' hb3.rf fun h4 r' G' r4 x4 g4 => ⟨_, rfl, ?_⟩
  have hb4 := hb3.ext x4
  have z4 := x4.size
  have cb4 : BothAt h2.size h4 v' r' s F' G' := ⟨v3.ext x4, r4, fun q hq hf => by have := g4 q hq; have := v3.lt q hf; omega, f3, fun q hq => by have := g4 q hq; omega, by omega⟩
  have l4 : Low h.size h h4 := fun q hq => by rw [x4.frame q (by omega) (by simp), x3.frame q (by omega) (by simp), x2.frame q (by omega) (by simp), l1 q hq]
  have hend : ∀ {g : Hp} {s' F' G'}, BothAt h.size g v r s F G → BothAt h2.size g v' r' s' F' G' → Low h.size h g → h.size ≤ g.size → CallsH Try.prog f_law19_same #[.pointer (some ⟨v, 0, none⟩), .pointer (some ⟨r, 0, none⟩)] g fun r31 h32 => ∃ b33 : Bool, r31 = .bool b33 ∧ iteP b33 (CallsH Try.prog f_law19_same #[.pointer (some ⟨v', 0, none⟩), .pointer (some ⟨r', 0, none⟩)] h32 fun r34 h35 => ∃ b36 : Bool, r34 = .bool b36 ∧ K (.bool b36) h35) (K (.bool false) h32) := by
    intro g s' F' G' hb cb lg zg
    refine c_same hb fun h5 x5 => ⟨_, rfl, iteP_t rfl (c_same (cb.ext x5) fun h6 x6 => ⟨_, rfl, hK h6 ⟨by have := x5.size; have := x6.size; omega, fun q hq _ => ?_, by simp⟩⟩)⟩
    rw [x6.frame q (by have := x5.size; omega) (by simp), x5.frame q (by omega) (by simp), lg q hq]
  refine ⟨fun i g => 0 ≤ i ∧ i ≤ 14 ∧ ∃ s' F' G', BothAt h.size g v r s F G ∧ BothAt h2.size g v' r' s' F' G' ∧ Low h.size h g ∧ h.size ≤ g.size, fun i _ => (14 - i).toNat, ⟨by decide, by decide, s, F', G', hb4, cb4, l4, by omega⟩, ?_⟩
  rintro i g ⟨i0, i1, s', F', G', hb, cb, lg, zg⟩
  refine iteP_cases (fun hi => iteP_cases (fun hi4 => ?_) fun _ => hend hb cb lg zg) fun _ => hend hb cb lg zg
  obtain ⟨ad, rfl, _, a, b, c', d, e, bp, bn, bk, bs, c0, c1, c2, c3, c4, c5, rd, e1, e2⟩ := hd2.low lg i.toNat (by omega)
  refine ⟨i0, hi, ?_⟩
  rw [wth_some]
  refine ⟨_, c0, _, c1, _, c2, _, c3, _, c4, _, _, _, c5, c_do cb a b c' d e (rd.mono (by omega)) e1 e2 fun g' s' F' G' cb' l' z' => ⟨_, rfl, iteP_f rfl ?_⟩⟩
  rw [wrap64 (x := i + 1) (by omega) (by omega)]
  refine ⟨⟨by omega, by omega, s', F', G', ?_, cb', fun q hq => ?_, by omega⟩, by show (14 - (i + 1)).toNat < (14 - i).toNat; omega⟩
  · exact ⟨hb.vm.congr fun q hq => l' q (hb2.vm.lt q hq), hb.rf.congr fun q hq => l' q (hb2.rf.lt q hq), hb.ap, hb.vb, hb.rb, by have := hb.le; omega⟩
  · rw [l' q (by omega), lg q hq]
end
end Go.Proofs.Ytmdhfmljgjnggaa
