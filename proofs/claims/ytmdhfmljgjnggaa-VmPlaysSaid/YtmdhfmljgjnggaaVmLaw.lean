/- The law of vm: a deed on both; do both tell the same? No condition. -/
import Derived.Test.YtmdhfmljgjnggaaCRef10
namespace Go.Proofs.Ytmdhfmljgjnggaa
attribute [local irreducible] semWP
set_option linter.constructorNameAsVariable false
/-- The memory of processes and its reference, in the same state, apart, in blocks from B on. -/
structure BothAt (B : Nat) (h : Hp) (v r : Nat) (s : VmS) (F G : List Nat) : Prop where
  vm : VmRep h v s F
  rf : RefRep h r s G
  ap : ∀ q ∈ G, q ∉ F
  vb : ∀ q ∈ F, B ≤ q
  rb : ∀ q ∈ G, B ≤ q
  le : B ≤ h.size
section
variable {h h1 h2 h3 : Hp} {v r B : Nat} {s s' : VmS} {K : Value → Hp → Prop} {F G F2 G3 : List Nat}
theorem BothAt.ext (hb : BothAt B h v r s F G) (x : Ext h h1) : BothAt B h1 v r s F G :=
  ⟨hb.vm.ext x, hb.rf.ext x, hb.ap, hb.vb, hb.rb, Nat.le_trans hb.le x.size⟩
theorem BothAt.mid (hb : BothAt B h v r s F G) (st : Step h h2 F F2) : RefRep h2 r s G := hb.rf.congr fun q hq => st.frame q (hb.rf.lt q hq) (hb.ap q hq)
theorem BothAt.step (hb : BothAt B h v r s F G) (v2 : VmRep h2 v s' F2) (st2 : Step h h2 F F2) (r3 : RefRep h3 r s' G3) (st3 : Step h2 h3 G G3) : BothAt B h3 v r s' F2 G3 ∧ Low B h h3 ∧ h.size ≤ h3.size := by
  have z2 := st2.size
  have z3 := st3.size
  have hl := hb.le
  have hF2 : ∀ q ∈ F2, B ≤ q := fun q hq => by
    rcases st2.foot q hq with h | h
    · exact hb.vb q h
    · omega
  refine ⟨⟨v2.congr fun q hq => st3.frame q (v2.lt q hq) fun hg => ?_, r3, fun q hq hf => ?_, hF2, fun q hq => ?_, by omega⟩, fun q hq => ?_, by omega⟩
  · rcases st2.foot q hq with h | h
    · exact hb.ap q hg h
    · have := hb.rf.lt q hg; omega
  · rcases st3.foot q hq with h | h
    · rcases st2.foot q hf with h' | h'
      · exact hb.ap q h h'
      · have := hb.rf.lt q h; omega
    · have := v2.lt q hf; omega
  · rcases st3.foot q hq with h | h
    · exact hb.rb q h
    · omega
  · rw [st3.frame q (by omega) (fun hg => by have := hb.rb q hg; omega), st2.frame q (by omega) (fun hg => by have := hb.vb q hg; omega)]
theorem c_few {p : Option Addr} {n c : Nat} {vs : List Value} (hr : RdAt h p vs B) (hl : vs.length = n) (hc : n ≤ c) (hK : ∀ k, RdAt h p (vs.take 120) B → (vs.take 120).length = k → K (.slice p k c) h) : CallsH Try.prog f_law19_few #[.slice p n c] h K := by
  refine q_law19_few_calls p n c h K ?_
  unfold q_law19_few
  refine iteP_cases (fun h1 => ⟨by decide, by omega, ?_⟩) fun h1 => ?_
  · have e : (if c = 0 then p else Option.map (fun a : Addr => a.add (0 * 1)) p) = p := by
      split
      · rfl
      · cases p <;> rfl
    rw [e, Nat.sub_zero, Nat.sub_zero]
    exact hK _ (hr.take 120) (by rw [List.length_take]; omega)
  · have e : vs.take 120 = vs := List.take_of_length_le (by omega)
    rw [e] at hK
    exact hK n hr hl
set_option maxHeartbeats 1000000 in
theorem c_do (hb : BothAt B h v r s F G) (a b c d e : Int) {p : Option Addr} {n k : Nat} {bs : List Int} (hs : RdAt h p (bs.map (.int .u8)) B) (hn : bs.length = n) (hnk : n ≤ k)
    (hK : ∀ h' s' F' G', BothAt B h' v r s' F' G' → Low B h h' → h.size ≤ h'.size → K (.bool true) h') :
    CallsH Try.prog f_law19_do #[.pointer (some ⟨v, 0, none⟩), .pointer (some ⟨r, 0, none⟩), .agg #[.int .i64 a, .int .i64 b, .int .i64 c, .int .i64 d, .int .u8 e, .slice p n k]] h K := by
  refine q_law19_do_calls v r a b c d e p n k h K ?_
  unfold q_law19_do
  refine letH_iff.2 ?_
  have x1 : Ext h (h.push (.cells #[.int .i64 a, .int .i64 b, .int .i64 c, .int .i64 d, .int .u8 e, .slice p n k] T_N_law19_Deed)) := Ext.push _ _
  have b1 : (h.push (.cells #[.int .i64 a, .int .i64 b, .int .i64 c, .int .i64 d, .int .u8 e, .slice p n k] T_N_law19_Deed))[h.size]? = some (.cells #[.int .i64 a, .int .i64 b, .int .i64 c, .int .i64 d, .int .u8 e, .slice p n k] T_N_law19_Deed) := push_new _ _
  have z1 : (h.push (.cells #[.int .i64 a, .int .i64 b, .int .i64 c, .int .i64 d, .int .u8 e, .slice p n k] T_N_law19_Deed)).size = h.size + 1 := by simp
  generalize h.push (.cells #[.int .i64 a, .int .i64 b, .int .i64 c, .int .i64 d, .int .u8 e, .slice p n k] T_N_law19_Deed) = h1 at *
  have cc : ∀ {g : Hp} (i : Nat), g[h.size]? = h1[h.size]? → cellAt g ⟨h.size, i, none⟩ = (#[Value.int .i64 a, .int .i64 b, .int .i64 c, .int .i64 d, .int .u8 e, .slice p n k])[i]? := fun i he => by rw [cellAt_cells (he.trans b1)]
  have hb1 := hb.ext x1
  have hout : h.size ∉ F := fun hf => by have := hb.vm.lt _ hf; omega
  have hmid : ∀ {g : Hp} {F'}, Step h1 g F F' → g[h.size]? = h1[h.size]? := fun st => st.frame _ (by omega) hout
  have fin : ∀ {g2 g3 : Hp} {s' F2 G3} {x : Int}, VmRep g2 v s' F2 → Step h1 g2 F F2 → RefRep g3 r s' G3 → Step g2 g3 G G3 → K (.bool (x == x)) g3 := fun v2 st2 r3 st3 => by
    obtain ⟨f1, f2, f3⟩ := hb1.step v2 st2 r3 st3
    rw [beq_self_eq_true]
    refine hK _ _ _ _ f1 (Low.trans (Low.step x1 hb.le (by simp)) f2) ?_
    have := x1.size; omega
  refine ⟨_, cc 0 rfl, iteP_eqc (fun hk => ⟨_, cc 1 rfl, _, cc 1 rfl, c_vm_Begin hb1.vm b fun h2 F2 v2 st2 => ⟨_, rfl, ⟨_, cc 1 (hmid st2), rfl⟩, r_Begin (hb1.mid st2) b fun h3 r3 st3 => ⟨_, rfl, fin v2 st2 r3 st3⟩⟩⟩) fun hk => ?_⟩
  refine iteP_eqc (fun hk => ⟨_, cc 1 rfl, _, cc 1 rfl, c_vm_End hb1.vm b fun h2 F2 v2 st2 => ⟨_, rfl, ⟨_, cc 1 (hmid st2), rfl⟩, r_End (hb1.mid st2) b fun h3 r3 st3 => ⟨_, rfl, fin v2 st2 r3 st3⟩⟩⟩) fun hk => ?_
  refine iteP_eqc (fun hk => ⟨_, cc 1 rfl, _, cc 2 rfl, _, cc 1 rfl, _, cc 2 rfl, c_vm_Fork hb1.vm b c fun h2 F2 v2 st2 => ⟨_, rfl, ⟨_, cc 2 (hmid st2), rfl⟩, ⟨_, cc 1 (hmid st2), rfl⟩, r_Fork (hb1.mid st2) b c fun h3 r3 st3 => ⟨_, rfl, fin v2 st2 r3 st3⟩⟩⟩) fun hk => ?_
  refine iteP_eqc (fun hk => ⟨_, cc 1 rfl, _, cc 3 rfl, _, cc 1 rfl, _, cc 3 rfl, c_vm_Map hb1.vm b d fun h2 F2 v2 st2 => ⟨_, rfl, ⟨_, cc 3 (hmid st2), rfl⟩, ⟨_, cc 1 (hmid st2), rfl⟩, r_Map (hb1.mid st2) b d fun h3 r3 st3 => ⟨_, rfl, fin v2 st2 r3 st3⟩⟩⟩) fun hk => ?_
  refine iteP_eqc (fun hk => ⟨_, cc 1 rfl, _, cc 3 rfl, _, cc 1 rfl, _, cc 3 rfl, c_vm_Unmap hb1.vm b d fun h2 F2 v2 st2 => ⟨_, rfl, ⟨_, cc 3 (hmid st2), rfl⟩, ⟨_, cc 1 (hmid st2), rfl⟩, r_Unmap (hb1.mid st2) b d fun h3 r3 st3 => ⟨_, rfl, fin v2 st2 r3 st3⟩⟩⟩) fun hk => ?_
  refine iteP_eqc (fun hk => ⟨_, cc 1 rfl, _, cc 3 rfl, _, cc 4 rfl, _, cc 1 rfl, _, cc 3 rfl, _, cc 4 rfl, c_vm_Poke hb1.vm b d e fun h2 F2 v2 st2 => ⟨_, rfl, ⟨_, cc 4 (hmid st2), rfl⟩, ⟨_, cc 3 (hmid st2), rfl⟩, ⟨_, cc 1 (hmid st2), rfl⟩, r_Poke (hb1.mid st2) b d e fun h3 r3 st3 => ⟨_, rfl, fin v2 st2 r3 st3⟩⟩⟩) fun hk => ?_
  have hs1 := hs.low (Low.step x1 hb.le (by simp))
  have hl1 : (bs.map (Value.int .u8)).length = n := by rw [List.length_map]; exact hn
  refine iteP_eqc (fun hk => ⟨_, cc 1 rfl, _, cc 3 rfl, _, _, _, cc 5 rfl, _, cc 1 rfl, _, cc 3 rfl, _, _, _, cc 5 rfl, c_few hs1 hl1 hnk fun m hs2 hm => ⟨_, _, _, rfl, ⟨_, _, _, cc 5 rfl, rfl⟩, ⟨_, cc 3 rfl, rfl⟩, ⟨_, cc 1 rfl, rfl⟩, ⟨_, cc 3 rfl, rfl⟩, ⟨_, cc 1 rfl, rfl⟩, ?_⟩⟩) fun hk => ?_
  · rw [← List.map_take] at hs2 hm
    rw [List.length_map] at hm
    refine c_vm_Fill hb1.vm b d hs2 hm hb1.le hb1.vb fun h2 F2 v2 st2 => ⟨_, rfl, ⟨_, _, _, cc 5 (hmid st2), rfl⟩, ⟨_, cc 3 (hmid st2), rfl⟩, ⟨_, cc 1 (hmid st2), rfl⟩, ?_⟩
    have l2 : Low B h1 h2 := Low.step st2 hb1.le hb1.vb
    refine c_few (hs1.low l2) hl1 hnk fun m' hs3 hm' => ⟨_, _, _, rfl, ⟨_, cc 3 (hmid st2), rfl⟩, ⟨_, cc 1 (hmid st2), rfl⟩, ?_⟩
    rw [← List.map_take] at hs3 hm'
    rw [List.length_map] at hm'
    exact r_Fill (hb1.mid st2) b d hs3 hm' (by have := hb1.le; have := st2.size; omega) hb1.rb fun h3 r3 st3 => ⟨_, rfl, fin v2 st2 r3 st3⟩
  · exact hK h1 s F G hb1 (Low.step x1 hb.le (by simp)) x1.size
set_option maxHeartbeats 1000000 in
theorem c_same (hb : BothAt B h v r s F G) (hK : ∀ h', Ext h h' → K (.bool true) h') : CallsH Try.prog f_law19_same #[.pointer (some ⟨v, 0, none⟩), .pointer (some ⟨r, 0, none⟩)] h K := by
  refine q_law19_same_calls v r h K ?_
  unfold q_law19_same
  refine ⟨fun i hc => -1 ≤ i ∧ i ≤ 7 ∧ Ext h hc, fun i _ => (7 - i).toNat, ⟨by decide, by decide, Step.refl _ _⟩, ?_⟩
  rintro i hc ⟨i0, i1, xc⟩
  have hbc := hb.ext xc
  refine iteP_cases (fun hi => ?_) fun hi => ?_
  · refine c_vm_Pages hbc.vm i fun h2 p2 n2 c2 G2 s2 x2 g2 => ⟨_, _, _, rfl, ?_⟩
    have hb2 := hbc.ext x2
    refine r_Pages hb2.rf i fun h3 p3 n3 c3 G3 s3 x3 g3 => ⟨_, _, _, rfl, ?_⟩
    have hG2 : ∀ q ∈ G2, q < h2.size := fun q hq => by
      rcases s2.is with ⟨_, _, hG⟩ | ⟨b, o, cs, _, hG, hb, _, _⟩
      · rw [hG] at hq; simp at hq
      · rw [hG] at hq; simp at hq; rw [hq]; exact lt_of_at hb
    have s2' := s2.congr fun q hq => x3.frame q (hG2 q hq) (by simp)
    have hl2 : n2 ≤ 1000000 := by
      have := s2.len
      have h5 := pagesTo_len s i 16
      have : pagesTo s i 16 = pagesS s i := rfl
      rw [this] at h5
      simp at *
      omega
    refine c_SameInts s2' s3 hl2 ⟨_, rfl, ?_⟩
    rw [decide_eq_true rfl]
    have hb3 := hb2.ext x3
    refine iteP_f rfl ⟨fun j g => -1 ≤ j ∧ j ≤ 6 ∧ Ext h3 g, fun j _ => (6 - j).toNat, ⟨by decide, by decide, Step.refl _ _⟩, ?_⟩
    rintro j g ⟨j0, j1, xg⟩
    have hbg := hb3.ext xg
    refine iteP_cases (fun hj => c_vm_Frame hbg.vm i j ⟨_, _, rfl, r_Frame hbg.rf i j ⟨_, _, rfl, ?_⟩⟩) fun hj => ?_
    · rw [wrap64 (x := j + 1) (by omega) (by omega)]
      exact iteP_nne rfl (iteP_f (by simp) ⟨⟨by omega, by omega, xg⟩, by show (6 - (j + 1)).toNat < (6 - j).toNat; omega⟩)
    · refine ⟨fun j g' => -1 ≤ j ∧ j ≤ 134 ∧ Ext g g', fun j _ => (134 - j).toNat, ⟨by decide, by decide, Step.refl _ _⟩, ?_⟩
      rintro j g' ⟨j0, j1, xg'⟩
      have hbg' := hbg.ext xg'
      refine iteP_cases (fun hj => c_vm_Peek hbg'.vm i j ⟨_, _, rfl, r_Peek hbg'.rf i j ⟨_, _, rfl, ?_⟩⟩) fun hj => ?_
      · rw [wrap64 (x := j + 5) (by omega) (by omega)]
        exact iteP_nne rfl (iteP_nne rfl ⟨⟨by omega, by omega, xg'⟩, by show (134 - (j + 5)).toNat < (134 - j).toNat; omega⟩)
      · rw [wrap64 (x := i + 1) (by omega) (by omega)]
        exact ⟨⟨by omega, by omega, xc.trans (x2.trans (x3.trans (xg.trans xg')))⟩, by show (7 - (i + 1)).toNat < (7 - i).toNat; omega⟩
  · refine ⟨fun j g => -1 ≤ j ∧ j ≤ 10 ∧ Ext hc g, fun j _ => (10 - j).toNat, ⟨by decide, by decide, Step.refl _ _⟩, ?_⟩
    rintro j g ⟨j0, j1, xg⟩
    have hbg := hbc.ext xg
    refine iteP_cases (fun hj => c_vm_Refs hbg.vm j ⟨_, rfl, r_Refs hbg.rf j ⟨_, rfl, ?_⟩⟩) fun hj => ?_
    · rw [wrap64 (x := j + 1) (by omega) (by omega)]
      exact iteP_nne rfl ⟨⟨by omega, by omega, xg⟩, by show (10 - (j + 1)).toNat < (10 - j).toNat; omega⟩
    · refine c_vm_Left hbg.vm ⟨_, rfl, r_Left hbg.rf ⟨_, rfl, iteP_eq rfl (c_vm_Copies hbg.vm ⟨_, rfl, r_Copies hbg.rf ⟨_, rfl, ?_⟩⟩)⟩⟩
      rw [beq_self_eq_true]
      exact hK g (xc.trans xg)
end
end Go.Proofs.Ytmdhfmljgjnggaa
