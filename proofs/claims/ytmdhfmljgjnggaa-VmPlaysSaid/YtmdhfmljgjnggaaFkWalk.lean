/- TopForked answers true, and old memory stays as it is. Its arguments: a byte and a row of six bytes. No condition. -/
import Derived.Test.YtmdhfmljgjnggaaQfk
import Derived.Test.YtmdhfmljgjnggaaFkLaw
namespace Go.Proofs.Ytmdhfmljgjnggaa
attribute [local irreducible] semWP

theorem Ext.trans' {h h1 h2 : Hp} {F F' : List Nat} (a : Ext h h1) (b : Step h1 h2 F F') (hF : ∀ r ∈ F, h.size ≤ r) : Ext h h2 :=
  ⟨Nat.le_trans a.size b.size, fun r hr _ => by
    rw [b.frame r (Nat.lt_of_lt_of_le hr a.size) (fun hf => by have := hF r hf; omega), a.frame r hr (by simp)], by simp⟩
theorem Step.new {h0 h h' : Hp} {F F' : List Nat} (b : Step h h' F F') (hF : ∀ r ∈ F, h0.size ≤ r) (hs : h0.size ≤ h.size) : ∀ r ∈ F', h0.size ≤ r := fun r hr => by
  rcases b.foot r hr with h1 | h1
  · exact hF r h1
  · omega
section
variable {h : Hp} (b0 b1 b2 b3 b4 b5 : Int)
/-- A row of six bytes in a block. -/
theorem rowCell {h : Hp} {a : Nat} {bs : List Int} {e : TypeId} (ha : h[a]? = some (.cells ⟨bs.map (.int .u8)⟩ e (0, 0))) {i : Int} (h0 : 0 ≤ i) (h1 : i < bs.length) : cellAt h ((⟨a, 0, none⟩ : Addr).add (Int.toNat i * 1)) = some (.int .u8 (bs.getD i.toNat 0)) := by
  rw [Addr.add_mk, cellAt_cells ha]
  have : i.toNat < bs.length := by omega
  simp [this]
set_option maxHeartbeats 1000000 in
theorem c_TopForked (x0 : Int) (h0 : 0 ≤ x0) (h1 : x0 < 256) : CallsH Try.prog f_top_TopForked #[.int .u8 x0, .agg ⟨[b0, b1, b2, b3, b4, b5].map (.int .u8)⟩] h fun r h' => r = .bool true ∧ Ext h h' := by
  refine q_top_TopForked_calls x0 _ h _ ?_
  unfold q_top_TopForked
  generalize hbs : [b0, b1, b2, b3, b4, b5] = bs
  have hlen : bs.length = 6 := by rw [← hbs]; rfl
  have e1 : IntKind.wrap .i64 x0 = x0 := wrap64 (by omega) (by omega)
  have e2 : Int.tmod x0 6 = x0 % 6 := Int.tmod_eq_emod_of_nonneg h0
  rw [e1, e2, wrap64 (x := x0 % 6 + 1) (by omega) (by omega)]
  obtain ⟨n, hn, n1, n6⟩ : ∃ n : Nat, x0 % 6 + 1 = n ∧ 1 ≤ n ∧ n ≤ 6 := ⟨(x0 % 6 + 1).toNat, by omega, by omega, by omega⟩
  rw [hn, wrap64 (x := (n : Int) - 1) (by omega) (by omega), wrap64 (x := 16 - (n : Int)) (by omega) (by omega)]
  refine letH_iff.2 ?_
  have x1 : Ext h (h.push (.cells ⟨bs.map (.int .u8)⟩ T_6_uint8)) := Ext.push _ _
  have a1 : (h.push (.cells ⟨bs.map (.int .u8)⟩ T_6_uint8))[h.size]? = some (.cells ⟨bs.map (.int .u8)⟩ T_6_uint8) := push_new _ _
  have z1 : (h.push (.cells ⟨bs.map (.int .u8)⟩ T_6_uint8)).size = h.size + 1 := by simp
  generalize h.push (.cells ⟨bs.map (.int .u8)⟩ T_6_uint8) = g at *
  refine c_vm_New 16 (fun hb => by omega) fun _ _ h2 v F2 v2 x2 n2 => ⟨_, rfl, ?_⟩
  refine c_vm_Begin v2 0 fun h3 F3 v3 x3 => ⟨_, rfl, iteP_nne fk_begin ?_⟩
  refine c_vm_Map v3 0 0 fun h4 F4 v4 x4 => ⟨_, rfl, iteP_nne fk_map ?_⟩
  have xs : Step h2 h4 F2 F4 := x3.trans x4
  have y4 : Ext g h4 := x2.trans' xs n2
  have n4 : ∀ r ∈ F4, g.size ≤ r := xs.new n2 x2.size
  refine ⟨fun i hc => ∃ F, 0 ≤ i ∧ i ≤ n ∧ VmRep hc v (stF bs i.toNat) F ∧ Ext g hc ∧ ∀ r ∈ F, g.size ≤ r, fun i _ => ((n : Int) - i).toNat, ⟨F4, by omega, by omega, v4, y4, n4⟩, ?_⟩
  rintro i hc ⟨F, i0, i1, vc, xc, nc⟩
  have hmu : ((n : Int) - (i + 1)).toNat < ((n : Int) - i).toNat ∨ (n : Int) ≤ i := by omega
  have hst : i < n → stF bs (i + 1).toNat = (pokeS (if i.toNat = 0 then stF bs i.toNat else (forkS (stF bs i.toNat) (i - 1) i).2) i i (bs.getD i.toNat 0)).2 := fun _ => by
    rw [show (i + 1).toNat = i.toNat + 1 by omega]
    simp only [stF, show ((i.toNat : Nat) : Int) = i by omega]
  have hpk : i < n → (pokeS (if i.toNat = 0 then stF bs i.toNat else (forkS (stF bs i.toNat) (i - 1) i).2) i i (bs.getD i.toNat 0)).1 = 0 := fun hi => by
    have := fk_poke b0 b1 b2 b3 b4 b5 i.toNat (by omega)
    rw [hbs, show ((i.toNat : Nat) : Int) = i by omega] at this
    exact this
  refine iteP_cases (fun hin => ?_) fun hin => ?_
  · rw [wrap64 (x := i + 1) (by omega) (by omega), wrap64 (x := i - 1) (by omega) (by omega)]
    have hs := hst hin
    have hp := hpk hin
    refine iteP_cases (fun hi => ?_) fun hi => ?_
    · have hfk := fk_fork b0 b1 b2 b3 b4 b5 i.toNat (by omega) (by omega)
      rw [hbs, show ((i.toNat : Nat) : Int) = i by omega] at hfk
      rw [if_neg (by omega)] at hs hp
      refine c_vm_Fork vc (i - 1) i fun h5 F5 v5 x5 => ⟨_, rfl, iteP_nne hfk ⟨i0, by omega, _, rowCell (xc.trans' x5 nc |>.at a1) i0 (by omega), ?_⟩⟩
      refine c_vm_Poke v5 i i _ fun h6 F6 v6 x6 => ⟨_, rfl, iteP_nne hp ⟨⟨F6, by omega, by omega, ?_, ?_, ?_⟩, ?_⟩⟩
      · rw [hs]; exact v6
      · exact xc.trans' (x5.trans x6) nc
      · exact (x5.trans x6).new nc xc.size
      · show ((n : Int) - (i + 1)).toNat < ((n : Int) - i).toNat; omega
    · rw [if_pos (by omega)] at hs hp
      refine ⟨i0, by omega, _, rowCell (xc.at a1) i0 (by omega), ?_⟩
      refine c_vm_Poke vc i i _ fun h6 F6 v6 x6 => ⟨_, rfl, iteP_nne hp ⟨⟨F6, by omega, by omega, ?_, ?_, ?_⟩, ?_⟩⟩
      · rw [hs]; exact v6
      · exact xc.trans' x6 nc
      · exact x6.new nc xc.size
      · show ((n : Int) - (i + 1)).toNat < ((n : Int) - i).toNat; omega
  · have hi : i.toNat = n := by omega
    rw [hi] at vc
    refine ⟨fun j h' => hc = h' ∧ 0 ≤ j ∧ j ≤ n, fun j _ => ((n : Int) - j).toNat, ⟨rfl, by omega, by omega⟩, ?_⟩
    rintro j _ ⟨rfl, j0, j1⟩
    refine iteP_cases (fun hj => ?_) fun hj => ?_
    · refine ⟨fun k h' => hc = h' ∧ 0 ≤ k ∧ k ≤ n, fun k _ => ((n : Int) - k).toNat, ⟨rfl, by omega, by omega⟩, ?_⟩
      rintro k _ ⟨rfl, k0, k1⟩
      rw [wrap64 (x := j + 1) (by omega) (by omega)]
      refine iteP_cases (fun hk => ?_) fun hk => ⟨⟨rfl, by omega, by omega⟩, by show ((n : Int) - (j + 1)).toNat < ((n : Int) - j).toNat; omega⟩
      rw [wrap64 (x := k + 1) (by omega) (by omega)]
      have hpe := fk_peek b0 b1 b2 b3 b4 b5 n n1 n6 j.toNat k.toNat (by omega) (by omega)
      rw [hbs, show ((j.toNat : Nat) : Int) = j by omega, show ((k.toNat : Nat) : Int) = k by omega] at hpe
      refine c_vm_Peek vc j k ⟨_, _, rfl, k0, by omega, _, rowCell (xc.at a1) k0 (by omega), ?_⟩
      rw [hpe]
      have hm : ((n : Int) - (k + 1)).toNat < ((n : Int) - k).toNat := by omega
      refine iteP_cases (fun hjk => ?_) fun hjk => ?_
      · rw [if_pos (by omega)]
        exact iteP_nne rfl (iteP_nne rfl ⟨⟨rfl, by omega, by omega⟩, hm⟩)
      · rw [if_neg (by omega)]
        exact iteP_nne rfl (iteP_nne rfl ⟨⟨rfl, by omega, by omega⟩, hm⟩)
    · obtain ⟨f1, f2⟩ := fk_end b0 b1 b2 b3 b4 b5 n n1 n6
      rw [hbs] at f1 f2
      refine c_vm_Copies vc ⟨_, rfl, iteP_eq f1 (c_vm_Left vc ⟨_, rfl, ?_, x1.trans xc⟩)⟩
      rw [f2]; simp
end
end Go.Proofs.Ytmdhfmljgjnggaa
