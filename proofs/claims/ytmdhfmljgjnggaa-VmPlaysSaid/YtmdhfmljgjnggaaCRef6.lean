/- The reference of vm: Poke. No condition. -/
import Derived.Test.YtmdhfmljgjnggaaCRef5
namespace Go.Proofs.Ytmdhfmljgjnggaa
attribute [local irreducible] semWP
set_option linter.constructorNameAsVariable false
section
variable {h h' : Hp} {r m f : Nat} {s : VmS} {K : Value → Hp → Prop} {F : List Nat}
theorem RefAt.setFrm (ha : RefAt h r m f s) (hw : Wf s) {pid page x : Int} (hp : pgOf s pid page ≠ -2) (hx : 0 ≤ x) :
    RefAt (setH h ((((⟨r, 7, none⟩ : Addr).add (Int.toNat pid * 32)).add (Int.toNat page * 2)).add 1) (.int .i64 (x + 1))) r m f (setPg s pid page x) := by
  obtain ⟨h1, h2, h3, h4⟩ := pgOf_in hp
  simp only [Addr.add_mk]
  refine ha.raw ((ha.vm.put (rc_frm h1 h2 h3 h4)).ext fun i => ?_) (Step.setH (by simp)) rfl rfl
  rw [← refCell_setPg hw h1 h2 h3 h4, show Go.Proofs.Ytmdhfmljgjnggaa.frm x = x + 1 by unfold Go.Proofs.Ytmdhfmljgjnggaa.frm; rw [if_neg (by omega)]]
  by_cases hi : i = 7 + pid.toNat * 32 + page.toNat * 2 + 1
  · rw [if_pos hi, if_pos hi]
  · rw [if_neg hi, if_neg hi]
    by_cases hj : i = 7 + pid.toNat * 32 + page.toNat * 2
    · rw [if_pos hj, hj, rc_map h1 h2 h3 h4]
      have e1 : (pgOf s pid page != -2) = true := by simpa using hp
      have e2 : (x != -2) = true := by simp; omega
      rw [e1, e2]
    · rw [if_neg hj]
theorem RefAt.setCp (ha : RefAt h r m f s) {x : Int} : RefAt (setH h ⟨r, 199, none⟩ (.int .i64 x)) r m f { s with cp := x } := by
  refine ha.raw ((ha.vm.put (o := 199) (old := .int .i64 s.cp) rfl).ext fun i => ?_) (Step.setH (by simp)) rfl rfl
  unfold refCell
  by_cases hi : i = 199
  · subst hi; rfl
  · rw [if_neg hi, if_neg hi, if_neg hi]
    rfl
theorem RefAt.setMem (ha : RefAt h r m f s) {b : List Int} (hm : MrAt h' m f s.n b) (hs : Step h h' [f] [f]) : RefAt h' r m f { s with b := b } := by
  obtain ⟨n1, n2, n3⟩ := ha.ne
  refine ⟨(ha.vm.congr (hs.frame r ha.lt.1 (by simpa using n2))).ext fun i => rfl, hm⟩
set_option maxHeartbeats 1000000 in
theorem r_Poke (hv : RefRep h r s F) (pid addr c : Int) (hK : ∀ h', RefRep h' r (pokeS s pid addr c).2 F → Step h h' F F → K (.int .i64 (pokeS s pid addr c).1) h') :
    CallsH Try.prog f_ref19_Vm_Poke #[.pointer (some ⟨r, 0, none⟩), .int .i64 pid, .int .i64 addr, .int .u8 c] h K := by
  have hv0 := hv
  obtain ⟨m, f, rfl, ha, hw⟩ := hv
  refine q_ref19_Vm_Poke_calls r pid addr c h K ?_
  unfold q_ref19_Vm_Poke
  unfold pokeS at hK
  refine r_at ha pid addr ⟨_, rfl, iteP_nec (fun he => ?_) fun he => ?_⟩
  · rw [if_pos he] at hK; exact hK h hv0 (Step.refl _ _)
  rw [if_neg (by simp [he])] at hK
  obtain ⟨hh, h1, h2, h3, h4, hp⟩ := addrE_ok he
  rw [tdiv32 h3 h4, tmod32 h3]
  have g3 : 0 ≤ addr / 32 := by omega
  have g4 : addr / 32 < 16 := by omega
  have o0 : 0 ≤ addr % 32 := by omega
  have o1 : addr % 32 < 32 := by omega
  generalize addr / 32 = page at *
  generalize addr % 32 = off at *
  have hle := hw.pg_le pid page
  have h64 := hw.le
  have hat := hw.at h1 h2 g3 g4
  refine ⟨h1, h2, g3, g4, _, ha.map h1 h2 g3 g4, _, ha.frm h1 h2 g3 g4, letH_iff.2 ?_⟩
  have hz : (zeroCells Try.prog T_N_ref19_page) = #[.bool false, .int .i64 0] := by kernel_rfl
  rw [hz]
  have x1 : Ext h (h.push (.cells #[.bool false, .int .i64 0] T_N_ref19_page)) := Ext.push _ _
  have b1 : (h.push (.cells #[.bool false, .int .i64 0] T_N_ref19_page))[h.size]? = some (.cells #[.bool false, .int .i64 0] T_N_ref19_page) := push_new _ _
  have z1 : (h.push (.cells #[.bool false, .int .i64 0] T_N_ref19_page)).size = h.size + 1 := by simp
  generalize h.push (.cells #[.bool false, .int .i64 0] T_N_ref19_page) = g1 at *
  refine ⟨⟨_, by rw [cellAt_cells b1]; rfl⟩, frozenAt_cells b1, letH_iff.2 ?_⟩
  have b2 := setH_same (o := 0) (v := .bool (pgOf s pid page != -2)) b1
  have s2 : Step g1 (setH g1 ⟨h.size, 0, none⟩ (.bool (pgOf s pid page != -2))) [h.size] [h.size] := Step.setH (by simp)
  generalize setH g1 ⟨h.size, 0, none⟩ (.bool (pgOf s pid page != -2)) = g2 at *
  refine ⟨⟨_, by rw [cellAt_cells b2]; rfl⟩, frozenAt_cells b2, letH_iff.2 ?_⟩
  have b3 := setH_same (o := 1) (v := .int .i64 (frm (pgOf s pid page))) b2
  have s3 : Step g2 (setH g2 ⟨h.size, 1, none⟩ (.int .i64 (frm (pgOf s pid page)))) [h.size] [h.size] := Step.setH (by simp)
  generalize setH g2 ⟨h.size, 1, none⟩ (.int .i64 (frm (pgOf s pid page))) = g3' at *
  have x3 : Ext h g3' := x1.trans' (s2.trans s3) (by simp)
  have c0 : ∀ {g : Hp}, g[h.size]? = g3'[h.size]? → cellAt g ⟨h.size, 0, none⟩ = some (.bool (pgOf s pid page != -2)) := fun e => by rw [cellAt_cells (e.trans b3)]; rfl
  have c1 : ∀ {g : Hp}, g[h.size]? = g3'[h.size]? → cellAt g ⟨h.size, 1, none⟩ = some (.int .i64 (frm (pgOf s pid page))) := fun e => by rw [cellAt_cells (e.trans b3)]; rfl
  refine ⟨_, c0 rfl, _, c1 rfl, ?_⟩
  refine r_needs (hv0.ext x3) hp _ fun g4' x4 => ⟨_, rfl, ?_⟩
  have hlt : h.size < g3'.size := lt_of_at b3
  have e4 : g4'[h.size]? = g3'[h.size]? := x4.frame _ hlt (by simp)
  have x5 := x3.trans x4
  have ha4 : RefAt g4' r m f s := ha.congr fun q hq => x5.frame q (hv0.lt q hq) (by simp)
  have hv4 : RefRep g4' r s [r, m, f] := ⟨m, f, rfl, ha4, hw⟩
  have hin : ∀ q ∈ [r, m, f], q < h.size := hv0.lt
  have fin : ∀ {g' : Hp}, Step g4' g' [r, m, f] [r, m, f] → Step h g' [r, m, f] [r, m, f] := fun st => (x5.mono (by simp) fun _ hr => .inr hr).trans st
  cases hal : aloneS s pid page with
  | true =>
    unfold aloneS at hal
    simp only [Bool.and_eq_true, bne_iff_ne, ne_eq, beq_iff_eq] at hal
    have ho : ownS s pid page = some s := by unfold ownS; rw [if_pos hal]
    rw [ho] at hK
    refine iteP_f rfl ⟨_, ha4.c0, h1, h2, g3, g4, _, ha4.frm h1 h2 g3 g4, ?_⟩
    have e : IntKind.wrap .i64 (frm (pgOf s pid page) - 1) = pgOf s pid page := by
      unfold frm; rw [if_neg (by omega), wrap64 (by omega) (by omega)]; omega
    rw [e]
    exact r_SetByte ha4.mem _ _ c (by omega) (by omega) o0 o1 fun g5 m5 st5 z5 => ⟨_, rfl, hK g5 ⟨m, f, rfl, ha4.setMem m5 st5, hw.congr rfl rfl rfl⟩ (fin (st5.in1 (by simp)))⟩
  | false =>
    have hna : ¬ (pgOf s pid page ≠ -1 ∧ cnt (pgOf s pid page) s.pg = 1) := by
      rintro ⟨q1, q2⟩
      unfold aloneS at hal
      simp [q1, q2] at hal
    refine iteP_t rfl (r_next hv4 ⟨_, rfl, ?_⟩)
    cases hnx : nextF (refsOf s.pg) s.n with
    | none =>
      have ho : ownS s pid page = none := by unfold ownS; rw [if_neg hna, hnx]
      rw [ho] at hK
      exact iteP_yes (by decide) (hK g4' hv4 (fin (Step.refl _ _)))
    | some i =>
      obtain ⟨hi, hi0⟩ := nextF_spec hnx h64
      rw [Option.elim_some]
      refine iteP_no (by omega) ⟨_, c1 e4, iteP_eqc (fun hc => ⟨_, ha4.c0, ?_⟩) fun hc => ⟨_, ha4.c0, _, c1 e4, ?_⟩⟩
      · rw [frm_eq (by omega)] at hc
        have hc1 : pgOf s pid page = -1 := by omega
        have ho : ownS s pid page = some { s with b := over s.b (i * 32) (List.replicate 32 0), pg := s.pg.set (ixOf pid page) i } := by unfold ownS; rw [if_neg hna, hnx]; simp only; rw [if_pos hc1]
        rw [ho] at hK
        refine r_Zero ha4.mem i (by omega) (by omega) fun g5 m5 st5 z5 => ⟨_, rfl, h1, h2, g3, g4, ?_⟩
        rw [show ((i : Nat) : Int).toNat * 32 = i * 32 by omega] at m5
        have ha5 := ha4.setMem m5 st5
        generalize over s.b (i * 32) (List.replicate 32 0) = B at *
        have hw5 : Wf { s with b := B } := hw.congr rfl rfl rfl
        have hp5 : pgOf { s with b := B } pid page ≠ -2 := by rw [pgOf_congr (s' := s) (by rfl)]; exact hp
        refine ⟨⟨_, ha5.frm h1 h2 g3 g4⟩, by simp only [Addr.add_mk]; exact ha5.vm.fz _, letH_iff.2 ?_⟩
        rw [wrap64 (x := (i : Int) + 1) (by omega) (by omega)]
        have ha6 := ha5.setFrm hw5 (x := (i : Int)) hp5 (by omega)
        have st6 : Step g5 (setH g5 ((((⟨r, 7, none⟩ : Addr).add (Int.toNat pid * 32)).add (Int.toNat page * 2)).add 1) (.int .i64 ((i : Int) + 1))) [r] [r] := by simp only [Addr.add_mk]; exact Step.setH (by simp)
        generalize setH g5 ((((⟨r, 7, none⟩ : Addr).add (Int.toNat pid * 32)).add (Int.toNat page * 2)).add 1) (.int .i64 ((i : Int) + 1)) = g6 at *
        have hpg : pgOf (setPg { s with b := B } pid page i) pid page = i := by rw [pgOf_setPg hw5 h1 h2 g3 g4, if_pos ⟨rfl, rfl⟩]
        refine ⟨_, ha6.c0, h1, h2, g3, g4, _, ha6.frm h1 h2 g3 g4, ?_⟩
        have e : IntKind.wrap .i64 (frm (pgOf (setPg { s with b := B } pid page i) pid page) - 1) = i := by
          rw [hpg]; unfold frm; rw [if_neg (by omega), wrap64 (by omega) (by omega)]; omega
        rw [e]
        refine r_SetByte ha6.mem _ _ c (by omega) (by show (i : Int) < (s.n : Int); omega) o0 o1 fun g7 m7 st7 z7 => ⟨_, rfl, hK g7 ⟨m, f, rfl, ?_, ?_⟩ (fin (((st5.in1 (by simp)).trans (st6.in1 (by simp))).trans (st7.in1 (by simp))))⟩
        · have e2 : pgOf { s with b := B, pg := s.pg.set (ixOf pid page) i } pid page = i := hpg
          show RefAt g7 r m f { s with b := B.set (pgOf { s with b := B, pg := s.pg.set (ixOf pid page) i } pid page * 32 + off).toNat c, pg := s.pg.set (ixOf pid page) i }
          rw [e2]
          exact ha6.setMem m7 st7
        · exact (hw5.setPg (x := (i : Int)) hh g3 g4 (by omega) (by show (i : Int) < (s.n : Int); omega)).congr rfl rfl rfl
      · rw [ne_eq, frm_eq (by omega)] at hc
        have hc1 : pgOf s pid page ≠ -1 := by omega
        have ho : ownS s pid page = some { s with b := over s.b (i * 32) ((s.b.drop ((pgOf s pid page).toNat * 32)).take 32), pg := s.pg.set (ixOf pid page) i, cp := IntKind.wrap .i64 (s.cp + 1) } := by unfold ownS; rw [if_neg hna, hnx]; simp only; rw [if_neg hc1]
        rw [ho] at hK
        have e : IntKind.wrap .i64 (frm (pgOf s pid page) - 1) = pgOf s pid page := by
          unfold frm; rw [if_neg hc, wrap64 (by omega) (by omega)]; omega
        rw [e]
        refine r_Copy ha4.mem i _ (by omega) (by omega) (by omega) (by omega) fun g5 m5 st5 z5 => ⟨_, rfl, ?_⟩
        rw [show ((i : Nat) : Int).toNat * 32 = i * 32 by omega] at m5
        have ha5 := ha4.setMem m5 st5
        generalize over s.b (i * 32) ((s.b.drop ((pgOf s pid page).toNat * 32)).take 32) = B at *
        refine ⟨_, ha5.c199, ⟨_, ha5.c199⟩, ha5.vm.fz _, letH_iff.2 ⟨h1, h2, g3, g4, ?_⟩⟩
        have ha6 := ha5.setCp (x := IntKind.wrap .i64 (s.cp + 1))
        have st6 : Step g5 (setH g5 ⟨r, 199, none⟩ (.int .i64 (IntKind.wrap .i64 (s.cp + 1)))) [r] [r] := Step.setH (by simp)
        generalize setH g5 ⟨r, 199, none⟩ (.int .i64 (IntKind.wrap .i64 (s.cp + 1))) = g6 at *
        generalize IntKind.wrap .i64 (s.cp + 1) = CP at *
        have hw6 : Wf { s with b := B, cp := CP } := hw.congr rfl rfl rfl
        have hp6 : pgOf { s with b := B, cp := CP } pid page ≠ -2 := by rw [pgOf_congr (s' := s) (by rfl)]; exact hp
        refine ⟨⟨_, ha6.frm h1 h2 g3 g4⟩, by simp only [Addr.add_mk]; exact ha6.vm.fz _, letH_iff.2 ?_⟩
        rw [wrap64 (x := (i : Int) + 1) (by omega) (by omega)]
        have ha7 := ha6.setFrm hw6 (x := (i : Int)) hp6 (by omega)
        have st7 : Step g6 (setH g6 ((((⟨r, 7, none⟩ : Addr).add (Int.toNat pid * 32)).add (Int.toNat page * 2)).add 1) (.int .i64 ((i : Int) + 1))) [r] [r] := by simp only [Addr.add_mk]; exact Step.setH (by simp)
        generalize setH g6 ((((⟨r, 7, none⟩ : Addr).add (Int.toNat pid * 32)).add (Int.toNat page * 2)).add 1) (.int .i64 ((i : Int) + 1)) = g7 at *
        have hpg : pgOf (setPg { s with b := B, cp := CP } pid page i) pid page = i := by rw [pgOf_setPg hw6 h1 h2 g3 g4, if_pos ⟨rfl, rfl⟩]
        refine ⟨_, ha7.c0, h1, h2, g3, g4, _, ha7.frm h1 h2 g3 g4, ?_⟩
        have e3 : IntKind.wrap .i64 (frm (pgOf (setPg { s with b := B, cp := CP } pid page i) pid page) - 1) = i := by
          rw [hpg]; unfold frm; rw [if_neg (by omega), wrap64 (by omega) (by omega)]; omega
        rw [e3]
        refine r_SetByte ha7.mem _ _ c (by omega) (by show (i : Int) < (s.n : Int); omega) o0 o1 fun g8 m8 st8 z8 => ⟨_, rfl, hK g8 ⟨m, f, rfl, ?_, ?_⟩ (fin ((((st5.in1 (by simp)).trans (st6.in1 (by simp))).trans (st7.in1 (by simp))).trans (st8.in1 (by simp))))⟩
        · have e2 : pgOf { s with b := B, pg := s.pg.set (ixOf pid page) i, cp := CP } pid page = i := hpg
          show RefAt g8 r m f { s with b := B.set (pgOf { s with b := B, pg := s.pg.set (ixOf pid page) i, cp := CP } pid page * 32 + off).toNat c, pg := s.pg.set (ixOf pid page) i, cp := CP }
          rw [e2]
          exact ha7.setMem m8 st8
        · exact (hw6.setPg (x := (i : Int)) hh g3 g4 (by omega) (by show (i : Int) < (s.n : Int); omega)).congr rfl rfl rfl
end
end Go.Proofs.Ytmdhfmljgjnggaa
