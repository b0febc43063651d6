/- What Begin, Map, Unmap, Peek and Poke of package vm do. No condition. -/
import Derived.Test.YtmdhfmljgjnggaaCVm2
namespace Go.Proofs.Ytmdhfmljgjnggaa
attribute [local irreducible] semWP

theorem refsOf_set {pg : List Int} {i : Nat} {x y : Int} (hy : pg[i]? = some y) {f : Nat} : (refsOf (pg.set i x))[f]? = if f < 64 then some (cnt f pg - (if y = f then 1 else 0) + (if x = f then 1 else 0)) else none := by
  by_cases hf : f < 64
  · rw [refsOf_get hf, if_pos hf, cnt_set hy]
  · rw [if_neg hf, List.getElem?_eq_none]; rw [refsOf_length]; omega
theorem refsOf_getq {pg : List Int} {f : Nat} : (refsOf pg)[f]? = if f < 64 then some (cnt f pg) else none := by
  by_cases hf : f < 64
  · rw [refsOf_get hf, if_pos hf]
  · rw [if_neg hf, List.getElem?_eq_none]; rw [refsOf_length]; omega
theorem refsOf_nop {pg : List Int} {i : Nat} {x y : Int} (hy : pg[i]? = some y) (h1 : y < 0) (h2 : x < 0) : refsOf (pg.set i x) = refsOf pg := by
  apply List.ext_getElem?
  intro f
  rw [refsOf_set hy, refsOf_getq, if_neg (show ¬ y = (f : Int) by omega), if_neg (show ¬ x = (f : Int) by omega)]
  simp
theorem refsOf_dec {pg : List Int} {i : Nat} {x y : Int} (hy : pg[i]? = some y) (h1 : 0 ≤ y) (h2 : x < 0) : refsOf (pg.set i x) = (refsOf pg).set y.toNat (cnt y pg - 1) := by
  apply List.ext_getElem?
  intro f
  rw [refsOf_set hy, List.getElem?_set, refsOf_getq, refsOf_length, if_neg (show ¬ x = (f : Int) by omega)]
  by_cases he : y.toNat = f
  · rw [if_pos he, if_pos (show y = (f : Int) by omega)]
    subst he
    rw [show ((y.toNat : Nat) : Int) = y by omega]
    simp
  · rw [if_neg he, if_neg (show ¬ y = (f : Int) by omega)]; simp
theorem refsOf_inc {pg : List Int} {i : Nat} {x y : Int} (hy : pg[i]? = some y) (h1 : y < 0) (h2 : 0 ≤ x) : refsOf (pg.set i x) = (refsOf pg).set x.toNat (cnt x pg + 1) := by
  apply List.ext_getElem?
  intro f
  rw [refsOf_set hy, List.getElem?_set, refsOf_getq, refsOf_length, if_neg (show ¬ y = (f : Int) by omega)]
  by_cases he : x.toNat = f
  · rw [if_pos he, if_pos (show x = (f : Int) by omega)]
    subst he
    rw [show ((x.toNat : Nat) : Int) = x by omega]
    simp
  · rw [if_neg he, if_neg (show ¬ x = (f : Int) by omega)]; simp
theorem refsOf_move {pg : List Int} {i : Nat} {x y : Int} (hy : pg[i]? = some y) (h1 : 0 ≤ y) (h2 : 0 ≤ x) (hn : x ≠ y) : refsOf (pg.set i x) = ((refsOf pg).set y.toNat (cnt y pg - 1)).set x.toNat (cnt x pg + 1) := by
  apply List.ext_getElem?
  intro f
  rw [refsOf_set hy, List.getElem?_set, List.getElem?_set, refsOf_getq, List.length_set, refsOf_length]
  by_cases he : x.toNat = f
  · rw [if_pos he, if_pos (show x = (f : Int) by omega), if_neg (show ¬ y = (f : Int) by omega)]
    subst he
    rw [show ((x.toNat : Nat) : Int) = x by omega]
    simp
  · rw [if_neg he, if_neg (show ¬ x = (f : Int) by omega)]
    by_cases he2 : y.toNat = f
    · rw [if_pos he2, if_pos (show y = (f : Int) by omega)]
      subst he2
      rw [show ((y.toNat : Nat) : Int) = y by omega]
      simp
    · rw [if_neg he2, if_neg (show ¬ y = (f : Int) by omega)]; simp
theorem nextF_spec {pg : List Int} {n i : Nat} (h : nextF (refsOf pg) n = some i) (hn : n ≤ 64) : i < n ∧ cnt i pg = 0 := by
  unfold nextF at h
  have h1 := List.mem_of_find?_eq_some h
  have h2 := List.find?_some h
  have hi : i < n := by simpa using h1
  rw [refsOf_get (by omega)] at h2
  exact ⟨hi, by simpa using h2⟩

/-- A page has a frame of its own (none: there is no frame). -/
def ownS (s : VmS) (pid page : Int) : Option VmS :=
  if pgOf s pid page ≠ -1 ∧ cnt (pgOf s pid page) s.pg = 1 then some s else
  match nextF (refsOf s.pg) s.n with
  | none => none
  | some f =>
    if pgOf s pid page = -1 then some { s with b := over s.b (f * 32) (List.replicate 32 0), pg := s.pg.set (ixOf pid page) f }
    else some { s with b := over s.b (f * 32) ((s.b.drop ((pgOf s pid page).toNat * 32)).take 32), pg := s.pg.set (ixOf pid page) f, cp := IntKind.wrap .i64 (s.cp + 1) }

section
variable {h : Hp} {v m f sb : Nat} {sl : List (Int × Nat)} {s : VmS} {K : Value → Hp → Prop}
theorem Wf.congr {s s' : VmS} (hw : Wf s) (h1 : s'.has = s.has) (h2 : s'.pg = s.pg) (h3 : s'.n = s.n) : Wf s' := by
  obtain ⟨n, b, has, pg, cp⟩ := s
  obtain ⟨n', b', has', pg', cp'⟩ := s'
  simp only at h1 h2 h3
  subst h1 h2 h3
  exact ⟨hw.lh, hw.lp, hw.pgs, hw.off, hw.le⟩
theorem pgOf_congr {s s' : VmS} (h : s.pg = s'.pg) (p q : Int) : pgOf s p q = pgOf s' p q := by unfold pgOf; rw [h]
theorem hasOf_congr {s s' : VmS} (h : s.has = s'.has) (p : Int) : hasOf s p = hasOf s' p := by unfold hasOf; rw [h]
theorem foot_v {v m f sb : Nat} {sl : List (Int × Nat)} : v ∈ foot v m f sb sl := by simp [foot]
theorem foot_f {v m f sb : Nat} {sl : List (Int × Nat)} : f ∈ foot v m f sb sl := by simp [foot]
theorem foot_sb {v m f sb : Nat} {sl : List (Int × Nat)} : sb ∈ foot v m f sb sl := by simp [foot]
theorem foot_r {v m f sb : Nat} {sl : List (Int × Nat)} {pid : Int} {r : Nat} (h : lkp pid sl = some r) : r ∈ foot v m f sb sl := by
  simp only [foot, List.mem_cons]; exact .inr (.inr (.inr (.inr (lkp_snd h))))
theorem Step.in1 {h h' : Hp} {b : Nat} {F : List Nat} (a : Step h h' [b] [b]) (hb : b ∈ F) : Step h h' F F :=
  a.mono (by simpa using hb) fun _ hr => .inr hr
theorem c_vm_drop (hv : VmAt h v m f sb sl (refsOf s.pg) s) (hw : Wf s) {pid page : Int} {r : Nat} (hr : lkp pid sl = some r) (hp : pgOf s pid page ≠ -2)
    (hK : ∀ h', VmAt h' v m f sb sl (refsOf (setPg s pid page (-2)).pg) (setPg s pid page (-2)) → Step h h' (foot v m f sb sl) (foot v m f sb sl) → h'.size = h.size → Step h h' [v, r] [v, r] → K (.tuple #[]) h') :
    CallsH Try.prog f_vm_Vm_drop #[.pointer (some ⟨v, 0, none⟩), .map (some r), .int .i64 page] h K := by
  refine q_vm_Vm_drop_calls v r page h K ?_
  unfold q_vm_Vm_drop
  obtain ⟨i1, i2, i3, i4⟩ := pgOf_in hp
  have hat := hw.at i1 i2 i3 i4
  have hle := hw.pg_le pid page
  have hn := hw.le
  have hlk := (hv.pages pid r hr).look page
  rw [if_neg hp] at hlk
  have hpg : ∀ {h' : Hp}, PgAt h' r (fun q => if q = page then -2 else pgOf s pid q) → PgAt h' r (pgOf (setPg s pid page (-2)) pid) := fun hq => hq.ext fun q => by rw [pgOf_setPg hw i1 i2 i3 i4]; simp
  refine ⟨_, hlk, iteP_nec (fun hc => ?_) fun hc => ?_⟩
  · have hg := refsOf_get (pg := s.pg) (f := (pgOf s pid page).toNat) (by omega)
    rw [show (((pgOf s pid page).toNat : Nat) : Int) = pgOf s pid page by omega] at hg
    refine ⟨by omega, by omega, _, hv.ref hg, by omega, by omega, ⟨_, hv.ref hg⟩, ?_, letH_iff.2 ?_⟩
    · rw [Addr.add_mk]; exact hv.fz _
    have hcl := hw.cnt_le (pgOf s pid page)
    rw [wrap64 (by omega) (by omega)]
    have hv2 := hv.setRef (i := pgOf s pid page) (x := cnt (pgOf s pid page) s.pg - 1) (by omega)
    rw [← refsOf_dec (x := -2) hat (by omega) (by decide)] at hv2
    have hst : Step h (setH h ((⟨v, 1, none⟩ : Addr).add ((pgOf s pid page).toNat * 1)) (.int .i64 (cnt (pgOf s pid page) s.pg - 1))) [v] [v] := by rw [Addr.add_mk]; exact Step.setH (by simp)
    have hsz : (setH h ((⟨v, 1, none⟩ : Addr).add ((pgOf s pid page).toNat * 1)) (.int .i64 (cnt (pgOf s pid page) s.pg - 1))).size = h.size := setH_size _ _ _
    refine (hv2.pages pid r hr).del fun h' h1 h2 h3 => ⟨rfl, hK h' ?_ ((hst.in1 foot_v).trans (h2.in1 (foot_r hr))) (by rw [h3, hsz]) ((hst.in1 (by simp)).trans (h2.in1 (by simp)))⟩
    exact hv2.setSpace hr (hpg h1) h2 (fun q p hq => by rw [pgOf_setPg hw i1 i2 i3 i4, if_neg (by rintro ⟨rfl, _⟩; exact hq rfl)]) (fun _ => rfl) rfl rfl rfl
  · refine (hv.pages pid r hr).del fun h' h1 h2 h3 => ⟨rfl, hK h' ?_ (h2.in1 (foot_r hr)) h3 (h2.in1 (by simp))⟩
    have e : refsOf (setPg s pid page (-2)).pg = refsOf s.pg := refsOf_nop hat (by omega) (by decide)
    rw [e]
    exact hv.setSpace hr (hpg h1) h2 (fun q p hq => by rw [pgOf_setPg hw i1 i2 i3 i4, if_neg (by rintro ⟨rfl, _⟩; exact hq rfl)]) (fun _ => rfl) rfl rfl rfl
set_option maxHeartbeats 1000000 in
theorem c_vm_own (hv : VmAt h v m f sb sl (refsOf s.pg) s) (hw : Wf s) {pid page : Int} {r : Nat} (hr : lkp pid sl = some r) (hp : pgOf s pid page ≠ -2) (hbad : ownS s pid page = none → K (.int .i64 4) h)
    (hok : ∀ s', ownS s pid page = some s' → ∀ h', VmAt h' v m f sb sl (refsOf s'.pg) s' → Wf s' → Step h h' (foot v m f sb sl) (foot v m f sb sl) → h'.size = h.size → K (.int .i64 0) h') :
    CallsH Try.prog f_vm_Vm_own #[.pointer (some ⟨v, 0, none⟩), .map (some r), .int .i64 page] h K := by
  refine q_vm_Vm_own_calls v r page h K ?_
  unfold q_vm_Vm_own
  obtain ⟨i1, i2, i3, i4⟩ := pgOf_in hp
  have hat := hw.at i1 i2 i3 i4
  have hle := hw.pg_le pid page
  have hn := hw.le
  have hhas : hasOf s pid = true := by rw [← hv.has pid, hr]; rfl
  have hlk := (hv.pages pid r hr).look page
  rw [if_neg hp] at hlk
  unfold ownS at hbad hok
  generalize hc : pgOf s pid page = c at *
  refine ⟨_, hlk, c_vm_alone hv c (by omega) (by omega) ⟨_, rfl, iteP_split (fun hb => ?_) fun hb => ?_⟩⟩
  · simp only [Bool.and_eq_true, bne_iff_ne, ne_eq, beq_iff_eq] at hb
    have hg := refsOf_get (pg := s.pg) (f := c.toNat) (by omega)
    rw [hg, show ((c.toNat : Nat) : Int) = c by omega] at hb
    rw [if_pos ⟨hb.1, by simpa using hb.2⟩] at hok
    exact hok s rfl h hv hw (Step.refl _ _) rfl
  have hnot : ¬ (c ≠ -1 ∧ cnt c s.pg = 1) := by
    rintro ⟨h1, h2⟩
    have hg := refsOf_get (pg := s.pg) (f := c.toNat) (by omega)
    rw [show ((c.toNat : Nat) : Int) = c by omega] at hg
    rw [hg, h2] at hb
    simp [h1] at hb
  rw [if_neg hnot] at hbad hok
  refine c_vm_next hv ?_
  cases hnx : nextF (refsOf s.pg) s.n with
  | none =>
    rw [hnx] at hbad
    exact ⟨_, _, rfl, iteP_t rfl (hbad rfl)⟩
  | some i =>
    rw [hnx] at hok
    obtain ⟨hi, hi0⟩ := nextF_spec hnx hn
    simp only at hok
    refine ⟨_, _, rfl, iteP_f rfl ?_⟩
    have hwf : ∀ (b : List Int) (cp : Int), Wf { s with b := b, pg := s.pg.set (ixOf pid page) i, cp := cp } := fun b cp =>
      (hw.setPg (x := (i : Int)) hhas i3 i4 (by omega) (by omega)).congr rfl rfl rfl
    have hpg : ∀ (b : List Int) (cp : Int) {h' : Hp}, PgAt h' r (fun q => if q = page then (i : Int) else pgOf s pid q) → PgAt h' r (pgOf { s with b := b, pg := s.pg.set (ixOf pid page) i, cp := cp } pid) := fun b cp _ hq =>
      hq.ext fun q => by have := pgOf_setPg hw (x := (i : Int)) (p := pid) (q := q) i1 i2 i3 i4; simp only [true_and] at this; exact this.symm
    have hoth : ∀ (b : List Int) (cp : Int) (q p : Int), q ≠ pid → pgOf { s with b := b, pg := s.pg.set (ixOf pid page) i, cp := cp } q p = pgOf s q p := fun b cp q p hq => by
      have := pgOf_setPg hw (x := (i : Int)) (p := q) (q := p) i1 i2 i3 i4
      rw [if_neg (by rintro ⟨rfl, _⟩; exact hq rfl)] at this
      exact this
    have hgi := refsOf_get (pg := s.pg) (f := i) (by omega)
    rw [hi0] at hgi
    refine iteP_eqc (fun hc1 => ?_) fun hc1 => ?_
    · rw [if_pos hc1] at hok
      refine ⟨_, hv.c0, c_mem_Zero hv.mem i (by omega) (by omega) fun h1 m1 st1 z1 => ?_⟩
      rw [show ((i : Nat) : Int).toNat * 32 = i * 32 by omega] at m1
      generalize over s.b (i * 32) (List.replicate 32 0) = B at *
      refine ⟨_, rfl, by omega, by omega, ?_⟩
      have hv1 := hv.setMem m1 st1
      have hgi' : (refsOf s.pg)[((i : Nat) : Int).toNat]? = some 0 := by simpa using hgi
      refine ⟨_, hv1.ref hgi', by omega, by omega, ⟨_, hv1.ref hgi'⟩, by rw [Addr.add_mk]; exact hv1.fz _, letH_iff.2 ?_⟩
      rw [wrap64 (by omega) (by omega)]
      have hv2 := hv1.setRef (i := (i : Int)) (x := 0 + 1) (by omega)
      have e : refsOf (s.pg.set (ixOf pid page) i) = (refsOf s.pg).set ((i : Nat) : Int).toNat (0 + 1) := by
        rw [refsOf_inc hat (by omega) (by omega), hi0]
      rw [← e] at hv2
      have st2 : Step h1 (setH h1 ((⟨v, 1, none⟩ : Addr).add (((i : Nat) : Int).toNat * 1)) (.int .i64 (0 + 1))) [v] [v] := by rw [Addr.add_mk]; exact Step.setH (by simp)
      have z2 : (setH h1 ((⟨v, 1, none⟩ : Addr).add (((i : Nat) : Int).toNat * 1)) (.int .i64 (0 + 1))).size = h1.size := setH_size _ _ _
      refine (hv2.pages pid r hr).set (by omega) fun h3 p3 st3 z3 => hok _ rfl h3 ?_ (hwf _ _) (((st1.in1 foot_f).trans (st2.in1 foot_v)).trans (st3.in1 (foot_r hr))) (by rw [z3, z2, z1])
      have q1 : ∀ q p, pgOf { s with b := B, cp := s.cp } q p = pgOf s q p := fun q p => pgOf_congr rfl q p
      refine hv2.setSpace (s' := { s with b := B, pg := s.pg.set (ixOf pid page) i, cp := s.cp }) hr (hpg B (s.cp) (p3.ext fun q => ?_)) st3 (fun q p hq => ?_) (fun q => ?_) rfl rfl rfl
      · show (if q = page then (i : Int) else pgOf _ pid q) = _
        rw [q1 pid q]
      · rw [q1 q p]; exact hoth B (s.cp) q p hq
      · exact hasOf_congr rfl q
    · rw [if_neg hc1] at hok
      refine ⟨_, hv.c0, c_mem_Copy hv.mem i c (by omega) (by omega) (by omega) (by omega) fun h1 m1 st1 z1 => ?_⟩
      rw [show ((i : Nat) : Int).toNat * 32 = i * 32 by omega] at m1
      generalize over s.b (i * 32) ((s.b.drop (c.toNat * 32)).take 32) = B at *
      refine ⟨_, rfl, by omega, by omega, ?_⟩
      have hv1 := hv.setMem m1 st1
      have hgc := refsOf_get (pg := s.pg) (f := c.toNat) (by omega)
      rw [show ((c.toNat : Nat) : Int) = c by omega] at hgc
      refine ⟨_, hv1.ref hgc, by omega, by omega, ⟨_, hv1.ref hgc⟩, by rw [Addr.add_mk]; exact hv1.fz _, letH_iff.2 ?_⟩
      have hcl := hw.cnt_le c
      rw [wrap64 (by omega) (by omega)]
      have hv2 := hv1.setRef (i := c) (x := cnt c s.pg - 1) (by omega)
      have st2 : Step h1 (setH h1 ((⟨v, 1, none⟩ : Addr).add (c.toNat * 1)) (.int .i64 (cnt c s.pg - 1))) [v] [v] := by rw [Addr.add_mk]; exact Step.setH (by simp)
      have z2 : (setH h1 ((⟨v, 1, none⟩ : Addr).add (c.toNat * 1)) (.int .i64 (cnt c s.pg - 1))).size = h1.size := setH_size _ _ _
      generalize setH h1 ((⟨v, 1, none⟩ : Addr).add (c.toNat * 1)) (.int .i64 (cnt c s.pg - 1)) = h2 at *
      refine ⟨_, hv2.c66, ⟨_, hv2.c66⟩, hv2.fz _, letH_iff.2 ?_⟩
      have hv3 := hv2.setCp (x := IntKind.wrap .i64 (s.cp + 1))
      have st3 : Step h2 (setH h2 ⟨v, 66, none⟩ (.int .i64 (IntKind.wrap .i64 (s.cp + 1)))) [v] [v] := Step.setH (by simp)
      have z3 : (setH h2 ⟨v, 66, none⟩ (.int .i64 (IntKind.wrap .i64 (s.cp + 1)))).size = h2.size := setH_size _ _ _
      show _ ∧ _
      refine ⟨by omega, by omega, ?_⟩
      have hic : c ≠ i := by
        rintro rfl
        have := cnt_pos hat
        omega
      have hgi' : ((refsOf s.pg).set c.toNat (cnt c s.pg - 1))[((i : Nat) : Int).toNat]? = some 0 := by
        rw [List.getElem?_set, if_neg (by omega)]; simpa using hgi
      generalize setH h2 ⟨v, 66, none⟩ (.int .i64 (IntKind.wrap .i64 (s.cp + 1))) = h3 at *
      refine ⟨_, hv3.ref hgi', by omega, by omega, ⟨_, hv3.ref hgi'⟩, by rw [Addr.add_mk]; exact hv3.fz _, letH_iff.2 ?_⟩
      rw [wrap64 (x := 0 + 1) (by omega) (by omega)]
      have hv4 := hv3.setRef (i := (i : Int)) (x := 0 + 1) (by omega)
      have e : refsOf (s.pg.set (ixOf pid page) i) = ((refsOf s.pg).set c.toNat (cnt c s.pg - 1)).set ((i : Nat) : Int).toNat (0 + 1) := by
        rw [refsOf_move hat (by omega) (by omega) (Ne.symm hic), hi0]
      rw [← e] at hv4
      have st4 : Step h3 (setH h3 ((⟨v, 1, none⟩ : Addr).add (((i : Nat) : Int).toNat * 1)) (.int .i64 (0 + 1))) [v] [v] := by rw [Addr.add_mk]; exact Step.setH (by simp)
      have z4 : (setH h3 ((⟨v, 1, none⟩ : Addr).add (((i : Nat) : Int).toNat * 1)) (.int .i64 (0 + 1))).size = h3.size := setH_size _ _ _
      refine (hv4.pages pid r hr).set (by omega) fun h5 p5 st5 z5 => hok _ rfl h5 ?_ (hwf _ _) ((((((st1.in1 foot_f).trans (st2.in1 foot_v)).trans (st3.in1 foot_v)).trans (st4.in1 foot_v))).trans (st5.in1 (foot_r hr))) (by rw [z5, z4, z3, z2, z1])
      have q1 : ∀ q p, pgOf { s with b := B, cp := IntKind.wrap .i64 (s.cp + 1) } q p = pgOf s q p := fun q p => pgOf_congr rfl q p
      refine hv4.setSpace (s' := { s with b := B, pg := s.pg.set (ixOf pid page) i, cp := IntKind.wrap .i64 (s.cp + 1) }) hr (hpg B (IntKind.wrap .i64 (s.cp + 1)) (p5.ext fun q => ?_)) st5 (fun q p hq => ?_) (fun q => ?_) rfl rfl rfl
      · show (if q = page then (i : Int) else pgOf _ pid q) = _
        rw [q1 pid q]
      · rw [q1 q p]; exact hoth B (IntKind.wrap .i64 (s.cp + 1)) q p hq
      · exact hasOf_congr rfl q
end
end Go.Proofs.Ytmdhfmljgjnggaa
