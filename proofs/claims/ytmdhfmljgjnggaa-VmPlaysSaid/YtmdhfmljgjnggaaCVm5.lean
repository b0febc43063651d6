/- What Fork of package vm does. No condition. -/
import Derived.Test.YtmdhfmljgjnggaaCVm4
namespace Go.Proofs.Ytmdhfmljgjnggaa
attribute [local irreducible] semWP

def rowOf (s : VmS) (pid : Int) : List Int := (s.pg.drop (pid.toNat * 16)).take 16
def forkS (s : VmS) (a b : Int) : Int × VmS :=
  if hasOf s a = false then (5, s) else if freshE s b ≠ 0 then (freshE s b, s) else (0, { s with has := s.has.set b.toNat true, pg := over s.pg (b.toNat * 16) (rowOf s a) })

theorem rowOf_length {s : VmS} (hw : Wf s) {p : Int} (h1 : 0 ≤ p) (h2 : p < 6) : (rowOf s p).length = 16 := by
  unfold rowOf; rw [List.length_take, List.length_drop, hw.lp]; omega
theorem rowOf_get {s : VmS} (hw : Wf s) {p : Int} (h1 : 0 ≤ p) (h2 : p < 6) {i : Nat} (hi : i < 16) : (rowOf s p)[i]? = some (pgOf s p i) := by
  unfold rowOf
  rw [List.getElem?_take, if_pos hi, List.getElem?_drop]
  have := hw.at h1 h2 (page := (i : Int)) (by omega) (by omega)
  rw [← this]
  unfold ixOf
  congr 1
theorem rowOf_eq {s : VmS} (hw : Wf s) {p : Int} (h1 : 0 ≤ p) (h2 : p < 6) : rowOf s p = (List.range 16).map fun (i : Nat) => pgOf s p i := by
  apply List.ext_getElem?
  intro i
  by_cases hi : i < 16
  · rw [rowOf_get hw h1 h2 hi]; simp [hi]
  · rw [List.getElem?_eq_none (by rw [rowOf_length hw h1 h2]; omega), List.getElem?_eq_none (by simp; omega)]
theorem rowCnt {f : Int} (hf : f ≠ -2) : ∀ {l : List (Int × Int)} {g : Int → Int}, (keysOf l).Nodup → (∀ page, lkp page l = if g page = -2 then none else some (g page)) → (∀ page, g page ≠ -2 → 0 ≤ page ∧ page < 16) →
    cnt f (l.map (·.2)) = cnt f ((List.range 16).map fun (i : Nat) => g i) := by
  intro l
  induction l with
  | nil =>
    intro g _ h _
    have e : (List.range 16).map (fun (i : Nat) => g i) = List.replicate 16 (-2) := by
      apply List.ext_getElem?
      intro i
      by_cases hi : i < 16
      · have := h i
        simp only [lkp] at this
        have hg : g i = -2 := by
          by_cases hx : g i = -2
          · exact hx
          · rw [if_neg hx] at this; cases this
        rw [List.getElem?_map, List.getElem?_replicate, if_pos hi, List.getElem?_range hi]
        simp [hg]
      · rw [List.getElem?_eq_none (by simp; omega), List.getElem?_eq_none (by simp; omega)]
    rw [e, cnt_replicate (Ne.symm hf)]; rfl
  | cons x l ih =>
    intro g hn h hr
    obtain ⟨p, x⟩ := x
    simp only [keysOf, List.map_cons, List.nodup_cons] at hn
    have hp := h p
    simp only [lkp, if_true] at hp
    have hg2 : g p ≠ -2 := by intro hx; rw [if_pos hx] at hp; cases hp
    rw [if_neg hg2] at hp
    have hgx : x = g p := by injection hp
    obtain ⟨r1, r2⟩ := hr p hg2
    have h3 := ih (g := fun q => if q = p then -2 else g q) hn.2 (fun page => by
      have := h page
      simp only [lkp] at this
      by_cases hq : page = p
      · subst hq
        simp only [if_true]
        exact lkp_none.2 hn.1
      · rw [if_neg hq] at this
        simp only [if_neg hq]
        exact this) (fun page hx => by
        by_cases hq : page = p
        · simp [hq] at hx
        · simp only [if_neg hq] at hx; exact hr page hx)
    have e : (List.range 16).map (fun (i : Nat) => if (i : Int) = p then -2 else g i) = ((List.range 16).map fun (i : Nat) => g i).set p.toNat (-2) := by
      apply List.ext_getElem?
      intro i
      rw [List.getElem?_set]
      by_cases hi : i < 16
      · by_cases hq : p.toNat = i
        · rw [if_pos hq]; simp [show ((i : Nat) : Int) = p by omega, show p.toNat < 16 by omega, hi]
        · rw [if_neg hq]; simp [show ¬ ((i : Nat) : Int) = p by omega, hi]
      · rw [List.getElem?_eq_none (by simp; omega), if_neg (by omega), List.getElem?_eq_none (by simp; omega)]
    have hat : ((List.range 16).map fun (i : Nat) => g i)[p.toNat]? = some (g p) := by
      have : ((p.toNat : Nat) : Int) = p := by omega
      simp [this, show p.toNat < 16 by omega]
    simp only [List.map_cons, cnt, h3, e]
    rw [cnt_set hat, if_neg (Ne.symm hf), hgx]
    omega
theorem pgOf_fork {s : VmS} (hw : Wf s) {a b q page : Int} (a1 : 0 ≤ a) (a2 : a < 6) (b1 : 0 ≤ b) (b2 : b < 6) (has : List Bool) :
    pgOf { s with has := has, pg := over s.pg (b.toNat * 16) (rowOf s a) } q page = if q = b then pgOf s a page else pgOf s q page := by
  by_cases he : q = b
  · subst he
    rw [if_pos rfl]
    by_cases hr : 0 ≤ page ∧ page < 16
    · unfold pgOf
      rw [if_pos ⟨b1, b2, hr⟩, if_pos ⟨a1, a2, hr⟩]
      simp only
      rw [over_get (by rw [rowOf_length hw a1 a2, hw.lp]; omega), rowOf_length hw a1 a2]
      have := rowOf_get hw a1 a2 (i := page.toNat) (by omega)
      rw [show ((page.toNat : Nat) : Int) = page by omega] at this
      unfold pgOf at this
      rw [if_pos ⟨a1, a2, hr⟩] at this
      unfold ixOf at this ⊢
      rw [if_pos (by omega), show q.toNat * 16 + page.toNat - q.toNat * 16 = page.toNat by omega, this]
      rfl
    · unfold pgOf
      rw [if_neg (by omega), if_neg (by omega)]
  · rw [if_neg he]
    unfold pgOf
    by_cases hq : 0 ≤ q ∧ q < 6 ∧ 0 ≤ page ∧ page < 16
    · simp only [if_pos hq]
      rw [over_get (by rw [rowOf_length hw a1 a2, hw.lp]; omega), rowOf_length hw a1 a2]
      unfold ixOf
      rw [if_neg (by omega)]
    · simp only [if_neg hq]
theorem cnt_fork {s : VmS} (hw : Wf s) {a b f : Int} (a1 : 0 ≤ a) (a2 : a < 6) (b1 : 0 ≤ b) (b2 : b < 6) (hb : hasOf s b = false) (hf : f ≠ -2) :
    cnt f (over s.pg (b.toNat * 16) (rowOf s a)) = cnt f s.pg + cnt f (rowOf s a) := by
  rw [cnt_over (by rw [rowOf_length hw a1 a2, hw.lp]; omega), rowOf_length hw a1 a2]
  have e : (s.pg.drop (b.toNat * 16)).take 16 = List.replicate 16 (-2) := by
    show rowOf s b = _
    rw [rowOf_eq hw b1 b2]
    apply List.ext_getElem?
    intro i
    by_cases hi : i < 16
    · rw [List.getElem?_map, List.getElem?_replicate, if_pos hi, List.getElem?_range hi]
      simp [hw.off b i hb]
    · rw [List.getElem?_eq_none (by simp; omega), List.getElem?_eq_none (by simp; omega)]
  rw [e, cnt_replicate (Ne.symm hf)]; omega
theorem Wf.fork {s : VmS} (hw : Wf s) {a b : Int} (ha : hasOf s a = true) (b1 : 0 ≤ b) (b2 : b < 6) : Wf { s with has := s.has.set b.toNat true, pg := over s.pg (b.toNat * 16) (rowOf s a) } := by
  obtain ⟨a1, a2⟩ := hasOf_in ha
  refine ⟨by simp [hw.lh], by show (over _ _ _).length = 96; rw [over_length, hw.lp], fun x hx => ?_, fun q page hq => ?_, hw.le⟩
  · obtain ⟨i, hi⟩ := List.getElem?_of_mem hx
    have hi' : (over s.pg (b.toNat * 16) (rowOf s a))[i]? = some x := hi
    rw [over_get (by rw [rowOf_length hw a1 a2, hw.lp]; omega)] at hi'
    split at hi'
    · have h1 := List.mem_of_getElem? hi'
      exact hw.pgs x (List.mem_of_mem_drop (List.mem_of_mem_take h1))
    · exact hw.pgs x (List.mem_of_getElem? hi')
  · have hs := hasOf_set (q := q) (x := true) hw.lh b1 b2
    rw [hasOf_congr (s' := { s with has := s.has.set b.toNat true }) (by rfl) q, hs] at hq
    rw [pgOf_fork hw a1 a2 b1 b2]
    by_cases hqb : q = b
    · rw [if_pos hqb] at hq; cases hq
    · rw [if_neg hqb] at hq ⊢; exact hw.off q page hq

/-- How many entries are still to come. -/
def itLeft (h : Hp) (i r : Nat) : Nat := match h[i]?, h[r]? with
  | some (.mapIter _ _ seen _), some (.map es _) => (es.toList.filter fun e => !seen.contains e.born).length
  | _, _ => 0
theorem IterAt.left {k : IntKind} {h : Hp} {i r : Nat} {l left : List (Int × Value)} (hi : IterAt k h i r l left) : itLeft h i r = left.length := by
  obtain ⟨es, clk, seen, h1, h2, _, _, _, h3⟩ := hi
  have := congrArg List.length h3
  simp only [List.length_map] at this
  unfold itLeft
  rw [h1, h2]
  exact this
def ival : Value → Int
  | .int _ n => n
  | _ => 0
def refsLess (pg lv : List Int) : List Int := (List.range 64).map fun (f : Nat) => cnt (f : Int) pg - cnt (f : Int) lv
theorem refsLess_get {pg lv : List Int} {f : Nat} (h : f < 64) : (refsLess pg lv)[f]? = some (cnt f pg - cnt f lv) := by simp [refsLess, h]
theorem refsLess_nil {pg : List Int} : refsLess pg [] = refsOf pg := by simp [refsLess, refsOf, cnt]
theorem refsLess_length {pg lv : List Int} : (refsLess pg lv).length = 64 := by simp [refsLess]
theorem refsLess_perm {pg lv lv' : List Int} (h : ∀ f : Nat, cnt f lv = cnt f lv') : refsLess pg lv = refsLess pg lv' := by
  unfold refsLess
  apply List.map_congr_left
  intro f _
  rw [h f]
theorem refsLess_step {pg lv : List Int} {x : Int} (h1 : 0 ≤ x) (h2 : x < 64) : (refsLess pg (x :: lv)).set x.toNat (cnt x pg - cnt x lv) = refsLess pg lv := by
  apply List.ext_getElem?
  intro f
  rw [List.getElem?_set, refsLess_length]
  by_cases hf : f < 64
  · rw [refsLess_get hf, refsLess_get hf]
    by_cases he : x.toNat = f
    · rw [if_pos he, if_pos (by omega), show x = (f : Int) by omega]
    · rw [if_neg he]; simp only [cnt]; rw [if_neg (show ¬ x = (f : Int) by omega)]; simp
  · rw [if_neg (by omega), List.getElem?_eq_none (by rw [refsLess_length]; omega), List.getElem?_eq_none (by rw [refsLess_length]; omega)]
theorem refsLess_skip {pg lv : List Int} {x : Int} (h1 : x < 0) : refsLess pg (x :: lv) = refsLess pg lv := by
  apply refsLess_perm
  intro f
  simp only [cnt]
  rw [if_neg (by omega)]; simp
section
variable {h : Hp} {v : Nat} {s : VmS} {K : Value → Hp → Prop} {F : List Nat}
theorem c_maps_Clone {r : Nat} {l : List (Int × Value)} (ha : MapAt .i64 h r l) (hK : ∀ h', MapAt .i64 h' h.size l → Ext h h' → h'.size = h.size + 1 → K (.map (some h.size)) h') : CallsH Try.prog f_maps_Clone_vm_space_int_int #[.map (some r)] h K := by
  refine q_maps_Clone_vm_space_int_int_calls r h K ?_
  unfold q_maps_Clone_vm_space_int_int
  refine semWP_mapsClone (fun args h K hh => ?_) ha fun h' h1 h2 h3 => ⟨_, rfl, _, rfl, hK h' h1 h2 h3⟩
  have e : semWP Try.prog (callFunc f_maps_clone args) h K = semWP Try.prog (Extern.MapsClone.clone args >>= fun v => pure (Next.value v)) h K := by kernel_rfl
  rw [e, semWP_bind]
  exact semWP_mono _ _ _ _ (fun a h hx => by rw [semWP_ret]; exact hx) hh
theorem c_vm_Fork (hv : VmRep h v s F) (a b : Int) (hK : ∀ h' F', VmRep h' v (forkS s a b).2 F' → Step h h' F F' → K (.int .i64 (forkS s a b).1) h') :
    CallsH Try.prog f_vm_Vm_Fork #[.pointer (some ⟨v, 0, none⟩), .int .i64 a, .int .i64 b] h K := by
  have hv0 := hv
  obtain ⟨m, f, sb, sl, rfl, hv, hw⟩ := hv
  refine q_vm_Vm_Fork_calls v a b h K ?_
  unfold q_vm_Vm_Fork
  unfold forkS at hK
  refine c_vm_of hv a (fun hh => ⟨_, _, rfl, iteP_ne (by decide) ?_⟩) fun r hh hr => ⟨_, _, rfl, iteP_nne rfl ?_⟩
  · rw [if_pos hh] at hK; exact hK h _ hv0 (Step.refl _ _)
  rw [if_neg (by simp [hh])] at hK
  refine c_vm_fresh hv b ⟨_, rfl, iteP_nec (fun he => ?_) fun he => ?_⟩
  · rw [if_pos he] at hK; exact hK h _ hv0 (Step.refl _ _)
  rw [if_neg (by simp [he])] at hK
  obtain ⟨b1, b2, hb⟩ := freshE_ok he
  obtain ⟨a1, a2⟩ := hasOf_in hh
  have hab : a ≠ b := by rintro rfl; rw [hh] at hb; cases hb
  have hwf := hw.fork hh b1 b2 (s := s)
  have hcnt := fun f hf => cnt_fork hw (f := f) a1 a2 b1 b2 hb hf
  have hpgf := fun q page => pgOf_fork hw (q := q) (page := page) a1 a2 b1 b2 (s.has.set b.toNat true)
  obtain ⟨l, hl, hlk⟩ := hv.pages a r hr
  refine ⟨_, hv.c65, c_maps_Clone hl fun h1 m1 st1 z1 => ⟨_, rfl, ?_⟩⟩
  have hv1 := hv.congr (h' := h1) fun r' hr' => st1.frame r' (hv.lt r' hr') (by simp)
  refine ⟨⟨_, hv1.c65, rfl⟩, ?_⟩
  refine semWP_mapUpdate (kt := T_int) (et := T_N_vm_space) (by kernel_rfl) (by kernel_rfl) hv1.sps fun h2 m2 st2 z2 => ?_
  have hsb : sb < h.size := hv.lt sb foot_sb
  have hv2 : VmAt h2 v m f sb (sl ++ [(b, h.size)]) (refsOf s.pg) { s with has := s.has.set b.toNat true, pg := over s.pg (b.toNat * 16) (rowOf s a) } := by
    refine hv.add (Nat.le_refl _) hb (fun r' hr' hn => ?_) m2 ?_ (fun q page hq => by rw [hpgf, if_neg hq]) (fun q => ?_) rfl rfl rfl
    · rw [st2.frame r' (by have := hv.lt r' hr'; omega) (by simpa using hn), st1.frame r' (hv.lt r' hr') (by simp)]
    · refine ⟨l, m1.congr (st2.frame _ (by omega) (by simp; omega)), fun page => ?_⟩
      rw [hpgf, if_pos rfl]; exact hlk page
    · rw [hasOf_congr (s' := { s with has := s.has.set b.toNat true }) (by rfl) q]; exact hasOf_set hw.lh b1 b2
  generalize hs' : ({ s with has := s.has.set b.toNat true, pg := over s.pg (b.toNat * 16) (rowOf s a) } : VmS) = s' at *
  have hpg' : s'.pg = over s.pg (b.toNat * 16) (rowOf s a) := by rw [← hs']
  have hr2 : lkp a (sl ++ [(b, h.size)]) = some r := by
    rw [← upd_new (hv.hasF hb), lkp_upd, if_neg hab]; exact hr
  have hl2 : MapAt .i64 h2 r (l.map fun p => (p.1, .int .i64 p.2)) := by
    have h7 := hv.vm_ne.2.2.2.2.2.2 r (lkp_snd hr)
    have hrl := hv.lt r (foot_r hr)
    exact hl.congr (by rw [st2.frame r (by omega) (by simpa using h7.2.2.2), st1.frame r hrl (by simp)])
  have hrow : ∀ f : Int, f ≠ -2 → cnt f (l.map (·.2)) = cnt f (rowOf s a) := fun f hf => by
    rw [rowOf_eq hw a1 a2]
    refine rowCnt hf ?_ hlk fun page hp => (pgOf_in hp).2.2
    have := hl.nodup
    have e : keysOf (l.map fun p => (p.1, Value.int .i64 p.2)) = keysOf l := keysOf_map (Value.int .i64)
    rwa [e] at this
  have hvals : ∀ q ∈ l.map (fun p => ((p.1, Value.int .i64 p.2) : Int × Value)), ∃ x, q.2 = .int .i64 x ∧ -1 ≤ x ∧ x < 64 := by
    intro q hq
    obtain ⟨⟨p, x⟩, hm, rfl⟩ := List.mem_map.1 hq
    have hn : (keysOf l).Nodup := by
      have := hl.nodup
      have e : keysOf (l.map fun p => (p.1, Value.int .i64 p.2)) = keysOf l := keysOf_map (Value.int .i64)
      rwa [e] at this
    have h3 := mem_lkp hn hm
    rw [hlk] at h3
    split at h3
    · cases h3
    · rename_i h4
      have h5 := hw.pg_le a p
      have h6 := hw.le
      injection h3 with h3
      subst h3
      exact ⟨_, rfl, by omega, by omega⟩
  have hrf : refsOf s.pg = refsLess s'.pg ((l.map fun p => ((p.1, Value.int .i64 p.2) : Int × Value)).map fun q => ival q.2) := by
    unfold refsOf refsLess
    apply List.map_congr_left
    intro f _
    have e : (l.map fun p => ((p.1, Value.int .i64 p.2) : Int × Value)).map (fun q => ival q.2) = l.map (·.2) := by
      rw [List.map_map]; rfl
    rw [e, hpg', hcnt f (by omega), hrow f (by omega)]; omega
  have hlecnt : ∀ f : Nat, cnt f ((l.map fun p => ((p.1, Value.int .i64 p.2) : Int × Value)).map fun q => ival q.2) ≤ cnt f s'.pg := by
    intro f
    have e : (l.map fun p => ((p.1, Value.int .i64 p.2) : Int × Value)).map (fun q => ival q.2) = l.map (·.2) := by
      rw [List.map_map]; rfl
    rw [e, hpg', hcnt f (by omega), hrow f (by omega)]
    have := cnt_nonneg (f := (f : Int)) (l := s.pg)
    omega
  rw [hrf] at hv2
  generalize hL : (l.map fun p => ((p.1, Value.int .i64 p.2) : Int × Value)) = L at *
  refine semWP_range (kt := T_int) (et := T_int) (by kernel_rfl) hl2 fun h3 it3 st3 z3 => ⟨_, rfl, ?_⟩
  generalize hi : h2.size = i at *
  have hi0 : h.size < i := by omega
  have hfoot : ∀ r' ∈ foot v m f sb (sl ++ [(b, h.size)]), r' < i := fun r' hr' => by have := hv2.lt r' hr'; omega
  refine ⟨fun hc => ∃ left, IterAt .i64 hc i r L left ∧ (∀ q ∈ left, ∃ x, q.2 = .int .i64 x ∧ -1 ≤ x ∧ x < 64) ∧ (∀ f : Nat, cnt f (left.map fun q => ival q.2) ≤ cnt f s'.pg) ∧ VmAt hc v m f sb (sl ++ [(b, h.size)]) (refsLess s'.pg (left.map fun q => ival q.2)) s' ∧ Step h3 hc [v, i] [v, i], fun hc => itLeft hc i r, ⟨L, it3, hvals, hlecnt, hv2.congr fun r' hr' => st3.frame r' (by have := hfoot r' hr'; omega) (by simp), Step.refl _ _⟩, ?_⟩
  rintro hc ⟨left, it, hvl, hle, hvc, stc⟩
  have hri : r < i := hfoot r (foot_r hr2)
  refine semWP_next it (by omega) (fun h0 => ⟨_, _, rfl, ?_⟩) fun p left' h4 hperm it4 cur4 st4 z4 => ⟨_, _, rfl, ?_⟩
  · rw [iteP_false]
    subst h0
    simp only [List.map_nil, refsLess_nil] at hvc
    refine hK hc _ ⟨m, f, sb, _, rfl, hvc, hwf⟩ ⟨?_, fun r' h5 h6 => ?_, fun r' h5 => ?_⟩
    · have := stc.size; omega
    · rw [stc.frame r' (by omega) (by simp only [List.mem_cons, List.not_mem_nil, or_false, not_or]; exact ⟨fun e => h6 (e ▸ foot_v), by omega⟩), st3.frame r' (by omega) (by simp), st2.frame r' (by omega) (by simp only [List.mem_singleton]; exact fun e => h6 (e ▸ foot_sb)), st1.frame r' h5 (by simp)]
    · simp only [foot, List.map_append, List.mem_cons, List.mem_append, List.map_cons, List.map_nil] at h5 ⊢
      rcases h5 with h7 | h7 | h7 | h7 | h7 | h7 | h7
      · simp [h7]
      · simp [h7]
      · simp [h7]
      · simp [h7]
      · simp [h7]
      · right; omega
      · simp at h7
  · rw [iteP_true]
    obtain ⟨x, hx1, hx2, hx3⟩ := hvl p (hperm.mem_iff.2 (by simp))
    have hent := runs_entry (P := Try.prog) cur4
    rw [hx1] at hent
    have hv4 := hvc.congr (h' := h4) fun r' hr' => st4.frame r' (hvc.lt r' hr') (by simp only [List.mem_singleton]; have := hfoot r' hr'; omega)
    have hpc : ∀ f : Nat, cnt f (left.map fun q => ival q.2) = cnt f (x :: left'.map fun q => ival q.2) := fun f => by
      have := cnt_perm (f := (f : Int)) (hperm.map fun q => ival q.2)
      rw [this]
      simp only [List.map_cons, hx1, ival]
    rw [refsLess_perm hpc] at hv4
    have hvl' : ∀ q ∈ left', ∃ x, q.2 = .int .i64 x ∧ -1 ≤ x ∧ x < 64 := fun q hq => hvl q (hperm.mem_iff.2 (by simp [hq]))
    have hle' : ∀ f : Nat, cnt f (left'.map fun q => ival q.2) ≤ cnt f s'.pg := fun f => by
      have h5 := hle f
      rw [hpc f] at h5
      simp only [cnt] at h5
      split at h5 <;> omega
    have hmu : itLeft h4 i r < itLeft hc i r := by
      rw [it.left, it4.left, hperm.length_eq]; simp
    refine ⟨_, _, hent, iteP_nec (fun hne => ?_) fun hne => ?_⟩
    · have hcl : 0 ≤ cnt x s'.pg ∧ cnt x s'.pg ≤ 96 := hwf.cnt_le x
      have hln := hle x.toNat
      rw [hpc, show ((x.toNat : Nat) : Int) = x by omega] at hln
      have hl0 := cnt_nonneg (f := x) (l := x :: left'.map fun q => ival q.2)
      have hg := refsLess_get (pg := s'.pg) (lv := x :: left'.map fun q => ival q.2) (f := x.toNat) (by omega)
      rw [show ((x.toNat : Nat) : Int) = x by omega] at hg
      refine ⟨by omega, by omega, _, hv4.ref hg, by omega, by omega, ⟨_, hv4.ref hg⟩, by rw [Addr.add_mk]; exact hv4.fz _, letH_iff.2 ?_⟩
      rw [wrap64 (by omega) (by omega)]
      have e : cnt x s'.pg - cnt x (x :: left'.map fun q => ival q.2) + 1 = cnt x s'.pg - cnt x (left'.map fun q => ival q.2) := by
        simp only [cnt, if_true]; omega
      have hv5 := hv4.setRef (i := x) (x := cnt x s'.pg - cnt x (x :: left'.map fun q => ival q.2) + 1) (by omega)
      rw [e, refsLess_step (by omega) hx3, ← e] at hv5
      have st5 : Step h4 (setH h4 ((⟨v, 1, none⟩ : Addr).add (x.toNat * 1)) (.int .i64 (cnt x s'.pg - cnt x (x :: left'.map fun q => ival q.2) + 1))) [v, i] [v, i] := by rw [Addr.add_mk]; exact Step.setH (by simp)
      have hvi : v ≠ i := by have := hfoot v foot_v; omega
      have hvr : v ≠ r := fun hx => (hv2.vm_ne.2.2.2.2.2.2 r (lkp_snd hr2)).1 hx.symm
      have o5 : ∀ r', r' ≠ v → (setH h4 ((⟨v, 1, none⟩ : Addr).add (x.toNat * 1)) (.int .i64 (cnt x s'.pg - cnt x (x :: left'.map fun q => ival q.2) + 1)))[r']? = h4[r']? := fun r' hr' => by rw [Addr.add_mk]; exact setH_other hr'
      generalize setH h4 ((⟨v, 1, none⟩ : Addr).add (x.toNat * 1)) (.int .i64 (cnt x s'.pg - cnt x (x :: left'.map fun q => ival q.2) + 1)) = h5 at *
      have it5 := it4.congr (h' := h5) (o5 i (Ne.symm hvi)) (o5 r (Ne.symm hvr))
      refine ⟨⟨left', it5, hvl', hle', hv5, stc.trans ((st4.in1 (by simp)).trans st5)⟩, ?_⟩
      show itLeft h5 i r < itLeft hc i r
      rw [it.left, it5.left, hperm.length_eq]; simp
    · rw [hne, refsLess_skip (by decide)] at hv4
      exact ⟨⟨left', it4, hvl', hle', hv4, stc.trans (st4.in1 (by simp))⟩, hmu⟩
end
end Go.Proofs.Ytmdhfmljgjnggaa
