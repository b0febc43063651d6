/- The texts CVm5 CKeys Qfk FkLaw FkWalk CNil CVm6 CVm7 CVm8, one behind the other. No condition. -/
import Derived.Test.YtmdhfmljgjnggaaG7
import Derived.Test.YtmdhfmljgjnggaaG6
import Derived.Shelf.SortM.SortNone
import Derived.Shelf.SortM.Plain
import Derived.Test.YtmdhfmljgjnggaaG4
/- What Fork of package vm does. No condition. -/
namespace Go.Proofs.Ytmdhfmljgjnggaa
attribute [local irreducible] semWP

def rowOf (s : VmS) (pid : Int) : List Int := (s.pg.drop (pid.toNat * 16)).take 16
def forkS (s : VmS) (a b : Int) : Int × VmS :=
  if hasOf s a = false then (5, s) else if freshE s b ≠ 0 then (freshE s b, s) else (0, { s with has := s.has.set b.toNat true, pg := over s.pg (b.toNat * 16) (rowOf s a) })

theorem rowOf_length {s : VmS} (hw : Wf s) {p : Int} (h1 : 0 ≤ p) (h2 : p < 6) : (rowOf s p).length = 16 := by
  unfold rowOf; rw [List.length_take, List.length_drop, hw.lp]; omega
theorem rowOf_get {s : VmS} (hw : Wf s) {p : Int} (h1 : 0 ≤ p) (h2 : p < 6) {i : Nat} (hi : i < 16) : (rowOf s p)[i]? = some (pgOf s p i) := by
  unfold rowOf
  rw [List.getElem?_take, if_pos hi, List.getElem?_drop]
  have := hw.at h1 h2 (page := (i : Int)) (by omega) (by omega)
  rw [← this]
  unfold ixOf
  congr 1
theorem rowOf_eq {s : VmS} (hw : Wf s) {p : Int} (h1 : 0 ≤ p) (h2 : p < 6) : rowOf s p = (List.range 16).map fun (i : Nat) => pgOf s p i := by
  apply List.ext_getElem?
  intro i
  by_cases hi : i < 16
  · rw [rowOf_get hw h1 h2 hi]; simp [hi]
  · rw [List.getElem?_eq_none (by rw [rowOf_length hw h1 h2]; omega), List.getElem?_eq_none (by simp; omega)]
theorem rowCnt {f : Int} (hf : f ≠ -2) : ∀ {l : List (Int × Int)} {g : Int → Int}, (keysOf l).Nodup → (∀ page, lkp page l = if g page = -2 then none else some (g page)) → (∀ page, g page ≠ -2 → 0 ≤ page ∧ page < 16) →
    cnt f (l.map (·.2)) = cnt f ((List.range 16).map fun (i : Nat) => g i) := by
  intro l
  induction l with
  | nil =>
    intro g _ h _
    have e : (List.range 16).map (fun (i : Nat) => g i) = List.replicate 16 (-2) := by
      apply List.ext_getElem?
      intro i
      by_cases hi : i < 16
      · have := h i
        simp only [lkp] at this
        have hg : g i = -2 := by
          by_cases hx : g i = -2
          · exact hx
          · rw [if_neg hx] at this; cases this
        rw [List.getElem?_map, List.getElem?_replicate, if_pos hi, List.getElem?_range hi]
        simp [hg]
      · rw [List.getElem?_eq_none (by simp; omega), List.getElem?_eq_none (by simp; omega)]
    rw [e, cnt_replicate (Ne.symm hf)]; rfl
  | cons x l ih =>
    intro g hn h hr
    obtain ⟨p, x⟩ := x
    simp only [keysOf, List.map_cons, List.nodup_cons] at hn
    have hp := h p
    simp only [lkp, if_true] at hp
    have hg2 : g p ≠ -2 := by intro hx; rw [if_pos hx] at hp; cases hp
    rw [if_neg hg2] at hp
    have hgx : x = g p := by injection hp
    obtain ⟨r1, r2⟩ := hr p hg2
    have h3 := ih (g := fun q => if q = p then -2 else g q) hn.2 (fun page => by
      have := h page
      simp only [lkp] at this
      by_cases hq : page = p
      · subst hq
        simp only [if_true]
        exact lkp_none.2 hn.1
      · rw [if_neg hq] at this
        simp only [if_neg hq]
        exact this) (fun page hx => by
        by_cases hq : page = p
        · simp [hq] at hx
        · simp only [if_neg hq] at hx; exact hr page hx)
    have e : (List.range 16).map (fun (i : Nat) => if (i : Int) = p then -2 else g i) = ((List.range 16).map fun (i : Nat) => g i).set p.toNat (-2) := by
      apply List.ext_getElem?
      intro i
      rw [List.getElem?_set]
      by_cases hi : i < 16
      · by_cases hq : p.toNat = i
        · rw [if_pos hq]; simp [show ((i : Nat) : Int) = p by omega, show p.toNat < 16 by omega, hi]
        · rw [if_neg hq]; simp [show ¬ ((i : Nat) : Int) = p by omega, hi]
      · rw [List.getElem?_eq_none (by simp; omega), if_neg (by omega), List.getElem?_eq_none (by simp; omega)]
    have hat : ((List.range 16).map fun (i : Nat) => g i)[p.toNat]? = some (g p) := by
      have : ((p.toNat : Nat) : Int) = p := by omega
      simp [this, show p.toNat < 16 by omega]
    simp only [List.map_cons, cnt, h3, e]
    rw [cnt_set hat, if_neg (Ne.symm hf), hgx]
    omega
theorem pgOf_fork {s : VmS} (hw : Wf s) {a b q page : Int} (a1 : 0 ≤ a) (a2 : a < 6) (b1 : 0 ≤ b) (b2 : b < 6) (has : List Bool) :
    pgOf { s with has := has, pg := over s.pg (b.toNat * 16) (rowOf s a) } q page = if q = b then pgOf s a page else pgOf s q page := by
  by_cases he : q = b
  · subst he
    rw [if_pos rfl]
    by_cases hr : 0 ≤ page ∧ page < 16
    · unfold pgOf
      rw [if_pos ⟨b1, b2, hr⟩, if_pos ⟨a1, a2, hr⟩]
      simp only
      rw [over_get (by rw [rowOf_length hw a1 a2, hw.lp]; omega), rowOf_length hw a1 a2]
      have := rowOf_get hw a1 a2 (i := page.toNat) (by omega)
      rw [show ((page.toNat : Nat) : Int) = page by omega] at this
      unfold pgOf at this
      rw [if_pos ⟨a1, a2, hr⟩] at this
      unfold ixOf at this ⊢
      rw [if_pos (by omega), show q.toNat * 16 + page.toNat - q.toNat * 16 = page.toNat by omega, this]
      rfl
    · unfold pgOf
      rw [if_neg (by omega), if_neg (by omega)]
  · rw [if_neg he]
    unfold pgOf
    by_cases hq : 0 ≤ q ∧ q < 6 ∧ 0 ≤ page ∧ page < 16
    · simp only [if_pos hq]
      rw [over_get (by rw [rowOf_length hw a1 a2, hw.lp]; omega), rowOf_length hw a1 a2]
      unfold ixOf
      rw [if_neg (by omega)]
    · simp only [if_neg hq]
theorem cnt_fork {s : VmS} (hw : Wf s) {a b f : Int} (a1 : 0 ≤ a) (a2 : a < 6) (b1 : 0 ≤ b) (b2 : b < 6) (hb : hasOf s b = false) (hf : f ≠ -2) :
    cnt f (over s.pg (b.toNat * 16) (rowOf s a)) = cnt f s.pg + cnt f (rowOf s a) := by
  rw [cnt_over (by rw [rowOf_length hw a1 a2, hw.lp]; omega), rowOf_length hw a1 a2]
  have e : (s.pg.drop (b.toNat * 16)).take 16 = List.replicate 16 (-2) := by
    show rowOf s b = _
    rw [rowOf_eq hw b1 b2]
    apply List.ext_getElem?
    intro i
    by_cases hi : i < 16
    · rw [List.getElem?_map, List.getElem?_replicate, if_pos hi, List.getElem?_range hi]
      simp [hw.off b i hb]
    · rw [List.getElem?_eq_none (by simp; omega), List.getElem?_eq_none (by simp; omega)]
  rw [e, cnt_replicate (Ne.symm hf)]; omega
theorem Wf.fork {s : VmS} (hw : Wf s) {a b : Int} (ha : hasOf s a = true) (b1 : 0 ≤ b) (b2 : b < 6) : Wf { s with has := s.has.set b.toNat true, pg := over s.pg (b.toNat * 16) (rowOf s a) } := by
  obtain ⟨a1, a2⟩ := hasOf_in ha
  refine ⟨by simp [hw.lh], by show (over _ _ _).length = 96; rw [over_length, hw.lp], fun x hx => ?_, fun q page hq => ?_, hw.le⟩
  · obtain ⟨i, hi⟩ := List.getElem?_of_mem hx
    have hi' : (over s.pg (b.toNat * 16) (rowOf s a))[i]? = some x := hi
    rw [over_get (by rw [rowOf_length hw a1 a2, hw.lp]; omega)] at hi'
    split at hi'
    · have h1 := List.mem_of_getElem? hi'
      exact hw.pgs x (List.mem_of_mem_drop (List.mem_of_mem_take h1))
    · exact hw.pgs x (List.mem_of_getElem? hi')
  · have hs := hasOf_set (q := q) (x := true) hw.lh b1 b2
    rw [hasOf_congr (s' := { s with has := s.has.set b.toNat true }) (by rfl) q, hs] at hq
    rw [pgOf_fork hw a1 a2 b1 b2]
    by_cases hqb : q = b
    · rw [if_pos hqb] at hq; cases hq
    · rw [if_neg hqb] at hq ⊢; exact hw.off q page hq

/-- How many entries are still to come. -/
def itLeft (h : Hp) (i r : Nat) : Nat := match h[i]?, h[r]? with
  | some (.mapIter _ _ seen _), some (.map es _) => (es.toList.filter fun e => !seen.contains e.born).length
  | _, _ => 0
theorem IterAt.left {k : IntKind} {h : Hp} {i r : Nat} {l left : List (Int × Value)} (hi : IterAt k h i r l left) : itLeft h i r = left.length := by
  obtain ⟨es, clk, seen, h1, h2, _, _, _, h3⟩ := hi
  have := congrArg List.length h3
  simp only [List.length_map] at this
  unfold itLeft
  rw [h1, h2]
  exact this
def ival : Value → Int
  | .int _ n => n
  | _ => 0
def refsLess (pg lv : List Int) : List Int := (List.range 64).map fun (f : Nat) => cnt (f : Int) pg - cnt (f : Int) lv
theorem refsLess_get {pg lv : List Int} {f : Nat} (h : f < 64) : (refsLess pg lv)[f]? = some (cnt f pg - cnt f lv) := by simp [refsLess, h]
theorem refsLess_nil {pg : List Int} : refsLess pg [] = refsOf pg := by simp [refsLess, refsOf, cnt]
theorem refsLess_length {pg lv : List Int} : (refsLess pg lv).length = 64 := by simp [refsLess]
theorem refsLess_perm {pg lv lv' : List Int} (h : ∀ f : Nat, cnt f lv = cnt f lv') : refsLess pg lv = refsLess pg lv' := by
  unfold refsLess
  apply List.map_congr_left
  intro f _
  rw [h f]
theorem refsLess_step {pg lv : List Int} {x : Int} (h1 : 0 ≤ x) (h2 : x < 64) : (refsLess pg (x :: lv)).set x.toNat (cnt x pg - cnt x lv) = refsLess pg lv := by
  apply List.ext_getElem?
  intro f
  rw [List.getElem?_set, refsLess_length]
  by_cases hf : f < 64
  · rw [refsLess_get hf, refsLess_get hf]
    by_cases he : x.toNat = f
    · rw [if_pos he, if_pos (by omega), show x = (f : Int) by omega]
    · rw [if_neg he]; simp only [cnt]; rw [if_neg (show ¬ x = (f : Int) by omega)]; simp
  · rw [if_neg (by omega), List.getElem?_eq_none (by rw [refsLess_length]; omega), List.getElem?_eq_none (by rw [refsLess_length]; omega)]
theorem refsLess_skip {pg lv : List Int} {x : Int} (h1 : x < 0) : refsLess pg (x :: lv) = refsLess pg lv := by
  apply refsLess_perm
  intro f
  simp only [cnt]
  rw [if_neg (by omega)]; simp
section
variable {h : Hp} {v : Nat} {s : VmS} {K : Value → Hp → Prop} {F : List Nat}
theorem c_maps_Clone {r : Nat} {l : List (Int × Value)} (ha : MapAt .i64 h r l) (hK : ∀ h', MapAt .i64 h' h.size l → Ext h h' → h'.size = h.size + 1 → K (.map (some h.size)) h') : CallsH Try.prog f_maps_Clone_vm_space_int_int #[.map (some r)] h K := by
  refine q_maps_Clone_vm_space_int_int_calls r h K ?_
  unfold q_maps_Clone_vm_space_int_int
  refine semWP_mapsClone (fun args h K hh => ?_) ha fun h' h1 h2 h3 => ⟨_, rfl, _, rfl, hK h' h1 h2 h3⟩
  have e : semWP Try.prog (callFunc f_maps_clone args) h K = semWP Try.prog (Extern.MapsClone.clone args >>= fun v => pure (Next.value v)) h K := by kernel_rfl
  rw [e, semWP_bind]
  exact semWP_mono _ _ _ _ (fun a h hx => by rw [semWP_ret]; exact hx) hh
theorem c_vm_Fork (hv : VmRep h v s F) (a b : Int) (hK : ∀ h' F', VmRep h' v (forkS s a b).2 F' → Step h h' F F' → K (.int .i64 (forkS s a b).1) h') :
    CallsH Try.prog f_vm_Vm_Fork #[.pointer (some ⟨v, 0, none⟩), .int .i64 a, .int .i64 b] h K := by
  have hv0 := hv
  obtain ⟨m, f, sb, sl, rfl, hv, hw⟩ := hv
  refine q_vm_Vm_Fork_calls v a b h K ?_
  unfold q_vm_Vm_Fork
  unfold forkS at hK
  refine c_vm_of hv a (fun hh => ⟨_, _, rfl, iteP_ne (by decide) ?_⟩) fun r hh hr => ⟨_, _, rfl, iteP_nne rfl ?_⟩
  · rw [if_pos hh] at hK; exact hK h _ hv0 (Step.refl _ _)
  rw [if_neg (by simp [hh])] at hK
  refine c_vm_fresh hv b ⟨_, rfl, iteP_nec (fun he => ?_) fun he => ?_⟩
  · rw [if_pos he] at hK; exact hK h _ hv0 (Step.refl _ _)
  rw [if_neg (by simp [he])] at hK
  obtain ⟨b1, b2, hb⟩ := freshE_ok he
  obtain ⟨a1, a2⟩ := hasOf_in hh
  have hab : a ≠ b := by rintro rfl; rw [hh] at hb; cases hb
  have hwf := hw.fork hh b1 b2 (s := s)
  have hcnt := fun f hf => cnt_fork hw (f := f) a1 a2 b1 b2 hb hf
  have hpgf := fun q page => pgOf_fork hw (q := q) (page := page) a1 a2 b1 b2 (s.has.set b.toNat true)
  obtain ⟨l, hl, hlk⟩ := hv.pages a r hr
  refine ⟨_, hv.c65, c_maps_Clone hl fun h1 m1 st1 z1 => ⟨_, rfl, ?_⟩⟩
  have hv1 := hv.congr (h' := h1) fun r' hr' => st1.frame r' (hv.lt r' hr') (by simp)
  refine ⟨⟨_, hv1.c65, rfl⟩, ?_⟩
  refine semWP_mapUpdate (kt := T_int) (et := T_N_vm_space) (by kernel_rfl) (by kernel_rfl) hv1.sps fun h2 m2 st2 z2 => ?_
  have hsb : sb < h.size := hv.lt sb foot_sb
  have hv2 : VmAt h2 v m f sb (sl ++ [(b, h.size)]) (refsOf s.pg) { s with has := s.has.set b.toNat true, pg := over s.pg (b.toNat * 16) (rowOf s a) } := by
    refine hv.add (Nat.le_refl _) hb (fun r' hr' hn => ?_) m2 ?_ (fun q page hq => by rw [hpgf, if_neg hq]) (fun q => ?_) rfl rfl rfl
    · rw [st2.frame r' (by have := hv.lt r' hr'; omega) (by simpa using hn), st1.frame r' (hv.lt r' hr') (by simp)]
    · refine ⟨l, m1.congr (st2.frame _ (by omega) (by simp; omega)), fun page => ?_⟩
      rw [hpgf, if_pos rfl]; exact hlk page
    · rw [hasOf_congr (s' := { s with has := s.has.set b.toNat true }) (by rfl) q]; exact hasOf_set hw.lh b1 b2
  generalize hs' : ({ s with has := s.has.set b.toNat true, pg := over s.pg (b.toNat * 16) (rowOf s a) } : VmS) = s' at *
  have hpg' : s'.pg = over s.pg (b.toNat * 16) (rowOf s a) := by rw [← hs']
  have hr2 : lkp a (sl ++ [(b, h.size)]) = some r := by
    rw [← upd_new (hv.hasF hb), lkp_upd, if_neg hab]; exact hr
  have hl2 : MapAt .i64 h2 r (l.map fun p => (p.1, .int .i64 p.2)) := by
    have h7 := hv.vm_ne.2.2.2.2.2.2 r (lkp_snd hr)
    have hrl := hv.lt r (foot_r hr)
    exact hl.congr (by rw [st2.frame r (by omega) (by simpa using h7.2.2.2), st1.frame r hrl (by simp)])
  have hrow : ∀ f : Int, f ≠ -2 → cnt f (l.map (·.2)) = cnt f (rowOf s a) := fun f hf => by
    rw [rowOf_eq hw a1 a2]
    refine rowCnt hf ?_ hlk fun page hp => (pgOf_in hp).2.2
    have := hl.nodup
    have e : keysOf (l.map fun p => (p.1, Value.int .i64 p.2)) = keysOf l := keysOf_map (Value.int .i64)
    rwa [e] at this
  have hvals : ∀ q ∈ l.map (fun p => ((p.1, Value.int .i64 p.2) : Int × Value)), ∃ x, q.2 = .int .i64 x ∧ -1 ≤ x ∧ x < 64 := by
    intro q hq
    obtain ⟨⟨p, x⟩, hm, rfl⟩ := List.mem_map.1 hq
    have hn : (keysOf l).Nodup := by
      have := hl.nodup
      have e : keysOf (l.map fun p => (p.1, Value.int .i64 p.2)) = keysOf l := keysOf_map (Value.int .i64)
      rwa [e] at this
    have h3 := mem_lkp hn hm
    rw [hlk] at h3
    split at h3
    · cases h3
    · rename_i h4
      have h5 := hw.pg_le a p
      have h6 := hw.le
      injection h3 with h3
      subst h3
      exact ⟨_, rfl, by omega, by omega⟩
  have hrf : refsOf s.pg = refsLess s'.pg ((l.map fun p => ((p.1, Value.int .i64 p.2) : Int × Value)).map fun q => ival q.2) := by
    unfold refsOf refsLess
    apply List.map_congr_left
    intro f _
    have e : (l.map fun p => ((p.1, Value.int .i64 p.2) : Int × Value)).map (fun q => ival q.2) = l.map (·.2) := by
      rw [List.map_map]; rfl
    rw [e, hpg', hcnt f (by omega), hrow f (by omega)]; omega
  have hlecnt : ∀ f : Nat, cnt f ((l.map fun p => ((p.1, Value.int .i64 p.2) : Int × Value)).map fun q => ival q.2) ≤ cnt f s'.pg := by
    intro f
    have e : (l.map fun p => ((p.1, Value.int .i64 p.2) : Int × Value)).map (fun q => ival q.2) = l.map (·.2) := by
      rw [List.map_map]; rfl
    rw [e, hpg', hcnt f (by omega), hrow f (by omega)]
    have := cnt_nonneg (f := (f : Int)) (l := s.pg)
    omega
  rw [hrf] at hv2
  generalize hL : (l.map fun p => ((p.1, Value.int .i64 p.2) : Int × Value)) = L at *
  refine semWP_range (kt := T_int) (et := T_int) (by kernel_rfl) hl2 fun h3 it3 st3 z3 => ⟨_, rfl, ?_⟩
  generalize hi : h2.size = i at *
  have hi0 : h.size < i := by omega
  have hfoot : ∀ r' ∈ foot v m f sb (sl ++ [(b, h.size)]), r' < i := fun r' hr' => by have := hv2.lt r' hr'; omega
  refine ⟨fun hc => ∃ left, IterAt .i64 hc i r L left ∧ (∀ q ∈ left, ∃ x, q.2 = .int .i64 x ∧ -1 ≤ x ∧ x < 64) ∧ (∀ f : Nat, cnt f (left.map fun q => ival q.2) ≤ cnt f s'.pg) ∧ VmAt hc v m f sb (sl ++ [(b, h.size)]) (refsLess s'.pg (left.map fun q => ival q.2)) s' ∧ Step h3 hc [v, i] [v, i], fun hc => itLeft hc i r, ⟨L, it3, hvals, hlecnt, hv2.congr fun r' hr' => st3.frame r' (by have := hfoot r' hr'; omega) (by simp), Step.refl _ _⟩, ?_⟩
  rintro hc ⟨left, it, hvl, hle, hvc, stc⟩
  have hri : r < i := hfoot r (foot_r hr2)
  refine semWP_next it (by omega) (fun h0 => ⟨_, _, rfl, ?_⟩) fun p left' h4 hperm it4 cur4 st4 z4 => ⟨_, _, rfl, ?_⟩
  · rw [iteP_false]
    subst h0
    simp only [List.map_nil, refsLess_nil] at hvc
    refine hK hc _ ⟨m, f, sb, _, rfl, hvc, hwf⟩ ⟨?_, fun r' h5 h6 => ?_, fun r' h5 => ?_⟩
    · have := stc.size; omega
    · rw [stc.frame r' (by omega) (by simp only [List.mem_cons, List.not_mem_nil, or_false, not_or]; exact ⟨fun e => h6 (e ▸ foot_v), by omega⟩), st3.frame r' (by omega) (by simp), st2.frame r' (by omega) (by simp only [List.mem_singleton]; exact fun e => h6 (e ▸ foot_sb)), st1.frame r' h5 (by simp)]
    · simp only [foot, List.map_append, List.mem_cons, List.mem_append, List.map_cons, List.map_nil] at h5 ⊢
      rcases h5 with h7 | h7 | h7 | h7 | h7 | h7 | h7
      · simp [h7]
      · simp [h7]
      · simp [h7]
      · simp [h7]
      · simp [h7]
      · right; omega
      · simp at h7
  · rw [iteP_true]
    obtain ⟨x, hx1, hx2, hx3⟩ := hvl p (hperm.mem_iff.2 (by simp))
    have hent := runs_entry (P := Try.prog) cur4
    rw [hx1] at hent
    have hv4 := hvc.congr (h' := h4) fun r' hr' => st4.frame r' (hvc.lt r' hr') (by simp only [List.mem_singleton]; have := hfoot r' hr'; omega)
    have hpc : ∀ f : Nat, cnt f (left.map fun q => ival q.2) = cnt f (x :: left'.map fun q => ival q.2) := fun f => by
      have := cnt_perm (f := (f : Int)) (hperm.map fun q => ival q.2)
      rw [this]
      simp only [List.map_cons, hx1, ival]
    rw [refsLess_perm hpc] at hv4
    have hvl' : ∀ q ∈ left', ∃ x, q.2 = .int .i64 x ∧ -1 ≤ x ∧ x < 64 := fun q hq => hvl q (hperm.mem_iff.2 (by simp [hq]))
    have hle' : ∀ f : Nat, cnt f (left'.map fun q => ival q.2) ≤ cnt f s'.pg := fun f => by
      have h5 := hle f
      rw [hpc f] at h5
      simp only [cnt] at h5
      split at h5 <;> omega
    have hmu : itLeft h4 i r < itLeft hc i r := by
      rw [it.left, it4.left, hperm.length_eq]; simp
    refine ⟨_, _, hent, iteP_nec (fun hne => ?_) fun hne => ?_⟩
    · have hcl : 0 ≤ cnt x s'.pg ∧ cnt x s'.pg ≤ 96 := hwf.cnt_le x
      have hln := hle x.toNat
      rw [hpc, show ((x.toNat : Nat) : Int) = x by omega] at hln
      have hl0 := cnt_nonneg (f := x) (l := x :: left'.map fun q => ival q.2)
      have hg := refsLess_get (pg := s'.pg) (lv := x :: left'.map fun q => ival q.2) (f := x.toNat) (by omega)
      rw [show ((x.toNat : Nat) : Int) = x by omega] at hg
      refine ⟨by omega, by omega, _, hv4.ref hg, by omega, by omega, ⟨_, hv4.ref hg⟩, by rw [Addr.add_mk]; exact hv4.fz _, letH_iff.2 ?_⟩
      rw [wrap64 (by omega) (by omega)]
      have e : cnt x s'.pg - cnt x (x :: left'.map fun q => ival q.2) + 1 = cnt x s'.pg - cnt x (left'.map fun q => ival q.2) := by
        simp only [cnt, if_true]; omega
      have hv5 := hv4.setRef (i := x) (x := cnt x s'.pg - cnt x (x :: left'.map fun q => ival q.2) + 1) (by omega)
      rw [e, refsLess_step (by omega) hx3, ← e] at hv5
      have st5 : Step h4 (setH h4 ((⟨v, 1, none⟩ : Addr).add (x.toNat * 1)) (.int .i64 (cnt x s'.pg - cnt x (x :: left'.map fun q => ival q.2) + 1))) [v, i] [v, i] := by rw [Addr.add_mk]; exact Step.setH (by simp)
      have hvi : v ≠ i := by have := hfoot v foot_v; omega
      have hvr : v ≠ r := fun hx => (hv2.vm_ne.2.2.2.2.2.2 r (lkp_snd hr2)).1 hx.symm
      have o5 : ∀ r', r' ≠ v → (setH h4 ((⟨v, 1, none⟩ : Addr).add (x.toNat * 1)) (.int .i64 (cnt x s'.pg - cnt x (x :: left'.map fun q => ival q.2) + 1)))[r']? = h4[r']? := fun r' hr' => by rw [Addr.add_mk]; exact setH_other hr'
      generalize setH h4 ((⟨v, 1, none⟩ : Addr).add (x.toNat * 1)) (.int .i64 (cnt x s'.pg - cnt x (x :: left'.map fun q => ival q.2) + 1)) = h5 at *
      have it5 := it4.congr (h' := h5) (o5 i (Ne.symm hvi)) (o5 r (Ne.symm hvr))
      refine ⟨⟨left', it5, hvl', hle', hv5, stc.trans ((st4.in1 (by simp)).trans st5)⟩, ?_⟩
      show itLeft h5 i r < itLeft hc i r
      rw [it.left, it5.left, hperm.length_eq]; simp
    · rw [hne, refsLess_skip (by decide)] at hv4
      exact ⟨⟨left', it4, hvl', hle', hv4, stc.trans (st4.in1 (by simp))⟩, hmu⟩
end
end Go.Proofs.Ytmdhfmljgjnggaa
/- slices.Sorted(maps.Keys(m)) at int keys: the keys, sorted, in new memory; nothing that was there changes. No condition. -/
namespace Go.Proofs.Ytmdhfmljgjnggaa
attribute [local irreducible] semWP
open Go.RowKit Go.Maps Go.Sort Go.Shelf
set_option linter.constructorNameAsVariable false

theorem insert_perm {H : Type} (x : Lit × DataW H) : ∀ l : List (Lit × DataW H), (DataW.insert x l).Perm (x :: l) := by
  intro l
  induction l with
  | nil => exact List.Perm.refl _
  | cons y r ih =>
    unfold DataW.insert
    split
    · exact List.Perm.refl _
    · exact (List.Perm.cons y ih).trans (List.Perm.swap x y r)
theorem foldr_insert_perm {H : Type} : ∀ l : List (Lit × DataW H), (l.foldr DataW.insert []).Perm l := by
  intro l
  induction l with
  | nil => exact List.Perm.refl _
  | cons x l ih => exact (insert_perm x _).trans (List.Perm.cons x ih)
def nilR : Value → Option (DataW Unit × List MemPlace) := fun _ => some (.nil, [])
theorem ownsMap_of {h : Hp} {r : Nat} {l : List (Int × Value)} (ha : MapAt .i64 h r l) (hwf : ∀ p ∈ l, (Lit.int .i64 p.1).wf = true) (hsz : l.length ≤ maxLen) {w : World} (hw : w.heap = h) :
    ∃ D0 : DataW Unit, w.ownsMap Try.prog T_int nilR r l.length D0 ∧ (intKeys D0).Perm (keysOf l) ∧ Maps.size D0 = l.length := by
  obtain ⟨es, clk, h1, h2, h3, h4⟩ := ha.is
  have hu : Try.prog.underlying T_int = some (.int .i64) := by kernel_rfl
  have hlen : es.size = l.length := by
    have := congrArg List.length h2
    simpa using this
  have hkv : ∀ x ∈ es.toList, ∃ n : Int, x.key = .int .i64 n ∧ (Lit.int .i64 n).wf = true := by
    intro x hx
    have : (x.key, x.val) ∈ l.map (fun p => ((.int .i64 p.1 : Value), p.2)) := by rw [← h2]; exact List.mem_map.2 ⟨x, hx, rfl⟩
    obtain ⟨p, hp, e⟩ := List.mem_map.1 this
    simp only [Prod.mk.injEq] at e
    exact ⟨p.1, e.1.symm, hwf p hp⟩
  have hkeys : es.toList.map (·.key) = (keysOf l).map (Value.int .i64) := by
    have := congrArg (List.map (·.1)) h2
    simpa [keysOf, List.map_map, Function.comp_def] using this
  have hrd : ∀ x ∈ es.toList, WideElems.rd Try.prog T_int nilR x = some (.int .i64 (ival x.key), .nil) := by
    intro x hx
    obtain ⟨n, e, hn⟩ := hkv x hx
    unfold WideElems.rd
    rw [e, keyOf_int_mk hu hn]
    rfl
  have hmap : (es.toList.map (WideElems.rg Try.prog T_int nilR)).map (fun p => Go.intOf p.1) = keysOf l := by
    rw [List.map_map]
    have e : es.toList.map ((fun p : Lit × DataW Unit => Go.intOf p.1) ∘ WideElems.rg Try.prog T_int nilR) = es.toList.map fun x => ival x.key := by
      apply List.map_congr_left
      intro x hx
      simp only [Function.comp_apply, WideElems.rg, hrd x hx, Option.getD_some]
      rfl
    rw [e]
    have := congrArg (List.map ival) hkeys
    rw [List.map_map, List.map_map] at this
    have e2 : (keysOf l).map (ival ∘ Value.int .i64) = keysOf l := by
      conv => rhs; rw [← List.map_id (keysOf l)]
      rfl
    rw [e2] at this
    exact this
  refine ⟨.map ((es.toList.map (WideElems.rg Try.prog T_int nilR)).foldr DataW.insert []), ⟨es, clk, by rw [hw]; exact h1, ⟨by rw [hlen]; exact hsz, ⟨h4, h3, ?_⟩, fun x hx => ⟨_, hrd x hx⟩⟩, by rw [hlen]; exact Nat.le_refl _, rfl⟩, ?_, ?_⟩
  · rw [hkeys]
    exact List.pairwise_map.2 (ha.nodup.imp fun hne e => hne (by simpa using e))
  · show (((es.toList.map (WideElems.rg Try.prog T_int nilR)).foldr DataW.insert []).map fun p => Go.intOf p.1).Perm _
    rw [← hmap]
    exact (foldr_insert_perm _).map _
  · show ((es.toList.map (WideElems.rg Try.prog T_int nilR)).foldr DataW.insert []).length = _
    rw [(foldr_insert_perm _).length_eq]
    simp [hlen]
theorem sortsA (m : Nat) : AnyZI.SortsIn Try.prog Try.sortedA_ren Fence.wide m :=
  ⟨fun blk off cap ss W hH hblk hsz => callsIn_wide.2 (AnyM.slices_Sort_int Try.sortA blk off cap ss W hH hblk hsz),
   fun p cap W => callsIn_wide.2 (AnyM.slices_Sort_int_none Try.sortA p cap W)⟩
def sortI (ks : List Int) : List Int := ks.mergeSort fun x y => decide (x ≤ y)
theorem same_of_below {w w' : World} {n : Nat} (hb : Go.RowKit.Below n w w') : Same w w' := ⟨hb.tape, hb.os, hb.output⟩
theorem ext_of_below {w w' : World} (hb : Go.RowKit.Below w.heap.size w w') : Ext w.heap w'.heap := ⟨hb.size, fun r hr _ => hb.block r hr, by simp⟩
section
variable {h : Hp} {K : Value → Hp → Prop}
theorem c_sorted_keys {r bm : Nat} {l : List (Int × Value)} {e : TypeId} (ha : MapAt .i64 h r l) (hb : h[bm]? = some (.cells #[.map (some r)] e (0, 0))) (hwf : ∀ p ∈ l, (Lit.int .i64 p.1).wf = true) (hsz : l.length ≤ 1073741824)
    (hK : ∀ h' p c F, SlAt h' T_int 1 p l.length c ((sortI (keysOf l)).map (.int .i64)) F → Ext h h' → (∀ q ∈ F, h.size ≤ q) → K (.slice p l.length c) h') :
    CallsH Try.prog f_slices_Sorted_int #[.func (.func f_maps_Keys_vm_space_int_int_1) #[] #[.pointer (some ⟨bm, 0, none⟩)]] h K := by
  have hmax : l.length ≤ maxLen := by unfold maxLen; omega
  refine ⟨fun args w => Try.call106 args w, fun w hw => ?_⟩
  obtain ⟨D0, hown, hperm, hsize⟩ := ownsMap_of ha hwf hmax hw
  have hbm : bm < w.heap.size := by rw [hw]; exact lt_of_at hb
  have hcell : w.cell? ⟨bm, 0, none⟩ = some (.map (some r)) := by
    simp [World.cell?, hw, hb]
  have hseq : SeqGives Fence.wide 2 Try.prog 142 #[.pointer (some ⟨bm, 0, none⟩)] encZ (fun ss => ss.Perm (intKeys D0)) (Maps.size D0) w :=
    AnyZI.keys_gives (ρ := Try.keysA_ren) { Try.keysA with } Fence.wide _ trivial rfl (by omega) bm r _ D0 w hbm hcell hown
  have cS := AnyZI.sorted_in Try.sortedA Fence.wide 5 trivial trivial trivial trivial rfl (by omega) (sortsA _) (enters_of Try.func141 (by kernel_rfl) rfl) 142 #[.pointer (some ⟨bm, 0, none⟩)] trivial (enters_of Try.func142 (by kernel_rfl) rfl) _ _ (by rw [hsize]; exact hmax) (by rw [hsize]; omega) _ hseq
  refine ((callsIn_wide (n := 5)).1 cS).mono ?_
  rintro ee w' ⟨v, ss, rfl, hS, hrow, hnil, hbel⟩
  have hss : ss.mergeSort (fun x y => decide (x ≤ y)) = sortI (keysOf l) := mergeSort_of_perm_i (hS.trans hperm)
  have hlen : ss.length = l.length := by
    have := (hS.trans hperm).length_eq
    simpa [keysOf] using this
  have he : Ext h w'.heap := by rw [← hw]; exact ext_of_below hbel
  obtain ⟨hl, hr⟩ := hrow
  rw [hss] at hl hr
  rw [hlen] at hr
  have hl2 : ((sortI (keysOf l)).map encZ).length = l.length := by rw [hl, hlen]; simp
  rcases hr with ⟨rfl, h0⟩ | ⟨g, cap, cur, rfl, h1, h2, h3, h4, h5, h6⟩
  · refine ⟨_, rfl, ?_, same_of_below hbel⟩
    have := hK w'.heap none 0 [] ⟨by rw [h0]; rw [h0] at hl2; exact hl2, by omega, .inl ⟨rfl, rfl, rfl⟩⟩ he (by simp)
    rw [h0] at this
    exact this
  · refine ⟨_, rfl, hK w'.heap _ cap [g] ⟨by rw [Nat.mul_one]; exact hl2, h3, .inr ⟨g, 0, cur, rfl, rfl, h2, by rw [h5]; omega, ?_⟩⟩ he (by intro q hq; simp at hq; rw [hq, ← hw]; exact h1), same_of_below hbel⟩
    rw [List.drop_zero]; exact h6
theorem c_sorted_nil {bm : Nat} {e : TypeId} (hb : h[bm]? = some (.cells #[.map none] e (0, 0))) (hK : ∀ h', Ext h h' → K (.slice none 0 0) h') :
    CallsH Try.prog f_slices_Sorted_int #[.func (.func f_maps_Keys_vm_space_int_int_1) #[] #[.pointer (some ⟨bm, 0, none⟩)]] h K := by
  refine ⟨fun args w => Try.call106 args w, fun w hw => ?_⟩
  have hbm : bm < w.heap.size := by rw [hw]; exact lt_of_at hb
  have hcell : w.cell? ⟨bm, 0, none⟩ = some (.map none) := by
    simp [World.cell?, hw, hb]
  have hseq : SeqGives Fence.wide 2 Try.prog 142 #[.pointer (some ⟨bm, 0, none⟩)] encZ (fun ss : List Int => ss = []) 0 w :=
    AnyZI.keys_gives_nil (ρ := Try.keysA_ren) { Try.keysA with } Fence.wide _ trivial rfl bm w hbm hcell
  have cS := AnyZI.sorted_in Try.sortedA Fence.wide 5 trivial trivial trivial trivial rfl (by omega) (sortsA _) (enters_of Try.func141 (by kernel_rfl) rfl) 142 #[.pointer (some ⟨bm, 0, none⟩)] trivial (enters_of Try.func142 (by kernel_rfl) rfl) _ 0 (Nat.zero_le _) (by omega) _ hseq
  refine ((callsIn_wide (n := 5)).1 cS).mono ?_
  rintro ee w' ⟨v, ss, rfl, rfl, hrow, hnil, hbel⟩
  obtain rfl : v = .slice none 0 0 := hnil.2 rfl
  exact ⟨_, rfl, hK w'.heap (by rw [← hw]; exact ext_of_below hbel), same_of_below hbel⟩
end
end Go.Proofs.Ytmdhfmljgjnggaa
/- Formula of TopForked. No condition. -/
set_option linter.constructorNameAsVariable false
namespace Go.Proofs.Ytmdhfmljgjnggaa

def q_top_TopForked_ann : Ann := { loops := fun x => match x with | 0 => [(7, T_int)] | 2 => [(8, T_int)] | 4 => [(9, T_int)] | _ => [], ty := fun _ => [], canon := fun _ => [], cuts := fun _ => none }
def q_top_TopForked (x0 : Int) (x1 : Array Value) (h : Hp) (K : Value → Hp → Prop) : Prop :=
    letH (h.push (.cells x1 T_6_uint8)) fun h1 => CallsH Try.prog f_vm_New #[(.int .i64 16)] h1 fun r2 h3 => ∃ p4 : Option Addr, r2 = (.pointer p4) ∧ CallsH Try.prog f_vm_Vm_Begin #[(.pointer p4), (.int .i64 0)] h3 fun r5 h6 => 
    ∃ n7 : Int, r5 = (.int .i64 n7) ∧ iteP (n7 != 0) (K (.bool false) h6) (CallsH Try.prog f_vm_Vm_Map #[(.pointer p4), (.int .i64 0), (.int .i64 0)] h6 fun r8 h9 => ∃ n10 : Int, r8 = (.int .i64 n10) ∧ iteP (n10 != 0) (K (.bool false) h9) (∃ (I11 : Int → Hp → Prop) (μ12 : Int → Hp → Nat), I11 0 h9
    ∧ ∀ i13 h14, I11 i13 h14 → iteP (decide (i13 < (IntKind.wrap .i64 ((Int.tmod (IntKind.wrap .i64 x0) 6) + 1)))) (iteP (decide (i13 > 0)) (CallsH Try.prog f_vm_Vm_Fork #[(.pointer p4), (.int .i64 (IntKind.wrap .i64 (i13 - 1))), (.int .i64 i13)] h14 fun r15 h16
    => ∃ n17 : Int, r15 = (.int .i64 n17) ∧ iteP (n17 != 0) (K (.bool false) h16) ((0 : Int) ≤ i13 ∧ i13 < ((6 : Nat) : Int) ∧ ∃ n18 : Int, cellAt h16 ((⟨h.size, 0, none⟩ : Addr).add (Int.toNat i13 * 1)) = some (.int .u8 n18)
    ∧ CallsH Try.prog f_vm_Vm_Poke #[(.pointer p4), (.int .i64 i13), (.int .i64 i13), (.int .u8 n18)] h16 fun r19 h20 => ∃ n21 : Int, r19 = (.int .i64 n21) ∧ iteP (n21 != 0) (K (.bool false) h20) (I11 (IntKind.wrap .i64 (i13 + 1)) h20
    ∧ μ12 (IntKind.wrap .i64 (i13 + 1)) h20 < μ12 i13 h14))) ((0 : Int) ≤ i13 ∧ i13 < ((6 : Nat) : Int) ∧ ∃ n22 : Int, cellAt h14 ((⟨h.size, 0, none⟩ : Addr).add (Int.toNat i13 * 1)) = some (.int .u8 n22) ∧ CallsH Try.prog f_vm_Vm_Poke #[(.pointer p4), (.int .i64 i13), (.int .i64 i13), (.int .u8 n22)] h14 fun r23 h24
    => ∃ n25 : Int, r23 = (.int .i64 n25) ∧ iteP (n25 != 0) (K (.bool false) h24) (I11 (IntKind.wrap .i64 (i13 + 1)) h24 ∧ μ12 (IntKind.wrap .i64 (i13 + 1)) h24 < μ12 i13 h14))) (∃ (I26 : Int → Hp → Prop) (μ27 : Int → Hp → Nat), I26 0 h14
    ∧ ∀ i28 h29, I26 i28 h29 → iteP (decide (i28 < (IntKind.wrap .i64 ((Int.tmod (IntKind.wrap .i64 x0) 6) + 1)))) (∃ (I30 : Int → Hp → Prop) (μ31 : Int → Hp → Nat), I30 0 h29 ∧ ∀ i32 h33, I30 i32 h33 → iteP (decide (i32 < (IntKind.wrap .i64 ((Int.tmod (IntKind.wrap .i64 x0) 6) + 1)))) (CallsH Try.prog f_vm_Vm_Peek #[(.pointer p4), (.int .i64 i28), (.int .i64 i32)] h33 fun r34 h35
    => ∃ n36 : Int, ∃ n37 : Int, r34 = (.tuple #[(.int .u8 n36), (.int .i64 n37)]) ∧ (0 : Int) ≤ i32 ∧ i32 < ((6 : Nat) : Int) ∧ ∃ n38 : Int, cellAt h35 ((⟨h.size, 0, none⟩ : Addr).add (Int.toNat i32 * 1)) = some (.int .u8 n38)
    ∧ iteP (decide (i32 > i28)) (iteP (n37 != 0) (K (.bool false) h35) (iteP (n36 != 0) (K (.bool false) h35) (I30 (IntKind.wrap .i64 (i32 + 1)) h35 ∧ μ31 (IntKind.wrap .i64 (i32 + 1)) h35 < μ31 i32 h33))) (iteP (n37 != 0) (K (.bool false) h35) (iteP (n36 != n38) (K (.bool false) h35) (I30 (IntKind.wrap .i64 (i32 + 1)) h35
    ∧ μ31 (IntKind.wrap .i64 (i32 + 1)) h35 < μ31 i32 h33)))) (I26 (IntKind.wrap .i64 (i28 + 1)) h33 ∧ μ27 (IntKind.wrap .i64 (i28 + 1)) h33 < μ27 i28 h29)) (CallsH Try.prog f_vm_Vm_Copies #[(.pointer p4)] h29 fun r39 h40 =>
    ∃ n41 : Int, r39 = (.int .i64 n41) ∧ iteP (n41 == (IntKind.wrap .i64 ((IntKind.wrap .i64 ((Int.tmod (IntKind.wrap .i64 x0) 6) + 1)) - 1))) (CallsH Try.prog f_vm_Vm_Left #[(.pointer p4)] h40 fun r42 h43 => ∃ n44 : Int, r42 = (.int .i64 n44)
    ∧ K (.bool (n44 == (IntKind.wrap .i64 (16 - (IntKind.wrap .i64 ((Int.tmod (IntKind.wrap .i64 x0) 6) + 1)))))) h43) (K (.bool false) h40)))))
theorem q_top_TopForked_calls (x0 : Int) (x1 : Array Value) (h : Hp) (K : Value → Hp → Prop) (hq : q_top_TopForked x0 x1 h K) : CallsH Try.prog f_top_TopForked #[(.int .u8 x0), (.agg x1)] h K := by
  have e : q_top_TopForked x0 x1 h K = fnT Try.prog 91 q_top_TopForked_ann Try.f3 (bodyOf Try.f3) [(.int .u8 x0), (.agg x1)] h K := by kernel_rfl
  rw [e] at hq
  exact calls_of_fnT (n := 91) (ann := q_top_TopForked_ann) mixOk Try.func3 (by kernel_rfl) (by kernel_rfl) (fun args w => Try.call3 args w) (by kernel_rfl) hq

end Go.Proofs.Ytmdhfmljgjnggaa
/- A row of processes, each forked of the one ahead, as plain data: what each step answers and what each byte is. No condition. -/
namespace Go.Proofs.Ytmdhfmljgjnggaa
def stF (b : List Int) : Nat → VmS
  | 0 => (mapS (beginS (newS 16) 0).2 0 0).2
  | i + 1 => (pokeS (if i = 0 then stF b i else (forkS (stF b i) ((i : Int) - 1) i).2) i i (b.getD i 0)).2
section
variable (b0 b1 b2 b3 b4 b5 : Int)
theorem fk_begin : (beginS (newS 16) 0).1 = 0 := by kernel_rfl
theorem fk_map : (mapS (beginS (newS 16) 0).2 0 0).1 = 0 := by kernel_rfl
theorem fk_fork : ∀ i : Nat, i < 6 → 0 < i → (forkS (stF [b0, b1, b2, b3, b4, b5] i) ((i : Int) - 1) i).1 = 0
  | 0, _, h => absurd h (by decide)
  | 1, _, _ => by kernel_rfl
  | 2, _, _ => by kernel_rfl
  | 3, _, _ => by kernel_rfl
  | 4, _, _ => by kernel_rfl
  | 5, _, _ => by kernel_rfl
  | n + 6, h, _ => absurd h (by omega)
theorem fk_poke : ∀ i : Nat, i < 6 → (pokeS (if i = 0 then stF [b0, b1, b2, b3, b4, b5] i else (forkS (stF [b0, b1, b2, b3, b4, b5] i) ((i : Int) - 1) i).2) i i ([b0, b1, b2, b3, b4, b5].getD i 0)).1 = 0
  | 0, _ => by kernel_rfl
  | 1, _ => by kernel_rfl
  | 2, _ => by kernel_rfl
  | 3, _ => by kernel_rfl
  | 4, _ => by kernel_rfl
  | 5, _ => by kernel_rfl
  | n + 6, h => absurd h (by omega)
theorem fk_end : ∀ n : Nat, 1 ≤ n → n ≤ 6 → (stF [b0, b1, b2, b3, b4, b5] n).cp = (n : Int) - 1 ∧ leftS (stF [b0, b1, b2, b3, b4, b5] n) = 16 - (n : Int)
  | 0, h, _ => absurd h (by decide)
  | 1, _, _ => ⟨by kernel_rfl, by kernel_rfl⟩
  | 2, _, _ => ⟨by kernel_rfl, by kernel_rfl⟩
  | 3, _, _ => ⟨by kernel_rfl, by kernel_rfl⟩
  | 4, _, _ => ⟨by kernel_rfl, by kernel_rfl⟩
  | 5, _, _ => ⟨by kernel_rfl, by kernel_rfl⟩
  | 6, _, _ => ⟨by kernel_rfl, by kernel_rfl⟩
  | n + 7, _, h => absurd h (by omega)
theorem fk_peek1 : ∀ i k : Nat, i < 1 → k < 1 → peekS (stF [b0, b1, b2, b3, b4, b5] 1) i k = (if i < k then 0 else [b0, b1, b2, b3, b4, b5].getD k 0, 0)
  | 0, 0, _, _ => by kernel_rfl
  | 0, k + 1, _, h => absurd h (by omega)
  | i + 1, _, h, _ => absurd h (by omega)
theorem fk_peek2 : ∀ i k : Nat, i < 2 → k < 2 → peekS (stF [b0, b1, b2, b3, b4, b5] 2) i k = (if i < k then 0 else [b0, b1, b2, b3, b4, b5].getD k 0, 0)
  | 0, 0, _, _ => by kernel_rfl
  | 0, 1, _, _ => by kernel_rfl
  | 0, k + 2, _, h => absurd h (by omega)
  | 1, 0, _, _ => by kernel_rfl
  | 1, 1, _, _ => by kernel_rfl
  | 1, k + 2, _, h => absurd h (by omega)
  | i + 2, _, h, _ => absurd h (by omega)
theorem fk_peek3 : ∀ i k : Nat, i < 3 → k < 3 → peekS (stF [b0, b1, b2, b3, b4, b5] 3) i k = (if i < k then 0 else [b0, b1, b2, b3, b4, b5].getD k 0, 0)
  | 0, 0, _, _ => by kernel_rfl
  | 0, 1, _, _ => by kernel_rfl
  | 0, 2, _, _ => by kernel_rfl
  | 0, k + 3, _, h => absurd h (by omega)
  | 1, 0, _, _ => by kernel_rfl
  | 1, 1, _, _ => by kernel_rfl
  | 1, 2, _, _ => by kernel_rfl
  | 1, k + 3, _, h => absurd h (by omega)
  | 2, 0, _, _ => by kernel_rfl
  | 2, 1, _, _ => by kernel_rfl
  | 2, 2, _, _ => by kernel_rfl
  | 2, k + 3, _, h => absurd h (by omega)
  | i + 3, _, h, _ => absurd h (by omega)
theorem fk_peek4 : ∀ i k : Nat, i < 4 → k < 4 → peekS (stF [b0, b1, b2, b3, b4, b5] 4) i k = (if i < k then 0 else [b0, b1, b2, b3, b4, b5].getD k 0, 0)
  | 0, 0, _, _ => by kernel_rfl
  | 0, 1, _, _ => by kernel_rfl
  | 0, 2, _, _ => by kernel_rfl
  | 0, 3, _, _ => by kernel_rfl
  | 0, k + 4, _, h => absurd h (by omega)
  | 1, 0, _, _ => by kernel_rfl
  | 1, 1, _, _ => by kernel_rfl
  | 1, 2, _, _ => by kernel_rfl
  | 1, 3, _, _ => by kernel_rfl
  | 1, k + 4, _, h => absurd h (by omega)
  | 2, 0, _, _ => by kernel_rfl
  | 2, 1, _, _ => by kernel_rfl
  | 2, 2, _, _ => by kernel_rfl
  | 2, 3, _, _ => by kernel_rfl
  | 2, k + 4, _, h => absurd h (by omega)
  | 3, 0, _, _ => by kernel_rfl
  | 3, 1, _, _ => by kernel_rfl
  | 3, 2, _, _ => by kernel_rfl
  | 3, 3, _, _ => by kernel_rfl
  | 3, k + 4, _, h => absurd h (by omega)
  | i + 4, _, h, _ => absurd h (by omega)
theorem fk_peek5 : ∀ i k : Nat, i < 5 → k < 5 → peekS (stF [b0, b1, b2, b3, b4, b5] 5) i k = (if i < k then 0 else [b0, b1, b2, b3, b4, b5].getD k 0, 0)
  | 0, 0, _, _ => by kernel_rfl
  | 0, 1, _, _ => by kernel_rfl
  | 0, 2, _, _ => by kernel_rfl
  | 0, 3, _, _ => by kernel_rfl
  | 0, 4, _, _ => by kernel_rfl
  | 0, k + 5, _, h => absurd h (by omega)
  | 1, 0, _, _ => by kernel_rfl
  | 1, 1, _, _ => by kernel_rfl
  | 1, 2, _, _ => by kernel_rfl
  | 1, 3, _, _ => by kernel_rfl
  | 1, 4, _, _ => by kernel_rfl
  | 1, k + 5, _, h => absurd h (by omega)
  | 2, 0, _, _ => by kernel_rfl
  | 2, 1, _, _ => by kernel_rfl
  | 2, 2, _, _ => by kernel_rfl
  | 2, 3, _, _ => by kernel_rfl
  | 2, 4, _, _ => by kernel_rfl
  | 2, k + 5, _, h => absurd h (by omega)
  | 3, 0, _, _ => by kernel_rfl
  | 3, 1, _, _ => by kernel_rfl
  | 3, 2, _, _ => by kernel_rfl
  | 3, 3, _, _ => by kernel_rfl
  | 3, 4, _, _ => by kernel_rfl
  | 3, k + 5, _, h => absurd h (by omega)
  | 4, 0, _, _ => by kernel_rfl
  | 4, 1, _, _ => by kernel_rfl
  | 4, 2, _, _ => by kernel_rfl
  | 4, 3, _, _ => by kernel_rfl
  | 4, 4, _, _ => by kernel_rfl
  | 4, k + 5, _, h => absurd h (by omega)
  | i + 5, _, h, _ => absurd h (by omega)
theorem fk_peek6 : ∀ i k : Nat, i < 6 → k < 6 → peekS (stF [b0, b1, b2, b3, b4, b5] 6) i k = (if i < k then 0 else [b0, b1, b2, b3, b4, b5].getD k 0, 0)
  | 0, 0, _, _ => by kernel_rfl
  | 0, 1, _, _ => by kernel_rfl
  | 0, 2, _, _ => by kernel_rfl
  | 0, 3, _, _ => by kernel_rfl
  | 0, 4, _, _ => by kernel_rfl
  | 0, 5, _, _ => by kernel_rfl
  | 0, k + 6, _, h => absurd h (by omega)
  | 1, 0, _, _ => by kernel_rfl
  | 1, 1, _, _ => by kernel_rfl
  | 1, 2, _, _ => by kernel_rfl
  | 1, 3, _, _ => by kernel_rfl
  | 1, 4, _, _ => by kernel_rfl
  | 1, 5, _, _ => by kernel_rfl
  | 1, k + 6, _, h => absurd h (by omega)
  | 2, 0, _, _ => by kernel_rfl
  | 2, 1, _, _ => by kernel_rfl
  | 2, 2, _, _ => by kernel_rfl
  | 2, 3, _, _ => by kernel_rfl
  | 2, 4, _, _ => by kernel_rfl
  | 2, 5, _, _ => by kernel_rfl
  | 2, k + 6, _, h => absurd h (by omega)
  | 3, 0, _, _ => by kernel_rfl
  | 3, 1, _, _ => by kernel_rfl
  | 3, 2, _, _ => by kernel_rfl
  | 3, 3, _, _ => by kernel_rfl
  | 3, 4, _, _ => by kernel_rfl
  | 3, 5, _, _ => by kernel_rfl
  | 3, k + 6, _, h => absurd h (by omega)
  | 4, 0, _, _ => by kernel_rfl
  | 4, 1, _, _ => by kernel_rfl
  | 4, 2, _, _ => by kernel_rfl
  | 4, 3, _, _ => by kernel_rfl
  | 4, 4, _, _ => by kernel_rfl
  | 4, 5, _, _ => by kernel_rfl
  | 4, k + 6, _, h => absurd h (by omega)
  | 5, 0, _, _ => by kernel_rfl
  | 5, 1, _, _ => by kernel_rfl
  | 5, 2, _, _ => by kernel_rfl
  | 5, 3, _, _ => by kernel_rfl
  | 5, 4, _, _ => by kernel_rfl
  | 5, 5, _, _ => by kernel_rfl
  | 5, k + 6, _, h => absurd h (by omega)
  | i + 6, _, h, _ => absurd h (by omega)
theorem fk_peek : ∀ n : Nat, 1 ≤ n → n ≤ 6 → ∀ i k : Nat, i < n → k < n → peekS (stF [b0, b1, b2, b3, b4, b5] n) i k = (if i < k then 0 else [b0, b1, b2, b3, b4, b5].getD k 0, 0)
  | 0, h, _ => absurd h (by decide)
  | 1, _, _ => fk_peek1 b0 b1 b2 b3 b4 b5
  | 2, _, _ => fk_peek2 b0 b1 b2 b3 b4 b5
  | 3, _, _ => fk_peek3 b0 b1 b2 b3 b4 b5
  | 4, _, _ => fk_peek4 b0 b1 b2 b3 b4 b5
  | 5, _, _ => fk_peek5 b0 b1 b2 b3 b4 b5
  | 6, _, _ => fk_peek6 b0 b1 b2 b3 b4 b5
  | n + 7, _, h => absurd h (by omega)
end
end Go.Proofs.Ytmdhfmljgjnggaa
/- TopForked answers true, and old memory stays as it is. Its arguments: a byte and a row of six bytes. No condition. -/
namespace Go.Proofs.Ytmdhfmljgjnggaa
attribute [local irreducible] semWP

theorem Ext.trans' {h h1 h2 : Hp} {F F' : List Nat} (a : Ext h h1) (b : Step h1 h2 F F') (hF : ∀ r ∈ F, h.size ≤ r) : Ext h h2 :=
  ⟨Nat.le_trans a.size b.size, fun r hr _ => by
    rw [b.frame r (Nat.lt_of_lt_of_le hr a.size) (fun hf => by have := hF r hf; omega), a.frame r hr (by simp)], by simp⟩
theorem Step.new {h0 h h' : Hp} {F F' : List Nat} (b : Step h h' F F') (hF : ∀ r ∈ F, h0.size ≤ r) (hs : h0.size ≤ h.size) : ∀ r ∈ F', h0.size ≤ r := fun r hr => by
  rcases b.foot r hr with h1 | h1
  · exact hF r h1
  · omega
section
variable {h : Hp} (b0 b1 b2 b3 b4 b5 : Int)
/-- A row of six bytes in a block. -/
theorem rowCell {h : Hp} {a : Nat} {bs : List Int} {e : TypeId} (ha : h[a]? = some (.cells ⟨bs.map (.int .u8)⟩ e (0, 0))) {i : Int} (h0 : 0 ≤ i) (h1 : i < bs.length) : cellAt h ((⟨a, 0, none⟩ : Addr).add (Int.toNat i * 1)) = some (.int .u8 (bs.getD i.toNat 0)) := by
  rw [Addr.add_mk, cellAt_cells ha]
  have : i.toNat < bs.length := by omega
  simp [this]
set_option maxHeartbeats 1000000 in
theorem c_TopForked (x0 : Int) (h0 : 0 ≤ x0) (h1 : x0 < 256) : CallsH Try.prog f_top_TopForked #[.int .u8 x0, .agg ⟨[b0, b1, b2, b3, b4, b5].map (.int .u8)⟩] h fun r h' => r = .bool true ∧ Ext h h' := by
  refine q_top_TopForked_calls x0 _ h _ ?_
  unfold q_top_TopForked
  generalize hbs : [b0, b1, b2, b3, b4, b5] = bs
  have hlen : bs.length = 6 := by rw [← hbs]; rfl
  have e1 : IntKind.wrap .i64 x0 = x0 := wrap64 (by omega) (by omega)
  have e2 : Int.tmod x0 6 = x0 % 6 := Int.tmod_eq_emod_of_nonneg h0
  rw [e1, e2, wrap64 (x := x0 % 6 + 1) (by omega) (by omega)]
  obtain ⟨n, hn, n1, n6⟩ : ∃ n : Nat, x0 % 6 + 1 = n ∧ 1 ≤ n ∧ n ≤ 6 := ⟨(x0 % 6 + 1).toNat, by omega, by omega, by omega⟩
  rw [hn, wrap64 (x := (n : Int) - 1) (by omega) (by omega), wrap64 (x := 16 - (n : Int)) (by omega) (by omega)]
  refine letH_iff.2 ?_
  have x1 : Ext h (h.push (.cells ⟨bs.map (.int .u8)⟩ T_6_uint8)) := Ext.push _ _
  have a1 : (h.push (.cells ⟨bs.map (.int .u8)⟩ T_6_uint8))[h.size]? = some (.cells ⟨bs.map (.int .u8)⟩ T_6_uint8) := push_new _ _
  have z1 : (h.push (.cells ⟨bs.map (.int .u8)⟩ T_6_uint8)).size = h.size + 1 := by simp
  generalize h.push (.cells ⟨bs.map (.int .u8)⟩ T_6_uint8) = g at *
  refine c_vm_New 16 (fun hb => by omega) fun _ _ h2 v F2 v2 x2 n2 => ⟨_, rfl, ?_⟩
  refine c_vm_Begin v2 0 fun h3 F3 v3 x3 => ⟨_, rfl, iteP_nne fk_begin ?_⟩
  refine c_vm_Map v3 0 0 fun h4 F4 v4 x4 => ⟨_, rfl, iteP_nne fk_map ?_⟩
  have xs : Step h2 h4 F2 F4 := x3.trans x4
  have y4 : Ext g h4 := x2.trans' xs n2
  have n4 : ∀ r ∈ F4, g.size ≤ r := xs.new n2 x2.size
  refine ⟨fun i hc => ∃ F, 0 ≤ i ∧ i ≤ n ∧ VmRep hc v (stF bs i.toNat) F ∧ Ext g hc ∧ ∀ r ∈ F, g.size ≤ r, fun i _ => ((n : Int) - i).toNat, ⟨F4, by omega, by omega, v4, y4, n4⟩, ?_⟩
  rintro i hc ⟨F, i0, i1, vc, xc, nc⟩
  have hmu : ((n : Int) - (i + 1)).toNat < ((n : Int) - i).toNat ∨ (n : Int) ≤ i := by omega
  have hst : i < n → stF bs (i + 1).toNat = (pokeS (if i.toNat = 0 then stF bs i.toNat else (forkS (stF bs i.toNat) (i - 1) i).2) i i (bs.getD i.toNat 0)).2 := fun _ => by
    rw [show (i + 1).toNat = i.toNat + 1 by omega]
    simp only [stF, show ((i.toNat : Nat) : Int) = i by omega]
  have hpk : i < n → (pokeS (if i.toNat = 0 then stF bs i.toNat else (forkS (stF bs i.toNat) (i - 1) i).2) i i (bs.getD i.toNat 0)).1 = 0 := fun hi => by
    have := fk_poke b0 b1 b2 b3 b4 b5 i.toNat (by omega)
    rw [hbs, show ((i.toNat : Nat) : Int) = i by omega] at this
    exact this
  refine iteP_cases (fun hin => ?_) fun hin => ?_
  · rw [wrap64 (x := i + 1) (by omega) (by omega), wrap64 (x := i - 1) (by omega) (by omega)]
    have hs := hst hin
    have hp := hpk hin
    refine iteP_cases (fun hi => ?_) fun hi => ?_
    · have hfk := fk_fork b0 b1 b2 b3 b4 b5 i.toNat (by omega) (by omega)
      rw [hbs, show ((i.toNat : Nat) : Int) = i by omega] at hfk
      rw [if_neg (by omega)] at hs hp
      refine c_vm_Fork vc (i - 1) i fun h5 F5 v5 x5 => ⟨_, rfl, iteP_nne hfk ⟨i0, by omega, _, rowCell (xc.trans' x5 nc |>.at a1) i0 (by omega), ?_⟩⟩
      refine c_vm_Poke v5 i i _ fun h6 F6 v6 x6 => ⟨_, rfl, iteP_nne hp ⟨⟨F6, by omega, by omega, ?_, ?_, ?_⟩, ?_⟩⟩
      · rw [hs]; exact v6
      · exact xc.trans' (x5.trans x6) nc
      · exact (x5.trans x6).new nc xc.size
      · show ((n : Int) - (i + 1)).toNat < ((n : Int) - i).toNat; omega
    · rw [if_pos (by omega)] at hs hp
      refine ⟨i0, by omega, _, rowCell (xc.at a1) i0 (by omega), ?_⟩
      refine c_vm_Poke vc i i _ fun h6 F6 v6 x6 => ⟨_, rfl, iteP_nne hp ⟨⟨F6, by omega, by omega, ?_, ?_, ?_⟩, ?_⟩⟩
      · rw [hs]; exact v6
      · exact xc.trans' x6 nc
      · exact x6.new nc xc.size
      · show ((n : Int) - (i + 1)).toNat < ((n : Int) - i).toNat; omega
  · have hi : i.toNat = n := by omega
    rw [hi] at vc
    refine ⟨fun j h' => hc = h' ∧ 0 ≤ j ∧ j ≤ n, fun j _ => ((n : Int) - j).toNat, ⟨rfl, by omega, by omega⟩, ?_⟩
    rintro j _ ⟨rfl, j0, j1⟩
    refine iteP_cases (fun hj => ?_) fun hj => ?_
    · refine ⟨fun k h' => hc = h' ∧ 0 ≤ k ∧ k ≤ n, fun k _ => ((n : Int) - k).toNat, ⟨rfl, by omega, by omega⟩, ?_⟩
      rintro k _ ⟨rfl, k0, k1⟩
      rw [wrap64 (x := j + 1) (by omega) (by omega)]
      refine iteP_cases (fun hk => ?_) fun hk => ⟨⟨rfl, by omega, by omega⟩, by show ((n : Int) - (j + 1)).toNat < ((n : Int) - j).toNat; omega⟩
      rw [wrap64 (x := k + 1) (by omega) (by omega)]
      have hpe := fk_peek b0 b1 b2 b3 b4 b5 n n1 n6 j.toNat k.toNat (by omega) (by omega)
      rw [hbs, show ((j.toNat : Nat) : Int) = j by omega, show ((k.toNat : Nat) : Int) = k by omega] at hpe
      refine c_vm_Peek vc j k ⟨_, _, rfl, k0, by omega, _, rowCell (xc.at a1) k0 (by omega), ?_⟩
      rw [hpe]
      have hm : ((n : Int) - (k + 1)).toNat < ((n : Int) - k).toNat := by omega
      refine iteP_cases (fun hjk => ?_) fun hjk => ?_
      · rw [if_pos (by omega)]
        exact iteP_nne rfl (iteP_nne rfl ⟨⟨rfl, by omega, by omega⟩, hm⟩)
      · rw [if_neg (by omega)]
        exact iteP_nne rfl (iteP_nne rfl ⟨⟨rfl, by omega, by omega⟩, hm⟩)
    · obtain ⟨f1, f2⟩ := fk_end b0 b1 b2 b3 b4 b5 n n1 n6
      rw [hbs] at f1 f2
      refine c_vm_Copies vc ⟨_, rfl, iteP_eq f1 (c_vm_Left vc ⟨_, rfl, ?_, x1.trans xc⟩)⟩
      rw [f2]; simp
end
end Go.Proofs.Ytmdhfmljgjnggaa
/- What the functions of package vm do at a nil pointer; what 'live' answers. No condition. -/
namespace Go.Proofs.Ytmdhfmljgjnggaa
attribute [local irreducible] semWP
section
variable {h : Hp} {K : Value → Hp → Prop}
theorem n_of (a : Int) (hK : K (.tuple #[.map none, .int .i64 1]) h) : CallsH Try.prog f_vm_Vm_of #[.pointer none, .int .i64 a] h K := q_vm_Vm_of_nil_calls a h K hK
theorem n_fresh (a : Int) (hK : K (.int .i64 1) h) : CallsH Try.prog f_vm_Vm_fresh #[.pointer none, .int .i64 a] h K := q_vm_Vm_fresh_nil_calls a h K hK
theorem n_at (a b : Int) (hK : K (.tuple #[.map none, .int .i64 1]) h) : CallsH Try.prog f_vm_Vm_at #[.pointer none, .int .i64 a, .int .i64 b] h K := by
  refine q_vm_Vm_at_nil_calls a b h K ?_
  unfold q_vm_Vm_at_nil
  exact n_of a ⟨_, _, rfl, iteP_ne (by decide) hK⟩
theorem n_page (a b : Int) (hK : K (.tuple #[.map none, .bool false, .int .i64 1]) h) : CallsH Try.prog f_vm_Vm_page #[.pointer none, .int .i64 a, .int .i64 b] h K := by
  refine q_vm_Vm_page_nil_calls a b h K ?_
  unfold q_vm_Vm_page_nil
  exact n_of a ⟨_, _, rfl, iteP_ne (by decide) hK⟩
theorem n_Peek (a b : Int) (hK : K (.tuple #[.int .u8 0, .int .i64 1]) h) : CallsH Try.prog f_vm_Vm_Peek #[.pointer none, .int .i64 a, .int .i64 b] h K := by
  refine q_vm_Vm_Peek_nil_calls a b h K ?_
  unfold q_vm_Vm_Peek_nil
  exact n_at a b ⟨_, _, rfl, iteP_ne (by decide) hK⟩
theorem look_nil (b : Int) : RunsTo Try.prog (Instr.lookup T_N_vm_space (.map none) (.int .i64 b) true) h (.tuple #[.int .i64 0, .bool false]) := by
  have := runs_lookup_nil (P := Try.prog) (h := h) (t := T_N_vm_space) (kt := T_int) (et := T_int) (k := .i64) (n := b) (by kernel_rfl) (by kernel_rfl) (by kernel_rfl) true
  rw [show zeroOf Try.prog T_int = .int .i64 0 by kernel_rfl] at this
  simpa using this
theorem n_Frame (a b : Int) (hK : K (.tuple #[.int .i64 0, .bool false]) h) : CallsH Try.prog f_vm_Vm_Frame #[.pointer none, .int .i64 a, .int .i64 b] h K := by
  refine q_vm_Vm_Frame_nil_calls a b h K ?_
  unfold q_vm_Vm_Frame_nil
  exact n_of a ⟨_, _, rfl, _, _, look_nil b, iteP_t rfl hK⟩
theorem n_Begin (a : Int) (hK : K (.int .i64 1) h) : CallsH Try.prog f_vm_Vm_Begin #[.pointer none, .int .i64 a] h K := by
  refine q_vm_Vm_Begin_nil_calls a h K ?_
  unfold q_vm_Vm_Begin_nil
  exact n_fresh a ⟨_, rfl, iteP_neq (by decide) hK⟩
theorem n_End (a : Int) (hK : K (.int .i64 1) h) : CallsH Try.prog f_vm_Vm_End #[.pointer none, .int .i64 a] h K := by
  refine q_vm_Vm_End_nil_calls a h K ?_
  unfold q_vm_Vm_End_nil
  exact n_of a ⟨_, _, rfl, iteP_ne (by decide) hK⟩
theorem n_Fork (a b : Int) (hK : K (.int .i64 1) h) : CallsH Try.prog f_vm_Vm_Fork #[.pointer none, .int .i64 a, .int .i64 b] h K := by
  refine q_vm_Vm_Fork_nil_calls a b h K ?_
  unfold q_vm_Vm_Fork_nil
  exact n_of a ⟨_, _, rfl, iteP_ne (by decide) hK⟩
theorem n_Map (a b : Int) (hK : K (.int .i64 1) h) : CallsH Try.prog f_vm_Vm_Map #[.pointer none, .int .i64 a, .int .i64 b] h K := by
  refine q_vm_Vm_Map_nil_calls a b h K ?_
  unfold q_vm_Vm_Map_nil
  exact n_page a b ⟨_, _, _, rfl, iteP_ne (by decide) hK⟩
theorem n_Unmap (a b : Int) (hK : K (.int .i64 1) h) : CallsH Try.prog f_vm_Vm_Unmap #[.pointer none, .int .i64 a, .int .i64 b] h K := by
  refine q_vm_Vm_Unmap_nil_calls a b h K ?_
  unfold q_vm_Vm_Unmap_nil
  exact n_page a b ⟨_, _, _, rfl, iteP_ne (by decide) hK⟩
theorem n_Poke (a b c : Int) (hK : K (.int .i64 1) h) : CallsH Try.prog f_vm_Vm_Poke #[.pointer none, .int .i64 a, .int .i64 b, .int .u8 c] h K := by
  refine q_vm_Vm_Poke_nil_calls a b c h K ?_
  unfold q_vm_Vm_Poke_nil
  exact n_at a b ⟨_, _, rfl, iteP_ne (by decide) hK⟩
theorem n_Fill (a b : Int) (p : Option Addr) (n c : Nat) (hK : K (.int .i64 1) h) : CallsH Try.prog f_vm_Vm_Fill #[.pointer none, .int .i64 a, .int .i64 b, .slice p n c] h K := by
  refine q_vm_Vm_Fill_nil_calls a b p n c h K ?_
  unfold q_vm_Vm_Fill_nil
  exact n_of a ⟨_, _, rfl, iteP_ne (by decide) hK⟩
theorem c_Keys_nil (hK : ∀ h', h' = h.push (.cells #[.map none] T_N_vm_space) → K (.func (.func f_maps_Keys_vm_space_int_int_1) #[] #[.pointer (some ⟨h.size, 0, none⟩)]) h') : CallsH Try.prog f_maps_Keys_vm_space_int_int #[.map none] h K := by
  refine q_maps_Keys_vm_space_int_int_nil_calls h K ?_
  unfold q_maps_Keys_vm_space_int_int_nil
  exact letH_iff.2 (hK _ rfl)
theorem n_Pages (a : Int) (hK : ∀ h', Ext h h' → K (.slice none 0 0) h') : CallsH Try.prog f_vm_Vm_Pages #[.pointer none, .int .i64 a] h K := by
  refine q_vm_Vm_Pages_nil_calls a h K ?_
  unfold q_vm_Vm_Pages_nil
  refine n_of a ⟨_, _, rfl, c_Keys_nil fun h1 e1 => ⟨_, rfl, ?_⟩⟩
  subst e1
  exact c_sorted_nil (push_new _ _) fun h' x' => ⟨_, _, _, rfl, hK h' ((Ext.push _ _).trans x')⟩
theorem n_Refs (a : Int) (hK : K (.int .i64 0) h) : CallsH Try.prog f_vm_Vm_Refs #[.pointer none, .int .i64 a] h K := q_vm_Vm_Refs_nil_calls a h K hK
theorem n_Left (hK : K (.int .i64 0) h) : CallsH Try.prog f_vm_Vm_Left #[.pointer none] h K := q_vm_Vm_Left_nil_calls h K hK
theorem n_Copies (hK : K (.int .i64 0) h) : CallsH Try.prog f_vm_Vm_Copies #[.pointer none] h K := q_vm_Vm_Copies_nil_calls h K hK
theorem n_Copy (hK : K (.pointer none) h) : CallsH Try.prog f_vm_Vm_Copy #[.pointer none] h K := q_vm_Vm_Copy_nil_calls h K hK

def liveS1 : VmS := (mapS (beginS (newS 3) 0).2 0 0).2
def liveS2 : VmS := (pokeS liveS1 0 5 7).2
def liveS3 : VmS := (forkS liveS2 0 1).2
def liveS4 : VmS := (pokeS liveS3 1 5 8).2
theorem live_1 : (mapS (beginS (newS 3) 0).2 0 0).1 = 0 := by kernel_rfl
theorem live_2 : (pokeS liveS1 0 5 7).1 = 0 := by kernel_rfl
theorem live_3 : (forkS liveS2 0 1).1 = 0 := by kernel_rfl
theorem live_4 : (pokeS liveS3 1 5 8).1 = 0 := by kernel_rfl
theorem live_5 : peekS liveS4 0 5 = (7, 0) := by kernel_rfl
theorem live_6 : peekS liveS4 1 5 = (8, 0) := by kernel_rfl
theorem live_7 : liveS4.cp = 1 := by kernel_rfl
theorem live_8 : leftS liveS4 = 1 := by kernel_rfl
/-- 'live' answers true. -/
theorem c_live (hK : ∀ h', Ext h h' → K (.bool true) h') : CallsH Try.prog f_law19_live #[] h K := by
  refine q_law19_live_calls h K ?_
  unfold q_law19_live
  refine c_vm_New 3 (fun hb => by omega) fun _ _ h1 v F1 v1 x1 n1 => ⟨_, rfl, ?_⟩
  have w1 : VmRep h1 v (newS 3) F1 := v1
  refine c_vm_Begin w1 0 fun h2 F2 v2 x2 => ⟨_, rfl, ?_⟩
  refine c_vm_Map v2 0 0 fun h3 F3 v3 x3 => ⟨_, rfl, ?_⟩
  rw [live_1]
  have w3 : VmRep h3 v liveS1 F3 := v3
  refine c_vm_Poke w3 0 5 7 fun h4 F4 v4 x4 => ⟨_, rfl, ?_⟩
  rw [live_2]
  have w4 : VmRep h4 v liveS2 F4 := v4
  refine c_vm_Fork w4 0 1 fun h5 F5 v5 x5 => ⟨_, rfl, ?_⟩
  rw [live_3]
  have w5 : VmRep h5 v liveS3 F5 := v5
  refine c_vm_Poke w5 1 5 8 fun h6 F6 v6 x6 => ⟨_, rfl, ?_⟩
  rw [live_4]
  have w6 : VmRep h6 v liveS4 F6 := v6
  have x : Ext h h6 := x1.trans' ((((x2.trans x3).trans x4).trans x5).trans x6) n1
  refine c_vm_Peek w6 0 5 ?_
  rw [live_5]
  refine ⟨_, _, rfl, c_vm_Peek w6 1 5 ?_⟩
  rw [live_6]
  refine ⟨_, _, rfl, iteP_eq rfl (iteP_eq rfl (iteP_eq rfl (iteP_eq rfl (iteP_eq rfl (iteP_eq rfl ?_)))))⟩
  refine c_vm_Copies w6 ?_
  rw [live_7]
  refine ⟨_, rfl, iteP_eq rfl (c_vm_Left w6 ?_)⟩
  rw [live_8]
  exact ⟨_, rfl, hK h6 x⟩
theorem c_VmNone (a b c d e n : Int) (p : Option Addr) (l cp : Nat) (hK : ∀ h', Ext h h' → K (.bool true) h') : CallsH Try.prog f_law19_VmNone #[.agg #[.int .i64 a, .int .i64 b, .int .i64 c, .int .i64 d, .int .u8 e, .slice p l cp], .int .i64 n] h K := by
  refine q_law19_VmNone_calls a b c d e p l cp n h K ?_
  unfold q_law19_VmNone
  refine letH_iff.2 ?_
  have x1 : Ext h (h.push (.cells #[.int .i64 a, .int .i64 b, .int .i64 c, .int .i64 d, .int .u8 e, .slice p l cp] T_N_law19_Deed)) := Ext.push _ _
  have hb : (h.push (.cells #[.int .i64 a, .int .i64 b, .int .i64 c, .int .i64 d, .int .u8 e, .slice p l cp] T_N_law19_Deed))[h.size]? = some (.cells #[.int .i64 a, .int .i64 b, .int .i64 c, .int .i64 d, .int .u8 e, .slice p l cp] T_N_law19_Deed) := push_new _ _
  generalize h.push (.cells #[.int .i64 a, .int .i64 b, .int .i64 c, .int .i64 d, .int .u8 e, .slice p l cp] T_N_law19_Deed) = g at *
  have c1 : ∀ {g' : Hp}, Ext g g' → cellAt g' ⟨h.size, 1, none⟩ = some (.int .i64 b) := fun x => by rw [cellAt_cells (x.at hb)]; rfl
  have c2 : ∀ {g' : Hp}, Ext g g' → cellAt g' ⟨h.size, 2, none⟩ = some (.int .i64 c) := fun x => by rw [cellAt_cells (x.at hb)]; rfl
  have c3 : ∀ {g' : Hp}, Ext g g' → cellAt g' ⟨h.size, 3, none⟩ = some (.int .i64 d) := fun x => by rw [cellAt_cells (x.at hb)]; rfl
  have x0 : Ext g g := Step.refl _ _
  refine ⟨_, c1 x0, _, c3 x0, n_Peek _ _ ⟨_, _, rfl, _, c1 x0, _, c3 x0, n_Frame _ _ ⟨_, _, rfl, c_live fun g1 y1 => ⟨_, rfl, iteP_t rfl ?_⟩⟩⟩⟩
  refine ⟨_, c1 y1, n_Begin _ ⟨_, rfl, iteP_eq rfl ⟨_, c1 y1, n_End _ ⟨_, rfl, iteP_eq rfl ?_⟩⟩⟩⟩
  refine ⟨_, c1 y1, _, c2 y1, n_Fork _ _ ⟨_, rfl, iteP_eq rfl ⟨_, c1 y1, _, c3 y1, n_Map _ _ ⟨_, rfl, iteP_eq rfl ?_⟩⟩⟩⟩
  refine ⟨_, c1 y1, _, c3 y1, n_Unmap _ _ ⟨_, rfl, iteP_eq rfl ⟨_, c1 y1, _, c3 y1, n_Poke _ _ _ ⟨_, rfl, iteP_eq rfl ?_⟩⟩⟩⟩
  refine iteP_eq rfl (iteP_eq rfl ⟨_, c1 y1, _, c3 y1, n_Fill _ _ _ _ _ ⟨_, rfl, iteP_eq rfl ⟨_, c1 y1, n_Pages _ fun g2 y2 => ⟨_, _, _, rfl, iteP_eq rfl (iteP_eq rfl (iteP_t rfl ?_))⟩⟩⟩⟩)
  have y3 := y1.trans y2
  refine ⟨_, c3 y3, n_Refs _ ⟨_, rfl, iteP_eq rfl (n_Left ⟨_, rfl, iteP_eq rfl (n_Copies ⟨_, rfl, iteP_eq rfl (n_Copy ⟨_, rfl, iteP_t rfl ?_⟩)⟩)⟩)⟩⟩
  refine c_vm_New n (fun hb => ⟨_, rfl, ?_⟩) fun h1 h2 g3 v F3 v3 x3 _ => ⟨_, rfl, ?_⟩
  · have := hK g2 (x1.trans y3)
    refine iteP_cases (fun h1 => this) fun h1 => ?_
    rw [show decide (n > 64) = true by simp; omega]
    exact this
  · have := hK g3 (x1.trans (y3.trans x3))
    refine iteP_no (by omega) ?_
    rw [show decide (n > 64) = false by simp; omega]
    exact this
end
end Go.Proofs.Ytmdhfmljgjnggaa
/- What Frame, Pages and End of package vm do. No condition. -/
namespace Go.Proofs.Ytmdhfmljgjnggaa
attribute [local irreducible] semWP
set_option linter.constructorNameAsVariable false

def pagesS (s : VmS) (pid : Int) : List Int := ((List.range 16).map fun (i : Nat) => (i : Int)).filter fun i => pgOf s pid i != -2
def endS (s : VmS) (pid : Int) : Int × VmS :=
  if hasOf s pid = false then (5, s) else (0, { s with has := s.has.set pid.toNat false, pg := over s.pg (pid.toNat * 16) (List.replicate 16 (-2)) })
theorem pg_ext {s t : VmS} (h1 : s.pg.length = 96) (h2 : t.pg.length = 96) (h : ∀ q page, pgOf s q page = pgOf t q page) : s.pg = t.pg := by
  apply List.ext_getElem?
  intro i
  by_cases hi : i < 96
  · have h3 := h ((i / 16 : Nat) : Int) ((i % 16 : Nat) : Int)
    unfold pgOf at h3
    rw [if_pos (by omega), if_pos (by omega)] at h3
    have e : ixOf ((i / 16 : Nat) : Int) ((i % 16 : Nat) : Int) = i := by unfold ixOf; omega
    rw [e] at h3
    have l1 : i < s.pg.length := by omega
    have l2 : i < t.pg.length := by omega
    rw [List.getElem?_eq_getElem l1, List.getElem?_eq_getElem l2] at h3 ⊢
    simpa using h3
  · rw [List.getElem?_eq_none (by omega), List.getElem?_eq_none (by omega)]
theorem pgOf_end {s : VmS} (hw : Wf s) {pid q page : Int} (h1 : 0 ≤ pid) (h2 : pid < 6) (has : List Bool) : pgOf { s with has := has, pg := over s.pg (pid.toNat * 16) (List.replicate 16 (-2)) } q page = if q = pid then -2 else pgOf s q page := by
  by_cases hq : 0 ≤ q ∧ q < 6 ∧ 0 ≤ page ∧ page < 16
  · unfold pgOf
    simp only [if_pos hq]
    rw [over_get (by simp [hw.lp]; omega)]
    unfold ixOf
    by_cases he : q = pid
    · subst he
      rw [if_pos (by simp; omega), if_pos rfl, List.getElem?_replicate]
      split <;> rfl
    · rw [if_neg (by simp; omega), if_neg he]
  · have e : ∀ t : VmS, pgOf t q page = -2 := fun t => by unfold pgOf; rw [if_neg hq]
    rw [e, e]; split <;> rfl
section
variable {h : Hp} {v : Nat} {s : VmS} {K : Value → Hp → Prop} {F : List Nat}
theorem c_vm_Frame (hv : VmRep h v s F) (pid page : Int) (hK : K (.tuple #[.int .i64 (frameS s pid page).1, .bool (frameS s pid page).2]) h) :
    CallsH Try.prog f_vm_Vm_Frame #[.pointer (some ⟨v, 0, none⟩), .int .i64 pid, .int .i64 page] h K := by
  obtain ⟨m, f, sb, sl, rfl, hv, hw⟩ := hv
  refine q_vm_Vm_Frame_calls v pid page h K ?_
  unfold q_vm_Vm_Frame
  unfold frameS at hK
  refine c_vm_of hv pid (fun hh => ⟨_, _, rfl, _, _, look_nil page, iteP_t rfl ?_⟩) fun r hh hr => ⟨_, _, rfl, _, _, (hv.pages pid r hr).look2 page, ?_⟩
  · rw [if_pos (.inl (hw.off pid page hh))] at hK; exact hK
  · by_cases hp : pgOf s pid page = -2
    · rw [if_pos (.inl hp)] at hK
      exact iteP_t (by simp [hp]) hK
    · refine iteP_f (by simpa using hp) ?_
      rw [if_neg hp]
      refine iteP_eqc (fun hc => ?_) fun hc => ?_
      · rw [if_pos (.inr hc)] at hK; exact hK
      · rw [if_neg (by rintro (h1 | h1) <;> contradiction)] at hK; exact hK
theorem c_Keys {r : Nat} (hK : ∀ h', h' = h.push (.cells #[.map (some r)] T_N_vm_space) → K (.func (.func f_maps_Keys_vm_space_int_int_1) #[] #[.pointer (some ⟨h.size, 0, none⟩)]) h') : CallsH Try.prog f_maps_Keys_vm_space_int_int #[.map (some r)] h K := by
  refine q_maps_Keys_vm_space_int_int_calls r h K ?_
  unfold q_maps_Keys_vm_space_int_int
  exact letH_iff.2 (hK _ rfl)
theorem mem_keys {l : List (Int × Int)} {n : Int} : n ∈ keysOf l ↔ lkp n l ≠ none := by
  rw [ne_eq, lkp_none]; simp
theorem pages_sorted {s : VmS} {pid : Int} {l : List (Int × Int)} (hn : (keysOf l).Nodup) (hl : ∀ page, lkp page l = if pgOf s pid page = -2 then none else some (pgOf s pid page)) : sortI (keysOf l) = pagesS s pid := by
  have hnd : (pagesS s pid).Nodup := by
    unfold pagesS
    refine List.Nodup.sublist List.filter_sublist ?_
    rw [List.nodup_iff_pairwise_ne, List.pairwise_map]
    exact List.nodup_range.imp fun hne e => hne (by omega)
  have hmem : ∀ a, a ∈ keysOf l ↔ a ∈ pagesS s pid := by
    intro a
    rw [mem_keys, hl]
    unfold pagesS
    rw [List.mem_filter]
    constructor
    · intro h1
      by_cases hp : pgOf s pid a = -2
      · rw [if_pos hp] at h1; exact (h1 rfl).elim
      · obtain ⟨_, _, a1, a2⟩ := pgOf_in hp
        exact ⟨List.mem_map.2 ⟨a.toNat, by simp; omega, by omega⟩, by simpa using hp⟩
    · rintro ⟨_, h2⟩
      have : pgOf s pid a ≠ -2 := by simpa using h2
      rw [if_neg this]; simp
  have hp : (keysOf l).Perm (pagesS s pid) := (List.perm_ext_iff_of_nodup hn hnd).2 hmem
  have hs : (pagesS s pid).Pairwise fun x y => decide (x ≤ y) = true := by
    unfold pagesS
    refine List.Pairwise.sublist List.filter_sublist ?_
    rw [List.pairwise_map]
    exact List.pairwise_lt_range.imp fun hlt => by simp; omega
  unfold sortI
  rw [mergeSort_of_perm_i hp]
  exact List.mergeSort_of_pairwise hs
theorem c_vm_Pages (hv : VmRep h v s F) (pid : Int) (hK : ∀ h' p n c F', SlAt h' T_int 1 p n c ((pagesS s pid).map (.int .i64)) F' → Ext h h' → (∀ q ∈ F', h.size ≤ q) → K (.slice p n c) h') :
    CallsH Try.prog f_vm_Vm_Pages #[.pointer (some ⟨v, 0, none⟩), .int .i64 pid] h K := by
  obtain ⟨m, f, sb, sl, rfl, hv, hw⟩ := hv
  refine q_vm_Vm_Pages_calls v pid h K ?_
  unfold q_vm_Vm_Pages
  refine c_vm_of hv pid (fun hh => ⟨_, _, rfl, c_Keys_nil fun h1 e1 => ⟨_, rfl, ?_⟩⟩) fun r hh hr => ⟨_, _, rfl, c_Keys fun h1 e1 => ⟨_, rfl, ?_⟩⟩
  · subst e1
    refine c_sorted_nil (push_new _ _) fun h' x' => ⟨_, _, _, rfl, hK h' none 0 0 [] ?_ ((Ext.push _ _).trans x') (by simp)⟩
    have e : pagesS s pid = [] := by
      unfold pagesS
      rw [List.filter_eq_nil_iff]
      intro a _
      simp [hw.off pid a hh]
    rw [e]; exact SlAt.nil _ _ _
  · obtain ⟨l, hl, hlk⟩ := hv.pages pid r hr
    have x1 : Ext h h1 := by rw [e1]; exact Ext.push _ _
    have hb : h1[h.size]? = some (.cells #[.map (some r)] T_N_vm_space) := by rw [e1]; exact push_new _ _
    have hl1 : MapAt .i64 h1 r (l.map fun p => (p.1, .int .i64 p.2)) := hl.congr (x1.frame r hl.lt (by simp))
    have ek : keysOf (l.map fun p => (p.1, Value.int .i64 p.2)) = keysOf l := keysOf_map (Value.int .i64)
    have hn : (keysOf l).Nodup := by have := hl.nodup; rwa [ek] at this
    have hin : ∀ a ∈ keysOf l, 0 ≤ a ∧ a < 16 := fun a ha => by
      rw [mem_keys, hlk] at ha
      by_cases hp : pgOf s pid a = -2
      · rw [if_pos hp] at ha; exact (ha rfl).elim
      · exact (pgOf_in hp).2.2
    have hps := pages_sorted hn hlk
    have hlen : l.length ≤ 16 := by
      have h1 : (keysOf l).length = (pagesS s pid).length := by rw [← hps]; unfold sortI; rw [List.length_mergeSort]
      have h2 : (pagesS s pid).length ≤ 16 := by
        unfold pagesS
        refine Nat.le_trans (List.length_filter_le ..) ?_
        simp
      have h3 : (keysOf l).length = l.length := by simp [keysOf]
      omega
    refine c_sorted_keys hl1 hb (fun p hp => ?_) (by rw [List.length_map]; omega) fun h' p c F' hs x' hF => ⟨_, _, _, rfl, hK h' _ _ _ F' ?_ (x1.trans x') fun q hq => ?_⟩
    · obtain ⟨q, hq, rfl⟩ := List.mem_map.1 hp
      have := hin q.1 (List.mem_map.2 ⟨q, hq, rfl⟩)
      have e1 : IntKind.i64.min = -9223372036854775808 := by decide
      have e2 : IntKind.i64.max = 9223372036854775807 := by decide
      simp only [Lit.wf, e1, e2, Bool.and_eq_true, decide_eq_true_eq]
      omega
    · rw [ek, hps] at hs; exact hs
    · have := hF q hq
      have := x1.size
      omega
end
end Go.Proofs.Ytmdhfmljgjnggaa
/- What End of package vm does. No condition. -/
namespace Go.Proofs.Ytmdhfmljgjnggaa
attribute [local irreducible] semWP
set_option linter.constructorNameAsVariable false
theorem keysOf_perm {α : Type} {l m : List (Int × α)} (h : l.Perm m) : (keysOf l).Perm (keysOf m) := h.map _
section
variable {h : Hp} {v : Nat} {s : VmS} {K : Value → Hp → Prop} {F : List Nat}
theorem lkp_del_snd {l : List (Int × Nat)} {pid q : Int} {r : Nat} (hn : (keysOf l).Nodup) (h : lkp q (del pid l) = some r) : q ≠ pid ∧ lkp q l = some r := by
  rw [lkp_del hn] at h
  split at h
  · cases h
  · rename_i hne; exact ⟨hne, h⟩
theorem del_sub {α : Type} {n : Int} : ∀ {l : List (Int × α)}, (del n l).Sublist l := by
  intro l
  induction l with
  | nil => exact List.Sublist.refl _
  | cons p l ih =>
    obtain ⟨m, u⟩ := p
    simp only [del]
    split
    · exact List.sublist_cons_self _ _
    · exact ih.cons_cons _
set_option maxHeartbeats 1000000 in
theorem c_vm_End (hv : VmRep h v s F) (pid : Int) (hK : ∀ h' F', VmRep h' v (endS s pid).2 F' → Step h h' F F' → K (.int .i64 (endS s pid).1) h') :
    CallsH Try.prog f_vm_Vm_End #[.pointer (some ⟨v, 0, none⟩), .int .i64 pid] h K := by
  have hv0 := hv
  obtain ⟨m, f, sb, sl, rfl, hv, hw⟩ := hv
  refine q_vm_Vm_End_calls v pid h K ?_
  unfold q_vm_Vm_End
  unfold endS at hK
  refine c_vm_of hv pid (fun hh => ⟨_, _, rfl, iteP_ne (by decide) ?_⟩) fun r hh hr => ⟨_, _, rfl, iteP_nne rfl ?_⟩
  · rw [if_pos hh] at hK; exact hK h _ hv0 (Step.refl _ _)
  rw [if_neg (by simp [hh])] at hK
  obtain ⟨p1, p2⟩ := hasOf_in hh
  obtain ⟨l, hl, hlk⟩ := hv.pages pid r hr
  refine c_maps_Clone hl fun h1 m1 st1 z1 => ⟨_, rfl, ?_⟩
  refine semWP_range (kt := T_int) (et := T_int) (by kernel_rfl) m1 fun h2 it2 st2 z2 => ⟨_, rfl, ?_⟩
  have hv2 : VmAt h2 v m f sb sl (refsOf s.pg) s := hv.congr fun r' hr' => by
    have := hv.lt r' hr'
    rw [st2.frame r' (by omega) (by simp), st1.frame r' this (by simp)]
  have ek : keysOf (l.map fun p => (p.1, Value.int .i64 p.2)) = keysOf l := keysOf_map (Value.int .i64)
  have hn : (keysOf l).Nodup := by have := hl.nodup; rwa [ek] at this
  generalize hL : (l.map fun p => ((p.1, Value.int .i64 p.2) : Int × Value)) = L at *
  have hkL : ∀ page, page ∈ keysOf L ↔ pgOf s pid page ≠ -2 := fun page => by
    rw [ek, mem_keys, hlk]
    by_cases hp : pgOf s pid page = -2 <;> simp [hp]
  generalize hb : h.size = blk at *
  generalize hi : h1.size = i at *
  have hbl : ∀ r' ∈ foot v m f sb sl, r' < blk := fun r' hr' => by have := hv.lt r' hr'; omega
  refine ⟨fun hc => ∃ left sc, IterAt .i64 hc i blk L left ∧ VmAt hc v m f sb sl (refsOf sc.pg) sc ∧ Wf sc ∧ sc.n = s.n ∧ sc.b = s.b ∧ sc.cp = s.cp ∧ sc.has = s.has ∧ (∀ q page, pgOf sc q page = if q = pid ∧ page ∉ keysOf left then -2 else pgOf s q page) ∧ (keysOf left).Nodup ∧ (∀ a ∈ keysOf left, pgOf s pid a ≠ -2) ∧ Step h2 hc (i :: foot v m f sb sl) (i :: foot v m f sb sl),
    fun hc => itLeft hc i blk, ⟨L, s, it2, hv2, hw, rfl, rfl, rfl, rfl, fun q page => ?_, by rw [ek]; exact hn, fun a ha => (hkL a).1 ha, Step.refl _ _⟩, ?_⟩
  · split
    · rename_i hq
      rw [hkL, Classical.not_not] at hq
      rw [hq.1]; exact hq.2
    · rfl
  rintro hc ⟨left, sc, it, hvc, hwc, e1, e2, e3, e4, hpg, hnl, hml, stc⟩
  refine semWP_next it (by omega) (fun h0 => ⟨_, _, rfl, ?_⟩) fun p left' h4 hperm it4 cur4 st4 z4 => ⟨_, _, rfl, ?_⟩
  · rw [iteP_false]
    subst h0
    refine ⟨_, hvc.c65, ?_⟩
    refine semWP_delete (t := T_m_int_vm_space) (kt := T_int) (et := T_N_vm_space) (by rfl) (by kernel_rfl) (by kernel_rfl) hvc.sps fun h5 m5 st5 z5 => ⟨rfl, ?_⟩
    have hdel : del pid (sl.map fun p => (p.1, Value.map (some p.2))) = (del pid sl).map fun p => (p.1, Value.map (some p.2)) := del_map (fun x => Value.map (some x))
    rw [hdel] at m5
    obtain ⟨_, _, _, g4, g5, g6, g7⟩ := hvc.vm_ne
    have hpg2 : sc.pg = over s.pg (pid.toNat * 16) (List.replicate 16 (-2)) := by
      have := pg_ext (s := sc) (t := { s with has := s.has, pg := over s.pg (pid.toNat * 16) (List.replicate 16 (-2)) }) hwc.lp (by rw [over_length]; exact hw.lp) fun q page => by
        rw [hpg, pgOf_end hw p1 p2]
        simp [keysOf]
      exact this
    have hs' : ({ sc with has := sc.has.set pid.toNat false } : VmS) = { s with has := s.has.set pid.toNat false, pg := over s.pg (pid.toNat * 16) (List.replicate 16 (-2)) } := by
      obtain ⟨n', b', has', pg', cp'⟩ := sc
      simp only at e1 e2 e3 e4 hpg2
      subst e1 e2 e3 e4 hpg2
      rfl
    have hmem : ∀ r' ∈ (del pid sl).map (·.2), r' ∈ sl.map (·.2) := fun r' hr' => (del_sub.map _).subset hr'
    have hat : VmAt h5 v m f sb (del pid sl) (refsOf sc.pg) { sc with has := sc.has.set pid.toNat false } := by
      refine ⟨?_, hvc.rl, ?_, m5, fun q r' hr' => ?_, fun q => ?_, ?_⟩
      · rw [st5.frame v (hvc.lt v foot_v) (by simpa using Ne.symm g4)]; exact hvc.vm
      · exact hvc.mem.congr (st5.frame m hvc.mem.ltm (by simpa using Ne.symm g5)) (st5.frame f hvc.mem.ltf (by simpa using Ne.symm g6))
      · obtain ⟨hne, hr2⟩ := lkp_del_snd hvc.keys hr'
        have hlt := hvc.lt r' (foot_r hr2)
        exact ((hvc.pages q r' hr2).congr (st5.frame r' hlt (by simpa using (g7 r' (lkp_snd hr2)).2.2.2))).ext fun page => pgOf_congr rfl q page
      · rw [lkp_del hvc.keys, hasOf_set hwc.lh p1 p2]
        by_cases hq : q = pid
        · rw [if_pos hq, if_pos hq]; rfl
        · rw [if_neg hq, if_neg hq]; exact hvc.has q
      · have hnd := hvc.nd
        rw [List.nodup_cons] at hnd ⊢
        exact ⟨fun hx => hnd.1 (hmem _ hx), hnd.2.sublist (del_sub.map _)⟩
    have hwf : Wf { sc with has := sc.has.set pid.toNat false } := by
      refine ⟨by simp [hwc.lh], hwc.lp, hwc.pgs, fun q page hq => ?_, hwc.le⟩
      rw [hasOf_set hwc.lh p1 p2] at hq
      refine (pgOf_congr (s' := sc) (by rfl) q page).trans ?_
      by_cases hqp : q = pid
      · rw [hpg, if_pos ⟨hqp, by simp [keysOf]⟩]
      · rw [if_neg hqp] at hq; exact hwc.off q page hq
    rw [hs'] at hat hwf
    have er : refsOf sc.pg = refsOf (over s.pg (pid.toNat * 16) (List.replicate 16 (-2))) := by rw [hpg2]
    rw [er] at hat
    refine hK h5 _ ⟨m, f, sb, del pid sl, rfl, hat, hwf⟩ ⟨?_, fun r' h6 h7 => ?_, fun r' h6 => ?_⟩
    · have := stc.size
      have := st5.size
      omega
    · have hne : r' ≠ sb := fun e => h7 (e ▸ foot_sb)
      have hsz := stc.size
      rw [st5.frame r' (by omega) (by simpa using hne), stc.frame r' (by omega) (by simp only [List.mem_cons, not_or]; exact ⟨by omega, h7⟩), st2.frame r' (by omega) (by simp), st1.frame r' (by omega) (by simp)]
    · left
      simp only [foot, List.mem_cons] at h6 ⊢
      rcases h6 with h7 | h7 | h7 | h7 | h7
      · simp [h7]
      · simp [h7]
      · simp [h7]
      · simp [h7]
      · exact .inr (.inr (.inr (.inr (hmem r' h7))))
  · rw [iteP_true]
    have hin : p.1 ∈ keysOf left := (keysOf_perm hperm).mem_iff.2 (by simp [keysOf])
    have hval : ∃ x, p.2 = .int .i64 x := by
      obtain ⟨es, clk, seen, _, _, ee, _, _, el⟩ := it
      have : p ∈ left := hperm.mem_iff.2 (by simp)
      have h6 : (Value.int .i64 p.1, p.2) ∈ left.map fun q => ((.int .i64 q.1 : Value), q.2) := List.mem_map.2 ⟨p, this, rfl⟩
      rw [← el] at h6
      obtain ⟨e0, he0, heq⟩ := List.mem_map.1 h6
      have h7 : (e0.key, e0.val) ∈ es.toList.map fun e => (e.key, e.val) := List.mem_map.2 ⟨e0, (List.mem_filter.1 he0).1, rfl⟩
      rw [ee, heq, ← hL] at h7
      obtain ⟨q, hq, heq2⟩ := List.mem_map.1 h7
      obtain ⟨q0, _, rfl⟩ := List.mem_map.1 hq
      simp only [Prod.mk.injEq] at heq2
      exact ⟨q0.2, heq2.2.symm⟩
    obtain ⟨x, hx⟩ := hval
    have hent := runs_entry (P := Try.prog) cur4
    rw [hx] at hent
    refine ⟨_, _, hent, ?_⟩
    have hsz := stc.size
    have hv4 := hvc.congr (h' := h4) fun r' hr' => st4.frame r' (hvc.lt r' hr') (by simp only [List.mem_singleton]; have := hbl r' hr'; omega)
    have hmap : pgOf sc pid p.1 ≠ -2 := by
      rw [hpg, if_neg (by simp [hin])]
      exact hml _ hin
    obtain ⟨_, _, i3, i4⟩ := pgOf_in hmap
    have hhc : hasOf sc pid = true := by rw [hasOf_congr e4]; exact hh
    refine c_vm_drop hv4 hwc hr hmap fun h5 hv5 st5 z5 st5' => ⟨rfl, ?_⟩
    have hvi : i ≠ v := by have := hbl v foot_v; omega
    have hri : i ≠ r := by have := hbl r (foot_r hr); omega
    have hvb : blk ≠ v := by have := hbl v foot_v; omega
    have hrb : blk ≠ r := by have := hbl r (foot_r hr); omega
    have hi4 : i < h4.size := by omega
    have hb4 : blk < h4.size := by omega
    have it5 := it4.congr (h' := h5) (st5'.frame i hi4 (by simp [hvi, hri])) (st5'.frame blk hb4 (by simp [hvb, hrb]))
    have hkp := keysOf_perm hperm
    have hnl' : (p.1 :: keysOf left').Nodup := hkp.nodup_iff.1 hnl
    rw [List.nodup_cons] at hnl'
    refine ⟨⟨left', setPg sc pid p.1 (-2), it5, hv5, hwc.setPg hhc i3 i4 (by decide) (by have := hwc.pg_le pid p.1; have := hvc.mem.pos; omega), e1, e2, e3, e4, fun q page => ?_, hnl'.2, fun a ha => hml a (hkp.mem_iff.2 (List.mem_cons_of_mem _ ha)), stc.trans ((st4.in1 (by simp)).trans (st5.mono (fun _ hr' => List.mem_cons_of_mem _ hr') fun _ hr' => .inr hr'))⟩, ?_⟩
    · rw [pgOf_setPg hwc p1 p2 i3 i4, hpg]
      by_cases hq : q = pid
      · subst hq
        by_cases hpp : page = p.1
        · subst hpp
          rw [if_pos ⟨rfl, rfl⟩, if_pos ⟨rfl, hnl'.1⟩]
        · rw [if_neg (by rintro ⟨_, h6⟩; exact hpp h6)]
          have hiff : page ∈ keysOf left ↔ page ∈ keysOf left' := by
            rw [hkp.mem_iff]
            show page ∈ p.1 :: keysOf left' ↔ _
            rw [List.mem_cons]
            exact ⟨fun h6 => h6.resolve_left hpp, .inr⟩
          simp only [hiff]
      · rw [if_neg (by rintro ⟨h6, _⟩; exact hq h6), if_neg (by rintro ⟨h6, _⟩; exact hq h6), if_neg (by rintro ⟨h6, _⟩; exact hq h6)]
    · show itLeft h5 i blk < itLeft hc i blk
      rw [it.left, it5.left, hperm.length_eq]; simp
end
end Go.Proofs.Ytmdhfmljgjnggaa
/- What Fill of package vm does. No condition. -/
namespace Go.Proofs.Ytmdhfmljgjnggaa
attribute [local irreducible] semWP
set_option linter.constructorNameAsVariable false
def aloneS (s : VmS) (pid page : Int) : Bool := pgOf s pid page != -1 && cnt (pgOf s pid page) s.pg == 1
/-- Of the pages from one on: how many lie in no frame of their own. -/
def needN (s : VmS) (pid p0 : Int) : Nat → Int
  | 0 => 0
  | k + 1 => needN s pid p0 k + if aloneS s pid (p0 + k) then 0 else 1
def mappedN (s : VmS) (pid p0 : Int) : Nat → Bool
  | 0 => true
  | k + 1 => mappedN s pid p0 k && pgOf s pid (p0 + k) != -2
def pokesS (s : VmS) (pid addr : Int) : List Int → VmS
  | [] => s
  | b :: bs => pokesS (pokeS s pid addr b).2 pid (addr + 1) bs
/-- How many pages some bytes meet. -/
def spanN (addr : Int) (n : Nat) : Nat := ((addr + n - 1) / 32 - addr / 32 + 1).toNat
def fillS (s : VmS) (pid addr : Int) (bs : List Int) : Int × VmS :=
  if hasOf s pid = false then (5, s) else if addr < 0 ∨ 512 ≤ addr ∨ 512 - addr < bs.length then (2, s) else if bs.length = 0 then (0, s) else
  if mappedN s pid (addr / 32) (spanN addr bs.length) = false then (10, s) else if leftS s < needN s pid (addr / 32) (spanN addr bs.length) then (4, s) else (0, pokesS s pid addr bs)
theorem needN_le (s : VmS) (pid p0 : Int) : ∀ k : Nat, 0 ≤ needN s pid p0 k ∧ needN s pid p0 k ≤ k := by
  intro k
  induction k with
  | zero => simp [needN]
  | succ k ih => simp only [needN]; split <;> omega
theorem mappedN_false {s : VmS} {pid p0 : Int} {j : Nat} (hj : pgOf s pid (p0 + j) = -2) : ∀ {k : Nat}, j < k → mappedN s pid p0 k = false := by
  intro k
  induction k with
  | zero => intro h; omega
  | succ k ih =>
    intro h
    simp only [mappedN]
    by_cases hk : j = k
    · subst hk; simp [hj]
    · rw [ih (by omega)]; rfl
theorem pokesS_append (s : VmS) (pid addr : Int) : ∀ (bs : List Int) (b : Int), pokesS s pid addr (bs ++ [b]) = (pokeS (pokesS s pid addr bs) pid (addr + bs.length) b).2 := by
  intro bs
  induction bs generalizing s addr with
  | nil => intro b; simp [pokesS]
  | cons c bs ih =>
    intro b
    simp only [List.cons_append, pokesS]
    rw [ih]
    congr 2
    simp only [List.length_cons]
    omega
section
variable {h : Hp} {v : Nat} {s : VmS} {K : Value → Hp → Prop} {F : List Nat}
theorem c_vm_alone' (hv : VmRep h v s F) {pid page : Int} (hp : pgOf s pid page ≠ -2) (hK : K (.bool (aloneS s pid page)) h) : CallsH Try.prog f_vm_Vm_alone #[.pointer (some ⟨v, 0, none⟩), .int .i64 (pgOf s pid page)] h K := by
  obtain ⟨m, f, sb, sl, rfl, hv, hw⟩ := hv
  have hle := hw.pg_le pid page
  have h64 := hw.le
  refine c_vm_alone hv _ (by omega) (by omega) ?_
  unfold aloneS at hK
  by_cases hc : pgOf s pid page = -1
  · simpa [hc] using hK
  · have hg := refsOf_get (pg := s.pg) (f := (pgOf s pid page).toNat) (by omega)
    rw [show (((pgOf s pid page).toNat : Nat) : Int) = pgOf s pid page by omega] at hg
    rw [hg]
    exact hK
theorem VmRep.space (hv : VmRep h v s F) {pid : Int} {r : Nat} (hr : ∃ m f sb sl, F = foot v m f sb sl ∧ VmAt h v m f sb sl (refsOf s.pg) s ∧ lkp pid sl = some r) (page : Int) :
    RunsTo Try.prog (Instr.lookup T_N_vm_space (.map (some r)) (.int .i64 page) true) h (.tuple #[.int .i64 (if pgOf s pid page = -2 then 0 else pgOf s pid page), .bool (pgOf s pid page != -2)]) := by
  obtain ⟨m, f, sb, sl, _, hva, hl⟩ := hr
  exact (hva.pages pid r hl).look2 page
set_option maxHeartbeats 1000000 in
theorem c_vm_Fill (hv : VmRep h v s F) (pid addr : Int) {p : Option Addr} {n c B : Nat} {bs : List Int} (hs : RdAt h p (bs.map (.int .u8)) B) (hbn : bs.length = n) (hB : B ≤ h.size) (hG : ∀ q ∈ F, B ≤ q)
    (hK : ∀ h' F', VmRep h' v (fillS s pid addr bs).2 F' → Step h h' F F' → K (.int .i64 (fillS s pid addr bs).1) h') :
    CallsH Try.prog f_vm_Vm_Fill #[.pointer (some ⟨v, 0, none⟩), .int .i64 pid, .int .i64 addr, .slice p n c] h K := by
  have hv0 := hv
  obtain ⟨m, f, sb, sl, rfl, hva, hw⟩ := hv
  refine q_vm_Vm_Fill_calls v pid addr p n c h K ?_
  unfold q_vm_Vm_Fill
  unfold fillS at hK
  rw [hbn] at hK
  refine c_vm_of hva pid (fun hh => ⟨_, _, rfl, iteP_ne (by decide) ?_⟩) fun r hh hr => ⟨_, _, rfl, iteP_nne rfl ?_⟩
  · rw [if_pos hh] at hK; exact hK h _ hv0 (Step.refl _ _)
  rw [if_neg (by simp [hh])] at hK
  have hbad : (addr < 0 ∨ 512 ≤ addr ∨ 512 - addr < n) → K (.int .i64 2) h := fun hx => by
    rw [if_pos hx] at hK; exact hK h _ hv0 (Step.refl _ _)
  refine iteP_cases (fun h1 => hbad (.inl h1)) fun h1 => iteP_cases (fun h2 => hbad (.inr (.inl h2))) fun h2 => ?_
  rw [wrap64 (x := 512 - addr) (by omega) (by omega)]
  refine iteP_cases (fun h3 => hbad (.inr (.inr h3))) fun h3 => ?_
  rw [if_neg (by omega)] at hK
  refine iteP_eqc (fun h4 => ?_) fun h4 => ?_
  · rw [if_pos (by omega)] at hK; exact hK h _ hv0 (Step.refl _ _)
  rw [if_neg (by omega)] at hK
  have ed : IntKind.wrap .i64 (Int.tdiv addr 32) = addr / 32 := tdiv32 (by omega) (by omega)
  have ee : IntKind.wrap .i64 (Int.tdiv (IntKind.wrap .i64 ((IntKind.wrap .i64 (addr + (n : Int))) - 1)) 32) = (addr + n - 1) / 32 := by
    rw [wrap64 (x := addr + (n : Int)) (by omega) (by omega), wrap64 (x := addr + (n : Int) - 1) (by omega) (by omega)]
    exact tdiv32 (by omega) (by omega)
  rw [ed, ee]
  have hsp : (spanN addr n : Int) = (addr + n - 1) / 32 - addr / 32 + 1 := by unfold spanN; omega
  generalize hq0 : addr / 32 = q0 at *
  generalize hq1 : (addr + (n : Int) - 1) / 32 = q1 at *
  have hb0 : 0 ≤ q0 := by omega
  have hb1 : q1 < 16 := by omega
  refine ⟨fun a i h' => h = h' ∧ q0 ≤ i ∧ i ≤ q1 + 1 ∧ a = needN s pid q0 (i - q0).toNat ∧ mappedN s pid q0 (i - q0).toNat = true, fun _ i _ => (q1 + 1 - i).toNat, ⟨rfl, by omega, by omega, by simp [needN], by simp [mappedN]⟩, ?_⟩
  rintro a i _ ⟨rfl, i0, i1, rfl, hmp⟩
  have hnl := needN_le s pid q0 (i - q0).toNat
  refine iteP_cases (fun hi => ?_) fun hi => ?_
  · have hstep : (i + 1 - q0).toNat = (i - q0).toNat + 1 := by omega
    have hpi : q0 + (((i - q0).toNat : Nat) : Int) = i := by omega
    refine ⟨_, _, hv0.space ⟨m, f, sb, sl, rfl, hva, hr⟩ i, ?_⟩
    by_cases hp : pgOf s pid i = -2
    · refine iteP_t (by simp [hp]) ?_
      have := mappedN_false (s := s) (pid := pid) (p0 := q0) (j := (i - q0).toNat) (by rw [hpi]; exact hp) (k := spanN addr n) (by omega)
      rw [if_pos this] at hK
      exact hK h _ hv0 (Step.refl _ _)
    · refine iteP_f (by simpa using hp) ?_
      rw [if_neg hp]
      have hm2 : mappedN s pid q0 (i + 1 - q0).toNat = true := by
        rw [hstep]; simp only [mappedN, hmp, hpi]; simpa using hp
      refine c_vm_alone' hv0 hp ⟨_, rfl, ?_⟩
      rw [wrap64 (x := i + 1) (by omega) (by omega), wrap64 (x := needN s pid q0 (i - q0).toNat + 1) (by omega) (by omega)]
      have hmu : (q1 + 1 - (i + 1)).toNat < (q1 + 1 - i).toNat := by omega
      refine iteP_split (fun ha => ⟨⟨rfl, by omega, by omega, ?_, hm2⟩, hmu⟩) fun ha => ⟨⟨rfl, by omega, by omega, ?_, hm2⟩, hmu⟩
      · rw [hstep]; simp only [needN, hpi]
        rw [if_neg (by simpa using ha)]
      · rw [hstep]; simp only [needN, hpi]
        rw [if_pos (by simpa using ha)]; omega
  · have hk : (i - q0).toNat = spanN addr n := by omega
    rw [hk] at hmp ⊢
    rw [if_neg (by simp [hmp])] at hK
    refine c_vm_Left hv0 ⟨_, rfl, iteP_cases (fun hl => ?_) fun hl => ?_⟩
    · rw [if_pos hl] at hK; exact hK h _ hv0 (Step.refl _ _)
    rw [if_neg hl] at hK
    refine ⟨fun j hc => ∃ F', 0 ≤ j ∧ j ≤ n ∧ VmRep hc v (pokesS s pid addr (bs.take j.toNat)) F' ∧ Step h hc (foot v m f sb sl) F', fun j _ => ((n : Int) - j).toNat, ⟨_, by omega, by omega, hv0, Step.refl _ _⟩, ?_⟩
    rintro j hc ⟨F', j0, j1, hvc, stc⟩
    refine iteP_cases (fun hj => ⟨j0, hj, ?_⟩) fun hj => ?_
    · have hjl : j.toNat < bs.length := by omega
      obtain ⟨a, rfl, ha, hcell⟩ := hs.low (Low.step stc hB hG) j.toNat (.int .u8 bs[j.toNat]) (by rw [List.getElem?_map, List.getElem?_eq_getElem hjl]; rfl)
      rw [wth_some, Nat.mul_one]
      refine ⟨_, hcell, ?_⟩
      rw [wrap64 (x := addr + j) (by omega) (by omega), wrap64 (x := j + 1) (by omega) (by omega)]
      refine c_vm_Poke hvc pid (addr + j) _ fun h5 F5 v5 st5 => ⟨_, rfl, ⟨F5, by omega, by omega, ?_, stc.trans st5⟩, by show ((n : Int) - (j + 1)).toNat < ((n : Int) - j).toNat; omega⟩
      have e : bs.take (j + 1).toNat = bs.take j.toNat ++ [bs[j.toNat]] := by
        rw [show (j + 1).toNat = j.toNat + 1 by omega, List.take_add_one, List.getElem?_eq_getElem hjl]; rfl
      rw [e, pokesS_append, List.length_take, Nat.min_eq_left (by omega), show ((j.toNat : Nat) : Int) = j by omega]
      exact v5
    · have : bs.take j.toNat = bs := by rw [List.take_of_length_le]; omega
      rw [this] at hvc
      exact hK hc F' hvc stc
end
end Go.Proofs.Ytmdhfmljgjnggaa
