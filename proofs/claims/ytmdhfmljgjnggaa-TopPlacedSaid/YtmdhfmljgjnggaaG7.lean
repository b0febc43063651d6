/- The texts CExt3 CExt4 Qfile CDev, one behind the other. No condition. -/
import Derived.Test.YtmdhfmljgjnggaaG6
import Derived.Test.YtmdhfmljgjnggaaG4
/- Package extent: one laid in, one taken out. No condition. -/
namespace Go.Proofs.Ytmdhfmljgjnggaa
attribute [local irreducible] semWP
set_option linter.constructorNameAsVariable false
/-- A cell that leads to links. -/
def ChAt (h : Hp) (b o : Nat) (E : List (Int × Int)) (bl : List Nat) : Prop := ∃ p, cellAt h ⟨b, o, none⟩ = some (.pointer p) ∧ LkAt h p E bl
/-- The cell behind some links. -/
def atEnd : Nat → Nat → List Nat → Nat × Nat
  | b, o, [] => (b, o)
  | _, _, b :: bl => atEnd b 6 bl
theorem atEnd_mem : ∀ {bl : List Nat} {b o : Nat}, (atEnd b o bl).1 = b ∧ bl = [] ∨ (atEnd b o bl).1 ∈ bl := by
  intro bl
  induction bl with
  | nil => intro b o; exact .inl ⟨rfl, rfl⟩
  | cons c bl ih =>
    intro b o
    right
    rcases ih (b := c) (o := 6) with ⟨h, _⟩ | h
    · show (atEnd c 6 bl).1 ∈ c :: bl; rw [h]; simp
    · exact List.mem_cons_of_mem _ h
theorem ChAt.split {h : Hp} : ∀ {E1 E2 : List (Int × Int)} {bl1 bl2 : List Nat} {b o : Nat}, bl1.length = E1.length → ChAt h b o (E1 ++ E2) (bl1 ++ bl2) → ChAt h (atEnd b o bl1).1 (atEnd b o bl1).2 E2 bl2 := by
  intro E1
  induction E1 with
  | nil =>
    intro E2 bl1 bl2 b o hl hc
    have : bl1 = [] := List.eq_nil_of_length_eq_zero hl
    subst this
    exact hc
  | cons x E1 ih =>
    intro E2 bl1 bl2 b o hl hc
    obtain ⟨p, hp, b', next, bl', rfl, hbl, hb, hn⟩ := hc
    cases bl1 with
    | nil => simp at hl
    | cons c bl1 =>
      simp only [List.cons_append, List.cons.injEq] at hbl
      obtain ⟨rfl, rfl⟩ := hbl
      exact ih (b := c) (o := 6) (bl1 := bl1) (by simpa using hl) ⟨next, cellB hb rfl, hn⟩
theorem ChAt.blk {h : Hp} {c0 : Array Value} {e0 : TypeId} : ∀ {E1 E2 : List (Int × Int)} {bl1 bl2 : List Nat} {b o : Nat}, h[b]? = some (.cells c0 e0 (0, 0)) → bl1.length = E1.length → ChAt h b o (E1 ++ E2) (bl1 ++ bl2) → ∃ c e, h[(atEnd b o bl1).1]? = some (.cells c e (0, 0)) := by
  intro E1
  induction E1 generalizing c0 e0 with
  | nil =>
    intro E2 bl1 bl2 b o h0 hl hc
    have : bl1 = [] := List.eq_nil_of_length_eq_zero hl
    subst this
    exact ⟨_, _, h0⟩
  | cons x E1 ih =>
    intro E2 bl1 bl2 b o h0 hl hc
    obtain ⟨p, hp, b', next, bl', rfl, hbl, hb, hn⟩ := hc
    cases bl1 with
    | nil => simp at hl
    | cons c bl1 =>
      simp only [List.cons_append, List.cons.injEq] at hbl
      obtain ⟨rfl, rfl⟩ := hbl
      exact ih (b := c) (o := 6) (bl1 := bl1) hb (by simpa using hl) ⟨next, cellB hb rfl, hn⟩
theorem ChAt.relink {h h' : Hp} {q : Option Addr} {E2' : List (Int × Int)} {bl2' : List Nat} : ∀ {E1 E2 : List (Int × Int)} {bl1 bl2 : List Nat} {b o : Nat}, bl1.length = E1.length → ChAt h b o (E1 ++ E2) (bl1 ++ bl2) → (b :: bl1).Nodup →
    (∀ r, r ≠ (atEnd b o bl1).1 → h'[r]? = h[r]?) → (∃ c e, h[(atEnd b o bl1).1]? = some (.cells c e (0, 0)) ∧ h'[(atEnd b o bl1).1]? = some (.cells (c.setIfInBounds (atEnd b o bl1).2 (.pointer q)) e (0, 0))) → LkAt h' q E2' bl2' → ChAt h' b o (E1 ++ E2') (bl1 ++ bl2') := by
  intro E1
  induction E1 with
  | nil =>
    intro E2 bl1 bl2 b o hl hc hnd ho hset hq
    have : bl1 = [] := List.eq_nil_of_length_eq_zero hl
    subst this
    obtain ⟨c, e, h1, h2⟩ := hset
    obtain ⟨p, hp, _⟩ := hc
    refine ⟨q, ?_, hq⟩
    have h1' : h[b]? = some (.cells c e (0, 0)) := h1
    have h2' : h'[b]? = some (.cells (c.setIfInBounds o (.pointer q)) e (0, 0)) := h2
    rw [cellAt_cells h1'] at hp
    have hlt := (Array.getElem?_eq_some_iff.1 hp).1
    rw [cellAt_cells h2']
    simp [hlt]
  | cons x E1 ih =>
    intro E2 bl1 bl2 b o hl hc hnd ho hset hq
    obtain ⟨p, hp, b', next, bl', rfl, hbl, hb, hn⟩ := hc
    cases bl1 with
    | nil => simp at hl
    | cons c bl1 =>
      simp only [List.cons_append, List.cons.injEq] at hbl
      obtain ⟨rfl, rfl⟩ := hbl
      rw [List.nodup_cons] at hnd
      obtain ⟨p', hp', hl'⟩ := ih (by simpa using hl) ⟨next, cellB hb rfl, hn⟩ hnd.2 ho hset hq
      have hne : b ≠ (atEnd c 6 bl1).1 := by
        intro e
        rcases atEnd_mem (bl := bl1) (b := c) (o := 6) with ⟨h1, _⟩ | h1
        · exact hnd.1 (by rw [e, h1]; simp)
        · exact hnd.1 (by rw [e]; exact List.mem_cons_of_mem _ h1)
      refine ⟨some ⟨c, 0, none⟩, by rw [cellAt_same (ho b hne)]; exact hp, c, p', _, rfl, rfl, ?_, hl'⟩
      by_cases hce : c = (atEnd c 6 bl1).1
      · have hbl1 : bl1 = [] := by
          rcases atEnd_mem (bl := bl1) (b := c) (o := 6) with ⟨_, h1⟩ | h1
          · exact h1
          · rw [← hce] at h1
            rw [List.nodup_cons] at hnd
            exact (hnd.2.1 h1).elim
        subst hbl1
        obtain ⟨c1, e1, g1, g2⟩ := hset
        have g1' : h[c]? = some (.cells c1 e1 (0, 0)) := g1
        have g2' : h'[c]? = some (.cells (c1.setIfInBounds 6 (.pointer q)) e1 (0, 0)) := g2
        rw [hb] at g1'
        cases g1'
        have g3 : h'[c]? = some (.cells ⟨ext6 x ++ [.pointer q]⟩ T_N_extent_link_api_Extent (0, 0)) := g2'
        have : cellAt h' ⟨c, 6, none⟩ = some (.pointer q) := cellB g3 rfl
        rw [this] at hp'
        cases hp'
        exact g3
      · have h2 : h'[c]? = some (.cells ⟨ext6 x ++ [.pointer next]⟩ T_N_extent_link_api_Extent (0, 0)) := by rw [ho c hce]; exact hb
        have : cellAt h' ⟨c, 6, none⟩ = some (.pointer next) := cellB h2 rfl
        rw [this] at hp'
        cases hp'
        exact h2
def delE (id : Int) : List (Int × Int) → List (Int × Int)
  | [] => []
  | x :: E => if x.2 = id then E else x :: delE id E
def insE (x : Int × Int) : List (Int × Int) → List (Int × Int)
  | [] => [x]
  | y :: E => if x.1 < y.1 then x :: y :: E else y :: insE x E
theorem delE_none {id : Int} : ∀ {E : List (Int × Int)}, (∀ x ∈ E, x.2 ≠ id) → delE id E = E := by
  intro E
  induction E with
  | nil => intro _; rfl
  | cons x E ih => intro h; simp only [delE, if_neg (h x (by simp)), ih fun y hy => h y (by simp [hy])]
theorem delE_at {id : Int} {x : Int × Int} {E2 : List (Int × Int)} (hx : x.2 = id) : ∀ {E1 : List (Int × Int)}, (∀ x ∈ E1, x.2 ≠ id) → delE id (E1 ++ x :: E2) = E1 ++ E2 := by
  intro E1
  induction E1 with
  | nil => intro _; simp [delE, hx]
  | cons y E ih => intro h; simp only [List.cons_append, delE, if_neg (h y (by simp)), ih fun y hy => h y (by simp [hy])]
theorem insE_at {x : Int × Int} {E2 : List (Int × Int)} (h2 : ∀ y, E2.head? = some y → x.1 < y.1) : ∀ {E1 : List (Int × Int)}, (∀ y ∈ E1, ¬ x.1 < y.1) → insE x (E1 ++ E2) = E1 ++ x :: E2 := by
  intro E1
  induction E1 with
  | nil =>
    intro _
    cases E2 with
    | nil => rfl
    | cons y E2 => simp only [List.nil_append, insE, if_pos (h2 y rfl)]
  | cons y E ih => intro h; simp only [List.cons_append, insE, if_neg (h y (by simp)), ih fun y hy => h y (by simp [hy])]
theorem insE_length (x : Int × Int) : ∀ E : List (Int × Int), (insE x E).length = E.length + 1 := by
  intro E
  induction E with
  | nil => rfl
  | cons y E ih => simp only [insE]; split <;> simp [ih]
/-- How many links follow the cell to which a pointer leads. -/
def chainC (h : Hp) (p : Option Addr) : Nat := match p with
  | none => 0
  | some a => match cellAt h a with
    | some (.pointer q) => chainN 25 h q
    | _ => 0
theorem ChAt.chain {h : Hp} {b o : Nat} {E : List (Int × Int)} {bl : List Nat} (hc : ChAt h b o E bl) (hl : E.length < 25) : chainC h (some ⟨b, o, none⟩) = E.length := by
  obtain ⟨p, hp, hk⟩ := hc
  simp only [chainC, hp]
  exact hk.chain hl
theorem ChAt.congr {h h' : Hp} {b o : Nat} {E : List (Int × Int)} {bl : List Nat} (hc : ChAt h b o E bl) (hb : h'[b]? = h[b]?) (he : ∀ q ∈ bl, h'[q]? = h[q]?) : ChAt h' b o E bl := by
  obtain ⟨p, hp, hk⟩ := hc
  exact ⟨p, by rw [cellAt_same hb]; exact hp, hk.congr he⟩
theorem atEnd_append {b o : Nat} {bl : List Nat} {c : Nat} : atEnd b o (bl ++ [c]) = (c, 6) := by
  induction bl generalizing b o with
  | nil => rfl
  | cons d bl ih => exact ih
section
variable {h h' : Hp} {t b : Nat} {k last id : Int} {E : List (Int × Int)} {F : List Nat} {K : Value → Hp → Prop}
theorem TabAt.ch {t : Nat} {k last : Int} {E : List (Int × Int)} {p : Option Addr} {bl : List Nat} (ht : h[t]? = some (.cells #[.int .i64 k, .pointer p, .int .i64 (E.length : Int), .int .u32 last] T_N_extent_Table (0, 0))) (hl : LkAt h p E bl) : ChAt h t 1 E bl := ⟨p, cellB ht rfl, hl⟩
/-- The table, one of its links led elsewhere. -/
theorem tab_relink {g : Hp} {p q : Option Addr} {E1 E2 E2' : List (Int × Int)} {bl1 bl2 bl2' : List Nat} {n : Int} (ht : g[t]? = some (.cells #[.int .i64 k, .pointer p, .int .i64 n, .int .u32 last] T_N_extent_Table (0, 0))) (hl : LkAt g p (E1 ++ E2) (bl1 ++ bl2)) (hlen : bl1.length = E1.length) (hnd : (t :: bl1).Nodup)
    (hq : LkAt g q E2' bl2') (hd : ∀ r ∈ bl2', r ∉ t :: bl1) {K : Hp → Prop} (hK : ∀ g' p', g'[t]? = some (.cells #[.int .i64 k, .pointer p', .int .i64 n, .int .u32 last] T_N_extent_Table (0, 0)) → LkAt g' p' (E1 ++ E2') (bl1 ++ bl2') → Step g g' (t :: bl1) (t :: bl1) → g'.size = g.size → K g') :
    (∃ old, cellAt g ⟨(atEnd t 1 bl1).1, (atEnd t 1 bl1).2, none⟩ = some old) ∧ frozenAt g ⟨(atEnd t 1 bl1).1, (atEnd t 1 bl1).2, none⟩ = false ∧ letH (setH g ⟨(atEnd t 1 bl1).1, (atEnd t 1 bl1).2, none⟩ (.pointer q)) K := by
  have hc : ChAt g t 1 (E1 ++ E2) (bl1 ++ bl2) := ⟨p, cellB ht rfl, hl⟩
  obtain ⟨c, e, hb⟩ := hc.blk ht hlen
  obtain ⟨p2, hp2, _⟩ := hc.split hlen
  have hin : (atEnd t 1 bl1).1 ∈ t :: bl1 := by
    rcases atEnd_mem (bl := bl1) (b := t) (o := 1) with ⟨h1, _⟩ | h1
    · rw [h1]; simp
    · exact List.mem_cons_of_mem _ h1
  refine ⟨⟨_, hp2⟩, frozenAt_cells hb, letH_iff.2 ?_⟩
  have st : Step g (setH g ⟨(atEnd t 1 bl1).1, (atEnd t 1 bl1).2, none⟩ (.pointer q)) (t :: bl1) (t :: bl1) := Step.setH hin
  have ho : ∀ r, r ≠ (atEnd t 1 bl1).1 → (setH g ⟨(atEnd t 1 bl1).1, (atEnd t 1 bl1).2, none⟩ (.pointer q))[r]? = g[r]? := fun r hr => setH_other hr
  have hs := setH_same (o := (atEnd t 1 bl1).2) (v := .pointer q) hb
  have hz := setH_size g ⟨(atEnd t 1 bl1).1, (atEnd t 1 bl1).2, none⟩ (.pointer q)
  generalize setH g ⟨(atEnd t 1 bl1).1, (atEnd t 1 bl1).2, none⟩ (.pointer q) = g' at *
  have hq' : LkAt g' q E2' bl2' := hq.congr fun r hr => ho r fun e => hd r hr (e ▸ hin)
  obtain ⟨p', hp', hl'⟩ := hc.relink hlen hnd ho ⟨c, e, hb, hs⟩ hq'
  refine hK g' p' ?_ hl' st hz
  by_cases hte : t = (atEnd t 1 bl1).1
  · have hbl1 : bl1 = [] := by
      rcases atEnd_mem (bl := bl1) (b := t) (o := 1) with ⟨_, h1⟩ | h1
      · exact h1
      · rw [← hte] at h1
        rw [List.nodup_cons] at hnd
        exact (hnd.1 h1).elim
    subst hbl1
    have hb' : g[t]? = some (.cells c e (0, 0)) := hb
    have hs' : g'[t]? = some (.cells (c.setIfInBounds 1 (.pointer q)) e (0, 0)) := hs
    rw [ht] at hb'
    cases hb'
    have g3 : g'[t]? = some (.cells #[.int .i64 k, .pointer q, .int .i64 n, .int .u32 last] T_N_extent_Table (0, 0)) := hs'
    have : cellAt g' ⟨t, 1, none⟩ = some (.pointer q) := cellB g3 rfl
    rw [this] at hp'
    cases hp'
    exact g3
  · have h2 := ho t hte
    rw [ht] at h2
    have : cellAt g' ⟨t, 1, none⟩ = some (.pointer p) := cellB h2 rfl
    rw [this] at hp'
    cases hp'
    exact h2
set_option maxHeartbeats 1000000 in
theorem c_remove (ha : TabAt h t k E last F) (hE : E.length ≤ 24) (hb : h[b]? = some (.cells #[.int .u32 id] T_uint32 (0, 0)))
    (hK : ∀ h' F', TabAt h' t k (delE id E) last F' → Step h h' F F' → K (.tuple #[]) h') :
    CallsH Try.prog f_extent_list_api_Extent_remove #[.pointer (some ⟨t, 1, none⟩), .func (.func f_extent_numbered_1) #[] #[.pointer (some ⟨b, 0, none⟩)]] h K := by
  have ha0 := ha
  obtain ⟨p, bl, rfl, ht, hl, hnd⟩ := ha
  refine q_extent_list_api_Extent_remove_num_calls t b h K ?_
  unfold q_extent_list_api_Extent_remove_num
  refine ⟨fun q g => ∃ E1 E2 bl1 bl2, E = E1 ++ E2 ∧ bl = bl1 ++ bl2 ∧ bl1.length = E1.length ∧ q = some ⟨(atEnd t 1 bl1).1, (atEnd t 1 bl1).2, none⟩ ∧ (∀ x ∈ E1, x.2 ≠ id) ∧ Ext h g, fun q g => chainC g q, ⟨[], E, [], bl, rfl, rfl, rfl, rfl, by simp, Step.refl _ _⟩, ?_⟩
  rintro q g ⟨E1, E2, bl1, bl2, rfl, rfl, hlen, rfl, hne, xg⟩
  have hlen2 : (E1 ++ E2).length ≤ 24 := hE
  simp only [List.length_append] at hlen2
  have hch : ∀ {g' : Hp}, Ext h g' → ChAt g' t 1 (E1 ++ E2) (bl1 ++ bl2) := fun x => ⟨p, cellB (x.at ht) rfl, hl.congr fun q hq => x.same (hl.lt q hq)⟩
  have hnd1 : (t :: bl1).Nodup := hnd.sublist ((List.sublist_append_left bl1 bl2).cons_cons t)
  have hsp := (hch xg).split hlen
  have hm1 := hsp.chain (by omega)
  obtain ⟨q2, hq2, hl2⟩ := hsp
  simp only [wth_some]
  refine ⟨_, hq2, ?_⟩
  cases E2 with
  | nil =>
    obtain ⟨rfl, rfl⟩ := hl2
    refine iteP_f rfl (hK g (t :: (bl1 ++ [])) ?_ (Step.ext xg fun _ hr => hr))
    rw [delE_none (by simpa using hne)]
    exact ha0.ext xg
  | cons x E2 =>
    obtain ⟨blk, next, bl2, rfl, rfl, hblk, hl2⟩ := hl2
    refine iteP_t rfl ⟨_, hq2, ?_⟩
    simp only [wth_some]
    refine ⟨_, cellB hblk rfl, _, cellBa hblk rfl, _, cellBa hblk rfl, _, cellBa hblk rfl, _, cellBa hblk rfl, _, cellBa hblk rfl, c_num1 x (xg.at hb) fun g2 x2 => ⟨_, rfl, ?_⟩⟩
    have x2' : Ext h g2 := xg.trans x2
    have hq2' : cellAt g2 ⟨(atEnd t 1 bl1).1, (atEnd t 1 bl1).2, none⟩ = some (.pointer (some ⟨blk, 0, none⟩)) := Ext.cell x2 hq2
    have hl2' := hl2.congr fun q hq => x2.same (hl2.lt q hq)
    refine iteP_eqc (fun he => ?_) fun he => ⟨_, hq2', ?_⟩
    · refine ⟨_, hq2', _, cellBa (x2.at hblk) rfl, ?_⟩
      have hdisj : ∀ r ∈ bl2, r ∉ t :: bl1 := fun r hr hr2 => by
        have := hnd
        rw [← List.cons_append, List.nodup_append] at this
        exact this.2.2 r hr2 r (List.mem_cons_of_mem _ hr) rfl
      have hl3 : LkAt g2 p (E1 ++ x :: E2) (bl1 ++ blk :: bl2) := hl.congr fun q hq => x2'.same (hl.lt q hq)
      refine tab_relink (x2'.at ht) hl3 hlen hnd1 hl2' hdisj fun g3 p3 ht3 hl4 st3 z3 => ⟨_, cellB ht3 rfl, ?_⟩
      refine setB ht3 (by simp) fun g4 b4 st4 z4 => ?_
      have e4 : g4[t]? = some (.cells #[.int .i64 k, .pointer p3, .int .i64 ((E1 ++ E2).length : Int), .int .u32 last] T_N_extent_Table (0, 0)) := by
        rw [b4]
        have : IntKind.wrap .i64 (((E1 ++ x :: E2).length : Int) - 1) = ((E1 ++ E2).length : Int) := by
          simp only [List.length_append, List.length_cons] at hlen2 ⊢
          rw [wrap64 (by omega) (by omega)]; omega
        rw [this]; rfl
      have hnd4 : (t :: (bl1 ++ bl2)).Nodup := hnd.sublist (((List.Sublist.refl bl1).append (List.sublist_cons_self blk bl2)).cons_cons t)
      have ht4 : t ∉ bl1 ++ bl2 := (List.nodup_cons.1 hnd4).1
      refine hK g4 (t :: (bl1 ++ bl2)) ?_ ?_
      · rw [delE_at he hne]
        exact ⟨p3, bl1 ++ bl2, rfl, e4, hl4.congr fun q hq => st4.frame q (by have := hl4.lt q hq; omega) (by simp; rintro rfl; exact ht4 hq), hnd4⟩
      · have s1 : Step h g2 (t :: (bl1 ++ blk :: bl2)) (t :: (bl1 ++ blk :: bl2)) := Step.ext x2' fun _ hr => hr
        have s2 : Step g2 g3 (t :: (bl1 ++ blk :: bl2)) (t :: (bl1 ++ blk :: bl2)) := st3.mono (fun r hr => by rcases List.mem_cons.1 hr with h5 | h5 <;> simp [h5]) fun r hr => .inr hr
        have s3 : Step g3 g4 (t :: (bl1 ++ blk :: bl2)) (t :: (bl1 ++ bl2)) := st4.mono (fun r hr => by simp only [List.mem_singleton] at hr; simp [hr]) fun r hr => .inr (by rcases List.mem_cons.1 hr with h5 | h5; (simp [h5]); (rcases List.mem_append.1 h5 with h6 | h6 <;> simp [h6]))
        exact s1.trans (s2.trans s3)
    · refine ⟨⟨E1 ++ [x], E2, bl1 ++ [blk], bl2, by simp, by simp, by simp [hlen], by rw [atEnd_append]; rfl, ?_, x2'⟩, ?_⟩
      · intro y hy
        rcases List.mem_append.1 hy with hy | hy
        · exact hne y hy
        · simp at hy; rw [hy]; exact he
      · have hc2 : ChAt g2 blk 6 E2 bl2 := ⟨next, cellB (x2.at hblk) rfl, hl2'⟩
        have hm2 := hc2.chain (by simp only [List.length_cons] at hlen2; omega)
        show chainC g2 (some ((⟨blk, 0, none⟩ : Addr).add 6)) < chainC g (some ⟨(atEnd t 1 bl1).1, (atEnd t 1 bl1).2, none⟩)
        rw [hm1, Addr.add_mk]
        rw [show (0 + 6) = 6 from rfl, hm2]
        simp
end
end Go.Proofs.Ytmdhfmljgjnggaa
/- Package extent: a sector is given, and given up. No condition. -/
namespace Go.Proofs.Ytmdhfmljgjnggaa
attribute [local irreducible] semWP
set_option linter.constructorNameAsVariable false
section
variable {h h' : Hp} {t b : Nat} {k last id : Int} {E : List (Int × Int)} {F : List Nat} {K : Value → Hp → Prop}
set_option maxHeartbeats 1000000 in
theorem c_insert (ha : TabAt h t k E last F) (hE : E.length ≤ 23) (x : Int × Int) (hK : ∀ h' F', TabAt h' t k (insE x E) last F' → Step h h' F F' → K (.tuple #[]) h') :
    CallsH Try.prog f_extent_list_api_Extent_insert #[.pointer (some ⟨t, 1, none⟩), .agg #[.int .u32 x.2, .int .i64 x.1, .int .i64 1, .int .u8 0, .string ⟨#[47]⟩, .int .u8 0], .func (.func f_extent_ahead) #[] #[]] h K := by
  have ha0 := ha
  obtain ⟨p, bl, rfl, ht, hl, hnd⟩ := ha
  refine q_extent_list_api_Extent_insert_at_calls t _ _ _ _ _ _ h K ?_
  unfold q_extent_list_api_Extent_insert_at
  refine newB fun h1 b1 x1 z1 => ?_
  have hltF : ∀ q ∈ t :: bl, q < h.size := ha0.lt
  refine ⟨fun q g => ∃ E1 E2 bl1 bl2, E = E1 ++ E2 ∧ bl = bl1 ++ bl2 ∧ bl1.length = E1.length ∧ q = some ⟨(atEnd t 1 bl1).1, (atEnd t 1 bl1).2, none⟩ ∧ (∀ y ∈ E1, ¬ x.1 < y.1) ∧ Ext h1 g, fun q g => chainC g q, ⟨[], E, [], bl, rfl, rfl, rfl, rfl, by simp, Step.refl _ _⟩, ?_⟩
  rintro q g ⟨E1, E2, bl1, bl2, rfl, rfl, hlen, rfl, hne, xg⟩
  have hlen2 : (E1 ++ E2).length ≤ 23 := hE
  simp only [List.length_append] at hlen2
  have hch : ∀ {g' : Hp}, Ext h g' → ChAt g' t 1 (E1 ++ E2) (bl1 ++ bl2) := fun x => ⟨p, cellB (x.at ht) rfl, hl.congr fun q hq => x.same (hl.lt q hq)⟩
  have hnd1 : (t :: bl1).Nodup := hnd.sublist ((List.sublist_append_left bl1 bl2).cons_cons t)
  have xhg : Ext h g := x1.trans xg
  have hsp := (hch xhg).split hlen
  have hm1 := hsp.chain (by omega)
  obtain ⟨q2, hq2, hl2⟩ := hsp
  have fin : ∀ {g2 : Hp}, Ext h1 g2 → (∀ y, E2.head? = some y → x.1 < y.1) → cellAt g2 ⟨(atEnd t 1 bl1).1, (atEnd t 1 bl1).2, none⟩ = some (.pointer q2) → LkAt g2 q2 E2 bl2 →
      letH (g2.push (.cells #[.int .u32 x.2, .int .i64 x.1, .int .i64 1, .int .u8 0, .string ⟨#[47]⟩, .int .u8 0, .pointer q2] T_N_extent_link_api_Extent)) fun h37 =>
        (∃ old, cellAt h37 ⟨(atEnd t 1 bl1).1, (atEnd t 1 bl1).2, none⟩ = some old) ∧ frozenAt h37 ⟨(atEnd t 1 bl1).1, (atEnd t 1 bl1).2, none⟩ = false ∧ letH (setH h37 ⟨(atEnd t 1 bl1).1, (atEnd t 1 bl1).2, none⟩ (.pointer (some ⟨g2.size, 0, none⟩))) fun h39 =>
          ∃ n40 : Int, cellAt h39 ⟨t, 2, none⟩ = some (.int .i64 n40) ∧ (∃ old, cellAt h39 ⟨t, 2, none⟩ = some old) ∧ frozenAt h39 ⟨t, 2, none⟩ = false ∧ letH (setH h39 ⟨t, 2, none⟩ (.int .i64 (IntKind.wrap .i64 (n40 + 1)))) fun h41 => K (.tuple #[]) h41 := by
    intro g2 x2 hhd hc2 hl2
    have xh2 : Ext h g2 := x1.trans x2
    refine newB fun g3 b3 x3 z3 => ?_
    have x23 : Ext h g3 := xh2.trans x3
    have hl3 : LkAt g3 p (E1 ++ E2) (bl1 ++ bl2) := hl.congr fun q hq => x23.same (hl.lt q hq)
    have hnew : LkAt g3 (some ⟨g2.size, 0, none⟩) (x :: E2) (g2.size :: bl2) := ⟨g2.size, q2, bl2, rfl, rfl, b3, hl2.congr fun q hq => x3.same (hl2.lt q hq)⟩
    have hbig : ∀ q ∈ t :: (bl1 ++ bl2), q ≠ g2.size := fun q hq e => by have := hltF q hq; have := xh2.size; omega
    have hdisj : ∀ r ∈ g2.size :: bl2, r ∉ t :: bl1 := fun r hr hr2 => by
      rcases List.mem_cons.1 hr with rfl | hr
      · exact hbig _ (by rcases List.mem_cons.1 hr2 with h5 | h5 <;> simp [h5]) rfl
      · have := hnd
        rw [← List.cons_append, List.nodup_append] at this
        exact this.2.2 r hr2 r hr rfl
    refine tab_relink (x23.at ht) hl3 hlen hnd1 hnew hdisj fun g4 p4 ht4 hl4 st4 z4 => ⟨_, cellB ht4 rfl, ?_⟩
    refine setB ht4 (by simp) fun g5 b5 st5 z5 => ?_
    have e5 : g5[t]? = some (.cells #[.int .i64 k, .pointer p4, .int .i64 ((E1 ++ x :: E2).length : Int), .int .u32 last] T_N_extent_Table (0, 0)) := by
      rw [b5]
      have : IntKind.wrap .i64 (((E1 ++ E2).length : Int) + 1) = ((E1 ++ x :: E2).length : Int) := by
        simp only [List.length_append, List.length_cons] at hlen2 ⊢
        rw [wrap64 (by omega) (by omega)]; omega
      rw [this]; rfl
    have hnd5 : (t :: (bl1 ++ g2.size :: bl2)).Nodup := by
      have h6 : (g2.size :: (t :: (bl1 ++ bl2))).Nodup := List.nodup_cons.2 ⟨fun h7 => hbig _ h7 rfl, hnd⟩
      exact (List.Perm.nodup_iff (by
        have e : t :: (bl1 ++ g2.size :: bl2) = (t :: bl1) ++ g2.size :: bl2 := rfl
        rw [e]
        exact List.perm_middle)).2 h6
    have ht5 : t ∉ bl1 ++ g2.size :: bl2 := (List.nodup_cons.1 hnd5).1
    refine hK g5 (t :: (bl1 ++ g2.size :: bl2)) ?_ ?_
    · rw [insE_at hhd hne]
      exact ⟨p4, _, rfl, e5, hl4.congr fun q hq => st5.frame q (by have := hl4.lt q hq; omega) (by simp; rintro rfl; exact ht5 hq), hnd5⟩
    · refine ⟨by have := x23.size; have := st4.size; have := st5.size; omega, fun r hr hrF => ?_, fun r hr => ?_⟩
      · rw [st5.frame r (by have := x23.size; have := st4.size; omega) (by simp; rintro rfl; exact hrF (by simp)), st4.frame r (by have := x23.size; omega) (fun h6 => hrF (by rcases List.mem_cons.1 h6 with h7 | h7 <;> simp [h7])), x23.same hr]
      · rcases List.mem_cons.1 hr with h6 | h6
        · left; simp [h6]
        · rcases List.mem_append.1 h6 with h7 | h7
          · left; simp [h7]
          · rcases List.mem_cons.1 h7 with h8 | h8
            · right; have := xh2.size; omega
            · left; simp [h8]
  simp only [wth_some]
  refine ⟨_, hq2, ?_⟩
  cases E2 with
  | nil =>
    obtain ⟨rfl, rfl⟩ := hl2
    refine iteP_f rfl ⟨_, cellB (xg.at b1) rfl, _, cellB (xg.at b1) rfl, _, cellB (xg.at b1) rfl, _, cellB (xg.at b1) rfl, _, cellB (xg.at b1) rfl, _, cellB (xg.at b1) rfl, _, hq2, ?_⟩
    exact fin xg (by simp) hq2 ⟨rfl, rfl⟩
  | cons y E2 =>
    obtain ⟨blk, next, bl2, rfl, rfl, hblk, hl2⟩ := hl2
    refine iteP_t rfl ⟨_, cellB (xg.at b1) rfl, _, cellB (xg.at b1) rfl, _, cellB (xg.at b1) rfl, _, cellB (xg.at b1) rfl, _, cellB (xg.at b1) rfl, _, cellB (xg.at b1) rfl, _, hq2, ?_⟩
    simp only [wth_some]
    refine ⟨_, cellB hblk rfl, _, cellBa hblk rfl, _, cellBa hblk rfl, _, cellBa hblk rfl, _, cellBa hblk rfl, _, cellBa hblk rfl, c_ahead x y fun g2 x2 => ⟨_, rfl, ?_⟩⟩
    have xg2 : Ext h1 g2 := xg.trans x2
    have hq2' : cellAt g2 ⟨(atEnd t 1 bl1).1, (atEnd t 1 bl1).2, none⟩ = some (.pointer (some ⟨blk, 0, none⟩)) := Ext.cell x2 hq2
    have hl2' := hl2.congr fun q hq => x2.same (hl2.lt q hq)
    by_cases hlt : x.1 < y.1
    · rw [decide_eq_true hlt]
      refine iteP_f rfl ⟨_, cellB (xg2.at b1) rfl, _, cellB (xg2.at b1) rfl, _, cellB (xg2.at b1) rfl, _, cellB (xg2.at b1) rfl, _, cellB (xg2.at b1) rfl, _, cellB (xg2.at b1) rfl, _, hq2', ?_⟩
      exact fin xg2 (fun z hz => by simp at hz; rw [← hz]; exact hlt) hq2' ⟨blk, next, bl2, rfl, rfl, x2.at hblk, hl2'⟩
    · rw [decide_eq_false hlt]
      refine iteP_t rfl ⟨_, hq2', ⟨E1 ++ [y], E2, bl1 ++ [blk], bl2, by simp, by simp, by simp [hlen], by rw [atEnd_append]; rfl, ?_, xg2⟩, ?_⟩
      · intro z hz
        rcases List.mem_append.1 hz with hz | hz
        · exact hne z hz
        · simp at hz; rw [hz]; exact hlt
      · have hc2 : ChAt g2 blk 6 E2 bl2 := ⟨next, cellB (x2.at hblk) rfl, hl2'⟩
        have hm2 := hc2.chain (by simp only [List.length_cons] at hlen2; omega)
        show chainC g2 (some ((⟨blk, 0, none⟩ : Addr).add 6)) < chainC g (some ⟨(atEnd t 1 bl1).1, (atEnd t 1 bl1).2, none⟩)
        rw [hm1, Addr.add_mk]
        rw [show (0 + 6) = 6 from rfl, hm2]
        simp
theorem c_add (ha : TabAt h t k E last F) (hE : E.length ≤ 23) (at_ : Int) (h0 : 0 ≤ last) (h1 : last < 4294967295) (hK : ∀ h' F', TabAt h' t k (insE (at_, last + 1) E) (last + 1) F' → Step h h' F F' → K (.int .u32 (last + 1)) h') :
    CallsH Try.prog f_extent_Table_add #[.pointer (some ⟨t, 0, none⟩), .agg #[.int .u32 0, .int .i64 at_, .int .i64 1, .int .u8 0, .string ⟨#[47]⟩, .int .u8 0]] h K := by
  have ha0 := ha
  obtain ⟨p, bl, rfl, ht, hl, hnd⟩ := ha
  refine q_extent_Table_add_calls t _ _ _ _ _ _ h K ?_
  unfold q_extent_Table_add
  refine newB fun g1 b1 x1 z1 => ⟨_, cellB (x1.at ht) rfl, setB (x1.at ht) (by simp) fun g2 b2 st2 z2 => ?_⟩
  rw [wrapU32 (x := last + 1) (by omega) (by omega)] at b2
  have hlt := ha0.lt
  have hne : h.size ≠ t := by have := hlt t (by simp); omega
  have b2' : g2[h.size]? = some (.cells #[.int .u32 0, .int .i64 at_, .int .i64 1, .int .u8 0, .string ⟨#[47]⟩, .int .u8 0] T_N_api_Extent (0, 0)) := by rw [st2.frame _ (by omega) (by simpa using hne)]; exact b1
  have ht2 : g2[t]? = some (.cells #[.int .i64 k, .pointer p, .int .i64 (E.length : Int), .int .u32 (last + 1)] T_N_extent_Table (0, 0)) := b2
  refine ⟨_, cellB ht2 rfl, setB b2' (by simp) fun g3 b3 st3 z3 => ?_⟩
  have b3' : g3[h.size]? = some (.cells #[.int .u32 (last + 1), .int .i64 at_, .int .i64 1, .int .u8 0, .string ⟨#[47]⟩, .int .u8 0] T_N_api_Extent (0, 0)) := b3
  refine ⟨_, cellB b3' rfl, _, cellB b3' rfl, _, cellB b3' rfl, _, cellB b3' rfl, _, cellB b3' rfl, _, cellB b3' rfl, ?_⟩
  have hframe : ∀ q, q < h.size → q ≠ t → g3[q]? = h[q]? := fun q hq hn => by rw [st3.frame q (by omega) (by simp; omega), st2.frame q (by omega) (by simpa using hn), x1.same hq]
  have ha3 : TabAt g3 t k E (last + 1) (t :: bl) := ⟨p, bl, rfl, by rw [st3.frame t (by have := hlt t (by simp); omega) (by simp; omega)]; exact ht2, hl.congr fun q hq => hframe q (hlt q (by simp [hq])) (by rintro rfl; exact (List.nodup_cons.1 hnd).1 hq), hnd⟩
  refine c_insert ha3 hE (at_, last + 1) fun g4 F4 ha4 st4 => ⟨rfl, _, ?_, hK g4 F4 ha4 ⟨by have := st4.size; omega, fun q hq hF => ?_, fun q hq => ?_⟩⟩
  · have e : g4[h.size]? = g3[h.size]? := st4.frame h.size (by omega) fun hf => by have := hlt _ hf; omega
    exact cellB (e.trans b3') rfl
  · rw [st4.frame q (by omega) hF, hframe q hq (by rintro rfl; exact hF (by simp))]
  · rcases st4.foot q hq with h5 | h5
    · exact .inl h5
    · right; omega
theorem c_Right_root (hK : ∀ h', Ext h h' → K (.bool true) h') : CallsH Try.prog f_name_Right #[.agg #[.string ⟨#[47]⟩, .int .u8 0]] h K := by
  refine q_name_Right_calls _ _ h K ?_
  unfold q_name_Right
  refine newB fun g1 b1 x1 z1 => ⟨_, cellB b1 rfl, q_name_Split_root_calls g1 _ ?_⟩
  unfold q_name_Split_root
  have e1 : zeroCells Try.prog T_s_string = #[.slice none 0 0] := by kernel_rfl
  have e2 : zeroCells Try.prog T_N_api_Errno = #[.int .i64 0] := by kernel_rfl
  rw [e1, e2]
  refine newB fun g2 b2 x2 z2 => newB fun g3 b3 x3 z3 => iteP_t (by simp) (setB (x3.at b2) (by simp) fun g4 b4 st4 z4 => ?_)
  have b3' : g4[g2.size]? = some (.cells #[.int .i64 0] T_N_api_Errno (0, 0)) := by rw [st4.frame _ (by omega) (by simp; omega)]; exact b3
  refine setB b3' (by simp) fun g5 b5 st5 z5 => ?_
  have b4' : g5[g1.size]? = some (.cells #[.slice none 0 0] T_s_string (0, 0)) := by rw [st5.frame _ (by omega) (by simp; omega)]; exact b4
  have b5' : g5[g2.size]? = some (.cells #[.int .i64 0] T_N_api_Errno (0, 0)) := b5
  have x5 : Ext g1 g5 := Ext.thenNew (Ext.thenNew (x2.trans x3) st4 (by simp)) st5 (by simp; omega)
  refine ⟨_, _, _, cellB b4' rfl, _, cellB b5' rfl, _, _, _, _, rfl, iteP_eq rfl ⟨_, cellB (x5.at b1) rfl, ?_⟩⟩
  exact hK g5 (x1.trans x5)
theorem c_Alloc (ha : TabAt h t k E last F) (hE : E.length ≤ 23) (hk : 0 ≤ k ∧ k ≤ 64) (hin : ∀ x ∈ E, 0 ≤ x.1 ∧ x.1 < 64) (at_ : Int) (a0 : 0 ≤ at_) (a1 : at_ < k) (hfree : ∀ x ∈ E, x.1 ≠ at_) (h0 : 0 ≤ last) (h1 : last < 4294967295)
    (hK : ∀ h' F', TabAt h' t k (insE (at_, last + 1) E) (last + 1) F' → Step h h' F F' → K (.tuple #[.int .u32 (last + 1), .int .i64 0]) h') :
    CallsH Try.prog f_extent_Table_Alloc #[.pointer (some ⟨t, 0, none⟩), .int .u8 0, .int .i64 at_, .int .i64 1, .agg #[.string ⟨#[47]⟩, .int .u8 0]] h K := by
  refine q_extent_Table_Alloc_calls t _ _ _ _ _ h K ?_
  unfold q_extent_Table_Alloc
  have ht : ∃ p, h[t]? = some (.cells #[.int .i64 k, .pointer p, .int .i64 (E.length : Int), .int .u32 last] T_N_extent_Table (0, 0)) := by
    obtain ⟨p, _, _, h2, _⟩ := ha; exact ⟨p, h2⟩
  obtain ⟨p, ht⟩ := ht
  refine newB fun g1 b1 x1 z1 => iteP_no (by decide) (iteP_no (by omega) ⟨_, cellB (x1.at ht) rfl, iteP_no (by omega) (iteP_no (by decide) ⟨_, cellB (x1.at ht) rfl, ?_⟩)⟩)
  rw [wrap64 (x := k - at_) (by omega) (by omega), wrap64 (x := at_ + 1) (by omega) (by omega)]
  refine iteP_no (by omega) ⟨_, cellB b1 rfl, _, cellB b1 rfl, c_Right_root fun g2 x2 => ⟨_, rfl, iteP_f rfl ?_⟩⟩
  have x12 : Ext h g2 := x1.trans x2
  refine c_meets (ha.ext x12) (by omega) hin at_ hfree fun g3 x3 => ⟨_, rfl, iteP_f rfl ?_⟩
  have x13 : Ext h g3 := x12.trans x3
  refine ⟨_, cellB (x13.at ht) rfl, iteP_no (by omega) ⟨_, cellB (Ext.at (x2.trans x3) b1) rfl, _, cellB (Ext.at (x2.trans x3) b1) rfl, c_add (ha.ext x13) hE at_ h0 h1 fun g4 F4 ha4 st4 => ⟨_, rfl, hK g4 F4 ha4 ?_⟩⟩⟩
  exact (Step.ext x13 fun _ hr => hr).trans st4
theorem c_Free (ha : TabAt h t k E last F) (hE : E.length ≤ 24) (hx : ∃ x ∈ E, x.2 = id) (hK : ∀ h' F', TabAt h' t k (delE id E) last F' → Step h h' F F' → K (.int .i64 0) h') :
    CallsH Try.prog f_extent_Table_Free #[.pointer (some ⟨t, 0, none⟩), .int .u8 0, .int .u32 id] h K := by
  refine q_extent_Table_Free_calls t 0 id h K ?_
  unfold q_extent_Table_Free
  refine q_extent_Table_own_calls t 0 id h _ ?_
  unfold q_extent_Table_own
  refine c_numbered fun g1 b1 x1 z1 => ⟨_, rfl, c_find_num (ha.ext x1) hE b1 (fun hn => ?_) fun x blk next g2 hxE hxid _ hblk x2 => ⟨_, rfl, iteP_f rfl ?_⟩⟩
  · obtain ⟨x, h2, h3⟩ := hx
    exact (hn x h2 h3).elim
  · simp only [wth_some]
    refine ⟨_, cellBa (x2.at hblk) rfl, iteP_nne rfl ⟨_, _, rfl, iteP_eq rfl (c_numbered fun g3 b3 x3 z3 => ⟨_, rfl, ?_⟩)⟩⟩
    have x13 : Ext h g3 := x1.trans (x2.trans x3)
    exact c_remove (ha.ext x13) hE b3 fun g4 F4 ha4 st4 => ⟨rfl, hK g4 F4 ha4 ((Step.ext x13 fun _ hr => hr).trans st4)⟩
end
end Go.Proofs.Ytmdhfmljgjnggaa
/- Formulas of packages dev and file. No condition. -/
set_option linter.constructorNameAsVariable false
namespace Go.Proofs.Ytmdhfmljgjnggaa

def q_dev_New_ann : Ann := { loops := fun _ => [], ty := fun _ => [], canon := fun _ => [], cuts := fun _ => none }
def q_dev_New (x0 : Int) (h : Hp) (K : Value → Hp → Prop) : Prop :=
    iteP (decide (x0 < 1)) (K (.pointer none) h) (iteP (decide (x0 > 64)) (K (.pointer none) h) (semWP Try.prog (Instr.makeSlice T_s_dev_sector (.int .i64 x0) (.int .i64 x0)) h fun r1 h2 => ∃ (p3 : Option Addr) (l4 c5 : Nat), r1 = .slice p3 l4 c5
    ∧ letH (h2.push (.cells #[(.slice none 0 0), (.int .u32 0), (.slice p3 l4 c5)] T_N_dev_Disk)) fun h6 => K (.pointer (some ⟨h2.size, 0, none⟩)) h6))
theorem q_dev_New_calls (x0 : Int) (h : Hp) (K : Value → Hp → Prop) (hq : q_dev_New x0 h K) : CallsH Try.prog f_dev_New #[(.int .i64 x0)] h K := by
  have e : q_dev_New x0 h K = fnT Try.prog 13 q_dev_New_ann Try.f71 (bodyOf Try.f71) [(.int .i64 x0)] h K := by kernel_rfl
  rw [e] at hq
  exact calls_of_fnT (n := 13) (ann := q_dev_New_ann) mixOk Try.func71 (by kernel_rfl) (by kernel_rfl) (fun args w => Try.call71 args w) (by kernel_rfl) hq

def q_dev_Disk_has_ann : Ann := { loops := fun _ => [], ty := fun _ => [], canon := fun _ => [], cuts := fun _ => none }
def q_dev_Disk_has (x0 : Nat) (x1 : Int) (h : Hp) (K : Value → Hp → Prop) : Prop :=
    iteP (decide (x1 ≥ 0)) (∃ (p1 : Option Addr) (l2 c3 : Nat), cellAt h ⟨x0, 2, none⟩ = some (.slice p1 l2 c3) ∧ K (.bool (decide (x1 < ((l2 : Nat) : Int)))) h) (K (.bool false) h)
theorem q_dev_Disk_has_calls (x0 : Nat) (x1 : Int) (h : Hp) (K : Value → Hp → Prop) (hq : q_dev_Disk_has x0 x1 h K) : CallsH Try.prog f_dev_Disk_has #[(.pointer (some ⟨x0, 0, none⟩)), (.int .i64 x1)] h K := by
  have e : q_dev_Disk_has x0 x1 h K = fnT Try.prog 16 q_dev_Disk_has_ann Try.f126 (bodyOf Try.f126) [(.pointer (some ⟨x0, 0, none⟩)), (.int .i64 x1)] h K := by kernel_rfl
  rw [e] at hq
  exact calls_of_fnT (n := 16) (ann := q_dev_Disk_has_ann) mixOk Try.func126 (by kernel_rfl) (by kernel_rfl) (fun args w => Try.call126 args w) (by kernel_rfl) hq

def q_dev_Disk_Sector_ann : Ann := { loops := fun _ => [], ty := fun _ => [], canon := fun _ => [], cuts := fun _ => none }
def q_dev_Disk_Sector (x0 : Nat) (x1 : Int) (h : Hp) (K : Value → Hp → Prop) : Prop :=
    CallsH Try.prog f_dev_Disk_has #[(.pointer (some ⟨x0, 0, none⟩)), (.int .i64 x1)] h fun r1 h2 => ∃ b3 : Bool, r1 = (.bool b3) ∧ iteP (!b3) (K (.tuple #[(.slice none 0 0), (.int .i64 2)]) h2) (∃ (p4 : Option Addr) (l5 c6 : Nat), cellAt h2 ⟨x0, 2, none⟩ = some (.slice p4 l5 c6)
    ∧ (0 : Int) ≤ x1 ∧ x1 < ((l5 : Nat) : Int) ∧ wth p4 fun a7 => CallsH Try.prog f_slices_Clone_byte_byte #[(.slice (some (if 32 = 0 then (a7.add (Int.toNat x1 * 32)) else (a7.add (Int.toNat x1 * 32)).add (0 * 1))) (32 - 0) (32 - 0))] h2 fun r8 h9
    => ∃ (p10 : Option Addr) (l11 c12 : Nat), r8 = (.slice p10 l11 c12) ∧ K (.tuple #[(.slice p10 l11 c12), (.int .i64 0)]) h9)
theorem q_dev_Disk_Sector_calls (x0 : Nat) (x1 : Int) (h : Hp) (K : Value → Hp → Prop) (hq : q_dev_Disk_Sector x0 x1 h K) : CallsH Try.prog f_dev_Disk_Sector #[(.pointer (some ⟨x0, 0, none⟩)), (.int .i64 x1)] h K := by
  have e : q_dev_Disk_Sector x0 x1 h K = fnT Try.prog 22 q_dev_Disk_Sector_ann Try.f125 (bodyOf Try.f125) [(.pointer (some ⟨x0, 0, none⟩)), (.int .i64 x1)] h K := by kernel_rfl
  rw [e] at hq
  exact calls_of_fnT (n := 22) (ann := q_dev_Disk_Sector_ann) mixOk Try.func125 (by kernel_rfl) (by kernel_rfl) (fun args w => Try.call125 args w) (by kernel_rfl) hq

def q_dev_Disk_Set_ann : Ann := { loops := fun _ => [], ty := fun _ => [], canon := fun _ => [], cuts := fun _ => none }
def q_dev_Disk_Set (x0 : Nat) (x1 : Int) (x2p : Option Addr) (x2n : Nat) (x2c : Nat) (h : Hp) (K : Value → Hp → Prop) : Prop :=
    CallsH Try.prog f_dev_Disk_has #[(.pointer (some ⟨x0, 0, none⟩)), (.int .i64 x1)] h fun r1 h2 => ∃ b3 : Bool, r1 = (.bool b3) ∧ iteP (!b3) (K (.int .i64 2) h2) (iteP (((x2n : Nat) : Int) != 32) (K (.int .i64 3) h2) (∃ (p4 : Option Addr) (l5 c6 : Nat), cellAt h2 ⟨x0, 2, none⟩ = some (.slice p4 l5 c6)
    ∧ (0 : Int) ≤ x1 ∧ x1 < ((l5 : Nat) : Int) ∧ wth p4 fun a7 => semWP Try.prog (Builtin.copy_ #[T_s_uint8, T_s_uint8] T_int #[(.slice (some (if 32 = 0 then (a7.add (Int.toNat x1 * 32)) else (a7.add (Int.toNat x1 * 32)).add (0 * 1))) (32 - 0) (32 - 0)), (.slice x2p x2n x2c)]) h2 fun r8 h9
    => ∃ n10 : Int, r8 = .int .i64 n10 ∧ K (.int .i64 0) h9))
theorem q_dev_Disk_Set_calls (x0 : Nat) (x1 : Int) (x2p : Option Addr) (x2n : Nat) (x2c : Nat) (h : Hp) (K : Value → Hp → Prop) (hq : q_dev_Disk_Set x0 x1 x2p x2n x2c h K) : CallsH Try.prog f_dev_Disk_Set #[(.pointer (some ⟨x0, 0, none⟩)), (.int .i64 x1), (.slice x2p x2n x2c)] h K := by
  have e : q_dev_Disk_Set x0 x1 x2p x2n x2c h K = fnT Try.prog 28 q_dev_Disk_Set_ann Try.f83 (bodyOf Try.f83) [(.pointer (some ⟨x0, 0, none⟩)), (.int .i64 x1), (.slice x2p x2n x2c)] h K := by kernel_rfl
  rw [e] at hq
  exact calls_of_fnT (n := 28) (ann := q_dev_Disk_Set_ann) mixOk Try.func83 (by kernel_rfl) (by kernel_rfl) (fun args w => Try.call83 args w) (by kernel_rfl) hq

def q_slices_Clone_byte_byte_ann : Ann := { loops := fun _ => [], ty := fun _ => [], canon := fun _ => [], cuts := fun _ => none }
def q_slices_Clone_byte_byte (x0p : Option Addr) (x0n : Nat) (x0c : Nat) (h : Hp) (K : Value → Hp → Prop) : Prop :=
    iteP x0p.isNone (K (.slice none 0 0) h) (letH (h.push (.cells #[] T_uint8)) fun h1 => semWP Try.prog (Builtin.append_ #[T_s_uint8, T_s_uint8] T_s_uint8 #[(.slice (some ⟨h.size, 0, none⟩) 0 0), (.slice x0p x0n x0c)]) h1 fun r2 h3
    => ∃ (p4 : Option Addr) (l5 c6 : Nat), r2 = .slice p4 l5 c6 ∧ K (.slice p4 l5 c6) h3)
theorem q_slices_Clone_byte_byte_calls (x0p : Option Addr) (x0n : Nat) (x0c : Nat) (h : Hp) (K : Value → Hp → Prop) (hq : q_slices_Clone_byte_byte x0p x0n x0c h K) : CallsH Try.prog f_slices_Clone_byte_byte #[(.slice x0p x0n x0c)] h K := by
  have e : q_slices_Clone_byte_byte x0p x0n x0c h K = fnT Try.prog 8 q_slices_Clone_byte_byte_ann Try.f165 (bodyOf Try.f165) [(.slice x0p x0n x0c)] h K := by kernel_rfl
  rw [e] at hq
  exact calls_of_fnT (n := 8) (ann := q_slices_Clone_byte_byte_ann) mixOk Try.func165 (by kernel_rfl) (by kernel_rfl) (fun args w => Try.call165 args w) (by kernel_rfl) hq

def q_file_New_ann : Ann := { loops := fun _ => [], ty := fun _ => [], canon := fun _ => [], cuts := fun _ => none }
def q_file_New (x0 : Int) (h : Hp) (K : Value → Hp → Prop) : Prop :=
    CallsH Try.prog f_dev_New #[(.int .i64 x0)] h fun r1 h2 => ∃ p3 : Option Addr, r1 = (.pointer p3) ∧ iteP p3.isNone (K (.pointer none) h2) (CallsH Try.prog f_extent_New #[(.int .i64 x0)] h2 fun r4 h5 => ∃ p6 : Option Addr, r4 = (.pointer p6)
    ∧ letH (h5.push (.map #[] 0)) fun h7 => letH (h7.push (.cells #[(.pointer p3), (.pointer p6), (.map (some h5.size)), (.int .i64 0)] T_N_file_Store)) fun h8 => K (.pointer (some ⟨h7.size, 0, none⟩)) h8)
theorem q_file_New_calls (x0 : Int) (h : Hp) (K : Value → Hp → Prop) (hq : q_file_New x0 h K) : CallsH Try.prog f_file_New #[(.int .i64 x0)] h K := by
  have e : q_file_New x0 h K = fnT Try.prog 15 q_file_New_ann Try.f25 (bodyOf Try.f25) [(.int .i64 x0)] h K := by kernel_rfl
  rw [e] at hq
  exact calls_of_fnT (n := 15) (ann := q_file_New_ann) mixOk Try.func25 (by kernel_rfl) (by kernel_rfl) (fun args w => Try.call25 args w) (by kernel_rfl) hq

def q_file_disk_take_ann : Ann := { loops := fun _ => [], ty := fun _ => [], canon := fun x => match x with | 3 => [0, 1, 2, 3, 4] | _ => [], cuts := fun _ => none }
def q_file_disk_take (x0a : Option Addr) (x0b : Option Addr) (h : Hp) (K : Value → Hp → Prop) : Prop :=
    letH (h.push (.cells #[(.pointer x0a), (.pointer x0b)] T_N_file_disk)) fun h1 => ∃ p2 : Option Addr, cellAt h1 ⟨h.size, 1, none⟩ = some (.pointer p2) ∧ CallsH Try.prog f_extent_Table_Room #[(.pointer p2), (.int .i64 1)] h1 fun r3 h4
    => ∃ n5 : Int, ∃ n6 : Int, r3 = (.tuple #[(.int .i64 n5), (.int .i64 n6)]) ∧ ∃ p7 : Option Addr, cellAt h4 ⟨h.size, 1, none⟩ = some (.pointer p7) ∧ CallsH Try.prog f_extent_Table_Alloc #[(.pointer p7), (.int .u8 0), (.int .i64 n5), (.int .i64 1), (.agg #[(.string ⟨#[47]⟩), (.int .u8 0)])] h4 fun r8 h9
    => ∃ n10 : Int, ∃ n11 : Int, r8 = (.tuple #[(.int .u32 n10), (.int .i64 n11)]) ∧ ∃ p12 : Option Addr, cellAt h9 ⟨h.size, 0, none⟩ = some (.pointer p12) ∧ semWP Try.prog (Instr.makeSlice T_s_uint8 (.int .i64 32) (.int .i64 32)) h9 fun r13 h14
    => ∃ (p15 : Option Addr) (l16 c17 : Nat), r13 = .slice p15 l16 c17 ∧ (∃ p18 : Option Addr, cellAt h14 ⟨h.size, 0, none⟩ = some (.pointer p18) ∧ ((.pointer p18) : Value) = (.pointer p12)) ∧ CallsH Try.prog f_dev_Disk_Set #[(.pointer p12), (.int .i64 n5), (.slice p15 l16 c17)] h14 fun r19 h20
    => ∃ n21 : Int, r19 = (.int .i64 n21) ∧ K (.int .u32 n10) h20
theorem q_file_disk_take_calls (x0a : Option Addr) (x0b : Option Addr) (h : Hp) (K : Value → Hp → Prop) (hq : q_file_disk_take x0a x0b h K) : CallsH Try.prog f_file_disk_take #[(.agg #[(.pointer x0a), (.pointer x0b)])] h K := by
  have e : q_file_disk_take x0a x0b h K = fnT Try.prog 27 q_file_disk_take_ann Try.f81 (bodyOf Try.f81) [(.agg #[(.pointer x0a), (.pointer x0b)])] h K := by kernel_rfl
  rw [e] at hq
  exact calls_of_fnT (n := 27) (ann := q_file_disk_take_ann) mixOk Try.func81 (by kernel_rfl) (by kernel_rfl) (fun args w => Try.call81 args w) (by kernel_rfl) hq

def q_file_disk_sector_ann : Ann := { loops := fun _ => [], ty := fun _ => [], canon := fun _ => [], cuts := fun _ => none }
def q_file_disk_sector (x0a : Option Addr) (x0b : Option Addr) (x1 : Int) (h : Hp) (K : Value → Hp → Prop) : Prop :=
    letH (h.push (.cells #[(.pointer x0a), (.pointer x0b)] T_N_file_disk)) fun h1 => ∃ p2 : Option Addr, cellAt h1 ⟨h.size, 1, none⟩ = some (.pointer p2) ∧ CallsH Try.prog f_extent_Table_Get #[(.pointer p2), (.int .u32 x1)] h1 fun r3 h4
    => ∃ n5 : Int, ∃ n6 : Int, ∃ n7 : Int, ∃ n8 : Int, ∃ s9 : ByteArray, ∃ n10 : Int, ∃ b11 : Bool, r3 = (.tuple #[(.agg #[(.int .u32 n5), (.int .i64 n6), (.int .i64 n7), (.int .u8 n8), (.string s9), (.int .u8 n10)]), (.bool b11)])
    ∧ letH (h4.push (.cells (zeroCells Try.prog T_N_api_Extent) T_N_api_Extent)) fun h12 => (∃ old, cellAt h12 ⟨h4.size, 0, none⟩ = some old) ∧ frozenAt h12 ⟨h4.size, 0, none⟩ = false ∧ letH (setH h12 ⟨h4.size, 0, none⟩ (.int .u32 n5)) fun h13
    => (∃ old, cellAt h13 ⟨h4.size, 1, none⟩ = some old) ∧ frozenAt h13 ⟨h4.size, 1, none⟩ = false ∧ letH (setH h13 ⟨h4.size, 1, none⟩ (.int .i64 n6)) fun h14 => (∃ old, cellAt h14 ⟨h4.size, 2, none⟩ = some old) ∧ frozenAt h14 ⟨h4.size, 2, none⟩ = false
    ∧ letH (setH h14 ⟨h4.size, 2, none⟩ (.int .i64 n7)) fun h15 => (∃ old, cellAt h15 ⟨h4.size, 3, none⟩ = some old) ∧ frozenAt h15 ⟨h4.size, 3, none⟩ = false ∧ letH (setH h15 ⟨h4.size, 3, none⟩ (.int .u8 n8)) fun h16 => (∃ old, cellAt h16 ⟨h4.size, 4, none⟩ = some old)
    ∧ frozenAt h16 ⟨h4.size, 4, none⟩ = false ∧ letH (setH h16 ⟨h4.size, 4, none⟩ (.string s9)) fun h17 => (∃ old, cellAt h17 ⟨h4.size, 5, none⟩ = some old) ∧ frozenAt h17 ⟨h4.size, 5, none⟩ = false ∧ letH (setH h17 ⟨h4.size, 5, none⟩ (.int .u8 n10)) fun h18
    => ∃ n19 : Int, cellAt h18 ⟨h4.size, 1, none⟩ = some (.int .i64 n19) ∧ K (.int .i64 n19) h18
theorem q_file_disk_sector_calls (x0a : Option Addr) (x0b : Option Addr) (x1 : Int) (h : Hp) (K : Value → Hp → Prop) (hq : q_file_disk_sector x0a x0b x1 h K) : CallsH Try.prog f_file_disk_sector #[(.agg #[(.pointer x0a), (.pointer x0b)]), (.int .u32 x1)] h K := by
  have e : q_file_disk_sector x0a x0b x1 h K = fnT Try.prog 16 q_file_disk_sector_ann Try.f84 (bodyOf Try.f84) [(.agg #[(.pointer x0a), (.pointer x0b)]), (.int .u32 x1)] h K := by kernel_rfl
  rw [e] at hq
  exact calls_of_fnT (n := 16) (ann := q_file_disk_sector_ann) mixOk Try.func84 (by kernel_rfl) (by kernel_rfl) (fun args w => Try.call84 args w) (by kernel_rfl) hq

def q_file_Store_get_ann : Ann := { loops := fun _ => [], ty := fun _ => [], canon := fun _ => [], cuts := fun _ => none }
def q_file_Store_get (x0 : Nat) (x1 : Int) (h : Hp) (K : Value → Hp → Prop) : Prop :=
    ∃ m1 : Option Nat, cellAt h ⟨x0, 2, none⟩ = some (.map m1) ∧ ∃ p3 : Option Addr, ∃ b2 : Bool, RunsTo Try.prog (Instr.lookup T_m_int_p_file_node (.map m1) (.int .i64 x1) true) h (.tuple #[(.pointer p3), .bool b2]) ∧ iteP (!b2) (K (.tuple #[(.pointer none), (.int .i64 5)]) h) (K (.tuple #[(.pointer p3), (.int .i64 0)]) h)
theorem q_file_Store_get_calls (x0 : Nat) (x1 : Int) (h : Hp) (K : Value → Hp → Prop) (hq : q_file_Store_get x0 x1 h K) : CallsH Try.prog f_file_Store_get #[(.pointer (some ⟨x0, 0, none⟩)), (.int .i64 x1)] h K := by
  have e : q_file_Store_get x0 x1 h K = fnT Try.prog 22 q_file_Store_get_ann Try.f78 (bodyOf Try.f78) [(.pointer (some ⟨x0, 0, none⟩)), (.int .i64 x1)] h K := by kernel_rfl
  rw [e] at hq
  exact calls_of_fnT (n := 22) (ann := q_file_Store_get_ann) mixOk Try.func78 (by kernel_rfl) (by kernel_rfl) (fun args w => Try.call78 args w) (by kernel_rfl) hq

def q_file_Store_Find_ann : Ann := { loops := fun x => match x with | 0 => [] | _ => [], ty := fun x => match x with | 21 => [T_int, T_p_file_node] | _ => [], canon := fun _ => [], cuts := fun _ => none }
def q_file_Store_Find (x0 : Nat) (x1 : ByteArray) (h : Hp) (K : Value → Hp → Prop) : Prop :=
    iteP (x1.toList == (⟨#[]⟩ : ByteArray).toList) (K (.tuple #[(.int .i64 0), (.bool false)]) h) (∃ m1 : Option Nat, cellAt h ⟨x0, 2, none⟩ = some (.map m1) ∧ semWP Try.prog (Instr.range T_m_int_p_file_node (.map m1)) h fun r2 h3
    => ∃ i4 : Nat, r2 = .pointer (some ⟨i4, 0, none⟩) ∧ ∃ (I5 : Hp → Prop) (μ6 : Hp → Nat), I5  h3 ∧ ∀  h7, I5  h7 → semWP Try.prog (Instr.next (.pointer (some ⟨i4, 0, none⟩)) false T_x) h7 fun r8 h9 => ∃ (b10 : Bool) (xs11 : List Value), r8 = .tuple ⟨.bool b10 :: xs11⟩
    ∧ iteP b10 (∃ n12 : Int, ∃ p13 : Option Addr, RunsTo Try.prog (Instr.entry (.pointer (some ⟨i4, 0, none⟩))) h9 (.tuple #[(.int .i64 n12), (.pointer p13)]) ∧ wth p13 fun a14 => ∃ s15 : ByteArray, cellAt h9 a14 = some (.string s15)
    ∧ iteP (s15.toList == x1.toList) (K (.tuple #[(.int .i64 n12), (.bool true)]) h9) (I5  h9 ∧ μ6  h9 < μ6  h7)) (K (.tuple #[(.int .i64 0), (.bool false)]) h9))
theorem q_file_Store_Find_calls (x0 : Nat) (x1 : ByteArray) (h : Hp) (K : Value → Hp → Prop) (hq : q_file_Store_Find x0 x1 h K) : CallsH Try.prog f_file_Store_Find #[(.pointer (some ⟨x0, 0, none⟩)), (.string x1)] h K := by
  have e : q_file_Store_Find x0 x1 h K = fnT Try.prog 31 q_file_Store_Find_ann Try.f48 (bodyOf Try.f48) [(.pointer (some ⟨x0, 0, none⟩)), (.string x1)] h K := by kernel_rfl
  rw [e] at hq
  exact calls_of_fnT (n := 31) (ann := q_file_Store_Find_ann) mixOk Try.func48 (by kernel_rfl) (by kernel_rfl) (fun args w => Try.call48 args w) (by kernel_rfl) hq

def q_file_Store_Make_ann : Ann := { loops := fun _ => [], ty := fun _ => [], canon := fun x => match x with | 11 => [0, 1, 2, 3, 4, 5, 6, 7, 8, 9, 10, 11] | _ => [], cuts := fun _ => none }
def q_file_Store_Make (x0 : Nat) (x1 : ByteArray) (h : Hp) (K : Value → Hp → Prop) : Prop :=
    CallsH Try.prog f_name_Label #[(.string x1)] h fun r1 h2 => ∃ b3 : Bool, r1 = (.bool b3) ∧ iteP (!b3) (K (.tuple #[(.int .i64 0), (.int .i64 3)]) h2) (CallsH Try.prog f_file_Store_Find #[(.pointer (some ⟨x0, 0, none⟩)), (.string x1)] h2 fun r4 h5
    => ∃ n6 : Int, ∃ b7 : Bool, r4 = (.tuple #[(.int .i64 n6), (.bool b7)]) ∧ iteP b7 (K (.tuple #[(.int .i64 0), (.int .i64 6)]) h5) (∃ m8 : Option Nat, cellAt h5 ⟨x0, 2, none⟩ = some (.map m8) ∧ ∃ n9 : Int, RunsTo Try.prog (Builtin.len_ #[T_m_int_p_file_node] T_int #[(.map m8)]) h5 (.int .i64 n9)
    ∧ iteP (decide (n9 ≥ 6)) (K (.tuple #[(.int .i64 0), (.int .i64 4)]) h5) (∃ n10 : Int, cellAt h5 ⟨x0, 3, none⟩ = some (.int .i64 n10) ∧ (∃ old, cellAt h5 ⟨x0, 3, none⟩ = some old) ∧ frozenAt h5 ⟨x0, 3, none⟩ = false ∧ letH (setH h5 ⟨x0, 3, none⟩ (.int .i64 (IntKind.wrap .i64 (n10 + 1)))) fun h11
    => ∃ m12 : Option Nat, cellAt h11 ⟨x0, 2, none⟩ = some (.map m12) ∧ ∃ n13 : Int, cellAt h11 ⟨x0, 3, none⟩ = some (.int .i64 n13) ∧ letH (h11.push (.cells #[(.string x1), (.int .i64 0), (.int .i64 0), (.slice none 0 0)] T_N_file_node)) fun h14
    => (∃ n15 : Int, cellAt h14 ⟨x0, 3, none⟩ = some (.int .i64 n15) ∧ ((.int .i64 n15) : Value) = (.int .i64 n13)) ∧ (∃ m16 : Option Nat, cellAt h14 ⟨x0, 2, none⟩ = some (.map m16) ∧ ((.map m16) : Value) = (.map m12)) ∧ semWP Try.prog (Instr.mapUpdate T_m_int_p_file_node (.map m12) (.int .i64 n13) (.pointer (some ⟨h11.size, 0, none⟩))) h14 fun _ h17
    => ∃ n18 : Int, cellAt h17 ⟨x0, 3, none⟩ = some (.int .i64 n18) ∧ K (.tuple #[(.int .i64 n18), (.int .i64 0)]) h17)))
theorem q_file_Store_Make_calls (x0 : Nat) (x1 : ByteArray) (h : Hp) (K : Value → Hp → Prop) (hq : q_file_Store_Make x0 x1 h K) : CallsH Try.prog f_file_Store_Make #[(.pointer (some ⟨x0, 0, none⟩)), (.string x1)] h K := by
  have e : q_file_Store_Make x0 x1 h K = fnT Try.prog 48 q_file_Store_Make_ann Try.f27 (bodyOf Try.f27) [(.pointer (some ⟨x0, 0, none⟩)), (.string x1)] h K := by kernel_rfl
  rw [e] at hq
  exact calls_of_fnT (n := 48) (ann := q_file_Store_Make_ann) mixOk Try.func27 (by kernel_rfl) (by kernel_rfl) (fun args w => Try.call27 args w) (by kernel_rfl) hq

def q_file_Store_sweep_ann : Ann := { loops := fun x => match x with | 0 => [(30, T_int)] | _ => [], ty := fun _ => [], canon := fun _ => [], cuts := fun _ => none }
def q_file_Store_sweep (x0 : Nat) (x1 : Int) (h : Hp) (K : Value → Hp → Prop) : Prop :=
    ∃ m1 : Option Nat, cellAt h ⟨x0, 2, none⟩ = some (.map m1) ∧ ∃ p2 : Option Addr, RunsTo Try.prog (Instr.lookup T_m_int_p_file_node (.map m1) (.int .i64 x1) false) h (.pointer p2) ∧ wth p2 fun a3 => ∃ s4 : ByteArray, cellAt h a3 = some (.string s4)
    ∧ iteP (!(s4.toList == (⟨#[]⟩ : ByteArray).toList)) (K (.tuple #[]) h) (wth p2 fun a5 => ∃ n6 : Int, cellAt h (a5.add 1) = some (.int .i64 n6) ∧ iteP (decide (n6 > 0)) (K (.tuple #[]) h) (wth p2 fun a7 => ∃ (p8 : Option Addr) (l9 c10 : Nat), cellAt h (a7.add 3) = some (.slice p8 l9 c10)
    ∧ ∃ (I11 : Int → Hp → Prop) (μ12 : Int → Hp → Nat), I11 0 h ∧ ∀ i13 h14, I11 i13 h14 → iteP (decide (i13 < ((l9 : Nat) : Int))) ((0 : Int) ≤ i13 ∧ i13 < ((l9 : Nat) : Int) ∧ wth p8 fun a15 => ∃ n16 : Int, cellAt h14 (a15.add (Int.toNat i13 * 1)) = some (.int .u32 n16)
    ∧ ∃ p17 : Option Addr, cellAt h14 ⟨x0, 1, none⟩ = some (.pointer p17) ∧ CallsH Try.prog f_extent_Table_Free #[(.pointer p17), (.int .u8 0), (.int .u32 n16)] h14 fun r18 h19 => ∃ n20 : Int, r18 = (.int .i64 n20) ∧ I11 (IntKind.wrap .i64 (i13 + 1)) h19
    ∧ μ12 (IntKind.wrap .i64 (i13 + 1)) h19 < μ12 i13 h14) (∃ m21 : Option Nat, cellAt h14 ⟨x0, 2, none⟩ = some (.map m21) ∧ semWP Try.prog (Builtin.delete_ #[T_m_int_p_file_node, T_int] T_x #[(.map m21), (.int .i64 x1)]) h14 fun r22 h23
    => r22 = .tuple #[] ∧ K (.tuple #[]) h23)))
theorem q_file_Store_sweep_calls (x0 : Nat) (x1 : Int) (h : Hp) (K : Value → Hp → Prop) (hq : q_file_Store_sweep x0 x1 h K) : CallsH Try.prog f_file_Store_sweep #[(.pointer (some ⟨x0, 0, none⟩)), (.int .i64 x1)] h K := by
  have e : q_file_Store_sweep x0 x1 h K = fnT Try.prog 47 q_file_Store_sweep_ann Try.f108 (bodyOf Try.f108) [(.pointer (some ⟨x0, 0, none⟩)), (.int .i64 x1)] h K := by kernel_rfl
  rw [e] at hq
  exact calls_of_fnT (n := 47) (ann := q_file_Store_sweep_ann) mixOk Try.func108 (by kernel_rfl) (by kernel_rfl) (fun args w => Try.call108 args w) (by kernel_rfl) hq

def q_file_Store_Unlink_ann : Ann := { loops := fun _ => [], ty := fun _ => [], canon := fun _ => [], cuts := fun _ => none }
def q_file_Store_Unlink (x0 : Nat) (x1 : ByteArray) (h : Hp) (K : Value → Hp → Prop) : Prop :=
    CallsH Try.prog f_file_Store_Find #[(.pointer (some ⟨x0, 0, none⟩)), (.string x1)] h fun r1 h2 => ∃ n3 : Int, ∃ b4 : Bool, r1 = (.tuple #[(.int .i64 n3), (.bool b4)]) ∧ iteP (!b4) (K (.int .i64 5) h2) (∃ m5 : Option Nat, cellAt h2 ⟨x0, 2, none⟩ = some (.map m5)
    ∧ ∃ p6 : Option Addr, RunsTo Try.prog (Instr.lookup T_m_int_p_file_node (.map m5) (.int .i64 n3) false) h2 (.pointer p6) ∧ wth p6 fun a7 => (∃ old, cellAt h2 a7 = some old) ∧ frozenAt h2 a7 = false ∧ letH (setH h2 a7 (.string ⟨#[]⟩)) fun h8
    => CallsH Try.prog f_file_Store_sweep #[(.pointer (some ⟨x0, 0, none⟩)), (.int .i64 n3)] h8 fun r9 h10 => r9 = (.tuple #[]) ∧ K (.int .i64 0) h10)
theorem q_file_Store_Unlink_calls (x0 : Nat) (x1 : ByteArray) (h : Hp) (K : Value → Hp → Prop) (hq : q_file_Store_Unlink x0 x1 h K) : CallsH Try.prog f_file_Store_Unlink #[(.pointer (some ⟨x0, 0, none⟩)), (.string x1)] h K := by
  have e : q_file_Store_Unlink x0 x1 h K = fnT Try.prog 28 q_file_Store_Unlink_ann Try.f51 (bodyOf Try.f51) [(.pointer (some ⟨x0, 0, none⟩)), (.string x1)] h K := by kernel_rfl
  rw [e] at hq
  exact calls_of_fnT (n := 28) (ann := q_file_Store_Unlink_ann) mixOk Try.func51 (by kernel_rfl) (by kernel_rfl) (fun args w => Try.call51 args w) (by kernel_rfl) hq

def q_file_Store_Hold_ann : Ann := { loops := fun _ => [], ty := fun _ => [], canon := fun _ => [], cuts := fun _ => none }
def q_file_Store_Hold (x0 : Nat) (x1 : Int) (x2 : Bool) (h : Hp) (K : Value → Hp → Prop) : Prop :=
    CallsH Try.prog f_file_Store_get #[(.pointer (some ⟨x0, 0, none⟩)), (.int .i64 x1)] h fun r1 h2 => ∃ p3 : Option Addr, ∃ n4 : Int, r1 = (.tuple #[(.pointer p3), (.int .i64 n4)]) ∧ iteP (n4 != 0) (K (.int .i64 n4) h2) (iteP x2 (wth p3 fun a5
    => ∃ n6 : Int, cellAt h2 (a5.add 1) = some (.int .i64 n6) ∧ iteP (decide (n6 ≥ 100)) (K (.int .i64 4) h2) (iteP x2 (wth p3 fun a7 => ∃ n8 : Int, cellAt h2 (a7.add 1) = some (.int .i64 n8) ∧ wth p3 fun a9 => (∃ old, cellAt h2 (a9.add 1) = some old)
    ∧ frozenAt h2 (a9.add 1) = false ∧ letH (setH h2 (a9.add 1) (.int .i64 (IntKind.wrap .i64 (n8 + 1)))) fun h10 => K (.int .i64 0) h10) (wth p3 fun a11 => ∃ n12 : Int, cellAt h2 (a11.add 1) = some (.int .i64 n12) ∧ iteP (n12 == 0) (K (.int .i64 9) h2) (wth p3 fun a13
    => ∃ n14 : Int, cellAt h2 (a13.add 1) = some (.int .i64 n14) ∧ wth p3 fun a15 => (∃ old, cellAt h2 (a15.add 1) = some old) ∧ frozenAt h2 (a15.add 1) = false ∧ letH (setH h2 (a15.add 1) (.int .i64 (IntKind.wrap .i64 (n14 - 1)))) fun h16
    => CallsH Try.prog f_file_Store_sweep #[(.pointer (some ⟨x0, 0, none⟩)), (.int .i64 x1)] h16 fun r17 h18 => r17 = (.tuple #[]) ∧ K (.int .i64 0) h18)))) (iteP x2 (wth p3 fun a19 => ∃ n20 : Int, cellAt h2 (a19.add 1) = some (.int .i64 n20)
    ∧ wth p3 fun a21 => (∃ old, cellAt h2 (a21.add 1) = some old) ∧ frozenAt h2 (a21.add 1) = false ∧ letH (setH h2 (a21.add 1) (.int .i64 (IntKind.wrap .i64 (n20 + 1)))) fun h22 => K (.int .i64 0) h22) (wth p3 fun a23 => ∃ n24 : Int, cellAt h2 (a23.add 1) = some (.int .i64 n24)
    ∧ iteP (n24 == 0) (K (.int .i64 9) h2) (wth p3 fun a25 => ∃ n26 : Int, cellAt h2 (a25.add 1) = some (.int .i64 n26) ∧ wth p3 fun a27 => (∃ old, cellAt h2 (a27.add 1) = some old) ∧ frozenAt h2 (a27.add 1) = false ∧ letH (setH h2 (a27.add 1) (.int .i64 (IntKind.wrap .i64 (n26 - 1)))) fun h28
    => CallsH Try.prog f_file_Store_sweep #[(.pointer (some ⟨x0, 0, none⟩)), (.int .i64 x1)] h28 fun r29 h30 => r29 = (.tuple #[]) ∧ K (.int .i64 0) h30))))
theorem q_file_Store_Hold_calls (x0 : Nat) (x1 : Int) (x2 : Bool) (h : Hp) (K : Value → Hp → Prop) (hq : q_file_Store_Hold x0 x1 x2 h K) : CallsH Try.prog f_file_Store_Hold #[(.pointer (some ⟨x0, 0, none⟩)), (.int .i64 x1), (.bool x2)] h K := by
  have e : q_file_Store_Hold x0 x1 x2 h K = fnT Try.prog 53 q_file_Store_Hold_ann Try.f52 (bodyOf Try.f52) [(.pointer (some ⟨x0, 0, none⟩)), (.int .i64 x1), (.bool x2)] h K := by kernel_rfl
  rw [e] at hq
  exact calls_of_fnT (n := 53) (ann := q_file_Store_Hold_ann) mixOk Try.func52 (by kernel_rfl) (by kernel_rfl) (fun args w => Try.call52 args w) (by kernel_rfl) hq

def q_file_sectors_ann : Ann := { loops := fun _ => [], ty := fun _ => [], canon := fun _ => [], cuts := fun _ => none }
def q_file_sectors (x0 : Int) (h : Hp) (K : Value → Hp → Prop) : Prop :=
    K (.int .i64 (IntKind.wrap .i64 (Int.tdiv (IntKind.wrap .i64 ((IntKind.wrap .i64 (x0 + 32)) - 1)) 32))) h
theorem q_file_sectors_calls (x0 : Int) (h : Hp) (K : Value → Hp → Prop) (hq : q_file_sectors x0 h K) : CallsH Try.prog f_file_sectors #[(.int .i64 x0)] h K := by
  have e : q_file_sectors x0 h K = fnT Try.prog 7 q_file_sectors_ann Try.f79 (bodyOf Try.f79) [(.int .i64 x0)] h K := by kernel_rfl
  rw [e] at hq
  exact calls_of_fnT (n := 7) (ann := q_file_sectors_ann) mixOk Try.func79 (by kernel_rfl) (by kernel_rfl) (fun args w => Try.call79 args w) (by kernel_rfl) hq

def q_file_Store_bytes_ann : Ann := { loops := fun x => match x with | 0 => [(5, T_s_uint8), (15, T_int)] | _ => [], ty := fun _ => [], canon := fun x => match x with | 5 => [0, 1, 2, 3, 4, 5, 6, 7, 8, 9, 10, 11, 12, 13, 14, 15, 16] | _ => [], cuts := fun _ => none }
def q_file_Store_bytes (x0 : Nat) (x1 : Nat) (h : Hp) (K : Value → Hp → Prop) : Prop :=
    ∃ (p1 : Option Addr) (l2 c3 : Nat), cellAt h ⟨x1, 3, none⟩ = some (.slice p1 l2 c3) ∧ ∃ (I4 : (Option Addr × Nat × Nat) → Int → Hp → Prop) (μ5 : (Option Addr × Nat × Nat) → Int → Hp → Nat), I4 (none, 0, 0) 0 h ∧ ∀ x6 i7 h8, I4 x6 i7 h8 → iteP (decide (i7 < ((l2 : Nat) : Int))) ((0 : Int) ≤ i7
    ∧ i7 < ((l2 : Nat) : Int) ∧ wth p1 fun a9 => ∃ n10 : Int, cellAt h8 (a9.add (Int.toNat i7 * 1)) = some (.int .u32 n10) ∧ ∃ p11 : Option Addr, cellAt h8 ⟨x0, 0, none⟩ = some (.pointer p11) ∧ ∃ p12 : Option Addr, cellAt h8 ⟨x0, 0, none⟩ = some (.pointer p12)
    ∧ ∃ p13 : Option Addr, cellAt h8 ⟨x0, 1, none⟩ = some (.pointer p13) ∧ CallsH Try.prog f_file_disk_sector #[(.agg #[(.pointer p12), (.pointer p13)]), (.int .u32 n10)] h8 fun r14 h15 => ∃ n16 : Int, r14 = (.int .i64 n16) ∧
    (∃ p17 : Option Addr, cellAt h15 ⟨x0, 0, none⟩ = some (.pointer p17) ∧ ((.pointer p17) : Value) = (.pointer p11)) ∧ CallsH Try.prog f_dev_Disk_Sector #[(.pointer p11), (.int .i64 n16)] h15 fun r18 h19 => ∃ (p20 : Option Addr) (l21 c22 : Nat), ∃ n23 : Int, r18 = (.tuple #[(.slice p20 l21 c22), (.int .i64 n23)])
    ∧ semWP Try.prog (Builtin.append_ #[T_s_uint8, T_s_uint8] T_s_uint8 #[(.slice x6.1 x6.2.1 x6.2.2), (.slice p20 l21 c22)]) h19 fun r24 h25 => ∃ (p26 : Option Addr) (l27 c28 : Nat), r24 = .slice p26 l27 c28 ∧ I4 (p26, l27, c28) (IntKind.wrap .i64 (i7 + 1)) h25
    ∧ μ5 (p26, l27, c28) (IntKind.wrap .i64 (i7 + 1)) h25 < μ5 x6 i7 h8) (K (.slice x6.1 x6.2.1 x6.2.2) h8)
theorem q_file_Store_bytes_calls (x0 : Nat) (x1 : Nat) (h : Hp) (K : Value → Hp → Prop) (hq : q_file_Store_bytes x0 x1 h K) : CallsH Try.prog f_file_Store_bytes #[(.pointer (some ⟨x0, 0, none⟩)), (.pointer (some ⟨x1, 0, none⟩))] h K := by
  have e : q_file_Store_bytes x0 x1 h K = fnT Try.prog 39 q_file_Store_bytes_ann Try.f82 (bodyOf Try.f82) [(.pointer (some ⟨x0, 0, none⟩)), (.pointer (some ⟨x1, 0, none⟩))] h K := by kernel_rfl
  rw [e] at hq
  exact calls_of_fnT (n := 39) (ann := q_file_Store_bytes_ann) mixOk Try.func82 (by kernel_rfl) (by kernel_rfl) (fun args w => Try.call82 args w) (by kernel_rfl) hq

def q_file_Store_Write_ann : Ann := { loops := fun x => match x with | 0 => [(68, T_int)] | 2 => [(98, T_int)] | _ => [], ty := fun _ => [], canon := fun x => match x with | 7 => [0, 2, 3, 4, 5, 6, 1, 7, 8] | 12 => [0, 1, 2, 3, 4, 5, 6, 7, 8, 9, 10, 11, 12, 13, 14] | 19 => [0, 1, 2, 3, 4, 5, 6, 7, 8, 9, 11, 12, 13, 14, 15, 16, 17, 10, 18] | _ => [], cuts := fun _ => none }
def q_file_Store_Write (x0 : Nat) (x1 : Int) (x2 : Int) (x3 : ByteArray) (h : Hp) (K : Value → Hp → Prop) : Prop :=
    CallsH Try.prog f_file_Store_get #[(.pointer (some ⟨x0, 0, none⟩)), (.int .i64 x1)] h fun r1 h2 => ∃ p3 : Option Addr, ∃ n4 : Int, r1 = (.tuple #[(.pointer p3), (.int .i64 n4)]) ∧ iteP (n4 != 0) (K (.int .i64 n4) h2) (iteP (decide (x2 < 0)) (K (.int .i64 2) h2) (wth p3 fun a5
    => ∃ n6 : Int, cellAt h2 (a5.add 2) = some (.int .i64 n6) ∧ iteP (decide (x2 > n6)) (K (.int .i64 2) h2) (iteP (decide (((x3.size : Nat) : Int) > (IntKind.wrap .i64 (96 - x2)))) (K (.int .i64 2) h2) (wth p3 fun a7 => ∃ n8 : Int, cellAt h2 (a7.add 2) = some (.int .i64 n8)
    ∧ wth p3 fun a9 => ∃ (p10 : Option Addr) (l11 c12 : Nat), cellAt h2 (a9.add 3) = some (.slice p10 l11 c12) ∧ CallsH Try.prog f_file_sectors #[(.int .i64 (if (IntKind.wrap .i64 (x2 + ((x3.size : Nat) : Int))) > n8 then (IntKind.wrap .i64 (x2 + ((x3.size : Nat) : Int))) else n8))] h2 fun r13 h14
    => ∃ n15 : Int, r13 = (.int .i64 n15) ∧ (∃ (p16 : Option Addr) (l17 c18 : Nat), cellAt h14 (a9.add 3) = some (.slice p16 l17 c18) ∧ ((.slice p16 l17 c18) : Value) = (.slice p10 l11 c12)) ∧ ∃ p19 : Option Addr, cellAt h14 ⟨x0, 1, none⟩ = some (.pointer p19)
    ∧ CallsH Try.prog f_extent_Table_Left #[(.pointer p19)] h14 fun r20 h21 => ∃ n22 : Int, r20 = (.int .i64 n22) ∧ iteP (decide ((IntKind.wrap .i64 (n15 - ((l11 : Nat) : Int))) > n22)) (K (.int .i64 4) h21) (∃ (I23 : Int → Hp → Prop) (μ24 : Int → Hp → Nat), I23 0 h21
    ∧ ∀ i25 h26, I23 i25 h26 → iteP (decide (i25 < (IntKind.wrap .i64 (n15 - ((l11 : Nat) : Int))))) (wth p3 fun a27 => ∃ (p28 : Option Addr) (l29 c30 : Nat), cellAt h26 (a27.add 3) = some (.slice p28 l29 c30) ∧ ∃ p31 : Option Addr, cellAt h26 ⟨x0, 0, none⟩ = some (.pointer p31)
    ∧ ∃ p32 : Option Addr, cellAt h26 ⟨x0, 1, none⟩ = some (.pointer p32) ∧ CallsH Try.prog f_file_disk_take #[(.agg #[(.pointer p31), (.pointer p32)])] h26 fun r33 h34 => ∃ n35 : Int, r33 = (.int .u32 n35) ∧ (∃ (p36 : Option Addr) (l37 c38 : Nat), cellAt h34 (a27.add 3) = some (.slice p36 l37 c38)
    ∧ ((.slice p36 l37 c38) : Value) = (.slice p28 l29 c30)) ∧ letH (h34.push (.cells #[(.int .u32 n35)] T_uint32)) fun h39 => (∃ (p40 : Option Addr) (l41 c42 : Nat), cellAt h39 (a27.add 3) = some (.slice p40 l41 c42) ∧ ((.slice p40 l41 c42) : Value) = (.slice p28 l29 c30))
    ∧ semWP Try.prog (Builtin.append_ #[T_s_uint32, T_s_uint32] T_s_uint32 #[(.slice p28 l29 c30), (.slice (some ⟨h34.size, 0, none⟩) 1 1)]) h39 fun r43 h44 => ∃ (p45 : Option Addr) (l46 c47 : Nat), r43 = .slice p45 l46 c47 ∧
    wth p3 fun a48 => (∃ old, cellAt h44 (a48.add 3) = some old) ∧ frozenAt h44 (a48.add 3) = false ∧ letH (setH h44 (a48.add 3) (.slice p45 l46 c47)) fun h49 => I23 (IntKind.wrap .i64 (i25 + 1)) h49 ∧ μ24 (IntKind.wrap .i64 (i25 + 1)) h49 < μ24 i25 h26) (CallsH Try.prog f_file_Store_bytes #[(.pointer (some ⟨x0, 0, none⟩)), (.pointer p3)] h26 fun r50 h51
    => ∃ (p52 : Option Addr) (l53 c54 : Nat), r50 = (.slice p52 l53 c54) ∧ (0 : Int) ≤ x2 ∧ (Int.toNat x2) ≤ l53 ∧ semWP Try.prog (Builtin.copy_ #[T_s_uint8, T_string] T_int #[(.slice (if c54 = (Int.toNat x2) then p52 else Option.map (fun a : Addr
    => a.add ((Int.toNat x2) * 1)) p52) (l53 - (Int.toNat x2)) (c54 - (Int.toNat x2))), (.string x3)]) h51 fun r55 h56 => ∃ n57 : Int, r55 = .int .i64 n57 ∧ wth p3 fun a58 => ∃ (p59 : Option Addr) (l60 c61 : Nat), cellAt h56 (a58.add 3) = some (.slice p59 l60 c61)
    ∧ ∃ (I62 : Int → Hp → Prop) (μ63 : Int → Hp → Nat), I62 0 h56 ∧ ∀ i64 h65, I62 i64 h65 → iteP (decide (i64 < ((l60 : Nat) : Int))) ((0 : Int) ≤ i64 ∧ i64 < ((l60 : Nat) : Int) ∧ wth p59 fun a66 => ∃ n67 : Int, cellAt h65 (a66.add (Int.toNat i64 * 1)) = some (.int .u32 n67)
    ∧ ∃ p68 : Option Addr, cellAt h65 ⟨x0, 0, none⟩ = some (.pointer p68) ∧ ∃ p69 : Option Addr, cellAt h65 ⟨x0, 0, none⟩ = some (.pointer p69) ∧ ∃ p70 : Option Addr, cellAt h65 ⟨x0, 1, none⟩ = some (.pointer p70) ∧ (0 : Int) ≤ (IntKind.wrap .i64 ((IntKind.wrap .i64 (i64 + 1)) * 32))
    ∧ (Int.toNat (IntKind.wrap .i64 ((IntKind.wrap .i64 (i64 + 1)) * 32))) ≤ c54 ∧ (0 : Int) ≤ (IntKind.wrap .i64 (i64 * 32)) ∧ (Int.toNat (IntKind.wrap .i64 (i64 * 32))) ≤ (Int.toNat (IntKind.wrap .i64 ((IntKind.wrap .i64 (i64 + 1)) * 32)))
    ∧ CallsH Try.prog f_file_disk_sector #[(.agg #[(.pointer p69), (.pointer p70)]), (.int .u32 n67)] h65 fun r71 h72 => ∃ n73 : Int, r71 = (.int .i64 n73) ∧ (∃ p74 : Option Addr, cellAt h72 ⟨x0, 0, none⟩ = some (.pointer p74)
    ∧ ((.pointer p74) : Value) = (.pointer p68)) ∧ CallsH Try.prog f_dev_Disk_Set #[(.pointer p68), (.int .i64 n73), (.slice (if c54 = (Int.toNat (IntKind.wrap .i64 (i64 * 32))) then p52 else Option.map (fun a : Addr => a.add ((Int.toNat (IntKind.wrap .i64 (i64 * 32))) * 1)) p52) ((Int.toNat (IntKind.wrap .i64 ((IntKind.wrap .i64 (i64 + 1)) * 32))) - (Int.toNat (IntKind.wrap .i64 (i64 * 32)))) (c54 - (Int.toNat (IntKind.wrap .i64 (i64 * 32)))))] h72 fun r75 h76
    => ∃ n77 : Int, r75 = (.int .i64 n77) ∧ I62 (IntKind.wrap .i64 (i64 + 1)) h76 ∧ μ63 (IntKind.wrap .i64 (i64 + 1)) h76 < μ63 i64 h65) (wth p3 fun a78 => (∃ old, cellAt h65 (a78.add 2) = some old) ∧ frozenAt h65 (a78.add 2) = false
    ∧ letH (setH h65 (a78.add 2) (.int .i64 (if (IntKind.wrap .i64 (x2 + ((x3.size : Nat) : Int))) > n8 then (IntKind.wrap .i64 (x2 + ((x3.size : Nat) : Int))) else n8))) fun h79 => K (.int .i64 0) h79)))))))
theorem q_file_Store_Write_calls (x0 : Nat) (x1 : Int) (x2 : Int) (x3 : ByteArray) (h : Hp) (K : Value → Hp → Prop) (hq : q_file_Store_Write x0 x1 x2 x3 h K) : CallsH Try.prog f_file_Store_Write #[(.pointer (some ⟨x0, 0, none⟩)), (.int .i64 x1), (.int .i64 x2), (.string x3)] h K := by
  have e : q_file_Store_Write x0 x1 x2 x3 h K = fnT Try.prog 127 q_file_Store_Write_ann Try.f32 (bodyOf Try.f32) [(.pointer (some ⟨x0, 0, none⟩)), (.int .i64 x1), (.int .i64 x2), (.string x3)] h K := by kernel_rfl
  rw [e] at hq
  exact calls_of_fnT (n := 127) (ann := q_file_Store_Write_ann) mixOk Try.func32 (by kernel_rfl) (by kernel_rfl) (fun args w => Try.call32 args w) (by kernel_rfl) hq

def q_file_Store_Read_ann : Ann := { loops := fun _ => [], ty := fun _ => [], canon := fun x => match x with | 6 => [0, 1, 3, 4, 5, 6, 2, 7, 8] | _ => [], cuts := fun _ => none }
def q_file_Store_Read (x0 : Nat) (x1 : Int) (x2 : Int) (x3 : Int) (h : Hp) (K : Value → Hp → Prop) : Prop :=
    CallsH Try.prog f_file_Store_get #[(.pointer (some ⟨x0, 0, none⟩)), (.int .i64 x1)] h fun r1 h2 => ∃ p3 : Option Addr, ∃ n4 : Int, r1 = (.tuple #[(.pointer p3), (.int .i64 n4)]) ∧ iteP (n4 != 0) (K (.tuple #[(.string ⟨#[]⟩), (.int .i64 n4)]) h2) (iteP (decide (x2 < 0)) (K (.tuple #[(.string ⟨#[]⟩), (.int .i64 2)]) h2) (iteP (decide (x3 < 0)) (K (.tuple #[(.string ⟨#[]⟩), (.int .i64 2)]) h2) (wth p3 fun a5
    => ∃ n6 : Int, cellAt h2 (a5.add 2) = some (.int .i64 n6) ∧ CallsH Try.prog f_file_Store_bytes #[(.pointer (some ⟨x0, 0, none⟩)), (.pointer p3)] h2 fun r7 h8 => ∃ (p9 : Option Addr) (l10 c11 : Nat), r7 = (.slice p9 l10 c11)
    ∧ (∃ n12 : Int, cellAt h8 (a5.add 2) = some (.int .i64 n12) ∧ ((.int .i64 n12) : Value) = (.int .i64 n6)) ∧ (0 : Int) ≤ n6 ∧ (Int.toNat n6) ≤ c11 ∧ (0 : Int) ≤ (if ((((Int.toNat n6) - 0) : Nat) : Int) < x2 then ((((Int.toNat n6) - 0) : Nat) : Int) else x2)
    ∧ (Int.toNat (if ((((Int.toNat n6) - 0) : Nat) : Int) < x2 then ((((Int.toNat n6) - 0) : Nat) : Int) else x2)) ≤ ((Int.toNat n6) - 0) ∧ (0 : Int) ≤ (if (((((Int.toNat n6) - 0) - (Int.toNat (if ((((Int.toNat n6) - 0) : Nat) : Int) < x2 then ((((Int.toNat n6) - 0) : Nat) : Int) else x2))) : Nat) : Int) < x3 then (((((Int.toNat n6) - 0) - (Int.toNat (if ((((Int.toNat n6) - 0) : Nat) : Int) < x2 then ((((Int.toNat n6) - 0) : Nat) : Int) else x2))) : Nat) : Int) else x3)
    ∧ (Int.toNat (if (((((Int.toNat n6) - 0) - (Int.toNat (if ((((Int.toNat n6) - 0) : Nat) : Int) < x2 then ((((Int.toNat n6) - 0) : Nat) : Int) else x2))) : Nat) : Int) < x3 then (((((Int.toNat n6) - 0) - (Int.toNat (if ((((Int.toNat n6) - 0) : Nat) : Int) < x2 then ((((Int.toNat n6) - 0) : Nat) : Int) else x2))) : Nat) : Int) else x3)) ≤ ((c11 - 0) - (Int.toNat (if ((((Int.toNat n6) - 0) : Nat) : Int) < x2 then ((((Int.toNat n6) - 0) : Nat) : Int) else x2)))
    ∧ semWP Try.prog (convert T_s_uint8 T_string (.slice (if ((c11 - 0) - (Int.toNat (if ((((Int.toNat n6) - 0) : Nat) : Int) < x2 then ((((Int.toNat n6) - 0) : Nat) : Int) else x2))) = 0 then (if (c11 - 0) = (Int.toNat (if ((((Int.toNat n6) - 0) : Nat) : Int) < x2 then ((((Int.toNat n6) - 0) : Nat) : Int) else x2)) then (if c11 = 0 then p9 else Option.map (fun a : Addr
    => a.add (0 * 1)) p9) else Option.map (fun a : Addr => a.add ((Int.toNat (if ((((Int.toNat n6) - 0) : Nat) : Int) < x2 then ((((Int.toNat n6) - 0) : Nat) : Int) else x2)) * 1)) (if c11 = 0 then p9 else Option.map (fun a : Addr
    => a.add (0 * 1)) p9)) else Option.map (fun a : Addr => a.add (0 * 1)) (if (c11 - 0) = (Int.toNat (if ((((Int.toNat n6) - 0) : Nat) : Int) < x2 then ((((Int.toNat n6) - 0) : Nat) : Int) else x2)) then (if c11 = 0 then p9 else Option.map (fun a : Addr
    => a.add (0 * 1)) p9) else Option.map (fun a : Addr => a.add ((Int.toNat (if ((((Int.toNat n6) - 0) : Nat) : Int) < x2 then ((((Int.toNat n6) - 0) : Nat) : Int) else x2)) * 1)) (if c11 = 0 then p9 else Option.map (fun a : Addr
    => a.add (0 * 1)) p9))) ((Int.toNat (if (((((Int.toNat n6) - 0) - (Int.toNat (if ((((Int.toNat n6) - 0) : Nat) : Int) < x2 then ((((Int.toNat n6) - 0) : Nat) : Int) else x2))) : Nat) : Int) < x3 then (((((Int.toNat n6) - 0) - (Int.toNat (if ((((Int.toNat n6) - 0) : Nat) : Int) < x2 then ((((Int.toNat n6) - 0) : Nat) : Int) else x2))) : Nat) : Int) else x3)) - 0) (((c11 - 0) - (Int.toNat (if ((((Int.toNat n6) - 0) : Nat) : Int) < x2 then ((((Int.toNat n6) - 0) : Nat) : Int) else x2))) - 0))) h8 fun r13 h14
    => ∃ s15 : ByteArray, r13 = (.string s15) ∧ K (.tuple #[(.string s15), (.int .i64 0)]) h14)))
theorem q_file_Store_Read_calls (x0 : Nat) (x1 : Int) (x2 : Int) (x3 : Int) (h : Hp) (K : Value → Hp → Prop) (hq : q_file_Store_Read x0 x1 x2 x3 h K) : CallsH Try.prog f_file_Store_Read #[(.pointer (some ⟨x0, 0, none⟩)), (.int .i64 x1), (.int .i64 x2), (.int .i64 x3)] h K := by
  have e : q_file_Store_Read x0 x1 x2 x3 h K = fnT Try.prog 49 q_file_Store_Read_ann Try.f34 (bodyOf Try.f34) [(.pointer (some ⟨x0, 0, none⟩)), (.int .i64 x1), (.int .i64 x2), (.int .i64 x3)] h K := by kernel_rfl
  rw [e] at hq
  exact calls_of_fnT (n := 49) (ann := q_file_Store_Read_ann) mixOk Try.func34 (by kernel_rfl) (by kernel_rfl) (fun args w => Try.call34 args w) (by kernel_rfl) hq

def q_file_Store_Size_ann : Ann := { loops := fun _ => [], ty := fun _ => [], canon := fun _ => [], cuts := fun _ => none }
def q_file_Store_Size (x0 : Nat) (x1 : Int) (h : Hp) (K : Value → Hp → Prop) : Prop :=
    CallsH Try.prog f_file_Store_get #[(.pointer (some ⟨x0, 0, none⟩)), (.int .i64 x1)] h fun r1 h2 => ∃ p3 : Option Addr, ∃ n4 : Int, r1 = (.tuple #[(.pointer p3), (.int .i64 n4)]) ∧ iteP (n4 != 0) (K (.tuple #[(.int .i64 0), (.int .i64 n4)]) h2) (wth p3 fun a5
    => ∃ n6 : Int, cellAt h2 (a5.add 2) = some (.int .i64 n6) ∧ K (.tuple #[(.int .i64 n6), (.int .i64 0)]) h2)
theorem q_file_Store_Size_calls (x0 : Nat) (x1 : Int) (h : Hp) (K : Value → Hp → Prop) (hq : q_file_Store_Size x0 x1 h K) : CallsH Try.prog f_file_Store_Size #[(.pointer (some ⟨x0, 0, none⟩)), (.int .i64 x1)] h K := by
  have e : q_file_Store_Size x0 x1 h K = fnT Try.prog 21 q_file_Store_Size_ann Try.f49 (bodyOf Try.f49) [(.pointer (some ⟨x0, 0, none⟩)), (.int .i64 x1)] h K := by kernel_rfl
  rw [e] at hq
  exact calls_of_fnT (n := 21) (ann := q_file_Store_Size_ann) mixOk Try.func49 (by kernel_rfl) (by kernel_rfl) (fun args w => Try.call49 args w) (by kernel_rfl) hq

def q_file_Store_Sectors_ann : Ann := { loops := fun x => match x with | 0 => [(7, T_s_int), (23, T_int)] | _ => [], ty := fun _ => [], canon := fun _ => [], cuts := fun _ => none }
def q_file_Store_Sectors (x0 : Nat) (x1 : Int) (h : Hp) (K : Value → Hp → Prop) : Prop :=
    CallsH Try.prog f_file_Store_get #[(.pointer (some ⟨x0, 0, none⟩)), (.int .i64 x1)] h fun r1 h2 => ∃ p3 : Option Addr, ∃ n4 : Int, r1 = (.tuple #[(.pointer p3), (.int .i64 n4)]) ∧ iteP (n4 != 0) (K (.slice none 0 0) h2) (wth p3 fun a5
    => ∃ (p6 : Option Addr) (l7 c8 : Nat), cellAt h2 (a5.add 3) = some (.slice p6 l7 c8) ∧ ∃ (I9 : (Option Addr × Nat × Nat) → Int → Hp → Prop) (μ10 : (Option Addr × Nat × Nat) → Int → Hp → Nat), I9 (none, 0, 0) 0 h2 ∧ ∀ x11 i12 h13, I9 x11 i12 h13 → iteP (decide (i12 < ((l7 : Nat) : Int))) ((0 : Int) ≤ i12
    ∧ i12 < ((l7 : Nat) : Int) ∧ wth p6 fun a14 => ∃ n15 : Int, cellAt h13 (a14.add (Int.toNat i12 * 1)) = some (.int .u32 n15) ∧ ∃ p16 : Option Addr, cellAt h13 ⟨x0, 0, none⟩ = some (.pointer p16) ∧ ∃ p17 : Option Addr, cellAt h13 ⟨x0, 1, none⟩ = some (.pointer p17)
    ∧ CallsH Try.prog f_file_disk_sector #[(.agg #[(.pointer p16), (.pointer p17)]), (.int .u32 n15)] h13 fun r18 h19 => ∃ n20 : Int, r18 = (.int .i64 n20) ∧ letH (h19.push (.cells #[(.int .i64 n20)] T_int)) fun h21 => semWP Try.prog (Builtin.append_ #[T_s_int, T_s_int] T_s_int #[(.slice x11.1 x11.2.1 x11.2.2), (.slice (some ⟨h19.size, 0, none⟩) 1 1)]) h21 fun r22 h23
    => ∃ (p24 : Option Addr) (l25 c26 : Nat), r22 = .slice p24 l25 c26 ∧ I9 (p24, l25, c26) (IntKind.wrap .i64 (i12 + 1)) h23 ∧ μ10 (p24, l25, c26) (IntKind.wrap .i64 (i12 + 1)) h23 < μ10 x11 i12 h13) (K (.slice x11.1 x11.2.1 x11.2.2) h13))
theorem q_file_Store_Sectors_calls (x0 : Nat) (x1 : Int) (h : Hp) (K : Value → Hp → Prop) (hq : q_file_Store_Sectors x0 x1 h K) : CallsH Try.prog f_file_Store_Sectors #[(.pointer (some ⟨x0, 0, none⟩)), (.int .i64 x1)] h K := by
  have e : q_file_Store_Sectors x0 x1 h K = fnT Try.prog 38 q_file_Store_Sectors_ann Try.f54 (bodyOf Try.f54) [(.pointer (some ⟨x0, 0, none⟩)), (.int .i64 x1)] h K := by kernel_rfl
  rw [e] at hq
  exact calls_of_fnT (n := 38) (ann := q_file_Store_Sectors_ann) mixOk Try.func54 (by kernel_rfl) (by kernel_rfl) (fun args w => Try.call54 args w) (by kernel_rfl) hq

def q_file_Store_Left_ann : Ann := { loops := fun _ => [], ty := fun _ => [], canon := fun _ => [], cuts := fun _ => none }
def q_file_Store_Left (x0 : Nat) (h : Hp) (K : Value → Hp → Prop) : Prop :=
    ∃ p1 : Option Addr, cellAt h ⟨x0, 1, none⟩ = some (.pointer p1) ∧ CallsH Try.prog f_extent_Table_Left #[(.pointer p1)] h fun r2 h3 => ∃ n4 : Int, r2 = (.int .i64 n4) ∧ K (.int .i64 n4) h3
theorem q_file_Store_Left_calls (x0 : Nat) (h : Hp) (K : Value → Hp → Prop) (hq : q_file_Store_Left x0 h K) : CallsH Try.prog f_file_Store_Left #[(.pointer (some ⟨x0, 0, none⟩))] h K := by
  have e : q_file_Store_Left x0 h K = fnT Try.prog 11 q_file_Store_Left_ann Try.f55 (bodyOf Try.f55) [(.pointer (some ⟨x0, 0, none⟩))] h K := by kernel_rfl
  rw [e] at hq
  exact calls_of_fnT (n := 11) (ann := q_file_Store_Left_ann) mixOk Try.func55 (by kernel_rfl) (by kernel_rfl) (fun args w => Try.call55 args w) (by kernel_rfl) hq

def q_name_Label_ann : Ann := { loops := fun x => match x with | 0 => [(3, T_int)] | _ => [], ty := fun _ => [], canon := fun _ => [], cuts := fun _ => none }
def q_name_Label (x0 : ByteArray) (h : Hp) (K : Value → Hp → Prop) : Prop :=
    semWP Try.prog (Instr.range T_string (.string x0)) h fun r1 h2 => ∃ i3 : Nat, r1 = .pointer (some ⟨i3, 0, none⟩) ∧ ∃ (I4 : Int → Hp → Prop) (μ5 : Int → Hp → Nat), I4 0 h2 ∧ ∀ i6 h7, I4 i6 h7 → semWP Try.prog (Instr.next (.pointer (some ⟨i3, 0, none⟩)) true T_x) h7 fun r8 h9
    => (r8 = .tuple ⟨[.bool false]⟩ ∧ K (.bool (decide (i6 > 0))) h9) ∨ ∃ n10 n11 : Int, r8 = .tuple ⟨[.bool true, .int .i64 n10, .int .i32 n11]⟩ ∧ iteP (decide ((IntKind.wrap .i64 (i6 + 1)) > 6)) (K (.bool false) h9) (CallsH Try.prog f_name_letter #[(.int .i32 n11)] h9 fun r12 h13
    => ∃ b14 : Bool, r12 = (.bool b14) ∧ iteP (!b14) (K (.bool false) h13) (I4 (IntKind.wrap .i64 (i6 + 1)) h13 ∧ μ5 (IntKind.wrap .i64 (i6 + 1)) h13 < μ5 i6 h7))
theorem q_name_Label_calls (x0 : ByteArray) (h : Hp) (K : Value → Hp → Prop) (hq : q_name_Label x0 h K) : CallsH Try.prog f_name_Label #[(.string x0)] h K := by
  have e : q_name_Label x0 h K = fnT Try.prog 22 q_name_Label_ann Try.f73 (bodyOf Try.f73) [(.string x0)] h K := by kernel_rfl
  rw [e] at hq
  exact calls_of_fnT (n := 22) (ann := q_name_Label_ann) mixOk Try.func73 (by kernel_rfl) (by kernel_rfl) (fun args w => Try.call73 args w) (by kernel_rfl) hq

def q_name_letter_ann : Ann := { loops := fun _ => [], ty := fun _ => [], canon := fun _ => [], cuts := fun _ => none }
def q_name_letter (x0 : Int) (h : Hp) (K : Value → Hp → Prop) : Prop :=
    iteP (decide (x0 ≥ 97)) (iteP (decide (x0 ≤ 122)) (K (.bool true) h) (iteP (decide (x0 ≥ 48)) (iteP (decide (x0 ≤ 57)) (K (.bool true) h) (iteP (decide (x0 ≥ 945)) (K (.bool (decide (x0 ≤ 969))) h) (K (.bool false) h))) (iteP (decide (x0 ≥ 945)) (K (.bool (decide (x0 ≤ 969))) h) (K (.bool false) h)))) (iteP (decide (x0 ≥ 48)) (iteP (decide (x0 ≤ 57)) (K (.bool true) h) (iteP (decide (x0 ≥ 945)) (K (.bool (decide (x0 ≤ 969))) h) (K (.bool false) h))) (iteP (decide (x0 ≥ 945)) (K (.bool (decide (x0 ≤ 969))) h) (K (.bool false) h)))
theorem q_name_letter_calls (x0 : Int) (h : Hp) (K : Value → Hp → Prop) (hq : q_name_letter x0 h K) : CallsH Try.prog f_name_letter #[(.int .i32 x0)] h K := by
  have e : q_name_letter x0 h K = fnT Try.prog 25 q_name_letter_ann Try.f120 (bodyOf Try.f120) [(.int .i32 x0)] h K := by kernel_rfl
  rw [e] at hq
  exact calls_of_fnT (n := 25) (ann := q_name_letter_ann) mixOk Try.func120 (by kernel_rfl) (by kernel_rfl) (fun args w => Try.call120 args w) (by kernel_rfl) hq

end Go.Proofs.Ytmdhfmljgjnggaa
/- What the functions of package dev do, as far as files need them. No condition. -/
namespace Go.Proofs.Ytmdhfmljgjnggaa
attribute [local irreducible] semWP
set_option linter.constructorNameAsVariable false
theorem bytes1 {b : List Int} : ∀ v ∈ b.map (Value.int .u8), oneV v = true := by
  intro v hv
  obtain ⟨x, _, rfl⟩ := List.mem_map.1 hv
  rfl
/-- Block d is a disk of n sectors, whose bytes lie in block f (behind them there may be room). -/
structure DevAt (h : Hp) (d f n : Nat) (b : List Int) : Prop where
  dev : ∃ w wn wc c, n ≤ c ∧ h[d]? = some (.cells #[.slice w wn wc, .int .u32 0, .slice (some ⟨f, 0, none⟩) n c] T_N_dev_Disk (0, 0))
  fr : ∃ rest, h[f]? = some (.cells ⟨b.map (.int .u8) ++ rest⟩ T_N_dev_sector (0, 0))
  len : b.length = n * 32
  pos : 1 ≤ n
  le : n ≤ 64
section
variable {h h' : Hp} {d f n : Nat} {b : List Int} {K : Value → Hp → Prop}
theorem DevAt.congr (hm : DevAt h d f n b) (h1 : h'[d]? = h[d]?) (h2 : h'[f]? = h[f]?) : DevAt h' d f n b :=
  ⟨by rw [h1]; exact hm.dev, by rw [h2]; exact hm.fr, hm.len, hm.pos, hm.le⟩
theorem DevAt.ltd (hm : DevAt h d f n b) : d < h.size := by
  obtain ⟨w, wn, wc, c, _, h1⟩ := hm.dev; exact lt_of_at h1
theorem DevAt.ltf (hm : DevAt h d f n b) : f < h.size := by
  obtain ⟨c, h1⟩ := hm.fr; exact lt_of_at h1
theorem DevAt.ne (hm : DevAt h d f n b) : d ≠ f := by
  obtain ⟨w, wn, wc, c, _, h1⟩ := hm.dev
  obtain ⟨r, h2⟩ := hm.fr
  exact ne_cells h1 h2 (by decide)
theorem DevAt.ext (hm : DevAt h d f n b) (x : Ext h h') : DevAt h' d f n b := hm.congr (x.same hm.ltd) (x.same hm.ltf)
theorem DevAt.cell (hm : DevAt h d f n b) : ∃ c, n ≤ c ∧ cellAt h ⟨d, 2, none⟩ = some (.slice (some ⟨f, 0, none⟩) n c) := by
  obtain ⟨w, wn, wc, c, hc, h1⟩ := hm.dev
  exact ⟨c, hc, cellB h1 rfl⟩
theorem c_dev_has (hm : DevAt h d f n b) (i : Int) (hK : K (.bool (decide (0 ≤ i ∧ i < n))) h) : CallsH Try.prog f_dev_Disk_has #[.pointer (some ⟨d, 0, none⟩), .int .i64 i] h K := by
  refine q_dev_Disk_has_calls d i h K ?_
  unfold q_dev_Disk_has
  obtain ⟨c, hc, hcell⟩ := hm.cell
  refine iteP_cases (fun h1 => ⟨_, _, _, hcell, ?_⟩) fun h1 => ?_
  · have e : decide (0 ≤ i ∧ i < n) = decide (i < ((n : Nat) : Int)) := by simp; omega
    rw [e] at hK; exact hK
  · rw [decide_eq_false (by omega)] at hK; exact hK
/-- A sector's bytes. -/
def secOf (b : List Int) (i : Int) : List Int := (b.drop (i.toNat * 32)).take 32
theorem secOf_length (hl : b.length = n * 32) {i : Int} (h1 : 0 ≤ i) (h2 : i < n) : (secOf b i).length = 32 := by
  unfold secOf; rw [List.length_take, List.length_drop]; omega
theorem DevAt.row (hm : DevAt h d f n b) {i : Int} (h1 : 0 ≤ i) (h2 : i < n) : SlAt h T_N_dev_sector 1 (some ⟨f, i.toNat * 32, none⟩) 32 32 ((secOf b i).map (.int .u8)) [f] := by
  obtain ⟨rest, hfr⟩ := hm.fr
  have hl := hm.len
  refine ⟨by rw [List.length_map, secOf_length hl h1 h2], Nat.le_refl _, .inr ⟨f, _, _, rfl, rfl, hfr, ?_, ?_⟩⟩
  · simp only [List.size_toArray, List.length_append, List.length_map, hl]
    omega
  · show ((b.map (Value.int .u8) ++ rest).drop (i.toNat * 32)).take (32 * 1) = _
    rw [List.drop_append_of_le_length (by simp; omega), List.take_append_of_le_length (by simp; omega), secOf, List.map_take, List.map_drop]
theorem c_dev_Sector (hm : DevAt h d f n b) (i : Int) (h1 : 0 ≤ i) (h2 : i < n)
    (hK : ∀ h' p c F', SlAt h' T_uint8 1 p 32 c ((secOf b i).map (.int .u8)) F' → Ext h h' → (∀ q ∈ F', h.size ≤ q) → K (.tuple #[.slice p 32 c, .int .i64 0]) h') :
    CallsH Try.prog f_dev_Disk_Sector #[.pointer (some ⟨d, 0, none⟩), .int .i64 i] h K := by
  refine q_dev_Disk_Sector_calls d i h K ?_
  unfold q_dev_Disk_Sector
  obtain ⟨c, hc, hcell⟩ := hm.cell
  refine c_dev_has hm i ⟨_, rfl, ?_⟩
  rw [decide_eq_true (show 0 ≤ i ∧ i < (n : Int) from ⟨h1, h2⟩)]
  refine iteP_f rfl ⟨_, _, _, hcell, h1, h2, ?_⟩
  rw [wth_some]
  refine q_slices_Clone_byte_byte_calls _ _ _ _ _ ?_
  unfold q_slices_Clone_byte_byte
  refine iteP_f rfl (newB fun g b1 x1 z1 => ?_)
  have e : (if 32 = 0 then (⟨f, 0, none⟩ : Addr).add (i.toNat * 32) else ((⟨f, 0, none⟩ : Addr).add (i.toNat * 32)).add (0 * 1)) = ⟨f, i.toNat * 32, none⟩ := by
    rw [if_neg (by decide), Addr.add_mk, Addr.add_mk]; simp
  rw [e]
  have hrow := (hm.ext x1).row h1 h2
  refine semWP_appendX (t := T_s_uint8) (xt := T_s_uint8) (el := T_uint8) (xd := .slice T_uint8) (i := Try.prog.types[T_uint8]!) (sz := 1) (by rfl) (by rfl) (by kernel_rfl) (by kernel_rfl) (.inl ⟨_, rfl⟩) (by kernel_rfl) (by kernel_rfl) (by kernel_rfl) (by kernel_rfl) (by kernel_rfl) (by decide +kernel) (by omega)
    (vs := []) (F := [h.size]) ⟨rfl, by omega, .inr ⟨h.size, 0, _, rfl, rfl, b1, by simp, by simp⟩⟩ hrow.src bytes1 fun h2 p2 c2 F2 s2 st2 _ => ⟨_, _, _, rfl, _, _, _, rfl, ?_⟩
  refine hK h2 p2 c2 F2 s2 (x1.thenNew st2 (by simp)) fun q hq => ?_
  rcases st2.foot q hq with h3 | h3
  · simp at h3; omega
  · omega
theorem c_dev_Set (hm : DevAt h d f n b) (i : Int) (h1 : 0 ≤ i) (h2 : i < n) {p : Option Addr} {c : Nat} {bs : List Int} (hs : Src Try.prog h (.slice p 32 c) 1 32 (bs.map (.int .u8)))
    (hK : ∀ h', DevAt h' d f n (over b (i.toNat * 32) bs) → Step h h' [f] [f] → h'.size = h.size → K (.int .i64 0) h') :
    CallsH Try.prog f_dev_Disk_Set #[.pointer (some ⟨d, 0, none⟩), .int .i64 i, .slice p 32 c] h K := by
  refine q_dev_Disk_Set_calls d i p 32 c h K ?_
  unfold q_dev_Disk_Set
  obtain ⟨cc, hc, hcell⟩ := hm.cell
  refine c_dev_has hm i ⟨_, rfl, ?_⟩
  rw [decide_eq_true (show 0 ≤ i ∧ i < (n : Int) from ⟨h1, h2⟩)]
  refine iteP_f rfl (iteP_nne rfl ⟨_, _, _, hcell, h1, h2, ?_⟩)
  rw [wth_some]
  have e : (if 32 = 0 then (⟨f, 0, none⟩ : Addr).add (i.toNat * 32) else ((⟨f, 0, none⟩ : Addr).add (i.toNat * 32)).add (0 * 1)) = ⟨f, i.toNat * 32, none⟩ := by
    rw [if_neg (by decide), Addr.add_mk, Addr.add_mk]; simp
  rw [e]
  have hl := hm.len
  obtain ⟨rest, hfr⟩ := hm.fr
  have hbl : bs.length = 32 := by have := hs.1; simpa using this
  refine semWP_copyX (t := T_s_uint8) (el := T_uint8) (by rfl) (by kernel_rfl) (by kernel_rfl) (sz := 1) (by kernel_rfl) (hm.row h1 h2) hs bytes1 fun h' h5 _ h6 h7 => ⟨_, rfl, ?_⟩
  have hm' := h5 f _ rfl _ hfr
  refine hK h' ⟨?_, ⟨rest, ?_⟩, by rw [over_length]; exact hl, hm.pos, hm.le⟩ h6 h7
  · rw [h6.frame d hm.ltd (by simpa using hm.ne)]; exact hm.dev
  · rw [hm']
    have e1 : (bs.map (Value.int .u8)).take (min 32 32 * 1) = bs.map (Value.int .u8) := List.take_of_length_le (by simp [hbl])
    rw [e1, over_append (by simp; omega), over_map]
theorem c_dev_New (k : Int) (hbad : k < 1 ∨ 64 < k → K (.pointer none) h)
    (hok : 1 ≤ k → k ≤ 64 → ∀ h' d f, DevAt h' d f k.toNat (List.replicate (k.toNat * 32) 0) → Ext h h' → h.size ≤ d → h.size ≤ f → K (.pointer (some ⟨d, 0, none⟩)) h') :
    CallsH Try.prog f_dev_New #[.int .i64 k] h K := by
  refine q_dev_New_calls k h K ?_
  unfold q_dev_New
  refine iteP_cases (fun h1 => hbad (.inl h1)) fun h1 => iteP_cases (fun h2 => hbad (.inr h2)) fun h2 => ?_
  refine semWP_makeSlice (t := T_s_dev_sector) (el := T_N_dev_sector) (i := Try.prog.types[T_N_dev_sector]!) (by kernel_rfl) (by kernel_rfl) (by kernel_rfl) (by kernel_rfl) (by kernel_rfl) (by omega) ?_ (by omega) ?_
  · rw [show Try.prog.types[T_N_dev_sector]!.bytes = 32 by kernel_rfl]; omega
  · intro h' hh
    have hz : (zeroCells Try.prog T_N_dev_sector).toList = List.replicate 32 (.int .u8 0) := by kernel_rfl
    rw [hz, repL_replicate] at hh
    have x0 : Ext h h' := by rw [hh]; exact Ext.push _ _
    have b0 : h'[h.size]? = some (.cells ⟨List.replicate (k.toNat * 32) (.int .u8 0)⟩ T_N_dev_sector) := by rw [hh]; exact push_new _ _
    have z0 : h'.size = h.size + 1 := by rw [hh]; simp
    refine ⟨_, _, _, rfl, newB fun g b1 x1 z1 => ?_⟩
    refine hok (by omega) (by omega) g h'.size h.size ⟨⟨none, 0, 0, k.toNat, Nat.le_refl _, b1⟩, ⟨[], ?_⟩, by simp, by omega, by omega⟩ (x0.trans x1) (by omega) (Nat.le_refl _)
    rw [x1.same (by omega), b0]; simp
end
end Go.Proofs.Ytmdhfmljgjnggaa
