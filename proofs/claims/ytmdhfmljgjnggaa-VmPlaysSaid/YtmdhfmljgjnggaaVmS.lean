/- The memory of processes as plain data: how many pages lie in a frame. No condition. -/
import Derived.Test.YtmdhfmljgjnggaaCMem
namespace Go.Proofs.Ytmdhfmljgjnggaa

def cnt (f : Int) : List Int → Int
  | [] => 0
  | x :: l => (if x = f then 1 else 0) + cnt f l
theorem cnt_nonneg {f : Int} {l : List Int} : 0 ≤ cnt f l := by
  induction l with
  | nil => simp [cnt]
  | cons x l ih => simp only [cnt]; split <;> omega
theorem cnt_le {f : Int} {l : List Int} : cnt f l ≤ l.length := by
  induction l with
  | nil => simp [cnt]
  | cons x l ih => simp only [cnt, List.length_cons]; split <;> omega
theorem cnt_append {f : Int} {l m : List Int} : cnt f (l ++ m) = cnt f l + cnt f m := by
  induction l with
  | nil => simp [cnt]
  | cons x l ih => simp only [List.cons_append, cnt, ih]; omega
theorem cnt_set {f x y : Int} : ∀ {l : List Int} {i : Nat}, l[i]? = some y → cnt f (l.set i x) = cnt f l - (if y = f then 1 else 0) + (if x = f then 1 else 0) := by
  intro l
  induction l with
  | nil => intro i h; simp at h
  | cons a l ih =>
    intro i h
    cases i with
    | zero => simp only [List.getElem?_cons_zero, Option.some.injEq] at h; subst h; simp only [List.set_cons_zero, cnt]; omega
    | succ i => simp only [List.getElem?_cons_succ] at h; simp only [List.set_cons_succ, cnt, ih h]; omega
theorem cnt_pos {f : Int} : ∀ {l : List Int} {i : Nat}, l[i]? = some f → 0 < cnt f l := by
  intro l
  induction l with
  | nil => intro i h; simp at h
  | cons a l ih =>
    intro i h
    cases i with
    | zero => simp only [List.getElem?_cons_zero, Option.some.injEq] at h; subst h; simp only [cnt, if_true]; have := cnt_nonneg (f := a) (l := l); omega
    | succ i => simp only [List.getElem?_cons_succ] at h; have := ih h; simp only [cnt]; split <;> omega
theorem cnt_perm {f : Int} {l m : List Int} (h : l.Perm m) : cnt f l = cnt f m := by
  induction h with
  | nil => rfl
  | cons x _ ih => simp only [cnt, ih]
  | swap x y l => simp only [cnt]; omega
  | trans _ _ h1 h2 => rw [h1, h2]
theorem cnt_replicate {f x : Int} {n : Nat} (h : x ≠ f) : cnt f (List.replicate n x) = 0 := by
  induction n with
  | zero => rfl
  | succ n ih => simp only [List.replicate_succ, cnt, ih, if_neg h]; rfl
theorem over_split {α : Type} : ∀ {cs zs : List α} {off : Nat}, off + cs.length ≤ zs.length → over zs off cs = zs.take off ++ (cs ++ zs.drop (off + cs.length)) := by
  intro cs zs off h
  apply List.ext_getElem?
  intro i
  rw [over_get h, List.getElem?_append, List.length_take, List.getElem?_take, List.getElem?_append, List.getElem?_drop]
  by_cases h1 : i < off
  · rw [if_neg (by omega), if_pos (by omega), if_pos h1]
  · rw [if_neg (show ¬ i < min off zs.length by omega)]
    by_cases h2 : i < off + cs.length
    · rw [if_pos (by omega), if_pos (by omega)]
      congr 1; omega
    · rw [if_neg (by omega), if_neg (by omega)]
      congr 1; omega
theorem cnt_over {f : Int} {cs zs : List Int} {off : Nat} (h : off + cs.length ≤ zs.length) : cnt f (over zs off cs) = cnt f zs - cnt f ((zs.drop off).take cs.length) + cnt f cs := by
  rw [over_split h, cnt_append, cnt_append]
  have e : zs = zs.take off ++ ((zs.drop off).take cs.length ++ zs.drop (off + cs.length)) := by
    rw [← List.drop_drop, List.take_append_drop, List.take_append_drop]
  have : cnt f zs = cnt f (zs.take off) + (cnt f ((zs.drop off).take cs.length) + cnt f (zs.drop (off + cs.length))) := by
    conv => lhs; rw [e]
    rw [cnt_append, cnt_append]
  omega

/-- Frames' bytes; of each of 6 processes whether it has a space, and of its 16 pages the frame (-1: it lies nowhere; -2: it is not mapped); how many were copied. -/
structure VmS where
  n : Nat
  b : List Int
  has : List Bool
  pg : List Int
  cp : Int
deriving DecidableEq
def hasOf (s : VmS) (pid : Int) : Bool := if 0 ≤ pid ∧ pid < 6 then (s.has[pid.toNat]?).getD false else false
def ixOf (pid page : Int) : Nat := pid.toNat * 16 + page.toNat
def pgOf (s : VmS) (pid page : Int) : Int := if 0 ≤ pid ∧ pid < 6 ∧ 0 ≤ page ∧ page < 16 then (s.pg[ixOf pid page]?).getD (-2) else -2
def refsOf (pg : List Int) : List Int := (List.range 64).map fun (f : Nat) => cnt (f : Int) pg
theorem refsOf_length {pg : List Int} : (refsOf pg).length = 64 := by simp [refsOf]
theorem refsOf_get {pg : List Int} {f : Nat} (h : f < 64) : (refsOf pg)[f]? = some (cnt f pg) := by simp [refsOf, h]

structure Wf (s : VmS) : Prop where
  lh : s.has.length = 6
  lp : s.pg.length = 96
  pgs : ∀ x ∈ s.pg, -2 ≤ x ∧ x < s.n
  off : ∀ pid page, hasOf s pid = false → pgOf s pid page = -2
  le : s.n ≤ 64
theorem Wf.pg_le {s : VmS} (hw : Wf s) (pid page : Int) : -2 ≤ pgOf s pid page ∧ pgOf s pid page < s.n := by
  unfold pgOf
  split
  · cases hx : s.pg[ixOf pid page]? with
    | none => simp; omega
    | some x => simpa using hw.pgs x (List.mem_of_getElem? hx)
  · omega
theorem Wf.at {s : VmS} (hw : Wf s) {pid page : Int} (h1 : 0 ≤ pid) (h2 : pid < 6) (h3 : 0 ≤ page) (h4 : page < 16) : s.pg[ixOf pid page]? = some (pgOf s pid page) := by
  unfold pgOf
  rw [if_pos ⟨h1, h2, h3, h4⟩]
  have : ixOf pid page < s.pg.length := by rw [hw.lp]; unfold ixOf; omega
  simp [this]
theorem pgOf_in {s : VmS} {pid page : Int} (h : pgOf s pid page ≠ -2) : 0 ≤ pid ∧ pid < 6 ∧ 0 ≤ page ∧ page < 16 := by
  unfold pgOf at h
  split at h
  · assumption
  · exact (h rfl).elim
theorem hasOf_in {s : VmS} {pid : Int} (h : hasOf s pid = true) : 0 ≤ pid ∧ pid < 6 := by
  unfold hasOf at h
  split at h
  · assumption
  · cases h
theorem ixOf_inj {p q a b : Int} (h1 : 0 ≤ p) (h3 : 0 ≤ a) (h4 : a < 16) (h5 : 0 ≤ q) (h7 : 0 ≤ b) (h8 : b < 16) (h : ixOf p a = ixOf q b) : p = q ∧ a = b := by
  unfold ixOf at h; omega
theorem Wf.cnt_le {s : VmS} (hw : Wf s) (f : Int) : 0 ≤ cnt f s.pg ∧ cnt f s.pg ≤ 96 := by
  have := Go.Proofs.Ytmdhfmljgjnggaa.cnt_le (f := f) (l := s.pg)
  rw [hw.lp] at this
  exact ⟨cnt_nonneg, this⟩

/-- One page's frame is set. -/
def setPg (s : VmS) (pid page x : Int) : VmS := { s with pg := s.pg.set (ixOf pid page) x }
theorem pgOf_setPg {s : VmS} (hw : Wf s) {pid page x p q : Int} (h1 : 0 ≤ pid) (h2 : pid < 6) (h3 : 0 ≤ page) (h4 : page < 16) : pgOf (setPg s pid page x) p q = if p = pid ∧ q = page then x else pgOf s p q := by
  unfold pgOf setPg
  by_cases hr : 0 ≤ p ∧ p < 6 ∧ 0 ≤ q ∧ q < 16
  · rw [if_pos hr, if_pos hr, List.getElem?_set]
    by_cases he : p = pid ∧ q = page
    · obtain ⟨rfl, rfl⟩ := he
      have : ixOf p q < s.pg.length := by rw [hw.lp]; unfold ixOf; omega
      simp [this]
    · rw [if_neg he, if_neg]
      intro h5
      have := ixOf_inj h1 h3 h4 hr.1 hr.2.2.1 hr.2.2.2 h5
      omega
  · rw [if_neg hr, if_neg hr, if_neg]
    omega
theorem Wf.setPg {s : VmS} (hw : Wf s) {pid page x : Int} (hh : hasOf s pid = true) (h3 : 0 ≤ page) (h4 : page < 16) (h5 : -2 ≤ x) (h6 : x < s.n) : Wf (setPg s pid page x) := by
  obtain ⟨h1, h2⟩ := hasOf_in hh
  refine ⟨hw.lh, by simp [Go.Proofs.Ytmdhfmljgjnggaa.setPg, hw.lp], ?_, ?_, hw.le⟩
  · intro y hy
    rcases List.mem_or_eq_of_mem_set hy with h | h
    · exact hw.pgs y h
    · subst h; exact ⟨h5, h6⟩
  · intro p q hp
    rw [pgOf_setPg hw h1 h2 h3 h4, if_neg]
    · exact hw.off p q hp
    · rintro ⟨rfl, rfl⟩
      have : hasOf s p = false := hp
      rw [hh] at this; cases this
theorem cnt_setPg {s : VmS} (hw : Wf s) {pid page x f : Int} (h1 : 0 ≤ pid) (h2 : pid < 6) (h3 : 0 ≤ page) (h4 : page < 16) : cnt f (setPg s pid page x).pg = cnt f s.pg - (if pgOf s pid page = f then 1 else 0) + (if x = f then 1 else 0) :=
  cnt_set (hw.at h1 h2 h3 h4)
end Go.Proofs.Ytmdhfmljgjnggaa
