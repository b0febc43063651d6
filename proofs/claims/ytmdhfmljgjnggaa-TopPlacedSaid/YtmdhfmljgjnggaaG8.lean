/- The texts CLabel FileS Qvm Qmem CMem VmS, one behind the other. No condition. -/
import Derived.Test.YtmdhfmljgjnggaaG4
import Derived.Test.YtmdhfmljgjnggaaG7
import Derived.Test.YtmdhfmljgjnggaaG3
import Derived.Laws.Strings
/- Ranging over a text; what a label is. No condition. -/
namespace Go.Proofs.Ytmdhfmljgjnggaa
set_option linter.constructorNameAsVariable false
theorem objAt_str {h : Hp} {r : Nat} {s : ByteArray} {pos : Nat} (hr : h[r]? = some (.stringIter s pos)) : objAt h r = some (.stringIter s pos) := by
  unfold objAt; rw [hr]
theorem semWP_rangeStr {P : Program} {t : TypeId} {s : ByteArray} {h : Hp} {K : Value → Hp → Prop} (ht : P.underlying t = some .string) (hK : ∀ h', h'[h.size]? = some (.stringIter s 0) → Ext h h' → h'.size = h.size + 1 → K (.pointer (some ⟨h.size, 0, none⟩)) h') :
    semWP P (Instr.range t (.string s)) h K := by
  simp only [Instr.range, semWP_bind, semWP_underlying ht]
  exact hK _ (push_new _ _) (Ext.push _ _) (by simp)
theorem semWP_nextStr {P : Program} {t : TypeId} {s : ByteArray} {r pos : Nat} {h : Hp} {K : Value → Hp → Prop} (hr : h[r]? = some (.stringIter s pos)) (h0 : s.size ≤ pos → K (.tuple #[.bool false]) h)
    (h1 : pos < s.size → ∀ h', h'[r]? = some (.stringIter s (pos + (Utf8.decode s pos).2)) → Step h h' [r] [r] → h'.size = h.size → K (.tuple #[.bool true, .int .i64 pos, .int .i32 (Utf8.decode s pos).1]) h') :
    semWP P (Instr.next (.pointer (some ⟨r, 0, none⟩)) true t) h K := by
  simp only [Instr.next, semWP_bind]
  refine ⟨_, objAt_str hr, ?_⟩
  show semWP P (if pos < s.size then _ else _) h K
  by_cases hp : pos < s.size
  · rw [if_pos hp]
    simp only [semWP_bind]
    refine ⟨⟨_, objAt_str hr⟩, ?_⟩
    have hlt := lt_of_at hr
    exact h1 hp _ (by rw [Array.getElem?_setIfInBounds, if_pos rfl, if_pos hlt]) (Step.setObj (by simp)) (by simp)
  · rw [if_neg hp]
    exact h0 (by omega)
attribute [local irreducible] semWP
def letterB (c : Int) : Bool := decide (97 ≤ c ∧ c ≤ 122) || decide (48 ≤ c ∧ c ≤ 57) || decide (945 ≤ c ∧ c ≤ 969)
def labelFrom (s : ByteArray) : Nat → Nat → Nat → Bool
  | 0, _, n => decide (0 < n)
  | f + 1, pos, n => if pos < s.size then (if n + 1 > 6 then false else if letterB ((Utf8.decode s pos).1 : Int) then labelFrom s f (pos + (Utf8.decode s pos).2) (n + 1) else false) else decide (0 < n)
def labelB (s : ByteArray) : Bool := labelFrom s 8 0 0
section
variable {h : Hp} {K : Value → Hp → Prop}
theorem c_letter (c : Int) (hK : K (.bool (letterB c)) h) : CallsH Try.prog f_name_letter #[.int .i32 c] h K := by
  refine q_name_letter_calls c h K ?_
  unfold q_name_letter
  unfold letterB at hK
  have key : ∀ b, (decide (97 ≤ c ∧ c ≤ 122) || decide (48 ≤ c ∧ c ≤ 57) || decide (945 ≤ c ∧ c ≤ 969)) = b → K (.bool b) h := fun b hb => by rw [← hb]; exact hK
  have t2 : ¬ (97 ≤ c ∧ c ≤ 122) → ¬ (48 ≤ c ∧ c ≤ 57) → iteP (decide (c ≥ 945)) (K (.bool (decide (c ≤ 969))) h) (K (.bool false) h) := fun h1 h2 =>
    iteP_cases (fun h3 => key _ (by rw [decide_eq_false h1, decide_eq_false h2]; simp; omega)) fun h3 => key _ (by rw [decide_eq_false h1, decide_eq_false h2, decide_eq_false (by omega)]; rfl)
  have t1 : ¬ (97 ≤ c ∧ c ≤ 122) → iteP (decide (c ≥ 48)) (iteP (decide (c ≤ 57)) (K (.bool true) h) (iteP (decide (c ≥ 945)) (K (.bool (decide (c ≤ 969))) h) (K (.bool false) h))) (iteP (decide (c ≥ 945)) (K (.bool (decide (c ≤ 969))) h) (K (.bool false) h)) := fun h1 =>
    iteP_cases (fun h2 => iteP_cases (fun h3 => key _ (by rw [decide_eq_false h1, decide_eq_true ⟨h2, h3⟩]; rfl)) fun h3 => t2 h1 (by omega)) fun h2 => t2 h1 (by omega)
  exact iteP_cases (fun h1 => iteP_cases (fun h2 => key _ (by rw [decide_eq_true ⟨h1, h2⟩]; rfl)) fun h2 => t1 (by omega)) fun h1 => t1 (by omega)
theorem c_Label (s : ByteArray) (hK : ∀ h', Ext h h' → K (.bool (labelB s)) h') : CallsH Try.prog f_name_Label #[.string s] h K := by
  refine q_name_Label_calls s h K ?_
  unfold q_name_Label
  refine semWP_rangeStr (by kernel_rfl) fun g b1 x1 z1 => ⟨_, rfl, ?_⟩
  generalize hi : h.size = r at *
  refine ⟨fun n g' => ∃ pos, 0 ≤ n ∧ n ≤ 6 ∧ g'[r]? = some (.stringIter s pos) ∧ labelB s = labelFrom s (8 - n.toNat) pos n.toNat ∧ Ext h g', fun n _ => (7 - n).toNat, ⟨0, by omega, by omega, b1, rfl, x1⟩, ?_⟩
  rintro n g' ⟨pos, n0, n1, hit, hl, xg⟩
  have hf : 8 - n.toNat = (7 - n.toNat) + 1 := by omega
  rw [hf] at hl
  simp only [labelFrom] at hl
  refine semWP_nextStr hit (fun hp => .inl ⟨rfl, ?_⟩) fun hp g2 it2 st2 z2 => .inr ⟨_, _, rfl, ?_⟩
  · rw [if_neg (by omega)] at hl
    have := hK g' xg
    rw [hl] at this
    have e : decide (n > 0) = decide (0 < n.toNat) := by
      by_cases h0 : n > 0
      · rw [decide_eq_true h0, decide_eq_true (by omega)]
      · rw [decide_eq_false h0, decide_eq_false (by omega)]
    rw [e]; exact this
  · rw [if_pos hp] at hl
    have x2 : Ext h g2 := xg.thenNew st2 (by simp; omega)
    rw [wrap64 (x := n + 1) (by omega) (by omega)]
    refine iteP_cases (fun h6 => ?_) fun h6 => c_letter _ ⟨_, rfl, ?_⟩
    · rw [if_pos (by omega)] at hl
      have := hK g2 x2
      rw [hl] at this; exact this
    · rw [if_neg (by omega)] at hl
      cases hb : letterB ((Utf8.decode s pos).1 : Int) with
      | false =>
        rw [hb] at hl
        have := hK g2 x2
        rw [hl] at this
        exact iteP_t rfl this
      | true =>
        rw [hb] at hl
        refine iteP_f rfl ⟨⟨_, by omega, by omega, it2, ?_, x2⟩, by show (7 - (n + 1)).toNat < (7 - n).toNat; omega⟩
        rw [hl, if_pos rfl]
        congr 1 <;> omega
end
end Go.Proofs.Ytmdhfmljgjnggaa
/- Files as plain data: their names, texts and sectors. No condition. -/
namespace Go.Proofs.Ytmdhfmljgjnggaa
set_option linter.unusedVariables false
/-- A text's bytes as numbers. -/
def bl (s : ByteArray) : List Int := s.data.toList.map fun (b : UInt8) => (b.toNat : Int)
theorem bl_length (s : ByteArray) : (bl s).length = s.size := by simp [bl]
theorem bl_inj {a b : ByteArray} (h : bl a = bl b) : a = b := by
  have h1 : a.data.toList = b.data.toList := by
    unfold bl at h
    exact (List.map_inj_right fun x y hxy => UInt8.toNat_inj.1 (by omega)).1 h
  cases a; cases b
  simp only at h1
  congr 1
  exact Array.ext' h1
theorem bl_append (a b : ByteArray) : bl (a ++ b) = bl a ++ bl b := by simp [bl]
theorem bl_extract (a : ByteArray) (i j : Nat) : bl (a.extract i j) = ((bl a).take j).drop i := by
  simp only [bl, ByteArray.data_extract, Array.toList_extract, List.extract_eq_take_drop, List.map_take, List.map_drop]
  rw [List.take_drop]
  by_cases h : i ≤ j
  · rw [show i + (j - i) = j by omega]
  · rw [List.drop_eq_nil_iff.2, List.drop_eq_nil_iff.2]
    · simp; omega
    · simp; omega
theorem eqS {a b : ByteArray} : (a.toList == b.toList) = decide (a = b) := by
  by_cases h : a = b
  · subst h; simp
  · have : a.toList ≠ b.toList := fun e => h (by
      have h1 : a.data.toList = b.data.toList := by
        rw [ByteArray.toList_eq, ByteArray.toList_eq] at e
        exact e
      cases a; cases b
      simp only at h1
      congr 1
      exact Array.ext' h1)
    rw [decide_eq_false h]
    simpa using this
structure Fl where
  n : Int
  op : Int
  nm : ByteArray
  tx : ByteArray
  at_ : List Int
structure FsS where
  k : Nat
  l : List Fl
  last : Int
def empty : ByteArray := ⟨#[]⟩
/-- The sectors that belong to no file, from the least. -/
def freeL (k : Nat) (T : List Int) : List Int := ((List.range k).map fun (i : Nat) => (i : Int)).filter fun i => decide (i ∉ T)
def takenS (s : FsS) : List Int := s.l.flatMap (·.at_)
def leftF (s : FsS) : Int := (freeL s.k (takenS s)).length
def fileOf (s : FsS) (n : Int) : Option Fl := s.l.find? fun f => decide (f.n = n)
def namedOf (s : FsS) (nm : ByteArray) : Option Fl := s.l.find? fun f => decide (f.nm = nm ∧ nm ≠ empty)
/-- A file is another one; one without a name, that is not open, is no more. -/
def setF (s : FsS) (n : Int) (f : Fl) : FsS := { s with l := (s.l.map fun x => if x.n = n then f else x).filter fun x => decide (x.nm ≠ empty ∨ 0 < x.op) }
def makeF (s : FsS) (nm : ByteArray) : (Int × Int) × FsS :=
  if labelB nm = false then ((0, 3), s) else if (namedOf s nm).isSome then ((0, 6), s) else if 6 ≤ s.l.length then ((0, 4), s) else
    ((s.last + 1, 0), { s with l := s.l ++ [{ n := s.last + 1, op := 0, nm := nm, tx := empty, at_ := [] }], last := s.last + 1 })
def unlinkF (s : FsS) (nm : ByteArray) : Int × FsS := match namedOf s nm with
  | none => (5, s)
  | some f => (0, setF s f.n { f with nm := empty })
def holdF (s : FsS) (n : Int) (open_ : Bool) : Int × FsS := match fileOf s n with
  | none => (5, s)
  | some f => if open_ = true ∧ 100 ≤ f.op then (4, s) else if open_ = true then (0, setF s n { f with op := f.op + 1 }) else if f.op = 0 then (9, s) else (0, setF s n { f with op := f.op - 1 })
def secsN (size : Nat) : Nat := (size + 31) / 32
def splice (t : ByteArray) (off : Nat) (d : ByteArray) : ByteArray := t.extract 0 off ++ d ++ t.extract (off + d.size) t.size
def writeF (s : FsS) (n off : Int) (d : ByteArray) : Int × FsS := match fileOf s n with
  | none => (5, s)
  | some f => if off < 0 ∨ (f.tx.size : Int) < off ∨ 96 - off < d.size then (2, s) else
    if leftF s < (secsN (splice f.tx off.toNat d).size : Int) - f.at_.length then (4, s) else
    (0, { s with l := s.l.map fun x => if x.n = n then { f with tx := splice f.tx off.toNat d, at_ := f.at_ ++ (freeL s.k (takenS s)).take (secsN (splice f.tx off.toNat d).size - f.at_.length) } else x })
def readF (s : FsS) (n off many : Int) : ByteArray × Int := match fileOf s n with
  | none => (empty, 5)
  | some f => if off < 0 ∨ many < 0 then (empty, 2) else (f.tx.extract off.toNat (min (off.toNat + many.toNat) f.tx.size), 0)
structure FsWf (s : FsS) : Prop where
  k1 : 1 ≤ s.k
  k2 : s.k ≤ 64
  nd : (s.l.map (·.n)).Nodup
  nb : ∀ f ∈ s.l, 0 < f.n ∧ f.n ≤ s.last
  nms : s.l.Pairwise fun f g => f.nm = g.nm → f.nm = empty
  ops : ∀ f ∈ s.l, 0 ≤ f.op ∧ f.op ≤ 100
  live : ∀ f ∈ s.l, f.nm ≠ empty ∨ 0 < f.op
  len : s.l.length ≤ 6
  tx : ∀ f ∈ s.l, f.tx.size ≤ 96
  ats : ∀ f ∈ s.l, f.at_.length = secsN f.tx.size
  tk : (takenS s).Nodup
  tb : ∀ a ∈ takenS s, 0 ≤ a ∧ a < s.k
  l0 : 0 ≤ s.last
theorem splice_size (t : ByteArray) (off : Nat) (d : ByteArray) (h : off ≤ t.size) : (splice t off d).size = max t.size (off + d.size) := by
  unfold splice
  simp only [ByteArray.size_append, ByteArray.size_extract]
  omega
theorem bl_splice (t : ByteArray) (off : Nat) (d : ByteArray) (h : off ≤ t.size) : bl (splice t off d) = (bl t).take off ++ (bl d ++ (bl t).drop (off + d.size)) := by
  unfold splice
  rw [bl_append, bl_append, bl_extract, bl_extract, List.append_assoc]
  have h1 := bl_length t
  rw [List.drop_zero, List.take_of_length_le (l := bl t) (i := t.size) (by omega)]
/-- A file's bytes, to its last sector's end. -/
def padF (f : Fl) : List Int := bl f.tx ++ List.replicate (f.at_.length * 32 - f.tx.size) 0
theorem padF_length {f : Fl} (h : f.at_.length = secsN f.tx.size) : (padF f).length = f.at_.length * 32 := by
  unfold padF secsN at *
  rw [List.length_append, bl_length, List.length_replicate]; omega
/-- Bytes written over a file's bytes, with new sectors behind. -/
theorem pad_splice {f : Fl} {off m : Nat} {d : ByteArray} {more : List Int} (h : off ≤ f.tx.size) (ha : f.at_.length = secsN f.tx.size) (hm : f.at_.length + more.length = secsN (splice f.tx off d).size) :
    over (padF f ++ List.replicate (more.length * 32) 0) off (bl d) = padF { f with tx := splice f.tx off d, at_ := f.at_ ++ more } := by
  have hs := splice_size f.tx off d h
  have e1 : (padF f ++ List.replicate (more.length * 32) 0) = bl f.tx ++ List.replicate (f.at_.length * 32 - f.tx.size + more.length * 32) 0 := by
    unfold padF; rw [List.append_assoc, List.replicate_append_replicate]
  have hlt := bl_length f.tx
  have hld := bl_length d
  rw [e1]
  unfold padF
  simp only [List.length_append]
  rw [bl_splice _ _ _ h]
  unfold secsN at ha hm
  rw [over_split (by rw [hld, List.length_append, hlt, List.length_replicate]; omega)]
  rw [List.take_append_of_le_length (by omega), List.append_assoc, List.append_assoc, hld]
  congr 2
  rw [List.drop_append, hlt, List.drop_replicate]
  congr 2
  rw [hs]
  omega
theorem freeL_mem {k : Nat} {T : List Int} {a : Int} : a ∈ freeL k T ↔ 0 ≤ a ∧ a < k ∧ a ∉ T := by
  unfold freeL
  rw [List.mem_filter, List.mem_map]
  constructor
  · rintro ⟨⟨i, hi, rfl⟩, h2⟩
    simp at hi h2
    exact ⟨by omega, by omega, h2⟩
  · rintro ⟨h1, h2, h3⟩
    exact ⟨⟨a.toNat, by simp; omega, by omega⟩, by simpa using h3⟩
theorem freeL_pairwise (k : Nat) (T : List Int) : (freeL k T).Pairwise (· < ·) := by
  unfold freeL
  refine List.Pairwise.filter _ ?_
  rw [List.pairwise_map]
  exact List.pairwise_lt_range.imp fun h => by omega
theorem freeL_congr {k : Nat} {T T' : List Int} (h : ∀ a, a ∈ T ↔ a ∈ T') : freeL k T = freeL k T' := by
  unfold freeL
  congr 1
  funext i
  simp only [h]
theorem freeL_cons {k : Nat} {T : List Int} {m : Int} {rest : List Int} (h : freeL k T = m :: rest) : freeL k (m :: T) = rest := by
  have hp := freeL_pairwise k T
  rw [h, List.pairwise_cons] at hp
  have e : freeL k (m :: T) = (freeL k T).filter fun i => decide (i ≠ m) := by
    unfold freeL
    rw [List.filter_filter]
    congr 1
    funext i
    simp only [List.mem_cons, not_or]
    by_cases h1 : i = m <;> by_cases h2 : i ∈ T <;> simp [h1, h2]
  rw [e, h, List.filter_cons_of_neg (by simp)]
  rw [List.filter_eq_self]
  intro a ha
  have := hp.1 a ha
  simp; omega
theorem freeL_len {k : Nat} {T : List Int} (hn : T.Nodup) (hb : ∀ a ∈ T, 0 ≤ a ∧ a < k) : (freeL k T).length + T.length = k := by
  have hp : (freeL k T ++ T).Perm ((List.range k).map fun (i : Nat) => (i : Int)) := by
    refine (List.perm_ext_iff_of_nodup ?_ ?_).2 fun a => ?_
    · rw [List.nodup_append]
      refine ⟨(freeL_pairwise k T).imp fun h => by omega, hn, fun a ha b hb2 e => ?_⟩
      rw [freeL_mem] at ha
      exact ha.2.2 (e ▸ hb2)
    · rw [List.nodup_iff_pairwise_ne, List.pairwise_map]
      exact List.nodup_range.imp fun h e => h (by omega)
    · rw [List.mem_append, freeL_mem, List.mem_map]
      constructor
      · rintro (⟨h1, h2, _⟩ | h1)
        · exact ⟨a.toNat, by simp; omega, by omega⟩
        · have := hb a h1
          exact ⟨a.toNat, by simp; omega, by omega⟩
      · rintro ⟨i, hi, rfl⟩
        simp at hi
        by_cases h : ((i : Nat) : Int) ∈ T
        · exact .inr h
        · exact .inl ⟨by omega, by omega, h⟩
  have := hp.length_eq
  simpa using this
/-- The first room among extents in order is the least sector that is free. -/
theorem roomE_free {k : Nat} : ∀ {E : List (Int × Int)} {fr m : Int} {rest : List Int}, E.Pairwise (fun x y => x.1 < y.1) → (∀ x ∈ E, fr ≤ x.1 ∧ x.1 < k) → (freeL k (E.map (·.1))).filter (fun i => decide (fr ≤ i)) = m :: rest → 0 ≤ fr → roomE k E fr = (m, 0) := by
  intro E
  induction E with
  | nil =>
    intro fr m rest _ _ hf h0
    have hm : m ∈ (freeL k (([] : List (Int × Int)).map (·.1))).filter (fun i => decide (fr ≤ i)) := by rw [hf]; simp
    rw [List.mem_filter, freeL_mem] at hm
    have h1 : fr ≤ m := by simpa using hm.2
    have hp := (freeL_pairwise k (([] : List (Int × Int)).map (·.1))).filter (fun i => decide (fr ≤ i))
    rw [hf, List.pairwise_cons] at hp
    have hfr : fr ∈ (freeL k (([] : List (Int × Int)).map (·.1))).filter (fun i => decide (fr ≤ i)) := by
      rw [List.mem_filter, freeL_mem]
      exact ⟨⟨h0, by omega, by simp⟩, by simp⟩
    rw [hf, List.mem_cons] at hfr
    have : m = fr := by
      rcases hfr with h | h
      · exact h.symm
      · have := hp.1 fr h; omega
    subst this
    simp only [roomE]
    rw [if_pos (by omega)]
  | cons x E ih =>
    intro fr m rest hp hin hf h0
    rw [List.pairwise_cons] at hp
    have hx := hin x (by simp)
    simp only [roomE]
    by_cases hc : 1 ≤ x.1 - fr
    · rw [if_pos hc]
      have hpw := (freeL_pairwise k ((x :: E).map (·.1))).filter (fun i => decide (fr ≤ i))
      rw [hf, List.pairwise_cons] at hpw
      have hfr : fr ∈ (freeL k ((x :: E).map (·.1))).filter (fun i => decide (fr ≤ i)) := by
        rw [List.mem_filter, freeL_mem]
        refine ⟨⟨h0, by omega, ?_⟩, by simp⟩
        intro hmem
        rw [List.mem_map] at hmem
        obtain ⟨y, hy, he⟩ := hmem
        rcases List.mem_cons.1 hy with rfl | hy
        · omega
        · have := hp.1 y hy; omega
      have hm : m ∈ (freeL k ((x :: E).map (·.1))).filter (fun i => decide (fr ≤ i)) := by rw [hf]; simp
      rw [List.mem_filter] at hm
      have h1 : fr ≤ m := by simpa using hm.2
      rw [hf, List.mem_cons] at hfr
      rcases hfr with h | h
      · rw [h]
      · have := hpw.1 fr h; omega
    · rw [if_neg hc]
      have hxe : x.1 = fr := by omega
      refine ih hp.2 (fun y hy => ?_) (rest := rest) ?_ (by omega)
      · have := hp.1 y hy
        have := hin y (by simp [hy])
        omega
      · rw [← hf]
        unfold freeL
        rw [List.filter_filter, List.filter_filter]
        congr 1
        funext i
        simp only [List.map_cons, List.mem_cons, not_or, Bool.decide_and]
        by_cases h1 : i = x.1
        · subst h1
          have : ¬ (x.1 + 1 ≤ x.1) := by omega
          simp [this]
        · by_cases h2 : fr ≤ i
          · have : x.1 + 1 ≤ i := by omega
            simp [h1, h2, this]
          · have : ¬ (x.1 + 1 ≤ i) := by omega
            simp [h2, this]
end Go.Proofs.Ytmdhfmljgjnggaa
/- Formulas of package vm. No condition. -/
set_option linter.constructorNameAsVariable false
namespace Go.Proofs.Ytmdhfmljgjnggaa

def q_vm_Vm_of_ann : Ann := { loops := fun _ => [], ty := fun _ => [], canon := fun _ => [], cuts := fun _ => none }
def q_vm_Vm_of (x0 : Nat) (x1 : Int) (h : Hp) (K : Value → Hp → Prop) : Prop :=
    ∃ m1 : Option Nat, cellAt h ⟨x0, 65, none⟩ = some (.map m1) ∧ ∃ m3 : Option Nat, ∃ b2 : Bool, RunsTo Try.prog (Instr.lookup T_m_int_vm_space (.map m1) (.int .i64 x1) true) h (.tuple #[(.map m3), .bool b2]) ∧ iteP (!b2) (K (.tuple #[(.map none), (.int .i64 5)]) h) (K (.tuple #[(.map m3), (.int .i64 0)]) h)
theorem q_vm_Vm_of_calls (x0 : Nat) (x1 : Int) (h : Hp) (K : Value → Hp → Prop) (hq : q_vm_Vm_of x0 x1 h K) : CallsH Try.prog f_vm_Vm_of #[(.pointer (some ⟨x0, 0, none⟩)), (.int .i64 x1)] h K := by
  have e : q_vm_Vm_of x0 x1 h K = fnT Try.prog 22 q_vm_Vm_of_ann Try.f60 (bodyOf Try.f60) [(.pointer (some ⟨x0, 0, none⟩)), (.int .i64 x1)] h K := by kernel_rfl
  rw [e] at hq
  exact calls_of_fnT (n := 22) (ann := q_vm_Vm_of_ann) mixOk Try.func60 (by kernel_rfl) (by kernel_rfl) (fun args w => Try.call60 args w) (by kernel_rfl) hq

def q_vm_Vm_fresh_ann : Ann := { loops := fun _ => [], ty := fun _ => [], canon := fun _ => [], cuts := fun _ => none }
def q_vm_Vm_fresh (x0 : Nat) (x1 : Int) (h : Hp) (K : Value → Hp → Prop) : Prop :=
    iteP (decide (x1 < 0)) (K (.int .i64 2) h) (iteP (decide (x1 ≥ 6)) (K (.int .i64 2) h) (∃ m1 : Option Nat, cellAt h ⟨x0, 65, none⟩ = some (.map m1) ∧ ∃ m3 : Option Nat, ∃ b2 : Bool, RunsTo Try.prog (Instr.lookup T_m_int_vm_space (.map m1) (.int .i64 x1) true) h (.tuple #[(.map m3), .bool b2])
    ∧ iteP b2 (K (.int .i64 6) h) (K (.int .i64 0) h)))
theorem q_vm_Vm_fresh_calls (x0 : Nat) (x1 : Int) (h : Hp) (K : Value → Hp → Prop) (hq : q_vm_Vm_fresh x0 x1 h K) : CallsH Try.prog f_vm_Vm_fresh #[(.pointer (some ⟨x0, 0, none⟩)), (.int .i64 x1)] h K := by
  have e : q_vm_Vm_fresh x0 x1 h K = fnT Try.prog 25 q_vm_Vm_fresh_ann Try.f58 (bodyOf Try.f58) [(.pointer (some ⟨x0, 0, none⟩)), (.int .i64 x1)] h K := by kernel_rfl
  rw [e] at hq
  exact calls_of_fnT (n := 25) (ann := q_vm_Vm_fresh_ann) mixOk Try.func58 (by kernel_rfl) (by kernel_rfl) (fun args w => Try.call58 args w) (by kernel_rfl) hq

def q_vm_Vm_Begin_ann : Ann := { loops := fun _ => [], ty := fun _ => [], canon := fun _ => [], cuts := fun _ => none }
def q_vm_Vm_Begin (x0 : Nat) (x1 : Int) (h : Hp) (K : Value → Hp → Prop) : Prop :=
    CallsH Try.prog f_vm_Vm_fresh #[(.pointer (some ⟨x0, 0, none⟩)), (.int .i64 x1)] h fun r1 h2 => ∃ n3 : Int, r1 = (.int .i64 n3) ∧ iteP (n3 == 0) (∃ m4 : Option Nat, cellAt h2 ⟨x0, 65, none⟩ = some (.map m4) ∧ letH (h2.push (.map #[] 0)) fun h5
    => semWP Try.prog (Instr.mapUpdate T_m_int_vm_space (.map m4) (.int .i64 x1) (.map (some h2.size))) h5 fun _ h6 => K (.int .i64 n3) h6) (K (.int .i64 n3) h2)
theorem q_vm_Vm_Begin_calls (x0 : Nat) (x1 : Int) (h : Hp) (K : Value → Hp → Prop) (hq : q_vm_Vm_Begin x0 x1 h K) : CallsH Try.prog f_vm_Vm_Begin #[(.pointer (some ⟨x0, 0, none⟩)), (.int .i64 x1)] h K := by
  have e : q_vm_Vm_Begin x0 x1 h K = fnT Try.prog 18 q_vm_Vm_Begin_ann Try.f11 (bodyOf Try.f11) [(.pointer (some ⟨x0, 0, none⟩)), (.int .i64 x1)] h K := by kernel_rfl
  rw [e] at hq
  exact calls_of_fnT (n := 18) (ann := q_vm_Vm_Begin_ann) mixOk Try.func11 (by kernel_rfl) (by kernel_rfl) (fun args w => Try.call11 args w) (by kernel_rfl) hq

def q_vm_Vm_Poke_ann : Ann := { loops := fun _ => [], ty := fun _ => [], canon := fun x => match x with | 8 => [0, 1, 2, 3, 4, 5, 6, 7, 8, 9, 10, 11] | _ => [], cuts := fun _ => none }
def q_vm_Vm_Poke (x0 : Nat) (x1 : Int) (x2 : Int) (x3 : Int) (h : Hp) (K : Value → Hp → Prop) : Prop :=
    CallsH Try.prog f_vm_Vm_at #[(.pointer (some ⟨x0, 0, none⟩)), (.int .i64 x1), (.int .i64 x2)] h fun r1 h2 => ∃ m3 : Option Nat, ∃ n4 : Int, r1 = (.tuple #[(.map m3), (.int .i64 n4)]) ∧ iteP (n4 != 0) (K (.int .i64 n4) h2) (CallsH Try.prog f_vm_Vm_own #[(.pointer (some ⟨x0, 0, none⟩)), (.map m3), (.int .i64 (IntKind.wrap .i64 (Int.tdiv x2 32)))] h2 fun r5 h6
    => ∃ n7 : Int, r5 = (.int .i64 n7) ∧ iteP (n7 != 0) (K (.int .i64 n7) h6) (∃ p8 : Option Addr, cellAt h6 ⟨x0, 0, none⟩ = some (.pointer p8) ∧ ∃ n9 : Int, RunsTo Try.prog (Instr.lookup T_N_vm_space (.map m3) (.int .i64 (IntKind.wrap .i64 (Int.tdiv x2 32))) false) h6 (.int .i64 n9)
    ∧ CallsH Try.prog f_mem_Memory_SetByte #[(.pointer p8), (.int .i64 n9), (.int .i64 (Int.tmod x2 32)), (.int .u8 x3)] h6 fun r10 h11 => ∃ n12 : Int, r10 = (.int .i64 n12) ∧ K (.int .i64 n12) h11))
theorem q_vm_Vm_Poke_calls (x0 : Nat) (x1 : Int) (x2 : Int) (x3 : Int) (h : Hp) (K : Value → Hp → Prop) (hq : q_vm_Vm_Poke x0 x1 x2 x3 h K) : CallsH Try.prog f_vm_Vm_Poke #[(.pointer (some ⟨x0, 0, none⟩)), (.int .i64 x1), (.int .i64 x2), (.int .u8 x3)] h K := by
  have e : q_vm_Vm_Poke x0 x1 x2 x3 h K = fnT Try.prog 43 q_vm_Vm_Poke_ann Try.f14 (bodyOf Try.f14) [(.pointer (some ⟨x0, 0, none⟩)), (.int .i64 x1), (.int .i64 x2), (.int .u8 x3)] h K := by kernel_rfl
  rw [e] at hq
  exact calls_of_fnT (n := 43) (ann := q_vm_Vm_Poke_ann) mixOk Try.func14 (by kernel_rfl) (by kernel_rfl) (fun args w => Try.call14 args w) (by kernel_rfl) hq

def q_vm_Vm_Fork_ann : Ann := { loops := fun x => match x with | 0 => [] | _ => [], ty := fun x => match x with | 38 => [T_int, T_int] | _ => [], canon := fun x => match x with | 7 => [0, 1, 2, 3, 4, 5, 6, 7] | 12 => [0, 1, 2, 3, 4, 5, 6, 7, 8, 9, 10] | _ => [], cuts := fun _ => none }
def q_vm_Vm_Fork (x0 : Nat) (x1 : Int) (x2 : Int) (h : Hp) (K : Value → Hp → Prop) : Prop :=
    CallsH Try.prog f_vm_Vm_of #[(.pointer (some ⟨x0, 0, none⟩)), (.int .i64 x1)] h fun r1 h2 => ∃ m3 : Option Nat, ∃ n4 : Int, r1 = (.tuple #[(.map m3), (.int .i64 n4)]) ∧ iteP (n4 != 0) (K (.int .i64 n4) h2) (CallsH Try.prog f_vm_Vm_fresh #[(.pointer (some ⟨x0, 0, none⟩)), (.int .i64 x2)] h2 fun r5 h6
    => ∃ n7 : Int, r5 = (.int .i64 n7) ∧ iteP (n7 != 0) (K (.int .i64 n7) h6) (∃ m8 : Option Nat, cellAt h6 ⟨x0, 65, none⟩ = some (.map m8) ∧ CallsH Try.prog f_maps_Clone_vm_space_int_int #[(.map m3)] h6 fun r9 h10 => ∃ m11 : Option Nat, r9 = (.map m11)
    ∧ (∃ m12 : Option Nat, cellAt h10 ⟨x0, 65, none⟩ = some (.map m12) ∧ ((.map m12) : Value) = (.map m8)) ∧ semWP Try.prog (Instr.mapUpdate T_m_int_vm_space (.map m8) (.int .i64 x2) (.map m11)) h10 fun _ h13 => semWP Try.prog (Instr.range T_N_vm_space (.map m3)) h13 fun r14 h15
    => ∃ i16 : Nat, r14 = .pointer (some ⟨i16, 0, none⟩) ∧ ∃ (I17 : Hp → Prop) (μ18 : Hp → Nat), I17  h15 ∧ ∀  h19, I17  h19 → semWP Try.prog (Instr.next (.pointer (some ⟨i16, 0, none⟩)) false T_x) h19 fun r20 h21 => ∃ (b22 : Bool) (xs23 : List Value), r20 = .tuple ⟨.bool b22 :: xs23⟩
    ∧ iteP b22 (∃ n24 : Int, ∃ n25 : Int, RunsTo Try.prog (Instr.entry (.pointer (some ⟨i16, 0, none⟩))) h21 (.tuple #[(.int .i64 n24), (.int .i64 n25)]) ∧ iteP (n25 != (-1)) ((0 : Int) ≤ n25 ∧ n25 < ((64 : Nat) : Int) ∧ ∃ n26 : Int, cellAt h21 ((⟨x0, 1, none⟩ : Addr).add (Int.toNat n25 * 1)) = some (.int .i64 n26)
    ∧ (0 : Int) ≤ n25 ∧ n25 < ((64 : Nat) : Int) ∧ (∃ old, cellAt h21 ((⟨x0, 1, none⟩ : Addr).add (Int.toNat n25 * 1)) = some old) ∧ frozenAt h21 ((⟨x0, 1, none⟩ : Addr).add (Int.toNat n25 * 1)) = false ∧ letH (setH h21 ((⟨x0, 1, none⟩ : Addr).add (Int.toNat n25 * 1)) (.int .i64 (IntKind.wrap .i64 (n26 + 1)))) fun h27
    => I17  h27 ∧ μ18  h27 < μ18  h19) (I17  h21 ∧ μ18  h21 < μ18  h19)) (K (.int .i64 0) h21)))
theorem q_vm_Vm_Fork_calls (x0 : Nat) (x1 : Int) (x2 : Int) (h : Hp) (K : Value → Hp → Prop) (hq : q_vm_Vm_Fork x0 x1 x2 h K) : CallsH Try.prog f_vm_Vm_Fork #[(.pointer (some ⟨x0, 0, none⟩)), (.int .i64 x1), (.int .i64 x2)] h K := by
  have e : q_vm_Vm_Fork x0 x1 x2 h K = fnT Try.prog 52 q_vm_Vm_Fork_ann Try.f13 (bodyOf Try.f13) [(.pointer (some ⟨x0, 0, none⟩)), (.int .i64 x1), (.int .i64 x2)] h K := by kernel_rfl
  rw [e] at hq
  exact calls_of_fnT (n := 52) (ann := q_vm_Vm_Fork_ann) mixOk Try.func13 (by kernel_rfl) (by kernel_rfl) (fun args w => Try.call13 args w) (by kernel_rfl) hq

def q_vm_Vm_drop_ann : Ann := { loops := fun _ => [], ty := fun _ => [], canon := fun x => match x with | 2 => [0, 1, 2, 3, 4, 5, 6, 7, 8, 9, 10] | _ => [], cuts := fun _ => none }
def q_vm_Vm_drop (x0 : Nat) (x1 : Nat) (x2 : Int) (h : Hp) (K : Value → Hp → Prop) : Prop :=
    ∃ n1 : Int, RunsTo Try.prog (Instr.lookup T_N_vm_space (.map (some x1)) (.int .i64 x2) false) h (.int .i64 n1) ∧ iteP (n1 != (-1)) ((0 : Int) ≤ n1 ∧ n1 < ((64 : Nat) : Int) ∧ ∃ n2 : Int, cellAt h ((⟨x0, 1, none⟩ : Addr).add (Int.toNat n1 * 1)) = some (.int .i64 n2)
    ∧ (0 : Int) ≤ n1 ∧ n1 < ((64 : Nat) : Int) ∧ (∃ old, cellAt h ((⟨x0, 1, none⟩ : Addr).add (Int.toNat n1 * 1)) = some old) ∧ frozenAt h ((⟨x0, 1, none⟩ : Addr).add (Int.toNat n1 * 1)) = false ∧ letH (setH h ((⟨x0, 1, none⟩ : Addr).add (Int.toNat n1 * 1)) (.int .i64 (IntKind.wrap .i64 (n2 - 1)))) fun h3
    => semWP Try.prog (Builtin.delete_ #[T_N_vm_space, T_int] T_x #[(.map (some x1)), (.int .i64 x2)]) h3 fun r4 h5 => r4 = .tuple #[] ∧ K (.tuple #[]) h5) (semWP Try.prog (Builtin.delete_ #[T_N_vm_space, T_int] T_x #[(.map (some x1)), (.int .i64 x2)]) h fun r6 h7
    => r6 = .tuple #[] ∧ K (.tuple #[]) h7)
theorem q_vm_Vm_drop_calls (x0 : Nat) (x1 : Nat) (x2 : Int) (h : Hp) (K : Value → Hp → Prop) (hq : q_vm_Vm_drop x0 x1 x2 h K) : CallsH Try.prog f_vm_Vm_drop #[(.pointer (some ⟨x0, 0, none⟩)), (.map (some x1)), (.int .i64 x2)] h K := by
  have e : q_vm_Vm_drop x0 x1 x2 h K = fnT Try.prog 24 q_vm_Vm_drop_ann Try.f104 (bodyOf Try.f104) [(.pointer (some ⟨x0, 0, none⟩)), (.map (some x1)), (.int .i64 x2)] h K := by kernel_rfl
  rw [e] at hq
  exact calls_of_fnT (n := 24) (ann := q_vm_Vm_drop_ann) mixOk Try.func104 (by kernel_rfl) (by kernel_rfl) (fun args w => Try.call104 args w) (by kernel_rfl) hq

def q_vm_Vm_End_ann : Ann := { loops := fun x => match x with | 0 => [] | _ => [], ty := fun x => match x with | 22 => [T_int, T_int] | _ => [], canon := fun _ => [], cuts := fun _ => none }
def q_vm_Vm_End (x0 : Nat) (x1 : Int) (h : Hp) (K : Value → Hp → Prop) : Prop :=
    CallsH Try.prog f_vm_Vm_of #[(.pointer (some ⟨x0, 0, none⟩)), (.int .i64 x1)] h fun r1 h2 => ∃ m3 : Option Nat, ∃ n4 : Int, r1 = (.tuple #[(.map m3), (.int .i64 n4)]) ∧ iteP (n4 != 0) (K (.int .i64 n4) h2) (CallsH Try.prog f_maps_Clone_vm_space_int_int #[(.map m3)] h2 fun r5 h6
    => ∃ m7 : Option Nat, r5 = (.map m7) ∧ semWP Try.prog (Instr.range T_N_vm_space (.map m7)) h6 fun r8 h9 => ∃ i10 : Nat, r8 = .pointer (some ⟨i10, 0, none⟩) ∧ ∃ (I11 : Hp → Prop) (μ12 : Hp → Nat), I11  h9 ∧ ∀  h13, I11  h13 → semWP Try.prog (Instr.next (.pointer (some ⟨i10, 0, none⟩)) false T_x) h13 fun r14 h15
    => ∃ (b16 : Bool) (xs17 : List Value), r14 = .tuple ⟨.bool b16 :: xs17⟩ ∧ iteP b16 (∃ n18 : Int, ∃ n19 : Int, RunsTo Try.prog (Instr.entry (.pointer (some ⟨i10, 0, none⟩))) h15 (.tuple #[(.int .i64 n18), (.int .i64 n19)])
    ∧ CallsH Try.prog f_vm_Vm_drop #[(.pointer (some ⟨x0, 0, none⟩)), (.map m3), (.int .i64 n18)] h15 fun r20 h21 => r20 = (.tuple #[]) ∧ I11  h21 ∧ μ12  h21 < μ12  h13) (∃ m22 : Option Nat, cellAt h15 ⟨x0, 65, none⟩ = some (.map m22)
    ∧ semWP Try.prog (Builtin.delete_ #[T_m_int_vm_space, T_int] T_x #[(.map m22), (.int .i64 x1)]) h15 fun r23 h24 => r23 = .tuple #[] ∧ K (.int .i64 0) h24))
theorem q_vm_Vm_End_calls (x0 : Nat) (x1 : Int) (h : Hp) (K : Value → Hp → Prop) (hq : q_vm_Vm_End x0 x1 h K) : CallsH Try.prog f_vm_Vm_End #[(.pointer (some ⟨x0, 0, none⟩)), (.int .i64 x1)] h K := by
  have e : q_vm_Vm_End x0 x1 h K = fnT Try.prog 33 q_vm_Vm_End_ann Try.f43 (bodyOf Try.f43) [(.pointer (some ⟨x0, 0, none⟩)), (.int .i64 x1)] h K := by kernel_rfl
  rw [e] at hq
  exact calls_of_fnT (n := 33) (ann := q_vm_Vm_End_ann) mixOk Try.func43 (by kernel_rfl) (by kernel_rfl) (fun args w => Try.call43 args w) (by kernel_rfl) hq

def q_vm_Vm_page_ann : Ann := { loops := fun _ => [], ty := fun _ => [], canon := fun _ => [], cuts := fun _ => none }
def q_vm_Vm_page (x0 : Nat) (x1 : Int) (x2 : Int) (h : Hp) (K : Value → Hp → Prop) : Prop :=
    CallsH Try.prog f_vm_Vm_of #[(.pointer (some ⟨x0, 0, none⟩)), (.int .i64 x1)] h fun r1 h2 => ∃ m3 : Option Nat, ∃ n4 : Int, r1 = (.tuple #[(.map m3), (.int .i64 n4)]) ∧ iteP (n4 != 0) (K (.tuple #[(.map none), (.bool false), (.int .i64 n4)]) h2) (iteP (decide (x2 < 0)) (K (.tuple #[(.map none), (.bool false), (.int .i64 2)]) h2) (iteP (decide (x2 ≥ 16)) (K (.tuple #[(.map none), (.bool false), (.int .i64 2)]) h2) (∃ n6 : Int, ∃ b5 : Bool, RunsTo Try.prog (Instr.lookup T_N_vm_space (.map m3) (.int .i64 x2) true) h2 (.tuple #[(.int .i64 n6), .bool b5])
    ∧ K (.tuple #[(.map m3), (.bool b5), (.int .i64 0)]) h2)))
theorem q_vm_Vm_page_calls (x0 : Nat) (x1 : Int) (x2 : Int) (h : Hp) (K : Value → Hp → Prop) (hq : q_vm_Vm_page x0 x1 x2 h K) : CallsH Try.prog f_vm_Vm_page #[(.pointer (some ⟨x0, 0, none⟩)), (.int .i64 x1), (.int .i64 x2)] h K := by
  have e : q_vm_Vm_page x0 x1 x2 h K = fnT Try.prog 36 q_vm_Vm_page_ann Try.f59 (bodyOf Try.f59) [(.pointer (some ⟨x0, 0, none⟩)), (.int .i64 x1), (.int .i64 x2)] h K := by kernel_rfl
  rw [e] at hq
  exact calls_of_fnT (n := 36) (ann := q_vm_Vm_page_ann) mixOk Try.func59 (by kernel_rfl) (by kernel_rfl) (fun args w => Try.call59 args w) (by kernel_rfl) hq

def q_vm_Vm_Map_ann : Ann := { loops := fun _ => [], ty := fun _ => [], canon := fun _ => [], cuts := fun _ => none }
def q_vm_Vm_Map (x0 : Nat) (x1 : Int) (x2 : Int) (h : Hp) (K : Value → Hp → Prop) : Prop :=
    CallsH Try.prog f_vm_Vm_page #[(.pointer (some ⟨x0, 0, none⟩)), (.int .i64 x1), (.int .i64 x2)] h fun r1 h2 => ∃ m3 : Option Nat, ∃ b4 : Bool, ∃ n5 : Int, r1 = (.tuple #[(.map m3), (.bool b4), (.int .i64 n5)]) ∧ iteP (n5 != 0) (K (.int .i64 n5) h2) (iteP b4 (K (.int .i64 6) h2) (semWP Try.prog (Instr.mapUpdate T_N_vm_space (.map m3) (.int .i64 x2) (.int .i64 (-1))) h2 fun _ h6
    => K (.int .i64 0) h6))
theorem q_vm_Vm_Map_calls (x0 : Nat) (x1 : Int) (x2 : Int) (h : Hp) (K : Value → Hp → Prop) (hq : q_vm_Vm_Map x0 x1 x2 h K) : CallsH Try.prog f_vm_Vm_Map #[(.pointer (some ⟨x0, 0, none⟩)), (.int .i64 x1), (.int .i64 x2)] h K := by
  have e : q_vm_Vm_Map x0 x1 x2 h K = fnT Try.prog 26 q_vm_Vm_Map_ann Try.f12 (bodyOf Try.f12) [(.pointer (some ⟨x0, 0, none⟩)), (.int .i64 x1), (.int .i64 x2)] h K := by kernel_rfl
  rw [e] at hq
  exact calls_of_fnT (n := 26) (ann := q_vm_Vm_Map_ann) mixOk Try.func12 (by kernel_rfl) (by kernel_rfl) (fun args w => Try.call12 args w) (by kernel_rfl) hq

def q_vm_Vm_Unmap_ann : Ann := { loops := fun _ => [], ty := fun _ => [], canon := fun _ => [], cuts := fun _ => none }
def q_vm_Vm_Unmap (x0 : Nat) (x1 : Int) (x2 : Int) (h : Hp) (K : Value → Hp → Prop) : Prop :=
    CallsH Try.prog f_vm_Vm_page #[(.pointer (some ⟨x0, 0, none⟩)), (.int .i64 x1), (.int .i64 x2)] h fun r1 h2 => ∃ m3 : Option Nat, ∃ b4 : Bool, ∃ n5 : Int, r1 = (.tuple #[(.map m3), (.bool b4), (.int .i64 n5)]) ∧ iteP (n5 != 0) (K (.int .i64 n5) h2) (iteP (!b4) (K (.int .i64 10) h2) (CallsH Try.prog f_vm_Vm_drop #[(.pointer (some ⟨x0, 0, none⟩)), (.map m3), (.int .i64 x2)] h2 fun r6 h7
    => r6 = (.tuple #[]) ∧ K (.int .i64 0) h7))
theorem q_vm_Vm_Unmap_calls (x0 : Nat) (x1 : Int) (x2 : Int) (h : Hp) (K : Value → Hp → Prop) (hq : q_vm_Vm_Unmap x0 x1 x2 h K) : CallsH Try.prog f_vm_Vm_Unmap #[(.pointer (some ⟨x0, 0, none⟩)), (.int .i64 x1), (.int .i64 x2)] h K := by
  have e : q_vm_Vm_Unmap x0 x1 x2 h K = fnT Try.prog 29 q_vm_Vm_Unmap_ann Try.f44 (bodyOf Try.f44) [(.pointer (some ⟨x0, 0, none⟩)), (.int .i64 x1), (.int .i64 x2)] h K := by kernel_rfl
  rw [e] at hq
  exact calls_of_fnT (n := 29) (ann := q_vm_Vm_Unmap_ann) mixOk Try.func44 (by kernel_rfl) (by kernel_rfl) (fun args w => Try.call44 args w) (by kernel_rfl) hq

def q_vm_Vm_at_ann : Ann := { loops := fun _ => [], ty := fun _ => [], canon := fun _ => [], cuts := fun _ => none }
def q_vm_Vm_at (x0 : Nat) (x1 : Int) (x2 : Int) (h : Hp) (K : Value → Hp → Prop) : Prop :=
    CallsH Try.prog f_vm_Vm_of #[(.pointer (some ⟨x0, 0, none⟩)), (.int .i64 x1)] h fun r1 h2 => ∃ m3 : Option Nat, ∃ n4 : Int, r1 = (.tuple #[(.map m3), (.int .i64 n4)]) ∧ iteP (n4 != 0) (K (.tuple #[(.map none), (.int .i64 n4)]) h2) (iteP (decide (x2 < 0)) (K (.tuple #[(.map none), (.int .i64 2)]) h2) (iteP (decide (x2 ≥ 512)) (K (.tuple #[(.map none), (.int .i64 2)]) h2) (CallsH Try.prog f_vm_Vm_page #[(.pointer (some ⟨x0, 0, none⟩)), (.int .i64 x1), (.int .i64 (IntKind.wrap .i64 (Int.tdiv x2 32)))] h2 fun r5 h6
    => ∃ m7 : Option Nat, ∃ b8 : Bool, ∃ n9 : Int, r5 = (.tuple #[(.map m7), (.bool b8), (.int .i64 n9)]) ∧ iteP (!b8) (K (.tuple #[(.map none), (.int .i64 10)]) h6) (K (.tuple #[(.map m7), (.int .i64 0)]) h6))))
theorem q_vm_Vm_at_calls (x0 : Nat) (x1 : Int) (x2 : Int) (h : Hp) (K : Value → Hp → Prop) (hq : q_vm_Vm_at x0 x1 x2 h K) : CallsH Try.prog f_vm_Vm_at #[(.pointer (some ⟨x0, 0, none⟩)), (.int .i64 x1), (.int .i64 x2)] h K := by
  have e : q_vm_Vm_at x0 x1 x2 h K = fnT Try.prog 40 q_vm_Vm_at_ann Try.f62 (bodyOf Try.f62) [(.pointer (some ⟨x0, 0, none⟩)), (.int .i64 x1), (.int .i64 x2)] h K := by kernel_rfl
  rw [e] at hq
  exact calls_of_fnT (n := 40) (ann := q_vm_Vm_at_ann) mixOk Try.func62 (by kernel_rfl) (by kernel_rfl) (fun args w => Try.call62 args w) (by kernel_rfl) hq

def q_vm_Vm_next_ann : Ann := { loops := fun _ => [], ty := fun _ => [], canon := fun x => match x with | 1 => [0, 1, 2, 3, 4, 5, 6, 7, 8, 9, 10] | _ => [], cuts := fun _ => none }
def q_vm_Vm_next (x0 : Nat) (h : Hp) (K : Value → Hp → Prop) : Prop :=
    ∃ p1 : Option Addr, cellAt h ⟨x0, 0, none⟩ = some (.pointer p1) ∧ CallsH Try.prog f_mem_Memory_Size #[(.pointer p1)] h fun r2 h3 => ∃ n4 : Int, r2 = (.int .i64 n4) ∧ (0 : Int) ≤ n4 ∧ (Int.toNat n4) ≤ 64 ∧ CallsH Try.prog f_slices_Index_int_int #[(.slice (some (if 64 = 0 then (⟨x0, 1, none⟩ : Addr) else (⟨x0, 1, none⟩ : Addr).add (0 * 1))) ((Int.toNat n4) - 0) (64 - 0)), (.int .i64 0)] h3 fun r5 h6
    => ∃ n7 : Int, r5 = (.int .i64 n7) ∧ K (.tuple #[(.int .i64 n7), (.bool (decide (n7 ≥ 0)))]) h6
theorem q_vm_Vm_next_calls (x0 : Nat) (h : Hp) (K : Value → Hp → Prop) (hq : q_vm_Vm_next x0 h K) : CallsH Try.prog f_vm_Vm_next #[(.pointer (some ⟨x0, 0, none⟩))] h K := by
  have e : q_vm_Vm_next x0 h K = fnT Try.prog 18 q_vm_Vm_next_ann Try.f114 (bodyOf Try.f114) [(.pointer (some ⟨x0, 0, none⟩))] h K := by kernel_rfl
  rw [e] at hq
  exact calls_of_fnT (n := 18) (ann := q_vm_Vm_next_ann) mixOk Try.func114 (by kernel_rfl) (by kernel_rfl) (fun args w => Try.call114 args w) (by kernel_rfl) hq

def q_vm_Vm_alone_ann : Ann := { loops := fun _ => [], ty := fun _ => [], canon := fun _ => [], cuts := fun _ => none }
def q_vm_Vm_alone (x0 : Nat) (x1 : Int) (h : Hp) (K : Value → Hp → Prop) : Prop :=
    iteP (x1 != (-1)) ((0 : Int) ≤ x1 ∧ x1 < ((64 : Nat) : Int) ∧ ∃ n1 : Int, cellAt h ((⟨x0, 1, none⟩ : Addr).add (Int.toNat x1 * 1)) = some (.int .i64 n1) ∧ K (.bool (n1 == 1)) h) (K (.bool false) h)
theorem q_vm_Vm_alone_calls (x0 : Nat) (x1 : Int) (h : Hp) (K : Value → Hp → Prop) (hq : q_vm_Vm_alone x0 x1 h K) : CallsH Try.prog f_vm_Vm_alone #[(.pointer (some ⟨x0, 0, none⟩)), (.int .i64 x1)] h K := by
  have e : q_vm_Vm_alone x0 x1 h K = fnT Try.prog 16 q_vm_Vm_alone_ann Try.f105 (bodyOf Try.f105) [(.pointer (some ⟨x0, 0, none⟩)), (.int .i64 x1)] h K := by kernel_rfl
  rw [e] at hq
  exact calls_of_fnT (n := 16) (ann := q_vm_Vm_alone_ann) mixOk Try.func105 (by kernel_rfl) (by kernel_rfl) (fun args w => Try.call105 args w) (by kernel_rfl) hq

def q_vm_Vm_own_ann : Ann := { loops := fun _ => [], ty := fun _ => [], canon := fun x => match x with | 10 => [0, 1, 2, 3, 4, 5, 6, 7, 8, 9, 10] | 12 => [0, 1, 2, 3, 4, 5, 6, 7, 8, 9, 10] | _ => [], cuts := fun _ => none }
def q_vm_Vm_own (x0 : Nat) (x1 : Nat) (x2 : Int) (h : Hp) (K : Value → Hp → Prop) : Prop :=
    ∃ n1 : Int, RunsTo Try.prog (Instr.lookup T_N_vm_space (.map (some x1)) (.int .i64 x2) false) h (.int .i64 n1) ∧ CallsH Try.prog f_vm_Vm_alone #[(.pointer (some ⟨x0, 0, none⟩)), (.int .i64 n1)] h fun r2 h3 => ∃ b4 : Bool, r2 = (.bool b4)
    ∧ iteP b4 (K (.int .i64 0) h3) (CallsH Try.prog f_vm_Vm_next #[(.pointer (some ⟨x0, 0, none⟩))] h3 fun r5 h6 => ∃ n7 : Int, ∃ b8 : Bool, r5 = (.tuple #[(.int .i64 n7), (.bool b8)]) ∧ iteP (!b8) (K (.int .i64 4) h6) (iteP (n1 == (-1)) (∃ p9 : Option Addr, cellAt h6 ⟨x0, 0, none⟩ = some (.pointer p9)
    ∧ CallsH Try.prog f_mem_Memory_Zero #[(.pointer p9), (.int .i64 n7)] h6 fun r10 h11 => ∃ n12 : Int, r10 = (.int .i64 n12) ∧ (0 : Int) ≤ n7 ∧ n7 < ((64 : Nat) : Int) ∧ ∃ n13 : Int, cellAt h11 ((⟨x0, 1, none⟩ : Addr).add (Int.toNat n7 * 1)) = some (.int .i64 n13)
    ∧ (0 : Int) ≤ n7 ∧ n7 < ((64 : Nat) : Int) ∧ (∃ old, cellAt h11 ((⟨x0, 1, none⟩ : Addr).add (Int.toNat n7 * 1)) = some old) ∧ frozenAt h11 ((⟨x0, 1, none⟩ : Addr).add (Int.toNat n7 * 1)) = false ∧ letH (setH h11 ((⟨x0, 1, none⟩ : Addr).add (Int.toNat n7 * 1)) (.int .i64 (IntKind.wrap .i64 (n13 + 1)))) fun h14
    => semWP Try.prog (Instr.mapUpdate T_N_vm_space (.map (some x1)) (.int .i64 x2) (.int .i64 n7)) h14 fun _ h15 => K (.int .i64 0) h15) (∃ p16 : Option Addr, cellAt h6 ⟨x0, 0, none⟩ = some (.pointer p16) ∧ CallsH Try.prog f_mem_Memory_Copy #[(.pointer p16), (.int .i64 n7), (.int .i64 n1)] h6 fun r17 h18
    => ∃ n19 : Int, r17 = (.int .i64 n19) ∧ (0 : Int) ≤ n1 ∧ n1 < ((64 : Nat) : Int) ∧ ∃ n20 : Int, cellAt h18 ((⟨x0, 1, none⟩ : Addr).add (Int.toNat n1 * 1)) = some (.int .i64 n20) ∧ (0 : Int) ≤ n1 ∧ n1 < ((64 : Nat) : Int)
    ∧ (∃ old, cellAt h18 ((⟨x0, 1, none⟩ : Addr).add (Int.toNat n1 * 1)) = some old) ∧ frozenAt h18 ((⟨x0, 1, none⟩ : Addr).add (Int.toNat n1 * 1)) = false ∧ letH (setH h18 ((⟨x0, 1, none⟩ : Addr).add (Int.toNat n1 * 1)) (.int .i64 (IntKind.wrap .i64 (n20 - 1)))) fun h21
    => ∃ n22 : Int, cellAt h21 ⟨x0, 66, none⟩ = some (.int .i64 n22) ∧ (∃ old, cellAt h21 ⟨x0, 66, none⟩ = some old) ∧ frozenAt h21 ⟨x0, 66, none⟩ = false ∧ letH (setH h21 ⟨x0, 66, none⟩ (.int .i64 (IntKind.wrap .i64 (n22 + 1)))) fun h23
    => (0 : Int) ≤ n7 ∧ n7 < ((64 : Nat) : Int) ∧ ∃ n24 : Int, cellAt h23 ((⟨x0, 1, none⟩ : Addr).add (Int.toNat n7 * 1)) = some (.int .i64 n24) ∧ (0 : Int) ≤ n7 ∧ n7 < ((64 : Nat) : Int) ∧ (∃ old, cellAt h23 ((⟨x0, 1, none⟩ : Addr).add (Int.toNat n7 * 1)) = some old)
    ∧ frozenAt h23 ((⟨x0, 1, none⟩ : Addr).add (Int.toNat n7 * 1)) = false ∧ letH (setH h23 ((⟨x0, 1, none⟩ : Addr).add (Int.toNat n7 * 1)) (.int .i64 (IntKind.wrap .i64 (n24 + 1)))) fun h25 => semWP Try.prog (Instr.mapUpdate T_N_vm_space (.map (some x1)) (.int .i64 x2) (.int .i64 n7)) h25 fun _ h26
    => K (.int .i64 0) h26)))
theorem q_vm_Vm_own_calls (x0 : Nat) (x1 : Nat) (x2 : Int) (h : Hp) (K : Value → Hp → Prop) (hq : q_vm_Vm_own x0 x1 x2 h K) : CallsH Try.prog f_vm_Vm_own #[(.pointer (some ⟨x0, 0, none⟩)), (.map (some x1)), (.int .i64 x2)] h K := by
  have e : q_vm_Vm_own x0 x1 x2 h K = fnT Try.prog 68 q_vm_Vm_own_ann Try.f63 (bodyOf Try.f63) [(.pointer (some ⟨x0, 0, none⟩)), (.map (some x1)), (.int .i64 x2)] h K := by kernel_rfl
  rw [e] at hq
  exact calls_of_fnT (n := 68) (ann := q_vm_Vm_own_ann) mixOk Try.func63 (by kernel_rfl) (by kernel_rfl) (fun args w => Try.call63 args w) (by kernel_rfl) hq

def q_vm_Vm_Peek_ann : Ann := { loops := fun _ => [], ty := fun _ => [], canon := fun _ => [], cuts := fun _ => none }
def q_vm_Vm_Peek (x0 : Nat) (x1 : Int) (x2 : Int) (h : Hp) (K : Value → Hp → Prop) : Prop :=
    CallsH Try.prog f_vm_Vm_at #[(.pointer (some ⟨x0, 0, none⟩)), (.int .i64 x1), (.int .i64 x2)] h fun r1 h2 => ∃ m3 : Option Nat, ∃ n4 : Int, r1 = (.tuple #[(.map m3), (.int .i64 n4)]) ∧ iteP (n4 != 0) (K (.tuple #[(.int .u8 0), (.int .i64 n4)]) h2) (∃ n5 : Int, RunsTo Try.prog (Instr.lookup T_N_vm_space (.map m3) (.int .i64 (IntKind.wrap .i64 (Int.tdiv x2 32))) false) h2 (.int .i64 n5)
    ∧ iteP (n5 == (-1)) (K (.tuple #[(.int .u8 0), (.int .i64 0)]) h2) (∃ p6 : Option Addr, cellAt h2 ⟨x0, 0, none⟩ = some (.pointer p6) ∧ CallsH Try.prog f_mem_Memory_Byte #[(.pointer p6), (.int .i64 n5), (.int .i64 (Int.tmod x2 32))] h2 fun r7 h8
    => ∃ n9 : Int, ∃ n10 : Int, r7 = (.tuple #[(.int .u8 n9), (.int .i64 n10)]) ∧ K (.tuple #[(.int .u8 n9), (.int .i64 n10)]) h8))
theorem q_vm_Vm_Peek_calls (x0 : Nat) (x1 : Int) (x2 : Int) (h : Hp) (K : Value → Hp → Prop) (hq : q_vm_Vm_Peek x0 x1 x2 h K) : CallsH Try.prog f_vm_Vm_Peek #[(.pointer (some ⟨x0, 0, none⟩)), (.int .i64 x1), (.int .i64 x2)] h K := by
  have e : q_vm_Vm_Peek x0 x1 x2 h K = fnT Try.prog 37 q_vm_Vm_Peek_ann Try.f15 (bodyOf Try.f15) [(.pointer (some ⟨x0, 0, none⟩)), (.int .i64 x1), (.int .i64 x2)] h K := by kernel_rfl
  rw [e] at hq
  exact calls_of_fnT (n := 37) (ann := q_vm_Vm_Peek_ann) mixOk Try.func15 (by kernel_rfl) (by kernel_rfl) (fun args w => Try.call15 args w) (by kernel_rfl) hq

def q_vm_Vm_Fill_ann : Ann := { loops := fun x => match x with | 0 => [(11, T_int), (12, T_int)] | 2 => [(74, T_int)] | _ => [], ty := fun _ => [], canon := fun _ => [], cuts := fun _ => none }
def q_vm_Vm_Fill (x0 : Nat) (x1 : Int) (x2 : Int) (x3p : Option Addr) (x3n : Nat) (x3c : Nat) (h : Hp) (K : Value → Hp → Prop) : Prop :=
    CallsH Try.prog f_vm_Vm_of #[(.pointer (some ⟨x0, 0, none⟩)), (.int .i64 x1)] h fun r1 h2 => ∃ m3 : Option Nat, ∃ n4 : Int, r1 = (.tuple #[(.map m3), (.int .i64 n4)]) ∧ iteP (n4 != 0) (K (.int .i64 n4) h2) (iteP (decide (x2 < 0)) (K (.int .i64 2) h2) (iteP (decide (x2 ≥ 512)) (K (.int .i64 2) h2) (iteP (decide (((x3n : Nat) : Int) > (IntKind.wrap .i64 (512 - x2)))) (K (.int .i64 2) h2) (iteP (((x3n : Nat) : Int) == 0) (K (.int .i64 0) h2) (∃ (I5 : Int → Int → Hp → Prop) (μ6 : Int → Int → Hp → Nat), I5 0 (IntKind.wrap .i64 (Int.tdiv x2 32)) h2
    ∧ ∀ i7 i8 h9, I5 i7 i8 h9 → iteP (decide (i8 ≤ (IntKind.wrap .i64 (Int.tdiv (IntKind.wrap .i64 ((IntKind.wrap .i64 (x2 + ((x3n : Nat) : Int))) - 1)) 32)))) (∃ n11 : Int, ∃ b10 : Bool, RunsTo Try.prog (Instr.lookup T_N_vm_space (.map m3) (.int .i64 i8) true) h9 (.tuple #[(.int .i64 n11), .bool b10])
    ∧ iteP (!b10) (K (.int .i64 10) h9) (CallsH Try.prog f_vm_Vm_alone #[(.pointer (some ⟨x0, 0, none⟩)), (.int .i64 n11)] h9 fun r12 h13 => ∃ b14 : Bool, r12 = (.bool b14) ∧ iteP (!b14) (I5 (IntKind.wrap .i64 (i7 + 1)) (IntKind.wrap .i64 (i8 + 1)) h13
    ∧ μ6 (IntKind.wrap .i64 (i7 + 1)) (IntKind.wrap .i64 (i8 + 1)) h13 < μ6 i7 i8 h9) (I5 i7 (IntKind.wrap .i64 (i8 + 1)) h13 ∧ μ6 i7 (IntKind.wrap .i64 (i8 + 1)) h13 < μ6 i7 i8 h9))) (CallsH Try.prog f_vm_Vm_Left #[(.pointer (some ⟨x0, 0, none⟩))] h9 fun r15 h16
    => ∃ n17 : Int, r15 = (.int .i64 n17) ∧ iteP (decide (i7 > n17)) (K (.int .i64 4) h16) (∃ (I18 : Int → Hp → Prop) (μ19 : Int → Hp → Nat), I18 0 h16 ∧ ∀ i20 h21, I18 i20 h21 → iteP (decide (i20 < ((x3n : Nat) : Int))) ((0 : Int) ≤ i20
    ∧ i20 < ((x3n : Nat) : Int) ∧ wth x3p fun a22 => ∃ n23 : Int, cellAt h21 (a22.add (Int.toNat i20 * 1)) = some (.int .u8 n23) ∧ CallsH Try.prog f_vm_Vm_Poke #[(.pointer (some ⟨x0, 0, none⟩)), (.int .i64 x1), (.int .i64 (IntKind.wrap .i64 (x2 + i20))), (.int .u8 n23)] h21 fun r24 h25
    => ∃ n26 : Int, r24 = (.int .i64 n26) ∧ I18 (IntKind.wrap .i64 (i20 + 1)) h25 ∧ μ19 (IntKind.wrap .i64 (i20 + 1)) h25 < μ19 i20 h21) (K (.int .i64 0) h21))))))))
theorem q_vm_Vm_Fill_calls (x0 : Nat) (x1 : Int) (x2 : Int) (x3p : Option Addr) (x3n : Nat) (x3c : Nat) (h : Hp) (K : Value → Hp → Prop) (hq : q_vm_Vm_Fill x0 x1 x2 x3p x3n x3c h K) : CallsH Try.prog f_vm_Vm_Fill #[(.pointer (some ⟨x0, 0, none⟩)), (.int .i64 x1), (.int .i64 x2), (.slice x3p x3n x3c)] h K := by
  have e : q_vm_Vm_Fill x0 x1 x2 x3p x3n x3c h K = fnT Try.prog 87 q_vm_Vm_Fill_ann Try.f45 (bodyOf Try.f45) [(.pointer (some ⟨x0, 0, none⟩)), (.int .i64 x1), (.int .i64 x2), (.slice x3p x3n x3c)] h K := by kernel_rfl
  rw [e] at hq
  exact calls_of_fnT (n := 87) (ann := q_vm_Vm_Fill_ann) mixOk Try.func45 (by kernel_rfl) (by kernel_rfl) (fun args w => Try.call45 args w) (by kernel_rfl) hq

def q_vm_Vm_Pages_ann : Ann := { loops := fun _ => [], ty := fun _ => [], canon := fun _ => [], cuts := fun _ => none }
def q_vm_Vm_Pages (x0 : Nat) (x1 : Int) (h : Hp) (K : Value → Hp → Prop) : Prop :=
    CallsH Try.prog f_vm_Vm_of #[(.pointer (some ⟨x0, 0, none⟩)), (.int .i64 x1)] h fun r1 h2 => ∃ m3 : Option Nat, ∃ n4 : Int, r1 = (.tuple #[(.map m3), (.int .i64 n4)]) ∧ CallsH Try.prog f_maps_Keys_vm_space_int_int #[(.map m3)] h2 fun r5 h6
    => ∃ v7 : Value, r5 = v7 ∧ CallsH Try.prog f_slices_Sorted_int #[v7] h6 fun r8 h9 => ∃ (p10 : Option Addr) (l11 c12 : Nat), r8 = (.slice p10 l11 c12) ∧ K (.slice p10 l11 c12) h9
theorem q_vm_Vm_Pages_calls (x0 : Nat) (x1 : Int) (h : Hp) (K : Value → Hp → Prop) (hq : q_vm_Vm_Pages x0 x1 h K) : CallsH Try.prog f_vm_Vm_Pages #[(.pointer (some ⟨x0, 0, none⟩)), (.int .i64 x1)] h K := by
  have e : q_vm_Vm_Pages x0 x1 h K = fnT Try.prog 16 q_vm_Vm_Pages_ann Try.f46 (bodyOf Try.f46) [(.pointer (some ⟨x0, 0, none⟩)), (.int .i64 x1)] h K := by kernel_rfl
  rw [e] at hq
  exact calls_of_fnT (n := 16) (ann := q_vm_Vm_Pages_ann) mixOk Try.func46 (by kernel_rfl) (by kernel_rfl) (fun args w => Try.call46 args w) (by kernel_rfl) hq

def q_vm_Vm_Frame_ann : Ann := { loops := fun _ => [], ty := fun _ => [], canon := fun _ => [], cuts := fun _ => none }
def q_vm_Vm_Frame (x0 : Nat) (x1 : Int) (x2 : Int) (h : Hp) (K : Value → Hp → Prop) : Prop :=
    CallsH Try.prog f_vm_Vm_of #[(.pointer (some ⟨x0, 0, none⟩)), (.int .i64 x1)] h fun r1 h2 => ∃ m3 : Option Nat, ∃ n4 : Int, r1 = (.tuple #[(.map m3), (.int .i64 n4)]) ∧ ∃ n6 : Int, ∃ b5 : Bool, RunsTo Try.prog (Instr.lookup T_N_vm_space (.map m3) (.int .i64 x2) true) h2 (.tuple #[(.int .i64 n6), .bool b5])
    ∧ iteP (!b5) (K (.tuple #[(.int .i64 0), (.bool false)]) h2) (iteP (n6 == (-1)) (K (.tuple #[(.int .i64 0), (.bool false)]) h2) (K (.tuple #[(.int .i64 n6), (.bool true)]) h2))
theorem q_vm_Vm_Frame_calls (x0 : Nat) (x1 : Int) (x2 : Int) (h : Hp) (K : Value → Hp → Prop) (hq : q_vm_Vm_Frame x0 x1 x2 h K) : CallsH Try.prog f_vm_Vm_Frame #[(.pointer (some ⟨x0, 0, none⟩)), (.int .i64 x1), (.int .i64 x2)] h K := by
  have e : q_vm_Vm_Frame x0 x1 x2 h K = fnT Try.prog 31 q_vm_Vm_Frame_ann Try.f42 (bodyOf Try.f42) [(.pointer (some ⟨x0, 0, none⟩)), (.int .i64 x1), (.int .i64 x2)] h K := by kernel_rfl
  rw [e] at hq
  exact calls_of_fnT (n := 31) (ann := q_vm_Vm_Frame_ann) mixOk Try.func42 (by kernel_rfl) (by kernel_rfl) (fun args w => Try.call42 args w) (by kernel_rfl) hq

def q_vm_Vm_Refs_ann : Ann := { loops := fun _ => [], ty := fun _ => [], canon := fun _ => [], cuts := fun _ => none }
def q_vm_Vm_Refs (x0 : Nat) (x1 : Int) (h : Hp) (K : Value → Hp → Prop) : Prop :=
    iteP (decide (x1 < 0)) (K (.int .i64 0) h) (iteP (decide (x1 ≥ 64)) (K (.int .i64 0) h) ((0 : Int) ≤ x1 ∧ x1 < ((64 : Nat) : Int) ∧ ∃ n1 : Int, cellAt h ((⟨x0, 1, none⟩ : Addr).add (Int.toNat x1 * 1)) = some (.int .i64 n1)
    ∧ K (.int .i64 n1) h))
theorem q_vm_Vm_Refs_calls (x0 : Nat) (x1 : Int) (h : Hp) (K : Value → Hp → Prop) (hq : q_vm_Vm_Refs x0 x1 h K) : CallsH Try.prog f_vm_Vm_Refs #[(.pointer (some ⟨x0, 0, none⟩)), (.int .i64 x1)] h K := by
  have e : q_vm_Vm_Refs x0 x1 h K = fnT Try.prog 21 q_vm_Vm_Refs_ann Try.f47 (bodyOf Try.f47) [(.pointer (some ⟨x0, 0, none⟩)), (.int .i64 x1)] h K := by kernel_rfl
  rw [e] at hq
  exact calls_of_fnT (n := 21) (ann := q_vm_Vm_Refs_ann) mixOk Try.func47 (by kernel_rfl) (by kernel_rfl) (fun args w => Try.call47 args w) (by kernel_rfl) hq

def q_vm_Vm_Left_ann : Ann := { loops := fun x => match x with | 0 => [(3, T_int), (12, T_int)] | _ => [], ty := fun _ => [], canon := fun _ => [], cuts := fun _ => none }
def q_vm_Vm_Left (x0 : Nat) (h : Hp) (K : Value → Hp → Prop) : Prop :=
    ∃ p1 : Option Addr, cellAt h ⟨x0, 0, none⟩ = some (.pointer p1) ∧ CallsH Try.prog f_mem_Memory_Size #[(.pointer p1)] h fun r2 h3 => ∃ n4 : Int, r2 = (.int .i64 n4) ∧ ∃ (I5 : Int → Int → Hp → Prop) (μ6 : Int → Int → Hp → Nat), I5 0 0 h3
    ∧ ∀ i7 i8 h9, I5 i7 i8 h9 → iteP (decide (i8 < n4)) ((0 : Int) ≤ i8 ∧ i8 < ((64 : Nat) : Int) ∧ ∃ n10 : Int, cellAt h9 ((⟨x0, 1, none⟩ : Addr).add (Int.toNat i8 * 1)) = some (.int .i64 n10) ∧ iteP (n10 == 0) (I5 (IntKind.wrap .i64 (i7 + 1)) (IntKind.wrap .i64 (i8 + 1)) h9
    ∧ μ6 (IntKind.wrap .i64 (i7 + 1)) (IntKind.wrap .i64 (i8 + 1)) h9 < μ6 i7 i8 h9) (I5 i7 (IntKind.wrap .i64 (i8 + 1)) h9 ∧ μ6 i7 (IntKind.wrap .i64 (i8 + 1)) h9 < μ6 i7 i8 h9)) (K (.int .i64 i7) h9)
theorem q_vm_Vm_Left_calls (x0 : Nat) (h : Hp) (K : Value → Hp → Prop) (hq : q_vm_Vm_Left x0 h K) : CallsH Try.prog f_vm_Vm_Left #[(.pointer (some ⟨x0, 0, none⟩))] h K := by
  have e : q_vm_Vm_Left x0 h K = fnT Try.prog 26 q_vm_Vm_Left_ann Try.f17 (bodyOf Try.f17) [(.pointer (some ⟨x0, 0, none⟩))] h K := by kernel_rfl
  rw [e] at hq
  exact calls_of_fnT (n := 26) (ann := q_vm_Vm_Left_ann) mixOk Try.func17 (by kernel_rfl) (by kernel_rfl) (fun args w => Try.call17 args w) (by kernel_rfl) hq

def q_vm_Vm_Copies_ann : Ann := { loops := fun _ => [], ty := fun _ => [], canon := fun _ => [], cuts := fun _ => none }
def q_vm_Vm_Copies (x0 : Nat) (h : Hp) (K : Value → Hp → Prop) : Prop :=
    ∃ n1 : Int, cellAt h ⟨x0, 66, none⟩ = some (.int .i64 n1) ∧ K (.int .i64 n1) h
theorem q_vm_Vm_Copies_calls (x0 : Nat) (h : Hp) (K : Value → Hp → Prop) (hq : q_vm_Vm_Copies x0 h K) : CallsH Try.prog f_vm_Vm_Copies #[(.pointer (some ⟨x0, 0, none⟩))] h K := by
  have e : q_vm_Vm_Copies x0 h K = fnT Try.prog 9 q_vm_Vm_Copies_ann Try.f16 (bodyOf Try.f16) [(.pointer (some ⟨x0, 0, none⟩))] h K := by kernel_rfl
  rw [e] at hq
  exact calls_of_fnT (n := 9) (ann := q_vm_Vm_Copies_ann) mixOk Try.func16 (by kernel_rfl) (by kernel_rfl) (fun args w => Try.call16 args w) (by kernel_rfl) hq

def q_vm_New_ann : Ann := { loops := fun _ => [], ty := fun _ => [], canon := fun _ => [], cuts := fun _ => none }
def q_vm_New (x0 : Int) (h : Hp) (K : Value → Hp → Prop) : Prop :=
    CallsH Try.prog f_mem_New #[(.int .i64 x0)] h fun r1 h2 => ∃ p3 : Option Addr, r1 = (.pointer p3) ∧ iteP p3.isNone (K (.pointer none) h2) (letH (h2.push (.map #[] 0)) fun h4 => letH (h4.push (.cells ⟨(fillL (fillL (zeroCells Try.prog T_N_vm_Vm).toList 0 [(.pointer p3)]) 65 [(.map (some h2.size))])⟩ T_N_vm_Vm)) fun h5
    => K (.pointer (some ⟨h4.size, 0, none⟩)) h5)
theorem q_vm_New_calls (x0 : Int) (h : Hp) (K : Value → Hp → Prop) (hq : q_vm_New x0 h K) : CallsH Try.prog f_vm_New #[(.int .i64 x0)] h K := by
  have e : q_vm_New x0 h K = fnT Try.prog 12 q_vm_New_ann Try.f10 (bodyOf Try.f10) [(.int .i64 x0)] h K := by kernel_rfl
  rw [e] at hq
  exact calls_of_fnT (n := 12) (ann := q_vm_New_ann) mixOk Try.func10 (by kernel_rfl) (by kernel_rfl) (fun args w => Try.call10 args w) (by kernel_rfl) hq

end Go.Proofs.Ytmdhfmljgjnggaa
/- Formulas of package mem. No condition. -/
set_option linter.constructorNameAsVariable false
namespace Go.Proofs.Ytmdhfmljgjnggaa

def q_mem_New_ann : Ann := { loops := fun _ => [], ty := fun _ => [], canon := fun _ => [], cuts := fun _ => none }
def q_mem_New (x0 : Int) (h : Hp) (K : Value → Hp → Prop) : Prop :=
    iteP (decide (x0 < 1)) (K (.pointer none) h) (iteP (decide (x0 > 64)) (K (.pointer none) h) (semWP Try.prog (Instr.makeSlice T_s_mem_frame (.int .i64 x0) (.int .i64 x0)) h fun r1 h2 => ∃ (p3 : Option Addr) (l4 c5 : Nat), r1 = .slice p3 l4 c5
    ∧ letH (h2.push (.cells #[(.slice p3 l4 c5)] T_N_mem_Memory)) fun h6 => K (.pointer (some ⟨h2.size, 0, none⟩)) h6))
theorem q_mem_New_calls (x0 : Int) (h : Hp) (K : Value → Hp → Prop) (hq : q_mem_New x0 h K) : CallsH Try.prog f_mem_New #[(.int .i64 x0)] h K := by
  have e : q_mem_New x0 h K = fnT Try.prog 13 q_mem_New_ann Try.f57 (bodyOf Try.f57) [(.int .i64 x0)] h K := by kernel_rfl
  rw [e] at hq
  exact calls_of_fnT (n := 13) (ann := q_mem_New_ann) mixOk Try.func57 (by kernel_rfl) (by kernel_rfl) (fun args w => Try.call57 args w) (by kernel_rfl) hq

def q_mem_Memory_at_ann : Ann := { loops := fun _ => [], ty := fun _ => [], canon := fun _ => [], cuts := fun _ => none }
def q_mem_Memory_at (x0 : Nat) (x1 : Int) (x2 : Int) (x3 : Int) (h : Hp) (K : Value → Hp → Prop) : Prop :=
    iteP (decide (x1 < 0)) (K (.tuple #[(.slice none 0 0), (.int .i64 2)]) h) (∃ (p1 : Option Addr) (l2 c3 : Nat), cellAt h ⟨x0, 0, none⟩ = some (.slice p1 l2 c3) ∧ iteP (decide (x1 ≥ ((l2 : Nat) : Int))) (K (.tuple #[(.slice none 0 0), (.int .i64 2)]) h) (iteP (decide (x2 < 0)) (K (.tuple #[(.slice none 0 0), (.int .i64 2)]) h) (iteP (decide (x2 > (IntKind.wrap .i64 (32 - x3)))) (K (.tuple #[(.slice none 0 0), (.int .i64 2)]) h) (∃ (p4 : Option Addr) (l5 c6 : Nat), cellAt h ⟨x0, 0, none⟩ = some (.slice p4 l5 c6)
    ∧ (0 : Int) ≤ x1 ∧ x1 < ((l5 : Nat) : Int) ∧ wth p4 fun a7 => (0 : Int) ≤ (IntKind.wrap .i64 (x2 + x3)) ∧ (Int.toNat (IntKind.wrap .i64 (x2 + x3))) ≤ 32 ∧ (0 : Int) ≤ (IntKind.wrap .i64 (x2 + x3)) ∧ (Int.toNat (IntKind.wrap .i64 (x2 + x3))) ≤ (Int.toNat (IntKind.wrap .i64 (x2 + x3)))
    ∧ (0 : Int) ≤ x2 ∧ (Int.toNat x2) ≤ (Int.toNat (IntKind.wrap .i64 (x2 + x3))) ∧ K (.tuple #[(.slice (some (if (Int.toNat (IntKind.wrap .i64 (x2 + x3))) = (Int.toNat x2) then (a7.add (Int.toNat x1 * 32)) else (a7.add (Int.toNat x1 * 32)).add ((Int.toNat x2) * 1))) ((Int.toNat (IntKind.wrap .i64 (x2 + x3))) - (Int.toNat x2)) ((Int.toNat (IntKind.wrap .i64 (x2 + x3))) - (Int.toNat x2))), (.int .i64 0)]) h))))
theorem q_mem_Memory_at_calls (x0 : Nat) (x1 : Int) (x2 : Int) (x3 : Int) (h : Hp) (K : Value → Hp → Prop) (hq : q_mem_Memory_at x0 x1 x2 x3 h K) : CallsH Try.prog f_mem_Memory_at #[(.pointer (some ⟨x0, 0, none⟩)), (.int .i64 x1), (.int .i64 x2), (.int .i64 x3)] h K := by
  have e : q_mem_Memory_at x0 x1 x2 x3 h K = fnT Try.prog 49 q_mem_Memory_at_ann Try.f117 (bodyOf Try.f117) [(.pointer (some ⟨x0, 0, none⟩)), (.int .i64 x1), (.int .i64 x2), (.int .i64 x3)] h K := by kernel_rfl
  rw [e] at hq
  exact calls_of_fnT (n := 49) (ann := q_mem_Memory_at_ann) mixOk Try.func117 (by kernel_rfl) (by kernel_rfl) (fun args w => Try.call117 args w) (by kernel_rfl) hq

def q_mem_Memory_Byte_ann : Ann := { loops := fun _ => [], ty := fun _ => [], canon := fun _ => [], cuts := fun _ => none }
def q_mem_Memory_Byte (x0 : Nat) (x1 : Int) (x2 : Int) (h : Hp) (K : Value → Hp → Prop) : Prop :=
    CallsH Try.prog f_mem_Memory_at #[(.pointer (some ⟨x0, 0, none⟩)), (.int .i64 x1), (.int .i64 x2), (.int .i64 1)] h fun r1 h2 => ∃ (p3 : Option Addr) (l4 c5 : Nat), ∃ n6 : Int, r1 = (.tuple #[(.slice p3 l4 c5), (.int .i64 n6)])
    ∧ iteP (n6 != 0) (K (.tuple #[(.int .u8 0), (.int .i64 n6)]) h2) ((0 : Int) ≤ 0 ∧ 0 < ((l4 : Nat) : Int) ∧ wth p3 fun a7 => ∃ n8 : Int, cellAt h2 (a7.add (Int.toNat 0 * 1)) = some (.int .u8 n8) ∧ K (.tuple #[(.int .u8 n8), (.int .i64 0)]) h2)
theorem q_mem_Memory_Byte_calls (x0 : Nat) (x1 : Int) (x2 : Int) (h : Hp) (K : Value → Hp → Prop) (hq : q_mem_Memory_Byte x0 x1 x2 h K) : CallsH Try.prog f_mem_Memory_Byte #[(.pointer (some ⟨x0, 0, none⟩)), (.int .i64 x1), (.int .i64 x2)] h K := by
  have e : q_mem_Memory_Byte x0 x1 x2 h K = fnT Try.prog 23 q_mem_Memory_Byte_ann Try.f65 (bodyOf Try.f65) [(.pointer (some ⟨x0, 0, none⟩)), (.int .i64 x1), (.int .i64 x2)] h K := by kernel_rfl
  rw [e] at hq
  exact calls_of_fnT (n := 23) (ann := q_mem_Memory_Byte_ann) mixOk Try.func65 (by kernel_rfl) (by kernel_rfl) (fun args w => Try.call65 args w) (by kernel_rfl) hq

def q_mem_Memory_SetByte_ann : Ann := { loops := fun _ => [], ty := fun _ => [], canon := fun _ => [], cuts := fun _ => none }
def q_mem_Memory_SetByte (x0 : Nat) (x1 : Int) (x2 : Int) (x3 : Int) (h : Hp) (K : Value → Hp → Prop) : Prop :=
    CallsH Try.prog f_mem_Memory_at #[(.pointer (some ⟨x0, 0, none⟩)), (.int .i64 x1), (.int .i64 x2), (.int .i64 1)] h fun r1 h2 => ∃ (p3 : Option Addr) (l4 c5 : Nat), ∃ n6 : Int, r1 = (.tuple #[(.slice p3 l4 c5), (.int .i64 n6)])
    ∧ iteP (n6 == 0) ((0 : Int) ≤ 0 ∧ 0 < ((l4 : Nat) : Int) ∧ wth p3 fun a7 => (∃ old, cellAt h2 (a7.add (Int.toNat 0 * 1)) = some old) ∧ frozenAt h2 (a7.add (Int.toNat 0 * 1)) = false ∧ letH (setH h2 (a7.add (Int.toNat 0 * 1)) (.int .u8 x3)) fun h8
    => K (.int .i64 n6) h8) (K (.int .i64 n6) h2)
theorem q_mem_Memory_SetByte_calls (x0 : Nat) (x1 : Int) (x2 : Int) (x3 : Int) (h : Hp) (K : Value → Hp → Prop) (hq : q_mem_Memory_SetByte x0 x1 x2 x3 h K) : CallsH Try.prog f_mem_Memory_SetByte #[(.pointer (some ⟨x0, 0, none⟩)), (.int .i64 x1), (.int .i64 x2), (.int .u8 x3)] h K := by
  have e : q_mem_Memory_SetByte x0 x1 x2 x3 h K = fnT Try.prog 24 q_mem_Memory_SetByte_ann Try.f64 (bodyOf Try.f64) [(.pointer (some ⟨x0, 0, none⟩)), (.int .i64 x1), (.int .i64 x2), (.int .u8 x3)] h K := by kernel_rfl
  rw [e] at hq
  exact calls_of_fnT (n := 24) (ann := q_mem_Memory_SetByte_ann) mixOk Try.func64 (by kernel_rfl) (by kernel_rfl) (fun args w => Try.call64 args w) (by kernel_rfl) hq

def q_mem_Memory_Zero_ann : Ann := { loops := fun _ => [], ty := fun _ => [], canon := fun _ => [], cuts := fun _ => none }
def q_mem_Memory_Zero (x0 : Nat) (x1 : Int) (h : Hp) (K : Value → Hp → Prop) : Prop :=
    CallsH Try.prog f_mem_Memory_at #[(.pointer (some ⟨x0, 0, none⟩)), (.int .i64 x1), (.int .i64 0), (.int .i64 32)] h fun r1 h2 => ∃ (p3 : Option Addr) (l4 c5 : Nat), ∃ n6 : Int, r1 = (.tuple #[(.slice p3 l4 c5), (.int .i64 n6)])
    ∧ semWP Try.prog (Builtin.clear_ #[T_s_uint8] T_x #[(.slice p3 l4 c5)]) h2 fun r7 h8 => r7 = .tuple #[] ∧ K (.int .i64 n6) h8
theorem q_mem_Memory_Zero_calls (x0 : Nat) (x1 : Int) (h : Hp) (K : Value → Hp → Prop) (hq : q_mem_Memory_Zero x0 x1 h K) : CallsH Try.prog f_mem_Memory_Zero #[(.pointer (some ⟨x0, 0, none⟩)), (.int .i64 x1)] h K := by
  have e : q_mem_Memory_Zero x0 x1 h K = fnT Try.prog 15 q_mem_Memory_Zero_ann Try.f115 (bodyOf Try.f115) [(.pointer (some ⟨x0, 0, none⟩)), (.int .i64 x1)] h K := by kernel_rfl
  rw [e] at hq
  exact calls_of_fnT (n := 15) (ann := q_mem_Memory_Zero_ann) mixOk Try.func115 (by kernel_rfl) (by kernel_rfl) (fun args w => Try.call115 args w) (by kernel_rfl) hq

def q_mem_Memory_Copy_ann : Ann := { loops := fun _ => [], ty := fun _ => [], canon := fun _ => [], cuts := fun _ => none }
def q_mem_Memory_Copy (x0 : Nat) (x1 : Int) (x2 : Int) (h : Hp) (K : Value → Hp → Prop) : Prop :=
    CallsH Try.prog f_mem_Memory_at #[(.pointer (some ⟨x0, 0, none⟩)), (.int .i64 x1), (.int .i64 0), (.int .i64 32)] h fun r1 h2 => ∃ (p3 : Option Addr) (l4 c5 : Nat), ∃ n6 : Int, r1 = (.tuple #[(.slice p3 l4 c5), (.int .i64 n6)])
    ∧ CallsH Try.prog f_mem_Memory_at #[(.pointer (some ⟨x0, 0, none⟩)), (.int .i64 x2), (.int .i64 0), (.int .i64 32)] h2 fun r7 h8 => ∃ (p9 : Option Addr) (l10 c11 : Nat), ∃ n12 : Int, r7 = (.tuple #[(.slice p9 l10 c11), (.int .i64 n12)])
    ∧ iteP (n6 != 0) (K (.int .i64 n6) h8) (iteP (n12 != 0) (K (.int .i64 n12) h8) (semWP Try.prog (Builtin.copy_ #[T_s_uint8, T_s_uint8] T_int #[(.slice p3 l4 c5), (.slice p9 l10 c11)]) h8 fun r13 h14 => ∃ n15 : Int, r13 = .int .i64 n15
    ∧ K (.int .i64 0) h14))
theorem q_mem_Memory_Copy_calls (x0 : Nat) (x1 : Int) (x2 : Int) (h : Hp) (K : Value → Hp → Prop) (hq : q_mem_Memory_Copy x0 x1 x2 h K) : CallsH Try.prog f_mem_Memory_Copy #[(.pointer (some ⟨x0, 0, none⟩)), (.int .i64 x1), (.int .i64 x2)] h K := by
  have e : q_mem_Memory_Copy x0 x1 x2 h K = fnT Try.prog 34 q_mem_Memory_Copy_ann Try.f116 (bodyOf Try.f116) [(.pointer (some ⟨x0, 0, none⟩)), (.int .i64 x1), (.int .i64 x2)] h K := by kernel_rfl
  rw [e] at hq
  exact calls_of_fnT (n := 34) (ann := q_mem_Memory_Copy_ann) mixOk Try.func116 (by kernel_rfl) (by kernel_rfl) (fun args w => Try.call116 args w) (by kernel_rfl) hq

def q_mem_Memory_Size_ann : Ann := { loops := fun _ => [], ty := fun _ => [], canon := fun _ => [], cuts := fun _ => none }
def q_mem_Memory_Size (x0 : Nat) (h : Hp) (K : Value → Hp → Prop) : Prop :=
    ∃ (p1 : Option Addr) (l2 c3 : Nat), cellAt h ⟨x0, 0, none⟩ = some (.slice p1 l2 c3) ∧ K (.int .i64 ((l2 : Nat) : Int)) h
theorem q_mem_Memory_Size_calls (x0 : Nat) (h : Hp) (K : Value → Hp → Prop) (hq : q_mem_Memory_Size x0 h K) : CallsH Try.prog f_mem_Memory_Size #[(.pointer (some ⟨x0, 0, none⟩))] h K := by
  have e : q_mem_Memory_Size x0 h K = fnT Try.prog 10 q_mem_Memory_Size_ann Try.f66 (bodyOf Try.f66) [(.pointer (some ⟨x0, 0, none⟩))] h K := by kernel_rfl
  rw [e] at hq
  exact calls_of_fnT (n := 10) (ann := q_mem_Memory_Size_ann) mixOk Try.func66 (by kernel_rfl) (by kernel_rfl) (fun args w => Try.call66 args w) (by kernel_rfl) hq

def q_mem_Memory_Fork_ann : Ann := { loops := fun _ => [], ty := fun _ => [], canon := fun _ => [], cuts := fun _ => none }
def q_mem_Memory_Fork (x0 : Nat) (h : Hp) (K : Value → Hp → Prop) : Prop :=
    ∃ (p1 : Option Addr) (l2 c3 : Nat), cellAt h ⟨x0, 0, none⟩ = some (.slice p1 l2 c3) ∧ CallsH Try.prog f_slices_Clone_mem_frame_mem_frame #[(.slice p1 l2 c3)] h fun r4 h5 => ∃ (p6 : Option Addr) (l7 c8 : Nat), r4 = (.slice p6 l7 c8)
    ∧ letH (h5.push (.cells #[(.slice p6 l7 c8)] T_N_mem_Memory)) fun h9 => K (.pointer (some ⟨h5.size, 0, none⟩)) h9
theorem q_mem_Memory_Fork_calls (x0 : Nat) (h : Hp) (K : Value → Hp → Prop) (hq : q_mem_Memory_Fork x0 h K) : CallsH Try.prog f_mem_Memory_Fork #[(.pointer (some ⟨x0, 0, none⟩))] h K := by
  have e : q_mem_Memory_Fork x0 h K = fnT Try.prog 12 q_mem_Memory_Fork_ann Try.f94 (bodyOf Try.f94) [(.pointer (some ⟨x0, 0, none⟩))] h K := by kernel_rfl
  rw [e] at hq
  exact calls_of_fnT (n := 12) (ann := q_mem_Memory_Fork_ann) mixOk Try.func94 (by kernel_rfl) (by kernel_rfl) (fun args w => Try.call94 args w) (by kernel_rfl) hq

def q_slices_Clone_mem_frame_mem_frame_ann : Ann := { loops := fun _ => [], ty := fun _ => [], canon := fun _ => [], cuts := fun _ => none }
def q_slices_Clone_mem_frame_mem_frame (x0p : Option Addr) (x0n : Nat) (x0c : Nat) (h : Hp) (K : Value → Hp → Prop) : Prop :=
    iteP x0p.isNone (K (.slice none 0 0) h) (letH (h.push (.cells ⟨(repL 0 (zeroCells Try.prog T_N_mem_frame).toList)⟩ T_N_mem_frame)) fun h1 => semWP Try.prog (Builtin.append_ #[T_s_mem_frame, T_s_mem_frame] T_s_mem_frame #[(.slice (some ⟨h.size, 0, none⟩) 0 0), (.slice x0p x0n x0c)]) h1 fun r2 h3
    => ∃ (p4 : Option Addr) (l5 c6 : Nat), r2 = .slice p4 l5 c6 ∧ K (.slice p4 l5 c6) h3)
theorem q_slices_Clone_mem_frame_mem_frame_calls (x0p : Option Addr) (x0n : Nat) (x0c : Nat) (h : Hp) (K : Value → Hp → Prop) (hq : q_slices_Clone_mem_frame_mem_frame x0p x0n x0c h K) : CallsH Try.prog f_slices_Clone_mem_frame_mem_frame #[(.slice x0p x0n x0c)] h K := by
  have e : q_slices_Clone_mem_frame_mem_frame x0p x0n x0c h K = fnT Try.prog 8 q_slices_Clone_mem_frame_mem_frame_ann Try.f133 (bodyOf Try.f133) [(.slice x0p x0n x0c)] h K := by kernel_rfl
  rw [e] at hq
  exact calls_of_fnT (n := 8) (ann := q_slices_Clone_mem_frame_mem_frame_ann) mixOk Try.func133 (by kernel_rfl) (by kernel_rfl) (fun args w => Try.call133 args w) (by kernel_rfl) hq

def q_maps_Clone_vm_space_int_int_ann : Ann := { loops := fun _ => [], ty := fun _ => [], canon := fun _ => [], cuts := fun _ => none }
def q_maps_Clone_vm_space_int_int (x0 : Nat) (h : Hp) (K : Value → Hp → Prop) : Prop :=
    semWP Try.prog (callFunc f_maps_clone #[(.iface T_N_vm_space (.map (some x0)))]) h fun x3 h4 => nextWP Try.prog x3 h4 fun r1 h2 => ∃ v5 : Value, r1 = v5 ∧ ∃ m6 : Option Nat, v5 = .iface T_N_vm_space (.map m6) ∧ K (.map m6) h2
theorem q_maps_Clone_vm_space_int_int_calls (x0 : Nat) (h : Hp) (K : Value → Hp → Prop) (hq : q_maps_Clone_vm_space_int_int x0 h K) : CallsH Try.prog f_maps_Clone_vm_space_int_int #[(.map (some x0))] h K := by
  have e : q_maps_Clone_vm_space_int_int x0 h K = fnT Try.prog 9 q_maps_Clone_vm_space_int_int_ann Try.f61 (bodyOf Try.f61) [(.map (some x0))] h K := by kernel_rfl
  rw [e] at hq
  exact calls_of_fnT (n := 9) (ann := q_maps_Clone_vm_space_int_int_ann) mixOk Try.func61 (by kernel_rfl) (by kernel_rfl) (fun args w => Try.call61 args w) (by kernel_rfl) hq

def q_slices_Index_int_int_ann : Ann := { loops := fun x => match x with | 0 => [(8, T_int)] | _ => [], ty := fun _ => [], canon := fun _ => [], cuts := fun _ => none }
def q_slices_Index_int_int (x0p : Option Addr) (x0n : Nat) (x0c : Nat) (x1 : Int) (h : Hp) (K : Value → Hp → Prop) : Prop :=
    ∃ (I1 : Int → Hp → Prop) (μ2 : Int → Hp → Nat), I1 0 h ∧ ∀ i3 h4, I1 i3 h4 → iteP (decide (i3 < ((x0n : Nat) : Int))) ((0 : Int) ≤ i3 ∧ i3 < ((x0n : Nat) : Int) ∧ wth x0p fun a5 => ∃ n6 : Int, cellAt h4 (a5.add (Int.toNat i3 * 1)) = some (.int .i64 n6)
    ∧ iteP (x1 == n6) (K (.int .i64 i3) h4) (I1 (IntKind.wrap .i64 (i3 + 1)) h4 ∧ μ2 (IntKind.wrap .i64 (i3 + 1)) h4 < μ2 i3 h4)) (K (.int .i64 (-1)) h4)
theorem q_slices_Index_int_int_calls (x0p : Option Addr) (x0n : Nat) (x0c : Nat) (x1 : Int) (h : Hp) (K : Value → Hp → Prop) (hq : q_slices_Index_int_int x0p x0n x0c x1 h K) : CallsH Try.prog f_slices_Index_int_int #[(.slice x0p x0n x0c), (.int .i64 x1)] h K := by
  have e : q_slices_Index_int_int x0p x0n x0c x1 h K = fnT Try.prog 19 q_slices_Index_int_int_ann Try.f148 (bodyOf Try.f148) [(.slice x0p x0n x0c), (.int .i64 x1)] h K := by kernel_rfl
  rw [e] at hq
  exact calls_of_fnT (n := 19) (ann := q_slices_Index_int_int_ann) mixOk Try.func148 (by kernel_rfl) (by kernel_rfl) (fun args w => Try.call148 args w) (by kernel_rfl) hq

end Go.Proofs.Ytmdhfmljgjnggaa
/- What the functions of package mem do. No condition. -/
namespace Go.Proofs.Ytmdhfmljgjnggaa
attribute [local irreducible] semWP

/-- Block m is a memory of n frames, whose bytes lie in block f (behind them there may be room). -/
structure MemAt (h : Hp) (m f n : Nat) (b : List Int) : Prop where
  mem : ∃ c, n ≤ c ∧ h[m]? = some (.cells #[.slice (some ⟨f, 0, none⟩) n c] T_N_mem_Memory (0, 0))
  fr : ∃ rest, h[f]? = some (.cells ⟨b.map (.int .u8) ++ rest⟩ T_N_mem_frame (0, 0))
  len : b.length = n * 32
  pos : 1 ≤ n
  le : n ≤ 64
theorem MemAt.congr {h h' : Hp} {m f n : Nat} {b : List Int} (hm : MemAt h m f n b) (h1 : h'[m]? = h[m]?) (h2 : h'[f]? = h[f]?) : MemAt h' m f n b :=
  ⟨by rw [h1]; exact hm.mem, by rw [h2]; exact hm.fr, hm.len, hm.pos, hm.le⟩
theorem MemAt.cell {h : Hp} {m f n : Nat} {b : List Int} (hm : MemAt h m f n b) : ∃ c, n ≤ c ∧ cellAt h ⟨m, 0, none⟩ = some (.slice (some ⟨f, 0, none⟩) n c) := by
  obtain ⟨c, hc, h1⟩ := hm.mem
  exact ⟨c, hc, by rw [cellAt_cells h1]; rfl⟩
theorem MemAt.ne_m {h : Hp} {m f n : Nat} {b : List Int} (hm : MemAt h m f n b) {r : Nat} {c : Array Value} {e : TypeId} {g : Nat × Nat} (hr : h[r]? = some (.cells c e g)) (he : e ≠ T_N_mem_Memory) : r ≠ m := by
  obtain ⟨c, _, h1⟩ := hm.mem
  exact ne_cells hr h1 he
theorem MemAt.ne_f {h : Hp} {m f n : Nat} {b : List Int} (hm : MemAt h m f n b) {r : Nat} {c : Array Value} {e : TypeId} {g : Nat × Nat} (hr : h[r]? = some (.cells c e g)) (he : e ≠ T_N_mem_frame) : r ≠ f := by
  obtain ⟨c, h1⟩ := hm.fr
  exact ne_cells hr h1 he
theorem MemAt.ltm {h : Hp} {m f n : Nat} {b : List Int} (hm : MemAt h m f n b) : m < h.size := by
  obtain ⟨c, _, h1⟩ := hm.mem; exact lt_of_at h1
theorem MemAt.ltf {h : Hp} {m f n : Nat} {b : List Int} (hm : MemAt h m f n b) : f < h.size := by
  obtain ⟨c, h1⟩ := hm.fr; exact lt_of_at h1
theorem MemAt.map_m {h : Hp} {m f n : Nat} {b : List Int} (hm : MemAt h m f n b) {k : IntKind} {r : Nat} {l : List (Int × Value)} (hr : MapAt k h r l) : r ≠ m := by
  obtain ⟨c, _, h1⟩ := hm.mem; exact hr.ne_cells h1
theorem MemAt.map_f {h : Hp} {m f n : Nat} {b : List Int} (hm : MemAt h m f n b) {k : IntKind} {r : Nat} {l : List (Int × Value)} (hr : MapAt k h r l) : r ≠ f := by
  obtain ⟨c, h1⟩ := hm.fr; exact hr.ne_cells h1
theorem MemAt.ne {h : Hp} {m f n : Nat} {b : List Int} (hm : MemAt h m f n b) : m ≠ f := by
  obtain ⟨c, _, h1⟩ := hm.mem
  exact hm.ne_f h1 (by decide)
theorem MemAt.over {h h' : Hp} {m f n : Nat} {b b' : List Int} (hm : MemAt h m f n b) (hf : ∃ rest, h'[f]? = some (.cells ⟨b'.map (.int .u8) ++ rest⟩ T_N_mem_frame (0, 0))) (hb : b'.length = b.length) (hs : Step h h' [f] [f]) : MemAt h' m f n b' :=
  ⟨by rw [hs.frame m hm.ltm (by simpa using hm.ne)]; exact hm.mem, hf, by rw [hb]; exact hm.len, hm.pos, hm.le⟩
def byteAt (b : List Int) (i off : Int) : Int := (b[(i * 32 + off).toNat]?).getD 0

section
variable {h : Hp} {m f n : Nat} {b : List Int} {K : Value → Hp → Prop}
theorem c_mem_at (hm : MemAt h m f n b) (i off many : Int) (h1 : 1 ≤ many) (h2 : many ≤ 32) (hbad : ¬ (0 ≤ i ∧ i < n ∧ 0 ≤ off ∧ off ≤ 32 - many) → K (.tuple #[.slice none 0 0, .int .i64 2]) h)
    (hok : 0 ≤ i → i < n → 0 ≤ off → off ≤ 32 - many → K (.tuple #[.slice (some ⟨f, i.toNat * 32 + off.toNat, none⟩) many.toNat many.toNat, .int .i64 0]) h) :
    CallsH Try.prog f_mem_Memory_at #[.pointer (some ⟨m, 0, none⟩), .int .i64 i, .int .i64 off, .int .i64 many] h K := by
  refine q_mem_Memory_at_calls m i off many h K ?_
  unfold q_mem_Memory_at
  have hw1 : IntKind.wrap .i64 (32 - many) = 32 - many := wrap64 (by omega) (by omega)
  obtain ⟨cp, _, hcell⟩ := hm.cell
  refine iteP_cases (fun hi => hbad (by omega)) fun hi => ⟨_, _, _, hcell, ?_⟩
  refine iteP_cases (fun hi => hbad (by omega)) fun hi2 => ?_
  refine iteP_cases (fun hi => hbad (by omega)) fun hi3 => ?_
  rw [hw1]
  refine iteP_cases (fun hi => hbad (by omega)) fun hi4 => ⟨_, _, _, hcell, ?_⟩
  have hw2 : IntKind.wrap .i64 (off + many) = off + many := wrap64 (by omega) (by omega)
  rw [hw2, wth_some]
  refine ⟨by omega, by omega, by omega, by omega, by omega, by omega, by omega, by omega, ?_⟩
  have e1 : (if (off + many).toNat = off.toNat then (⟨f, 0, none⟩ : Addr).add (i.toNat * 32) else ((⟨f, 0, none⟩ : Addr).add (i.toNat * 32)).add (off.toNat * 1)) = ⟨f, i.toNat * 32 + off.toNat, none⟩ := by
    rw [if_neg (by omega), Addr.add_mk, Addr.add_mk]; simp
  have e2 : (off + many).toNat - off.toNat = many.toNat := by omega
  rw [e1, e2]
  exact hok (by omega) (by omega) (by omega) (by omega)
theorem MemAt.byte (hm : MemAt h m f n b) {i off : Int} (h1 : 0 ≤ i) (h2 : i < n) (h3 : 0 ≤ off) (h4 : off < 32) : cellAt h ⟨f, i.toNat * 32 + off.toNat, none⟩ = some (.int .u8 (byteAt b i off)) := by
  obtain ⟨rest, hfr⟩ := hm.fr
  rw [cellAt_cells hfr]
  have e : (i * 32 + off).toNat = i.toNat * 32 + off.toNat := by omega
  have hl : i.toNat * 32 + off.toNat < b.length := by rw [hm.len]; omega
  simp [byteAt, e, hl, List.getElem?_append]
theorem c_mem_Byte (hm : MemAt h m f n b) (i off : Int) (hbad : ¬ (0 ≤ i ∧ i < n ∧ 0 ≤ off ∧ off < 32) → K (.tuple #[.int .u8 0, .int .i64 2]) h)
    (hok : 0 ≤ i → i < n → 0 ≤ off → off < 32 → K (.tuple #[.int .u8 (byteAt b i off), .int .i64 0]) h) :
    CallsH Try.prog f_mem_Memory_Byte #[.pointer (some ⟨m, 0, none⟩), .int .i64 i, .int .i64 off] h K := by
  refine q_mem_Memory_Byte_calls m i off h K ?_
  unfold q_mem_Memory_Byte
  refine c_mem_at hm i off 1 (by omega) (by omega) (fun hb => ⟨_, _, _, _, rfl, iteP_ne (by decide) (hbad (by omega))⟩) fun h1 h2 h3 h4 => ⟨_, _, _, _, rfl, iteP_nne rfl ?_⟩
  refine ⟨by omega, by decide, ?_⟩
  rw [wth_some]
  refine ⟨_, ?_, hok h1 h2 h3 (by omega)⟩
  have := hm.byte h1 h2 h3 (by omega)
  rw [Addr.add_mk]
  exact this
theorem c_mem_SetByte (hm : MemAt h m f n b) (i off c : Int) (hbad : ¬ (0 ≤ i ∧ i < n ∧ 0 ≤ off ∧ off < 32) → K (.int .i64 2) h)
    (hok : 0 ≤ i → i < n → 0 ≤ off → off < 32 → ∀ h', MemAt h' m f n (b.set (i * 32 + off).toNat c) → Step h h' [f] [f] → h'.size = h.size → K (.int .i64 0) h') :
    CallsH Try.prog f_mem_Memory_SetByte #[.pointer (some ⟨m, 0, none⟩), .int .i64 i, .int .i64 off, .int .u8 c] h K := by
  refine q_mem_Memory_SetByte_calls m i off c h K ?_
  unfold q_mem_Memory_SetByte
  refine c_mem_at hm i off 1 (by omega) (by omega) (fun hb => ⟨_, _, _, _, rfl, iteP_neq (by decide) (hbad (by omega))⟩) fun h1 h2 h3 h4 => ⟨_, _, _, _, rfl, iteP_eq rfl ?_⟩
  refine ⟨by omega, by decide, ?_⟩
  rw [wth_some, Addr.add_mk]
  have hb := hm.byte h1 h2 h3 (by omega)
  obtain ⟨rest, hfr⟩ := hm.fr
  refine ⟨⟨_, hb⟩, frozenAt_cells hfr, ?_⟩
  refine letH_iff.2 (hok h1 h2 h3 (by omega) _ ?_ (Step.setH (by simp)) (setH_size _ _ _))
  refine hm.over ?_ (by simp) (Step.setH (by simp))
  have e : (i * 32 + off).toNat = i.toNat * 32 + off.toNat := by omega
  have := setH_same (o := i.toNat * 32 + off.toNat) (v := .int .u8 c) hfr
  rw [e, show (i.toNat * 32 + off.toNat + Int.toNat 0 * 1) = i.toNat * 32 + off.toNat by simp, this]
  refine ⟨rest, ?_⟩
  have hl : i.toNat * 32 + off.toNat < b.length := by rw [hm.len]; omega
  simp only [List.setIfInBounds_toArray]
  rw [List.set_append_left _ _ (by simpa using hl), List.map_set]
theorem c_mem_Size (hm : MemAt h m f n b) (hok : K (.int .i64 (n : Int)) h) : CallsH Try.prog f_mem_Memory_Size #[.pointer (some ⟨m, 0, none⟩)] h K := by
  refine q_mem_Memory_Size_calls m h K ?_
  unfold q_mem_Memory_Size
  obtain ⟨cp, _, hcell⟩ := hm.cell
  exact ⟨_, _, _, hcell, hok⟩
theorem c_mem_Zero (hm : MemAt h m f n b) (i : Int) (h1 : 0 ≤ i) (h2 : i < n)
    (hok : ∀ h', MemAt h' m f n (over b (i.toNat * 32) (List.replicate 32 0)) → Step h h' [f] [f] → h'.size = h.size → K (.int .i64 0) h') :
    CallsH Try.prog f_mem_Memory_Zero #[.pointer (some ⟨m, 0, none⟩), .int .i64 i] h K := by
  refine q_mem_Memory_Zero_calls m i h K ?_
  unfold q_mem_Memory_Zero
  refine c_mem_at hm i 0 32 (by omega) (by omega) (fun hb => (hb ⟨h1, h2, by omega, by omega⟩).elim) fun _ _ _ _ => ?_
  refine ⟨_, _, _, _, rfl, ?_⟩
  obtain ⟨rest, hfr⟩ := hm.fr
  have hl := hm.len
  refine semWP_clear (P := Try.prog) (h := h) (b := f) (o := i.toNat * 32 + Int.toNat 0) (n := Int.toNat 32) (cp := Int.toNat 32) (tys := #[T_s_uint8]) (ty := T_x) (e := T_N_mem_frame) (t := T_s_uint8) (el := T_uint8) (z := .int .u8 0) (by rfl) (by kernel_rfl) (by kernel_rfl) (by kernel_rfl) (by rfl) (by decide) hfr ?_ ?_
  · simp only [List.size_toArray, List.length_append, List.length_map]
    omega
  · intro h' h3 h4 h5
    refine ⟨rfl, hok h' (hm.over ⟨rest, ?_⟩ over_length h4) h4 h5⟩
    rw [h3, over_append (by simp; omega), over_map]
    rfl
theorem c_mem_Copy (hm : MemAt h m f n b) (i j : Int) (h1 : 0 ≤ i) (h2 : i < n) (h3 : 0 ≤ j) (h4 : j < n)
    (hok : ∀ h', MemAt h' m f n (over b (i.toNat * 32) ((b.drop (j.toNat * 32)).take 32)) → Step h h' [f] [f] → h'.size = h.size → K (.int .i64 0) h') :
    CallsH Try.prog f_mem_Memory_Copy #[.pointer (some ⟨m, 0, none⟩), .int .i64 i, .int .i64 j] h K := by
  refine q_mem_Memory_Copy_calls m i j h K ?_
  unfold q_mem_Memory_Copy
  refine c_mem_at hm i 0 32 (by omega) (by omega) (fun hb => (hb ⟨h1, h2, by omega, by omega⟩).elim) fun _ _ _ _ => ?_
  refine ⟨_, _, _, _, rfl, ?_⟩
  refine c_mem_at hm j 0 32 (by omega) (by omega) (fun hb => (hb ⟨h3, h4, by omega, by omega⟩).elim) fun _ _ _ _ => ?_
  refine ⟨_, _, _, _, rfl, ?_⟩
  refine iteP_nne rfl (iteP_nne rfl ?_)
  have hl := hm.len
  obtain ⟨rest, hfr⟩ := hm.fr
  have hrow : ∀ k : Int, 0 ≤ k → k < n → SlAt h T_N_mem_frame 1 (some ⟨f, k.toNat * 32 + Int.toNat 0, none⟩) (Int.toNat 32) (Int.toNat 32) (((b.drop (k.toNat * 32)).take 32).map (.int .u8)) [f] := by
    intro k hk1 hk2
    refine ⟨?_, Nat.le_refl _, .inr ⟨f, _, _, rfl, rfl, hfr, ?_, ?_⟩⟩
    · simp only [List.length_map, List.length_take, List.length_drop, hl]
      show _ = 32 * 1
      omega
    · simp only [List.size_toArray, List.length_append, List.length_map, hl]
      show _ + 32 * 1 ≤ _
      omega
    · show ((b.map (Value.int .u8) ++ rest).drop (k.toNat * 32)).take 32 = _
      rw [List.drop_append_of_le_length (by simp; omega), List.take_append_of_le_length (by simp; omega), List.map_take, List.map_drop]
  refine semWP_copy (t := T_s_uint8) (el := T_uint8) (by rfl) (by kernel_rfl) (by kernel_rfl) (sz := 1) (by kernel_rfl) (hrow i h1 h2) (hrow j h3 h4) ?_ ?_
  · intro v hv
    obtain ⟨x, _, rfl⟩ := List.mem_map.1 hv
    rfl
  · intro h' h5 _ h6 h7
    refine ⟨_, rfl, hok h' (hm.over ⟨rest, ?_⟩ over_length h6) h6 h7⟩
    rw [h5 f _ rfl _ hfr, over_append (by simp only [List.length_take, List.length_map, List.length_drop]; show _ + min (32 * 1) _ ≤ _; omega), over_map, show min (Int.toNat 32) (Int.toNat 32) * 1 = 32 from rfl, ← List.map_take, List.take_take]
    rfl
theorem c_mem_New (k : Int) (hbad : k < 1 ∨ 64 < k → K (.pointer none) h)
    (hok : 1 ≤ k → k ≤ 64 → ∀ h', MemAt h' (h.size + 1) h.size k.toNat (List.replicate (k.toNat * 32) 0) → Ext h h' → h'.size = h.size + 2 → K (.pointer (some ⟨h.size + 1, 0, none⟩)) h') :
    CallsH Try.prog f_mem_New #[.int .i64 k] h K := by
  refine q_mem_New_calls k h K ?_
  unfold q_mem_New
  refine iteP_cases (fun h1 => hbad (.inl h1)) fun h1 => iteP_cases (fun h2 => hbad (.inr h2)) fun h2 => ?_
  refine semWP_makeSlice (t := T_s_mem_frame) (el := T_N_mem_frame) (i := Try.prog.types[T_N_mem_frame]!) (by kernel_rfl) (by kernel_rfl) (by kernel_rfl) (by kernel_rfl) (by kernel_rfl) (by omega) ?_ (by omega) ?_
  · rw [show Try.prog.types[T_N_mem_frame]!.bytes = 32 by kernel_rfl]; omega
  · intro h' hh
    have hz : (zeroCells Try.prog T_N_mem_frame).toList = List.replicate 32 (.int .u8 0) := by kernel_rfl
    rw [hz, repL_replicate] at hh
    refine ⟨_, _, _, rfl, letH_iff.2 ?_⟩
    subst hh
    have e : (h.push (.cells ⟨List.replicate (k.toNat * 32) (.int .u8 0)⟩ T_N_mem_frame)).size = h.size + 1 := by simp
    rw [e]
    refine hok (by omega) (by omega) _ ⟨⟨k.toNat, Nat.le_refl _, ?_⟩, ⟨[], ?_⟩, by simp, by omega, by omega⟩ ?_ (by simp)
    · rw [← e]; exact push_new _ _
    · rw [push_old (by simp), push_new]; simp
    · exact (Ext.push _ _).trans (Ext.push _ _)
end
end Go.Proofs.Ytmdhfmljgjnggaa
/- The memory of processes as plain data: how many pages lie in a frame. No condition. -/
namespace Go.Proofs.Ytmdhfmljgjnggaa

def cnt (f : Int) : List Int → Int
  | [] => 0
  | x :: l => (if x = f then 1 else 0) + cnt f l
theorem cnt_nonneg {f : Int} {l : List Int} : 0 ≤ cnt f l := by
  induction l with
  | nil => simp [cnt]
  | cons x l ih => simp only [cnt]; split <;> omega
theorem cnt_le {f : Int} {l : List Int} : cnt f l ≤ l.length := by
  induction l with
  | nil => simp [cnt]
  | cons x l ih => simp only [cnt, List.length_cons]; split <;> omega
theorem cnt_append {f : Int} {l m : List Int} : cnt f (l ++ m) = cnt f l + cnt f m := by
  induction l with
  | nil => simp [cnt]
  | cons x l ih => simp only [List.cons_append, cnt, ih]; omega
theorem cnt_set {f x y : Int} : ∀ {l : List Int} {i : Nat}, l[i]? = some y → cnt f (l.set i x) = cnt f l - (if y = f then 1 else 0) + (if x = f then 1 else 0) := by
  intro l
  induction l with
  | nil => intro i h; simp at h
  | cons a l ih =>
    intro i h
    cases i with
    | zero => simp only [List.getElem?_cons_zero, Option.some.injEq] at h; subst h; simp only [List.set_cons_zero, cnt]; omega
    | succ i => simp only [List.getElem?_cons_succ] at h; simp only [List.set_cons_succ, cnt, ih h]; omega
theorem cnt_pos {f : Int} : ∀ {l : List Int} {i : Nat}, l[i]? = some f → 0 < cnt f l := by
  intro l
  induction l with
  | nil => intro i h; simp at h
  | cons a l ih =>
    intro i h
    cases i with
    | zero => simp only [List.getElem?_cons_zero, Option.some.injEq] at h; subst h; simp only [cnt, if_true]; have := cnt_nonneg (f := a) (l := l); omega
    | succ i => simp only [List.getElem?_cons_succ] at h; have := ih h; simp only [cnt]; split <;> omega
theorem cnt_perm {f : Int} {l m : List Int} (h : l.Perm m) : cnt f l = cnt f m := by
  induction h with
  | nil => rfl
  | cons x _ ih => simp only [cnt, ih]
  | swap x y l => simp only [cnt]; omega
  | trans _ _ h1 h2 => rw [h1, h2]
theorem cnt_replicate {f x : Int} {n : Nat} (h : x ≠ f) : cnt f (List.replicate n x) = 0 := by
  induction n with
  | zero => rfl
  | succ n ih => simp only [List.replicate_succ, cnt, ih, if_neg h]; rfl
theorem cnt_over {f : Int} {cs zs : List Int} {off : Nat} (h : off + cs.length ≤ zs.length) : cnt f (over zs off cs) = cnt f zs - cnt f ((zs.drop off).take cs.length) + cnt f cs := by
  rw [over_split h, cnt_append, cnt_append]
  have e : zs = zs.take off ++ ((zs.drop off).take cs.length ++ zs.drop (off + cs.length)) := by
    rw [← List.drop_drop, List.take_append_drop, List.take_append_drop]
  have : cnt f zs = cnt f (zs.take off) + (cnt f ((zs.drop off).take cs.length) + cnt f (zs.drop (off + cs.length))) := by
    conv => lhs; rw [e]
    rw [cnt_append, cnt_append]
  omega

/-- Frames' bytes; of each of 6 processes whether it has a space, and of its 16 pages the frame (-1: it lies nowhere; -2: it is not mapped); how many were copied. -/
structure VmS where
  n : Nat
  b : List Int
  has : List Bool
  pg : List Int
  cp : Int
deriving DecidableEq
def hasOf (s : VmS) (pid : Int) : Bool := if 0 ≤ pid ∧ pid < 6 then (s.has[pid.toNat]?).getD false else false
def ixOf (pid page : Int) : Nat := pid.toNat * 16 + page.toNat
def pgOf (s : VmS) (pid page : Int) : Int := if 0 ≤ pid ∧ pid < 6 ∧ 0 ≤ page ∧ page < 16 then (s.pg[ixOf pid page]?).getD (-2) else -2
def refsOf (pg : List Int) : List Int := (List.range 64).map fun (f : Nat) => cnt (f : Int) pg
theorem refsOf_length {pg : List Int} : (refsOf pg).length = 64 := by simp [refsOf]
theorem refsOf_get {pg : List Int} {f : Nat} (h : f < 64) : (refsOf pg)[f]? = some (cnt f pg) := by simp [refsOf, h]

structure Wf (s : VmS) : Prop where
  lh : s.has.length = 6
  lp : s.pg.length = 96
  pgs : ∀ x ∈ s.pg, -2 ≤ x ∧ x < s.n
  off : ∀ pid page, hasOf s pid = false → pgOf s pid page = -2
  le : s.n ≤ 64
theorem Wf.pg_le {s : VmS} (hw : Wf s) (pid page : Int) : -2 ≤ pgOf s pid page ∧ pgOf s pid page < s.n := by
  unfold pgOf
  split
  · cases hx : s.pg[ixOf pid page]? with
    | none => simp; omega
    | some x => simpa using hw.pgs x (List.mem_of_getElem? hx)
  · omega
theorem Wf.at {s : VmS} (hw : Wf s) {pid page : Int} (h1 : 0 ≤ pid) (h2 : pid < 6) (h3 : 0 ≤ page) (h4 : page < 16) : s.pg[ixOf pid page]? = some (pgOf s pid page) := by
  unfold pgOf
  rw [if_pos ⟨h1, h2, h3, h4⟩]
  have : ixOf pid page < s.pg.length := by rw [hw.lp]; unfold ixOf; omega
  simp [this]
theorem pgOf_in {s : VmS} {pid page : Int} (h : pgOf s pid page ≠ -2) : 0 ≤ pid ∧ pid < 6 ∧ 0 ≤ page ∧ page < 16 := by
  unfold pgOf at h
  split at h
  · assumption
  · exact (h rfl).elim
theorem hasOf_in {s : VmS} {pid : Int} (h : hasOf s pid = true) : 0 ≤ pid ∧ pid < 6 := by
  unfold hasOf at h
  split at h
  · assumption
  · cases h
theorem ixOf_inj {p q a b : Int} (h1 : 0 ≤ p) (h3 : 0 ≤ a) (h4 : a < 16) (h5 : 0 ≤ q) (h7 : 0 ≤ b) (h8 : b < 16) (h : ixOf p a = ixOf q b) : p = q ∧ a = b := by
  unfold ixOf at h; omega
theorem Wf.cnt_le {s : VmS} (hw : Wf s) (f : Int) : 0 ≤ cnt f s.pg ∧ cnt f s.pg ≤ 96 := by
  have := Go.Proofs.Ytmdhfmljgjnggaa.cnt_le (f := f) (l := s.pg)
  rw [hw.lp] at this
  exact ⟨cnt_nonneg, this⟩

/-- One page's frame is set. -/
def setPg (s : VmS) (pid page x : Int) : VmS := { s with pg := s.pg.set (ixOf pid page) x }
theorem pgOf_setPg {s : VmS} (hw : Wf s) {pid page x p q : Int} (h1 : 0 ≤ pid) (h2 : pid < 6) (h3 : 0 ≤ page) (h4 : page < 16) : pgOf (setPg s pid page x) p q = if p = pid ∧ q = page then x else pgOf s p q := by
  unfold pgOf setPg
  by_cases hr : 0 ≤ p ∧ p < 6 ∧ 0 ≤ q ∧ q < 16
  · rw [if_pos hr, if_pos hr, List.getElem?_set]
    by_cases he : p = pid ∧ q = page
    · obtain ⟨rfl, rfl⟩ := he
      have : ixOf p q < s.pg.length := by rw [hw.lp]; unfold ixOf; omega
      simp [this]
    · rw [if_neg he, if_neg]
      intro h5
      have := ixOf_inj h1 h3 h4 hr.1 hr.2.2.1 hr.2.2.2 h5
      omega
  · rw [if_neg hr, if_neg hr, if_neg]
    omega
theorem Wf.setPg {s : VmS} (hw : Wf s) {pid page x : Int} (hh : hasOf s pid = true) (h3 : 0 ≤ page) (h4 : page < 16) (h5 : -2 ≤ x) (h6 : x < s.n) : Wf (setPg s pid page x) := by
  obtain ⟨h1, h2⟩ := hasOf_in hh
  refine ⟨hw.lh, by simp [Go.Proofs.Ytmdhfmljgjnggaa.setPg, hw.lp], ?_, ?_, hw.le⟩
  · intro y hy
    rcases List.mem_or_eq_of_mem_set hy with h | h
    · exact hw.pgs y h
    · subst h; exact ⟨h5, h6⟩
  · intro p q hp
    rw [pgOf_setPg hw h1 h2 h3 h4, if_neg]
    · exact hw.off p q hp
    · rintro ⟨rfl, rfl⟩
      have : hasOf s p = false := hp
      rw [hh] at this; cases this
theorem cnt_setPg {s : VmS} (hw : Wf s) {pid page x f : Int} (h1 : 0 ≤ pid) (h2 : pid < 6) (h3 : 0 ≤ page) (h4 : page < 16) : cnt f (setPg s pid page x).pg = cnt f s.pg - (if pgOf s pid page = f then 1 else 0) + (if x = f then 1 else 0) :=
  cnt_set (hw.at h1 h2 h3 h4)
end Go.Proofs.Ytmdhfmljgjnggaa
