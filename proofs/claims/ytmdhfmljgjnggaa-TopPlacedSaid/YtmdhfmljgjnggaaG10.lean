/- The texts CFile CFile2 BytesS CFile3 SubS CFile4 CFile5, one behind the other. No condition. -/
import Derived.Test.YtmdhfmljgjnggaaG8
import Derived.Test.YtmdhfmljgjnggaaG9
/- A store of files in memory; what New, get, Find, Make, Left and Size of package file do. No condition. -/
namespace Go.Proofs.Ytmdhfmljgjnggaa
attribute [local irreducible] semWP
set_option linter.constructorNameAsVariable false
set_option linter.unusedVariables false
/-- Block r is a file, whose extents have these numbers. -/
def NodeAt (h : Hp) (r : Nat) (f : Fl) (ids : List Int) (F : List Nat) : Prop :=
  ∃ q c G, F = r :: G ∧ h[r]? = some (.cells #[.string f.nm, .int .i64 f.op, .int .i64 (f.tx.size : Int), .slice q ids.length c] T_N_file_node (0, 0)) ∧ SlAt h T_uint32 1 q ids.length c (ids.map (.int .u32)) G
def NodesAt (h : Hp) : List Fl → List (Nat × List Int) → List Nat → Prop
  | [], ns, F => ns = [] ∧ F = []
  | f :: l, ns, F => ∃ (x : Nat × List Int) (ns' : List (Nat × List Int)) (F1 F2 : List Nat), ns = x :: ns' ∧ F = F1 ++ F2 ∧ NodeAt h x.1 f x.2 F1 ∧ NodesAt h l ns' F2
theorem NodeAt.lt {h : Hp} {r : Nat} {f : Fl} {ids : List Int} {F : List Nat} (hn : NodeAt h r f ids F) : ∀ q ∈ F, q < h.size := by
  obtain ⟨q, c, G, rfl, h1, h2⟩ := hn
  intro x hx
  rcases List.mem_cons.1 hx with rfl | hx
  · exact lt_of_at h1
  · exact h2.lt x hx
theorem NodeAt.congr {h h' : Hp} {r : Nat} {f : Fl} {ids : List Int} {F : List Nat} (hn : NodeAt h r f ids F) (he : ∀ q ∈ F, h'[q]? = h[q]?) : NodeAt h' r f ids F := by
  obtain ⟨q, c, G, rfl, h1, h2⟩ := hn
  exact ⟨q, c, G, rfl, by rw [he r (by simp)]; exact h1, h2.congr fun x hx => he x (by simp [hx])⟩
theorem NodesAt.lt {h : Hp} : ∀ {l : List Fl} {ns : List (Nat × List Int)} {F : List Nat}, NodesAt h l ns F → ∀ q ∈ F, q < h.size := by
  intro l
  induction l with
  | nil => intro ns F hn q hq; rw [hn.2] at hq; cases hq
  | cons f l ih =>
    intro ns F hn q hq
    obtain ⟨x, ns', F1, F2, rfl, rfl, h1, h2⟩ := hn
    rcases List.mem_append.1 hq with h | h
    · exact h1.lt q h
    · exact ih h2 q h
theorem NodesAt.congr {h h' : Hp} : ∀ {l : List Fl} {ns : List (Nat × List Int)} {F : List Nat}, NodesAt h l ns F → (∀ q ∈ F, h'[q]? = h[q]?) → NodesAt h' l ns F := by
  intro l
  induction l with
  | nil => intro ns F hn _; exact hn
  | cons f l ih =>
    intro ns F hn he
    obtain ⟨x, ns', F1, F2, rfl, rfl, h1, h2⟩ := hn
    exact ⟨x, ns', F1, F2, rfl, rfl, h1.congr fun q hq => he q (by simp [hq]), ih h2 fun q hq => he q (by simp [hq])⟩
theorem NodesAt.length {h : Hp} : ∀ {l : List Fl} {ns : List (Nat × List Int)} {F : List Nat}, NodesAt h l ns F → ns.length = l.length := by
  intro l
  induction l with
  | nil => intro ns F hn; rw [hn.1]; rfl
  | cons f l ih =>
    intro ns F hn
    obtain ⟨x, ns', F1, F2, rfl, rfl, h1, h2⟩ := hn
    simp [ih h2]
theorem NodesAt.split {h : Hp} {f : Fl} {l2 : List Fl} {x : Nat × List Int} {ns2 : List (Nat × List Int)} : ∀ {l1 : List Fl} {ns1 : List (Nat × List Int)} {F : List Nat}, ns1.length = l1.length → NodesAt h (l1 ++ f :: l2) (ns1 ++ x :: ns2) F →
    ∃ F1 Fi F2, F = F1 ++ (Fi ++ F2) ∧ NodesAt h l1 ns1 F1 ∧ NodeAt h x.1 f x.2 Fi ∧ NodesAt h l2 ns2 F2 := by
  intro l1
  induction l1 with
  | nil =>
    intro ns1 F hl hn
    have : ns1 = [] := List.eq_nil_of_length_eq_zero hl
    subst this
    obtain ⟨y, ns', F1, F2, he, rfl, h1, h2⟩ := hn
    simp only [List.nil_append, List.cons.injEq] at he
    obtain ⟨rfl, rfl⟩ := he
    exact ⟨[], F1, F2, rfl, ⟨rfl, rfl⟩, h1, h2⟩
  | cons g l1 ih =>
    intro ns1 F hl hn
    cases ns1 with
    | nil => simp at hl
    | cons y ns1 =>
      obtain ⟨z, ns', F1, F2, he, rfl, h1, h2⟩ := hn
      simp only [List.cons_append, List.cons.injEq] at he
      obtain ⟨rfl, rfl⟩ := he
      obtain ⟨A, B, C, rfl, g1, g2, g3⟩ := ih (by simpa using hl) h2
      exact ⟨F1 ++ A, B, C, by simp, ⟨y, ns1, F1, A, rfl, rfl, h1, g1⟩, g2, g3⟩
theorem NodesAt.join {h : Hp} {l2 : List Fl} {ns2 : List (Nat × List Int)} {F2 : List Nat} (h2 : NodesAt h l2 ns2 F2) : ∀ {l1 : List Fl} {ns1 : List (Nat × List Int)} {F1 : List Nat}, NodesAt h l1 ns1 F1 → NodesAt h (l1 ++ l2) (ns1 ++ ns2) (F1 ++ F2) := by
  intro l1
  induction l1 with
  | nil => intro ns1 F1 h1; rw [h1.1, h1.2]; exact h2
  | cons g l1 ih =>
    intro ns1 F1 h1
    obtain ⟨x, ns', A, B, rfl, rfl, g1, g2⟩ := h1
    exact ⟨x, ns' ++ ns2, A, B ++ F2, rfl, by simp, g1, ih g2⟩
theorem NodesAt.mid {h : Hp} {f : Fl} {l1 l2 : List Fl} {x : Nat × List Int} {ns1 ns2 : List (Nat × List Int)} {F1 Fi F2 : List Nat} (h1 : NodesAt h l1 ns1 F1) (hi : NodeAt h x.1 f x.2 Fi) (h2 : NodesAt h l2 ns2 F2) : NodesAt h (l1 ++ f :: l2) (ns1 ++ x :: ns2) (F1 ++ (Fi ++ F2)) :=
  NodesAt.join (l2 := f :: l2) (ns2 := x :: ns2) ⟨x, ns2, Fi, F2, rfl, rfl, hi, h2⟩ h1
def mapL (l : List Fl) (ns : List (Nat × List Int)) : List (Int × Value) := (l.zip ns).map fun y => (y.1.n, .pointer (some ⟨y.2.1, 0, none⟩))
def extL (l : List Fl) (ns : List (Nat × List Int)) : List (Int × Int) := (l.zip ns).flatMap fun y => y.1.at_.zip y.2.2
theorem zip_mid {α β : Type} {f : α} {x : β} {l2 : List α} {ns2 : List β} : ∀ {l1 : List α} {ns1 : List β}, ns1.length = l1.length → (l1 ++ f :: l2).zip (ns1 ++ x :: ns2) = l1.zip ns1 ++ (f, x) :: l2.zip ns2 := by
  intro l1
  induction l1 with
  | nil => intro ns1 h; rw [List.eq_nil_of_length_eq_zero h]; rfl
  | cons g l1 ih =>
    intro ns1 h
    cases ns1 with
    | nil => simp at h
    | cons y ns1 => simp only [List.cons_append, List.zip_cons_cons, ih (by simpa using h)]
/-- A file in the list, found by what tells it from those ahead. -/
theorem find_split {l : List Fl} {p : Fl → Bool} {f : Fl} (h : l.find? p = some f) : p f = true ∧ ∃ l1 l2, l = l1 ++ f :: l2 ∧ ∀ g ∈ l1, p g = false := by
  rw [List.find?_eq_some_iff_append] at h
  obtain ⟨h1, l1, l2, rfl, h2⟩ := h
  exact ⟨h1, l1, l2, rfl, fun g hg => by simpa using h2 g hg⟩
theorem ns_split {α β : Type} {f : α} {l1 l2 : List α} {ns : List β} (h : ns.length = (l1 ++ f :: l2).length) : ∃ ns1 x ns2, ns = ns1 ++ x :: ns2 ∧ ns1.length = l1.length := by
  simp only [List.length_append, List.length_cons] at h
  refine ⟨ns.take l1.length, ns[l1.length], ns.drop (l1.length + 1), ?_, by rw [List.length_take]; omega⟩
  rw [← List.drop_eq_getElem_cons (by omega), List.take_append_drop]
theorem lkp_mapL {n : Int} {f : Fl} {x : Nat × List Int} {l2 : List Fl} {ns2 : List (Nat × List Int)} (hf : f.n = n) : ∀ {l1 : List Fl} {ns1 : List (Nat × List Int)}, ns1.length = l1.length → (∀ g ∈ l1, g.n ≠ n) → lkp n (mapL (l1 ++ f :: l2) (ns1 ++ x :: ns2)) = some (.pointer (some ⟨x.1, 0, none⟩)) := by
  intro l1
  induction l1 with
  | nil => intro ns1 h _; rw [List.eq_nil_of_length_eq_zero h]; simp [mapL, lkp, hf]
  | cons g l1 ih =>
    intro ns1 h hne
    cases ns1 with
    | nil => simp at h
    | cons y ns1 =>
      have h1 := ih (ns1 := ns1) (by simpa using h) fun z hz => hne z (by simp [hz])
      have h2 := hne g (by simp)
      simp only [mapL, List.cons_append, List.zip_cons_cons, List.map_cons, lkp]
      rw [if_neg (show ¬ n = g.n from fun e => h2 e.symm)]
      exact h1
theorem keys_mapL : ∀ {l : List Fl} {ns : List (Nat × List Int)}, ns.length = l.length → keysOf (mapL l ns) = l.map (·.n) := by
  intro l
  induction l with
  | nil => intro ns _; rfl
  | cons g l ih =>
    intro ns h
    cases ns with
    | nil => simp at h
    | cons y ns => simp only [mapL, keysOf, List.zip_cons_cons, List.map_cons] ; congr 1; exact ih (by simpa using h)
theorem ext_fst : ∀ {l : List Fl} {ns : List (Nat × List Int)}, ns.length = l.length → (∀ y ∈ l.zip ns, y.2.2.length = y.1.at_.length) → (extL l ns).map (·.1) = l.flatMap (·.at_) := by
  intro l
  induction l with
  | nil => intro ns _ _; rfl
  | cons g l ih =>
    intro ns h hl
    cases ns with
    | nil => simp at h
    | cons y ns =>
      have h1 := hl (g, y) (by simp)
      have h2 := ih (ns := ns) (by simpa using h) fun z hz => hl z (by simp [hz])
      simp only [extL, List.zip_cons_cons, List.flatMap_cons, List.map_append] at h2 ⊢
      rw [h2, List.map_fst_zip (by simp only at h1; omega)]
structure StAt (h : Hp) (p : Nat) (s : FsS) (ns : List (Nat × List Int)) (b : List Int) (E : List (Int × Int)) (il : Int) (d f t m : Nat) (Fe Fn : List Nat) : Prop where
  st : h[p]? = some (.cells #[.pointer (some ⟨d, 0, none⟩), .pointer (some ⟨t, 0, none⟩), .map (some m), .int .i64 s.last] T_N_file_Store (0, 0))
  dev : DevAt h d f s.k b
  tab : TabAt h t s.k E il Fe
  mp : MapAt .i64 h m (mapL s.l ns)
  nodes : NodesAt h s.l ns Fn
  nd : (p :: d :: f :: m :: (Fe ++ Fn)).Nodup
  perm : E.Perm (extL s.l ns)
  lens : ∀ y ∈ s.l.zip ns, y.2.2.length = y.1.at_.length
  srt : E.Pairwise fun x y => x.1 < y.1
  ids : (E.map (·.2)).Nodup
  idb : ∀ x ∈ E, 1 ≤ x.2 ∧ x.2 ≤ il
  il0 : 0 ≤ il
  cont : ∀ g ∈ s.l, g.at_.flatMap (secOf b) = padF g
/-- Block p is a store of files in this state; the blocks F are its own; its extents' last number is at most c. -/
def StRep (h : Hp) (p : Nat) (s : FsS) (c : Int) (F : List Nat) : Prop := ∃ ns b E il d f t m Fe Fn, F = p :: d :: f :: m :: (Fe ++ Fn) ∧ il ≤ c ∧ FsWf s ∧ StAt h p s ns b E il d f t m Fe Fn
section
variable {h h' : Hp} {p d f t m : Nat} {s : FsS} {ns : List (Nat × List Int)} {b : List Int} {E : List (Int × Int)} {il c : Int} {Fe Fn F : List Nat} {K : Value → Hp → Prop}
theorem StAt.lt (ha : StAt h p s ns b E il d f t m Fe Fn) : ∀ q ∈ p :: d :: f :: m :: (Fe ++ Fn), q < h.size := by
  intro q hq
  simp only [List.mem_cons, List.mem_append] at hq
  rcases hq with rfl | rfl | rfl | rfl | hq | hq
  · exact lt_of_at ha.st
  · exact ha.dev.ltd
  · exact ha.dev.ltf
  · exact ha.mp.lt
  · exact ha.tab.lt q hq
  · exact ha.nodes.lt q hq
theorem StAt.congr (ha : StAt h p s ns b E il d f t m Fe Fn) (he : ∀ q ∈ p :: d :: f :: m :: (Fe ++ Fn), h'[q]? = h[q]?) : StAt h' p s ns b E il d f t m Fe Fn :=
  ⟨by rw [he p (by simp)]; exact ha.st, ha.dev.congr (he d (by simp)) (he f (by simp)), ha.tab.congr fun q hq => he q (by simp [hq]), ha.mp.congr (he m (by simp)), ha.nodes.congr fun q hq => he q (by simp [hq]), ha.nd, ha.perm, ha.lens, ha.srt, ha.ids, ha.idb, ha.il0, ha.cont⟩
theorem StRep.congr (hv : StRep h p s c F) (he : ∀ q ∈ F, h'[q]? = h[q]?) : StRep h' p s c F := by
  obtain ⟨ns, b, E, il, d, f, t, m, Fe, Fn, rfl, h1, h2, h3⟩ := hv
  exact ⟨ns, b, E, il, d, f, t, m, Fe, Fn, rfl, h1, h2, h3.congr he⟩
theorem StRep.lt (hv : StRep h p s c F) : ∀ q ∈ F, q < h.size := by
  obtain ⟨ns, b, E, il, d, f, t, m, Fe, Fn, rfl, h1, h2, h3⟩ := hv
  exact h3.lt
theorem StRep.ext (hv : StRep h p s c F) (x : Ext h h') : StRep h' p s c F := hv.congr fun q hq => x.same (hv.lt q hq)
theorem StAt.ext (ha : StAt h p s ns b E il d f t m Fe Fn) (x : Ext h h') : StAt h' p s ns b E il d f t m Fe Fn := ha.congr fun q hq => x.same (ha.lt q hq)
theorem StRep.mono (hv : StRep h p s c F) {c' : Int} (hc : c ≤ c') : StRep h p s c' F := by
  obtain ⟨ns, b, E, il, d, f, t, m, Fe, Fn, rfl, h1, h2, h3⟩ := hv
  exact ⟨ns, b, E, il, d, f, t, m, Fe, Fn, rfl, by omega, h2, h3⟩
theorem StAt.fst (ha : StAt h p s ns b E il d f t m Fe Fn) : (E.map (·.1)).Perm (takenS s) := by
  have := ha.perm.map (·.1)
  rw [ext_fst ha.nodes.length ha.lens] at this
  exact this
theorem FsWf.sum (hw : FsWf s) : (takenS s).length ≤ 18 := by
  have key : ∀ l : List Fl, (∀ f ∈ l, f.tx.size ≤ 96) → (∀ f ∈ l, f.at_.length = secsN f.tx.size) → (l.flatMap (·.at_)).length ≤ l.length * 3 := by
    intro l
    induction l with
    | nil => intro _ _; simp
    | cons g l ih =>
      intro h1 h2
      have a1 := ih (fun f hf => h1 f (by simp [hf])) fun f hf => h2 f (by simp [hf])
      have a2 := h1 g (by simp)
      have a3 := h2 g (by simp)
      unfold secsN at a3
      simp only [List.flatMap_cons, List.length_append, List.length_cons]
      omega
  have := key s.l hw.tx hw.ats
  have := hw.len
  unfold takenS
  omega
theorem StAt.lenE (ha : StAt h p s ns b E il d f t m Fe Fn) (hw : FsWf s) : E.length = (takenS s).length ∧ E.length ≤ 18 := by
  have h1 := ha.fst.length_eq
  have := hw.sum
  rw [List.length_map] at h1
  omega
theorem StAt.inE (ha : StAt h p s ns b E il d f t m Fe Fn) (hw : FsWf s) : ∀ x ∈ E, 0 ≤ x.1 ∧ x.1 < s.k := fun x hx =>
  hw.tb x.1 (ha.fst.mem_iff.1 (List.mem_map.2 ⟨x, hx, rfl⟩))
theorem StAt.left (ha : StAt h p s ns b E il d f t m Fe Fn) (hw : FsWf s) : (s.k : Int) - E.length = leftF s := by
  have := freeL_len hw.tk hw.tb
  have := (ha.lenE hw).1
  unfold leftF
  omega
/-- What a map of files answers. -/
theorem StAt.look (ha : StAt h p s ns b E il d f t m Fe Fn) (n : Int) :
    (fileOf s n = none ∧ RunsTo Try.prog (Instr.lookup T_m_int_p_file_node (.map (some m)) (.int .i64 n) true) h (.tuple #[.pointer none, .bool false])) ∨
    ∃ g l1 l2 x ns1 ns2, fileOf s n = some g ∧ g.n = n ∧ s.l = l1 ++ g :: l2 ∧ ns = ns1 ++ x :: ns2 ∧ ns1.length = l1.length ∧ RunsTo Try.prog (Instr.lookup T_m_int_p_file_node (.map (some m)) (.int .i64 n) true) h (.tuple #[.pointer (some ⟨x.1, 0, none⟩), .bool true]) := by
  have hr := runs_lookup (P := Try.prog) (t := T_m_int_p_file_node) (kt := T_int) (et := T_p_file_node) (n := n) (by kernel_rfl) (by kernel_rfl) (by kernel_rfl) ha.mp true
  rw [show zeroOf Try.prog T_p_file_node = .pointer none by kernel_rfl] at hr
  cases hf : fileOf s n with
  | none =>
    left
    refine ⟨rfl, ?_⟩
    have hk : lkp n (mapL s.l ns) = none := by
      rw [lkp_none, keys_mapL ha.nodes.length]
      intro hm
      obtain ⟨g, hg, he⟩ := List.mem_map.1 hm
      unfold fileOf at hf
      rw [List.find?_eq_none] at hf
      exact hf g hg (by simpa using he)
    rw [hk] at hr
    exact hr
  | some g =>
    right
    obtain ⟨h1, l1, l2, h2, h3⟩ := find_split hf
    have hgn : g.n = n := by simpa using h1
    obtain ⟨ns1, x, ns2, h4, h5⟩ := ns_split (f := g) (l1 := l1) (l2 := l2) (ns := ns) (by rw [ha.nodes.length, h2])
    refine ⟨g, l1, l2, x, ns1, ns2, rfl, hgn, h2, h4, h5, ?_⟩
    have hk : lkp n (mapL s.l ns) = some (.pointer (some ⟨x.1, 0, none⟩)) := by
      rw [h2, h4]
      exact lkp_mapL hgn h5 fun g hg => by simpa using h3 g hg
    rw [hk] at hr
    exact hr
theorem c_fileNew (k : Int) (hbad : k < 1 ∨ 64 < k → K (.pointer none) h)
    (hok : 1 ≤ k → k ≤ 64 → ∀ h' p F, StRep h' p { k := k.toNat, l := [], last := 0 } 0 F → Ext h h' → (∀ q ∈ F, h.size ≤ q) → K (.pointer (some ⟨p, 0, none⟩)) h') :
    CallsH Try.prog f_file_New #[.int .i64 k] h K := by
  refine q_file_New_calls k h K ?_
  unfold q_file_New
  refine c_dev_New k (fun hb => ⟨_, rfl, iteP_t rfl (hbad hb)⟩) fun k1 k2 g1 d f hd x1 d1 f1 => ⟨_, rfl, iteP_f rfl ?_⟩
  refine c_extNew k k1 k2 fun g2 ht x2 => ⟨_, rfl, newB fun g3 b3 x3 z3 => newB fun g4 b4 x4 z4 => ?_⟩
  have z2 := x2.size
  have hk : ((k.toNat : Nat) : Int) = k := by omega
  refine hok k1 k2 g4 g3.size _ ⟨[], List.replicate (k.toNat * 32) 0, [], 0, d, f, g1.size, g2.size, [g1.size], [], rfl, by omega, ?_, ?_⟩ (x1.trans (x2.trans (x3.trans x4))) ?_
  · exact ⟨by show 1 ≤ k.toNat; omega, by show k.toNat ≤ 64; omega, List.nodup_nil, by simp, List.Pairwise.nil, by simp, by simp, by simp, by simp, by simp, List.nodup_nil, by simp [takenS], by simp⟩
  · have hd4 := hd.ext (x2.trans (x3.trans x4))
    refine ⟨b4, hd4, ?_, ⟨⟨#[], 0, x4.at b3, rfl, by simp, by simp⟩, by simp [keysOf, mapL]⟩, ⟨rfl, rfl⟩, ?_, List.Perm.refl _, by simp, List.Pairwise.nil, by simp, by simp, by simp, by simp⟩
    · show TabAt g4 g1.size ((k.toNat : Nat) : Int) [] 0 [g1.size]
      rw [hk]
      exact ht.ext (x3.trans x4)
    · have := hd.ltd
      have := hd.ltf
      have hne := hd.ne
      simp only [List.append_nil, List.nodup_cons, List.mem_cons, List.not_mem_nil, or_false, not_or, not_false_eq_true, List.nodup_nil, and_true]
      have hz2 : g2.size = g1.size + 1 ∨ g1.size < g2.size := .inr (by have := ht.lt g1.size (by simp); exact this)
      refine ⟨⟨by omega, by omega, by omega, by omega⟩, ⟨hne, by omega, by omega⟩, ⟨by omega, by omega⟩, by omega⟩
  · intro q hq
    have := x1.size
    simp only [List.append_nil, List.mem_cons, List.not_mem_nil, or_false] at hq
    rcases hq with rfl | rfl | rfl | rfl | rfl <;> omega
theorem c_fileLeft (hv : StRep h p s c F) (hK : ∀ h', Ext h h' → K (.int .i64 (leftF s)) h') : CallsH Try.prog f_file_Store_Left #[.pointer (some ⟨p, 0, none⟩)] h K := by
  obtain ⟨ns, b, E, il, d, f, t, m, Fe, Fn, rfl, hil, hw, ha⟩ := hv
  refine q_file_Store_Left_calls p h K ?_
  unfold q_file_Store_Left
  have hk := hw.k2
  refine ⟨_, cellB ha.st rfl, c_extLeft ha.tab (by have := (ha.lenE hw).2; omega) (by omega) fun g x => ⟨_, rfl, ?_⟩⟩
  rw [ha.left hw]
  exact hK g x
theorem c_get (ha : StAt h p s ns b E il d f t m Fe Fn) (n : Int) (h0 : fileOf s n = none → K (.tuple #[.pointer none, .int .i64 5]) h)
    (h1 : ∀ g l1 l2 x ns1 ns2, fileOf s n = some g → g.n = n → s.l = l1 ++ g :: l2 → ns = ns1 ++ x :: ns2 → ns1.length = l1.length → K (.tuple #[.pointer (some ⟨x.1, 0, none⟩), .int .i64 0]) h) :
    CallsH Try.prog f_file_Store_get #[.pointer (some ⟨p, 0, none⟩), .int .i64 n] h K := by
  refine q_file_Store_get_calls p n h K ?_
  unfold q_file_Store_get
  rcases ha.look n with ⟨e, hr⟩ | ⟨g, l1, l2, x, ns1, ns2, e, e2, e3, e4, e5, hr⟩
  · exact ⟨_, cellB ha.st rfl, _, _, hr, iteP_t rfl (h0 e)⟩
  · exact ⟨_, cellB ha.st rfl, _, _, hr, iteP_f rfl (h1 g l1 l2 x ns1 ns2 e e2 e3 e4 e5)⟩
theorem c_fileSize (hv : StRep h p s c F) (n : Int) (hK : K (.tuple #[.int .i64 ((fileOf s n).elim 0 fun g => (g.tx.size : Int)), .int .i64 ((fileOf s n).elim 5 fun _ => 0)]) h) : CallsH Try.prog f_file_Store_Size #[.pointer (some ⟨p, 0, none⟩), .int .i64 n] h K := by
  obtain ⟨ns, b, E, il, d, f, t, m, Fe, Fn, rfl, hil, hw, ha⟩ := hv
  refine q_file_Store_Size_calls p n h K ?_
  unfold q_file_Store_Size
  refine c_get ha n (fun e => ⟨_, _, rfl, iteP_ne (by decide) ?_⟩) fun g l1 l2 x ns1 ns2 e _ e3 e4 e5 => ⟨_, _, rfl, iteP_nne rfl ?_⟩
  · rw [e] at hK; exact hK
  · rw [e] at hK
    have hn := ha.nodes
    rw [e3, e4] at hn
    obtain ⟨F1, Fi, F2, _, _, hi, _⟩ := hn.split e5
    obtain ⟨q, cc, G, _, hb, _⟩ := hi
    simp only [wth_some]
    exact ⟨_, cellBa hb rfl, hK⟩
theorem mem_mapL {l : List Fl} {ns : List (Nat × List Int)} {y : Int × Value} (hy : y ∈ mapL l ns) (hn : NodesAt h l ns Fn) : ∃ g x Fi, g ∈ l ∧ y = (g.n, .pointer (some ⟨x, 0, none⟩)) ∧ ∃ ids, NodeAt h x g ids Fi := by
  obtain ⟨⟨g, x⟩, hz, rfl⟩ := List.mem_map.1 hy
  obtain ⟨i, hi⟩ := List.getElem?_of_mem hz
  rw [List.getElem?_zip_eq_some] at hi
  obtain ⟨i1, i2⟩ := hi
  have hlt := (List.getElem?_eq_some_iff.1 i1).1
  have e1 : l = l.take i ++ g :: l.drop (i + 1) := by rw [← drop_at i1, List.take_append_drop]
  have e2 : ns = ns.take i ++ x :: ns.drop (i + 1) := by rw [← drop_at i2, List.take_append_drop]
  have hlt2 := (List.getElem?_eq_some_iff.1 i2).1
  rw [e1, e2] at hn
  obtain ⟨F1, Fi, F2, _, _, h1, _⟩ := hn.split (by rw [List.length_take, List.length_take]; omega)
  exact ⟨g, x.1, Fi, List.mem_of_getElem? i1, rfl, x.2, h1⟩
theorem named_of_mem (hw : FsWf s) {g : Fl} (hg : g ∈ s.l) {nm : ByteArray} (h1 : g.nm = nm) (h2 : nm ≠ empty) : namedOf s nm = some g := by
  unfold namedOf
  cases hf : s.l.find? (fun f => decide (f.nm = nm ∧ nm ≠ empty)) with
  | none =>
    rw [List.find?_eq_none] at hf
    exact (hf g hg (by simp [h1, h2])).elim
  | some g' =>
    have h3 := List.mem_of_find?_eq_some hf
    have h4 := List.find?_some hf
    simp only [decide_eq_true_eq] at h4
    by_cases he : g' = g
    · rw [he]
    · exfalso
      have hp := hw.nms
      obtain ⟨i, hi⟩ := List.getElem?_of_mem hg
      obtain ⟨j, hj⟩ := List.getElem?_of_mem h3
      obtain ⟨hi1, hi2⟩ := List.getElem?_eq_some_iff.1 hi
      obtain ⟨hj1, hj2⟩ := List.getElem?_eq_some_iff.1 hj
      have hne : i ≠ j := by rintro rfl; rw [hi2] at hj2; exact he hj2.symm
      rw [List.pairwise_iff_getElem] at hp
      rcases Nat.lt_or_gt_of_ne hne with hlt | hlt
      · have := hp i j hi1 hj1 hlt
        rw [hi2, hj2] at this
        exact h2 (by rw [← h1]; exact this (by rw [h1, h4.1]))
      · have := hp j i hj1 hi1 hlt
        rw [hi2, hj2] at this
        exact h2 (by rw [← h4.1]; exact this (by rw [h1, h4.1]))
theorem c_Find (hv : StRep h p s c F) (nm : ByteArray) (hK : ∀ h', Ext h h' → K (.tuple #[.int .i64 ((namedOf s nm).elim 0 fun g => g.n), .bool (namedOf s nm).isSome]) h') :
    CallsH Try.prog f_file_Store_Find #[.pointer (some ⟨p, 0, none⟩), .string nm] h K := by
  obtain ⟨ns, b, E, il, d, f, t, m, Fe, Fn, rfl, hil, hw, ha⟩ := hv
  refine q_file_Store_Find_calls p nm h K ?_
  unfold q_file_Store_Find
  rw [eqS]
  refine iteP_cases (fun he => ?_) fun he => ⟨_, cellB ha.st rfl, ?_⟩
  · have : namedOf s nm = none := by
      unfold namedOf
      rw [List.find?_eq_none]
      intro g _
      have : nm = empty := he
      simp [this]
    have h1 := hK h (Step.refl _ _)
    rw [this] at h1
    exact h1
  · refine semWP_range (kt := T_int) (et := T_p_file_node) (by kernel_rfl) ha.mp fun g1 it1 x1 z1 => ⟨_, rfl, ?_⟩
    have hml : m < h.size := ha.mp.lt
    generalize hL : mapL s.l ns = L at *
    generalize hi : h.size = i at *
    refine ⟨fun hc => ∃ left, IterAt .i64 hc i m L left ∧ Ext h hc ∧ (∀ y ∈ left, y ∈ L) ∧ ∀ g ∈ s.l, g.nm = nm → ∃ v, (g.n, v) ∈ left, fun hc => itLeft hc i m, ⟨L, it1, x1, fun _ hy => hy, fun g hg _ => ?_⟩, ?_⟩
    · have : g.n ∈ keysOf L := by rw [← hL, keys_mapL ha.nodes.length]; exact List.mem_map.2 ⟨g, hg, rfl⟩
      obtain ⟨y, hy, hy2⟩ := List.mem_map.1 this
      exact ⟨y.2, by rw [← hy2]; exact hy⟩
    rintro hc ⟨left, it, xc, hsub, hall⟩
    refine semWP_next it (by omega) (fun h0 => ⟨_, _, rfl, ?_⟩) fun y left' h4 hperm it4 cur4 st4 z4 => ⟨_, _, rfl, ?_⟩
    · rw [iteP_false]
      subst h0
      have : namedOf s nm = none := by
        unfold namedOf
        rw [List.find?_eq_none]
        intro g hg hd
        simp only [decide_eq_true_eq] at hd
        obtain ⟨v, hv⟩ := hall g hg hd.1
        cases hv
      have h1 := hK hc xc
      rw [this] at h1
      exact h1
    · rw [iteP_true]
      have x4 : Ext h h4 := xc.thenNew st4 (by simp; omega)
      have hy : y ∈ L := hsub y (hperm.mem_iff.2 (by simp))
      rw [← hL] at hy
      obtain ⟨g, x, Fi, hg, rfl, ids, hnode⟩ := mem_mapL hy ha.nodes
      have hnode4 := hnode.congr fun q hq => x4.same (hnode.lt q hq)
      obtain ⟨q, cc, G, _, hb, _⟩ := hnode4
      refine ⟨_, _, runs_entry (P := Try.prog) cur4, ?_⟩
      simp only [wth_some]
      refine ⟨_, cellB hb rfl, ?_⟩
      rw [eqS]
      refine iteP_cases (fun hn => ?_) fun hn => ⟨⟨left', it4, x4, fun z hz => hsub z (hperm.mem_iff.2 (List.mem_cons_of_mem _ hz)), fun g2 hg2 hn2 => ?_⟩, ?_⟩
      · have hnm : nm ≠ empty := fun e => he e
        have h1 := hK h4 x4
        rw [named_of_mem hw hg hn hnm] at h1
        exact h1
      · obtain ⟨v, hv⟩ := hall g2 hg2 hn2
        rcases List.mem_cons.1 (hperm.mem_iff.1 hv) with h5 | h5
        · exfalso
          injection h5 with h5 _
          have hnd := hw.nd
          have : g2 = g := by
            obtain ⟨a1, ha1⟩ := List.getElem?_of_mem hg
            obtain ⟨a2, ha2⟩ := List.getElem?_of_mem hg2
            obtain ⟨l1, e1⟩ := List.getElem?_eq_some_iff.1 ha1
            obtain ⟨l2, e2⟩ := List.getElem?_eq_some_iff.1 ha2
            have h6 : (s.l.map (·.n))[a1]? = (s.l.map (·.n))[a2]? := by simp [ha1, ha2, h5]
            have h7 := ((List.getElem?_inj (by simpa using l1) hnd).1 h6)
            subst h7
            rw [← e1, ← e2]
          rw [this] at hn2
          exact hn hn2
        · exact ⟨v, h5⟩
      · show itLeft h4 i m < itLeft hc i m
        rw [it.left, it4.left, hperm.length_eq]; simp
end
end Go.Proofs.Ytmdhfmljgjnggaa
/- What Make, take, sector and bytes of package file do. No condition. -/
namespace Go.Proofs.Ytmdhfmljgjnggaa
attribute [local irreducible] semWP
set_option linter.constructorNameAsVariable false
set_option linter.unusedVariables false
theorem labelB_empty : labelB empty = false := by kernel_rfl
theorem namedOf_none {s : FsS} {nm : ByteArray} (h : namedOf s nm = none) (h2 : nm ≠ empty) : ∀ g ∈ s.l, g.nm ≠ nm := by
  intro g hg he
  unfold namedOf at h
  rw [List.find?_eq_none] at h
  exact h g hg (by simp [he, h2])
theorem FsWf.make {s : FsS} (hw : FsWf s) {nm : ByteArray} (h1 : labelB nm = true) (h2 : namedOf s nm = none) (h3 : s.l.length < 6) : FsWf { s with l := s.l ++ [{ n := s.last + 1, op := 0, nm := nm, tx := empty, at_ := [] }], last := s.last + 1 } := by
  have hne : nm ≠ empty := by rintro rfl; rw [labelB_empty] at h1; cases h1
  have h0 := hw.l0
  have hnb := hw.nb
  have hno := namedOf_none h2 hne
  have ht : takenS { s with l := s.l ++ [{ n := s.last + 1, op := 0, nm := nm, tx := empty, at_ := [] }], last := s.last + 1 } = takenS s := by simp [takenS]
  refine ⟨hw.k1, hw.k2, ?_, ?_, ?_, ?_, ?_, by simp; omega, ?_, ?_, by rw [ht]; exact hw.tk, by rw [ht]; exact hw.tb, by show 0 ≤ s.last + 1; omega⟩
  · rw [List.map_append, List.nodup_append]
    refine ⟨hw.nd, by simp, ?_⟩
    intro a ha b hb
    obtain ⟨g, hg, rfl⟩ := List.mem_map.1 ha
    simp at hb
    have := hnb g hg
    omega
  · intro f hf
    rcases List.mem_append.1 hf with hf | hf
    · have := hnb f hf
      show 0 < f.n ∧ f.n ≤ s.last + 1
      omega
    · simp at hf; subst hf; show 0 < s.last + 1 ∧ s.last + 1 ≤ s.last + 1; omega
  · rw [List.pairwise_append]
    refine ⟨hw.nms, by simp, ?_⟩
    intro a ha b hb he
    simp at hb
    subst hb
    exact (hno a ha he).elim
  · intro f hf
    rcases List.mem_append.1 hf with hf | hf
    · exact hw.ops f hf
    · simp at hf; subst hf; show (0 : Int) ≤ 0 ∧ (0 : Int) ≤ 100; omega
  · intro f hf
    rcases List.mem_append.1 hf with hf | hf
    · exact hw.live f hf
    · simp at hf; subst hf; exact .inl hne
  · intro f hf
    rcases List.mem_append.1 hf with hf | hf
    · exact hw.tx f hf
    · simp at hf; subst hf; show (0 : Nat) ≤ 96; omega
  · intro f hf
    rcases List.mem_append.1 hf with hf | hf
    · exact hw.ats f hf
    · simp at hf; subst hf; show 0 = secsN 0; rfl
section
variable {h h' : Hp} {p d f t m : Nat} {s : FsS} {ns : List (Nat × List Int)} {b : List Int} {E : List (Int × Int)} {il c : Int} {Fe Fn F : List Nat} {K : Value → Hp → Prop}
theorem c_Make (hv : StRep h p s c F) (hl : s.last < 4611686018427387904) (nm : ByteArray) (hK : ∀ h' F', StRep h' p (makeF s nm).2 c F' → Step h h' F F' → K (.tuple #[.int .i64 (makeF s nm).1.1, .int .i64 (makeF s nm).1.2]) h') :
    CallsH Try.prog f_file_Store_Make #[.pointer (some ⟨p, 0, none⟩), .string nm] h K := by
  refine q_file_Store_Make_calls p nm h K ?_
  unfold q_file_Store_Make
  refine c_Label nm fun g1 x1 => ⟨_, rfl, ?_⟩
  unfold makeF at hK
  have ext : ∀ {g : Hp}, Ext h g → Step h g F F := fun x => Step.ext x fun _ hr => hr
  cases h1 : labelB nm with
  | false =>
    rw [if_pos h1] at hK
    exact iteP_t rfl (hK g1 F (hv.ext x1) (ext x1))
  | true =>
  rw [if_neg (by rw [h1]; simp)] at hK
  refine iteP_f rfl (c_Find (hv.ext x1) nm fun g2 x2 => ⟨_, _, rfl, ?_⟩)
  have x12 : Ext h g2 := x1.trans x2
  cases h2 : namedOf s nm with
  | some g =>
    rw [h2, if_pos (by rfl)] at hK
    exact iteP_t rfl (hK g2 F (hv.ext x12) (ext x12))
  | none =>
  rw [h2, if_neg (by simp)] at hK
  refine iteP_f rfl ?_
  have hv2 := hv.ext x12
  obtain ⟨ns, b, E, il, d, f, t, m, Fe, Fn, rfl, hil, hw, ha⟩ := hv2
  have hnl := ha.nodes.length
  have hml : (mapL s.l ns).length = s.l.length := by simp [mapL, hnl]
  refine ⟨_, cellB ha.st rfl, _, runs_len_map (t := T_m_int_p_file_node) (kt := T_int) (et := T_p_file_node) (by rfl) (by kernel_rfl) ha.mp, ?_⟩
  rw [hml]
  refine iteP_cases (fun h6 => ?_) fun h6 => ?_
  · rw [if_pos (by omega)] at hK
    exact hK g2 _ (hv.ext x12) (ext x12)
  rw [if_neg (by omega)] at hK
  have h0 := hw.l0
  have hlt := ha.lt
  have hnd := ha.nd
  refine ⟨_, cellB ha.st rfl, setB ha.st (by simp) fun g3 b3 st3 z3 => ?_⟩
  rw [wrap64 (x := s.last + 1) (by omega) (by omega)] at b3
  have b3' : g3[p]? = some (.cells #[.pointer (some ⟨d, 0, none⟩), .pointer (some ⟨t, 0, none⟩), .map (some m), .int .i64 (s.last + 1)] T_N_file_Store (0, 0)) := b3
  refine ⟨_, cellB b3' rfl, _, cellB b3' rfl, newB fun g4 b4 x4 z4 => ⟨⟨_, cellB (x4.at b3') rfl, rfl⟩, ⟨_, cellB (x4.at b3') rfl, rfl⟩, ?_⟩⟩
  have hpm : m ≠ p := by
    intro e; subst e
    simp only [List.nodup_cons, List.mem_cons] at hnd
    exact hnd.1 (by simp)
  have hm3 : MapAt .i64 g4 m (mapL s.l ns) := ha.mp.congr (by rw [x4.same (by have := ha.mp.lt; omega), st3.frame m ha.mp.lt (by simpa using hpm)])
  refine semWP_mapUpdate (kt := T_int) (et := T_p_file_node) (by kernel_rfl) (by kernel_rfl) hm3 fun g5 hm5 st5 z5 => ?_
  have hfr : ∀ q, q < g2.size → q ≠ p → q ≠ m → g5[q]? = g2[q]? := fun q hq h1 h2 => by
    rw [st5.frame q (by omega) (by simpa using h2), x4.same (by omega), st3.frame q hq (by simpa using h1)]
  have hp5 : g5[p]? = some (.cells #[.pointer (some ⟨d, 0, none⟩), .pointer (some ⟨t, 0, none⟩), .map (some m), .int .i64 (s.last + 1)] T_N_file_Store (0, 0)) := by
    have hp := hlt p (by simp)
    rw [st5.frame p (by omega) (by simpa using (Ne.symm hpm)), x4.same (by omega)]; exact b3'
  have hnode : g5[g3.size]? = some (.cells #[.string nm, .int .i64 0, .int .i64 0, .slice none 0 0] T_N_file_node (0, 0)) := by
    have := ha.mp.lt
    rw [st5.frame g3.size (by omega) (by simp; omega)]; exact b4
  refine ⟨_, cellB hp5 rfl, ?_⟩
  have hkey : s.last + 1 ∉ keysOf (mapL s.l ns) := by
    rw [keys_mapL hnl]
    intro hm
    obtain ⟨g, hg, he⟩ := List.mem_map.1 hm
    have := hw.nb g hg
    omega
  have nd2 := hnd
  simp only [List.nodup_cons, List.mem_cons, List.mem_append, not_or] at nd2
  obtain ⟨⟨n1, n2, n3, n4, n5⟩, ⟨n6, n7, n8, n9⟩, ⟨n10, n11, n12⟩, ⟨n13, n14⟩, n15⟩ := nd2
  refine hK g5 (p :: d :: f :: m :: (Fe ++ (Fn ++ [g3.size]))) ⟨ns ++ [(g3.size, [])], b, E, il, d, f, t, m, Fe, Fn ++ [g3.size], rfl, hil, hw.make h1 h2 (by omega), ?_⟩ ?_
  · have hm5' := hm5
    rw [upd_new (lkp_none.2 hkey)] at hm5'
    have hns5 : NodesAt g5 s.l ns Fn := ha.nodes.congr fun q hq => hfr q (hlt q (by simp [hq])) (by rintro rfl; exact n5 hq) (by rintro rfl; exact n14 hq)
    have hz : ∀ {α β : Type} (l : List α) (ns : List β) (a : α) (x : β), ns.length = l.length → (l ++ [a]).zip (ns ++ [x]) = l.zip ns ++ [(a, x)] := fun l ns a x h => by
      rw [List.zip_append h.symm]; rfl
    refine ⟨hp5, ha.dev.congr (hfr d ha.dev.ltd (Ne.symm n1) n7) (hfr f ha.dev.ltf (Ne.symm n2) n10), ha.tab.congr fun q hq => hfr q (ha.tab.lt q hq) (by rintro rfl; exact n4 hq) (by rintro rfl; exact n13 hq), ?_, ?_, ?_, ?_, ?_, ha.srt, ha.ids, ha.idb, ha.il0, ?_⟩
    · have e : mapL (s.l ++ [{ n := s.last + 1, op := 0, nm := nm, tx := empty, at_ := [] }]) (ns ++ [(g3.size, [])]) = mapL s.l ns ++ [(s.last + 1, .pointer (some ⟨g3.size, 0, none⟩))] := by
        unfold mapL
        rw [hz _ _ _ _ hnl]; simp
      show MapAt .i64 g5 m (mapL (s.l ++ [{ n := s.last + 1, op := 0, nm := nm, tx := empty, at_ := [] }]) (ns ++ [(g3.size, [])]))
      rw [e]
      exact hm5'
    · refine NodesAt.join (l2 := [_]) (ns2 := [(g3.size, [])]) (F2 := [g3.size]) ⟨(g3.size, []), [], [g3.size], [], rfl, rfl, ?_, ⟨rfl, rfl⟩⟩ hns5
      exact ⟨none, 0, [], rfl, hnode, SlAt.nil _ _ _⟩
    · have hnew : g3.size ∉ p :: d :: f :: m :: (Fe ++ Fn) := fun hm => by have := hlt _ hm; omega
      have : (p :: d :: f :: m :: (Fe ++ (Fn ++ [g3.size]))) = (p :: d :: f :: m :: (Fe ++ Fn)) ++ [g3.size] := by simp
      rw [this, List.nodup_append]
      exact ⟨hnd, by simp, fun a ha' b hb e => by simp at hb; subst hb; subst e; exact hnew ha'⟩
    · show E.Perm (extL (s.l ++ [_]) (ns ++ [(g3.size, [])]))
      unfold extL
      rw [hz _ _ _ _ hnl]
      simp only [List.flatMap_append, List.flatMap_cons, List.flatMap_nil, List.zip_nil_left, List.append_nil]
      exact ha.perm
    · intro y hy
      rw [hz _ _ _ _ hnl] at hy
      rcases List.mem_append.1 hy with hy | hy
      · exact ha.lens y hy
      · simp at hy; subst hy; rfl
    · intro g hg
      rcases List.mem_append.1 hg with hg | hg
      · exact ha.cont g hg
      · simp at hg; subst hg; rfl
  · have hs12 := x12.size
    refine ⟨by have := st5.size; have := x4.size; omega, fun q hq hF => ?_, fun q hq => ?_⟩
    · simp only [List.mem_cons, List.mem_append, not_or] at hF
      rw [hfr q (by omega) hF.1 hF.2.2.2.1, x12.same hq]
    · simp only [List.mem_cons, List.mem_append, List.not_mem_nil, or_false] at hq ⊢
      rcases hq with hq | hq | hq | hq | hq | hq | hq
      · exact .inl (.inl hq)
      · exact .inl (.inr (.inl hq))
      · exact .inl (.inr (.inr (.inl hq)))
      · exact .inl (.inr (.inr (.inr (.inl hq))))
      · exact .inl (.inr (.inr (.inr (.inr (.inl hq)))))
      · exact .inl (.inr (.inr (.inr (.inr (.inr hq)))))
      · right; omega
theorem roomE_first {k : Nat} {E : List (Int × Int)} {a : Int} {rest : List Int} (hs : E.Pairwise fun x y => x.1 < y.1) (hb : ∀ x ∈ E, 0 ≤ x.1 ∧ x.1 < k) (hf : freeL k (E.map (·.1)) = a :: rest) : roomE k E 0 = (a, 0) := by
  refine roomE_free (rest := rest) hs hb ?_ (by omega)
  rw [hf, List.filter_eq_self]
  intro i hi
  rw [← hf, freeL_mem] at hi
  simpa using hi.1
/-- The disk's least sector that is free is taken, and is 0. -/
theorem c_take {k : Nat} (hd : DevAt h d f k b) (ht : TabAt h t k E il Fe) (hdf : d ∉ Fe ∧ f ∉ Fe) (hs : E.Pairwise fun x y => x.1 < y.1) (hb : ∀ x ∈ E, 0 ≤ x.1 ∧ x.1 < k) (hE : E.length ≤ 23) {a : Int} {rest : List Int} (hf : freeL k (E.map (·.1)) = a :: rest) (h0 : 0 ≤ il) (h1 : il < 4294967295)
    (hK : ∀ h' Fe', DevAt h' d f k (over b (a.toNat * 32) (List.replicate 32 0)) → TabAt h' t k (insE (a, il + 1) E) (il + 1) Fe' → Step h h' (f :: Fe) (f :: Fe') → f ∉ Fe' → d ∉ Fe' → K (.int .u32 (il + 1)) h') :
    CallsH Try.prog f_file_disk_take #[.agg #[.pointer (some ⟨d, 0, none⟩), .pointer (some ⟨t, 0, none⟩)]] h K := by
  refine q_file_disk_take_calls _ _ h K ?_
  unfold q_file_disk_take
  have hm : a ∈ freeL k (E.map (·.1)) := by rw [hf]; simp
  rw [freeL_mem] at hm
  have hk2 := hd.le
  have hk1 := hd.pos
  have hin : ∀ x ∈ E, 0 ≤ x.1 ∧ x.1 < 64 := fun x hx => by have := hb x hx; omega
  refine newB fun g1 b1 x1 z1 => ⟨_, cellB b1 rfl, c_Room (ht.ext x1) (by omega) (by omega) hin fun g2 x2 => ?_⟩
  rw [roomE_first hs hb hf]
  have x12 : Ext h g2 := x1.trans x2
  have b2 := x2.at b1
  refine ⟨_, _, rfl, _, cellB b2 rfl, c_Alloc (ht.ext x12) hE (by omega) hin a hm.1 hm.2.1 (fun x hx e => hm.2.2 (List.mem_map.2 ⟨x, hx, e⟩)) h0 h1 fun g3 Fe' ht3 st3 => ⟨_, _, rfl, ?_⟩⟩
  have hbF : h.size ∉ Fe := fun hh => by have := ht.lt _ hh; omega
  have b3 : g3[h.size]? = some (.cells #[.pointer (some ⟨d, 0, none⟩), .pointer (some ⟨t, 0, none⟩)] T_N_file_disk (0, 0)) := by
    rw [st3.frame h.size (by have := x2.size; omega) hbF]; exact b2
  have hd3 : DevAt g3 d f k b := (hd.ext x12).congr (st3.frame d (by have := hd.ltd; have := x12.size; omega) hdf.1) (st3.frame f (by have := hd.ltf; have := x12.size; omega) hdf.2)
  refine ⟨_, cellB b3 rfl, ?_⟩
  refine semWP_makeSlice (el := T_uint8) (i := Try.prog.types[T_uint8]!) (by kernel_rfl) (by kernel_rfl) (by kernel_rfl) (by kernel_rfl) (by kernel_rfl) (by omega) (by rw [show Try.prog.types[T_uint8]!.bytes = 1 by kernel_rfl]; omega) (by omega) fun g4 hg4 => ⟨_, _, _, rfl, ?_⟩
  have hz : (zeroCells Try.prog T_uint8).toList = [.int .u8 0] := by kernel_rfl
  have b4 : g4[g3.size]? = some (.cells ⟨List.replicate 32 (.int .u8 0)⟩ T_uint8 (0, 0)) := by
    rw [hg4, hz, show ([.int .u8 0] : List Value) = List.replicate 1 (.int .u8 0) from rfl, repL_replicate]; exact push_new _ _
  have x4 : Ext g3 g4 := by rw [hg4]; exact Ext.push _ _
  have z4 : g4.size = g3.size + 1 := by rw [hg4]; simp
  have hsl : SlAt g4 T_uint8 1 (some ⟨g3.size, 0, none⟩) 32 32 ((List.replicate 32 (0 : Int)).map (.int .u8)) [g3.size] := ⟨by simp, by omega, .inr ⟨_, 0, _, rfl, rfl, b4, by simp, by simp⟩⟩
  refine ⟨⟨_, cellB (x4.at b3) rfl, rfl⟩, c_dev_Set (hd3.ext x4) a hm.1 hm.2.1 hsl.src fun g5 hd5 st5 z5 => ⟨_, rfl, ?_⟩⟩
  have hff : ∀ q ∈ Fe', q ≠ f ∧ q ≠ d := fun q hq => by
    have := hd.ltd; have := hd.ltf
    rcases st3.foot q hq with h2 | h2
    · exact ⟨fun e => hdf.2 (e ▸ h2), fun e => hdf.1 (e ▸ h2)⟩
    · have := x12.size; omega
  refine hK g5 Fe' hd5 ((ht3.ext x4).congr fun q hq => st5.frame q (by have := ht3.lt q hq; omega) (by simpa using (hff q hq).1)) ?_ (fun hh => (hff f hh).1 rfl) (fun hh => (hff d hh).2 rfl)
  have := x12.size
  have := st3.size
  refine ⟨by omega, fun q hq hF => ?_, fun q hq => ?_⟩
  · simp only [List.mem_cons, not_or] at hF
    rw [st5.frame q (by omega) (by simpa using hF.1), x4.same (by omega), st3.frame q (by omega) hF.2, x12.same hq]
  · rcases List.mem_cons.1 hq with rfl | hq
    · exact .inl (by simp)
    · rcases st3.foot q hq with h2 | h2
      · exact .inl (by simp [h2])
      · right; omega
/-- Where an extent lies. -/
theorem c_sector {k : Nat} (ht : TabAt h t k E il Fe) (hE : E.length ≤ 24) {a id : Int} (hx : (a, id) ∈ E) (hn : (E.map (·.2)).Nodup) (hK : ∀ h', Ext h h' → K (.int .i64 a) h') :
    CallsH Try.prog f_file_disk_sector #[.agg #[.pointer (some ⟨d, 0, none⟩), .pointer (some ⟨t, 0, none⟩)], .int .u32 id] h K := by
  refine q_file_disk_sector_calls _ _ _ h K ?_
  unfold q_file_disk_sector
  have hu : ∀ x ∈ E, x.2 = id → x = (a, id) := by
    intro x hx2 he
    obtain ⟨i, hi⟩ := List.getElem?_of_mem hx
    obtain ⟨j, hj⟩ := List.getElem?_of_mem hx2
    have l1 := (List.getElem?_eq_some_iff.1 hi).1
    have h6 : (E.map (·.2))[i]? = (E.map (·.2))[j]? := by simp [hi, hj, he]
    have h7 := (List.getElem?_inj (by simpa using l1) hn).1 h6
    subst h7
    rw [hi] at hj
    exact (Option.some.inj hj).symm
  refine newB fun g1 b1 x1 z1 => ⟨_, cellB b1 rfl, c_Get (ht.ext x1) hE hx hu fun g2 x2 => ⟨_, _, _, _, _, _, _, rfl, ?_⟩⟩
  rw [zeroExt]
  refine newB fun g3 b3 x3 z3 => set6 b3 fun g4 b4 st4 z4 => ⟨_, cellB b4 rfl, hK g4 ?_⟩
  have x13 : Ext h g3 := x1.trans (x2.trans x3)
  refine x13.thenNew st4 ?_
  intro q hq
  simp at hq
  have := x1.size
  have := x2.size
  omega
end
end Go.Proofs.Ytmdhfmljgjnggaa
/- Bytes to a text. No condition. -/
namespace Go.Proofs.Ytmdhfmljgjnggaa
set_option linter.unusedVariables false
/-- The text of these bytes. -/
def strOf (bs : List Int) : ByteArray := ⟨(bs.map fun x => UInt8.ofNat x.toNat).toArray⟩
theorem bl_strOf {bs : List Int} (hb : ∀ x ∈ bs, 0 ≤ x ∧ x < 256) : bl (strOf bs) = bs := by
  unfold bl strOf
  simp only [List.map_map]
  conv => rhs; rw [← List.map_id bs]
  refine List.map_congr_left fun x hx => ?_
  have := hb x hx
  simp [UInt8.toNat_ofNat']
  omega
theorem strOf_bl (s : ByteArray) : strOf (bl s) = s := by
  refine bl_inj (bl_strOf fun x hx => ?_)
  unfold bl at hx
  obtain ⟨b, _, rfl⟩ := List.mem_map.1 hx
  have := b.toNat_lt
  omega
theorem bl_range (s : ByteArray) : ∀ x ∈ bl s, 0 ≤ x ∧ x < 256 := by
  intro x hx
  unfold bl at hx
  obtain ⟨b, _, rfl⟩ := List.mem_map.1 hx
  have := b.toNat_lt
  omega
theorem strOf_append (a b : List Int) : strOf (a ++ b) = strOf a ++ strOf b := by
  unfold strOf
  apply ByteArray.ext
  simp
theorem bytes_loop {P : Program} {h : Hp} {K : ByteArray → Hp → Prop} : ∀ (bs : List Int) (s : ByteArray), K (s ++ strOf bs) h →
    semWP P (forIn (bs.map (Value.int .u8)) s fun c (r : ByteArray) => (match c with
      | .int .u8 n => pure (ForInStep.yield (r.push (UInt8.ofNat n.toNat)))
      | _ => stuck "bytesToString: byte expected" : Sem (ForInStep ByteArray))) h K := by
  intro bs
  induction bs with
  | nil =>
    intro s hK
    have : s ++ strOf [] = s := by apply ByteArray.ext; simp [strOf]
    rw [this] at hK
    exact hK
  | cons x bs ih =>
    intro s hK
    simp only [List.map_cons, List.forIn_cons, semWP_bind, semWP_ret]
    refine ih _ ?_
    have : s.push (UInt8.ofNat x.toNat) ++ strOf bs = s ++ strOf (x :: bs) := by apply ByteArray.ext; simp [strOf]
    rw [this]; exact hK
theorem semWP_toStr {P : Program} {h : Hp} {st dt el : TypeId} (h1 : P.underlying st = some (.slice el)) (h2 : P.underlying dt = some .string) (h3 : P.underlying el = some (.int .u8)) {a : Option Addr} {n c : Nat} {bs : List Int} {K : Value → Hp → Prop}
    (hn : bs.length = n) (hr : a = none → n = 0) (hc : ∀ b, a = some b → ∀ j, j < n → cellAt h (b.add j) = (bs.map (Value.int .u8))[j]?) (hK : K (.string (strOf bs)) h) : semWP P (convert st dt (.slice a n c)) h K := by
  simp only [convert, semWP_bind, semWP_underlying h1, semWP_underlying h2]
  simp only [semWP_underlying h3]
  cases a with
  | none =>
    have : bs = [] := List.eq_nil_of_length_eq_zero (by rw [hn]; exact hr rfl)
    subst this
    exact hK
  | some b =>
    simp only [Conv.bytesToString, semWP_bind]
    refine loadCellsFrom_wp n 0 #[] (bs.map (.int .u8)) (by simpa using hn) (fun j hj => by rw [Nat.zero_add]; exact hc b rfl j hj) ?_
    rw [List.append_toArray, ← Array.forIn_toList]
    simp only [List.nil_append]
    refine bytes_loop bs _ ?_
    have : ByteArray.empty ++ strOf bs = strOf bs := by apply ByteArray.ext; simp
    simp only [semWP_ret]
    rw [this]; exact hK
end Go.Proofs.Ytmdhfmljgjnggaa
/- What bytes and Read of package file do. No condition. -/
namespace Go.Proofs.Ytmdhfmljgjnggaa
attribute [local irreducible] semWP
set_option linter.constructorNameAsVariable false
set_option linter.unusedVariables false
theorem secOf_over {b bs : List Int} {k : Nat} (hl : b.length = k * 32) {a a' : Int} (h1 : 0 ≤ a) (h2 : a < k) (h3 : 0 ≤ a') (hb : bs.length = 32) : secOf (over b (a.toNat * 32) bs) a' = if a' = a then bs else secOf b a' := by
  have hlo : a.toNat * 32 + bs.length ≤ b.length := by rw [hl, hb]; omega
  refine List.ext_getElem? fun i => ?_
  have hg : ∀ c : List Int, (secOf c a')[i]? = if i < 32 then c[a'.toNat * 32 + i]? else none := fun c => by
    unfold secOf; rw [List.getElem?_take]; split <;> simp [List.getElem?_drop]
  rw [hg, over_get hlo]
  by_cases hi : i < 32
  · by_cases he : a' = a
    · subst he
      rw [if_pos hi, if_pos (by omega), if_pos rfl]
      congr 1; omega
    · rw [if_pos hi, if_neg (by omega), if_neg he, hg, if_pos hi]
  · by_cases he : a' = a
    · rw [if_neg hi, if_pos he, List.getElem?_eq_none (by omega)]
    · rw [if_neg hi, if_neg he, hg, if_neg hi]
section
variable {h h' : Hp} {p d f t m : Nat} {s : FsS} {ns : List (Nat × List Int)} {b : List Int} {E : List (Int × Int)} {il c : Int} {Fe Fn F : List Nat} {K : Value → Hp → Prop}
theorem StAt.inExt (ha : StAt h p s ns b E il d f t m Fe Fn) {g : Fl} {x : Nat × List Int} (hm : (g, x) ∈ s.l.zip ns) {i : Nat} {a id : Int} (h1 : g.at_[i]? = some a) (h2 : x.2[i]? = some id) : (a, id) ∈ E := by
  refine ha.perm.mem_iff.2 ?_
  unfold extL
  rw [List.mem_flatMap]
  refine ⟨(g, x), hm, List.mem_of_getElem? (i := i) ?_⟩
  rw [List.getElem?_zip_eq_some]
  exact ⟨h1, h2⟩
theorem ids_len {g : Fl} {x : Nat × List Int} (ha : StAt h p s ns b E il d f t m Fe Fn) (hm : (g, x) ∈ s.l.zip ns) : x.2.length = g.at_.length := ha.lens _ hm
theorem u8one (l : List Int) : ∀ v ∈ l.map (Value.int .u8), oneV v = true := bytes1
set_option maxHeartbeats 1000000 in
theorem c_bytes (ha : StAt h p s ns b E il d f t m Fe Fn) (hE : E.length ≤ 24) (hb : ∀ x ∈ E, 0 ≤ x.1 ∧ x.1 < s.k) {g : Fl} {x : Nat × List Int} {Fi : List Nat} (hm : (g, x) ∈ s.l.zip ns) (hn : NodeAt h x.1 g x.2 Fi) (hlen : g.at_.length ≤ 24)
    (hK : ∀ h' q c2 G, SlAt h' T_uint8 1 q (g.at_.length * 32) c2 ((padF g).map (.int .u8)) G → Ext h h' → (∀ r ∈ G, h.size ≤ r) → K (.slice q (g.at_.length * 32) c2) h') :
    CallsH Try.prog f_file_Store_bytes #[.pointer (some ⟨p, 0, none⟩), .pointer (some ⟨x.1, 0, none⟩)] h K := by
  refine q_file_Store_bytes_calls p x.1 h K ?_
  unfold q_file_Store_bytes
  have hil := ids_len ha hm
  have hcont := ha.cont g (List.of_mem_zip hm).1
  obtain ⟨q, cc, G0, rfl, hx, hs⟩ := hn
  refine ⟨_, _, _, cellB hx rfl, fun x i g' => ∃ G, 0 ≤ i ∧ i ≤ g.at_.length ∧ Ext h g' ∧ x.2.1 = i.toNat * 32 ∧ SlAt g' T_uint8 1 x.1 x.2.1 x.2.2 (((g.at_.take i.toNat).flatMap (secOf b)).map (.int .u8)) G ∧ ∀ r ∈ G, h.size ≤ r, fun _ i _ => (g.at_.length - i).toNat, ⟨[], by omega, by omega, Step.refl _ _, rfl, by simpa using SlAt.nil _ _ _, by simp⟩, ?_⟩
  rintro ⟨y1, y2, y3⟩ i g' ⟨G, i0, i1, xg, hy, hG, hGn⟩
  simp only at hy hG
  subst hy
  have hsucc : (i + 1).toNat = i.toNat + 1 := by omega
  refine iteP_cases (fun hi => ⟨i0, hi, ?_⟩) fun hi => ?_
  · have hii : i.toNat < x.2.length := by omega
    obtain ⟨a, v, hq, hv, hcell, _⟩ := (hs.ext xg).cell hii
    have hid : v = .int .u32 x.2[i.toNat] := by
      rw [List.getElem?_map, List.getElem?_eq_getElem hii] at hv
      exact (Option.some.inj hv).symm
    subst hid
    have hai : i.toNat < g.at_.length := by omega
    have hin := ha.inExt hm (List.getElem?_eq_getElem hai) (List.getElem?_eq_getElem hii)
    rw [hq]
    simp only [wth_some]
    have ha' := ha.ext xg
    have hsec := hb _ hin
    refine ⟨_, hcell, _, cellB ha'.st rfl, _, cellB ha'.st rfl, _, cellB ha'.st rfl, c_sector ha'.tab hE hin ha.ids fun g2 x2 => ⟨_, rfl, ⟨_, cellB (x2.at ha'.st) rfl, rfl⟩, ?_⟩⟩
    refine c_dev_Sector (ha'.dev.ext x2) _ hsec.1 hsec.2 fun g3 p3 c3 F3 hs3 x3 hn3 => ⟨_, _, _, _, rfl, ?_⟩
    refine semWP_appendX (t := T_s_uint8) (xt := T_s_uint8) (el := T_uint8) (xd := .slice T_uint8) (i := Try.prog.types[T_uint8]!) (sz := 1) (by rfl) (by rfl) (by kernel_rfl) (by kernel_rfl) (.inl ⟨_, rfl⟩) (by kernel_rfl) (by kernel_rfl) (by kernel_rfl) (by kernel_rfl) (by kernel_rfl) (by decide +kernel) (by omega)
      (hG.ext (x2.trans x3)) hs3.src bytes1 fun g4 p4 c4 F4 s4 st4 _ => ⟨_, _, _, rfl, ⟨F4, ?_, ?_, ?_, ?_, ?_, ?_⟩, ?_⟩
    · rw [wrap64 (x := i + 1) (by omega) (by omega)]; omega
    · rw [wrap64 (x := i + 1) (by omega) (by omega)]; omega
    · exact Ext.thenNew (xg.trans (x2.trans x3)) st4 hGn
    · rw [wrap64 (x := i + 1) (by omega) (by omega)]; show i.toNat * 32 + 32 = (i + 1).toNat * 32; rw [hsucc, Nat.add_mul]
    · rw [wrap64 (x := i + 1) (by omega) (by omega), hsucc]
      have e : (g.at_.take (i.toNat + 1)) = g.at_.take i.toNat ++ [g.at_[i.toNat]] := by rw [List.take_add_one, List.getElem?_eq_getElem hai]; rfl
      rw [e, List.flatMap_append, List.map_append]
      simpa using s4
    · intro r hr
      rcases st4.foot r hr with h5 | h5
      · exact hGn r h5
      · have := xg.size; have := x2.size; have := x3.size; omega
    · show (g.at_.length - (IntKind.wrap .i64 (i + 1)) : Int).toNat < (g.at_.length - i : Int).toNat
      rw [wrap64 (x := i + 1) (by omega) (by omega)]; omega
  · have e : i.toNat = g.at_.length := by omega
    rw [e, List.take_length, hcont] at hG
    rw [e]
    exact hK g' y1 y3 G hG xg hGn
theorem StAt.node (ha : StAt h p s ns b E il d f t m Fe Fn) {g : Fl} {l1 l2 : List Fl} {x : Nat × List Int} {ns1 ns2 : List (Nat × List Int)} (e3 : s.l = l1 ++ g :: l2) (e4 : ns = ns1 ++ x :: ns2) (e5 : ns1.length = l1.length) : (g, x) ∈ s.l.zip ns ∧ ∃ F1 Fi F2, Fn = F1 ++ (Fi ++ F2) ∧ NodesAt h l1 ns1 F1 ∧ NodeAt h x.1 g x.2 Fi ∧ NodesAt h l2 ns2 F2 := by
  refine ⟨by rw [e3, e4, zip_mid e5]; simp, ?_⟩
  have hn := ha.nodes
  rw [e3, e4] at hn
  exact hn.split e5
theorem padF_le {g : Fl} (h : g.at_.length = secsN g.tx.size) : g.tx.size ≤ g.at_.length * 32 := by unfold secsN at h; omega
theorem bl_empty_sub (s : ByteArray) (i : Nat) : s.extract i i = empty := by
  apply ByteArray.ext; simp [empty]
theorem bl_map_get {g : Fl} {i : Nat} (hi : i < g.tx.size) : (padF g)[i]? = (bl g.tx)[i]? := by
  unfold padF
  rw [List.getElem?_append_left (by rw [bl_length]; exact hi)]
set_option maxHeartbeats 1000000 in
theorem c_Read (hv : StRep h p s c F) (n off many : Int) (hK : ∀ h', Ext h h' → K (.tuple #[.string (readF s n off many).1, .int .i64 (readF s n off many).2]) h') :
    CallsH Try.prog f_file_Store_Read #[.pointer (some ⟨p, 0, none⟩), .int .i64 n, .int .i64 off, .int .i64 many] h K := by
  obtain ⟨ns, b, E, il, d, f, t, m, Fe, Fn, rfl, hil, hw, ha⟩ := hv
  refine q_file_Store_Read_calls p n off many h K ?_
  unfold q_file_Store_Read
  unfold readF at hK
  refine c_get ha n (fun e => ⟨_, _, rfl, iteP_ne (by decide) ?_⟩) fun g l1 l2 x ns1 ns2 e egn e3 e4 e5 => ⟨_, _, rfl, iteP_nne rfl ?_⟩
  · rw [e] at hK; exact hK h (Step.refl _ _)
  rw [e] at hK
  simp only at hK
  refine iteP_cases (fun h1 => ?_) fun h1 => iteP_cases (fun h2 => ?_) fun h2 => ?_
  · rw [if_pos (.inl h1)] at hK; exact hK h (Step.refl _ _)
  · rw [if_pos (.inr h2)] at hK; exact hK h (Step.refl _ _)
  rw [if_neg (by omega)] at hK
  obtain ⟨hz, F1, Fi, F2, _, _, hi, _⟩ := ha.node e3 e4 e5
  have hgl : g ∈ s.l := by rw [e3]; simp
  have hats := hw.ats g hgl
  have htx := hw.tx g hgl
  have hle := padF_le hats
  have hat3 : g.at_.length ≤ 3 := by unfold secsN at hats; omega
  obtain ⟨q0, c0, G0, hFi, hx, hs0⟩ := id hi
  simp only [wth_some]
  refine ⟨_, cellBa hx rfl, c_bytes ha (by have := (ha.lenE hw).2; omega) (ha.inE hw) hz hi (by omega) fun g2 q c2 G hs x2 hn2 => ⟨_, _, _, rfl, ⟨_, cellBa (x2.at hx) rfl, rfl⟩, ?_⟩⟩
  have hcap := hs.le
  generalize hN : g.tx.size = N at *
  have e1 : (if ((((Int.toNat (N : Int)) - 0 : Nat) : Int)) < off then ((((Int.toNat (N : Int)) - 0 : Nat) : Int)) else off) = ((min N off.toNat : Nat) : Int) := by
    split <;> omega
  rw [e1]
  generalize hO : min N off.toNat = O at *
  have hO1 : O ≤ N := by omega
  have e2 : (if ((((Int.toNat (N : Int)) - 0 - Int.toNat ((O : Nat) : Int) : Nat) : Int)) < many then ((((Int.toNat (N : Int)) - 0 - Int.toNat ((O : Nat) : Int) : Nat) : Int)) else many) = ((min (N - O) many.toNat : Nat) : Int) := by
    split <;> omega
  rw [e2]
  generalize hM : min (N - O) many.toNat = M at *
  refine ⟨by omega, by omega, by omega, by omega, by omega, by omega, ?_⟩
  have hst : strOf (((bl g.tx).drop O).take M) = g.tx.extract off.toNat (min (off.toNat + many.toNat) N) := by
    rw [show ((bl g.tx).drop O).take M = bl (g.tx.extract off.toNat (min (off.toNat + many.toNat) N)) from ?_, strOf_bl]
    rw [bl_extract]
    have hbl := bl_length g.tx
    by_cases hle2 : off.toNat ≤ N
    · have : O = off.toNat := by omega
      subst this
      rw [List.take_drop]
      congr 2
      omega
    · rw [List.drop_eq_nil_of_le (by omega), List.drop_eq_nil_of_le (by rw [List.length_take]; omega), List.take_nil]
  refine semWP_toStr (el := T_uint8) (by kernel_rfl) (by kernel_rfl) (by kernel_rfl) (bs := ((bl g.tx).drop O).take M) ?_ ?_ ?_ ⟨_, rfl, ?_⟩
  · rw [List.length_take, List.length_drop, bl_length]; omega
  · intro hnone
    by_cases hM0 : M = 0
    · omega
    · exfalso
      obtain ⟨a, v, hq, _⟩ := hs.cell (i := 0) (by omega)
      rw [hq] at hnone
      revert hnone
      split <;> split <;> split <;> simp
  · intro a2 ha2 j hj
    have hjM : j < M := by omega
    obtain ⟨a, v, hq, hv, hcell, _⟩ := hs.cell (i := O + j) (by omega)
    rw [Nat.mul_one] at hcell
    have hadd : a2.add j = a.add (O + j) := by
      rw [if_neg (by omega), if_neg (by omega), if_neg (by omega), hq] at ha2
      simp only [Option.map_some, Option.some.injEq] at ha2
      rw [← ha2]
      simp only [Addr.add_add]
      congr 1
      simp
    rw [hadd, hcell, ← hv, List.getElem?_map, List.getElem?_map, List.getElem?_take, if_pos hjM, List.getElem?_drop, bl_map_get (by omega)]
  · rw [hst]
    exact hK g2 x2
end
end Go.Proofs.Ytmdhfmljgjnggaa
/- Parts of slices; lists that are put together anew. No condition. -/
namespace Go.Proofs.Ytmdhfmljgjnggaa
set_option linter.unusedVariables false
theorem SlAt.sub {h : Hp} {el : TypeId} {p : Option Addr} {n c o : Nat} {vs : List Value} {F : List Nat} (hs : SlAt h el 1 p n c vs F) (ho : o ≤ n) : SlAt h el 1 (if c = o then p else Option.map (fun a : Addr => a.add (o * 1)) p) (n - o) (c - o) (vs.drop o) F := by
  have hl := hs.len
  have hc := hs.le
  refine ⟨by rw [List.length_drop]; omega, by omega, ?_⟩
  rcases hs.is with ⟨rfl, rfl, rfl⟩ | ⟨b, o0, cs, rfl, rfl, h3, h4, h5⟩
  · left
    exact ⟨by split <;> rfl, by omega, rfl⟩
  · right
    by_cases he : c = o
    · rw [if_pos he]
      exact ⟨b, o0, cs, rfl, rfl, h3, by omega, by have h9 : vs.drop o = [] := List.drop_eq_nil_of_le (by omega); rw [show n - o = 0 by omega, h9]; simp⟩
    · rw [if_neg he]
      refine ⟨b, o0 + o, cs, by simp [Addr.add_mk], rfl, h3, by omega, ?_⟩
      rw [← h5, List.drop_take, List.drop_drop]
      congr 1
      omega
theorem SlAt.cut {h : Hp} {el : TypeId} {p : Option Addr} {n c m : Nat} {vs : List Value} {F : List Nat} (hs : SlAt h el 1 p n c vs F) (hm : m ≤ n) : SlAt h el 1 p m c (vs.take m) F := by
  have hl := hs.len
  have hc := hs.le
  refine ⟨by rw [List.length_take]; omega, by omega, ?_⟩
  rcases hs.is with h1 | ⟨b, o0, cs, rfl, rfl, h3, h4, h5⟩
  · exact .inl h1
  · refine .inr ⟨b, o0, cs, rfl, rfl, h3, h4, ?_⟩
    rw [← h5, List.take_take]
    congr 1
    omega
theorem over_nil {α : Type} (zs : List α) (o : Nat) : over zs o [] = zs := by
  rw [over]
theorem over_window {α : Type} {cs ss : List α} {o0 o n : Nat} (h1 : o + ss.length ≤ n) (h2 : o0 + n ≤ cs.length) : ((over cs (o0 + o) ss).drop o0).take n = over ((cs.drop o0).take n) o ss := by
  refine List.ext_getElem? fun i => ?_
  rw [over_get (by rw [List.length_take, List.length_drop]; omega), List.getElem?_take, List.getElem?_drop, over_get (by omega), List.getElem?_take, List.getElem?_drop]
  by_cases hi : i < n
  · rw [if_pos hi]
    by_cases h3 : o ≤ i ∧ i < o + ss.length
    · rw [if_pos (by omega), if_pos h3]; congr 1; omega
    · rw [if_neg (by omega), if_neg h3, if_pos hi]
  · rw [if_neg hi, if_neg (by omega), if_neg hi]
/-- copy(d[o:], s), all of s. -/
theorem semWP_copyAt {P : Program} {t el ty : TypeId} {tys : Array TypeId} {h : Hp} {p : Option Addr} {x : Value} {n c o L : Nat} {vs ss : List Value} {F : List Nat} {K : Value → Hp → Prop}
    (ht : tys[0]? = some t) (hd : P.underlying t = some (.slice el)) (hde : (P.underlying el).isSome = true) (hsz : P.cellsOf el = 1)
    (hs : SlAt h el 1 p n c vs F) (hoL : o + L ≤ n) (hxs : Src P h x 1 L ss) (ho : ∀ v ∈ ss, oneV v = true)
    (hK : ∀ h', SlAt h' el 1 p n c (over vs o ss) F → Step h h' F F → h'.size = h.size → K (.int .i64 (L : Nat)) h') :
    semWP P (Builtin.copy_ tys ty #[.slice (if c = o then p else Option.map (fun a : Addr => a.add (o * 1)) p) (n - o) (c - o), x]) h K := by
  have hsl := hxs.1
  refine semWP_copyX ht hd hde hsz (hs.sub (by omega)) hxs ho fun h' h5 h6 h7 h8 => ?_
  rw [show (min L (n - o) : Nat) = L by omega]
  refine hK h' ?_ h7 h8
  have htk : ss.take (min L (n - o) * 1) = ss := List.take_of_length_le (by omega)
  rw [htk] at h5
  have hl := hs.len
  have hc := hs.le
  refine ⟨by rw [over_length]; exact hl, hc, ?_⟩
  rcases hs.is with ⟨rfl, rfl, rfl⟩ | ⟨b, o0, cs, rfl, rfl, h3, h4, h9⟩
  · exact .inl ⟨rfl, rfl, rfl⟩
  · right
    by_cases he : c = o
    · rw [if_pos he] at h5
      have hss : ss = [] := List.eq_nil_of_length_eq_zero (by omega)
      subst hss
      have := h5 b o0 rfl cs h3
      rw [over_nil] at this ⊢
      exact ⟨b, o0, cs, rfl, rfl, this, h4, h9⟩
    · rw [if_neg he] at h5
      have := h5 b (o0 + o) (by simp [Addr.add_mk]) cs h3
      refine ⟨b, o0, _, rfl, rfl, this, by simp only [List.size_toArray, over_length, Array.length_toList]; exact h4, ?_⟩
      show ((over cs.toList (o0 + o) ss).drop o0).take (n * 1) = _
      rw [over_window (by omega) (by rw [Array.length_toList]; omega), ← h9]
theorem insE_perm (x : Int × Int) : ∀ E : List (Int × Int), (insE x E).Perm (x :: E) := by
  intro E
  induction E with
  | nil => exact List.Perm.refl _
  | cons y E ih =>
    simp only [insE]
    split
    · exact List.Perm.refl _
    · exact (ih.cons y).trans (List.Perm.swap ..)
theorem insE_srt {x : Int × Int} : ∀ {E : List (Int × Int)}, E.Pairwise (fun x y => x.1 < y.1) → (∀ y ∈ E, y.1 ≠ x.1) → (insE x E).Pairwise fun x y => x.1 < y.1 := by
  intro E
  induction E with
  | nil => intro _ _; simp [insE]
  | cons y E ih =>
    intro hp hn
    rw [List.pairwise_cons] at hp
    have hy := hn y (by simp)
    simp only [insE]
    split
    · rename_i hlt
      rw [List.pairwise_cons, List.pairwise_cons]
      refine ⟨?_, hp.1, hp.2⟩
      intro z hz
      rcases List.mem_cons.1 hz with rfl | hz
      · exact hlt
      · have := hp.1 z hz; omega
    · rename_i hlt
      rw [List.pairwise_cons]
      refine ⟨?_, ih hp.2 fun z hz => hn z (by simp [hz])⟩
      intro z hz
      rcases List.mem_cons.1 ((insE_perm x E).mem_iff.1 hz) with rfl | hz
      · omega
      · exact hp.1 z hz
theorem NodeAt.nodup {h : Hp} {r : Nat} {f : Fl} {ids : List Int} {F : List Nat} (hn : NodeAt h r f ids F) : F.Nodup := by
  obtain ⟨q, c, G, rfl, h1, h2⟩ := hn
  rcases h2.is with ⟨_, _, rfl⟩ | ⟨b, o, cs, _, rfl, h3, _⟩
  · simp
  · have : r ≠ b := ne_cells h1 h3 (by decide)
    simp [this]
section
variable {h h' : Hp} {p d f t m : Nat} {s : FsS} {ns : List (Nat × List Int)} {b : List Int} {E : List (Int × Int)} {il c : Int} {Fe Fn F : List Nat} {K : Value → Hp → Prop}
theorem mapL_mid {l1 l2 : List Fl} {g g' : Fl} {x x' : Nat × List Int} {ns1 ns2 : List (Nat × List Int)} (e5 : ns1.length = l1.length) (hn : g'.n = g.n) (hx : x'.1 = x.1) : mapL (l1 ++ g' :: l2) (ns1 ++ x' :: ns2) = mapL (l1 ++ g :: l2) (ns1 ++ x :: ns2) := by
  unfold mapL
  rw [zip_mid e5, zip_mid e5]
  simp [hn, hx]
theorem extL_mid {l1 l2 : List Fl} {g : Fl} {x : Nat × List Int} {ns1 ns2 : List (Nat × List Int)} (e5 : ns1.length = l1.length) : extL (l1 ++ g :: l2) (ns1 ++ x :: ns2) = extL l1 ns1 ++ (g.at_.zip x.2 ++ extL l2 ns2) := by
  unfold extL
  rw [zip_mid e5]
  simp
/-- One file is another; the memory round it is the same. -/
theorem StAt.put (ha : StAt h p s ns b E il d f t m Fe Fn) {l1 l2 : List Fl} {g g' : Fl} {x : Nat × List Int} {ns1 ns2 : List (Nat × List Int)} {F1 Fi F2 Fi' Fe' : List Nat} {ids' : List Int} {b' : List Int} {E' : List (Int × Int)} {il' : Int}
    (e3 : s.l = l1 ++ g :: l2) (e4 : ns = ns1 ++ x :: ns2) (e5 : ns1.length = l1.length) (e6 : Fn = F1 ++ (Fi ++ F2)) (hN1 : NodesAt h l1 ns1 F1) (hN2 : NodesAt h l2 ns2 F2) (hn : g'.n = g.n)
    (dev : DevAt h' d f s.k b') (tab : TabAt h' t s.k E' il' Fe') (node : NodeAt h' x.1 g' ids' Fi')
    (same : ∀ q, q < h.size → q ≠ f → q ∉ Fe → q ∉ Fi → h'[q]? = h[q]?) (footE : ∀ q ∈ Fe', q ∈ Fe ∨ h.size ≤ q) (footN : ∀ q ∈ Fi', q ∈ Fi ∨ h.size ≤ q) (disj : ∀ q ∈ Fe', q ∉ Fi')
    (perm' : E'.Perm (extL (l1 ++ g' :: l2) (ns1 ++ (x.1, ids') :: ns2))) (lens' : ids'.length = g'.at_.length) (srt' : E'.Pairwise fun x y => x.1 < y.1) (idn' : (E'.map (·.2)).Nodup) (idb' : ∀ x ∈ E', 1 ≤ x.2 ∧ x.2 ≤ il') (il0' : 0 ≤ il')
    (cont' : ∀ y ∈ l1 ++ g' :: l2, y.at_.flatMap (secOf b') = padF y) :
    StAt h' p { s with l := l1 ++ g' :: l2 } (ns1 ++ (x.1, ids') :: ns2) b' E' il' d f t m Fe' (F1 ++ (Fi' ++ F2)) := by
  have hnd := ha.nd
  have hlt := ha.lt
  subst e6
  have pm : ∀ A B : List Nat, (p :: d :: f :: m :: (A ++ (F1 ++ (B ++ F2)))).Perm ((A ++ B) ++ (p :: d :: f :: m :: (F1 ++ F2))) := fun A B => by
    rw [List.perm_iff_count]
    intro a
    simp only [List.count_cons, List.count_append]
    omega
  have h0 := (pm Fe Fi).nodup_iff.1 hnd
  rw [List.nodup_append] at h0
  obtain ⟨h01, h02, h03⟩ := h0
  have old : ∀ q ∈ p :: d :: f :: m :: (F1 ++ F2), q < h.size := fun q hq => hlt q (by
    simp only [List.mem_cons, List.mem_append] at hq ⊢
    rcases hq with hq | hq | hq | hq | hq | hq <;> simp [hq])
  have out : ∀ q ∈ p :: d :: f :: m :: (F1 ++ F2), q ∉ Fe ∧ q ∉ Fi := fun q hq => ⟨fun hh => h03 q (by simp [hh]) q hq rfl, fun hh => h03 q (by simp [hh]) q hq rfl⟩
  have fr : ∀ q ∈ p :: d :: f :: m :: (F1 ++ F2), q ≠ f → h'[q]? = h[q]? := fun q hq hf => same q (old q hq) hf (out q hq).1 (out q hq).2
  have hne : ∀ q, q ∈ m :: (F1 ++ F2) → q ≠ f := fun q hq e => by
    subst e
    simp only [List.nodup_cons] at h02
    exact h02.2.2.1 hq
  have hpf : p ≠ f := fun e => by subst e; simp only [List.nodup_cons] at h02; exact h02.1 (by simp)
  have hlen : (ns1 ++ (x.1, ids') :: ns2).length = (l1 ++ g' :: l2).length := by
    have := ha.nodes.length
    rw [e3, e4] at this
    simp only [List.length_append, List.length_cons] at this ⊢
    exact this
  refine ⟨by rw [fr p (by simp) hpf]; exact ha.st, dev, tab, ?_, ?_, ?_, perm', ?_, srt', idn', idb', il0', cont'⟩
  · show MapAt .i64 h' m (mapL (l1 ++ g' :: l2) (ns1 ++ (x.1, ids') :: ns2))
    rw [mapL_mid (x := x) (x' := (x.1, ids')) e5 hn rfl, ← e3, ← e4]
    exact ha.mp.congr (fr m (by simp) (hne m (by simp)))
  · refine NodesAt.mid (x := (x.1, ids')) (hN1.congr fun q hq => fr q (by simp [hq]) (hne q (by simp [hq]))) node (hN2.congr fun q hq => fr q (by simp [hq]) (hne q (by simp [hq])))
  · refine (pm Fe' Fi').nodup_iff.2 ?_
    rw [List.nodup_append, List.nodup_append]
    have htn : Fe'.Nodup := by obtain ⟨_, _, rfl, _, _, h9⟩ := tab; exact h9
    refine ⟨⟨htn, node.nodup, fun a ha' b hb e => disj a ha' (e ▸ hb)⟩, h02, fun a ha' b hb e => ?_⟩
    subst e
    have hold := old a hb
    have hout := out a hb
    rcases List.mem_append.1 ha' with h1 | h1
    · rcases footE a h1 with h2 | h2
      · exact hout.1 h2
      · omega
    · rcases footN a h1 with h2 | h2
      · exact hout.2 h2
      · omega
  · intro y hy
    rw [show ({ s with l := l1 ++ g' :: l2 } : FsS).l = l1 ++ g' :: l2 from rfl, zip_mid e5] at hy
    have hold := ha.lens
    rw [e3, e4, zip_mid e5] at hold
    rcases List.mem_append.1 hy with hy | hy
    · exact hold y (by simp [hy])
    · rcases List.mem_cons.1 hy with rfl | hy
      · exact lens'
      · exact hold y (by simp [hy])
end
end Go.Proofs.Ytmdhfmljgjnggaa
/- What Write of package file does. No condition. -/
namespace Go.Proofs.Ytmdhfmljgjnggaa
attribute [local irreducible] semWP
set_option linter.constructorNameAsVariable false
set_option linter.unusedVariables false
theorem flat_chunks {f : Int → List Int} : ∀ {at_ all : List Int}, all.length = at_.length * 32 → (∀ i a, at_[i]? = some a → f a = (all.drop (i * 32)).take 32) → at_.flatMap f = all := by
  intro at_
  induction at_ with
  | nil =>
    intro all hl _
    have : all = [] := List.eq_nil_of_length_eq_zero (by rw [hl]; rfl)
    rw [this]; rfl
  | cons a t ih =>
    intro all hl h
    have h0 := h 0 a rfl
    rw [List.flatMap_cons, h0, ih (all := all.drop 32) (by rw [List.length_drop, hl, List.length_cons]; omega) ?_]
    · rw [Nat.zero_mul, List.drop_zero, List.take_append_drop]
    · intro i a' hi
      rw [List.drop_drop, h (i + 1) a' (by simpa using hi)]
      congr 2
      omega
theorem setmap {n : Int} {g g' : Fl} {l1 l2 : List Fl} (hg : g.n = n) (hnd : ((l1 ++ g :: l2).map (·.n)).Nodup) : ((l1 ++ g :: l2).map fun x => if x.n = n then g' else x) = l1 ++ g' :: l2 := by
  rw [List.map_append, List.map_cons, List.nodup_append, List.nodup_cons] at hnd
  obtain ⟨_, ⟨h2, _⟩, h3⟩ := hnd
  rw [List.map_append, List.map_cons, if_pos hg]
  have e1 : l1.map (fun x => if x.n = n then g' else x) = l1 := by
    conv => rhs; rw [← List.map_id l1]
    refine List.map_congr_left fun y hy => ?_
    rw [if_neg fun e => h3 y.n (List.mem_map.2 ⟨y, hy, rfl⟩) g.n (by simp) (by rw [e, hg])]; rfl
  have e2 : l2.map (fun x => if x.n = n then g' else x) = l2 := by
    conv => rhs; rw [← List.map_id l2]
    refine List.map_congr_left fun y hy => ?_
    rw [if_neg fun e => h2 (by rw [hg, ← e]; exact List.mem_map.2 ⟨y, hy, rfl⟩)]; rfl
  rw [e1, e2]
theorem FsWf.put {s : FsS} (hw : FsWf s) {l1 l2 : List Fl} {g g' : Fl} (e3 : s.l = l1 ++ g :: l2) (hn : g'.n = g.n) (hnm : g'.nm = g.nm ∨ g'.nm = empty) (hop : 0 ≤ g'.op ∧ g'.op ≤ 100) (hlv : g'.nm ≠ empty ∨ 0 < g'.op) (htx : g'.tx.size ≤ 96)
    (hats : g'.at_.length = secsN g'.tx.size) (htk : ((l1 ++ g' :: l2).flatMap (·.at_)).Nodup) (htb : ∀ a ∈ g'.at_, 0 ≤ a ∧ a < s.k) : FsWf { s with l := l1 ++ g' :: l2 } := by
  have all : ∀ {Q : Fl → Prop}, (∀ y ∈ s.l, Q y) → Q g' → ∀ y ∈ l1 ++ g' :: l2, Q y := fun hq hg y hy => by
    rw [e3] at hq
    rcases List.mem_append.1 hy with hy | hy
    · exact hq y (by simp [hy])
    · rcases List.mem_cons.1 hy with rfl | hy
      · exact hg
      · exact hq y (by simp [hy])
  have hg : g ∈ s.l := by rw [e3]; simp
  refine ⟨hw.k1, hw.k2, ?_, all hw.nb (by rw [hn]; exact hw.nb g hg), ?_, all hw.ops hop, all hw.live hlv, ?_, all hw.tx htx, all hw.ats hats, htk, ?_, hw.l0⟩
  · have := hw.nd
    rw [e3, List.map_append, List.map_cons] at this
    show ((l1 ++ g' :: l2).map (·.n)).Nodup
    rw [List.map_append, List.map_cons, hn]
    exact this
  · have := hw.nms
    rw [e3, List.pairwise_append, List.pairwise_cons] at this
    obtain ⟨h1, ⟨h2, h3⟩, h4⟩ := this
    show (l1 ++ g' :: l2).Pairwise _
    rw [List.pairwise_append, List.pairwise_cons]
    refine ⟨h1, ⟨fun y hy he => ?_, h3⟩, fun y hy z hz he => ?_⟩
    · rcases hnm with h5 | h5
      · rw [h5] at he ⊢; exact h2 y hy he
      · exact h5
    · rcases List.mem_cons.1 hz with rfl | hz
      · rcases hnm with h5 | h5
        · rw [h5] at he; exact h4 y hy g (by simp) he
        · rw [he, h5]
      · exact h4 y hy z (by simp [hz]) he
  · have := hw.len
    rw [e3] at this
    simpa using this
  · intro a ha
    have htb0 := hw.tb
    unfold takenS at ha htb0
    rw [e3] at htb0
    simp only [List.mem_flatMap] at ha htb0
    obtain ⟨y, hy, hay⟩ := ha
    rcases List.mem_append.1 hy with hy | hy
    · exact htb0 a ⟨y, by simp [hy], hay⟩
    · rcases List.mem_cons.1 hy with rfl | hy
      · exact htb a hay
      · exact htb0 a ⟨y, by simp [hy], hay⟩
/-- A file with more sectors. -/
def moreF (s : FsS) (l1 : List Fl) (g : Fl) (l2 : List Fl) (T : List Int) : FsS := { s with l := l1 ++ { g with at_ := g.at_ ++ T } :: l2 }
theorem more_perm {s : FsS} {l1 l2 : List Fl} {g : Fl} (e3 : s.l = l1 ++ g :: l2) (T : List Int) : ((moreF s l1 g l2 T).l.flatMap (·.at_)).Perm (takenS s ++ T) := by
  unfold moreF takenS
  rw [e3, List.perm_iff_count]
  intro a
  simp only [List.flatMap_append, List.flatMap_cons, List.count_append]
  omega
theorem more_free {s : FsS} {l1 l2 : List Fl} {g : Fl} (e3 : s.l = l1 ++ g :: l2) : ∀ i, i ≤ (freeL s.k (takenS s)).length → freeL s.k (takenS s ++ (freeL s.k (takenS s)).take i) = (freeL s.k (takenS s)).drop i := by
  intro i
  induction i with
  | zero => intro _; simp
  | succ i ih =>
    intro hi
    have h1 := ih (by omega)
    have h2 : (freeL s.k (takenS s)).drop i = (freeL s.k (takenS s))[i] :: (freeL s.k (takenS s)).drop (i + 1) := List.drop_eq_getElem_cons (by omega)
    rw [h2] at h1
    rw [← freeL_cons h1]
    refine freeL_congr fun a => ?_
    rw [List.take_add_one, List.getElem?_eq_getElem (by omega)]
    simp only [List.mem_append, List.mem_cons, Option.toList_some, List.not_mem_nil, or_false]
    constructor
    · rintro (h | h | h)
      · exact .inr (.inl h)
      · exact .inr (.inr h)
      · exact .inl h
    · rintro (h | h | h)
      · exact .inr (.inr h)
      · exact .inl h
      · exact .inr (.inl h)
theorem more_nodup {s : FsS} (hw : FsWf s) {l1 l2 : List Fl} {g : Fl} (e3 : s.l = l1 ++ g :: l2) (i : Nat) : ((moreF s l1 g l2 ((freeL s.k (takenS s)).take i)).l.flatMap (·.at_)).Nodup := by
  refine (more_perm e3 _).nodup_iff.2 ?_
  rw [List.nodup_append]
  refine ⟨hw.tk, ((freeL_pairwise s.k (takenS s)).sublist (List.take_sublist _ _)).imp fun h => by omega, fun a ha b hb e => ?_⟩
  subst e
  exact (freeL_mem.1 (List.mem_of_mem_take hb)).2.2 ha
section
variable {h h' : Hp} {p d f t m : Nat} {s : FsS} {ns : List (Nat × List Int)} {b : List Int} {E : List (Int × Int)} {il c : Int} {Fe Fn F : List Nat} {K : Value → Hp → Prop}
theorem c_sectors (n : Nat) (hn : n ≤ 1000) (hK : K (.int .i64 (secsN n : Nat)) h) : CallsH Try.prog f_file_sectors #[.int .i64 (n : Int)] h K := by
  refine q_file_sectors_calls n h K ?_
  unfold q_file_sectors
  rw [wrap64 (x := (n : Int) + 32) (by omega) (by omega), wrap64 (x := (n : Int) + 32 - 1) (by omega) (by omega)]
  have e : Int.tdiv ((n : Int) + 32 - 1) 32 = (secsN n : Nat) := by
    rw [show (32 : Int) = ((32 : Nat) : Int) from rfl, tdiv_nn (by omega)]
    unfold secsN
    omega
  rw [e, wrap64 (by unfold secsN; omega) (by unfold secsN; omega)]
  exact hK
end
end Go.Proofs.Ytmdhfmljgjnggaa
/- What Write of package file does. No condition. -/
namespace Go.Proofs.Ytmdhfmljgjnggaa
attribute [local irreducible] semWP
set_option linter.constructorNameAsVariable false
set_option linter.unusedVariables false
theorem flatMap_same {α β : Type} {f g : α → List β} : ∀ {l : List α}, (∀ a ∈ l, f a = g a) → l.flatMap f = l.flatMap g := by
  intro l
  induction l with
  | nil => intro _; rfl
  | cons a l ih => intro h; rw [List.flatMap_cons, List.flatMap_cons, h a (by simp), ih fun b hb => h b (by simp [hb])]
theorem padF_more {g : Fl} {T : List Int} (h : g.at_.length = secsN g.tx.size) : padF { g with at_ := g.at_ ++ T } = padF g ++ List.replicate (T.length * 32) 0 := by
  unfold padF secsN at *
  simp only [List.length_append]
  rw [List.append_assoc, List.replicate_append_replicate]
  congr 2
  omega
section
variable {h h' : Hp} {p d f t m : Nat} {s : FsS} {ns : List (Nat × List Int)} {b : List Int} {E : List (Int × Int)} {il c : Int} {Fe Fn F : List Nat} {K : Value → Hp → Prop}
/-- A file's blocks are none of the others. -/
theorem StAt.apart (ha : StAt h p s ns b E il d f t m Fe Fn) : ∀ q ∈ Fn, q ≠ p ∧ q ≠ d ∧ q ≠ f ∧ q ≠ m ∧ q ∉ Fe := by
  intro q hq
  have hnd := ha.nd
  simp only [List.nodup_cons, List.mem_cons, List.mem_append, not_or, List.nodup_append] at hnd
  obtain ⟨⟨_, _, _, _, n5⟩, ⟨_, _, _, n9⟩, ⟨_, _, n12⟩, ⟨_, n14⟩, _, _, n15⟩ := hnd
  exact ⟨fun e => n5 (e ▸ hq), fun e => n9 (e ▸ hq), fun e => n12 (e ▸ hq), fun e => n14 (e ▸ hq), fun e => n15 q e q hq rfl⟩
theorem StAt.apartE (ha : StAt h p s ns b E il d f t m Fe Fn) : d ∉ Fe ∧ f ∉ Fe ∧ d ≠ f := by
  have hnd := ha.nd
  simp only [List.nodup_cons, List.mem_cons, List.mem_append, not_or, List.nodup_append] at hnd
  obtain ⟨_, ⟨n6, _, n8, _⟩, ⟨_, n11, _⟩, _⟩ := hnd
  exact ⟨n8, n11, n6⟩
/-- One more sector is taken, and noted. -/
theorem StAt.grow {hw : FsWf s} {l1 l2 : List Fl} {g : Fl} {x1 : Nat} {ids' : List Int} {ns1 ns2 : List (Nat × List Int)} {i : Nat} {a : Int} {g' g2 g5 : Hp} {b' : List Int} {E' : List (Int × Int)} {Fe' Fe2 F1 Fi F2 F4 : List Nat}
    (e3 : s.l = l1 ++ g :: l2) (e5 : ns1.length = l1.length) (hT : (freeL s.k (takenS s))[i]? = some a)
    (ha' : StAt g' p (moreF s l1 g l2 ((freeL s.k (takenS s)).take i)) (ns1 ++ (x1, ids') :: ns2) b' E' il d f t m Fe' (F1 ++ (Fi ++ F2)))
    (hN1 : NodesAt g' l1 ns1 F1) (hN2 : NodesAt g' l2 ns2 F2) (hats : g.at_.length = secsN g.tx.size)
    (dev : DevAt g5 d f s.k (over b' (a.toNat * 32) (List.replicate 32 0))) (tab : TabAt g5 t s.k (insE (a, il + 1) E') (il + 1) Fe2)
    (node : NodeAt g5 x1 { g with at_ := g.at_ ++ (freeL s.k (takenS s)).take (i + 1) } (ids' ++ [il + 1]) F4)
    (same : ∀ q, q < g'.size → q ≠ f → q ∉ Fe' → q ∉ Fi → g5[q]? = g'[q]?) (footE : ∀ q ∈ Fe2, q ∈ Fe' ∨ g'.size ≤ q) (footN : ∀ q ∈ F4, q ∈ Fi ∨ g'.size ≤ q) (disj : ∀ q ∈ Fe2, q ∉ F4) :
    StAt g5 p (moreF s l1 g l2 ((freeL s.k (takenS s)).take (i + 1))) (ns1 ++ (x1, ids' ++ [il + 1]) :: ns2) (over b' (a.toNat * 32) (List.replicate 32 0)) (insE (a, il + 1) E') (il + 1) d f t m Fe2 (F1 ++ (F4 ++ F2)) := by
  have htk : (freeL s.k (takenS s)).take (i + 1) = (freeL s.k (takenS s)).take i ++ [a] := by rw [List.take_add_one, hT]; rfl
  have haf : a ∈ freeL s.k (takenS s) := List.mem_of_getElem? hT
  rw [freeL_mem] at haf
  have hil := ha'.lens ({ g with at_ := g.at_ ++ (freeL s.k (takenS s)).take i }, (x1, ids')) (by
    rw [show (moreF s l1 g l2 ((freeL s.k (takenS s)).take i)).l = l1 ++ { g with at_ := g.at_ ++ (freeL s.k (takenS s)).take i } :: l2 from rfl, zip_mid e5]; simp)
  simp only at hil
  have htak := more_perm e3 ((freeL s.k (takenS s)).take i)
  have haT : a ∉ (freeL s.k (takenS s)).take i := by
    intro hm
    obtain ⟨j, hj⟩ := List.getElem?_of_mem hm
    rw [List.getElem?_take] at hj
    split at hj
    · rename_i hji
      have hpw := freeL_pairwise s.k (takenS s)
      rw [List.pairwise_iff_getElem] at hpw
      obtain ⟨i1, i2⟩ := List.getElem?_eq_some_iff.1 hT
      obtain ⟨j1, j2⟩ := List.getElem?_eq_some_iff.1 hj
      have := hpw j i j1 i1 hji
      omega
    · cases hj
  have haE : ∀ y ∈ E', y.1 ≠ a := by
    intro y hy e
    have h1 : y.1 ∈ takenS (moreF s l1 g l2 ((freeL s.k (takenS s)).take i)) := ha'.fst.mem_iff.1 (List.mem_map.2 ⟨y, hy, rfl⟩)
    have h2 := htak.mem_iff.1 h1
    rw [e] at h2
    rcases List.mem_append.1 h2 with h3 | h3
    · exact haf.2.2 h3
    · exact haT h3
  have hlb := ha'.dev.len
  have hatm : ∀ y ∈ l1 ++ { g with at_ := g.at_ ++ (freeL s.k (takenS s)).take i } :: l2, y.at_.flatMap (secOf (over b' (a.toNat * 32) (List.replicate 32 0))) = padF y := by
    intro y hy
    rw [← ha'.cont y hy]
    have hmm : ∀ z ∈ y.at_, 0 ≤ z ∧ z ≠ a := by
      intro z hz
      have h1 : z ∈ takenS (moreF s l1 g l2 ((freeL s.k (takenS s)).take i)) := List.mem_flatMap.2 ⟨y, hy, hz⟩
      have h2 := htak.mem_iff.1 h1
      rcases List.mem_append.1 h2 with h3 | h3
      · exact ⟨(hw.tb z h3).1, fun e => haf.2.2 (e ▸ h3)⟩
      · exact ⟨(freeL_mem.1 (List.mem_of_mem_take h3)).1, fun e => haT (e ▸ h3)⟩
    refine flatMap_same fun z hz => ?_
    rw [secOf_over hlb haf.1 haf.2.1 (hmm z hz).1 (by simp), if_neg (hmm z hz).2]
  refine StAt.put ha' (g' := { g with at_ := g.at_ ++ (freeL s.k (takenS s)).take (i + 1) }) (x := (x1, ids')) (ids' := ids' ++ [il + 1]) rfl rfl e5 rfl hN1 hN2 rfl dev tab node same footE footN disj ?_ ?_ ?_ ?_ ?_ ?_ ?_
  · refine ((insE_perm _ E').trans (ha'.perm.cons _)).trans ?_
    show ((a, il + 1) :: extL (l1 ++ { g with at_ := g.at_ ++ (freeL s.k (takenS s)).take i } :: l2) (ns1 ++ (x1, ids') :: ns2)).Perm _
    rw [extL_mid e5, extL_mid e5, htk]
    simp only
    rw [← List.append_assoc g.at_, List.zip_append hil.symm]
    simp only [List.zip_cons_cons, List.zip_nil_left, List.append_assoc]
    rw [List.perm_iff_count]
    intro z
    simp only [List.count_append, List.count_cons, List.count_nil]
    omega
  · rw [htk]; simp only [List.length_append, List.length_cons, List.length_nil] at hil ⊢; omega
  · exact insE_srt ha'.srt haE
  · have := ((insE_perm (a, il + 1) E').map (·.2)).nodup_iff
    rw [this, List.map_cons, List.nodup_cons]
    refine ⟨fun hm => ?_, ha'.ids⟩
    obtain ⟨y, hy, he⟩ := List.mem_map.1 hm
    have := ha'.idb y hy
    simp only at he
    omega
  · intro y hy
    have h0 := ha'.il0
    rcases List.mem_cons.1 ((insE_perm _ _).mem_iff.1 hy) with rfl | hy
    · show 1 ≤ il + 1 ∧ il + 1 ≤ il + 1; omega
    · have := ha'.idb y hy; omega
  · have h0 := ha'.il0; omega
  · intro y hy
    rcases List.mem_append.1 hy with hy | hy
    · exact hatm y (by simp [hy])
    · rcases List.mem_cons.1 hy with rfl | hy
      · have h1 := hatm { g with at_ := g.at_ ++ (freeL s.k (takenS s)).take i } (by simp)
        rw [padF_more hats] at h1 ⊢
        rw [htk]
        simp only at h1 ⊢
        rw [← List.append_assoc, List.flatMap_append, h1]
        simp only [List.flatMap_cons, List.flatMap_nil, List.append_nil, List.length_append, List.length_cons, List.length_nil]
        rw [secOf_over hlb haf.1 haf.2.1 haf.1 (by simp), if_pos rfl, List.append_assoc, List.replicate_append_replicate]
        congr 2
        omega
      · exact hatm y (by simp [hy])
end
end Go.Proofs.Ytmdhfmljgjnggaa
