/- The texts Sli Names Frame Rd Open Gen, one behind the other. No condition. -/
import Derived.Test.YtmdhfmljgjnggaaG3
import Derived.Test.YtmdhfmljgjnggaaProg
import Derived.KernelRfl
import Derived.Test.YtmdhfmljgjnggaaRows
import Derived.WalkKit
import Derived.ProofKit
import Derived.OpenShut
import Derived.ShutString
import Derived.ChangeOld
import Derived.Below
import Derived.Carry
/- A slice's making, appending and copying; a map's clone. No condition. -/
namespace Go.Proofs.Ytmdhfmljgjnggaa

theorem iteP_t {b : Bool} {x y : Prop} (hb : b = true) (hx : x) : iteP b x y := by subst hb; exact hx
theorem iteP_f {b : Bool} {x y : Prop} (hb : b = false) (hy : y) : iteP b x y := by subst hb; exact hy
theorem iteP_yes {p x y : Prop} [Decidable p] (hp : p) (hx : x) : iteP (decide p) x y := iteP_t (decide_eq_true hp) hx
theorem iteP_no {p x y : Prop} [Decidable p] (hp : ¬ p) (hy : y) : iteP (decide p) x y := iteP_f (decide_eq_false hp) hy
theorem iteP_cases {p x y : Prop} [Decidable p] (hx : p → x) (hy : ¬ p → y) : iteP (decide p) x y := by
  by_cases hp : p
  · exact iteP_yes hp (hx hp)
  · exact iteP_no hp (hy hp)
theorem iteP_split {b : Bool} {x y : Prop} (hx : b = true → x) (hy : b = false → y) : iteP b x y := by cases b <;> simp_all [iteP]
theorem iteP_eq {a b : Int} {x y : Prop} (h : a = b) (hx : x) : iteP (a == b) x y := iteP_t (by simp [h]) hx
theorem iteP_neq {a b : Int} {x y : Prop} (h : a ≠ b) (hy : y) : iteP (a == b) x y := iteP_f (by simpa using h) hy
theorem iteP_ne {a b : Int} {x y : Prop} (h : a ≠ b) (hx : x) : iteP (a != b) x y := iteP_t (by simpa using h) hx
theorem iteP_nne {a b : Int} {x y : Prop} (h : a = b) (hy : y) : iteP (a != b) x y := iteP_f (by simp [h]) hy
theorem iteP_eqc {a b : Int} {x y : Prop} (hx : a = b → x) (hy : a ≠ b → y) : iteP (a == b) x y := by
  by_cases h : a = b
  · exact iteP_eq h (hx h)
  · exact iteP_neq h (hy h)
theorem iteP_nec {a b : Int} {x y : Prop} (hx : a ≠ b → x) (hy : a = b → y) : iteP (a != b) x y := by
  by_cases h : a = b
  · exact iteP_nne h (hy h)
  · exact iteP_ne h (hx h)

theorem repL_length {n : Nat} {z : List Value} : (repL n z).length = n * z.length := by
  induction n with
  | zero => simp [repL]
  | succ n ih => simp [repL, ih, Nat.succ_mul, Nat.add_comm]
theorem repL_replicate {n m : Nat} {z : Value} : repL n (List.replicate m z) = List.replicate (n * m) z := by
  induction n with
  | zero => simp [repL]
  | succ n ih => rw [repL, ih, List.replicate_append_replicate]; congr 1; rw [Nat.succ_mul, Nat.add_comm]
section
variable {P : Program}
theorem semWP_asInt {k : IntKind} {n : Int} {h : Hp} {K : Int → Hp → Prop} : semWP P (asInt (.int k n)) h K = K n h := rfl
theorem semWP_askRoom {n : Nat} {h : Hp} {K : Unit → Hp → Prop} (hk : K () h) : semWP P (askRoom n) h K := by
  unfold askRoom; split <;> exact hk
theorem semWP_newRow {e : TypeId} {c : Array Value} {h : Hp} {K : Addr → Hp → Prop} : semWP P (newRow e c) h K = K ⟨h.size, 0, none⟩ (h.push (.cells c e)) := rfl
/-- make([]T, n). -/
theorem semWP_makeSlice {t el : TypeId} {i : TypeInfo} {k k' : IntKind} {n : Int} {h : Hp} {K : Value → Hp → Prop} (hd : P.underlying t = some (.slice el)) (hi : P.info? el = some i) (hde : (P.underlying el).isSome = true) (hz : hasZero P el = true) (hs : (zeroCells P el).size = P.cellsOf el)
    (h0 : 0 ≤ n) (hb : i.bytes * n ≤ 281474976710656) (hbn : n ≤ 281474976710656)
    (hK : ∀ h', h' = h.push (.cells ⟨repL n.toNat (zeroCells P el).toList⟩ el) → K (.slice (some ⟨h.size, 0, none⟩) n.toNat n.toNat) h') : semWP P (Instr.makeSlice t (.int k n) (.int k' n)) h K := by
  obtain ⟨de, hde⟩ := Option.isSome_iff_exists.1 hde
  have hw : IntKind.wrap .i64 n = n := wrap64 (by omega) (by omega)
  have h48 : (2 : Int) ^ 48 = 281474976710656 := by decide
  simp only [Instr.makeSlice, semWP_bind, semWP_underlying hd, semWP_asInt, semWP_typeInfo hi, hw]
  have hlarge : (decide (n < 0) || decide ((i.bytes : Int) * n > 2 ^ 48)) = false := by
    rw [h48]; simp; omega
  simp only [hlarge, Bool.false_or, Bool.or_false, decide_eq_true_eq]
  rw [if_neg (by simp; omega)]
  simp only [semWP_ret, semWP_bind]
  refine semWP_askRoom ?_
  simp only [semWP_sizeOf hde]
  by_cases hn : n.toNat * P.cellsOf el = 0
  · rw [if_pos hn]
    simp only [semWP_bind, semWP_ret, semWP_newRow]
    refine hK _ ?_
    have : repL n.toNat (zeroCells P el).toList = [] := by
      apply List.eq_nil_of_length_eq_zero
      rw [repL_length, Array.length_toList, hs, hn]
    rw [this, hn]
    congr 2
    apply Array.ext'
    simp [Array.toList_map, Array.toList_range]
  · rw [if_neg hn]
    simp only [semWP_bind, semWP_zeroValue hz, semWP_ret, semWP_newRow]
    refine hK _ ?_
    congr 2
    apply Array.ext'
    have := repL_eq (zeroCells P el).toList n.toNat
    simp only [Array.length_toList, hs] at this
    rw [← this]
    simp only [Array.toList_map, Array.toList_range]
    have e : (zeroOf P el).cells = zeroCells P el := rfl
    rw [e, hs]

/-- A slice's cells, and the block in which they lie (a slice without one has none). -/
structure SlAt (h : Hp) (el : TypeId) (sz : Nat) (p : Option Addr) (n c : Nat) (vs : List Value) (F : List Nat) : Prop where
  len : vs.length = n * sz
  le : n ≤ c
  is : (p = none ∧ c = 0 ∧ F = []) ∨ ∃ b o cs, p = some ⟨b, o, none⟩ ∧ F = [b] ∧ h[b]? = some (.cells cs el (0, 0)) ∧ o + c * sz ≤ cs.size ∧ (cs.toList.drop o).take (n * sz) = vs
theorem SlAt.congr {h h' : Hp} {el : TypeId} {sz : Nat} {p : Option Addr} {n c : Nat} {vs : List Value} {F : List Nat} (hs : SlAt h el sz p n c vs F) (he : ∀ r ∈ F, h'[r]? = h[r]?) : SlAt h' el sz p n c vs F := by
  refine ⟨hs.len, hs.le, ?_⟩
  rcases hs.is with h1 | ⟨b, o, cs, h1, h2, h3, h4⟩
  · exact .inl h1
  · exact .inr ⟨b, o, cs, h1, h2, by rw [he b (by simp [h2]), h3], h4⟩
theorem SlAt.nil (h : Hp) (el : TypeId) (sz : Nat) : SlAt h el sz none 0 0 [] [] := ⟨by simp, Nat.le_refl _, .inl ⟨rfl, rfl, rfl⟩⟩
theorem growBy_le : ∀ (r c n m : Nat), c ≤ m → m ≥ n + (n + 768) / 4 → Builtin.growBy n r c ≤ m := by
  intro r
  induction r with
  | zero => intro c n m h _; exact h
  | succ r ih =>
    intro c n m h h2
    unfold Builtin.growBy
    split
    · exact h
    · rename_i hc
      refine ih _ n m ?_ h2
      have : c < n := by omega
      have : (c + 768) / 4 ≤ (n + 768) / 4 := Nat.div_le_div_right (by omega)
      omega
theorem nextcap_le {n c : Nat} (h : c < n) : Builtin.nextslicecap n c ≤ 2 * n + 768 := by
  unfold Builtin.nextslicecap
  split
  · omega
  · split
    · omega
    · exact growBy_le _ _ _ _ (by omega) (by omega)
theorem semWP_firstCells {h : Hp} {el : TypeId} {sz n c m : Nat} {p : Option Addr} {vs : List Value} {F : List Nat} {K : Array Value → Hp → Prop} (hs : SlAt h el sz p n c vs F) (hm : m ≤ n) (hK : K (vs.take (m * sz)).toArray h) : semWP P (Builtin.firstCells sz m (.slice p n c)) h K := by
  rcases hs.is with ⟨h1, h2, _⟩ | ⟨b, o, cs, h1, _, h3, h4, h5⟩
  · subst h1
    have : vs = [] := by
      apply List.eq_nil_of_length_eq_zero
      rw [hs.len]
      have := hs.le
      have : n = 0 := by omega
      simp [this]
    subst this
    simpa [Builtin.firstCells, semWP_ret] using hK
  · subst h1
    simp only [Builtin.firstCells]
    have hmn : m * sz ≤ n * sz := Nat.mul_le_mul_right _ hm
    have hnc : n * sz ≤ c * sz := Nat.mul_le_mul_right _ hs.le
    refine semWP_loadCells h3 (by omega) ?_
    rw [← h5, List.take_take, Nat.min_eq_left hmn] at hK
    exact hK
/-- What a slice, or a text, holds, to be read by append and copy. -/
def Src (P : Program) (h : Hp) (x : Value) (sz xn : Nat) (xs : List Value) : Prop :=
  xs.length = xn * sz ∧ Builtin.lenOf x = pure xn ∧ ∀ (m : Nat) (K : Array Value → Hp → Prop), m ≤ xn → K (xs.take (m * sz)).toArray h → semWP P (Builtin.firstCells sz m x) h K
theorem SlAt.src {P : Program} {h : Hp} {el : TypeId} {sz n c : Nat} {p : Option Addr} {vs : List Value} {F : List Nat} (hs : SlAt h el sz p n c vs F) : Src P h (.slice p n c) sz n vs :=
  ⟨hs.len, rfl, fun _ _ hm hK => semWP_firstCells hs hm hK⟩
theorem src_rd {P : Program} {h : Hp} {sz n c : Nat} {p : Option Addr} {vs : List Value} (hl : vs.length = n * sz) (hr : ∀ i v, vs[i]? = some v → ∃ a, p = some a ∧ cellAt h (a.add i) = some v) : Src P h (.slice p n c) sz n vs := by
  refine ⟨hl, rfl, fun m K hm hK => ?_⟩
  have hmn : m * sz ≤ n * sz := Nat.mul_le_mul_right _ hm
  cases p with
  | none =>
    have : vs = [] := by
      cases vs with
      | nil => rfl
      | cons v vs => obtain ⟨a, h1, _⟩ := hr 0 v rfl; cases h1
    subst this
    simpa [Builtin.firstCells, semWP_ret] using hK
  | some a =>
    refine loadCellsFrom_wp (m * sz) 0 #[] (vs.take (m * sz)) (by rw [List.length_take]; omega) ?_ (by simpa using hK)
    intro j hj
    rw [List.getElem?_take, if_pos hj]
    have hlt : j < vs.length := by omega
    rw [List.getElem?_eq_getElem hlt, Nat.zero_add]
    obtain ⟨a', h1, h2⟩ := hr j vs[j] (List.getElem?_eq_getElem hlt)
    cases h1
    exact h2
theorem src_str {P : Program} {h : Hp} {s : ByteArray} : Src P h (.string s) 1 s.size (s.data.toList.map fun (b : UInt8) => (.int .u8 b.toNat : Value)) := by
  refine ⟨by simp, rfl, fun m K hm hK => ?_⟩
  have e : ((s.extract 0 m).data.map fun (b : UInt8) => (.int .u8 b.toNat : Value)) = ((s.data.toList.map fun (b : UInt8) => (.int .u8 b.toNat : Value)).take (m * 1)).toArray := by
    apply Array.ext'
    simp [ByteArray.data_extract, List.map_take]
  simp only [Builtin.firstCells, semWP_ret]
  rw [e]
  exact hK
/-- append(s, x...). -/
theorem semWP_appendX {t xt el ty : TypeId} {i : TypeInfo} {sz : Nat} {tys : Array TypeId} {h : Hp} {p : Option Addr} {x : Value} {n c xn : Nat} {vs xs : List Value} {F : List Nat} {xd : TypeDesc} {K : Value → Hp → Prop}
    (ht : tys[0]? = some t) (hx : tys[1]? = some xt) (hd : P.underlying t = some (.slice el)) (hxd : P.underlying xt = some xd) (hxi : (∃ e, xd = .slice e) ∨ xd = .string) (hi : P.info? el = some i) (hde : (P.underlying el).isSome = true) (hz : hasZero P el = true) (hsz : P.cellsOf el = sz) (hzz : (zeroCells P el).size = sz)
    (hby : i.bytes ≤ 1024) (hnn : n + xn ≤ 1073741824)
    (hs : SlAt h el sz p n c vs F) (hxs : Src P h x sz xn xs) (ho : ∀ v ∈ xs, oneV v = true)
    (hK : ∀ h' p' c' F', SlAt h' el sz p' (n + xn) c' (vs ++ xs) F' → Step h h' F F' → (c < n + xn → ∃ rest, p' = some ⟨h.size, 0, none⟩ ∧ F' = [h.size] ∧ h' = h.push (.cells ⟨vs ++ (xs ++ rest)⟩ el) ∧ (n + xn) * sz + rest.length = c' * sz) → K (.slice p' (n + xn) c') h') : semWP P (Builtin.append_ tys ty #[.slice p n c, x]) h K := by
  obtain ⟨de, hde⟩ := Option.isSome_iff_exists.1 hde
  have htk : xs.take (xn * sz) = xs := by rw [List.take_of_length_le]; rw [hxs.1]; exact Nat.le_refl _
  have htv : vs.take (n * sz) = vs := by rw [List.take_of_length_le]; rw [hs.len]; exact Nat.le_refl _
  rcases hxi with ⟨xe, rfl⟩ | rfl
  all_goals
    simp only [Builtin.append_, ht, hx, List.getElem?_toArray, List.getElem?_cons_zero, List.getElem?_cons_succ, semWP_bind, semWP_underlying hd, semWP_underlying hxd, semWP_sizeOf hde, hsz, semWP_ret, Bool.false_eq_true, if_false, Bool.not_false, if_true, hxs.2.1]
    by_cases hle : n + xn ≤ c
    · rw [if_pos hle]
      simp only [semWP_bind]
      refine hxs.2.2 _ _ (Nat.le_refl _) ?_
      rw [htk]
      rcases hs.is with ⟨h1, h2, h3⟩ | ⟨b, o, cs, h1, h2, h3, h4, h5⟩
      · subst h1
        have e1 : n = 0 := by omega
        have e2 : xn = 0 := by omega
        have e3 : xs = [] := by apply List.eq_nil_of_length_eq_zero; rw [hxs.1, e2]; simp
        have e4 : vs = [] := by apply List.eq_nil_of_length_eq_zero; rw [hs.len, e1]; simp
        simp only [semWP_ret]
        refine hK _ _ _ F ⟨?_, hle, .inl ⟨rfl, h2, h3⟩⟩ (Step.refl _ _) (fun hx => by omega)
        rw [e1, e2, e3, e4]; simp
      · subst h1
        simp only [semWP_bind, Addr.add_mk]
        have hnx : (n + xn) * sz ≤ c * sz := Nat.mul_le_mul_right _ hle
        have hadd : (n + xn) * sz = n * sz + xn * sz := Nat.add_mul ..
        have hlx := hxs.1
        refine semWP_storeCells h3 (by simpa using ho) (by simp only [hlx]; omega) ?_
        intro h' h6 h7 _
        simp only [semWP_ret]
        refine hK _ _ _ [b] ⟨?_, hle, .inr ⟨b, o, _, rfl, rfl, h6, ?_, ?_⟩⟩ (by rw [h2]; exact h7) (fun hx => by omega)
        · rw [List.length_append, hs.len, hxs.1, Nat.add_mul]
        · simp only [List.size_toArray, over_length, Array.length_toList]; exact h4
        · have hl5 : vs.length = n * sz := hs.len
          apply List.ext_getElem?
          intro j
          have h5' : ∀ j, vs[j]? = if j < n * sz then cs.toList[o + j]? else none := by
            intro j
            rw [← h5, List.getElem?_take]
            split
            · rw [List.getElem?_drop]
            · rfl
          rw [List.getElem?_take, List.getElem?_drop, List.getElem?_append]
          rw [over_get (by simp only [Array.length_toList, hlx]; omega)]
          by_cases hj : j < n * sz
          · rw [if_pos (by omega), if_neg (by omega), if_pos (by omega), h5' j, if_pos hj]
          · by_cases hj2 : j < (n + xn) * sz
            · rw [if_pos hj2, if_pos (by rw [hlx]; omega), if_neg (by omega), hl5]
              congr 1; omega
            · rw [if_neg hj2, if_neg (by omega), hl5, List.getElem?_eq_none]
              rw [hlx]; omega
    · rw [if_neg hle]
      have hc : c < n + xn := by omega
      have hbig : ¬ ((((n + xn : Nat)) : Int) > IntKind.i64.max) := by
        have : IntKind.i64.max = 9223372036854775807 := by decide
        rw [this]; omega
      simp only [semWP_bind, semWP_typeInfo hi, Bool.false_eq_true, false_or]
      rw [if_neg (by intro hh; exact hbig hh.1)]
      simp only [semWP_ret, semWP_bind, semWP_typeInfo hi]
      rw [if_neg (by
        have h1 := nextcap_le hc
        have h2 : Builtin.nextslicecap (n + xn) c * i.bytes ≤ (2 * (n + xn) + 768) * 1024 := Nat.mul_le_mul h1 hby
        omega)]
      simp only [semWP_ret, semWP_bind]
      intro tt
      generalize hq : (if (Question.appendCap (n + xn) c el).forced = true then 0 else (Question.appendCap (n + xn) c el).cut tt) = nc
      have hnc : n + xn ≤ nc := by
        rw [← hq]
        simp only [Question.forced, Question.cut, Bool.false_eq_true, if_false]
        exact Nat.le_add_right _ _
      simp only [semWP_bind, semWP_typeInfo hi]
      refine semWP_askRoom ?_
      refine semWP_firstCells hs (Nat.le_refl _) ?_
      rw [htv]
      refine hxs.2.2 _ _ (Nat.le_refl _) ?_
      rw [htk]
      simp only [semWP_bind, semWP_zeroValue hz, semWP_newRow, semWP_ret]
      have hrest : (n + xn) * sz + (Builtin.zeroCells (zeroOf P el).cells (nc - (n + xn))).toList.length = nc * sz := by
        have e : (Builtin.zeroCells (zeroOf P el).cells (nc - (n + xn))).size = (nc - (n + xn)) * sz := by
          have : (zeroOf P el).cells.size = sz := hzz
          simp [Builtin.zeroCells, this]
        have h1 : (nc - (n + xn)) * sz + (n + xn) * sz = nc * sz := by rw [← Nat.add_mul]; congr 1; omega
        rw [Array.length_toList, e]; omega
      refine hK _ _ _ [h.size] ⟨?_, hnc, .inr ⟨h.size, 0, _, rfl, rfl, push_new _ _, ?_, ?_⟩⟩ ?_ (fun _ => ⟨_, rfl, rfl, by congr 2; apply Array.ext'; simp [List.append_assoc], hrest⟩)
      · rw [List.length_append, hs.len, hxs.1, Nat.add_mul]
      · have e : (Builtin.zeroCells (zeroOf P el).cells (nc - (n + xn))).size = (nc - (n + xn)) * sz := by
          have : (zeroOf P el).cells.size = sz := hzz
          simp [Builtin.zeroCells, this]
        simp only [Array.size_append, List.size_toArray, e, hs.len, hxs.1]
        have h1 : (nc - (n + xn)) * sz + (n + xn) * sz = nc * sz := by rw [← Nat.add_mul]; congr 1; omega
        have h2 : (n + xn) * sz = n * sz + xn * sz := Nat.add_mul ..
        omega
      · simp only [List.drop_zero, Array.toList_append]
        rw [List.take_append_of_le_length (by simp [hs.len, hxs.1, Nat.add_mul]), List.take_of_length_le]
        simp [hs.len, hxs.1, Nat.add_mul]
      · exact ⟨by simp, fun r hr _ => push_old hr, fun r hr => by simp at hr; exact .inr (by omega)⟩
theorem semWP_append {t xt el ty : TypeId} {i : TypeInfo} {sz : Nat} {tys : Array TypeId} {h : Hp} {p xp : Option Addr} {n c xn xc : Nat} {vs xs : List Value} {F G : List Nat} {xel : TypeId} {K : Value → Hp → Prop}
    (ht : tys[0]? = some t) (hx : tys[1]? = some xt) (hd : P.underlying t = some (.slice el)) (hxd : P.underlying xt = some (.slice xel)) (hi : P.info? el = some i) (hde : (P.underlying el).isSome = true) (hz : hasZero P el = true) (hsz : P.cellsOf el = sz) (hzz : (zeroCells P el).size = sz)
    (hby : i.bytes ≤ 1024) (hnn : n + xn ≤ 1073741824)
    (hs : SlAt h el sz p n c vs F) (hxs : SlAt h xel sz xp xn xc xs G) (ho : ∀ v ∈ xs, oneV v = true)
    (hK : ∀ h' p' c' F', SlAt h' el sz p' (n + xn) c' (vs ++ xs) F' → Step h h' F F' → K (.slice p' (n + xn) c') h') : semWP P (Builtin.append_ tys ty #[.slice p n c, .slice xp xn xc]) h K :=
  semWP_appendX ht hx hd hxd (.inl ⟨_, rfl⟩) hi hde hz hsz hzz hby hnn hs hxs.src ho fun h' p' c' F' s st _ => hK h' p' c' F' s st
/-- copy(d, s). -/
theorem semWP_copyX {t el bel ty : TypeId} {sz : Nat} {tys : Array TypeId} {h : Hp} {p : Option Addr} {x : Value} {n c sn : Nat} {vs ss : List Value} {F : List Nat} {K : Value → Hp → Prop}
    (ht : tys[0]? = some t) (hd : P.underlying t = some (.slice el)) (hde : (P.underlying el).isSome = true) (hsz : P.cellsOf el = sz)
    (hs : SlAt h bel sz p n c vs F) (hxs : Src P h x sz sn ss) (ho : ∀ v ∈ ss, oneV v = true)
    (hK : ∀ h', (∀ b o, p = some ⟨b, o, none⟩ → ∀ cs, h[b]? = some (.cells cs bel (0, 0)) → h'[b]? = some (.cells ⟨over cs.toList o (ss.take (min sn n * sz))⟩ bel (0, 0))) → (p = none → h' = h) → Step h h' F F → h'.size = h.size → K (.int .i64 (min sn n : Nat)) h') : semWP P (Builtin.copy_ tys ty #[.slice p n c, x]) h K := by
  obtain ⟨de, hde⟩ := Option.isSome_iff_exists.1 hde
  simp only [Builtin.copy_, ht, List.getElem?_toArray, List.getElem?_cons_zero, List.getElem?_cons_succ, semWP_bind, semWP_underlying hd, semWP_sizeOf hde, hsz, semWP_ret, hxs.2.1]
  refine hxs.2.2 _ _ (Nat.min_le_left ..) ?_
  have hmin : Nat.min sn n = min sn n := rfl
  rw [hmin]
  rcases hs.is with ⟨h1, h2, h3⟩ | ⟨b, o, cs, h1, h2, h3, h4, h5⟩
  · subst h1
    simp only [semWP_ret, semWP_bind]
    exact hK h (by intro b o hh; cases hh) (fun _ => rfl) (Step.refl _ _) rfl
  · subst h1
    simp only [semWP_ret, semWP_bind]
    have hl : (ss.take (min sn n * sz)).length = min sn n * sz := by
      rw [List.length_take, hxs.1]
      have : min sn n * sz ≤ sn * sz := Nat.mul_le_mul_right _ (Nat.min_le_left ..)
      omega
    refine semWP_storeCells h3 (fun v hv => ho v (List.mem_of_mem_take (by simpa using hv))) ?_ ?_
    · simp only [hl]
      have : min sn n * sz ≤ n * sz := Nat.mul_le_mul_right _ (Nat.min_le_right ..)
      have : n * sz ≤ c * sz := Nat.mul_le_mul_right _ hs.le
      omega
    · intro h' h6 h7 h8
      refine hK h' ?_ (by intro hh; cases hh) (by rw [h2]; exact h7) h8
      intro b' o' hbo cs' hcs'
      cases hbo
      rw [h3] at hcs'
      cases hcs'
      exact h6
theorem semWP_copy {t el bel ty sel : TypeId} {sz : Nat} {tys : Array TypeId} {h : Hp} {p sp : Option Addr} {n c sn sc : Nat} {vs ss : List Value} {F G : List Nat} {K : Value → Hp → Prop}
    (ht : tys[0]? = some t) (hd : P.underlying t = some (.slice el)) (hde : (P.underlying el).isSome = true) (hsz : P.cellsOf el = sz)
    (hs : SlAt h bel sz p n c vs F) (hxs : SlAt h sel sz sp sn sc ss G) (ho : ∀ v ∈ ss, oneV v = true)
    (hK : ∀ h', (∀ b o, p = some ⟨b, o, none⟩ → ∀ cs, h[b]? = some (.cells cs bel (0, 0)) → h'[b]? = some (.cells ⟨over cs.toList o (ss.take (min sn n * sz))⟩ bel (0, 0))) → (p = none → h' = h) → Step h h' F F → h'.size = h.size → K (.int .i64 (min sn n : Nat)) h') : semWP P (Builtin.copy_ tys ty #[.slice p n c, .slice sp sn sc]) h K :=
  semWP_copyX ht hd hde hsz hs hxs.src ho hK
/-- maps.Clone's inner function. -/
theorem semWP_mapsClone {f : FuncId} {t : TypeId} {k : IntKind} {h : Hp} {r : Nat} {l : List (Int × Value)} {K : Next → Hp → Prop}
    (hf : ∀ args h K, semWP P (Extern.MapsClone.clone args) h (fun v h => K (.value v) h) → semWP P (callFunc f args) h K) (ha : MapAt k h r l)
    (hK : ∀ h', MapAt k h' h.size l → Ext h h' → h'.size = h.size + 1 → K (.value (.iface t (.map (some h.size)))) h') : semWP P (callFunc f #[.iface t (.map (some r))]) h K := by
  refine hf _ _ _ ?_
  obtain ⟨es, clk, h1, h2, h3, h4⟩ := ha.is
  have e : Extern.MapsClone.clone #[.iface t (.map (some r))] = (getObj r >>= fun o => match o with
      | .map entries clock => (newObj (.map entries clock) >>= fun n => pure (.iface t (.map (some n))))
      | _ => stuck "maps.clone: a map expected") := rfl
  rw [e]
  simp only [semWP_bind]
  refine ⟨_, objAt_map h1, ?_⟩
  exact hK _ ⟨⟨es, clk, push_new _ _, h2, h3, h4⟩, ha.nodup⟩ (Ext.push _ _) (by simp)
end
end Go.Proofs.Ytmdhfmljgjnggaa
/- The names of functions and types of this translation. No condition. -/
set_option linter.constructorNameAsVariable false
namespace Go.Proofs.Ytmdhfmljgjnggaa

theorem mixOk : Try.prog.follows .mixedOrders = true := by kernel_rfl
abbrev f_main_main : FuncId := 0
abbrev f_gosem_cut : FuncId := 1
abbrev f_gosem_cut_init : FuncId := 2
abbrev f_top_TopForked : FuncId := 3
abbrev f_top_TopHeld : FuncId := 4
abbrev f_top_TopPlaced : FuncId := 5
abbrev f_law19_VmPlays : FuncId := 6
abbrev f_law19_VmForks : FuncId := 7
abbrev f_law19_VmNone : FuncId := 8
abbrev f_law22_FileNone : FuncId := 9
abbrev f_vm_New : FuncId := 10
abbrev f_vm_Vm_Begin : FuncId := 11
abbrev f_vm_Vm_Map : FuncId := 12
abbrev f_vm_Vm_Fork : FuncId := 13
abbrev f_vm_Vm_Poke : FuncId := 14
abbrev f_vm_Vm_Peek : FuncId := 15
abbrev f_vm_Vm_Copies : FuncId := 16
abbrev f_vm_Vm_Left : FuncId := 17
abbrev f_cachereg_New : FuncId := 18
abbrev f_cachereg_Registry_Bind : FuncId := 19
abbrev f_cachereg_Registry_Move : FuncId := 20
abbrev f_cachereg_Registry_Clear : FuncId := 21
abbrev f_cachereg_Registry_Frame : FuncId := 22
abbrev f_cachereg_Registry_Sector : FuncId := 23
abbrev f_cachereg_Registry_Frames : FuncId := 24
abbrev f_file_New : FuncId := 25
abbrev f_fds_New : FuncId := 26
abbrev f_file_Store_Make : FuncId := 27
abbrev f_fds_Table_Begin : FuncId := 28
abbrev f_fds_Table_Open : FuncId := 29
abbrev f_fds_Table_Dup : FuncId := 30
abbrev f_fds_Table_Get : FuncId := 31
abbrev f_file_Store_Write : FuncId := 32
abbrev f_fds_Table_Move : FuncId := 33
abbrev f_file_Store_Read : FuncId := 34
abbrev f_fds_Table_Close : FuncId := 35
abbrev f_law19_play : FuncId := 36
abbrev f_law19_live : FuncId := 37
abbrev f_law19_same : FuncId := 38
abbrev f_vm_Vm_Copy : FuncId := 39
abbrev f_ref19_Vm_Copy : FuncId := 40
abbrev f_law19_do : FuncId := 41
abbrev f_vm_Vm_Frame : FuncId := 42
abbrev f_vm_Vm_End : FuncId := 43
abbrev f_vm_Vm_Unmap : FuncId := 44
abbrev f_vm_Vm_Fill : FuncId := 45
abbrev f_vm_Vm_Pages : FuncId := 46
abbrev f_vm_Vm_Refs : FuncId := 47
abbrev f_file_Store_Find : FuncId := 48
abbrev f_file_Store_Size : FuncId := 49
abbrev f_law22_live : FuncId := 50
abbrev f_file_Store_Unlink : FuncId := 51
abbrev f_file_Store_Hold : FuncId := 52
abbrev f_file_Store_Names : FuncId := 53
abbrev f_file_Store_Sectors : FuncId := 54
abbrev f_file_Store_Left : FuncId := 55
abbrev f_file_Store_Fork : FuncId := 56
abbrev f_mem_New : FuncId := 57
abbrev f_vm_Vm_fresh : FuncId := 58
abbrev f_vm_Vm_page : FuncId := 59
abbrev f_vm_Vm_of : FuncId := 60
abbrev f_maps_Clone_vm_space_int_int : FuncId := 61
abbrev f_vm_Vm_at : FuncId := 62
abbrev f_vm_Vm_own : FuncId := 63
abbrev f_mem_Memory_SetByte : FuncId := 64
abbrev f_mem_Memory_Byte : FuncId := 65
abbrev f_mem_Memory_Size : FuncId := 66
abbrev f_cachereg_Registry_may : FuncId := 67
abbrev f_cachereg_Registry_put : FuncId := 68
abbrev f_cachereg_Registry_cut : FuncId := 69
abbrev f_slices_Sort_uint8_uint8 : FuncId := 70
abbrev f_dev_New : FuncId := 71
abbrev f_extent_New : FuncId := 72
abbrev f_name_Label : FuncId := 73
abbrev f_fds_Table_fresh : FuncId := 74
abbrev f_fds_Table_of : FuncId := 75
abbrev f_fds_process_give : FuncId := 76
abbrev f_fds_Table_at : FuncId := 77
abbrev f_file_Store_get : FuncId := 78
abbrev f_file_sectors : FuncId := 79
abbrev f_extent_Table_Left : FuncId := 80
abbrev f_file_disk_take : FuncId := 81
abbrev f_file_Store_bytes : FuncId := 82
abbrev f_dev_Disk_Set : FuncId := 83
abbrev f_file_disk_sector : FuncId := 84
abbrev f_fds_process_release : FuncId := 85
abbrev f_ref19_New : FuncId := 86
abbrev f_ref06_SameInts : FuncId := 87
abbrev f_ref19_Vm_Pages : FuncId := 88
abbrev f_ref19_Vm_Frame : FuncId := 89
abbrev f_ref19_Vm_Peek : FuncId := 90
abbrev f_ref19_Vm_Refs : FuncId := 91
abbrev f_ref19_Vm_Left : FuncId := 92
abbrev f_ref19_Vm_Copies : FuncId := 93
abbrev f_mem_Memory_Fork : FuncId := 94
abbrev f_ref06_Memory_Fork : FuncId := 95
abbrev f_ref19_Vm_Begin : FuncId := 96
abbrev f_ref19_Vm_End : FuncId := 97
abbrev f_ref19_Vm_Fork : FuncId := 98
abbrev f_ref19_Vm_Map : FuncId := 99
abbrev f_ref19_Vm_Unmap : FuncId := 100
abbrev f_ref19_Vm_Poke : FuncId := 101
abbrev f_law19_few : FuncId := 102
abbrev f_ref19_Vm_Fill : FuncId := 103
abbrev f_vm_Vm_drop : FuncId := 104
abbrev f_vm_Vm_alone : FuncId := 105
abbrev f_slices_Sorted_int : FuncId := 106
abbrev f_maps_Keys_vm_space_int_int : FuncId := 107
abbrev f_file_Store_sweep : FuncId := 108
abbrev f_maps_Values_map_int_file_node_int_file_node : FuncId := 109
abbrev f_slices_Sort_string_string : FuncId := 110
abbrev f_file_disk_fork : FuncId := 111
abbrev f_slices_Clone_uint32_uint32 : FuncId := 112
abbrev f_maps_clone : FuncId := 113
abbrev f_vm_Vm_next : FuncId := 114
abbrev f_mem_Memory_Zero : FuncId := 115
abbrev f_mem_Memory_Copy : FuncId := 116
abbrev f_mem_Memory_at : FuncId := 117
abbrev f_slices_pdqsortOrdered_uint8 : FuncId := 118
abbrev f_math_bits_Len : FuncId := 119
abbrev f_name_letter : FuncId := 120
abbrev f_slices_Index_fds_shared_fds_shared : FuncId := 121
abbrev f_extent_Table_List : FuncId := 122
abbrev f_extent_Table_Room : FuncId := 123
abbrev f_extent_Table_Alloc : FuncId := 124
abbrev f_dev_Disk_Sector : FuncId := 125
abbrev f_dev_Disk_has : FuncId := 126
abbrev f_extent_Table_Get : FuncId := 127
abbrev f_ref06_New : FuncId := 128
abbrev f_ref19_Vm_may : FuncId := 129
abbrev f_ref19_Vm_at : FuncId := 130
abbrev f_ref06_Memory_Byte : FuncId := 131
abbrev f_ref06_Memory_Size : FuncId := 132
abbrev f_slices_Clone_mem_frame_mem_frame : FuncId := 133
abbrev f_ref19_Vm_fresh : FuncId := 134
abbrev f_ref19_Vm_needs : FuncId := 135
abbrev f_ref19_Vm_next : FuncId := 136
abbrev f_ref06_Memory_Zero : FuncId := 137
abbrev f_ref06_Memory_Copy : FuncId := 138
abbrev f_ref06_Memory_SetByte : FuncId := 139
abbrev f_slices_Collect_int : FuncId := 140
abbrev f_slices_Sort_int_int : FuncId := 141
abbrev f_maps_Keys_vm_space_int_int_1 : FuncId := 142
abbrev f_extent_Table_Free : FuncId := 143
abbrev f_maps_Values_map_int_file_node_int_file_node_1 : FuncId := 144
abbrev f_slices_pdqsortOrdered_string : FuncId := 145
abbrev f_dev_Disk_Fork : FuncId := 146
abbrev f_extent_Table_Fork : FuncId := 147
abbrev f_slices_Index_int_int : FuncId := 148
abbrev f_slices_insertionSortOrdered_uint8 : FuncId := 149
abbrev f_slices_heapSortOrdered_uint8 : FuncId := 150
abbrev f_slices_breakPatternsOrdered_uint8 : FuncId := 151
abbrev f_slices_choosePivotOrdered_uint8 : FuncId := 152
abbrev f_slices_reverseRangeOrdered_uint8 : FuncId := 153
abbrev f_slices_partialInsertionSortOrdered_uint8 : FuncId := 154
abbrev f_cmp_Less_uint8 : FuncId := 155
abbrev f_slices_partitionEqualOrdered_uint8 : FuncId := 156
abbrev f_slices_partitionOrdered_uint8 : FuncId := 157
abbrev f_math_bits_Len32 : FuncId := 158
abbrev f_math_bits_Len64 : FuncId := 159
abbrev f_extent_list_api_Extent_values : FuncId := 160
abbrev f_extent_end : FuncId := 161
abbrev f_name_Right : FuncId := 162
abbrev f_extent_Table_meets : FuncId := 163
abbrev f_extent_Table_add : FuncId := 164
abbrev f_slices_Clone_byte_byte : FuncId := 165
abbrev f_extent_one : FuncId := 166
abbrev f_extent_list_api_Extent_find : FuncId := 167
abbrev f_extent_numbered : FuncId := 168
abbrev f_ref06_Memory_may : FuncId := 169
abbrev f_slices_AppendSeq_int_int : FuncId := 170
abbrev f_slices_pdqsortOrdered_int : FuncId := 171
abbrev f_extent_Table_own : FuncId := 172
abbrev f_extent_list_api_Extent_remove : FuncId := 173
abbrev f_slices_insertionSortOrdered_string : FuncId := 174
abbrev f_slices_heapSortOrdered_string : FuncId := 175
abbrev f_slices_breakPatternsOrdered_string : FuncId := 176
abbrev f_slices_choosePivotOrdered_string : FuncId := 177
abbrev f_slices_reverseRangeOrdered_string : FuncId := 178
abbrev f_slices_partialInsertionSortOrdered_string : FuncId := 179
abbrev f_cmp_Less_string : FuncId := 180
abbrev f_slices_partitionEqualOrdered_string : FuncId := 181
abbrev f_slices_partitionOrdered_string : FuncId := 182
abbrev f_slices_Clone_dev_sector_dev_sector : FuncId := 183
abbrev f_extent_list_api_Extent_insert : FuncId := 184
abbrev f_extent_ahead : FuncId := 185
abbrev f_slices_siftDownOrdered_uint8 : FuncId := 186
abbrev f_slices_nextPowerOfTwo : FuncId := 187
abbrev f_slices_xorshift_Next : FuncId := 188
abbrev f_slices_medianAdjacentOrdered_uint8 : FuncId := 189
abbrev f_slices_medianOrdered_uint8 : FuncId := 190
abbrev f_cmp_isNaN_uint8 : FuncId := 191
abbrev f_name_Split : FuncId := 192
abbrev f_extent_Table_meets_1 : FuncId := 193
abbrev f_extent_numbered_1 : FuncId := 194
abbrev f_slices_insertionSortOrdered_int : FuncId := 195
abbrev f_slices_heapSortOrdered_int : FuncId := 196
abbrev f_slices_breakPatternsOrdered_int : FuncId := 197
abbrev f_slices_choosePivotOrdered_int : FuncId := 198
abbrev f_slices_reverseRangeOrdered_int : FuncId := 199
abbrev f_slices_partialInsertionSortOrdered_int : FuncId := 200
abbrev f_cmp_Less_int : FuncId := 201
abbrev f_slices_partitionEqualOrdered_int : FuncId := 202
abbrev f_slices_partitionOrdered_int : FuncId := 203
abbrev f_slices_siftDownOrdered_string : FuncId := 204
abbrev f_slices_medianAdjacentOrdered_string : FuncId := 205
abbrev f_slices_medianOrdered_string : FuncId := 206
abbrev f_cmp_isNaN_string : FuncId := 207
abbrev f_slices_order2Ordered_uint8 : FuncId := 208
abbrev f_strings_HasPrefix : FuncId := 209
abbrev f_strings_HasSuffix : FuncId := 210
abbrev f_name_labels : FuncId := 211
abbrev f_slices_siftDownOrdered_int : FuncId := 212
abbrev f_slices_medianAdjacentOrdered_int : FuncId := 213
abbrev f_slices_medianOrdered_int : FuncId := 214
abbrev f_cmp_isNaN_int : FuncId := 215
abbrev f_slices_order2Ordered_string : FuncId := 216
abbrev f_internal_stringslite_HasPrefix : FuncId := 217
abbrev f_internal_stringslite_HasSuffix : FuncId := 218
abbrev f_name_labels_1 : FuncId := 219
abbrev f_strings_Cut : FuncId := 220
abbrev f_slices_order2Ordered_int : FuncId := 221
abbrev f_internal_stringslite_Cut : FuncId := 222
abbrev f_internal_stringslite_Index : FuncId := 223
abbrev f_internal_stringslite_IndexByte : FuncId := 224
abbrev f_internal_bytealg_IndexString : FuncId := 225
abbrev f_internal_bytealg_Cutover : FuncId := 226
abbrev f_internal_bytealg_IndexRabinKarp_string : FuncId := 227
abbrev f_internal_bytealg_IndexByteString : FuncId := 228
abbrev f_internal_bytealg_hashStr_string : FuncId := 229
abbrev f_runtime_boundsError_Error : FuncId := 230
abbrev f_runtime_boundsError_RuntimeError : FuncId := 231
abbrev f_runtime_errorString_Error : FuncId := 232
abbrev f_runtime_errorString_RuntimeError : FuncId := 233
abbrev f_runtime_plainError_Error : FuncId := 234
abbrev f_runtime_plainError_RuntimeError : FuncId := 235
abbrev f_runtime_errorAddressString_Error : FuncId := 236
abbrev f_runtime_errorAddressString_RuntimeError : FuncId := 237
abbrev f_runtime_TypeAssertionError_Error : FuncId := 238
abbrev f_runtime_TypeAssertionError_RuntimeError : FuncId := 239
abbrev f_runtime_PanicNilError_Error : FuncId := 240
abbrev f_runtime_PanicNilError_RuntimeError : FuncId := 241
abbrev f_internal_abi_Type_Align : FuncId := 242
abbrev f_internal_runtime_maps_unhashableTypeError_Error : FuncId := 243
abbrev f_internal_runtime_maps_unhashableTypeError_RuntimeError : FuncId := 244
abbrev f_cachereg_Registry_Written : FuncId := 245
abbrev f_fds_Table_Room : FuncId := 246
abbrev f_dev_Disk_Size : FuncId := 247
abbrev f_internal_abi_Kind_String : FuncId := 248
abbrev T_x : TypeId := 0
abbrev T_fn : TypeId := 1
abbrev T_int64 : TypeId := 2
abbrev T_int : TypeId := 3
abbrev T_bool : TypeId := 4
abbrev T_uint8 : TypeId := 5
abbrev T_N_abi_BoundsErrorCode : TypeId := 6
abbrev T_struct_x_int64_y_int_signed_bool_code_ab : TypeId := 7
abbrev T_N_runtime_boundsError : TypeId := 8
abbrev T_string : TypeId := 9
abbrev T_N_runtime_errorString : TypeId := 10
abbrev T_N_runtime_plainError : TypeId := 11
abbrev T_uintptr : TypeId := 12
abbrev T_struct_msg_string_addr_uintptr : TypeId := 13
abbrev T_N_runtime_errorAddressString : TypeId := 14
abbrev T_p_runtime_TypeAssertionError : TypeId := 15
abbrev T_p_runtime_PanicNilError : TypeId := 16
abbrev T_p_abi_Type : TypeId := 17
abbrev T_struct_typ_p_abi_Type : TypeId := 18
abbrev T_N_maps_unhashableTypeError : TypeId := 19
abbrev T_interface : TypeId := 20
abbrev T_int32 : TypeId := 21
abbrev T_6_uint8 : TypeId := 22
abbrev T_p_vm_Vm : TypeId := 23
abbrev T_fn_int_p_vm_Vm : TypeId := 24
abbrev T_N_api_Errno : TypeId := 25
abbrev T_fn_int_api_Errno : TypeId := 26
abbrev T_fn_int_int_api_Errno : TypeId := 27
abbrev T_fn_int_int_uint8_api_Errno : TypeId := 28
abbrev T_uint8_api_Errno : TypeId := 29
abbrev T_fn_int_int_uint8_api_Errno_v1 : TypeId := 30
abbrev T_fn_int : TypeId := 31
abbrev T_fn_uint8_6_uint8_bool : TypeId := 32
abbrev T_s_2_uint8 : TypeId := 33
abbrev T_p_cachereg_Registry : TypeId := 34
abbrev T_fn_p_cachereg_Registry : TypeId := 35
abbrev T_2_uint8 : TypeId := 36
abbrev T_fn_uint8_int_api_Errno : TypeId := 37
abbrev T_fn_uint8_uint8_api_Errno : TypeId := 38
abbrev T_fn_uint8_int : TypeId := 39
abbrev T_uint8_bool : TypeId := 40
abbrev T_fn_int_uint8_bool : TypeId := 41
abbrev T_int_bool : TypeId := 42
abbrev T_fn_uint8_int_bool : TypeId := 43
abbrev T_s_uint8 : TypeId := 44
abbrev T_fn_s_uint8 : TypeId := 45
abbrev T_fn_s_2_uint8_bool : TypeId := 46
abbrev T_s_string : TypeId := 47
abbrev T_p_file_Store : TypeId := 48
abbrev T_fn_int_p_file_Store : TypeId := 49
abbrev T_p_fds_Table : TypeId := 50
abbrev T_fn_p_fds_Table : TypeId := 51
abbrev T_int_api_Errno : TypeId := 52
abbrev T_fn_string_int_api_Errno : TypeId := 53
abbrev T_fn_int_api_Open_int_api_Errno : TypeId := 54
abbrev T_N_api_OpenKind : TypeId := 55
abbrev T_struct_Kind_api_OpenKind_Ref_int_Pos_int : TypeId := 56
abbrev T_N_api_Open : TypeId := 57
abbrev T_fn_int_int_int_api_Errno : TypeId := 58
abbrev T_api_Open_api_Errno : TypeId := 59
abbrev T_fn_int_int_api_Open_api_Errno : TypeId := 60
abbrev T_fn_int_int_string_api_Errno : TypeId := 61
abbrev T_fn_int_int_int_api_Errno_v1 : TypeId := 62
abbrev T_string_api_Errno : TypeId := 63
abbrev T_fn_int_int_int_string_api_Errno : TypeId := 64
abbrev T_api_Open_bool_api_Errno : TypeId := 65
abbrev T_fn_int_int_api_Open_bool_api_Errno : TypeId := 66
abbrev T_fn_s_string_bool : TypeId := 67
abbrev T_s_law19_Deed : TypeId := 68
abbrev T_p_ref19_Vm : TypeId := 69
abbrev T_p_vm_Vm_p_ref19_Vm_bool : TypeId := 70
abbrev T_fn_uint8_s_law19_Deed_p_vm_Vm_p_ref19_Vm : TypeId := 71
abbrev T_fn_bool : TypeId := 72
abbrev T_fn_p_vm_Vm_p_ref19_Vm_bool : TypeId := 73
abbrev T_fn_uint8_s_law19_Deed_bool : TypeId := 74
abbrev T_fn_p_vm_Vm : TypeId := 75
abbrev T_fn_p_ref19_Vm : TypeId := 76
abbrev T_fn_p_vm_Vm_p_ref19_Vm_law19_Deed_bool : TypeId := 77
abbrev T_struct_Kind_int_P_int_Q_int_N_int_C_uint : TypeId := 78
abbrev T_N_law19_Deed : TypeId := 79
abbrev T_fn_uint8_s_law19_Deed_s_law19_Deed_bool : TypeId := 80
abbrev T_fn_int_int_int_bool : TypeId := 81
abbrev T_fn_int_int_uint8_api_Errno_v2 : TypeId := 82
abbrev T_s_int : TypeId := 83
abbrev T_fn_int_s_int : TypeId := 84
abbrev T_fn_int_int : TypeId := 85
abbrev T_fn_law19_Deed_int_bool : TypeId := 86
abbrev T_struct_Kind_int_N_int_Off_int_On_bool_S_ : TypeId := 87
abbrev T_N_law22_Deed : TypeId := 88
abbrev T_fn_string_int_bool : TypeId := 89
abbrev T_fn_int_int_api_Errno_v1 : TypeId := 90
abbrev T_fn_string_api_Errno : TypeId := 91
abbrev T_fn_int_bool_api_Errno : TypeId := 92
abbrev T_fn_s_string : TypeId := 93
abbrev T_fn_p_file_Store : TypeId := 94
abbrev T_fn_law22_Deed_int_bool : TypeId := 95
abbrev T_p_mem_Memory : TypeId := 96
abbrev T_fn_int_p_mem_Memory : TypeId := 97
abbrev T_m_int_vm_space : TypeId := 98
abbrev T_64_int : TypeId := 99
abbrev T_struct_memory_p_mem_Memory_refs_64_int_s : TypeId := 100
abbrev T_N_vm_Vm : TypeId := 101
abbrev T_m_int_int : TypeId := 102
abbrev T_N_vm_space : TypeId := 103
abbrev T_vm_space_bool_api_Errno : TypeId := 104
abbrev T_fn_int_int_vm_space_bool_api_Errno : TypeId := 105
abbrev T_vm_space_api_Errno : TypeId := 106
abbrev T_fn_int_vm_space_api_Errno : TypeId := 107
abbrev T_fn_vm_space_vm_space : TypeId := 108
abbrev T_fn_int_int_vm_space_api_Errno : TypeId := 109
abbrev T_fn_vm_space_int_api_Errno : TypeId := 110
abbrev T_m_uint8_int : TypeId := 111
abbrev T_m_int_uint8 : TypeId := 112
abbrev T_m_uint8_bool : TypeId := 113
abbrev T_struct_sectors_m_uint8_int_frames_m_int_ : TypeId := 114
abbrev T_N_cachereg_Registry : TypeId := 115
abbrev T_fn_uint8_bool_api_Errno : TypeId := 116
abbrev T_fn_uint8_int_bool_v1 : TypeId := 117
abbrev T_fn_s_uint8_v1 : TypeId := 118
abbrev T_p_dev_Disk : TypeId := 119
abbrev T_fn_int_p_dev_Disk : TypeId := 120
abbrev T_p_extent_Table : TypeId := 121
abbrev T_fn_int_p_extent_Table : TypeId := 122
abbrev T_struct_p_dev_Disk_taken_p_extent_Table : TypeId := 123
abbrev T_N_file_disk : TypeId := 124
abbrev T_m_int_p_file_node : TypeId := 125
abbrev T_struct_file_disk_nodes_m_int_p_file_node : TypeId := 126
abbrev T_N_file_Store : TypeId := 127
abbrev T_p_fds_process : TypeId := 128
abbrev T_6_p_fds_process : TypeId := 129
abbrev T_struct_processes_6_p_fds_process : TypeId := 130
abbrev T_N_fds_Table : TypeId := 131
abbrev T_fn_string_bool : TypeId := 132
abbrev T_p_file_node : TypeId := 133
abbrev T_s_uint32 : TypeId := 134
abbrev T_struct_name_string_open_int_size_int_ext : TypeId := 135
abbrev T_N_file_node : TypeId := 136
abbrev T_p_fds_shared : TypeId := 137
abbrev T_8_p_fds_shared : TypeId := 138
abbrev T_N_fds_process : TypeId := 139
abbrev T_p_fds_process_api_Errno : TypeId := 140
abbrev T_fn_int_p_fds_process_api_Errno : TypeId := 141
abbrev T_fn_p_fds_shared_int_api_Errno : TypeId := 142
abbrev T_struct_api_Open_refs_int : TypeId := 143
abbrev T_N_fds_shared : TypeId := 144
abbrev T_p_fds_process_p_fds_shared_api_Errno : TypeId := 145
abbrev T_fn_int_int_p_fds_process_p_fds_shared_ap : TypeId := 146
abbrev T_p_file_node_api_Errno : TypeId := 147
abbrev T_fn_int_p_file_node_api_Errno : TypeId := 148
abbrev T_uint32 : TypeId := 149
abbrev T_fn_uint32 : TypeId := 150
abbrev T_fn_p_file_node_s_uint8 : TypeId := 151
abbrev T_fn_int_s_uint8_api_Errno : TypeId := 152
abbrev T_fn_uint32_int : TypeId := 153
abbrev T_fn_int_bool : TypeId := 154
abbrev T_fn_int_p_ref19_Vm : TypeId := 155
abbrev T_fn_s_int_s_int_bool : TypeId := 156
abbrev T_fn_p_mem_Memory : TypeId := 157
abbrev T_p_ref06_Memory : TypeId := 158
abbrev T_6_bool : TypeId := 159
abbrev T_struct_mapped_bool_frame_int : TypeId := 160
abbrev T_N_ref19_page : TypeId := 161
abbrev T_16_ref19_page : TypeId := 162
abbrev T_6_16_ref19_page : TypeId := 163
abbrev T_struct_m_p_ref06_Memory_has_6_bool_p_6_1 : TypeId := 164
abbrev T_N_ref19_Vm : TypeId := 165
abbrev T_fn_p_ref06_Memory : TypeId := 166
abbrev T_fn_s_uint8_s_uint8 : TypeId := 167
abbrev T_fn_int_int_s_uint8_api_Errno : TypeId := 168
abbrev T_fn_vm_space_int : TypeId := 169
abbrev T_fn_iter_Seq_int_s_int : TypeId := 170
abbrev T_fn_fn_int_bool : TypeId := 171
abbrev T_N_iter_Seq_int : TypeId := 172
abbrev T_fn_vm_space_iter_Seq_int : TypeId := 173
abbrev T_fn_int_v1 : TypeId := 174
abbrev T_fn_fn_p_file_node_bool : TypeId := 175
abbrev T_N_iter_Seq_p_file_node : TypeId := 176
abbrev T_fn_m_int_p_file_node_iter_Seq_p_file_nod : TypeId := 177
abbrev T_fn_s_string_v1 : TypeId := 178
abbrev T_fn_file_disk : TypeId := 179
abbrev T_fn_s_uint32_s_uint32 : TypeId := 180
abbrev T_s_mem_frame : TypeId := 181
abbrev T_struct_frames_s_mem_frame : TypeId := 182
abbrev T_N_mem_Memory : TypeId := 183
abbrev T_vm_space_bool : TypeId := 184
abbrev T_fn_interface_interface : TypeId := 185
abbrev T_fn_int_bool_v1 : TypeId := 186
abbrev T_s_uint8_api_Errno : TypeId := 187
abbrev T_fn_int_int_int_s_uint8_api_Errno : TypeId := 188
abbrev T_fn_s_uint8_int_int_int : TypeId := 189
abbrev T_fn_uint_int : TypeId := 190
abbrev T_uint : TypeId := 191
abbrev T_s_dev_sector : TypeId := 192
abbrev T_s_api_Request : TypeId := 193
abbrev T_struct_waiting_s_api_Request_last_uint32 : TypeId := 194
abbrev T_N_dev_queue : TypeId := 195
abbrev T_struct_dev_queue_sectors_s_dev_sector : TypeId := 196
abbrev T_N_dev_Disk : TypeId := 197
abbrev T_p_extent_link_api_Extent : TypeId := 198
abbrev T_struct_first_p_extent_link_api_Extent_n_ : TypeId := 199
abbrev T_N_extent_list_api_Extent : TypeId := 200
abbrev T_struct_sectors_int_all_extent_list_api_E : TypeId := 201
abbrev T_N_extent_Table : TypeId := 202
abbrev T_fn_int32_bool : TypeId := 203
abbrev T_fn_s_p_fds_shared_p_fds_shared_int : TypeId := 204
abbrev T_s_p_fds_shared : TypeId := 205
abbrev T_p_file_node_bool : TypeId := 206
abbrev T_s_api_Extent : TypeId := 207
abbrev T_fn_s_api_Extent : TypeId := 208
abbrev T_struct_Name_string_Rights_uint8 : TypeId := 209
abbrev T_N_api_Cap : TypeId := 210
abbrev T_struct_Id_uint32_Start_int_Len_int_Owner : TypeId := 211
abbrev T_N_api_Extent : TypeId := 212
abbrev T_uint32_api_Errno : TypeId := 213
abbrev T_fn_uint8_int_int_api_Cap_uint32_api_Errn : TypeId := 214
abbrev T_fn_int_s_uint8_api_Errno_v1 : TypeId := 215
abbrev T_32_uint8 : TypeId := 216
abbrev T_N_dev_sector : TypeId := 217
abbrev T_api_Extent_bool : TypeId := 218
abbrev T_fn_uint32_api_Extent_bool : TypeId := 219
abbrev T_fn_int_p_ref06_Memory : TypeId := 220
abbrev T_fn_s_mem_frame_s_mem_frame : TypeId := 221
abbrev T_N_mem_frame : TypeId := 222
abbrev T_struct_b_s_uint8 : TypeId := 223
abbrev T_N_ref06_Memory : TypeId := 224
abbrev T_fn_ref19_page_bool : TypeId := 225
abbrev T_fn_s_int : TypeId := 226
abbrev T_fn_uint8_uint32_api_Errno : TypeId := 227
abbrev T_fn_p_file_node_bool : TypeId := 228
abbrev T_fn_s_string_int_int_int : TypeId := 229
abbrev T_fn_p_dev_Disk : TypeId := 230
abbrev T_fn_p_extent_Table : TypeId := 231
abbrev T_fn_s_int_int_int : TypeId := 232
abbrev T_fn_s_uint8_int_int : TypeId := 233
abbrev T_N_slices_sortedHint : TypeId := 234
abbrev T_int_slices_sortedHint : TypeId := 235
abbrev T_fn_s_uint8_int_int_int_slices_sortedHint : TypeId := 236
abbrev T_fn_s_uint8_int_int_bool : TypeId := 237
abbrev T_fn_uint8_uint8_bool : TypeId := 238
abbrev T_fn_s_uint8_int_int_int_int : TypeId := 239
abbrev T_fn_s_uint8_int_int_int_int_bool : TypeId := 240
abbrev T_fn_uint64_int : TypeId := 241
abbrev T_uint64 : TypeId := 242
abbrev T_fn_api_Extent_int : TypeId := 243
abbrev T_fn_api_Cap_bool : TypeId := 244
abbrev T_p_api_Extent : TypeId := 245
abbrev T_fn_int_int_p_api_Extent : TypeId := 246
abbrev T_fn_api_Extent_uint32 : TypeId := 247
abbrev T_fn_p_api_Extent_api_Extent_bool : TypeId := 248
abbrev T_fn_fn_api_Extent_bool_p_api_Extent : TypeId := 249
abbrev T_fn_api_Extent_bool : TypeId := 250
abbrev T_fn_uint32_fn_api_Extent_bool : TypeId := 251
abbrev T_fn_s_int_iter_Seq_int_s_int : TypeId := 252
abbrev T_fn_s_int_int_int_int : TypeId := 253
abbrev T_p_api_Extent_api_Errno : TypeId := 254
abbrev T_fn_uint8_uint32_p_api_Extent_api_Errno : TypeId := 255
abbrev T_fn_fn_api_Extent_bool : TypeId := 256
abbrev T_fn_s_string_int_int : TypeId := 257
abbrev T_fn_s_string_int_int_int_slices_sortedHin : TypeId := 258
abbrev T_fn_s_string_int_int_bool : TypeId := 259
abbrev T_fn_string_string_bool : TypeId := 260
abbrev T_fn_s_string_int_int_int_int : TypeId := 261
abbrev T_fn_s_string_int_int_int_int_bool : TypeId := 262
abbrev T_fn_s_dev_sector_s_dev_sector : TypeId := 263
abbrev T_fn_api_Extent_fn_api_Extent_api_Extent_b : TypeId := 264
abbrev T_fn_api_Extent_api_Extent_bool : TypeId := 265
abbrev T_N_slices_xorshift : TypeId := 266
abbrev T_fn_int_uint : TypeId := 267
abbrev T_fn_uint64 : TypeId := 268
abbrev T_fn_s_uint8_int_p_int_int : TypeId := 269
abbrev T_p_int : TypeId := 270
abbrev T_fn_s_uint8_int_int_int_p_int_int : TypeId := 271
abbrev T_fn_uint8_bool : TypeId := 272
abbrev T_p_extent_list_api_Extent : TypeId := 273
abbrev T_struct_value_api_Extent_next_p_extent_li : TypeId := 274
abbrev T_N_extent_link_api_Extent : TypeId := 275
abbrev T_s_string_api_Errno : TypeId := 276
abbrev T_fn_string_s_string_api_Errno : TypeId := 277
abbrev T_fn_s_int_int_int_v1 : TypeId := 278
abbrev T_fn_s_int_int_int_int_slices_sortedHint : TypeId := 279
abbrev T_fn_s_int_int_int_bool : TypeId := 280
abbrev T_fn_int_int_bool : TypeId := 281
abbrev T_fn_s_int_int_int_int_int : TypeId := 282
abbrev T_fn_s_int_int_int_int_int_bool : TypeId := 283
abbrev T_p_p_extent_link_api_Extent : TypeId := 284
abbrev T_fn_s_string_int_p_int_int : TypeId := 285
abbrev T_fn_s_string_int_int_int_p_int_int : TypeId := 286
abbrev T_p_slices_xorshift : TypeId := 287
abbrev T_int_int : TypeId := 288
abbrev T_fn_s_uint8_int_int_p_int_int_int : TypeId := 289
abbrev T_fn_fn_string_bool : TypeId := 290
abbrev T_N_iter_Seq_string : TypeId := 291
abbrev T_fn_string_iter_Seq_string : TypeId := 292
abbrev T_fn_s_int_int_p_int_int : TypeId := 293
abbrev T_fn_s_int_int_int_int_p_int_int : TypeId := 294
abbrev T_fn_s_string_int_int_p_int_int_int : TypeId := 295
abbrev T_string_string_bool : TypeId := 296
abbrev T_fn_string_string_string_string_bool : TypeId := 297
abbrev T_fn_s_int_int_int_p_int_int_int : TypeId := 298
abbrev T_fn_string_string_int : TypeId := 299
abbrev T_fn_string_uint8_int : TypeId := 300
abbrev T_uint32_uint32 : TypeId := 301
abbrev T_fn_string_uint32_uint32 : TypeId := 302
abbrev T_fn_string : TypeId := 303
abbrev T_struct_interface_p_abi_Type_concrete_p_a : TypeId := 304
abbrev T_N_runtime_TypeAssertionError : TypeId := 305
abbrev T_0_p_runtime_PanicNilError : TypeId := 306
abbrev T_struct_0_p_runtime_PanicNilError : TypeId := 307
abbrev T_N_runtime_PanicNilError : TypeId := 308
abbrev T_N_abi_TFlag : TypeId := 309
abbrev T_N_abi_Kind : TypeId := 310
abbrev T_fn_unsafe_Pointer_unsafe_Pointer_bool : TypeId := 311
abbrev T_p_uint8 : TypeId := 312
abbrev T_N_abi_NameOff : TypeId := 313
abbrev T_N_abi_TypeOff : TypeId := 314
abbrev T_struct_Size_uintptr_PtrBytes_uintptr_Has : TypeId := 315
abbrev T_N_abi_Type : TypeId := 316
abbrev T_struct_Id_uint32_Write_bool_Sector_int_F : TypeId := 317
abbrev T_N_api_Request : TypeId := 318
abbrev T_unsafe_Pointer : TypeId := 319
end Go.Proofs.Ytmdhfmljgjnggaa
/- Opening a law's arguments: rows and structs of integers and slices. No condition. -/
namespace Go.Proofs.Ytmdhfmljgjnggaa
open Go.ChangeShapes Go.WideShapes Go.ChangeAt Go.RowKit
set_option linter.constructorNameAsVariable false
theorem own : ownKnob Try.prog.godebug = none := by kernel_rfl
theorem laidOut : laidOutB Try.prog = true := by kernel_rfl
theorem und3 : Try.prog.underlying T_int = some (.int .i64) := by kernel_rfl
theorem und5 : Try.prog.underlying T_uint8 = some (.int .u8) := by kernel_rfl
theorem und4 : Try.prog.underlying 4 = some .bool := by kernel_rfl
theorem below_of {h h' : Hp} {w w' : World} (hw : w.heap = h) (hw' : w'.heap = h') (hs : Same w w') (he : Ext h h') : Go.RowKit.Below w.heap.size w w' :=
  ⟨hs.2.1, hs.1, hs.2.2, by rw [hw, hw']; exact he.size, fun k hk => by rw [hw'] ; rw [hw] at hk ⊢; exact he.frame k hk (by simp)⟩
theorem calls_below {f : FuncId} {args : Array Value} {w : World} (hc : CallsH Try.prog f args w.heap fun r h' => r = .bool true ∧ Ext w.heap h') :
    Calls Try.prog f args w fun e w' => e = .returned (.bool true) ∧ Go.RowKit.Below w.heap.size w w' := by
  refine (hc.2 w rfl).mono ?_
  rintro e w' ⟨v, rfl, ⟨rfl, he⟩, hs⟩
  exact ⟨rfl, below_of rfl rfl hs he⟩
theorem cell_int {P : Program} {w : World} {base : Nat} {e : TypeId} {k : IntKind} {c : Value} (he : P.underlying e = some (.int k)) (h : Cell.okWide P w .any base e c) : ∃ n, c = .int k n := by
  have hv : Value.okWide P w .any base e c := by simp only [Value.okWide, he]; exact h
  exact okWide_int he hv
theorem cell_slice {P : Program} {w : World} {base : Nat} {e el : TypeId} {c : Value} (he : P.underlying e = some (.slice el)) (h : Cell.okWide P w .any base e c) : ∃ p n k, c = .slice p n k := by
  have hv : Value.okWide P w .any base e c := by simp only [Value.okWide, he]; exact h
  exact okWide_slice he hv
theorem ints_of {k : IntKind} : ∀ {cs : List Value}, (∀ c ∈ cs, ∃ n, c = .int k n) → ∃ ns : List Int, cs = ns.map (.int k) := by
  intro cs
  induction cs with
  | nil => intro _; exact ⟨[], rfl⟩
  | cons c cs ih =>
    intro hc
    obtain ⟨n, rfl⟩ := hc c (by simp)
    obtain ⟨ns, rfl⟩ := ih fun c hm => hc c (by simp [hm])
    exact ⟨n :: ns, rfl⟩
theorem arr_row {P : Program} {w : World} {base : Nat} {t e : TypeId} {k : IntKind} {n : Nat} {v : Value} (hu : P.underlying t = some (.array n e)) (hct : P.cellTypes P.depth t = some (List.replicate n e)) (hc : P.cellsOf t = n) (he : P.underlying e = some (.int k))
    (h : Value.okWide P w .any base t v) : ∃ ns : List Int, ns.length = n ∧ v = .agg ⟨ns.map (.int k)⟩ := by
  simp only [Value.okWide, hu, hc] at h
  obtain ⟨cs, rfl, hsz, ts, hts, _, hall⟩ := h
  rw [hct] at hts
  injection hts with hts
  subst hts
  obtain ⟨ns, hns⟩ := ints_of (k := k) (cs := cs.toList) fun c hm => by
    obtain ⟨i, hi⟩ := List.getElem?_of_mem hm
    obtain ⟨u, hu2, hok⟩ := hall i c (by rw [← Array.getElem?_toList]; exact hi)
    have hu3 : u = e := List.eq_of_mem_replicate (List.mem_of_getElem? hu2)
    subst hu3
    exact cell_int he hok
  have hl : ns.length = n := by
    have := congrArg List.length hns
    simp only [Array.length_toList, List.length_map] at this
    omega
  exact ⟨ns, hl, congrArg Value.agg (Array.ext' hns)⟩
/-- A struct's cells, each of its own type. -/
theorem struct_cells {P : Program} {w : World} {base : Nat} {t : TypeId} {fs : Array Field} {ts : List TypeId} {v : Value} (hu : P.underlying t = some (.struct fs)) (hct : P.cellTypes P.depth t = some ts) (hc : P.cellsOf t = ts.length) (h : Value.okWide P w .any base t v) :
    ∃ cs : List Value, v = .agg ⟨cs⟩ ∧ cs.length = ts.length ∧ ∀ i c, cs[i]? = some c → ∃ u, ts[i % ts.length]? = some u ∧ Cell.okWide P w .any base u c := by
  simp only [Value.okWide, hu, hc] at h
  obtain ⟨cs, rfl, hsz, ts', hts, _, hall⟩ := h
  rw [hct] at hts
  injection hts with hts
  subst hts
  exact ⟨cs.toList, rfl, by simpa using hsz, fun i c hi => hall i c (by rw [← Array.getElem?_toList]; exact hi)⟩
theorem six' {α : Type} {ns : List α} (h : ns.length = 6) : ∃ b0 b1 b2 b3 b4 b5 : α, ns = [b0, b1, b2, b3, b4, b5] := by
  match ns, h with
  | [b0, b1, b2, b3, b4, b5], _ => exact ⟨b0, b1, b2, b3, b4, b5, rfl⟩
theorem deed_open {P : Program} {w : World} {base : Nat} {t ti tb ts el : TypeId} {fs : Array Field} {v : Value} (hu : P.underlying t = some (.struct fs)) (hct : P.cellTypes P.depth t = some [ti, ti, ti, ti, tb, ts]) (hc : P.cellsOf t = 6)
    (hi : P.underlying ti = some (.int .i64)) (hb : P.underlying tb = some (.int .u8)) (hs : P.underlying ts = some (.slice el)) (h : Value.okWide P w .any base t v) :
    ∃ (a b c d e : Int) (p : Option Addr) (l k : Nat), v = .agg #[.int .i64 a, .int .i64 b, .int .i64 c, .int .i64 d, .int .u8 e, .slice p l k] := by
  obtain ⟨cs, rfl, hl, hall⟩ := struct_cells hu hct hc h
  obtain ⟨c0, c1, c2, c3, c4, c5, rfl⟩ := six' hl
  have g : ∀ i u c, [c0, c1, c2, c3, c4, c5][i]? = some c → [ti, ti, ti, ti, tb, ts][i % 6]? = some u → Cell.okWide P w .any base u c := fun i u c h1 h2 => by
    obtain ⟨u', h3, h4⟩ := hall i c h1
    rw [show [ti, ti, ti, ti, tb, ts].length = 6 from rfl, h2] at h3
    cases h3
    exact h4
  obtain ⟨a, rfl⟩ := cell_int hi (g 0 ti c0 rfl rfl)
  obtain ⟨b, rfl⟩ := cell_int hi (g 1 ti c1 rfl rfl)
  obtain ⟨c, rfl⟩ := cell_int hi (g 2 ti c2 rfl rfl)
  obtain ⟨d, rfl⟩ := cell_int hi (g 3 ti c3 rfl rfl)
  obtain ⟨e, rfl⟩ := cell_int hb (g 4 tb c4 rfl rfl)
  obtain ⟨p, l, k, rfl⟩ := cell_slice hs (g 5 ts c5 rfl rfl)
  exact ⟨a, b, c, d, e, p, l, k, rfl⟩
end Go.Proofs.Ytmdhfmljgjnggaa
/- Cells that are read alone: what a slice of the caller's holds, in blocks below a mark. No condition. -/
namespace Go.Proofs.Ytmdhfmljgjnggaa
theorem Addr.add_add (a : Addr) (x y : Nat) : (a.add x).add y = a.add (x + y) := by
  unfold Addr.add
  by_cases hx : x = 0
  · subst hx; simp
  · by_cases hy : y = 0
    · subst hy; simp
    · rw [if_neg hx, if_neg hy, if_neg (by omega), Nat.add_assoc]
theorem Addr.add_block (a : Addr) (n : Nat) : (a.add n).block = a.block := by
  unfold Addr.add; split <;> rfl
theorem cellAt_same {h h' : Hp} {a : Addr} (he : h'[a.block]? = h[a.block]?) : cellAt h' a = cellAt h a := by
  unfold cellAt; rw [he]
theorem cellAt_lt {h : Hp} {a : Addr} {v : Value} (hc : cellAt h a = some v) : a.block < h.size := by
  unfold cellAt at hc
  cases hb : h[a.block]? with
  | none => rw [hb] at hc; cases hc
  | some o => exact lt_of_at hb
/-- Blocks below B are as they were. -/
def Low (B : Nat) (h h' : Hp) : Prop := ∀ q, q < B → h'[q]? = h[q]?
theorem Low.refl (B : Nat) (h : Hp) : Low B h h := fun _ _ => rfl
theorem Low.trans {B : Nat} {h h1 h2 : Hp} (a : Low B h h1) (b : Low B h1 h2) : Low B h h2 := fun q hq => (b q hq).trans (a q hq)
theorem Low.step {B : Nat} {h h' : Hp} {F F' : List Nat} (st : Step h h' F F') (hB : B ≤ h.size) (hF : ∀ q ∈ F, B ≤ q) : Low B h h' := fun q hq => st.frame q (by omega) fun hf => by have := hF q hf; omega
/-- What stands from p on, in a block below B. -/
def RdAt (h : Hp) (p : Option Addr) (vs : List Value) (B : Nat) : Prop := ∀ i v, vs[i]? = some v → ∃ a, p = some a ∧ a.block < B ∧ cellAt h (a.add i) = some v
theorem RdAt.low {h h' : Hp} {p : Option Addr} {vs : List Value} {B : Nat} (hr : RdAt h p vs B) (hl : Low B h h') : RdAt h' p vs B := by
  intro i v hv
  obtain ⟨a, h1, h2, h3⟩ := hr i v hv
  exact ⟨a, h1, h2, by rw [cellAt_same (hl _ (by rw [Addr.add_block]; exact h2))]; exact h3⟩
theorem RdAt.take {h : Hp} {p : Option Addr} {vs : List Value} {B : Nat} (hr : RdAt h p vs B) (n : Nat) : RdAt h p (vs.take n) B := by
  intro i v hv
  rw [List.getElem?_take] at hv
  split at hv
  · exact hr i v hv
  · cases hv
theorem SlAt.cell {h : Hp} {el : TypeId} {p : Option Addr} {n c : Nat} {vs : List Value} {G : List Nat} (hs : SlAt h el 1 p n c vs G) {i : Nat} (hi : i < n) : ∃ a v, p = some a ∧ vs[i]? = some v ∧ cellAt h (a.add (i * 1)) = some v ∧ a.block ∈ G := by
  have hl := hs.len
  rcases hs.is with ⟨hp0, hc0, _⟩ | ⟨b, o, cs, hp1, hG1, hb2, hle, htk⟩
  · have := hs.le; omega
  · have hvi : i < vs.length := by omega
    refine ⟨_, vs[i], hp1, List.getElem?_eq_getElem hvi, ?_, by rw [hG1]; simp⟩
    rw [Addr.add_mk, cellAt_cells hb2]
    have h5 := congrArg (fun x => x[i]?) htk
    simp only [List.getElem?_take, List.getElem?_eq_getElem hvi, List.getElem?_drop] at h5
    rw [if_pos (by omega)] at h5
    rw [← Array.getElem?_toList, show o + i * 1 = o + i by omega]
    exact h5
theorem SlAt.rd {h : Hp} {el : TypeId} {p : Option Addr} {n c : Nat} {vs : List Value} {G : List Nat} {B : Nat} (hs : SlAt h el 1 p n c vs G) (hG : ∀ q ∈ G, q < B) : RdAt h p vs B := by
  intro i v hv
  have hi : i < vs.length := (List.getElem?_eq_some_iff.1 hv).1
  have hl := hs.len
  obtain ⟨a, u, h1, h2, h3, h4⟩ := hs.cell (i := i) (by omega)
  rw [h2] at hv; cases hv
  exact ⟨a, h1, hG _ h4, by rw [Nat.mul_one] at h3; exact h3⟩
end Go.Proofs.Ytmdhfmljgjnggaa
/- Opening a law's arguments through the reading of its data: integers, texts, slices, structs. No condition. -/
namespace Go.Proofs.Ytmdhfmljgjnggaa
set_option linter.constructorNameAsVariable false
section
variable {H : Type} {enc : TypeId × Value → H} {P : Program} {w : World} {spare : Nat → Bool} {held : Bool} {t e : TypeId} {fuel : Nat} {cs : List Value} {x : DataW H × List MemPlace}
/-- A datum is read off these cells. -/
def Reads (enc : TypeId × Value → H) (P : Program) (w : World) (spare : Nat → Bool) (held : Bool) (t : TypeId) (cs : List Value) : Prop := ∃ fuel x, DataW.trod enc P w 0 spare held fuel t cs = some x
theorem mapM_some {α β : Type} {f : α → Option β} : ∀ {l : List α} {r : List β}, l.mapM f = some r → ∀ a ∈ l, ∃ b, f a = some b := by
  intro l
  induction l with
  | nil => intro r _ a ha; cases ha
  | cons y l ih =>
    intro r h a ha
    rw [List.mapM_cons] at h
    cases hy : f y with
    | none => rw [hy] at h; cases h
    | some b =>
      rw [hy] at h
      cases hl : l.mapM f with
      | none => rw [hl] at h; cases h
      | some bs =>
        rcases List.mem_cons.1 ha with rfl | ha
        · exact ⟨b, hy⟩
        · exact ih hl a ha
theorem mapM_get {α β : Type} {f : α → Option β} : ∀ {l : List α} {r : List β}, l.mapM f = some r → r.length = l.length ∧ ∀ (i : Nat) (a : α), l[i]? = some a → ∃ b, f a = some b ∧ r[i]? = some b := by
  intro l
  induction l with
  | nil => intro r h; cases h; exact ⟨rfl, fun i a ha => by simp at ha⟩
  | cons y l ih =>
    intro r h
    rw [List.mapM_cons] at h
    cases hy : f y with
    | none => rw [hy] at h; cases h
    | some b =>
      rw [hy] at h
      cases hl : l.mapM f with
      | none => rw [hl] at h; cases h
      | some bs =>
        rw [hl] at h
        obtain rfl : b :: bs = r := by simpa using h
        obtain ⟨i1, i2⟩ := ih hl
        refine ⟨by simp [i1], fun i a ha => ?_⟩
        cases i with
        | zero => simp only [List.getElem?_cons_zero, Option.some.injEq] at ha; subst ha; exact ⟨b, hy, rfl⟩
        | succ i => simp only [List.getElem?_cons_succ] at ha ⊢; exact i2 i a ha
theorem reads_int {k : IntKind} (hu : P.underlying t = some (.int k)) (h : Reads enc P w spare held t cs) : ∃ n, cs = [.int k n] ∧ (Lit.int k n).wf = true := by
  obtain ⟨fuel, x, h⟩ := h
  cases fuel with
  | zero => cases h
  | succ fuel =>
    unfold DataW.trod at h
    rw [hu] at h
    split at h <;> first | (cases h; done) | skip
    all_goals rename_i h1 <;> first | (cases h1; done) | skip
    injection h1 with h1; injection h1 with h1; subst h1
    split at h
    · rename_i hc; obtain ⟨rfl, hc⟩ := hc; exact ⟨_, rfl, hc⟩
    · cases h
theorem reads_string (hu : P.underlying t = some .string) (h : Reads enc P w spare held t cs) : ∃ s, cs = [.string s] ∧ s.size ≤ maxLen := by
  obtain ⟨fuel, x, h⟩ := h
  cases fuel with
  | zero => cases h
  | succ fuel =>
    unfold DataW.trod at h
    rw [hu] at h
    split at h <;> first | (cases h; done) | skip
    all_goals rename_i h1 <;> first | (cases h1; done) | skip
    split at h
    · rename_i hc; exact ⟨_, rfl, hc⟩
    · cases h
theorem reads_bool (hu : P.underlying t = some .bool) (h : Reads enc P w spare held t cs) : ∃ b, cs = [.bool b] := by
  obtain ⟨fuel, x, h⟩ := h
  cases fuel with
  | zero => cases h
  | succ fuel =>
    unfold DataW.trod at h
    rw [hu] at h
    split at h <;> first | (cases h; done) | skip
    all_goals rename_i h1 <;> first | (cases h1; done) | skip
    exact ⟨_, rfl⟩
theorem cells_get {a : Addr} {n : Nat} (h : w.cells? 0 a n = some cs) : cs.length = n ∧ ∀ k, k < n → cellAt w.heap (a.add k) = cs[k]? := by
  unfold World.cells? at h
  rw [if_pos (Nat.zero_le _)] at h
  obtain ⟨h1, h2⟩ := mapM_get h
  refine ⟨by simpa using h1, fun k hk => ?_⟩
  obtain ⟨b, h3, h4⟩ := h2 k k (by simp [hk])
  rw [h4]
  exact h3
theorem reads_slice (hu : P.underlying t = some (.slice e)) (h : Reads enc P w spare held t cs) : ∃ p n c, cs = [.slice p n c] ∧ n ≤ c ∧ n ≤ maxLen ∧
    ∀ i, i < n → ∃ a us, p = some a ∧ us.length = P.cellsOf e ∧ (∀ k, k < P.cellsOf e → cellAt w.heap ((a.add (i * P.cellsOf e)).add k) = us[k]?) ∧ Reads enc P w spare held e us := by
  obtain ⟨fuel, x, h⟩ := h
  cases fuel with
  | zero => cases h
  | succ fuel =>
    unfold DataW.trod at h
    rw [hu] at h
    split at h <;> first | (cases h; done) | skip
    all_goals rename_i h1 <;> first | (cases h1; done) | skip
    · exact ⟨none, 0, 0, rfl, Nat.le_refl _, Nat.zero_le _, fun i hi => by omega⟩
    · rename_i a len cap
      obtain rfl : e = _ := by injection h1 with h1; injection h1
      simp only at h
      split at h
      · rename_i hc
        refine ⟨some a, len, cap, rfl, hc.2.1, by omega, fun i hi => ?_⟩
        cases hm : (List.range len).mapM (fun i => (w.cells? 0 (a.add (i * P.cellsOf e)) (P.cellsOf e)).bind (DataW.trod enc P w 0 spare held fuel e)) with
        | none => rw [hm] at h; cases h
        | some l =>
          obtain ⟨b, hb⟩ := mapM_some hm i (by simp [hi])
          cases hcs : w.cells? 0 (a.add (i * P.cellsOf e)) (P.cellsOf e) with
          | none => rw [hcs] at hb; cases hb
          | some us =>
            rw [hcs] at hb
            obtain ⟨l1, l2⟩ := cells_get hcs
            exact ⟨a, us, rfl, l1, l2, fuel, b, hb⟩
      · cases h
theorem reads_struct {fs : Array Field} (hu : P.underlying t = some (.struct fs)) (h : Reads enc P w spare held t cs) : cs.length = P.cellsOf t ∧ ∀ f ∈ fs.toList, Reads enc P w spare held f.type ((cs.drop f.offset).take (P.cellsOf f.type)) := by
  obtain ⟨fuel, x, h⟩ := h
  cases fuel with
  | zero => cases h
  | succ fuel =>
    unfold DataW.trod at h
    rw [hu] at h
    change (if cs.length = P.cellsOf t then (fs.toList.mapM fun f => DataW.trod enc P w 0 spare held fuel f.type ((cs.drop f.offset).take (P.cellsOf f.type))).map (fun xs => ((DataW.agg (xs.map (·.1)), xs.flatMap (·.2)) : DataW H × List MemPlace)) else none) = some x at h
    split at h
    · rename_i hc
      refine ⟨hc, fun f hf => ?_⟩
      cases hm : fs.toList.mapM (fun f => DataW.trod enc P w 0 spare held fuel f.type ((cs.drop f.offset).take (P.cellsOf f.type))) with
      | none => rw [hm] at h; cases h
      | some l =>
        obtain ⟨b, hb⟩ := mapM_some hm f hf
        exact ⟨fuel, b, hb⟩
    · cases h
theorem reads_fields {tos : List (TypeId × Nat)} (hs : (∃ fs, P.underlying t = some (.struct fs))) (hm : (structFields P t).map (fun f => (f.type, f.offset)) = tos) (h : Reads enc P w spare held t cs) :
    cs.length = P.cellsOf t ∧ ∀ x ∈ tos, Reads enc P w spare held x.1 ((cs.drop x.2).take (P.cellsOf x.1)) := by
  obtain ⟨fs, hu⟩ := hs
  obtain ⟨h1, h2⟩ := reads_struct hu h
  refine ⟨h1, fun x hx => ?_⟩
  rw [← hm] at hx
  obtain ⟨f, hf, rfl⟩ := List.mem_map.1 hx
  refine h2 f ?_
  unfold structFields at hf
  rw [hu] at hf
  exact hf
/-- A slice of bytes. -/
theorem reads_bytes (hu : P.underlying t = some (.slice e)) (he : P.underlying e = some (.int .u8)) (hz : P.cellsOf e = 1) (h : Reads enc P w spare held t cs) : ∃ (p : Option Addr) (n c : Nat) (bs : List Int), cs = [.slice p n c] ∧ n ≤ c ∧ bs.length = n ∧ RdAt w.heap p (bs.map (.int .u8)) w.heap.size := by
  obtain ⟨p, n, c, rfl, h1, _, h2⟩ := reads_slice hu h
  clear h
  have h3 : ∀ i, i < n → ∃ b : Int, ∃ a, p = some a ∧ cellAt w.heap (a.add i) = some (.int .u8 b) := fun i hi => by
    obtain ⟨a, us, h3, h4, h5, h6⟩ := h2 i hi
    obtain ⟨b, rfl, _⟩ := reads_int he h6
    have := h5 0 (by omega)
    rw [Addr.add_add, hz, Nat.mul_one, Nat.add_zero] at this
    exact ⟨b, a, h3, this⟩
  have h4 : ∃ bs : List Int, bs.length = n ∧ ∀ i b, bs[i]? = some b → ∃ a, p = some a ∧ cellAt w.heap (a.add i) = some (.int .u8 b) := by
    clear h2 h1 ‹n ≤ maxLen›
    induction n with
    | zero => exact ⟨[], rfl, fun i b hb => by simp at hb⟩
    | succ n ih =>
      obtain ⟨bs, l, hb⟩ := ih fun i hi => h3 i (by omega)
      obtain ⟨b, hb2⟩ := h3 n (by omega)
      refine ⟨bs ++ [b], by simp [l], fun i x hx => ?_⟩
      rw [List.getElem?_append] at hx
      split at hx
      · exact hb i x hx
      · have hi : i = n := by
          have := (List.getElem?_eq_some_iff.1 hx).1
          simp at this; omega
        subst hi
        rw [l, Nat.sub_self] at hx
        cases hx
        exact hb2
  obtain ⟨bs, l, hb⟩ := h4
  refine ⟨p, n, c, bs, rfl, h1, l, fun i v hv => ?_⟩
  rw [List.getElem?_map] at hv
  cases hi : bs[i]? with
  | none => rw [hi] at hv; cases hv
  | some b =>
    rw [hi] at hv; cases hv
    obtain ⟨a, ha, hc⟩ := hb i b hi
    have := cellAt_lt hc
    rw [Addr.add_block] at this
    exact ⟨a, ha, this, hc⟩
end
end Go.Proofs.Ytmdhfmljgjnggaa
/- Small steps in memory: a new block, a cell that is set, a cell that is read; blocks told apart. No condition. -/
namespace Go.Proofs.Ytmdhfmljgjnggaa
set_option linter.unusedVariables false
theorem newB {h : Hp} {o : Obj} {K : Hp → Prop} (hK : ∀ h', h'[h.size]? = some o → Ext h h' → h'.size = h.size + 1 → K h') : letH (h.push o) K :=
  letH_iff.2 (hK _ (push_new _ _) (Ext.push _ _) (by simp))
theorem cellB {h : Hp} {b o : Nat} {c : Array Value} {e : TypeId} {f : Nat × Nat} {v : Value} (hb : h[b]? = some (.cells c e f)) (hv : c[o]? = some v) : cellAt h ⟨b, o, none⟩ = some v := by rw [cellAt_cells hb, hv]
theorem setB {h : Hp} {b o : Nat} {c : Array Value} {e : TypeId} {v : Value} {K : Hp → Prop} (hb : h[b]? = some (.cells c e (0, 0))) (hi : o < c.size)
    (hK : ∀ h', h'[b]? = some (.cells (c.setIfInBounds o v) e (0, 0)) → Step h h' [b] [b] → h'.size = h.size → K h') :
    (∃ old, cellAt h ⟨b, o, none⟩ = some old) ∧ frozenAt h ⟨b, o, none⟩ = false ∧ letH (setH h ⟨b, o, none⟩ v) K :=
  ⟨⟨_, cellB hb (Array.getElem?_eq_getElem hi)⟩, frozenAt_cells hb, letH_iff.2 (hK _ (setH_same hb) (Step.setH (by simp)) (setH_size _ _ _))⟩
/-- Six cells are set, one behind the other. -/
theorem set6 {h : Hp} {b : Nat} {a0 a1 a2 a3 a4 a5 v0 v1 v2 v3 v4 v5 : Value} {e : TypeId} {K : Hp → Prop} (hb : h[b]? = some (.cells #[a0, a1, a2, a3, a4, a5] e (0, 0)))
    (hK : ∀ h', h'[b]? = some (.cells #[v0, v1, v2, v3, v4, v5] e (0, 0)) → Step h h' [b] [b] → h'.size = h.size → K h') :
    (∃ old, cellAt h ⟨b, 0, none⟩ = some old) ∧ frozenAt h ⟨b, 0, none⟩ = false ∧ letH (setH h ⟨b, 0, none⟩ v0) fun h1 =>
    (∃ old, cellAt h1 ⟨b, 1, none⟩ = some old) ∧ frozenAt h1 ⟨b, 1, none⟩ = false ∧ letH (setH h1 ⟨b, 1, none⟩ v1) fun h2 =>
    (∃ old, cellAt h2 ⟨b, 2, none⟩ = some old) ∧ frozenAt h2 ⟨b, 2, none⟩ = false ∧ letH (setH h2 ⟨b, 2, none⟩ v2) fun h3 =>
    (∃ old, cellAt h3 ⟨b, 3, none⟩ = some old) ∧ frozenAt h3 ⟨b, 3, none⟩ = false ∧ letH (setH h3 ⟨b, 3, none⟩ v3) fun h4 =>
    (∃ old, cellAt h4 ⟨b, 4, none⟩ = some old) ∧ frozenAt h4 ⟨b, 4, none⟩ = false ∧ letH (setH h4 ⟨b, 4, none⟩ v4) fun h5 =>
    (∃ old, cellAt h5 ⟨b, 5, none⟩ = some old) ∧ frozenAt h5 ⟨b, 5, none⟩ = false ∧ letH (setH h5 ⟨b, 5, none⟩ v5) K := by
  refine setB hb (by simp) fun h1 b1 s1 z1 => setB b1 (by simp) fun h2 b2 s2 z2 => setB b2 (by simp) fun h3 b3 s3 z3 => setB b3 (by simp) fun h4 b4 s4 z4 => setB b4 (by simp) fun h5 b5 s5 z5 => setB b5 (by simp) fun h6 b6 s6 z6 => ?_
  exact hK h6 b6 (s1.trans (s2.trans (s3.trans (s4.trans (s5.trans s6))))) (by omega)
theorem Ext.same {h h' : Hp} (x : Ext h h') {q : Nat} (hq : q < h.size) : h'[q]? = h[q]? := x.frame q hq (by simp)
theorem Ext.cell {h h' : Hp} (x : Ext h h') {a : Addr} {v : Value} (hc : cellAt h a = some v) : cellAt h' a = some v := by rw [cellAt_same (x.same (cellAt_lt hc))]; exact hc
/-- What changes new blocks alone, changes nothing. -/
theorem Ext.thenNew {h h1 h2 : Hp} {F F' : List Nat} (a : Ext h h1) (b : Step h1 h2 F F') (hn : ∀ q ∈ F, h.size ≤ q) : Ext h h2 :=
  ⟨by have := a.size; have := b.size; omega, fun q hq _ => by rw [b.frame q (by have := a.size; omega) (fun hf => by have := hn q hf; omega), a.same hq], by simp⟩
theorem SlAt.cellk {h : Hp} {el : TypeId} {sz : Nat} {p : Option Addr} {n c : Nat} {vs : List Value} {G : List Nat} (hs : SlAt h el sz p n c vs G) {j : Nat} (hj : j < n * sz) : ∃ a v, p = some a ∧ vs[j]? = some v ∧ cellAt h (a.add j) = some v ∧ a.block ∈ G := by
  have hl := hs.len
  rcases hs.is with ⟨hp0, hc0, _⟩ | ⟨b, o, cs, hp1, hG1, hb2, hle, htk⟩
  · have := hs.le
    have : n = 0 := by omega
    subst this; omega
  · have hvi : j < vs.length := by omega
    refine ⟨_, vs[j], hp1, List.getElem?_eq_getElem hvi, ?_, by rw [hG1]; simp⟩
    rw [Addr.add_mk, cellAt_cells hb2]
    have h5 := congrArg (fun x => x[j]?) htk
    simp only [List.getElem?_take, List.getElem?_eq_getElem hvi, List.getElem?_drop] at h5
    rw [if_pos (by omega)] at h5
    rw [← Array.getElem?_toList]
    exact h5
theorem SlAt.lt {h : Hp} {el : TypeId} {sz : Nat} {p : Option Addr} {n c : Nat} {vs : List Value} {G : List Nat} (hs : SlAt h el sz p n c vs G) : ∀ q ∈ G, q < h.size := fun q hq => by
  rcases hs.is with ⟨_, _, hG⟩ | ⟨b, o, cs, _, hG, hb, _, _⟩
  · rw [hG] at hq; simp at hq
  · rw [hG] at hq; simp at hq; rw [hq]; exact lt_of_at hb
/-- A slice that was read stands as long as only others change. -/
theorem SlAt.ext {h h' : Hp} {el : TypeId} {sz : Nat} {p : Option Addr} {n c : Nat} {vs : List Value} {G : List Nat} (hs : SlAt h el sz p n c vs G) (x : Ext h h') : SlAt h' el sz p n c vs G := hs.congr fun q hq => x.same (hs.lt q hq)
theorem flatMap_get {α β : Type} {f : α → List β} {k : Nat} (hf : ∀ a, (f a).length = k) : ∀ (l : List α) (i j : Nat), j < k → (l.flatMap f)[i * k + j]? = (l[i]?).bind fun a => (f a)[j]? := by
  intro l
  induction l with
  | nil => intro i j hj; simp
  | cons a l ih =>
    intro i j hj
    simp only [List.flatMap_cons]
    rw [List.getElem?_append, hf]
    cases i with
    | zero => rw [if_pos (by omega)]; simp
    | succ i =>
      rw [if_neg (by rw [Nat.add_mul]; omega), show (i + 1) * k + j - k = i * k + j by rw [Nat.add_mul]; omega, ih i j hj]
      simp
theorem flatMap_len {α β : Type} {f : α → List β} {k : Nat} (hf : ∀ a, (f a).length = k) : ∀ (l : List α), (l.flatMap f).length = l.length * k := by
  intro l
  induction l with
  | nil => simp
  | cons a l ih => simp only [List.flatMap_cons, List.length_append, List.length_cons, hf, ih, Nat.add_mul]; omega
theorem wrapU32 {x : Int} (h1 : 0 ≤ x) (h2 : x < 4294967296) : IntKind.wrap .u32 x = x := by
  have e : IntKind.wrap .u32 x = x % 4294967296 := by
    unfold IntKind.wrap
    simp [IntKind.signed, IntKind.bits]
  rw [e, Int.emod_eq_of_lt h1 h2]
end Go.Proofs.Ytmdhfmljgjnggaa
