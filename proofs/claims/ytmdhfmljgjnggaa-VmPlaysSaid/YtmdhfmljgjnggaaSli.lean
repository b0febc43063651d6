/- A slice's making, appending and copying; a map's clone. No condition. -/
import Derived.Test.YtmdhfmljgjnggaaIter
namespace Go.Proofs.Ytmdhfmljgjnggaa

theorem iteP_t {b : Bool} {x y : Prop} (hb : b = true) (hx : x) : iteP b x y := by subst hb; exact hx
theorem iteP_f {b : Bool} {x y : Prop} (hb : b = false) (hy : y) : iteP b x y := by subst hb; exact hy
theorem iteP_yes {p x y : Prop} [Decidable p] (hp : p) (hx : x) : iteP (decide p) x y := iteP_t (decide_eq_true hp) hx
theorem iteP_no {p x y : Prop} [Decidable p] (hp : ¬ p) (hy : y) : iteP (decide p) x y := iteP_f (decide_eq_false hp) hy
theorem iteP_cases {p x y : Prop} [Decidable p] (hx : p → x) (hy : ¬ p → y) : iteP (decide p) x y := by
  by_cases hp : p
  · exact iteP_yes hp (hx hp)
  · exact iteP_no hp (hy hp)
theorem iteP_split {b : Bool} {x y : Prop} (hx : b = true → x) (hy : b = false → y) : iteP b x y := by cases b <;> simp_all [iteP]
theorem iteP_eq {a b : Int} {x y : Prop} (h : a = b) (hx : x) : iteP (a == b) x y := iteP_t (by simp [h]) hx
theorem iteP_neq {a b : Int} {x y : Prop} (h : a ≠ b) (hy : y) : iteP (a == b) x y := iteP_f (by simpa using h) hy
theorem iteP_ne {a b : Int} {x y : Prop} (h : a ≠ b) (hx : x) : iteP (a != b) x y := iteP_t (by simpa using h) hx
theorem iteP_nne {a b : Int} {x y : Prop} (h : a = b) (hy : y) : iteP (a != b) x y := iteP_f (by simp [h]) hy
theorem iteP_eqc {a b : Int} {x y : Prop} (hx : a = b → x) (hy : a ≠ b → y) : iteP (a == b) x y := by
  by_cases h : a = b
  · exact iteP_eq h (hx h)
  · exact iteP_neq h (hy h)
theorem iteP_nec {a b : Int} {x y : Prop} (hx : a ≠ b → x) (hy : a = b → y) : iteP (a != b) x y := by
  by_cases h : a = b
  · exact iteP_nne h (hy h)
  · exact iteP_ne h (hx h)

theorem repL_length {n : Nat} {z : List Value} : (repL n z).length = n * z.length := by
  induction n with
  | zero => simp [repL]
  | succ n ih => simp [repL, ih, Nat.succ_mul, Nat.add_comm]
theorem repL_replicate {n m : Nat} {z : Value} : repL n (List.replicate m z) = List.replicate (n * m) z := by
  induction n with
  | zero => simp [repL]
  | succ n ih => rw [repL, ih, List.replicate_append_replicate]; congr 1; rw [Nat.succ_mul, Nat.add_comm]
section
variable {P : Program}
theorem semWP_asInt {k : IntKind} {n : Int} {h : Hp} {K : Int → Hp → Prop} : semWP P (asInt (.int k n)) h K = K n h := rfl
theorem semWP_askRoom {n : Nat} {h : Hp} {K : Unit → Hp → Prop} (hk : K () h) : semWP P (askRoom n) h K := by
  unfold askRoom; split <;> exact hk
theorem semWP_newRow {e : TypeId} {c : Array Value} {h : Hp} {K : Addr → Hp → Prop} : semWP P (newRow e c) h K = K ⟨h.size, 0, none⟩ (h.push (.cells c e)) := rfl
/-- make([]T, n). -/
theorem semWP_makeSlice {t el : TypeId} {i : TypeInfo} {k k' : IntKind} {n : Int} {h : Hp} {K : Value → Hp → Prop} (hd : P.underlying t = some (.slice el)) (hi : P.info? el = some i) (hde : (P.underlying el).isSome = true) (hz : hasZero P el = true) (hs : (zeroCells P el).size = P.cellsOf el)
    (h0 : 0 ≤ n) (hb : i.bytes * n ≤ 281474976710656) (hbn : n ≤ 281474976710656)
    (hK : ∀ h', h' = h.push (.cells ⟨repL n.toNat (zeroCells P el).toList⟩ el) → K (.slice (some ⟨h.size, 0, none⟩) n.toNat n.toNat) h') : semWP P (Instr.makeSlice t (.int k n) (.int k' n)) h K := by
  obtain ⟨de, hde⟩ := Option.isSome_iff_exists.1 hde
  have hw : IntKind.wrap .i64 n = n := wrap64 (by omega) (by omega)
  have h48 : (2 : Int) ^ 48 = 281474976710656 := by decide
  simp only [Instr.makeSlice, semWP_bind, semWP_underlying hd, semWP_asInt, semWP_typeInfo hi, hw]
  have hlarge : (decide (n < 0) || decide ((i.bytes : Int) * n > 2 ^ 48)) = false := by
    rw [h48]; simp; omega
  simp only [hlarge, Bool.false_or, Bool.or_false, decide_eq_true_eq]
  rw [if_neg (by simp; omega)]
  simp only [semWP_ret, semWP_bind]
  refine semWP_askRoom ?_
  simp only [semWP_sizeOf hde]
  by_cases hn : n.toNat * P.cellsOf el = 0
  · rw [if_pos hn]
    simp only [semWP_bind, semWP_ret, semWP_newRow]
    refine hK _ ?_
    have : repL n.toNat (zeroCells P el).toList = [] := by
      apply List.eq_nil_of_length_eq_zero
      rw [repL_length, Array.length_toList, hs, hn]
    rw [this, hn]
    congr 2
    apply Array.ext'
    simp [Array.toList_map, Array.toList_range]
  · rw [if_neg hn]
    simp only [semWP_bind, semWP_zeroValue hz, semWP_ret, semWP_newRow]
    refine hK _ ?_
    congr 2
    apply Array.ext'
    have := repL_eq (zeroCells P el).toList n.toNat
    simp only [Array.length_toList, hs] at this
    rw [← this]
    simp only [Array.toList_map, Array.toList_range]
    have e : (zeroOf P el).cells = zeroCells P el := rfl
    rw [e, hs]

/-- A slice's cells, and the block in which they lie (a slice without one has none). -/
structure SlAt (h : Hp) (el : TypeId) (sz : Nat) (p : Option Addr) (n c : Nat) (vs : List Value) (F : List Nat) : Prop where
  len : vs.length = n * sz
  le : n ≤ c
  is : (p = none ∧ c = 0 ∧ F = []) ∨ ∃ b o cs, p = some ⟨b, o, none⟩ ∧ F = [b] ∧ h[b]? = some (.cells cs el (0, 0)) ∧ o + c * sz ≤ cs.size ∧ (cs.toList.drop o).take (n * sz) = vs
theorem SlAt.congr {h h' : Hp} {el : TypeId} {sz : Nat} {p : Option Addr} {n c : Nat} {vs : List Value} {F : List Nat} (hs : SlAt h el sz p n c vs F) (he : ∀ r ∈ F, h'[r]? = h[r]?) : SlAt h' el sz p n c vs F := by
  refine ⟨hs.len, hs.le, ?_⟩
  rcases hs.is with h1 | ⟨b, o, cs, h1, h2, h3, h4⟩
  · exact .inl h1
  · exact .inr ⟨b, o, cs, h1, h2, by rw [he b (by simp [h2]), h3], h4⟩
theorem SlAt.nil (h : Hp) (el : TypeId) (sz : Nat) : SlAt h el sz none 0 0 [] [] := ⟨by simp, Nat.le_refl _, .inl ⟨rfl, rfl, rfl⟩⟩
theorem growBy_le : ∀ (r c n m : Nat), c ≤ m → m ≥ n + (n + 768) / 4 → Builtin.growBy n r c ≤ m := by
  intro r
  induction r with
  | zero => intro c n m h _; exact h
  | succ r ih =>
    intro c n m h h2
    unfold Builtin.growBy
    split
    · exact h
    · rename_i hc
      refine ih _ n m ?_ h2
      have : c < n := by omega
      have : (c + 768) / 4 ≤ (n + 768) / 4 := Nat.div_le_div_right (by omega)
      omega
theorem nextcap_le {n c : Nat} (h : c < n) : Builtin.nextslicecap n c ≤ 2 * n + 768 := by
  unfold Builtin.nextslicecap
  split
  · omega
  · split
    · omega
    · exact growBy_le _ _ _ _ (by omega) (by omega)
theorem semWP_firstCells {h : Hp} {el : TypeId} {sz n c m : Nat} {p : Option Addr} {vs : List Value} {F : List Nat} {K : Array Value → Hp → Prop} (hs : SlAt h el sz p n c vs F) (hm : m ≤ n) (hK : K (vs.take (m * sz)).toArray h) : semWP P (Builtin.firstCells sz m (.slice p n c)) h K := by
  rcases hs.is with ⟨h1, h2, _⟩ | ⟨b, o, cs, h1, _, h3, h4, h5⟩
  · subst h1
    have : vs = [] := by
      apply List.eq_nil_of_length_eq_zero
      rw [hs.len]
      have := hs.le
      have : n = 0 := by omega
      simp [this]
    subst this
    simpa [Builtin.firstCells, semWP_ret] using hK
  · subst h1
    simp only [Builtin.firstCells]
    have hmn : m * sz ≤ n * sz := Nat.mul_le_mul_right _ hm
    have hnc : n * sz ≤ c * sz := Nat.mul_le_mul_right _ hs.le
    refine semWP_loadCells h3 (by omega) ?_
    rw [← h5, List.take_take, Nat.min_eq_left hmn] at hK
    exact hK
/-- append(s, x...). -/
theorem semWP_append {t xt el ty : TypeId} {i : TypeInfo} {sz : Nat} {tys : Array TypeId} {h : Hp} {p xp : Option Addr} {n c xn xc : Nat} {vs xs : List Value} {F G : List Nat} {xel : TypeId} {K : Value → Hp → Prop}
    (ht : tys[0]? = some t) (hx : tys[1]? = some xt) (hd : P.underlying t = some (.slice el)) (hxd : P.underlying xt = some (.slice xel)) (hi : P.info? el = some i) (hde : (P.underlying el).isSome = true) (hz : hasZero P el = true) (hsz : P.cellsOf el = sz) (hzz : (zeroCells P el).size = sz)
    (hby : i.bytes ≤ 1024) (hnn : n + xn ≤ 1073741824)
    (hs : SlAt h el sz p n c vs F) (hxs : SlAt h xel sz xp xn xc xs G) (ho : ∀ v ∈ xs, oneV v = true)
    (hK : ∀ h' p' c' F', SlAt h' el sz p' (n + xn) c' (vs ++ xs) F' → Step h h' F F' → K (.slice p' (n + xn) c') h') : semWP P (Builtin.append_ tys ty #[.slice p n c, .slice xp xn xc]) h K := by
  obtain ⟨de, hde⟩ := Option.isSome_iff_exists.1 hde
  have htk : xs.take (xn * sz) = xs := by rw [List.take_of_length_le]; rw [hxs.len]; exact Nat.le_refl _
  have htv : vs.take (n * sz) = vs := by rw [List.take_of_length_le]; rw [hs.len]; exact Nat.le_refl _
  simp only [Builtin.append_, ht, hx, List.getElem?_toArray, List.getElem?_cons_zero, List.getElem?_cons_succ, semWP_bind, semWP_underlying hd, semWP_underlying hxd, semWP_sizeOf hde, hsz, semWP_ret, Bool.false_eq_true, if_false, Bool.not_false, if_true, Builtin.lenOf]
  by_cases hle : n + xn ≤ c
  · rw [if_pos hle]
    simp only [semWP_bind]
    refine semWP_firstCells hxs (Nat.le_refl _) ?_
    rw [htk]
    rcases hs.is with ⟨h1, h2, h3⟩ | ⟨b, o, cs, h1, h2, h3, h4, h5⟩
    · subst h1
      have e1 : n = 0 := by omega
      have e2 : xn = 0 := by omega
      have e3 : xs = [] := by apply List.eq_nil_of_length_eq_zero; rw [hxs.len, e2]; simp
      have e4 : vs = [] := by apply List.eq_nil_of_length_eq_zero; rw [hs.len, e1]; simp
      simp only [semWP_ret]
      refine hK _ _ _ F ⟨?_, hle, .inl ⟨rfl, h2, h3⟩⟩ (Step.refl _ _)
      rw [e1, e2, e3, e4]; simp
    · subst h1
      simp only [semWP_bind, Addr.add_mk]
      have hnx : (n + xn) * sz ≤ c * sz := Nat.mul_le_mul_right _ hle
      have hadd : (n + xn) * sz = n * sz + xn * sz := Nat.add_mul ..
      have hlx := hxs.len
      refine semWP_storeCells h3 (by simpa using ho) (by simp only [hlx]; omega) ?_
      intro h' h6 h7 _
      simp only [semWP_ret]
      refine hK _ _ _ [b] ⟨?_, hle, .inr ⟨b, o, _, rfl, rfl, h6, ?_, ?_⟩⟩ (by rw [h2]; exact h7)
      · rw [List.length_append, hs.len, hxs.len, Nat.add_mul]
      · simp only [List.size_toArray, over_length, Array.length_toList]; exact h4
      · have hl5 : vs.length = n * sz := hs.len
        apply List.ext_getElem?
        intro j
        have h5' : ∀ j, vs[j]? = if j < n * sz then cs.toList[o + j]? else none := by
          intro j
          rw [← h5, List.getElem?_take]
          split
          · rw [List.getElem?_drop]
          · rfl
        rw [List.getElem?_take, List.getElem?_drop, List.getElem?_append]
        rw [over_get (by simp only [Array.length_toList, hlx]; omega)]
        by_cases hj : j < n * sz
        · rw [if_pos (by omega), if_neg (by omega), if_pos (by omega), h5' j, if_pos hj]
        · by_cases hj2 : j < (n + xn) * sz
          · rw [if_pos hj2, if_pos (by rw [hlx]; omega), if_neg (by omega), hl5]
            congr 1; omega
          · rw [if_neg hj2, if_neg (by omega), hl5, List.getElem?_eq_none]
            rw [hlx]; omega
  · rw [if_neg hle]
    have hc : c < n + xn := by omega
    have hbig : ¬ ((((n + xn : Nat)) : Int) > IntKind.i64.max) := by
      have : IntKind.i64.max = 9223372036854775807 := by decide
      rw [this]; omega
    simp only [semWP_bind, semWP_typeInfo hi, Bool.false_eq_true, false_or]
    rw [if_neg (by intro hh; exact hbig hh.1)]
    simp only [semWP_ret, semWP_bind, semWP_typeInfo hi]
    rw [if_neg (by
      have h1 := nextcap_le hc
      have h2 : Builtin.nextslicecap (n + xn) c * i.bytes ≤ (2 * (n + xn) + 768) * 1024 := Nat.mul_le_mul h1 hby
      omega)]
    simp only [semWP_ret, semWP_bind]
    intro tt
    generalize hq : (if (Question.appendCap (n + xn) c el).forced = true then 0 else (Question.appendCap (n + xn) c el).cut tt) = nc
    have hnc : n + xn ≤ nc := by
      rw [← hq]
      simp only [Question.forced, Question.cut, Bool.false_eq_true, if_false]
      exact Nat.le_add_right _ _
    simp only [semWP_bind, semWP_typeInfo hi]
    refine semWP_askRoom ?_
    refine semWP_firstCells hs (Nat.le_refl _) ?_
    rw [htv]
    refine semWP_firstCells hxs (Nat.le_refl _) ?_
    rw [htk]
    simp only [semWP_bind, semWP_zeroValue hz, semWP_newRow, semWP_ret]
    refine hK _ _ _ [h.size] ⟨?_, hnc, .inr ⟨h.size, 0, _, rfl, rfl, push_new _ _, ?_, ?_⟩⟩ ?_
    · rw [List.length_append, hs.len, hxs.len, Nat.add_mul]
    · have e : (Builtin.zeroCells (zeroOf P el).cells (nc - (n + xn))).size = (nc - (n + xn)) * sz := by
        have : (zeroOf P el).cells.size = sz := hzz
        simp [Builtin.zeroCells, this]
      simp only [Array.size_append, List.size_toArray, e, hs.len, hxs.len]
      have h1 : (nc - (n + xn)) * sz + (n + xn) * sz = nc * sz := by rw [← Nat.add_mul]; congr 1; omega
      have h2 : (n + xn) * sz = n * sz + xn * sz := Nat.add_mul ..
      omega
    · simp only [List.drop_zero, Array.toList_append]
      rw [List.take_append_of_le_length (by simp [hs.len, hxs.len, Nat.add_mul]), List.take_of_length_le]
      simp [hs.len, hxs.len, Nat.add_mul]
    · exact ⟨by simp, fun r hr _ => push_old hr, fun r hr => by simp at hr; exact .inr (by omega)⟩
/-- copy(d, s). -/
theorem semWP_copy {t el bel ty sel : TypeId} {sz : Nat} {tys : Array TypeId} {h : Hp} {p sp : Option Addr} {n c sn sc : Nat} {vs ss : List Value} {F G : List Nat} {K : Value → Hp → Prop}
    (ht : tys[0]? = some t) (hd : P.underlying t = some (.slice el)) (hde : (P.underlying el).isSome = true) (hsz : P.cellsOf el = sz)
    (hs : SlAt h bel sz p n c vs F) (hxs : SlAt h sel sz sp sn sc ss G) (ho : ∀ v ∈ ss, oneV v = true)
    (hK : ∀ h', (∀ b o, p = some ⟨b, o, none⟩ → ∀ cs, h[b]? = some (.cells cs bel (0, 0)) → h'[b]? = some (.cells ⟨over cs.toList o (ss.take (min sn n * sz))⟩ bel (0, 0))) → (p = none → h' = h) → Step h h' F F → h'.size = h.size → K (.int .i64 (min sn n : Nat)) h') : semWP P (Builtin.copy_ tys ty #[.slice p n c, .slice sp sn sc]) h K := by
  obtain ⟨de, hde⟩ := Option.isSome_iff_exists.1 hde
  simp only [Builtin.copy_, ht, List.getElem?_toArray, List.getElem?_cons_zero, List.getElem?_cons_succ, semWP_bind, semWP_underlying hd, semWP_sizeOf hde, hsz, semWP_ret, Builtin.lenOf]
  refine semWP_firstCells hxs (Nat.min_le_left ..) ?_
  have hmin : Nat.min sn n = min sn n := rfl
  rw [hmin]
  rcases hs.is with ⟨h1, h2, h3⟩ | ⟨b, o, cs, h1, h2, h3, h4, h5⟩
  · subst h1
    simp only [semWP_ret, semWP_bind]
    exact hK h (by intro b o hh; cases hh) (fun _ => rfl) (Step.refl _ _) rfl
  · subst h1
    simp only [semWP_ret, semWP_bind]
    have hl : (ss.take (min sn n * sz)).length = min sn n * sz := by
      rw [List.length_take, hxs.len]
      have : min sn n * sz ≤ sn * sz := Nat.mul_le_mul_right _ (Nat.min_le_left ..)
      omega
    refine semWP_storeCells h3 (fun v hv => ho v (List.mem_of_mem_take (by simpa using hv))) ?_ ?_
    · simp only [hl]
      have : min sn n * sz ≤ n * sz := Nat.mul_le_mul_right _ (Nat.min_le_right ..)
      have : n * sz ≤ c * sz := Nat.mul_le_mul_right _ hs.le
      omega
    · intro h' h6 h7 h8
      refine hK h' ?_ (by intro hh; cases hh) (by rw [h2]; exact h7) h8
      intro b' o' hbo cs' hcs'
      cases hbo
      rw [h3] at hcs'
      cases hcs'
      exact h6
/-- maps.Clone's inner function. -/
theorem semWP_mapsClone {f : FuncId} {t : TypeId} {k : IntKind} {h : Hp} {r : Nat} {l : List (Int × Value)} {K : Next → Hp → Prop}
    (hf : ∀ args h K, semWP P (Extern.MapsClone.clone args) h (fun v h => K (.value v) h) → semWP P (callFunc f args) h K) (ha : MapAt k h r l)
    (hK : ∀ h', MapAt k h' h.size l → Ext h h' → h'.size = h.size + 1 → K (.value (.iface t (.map (some h.size)))) h') : semWP P (callFunc f #[.iface t (.map (some r))]) h K := by
  refine hf _ _ _ ?_
  obtain ⟨es, clk, h1, h2, h3, h4⟩ := ha.is
  have e : Extern.MapsClone.clone #[.iface t (.map (some r))] = (getObj r >>= fun o => match o with
      | .map entries clock => (newObj (.map entries clock) >>= fun n => pure (.iface t (.map (some n))))
      | _ => stuck "maps.clone: a map expected") := rfl
  rw [e]
  simp only [semWP_bind]
  refine ⟨_, objAt_map h1, ?_⟩
  exact hK _ ⟨⟨es, clk, push_new _ _, h2, h3, h4⟩, ha.nodup⟩ (Ext.push _ _) (by simp)
end
end Go.Proofs.Ytmdhfmljgjnggaa
