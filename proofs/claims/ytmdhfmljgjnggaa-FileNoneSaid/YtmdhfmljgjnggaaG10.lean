/- The texts CFile6 CFnil, one behind the other. No condition. -/
import Derived.Test.YtmdhfmljgjnggaaG9
import Derived.Test.YtmdhfmljgjnggaaG4
/- What Write of package file does. No condition. -/
namespace Go.Proofs.Ytmdhfmljgjnggaa
attribute [local irreducible] semWP
set_option linter.constructorNameAsVariable false
set_option linter.unusedVariables false
section
variable {h h' : Hp} {p d f t m : Nat} {s : FsS} {ns : List (Nat × List Int)} {b : List Int} {E : List (Int × Int)} {il c : Int} {Fe Fn F : List Nat} {K : Value → Hp → Prop}
theorem NodeAt.apart {h : Hp} {r : Nat} {f : Fl} {ids : List Int} {F : List Nat} (hn : NodeAt h r f ids F) : ∃ q c G, F = r :: G ∧ r ∉ G ∧ h[r]? = some (.cells #[.string f.nm, .int .i64 f.op, .int .i64 (f.tx.size : Int), .slice q ids.length c] T_N_file_node (0, 0)) ∧ SlAt h T_uint32 1 q ids.length c (ids.map (.int .u32)) G := by
  have hnd := hn.nodup
  obtain ⟨q, c, G, rfl, h1, h2⟩ := hn
  exact ⟨q, c, G, rfl, (List.nodup_cons.1 hnd).1, h1, h2⟩
theorem u32one (l : List Int) : ∀ v ∈ l.map (Value.int .u32), oneV v = true := by
  intro v hv
  obtain ⟨x, _, rfl⟩ := List.mem_map.1 hv
  rfl
set_option maxHeartbeats 4000000 in
theorem c_Write (hv : StRep h p s c F) (hc : c < 4294960000) (n off : Int) (data : ByteArray)
    (hK : ∀ h' F', StRep h' p (writeF s n off data).2 (c + 3) F' → Step h h' F F' → K (.int .i64 (writeF s n off data).1) h') :
    CallsH Try.prog f_file_Store_Write #[.pointer (some ⟨p, 0, none⟩), .int .i64 n, .int .i64 off, .string data] h K := by
  obtain ⟨ns, b, E, il, d, f, t, m, Fe, Fn, rfl, hil, hw, ha⟩ := hv
  refine q_file_Store_Write_calls p n off data h K ?_
  unfold q_file_Store_Write
  unfold writeF at hK
  have stay : StRep h p s (c + 3) (p :: d :: f :: m :: (Fe ++ Fn)) := ⟨ns, b, E, il, d, f, t, m, Fe, Fn, rfl, by omega, hw, ha⟩
  refine c_get ha n (fun e => ⟨_, _, rfl, iteP_ne (by decide) ?_⟩) fun g l1 l2 x ns1 ns2 e egn e3 e4 e5 => ⟨_, _, rfl, iteP_nne rfl ?_⟩
  · rw [e] at hK; exact hK h _ stay (Step.refl _ _)
  rw [e] at hK
  simp only at hK
  obtain ⟨hz, F1, Fi, F2, e6, hN1, hi, hN2⟩ := ha.node e3 e4 e5
  have hgl : g ∈ s.l := by rw [e3]; simp
  have hats := hw.ats g hgl
  have htx := hw.tx g hgl
  have hidl := ids_len ha hz
  obtain ⟨q0, c0, G0, hFi, hx, hs0⟩ := id hi
  simp only [wth_some, Addr.add_mk, Nat.zero_add]
  refine iteP_cases (fun h1 => ?_) fun h1 => ⟨_, cellB hx rfl, iteP_cases (fun h2 => ?_) fun h2 => ?_⟩
  · rw [if_pos (.inl h1)] at hK; exact hK h _ stay (Step.refl _ _)
  · rw [if_pos (.inr (.inl (by omega)))] at hK; exact hK h _ stay (Step.refl _ _)
  rw [wrap64 (x := 96 - off) (by omega) (by omega)]
  refine iteP_cases (fun h3 => ?_) fun h3 => ⟨_, cellB hx rfl, _, _, _, cellB hx rfl, ?_⟩
  · rw [if_pos (.inr (.inr (by omega)))] at hK; exact hK h _ stay (Step.refl _ _)
  rw [if_neg (by omega)] at hK
  have hoN : off.toNat ≤ g.tx.size := by omega
  have hS := splice_size g.tx off.toNat data hoN
  have hS96 : (splice g.tx off.toNat data).size ≤ 96 := by omega
  generalize hgS : (splice g.tx off.toNat data).size = S at *
  have eS : (if IntKind.wrap .i64 (off + ((data.size : Nat) : Int)) > (g.tx.size : Int) then IntKind.wrap .i64 (off + ((data.size : Nat) : Int)) else (g.tx.size : Int)) = ((S : Nat) : Int) := by
    rw [wrap64 (by omega) (by omega)]
    split <;> omega
  rw [eS]
  refine c_sectors S (by omega) ⟨_, rfl, ⟨_, _, _, cellB hx rfl, rfl⟩, _, cellB ha.st rfl, ?_⟩
  have hk2 := hw.k2
  refine c_extLeft ha.tab (by have := (ha.lenE hw).2; omega) (by omega) fun g1 x1 => ⟨_, rfl, ?_⟩
  have hat3 : g.at_.length ≤ 3 := by unfold secsN at hats; omega
  have hsS3 : secsN S ≤ 3 := by unfold secsN; omega
  rw [ha.left hw, hidl, wrap64 (x := ((secsN S : Nat) : Int) - (g.at_.length : Nat)) (by omega) (by omega)]
  refine iteP_cases (fun h4 => ?_) fun h4 => ?_
  · rw [if_pos (by omega)] at hK; exact hK g1 _ (stay.ext x1) (Step.ext x1 fun _ hr => hr)
  rw [if_neg (by omega)] at hK
  -- how many more
  have hgrow : g.at_.length ≤ secsN S := by rw [hats]; unfold secsN; omega
  obtain ⟨need, hneed⟩ : ∃ need : Nat, secsN S - g.at_.length = need := ⟨_, rfl⟩
  rw [show ((secsN S : Nat) : Int) - (g.at_.length : Nat) = (need : Int) by omega]
  have hneed3 : need ≤ 3 := by unfold secsN at hneed; omega
  rw [hneed] at hK
  generalize hTd : freeL s.k (takenS s) = T at *
  have hTl : need ≤ T.length := by
    unfold leftF at h4
    rw [hTd] at h4
    omega
  have hrange : ∀ i, i ≤ need → ∀ z ∈ takenS s ++ T.take i, 0 ≤ z ∧ z < s.k := by
    intro i _ z hz
    rcases List.mem_append.1 hz with h5 | h5
    · exact hw.tb z h5
    · have := freeL_mem.1 (by rw [hTd]; exact List.mem_of_mem_take h5 : z ∈ freeL s.k (takenS s))
      omega
  refine ⟨fun i g' => ∃ ids' b' E' Fe' Fn', 0 ≤ i ∧ i ≤ need ∧ StAt g' p (moreF s l1 g l2 (T.take i.toNat)) (ns1 ++ (x.1, ids') :: ns2) b' E' (il + i) d f t m Fe' Fn' ∧ Step h g' (p :: d :: f :: m :: (Fe ++ Fn)) (p :: d :: f :: m :: (Fe' ++ Fn')), fun i _ => (need - i).toNat, ⟨x.2, b, E, Fe, Fn, by omega, by omega, ?_, Step.ext x1 fun _ hr => hr⟩, ?_⟩
  · have e7 : moreF s l1 g l2 (T.take (0 : Int).toNat) = s := by
      unfold moreF
      simp only [Int.toNat_zero, List.take_zero, List.append_nil]
      rw [← e3]
    rw [e7, Int.add_zero, ← e4]
    exact ha.ext x1
  rintro i g' ⟨ids', b', E', Fe', Fn', i0, i1, ha', st'⟩
  have hsucc : (i + 1).toNat = i.toNat + 1 := by omega
  have hin : i.toNat ≤ need := by omega
  obtain ⟨hz', F1', Fi', F2', e6', hN1', hi', hN2'⟩ := ha'.node rfl rfl e5
  have hi' : NodeAt g' x.1 { g with at_ := g.at_ ++ T.take i.toNat } ids' Fi' := hi'
  have hidl' : ids'.length = (g.at_ ++ T.take i.toNat).length := ha'.lens _ hz'
  have hats' := hidl'
  rw [List.length_append, List.length_take] at hidl'
  obtain ⟨q1, c1, G1, hFi', hx1G, hx', hs'⟩ := hi'.apart
  have hlt' := ha'.lt
  have hap' := ha'.apart
  have hapE := ha'.apartE
  have hfstp : (E'.map (·.1)).Perm (takenS s ++ T.take i.toNat) := ha'.fst.trans (more_perm e3 _)
  have hEl : E'.length ≤ 21 := by
    have h5 := hfstp.length_eq
    have := hw.sum
    rw [List.length_map, List.length_append, List.length_take] at h5
    omega
  have hEb : ∀ y ∈ E', 0 ≤ y.1 ∧ y.1 < s.k := fun y hy => hrange i.toNat hin y.1 (hfstp.mem_iff.1 (List.mem_map.2 ⟨y, hy, rfl⟩))
  have hFin : ∀ q ∈ Fi', q ∈ Fn' := fun q hq => by rw [e6']; simp [hq]
  refine iteP_cases (fun hlt => ?_) fun hlt => ?_
  · -- one more sector
    have hiT : i.toNat < T.length := by omega
    have hTi : T[i.toNat]? = some T[i.toNat] := List.getElem?_eq_getElem hiT
    have hfree : freeL s.k (E'.map (·.1)) = T[i.toNat] :: T.drop (i.toNat + 1) := by
      have h9 := more_free e3 i.toNat (by rw [hTd]; omega)
      rw [hTd] at h9
      rw [freeL_congr fun a => hfstp.mem_iff, h9]
      exact List.drop_eq_getElem_cons hiT
    have hil0 := ha.il0
    refine ⟨_, _, _, cellB hx' rfl, _, cellB ha'.st rfl, _, cellB ha'.st rfl, ?_⟩
    refine c_take (k := s.k) ha'.dev ha'.tab ⟨hapE.1, hapE.2.1⟩ ha'.srt hEb (by omega) hfree (by omega) (by omega) fun g2 Fe2 dev2 tab2 st2 hf2 hd2 => ⟨_, rfl, ?_⟩
    have hx2 : g2[x.1]? = some (.cells #[.string g.nm, .int .i64 g.op, .int .i64 (g.tx.size : Int), .slice q1 ids'.length c1] T_N_file_node (0, 0)) := by
      have h5 := hap' x.1 (hFin _ (by rw [hFi']; simp))
      rw [st2.frame x.1 (lt_of_at hx') (by simp only [List.mem_cons, not_or]; exact ⟨h5.2.2.1, h5.2.2.2.2⟩)]
      exact hx'
    refine ⟨⟨_, _, _, cellB hx2 rfl, rfl⟩, newB fun g3 b3 x3 z3 => ⟨⟨_, _, _, cellB (x3.at hx2) rfl, rfl⟩, ?_⟩⟩
    have hG1 : ∀ q ∈ G1, q < g'.size ∧ q ∈ Fn' := fun q hq => ⟨hi'.lt q (by rw [hFi']; simp [hq]), hFin q (by rw [hFi']; simp [hq])⟩
    have hs3 : SlAt g3 T_uint32 1 q1 ids'.length c1 (ids'.map (.int .u32)) G1 := (hs'.congr fun q hq => st2.frame q (hG1 q hq).1 (by
      have h5 := hap' q (hG1 q hq).2
      simp only [List.mem_cons, not_or]; exact ⟨h5.2.2.1, h5.2.2.2.2⟩)).ext x3
    have hone : SlAt g3 T_uint32 1 (some ⟨g2.size, 0, none⟩) 1 1 (([il + i + 1] : List Int).map (.int .u32)) [g2.size] := ⟨rfl, by omega, .inr ⟨_, 0, _, rfl, rfl, b3, by simp, by simp⟩⟩
    have hids3 : ids'.length ≤ 100 := by omega
    refine semWP_appendX (t := T_s_uint32) (xt := T_s_uint32) (el := T_uint32) (xd := .slice T_uint32) (i := Try.prog.types[T_uint32]!) (sz := 1) (by rfl) (by rfl) (by kernel_rfl) (by kernel_rfl) (.inl ⟨_, rfl⟩) (by kernel_rfl) (by kernel_rfl) (by kernel_rfl) (by kernel_rfl) (by kernel_rfl) (by decide +kernel) (by omega)
      hs3 hone.src (u32one _) fun g4 p4 c4 F4 s4 st4 _ => ⟨_, _, _, rfl, ?_⟩
    have hx1lt := lt_of_at hx2
    have hx1lt' := lt_of_at hx'
    have hx4 : g4[x.1]? = some (.cells #[.string g.nm, .int .i64 g.op, .int .i64 (g.tx.size : Int), .slice q1 ids'.length c1] T_N_file_node (0, 0)) := by
      rw [st4.frame x.1 (by omega) hx1G]; exact x3.at hx2
    refine setB hx4 (by simp) fun g5 b5 st5 z5 => ?_
    have hz2 := st2.size
    have hz4 := st4.size
    have hF4 : ∀ q ∈ F4, q ∈ G1 ∨ g3.size ≤ q := st4.foot
    have hx1F4 : x.1 ∉ F4 := fun hh => by rcases hF4 _ hh with h5 | h5; exact hx1G h5; omega
    have hfr : ∀ q, q < g2.size → q ∉ Fi' → g5[q]? = g2[q]? := fun q hq hn => by
      rw [hFi'] at hn
      simp only [List.mem_cons, not_or] at hn
      rw [st5.frame q (by omega) (by simpa using hn.1), st4.frame q (by omega) hn.2, x3.same hq]
    have hFe2 : ∀ q ∈ Fe2, q ∈ Fe' ∨ g'.size ≤ q := fun q hq => by
      rcases st2.foot q (by simp [hq]) with h5 | h5
      · rcases List.mem_cons.1 h5 with rfl | h5
        · exact (hf2 hq).elim
        · exact .inl h5
      · exact .inr h5
    have hFe2n : ∀ q ∈ Fe2, q ∉ Fi' := fun q hq hh => by
      rcases hFe2 q hq with h5 | h5
      · exact (hap' q (hFin q hh)).2.2.2.2 h5
      · have := hi'.lt q hh; omega
    have hlen1 : (ids' ++ [il + i + 1]).length = ids'.length + 1 := by simp
    subst e6'
    have hgrown := StAt.grow (hw := hw) (i := i.toNat) (a := T[i.toNat]) (g' := g') (g2 := g2) (g5 := g5) (Fe2 := Fe2) (F4 := x.1 :: F4) e3 e5 (by rw [hTd]; exact hTi) (by rw [hTd]; exact ha') hN1' hN2' hats
      (dev2.congr (hfr d dev2.ltd fun hh => (hap' d (hFin d hh)).2.1 rfl) (hfr f dev2.ltf fun hh => (hap' f (hFin f hh)).2.2.1 rfl))
      (tab2.congr fun q hq => hfr q (tab2.lt q hq) (hFe2n q hq))
      ⟨p4, c4, F4, rfl, by rw [hlen1]; exact b5, by rw [hlen1, List.map_append]; exact s4.congr fun q hq => st5.frame q (s4.lt q hq) (by simp; rintro rfl; exact hx1F4 hq)⟩
      (fun q hq hqf hqe hqn => by rw [hfr q (by omega) hqn, st2.frame q hq (by simp only [List.mem_cons, not_or]; exact ⟨hqf, hqe⟩)])
      hFe2
      (fun q hq => by
        rcases List.mem_cons.1 hq with rfl | hq
        · left; rw [hFi']; simp
        · rcases hF4 q hq with h5 | h5
          · left; rw [hFi']; simp [h5]
          · right; omega)
      (fun q hq hh => by
        rcases List.mem_cons.1 hh with rfl | hh
        · exact hFe2n _ hq (by rw [hFi']; simp)
        · rcases hF4 q hh with h5 | h5
          · exact hFe2n q hq (by rw [hFi']; simp [h5])
          · have := tab2.lt q hq; omega)
    rw [hTd] at hgrown
    refine ⟨⟨_, _, _, _, _, by rw [wrap64 (x := i + 1) (by omega) (by omega)]; omega, by rw [wrap64 (x := i + 1) (by omega) (by omega)]; omega, by rw [wrap64 (x := i + 1) (by omega) (by omega), hsucc, show il + (i + 1) = il + i + 1 by omega]; exact hgrown, st'.trans ⟨by omega, fun q hq hqn => ?_, fun q hq => ?_⟩⟩, ?_⟩
    · simp only [List.mem_cons, List.mem_append, not_or] at hqn
      rw [hfr q (by omega) hqn.2.2.2.2.2.2.1, st2.frame q hq (by simp only [List.mem_cons, not_or]; exact ⟨hqn.2.2.1, hqn.2.2.2.2.1⟩)]
    · simp only [List.mem_cons, List.mem_append] at hq ⊢
      rcases hq with hq | hq | hq | hq | hq | hq | hq | hq
      · exact .inl (.inl hq)
      · exact .inl (.inr (.inl hq))
      · exact .inl (.inr (.inr (.inl hq)))
      · exact .inl (.inr (.inr (.inr (.inl hq))))
      · rcases hFe2 q hq with h5 | h5
        · exact .inl (.inr (.inr (.inr (.inr (.inl h5)))))
        · exact .inr h5
      · exact .inl (.inr (.inr (.inr (.inr (.inr (.inl hq))))))
      · rcases hq with rfl | hq
        · exact .inl (.inr (.inr (.inr (.inr (.inr (.inr (.inl (by rw [hFi']; simp))))))))
        · rcases hF4 q hq with h5 | h5
          · exact .inl (.inr (.inr (.inr (.inr (.inr (.inr (.inl (by rw [hFi']; simp [h5]))))))))
          · right; omega
      · exact .inl (.inr (.inr (.inr (.inr (.inr (.inr (.inr hq)))))))
    · show ((need : Int) - IntKind.wrap .i64 (i + 1)).toNat < ((need : Int) - i).toNat
      rw [wrap64 (x := i + 1) (by omega) (by omega)]; omega
  · -- all bytes are written
    have hieq : i.toNat = need := by omega
    rw [hieq] at ha' hz' hi' hats' hidl' hfstp
    subst e6'
    have hat8 : (g.at_ ++ T.take need).length = secsN S := by rw [List.length_append, List.length_take]; omega
    have hid8 : ids'.length = secsN S := by rw [hats']; exact hat8
    have hz8 : ({ g with at_ := g.at_ ++ T.take need }, (x.1, ids')) ∈ (moreF s l1 g l2 (T.take need)).l.zip (ns1 ++ (x.1, ids') :: ns2) := hz'
    have hnd8 := more_nodup hw e3 need
    rw [hTd] at hnd8
    obtain ⟨gw, hgw⟩ : ∃ gw : Fl, gw = { g with tx := splice g.tx off.toNat data, at_ := g.at_ ++ T.take need } := ⟨_, rfl⟩
    obtain ⟨all, hall⟩ : ∃ all : List Int, all = padF gw := ⟨_, rfl⟩
    have hov : over (padF { g with at_ := g.at_ ++ T.take need }) off.toNat (bl data) = all := by
      rw [padF_more hats, hall, hgw]
      exact pad_splice (m := 0) hoN hats (by rw [hgS, List.length_take]; omega)
    have halll : all.length = secsN S * 32 := by
      rw [hall, padF_length (by rw [hgw]; simp only; rw [hat8, hgS]), hgw]
      simp only; rw [hat8]
    have hbl : (data.data.toList.map fun (b : UInt8) => (.int .u8 b.toNat : Value)) = (bl data).map (.int .u8) := by simp [bl]
    refine c_bytes (g := { g with at_ := g.at_ ++ T.take need }) (x := (x.1, ids')) ha' (by omega) hEb hz8 hi' (by show (g.at_ ++ T.take need).length ≤ 24; omega) fun g6 q6 c6 G6 s6 x6 n6 => ⟨_, _, _, rfl, by omega, ?_, ?_⟩
    · show off.toNat ≤ (g.at_ ++ T.take need).length * 32
      rw [hat8]; unfold secsN; omega
    have s6' : SlAt g6 T_uint8 1 q6 (secsN S * 32) c6 ((padF { g with at_ := g.at_ ++ T.take need }).map (.int .u8)) G6 := by rw [← hat8]; exact s6
    rw [show ({ g with at_ := g.at_ ++ T.take need } : Fl).at_.length = secsN S from hat8]
    refine semWP_copyAt (t := T_s_uint8) (el := T_uint8) (by rfl) (by kernel_rfl) (by kernel_rfl) (by kernel_rfl) s6' (L := data.size) (ss := (bl data).map (.int .u8)) (by unfold secsN; omega) (by rw [← hbl]; exact src_str) bytes1 fun g7 s7 st7 z7 => ⟨_, rfl, ?_⟩
    rw [← over_map, hov] at s7
    have x7 : Ext g' g7 := x6.thenNew st7 n6
    have ha7 := ha'.ext x7
    have hx7 := x7.at hx'
    have hs7 := hs'.ext x7
    have hG1f : ∀ q ∈ G1, q ≠ f := fun q hq => (hap' q (hFin q (by rw [hFi']; simp [hq]))).2.2.1
    have hx1f : x.1 ≠ f := (hap' x.1 (hFin _ (by rw [hFi']; simp))).2.2.1
    have hpf : p ≠ f := fun e => by
      have := ha'.nd
      subst e
      simp only [List.nodup_cons] at this
      exact this.1 (by simp)
    have hG6f : ∀ q ∈ G6, q ≠ f := fun q hq e => by have := n6 q hq; have := ha'.dev.ltf; omega
    have hx1lt' := lt_of_at hx'
    have z6 := x6.size
    have hnn : ∀ z ∈ g.at_ ++ T.take need, 0 ≤ z ∧ z < s.k := fun z hz => by
      rcases List.mem_append.1 hz with h5 | h5
      · exact hw.tb z (List.mem_flatMap.2 ⟨g, hgl, h5⟩)
      · exact hrange need (by omega) z (by simp [h5])
    refine ⟨_, _, _, cellB hx7 rfl, fun i g8 => ∃ b8, 0 ≤ i ∧ i ≤ ids'.length ∧ DevAt g8 d f s.k b8 ∧ Step g7 g8 [f] [f] ∧ (∀ j a, j < i.toNat → (g.at_ ++ T.take need)[j]? = some a → secOf b8 a = (all.drop (j * 32)).take 32) ∧ (∀ a, 0 ≤ a → a ∉ (g.at_ ++ T.take need).take i.toNat → secOf b8 a = secOf b' a), fun i _ => (ids'.length - i).toNat, ⟨b', by omega, by omega, ha7.dev, Step.refl _ _, by intro j a hj; omega, fun _ _ _ => rfl⟩, ?_⟩
    rintro k g8 ⟨b8, k0, k1, dev8, st8, hdone, hrest⟩
    have hksucc : (k + 1).toNat = k.toNat + 1 := by omega
    have ht8 : TabAt g8 t s.k E' (il + i) Fe' := ha7.tab.congr fun q hq => st8.frame q (ha7.tab.lt q hq) (by simp; rintro rfl; exact hapE.2.1 hq)
    have hx8 : g8[x.1]? = some (.cells #[.string g.nm, .int .i64 g.op, .int .i64 (g.tx.size : Int), .slice q1 ids'.length c1] T_N_file_node (0, 0)) := by
      rw [st8.frame x.1 (lt_of_at hx7) (by simpa using hx1f)]; exact hx7
    have hp8 := ha7.st
    have hp8 : g8[p]? = some (.cells #[.pointer (some ⟨d, 0, none⟩), .pointer (some ⟨t, 0, none⟩), .map (some m), .int .i64 s.last] T_N_file_Store (0, 0)) := by
      rw [st8.frame p (lt_of_at ha7.st) (by simpa using hpf)]; exact ha7.st
    refine iteP_cases (fun hk => ⟨k0, hk, ?_⟩) fun hk => ?_
    · have hkn : k.toNat < ids'.length := by omega
      obtain ⟨a, v, hq, hv, hcell, _⟩ := (hs7.congr fun q hq => st8.frame q (hs7.lt q hq) (by simpa using hG1f q hq)).cell hkn
      have hvv : v = .int .u32 ids'[k.toNat] := by
        rw [List.getElem?_map, List.getElem?_eq_getElem hkn] at hv
        exact (Option.some.inj hv).symm
      subst hvv
      have hka : k.toNat < (g.at_ ++ T.take need).length := by omega
      have hinE := ha'.inExt hz8 (List.getElem?_eq_getElem hka) (List.getElem?_eq_getElem hkn)
      have hsec := hnn _ (List.getElem_mem hka)
      rw [hq]
      simp only [wth_some]
      refine ⟨_, hcell, _, cellB hp8 rfl, _, cellB hp8 rfl, _, cellB hp8 rfl, ?_⟩
      have eA : Int.toNat ((k + 1) * 32) = k.toNat * 32 + 32 := by omega
      have eB : Int.toNat (k * 32) = k.toNat * 32 := by omega
      have hc6 := s7.le
      rw [wrap64 (x := k + 1) (by omega) (by omega), wrap64 (x := (k + 1) * 32) (by omega) (by omega), wrap64 (x := k * 32) (by omega) (by omega), eA, eB, Nat.add_sub_cancel_left]
      refine ⟨by omega, by omega, by omega, by omega, ?_⟩
      refine c_sector ht8 (by omega) hinE ha'.ids fun g9 x9 => ⟨_, rfl, ⟨_, cellB (x9.at hp8) rfl, rfl⟩, ?_⟩
      have s9 : SlAt g9 T_uint8 1 q6 (secsN S * 32) c6 (all.map (.int .u8)) G6 := (s7.congr fun q hq => st8.frame q (s7.lt q hq) (by simpa using hG6f q hq)).ext x9
      have s9' := (s9.sub (o := k.toNat * 32) (by omega)).cut (m := 32) (by omega)
      rw [← List.map_drop, ← List.map_take] at s9'
      refine c_dev_Set (dev8.ext x9) _ hsec.1 hsec.2 s9'.src fun g10 dev10 st10 z10 => ⟨_, rfl, ⟨_, by omega, by omega, dev10, ?_, ?_, ?_⟩, ?_⟩
      · exact (st8.trans (Step.ext x9 fun _ hr => hr)).trans st10
      · intro j a' hj hja
        rw [hksucc] at hj
        have hlen32 : ((all.drop (k.toNat * 32)).take 32).length = 32 := by rw [List.length_take, List.length_drop]; omega
        have ha0 := hnn a' (List.mem_of_getElem? hja)
        rw [secOf_over dev8.len hsec.1 hsec.2 ha0.1 hlen32]
        by_cases hjk : j = k.toNat
        · subst hjk
          rw [List.getElem?_eq_getElem hka] at hja
          rw [if_pos (Option.some.inj hja).symm]
        · rw [if_neg, hdone j a' (by omega) hja]
          intro heq
          have hnat : (g.at_ ++ T.take need).Nodup := by
            have := hnd8
            unfold moreF at this
            simp only [List.flatMap_append, List.flatMap_cons] at this
            exact (this.sublist (List.sublist_append_right _ _)).sublist (List.sublist_append_left _ _)
          have hjl := (List.getElem?_eq_some_iff.1 hja).1
          have := (List.getElem?_inj hjl hnat).1 (show (g.at_ ++ T.take need)[j]? = (g.at_ ++ T.take need)[k.toNat]? by rw [hja, List.getElem?_eq_getElem hka, heq])
          exact hjk this
      · intro a' ha0 hnm
        rw [hksucc, List.take_add_one, List.getElem?_eq_getElem hka] at hnm
        simp only [List.mem_append, Option.toList_some, List.mem_cons, List.not_mem_nil, or_false, not_or] at hnm
        have hlen32 : ((all.drop (k.toNat * 32)).take 32).length = 32 := by rw [List.length_take, List.length_drop]; omega
        rw [secOf_over dev8.len hsec.1 hsec.2 ha0 hlen32, if_neg hnm.2, hrest a' ha0 (by simpa using hnm.1)]
      · show ((ids'.length : Int) - (k + 1)).toNat < ((ids'.length : Int) - k).toNat
        omega
    · have hkeq : k.toNat = (g.at_ ++ T.take need).length := by omega
      rw [hkeq] at hdone hrest
      rw [List.take_length] at hrest
      refine setB hx8 (by simp) fun g9 b9 st9 z9 => ?_
      have hset := setmap (g' := gw) egn (by rw [← e3]; exact hw.nd)
      rw [e3, ← hgw, hset] at hK
      have hz8' := st8.size
      have hz7' := x7.size
      have hfr : ∀ q, q < g'.size → q ≠ f → q ≠ x.1 → g9[q]? = g'[q]? := fun q hq h5 h6 => by
        rw [st9.frame q (by omega) (by simpa using h6), st8.frame q (by omega) (by simpa using h5), x7.same hq]
      have hxFe : x.1 ∉ Fe' := (hap' x.1 (hFin _ (by rw [hFi']; simp))).2.2.2.2
      have hxd : x.1 ≠ d := (hap' x.1 (hFin _ (by rw [hFi']; simp))).2.1
      have hgwS : gw.tx.size = S := by rw [hgw]; exact hgS
      have hgwa : gw.at_ = g.at_ ++ T.take need := by rw [hgw]
      have hgwn : gw.n = g.n := by rw [hgw]
      have hgwm : gw.nm = g.nm := by rw [hgw]
      have hgwo : gw.op = g.op := by rw [hgw]
      have hndw : ((l1 ++ gw :: l2).flatMap (·.at_)).Nodup := by
        have := hnd8
        unfold moreF at this
        simp only [List.flatMap_append, List.flatMap_cons] at this ⊢
        rw [hgwa]
        exact this
      have hwf : FsWf { s with l := l1 ++ gw :: l2 } := hw.put e3 hgwn (.inl hgwm) (by rw [hgwo]; exact hw.ops g hgl) (by rw [hgwo, hgwm]; exact hw.live g hgl) (by omega) (by rw [hgwa, hgwS]; exact hat8) hndw (by rw [hgwa]; exact hnn)
      have hdisj : ∀ y ∈ l1 ++ l2, ∀ z ∈ y.at_, z ∉ g.at_ ++ T.take need := by
        intro y hy z hz hz2
        rw [← hgwa] at hz2
        simp only [List.flatMap_append, List.flatMap_cons, List.nodup_append, List.mem_append, List.mem_flatMap] at hndw
        rcases List.mem_append.1 hy with h5 | h5
        · exact hndw.2.2 z ⟨y, h5, hz⟩ z (.inl hz2) rfl
        · exact hndw.2.1.2.2 z hz2 z ⟨y, h5, hz⟩ rfl
      have hfin : StAt g9 p { s with l := l1 ++ gw :: l2 } (ns1 ++ (x.1, ids') :: ns2) b8 E' (il + i) d f t m Fe' (F1' ++ (Fi' ++ F2')) := by
        refine StAt.put ha' (g := { g with at_ := g.at_ ++ T.take need }) (g' := gw) (x := (x.1, ids')) (ids' := ids') rfl rfl e5 rfl hN1' hN2' hgwn ?_ ?_ ⟨q1, c1, G1, hFi', ?_, ?_⟩ ?_ (fun q hq => .inl hq) (fun q hq => .inl hq) (fun q hq hh => (hap' q (hFin q hh)).2.2.2.2 hq) ?_ ?_ ha'.srt ha'.ids ha'.idb ha'.il0 ?_
        · exact dev8.congr (st9.frame d dev8.ltd (by simpa using Ne.symm hxd)) (st9.frame f dev8.ltf (by simpa using Ne.symm hx1f))
        · exact ht8.congr fun q hq => st9.frame q (ht8.lt q hq) (by simp; rintro rfl; exact hxFe hq)
        · rw [b9, hgwS, hgwm, hgwo]; rfl
        · exact hs'.congr fun q hq => hfr q (hs'.lt q hq) (hG1f q hq) (by rintro rfl; exact hx1G hq)
        · intro q hq h5 h6 h7
          exact hfr q hq h5 (by rintro rfl; exact h7 (by rw [hFi']; simp))
        · have h5 := ha'.perm
          rw [show (moreF s l1 g l2 (T.take need)).l = l1 ++ { g with at_ := g.at_ ++ T.take need } :: l2 from rfl, extL_mid e5] at h5
          rw [extL_mid e5, hgwa]
          exact h5
        · rw [hgwa]; exact hats'
        · intro y hy
          have other : ∀ y ∈ l1 ++ l2, y.at_.flatMap (secOf b8) = padF y := by
            intro y hy
            have hy2 : y ∈ (moreF s l1 g l2 (T.take need)).l := by
              show y ∈ l1 ++ _ :: l2
              rcases List.mem_append.1 hy with h5 | h5 <;> simp [h5]
            rw [← ha'.cont y hy2]
            refine flatMap_same fun z hz => hrest z ?_ (hdisj y hy z hz)
            refine (hw.tb z (List.mem_flatMap.2 ⟨y, ?_, hz⟩)).1
            rw [e3]
            rcases List.mem_append.1 hy with h5 | h5 <;> simp [h5]
          rcases List.mem_append.1 hy with h5 | h5
          · exact other y (by simp [h5])
          · rcases List.mem_cons.1 h5 with rfl | h5
            · rw [← hall, hgwa]
              exact flat_chunks (by rw [hat8]; exact halll) fun j a hj => hdone j a (List.getElem?_eq_some_iff.1 hj).1 hj
            · exact other y (by simp [h5])
      refine hK g9 (p :: d :: f :: m :: (Fe' ++ (F1' ++ (Fi' ++ F2')))) ⟨_, _, _, _, _, _, _, _, _, _, rfl, by omega, hwf, hfin⟩ (st'.trans ⟨by omega, fun q hq hqn => ?_, fun q hq => .inl hq⟩)
      simp only [List.mem_cons, List.mem_append, not_or] at hqn
      exact hfr q hq hqn.2.2.1 (by rintro rfl; exact hqn.2.2.2.2.2.2.1 (by rw [hFi']; simp))
end
end Go.Proofs.Ytmdhfmljgjnggaa
/- What the functions of package file do at a nil pointer; what 'live' answers; what FileNone answers. No condition. -/
namespace Go.Proofs.Ytmdhfmljgjnggaa
attribute [local irreducible] semWP
set_option linter.unusedVariables false
section
variable {h : Hp} {K : Value → Hp → Prop}
theorem fn_get (n : Int) (hK : K (.tuple #[.pointer none, .int .i64 1]) h) : CallsH Try.prog f_file_Store_get #[.pointer none, .int .i64 n] h K := q_file_Store_get_nil_calls n h K hK
theorem fn_Find (s : ByteArray) (hK : K (.tuple #[.int .i64 0, .bool false]) h) : CallsH Try.prog f_file_Store_Find #[.pointer none, .string s] h K := q_file_Store_Find_nil_calls s h K hK
theorem fn_Make (s : ByteArray) (hK : K (.tuple #[.int .i64 0, .int .i64 1]) h) : CallsH Try.prog f_file_Store_Make #[.pointer none, .string s] h K := q_file_Store_Make_nil_calls s h K hK
theorem fn_Unlink (s : ByteArray) (hK : K (.int .i64 1) h) : CallsH Try.prog f_file_Store_Unlink #[.pointer none, .string s] h K := q_file_Store_Unlink_nil_calls s h K hK
theorem fn_Names (hK : K (.slice none 0 0) h) : CallsH Try.prog f_file_Store_Names #[.pointer none] h K := q_file_Store_Names_nil_calls h K hK
theorem fn_Left (hK : K (.int .i64 0) h) : CallsH Try.prog f_file_Store_Left #[.pointer none] h K := q_file_Store_Left_nil_calls h K hK
theorem fn_Fork (hK : K (.pointer none) h) : CallsH Try.prog f_file_Store_Fork #[.pointer none] h K := q_file_Store_Fork_nil_calls h K hK
theorem fn_Hold (n : Int) (b : Bool) (hK : K (.int .i64 1) h) : CallsH Try.prog f_file_Store_Hold #[.pointer none, .int .i64 n, .bool b] h K := by
  refine q_file_Store_Hold_nil_calls n b h K ?_
  unfold q_file_Store_Hold_nil
  exact fn_get n ⟨_, _, rfl, iteP_ne (by decide) hK⟩
theorem fn_Write (n o : Int) (s : ByteArray) (hK : K (.int .i64 1) h) : CallsH Try.prog f_file_Store_Write #[.pointer none, .int .i64 n, .int .i64 o, .string s] h K := by
  refine q_file_Store_Write_nil_calls n o s h K ?_
  unfold q_file_Store_Write_nil
  exact fn_get n ⟨_, _, rfl, iteP_ne (by decide) hK⟩
theorem fn_Read (n o m : Int) (hK : K (.tuple #[.string ⟨#[]⟩, .int .i64 1]) h) : CallsH Try.prog f_file_Store_Read #[.pointer none, .int .i64 n, .int .i64 o, .int .i64 m] h K := by
  refine q_file_Store_Read_nil_calls n o m h K ?_
  unfold q_file_Store_Read_nil
  exact fn_get n ⟨_, _, rfl, iteP_ne (by decide) hK⟩
theorem fn_Size (n : Int) (hK : K (.tuple #[.int .i64 0, .int .i64 1]) h) : CallsH Try.prog f_file_Store_Size #[.pointer none, .int .i64 n] h K := by
  refine q_file_Store_Size_nil_calls n h K ?_
  unfold q_file_Store_Size_nil
  exact fn_get n ⟨_, _, rfl, iteP_ne (by decide) hK⟩
theorem fn_Sectors (n : Int) (hK : K (.slice none 0 0) h) : CallsH Try.prog f_file_Store_Sectors #[.pointer none, .int .i64 n] h K := by
  refine q_file_Store_Sectors_nil_calls n h K ?_
  unfold q_file_Store_Sectors_nil
  exact fn_get n ⟨_, _, rfl, iteP_ne (by decide) hK⟩
def liveS : FsS := { k := 8, l := [], last := 0 }
def liveA : ByteArray := ⟨#[97]⟩
def liveH : ByteArray := ⟨#[104, 101, 108, 108, 111]⟩
def liveS1 : FsS := (makeF liveS liveA).2
def liveS2 : FsS := (writeF liveS1 1 0 liveH).2
theorem live1 : (makeF liveS liveA).1 = (1, 0) := by kernel_rfl
theorem live2 : (writeF liveS1 1 0 liveH).1 = 0 := by kernel_rfl
theorem live3 : ((readF liveS2 1 1 3).1.toList == (⟨#[101, 108, 108]⟩ : ByteArray).toList) = true := by kernel_rfl
theorem live4 : (readF liveS2 1 1 3).2 = 0 := by kernel_rfl
theorem live5 : ((namedOf liveS2 liveA).elim 0 fun g => g.n) = 1 := by kernel_rfl
theorem live6 : (namedOf liveS2 liveA).isSome = true := by kernel_rfl
theorem live7 : leftF liveS2 = 7 := by kernel_rfl
theorem c_live22 (hK : ∀ h', Ext h h' → K (.bool true) h') : CallsH Try.prog f_law22_live #[] h K := by
  refine q_law22_live_calls h K ?_
  unfold q_law22_live
  refine c_fileNew 8 (fun h1 => by omega) fun _ _ g1 p F hv1 x1 n1 => ⟨_, rfl, ?_⟩
  have hv1 : StRep g1 p liveS 0 F := hv1
  refine c_Make hv1 (by decide) liveA fun g2 F2 hv2 st2 => ?_
  rw [live1]
  refine ⟨_, _, rfl, c_Write hv2 (by decide) 1 0 liveH fun g3 F3 hv3 st3 => ?_⟩
  rw [show (writeF (makeF liveS liveA).2 1 0 liveH).1 = 0 from live2]
  have hv3 : StRep g3 p liveS2 (0 + 3) F3 := hv3
  refine ⟨_, rfl, c_Read hv3 1 1 3 fun g4 x4 => ⟨_, _, rfl, c_Find (hv3.ext x4) liveA fun g5 x5 => ⟨_, _, rfl, ?_⟩⟩⟩
  refine iteP_eq rfl (iteP_eq rfl (iteP_eq rfl (iteP_t live3 (iteP_eq live4 (iteP_eq live5 (iteP_t live6 ?_))))))
  refine c_fileLeft (hv3.ext (x4.trans x5)) fun g6 x6 => ⟨_, rfl, ?_⟩
  rw [live7]
  refine hK g6 ?_
  have x13 : Ext h g3 := Ext.thenNew (Ext.thenNew x1 st2 n1) st3 fun q hq => ?_
  · exact x13.trans (x4.trans (x5.trans x6))
  · rcases st2.foot q hq with h5 | h5
    · exact n1 q h5
    · have := x1.size; omega
theorem c_FileNone (a b c : Int) (d : Bool) (e : ByteArray) (n : Int) (hK : ∀ h', Ext h h' → K (.bool true) h') :
    CallsH Try.prog f_law22_FileNone #[.agg #[.int .i64 a, .int .i64 b, .int .i64 c, .bool d, .string e], .int .i64 n] h K := by
  refine q_law22_FileNone_calls a b c d e n h K ?_
  unfold q_law22_FileNone
  refine newB fun g b1 x1 z1 => ⟨_, cellB b1 rfl, fn_Make e ⟨_, _, rfl, _, cellB b1 rfl, _, cellB b1 rfl, fn_Read b c 1 ⟨_, _, rfl, _, cellB b1 rfl, fn_Find e ⟨_, _, rfl, _, cellB b1 rfl, fn_Size b ⟨_, _, rfl, ?_⟩⟩⟩⟩⟩
  refine c_live22 fun g2 x2 => ⟨_, rfl, iteP_t rfl (iteP_eq rfl (iteP_eq rfl ⟨_, cellB (x2.at b1) rfl, fn_Unlink e ⟨_, rfl, iteP_eq rfl ⟨_, cellB (x2.at b1) rfl, _, cellB (x2.at b1) rfl, fn_Hold b d ⟨_, rfl, iteP_eq rfl ⟨_, cellB (x2.at b1) rfl, _, cellB (x2.at b1) rfl, _, cellB (x2.at b1) rfl, fn_Write b c e ⟨_, rfl, iteP_eq rfl ?_⟩⟩⟩⟩⟩⟩))⟩
  have x12 : Ext h g2 := x1.trans x2
  refine iteP_t (by simp) (iteP_eq rfl (iteP_eq rfl (iteP_t rfl (fn_Names ⟨_, _, _, rfl, iteP_eq rfl (iteP_eq rfl (iteP_eq rfl ⟨_, cellB (x2.at b1) rfl, fn_Sectors b ⟨_, _, _, rfl, iteP_eq rfl (fn_Left ⟨_, rfl, iteP_eq rfl (fn_Fork ⟨_, rfl, iteP_t rfl ?_⟩)⟩)⟩⟩))⟩))))
  refine c_fileNew n (fun hb => ⟨_, rfl, iteP_cases (fun h1 => hK g2 x12) fun h1 => ?_⟩) fun n1 n2 g3 p F hv x3 _ => ⟨_, rfl, iteP_no (by omega) ?_⟩
  · rw [decide_eq_true (show n > 64 by omega)]; exact hK g2 x12
  · rw [decide_eq_false (show ¬ n > 64 by omega)]; exact hK g3 (x12.trans x3)
end
end Go.Proofs.Ytmdhfmljgjnggaa
