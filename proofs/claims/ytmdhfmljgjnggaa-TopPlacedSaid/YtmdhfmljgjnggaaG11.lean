/- The texts CFile6 CPlaced, one behind the other. No condition. -/
import Derived.Test.YtmdhfmljgjnggaaG10
import Derived.Test.YtmdhfmljgjnggaaG5
/- What Write of package file does. No condition. -/
namespace Go.Proofs.Ytmdhfmljgjnggaa
attribute [local irreducible] semWP
set_option linter.constructorNameAsVariable false
set_option linter.unusedVariables false
section
variable {h h' : Hp} {p d f t m : Nat} {s : FsS} {ns : List (Nat × List Int)} {b : List Int} {E : List (Int × Int)} {il c : Int} {Fe Fn F : List Nat} {K : Value → Hp → Prop}
theorem NodeAt.apart {h : Hp} {r : Nat} {f : Fl} {ids : List Int} {F : List Nat} (hn : NodeAt h r f ids F) : ∃ q c G, F = r :: G ∧ r ∉ G ∧ h[r]? = some (.cells #[.string f.nm, .int .i64 f.op, .int .i64 (f.tx.size : Int), .slice q ids.length c] T_N_file_node (0, 0)) ∧ SlAt h T_uint32 1 q ids.length c (ids.map (.int .u32)) G := by
  have hnd := hn.nodup
  obtain ⟨q, c, G, rfl, h1, h2⟩ := hn
  exact ⟨q, c, G, rfl, (List.nodup_cons.1 hnd).1, h1, h2⟩
theorem u32one (l : List Int) : ∀ v ∈ l.map (Value.int .u32), oneV v = true := by
  intro v hv
  obtain ⟨x, _, rfl⟩ := List.mem_map.1 hv
  rfl
set_option maxHeartbeats 4000000 in
theorem c_Write (hv : StRep h p s c F) (hc : c < 4294960000) (n off : Int) (data : ByteArray)
    (hK : ∀ h' F', StRep h' p (writeF s n off data).2 (c + 3) F' → Step h h' F F' → K (.int .i64 (writeF s n off data).1) h') :
    CallsH Try.prog f_file_Store_Write #[.pointer (some ⟨p, 0, none⟩), .int .i64 n, .int .i64 off, .string data] h K := by
  obtain ⟨ns, b, E, il, d, f, t, m, Fe, Fn, rfl, hil, hw, ha⟩ := hv
  refine q_file_Store_Write_calls p n off data h K ?_
  unfold q_file_Store_Write
  unfold writeF at hK
  have stay : StRep h p s (c + 3) (p :: d :: f :: m :: (Fe ++ Fn)) := ⟨ns, b, E, il, d, f, t, m, Fe, Fn, rfl, by omega, hw, ha⟩
  refine c_get ha n (fun e => ⟨_, _, rfl, iteP_ne (by decide) ?_⟩) fun g l1 l2 x ns1 ns2 e egn e3 e4 e5 => ⟨_, _, rfl, iteP_nne rfl ?_⟩
  · rw [e] at hK; exact hK h _ stay (Step.refl _ _)
  rw [e] at hK
  simp only at hK
  obtain ⟨hz, F1, Fi, F2, e6, hN1, hi, hN2⟩ := ha.node e3 e4 e5
  have hgl : g ∈ s.l := by rw [e3]; simp
  have hats := hw.ats g hgl
  have htx := hw.tx g hgl
  have hidl := ids_len ha hz
  obtain ⟨q0, c0, G0, hFi, hx, hs0⟩ := id hi
  simp only [wth_some, Addr.add_mk, Nat.zero_add]
  refine iteP_cases (fun h1 => ?_) fun h1 => ⟨_, cellB hx rfl, iteP_cases (fun h2 => ?_) fun h2 => ?_⟩
  · rw [if_pos (.inl h1)] at hK; exact hK h _ stay (Step.refl _ _)
  · rw [if_pos (.inr (.inl (by omega)))] at hK; exact hK h _ stay (Step.refl _ _)
  rw [wrap64 (x := 96 - off) (by omega) (by omega)]
  refine iteP_cases (fun h3 => ?_) fun h3 => ⟨_, cellB hx rfl, _, _, _, cellB hx rfl, ?_⟩
  · rw [if_pos (.inr (.inr (by omega)))] at hK; exact hK h _ stay (Step.refl _ _)
  rw [if_neg (by omega)] at hK
  have hoN : off.toNat ≤ g.tx.size := by omega
  have hS := splice_size g.tx off.toNat data hoN
  have hS96 : (splice g.tx off.toNat data).size ≤ 96 := by omega
  generalize hgS : (splice g.tx off.toNat data).size = S at *
  have eS : (if IntKind.wrap .i64 (off + ((data.size : Nat) : Int)) > (g.tx.size : Int) then IntKind.wrap .i64 (off + ((data.size : Nat) : Int)) else (g.tx.size : Int)) = ((S : Nat) : Int) := by
    rw [wrap64 (by omega) (by omega)]
    split <;> omega
  rw [eS]
  refine c_sectors S (by omega) ⟨_, rfl, ⟨_, _, _, cellB hx rfl, rfl⟩, _, cellB ha.st rfl, ?_⟩
  have hk2 := hw.k2
  refine c_extLeft ha.tab (by have := (ha.lenE hw).2; omega) (by omega) fun g1 x1 => ⟨_, rfl, ?_⟩
  have hat3 : g.at_.length ≤ 3 := by unfold secsN at hats; omega
  have hsS3 : secsN S ≤ 3 := by unfold secsN; omega
  rw [ha.left hw, hidl, wrap64 (x := ((secsN S : Nat) : Int) - (g.at_.length : Nat)) (by omega) (by omega)]
  refine iteP_cases (fun h4 => ?_) fun h4 => ?_
  · rw [if_pos (by omega)] at hK; exact hK g1 _ (stay.ext x1) (Step.ext x1 fun _ hr => hr)
  rw [if_neg (by omega)] at hK
  -- how many more
  have hgrow : g.at_.length ≤ secsN S := by rw [hats]; unfold secsN; omega
  obtain ⟨need, hneed⟩ : ∃ need : Nat, secsN S - g.at_.length = need := ⟨_, rfl⟩
  rw [show ((secsN S : Nat) : Int) - (g.at_.length : Nat) = (need : Int) by omega]
  have hneed3 : need ≤ 3 := by unfold secsN at hneed; omega
  rw [hneed] at hK
  generalize hTd : freeL s.k (takenS s) = T at *
  have hTl : need ≤ T.length := by
    unfold leftF at h4
    rw [hTd] at h4
    omega
  have hrange : ∀ i, i ≤ need → ∀ z ∈ takenS s ++ T.take i, 0 ≤ z ∧ z < s.k := by
    intro i _ z hz
    rcases List.mem_append.1 hz with h5 | h5
    · exact hw.tb z h5
    · have := freeL_mem.1 (by rw [hTd]; exact List.mem_of_mem_take h5 : z ∈ freeL s.k (takenS s))
      omega
  refine ⟨fun i g' => ∃ ids' b' E' Fe' Fn', 0 ≤ i ∧ i ≤ need ∧ StAt g' p (moreF s l1 g l2 (T.take i.toNat)) (ns1 ++ (x.1, ids') :: ns2) b' E' (il + i) d f t m Fe' Fn' ∧ Step h g' (p :: d :: f :: m :: (Fe ++ Fn)) (p :: d :: f :: m :: (Fe' ++ Fn')), fun i _ => (need - i).toNat, ⟨x.2, b, E, Fe, Fn, by omega, by omega, ?_, Step.ext x1 fun _ hr => hr⟩, ?_⟩
  · have e7 : moreF s l1 g l2 (T.take (0 : Int).toNat) = s := by
      unfold moreF
      simp only [Int.toNat_zero, List.take_zero, List.append_nil]
      rw [← e3]
    rw [e7, Int.add_zero, ← e4]
    exact ha.ext x1
  rintro i g' ⟨ids', b', E', Fe', Fn', i0, i1, ha', st'⟩
  have hsucc : (i + 1).toNat = i.toNat + 1 := by omega
  have hin : i.toNat ≤ need := by omega
  obtain ⟨hz', F1', Fi', F2', e6', hN1', hi', hN2'⟩ := ha'.node rfl rfl e5
  have hi' : NodeAt g' x.1 { g with at_ := g.at_ ++ T.take i.toNat } ids' Fi' := hi'
  have hidl' : ids'.length = (g.at_ ++ T.take i.toNat).length := ha'.lens _ hz'
  have hats' := hidl'
  rw [List.length_append, List.length_take] at hidl'
  obtain ⟨q1, c1, G1, hFi', hx1G, hx', hs'⟩ := hi'.apart
  have hlt' := ha'.lt
  have hap' := ha'.apart
  have hapE := ha'.apartE
  have hfstp : (E'.map (·.1)).Perm (takenS s ++ T.take i.toNat) := ha'.fst.trans (more_perm e3 _)
  have hEl : E'.length ≤ 21 := by
    have h5 := hfstp.length_eq
    have := hw.sum
    rw [List.length_map, List.length_append, List.length_take] at h5
    omega
  have hEb : ∀ y ∈ E', 0 ≤ y.1 ∧ y.1 < s.k := fun y hy => hrange i.toNat hin y.1 (hfstp.mem_iff.1 (List.mem_map.2 ⟨y, hy, rfl⟩))
  have hFin : ∀ q ∈ Fi', q ∈ Fn' := fun q hq => by rw [e6']; simp [hq]
  refine iteP_cases (fun hlt => ?_) fun hlt => ?_
  · -- one more sector
    have hiT : i.toNat < T.length := by omega
    have hTi : T[i.toNat]? = some T[i.toNat] := List.getElem?_eq_getElem hiT
    have hfree : freeL s.k (E'.map (·.1)) = T[i.toNat] :: T.drop (i.toNat + 1) := by
      have h9 := more_free e3 i.toNat (by rw [hTd]; omega)
      rw [hTd] at h9
      rw [freeL_congr fun a => hfstp.mem_iff, h9]
      exact List.drop_eq_getElem_cons hiT
    have hil0 := ha.il0
    refine ⟨_, _, _, cellB hx' rfl, _, cellB ha'.st rfl, _, cellB ha'.st rfl, ?_⟩
    refine c_take (k := s.k) ha'.dev ha'.tab ⟨hapE.1, hapE.2.1⟩ ha'.srt hEb (by omega) hfree (by omega) (by omega) fun g2 Fe2 dev2 tab2 st2 hf2 hd2 => ⟨_, rfl, ?_⟩
    have hx2 : g2[x.1]? = some (.cells #[.string g.nm, .int .i64 g.op, .int .i64 (g.tx.size : Int), .slice q1 ids'.length c1] T_N_file_node (0, 0)) := by
      have h5 := hap' x.1 (hFin _ (by rw [hFi']; simp))
      rw [st2.frame x.1 (lt_of_at hx') (by simp only [List.mem_cons, not_or]; exact ⟨h5.2.2.1, h5.2.2.2.2⟩)]
      exact hx'
    refine ⟨⟨_, _, _, cellB hx2 rfl, rfl⟩, newB fun g3 b3 x3 z3 => ⟨⟨_, _, _, cellB (x3.at hx2) rfl, rfl⟩, ?_⟩⟩
    have hG1 : ∀ q ∈ G1, q < g'.size ∧ q ∈ Fn' := fun q hq => ⟨hi'.lt q (by rw [hFi']; simp [hq]), hFin q (by rw [hFi']; simp [hq])⟩
    have hs3 : SlAt g3 T_uint32 1 q1 ids'.length c1 (ids'.map (.int .u32)) G1 := (hs'.congr fun q hq => st2.frame q (hG1 q hq).1 (by
      have h5 := hap' q (hG1 q hq).2
      simp only [List.mem_cons, not_or]; exact ⟨h5.2.2.1, h5.2.2.2.2⟩)).ext x3
    have hone : SlAt g3 T_uint32 1 (some ⟨g2.size, 0, none⟩) 1 1 (([il + i + 1] : List Int).map (.int .u32)) [g2.size] := ⟨rfl, by omega, .inr ⟨_, 0, _, rfl, rfl, b3, by simp, by simp⟩⟩
    have hids3 : ids'.length ≤ 100 := by omega
    refine semWP_appendX (t := T_s_uint32) (xt := T_s_uint32) (el := T_uint32) (xd := .slice T_uint32) (i := Try.prog.types[T_uint32]!) (sz := 1) (by rfl) (by rfl) (by kernel_rfl) (by kernel_rfl) (.inl ⟨_, rfl⟩) (by kernel_rfl) (by kernel_rfl) (by kernel_rfl) (by kernel_rfl) (by kernel_rfl) (by decide +kernel) (by omega)
      hs3 hone.src (u32one _) fun g4 p4 c4 F4 s4 st4 _ => ⟨_, _, _, rfl, ?_⟩
    have hx1lt := lt_of_at hx2
    have hx1lt' := lt_of_at hx'
    have hx4 : g4[x.1]? = some (.cells #[.string g.nm, .int .i64 g.op, .int .i64 (g.tx.size : Int), .slice q1 ids'.length c1] T_N_file_node (0, 0)) := by
      rw [st4.frame x.1 (by omega) hx1G]; exact x3.at hx2
    refine setB hx4 (by simp) fun g5 b5 st5 z5 => ?_
    have hz2 := st2.size
    have hz4 := st4.size
    have hF4 : ∀ q ∈ F4, q ∈ G1 ∨ g3.size ≤ q := st4.foot
    have hx1F4 : x.1 ∉ F4 := fun hh => by rcases hF4 _ hh with h5 | h5; exact hx1G h5; omega
    have hfr : ∀ q, q < g2.size → q ∉ Fi' → g5[q]? = g2[q]? := fun q hq hn => by
      rw [hFi'] at hn
      simp only [List.mem_cons, not_or] at hn
      rw [st5.frame q (by omega) (by simpa using hn.1), st4.frame q (by omega) hn.2, x3.same hq]
    have hFe2 : ∀ q ∈ Fe2, q ∈ Fe' ∨ g'.size ≤ q := fun q hq => by
      rcases st2.foot q (by simp [hq]) with h5 | h5
      · rcases List.mem_cons.1 h5 with rfl | h5
        · exact (hf2 hq).elim
        · exact .inl h5
      · exact .inr h5
    have hFe2n : ∀ q ∈ Fe2, q ∉ Fi' := fun q hq hh => by
      rcases hFe2 q hq with h5 | h5
      · exact (hap' q (hFin q hh)).2.2.2.2 h5
      · have := hi'.lt q hh; omega
    have hlen1 : (ids' ++ [il + i + 1]).length = ids'.length + 1 := by simp
    subst e6'
    have hgrown := StAt.grow (hw := hw) (i := i.toNat) (a := T[i.toNat]) (g' := g') (g2 := g2) (g5 := g5) (Fe2 := Fe2) (F4 := x.1 :: F4) e3 e5 (by rw [hTd]; exact hTi) (by rw [hTd]; exact ha') hN1' hN2' hats
      (dev2.congr (hfr d dev2.ltd fun hh => (hap' d (hFin d hh)).2.1 rfl) (hfr f dev2.ltf fun hh => (hap' f (hFin f hh)).2.2.1 rfl))
      (tab2.congr fun q hq => hfr q (tab2.lt q hq) (hFe2n q hq))
      ⟨p4, c4, F4, rfl, by rw [hlen1]; exact b5, by rw [hlen1, List.map_append]; exact s4.congr fun q hq => st5.frame q (s4.lt q hq) (by simp; rintro rfl; exact hx1F4 hq)⟩
      (fun q hq hqf hqe hqn => by rw [hfr q (by omega) hqn, st2.frame q hq (by simp only [List.mem_cons, not_or]; exact ⟨hqf, hqe⟩)])
      hFe2
      (fun q hq => by
        rcases List.mem_cons.1 hq with rfl | hq
        · left; rw [hFi']; simp
        · rcases hF4 q hq with h5 | h5
          · left; rw [hFi']; simp [h5]
          · right; omega)
      (fun q hq hh => by
        rcases List.mem_cons.1 hh with rfl | hh
        · exact hFe2n _ hq (by rw [hFi']; simp)
        · rcases hF4 q hh with h5 | h5
          · exact hFe2n q hq (by rw [hFi']; simp [h5])
          · have := tab2.lt q hq; omega)
    rw [hTd] at hgrown
    refine ⟨⟨_, _, _, _, _, by rw [wrap64 (x := i + 1) (by omega) (by omega)]; omega, by rw [wrap64 (x := i + 1) (by omega) (by omega)]; omega, by rw [wrap64 (x := i + 1) (by omega) (by omega), hsucc, show il + (i + 1) = il + i + 1 by omega]; exact hgrown, st'.trans ⟨by omega, fun q hq hqn => ?_, fun q hq => ?_⟩⟩, ?_⟩
    · simp only [List.mem_cons, List.mem_append, not_or] at hqn
      rw [hfr q (by omega) hqn.2.2.2.2.2.2.1, st2.frame q hq (by simp only [List.mem_cons, not_or]; exact ⟨hqn.2.2.1, hqn.2.2.2.2.1⟩)]
    · simp only [List.mem_cons, List.mem_append] at hq ⊢
      rcases hq with hq | hq | hq | hq | hq | hq | hq | hq
      · exact .inl (.inl hq)
      · exact .inl (.inr (.inl hq))
      · exact .inl (.inr (.inr (.inl hq)))
      · exact .inl (.inr (.inr (.inr (.inl hq))))
      · rcases hFe2 q hq with h5 | h5
        · exact .inl (.inr (.inr (.inr (.inr (.inl h5)))))
        · exact .inr h5
      · exact .inl (.inr (.inr (.inr (.inr (.inr (.inl hq))))))
      · rcases hq with rfl | hq
        · exact .inl (.inr (.inr (.inr (.inr (.inr (.inr (.inl (by rw [hFi']; simp))))))))
        · rcases hF4 q hq with h5 | h5
          · exact .inl (.inr (.inr (.inr (.inr (.inr (.inr (.inl (by rw [hFi']; simp [h5]))))))))
          · right; omega
      · exact .inl (.inr (.inr (.inr (.inr (.inr (.inr (.inr hq)))))))
    · show ((need : Int) - IntKind.wrap .i64 (i + 1)).toNat < ((need : Int) - i).toNat
      rw [wrap64 (x := i + 1) (by omega) (by omega)]; omega
  · -- all bytes are written
    have hieq : i.toNat = need := by omega
    rw [hieq] at ha' hz' hi' hats' hidl' hfstp
    subst e6'
    have hat8 : (g.at_ ++ T.take need).length = secsN S := by rw [List.length_append, List.length_take]; omega
    have hid8 : ids'.length = secsN S := by rw [hats']; exact hat8
    have hz8 : ({ g with at_ := g.at_ ++ T.take need }, (x.1, ids')) ∈ (moreF s l1 g l2 (T.take need)).l.zip (ns1 ++ (x.1, ids') :: ns2) := hz'
    have hnd8 := more_nodup hw e3 need
    rw [hTd] at hnd8
    obtain ⟨gw, hgw⟩ : ∃ gw : Fl, gw = { g with tx := splice g.tx off.toNat data, at_ := g.at_ ++ T.take need } := ⟨_, rfl⟩
    obtain ⟨all, hall⟩ : ∃ all : List Int, all = padF gw := ⟨_, rfl⟩
    have hov : over (padF { g with at_ := g.at_ ++ T.take need }) off.toNat (bl data) = all := by
      rw [padF_more hats, hall, hgw]
      exact pad_splice (m := 0) hoN hats (by rw [hgS, List.length_take]; omega)
    have halll : all.length = secsN S * 32 := by
      rw [hall, padF_length (by rw [hgw]; simp only; rw [hat8, hgS]), hgw]
      simp only; rw [hat8]
    have hbl : (data.data.toList.map fun (b : UInt8) => (.int .u8 b.toNat : Value)) = (bl data).map (.int .u8) := by simp [bl]
    refine c_bytes (g := { g with at_ := g.at_ ++ T.take need }) (x := (x.1, ids')) ha' (by omega) hEb hz8 hi' (by show (g.at_ ++ T.take need).length ≤ 24; omega) fun g6 q6 c6 G6 s6 x6 n6 => ⟨_, _, _, rfl, by omega, ?_, ?_⟩
    · show off.toNat ≤ (g.at_ ++ T.take need).length * 32
      rw [hat8]; unfold secsN; omega
    have s6' : SlAt g6 T_uint8 1 q6 (secsN S * 32) c6 ((padF { g with at_ := g.at_ ++ T.take need }).map (.int .u8)) G6 := by rw [← hat8]; exact s6
    rw [show ({ g with at_ := g.at_ ++ T.take need } : Fl).at_.length = secsN S from hat8]
    refine semWP_copyAt (t := T_s_uint8) (el := T_uint8) (by rfl) (by kernel_rfl) (by kernel_rfl) (by kernel_rfl) s6' (L := data.size) (ss := (bl data).map (.int .u8)) (by unfold secsN; omega) (by rw [← hbl]; exact src_str) bytes1 fun g7 s7 st7 z7 => ⟨_, rfl, ?_⟩
    rw [← over_map, hov] at s7
    have x7 : Ext g' g7 := x6.thenNew st7 n6
    have ha7 := ha'.ext x7
    have hx7 := x7.at hx'
    have hs7 := hs'.ext x7
    have hG1f : ∀ q ∈ G1, q ≠ f := fun q hq => (hap' q (hFin q (by rw [hFi']; simp [hq]))).2.2.1
    have hx1f : x.1 ≠ f := (hap' x.1 (hFin _ (by rw [hFi']; simp))).2.2.1
    have hpf : p ≠ f := fun e => by
      have := ha'.nd
      subst e
      simp only [List.nodup_cons] at this
      exact this.1 (by simp)
    have hG6f : ∀ q ∈ G6, q ≠ f := fun q hq e => by have := n6 q hq; have := ha'.dev.ltf; omega
    have hx1lt' := lt_of_at hx'
    have z6 := x6.size
    have hnn : ∀ z ∈ g.at_ ++ T.take need, 0 ≤ z ∧ z < s.k := fun z hz => by
      rcases List.mem_append.1 hz with h5 | h5
      · exact hw.tb z (List.mem_flatMap.2 ⟨g, hgl, h5⟩)
      · exact hrange need (by omega) z (by simp [h5])
    refine ⟨_, _, _, cellB hx7 rfl, fun i g8 => ∃ b8, 0 ≤ i ∧ i ≤ ids'.length ∧ DevAt g8 d f s.k b8 ∧ Step g7 g8 [f] [f] ∧ (∀ j a, j < i.toNat → (g.at_ ++ T.take need)[j]? = some a → secOf b8 a = (all.drop (j * 32)).take 32) ∧ (∀ a, 0 ≤ a → a ∉ (g.at_ ++ T.take need).take i.toNat → secOf b8 a = secOf b' a), fun i _ => (ids'.length - i).toNat, ⟨b', by omega, by omega, ha7.dev, Step.refl _ _, by intro j a hj; omega, fun _ _ _ => rfl⟩, ?_⟩
    rintro k g8 ⟨b8, k0, k1, dev8, st8, hdone, hrest⟩
    have hksucc : (k + 1).toNat = k.toNat + 1 := by omega
    have ht8 : TabAt g8 t s.k E' (il + i) Fe' := ha7.tab.congr fun q hq => st8.frame q (ha7.tab.lt q hq) (by simp; rintro rfl; exact hapE.2.1 hq)
    have hx8 : g8[x.1]? = some (.cells #[.string g.nm, .int .i64 g.op, .int .i64 (g.tx.size : Int), .slice q1 ids'.length c1] T_N_file_node (0, 0)) := by
      rw [st8.frame x.1 (lt_of_at hx7) (by simpa using hx1f)]; exact hx7
    have hp8 := ha7.st
    have hp8 : g8[p]? = some (.cells #[.pointer (some ⟨d, 0, none⟩), .pointer (some ⟨t, 0, none⟩), .map (some m), .int .i64 s.last] T_N_file_Store (0, 0)) := by
      rw [st8.frame p (lt_of_at ha7.st) (by simpa using hpf)]; exact ha7.st
    refine iteP_cases (fun hk => ⟨k0, hk, ?_⟩) fun hk => ?_
    · have hkn : k.toNat < ids'.length := by omega
      obtain ⟨a, v, hq, hv, hcell, _⟩ := (hs7.congr fun q hq => st8.frame q (hs7.lt q hq) (by simpa using hG1f q hq)).cell hkn
      have hvv : v = .int .u32 ids'[k.toNat] := by
        rw [List.getElem?_map, List.getElem?_eq_getElem hkn] at hv
        exact (Option.some.inj hv).symm
      subst hvv
      have hka : k.toNat < (g.at_ ++ T.take need).length := by omega
      have hinE := ha'.inExt hz8 (List.getElem?_eq_getElem hka) (List.getElem?_eq_getElem hkn)
      have hsec := hnn _ (List.getElem_mem hka)
      rw [hq]
      simp only [wth_some]
      refine ⟨_, hcell, _, cellB hp8 rfl, _, cellB hp8 rfl, _, cellB hp8 rfl, ?_⟩
      have eA : Int.toNat ((k + 1) * 32) = k.toNat * 32 + 32 := by omega
      have eB : Int.toNat (k * 32) = k.toNat * 32 := by omega
      have hc6 := s7.le
      rw [wrap64 (x := k + 1) (by omega) (by omega), wrap64 (x := (k + 1) * 32) (by omega) (by omega), wrap64 (x := k * 32) (by omega) (by omega), eA, eB, Nat.add_sub_cancel_left]
      refine ⟨by omega, by omega, by omega, by omega, ?_⟩
      refine c_sector ht8 (by omega) hinE ha'.ids fun g9 x9 => ⟨_, rfl, ⟨_, cellB (x9.at hp8) rfl, rfl⟩, ?_⟩
      have s9 : SlAt g9 T_uint8 1 q6 (secsN S * 32) c6 (all.map (.int .u8)) G6 := (s7.congr fun q hq => st8.frame q (s7.lt q hq) (by simpa using hG6f q hq)).ext x9
      have s9' := (s9.sub (o := k.toNat * 32) (by omega)).cut (m := 32) (by omega)
      rw [← List.map_drop, ← List.map_take] at s9'
      refine c_dev_Set (dev8.ext x9) _ hsec.1 hsec.2 s9'.src fun g10 dev10 st10 z10 => ⟨_, rfl, ⟨_, by omega, by omega, dev10, ?_, ?_, ?_⟩, ?_⟩
      · exact (st8.trans (Step.ext x9 fun _ hr => hr)).trans st10
      · intro j a' hj hja
        rw [hksucc] at hj
        have hlen32 : ((all.drop (k.toNat * 32)).take 32).length = 32 := by rw [List.length_take, List.length_drop]; omega
        have ha0 := hnn a' (List.mem_of_getElem? hja)
        rw [secOf_over dev8.len hsec.1 hsec.2 ha0.1 hlen32]
        by_cases hjk : j = k.toNat
        · subst hjk
          rw [List.getElem?_eq_getElem hka] at hja
          rw [if_pos (Option.some.inj hja).symm]
        · rw [if_neg, hdone j a' (by omega) hja]
          intro heq
          have hnat : (g.at_ ++ T.take need).Nodup := by
            have := hnd8
            unfold moreF at this
            simp only [List.flatMap_append, List.flatMap_cons] at this
            exact (this.sublist (List.sublist_append_right _ _)).sublist (List.sublist_append_left _ _)
          have hjl := (List.getElem?_eq_some_iff.1 hja).1
          have := (List.getElem?_inj hjl hnat).1 (show (g.at_ ++ T.take need)[j]? = (g.at_ ++ T.take need)[k.toNat]? by rw [hja, List.getElem?_eq_getElem hka, heq])
          exact hjk this
      · intro a' ha0 hnm
        rw [hksucc, List.take_add_one, List.getElem?_eq_getElem hka] at hnm
        simp only [List.mem_append, Option.toList_some, List.mem_cons, List.not_mem_nil, or_false, not_or] at hnm
        have hlen32 : ((all.drop (k.toNat * 32)).take 32).length = 32 := by rw [List.length_take, List.length_drop]; omega
        rw [secOf_over dev8.len hsec.1 hsec.2 ha0 hlen32, if_neg hnm.2, hrest a' ha0 (by simpa using hnm.1)]
      · show ((ids'.length : Int) - (k + 1)).toNat < ((ids'.length : Int) - k).toNat
        omega
    · have hkeq : k.toNat = (g.at_ ++ T.take need).length := by omega
      rw [hkeq] at hdone hrest
      rw [List.take_length] at hrest
      refine setB hx8 (by simp) fun g9 b9 st9 z9 => ?_
      have hset := setmap (g' := gw) egn (by rw [← e3]; exact hw.nd)
      rw [e3, ← hgw, hset] at hK
      have hz8' := st8.size
      have hz7' := x7.size
      have hfr : ∀ q, q < g'.size → q ≠ f → q ≠ x.1 → g9[q]? = g'[q]? := fun q hq h5 h6 => by
        rw [st9.frame q (by omega) (by simpa using h6), st8.frame q (by omega) (by simpa using h5), x7.same hq]
      have hxFe : x.1 ∉ Fe' := (hap' x.1 (hFin _ (by rw [hFi']; simp))).2.2.2.2
      have hxd : x.1 ≠ d := (hap' x.1 (hFin _ (by rw [hFi']; simp))).2.1
      have hgwS : gw.tx.size = S := by rw [hgw]; exact hgS
      have hgwa : gw.at_ = g.at_ ++ T.take need := by rw [hgw]
      have hgwn : gw.n = g.n := by rw [hgw]
      have hgwm : gw.nm = g.nm := by rw [hgw]
      have hgwo : gw.op = g.op := by rw [hgw]
      have hndw : ((l1 ++ gw :: l2).flatMap (·.at_)).Nodup := by
        have := hnd8
        unfold moreF at this
        simp only [List.flatMap_append, List.flatMap_cons] at this ⊢
        rw [hgwa]
        exact this
      have hwf : FsWf { s with l := l1 ++ gw :: l2 } := hw.put e3 hgwn (.inl hgwm) (by rw [hgwo]; exact hw.ops g hgl) (by rw [hgwo, hgwm]; exact hw.live g hgl) (by omega) (by rw [hgwa, hgwS]; exact hat8) hndw (by rw [hgwa]; exact hnn)
      have hdisj : ∀ y ∈ l1 ++ l2, ∀ z ∈ y.at_, z ∉ g.at_ ++ T.take need := by
        intro y hy z hz hz2
        rw [← hgwa] at hz2
        simp only [List.flatMap_append, List.flatMap_cons, List.nodup_append, List.mem_append, List.mem_flatMap] at hndw
        rcases List.mem_append.1 hy with h5 | h5
        · exact hndw.2.2 z ⟨y, h5, hz⟩ z (.inl hz2) rfl
        · exact hndw.2.1.2.2 z hz2 z ⟨y, h5, hz⟩ rfl
      have hfin : StAt g9 p { s with l := l1 ++ gw :: l2 } (ns1 ++ (x.1, ids') :: ns2) b8 E' (il + i) d f t m Fe' (F1' ++ (Fi' ++ F2')) := by
        refine StAt.put ha' (g := { g with at_ := g.at_ ++ T.take need }) (g' := gw) (x := (x.1, ids')) (ids' := ids') rfl rfl e5 rfl hN1' hN2' hgwn ?_ ?_ ⟨q1, c1, G1, hFi', ?_, ?_⟩ ?_ (fun q hq => .inl hq) (fun q hq => .inl hq) (fun q hq hh => (hap' q (hFin q hh)).2.2.2.2 hq) ?_ ?_ ha'.srt ha'.ids ha'.idb ha'.il0 ?_
        · exact dev8.congr (st9.frame d dev8.ltd (by simpa using Ne.symm hxd)) (st9.frame f dev8.ltf (by simpa using Ne.symm hx1f))
        · exact ht8.congr fun q hq => st9.frame q (ht8.lt q hq) (by simp; rintro rfl; exact hxFe hq)
        · rw [b9, hgwS, hgwm, hgwo]; rfl
        · exact hs'.congr fun q hq => hfr q (hs'.lt q hq) (hG1f q hq) (by rintro rfl; exact hx1G hq)
        · intro q hq h5 h6 h7
          exact hfr q hq h5 (by rintro rfl; exact h7 (by rw [hFi']; simp))
        · have h5 := ha'.perm
          rw [show (moreF s l1 g l2 (T.take need)).l = l1 ++ { g with at_ := g.at_ ++ T.take need } :: l2 from rfl, extL_mid e5] at h5
          rw [extL_mid e5, hgwa]
          exact h5
        · rw [hgwa]; exact hats'
        · intro y hy
          have other : ∀ y ∈ l1 ++ l2, y.at_.flatMap (secOf b8) = padF y := by
            intro y hy
            have hy2 : y ∈ (moreF s l1 g l2 (T.take need)).l := by
              show y ∈ l1 ++ _ :: l2
              rcases List.mem_append.1 hy with h5 | h5 <;> simp [h5]
            rw [← ha'.cont y hy2]
            refine flatMap_same fun z hz => hrest z ?_ (hdisj y hy z hz)
            refine (hw.tb z (List.mem_flatMap.2 ⟨y, ?_, hz⟩)).1
            rw [e3]
            rcases List.mem_append.1 hy with h5 | h5 <;> simp [h5]
          rcases List.mem_append.1 hy with h5 | h5
          · exact other y (by simp [h5])
          · rcases List.mem_cons.1 h5 with rfl | h5
            · rw [← hall, hgwa]
              exact flat_chunks (by rw [hat8]; exact halll) fun j a hj => hdone j a (List.getElem?_eq_some_iff.1 hj).1 hj
            · exact other y (by simp [h5])
      refine hK g9 (p :: d :: f :: m :: (Fe' ++ (F1' ++ (Fi' ++ F2')))) ⟨_, _, _, _, _, _, _, _, _, _, rfl, by omega, hwf, hfin⟩ (st'.trans ⟨by omega, fun q hq hqn => ?_, fun q hq => .inl hq⟩)
      simp only [List.mem_cons, List.mem_append, not_or] at hqn
      exact hfr q hq hqn.2.2.1 (by rintro rfl; exact hqn.2.2.2.2.2.2.1 (by rw [hFi']; simp))
end
end Go.Proofs.Ytmdhfmljgjnggaa
/- What the law TopPlaced answers. No condition. -/
namespace Go.Proofs.Ytmdhfmljgjnggaa
attribute [local irreducible] semWP
set_option linter.constructorNameAsVariable false
set_option linter.unusedVariables false
def letterF : ByteArray := ⟨#[102]⟩
/-- The store of one file. -/
def pS (want : ByteArray) (at_ : List Int) : FsS := { k := 8, l := [{ n := 1, op := 0, nm := letterF, tx := want, at_ := at_ }], last := 1 }
theorem placed_make : makeF { k := 8, l := [], last := 0 } letterF = ((1, 0), pS empty []) := by kernel_rfl
theorem splice_end (a x : ByteArray) : splice a a.size x = a ++ x := by
  refine bl_inj ?_
  rw [bl_splice _ _ _ (Nat.le_refl _), bl_append, ← bl_length, List.take_length, List.drop_eq_nil_of_le (by omega), List.append_nil]
theorem placed_write {want : ByteArray} {at_ : List Int} (hw : FsWf (pS want at_)) (x : ByteArray) :
    (96 < want.size + x.size → writeF (pS want at_) 1 want.size x = (2, pS want at_)) ∧ (want.size + x.size ≤ 96 → ∃ at', writeF (pS want at_) 1 want.size x = (0, pS (want ++ x) at')) := by
  have hf : fileOf (pS want at_) 1 = some { n := 1, op := 0, nm := letterF, tx := want, at_ := at_ } := rfl
  have hats := hw.ats _ (List.mem_singleton.2 rfl)
  have htx := hw.tx _ (List.mem_singleton.2 rfl)
  simp only at hats htx
  have hfl := freeL_len hw.tk hw.tb
  have htl : (takenS (pS want at_)).length = at_.length := by simp [takenS, pS]
  have hk : (pS want at_).k = 8 := rfl
  unfold writeF
  rw [hf]
  simp only [Int.toNat_natCast, splice_end, ByteArray.size_append]
  refine ⟨fun h => ?_, fun h => ?_⟩
  · rw [if_pos (by omega)]
  · rw [if_neg (by omega), if_neg ?_]
    · exact ⟨at_ ++ (freeL (pS want at_).k (takenS (pS want at_))).take (secsN (want.size + x.size) - at_.length), rfl⟩
    · unfold leftF
      unfold secsN at *
      omega
theorem placed_read {want : ByteArray} {at_ : List Int} (hw : FsWf (pS want at_)) : readF (pS want at_) 1 0 96 = (want, 0) := by
  have hf : fileOf (pS want at_) 1 = some { n := 1, op := 0, nm := letterF, tx := want, at_ := at_ } := rfl
  have htx := hw.tx _ (List.mem_singleton.2 rfl)
  simp only at htx
  unfold readF
  rw [hf]
  simp only
  rw [if_neg (by omega)]
  congr 1
  refine bl_inj ?_
  rw [bl_extract]
  have := bl_length want
  simp only [Int.toNat_zero, List.drop_zero]
  refine List.take_of_length_le ?_
  rw [this]
  have : (96 : Int).toNat = 96 := rfl
  omega
/-- A row of texts that can be read. -/
def StrsAt (h : Hp) (p : Option Addr) (n B : Nat) : Prop := ∀ i, i < n → ∃ a s, p = some a ∧ a.block < B ∧ cellAt h (a.add (i * 1)) = some (.string s)
section
variable {h : Hp} {K : Value → Hp → Prop}
/-- What holds between two deeds. -/
structure PlInv (h g : Hp) (p t q s : Nat) (T Q : Array Value) (want : ByteArray) (c : Int) (at_ : List Int) (F : List Nat) : Prop where
  st : StRep g p (pS want at_) c F
  tb : g[t]? = some (.cells T T_N_fds_Table (0, 0))
  pr : g[q]? = some (.cells Q T_N_fds_process (0, 0))
  sh : g[s]? = some (.cells #[.int .u8 1, .int .i64 1, .int .i64 (want.size : Int), .int .i64 2] T_N_fds_shared (0, 0))
  out : t ∉ F ∧ q ∉ F ∧ s ∉ F
  ext : Ext h g
  new : ∀ a ∈ F, h.size ≤ a
theorem PlInv.exts {h g g' : Hp} {p t q s : Nat} {T Q : Array Value} {want : ByteArray} {c : Int} {at_ : List Int} {F : List Nat} (v : PlInv h g p t q s T Q want c at_ F) (x : Ext g g') : PlInv h g' p t q s T Q want c at_ F :=
  ⟨v.st.ext x, x.at v.tb, x.at v.pr, x.at v.sh, v.out, v.ext.trans x, v.new⟩
set_option maxHeartbeats 1000000 in
theorem c_Placed {lp : Option Addr} {ln lc : Nat} (hl : StrsAt h lp ln h.size) (hK : ∀ h', Ext h h' → K (.bool true) h') : CallsH Try.prog f_top_TopPlaced #[.slice lp ln lc] h K := by
  refine q_top_TopPlaced_calls lp ln lc h K ?_
  unfold q_top_TopPlaced
  refine c_fileNew 8 (fun h1 => by omega) fun _ _ g1 p F hv1 x1 n1 => ⟨_, rfl, c_fdsNew fun g2 bt x2 z2 => ⟨_, rfl, ?_⟩⟩
  generalize ht : g1.size = t at *
  have hv1 : StRep g1 p { k := 8, l := [], last := 0 } 0 F := hv1
  have hF1 := hv1.lt
  refine c_Make (hv1.ext x2) (by decide) letterF fun g3 F3 hv3 st3 => ?_
  rw [placed_make] at hv3 ⊢
  simp only at hv3 ⊢
  have htF : t ∉ F := fun hh => by have := hF1 t hh; omega
  have hF3 : ∀ a ∈ F3, a ∈ F ∨ g2.size ≤ a := st3.foot
  have htF3 : t ∉ F3 := fun hh => by rcases hF3 t hh with h5 | h5; exact htF h5; omega
  have bt3 := st3.at bt htF
  have hF3lt := hv3.lt
  have s3 := st3.size
  refine ⟨_, _, rfl, iteP_nne rfl ?_⟩
  refine c_fdsBegin 0 (by decide) bt3 rfl fun g4 bt4 bq4 st4 z4 => ⟨_, rfl, iteP_nne rfl ?_⟩
  generalize hq : g3.size = q at *
  have hqt : q ≠ t := by have := lt_of_at bt3; omega
  refine c_fdsBegin 1 (by decide) bt4 rfl fun g5 bt5 _ st5 z5 => ⟨_, rfl, iteP_nne rfl ?_⟩
  have bq5 : g5[q]? = _ := (st5.frame q (by omega) (by simpa using hqt)).trans bq4
  obtain ⟨T, hT⟩ : ∃ T : Array Value, T = (#[.pointer none, .pointer none, .pointer none, .pointer none, .pointer none, .pointer none].setIfInBounds 0 (.pointer (some ⟨q, 0, none⟩))).setIfInBounds 1 (.pointer (some ⟨g4.size, 0, none⟩)) := ⟨_, rfl⟩
  rw [← hT] at bt5
  have hT0 : T[0]? = some (.pointer (some ⟨q, 0, none⟩)) := by rw [hT]; rfl
  refine c_fdsOpen bt5 hT0 0 (by decide) rfl bq5 (fun k hk => by omega) rfl 1 0 fun g6 s hs6 bq6 bs6 st6 => ⟨_, _, rfl, ?_⟩
  have bt6 := st6.at bt5 (by simpa using Ne.symm hqt)
  refine c_fdsDup bt6 hT0 0 1 (by decide) (by decide) rfl bq6 rfl (fun k hk => ⟨⟨s, 0, none⟩, by rw [show k = 0 by omega]; rfl⟩) rfl bs6 (by omega) fun g7 bq7 bs7 st7 z7 => ⟨_, _, rfl, iteP_nne rfl (iteP_nne rfl ?_)⟩
  have hst : s ≠ t := by have := lt_of_at bt5; omega
  have hsq : s ≠ q := by have := lt_of_at bq5; omega
  have bt7 := st7.at bt6 (by simp; exact ⟨Ne.symm hqt, Ne.symm hst⟩)
  obtain ⟨Q, hQ⟩ : ∃ Q : Array Value, Q = (#[.pointer none, .pointer none, .pointer none, .pointer none, .pointer none, .pointer none, .pointer none, .pointer none].setIfInBounds 0 (.pointer (some ⟨s, 0, none⟩))).setIfInBounds 1 (.pointer (some ⟨s, 0, none⟩)) := ⟨_, rfl⟩
  rw [← hQ] at bq7
  have hQ8 : Q.size = 8 := by rw [hQ]; rfl
  have hQ0 : Q[0]? = some (.pointer (some ⟨s, 0, none⟩)) := by rw [hQ]; rfl
  have hQ1 : Q[1]? = some (.pointer (some ⟨s, 0, none⟩)) := by rw [hQ]; rfl
  have hqF : q ∉ F3 := fun hh => by have := hF3lt q hh; omega
  have hsF : s ∉ F3 := fun hh => by have := hF3lt s hh; omega
  have z6 := st6.size
  have fr37 : ∀ a, a < g3.size → a ≠ t → g7[a]? = g3[a]? := fun a ha h1 => by
    have : a ≠ q := by omega
    have : a ≠ s := by omega
    rw [st7.frame a (by omega) (by simp; omega), st6.frame a (by omega) (by simpa using (by omega : a ≠ q)), st5.frame a (by omega) (by simpa using h1), st4.frame a (by omega) (by simpa using h1)]
  have z1 := x1.size
  have x37 : Ext h g7 := by
    refine ⟨by omega, fun a ha _ => ?_, by simp⟩
    rw [fr37 a (by omega) (by omega), st3.frame a (by omega) (fun hh => by have := n1 a hh; omega), x2.same (by omega), x1.same ha]
  have new3 : ∀ a ∈ F3, h.size ≤ a := fun a ha => by
    rcases hF3 a ha with h5 | h5
    · exact n1 a h5
    · omega
  have inv0 : PlInv h g7 p t q s T Q empty 0 [] F3 :=
    ⟨hv3.congr fun a ha => fr37 a (by have := hF3lt a ha; omega) (by rintro rfl; exact htF3 ha), bt7, bq7, bs7, ⟨htF3, hqF, hsF⟩, x37, new3⟩
  refine ⟨fun want g => ∃ c at_ F, PlInv h g p t q s T Q want c at_ F, ⟨fun want i g => ∃ c at_ F, 0 ≤ i ∧ i ≤ 20 ∧ c ≤ 3 * i ∧ PlInv h g p t q s T Q want c at_ F, fun _ i _ => (20 - i).toNat, ⟨0, [], F3, by omega, by omega, by omega, inv0⟩, ?_⟩, ?_⟩
  · rintro want i g ⟨c, at_, Fc, i0, i1, hc, v⟩
    refine iteP_cases (fun hin => iteP_cases (fun hi20 => ⟨i0, hin, ?_⟩) fun _ => ⟨c, at_, Fc, v⟩) fun _ => ⟨c, at_, Fc, v⟩
    obtain ⟨a, x, ha, hab, hcell⟩ := hl i.toNat (by omega)
    rw [ha, wth_some]
    refine ⟨x, Ext.cell v.ext hcell, fun y g' => g' = g ∧ y.size ≤ 20, iteP_cases (fun hb => ⟨by omega, by omega, rfl, ?_⟩) (fun hb => ⟨rfl, by omega⟩), ?_⟩
    · rw [ByteArray.size_extract]; omega
    rintro y g' ⟨rfl, hy⟩
    refine ⟨fun j g'' => g'' = g' ∧ ∃ jn : Nat, j = (jn : Int) ∧ jn < 8 ∧ Q[jn]? = some (.pointer (some ⟨s, 0, none⟩)), iteP_split (fun _ => ⟨rfl, 1, rfl, by decide, hQ1⟩) (fun _ => ⟨rfl, 0, rfl, by decide, hQ0⟩), ?_⟩
    rintro j g'' ⟨rfl, jn, rfl, hjn, hQj⟩
    refine c_fdsGet v.tb hT0 jn hjn v.pr hQj v.sh fun g2' x2' => ⟨_, _, _, _, rfl, ?_⟩
    rw [zeroOpen]
    refine newB fun g3' b3' x3' z3' => set3 b3' fun g4' b4' st4' z4' => iteP_nne rfl ⟨_, cellB b4' rfl, iteP_nne rfl ⟨_, cellB b4' rfl, _, cellB b4' rfl, ?_⟩⟩
    have z2' := x2'.size
    have x4' : Ext g'' g4' := Ext.thenNew (x2'.trans x3') st4' (by simp; omega)
    have v4 := v.exts x4'
    obtain ⟨_, _, _, _, _, _, _, _, _, _, _, _, hwf, _⟩ := id v.st
    refine c_Write v4.st (by omega) 1 want.size y fun g5' F5 hv5 st5' => ?_
    have hpw := placed_write hwf y
    have hltF := v.st.lt
    have hb4lt := lt_of_at b4'
    have hnb : g2'.size ∉ Fc := fun hh => by have := hltF _ hh; omega
    have hF5 : ∀ a, a < g4'.size → a ∉ Fc → a ∉ F5 := fun a ha h1 h2 => by
      rcases st5'.foot a h2 with h5 | h5
      · exact h1 h5
      · omega
    have z5' := st5'.size
    have hnew5 : ∀ a ∈ F5, h.size ≤ a := fun a ha => by
      rcases st5'.foot a ha with h5 | h5
      · exact v.new a h5
      · have := v4.ext.size; omega
    have ext5 : Ext h g5' := v4.ext.thenNew st5' v.new
    have tb5 := st5'.at v4.tb v.out.1
    have pr5 := st5'.at v4.pr v.out.2.1
    have sh5 := st5'.at v4.sh v.out.2.2
    have out5 : t ∉ F5 ∧ q ∉ F5 ∧ s ∉ F5 := ⟨hF5 t (lt_of_at v4.tb) v.out.1, hF5 q (lt_of_at v4.pr) v.out.2.1, hF5 s (lt_of_at v4.sh) v.out.2.2⟩
    have b5' := st5'.at b4' hnb
    have hmes : (20 - IntKind.wrap .i64 (i + 1)).toNat < (20 - i).toNat := by
      rw [wrap64 (x := i + 1) (by omega) (by omega)]; omega
    have hw20 : want.size ≤ 96 := hwf.tx _ (List.mem_singleton.2 rfl)
    by_cases hfit : want.size + y.size ≤ 96
    · obtain ⟨at', e⟩ := hpw.2 hfit
      rw [e] at hv5 ⊢
      simp only at hv5
      refine ⟨_, rfl, iteP_nne rfl ⟨by omega, _, cellB b5' rfl, ?_⟩⟩
      refine c_fdsMove tb5 hT0 jn hjn pr5 hQj sh5 _ fun g6' b6' st6' z6' => ⟨_, rfl, iteP_nne rfl ⟨⟨c + 3, at', F5, ?_, ?_, ?_, ?_⟩, hmes⟩⟩
      · rw [wrap64 (x := i + 1) (by omega) (by omega)]; omega
      · rw [wrap64 (x := i + 1) (by omega) (by omega)]; omega
      · rw [wrap64 (x := i + 1) (by omega) (by omega)]; omega
      · rw [wrap64 (x := (want.size : Int) + (y.size : Nat)) (by omega) (by omega)] at b6'
        have hslt := lt_of_at v.sh
        have hsh := v.ext.size
        have fr6 : ∀ a, a < g5'.size → a ≠ s → g6'[a]? = g5'[a]? := fun a ha h1 => st6'.frame a ha (by simpa using h1)
        refine ⟨hv5.congr fun a ha => fr6 a (hv5.lt a ha) (by rintro rfl; exact out5.2.2 ha), ?_, ?_, ?_, out5, ?_, hnew5⟩
        · rw [fr6 t (lt_of_at tb5) (Ne.symm hst)]; exact tb5
        · rw [fr6 q (lt_of_at pr5) (Ne.symm hsq)]; exact pr5
        · rw [b6', ByteArray.size_append]; rfl
        · exact ext5.thenNew st6' (by simp; omega)
    · have e := hpw.1 (by omega)
      rw [e] at hv5 ⊢
      simp only at hv5
      refine ⟨_, rfl, iteP_ne (by show (2 : Int) ≠ 0; decide) (iteP_nne rfl (iteP_no ?_ ⟨⟨c + 3, at_, F5, ?_, ?_, ?_, ⟨hv5, tb5, pr5, sh5, out5, ext5, hnew5⟩⟩, hmes⟩))⟩
      · rw [wrap64 (x := (want.size : Int) + (y.size : Nat)) (by omega) (by omega)]; omega
      · rw [wrap64 (x := i + 1) (by omega) (by omega)]; omega
      · rw [wrap64 (x := i + 1) (by omega) (by omega)]; omega
      · rw [wrap64 (x := i + 1) (by omega) (by omega)]; omega
  · rintro want g ⟨c, at_, Fc, v⟩
    obtain ⟨_, _, _, _, _, _, _, _, _, _, _, _, hwf, _⟩ := id v.st
    refine c_Read v.st 1 0 96 fun g2 x2 => ?_
    rw [placed_read hwf]
    have v2 := v.exts x2
    refine ⟨_, _, rfl, c_fdsClose v2.tb hT0 0 (by decide) hQ8 v2.pr hQ0 v2.sh (by omega) fun g3 bq3 bs3 st3 => ⟨_, _, _, _, _, rfl, ?_⟩⟩
    rw [zeroOpen]
    refine newB fun g4 b4 x4 z4 => set3 b4 fun g5 b5 st5 z5 => ?_
    have x35 : Ext g3 g5 := x4.thenNew st5 (by simp)
    have bt3 := st3.at v2.tb (by simp; exact ⟨Ne.symm hqt, Ne.symm hst⟩)
    refine c_fdsClose (x35.at bt3) hT0 1 (by decide) (by simpa using hQ8) (x35.at bq3) (by rw [Array.getElem?_setIfInBounds_ne (by decide)]; exact hQ1) (x35.at bs3) (by omega) fun g6 bq6 bs6 st6 => ⟨_, _, _, _, _, rfl, ?_⟩
    refine newB fun g7 b7 x7 z7 => set3 b7 fun g8 b8 st8 z8 => ?_
    refine iteP_eq rfl (iteP_t (by simp) (iteP_eq rfl (iteP_eq rfl (iteP_t rfl ?_))))
    have e : (((2 : Int) - 1 - 1) == 0) = true := by decide
    rw [e]
    refine hK g8 ?_
    have hq' := hqt
    have hqn : h.size ≤ q := by omega
    have hsn : h.size ≤ s := by omega
    have hqs : ∀ a ∈ [q, s], h.size ≤ a := by simp; omega
    have e3 : Ext h g3 := v2.ext.thenNew st3 hqs
    have e6 : Ext h g6 := Ext.thenNew (e3.trans x35) st6 hqs
    have z6 := e6.size
    exact Ext.thenNew (e6.trans x7) st8 (by simp; omega)
end
end Go.Proofs.Ytmdhfmljgjnggaa
