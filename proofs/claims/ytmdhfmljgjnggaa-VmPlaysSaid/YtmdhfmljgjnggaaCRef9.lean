/- The reference of vm: Pages, Fill, New. No condition. -/
import Derived.Test.YtmdhfmljgjnggaaCRef8
namespace Go.Proofs.Ytmdhfmljgjnggaa
attribute [local irreducible] semWP
set_option linter.constructorNameAsVariable false
section
variable {h h' : Hp} {r : Nat} {s : VmS} {K : Value → Hp → Prop} {F : List Nat}
def pagesTo (s : VmS) (pid : Int) (k : Nat) : List Int := ((List.range k).map fun (i : Nat) => (i : Int)).filter fun i => pgOf s pid i != -2
theorem pagesTo_succ (s : VmS) (pid : Int) (k : Nat) : pagesTo s pid (k + 1) = pagesTo s pid k ++ if pgOf s pid k = -2 then [] else [(k : Int)] := by
  unfold pagesTo
  rw [List.range_succ, List.map_append, List.filter_append]
  congr 1
  by_cases hp : pgOf s pid k = -2 <;> simp [hp]
theorem pagesTo_len (s : VmS) (pid : Int) (k : Nat) : (pagesTo s pid k).length ≤ k := by
  unfold pagesTo
  refine Nat.le_trans (List.length_filter_le ..) ?_
  simp
theorem r_Pages (hv : RefRep h r s F) (pid : Int) (hK : ∀ h' p n c F', SlAt h' T_int 1 p n c ((pagesS s pid).map (.int .i64)) F' → Ext h h' → (∀ q ∈ F', h.size ≤ q) → K (.slice p n c) h') :
    CallsH Try.prog f_ref19_Vm_Pages #[.pointer (some ⟨r, 0, none⟩), .int .i64 pid] h K := by
  have hv0 := hv
  obtain ⟨m, f, rfl, ha, hw⟩ := hv
  refine q_ref19_Vm_Pages_calls r pid h K ?_
  unfold q_ref19_Vm_Pages
  refine ⟨fun x i hc => ∃ G, 0 ≤ i ∧ i ≤ 16 ∧ SlAt hc T_int 1 x.1 x.2.1 x.2.2 ((pagesTo s pid i.toNat).map (.int .i64)) G ∧ Ext h hc ∧ ∀ q ∈ G, h.size ≤ q, fun _ i _ => (16 - i).toNat, ⟨[], by omega, by omega, SlAt.nil _ _ _, Step.refl _ _, by simp⟩, ?_⟩
  rintro ⟨p, n, c⟩ i hc ⟨G, i0, i1, sc, xc, gc⟩
  have hac : RefAt hc r m f s := ha.congr fun q hq => xc.frame q (hv0.lt q hq) (by simp)
  have hlen := pagesTo_len s pid i.toNat
  have hn : n = (pagesTo s pid i.toNat).length := by have := sc.len; simp at this; omega
  refine r_vmay hac pid ⟨_, rfl, ?_⟩
  cases hh : hasOf s pid with
  | false =>
    refine iteP_neq (by decide) ?_
    have e : ∀ k, pagesTo s pid k = [] := fun k => by
      unfold pagesTo; rw [List.filter_eq_nil_iff]; intro a _; simp [hw.off pid a hh]
    rw [e] at sc
    refine hK hc p n c G ?_ xc gc
    rw [show pagesS s pid = [] from e 16]; exact sc
  | true =>
    obtain ⟨h1, h2⟩ := hasOf_in hh
    refine iteP_eq rfl (iteP_cases (fun hi => ⟨h1, h2, i0, hi, _, hac.map h1 h2 i0 hi, ?_⟩) fun hi => ?_)
    · have ei : ((i.toNat : Nat) : Int) = i := by omega
      have es := pagesTo_succ s pid i.toNat
      rw [ei] at es
      have e1 : (i + 1).toNat = i.toNat + 1 := by omega
      have hmu : (16 - (i + 1)).toNat < (16 - i).toNat := by omega
      rw [wrap64 (x := i + 1) (by omega) (by omega)]
      by_cases hp : pgOf s pid i = -2
      · refine iteP_f (by simp [hp]) ⟨⟨G, by omega, by omega, ?_, xc, gc⟩, hmu⟩
        rw [e1, es, if_pos hp, List.append_nil]; exact sc
      · refine iteP_t (by simpa using hp) (letH_iff.2 ?_)
        have x1 : Ext hc (hc.push (.cells #[.int .i64 i] T_int)) := Ext.push _ _
        have b1 : (hc.push (.cells #[.int .i64 i] T_int))[hc.size]? = some (.cells #[.int .i64 i] T_int) := push_new _ _
        have gl : ∀ q ∈ G, q < hc.size := fun q hq => by
          rcases sc.is with ⟨_, _, hG⟩ | ⟨b, o, cs, _, hG, hb, _, _⟩
          · rw [hG] at hq; simp at hq
          · rw [hG] at hq; simp at hq; rw [hq]; exact lt_of_at hb
        generalize hc.push (.cells #[.int .i64 i] T_int) = g at *
        refine semWP_append (t := T_s_int) (xt := T_s_int) (el := T_int) (xel := T_int) (i := Try.prog.types[T_int]!) (sz := 1) (by rfl) (by rfl) (by kernel_rfl) (by kernel_rfl) (by kernel_rfl) (by kernel_rfl) (by kernel_rfl) (by kernel_rfl) (by kernel_rfl) (by decide +kernel) (by show n + 1 ≤ _; omega)
          (sc.congr fun q hq => x1.frame q (gl q hq) (by simp)) (xs := [.int .i64 i]) (G := [hc.size]) ⟨by simp, by omega, .inr ⟨hc.size, 0, _, rfl, rfl, b1, by simp, by simp⟩⟩ (by simp [oneV]) fun h6 p6 c6 F6 s6 st6 => ⟨_, _, _, rfl, ⟨F6, by omega, by omega, ?_, ?_, fun q hq => ?_⟩, hmu⟩
        · rw [e1, es, if_neg hp, List.map_append]; exact s6
        · refine ⟨by have := xc.size; have := x1.size; have := st6.size; omega, fun q hq _ => ?_, by simp⟩
          have : q ∉ G := fun hqg => by have := gc q hqg; omega
          have h7 := xc.size
          have h8 := x1.size
          rw [st6.frame q (by omega) this, x1.frame q (by omega) (by simp), xc.frame q hq (by simp)]
        · rcases st6.foot q hq with h7 | h7
          · exact gc q h7
          · have := xc.size; have := x1.size; omega
    · have : i.toNat = 16 := by omega
      rw [this] at sc
      exact hK hc p n c G sc xc gc
theorem spanN_pos {addr : Int} {n : Nat} (hn : 1 ≤ n) (ha : 0 ≤ addr) : (spanN addr n : Int) = (addr + n - 1) / 32 - addr / 32 + 1 := by unfold spanN; omega
/-- How many pages the first bytes meet. -/
def metN (addr : Int) (n : Nat) : Nat := if n = 0 then 0 else spanN addr n
theorem metN_new {addr : Int} {i : Nat} (ha : 0 ≤ addr) (h : i = 0 ∨ (addr + i) % 32 = 0) : metN addr (i + 1) = metN addr i + 1 ∧ addr / 32 + (metN addr i : Nat) = (addr + i) / 32 := by
  unfold metN
  have e1 := spanN_pos (addr := addr) (n := i + 1) (by omega) ha
  by_cases hi : i = 0
  · subst hi; simp only [if_true] at *; constructor <;> simp at * ; omega
  · have e2 := spanN_pos (addr := addr) (n := i) (by omega) ha
    rw [if_neg (by omega), if_neg hi]
    constructor <;> omega
theorem metN_old {addr : Int} {i : Nat} (ha : 0 ≤ addr) (h1 : i ≠ 0) (h2 : (addr + i) % 32 ≠ 0) : metN addr (i + 1) = metN addr i := by
  unfold metN
  have e1 := spanN_pos (addr := addr) (n := i + 1) (by omega) ha
  have e2 := spanN_pos (addr := addr) (n := i) (by omega) ha
  rw [if_neg (by omega), if_neg h1]
  omega
set_option maxHeartbeats 1000000 in
theorem r_Fill (hv : RefRep h r s F) (pid addr : Int) {p : Option Addr} {n c B : Nat} {bs : List Int} (hs : RdAt h p (bs.map (.int .u8)) B) (hbn : bs.length = n) (hB : B ≤ h.size) (hG : ∀ q ∈ F, B ≤ q)
    (hK : ∀ h', RefRep h' r (fillS s pid addr bs).2 F → Step h h' F F → K (.int .i64 (fillS s pid addr bs).1) h') :
    CallsH Try.prog f_ref19_Vm_Fill #[.pointer (some ⟨r, 0, none⟩), .int .i64 pid, .int .i64 addr, .slice p n c] h K := by
  have hv0 := hv
  obtain ⟨m, f, rfl, ha, hw⟩ := hv
  refine q_ref19_Vm_Fill_calls r pid addr p n c h K ?_
  unfold q_ref19_Vm_Fill
  unfold fillS at hK
  rw [hbn] at hK
  refine r_vmay ha pid ⟨_, rfl, ?_⟩
  cases hh : hasOf s pid with
  | false => rw [if_pos hh] at hK; exact iteP_ne (by decide) (hK h hv0 (Step.refl _ _))
  | true =>
  rw [if_neg (by simp [hh])] at hK
  obtain ⟨p1, p2⟩ := hasOf_in hh
  refine iteP_nne rfl ?_
  have hbad : (addr < 0 ∨ 512 ≤ addr ∨ 512 - addr < n) → K (.int .i64 2) h := fun hx => by
    rw [if_pos hx] at hK; exact hK h hv0 (Step.refl _ _)
  refine iteP_cases (fun h1 => hbad (.inl h1)) fun h1 => iteP_cases (fun h2 => hbad (.inr (.inl h2))) fun h2 => ?_
  rw [wrap64 (x := 512 - addr) (by omega) (by omega)]
  refine iteP_cases (fun h3 => hbad (.inr (.inr h3))) fun h3 => ?_
  rw [if_neg (by omega)] at hK
  have hfin : ∀ {g}, Ext h g → RefRep g r s [r, m, f] := fun x => hv0.ext x
  have hst : ∀ {g}, Ext h g → Step h g [r, m, f] [r, m, f] := fun x => x.mono (by simp) fun _ hr => .inr hr
  have hdone : ∀ {g}, Ext h g → n ≠ 0 → mappedN s pid (addr / 32) (spanN addr n) = false → K (.int .i64 10) g := fun x hn0 hm => by
    rw [if_neg hn0, if_pos hm] at hK; exact hK _ (hfin x) (hst x)
  refine ⟨fun a i hc => 0 ≤ i ∧ i ≤ n ∧ a = needN s pid (addr / 32) (metN addr i.toNat) ∧ mappedN s pid (addr / 32) (metN addr i.toNat) = true ∧ Ext h hc, fun _ i _ => ((n : Int) - i).toNat, ⟨by omega, by omega, by simp [metN, needN], by simp [metN, mappedN], Step.refl _ _⟩, ?_⟩
  rintro a i hc ⟨i0, i1, rfl, hmp, xc⟩
  have hac : RefAt hc r m f s := ha.congr fun q hq => xc.frame q (hv0.lt q hq) (by simp)
  have hvc : RefRep hc r s [r, m, f] := hfin xc
  have hnl := needN_le s pid (addr / 32) (metN addr i.toNat)
  refine iteP_cases (fun hi => ?_) fun hi => ?_
  · rw [wrap64 (x := addr + i) (by omega) (by omega), wrap64 (x := i + 1) (by omega) (by omega), tdiv32 (by omega) (by omega), tmod32 (by omega)]
    have hmet : metN addr i.toNat ≤ 17 := by
      unfold metN spanN; split <;> omega
    rw [wrap64 (x := needN s pid (addr / 32) (metN addr i.toNat) + 1) (by omega) (by omega)]
    have hmu : ((n : Int) - (i + 1)).toNat < ((n : Int) - i).toNat := by omega
    have e1 : (i + 1).toNat = i.toNat + 1 := by omega
    have ei : ((i.toNat : Nat) : Int) = i := by omega
    refine r_at hac pid (addr + i) ⟨_, rfl, ?_⟩
    have hae : addrE s pid (addr + i) = if pgOf s pid ((addr + i) / 32) = -2 then 10 else 0 := by
      unfold addrE; rw [if_neg (by simp [hh]), if_neg (by omega)]
    rw [hae]
    by_cases hp : pgOf s pid ((addr + i) / 32) = -2
    · rw [if_pos hp]
      have hsp := spanN_pos (addr := addr) (n := n) (by omega) (by omega)
      exact iteP_ne (by decide) (hdone xc (by omega) (mappedN_false (j := ((addr + i) / 32 - addr / 32).toNat) (by rw [show addr / 32 + (((addr + i) / 32 - addr / 32).toNat : Nat) = (addr + i) / 32 by omega]; exact hp) (by omega)))
    · rw [if_neg hp]
      refine iteP_nne rfl ?_
      have g0 : 0 ≤ (addr + i) / 32 := by omega
      have g1 : (addr + i) / 32 < 16 := by omega
      have hnew : (i = 0 ∨ (addr + i) % 32 = 0) → metN addr (i.toNat + 1) = metN addr i.toNat + 1 ∧ addr / 32 + (metN addr i.toNat : Nat) = (addr + i) / 32 := fun ho => by
        have := metN_new (addr := addr) (i := i.toNat) (by omega) (by omega)
        rw [ei] at this
        exact this
      have hA : (i = 0 ∨ (addr + i) % 32 = 0) → mappedN s pid (addr / 32) (metN addr (i + 1).toNat) = true ∧ needN s pid (addr / 32) (metN addr (i + 1).toNat) = needN s pid (addr / 32) (metN addr i.toNat) + if aloneS s pid ((addr + i) / 32) = true then 0 else 1 := fun ho => by
        obtain ⟨q1, q2⟩ := hnew ho
        rw [e1, q1]
        refine ⟨?_, by simp only [needN, q2]⟩
        simp only [mappedN, q2, hmp]
        simpa using hp
      have hB : (i = 0 ∨ (addr + i) % 32 = 0) → CallsH Try.prog f_ref19_Vm_needs #[.pointer (some ⟨r, 0, none⟩), .agg #[.bool (pgOf s pid ((addr + i) / 32) != -2), .int .i64 (frm (pgOf s pid ((addr + i) / 32)))]] hc fun r14 h15 => ∃ b16 : Bool, r14 = .bool b16 ∧ iteP b16 ((0 ≤ i + 1 ∧ i + 1 ≤ n ∧ needN s pid (addr / 32) (metN addr i.toNat) + 1 = needN s pid (addr / 32) (metN addr (i + 1).toNat) ∧ mappedN s pid (addr / 32) (metN addr (i + 1).toNat) = true ∧ Ext h h15) ∧ ((n : Int) - (i + 1)).toNat < ((n : Int) - i).toNat)
          ((0 ≤ i + 1 ∧ i + 1 ≤ n ∧ needN s pid (addr / 32) (metN addr i.toNat) = needN s pid (addr / 32) (metN addr (i + 1).toNat) ∧ mappedN s pid (addr / 32) (metN addr (i + 1).toNat) = true ∧ Ext h h15) ∧ ((n : Int) - (i + 1)).toNat < ((n : Int) - i).toNat) := fun ho => by
        obtain ⟨q1, q2⟩ := hA ho
        refine r_needs hvc hp _ fun h5 x5 => ⟨_, rfl, iteP_split (fun hal => ⟨⟨by omega, by omega, ?_, q1, xc.trans x5⟩, hmu⟩) fun hal => ⟨⟨by omega, by omega, ?_, q1, xc.trans x5⟩, hmu⟩⟩
        · rw [q2, if_neg (by simpa using hal)]
        · rw [q2, if_pos (by simpa using hal)]; omega
      refine iteP_eqc (fun h0 => ⟨p1, p2, g0, g1, _, hac.map p1 p2 g0 g1, _, hac.frm p1 p2 g0 g1, hB (.inl h0)⟩) fun h0 => iteP_eqc (fun h0' => ⟨p1, p2, g0, g1, _, hac.map p1 p2 g0 g1, _, hac.frm p1 p2 g0 g1, hB (.inr h0')⟩) fun h0' => ⟨⟨by omega, by omega, ?_, ?_, xc⟩, hmu⟩
      · rw [e1, metN_old (by omega) (by omega) (by rw [ei]; exact h0')]
      · rw [e1, metN_old (by omega) (by omega) (by rw [ei]; exact h0')]; exact hmp
  · have hin : i.toNat = n := by omega
    rw [hin] at hmp hnl ⊢
    have hK3 : ∀ h', RefRep h' r (if leftS s < needN s pid (addr / 32) (metN addr n) then ((4 : Int), s) else ((0 : Int), pokesS s pid addr bs)).2 [r, m, f] → Step h h' [r, m, f] [r, m, f] → K (.int .i64 (if leftS s < needN s pid (addr / 32) (metN addr n) then ((4 : Int), s) else ((0 : Int), pokesS s pid addr bs)).1) h' := by
      intro h' a b
      by_cases hn0 : n = 0
      · have hb0 : bs = [] := List.eq_nil_of_length_eq_zero (by omega)
        have hl0 : 0 ≤ leftS s := by
          have := leftL_le (refsOf s.pg) s.n; exact this.1
        have e0 : metN addr n = 0 := by unfold metN; rw [if_pos hn0]
        rw [e0, show needN s pid (addr / 32) 0 = 0 from rfl, if_neg (by omega), hb0] at a ⊢
        rw [if_pos hn0] at hK
        exact hK h' a b
      · have e0 : metN addr n = spanN addr n := by unfold metN; rw [if_neg hn0]
        rw [e0] at a ⊢ hmp
        rw [if_neg hn0, if_neg (by simp [hmp])] at hK
        exact hK h' a b
    clear hK
    refine r_Left hvc ⟨_, rfl, iteP_cases (fun hl => ?_) fun hl => ?_⟩
    · rw [if_pos hl] at hK3; exact hK3 hc hvc (hst xc)
    rw [if_neg hl] at hK3
    refine ⟨fun j g => 0 ≤ j ∧ j ≤ n ∧ RefRep g r (pokesS s pid addr (bs.take j.toNat)) [r, m, f] ∧ Step h g [r, m, f] [r, m, f], fun j _ => ((n : Int) - j).toNat, ⟨by omega, by omega, hvc, hst xc⟩, ?_⟩
    rintro j g ⟨j0, j1, hvg, stg⟩
    refine iteP_cases (fun hj => ⟨j0, hj, ?_⟩) fun hj => ?_
    · have hjl : j.toNat < bs.length := by omega
      obtain ⟨a, rfl, ha, hcell⟩ := hs.low (Low.step stg hB hG) j.toNat (.int .u8 bs[j.toNat]) (by rw [List.getElem?_map, List.getElem?_eq_getElem hjl]; rfl)
      rw [wth_some, Nat.mul_one]
      refine ⟨_, hcell, ?_⟩
      rw [wrap64 (x := addr + j) (by omega) (by omega), wrap64 (x := j + 1) (by omega) (by omega)]
      refine r_Poke hvg pid (addr + j) _ fun h5 v5 st5 => ⟨_, rfl, ⟨by omega, by omega, ?_, stg.trans st5⟩, by show ((n : Int) - (j + 1)).toNat < ((n : Int) - j).toNat; omega⟩
      have e : bs.take (j + 1).toNat = bs.take j.toNat ++ [bs[j.toNat]] := by
        rw [show (j + 1).toNat = j.toNat + 1 by omega, List.take_add_one, List.getElem?_eq_getElem hjl]; rfl
      rw [e, pokesS_append, List.length_take, Nat.min_eq_left (by omega), show ((j.toNat : Nat) : Int) = j by omega]
      exact v5
    · have : bs.take j.toNat = bs := by rw [List.take_of_length_le]; omega
      rw [this] at hvg
      exact hK3 g hvg stg
end
end Go.Proofs.Ytmdhfmljgjnggaa
