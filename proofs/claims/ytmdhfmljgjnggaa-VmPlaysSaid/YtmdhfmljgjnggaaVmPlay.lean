/- The law of vm: deeds on both, whatever the deeds; VmPlays. No condition. -/
import Derived.Test.YtmdhfmljgjnggaaVmLaw
namespace Go.Proofs.Ytmdhfmljgjnggaa
attribute [local irreducible] semWP
set_option linter.constructorNameAsVariable false
/-- A row of deeds from p on, in blocks below B. -/
def DeedsAt (h : Hp) (p : Option Addr) (n B : Nat) : Prop := ∀ i : Nat, i < n → ∃ ad : Addr, p = some ad ∧ ad.block < B ∧ ∃ (a b c d e : Int) (bp : Option Addr) (bn bk : Nat) (bs : List Int),
  cellAt h (ad.add (i * 6)) = some (.int .i64 a) ∧ cellAt h ((ad.add (i * 6)).add 1) = some (.int .i64 b) ∧ cellAt h ((ad.add (i * 6)).add 2) = some (.int .i64 c) ∧ cellAt h ((ad.add (i * 6)).add 3) = some (.int .i64 d) ∧
  cellAt h ((ad.add (i * 6)).add 4) = some (.int .u8 e) ∧ cellAt h ((ad.add (i * 6)).add 5) = some (.slice bp bn bk) ∧ RdAt h bp (bs.map (.int .u8)) B ∧ bs.length = bn ∧ bn ≤ bk
theorem DeedsAt.low {h h' : Hp} {p : Option Addr} {n B : Nat} (hd : DeedsAt h p n B) (hl : Low B h h') : DeedsAt h' p n B := by
  intro i hi
  obtain ⟨ad, h1, h2, a, b, c, d, e, bp, bn, bk, bs, c0, c1, c2, c3, c4, c5, r, l1, l2⟩ := hd i hi
  have hs : ∀ x y, cellAt h' ((ad.add x).add y) = cellAt h ((ad.add x).add y) := fun x y => cellAt_same (hl _ (by rw [Addr.add_block, Addr.add_block]; exact h2))
  have hs0 : ∀ x, cellAt h' (ad.add x) = cellAt h (ad.add x) := fun x => cellAt_same (hl _ (by rw [Addr.add_block]; exact h2))
  exact ⟨ad, h1, h2, a, b, c, d, e, bp, bn, bk, bs, by rw [hs0]; exact c0, by rw [hs]; exact c1, by rw [hs]; exact c2, by rw [hs]; exact c3, by rw [hs]; exact c4, by rw [hs]; exact c5, r.low hl, l1, l2⟩
section
variable {h : Hp} {B : Nat} {K : Value → Hp → Prop}
theorem rd_nil {h : Hp} {B : Nat} : RdAt h none (([] : List Int).map (.int .u8)) B := fun i v hv => by simp at hv
set_option maxHeartbeats 1000000 in
theorem c_play (x : Int) (hx0 : 0 ≤ x) (hx1 : x < 256) {p : Option Addr} {n c : Nat} (hd : DeedsAt h p n B) (hB : B ≤ h.size)
    (hK : ∀ h' v r s F G, BothAt B h' v r s F G → Low B h h' → h.size ≤ h'.size → K (.tuple #[.pointer (some ⟨v, 0, none⟩), .pointer (some ⟨r, 0, none⟩), .bool true]) h') :
    CallsH Try.prog f_law19_play #[.int .u8 x, .slice p n c] h K := by
  refine q_law19_play_calls x p n c h K ?_
  unfold q_law19_play
  have e1 : IntKind.wrap .i64 ((Int.tmod (IntKind.wrap .i64 x) 8) + 1) = x % 8 + 1 := by
    rw [wrap64 (x := x) (by omega) (by omega), show Int.tmod x 8 = x % 8 from tmod_nn hx0, wrap64 (by omega) (by omega)]
  rw [e1]
  refine c_vm_New _ (fun hb => by omega) fun n1 n2 h1 v F v1 x1 f1 => ⟨_, rfl, r19_New _ (by omega) (by omega) fun h2 r G r2 x2 g2 => ⟨_, rfl, iteP_f rfl (iteP_f rfl ?_)⟩⟩
  have hb2 : BothAt B h2 v r (newS (x % 8 + 1).toNat) F G := ⟨v1.ext x2, r2, fun q hq hf => by have := g2 q hq; have := v1.lt q hf; omega, fun q hq => by have := f1 q hq; omega, fun q hq => by have := g2 q hq; have := x1.size; omega, by have := x1.size; have := x2.size; omega⟩
  have l2 : Low B h h2 := Low.step (x1.trans x2) hB (by simp)
  have z2 := (x1.trans x2).size
  refine c_do hb2 0 0 0 0 0 rd_nil rfl (Nat.le_refl _) fun h3 s3 F3 G3 hb3 l3 z3 => ⟨_, rfl, iteP_f rfl ?_⟩
  refine ⟨fun i g => 0 ≤ i ∧ i ≤ 3 ∧ ∃ s F G, BothAt B g v r s F G ∧ Low B h g ∧ h.size ≤ g.size, fun i _ => (3 - i).toNat, ⟨by decide, by decide, s3, F3, G3, hb3, l2.trans l3, by omega⟩, ?_⟩
  rintro i g ⟨i0, i1, s, F, G, hb, lg, zg⟩
  refine iteP_cases (fun hi => ?_) fun hi => ?_
  · refine c_do hb 3 0 0 i 0 rd_nil rfl (Nat.le_refl _) fun g' s' F' G' hb' l' z' => ⟨_, rfl, iteP_f rfl ?_⟩
    rw [wrap64 (x := i + 1) (by omega) (by omega)]
    exact ⟨⟨by omega, by omega, s', F', G', hb', lg.trans l', by omega⟩, by show (3 - (i + 1)).toNat < (3 - i).toNat; omega⟩
  · refine ⟨fun i g => 0 ≤ i ∧ i ≤ 40 ∧ ∃ s F G, BothAt B g v r s F G ∧ Low B h g ∧ h.size ≤ g.size, fun i _ => (40 - i).toNat, ⟨by decide, by decide, s, F, G, hb, lg, zg⟩, ?_⟩
    rintro i g ⟨i0, i1, s, F, G, hb, lg, zg⟩
    refine iteP_cases (fun hi => iteP_cases (fun hi4 => ?_) fun _ => hK g v r s F G hb lg zg) fun _ => hK g v r s F G hb lg zg
    obtain ⟨ad, rfl, _, a, b, c', d, e, bp, bn, bk, bs, c0, c1, c2, c3, c4, c5, rd, l1, l2⟩ := hd.low lg i.toNat (by omega)
    refine ⟨i0, hi, ?_⟩
    rw [wth_some]
    refine ⟨_, c0, _, c1, _, c2, _, c3, _, c4, _, _, _, c5, c_do hb a b c' d e rd l1 l2 fun g' s' F' G' hb' l' z' => ⟨_, rfl, iteP_f rfl ?_⟩⟩
    rw [wrap64 (x := i + 1) (by omega) (by omega)]
    exact ⟨⟨by omega, by omega, s', F', G', hb', lg.trans l', by omega⟩, by show (40 - (i + 1)).toNat < (40 - i).toNat; omega⟩
theorem c_VmPlays (x : Int) (hx0 : 0 ≤ x) (hx1 : x < 256) {p : Option Addr} {n c : Nat} (hd : DeedsAt h p n h.size) (hK : ∀ h', Ext h h' → K (.bool true) h') :
    CallsH Try.prog f_law19_VmPlays #[.int .u8 x, .slice p n c] h K := by
  refine q_law19_VmPlays_calls x p n c h K ?_
  unfold q_law19_VmPlays
  refine c_play x hx0 hx1 hd (Nat.le_refl _) fun h1 v r s F G hb l1 z1 => ⟨_, _, _, rfl, c_live fun h2 x2 => ⟨_, rfl, iteP_t rfl (iteP_t rfl ?_)⟩⟩
  refine c_same (hb.ext x2) fun h3 x3 => ⟨_, rfl, hK h3 ⟨by have := x2.size; have := x3.size; omega, fun q hq _ => ?_, by simp⟩⟩
  rw [x3.frame q (by have := x2.size; omega) (by simp), x2.frame q (by omega) (by simp), l1 q hq]
end
end Go.Proofs.Ytmdhfmljgjnggaa
