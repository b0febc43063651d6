/- What the functions of the reference's memory do. No condition. -/
import Derived.Test.YtmdhfmljgjnggaaQref
import Derived.Test.YtmdhfmljgjnggaaCVm8
namespace Go.Proofs.Ytmdhfmljgjnggaa
attribute [local irreducible] semWP
set_option linter.constructorNameAsVariable false
/-- Block m is the reference's memory of n frames, whose bytes lie in block f. -/
structure MrAt (h : Hp) (m f n : Nat) (b : List Int) : Prop where
  mem : h[m]? = some (.cells #[.slice (some ⟨f, 0, none⟩) (n * 32) (n * 32)] T_N_ref06_Memory (0, 0))
  fr : h[f]? = some (.cells ⟨b.map (.int .u8)⟩ T_uint8 (0, 0))
  len : b.length = n * 32
  pos : 1 ≤ n
  le : n ≤ 64
theorem MrAt.congr {h h' : Hp} {m f n : Nat} {b : List Int} (hm : MrAt h m f n b) (h1 : h'[m]? = h[m]?) (h2 : h'[f]? = h[f]?) : MrAt h' m f n b :=
  ⟨by rw [h1]; exact hm.mem, by rw [h2]; exact hm.fr, hm.len, hm.pos, hm.le⟩
theorem MrAt.cell {h : Hp} {m f n : Nat} {b : List Int} (hm : MrAt h m f n b) : cellAt h ⟨m, 0, none⟩ = some (.slice (some ⟨f, 0, none⟩) (n * 32) (n * 32)) := by
  rw [cellAt_cells hm.mem]; rfl
theorem MrAt.ne {h : Hp} {m f n : Nat} {b : List Int} (hm : MrAt h m f n b) : m ≠ f := ne_cells hm.mem hm.fr (by decide)
theorem MrAt.over {h h' : Hp} {m f n : Nat} {b b' : List Int} (hm : MrAt h m f n b) (hf : h'[f]? = some (.cells ⟨b'.map (.int .u8)⟩ T_uint8 (0, 0))) (hb : b'.length = b.length) (hs : Step h h' [f] [f]) : MrAt h' m f n b' :=
  ⟨by rw [hs.frame m (lt_of_at hm.mem) (by simpa using hm.ne)]; exact hm.mem, hf, by rw [hb]; exact hm.len, hm.pos, hm.le⟩
section
variable {h : Hp} {m f n : Nat} {b : List Int} {K : Value → Hp → Prop}
theorem r_Size (hm : MrAt h m f n b) (hK : K (.int .i64 (n : Int)) h) : CallsH Try.prog f_ref06_Memory_Size #[.pointer (some ⟨m, 0, none⟩)] h K := by
  refine q_ref06_Memory_Size_calls m h K ?_
  unfold q_ref06_Memory_Size
  refine ⟨_, _, _, hm.cell, ?_⟩
  have := hm.le
  have e : IntKind.wrap .i64 (Int.tdiv ((n * 32 : Nat) : Int) 32) = n := by
    rw [show Int.tdiv ((n * 32 : Nat) : Int) 32 = ((n * 32 : Nat) : Int) / 32 from Int.tdiv_eq_ediv_of_nonneg (by omega)]
    rw [wrap64 (by omega) (by omega)]; omega
  rw [e]; exact hK
theorem r_may (hm : MrAt h m f n b) (i off many : Int) (h1 : 1 ≤ many) (h2 : many ≤ 32) (hbad : ¬ (0 ≤ i ∧ i < n ∧ 0 ≤ off ∧ off ≤ 32 - many) → K (.int .i64 2) h) (hok : 0 ≤ i → i < n → 0 ≤ off → off ≤ 32 - many → K (.int .i64 0) h) :
    CallsH Try.prog f_ref06_Memory_may #[.pointer (some ⟨m, 0, none⟩), .int .i64 i, .int .i64 off, .int .i64 many] h K := by
  refine q_ref06_Memory_may_calls m i off many h K ?_
  unfold q_ref06_Memory_may
  refine iteP_cases (fun hi => hbad (by omega)) fun hi => r_Size hm ⟨_, rfl, ?_⟩
  rw [wrap64 (x := 32 - many) (by omega) (by omega)]
  refine iteP_cases (fun hi => hbad (by omega)) fun hi2 => iteP_cases (fun hi => hbad (by omega)) fun hi3 => iteP_cases (fun hi => hbad (by omega)) fun hi4 => ?_
  exact hok (by omega) (by omega) (by omega) (by omega)
theorem MrAt.byte (hm : MrAt h m f n b) {x : Int} (h1 : 0 ≤ x) (h2 : x < n * 32) : cellAt h ((⟨f, 0, none⟩ : Addr).add (Int.toNat x * 1)) = some (.int .u8 ((b[x.toNat]?).getD 0)) := by
  rw [Addr.add_mk, cellAt_cells hm.fr, show 0 + x.toNat * 1 = x.toNat by omega]
  have hl : x.toNat < b.length := by rw [hm.len]; omega
  simp [hl]
theorem MrAt.set (hm : MrAt h m f n b) {x c : Int} (h1 : 0 ≤ x) : MrAt (setH h ((⟨f, 0, none⟩ : Addr).add (Int.toNat x * 1)) (.int .u8 c)) m f n (b.set x.toNat c) := by
  rw [Addr.add_mk, show 0 + x.toNat * 1 = x.toNat by omega]
  refine hm.over ?_ (by simp) (Step.setH (by simp))
  rw [setH_same hm.fr]
  simp [List.map_set]
theorem r_Byte (hm : MrAt h m f n b) (i off : Int) (h1 : 0 ≤ i) (h2 : i < n) (h3 : 0 ≤ off) (h4 : off < 32) (hK : K (.tuple #[.int .u8 (byteAt b i off), .int .i64 0]) h) :
    CallsH Try.prog f_ref06_Memory_Byte #[.pointer (some ⟨m, 0, none⟩), .int .i64 i, .int .i64 off] h K := by
  refine q_ref06_Memory_Byte_calls m i off h K ?_
  unfold q_ref06_Memory_Byte
  have hle := hm.le
  refine r_may hm i off 1 (by omega) (by omega) (fun hb => (hb ⟨h1, h2, h3, by omega⟩).elim) fun _ _ _ _ => ⟨_, rfl, iteP_nne rfl ⟨_, _, _, hm.cell, ?_⟩⟩
  rw [wrap64 (x := i * 32) (by omega) (by omega), wrap64 (x := i * 32 + off) (by omega) (by omega), wth_some]
  exact ⟨by omega, by omega, _, hm.byte (by omega) (by omega), hK⟩
theorem r_SetByte (hm : MrAt h m f n b) (i off c : Int) (h1 : 0 ≤ i) (h2 : i < n) (h3 : 0 ≤ off) (h4 : off < 32)
    (hK : ∀ h', MrAt h' m f n (b.set (i * 32 + off).toNat c) → Step h h' [f] [f] → h'.size = h.size → K (.int .i64 0) h') :
    CallsH Try.prog f_ref06_Memory_SetByte #[.pointer (some ⟨m, 0, none⟩), .int .i64 i, .int .i64 off, .int .u8 c] h K := by
  refine q_ref06_Memory_SetByte_calls m i off c h K ?_
  unfold q_ref06_Memory_SetByte
  have hle := hm.le
  refine r_may hm i off 1 (by omega) (by omega) (fun hb => (hb ⟨h1, h2, h3, by omega⟩).elim) fun _ _ _ _ => ⟨_, rfl, ?_⟩
  refine iteP_nne rfl ⟨_, _, _, hm.cell, ?_⟩
  rw [wrap64 (x := i * 32) (by omega) (by omega), wrap64 (x := i * 32 + off) (by omega) (by omega), wth_some]
  refine ⟨by omega, by omega, ⟨_, hm.byte (by omega) (by omega)⟩, by rw [Addr.add_mk]; exact frozenAt_cells hm.fr, letH_iff.2 ?_⟩
  exact hK _ (hm.set (by omega)) (by rw [Addr.add_mk]; exact Step.setH (by simp)) (setH_size _ _ _)
theorem over_snoc {α : Type} : ∀ {cs zs : List α} {off : Nat} {c : α}, over zs off (cs ++ [c]) = (over zs off cs).set (off + cs.length) c := by
  intro cs
  induction cs with
  | nil => intro zs off c; simp [over]
  | cons x cs ih =>
    intro zs off c
    simp only [List.cons_append, over, ih, List.length_cons]
    congr 1
    omega
theorem r_Zero (hm : MrAt h m f n b) (i : Int) (h1 : 0 ≤ i) (h2 : i < n)
    (hK : ∀ h', MrAt h' m f n (over b (i.toNat * 32) (List.replicate 32 0)) → Step h h' [f] [f] → h'.size = h.size → K (.int .i64 0) h') :
    CallsH Try.prog f_ref06_Memory_Zero #[.pointer (some ⟨m, 0, none⟩), .int .i64 i] h K := by
  refine q_ref06_Memory_Zero_calls m i h K ?_
  unfold q_ref06_Memory_Zero
  have hle := hm.le
  refine r_may hm i 0 1 (by omega) (by omega) (fun hb => (hb ⟨h1, h2, by omega, by omega⟩).elim) fun _ _ _ _ => ⟨_, rfl, iteP_nne rfl ?_⟩
  rw [wrap64 (x := i * 32) (by omega) (by omega)]
  refine ⟨fun j hc => 0 ≤ j ∧ j ≤ 32 ∧ MrAt hc m f n (over b (i.toNat * 32) (List.replicate j.toNat 0)) ∧ Step h hc [f] [f] ∧ hc.size = h.size, fun j _ => (32 - j).toNat, ⟨by omega, by omega, by simpa [over] using hm, Step.refl _ _, rfl⟩, ?_⟩
  rintro j hc ⟨j0, j1, mc, sc, zc⟩
  refine iteP_cases (fun hj => ⟨_, _, _, mc.cell, ?_⟩) fun hj => ?_
  · rw [wrap64 (x := i * 32 + j) (by omega) (by omega), wrap64 (x := j + 1) (by omega) (by omega), wth_some]
    refine ⟨by omega, by omega, ⟨_, mc.byte (by omega) (by omega)⟩, by rw [Addr.add_mk]; exact frozenAt_cells mc.fr, letH_iff.2 ⟨⟨by omega, by omega, ?_, sc.trans (by rw [Addr.add_mk]; exact Step.setH (by simp)), by rw [setH_size, zc]⟩, by show (32 - (j + 1)).toNat < (32 - j).toNat; omega⟩⟩
    have := mc.set (x := i * 32 + j) (c := 0) (by omega)
    have e : over b (i.toNat * 32) (List.replicate (j + 1).toNat 0) = (over b (i.toNat * 32) (List.replicate j.toNat 0)).set (i * 32 + j).toNat 0 := by
      rw [show (j + 1).toNat = j.toNat + 1 by omega, List.replicate_succ', over_snoc, List.length_replicate]
      congr 1; omega
    rw [e]; exact this
  · have : j.toNat = 32 := by omega
    rw [this] at mc
    exact hK hc mc sc zc
theorem r_Copy (hm : MrAt h m f n b) (i k : Int) (h1 : 0 ≤ i) (h2 : i < n) (h3 : 0 ≤ k) (h4 : k < n)
    (hK : ∀ h', MrAt h' m f n (over b (i.toNat * 32) ((b.drop (k.toNat * 32)).take 32)) → Step h h' [f] [f] → h'.size = h.size → K (.int .i64 0) h') :
    CallsH Try.prog f_ref06_Memory_Copy #[.pointer (some ⟨m, 0, none⟩), .int .i64 i, .int .i64 k] h K := by
  refine q_ref06_Memory_Copy_calls m i k h K ?_
  unfold q_ref06_Memory_Copy
  have hle := hm.le
  refine r_may hm i 0 1 (by omega) (by omega) (fun hb => (hb ⟨h1, h2, by omega, by omega⟩).elim) fun _ _ _ _ => ⟨_, rfl, iteP_nne rfl ?_⟩
  refine r_may hm k 0 1 (by omega) (by omega) (fun hb => (hb ⟨h3, h4, by omega, by omega⟩).elim) fun _ _ _ _ => ⟨_, rfl, iteP_nne rfl ?_⟩
  rw [wrap64 (x := i * 32) (by omega) (by omega), wrap64 (x := k * 32) (by omega) (by omega)]
  have hrl : ∀ j : Nat, j ≤ 32 → ((b.drop (k.toNat * 32)).take j).length = j := fun j hj => by rw [List.length_take, List.length_drop, hm.len]; omega
  refine ⟨fun j hc => 0 ≤ j ∧ j ≤ 32 ∧ MrAt hc m f n (over b (i.toNat * 32) ((b.drop (k.toNat * 32)).take j.toNat)) ∧ Step h hc [f] [f] ∧ hc.size = h.size, fun j _ => (32 - j).toNat, ⟨by omega, by omega, by simpa [over] using hm, Step.refl _ _, rfl⟩, ?_⟩
  rintro j hc ⟨j0, j1, mc, sc, zc⟩
  refine iteP_cases (fun hj => ⟨_, _, _, mc.cell, _, _, _, mc.cell, ?_⟩) fun hj => ?_
  · rw [wrap64 (x := i * 32 + j) (by omega) (by omega), wrap64 (x := k * 32 + j) (by omega) (by omega), wrap64 (x := j + 1) (by omega) (by omega), wth_some]
    refine ⟨by omega, by omega, _, mc.byte (by omega) (by omega), by omega, by omega, ?_⟩
    rw [wth_some]
    refine ⟨⟨_, mc.byte (by omega) (by omega)⟩, by rw [Addr.add_mk]; exact frozenAt_cells mc.fr, letH_iff.2 ⟨⟨by omega, by omega, ?_, sc.trans (by rw [Addr.add_mk]; exact Step.setH (by simp)), by rw [setH_size, zc]⟩, by show (32 - (j + 1)).toNat < (32 - j).toNat; omega⟩⟩
    have hx : (k * 32 + j).toNat < b.length := by rw [hm.len]; omega
    have hget : (over b (i.toNat * 32) ((b.drop (k.toNat * 32)).take j.toNat))[(k * 32 + j).toNat]? = b[(k * 32 + j).toNat]? := by
      rw [over_get (by rw [hrl _ (by omega), hm.len]; omega), if_neg (by rw [hrl _ (by omega)]; omega)]
    have hsrc : (b.drop (k.toNat * 32)).take (j + 1).toNat = (b.drop (k.toNat * 32)).take j.toNat ++ [b[(k * 32 + j).toNat]] := by
      rw [show (j + 1).toNat = j.toNat + 1 by omega, List.take_add_one, List.getElem?_drop, show k.toNat * 32 + j.toNat = (k * 32 + j).toNat by omega, List.getElem?_eq_getElem hx]
      rfl
    rw [hget, List.getElem?_eq_getElem hx, Option.getD_some]
    have := mc.set (x := i * 32 + j) (c := b[(k * 32 + j).toNat]) (by omega)
    have e : over b (i.toNat * 32) ((b.drop (k.toNat * 32)).take (j + 1).toNat) = (over b (i.toNat * 32) ((b.drop (k.toNat * 32)).take j.toNat)).set (i * 32 + j).toNat b[(k * 32 + j).toNat] := by
      rw [hsrc, over_snoc, hrl _ (by omega)]
      congr 1; omega
    rw [e]; exact this
  · have : j.toNat = 32 := by omega
    rw [this] at mc
    exact hK hc mc sc zc
theorem r_New (k : Int) (h1 : 1 ≤ k) (h2 : k ≤ 64)
    (hok : ∀ h', MrAt h' (h.size + 1) h.size k.toNat (List.replicate (k.toNat * 32) 0) → Ext h h' → h'.size = h.size + 2 → K (.pointer (some ⟨h.size + 1, 0, none⟩)) h') :
    CallsH Try.prog f_ref06_New #[.int .i64 k] h K := by
  refine q_ref06_New_calls k h K ?_
  unfold q_ref06_New
  refine iteP_no (by omega) (iteP_no (by omega) ?_)
  rw [wrap64 (x := k * 32) (by omega) (by omega)]
  refine semWP_makeSlice (t := T_s_uint8) (el := T_uint8) (i := Try.prog.types[T_uint8]!) (by kernel_rfl) (by kernel_rfl) (by kernel_rfl) (by kernel_rfl) (by kernel_rfl) (by omega) ?_ (by omega) ?_
  · rw [show Try.prog.types[T_uint8]!.bytes = 1 by kernel_rfl]; omega
  · intro h' hh
    have hz : (zeroCells Try.prog T_uint8).toList = List.replicate 1 (.int .u8 0) := by kernel_rfl
    rw [hz, repL_replicate, Nat.mul_one] at hh
    refine ⟨_, _, _, rfl, letH_iff.2 ?_⟩
    subst hh
    have e : (h.push (.cells ⟨List.replicate (k * 32).toNat (.int .u8 0)⟩ T_uint8)).size = h.size + 1 := by simp
    have ek : (k * 32).toNat = k.toNat * 32 := by omega
    rw [e]
    refine hok _ ⟨?_, ?_, by simp, by omega, by omega⟩ ?_ (by simp)
    · rw [← e, ek]; exact push_new _ _
    · rw [push_old (by simp), push_new]; simp [ek]
    · exact (Ext.push _ _).trans (Ext.push _ _)
end
end Go.Proofs.Ytmdhfmljgjnggaa
