/- The texts CRef06 CRef CRef2 CRef3 CRef4 CRef5 CRef6 CRef7 CRef8 CRef9, one behind the other. No condition. -/
import Derived.Test.YtmdhfmljgjnggaaG5
import Derived.Test.YtmdhfmljgjnggaaG8
/- What the functions of the reference's memory do. No condition. -/
namespace Go.Proofs.Ytmdhfmljgjnggaa
attribute [local irreducible] semWP
set_option linter.constructorNameAsVariable false
/-- Block m is the reference's memory of n frames, whose bytes lie in block f (behind them there may be room). -/
structure MrAt (h : Hp) (m f n : Nat) (b : List Int) : Prop where
  mem : ∃ c, n * 32 ≤ c ∧ h[m]? = some (.cells #[.slice (some ⟨f, 0, none⟩) (n * 32) c] T_N_ref06_Memory (0, 0))
  fr : ∃ rest, h[f]? = some (.cells ⟨b.map (.int .u8) ++ rest⟩ T_uint8 (0, 0))
  len : b.length = n * 32
  pos : 1 ≤ n
  le : n ≤ 64
theorem MrAt.congr {h h' : Hp} {m f n : Nat} {b : List Int} (hm : MrAt h m f n b) (h1 : h'[m]? = h[m]?) (h2 : h'[f]? = h[f]?) : MrAt h' m f n b :=
  ⟨by rw [h1]; exact hm.mem, by rw [h2]; exact hm.fr, hm.len, hm.pos, hm.le⟩
theorem MrAt.cell {h : Hp} {m f n : Nat} {b : List Int} (hm : MrAt h m f n b) : ∃ c, n * 32 ≤ c ∧ cellAt h ⟨m, 0, none⟩ = some (.slice (some ⟨f, 0, none⟩) (n * 32) c) := by
  obtain ⟨c, hc, h1⟩ := hm.mem
  exact ⟨c, hc, by rw [cellAt_cells h1]; rfl⟩
theorem MrAt.ne_m {h : Hp} {m f n : Nat} {b : List Int} (hm : MrAt h m f n b) {r : Nat} {c : Array Value} {e : TypeId} {g : Nat × Nat} (hr : h[r]? = some (.cells c e g)) (he : e ≠ T_N_ref06_Memory) : r ≠ m := by
  obtain ⟨c, _, h1⟩ := hm.mem
  exact ne_cells hr h1 he
theorem MrAt.ne_f {h : Hp} {m f n : Nat} {b : List Int} (hm : MrAt h m f n b) {r : Nat} {c : Array Value} {e : TypeId} {g : Nat × Nat} (hr : h[r]? = some (.cells c e g)) (he : e ≠ T_uint8) : r ≠ f := by
  obtain ⟨c, h1⟩ := hm.fr
  exact ne_cells hr h1 he
theorem MrAt.ltm {h : Hp} {m f n : Nat} {b : List Int} (hm : MrAt h m f n b) : m < h.size := by
  obtain ⟨c, _, h1⟩ := hm.mem; exact lt_of_at h1
theorem MrAt.ltf {h : Hp} {m f n : Nat} {b : List Int} (hm : MrAt h m f n b) : f < h.size := by
  obtain ⟨c, h1⟩ := hm.fr; exact lt_of_at h1
theorem MrAt.fz {h : Hp} {m f n : Nat} {b : List Int} (hm : MrAt h m f n b) (o : Nat) : frozenAt h ⟨f, o, none⟩ = false := by
  obtain ⟨c, h1⟩ := hm.fr; exact frozenAt_cells h1
theorem MrAt.ne {h : Hp} {m f n : Nat} {b : List Int} (hm : MrAt h m f n b) : m ≠ f := by
  obtain ⟨c, _, h1⟩ := hm.mem
  exact hm.ne_f h1 (by decide)
theorem MrAt.over {h h' : Hp} {m f n : Nat} {b b' : List Int} (hm : MrAt h m f n b) (hf : ∃ rest, h'[f]? = some (.cells ⟨b'.map (.int .u8) ++ rest⟩ T_uint8 (0, 0))) (hb : b'.length = b.length) (hs : Step h h' [f] [f]) : MrAt h' m f n b' :=
  ⟨by rw [hs.frame m hm.ltm (by simpa using hm.ne)]; exact hm.mem, hf, by rw [hb]; exact hm.len, hm.pos, hm.le⟩
section
variable {h : Hp} {m f n : Nat} {b : List Int} {K : Value → Hp → Prop}
theorem r_Size (hm : MrAt h m f n b) (hK : K (.int .i64 (n : Int)) h) : CallsH Try.prog f_ref06_Memory_Size #[.pointer (some ⟨m, 0, none⟩)] h K := by
  refine q_ref06_Memory_Size_calls m h K ?_
  unfold q_ref06_Memory_Size
  obtain ⟨cp, _, hcell⟩ := hm.cell
  refine ⟨_, _, _, hcell, ?_⟩
  have := hm.le
  have e : IntKind.wrap .i64 (Int.tdiv ((n * 32 : Nat) : Int) 32) = n := by
    rw [show Int.tdiv ((n * 32 : Nat) : Int) 32 = ((n * 32 : Nat) : Int) / 32 from Int.tdiv_eq_ediv_of_nonneg (by omega)]
    rw [wrap64 (by omega) (by omega)]; omega
  rw [e]; exact hK
theorem r_may (hm : MrAt h m f n b) (i off many : Int) (h1 : 1 ≤ many) (h2 : many ≤ 32) (hbad : ¬ (0 ≤ i ∧ i < n ∧ 0 ≤ off ∧ off ≤ 32 - many) → K (.int .i64 2) h) (hok : 0 ≤ i → i < n → 0 ≤ off → off ≤ 32 - many → K (.int .i64 0) h) :
    CallsH Try.prog f_ref06_Memory_may #[.pointer (some ⟨m, 0, none⟩), .int .i64 i, .int .i64 off, .int .i64 many] h K := by
  refine q_ref06_Memory_may_calls m i off many h K ?_
  unfold q_ref06_Memory_may
  refine iteP_cases (fun hi => hbad (by omega)) fun hi => r_Size hm ⟨_, rfl, ?_⟩
  rw [wrap64 (x := 32 - many) (by omega) (by omega)]
  refine iteP_cases (fun hi => hbad (by omega)) fun hi2 => iteP_cases (fun hi => hbad (by omega)) fun hi3 => iteP_cases (fun hi => hbad (by omega)) fun hi4 => ?_
  exact hok (by omega) (by omega) (by omega) (by omega)
theorem MrAt.byte (hm : MrAt h m f n b) {x : Int} (h1 : 0 ≤ x) (h2 : x < n * 32) : cellAt h ((⟨f, 0, none⟩ : Addr).add (Int.toNat x * 1)) = some (.int .u8 ((b[x.toNat]?).getD 0)) := by
  obtain ⟨rest, hfr⟩ := hm.fr
  rw [Addr.add_mk, cellAt_cells hfr, show 0 + x.toNat * 1 = x.toNat by omega]
  have hl : x.toNat < b.length := by rw [hm.len]; omega
  simp [hl, List.getElem?_append]
theorem MrAt.set (hm : MrAt h m f n b) {x c : Int} (h1 : 0 ≤ x) (h2 : x < n * 32) : MrAt (setH h ((⟨f, 0, none⟩ : Addr).add (Int.toNat x * 1)) (.int .u8 c)) m f n (b.set x.toNat c) := by
  rw [Addr.add_mk, show 0 + x.toNat * 1 = x.toNat by omega]
  obtain ⟨rest, hfr⟩ := hm.fr
  have hl : x.toNat < b.length := by rw [hm.len]; omega
  refine hm.over ⟨rest, ?_⟩ (by simp) (Step.setH (by simp))
  rw [setH_same hfr]
  simp only [List.setIfInBounds_toArray]
  rw [List.set_append_left _ _ (by simpa using hl), List.map_set]
theorem r_Byte (hm : MrAt h m f n b) (i off : Int) (h1 : 0 ≤ i) (h2 : i < n) (h3 : 0 ≤ off) (h4 : off < 32) (hK : K (.tuple #[.int .u8 (byteAt b i off), .int .i64 0]) h) :
    CallsH Try.prog f_ref06_Memory_Byte #[.pointer (some ⟨m, 0, none⟩), .int .i64 i, .int .i64 off] h K := by
  refine q_ref06_Memory_Byte_calls m i off h K ?_
  unfold q_ref06_Memory_Byte
  have hle := hm.le
  obtain ⟨cp, _, hcell⟩ := hm.cell
  refine r_may hm i off 1 (by omega) (by omega) (fun hb => (hb ⟨h1, h2, h3, by omega⟩).elim) fun _ _ _ _ => ⟨_, rfl, iteP_nne rfl ⟨_, _, _, hcell, ?_⟩⟩
  rw [wrap64 (x := i * 32) (by omega) (by omega), wrap64 (x := i * 32 + off) (by omega) (by omega), wth_some]
  exact ⟨by omega, by omega, _, hm.byte (by omega) (by omega), hK⟩
theorem r_SetByte (hm : MrAt h m f n b) (i off c : Int) (h1 : 0 ≤ i) (h2 : i < n) (h3 : 0 ≤ off) (h4 : off < 32)
    (hK : ∀ h', MrAt h' m f n (b.set (i * 32 + off).toNat c) → Step h h' [f] [f] → h'.size = h.size → K (.int .i64 0) h') :
    CallsH Try.prog f_ref06_Memory_SetByte #[.pointer (some ⟨m, 0, none⟩), .int .i64 i, .int .i64 off, .int .u8 c] h K := by
  refine q_ref06_Memory_SetByte_calls m i off c h K ?_
  unfold q_ref06_Memory_SetByte
  have hle := hm.le
  obtain ⟨cp, _, hcell⟩ := hm.cell
  refine r_may hm i off 1 (by omega) (by omega) (fun hb => (hb ⟨h1, h2, h3, by omega⟩).elim) fun _ _ _ _ => ⟨_, rfl, ?_⟩
  refine iteP_nne rfl ⟨_, _, _, hcell, ?_⟩
  rw [wrap64 (x := i * 32) (by omega) (by omega), wrap64 (x := i * 32 + off) (by omega) (by omega), wth_some]
  refine ⟨by omega, by omega, ⟨_, hm.byte (by omega) (by omega)⟩, by rw [Addr.add_mk]; exact hm.fz _, letH_iff.2 ?_⟩
  exact hK _ (hm.set (by omega) (by omega)) (by rw [Addr.add_mk]; exact Step.setH (by simp)) (setH_size _ _ _)
theorem over_snoc {α : Type} : ∀ {cs zs : List α} {off : Nat} {c : α}, over zs off (cs ++ [c]) = (over zs off cs).set (off + cs.length) c := by
  intro cs
  induction cs with
  | nil => intro zs off c; simp [over]
  | cons x cs ih =>
    intro zs off c
    simp only [List.cons_append, over, ih, List.length_cons]
    congr 1
    omega
theorem r_Zero (hm : MrAt h m f n b) (i : Int) (h1 : 0 ≤ i) (h2 : i < n)
    (hK : ∀ h', MrAt h' m f n (over b (i.toNat * 32) (List.replicate 32 0)) → Step h h' [f] [f] → h'.size = h.size → K (.int .i64 0) h') :
    CallsH Try.prog f_ref06_Memory_Zero #[.pointer (some ⟨m, 0, none⟩), .int .i64 i] h K := by
  refine q_ref06_Memory_Zero_calls m i h K ?_
  unfold q_ref06_Memory_Zero
  have hle := hm.le
  refine r_may hm i 0 1 (by omega) (by omega) (fun hb => (hb ⟨h1, h2, by omega, by omega⟩).elim) fun _ _ _ _ => ⟨_, rfl, iteP_nne rfl ?_⟩
  rw [wrap64 (x := i * 32) (by omega) (by omega)]
  refine ⟨fun j hc => 0 ≤ j ∧ j ≤ 32 ∧ MrAt hc m f n (over b (i.toNat * 32) (List.replicate j.toNat 0)) ∧ Step h hc [f] [f] ∧ hc.size = h.size, fun j _ => (32 - j).toNat, ⟨by omega, by omega, by simpa [over] using hm, Step.refl _ _, rfl⟩, ?_⟩
  rintro j hc ⟨j0, j1, mc, sc, zc⟩
  obtain ⟨cp, _, hcell⟩ := mc.cell
  refine iteP_cases (fun hj => ⟨_, _, _, hcell, ?_⟩) fun hj => ?_
  · rw [wrap64 (x := i * 32 + j) (by omega) (by omega), wrap64 (x := j + 1) (by omega) (by omega), wth_some]
    refine ⟨by omega, by omega, ⟨_, mc.byte (by omega) (by omega)⟩, by rw [Addr.add_mk]; exact mc.fz _, letH_iff.2 ⟨⟨by omega, by omega, ?_, sc.trans (by rw [Addr.add_mk]; exact Step.setH (by simp)), by rw [setH_size, zc]⟩, by show (32 - (j + 1)).toNat < (32 - j).toNat; omega⟩⟩
    have := mc.set (x := i * 32 + j) (c := 0) (by omega) (by omega)
    have e : over b (i.toNat * 32) (List.replicate (j + 1).toNat 0) = (over b (i.toNat * 32) (List.replicate j.toNat 0)).set (i * 32 + j).toNat 0 := by
      rw [show (j + 1).toNat = j.toNat + 1 by omega, List.replicate_succ', over_snoc, List.length_replicate]
      congr 1; omega
    rw [e]; exact this
  · have : j.toNat = 32 := by omega
    rw [this] at mc
    exact hK hc mc sc zc
theorem r_Copy (hm : MrAt h m f n b) (i k : Int) (h1 : 0 ≤ i) (h2 : i < n) (h3 : 0 ≤ k) (h4 : k < n)
    (hK : ∀ h', MrAt h' m f n (over b (i.toNat * 32) ((b.drop (k.toNat * 32)).take 32)) → Step h h' [f] [f] → h'.size = h.size → K (.int .i64 0) h') :
    CallsH Try.prog f_ref06_Memory_Copy #[.pointer (some ⟨m, 0, none⟩), .int .i64 i, .int .i64 k] h K := by
  refine q_ref06_Memory_Copy_calls m i k h K ?_
  unfold q_ref06_Memory_Copy
  have hle := hm.le
  refine r_may hm i 0 1 (by omega) (by omega) (fun hb => (hb ⟨h1, h2, by omega, by omega⟩).elim) fun _ _ _ _ => ⟨_, rfl, iteP_nne rfl ?_⟩
  refine r_may hm k 0 1 (by omega) (by omega) (fun hb => (hb ⟨h3, h4, by omega, by omega⟩).elim) fun _ _ _ _ => ⟨_, rfl, iteP_nne rfl ?_⟩
  rw [wrap64 (x := i * 32) (by omega) (by omega), wrap64 (x := k * 32) (by omega) (by omega)]
  have hrl : ∀ j : Nat, j ≤ 32 → ((b.drop (k.toNat * 32)).take j).length = j := fun j hj => by rw [List.length_take, List.length_drop, hm.len]; omega
  refine ⟨fun j hc => 0 ≤ j ∧ j ≤ 32 ∧ MrAt hc m f n (over b (i.toNat * 32) ((b.drop (k.toNat * 32)).take j.toNat)) ∧ Step h hc [f] [f] ∧ hc.size = h.size, fun j _ => (32 - j).toNat, ⟨by omega, by omega, by simpa [over] using hm, Step.refl _ _, rfl⟩, ?_⟩
  rintro j hc ⟨j0, j1, mc, sc, zc⟩
  obtain ⟨cp, _, hcell⟩ := mc.cell
  refine iteP_cases (fun hj => ⟨_, _, _, hcell, _, _, _, hcell, ?_⟩) fun hj => ?_
  · rw [wrap64 (x := i * 32 + j) (by omega) (by omega), wrap64 (x := k * 32 + j) (by omega) (by omega), wrap64 (x := j + 1) (by omega) (by omega), wth_some]
    refine ⟨by omega, by omega, _, mc.byte (by omega) (by omega), by omega, by omega, ?_⟩
    rw [wth_some]
    refine ⟨⟨_, mc.byte (by omega) (by omega)⟩, by rw [Addr.add_mk]; exact mc.fz _, letH_iff.2 ⟨⟨by omega, by omega, ?_, sc.trans (by rw [Addr.add_mk]; exact Step.setH (by simp)), by rw [setH_size, zc]⟩, by show (32 - (j + 1)).toNat < (32 - j).toNat; omega⟩⟩
    have hx : (k * 32 + j).toNat < b.length := by rw [hm.len]; omega
    have hget : (over b (i.toNat * 32) ((b.drop (k.toNat * 32)).take j.toNat))[(k * 32 + j).toNat]? = b[(k * 32 + j).toNat]? := by
      rw [over_get (by rw [hrl _ (by omega), hm.len]; omega), if_neg (by rw [hrl _ (by omega)]; omega)]
    have hsrc : (b.drop (k.toNat * 32)).take (j + 1).toNat = (b.drop (k.toNat * 32)).take j.toNat ++ [b[(k * 32 + j).toNat]] := by
      rw [show (j + 1).toNat = j.toNat + 1 by omega, List.take_add_one, List.getElem?_drop, show k.toNat * 32 + j.toNat = (k * 32 + j).toNat by omega, List.getElem?_eq_getElem hx]
      rfl
    rw [hget, List.getElem?_eq_getElem hx, Option.getD_some]
    have := mc.set (x := i * 32 + j) (c := b[(k * 32 + j).toNat]) (by omega) (by omega)
    have e : over b (i.toNat * 32) ((b.drop (k.toNat * 32)).take (j + 1).toNat) = (over b (i.toNat * 32) ((b.drop (k.toNat * 32)).take j.toNat)).set (i * 32 + j).toNat b[(k * 32 + j).toNat] := by
      rw [hsrc, over_snoc, hrl _ (by omega)]
      congr 1; omega
    rw [e]; exact this
  · have : j.toNat = 32 := by omega
    rw [this] at mc
    exact hK hc mc sc zc
theorem r_New (k : Int) (h1 : 1 ≤ k) (h2 : k ≤ 64)
    (hok : ∀ h', MrAt h' (h.size + 1) h.size k.toNat (List.replicate (k.toNat * 32) 0) → Ext h h' → h'.size = h.size + 2 → K (.pointer (some ⟨h.size + 1, 0, none⟩)) h') :
    CallsH Try.prog f_ref06_New #[.int .i64 k] h K := by
  refine q_ref06_New_calls k h K ?_
  unfold q_ref06_New
  refine iteP_no (by omega) (iteP_no (by omega) ?_)
  rw [wrap64 (x := k * 32) (by omega) (by omega)]
  refine semWP_makeSlice (t := T_s_uint8) (el := T_uint8) (i := Try.prog.types[T_uint8]!) (by kernel_rfl) (by kernel_rfl) (by kernel_rfl) (by kernel_rfl) (by kernel_rfl) (by omega) ?_ (by omega) ?_
  · rw [show Try.prog.types[T_uint8]!.bytes = 1 by kernel_rfl]; omega
  · intro h' hh
    have hz : (zeroCells Try.prog T_uint8).toList = List.replicate 1 (.int .u8 0) := by kernel_rfl
    rw [hz, repL_replicate, Nat.mul_one] at hh
    refine ⟨_, _, _, rfl, letH_iff.2 ?_⟩
    subst hh
    have e : (h.push (.cells ⟨List.replicate (k * 32).toNat (.int .u8 0)⟩ T_uint8)).size = h.size + 1 := by simp
    have ek : (k * 32).toNat = k.toNat * 32 := by omega
    rw [e]
    refine hok _ ⟨⟨k.toNat * 32, Nat.le_refl _, ?_⟩, ⟨[], ?_⟩, by simp, by omega, by omega⟩ ?_ (by simp)
    · rw [← e, ek]; exact push_new _ _
    · rw [push_old (by simp), push_new]; simp [ek]
    · exact (Ext.push _ _).trans (Ext.push _ _)
end
end Go.Proofs.Ytmdhfmljgjnggaa
/- The reference of vm: its block's cells, and what its small functions do. No condition. -/
namespace Go.Proofs.Ytmdhfmljgjnggaa
attribute [local irreducible] semWP
set_option linter.constructorNameAsVariable false
def frm (c : Int) : Int := if c < 0 then 0 else c + 1
def refCell (s : VmS) (m : Nat) (i : Nat) : Option Value :=
  if i = 0 then some (.pointer (some ⟨m, 0, none⟩))
  else if i < 7 then some (.bool (hasOf s ((i - 1 : Nat) : Int)))
  else if i < 199 then (if (i - 7) % 2 = 0 then some (.bool (pgOf s (((i - 7) / 32 : Nat) : Int) (((i - 7) % 32 / 2 : Nat) : Int) != -2)) else some (.int .i64 (frm (pgOf s (((i - 7) / 32 : Nat) : Int) (((i - 7) % 32 / 2 : Nat) : Int)))))
  else if i = 199 then some (.int .i64 s.cp) else none
/-- A block's cells as a function. -/
def RawAt (h : Hp) (r : Nat) (g : Nat → Option Value) : Prop := ∃ cs, h[r]? = some (.cells cs T_N_ref19_Vm (0, 0)) ∧ ∀ i : Nat, cs[i]? = g i
structure RefAt (h : Hp) (r m f : Nat) (s : VmS) : Prop where
  vm : RawAt h r (refCell s m)
  mem : MrAt h m f s.n s.b
def RefRep (h : Hp) (r : Nat) (s : VmS) (F : List Nat) : Prop := ∃ m f, F = [r, m, f] ∧ RefAt h r m f s ∧ Wf s
section
variable {h h' : Hp} {r m f : Nat} {s : VmS} {K : Value → Hp → Prop} {F : List Nat} {g : Nat → Option Value}
theorem RawAt.cell (ha : RawAt h r g) (o : Nat) : cellAt h ⟨r, o, none⟩ = g o := by
  obtain ⟨cs, h1, h2⟩ := ha
  rw [cellAt_cells h1, h2]
theorem RawAt.fz (ha : RawAt h r g) (o : Nat) : frozenAt h ⟨r, o, none⟩ = false := by
  obtain ⟨cs, h1, _⟩ := ha
  exact frozenAt_cells h1
theorem RawAt.put (ha : RawAt h r g) {o : Nat} {v old : Value} (ho : g o = some old) : RawAt (setH h ⟨r, o, none⟩ v) r (fun i => if i = o then some v else g i) := by
  obtain ⟨cs, h1, h2⟩ := ha
  refine ⟨_, setH_same h1, fun i => ?_⟩
  rw [Array.getElem?_setIfInBounds]
  have hlt : o < cs.size := by
    have := h2 o
    rw [ho] at this
    exact (Array.getElem?_eq_some_iff.1 this).1
  by_cases hi : o = i
  · subst hi; rw [if_pos rfl, if_pos hlt]; simp
  · rw [if_neg hi]
    show _ = if i = o then some v else g i
    rw [if_neg (show ¬ i = o from fun e => hi e.symm), h2]
theorem RawAt.congr (ha : RawAt h r g) (he : h'[r]? = h[r]?) : RawAt h' r g := by
  obtain ⟨cs, h1, h2⟩ := ha; exact ⟨cs, by rw [he]; exact h1, h2⟩
theorem RawAt.ext {g' : Nat → Option Value} (ha : RawAt h r g) (he : ∀ i, g i = g' i) : RawAt h r g' := by
  obtain ⟨cs, h1, h2⟩ := ha; exact ⟨cs, h1, fun i => by rw [h2, he]⟩
theorem RefAt.ne (ha : RefAt h r m f s) : r ≠ m ∧ r ≠ f ∧ m ≠ f := by
  obtain ⟨cs, h1, _⟩ := ha.vm
  exact ⟨ha.mem.ne_m h1 (by decide), ha.mem.ne_f h1 (by decide), ha.mem.ne⟩
theorem RefAt.lt (ha : RefAt h r m f s) : r < h.size ∧ m < h.size ∧ f < h.size := by
  obtain ⟨cs, h1, _⟩ := ha.vm
  exact ⟨lt_of_at h1, ha.mem.ltm, ha.mem.ltf⟩
theorem RefAt.congr (ha : RefAt h r m f s) (he : ∀ q ∈ [r, m, f], h'[q]? = h[q]?) : RefAt h' r m f s :=
  ⟨ha.vm.congr (he r (by simp)), ha.mem.congr (he m (by simp)) (he f (by simp))⟩
theorem RefRep.congr (hv : RefRep h r s F) (he : ∀ q ∈ F, h'[q]? = h[q]?) : RefRep h' r s F := by
  obtain ⟨m, f, rfl, h1, h2⟩ := hv
  exact ⟨m, f, rfl, h1.congr he, h2⟩
theorem RefRep.lt (hv : RefRep h r s F) : ∀ q ∈ F, q < h.size := by
  obtain ⟨m, f, rfl, h1, h2⟩ := hv
  obtain ⟨a, b, c⟩ := h1.lt
  intro q hq
  simp only [List.mem_cons, List.not_mem_nil, or_false] at hq
  rcases hq with rfl | rfl | rfl <;> assumption
theorem rc_has {pid : Int} (h1 : 0 ≤ pid) (h2 : pid < 6) : refCell s m (1 + pid.toNat) = some (.bool (hasOf s pid)) := by
  unfold refCell
  rw [if_neg (by omega), if_pos (by omega), show ((1 + pid.toNat - 1 : Nat) : Int) = pid by omega]
theorem rc_idx {pid page : Int} (h1 : 0 ≤ pid) (h3 : 0 ≤ page) (h4 : page < 16) (k : Nat) (hk : k < 2) :
    (((7 + pid.toNat * 32 + page.toNat * 2 + k - 7) / 32 : Nat) : Int) = pid ∧ (((7 + pid.toNat * 32 + page.toNat * 2 + k - 7) % 32 / 2 : Nat) : Int) = page := by
  constructor <;> omega
theorem rc_map {pid page : Int} (h1 : 0 ≤ pid) (h2 : pid < 6) (h3 : 0 ≤ page) (h4 : page < 16) : refCell s m (7 + pid.toNat * 32 + page.toNat * 2) = some (.bool (pgOf s pid page != -2)) := by
  unfold refCell
  obtain ⟨e1, e2⟩ := rc_idx (pid := pid) (page := page) h1 h3 h4 0 (by omega)
  rw [Nat.add_zero] at e1 e2
  rw [if_neg (by omega), if_neg (by omega), if_pos (by omega), if_pos (by omega), e1, e2]
theorem rc_frm {pid page : Int} (h1 : 0 ≤ pid) (h2 : pid < 6) (h3 : 0 ≤ page) (h4 : page < 16) : refCell s m (7 + pid.toNat * 32 + page.toNat * 2 + 1) = some (.int .i64 (frm (pgOf s pid page))) := by
  unfold refCell
  obtain ⟨e1, e2⟩ := rc_idx (pid := pid) (page := page) h1 h3 h4 1 (by omega)
  rw [if_neg (by omega), if_neg (by omega), if_pos (by omega), if_neg (by omega), e1, e2]
theorem RefAt.has (ha : RefAt h r m f s) {pid : Int} (h1 : 0 ≤ pid) (h2 : pid < 6) : cellAt h ((⟨r, 1, none⟩ : Addr).add (Int.toNat pid * 1)) = some (.bool (hasOf s pid)) := by
  rw [Addr.add_mk, ha.vm.cell, Nat.mul_one, rc_has h1 h2]
theorem RefAt.map (ha : RefAt h r m f s) {pid page : Int} (h1 : 0 ≤ pid) (h2 : pid < 6) (h3 : 0 ≤ page) (h4 : page < 16) : cellAt h (((⟨r, 7, none⟩ : Addr).add (Int.toNat pid * 32)).add (Int.toNat page * 2)) = some (.bool (pgOf s pid page != -2)) := by
  rw [Addr.add_mk, Addr.add_mk, ha.vm.cell, rc_map h1 h2 h3 h4]
theorem RefAt.frm (ha : RefAt h r m f s) {pid page : Int} (h1 : 0 ≤ pid) (h2 : pid < 6) (h3 : 0 ≤ page) (h4 : page < 16) : cellAt h ((((⟨r, 7, none⟩ : Addr).add (Int.toNat pid * 32)).add (Int.toNat page * 2)).add 1) = some (.int .i64 (frm (pgOf s pid page))) := by
  rw [Addr.add_mk, Addr.add_mk, Addr.add_mk, ha.vm.cell, rc_frm h1 h2 h3 h4]
theorem RefAt.c0 (ha : RefAt h r m f s) : cellAt h ⟨r, 0, none⟩ = some (.pointer (some ⟨m, 0, none⟩)) := by rw [ha.vm.cell]; rfl
theorem RefAt.c199 (ha : RefAt h r m f s) : cellAt h ⟨r, 199, none⟩ = some (.int .i64 s.cp) := by rw [ha.vm.cell]; rfl
theorem r_vmay (ha : RefAt h r m f s) (pid : Int) (hK : K (.int .i64 (if hasOf s pid = false then 5 else 0)) h) : CallsH Try.prog f_ref19_Vm_may #[.pointer (some ⟨r, 0, none⟩), .int .i64 pid] h K := by
  refine q_ref19_Vm_may_calls r pid h K ?_
  unfold q_ref19_Vm_may
  have hout : ¬ (0 ≤ pid ∧ pid < 6) → K (.int .i64 5) h := fun hx => by
    rw [if_pos (by unfold hasOf; rw [if_neg hx])] at hK; exact hK
  refine iteP_cases (fun h1 => hout (by omega)) fun h1 => iteP_cases (fun h2 => hout (by omega)) fun h2 => ⟨by omega, by omega, _, ha.has (by omega) (by omega), ?_⟩
  cases hh : hasOf s pid with
  | true => rw [hh] at hK; exact hK
  | false => rw [hh] at hK; exact hK
theorem r_vfresh (ha : RefAt h r m f s) (pid : Int) (hK : K (.int .i64 (freshE s pid)) h) : CallsH Try.prog f_ref19_Vm_fresh #[.pointer (some ⟨r, 0, none⟩), .int .i64 pid] h K := by
  refine q_ref19_Vm_fresh_calls r pid h K ?_
  unfold q_ref19_Vm_fresh
  unfold freshE at hK
  refine iteP_cases (fun h1 => ?_) fun h1 => iteP_cases (fun h2 => ?_) fun h2 => ⟨by omega, by omega, _, ha.has (by omega) (by omega), ?_⟩
  · rw [if_pos (.inl h1)] at hK; exact hK
  · rw [if_pos (.inr h2)] at hK; exact hK
  · rw [if_neg (by omega)] at hK
    cases hh : hasOf s pid with
    | true => rw [hh] at hK; exact hK
    | false => rw [hh] at hK; exact hK
end
end Go.Proofs.Ytmdhfmljgjnggaa
/- The reference of vm: Begin, Map, Unmap, Peek, Copies, Frame. No condition. -/
namespace Go.Proofs.Ytmdhfmljgjnggaa
attribute [local irreducible] semWP
set_option linter.constructorNameAsVariable false
theorem refCell_has {s : VmS} (hw : Wf s) {m : Nat} {pid : Int} {x : Bool} (h1 : 0 ≤ pid) (h2 : pid < 6) (i : Nat) : (if i = 1 + pid.toNat then some (.bool x) else refCell s m i) = refCell { s with has := s.has.set pid.toNat x } m i := by
  unfold refCell
  by_cases h0 : i = 0
  · rw [if_neg (by omega), if_pos h0, if_pos h0]
  · rw [if_neg h0, if_neg h0]
    by_cases h7 : i < 7
    · rw [if_pos h7, if_pos h7, hasOf_set hw.lh h1 h2]
      by_cases hi : i = 1 + pid.toNat
      · rw [if_pos hi, if_pos (by omega)]
      · rw [if_neg hi, if_neg (by omega)]
    · rw [if_neg (by omega), if_neg h7, if_neg h7]
      rw [pgOf_congr (s := { s with has := s.has.set pid.toNat x }) (s' := s) (by rfl)]
theorem refCell_setPg {s : VmS} (hw : Wf s) {m : Nat} {pid page x : Int} (h1 : 0 ≤ pid) (h2 : pid < 6) (h3 : 0 ≤ page) (h4 : page < 16) (i : Nat) :
    (if i = 7 + pid.toNat * 32 + page.toNat * 2 + 1 then some (.int .i64 (frm x)) else if i = 7 + pid.toNat * 32 + page.toNat * 2 then some (.bool (x != -2)) else refCell s m i) = refCell (setPg s pid page x) m i := by
  by_cases hA : i = 7 + pid.toNat * 32 + page.toNat * 2 + 1
  · rw [if_pos hA, hA, rc_frm h1 h2 h3 h4, pgOf_setPg hw h1 h2 h3 h4, if_pos ⟨rfl, rfl⟩]
  · rw [if_neg hA]
    by_cases hB : i = 7 + pid.toNat * 32 + page.toNat * 2
    · rw [if_pos hB, hB, rc_map h1 h2 h3 h4, pgOf_setPg hw h1 h2 h3 h4, if_pos ⟨rfl, rfl⟩]
    · rw [if_neg hB]
      unfold refCell
      by_cases h7 : 7 ≤ i
      · by_cases h9 : i < 199
        · have hne : ¬ ((((i - 7) / 32 : Nat) : Int) = pid ∧ (((i - 7) % 32 / 2 : Nat) : Int) = page) := by omega
          rw [pgOf_setPg hw h1 h2 h3 h4, if_neg hne]
          rfl
        · simp only [if_neg h9]
          rfl
      · by_cases h0 : i = 0
        · rw [if_pos h0, if_pos h0]
        · rw [if_neg h0, if_neg h0, if_pos (by omega), if_pos (by omega)]
          rfl
section
variable {h : Hp} {r m f : Nat} {s : VmS} {K : Value → Hp → Prop} {F : List Nat}
theorem RefAt.raw (ha : RefAt h r m f s) {h' : Hp} {s' : VmS} (hv : RawAt h' r (refCell s' m)) (hs : Step h h' [r] [r]) (h1 : s'.n = s.n) (h2 : s'.b = s.b) : RefAt h' r m f s' := by
  obtain ⟨n1, n2, n3⟩ := ha.ne
  obtain ⟨l1, l2, l3⟩ := ha.lt
  refine ⟨hv, ?_⟩
  rw [h1, h2]
  exact ha.mem.congr (hs.frame m l2 (by simpa using Ne.symm n1)) (hs.frame f l3 (by simpa using Ne.symm n2))
theorem r_Begin (hv : RefRep h r s F) (pid : Int) (hK : ∀ h', RefRep h' r (beginS s pid).2 F → Step h h' F F → K (.int .i64 (beginS s pid).1) h') : CallsH Try.prog f_ref19_Vm_Begin #[.pointer (some ⟨r, 0, none⟩), .int .i64 pid] h K := by
  have hv0 := hv
  obtain ⟨m, f, rfl, ha, hw⟩ := hv
  refine q_ref19_Vm_Begin_calls r pid h K ?_
  unfold q_ref19_Vm_Begin
  unfold beginS at hK
  refine r_vfresh ha pid ⟨_, rfl, iteP_eqc (fun he => ?_) fun he => ?_⟩
  · rw [if_pos he] at hK
    obtain ⟨h1, h2, h3⟩ := freshE_ok he
    refine ⟨h1, h2, ⟨_, ha.has h1 h2⟩, by rw [Addr.add_mk]; exact ha.vm.fz _, letH_iff.2 ?_⟩
    rw [he, Addr.add_mk, Nat.mul_one]
    have st : Step h (setH h ⟨r, 1 + pid.toNat, none⟩ (.bool true)) [r] [r] := Step.setH (by simp)
    refine hK _ ⟨m, f, rfl, ha.raw (((ha.vm.put (rc_has h1 h2)).ext fun i => refCell_has hw h1 h2 i)) st rfl rfl, ?_⟩ (st.in1 (by simp))
    refine ⟨by simp [hw.lh], hw.lp, hw.pgs, fun q page hq => ?_, hw.le⟩
    rw [hasOf_set hw.lh h1 h2] at hq
    by_cases hqp : q = pid
    · rw [if_pos hqp] at hq; cases hq
    · rw [if_neg hqp] at hq; exact (pgOf_congr (s' := s) (by rfl) q page).trans (hw.off q page hq)
  · rw [if_neg he] at hK
    exact hK h hv0 (Step.refl _ _)
theorem r_Map (hv : RefRep h r s F) (pid page : Int) (hK : ∀ h', RefRep h' r (mapS s pid page).2 F → Step h h' F F → K (.int .i64 (mapS s pid page).1) h') : CallsH Try.prog f_ref19_Vm_Map #[.pointer (some ⟨r, 0, none⟩), .int .i64 pid, .int .i64 page] h K := by
  have hv0 := hv
  obtain ⟨m, f, rfl, ha, hw⟩ := hv
  refine q_ref19_Vm_Map_calls r pid page h K ?_
  unfold q_ref19_Vm_Map
  unfold mapS at hK
  refine r_vmay ha pid ⟨_, rfl, ?_⟩
  cases hh : hasOf s pid with
  | false =>
    rw [show pageE s pid page = 5 by simp [pageE, hh], if_pos (by decide)] at hK
    exact iteP_ne (by decide) (hK h hv0 (Step.refl _ _))
  | true =>
    obtain ⟨h1, h2⟩ := hasOf_in hh
    refine iteP_nne rfl ?_
    have hbad : (page < 0 ∨ 16 ≤ page) → K (.int .i64 2) h := fun hx => by
      rw [show pageE s pid page = 2 by simp [pageE, hh, hx], if_pos (by decide)] at hK
      exact hK h hv0 (Step.refl _ _)
    refine iteP_cases (fun h3 => hbad (.inl h3)) fun h3 => iteP_cases (fun h4 => hbad (.inr h4)) fun h4 => ?_
    rw [show pageE s pid page = 0 by unfold pageE; rw [if_neg (by simp [hh]), if_neg (by omega)], if_neg (by decide)] at hK
    have g3 : 0 ≤ page := by omega
    have g4 : page < 16 := by omega
    refine ⟨h1, h2, g3, g4, _, ha.map h1 h2 g3 g4, ?_⟩
    by_cases hp : pgOf s pid page = -2
    · rw [if_neg (by simp [hp])] at hK
      refine iteP_f (by simp [hp]) ⟨h1, h2, g3, g4, ⟨_, ha.map h1 h2 g3 g4⟩, by simp only [Addr.add_mk]; exact ha.vm.fz _, letH_iff.2 ?_⟩
      simp only [Addr.add_mk]
      have a1 := ha.vm.put (v := .bool true) (rc_map (s := s) (m := m) h1 h2 g3 g4)
      have s1 : Step h (setH h ⟨r, 7 + pid.toNat * 32 + page.toNat * 2, none⟩ (.bool true)) [r] [r] := Step.setH (by simp)
      have o1 : (fun i => if i = 7 + pid.toNat * 32 + page.toNat * 2 then some (Value.bool true) else refCell s m i) (7 + pid.toNat * 32 + page.toNat * 2 + 1) = some (.int .i64 (frm (pgOf s pid page))) := by
        show (if _ then _ else _) = _
        rw [if_neg (by omega), rc_frm h1 h2 g3 g4]
      refine ⟨⟨_, by rw [a1.cell]; exact o1⟩, a1.fz _, letH_iff.2 ?_⟩
      have a2 := a1.put (v := .int .i64 0) o1
      have s2 := s1.trans (Step.setH (h := setH h ⟨r, 7 + pid.toNat * 32 + page.toNat * 2, none⟩ (.bool true)) (b := r) (o := 7 + pid.toNat * 32 + page.toNat * 2 + 1) (v := .int .i64 0) (F := [r]) (by simp))
      refine hK _ ⟨m, f, rfl, ha.raw (a2.ext fun i => by have e := refCell_setPg hw (x := -1) (m := m) h1 h2 g3 g4 i; rw [show frm (-1) = 0 by decide, show ((-1 : Int) != -2) = true by decide] at e; exact e) s2 rfl rfl, hw.setPg hh g3 g4 (by decide) (by have := ha.mem.pos; omega)⟩ (s2.in1 (by simp))
    · rw [if_pos hp] at hK
      exact iteP_t (by simpa using hp) (hK h hv0 (Step.refl _ _))
theorem r_Unmap (hv : RefRep h r s F) (pid page : Int) (hK : ∀ h', RefRep h' r (unmapS s pid page).2 F → Step h h' F F → K (.int .i64 (unmapS s pid page).1) h') : CallsH Try.prog f_ref19_Vm_Unmap #[.pointer (some ⟨r, 0, none⟩), .int .i64 pid, .int .i64 page] h K := by
  have hv0 := hv
  obtain ⟨m, f, rfl, ha, hw⟩ := hv
  refine q_ref19_Vm_Unmap_calls r pid page h K ?_
  unfold q_ref19_Vm_Unmap
  unfold unmapS at hK
  refine r_vmay ha pid ⟨_, rfl, ?_⟩
  cases hh : hasOf s pid with
  | false =>
    rw [show pageE s pid page = 5 by simp [pageE, hh], if_pos (by decide)] at hK
    exact iteP_ne (by decide) (hK h hv0 (Step.refl _ _))
  | true =>
    obtain ⟨h1, h2⟩ := hasOf_in hh
    refine iteP_nne rfl ?_
    have hbad : (page < 0 ∨ 16 ≤ page) → K (.int .i64 2) h := fun hx => by
      rw [show pageE s pid page = 2 by simp [pageE, hh, hx], if_pos (by decide)] at hK
      exact hK h hv0 (Step.refl _ _)
    refine iteP_cases (fun h3 => hbad (.inl h3)) fun h3 => iteP_cases (fun h4 => hbad (.inr h4)) fun h4 => ?_
    rw [show pageE s pid page = 0 by unfold pageE; rw [if_neg (by simp [hh]), if_neg (by omega)], if_neg (by decide)] at hK
    have g3 : 0 ≤ page := by omega
    have g4 : page < 16 := by omega
    refine ⟨h1, h2, g3, g4, _, ha.map h1 h2 g3 g4, ?_⟩
    by_cases hp : pgOf s pid page = -2
    · rw [if_pos hp] at hK
      exact iteP_t (by simp [hp]) (hK h hv0 (Step.refl _ _))
    · rw [if_neg hp] at hK
      refine iteP_f (by simpa using hp) ⟨h1, h2, g3, g4, ⟨_, ha.map h1 h2 g3 g4⟩, by simp only [Addr.add_mk]; exact ha.vm.fz _, letH_iff.2 ?_⟩
      simp only [Addr.add_mk]
      have a1 := ha.vm.put (v := .bool false) (rc_map (s := s) (m := m) h1 h2 g3 g4)
      have s1 : Step h (setH h ⟨r, 7 + pid.toNat * 32 + page.toNat * 2, none⟩ (.bool false)) [r] [r] := Step.setH (by simp)
      have o1 : (fun i => if i = 7 + pid.toNat * 32 + page.toNat * 2 then some (Value.bool false) else refCell s m i) (7 + pid.toNat * 32 + page.toNat * 2 + 1) = some (.int .i64 (frm (pgOf s pid page))) := by
        show (if _ then _ else _) = _
        rw [if_neg (by omega), rc_frm h1 h2 g3 g4]
      refine ⟨⟨_, by rw [a1.cell]; exact o1⟩, a1.fz _, letH_iff.2 ?_⟩
      have a2 := a1.put (v := .int .i64 0) o1
      have s2 := s1.trans (Step.setH (h := setH h ⟨r, 7 + pid.toNat * 32 + page.toNat * 2, none⟩ (.bool false)) (b := r) (o := 7 + pid.toNat * 32 + page.toNat * 2 + 1) (v := .int .i64 0) (F := [r]) (by simp))
      refine hK _ ⟨m, f, rfl, ha.raw (a2.ext fun i => by have e := refCell_setPg hw (x := -2) (m := m) h1 h2 g3 g4 i; rw [show frm (-2) = 0 by decide, show ((-2 : Int) != -2) = false by decide] at e; exact e) s2 rfl rfl, hw.setPg hh g3 g4 (by decide) (by have := ha.mem.pos; omega)⟩ (s2.in1 (by simp))
theorem r_Copies (hv : RefRep h r s F) (hK : K (.int .i64 s.cp) h) : CallsH Try.prog f_ref19_Vm_Copies #[.pointer (some ⟨r, 0, none⟩)] h K := by
  obtain ⟨m, f, rfl, ha, hw⟩ := hv
  refine q_ref19_Vm_Copies_calls r h K ?_
  unfold q_ref19_Vm_Copies
  exact ⟨_, ha.c199, hK⟩
end
end Go.Proofs.Ytmdhfmljgjnggaa
/- The reference of vm: addresses, Peek, Frame, Refs, Left, next, needs. No condition. -/
namespace Go.Proofs.Ytmdhfmljgjnggaa
attribute [local irreducible] semWP
set_option linter.constructorNameAsVariable false
section
variable {h : Hp} {r m f : Nat} {s : VmS} {K : Value → Hp → Prop} {F : List Nat}
theorem r_at (ha : RefAt h r m f s) (pid addr : Int) (hK : K (.int .i64 (addrE s pid addr)) h) : CallsH Try.prog f_ref19_Vm_at #[.pointer (some ⟨r, 0, none⟩), .int .i64 pid, .int .i64 addr] h K := by
  refine q_ref19_Vm_at_calls r pid addr h K ?_
  unfold q_ref19_Vm_at
  unfold addrE at hK
  refine r_vmay ha pid ⟨_, rfl, ?_⟩
  cases hh : hasOf s pid with
  | false => rw [if_pos hh] at hK; exact iteP_ne (by decide) hK
  | true =>
    rw [if_neg (by simp [hh])] at hK
    obtain ⟨h1, h2⟩ := hasOf_in hh
    refine iteP_nne rfl (iteP_cases (fun h3 => ?_) fun h3 => iteP_cases (fun h4 => ?_) fun h4 => ?_)
    · rw [if_pos (.inl h3)] at hK; exact hK
    · rw [if_pos (.inr h4)] at hK; exact hK
    · rw [if_neg (by omega)] at hK
      rw [tdiv32 (by omega) (by omega)]
      refine ⟨h1, h2, by omega, by omega, _, ha.map h1 h2 (by omega) (by omega), ?_⟩
      by_cases hp : pgOf s pid (addr / 32) = -2
      · rw [if_pos hp] at hK; exact iteP_t (by simp [hp]) hK
      · rw [if_neg hp] at hK; exact iteP_f (by simpa using hp) hK
theorem frm_eq {c : Int} (h : -2 ≤ c) : frm c = 0 ↔ c < 0 := by unfold frm; split <;> omega
theorem addrE_ok {s : VmS} {pid addr : Int} (h : addrE s pid addr = 0) : hasOf s pid = true ∧ 0 ≤ pid ∧ pid < 6 ∧ 0 ≤ addr ∧ addr < 512 ∧ pgOf s pid (addr / 32) ≠ -2 := by
  unfold addrE at h
  cases hh : hasOf s pid with
  | false => rw [if_pos hh] at h; cases h
  | true =>
    rw [if_neg (by simp [hh])] at h
    split at h
    · cases h
    · split at h
      · cases h
      · obtain ⟨a, b⟩ := hasOf_in hh
        exact ⟨rfl, a, b, by omega, by omega, by assumption⟩
theorem r_Peek (hv : RefRep h r s F) (pid addr : Int) (hK : K (.tuple #[.int .u8 (peekS s pid addr).1, .int .i64 (peekS s pid addr).2]) h) :
    CallsH Try.prog f_ref19_Vm_Peek #[.pointer (some ⟨r, 0, none⟩), .int .i64 pid, .int .i64 addr] h K := by
  obtain ⟨m, f, rfl, ha, hw⟩ := hv
  refine q_ref19_Vm_Peek_calls r pid addr h K ?_
  unfold q_ref19_Vm_Peek
  unfold peekS at hK
  refine r_at ha pid addr ⟨_, rfl, iteP_nec (fun he => ?_) fun he => ?_⟩
  · rw [if_pos he] at hK; exact hK
  · rw [if_neg (by simp [he])] at hK
    obtain ⟨_, h1, h2, h3, h4, hp⟩ := addrE_ok he
    have hle := hw.pg_le pid (addr / 32)
    have h64 := hw.le
    rw [tdiv32 h3 h4, tmod32 h3]
    refine ⟨h1, h2, by omega, by omega, _, ha.frm h1 h2 (by omega) (by omega), iteP_eqc (fun hc => ?_) fun hc => ?_⟩
    · rw [frm_eq (by omega)] at hc
      rw [if_pos (by omega)] at hK; exact hK
    · rw [ne_eq, frm_eq (by omega)] at hc
      rw [if_neg (by omega)] at hK
      have e : IntKind.wrap .i64 (frm (pgOf s pid (addr / 32)) - 1) = pgOf s pid (addr / 32) := by
        unfold frm; rw [if_neg hc, wrap64 (by omega) (by omega)]; omega
      refine ⟨_, ha.c0, ?_⟩
      rw [e]
      exact r_Byte ha.mem _ _ (by omega) (by omega) (by omega) (by omega) ⟨_, _, rfl, hK⟩
theorem r_Frame (hv : RefRep h r s F) (pid page : Int) (hK : K (.tuple #[.int .i64 (frameS s pid page).1, .bool (frameS s pid page).2]) h) :
    CallsH Try.prog f_ref19_Vm_Frame #[.pointer (some ⟨r, 0, none⟩), .int .i64 pid, .int .i64 page] h K := by
  obtain ⟨m, f, rfl, ha, hw⟩ := hv
  refine q_ref19_Vm_Frame_calls r pid page h K ?_
  unfold q_ref19_Vm_Frame
  unfold frameS at hK
  have hno : pgOf s pid page = -2 → K (.tuple #[.int .i64 0, .bool false]) h := fun hx => by rw [if_pos (.inl hx)] at hK; exact hK
  refine r_vmay ha pid ⟨_, rfl, ?_⟩
  cases hh : hasOf s pid with
  | false => exact iteP_ne (by decide) (hno (hw.off pid page hh))
  | true =>
    obtain ⟨h1, h2⟩ := hasOf_in hh
    have hout : ¬ (0 ≤ page ∧ page < 16) → pgOf s pid page = -2 := fun hx => by unfold pgOf; rw [if_neg (by omega)]
    refine iteP_nne rfl (iteP_cases (fun h3 => hno (hout (by omega))) fun h3 => iteP_cases (fun h4 => hno (hout (by omega))) fun h4 => ?_)
    have hle := hw.pg_le pid page
    have h64 := hw.le
    refine ⟨h1, h2, by omega, by omega, _, ha.frm h1 h2 (by omega) (by omega), iteP_eqc (fun hc => ?_) fun hc => ⟨h1, h2, by omega, by omega, _, ha.frm h1 h2 (by omega) (by omega), ?_⟩⟩
    · rw [frm_eq (by omega)] at hc
      rw [if_pos (by omega)] at hK; exact hK
    · rw [ne_eq, frm_eq (by omega)] at hc
      rw [if_neg (by omega)] at hK
      have e : IntKind.wrap .i64 (frm (pgOf s pid page) - 1) = pgOf s pid page := by
        unfold frm; rw [if_neg hc, wrap64 (by omega) (by omega)]; omega
      rw [e]; exact hK
def rcnt (x : Int) (l : List Int) : Int := if x < 0 then 0 else cnt x l
theorem rcnt_step {x c : Int} {l : List Int} (hc : -2 ≤ c) : rcnt x (l ++ [c]) = rcnt x l + if frm c ≠ 0 ∧ frm c - 1 = x then 1 else 0 := by
  unfold rcnt
  by_cases hx : x < 0
  · rw [if_pos hx, if_pos hx, if_neg]
    · rfl
    · unfold frm; split <;> omega
  · rw [if_neg hx, if_neg hx, cnt_append]
    simp only [cnt, Int.add_zero]
    congr 1
    unfold frm
    by_cases hcx : c = x
    · rw [if_neg (show ¬ c < 0 by omega), if_pos hcx, if_pos (by omega)]
    · rw [if_neg hcx, if_neg]
      split <;> omega
theorem rcnt_le {x : Int} {l : List Int} : 0 ≤ rcnt x l ∧ rcnt x l ≤ l.length := by
  unfold rcnt
  split
  · omega
  · exact ⟨cnt_nonneg, Go.Proofs.Ytmdhfmljgjnggaa.cnt_le⟩
theorem cnt_none {x : Int} : ∀ {l : List Int}, (∀ y ∈ l, y ≠ x) → cnt x l = 0 := by
  intro l
  induction l with
  | nil => intro _; rfl
  | cons a l ih => intro h; simp only [cnt, if_neg (h a (by simp)), ih fun y hy => h y (by simp [hy])]; rfl
theorem rcnt_refS {s : VmS} (hw : Wf s) (x : Int) : rcnt x s.pg = refS s x := by
  unfold rcnt refS
  by_cases hx : x < 0
  · rw [if_pos hx, if_pos (.inl hx)]
  · rw [if_neg hx]
    by_cases h6 : 64 ≤ x
    · rw [if_pos (.inr h6)]
      exact cnt_none fun y hy => by have := hw.pgs y hy; have := hw.le; omega
    · rw [if_neg (by omega)]
theorem r_Refs (hv : RefRep h r s F) (x : Int) (hK : K (.int .i64 (refS s x)) h) : CallsH Try.prog f_ref19_Vm_Refs #[.pointer (some ⟨r, 0, none⟩), .int .i64 x] h K := by
  obtain ⟨m, f, rfl, ha, hw⟩ := hv
  refine q_ref19_Vm_Refs_calls r x h K ?_
  unfold q_ref19_Vm_Refs
  have h64 := hw.le
  have hlen : ∀ k : Nat, (s.pg.take k).length ≤ 96 := fun k => by rw [List.length_take, hw.lp]; omega
  refine ⟨fun a i h' => h = h' ∧ 0 ≤ i ∧ i ≤ 6 ∧ a = rcnt x (s.pg.take (i.toNat * 16)), fun _ i _ => (6 - i).toNat, ⟨rfl, by omega, by omega, by simp [rcnt, cnt]⟩, ?_⟩
  rintro a i _ ⟨rfl, i0, i1, rfl⟩
  refine iteP_cases (fun hi => ?_) fun hi => ?_
  · refine ⟨fun a j h' => h = h' ∧ 0 ≤ j ∧ j ≤ 16 ∧ a = rcnt x (s.pg.take (i.toNat * 16 + j.toNat)), fun _ j _ => (16 - j).toNat, ⟨rfl, by omega, by omega, by simp⟩, ?_⟩
    rintro a j _ ⟨rfl, j0, j1, rfl⟩
    refine iteP_cases (fun hj => ?_) fun hj => ?_
    · have hle := hw.pg_le i j
      have hat := hw.at i0 hi j0 hj
      have ht : s.pg.take (i.toNat * 16 + (j + 1).toNat) = s.pg.take (i.toNat * 16 + j.toNat) ++ [pgOf s i j] := by
        rw [show i.toNat * 16 + (j + 1).toNat = (i.toNat * 16 + j.toNat) + 1 by omega, List.take_add_one]
        unfold ixOf at hat
        rw [hat]; rfl
      have hst := rcnt_step (x := x) (l := s.pg.take (i.toNat * 16 + j.toNat)) hle.1
      rw [← ht] at hst
      have hb := rcnt_le (x := x) (l := s.pg.take (i.toNat * 16 + j.toNat))
      have hl := hlen (i.toNat * 16 + j.toNat)
      have hmu : (16 - (j + 1)).toNat < (16 - j).toNat := by omega
      rw [wrap64 (x := j + 1) (by omega) (by omega), wrap64 (x := rcnt x (s.pg.take (i.toNat * 16 + j.toNat)) + 1) (by omega) (by omega)]
      refine ⟨i0, hi, j0, hj, _, ha.frm i0 hi j0 hj, iteP_nec (fun hc => ⟨i0, hi, j0, hj, _, ha.frm i0 hi j0 hj, ?_⟩) fun hc => ⟨⟨rfl, by omega, by omega, ?_⟩, hmu⟩⟩
      · have hf : frm (pgOf s i j) ≤ 64 ∧ 0 ≤ frm (pgOf s i j) := by unfold frm; split <;> omega
        rw [wrap64 (x := frm (pgOf s i j) - 1) (by omega) (by omega)]
        refine iteP_eqc (fun hx => ⟨⟨rfl, by omega, by omega, ?_⟩, hmu⟩) fun hx => ⟨⟨rfl, by omega, by omega, ?_⟩, hmu⟩
        · rw [hst, if_pos ⟨hc, hx⟩]
        · rw [hst, if_neg (fun e => hx e.2)]; omega
      · rw [hst, if_neg (fun e => e.1 hc)]; omega
    · rw [wrap64 (x := i + 1) (by omega) (by omega)]
      refine ⟨⟨rfl, by omega, by omega, ?_⟩, by show (6 - (i + 1)).toNat < (6 - i).toNat; omega⟩
      rw [show i.toNat * 16 + j.toNat = (i + 1).toNat * 16 by omega]
  · have e : s.pg.take (i.toNat * 16) = s.pg := by rw [List.take_of_length_le]; rw [hw.lp]; omega
    rw [e, rcnt_refS hw]; exact hK
end
end Go.Proofs.Ytmdhfmljgjnggaa
/- The reference of vm: Left, next, needs. No condition. -/
namespace Go.Proofs.Ytmdhfmljgjnggaa
attribute [local irreducible] semWP
set_option linter.constructorNameAsVariable false
section
variable {h : Hp} {r : Nat} {s : VmS} {K : Value → Hp → Prop} {F : List Nat}
theorem r_Left (hv : RefRep h r s F) (hK : K (.int .i64 (leftS s)) h) : CallsH Try.prog f_ref19_Vm_Left #[.pointer (some ⟨r, 0, none⟩)] h K := by
  have hv0 := hv
  obtain ⟨m, f, rfl, ha, hw⟩ := hv
  refine q_ref19_Vm_Left_calls r h K ?_
  unfold q_ref19_Vm_Left
  have hn := ha.mem.le
  refine ⟨fun a i h' => h = h' ∧ 0 ≤ i ∧ i ≤ s.n ∧ a = leftL (refsOf s.pg) i.toNat, fun _ i _ => ((s.n : Int) - i).toNat, ⟨rfl, by omega, by omega, rfl⟩, ?_⟩
  rintro a i _ ⟨rfl, i0, i1, rfl⟩
  have hb := leftL_le (refsOf s.pg) i.toNat
  refine ⟨_, ha.c0, r_Size ha.mem ⟨_, rfl, iteP_cases (fun hi => ?_) fun hi => ?_⟩⟩
  · have hg := refsOf_get (pg := s.pg) (f := i.toNat) (by omega)
    have e : leftL (refsOf s.pg) (i + 1).toNat = leftL (refsOf s.pg) i.toNat + if cnt ((i.toNat : Nat) : Int) s.pg = 0 then 1 else 0 := by
      rw [show (i + 1).toNat = i.toNat + 1 by omega]; simp only [leftL, hg, Option.getD_some]
    rw [show ((i.toNat : Nat) : Int) = i by omega] at e
    have er : refS s i = cnt i s.pg := by unfold refS; rw [if_neg (by omega)]
    rw [wrap64 (x := i + 1) (by omega) (by omega), wrap64 (x := leftL (refsOf s.pg) i.toNat + 1) (by omega) (by omega)]
    have hmu : ((s.n : Int) - (i + 1)).toNat < ((s.n : Int) - i).toNat := by omega
    refine r_Refs hv0 i ⟨_, rfl, ?_⟩
    rw [er]
    refine iteP_eqc (fun h4 => ⟨⟨rfl, by omega, by omega, ?_⟩, hmu⟩) fun h4 => ⟨⟨rfl, by omega, by omega, ?_⟩, hmu⟩
    · rw [e, if_pos h4]
    · rw [e, if_neg h4]; omega
  · have : i.toNat = s.n := by omega
    rw [this]; exact hK
theorem nextF_none {pg : List Int} {n : Nat} (hn : n ≤ 64) (h : ∀ j : Nat, j < n → cnt j pg ≠ 0) : nextF (refsOf pg) n = none := by
  unfold nextF
  rw [List.find?_eq_none]
  intro j hj
  have hj' : j < n := by simpa using hj
  rw [refsOf_get (by omega)]
  simpa using h j hj'
theorem nextF_some {pg : List Int} {n i : Nat} (hn : n ≤ 64) (hi : i < n) (h : ∀ j : Nat, j < i → cnt j pg ≠ 0) (h0 : cnt i pg = 0) : nextF (refsOf pg) n = some i := by
  unfold nextF
  rw [List.find?_eq_some_iff_append]
  refine ⟨by rw [refsOf_get (by omega), h0]; rfl, List.range i, (List.range' (i + 1) (n - (i + 1))), ?_, ?_⟩
  · rw [List.range_eq_range', List.range_eq_range', show n = i + (n - i) by omega, ← List.range'_append_1]
    rw [show n - i = (n - (i + 1)) + 1 by omega, List.range'_succ]
    simp
    omega
  · intro j hj
    have hj' : j < i := by simpa using hj
    rw [refsOf_get (by omega)]
    simpa using h j hj'
theorem r_next (hv : RefRep h r s F) (hK : K (.int .i64 ((nextF (refsOf s.pg) s.n).elim (-1) fun i => (i : Int))) h) : CallsH Try.prog f_ref19_Vm_next #[.pointer (some ⟨r, 0, none⟩)] h K := by
  have hv0 := hv
  obtain ⟨m, f, rfl, ha, hw⟩ := hv
  refine q_ref19_Vm_next_calls r h K ?_
  unfold q_ref19_Vm_next
  have hn := ha.mem.le
  refine ⟨fun i h' => h = h' ∧ 0 ≤ i ∧ i ≤ s.n ∧ ∀ j : Nat, (j : Int) < i → cnt j s.pg ≠ 0, fun i _ => ((s.n : Int) - i).toNat, ⟨rfl, by omega, by omega, fun j hj => by omega⟩, ?_⟩
  rintro i _ ⟨rfl, i0, i1, hall⟩
  refine ⟨_, ha.c0, r_Size ha.mem ⟨_, rfl, iteP_cases (fun hi => ?_) fun hi => ?_⟩⟩
  · have er : refS s i = cnt i s.pg := by unfold refS; rw [if_neg (by omega)]
    rw [wrap64 (x := i + 1) (by omega) (by omega)]
    refine r_Refs hv0 i ⟨_, rfl, ?_⟩
    rw [er]
    have ei : ((i.toNat : Nat) : Int) = i := by omega
    refine iteP_eqc (fun h4 => ?_) fun h4 => ⟨⟨rfl, by omega, by omega, fun j hj => ?_⟩, by show ((s.n : Int) - (i + 1)).toNat < ((s.n : Int) - i).toNat; omega⟩
    · rw [nextF_some (i := i.toNat) hn (by omega) (fun j hj => hall j (by omega)) (by rw [ei]; exact h4)] at hK
      rw [Option.elim_some, ei] at hK
      exact hK
    · by_cases hji : (j : Int) < i
      · exact hall j hji
      · rw [show (j : Int) = i by omega]; exact h4
  · rw [nextF_none hn (fun j hj => hall j (by omega))] at hK
    exact hK
end
end Go.Proofs.Ytmdhfmljgjnggaa
/- The reference of vm: needs, Fork, New. No condition. -/
namespace Go.Proofs.Ytmdhfmljgjnggaa
attribute [local irreducible] semWP
set_option linter.constructorNameAsVariable false
section
variable {h : Hp} {r : Nat} {s : VmS} {K : Value → Hp → Prop} {F : List Nat}
theorem RefRep.ext {h' : Hp} (hv : RefRep h r s F) (he : Ext h h') : RefRep h' r s F := hv.congr fun q hq => he.frame q (hv.lt q hq) (by simp)
theorem r_needs (hv : RefRep h r s F) {pid page : Int} (hp : pgOf s pid page ≠ -2) (bb : Bool) (hK : ∀ h', Ext h h' → K (.bool (!aloneS s pid page)) h') :
    CallsH Try.prog f_ref19_Vm_needs #[.pointer (some ⟨r, 0, none⟩), .agg #[.bool bb, .int .i64 (frm (pgOf s pid page))]] h K := by
  obtain ⟨i1, i2, i3, i4⟩ := pgOf_in hp
  have hw : Wf s := by obtain ⟨m, f, rfl, ha, hw⟩ := hv; exact hw
  have hle := hw.pg_le pid page
  have h64 := hw.le
  have hat := hw.at i1 i2 i3 i4
  refine q_ref19_Vm_needs_calls r bb _ h K ?_
  unfold q_ref19_Vm_needs
  refine letH_iff.2 ?_
  have x1 : Ext h (h.push (.cells #[.bool bb, .int .i64 (frm (pgOf s pid page))] T_N_ref19_page)) := Ext.push _ _
  have hc : cellAt (h.push (.cells #[.bool bb, .int .i64 (frm (pgOf s pid page))] T_N_ref19_page)) ⟨h.size, 1, none⟩ = some (.int .i64 (frm (pgOf s pid page))) := by
    rw [cellAt_cells (push_new _ _)]; rfl
  generalize h.push (.cells #[.bool bb, .int .i64 (frm (pgOf s pid page))] T_N_ref19_page) = g at *
  have hk := hK g x1
  unfold aloneS at hk
  refine ⟨_, hc, iteP_eqc (fun h0 => ?_) fun h0 => ⟨_, hc, ?_⟩⟩
  · rw [frm_eq (by omega)] at h0
    rw [show pgOf s pid page = -1 by omega] at hk
    exact hk
  · rw [ne_eq, frm_eq (by omega)] at h0
    have e : IntKind.wrap .i64 (frm (pgOf s pid page) - 1) = pgOf s pid page := by
      unfold frm; rw [if_neg h0, wrap64 (by omega) (by omega)]; omega
    rw [e]
    refine r_Refs (hv.ext x1) _ ⟨_, rfl, ?_⟩
    have er : refS s (pgOf s pid page) = cnt (pgOf s pid page) s.pg := by unfold refS; rw [if_neg (by omega)]
    have hpos := cnt_pos hat
    rw [er]
    have e2 : (!(pgOf s pid page != -1 && cnt (pgOf s pid page) s.pg == 1)) = decide (cnt (pgOf s pid page) s.pg > 1) := by
      have : (pgOf s pid page != -1) = true := by simp; omega
      rw [this, Bool.true_and]
      by_cases h1 : cnt (pgOf s pid page) s.pg = 1
      · simp [h1]
      · have : cnt (pgOf s pid page) s.pg > 1 := by omega
        simp [h1, this]
    rw [e2] at hk
    exact hk
end
end Go.Proofs.Ytmdhfmljgjnggaa
/- The reference of vm: Poke. No condition. -/
namespace Go.Proofs.Ytmdhfmljgjnggaa
attribute [local irreducible] semWP
set_option linter.constructorNameAsVariable false
section
variable {h h' : Hp} {r m f : Nat} {s : VmS} {K : Value → Hp → Prop} {F : List Nat}
theorem RefAt.setFrm (ha : RefAt h r m f s) (hw : Wf s) {pid page x : Int} (hp : pgOf s pid page ≠ -2) (hx : 0 ≤ x) :
    RefAt (setH h ((((⟨r, 7, none⟩ : Addr).add (Int.toNat pid * 32)).add (Int.toNat page * 2)).add 1) (.int .i64 (x + 1))) r m f (setPg s pid page x) := by
  obtain ⟨h1, h2, h3, h4⟩ := pgOf_in hp
  simp only [Addr.add_mk]
  refine ha.raw ((ha.vm.put (rc_frm h1 h2 h3 h4)).ext fun i => ?_) (Step.setH (by simp)) rfl rfl
  rw [← refCell_setPg hw h1 h2 h3 h4, show Go.Proofs.Ytmdhfmljgjnggaa.frm x = x + 1 by unfold Go.Proofs.Ytmdhfmljgjnggaa.frm; rw [if_neg (by omega)]]
  by_cases hi : i = 7 + pid.toNat * 32 + page.toNat * 2 + 1
  · rw [if_pos hi, if_pos hi]
  · rw [if_neg hi, if_neg hi]
    by_cases hj : i = 7 + pid.toNat * 32 + page.toNat * 2
    · rw [if_pos hj, hj, rc_map h1 h2 h3 h4]
      have e1 : (pgOf s pid page != -2) = true := by simpa using hp
      have e2 : (x != -2) = true := by simp; omega
      rw [e1, e2]
    · rw [if_neg hj]
theorem RefAt.setCp (ha : RefAt h r m f s) {x : Int} : RefAt (setH h ⟨r, 199, none⟩ (.int .i64 x)) r m f { s with cp := x } := by
  refine ha.raw ((ha.vm.put (o := 199) (old := .int .i64 s.cp) rfl).ext fun i => ?_) (Step.setH (by simp)) rfl rfl
  unfold refCell
  by_cases hi : i = 199
  · subst hi; rfl
  · rw [if_neg hi, if_neg hi, if_neg hi]
    rfl
theorem RefAt.setMem (ha : RefAt h r m f s) {b : List Int} (hm : MrAt h' m f s.n b) (hs : Step h h' [f] [f]) : RefAt h' r m f { s with b := b } := by
  obtain ⟨n1, n2, n3⟩ := ha.ne
  refine ⟨(ha.vm.congr (hs.frame r ha.lt.1 (by simpa using n2))).ext fun i => rfl, hm⟩
set_option maxHeartbeats 1000000 in
theorem r_Poke (hv : RefRep h r s F) (pid addr c : Int) (hK : ∀ h', RefRep h' r (pokeS s pid addr c).2 F → Step h h' F F → K (.int .i64 (pokeS s pid addr c).1) h') :
    CallsH Try.prog f_ref19_Vm_Poke #[.pointer (some ⟨r, 0, none⟩), .int .i64 pid, .int .i64 addr, .int .u8 c] h K := by
  have hv0 := hv
  obtain ⟨m, f, rfl, ha, hw⟩ := hv
  refine q_ref19_Vm_Poke_calls r pid addr c h K ?_
  unfold q_ref19_Vm_Poke
  unfold pokeS at hK
  refine r_at ha pid addr ⟨_, rfl, iteP_nec (fun he => ?_) fun he => ?_⟩
  · rw [if_pos he] at hK; exact hK h hv0 (Step.refl _ _)
  rw [if_neg (by simp [he])] at hK
  obtain ⟨hh, h1, h2, h3, h4, hp⟩ := addrE_ok he
  rw [tdiv32 h3 h4, tmod32 h3]
  have g3 : 0 ≤ addr / 32 := by omega
  have g4 : addr / 32 < 16 := by omega
  have o0 : 0 ≤ addr % 32 := by omega
  have o1 : addr % 32 < 32 := by omega
  generalize addr / 32 = page at *
  generalize addr % 32 = off at *
  have hle := hw.pg_le pid page
  have h64 := hw.le
  have hat := hw.at h1 h2 g3 g4
  refine ⟨h1, h2, g3, g4, _, ha.map h1 h2 g3 g4, _, ha.frm h1 h2 g3 g4, letH_iff.2 ?_⟩
  have hz : (zeroCells Try.prog T_N_ref19_page) = #[.bool false, .int .i64 0] := by kernel_rfl
  rw [hz]
  have x1 : Ext h (h.push (.cells #[.bool false, .int .i64 0] T_N_ref19_page)) := Ext.push _ _
  have b1 : (h.push (.cells #[.bool false, .int .i64 0] T_N_ref19_page))[h.size]? = some (.cells #[.bool false, .int .i64 0] T_N_ref19_page) := push_new _ _
  have z1 : (h.push (.cells #[.bool false, .int .i64 0] T_N_ref19_page)).size = h.size + 1 := by simp
  generalize h.push (.cells #[.bool false, .int .i64 0] T_N_ref19_page) = g1 at *
  refine ⟨⟨_, by rw [cellAt_cells b1]; rfl⟩, frozenAt_cells b1, letH_iff.2 ?_⟩
  have b2 := setH_same (o := 0) (v := .bool (pgOf s pid page != -2)) b1
  have s2 : Step g1 (setH g1 ⟨h.size, 0, none⟩ (.bool (pgOf s pid page != -2))) [h.size] [h.size] := Step.setH (by simp)
  generalize setH g1 ⟨h.size, 0, none⟩ (.bool (pgOf s pid page != -2)) = g2 at *
  refine ⟨⟨_, by rw [cellAt_cells b2]; rfl⟩, frozenAt_cells b2, letH_iff.2 ?_⟩
  have b3 := setH_same (o := 1) (v := .int .i64 (frm (pgOf s pid page))) b2
  have s3 : Step g2 (setH g2 ⟨h.size, 1, none⟩ (.int .i64 (frm (pgOf s pid page)))) [h.size] [h.size] := Step.setH (by simp)
  generalize setH g2 ⟨h.size, 1, none⟩ (.int .i64 (frm (pgOf s pid page))) = g3' at *
  have x3 : Ext h g3' := x1.trans' (s2.trans s3) (by simp)
  have c0 : ∀ {g : Hp}, g[h.size]? = g3'[h.size]? → cellAt g ⟨h.size, 0, none⟩ = some (.bool (pgOf s pid page != -2)) := fun e => by rw [cellAt_cells (e.trans b3)]; rfl
  have c1 : ∀ {g : Hp}, g[h.size]? = g3'[h.size]? → cellAt g ⟨h.size, 1, none⟩ = some (.int .i64 (frm (pgOf s pid page))) := fun e => by rw [cellAt_cells (e.trans b3)]; rfl
  refine ⟨_, c0 rfl, _, c1 rfl, ?_⟩
  refine r_needs (hv0.ext x3) hp _ fun g4' x4 => ⟨_, rfl, ?_⟩
  have hlt : h.size < g3'.size := lt_of_at b3
  have e4 : g4'[h.size]? = g3'[h.size]? := x4.frame _ hlt (by simp)
  have x5 := x3.trans x4
  have ha4 : RefAt g4' r m f s := ha.congr fun q hq => x5.frame q (hv0.lt q hq) (by simp)
  have hv4 : RefRep g4' r s [r, m, f] := ⟨m, f, rfl, ha4, hw⟩
  have hin : ∀ q ∈ [r, m, f], q < h.size := hv0.lt
  have fin : ∀ {g' : Hp}, Step g4' g' [r, m, f] [r, m, f] → Step h g' [r, m, f] [r, m, f] := fun st => (x5.mono (by simp) fun _ hr => .inr hr).trans st
  cases hal : aloneS s pid page with
  | true =>
    unfold aloneS at hal
    simp only [Bool.and_eq_true, bne_iff_ne, ne_eq, beq_iff_eq] at hal
    have ho : ownS s pid page = some s := by unfold ownS; rw [if_pos hal]
    rw [ho] at hK
    refine iteP_f rfl ⟨_, ha4.c0, h1, h2, g3, g4, _, ha4.frm h1 h2 g3 g4, ?_⟩
    have e : IntKind.wrap .i64 (frm (pgOf s pid page) - 1) = pgOf s pid page := by
      unfold frm; rw [if_neg (by omega), wrap64 (by omega) (by omega)]; omega
    rw [e]
    exact r_SetByte ha4.mem _ _ c (by omega) (by omega) o0 o1 fun g5 m5 st5 z5 => ⟨_, rfl, hK g5 ⟨m, f, rfl, ha4.setMem m5 st5, hw.congr rfl rfl rfl⟩ (fin (st5.in1 (by simp)))⟩
  | false =>
    have hna : ¬ (pgOf s pid page ≠ -1 ∧ cnt (pgOf s pid page) s.pg = 1) := by
      rintro ⟨q1, q2⟩
      unfold aloneS at hal
      simp [q1, q2] at hal
    refine iteP_t rfl (r_next hv4 ⟨_, rfl, ?_⟩)
    cases hnx : nextF (refsOf s.pg) s.n with
    | none =>
      have ho : ownS s pid page = none := by unfold ownS; rw [if_neg hna, hnx]
      rw [ho] at hK
      exact iteP_yes (by decide) (hK g4' hv4 (fin (Step.refl _ _)))
    | some i =>
      obtain ⟨hi, hi0⟩ := nextF_spec hnx h64
      rw [Option.elim_some]
      refine iteP_no (by omega) ⟨_, c1 e4, iteP_eqc (fun hc => ⟨_, ha4.c0, ?_⟩) fun hc => ⟨_, ha4.c0, _, c1 e4, ?_⟩⟩
      · rw [frm_eq (by omega)] at hc
        have hc1 : pgOf s pid page = -1 := by omega
        have ho : ownS s pid page = some { s with b := over s.b (i * 32) (List.replicate 32 0), pg := s.pg.set (ixOf pid page) i } := by unfold ownS; rw [if_neg hna, hnx]; simp only; rw [if_pos hc1]
        rw [ho] at hK
        refine r_Zero ha4.mem i (by omega) (by omega) fun g5 m5 st5 z5 => ⟨_, rfl, h1, h2, g3, g4, ?_⟩
        rw [show ((i : Nat) : Int).toNat * 32 = i * 32 by omega] at m5
        have ha5 := ha4.setMem m5 st5
        generalize over s.b (i * 32) (List.replicate 32 0) = B at *
        have hw5 : Wf { s with b := B } := hw.congr rfl rfl rfl
        have hp5 : pgOf { s with b := B } pid page ≠ -2 := by rw [pgOf_congr (s' := s) (by rfl)]; exact hp
        refine ⟨⟨_, ha5.frm h1 h2 g3 g4⟩, by simp only [Addr.add_mk]; exact ha5.vm.fz _, letH_iff.2 ?_⟩
        rw [wrap64 (x := (i : Int) + 1) (by omega) (by omega)]
        have ha6 := ha5.setFrm hw5 (x := (i : Int)) hp5 (by omega)
        have st6 : Step g5 (setH g5 ((((⟨r, 7, none⟩ : Addr).add (Int.toNat pid * 32)).add (Int.toNat page * 2)).add 1) (.int .i64 ((i : Int) + 1))) [r] [r] := by simp only [Addr.add_mk]; exact Step.setH (by simp)
        generalize setH g5 ((((⟨r, 7, none⟩ : Addr).add (Int.toNat pid * 32)).add (Int.toNat page * 2)).add 1) (.int .i64 ((i : Int) + 1)) = g6 at *
        have hpg : pgOf (setPg { s with b := B } pid page i) pid page = i := by rw [pgOf_setPg hw5 h1 h2 g3 g4, if_pos ⟨rfl, rfl⟩]
        refine ⟨_, ha6.c0, h1, h2, g3, g4, _, ha6.frm h1 h2 g3 g4, ?_⟩
        have e : IntKind.wrap .i64 (frm (pgOf (setPg { s with b := B } pid page i) pid page) - 1) = i := by
          rw [hpg]; unfold frm; rw [if_neg (by omega), wrap64 (by omega) (by omega)]; omega
        rw [e]
        refine r_SetByte ha6.mem _ _ c (by omega) (by show (i : Int) < (s.n : Int); omega) o0 o1 fun g7 m7 st7 z7 => ⟨_, rfl, hK g7 ⟨m, f, rfl, ?_, ?_⟩ (fin (((st5.in1 (by simp)).trans (st6.in1 (by simp))).trans (st7.in1 (by simp))))⟩
        · have e2 : pgOf { s with b := B, pg := s.pg.set (ixOf pid page) i } pid page = i := hpg
          show RefAt g7 r m f { s with b := B.set (pgOf { s with b := B, pg := s.pg.set (ixOf pid page) i } pid page * 32 + off).toNat c, pg := s.pg.set (ixOf pid page) i }
          rw [e2]
          exact ha6.setMem m7 st7
        · exact (hw5.setPg (x := (i : Int)) hh g3 g4 (by omega) (by show (i : Int) < (s.n : Int); omega)).congr rfl rfl rfl
      · rw [ne_eq, frm_eq (by omega)] at hc
        have hc1 : pgOf s pid page ≠ -1 := by omega
        have ho : ownS s pid page = some { s with b := over s.b (i * 32) ((s.b.drop ((pgOf s pid page).toNat * 32)).take 32), pg := s.pg.set (ixOf pid page) i, cp := IntKind.wrap .i64 (s.cp + 1) } := by unfold ownS; rw [if_neg hna, hnx]; simp only; rw [if_neg hc1]
        rw [ho] at hK
        have e : IntKind.wrap .i64 (frm (pgOf s pid page) - 1) = pgOf s pid page := by
          unfold frm; rw [if_neg hc, wrap64 (by omega) (by omega)]; omega
        rw [e]
        refine r_Copy ha4.mem i _ (by omega) (by omega) (by omega) (by omega) fun g5 m5 st5 z5 => ⟨_, rfl, ?_⟩
        rw [show ((i : Nat) : Int).toNat * 32 = i * 32 by omega] at m5
        have ha5 := ha4.setMem m5 st5
        generalize over s.b (i * 32) ((s.b.drop ((pgOf s pid page).toNat * 32)).take 32) = B at *
        refine ⟨_, ha5.c199, ⟨_, ha5.c199⟩, ha5.vm.fz _, letH_iff.2 ⟨h1, h2, g3, g4, ?_⟩⟩
        have ha6 := ha5.setCp (x := IntKind.wrap .i64 (s.cp + 1))
        have st6 : Step g5 (setH g5 ⟨r, 199, none⟩ (.int .i64 (IntKind.wrap .i64 (s.cp + 1)))) [r] [r] := Step.setH (by simp)
        generalize setH g5 ⟨r, 199, none⟩ (.int .i64 (IntKind.wrap .i64 (s.cp + 1))) = g6 at *
        generalize IntKind.wrap .i64 (s.cp + 1) = CP at *
        have hw6 : Wf { s with b := B, cp := CP } := hw.congr rfl rfl rfl
        have hp6 : pgOf { s with b := B, cp := CP } pid page ≠ -2 := by rw [pgOf_congr (s' := s) (by rfl)]; exact hp
        refine ⟨⟨_, ha6.frm h1 h2 g3 g4⟩, by simp only [Addr.add_mk]; exact ha6.vm.fz _, letH_iff.2 ?_⟩
        rw [wrap64 (x := (i : Int) + 1) (by omega) (by omega)]
        have ha7 := ha6.setFrm hw6 (x := (i : Int)) hp6 (by omega)
        have st7 : Step g6 (setH g6 ((((⟨r, 7, none⟩ : Addr).add (Int.toNat pid * 32)).add (Int.toNat page * 2)).add 1) (.int .i64 ((i : Int) + 1))) [r] [r] := by simp only [Addr.add_mk]; exact Step.setH (by simp)
        generalize setH g6 ((((⟨r, 7, none⟩ : Addr).add (Int.toNat pid * 32)).add (Int.toNat page * 2)).add 1) (.int .i64 ((i : Int) + 1)) = g7 at *
        have hpg : pgOf (setPg { s with b := B, cp := CP } pid page i) pid page = i := by rw [pgOf_setPg hw6 h1 h2 g3 g4, if_pos ⟨rfl, rfl⟩]
        refine ⟨_, ha7.c0, h1, h2, g3, g4, _, ha7.frm h1 h2 g3 g4, ?_⟩
        have e3 : IntKind.wrap .i64 (frm (pgOf (setPg { s with b := B, cp := CP } pid page i) pid page) - 1) = i := by
          rw [hpg]; unfold frm; rw [if_neg (by omega), wrap64 (by omega) (by omega)]; omega
        rw [e3]
        refine r_SetByte ha7.mem _ _ c (by omega) (by show (i : Int) < (s.n : Int); omega) o0 o1 fun g8 m8 st8 z8 => ⟨_, rfl, hK g8 ⟨m, f, rfl, ?_, ?_⟩ (fin ((((st5.in1 (by simp)).trans (st6.in1 (by simp))).trans (st7.in1 (by simp))).trans (st8.in1 (by simp))))⟩
        · have e2 : pgOf { s with b := B, pg := s.pg.set (ixOf pid page) i, cp := CP } pid page = i := hpg
          show RefAt g8 r m f { s with b := B.set (pgOf { s with b := B, pg := s.pg.set (ixOf pid page) i, cp := CP } pid page * 32 + off).toNat c, pg := s.pg.set (ixOf pid page) i, cp := CP }
          rw [e2]
          exact ha7.setMem m8 st8
        · exact (hw6.setPg (x := (i : Int)) hh g3 g4 (by omega) (by show (i : Int) < (s.n : Int); omega)).congr rfl rfl rfl
end
end Go.Proofs.Ytmdhfmljgjnggaa
/- The reference of vm: Fork. No condition. -/
namespace Go.Proofs.Ytmdhfmljgjnggaa
attribute [local irreducible] semWP
set_option linter.constructorNameAsVariable false
section
variable {h h' : Hp} {r m f : Nat} {s : VmS} {K : Value → Hp → Prop} {F : List Nat} {g : Nat → Option Value}
theorem RawAt.putRow (ha : RawAt h r g) {o : Nat} {vs : List Value} (hl : 0 < vs.length) (hs : (g (o + (vs.length - 1))).isSome = true) :
    RawAt (setL h ⟨r, o, none⟩ vs 0) r (fun i => if o ≤ i ∧ i < o + vs.length then vs[i - o]? else g i) := by
  obtain ⟨cs, h1, h2⟩ := ha
  have hle : o + vs.length ≤ cs.toList.length := by
    rw [← h2] at hs
    obtain ⟨x, hx⟩ := Option.isSome_iff_exists.1 hs
    have := (Array.getElem?_eq_some_iff.1 hx).1
    simp only [Array.length_toList]; omega
  refine ⟨_, setL_same h1, fun i => ?_⟩
  have := over_get (i := i) hle
  rw [Nat.add_zero, ← Array.getElem?_toList]
  show (over cs.toList o vs)[i]? = _
  rw [this]
  show _ = if o ≤ i ∧ i < o + vs.length then vs[i - o]? else g i
  split
  · rfl
  · rw [Array.getElem?_toList, h2]
theorem refCell_fork {s : VmS} (hw : Wf s) {m : Nat} {a b : Int} (a1 : 0 ≤ a) (a2 : a < 6) (b1 : 0 ≤ b) (b2 : b < 6) (i : Nat) :
    (if 7 + b.toNat * 32 ≤ i ∧ i < 7 + b.toNat * 32 + 32 then refCell s m (7 + a.toNat * 32 + (i - (7 + b.toNat * 32))) else if i = 1 + b.toNat then some (.bool true) else refCell s m i) =
    refCell { s with has := s.has.set b.toNat true, pg := over s.pg (b.toNat * 16) (rowOf s a) } m i := by
  by_cases h7 : i < 7
  · rw [if_neg (by omega), refCell_has hw b1 b2]
    unfold refCell
    by_cases h0 : i = 0
    · rw [if_pos h0, if_pos h0]
    · rw [if_neg h0, if_neg h0, if_pos h7, if_pos h7]; rfl
  · by_cases h9 : i < 199
    · have e : ∀ t : VmS, refCell t m i = (if (i - 7) % 2 = 0 then some (.bool (pgOf t (((i - 7) / 32 : Nat) : Int) (((i - 7) % 32 / 2 : Nat) : Int) != -2)) else some (.int .i64 (frm (pgOf t (((i - 7) / 32 : Nat) : Int) (((i - 7) % 32 / 2 : Nat) : Int))))) := fun t => by
        unfold refCell; rw [if_neg (by omega), if_neg h7, if_pos h9]
      have epg := pgOf_fork hw (q := (((i - 7) / 32 : Nat) : Int)) (page := (((i - 7) % 32 / 2 : Nat) : Int)) a1 a2 b1 b2 (s.has.set b.toNat true)
      rw [e { s with has := s.has.set b.toNat true, pg := over s.pg (b.toNat * 16) (rowOf s a) }, epg, e s]
      by_cases hb : 7 + b.toNat * 32 ≤ i ∧ i < 7 + b.toNat * 32 + 32
      · have qb : (((i - 7) / 32 : Nat) : Int) = b := by omega
        rw [if_pos hb]
        simp only [if_pos qb]
        unfold refCell
        rw [if_neg (by omega), if_neg (by omega), if_pos (by omega)]
        have q1 : (((7 + a.toNat * 32 + (i - (7 + b.toNat * 32)) - 7) / 32 : Nat) : Int) = a := by omega
        have q2 : ((7 + a.toNat * 32 + (i - (7 + b.toNat * 32)) - 7) % 32 / 2) = ((i - 7) % 32 / 2) := by omega
        have q3 : (7 + a.toNat * 32 + (i - (7 + b.toNat * 32)) - 7) % 2 = (i - 7) % 2 := by omega
        rw [q1, q2, q3]
      · have nb : ¬ (((i - 7) / 32 : Nat) : Int) = b := by omega
        rw [if_neg hb, if_neg (show ¬ i = 1 + b.toNat by omega)]
        simp only [if_neg nb]
    · rw [if_neg (by omega), if_neg (by omega)]
      unfold refCell
      simp only [if_neg (show ¬ i = 0 by omega), if_neg h7, if_neg h9]
theorem r_Fork (hv : RefRep h r s F) (a b : Int) (hK : ∀ h', RefRep h' r (forkS s a b).2 F → Step h h' F F → K (.int .i64 (forkS s a b).1) h') :
    CallsH Try.prog f_ref19_Vm_Fork #[.pointer (some ⟨r, 0, none⟩), .int .i64 a, .int .i64 b] h K := by
  have hv0 := hv
  obtain ⟨m, f, rfl, ha, hw⟩ := hv
  refine q_ref19_Vm_Fork_calls r a b h K ?_
  unfold q_ref19_Vm_Fork
  unfold forkS at hK
  refine r_vmay ha a ⟨_, rfl, ?_⟩
  cases hh : hasOf s a with
  | false => rw [if_pos hh] at hK; exact iteP_ne (by decide) (hK h hv0 (Step.refl _ _))
  | true =>
    rw [if_neg (by simp [hh])] at hK
    refine iteP_nne rfl (r_vfresh ha b ⟨_, rfl, iteP_nec (fun he => ?_) fun he => ?_⟩)
    · rw [if_pos he] at hK; exact hK h hv0 (Step.refl _ _)
    rw [if_neg (by simp [he])] at hK
    obtain ⟨b1, b2, hb⟩ := freshE_ok he
    obtain ⟨a1, a2⟩ := hasOf_in hh
    have hsome : ∀ i, i < 32 → ∃ u, refCell s m (7 + a.toNat * 32 + i) = some u ∧ oneV u = true := fun i hi => by
      unfold refCell
      rw [if_neg (by omega), if_neg (by omega), if_pos (by omega)]
      split
      · exact ⟨_, rfl, rfl⟩
      · exact ⟨_, rfl, rfl⟩
    obtain ⟨cs, hcs, hget⟩ : ∃ cs : List Value, cs.length = 32 ∧ ∀ i, i < 32 → cs[i]? = refCell s m (7 + a.toNat * 32 + i) :=
      ⟨(List.range 32).map fun i => (refCell s m (7 + a.toNat * 32 + i)).getD undef, by simp, fun i hi => by
        obtain ⟨u, hu, _⟩ := hsome i hi
        simp [hi, hu]⟩
    refine ⟨a1, a2, ⟨cs⟩, ⟨by simpa using hcs, fun i hi => ?_⟩, b1, b2, ⟨_, ha.has b1 b2⟩, by rw [Addr.add_mk]; exact ha.vm.fz _, letH_iff.2 ⟨b1, b2, by simpa using hcs, fun i hi => ?_, ?_⟩⟩
    · rw [Addr.add_mk, Addr.add_mk, ha.vm.cell, ← hget i hi]; simp
    · obtain ⟨u, hu, ho⟩ := hsome i hi
      exact ⟨u, by rw [← hu, ← hget i hi]; simp, ho⟩
    rw [Addr.add_mk, Nat.mul_one, Addr.add_mk]
    have p1 := ha.vm.put (v := .bool true) (rc_has (s := s) (m := m) b1 b2)
    have st1 : Step h (setH h ⟨r, 1 + b.toNat, none⟩ (.bool true)) [r] [r] := Step.setH (by simp)
    generalize setH h ⟨r, 1 + b.toNat, none⟩ (.bool true) = h1 at *
    have hc : ∀ i, i < 32 → ∃ u, (fun i => if i = 1 + b.toNat then some (Value.bool true) else refCell s m i) (7 + b.toNat * 32 + i) = some u := fun i hi => by
      have hne : ¬ 7 + b.toNat * 32 + i = 1 + b.toNat := by omega
      simp only [if_neg hne]
      unfold refCell
      rw [if_neg (by omega), if_neg (by omega), if_pos (by omega)]
      split <;> exact ⟨_, rfl⟩
    refine ⟨fun i hi => ⟨?_, by rw [Addr.add_mk]; exact p1.fz _⟩, letH_iff.2 ?_⟩
    · rw [Addr.add_mk, p1.cell]; exact hc i hi
    have p2 := p1.putRow (o := 7 + b.toNat * 32) (vs := cs) (by omega) (by obtain ⟨u, hu⟩ := hc 31 (by omega); rw [hcs]; exact Option.isSome_iff_exists.2 ⟨u, hu⟩)
    have st2 : Step h1 (setRow h1 ⟨r, 7 + b.toNat * 32, none⟩ ⟨cs⟩) [r] [r] := ⟨by unfold setRow; rw [setL_size]; exact Nat.le_refl _, fun q _ hq => setL_other (by simpa using hq), fun _ hq => .inl hq⟩
    have hfin : RefAt (setRow h1 ⟨r, 7 + b.toNat * 32, none⟩ ⟨cs⟩) r m f { s with has := s.has.set b.toNat true, pg := over s.pg (b.toNat * 16) (rowOf s a) } := by
      refine ha.raw (p2.ext fun i => ?_) (st1.trans st2) rfl rfl
      rw [← refCell_fork hw a1 a2 b1 b2, hcs]
      by_cases hi : 7 + b.toNat * 32 ≤ i ∧ i < 7 + b.toNat * 32 + 32
      · rw [if_pos hi, if_pos hi, hget _ (by omega)]
      · rw [if_neg hi, if_neg hi]
    exact hK _ ⟨m, f, rfl, hfin, hw.fork hh b1 b2⟩ ((st1.trans st2).in1 (by simp))
end
end Go.Proofs.Ytmdhfmljgjnggaa
/- The reference of vm: End, Pages, New. No condition. -/
namespace Go.Proofs.Ytmdhfmljgjnggaa
attribute [local irreducible] semWP
set_option linter.constructorNameAsVariable false
theorem pgOf_setPg' {s : VmS} (hlp : s.pg.length = 96) {pid page x p q : Int} (h1 : 0 ≤ pid) (h2 : pid < 6) (h3 : 0 ≤ page) (h4 : page < 16) : pgOf (setPg s pid page x) p q = if p = pid ∧ q = page then x else pgOf s p q := by
  unfold pgOf setPg
  by_cases hr : 0 ≤ p ∧ p < 6 ∧ 0 ≤ q ∧ q < 16
  · rw [if_pos hr, if_pos hr, List.getElem?_set]
    by_cases he : p = pid ∧ q = page
    · obtain ⟨rfl, rfl⟩ := he
      have : ixOf p q < s.pg.length := by rw [hlp]; unfold ixOf; omega
      simp [this]
    · rw [if_neg he, if_neg]
      intro h5
      have := ixOf_inj h1 h3 h4 hr.1 hr.2.2.1 hr.2.2.2 h5
      omega
  · rw [if_neg hr, if_neg hr, if_neg]
    omega
theorem refCell_setPg' {s : VmS} (hlp : s.pg.length = 96) {m : Nat} {pid page x : Int} (h1 : 0 ≤ pid) (h2 : pid < 6) (h3 : 0 ≤ page) (h4 : page < 16) (i : Nat) :
    (if i = 7 + pid.toNat * 32 + page.toNat * 2 + 1 then some (.int .i64 (frm x)) else if i = 7 + pid.toNat * 32 + page.toNat * 2 then some (.bool (x != -2)) else refCell s m i) = refCell (setPg s pid page x) m i := by
  by_cases hA : i = 7 + pid.toNat * 32 + page.toNat * 2 + 1
  · rw [if_pos hA, hA, rc_frm h1 h2 h3 h4, pgOf_setPg' hlp h1 h2 h3 h4, if_pos ⟨rfl, rfl⟩]
  · rw [if_neg hA]
    by_cases hB : i = 7 + pid.toNat * 32 + page.toNat * 2
    · rw [if_pos hB, hB, rc_map h1 h2 h3 h4, pgOf_setPg' hlp h1 h2 h3 h4, if_pos ⟨rfl, rfl⟩]
    · rw [if_neg hB]
      unfold refCell
      by_cases h7 : 7 ≤ i
      · by_cases h9 : i < 199
        · have hne : ¬ ((((i - 7) / 32 : Nat) : Int) = pid ∧ (((i - 7) % 32 / 2 : Nat) : Int) = page) := by omega
          rw [pgOf_setPg' hlp h1 h2 h3 h4, if_neg hne]
          rfl
        · simp only [if_neg h9]
          rfl
      · by_cases h0 : i = 0
        · rw [if_pos h0, if_pos h0]
        · rw [if_neg h0, if_neg h0, if_pos (by omega), if_pos (by omega)]
          rfl
section
variable {h h' : Hp} {r m f : Nat} {s : VmS} {K : Value → Hp → Prop} {F : List Nat} {g : Nat → Option Value}
theorem Wf.end_ {s : VmS} (hw : Wf s) {pid : Int} (p1 : 0 ≤ pid) (p2 : pid < 6) (hn : 1 ≤ s.n) : Wf { s with has := s.has.set pid.toNat false, pg := over s.pg (pid.toNat * 16) (List.replicate 16 (-2)) } := by
  refine ⟨by simp [hw.lh], by show (over _ _ _).length = 96; rw [over_length, hw.lp], fun x hx => ?_, fun q page hq => ?_, hw.le⟩
  · obtain ⟨i, hi⟩ := List.getElem?_of_mem hx
    have hi' : (over s.pg (pid.toNat * 16) (List.replicate 16 (-2)))[i]? = some x := hi
    rw [over_get (by simp [hw.lp]; omega)] at hi'
    split at hi'
    · rw [List.eq_of_mem_replicate (List.mem_of_getElem? hi')]
      exact ⟨by decide, by show (-2 : Int) < (s.n : Int); omega⟩
    · exact hw.pgs x (List.mem_of_getElem? hi')
  · have hs := hasOf_set (q := q) (x := false) hw.lh p1 p2
    rw [hasOf_congr (s' := { s with has := s.has.set pid.toNat false }) (by rfl) q, hs] at hq
    rw [pgOf_end hw p1 p2]
    by_cases hqb : q = pid
    · rw [if_pos hqb]
    · rw [if_neg hqb] at hq ⊢; exact hw.off q page hq
theorem r_End (hv : RefRep h r s F) (pid : Int) (hK : ∀ h', RefRep h' r (endS s pid).2 F → Step h h' F F → K (.int .i64 (endS s pid).1) h') :
    CallsH Try.prog f_ref19_Vm_End #[.pointer (some ⟨r, 0, none⟩), .int .i64 pid] h K := by
  have hv0 := hv
  obtain ⟨m, f, rfl, ha, hw⟩ := hv
  refine q_ref19_Vm_End_calls r pid h K ?_
  unfold q_ref19_Vm_End
  unfold endS at hK
  refine r_vmay ha pid ⟨_, rfl, ?_⟩
  cases hh : hasOf s pid with
  | false => rw [if_pos hh] at hK; exact iteP_neq (by decide) (hK h hv0 (Step.refl _ _))
  | true =>
    rw [if_neg (by simp [hh])] at hK
    obtain ⟨h1, h2⟩ := hasOf_in hh
    refine iteP_eq rfl ⟨h1, h2, ⟨_, ha.has h1 h2⟩, by rw [Addr.add_mk]; exact ha.vm.fz _, letH_iff.2 ?_⟩
    rw [Addr.add_mk, Nat.mul_one]
    have s0 : Step h (setH h ⟨r, 1 + pid.toNat, none⟩ (.bool false)) [r] [r] := Step.setH (by simp)
    have a0 : RefAt (setH h ⟨r, 1 + pid.toNat, none⟩ (.bool false)) r m f { s with has := s.has.set pid.toNat false, pg := over s.pg (pid.toNat * 16) (List.replicate (Int.toNat 0) (-2)) } :=
      ha.raw ((ha.vm.put (rc_has h1 h2)).ext fun i => refCell_has hw h1 h2 i) s0 rfl rfl
    generalize setH h ⟨r, 1 + pid.toNat, none⟩ (.bool false) = h0 at *
    refine ⟨fun i hc => 0 ≤ i ∧ i ≤ 16 ∧ RefAt hc r m f { s with has := s.has.set pid.toNat false, pg := over s.pg (pid.toNat * 16) (List.replicate i.toNat (-2)) } ∧ Step h hc [r] [r], fun i _ => (16 - i).toNat, ⟨by omega, by omega, a0, s0⟩, ?_⟩
    rintro i hc ⟨i0, i1, ac, sc⟩
    refine iteP_cases (fun hi => ⟨h1, h2, i0, hi, ⟨_, ac.map h1 h2 i0 hi⟩, by simp only [Addr.add_mk]; exact ac.vm.fz _, letH_iff.2 ?_⟩) fun hi => ?_
    · simp only [Addr.add_mk]
      have p1 := ac.vm.put (v := .bool false) (rc_map h1 h2 i0 hi)
      have s1 : Step hc (setH hc ⟨r, 7 + pid.toNat * 32 + i.toNat * 2, none⟩ (.bool false)) [r] [r] := Step.setH (by simp)
      have hne : ¬ 7 + pid.toNat * 32 + i.toNat * 2 + 1 = 7 + pid.toNat * 32 + i.toNat * 2 := by omega
      have o1 := rc_frm (s := { s with has := s.has.set pid.toNat false, pg := over s.pg (pid.toNat * 16) (List.replicate i.toNat (-2)) }) (m := m) h1 h2 i0 hi
      have o2 : ∃ u, (fun j => if j = 7 + pid.toNat * 32 + i.toNat * 2 then some (Value.bool false) else refCell { s with has := s.has.set pid.toNat false, pg := over s.pg (pid.toNat * 16) (List.replicate i.toNat (-2)) } m j) (7 + pid.toNat * 32 + i.toNat * 2 + 1) = some u := ⟨_, by simp only [if_neg hne]; exact o1⟩
      obtain ⟨u2, o2⟩ := o2
      refine ⟨⟨_, by rw [p1.cell]; exact o2⟩, p1.fz _, letH_iff.2 ?_⟩
      have p2 := p1.put (v := .int .i64 0) o2
      have s2 : Step (setH hc ⟨r, 7 + pid.toNat * 32 + i.toNat * 2, none⟩ (.bool false)) (setH (setH hc ⟨r, 7 + pid.toNat * 32 + i.toNat * 2, none⟩ (.bool false)) ⟨r, 7 + pid.toNat * 32 + i.toNat * 2 + 1, none⟩ (.int .i64 0)) [r] [r] := Step.setH (by simp)
      rw [wrap64 (x := i + 1) (by omega) (by omega)]
      refine ⟨⟨by omega, by omega, ?_, sc.trans (s1.trans s2)⟩, by show (16 - (i + 1)).toNat < (16 - i).toNat; omega⟩
      have eo : over s.pg (pid.toNat * 16) (List.replicate (i + 1).toNat (-2)) = (over s.pg (pid.toNat * 16) (List.replicate i.toNat (-2))).set (ixOf pid i) (-2) := by
        rw [show (i + 1).toNat = i.toNat + 1 by omega, List.replicate_succ', over_snoc, List.length_replicate]
        rfl
      rw [eo]
      refine ac.raw (s' := setPg { s with has := s.has.set pid.toNat false, pg := over s.pg (pid.toNat * 16) (List.replicate i.toNat (-2)) } pid i (-2)) (p2.ext fun j => ?_) (s1.trans s2) rfl rfl
      have e := refCell_setPg' (s := { s with has := s.has.set pid.toNat false, pg := over s.pg (pid.toNat * 16) (List.replicate i.toNat (-2)) }) (by show (over _ _ _).length = 96; rw [over_length, hw.lp]) (x := -2) (m := m) h1 h2 i0 hi j
      rw [show frm (-2) = 0 by decide, show ((-2 : Int) != -2) = false by decide] at e
      exact e
    · have : i.toNat = 16 := by omega
      rw [this] at ac
      exact hK hc ⟨m, f, rfl, ac, hw.end_ h1 h2 ha.mem.pos⟩ (sc.in1 (by simp))
end
end Go.Proofs.Ytmdhfmljgjnggaa
/- The reference of vm: Pages, Fill, New. No condition. -/
namespace Go.Proofs.Ytmdhfmljgjnggaa
attribute [local irreducible] semWP
set_option linter.constructorNameAsVariable false
section
variable {h h' : Hp} {r : Nat} {s : VmS} {K : Value → Hp → Prop} {F : List Nat}
def pagesTo (s : VmS) (pid : Int) (k : Nat) : List Int := ((List.range k).map fun (i : Nat) => (i : Int)).filter fun i => pgOf s pid i != -2
theorem pagesTo_succ (s : VmS) (pid : Int) (k : Nat) : pagesTo s pid (k + 1) = pagesTo s pid k ++ if pgOf s pid k = -2 then [] else [(k : Int)] := by
  unfold pagesTo
  rw [List.range_succ, List.map_append, List.filter_append]
  congr 1
  by_cases hp : pgOf s pid k = -2 <;> simp [hp]
theorem pagesTo_len (s : VmS) (pid : Int) (k : Nat) : (pagesTo s pid k).length ≤ k := by
  unfold pagesTo
  refine Nat.le_trans (List.length_filter_le ..) ?_
  simp
theorem r_Pages (hv : RefRep h r s F) (pid : Int) (hK : ∀ h' p n c F', SlAt h' T_int 1 p n c ((pagesS s pid).map (.int .i64)) F' → Ext h h' → (∀ q ∈ F', h.size ≤ q) → K (.slice p n c) h') :
    CallsH Try.prog f_ref19_Vm_Pages #[.pointer (some ⟨r, 0, none⟩), .int .i64 pid] h K := by
  have hv0 := hv
  obtain ⟨m, f, rfl, ha, hw⟩ := hv
  refine q_ref19_Vm_Pages_calls r pid h K ?_
  unfold q_ref19_Vm_Pages
  refine ⟨fun x i hc => ∃ G, 0 ≤ i ∧ i ≤ 16 ∧ SlAt hc T_int 1 x.1 x.2.1 x.2.2 ((pagesTo s pid i.toNat).map (.int .i64)) G ∧ Ext h hc ∧ ∀ q ∈ G, h.size ≤ q, fun _ i _ => (16 - i).toNat, ⟨[], by omega, by omega, SlAt.nil _ _ _, Step.refl _ _, by simp⟩, ?_⟩
  rintro ⟨p, n, c⟩ i hc ⟨G, i0, i1, sc, xc, gc⟩
  have hac : RefAt hc r m f s := ha.congr fun q hq => xc.frame q (hv0.lt q hq) (by simp)
  have hlen := pagesTo_len s pid i.toNat
  have hn : n = (pagesTo s pid i.toNat).length := by have := sc.len; simp at this; omega
  refine r_vmay hac pid ⟨_, rfl, ?_⟩
  cases hh : hasOf s pid with
  | false =>
    refine iteP_neq (by decide) ?_
    have e : ∀ k, pagesTo s pid k = [] := fun k => by
      unfold pagesTo; rw [List.filter_eq_nil_iff]; intro a _; simp [hw.off pid a hh]
    rw [e] at sc
    refine hK hc p n c G ?_ xc gc
    rw [show pagesS s pid = [] from e 16]; exact sc
  | true =>
    obtain ⟨h1, h2⟩ := hasOf_in hh
    refine iteP_eq rfl (iteP_cases (fun hi => ⟨h1, h2, i0, hi, _, hac.map h1 h2 i0 hi, ?_⟩) fun hi => ?_)
    · have ei : ((i.toNat : Nat) : Int) = i := by omega
      have es := pagesTo_succ s pid i.toNat
      rw [ei] at es
      have e1 : (i + 1).toNat = i.toNat + 1 := by omega
      have hmu : (16 - (i + 1)).toNat < (16 - i).toNat := by omega
      rw [wrap64 (x := i + 1) (by omega) (by omega)]
      by_cases hp : pgOf s pid i = -2
      · refine iteP_f (by simp [hp]) ⟨⟨G, by omega, by omega, ?_, xc, gc⟩, hmu⟩
        rw [e1, es, if_pos hp, List.append_nil]; exact sc
      · refine iteP_t (by simpa using hp) (letH_iff.2 ?_)
        have x1 : Ext hc (hc.push (.cells #[.int .i64 i] T_int)) := Ext.push _ _
        have b1 : (hc.push (.cells #[.int .i64 i] T_int))[hc.size]? = some (.cells #[.int .i64 i] T_int) := push_new _ _
        have gl : ∀ q ∈ G, q < hc.size := fun q hq => by
          rcases sc.is with ⟨_, _, hG⟩ | ⟨b, o, cs, _, hG, hb, _, _⟩
          · rw [hG] at hq; simp at hq
          · rw [hG] at hq; simp at hq; rw [hq]; exact lt_of_at hb
        generalize hc.push (.cells #[.int .i64 i] T_int) = g at *
        refine semWP_append (t := T_s_int) (xt := T_s_int) (el := T_int) (xel := T_int) (i := Try.prog.types[T_int]!) (sz := 1) (by rfl) (by rfl) (by kernel_rfl) (by kernel_rfl) (by kernel_rfl) (by kernel_rfl) (by kernel_rfl) (by kernel_rfl) (by kernel_rfl) (by decide +kernel) (by show n + 1 ≤ _; omega)
          (sc.congr fun q hq => x1.frame q (gl q hq) (by simp)) (xs := [.int .i64 i]) (G := [hc.size]) ⟨by simp, by omega, .inr ⟨hc.size, 0, _, rfl, rfl, b1, by simp, by simp⟩⟩ (by simp [oneV]) fun h6 p6 c6 F6 s6 st6 => ⟨_, _, _, rfl, ⟨F6, by omega, by omega, ?_, ?_, fun q hq => ?_⟩, hmu⟩
        · rw [e1, es, if_neg hp, List.map_append]; exact s6
        · refine ⟨by have := xc.size; have := x1.size; have := st6.size; omega, fun q hq _ => ?_, by simp⟩
          have : q ∉ G := fun hqg => by have := gc q hqg; omega
          have h7 := xc.size
          have h8 := x1.size
          rw [st6.frame q (by omega) this, x1.frame q (by omega) (by simp), xc.frame q hq (by simp)]
        · rcases st6.foot q hq with h7 | h7
          · exact gc q h7
          · have := xc.size; have := x1.size; omega
    · have : i.toNat = 16 := by omega
      rw [this] at sc
      exact hK hc p n c G sc xc gc
theorem spanN_pos {addr : Int} {n : Nat} (hn : 1 ≤ n) (ha : 0 ≤ addr) : (spanN addr n : Int) = (addr + n - 1) / 32 - addr / 32 + 1 := by unfold spanN; omega
/-- How many pages the first bytes meet. -/
def metN (addr : Int) (n : Nat) : Nat := if n = 0 then 0 else spanN addr n
theorem metN_new {addr : Int} {i : Nat} (ha : 0 ≤ addr) (h : i = 0 ∨ (addr + i) % 32 = 0) : metN addr (i + 1) = metN addr i + 1 ∧ addr / 32 + (metN addr i : Nat) = (addr + i) / 32 := by
  unfold metN
  have e1 := spanN_pos (addr := addr) (n := i + 1) (by omega) ha
  by_cases hi : i = 0
  · subst hi; simp only [if_true] at *; constructor <;> simp at * ; omega
  · have e2 := spanN_pos (addr := addr) (n := i) (by omega) ha
    rw [if_neg (by omega), if_neg hi]
    constructor <;> omega
theorem metN_old {addr : Int} {i : Nat} (ha : 0 ≤ addr) (h1 : i ≠ 0) (h2 : (addr + i) % 32 ≠ 0) : metN addr (i + 1) = metN addr i := by
  unfold metN
  have e1 := spanN_pos (addr := addr) (n := i + 1) (by omega) ha
  have e2 := spanN_pos (addr := addr) (n := i) (by omega) ha
  rw [if_neg (by omega), if_neg h1]
  omega
set_option maxHeartbeats 1000000 in
theorem r_Fill (hv : RefRep h r s F) (pid addr : Int) {p : Option Addr} {n c B : Nat} {bs : List Int} (hs : RdAt h p (bs.map (.int .u8)) B) (hbn : bs.length = n) (hB : B ≤ h.size) (hG : ∀ q ∈ F, B ≤ q)
    (hK : ∀ h', RefRep h' r (fillS s pid addr bs).2 F → Step h h' F F → K (.int .i64 (fillS s pid addr bs).1) h') :
    CallsH Try.prog f_ref19_Vm_Fill #[.pointer (some ⟨r, 0, none⟩), .int .i64 pid, .int .i64 addr, .slice p n c] h K := by
  have hv0 := hv
  obtain ⟨m, f, rfl, ha, hw⟩ := hv
  refine q_ref19_Vm_Fill_calls r pid addr p n c h K ?_
  unfold q_ref19_Vm_Fill
  unfold fillS at hK
  rw [hbn] at hK
  refine r_vmay ha pid ⟨_, rfl, ?_⟩
  cases hh : hasOf s pid with
  | false => rw [if_pos hh] at hK; exact iteP_ne (by decide) (hK h hv0 (Step.refl _ _))
  | true =>
  rw [if_neg (by simp [hh])] at hK
  obtain ⟨p1, p2⟩ := hasOf_in hh
  refine iteP_nne rfl ?_
  have hbad : (addr < 0 ∨ 512 ≤ addr ∨ 512 - addr < n) → K (.int .i64 2) h := fun hx => by
    rw [if_pos hx] at hK; exact hK h hv0 (Step.refl _ _)
  refine iteP_cases (fun h1 => hbad (.inl h1)) fun h1 => iteP_cases (fun h2 => hbad (.inr (.inl h2))) fun h2 => ?_
  rw [wrap64 (x := 512 - addr) (by omega) (by omega)]
  refine iteP_cases (fun h3 => hbad (.inr (.inr h3))) fun h3 => ?_
  rw [if_neg (by omega)] at hK
  have hfin : ∀ {g}, Ext h g → RefRep g r s [r, m, f] := fun x => hv0.ext x
  have hst : ∀ {g}, Ext h g → Step h g [r, m, f] [r, m, f] := fun x => x.mono (by simp) fun _ hr => .inr hr
  have hdone : ∀ {g}, Ext h g → n ≠ 0 → mappedN s pid (addr / 32) (spanN addr n) = false → K (.int .i64 10) g := fun x hn0 hm => by
    rw [if_neg hn0, if_pos hm] at hK; exact hK _ (hfin x) (hst x)
  refine ⟨fun a i hc => 0 ≤ i ∧ i ≤ n ∧ a = needN s pid (addr / 32) (metN addr i.toNat) ∧ mappedN s pid (addr / 32) (metN addr i.toNat) = true ∧ Ext h hc, fun _ i _ => ((n : Int) - i).toNat, ⟨by omega, by omega, by simp [metN, needN], by simp [metN, mappedN], Step.refl _ _⟩, ?_⟩
  rintro a i hc ⟨i0, i1, rfl, hmp, xc⟩
  have hac : RefAt hc r m f s := ha.congr fun q hq => xc.frame q (hv0.lt q hq) (by simp)
  have hvc : RefRep hc r s [r, m, f] := hfin xc
  have hnl := needN_le s pid (addr / 32) (metN addr i.toNat)
  refine iteP_cases (fun hi => ?_) fun hi => ?_
  · rw [wrap64 (x := addr + i) (by omega) (by omega), wrap64 (x := i + 1) (by omega) (by omega), tdiv32 (by omega) (by omega), tmod32 (by omega)]
    have hmet : metN addr i.toNat ≤ 17 := by
      unfold metN spanN; split <;> omega
    rw [wrap64 (x := needN s pid (addr / 32) (metN addr i.toNat) + 1) (by omega) (by omega)]
    have hmu : ((n : Int) - (i + 1)).toNat < ((n : Int) - i).toNat := by omega
    have e1 : (i + 1).toNat = i.toNat + 1 := by omega
    have ei : ((i.toNat : Nat) : Int) = i := by omega
    refine r_at hac pid (addr + i) ⟨_, rfl, ?_⟩
    have hae : addrE s pid (addr + i) = if pgOf s pid ((addr + i) / 32) = -2 then 10 else 0 := by
      unfold addrE; rw [if_neg (by simp [hh]), if_neg (by omega)]
    rw [hae]
    by_cases hp : pgOf s pid ((addr + i) / 32) = -2
    · rw [if_pos hp]
      have hsp := spanN_pos (addr := addr) (n := n) (by omega) (by omega)
      exact iteP_ne (by decide) (hdone xc (by omega) (mappedN_false (j := ((addr + i) / 32 - addr / 32).toNat) (by rw [show addr / 32 + (((addr + i) / 32 - addr / 32).toNat : Nat) = (addr + i) / 32 by omega]; exact hp) (by omega)))
    · rw [if_neg hp]
      refine iteP_nne rfl ?_
      have g0 : 0 ≤ (addr + i) / 32 := by omega
      have g1 : (addr + i) / 32 < 16 := by omega
      have hnew : (i = 0 ∨ (addr + i) % 32 = 0) → metN addr (i.toNat + 1) = metN addr i.toNat + 1 ∧ addr / 32 + (metN addr i.toNat : Nat) = (addr + i) / 32 := fun ho => by
        have := metN_new (addr := addr) (i := i.toNat) (by omega) (by omega)
        rw [ei] at this
        exact this
      have hA : (i = 0 ∨ (addr + i) % 32 = 0) → mappedN s pid (addr / 32) (metN addr (i + 1).toNat) = true ∧ needN s pid (addr / 32) (metN addr (i + 1).toNat) = needN s pid (addr / 32) (metN addr i.toNat) + if aloneS s pid ((addr + i) / 32) = true then 0 else 1 := fun ho => by
        obtain ⟨q1, q2⟩ := hnew ho
        rw [e1, q1]
        refine ⟨?_, by simp only [needN, q2]⟩
        simp only [mappedN, q2, hmp]
        simpa using hp
      have hB : (i = 0 ∨ (addr + i) % 32 = 0) → CallsH Try.prog f_ref19_Vm_needs #[.pointer (some ⟨r, 0, none⟩), .agg #[.bool (pgOf s pid ((addr + i) / 32) != -2), .int .i64 (frm (pgOf s pid ((addr + i) / 32)))]] hc fun r14 h15 => ∃ b16 : Bool, r14 = .bool b16 ∧ iteP b16 ((0 ≤ i + 1 ∧ i + 1 ≤ n ∧ needN s pid (addr / 32) (metN addr i.toNat) + 1 = needN s pid (addr / 32) (metN addr (i + 1).toNat) ∧ mappedN s pid (addr / 32) (metN addr (i + 1).toNat) = true ∧ Ext h h15) ∧ ((n : Int) - (i + 1)).toNat < ((n : Int) - i).toNat)
          ((0 ≤ i + 1 ∧ i + 1 ≤ n ∧ needN s pid (addr / 32) (metN addr i.toNat) = needN s pid (addr / 32) (metN addr (i + 1).toNat) ∧ mappedN s pid (addr / 32) (metN addr (i + 1).toNat) = true ∧ Ext h h15) ∧ ((n : Int) - (i + 1)).toNat < ((n : Int) - i).toNat) := fun ho => by
        obtain ⟨q1, q2⟩ := hA ho
        refine r_needs hvc hp _ fun h5 x5 => ⟨_, rfl, iteP_split (fun hal => ⟨⟨by omega, by omega, ?_, q1, xc.trans x5⟩, hmu⟩) fun hal => ⟨⟨by omega, by omega, ?_, q1, xc.trans x5⟩, hmu⟩⟩
        · rw [q2, if_neg (by simpa using hal)]
        · rw [q2, if_pos (by simpa using hal)]; omega
      refine iteP_eqc (fun h0 => ⟨p1, p2, g0, g1, _, hac.map p1 p2 g0 g1, _, hac.frm p1 p2 g0 g1, hB (.inl h0)⟩) fun h0 => iteP_eqc (fun h0' => ⟨p1, p2, g0, g1, _, hac.map p1 p2 g0 g1, _, hac.frm p1 p2 g0 g1, hB (.inr h0')⟩) fun h0' => ⟨⟨by omega, by omega, ?_, ?_, xc⟩, hmu⟩
      · rw [e1, metN_old (by omega) (by omega) (by rw [ei]; exact h0')]
      · rw [e1, metN_old (by omega) (by omega) (by rw [ei]; exact h0')]; exact hmp
  · have hin : i.toNat = n := by omega
    rw [hin] at hmp hnl ⊢
    have hK3 : ∀ h', RefRep h' r (if leftS s < needN s pid (addr / 32) (metN addr n) then ((4 : Int), s) else ((0 : Int), pokesS s pid addr bs)).2 [r, m, f] → Step h h' [r, m, f] [r, m, f] → K (.int .i64 (if leftS s < needN s pid (addr / 32) (metN addr n) then ((4 : Int), s) else ((0 : Int), pokesS s pid addr bs)).1) h' := by
      intro h' a b
      by_cases hn0 : n = 0
      · have hb0 : bs = [] := List.eq_nil_of_length_eq_zero (by omega)
        have hl0 : 0 ≤ leftS s := by
          have := leftL_le (refsOf s.pg) s.n; exact this.1
        have e0 : metN addr n = 0 := by unfold metN; rw [if_pos hn0]
        rw [e0, show needN s pid (addr / 32) 0 = 0 from rfl, if_neg (by omega), hb0] at a ⊢
        rw [if_pos hn0] at hK
        exact hK h' a b
      · have e0 : metN addr n = spanN addr n := by unfold metN; rw [if_neg hn0]
        rw [e0] at a ⊢ hmp
        rw [if_neg hn0, if_neg (by simp [hmp])] at hK
        exact hK h' a b
    clear hK
    refine r_Left hvc ⟨_, rfl, iteP_cases (fun hl => ?_) fun hl => ?_⟩
    · rw [if_pos hl] at hK3; exact hK3 hc hvc (hst xc)
    rw [if_neg hl] at hK3
    refine ⟨fun j g => 0 ≤ j ∧ j ≤ n ∧ RefRep g r (pokesS s pid addr (bs.take j.toNat)) [r, m, f] ∧ Step h g [r, m, f] [r, m, f], fun j _ => ((n : Int) - j).toNat, ⟨by omega, by omega, hvc, hst xc⟩, ?_⟩
    rintro j g ⟨j0, j1, hvg, stg⟩
    refine iteP_cases (fun hj => ⟨j0, hj, ?_⟩) fun hj => ?_
    · have hjl : j.toNat < bs.length := by omega
      obtain ⟨a, rfl, ha, hcell⟩ := hs.low (Low.step stg hB hG) j.toNat (.int .u8 bs[j.toNat]) (by rw [List.getElem?_map, List.getElem?_eq_getElem hjl]; rfl)
      rw [wth_some, Nat.mul_one]
      refine ⟨_, hcell, ?_⟩
      rw [wrap64 (x := addr + j) (by omega) (by omega), wrap64 (x := j + 1) (by omega) (by omega)]
      refine r_Poke hvg pid (addr + j) _ fun h5 v5 st5 => ⟨_, rfl, ⟨by omega, by omega, ?_, stg.trans st5⟩, by show ((n : Int) - (j + 1)).toNat < ((n : Int) - j).toNat; omega⟩
      have e : bs.take (j + 1).toNat = bs.take j.toNat ++ [bs[j.toNat]] := by
        rw [show (j + 1).toNat = j.toNat + 1 by omega, List.take_add_one, List.getElem?_eq_getElem hjl]; rfl
      rw [e, pokesS_append, List.length_take, Nat.min_eq_left (by omega), show ((j.toNat : Nat) : Int) = j by omega]
      exact v5
    · have : bs.take j.toNat = bs := by rw [List.take_of_length_le]; omega
      rw [this] at hvg
      exact hK3 g hvg stg
end
end Go.Proofs.Ytmdhfmljgjnggaa
