/- What the functions of package mem do. No condition. -/
import Derived.Test.YtmdhfmljgjnggaaQmem
import Derived.Test.YtmdhfmljgjnggaaSli
namespace Go.Proofs.Ytmdhfmljgjnggaa
attribute [local irreducible] semWP

/-- Block m is a memory of n frames, whose bytes lie in block f. -/
structure MemAt (h : Hp) (m f n : Nat) (b : List Int) : Prop where
  mem : h[m]? = some (.cells #[.slice (some ⟨f, 0, none⟩) n n] T_N_mem_Memory (0, 0))
  fr : h[f]? = some (.cells ⟨b.map (.int .u8)⟩ T_N_mem_frame (0, 0))
  len : b.length = n * 32
  pos : 1 ≤ n
  le : n ≤ 64
theorem MemAt.congr {h h' : Hp} {m f n : Nat} {b : List Int} (hm : MemAt h m f n b) (h1 : h'[m]? = h[m]?) (h2 : h'[f]? = h[f]?) : MemAt h' m f n b :=
  ⟨by rw [h1]; exact hm.mem, by rw [h2]; exact hm.fr, hm.len, hm.pos, hm.le⟩
theorem MemAt.cell {h : Hp} {m f n : Nat} {b : List Int} (hm : MemAt h m f n b) : cellAt h ⟨m, 0, none⟩ = some (.slice (some ⟨f, 0, none⟩) n n) := by
  rw [cellAt_cells hm.mem]; rfl
theorem MemAt.ne {h : Hp} {m f n : Nat} {b : List Int} (hm : MemAt h m f n b) : m ≠ f := ne_cells hm.mem hm.fr (by decide)
theorem MemAt.over {h h' : Hp} {m f n : Nat} {b b' : List Int} (hm : MemAt h m f n b) (hf : h'[f]? = some (.cells ⟨b'.map (.int .u8)⟩ T_N_mem_frame (0, 0))) (hb : b'.length = b.length) (hs : Step h h' [f] [f]) : MemAt h' m f n b' :=
  ⟨by rw [hs.frame m (lt_of_at hm.mem) (by simpa using hm.ne)]; exact hm.mem, hf, by rw [hb]; exact hm.len, hm.pos, hm.le⟩

def byteAt (b : List Int) (i off : Int) : Int := (b[(i * 32 + off).toNat]?).getD 0

section
variable {h : Hp} {m f n : Nat} {b : List Int} {K : Value → Hp → Prop}
theorem c_mem_at (hm : MemAt h m f n b) (i off many : Int) (h1 : 1 ≤ many) (h2 : many ≤ 32) (hbad : ¬ (0 ≤ i ∧ i < n ∧ 0 ≤ off ∧ off ≤ 32 - many) → K (.tuple #[.slice none 0 0, .int .i64 2]) h)
    (hok : 0 ≤ i → i < n → 0 ≤ off → off ≤ 32 - many → K (.tuple #[.slice (some ⟨f, i.toNat * 32 + off.toNat, none⟩) many.toNat many.toNat, .int .i64 0]) h) :
    CallsH Try.prog f_mem_Memory_at #[.pointer (some ⟨m, 0, none⟩), .int .i64 i, .int .i64 off, .int .i64 many] h K := by
  refine q_mem_Memory_at_calls m i off many h K ?_
  unfold q_mem_Memory_at
  have hw1 : IntKind.wrap .i64 (32 - many) = 32 - many := wrap64 (by omega) (by omega)
  refine iteP_cases (fun hi => hbad (by omega)) fun hi => ⟨_, _, _, hm.cell, ?_⟩
  refine iteP_cases (fun hi => hbad (by omega)) fun hi2 => ?_
  refine iteP_cases (fun hi => hbad (by omega)) fun hi3 => ?_
  rw [hw1]
  refine iteP_cases (fun hi => hbad (by omega)) fun hi4 => ⟨_, _, _, hm.cell, ?_⟩
  have hw2 : IntKind.wrap .i64 (off + many) = off + many := wrap64 (by omega) (by omega)
  rw [hw2, wth_some]
  refine ⟨by omega, by omega, by omega, by omega, by omega, by omega, by omega, by omega, ?_⟩
  have e1 : (if (off + many).toNat = off.toNat then (⟨f, 0, none⟩ : Addr).add (i.toNat * 32) else ((⟨f, 0, none⟩ : Addr).add (i.toNat * 32)).add (off.toNat * 1)) = ⟨f, i.toNat * 32 + off.toNat, none⟩ := by
    rw [if_neg (by omega), Addr.add_mk, Addr.add_mk]; simp
  have e2 : (off + many).toNat - off.toNat = many.toNat := by omega
  rw [e1, e2]
  exact hok (by omega) (by omega) (by omega) (by omega)
theorem MemAt.byte (hm : MemAt h m f n b) {i off : Int} (h1 : 0 ≤ i) (h2 : i < n) (h3 : 0 ≤ off) (h4 : off < 32) : cellAt h ⟨f, i.toNat * 32 + off.toNat, none⟩ = some (.int .u8 (byteAt b i off)) := by
  rw [cellAt_cells hm.fr]
  have e : (i * 32 + off).toNat = i.toNat * 32 + off.toNat := by omega
  have hl : i.toNat * 32 + off.toNat < b.length := by rw [hm.len]; omega
  simp [byteAt, e, hl]
theorem c_mem_Byte (hm : MemAt h m f n b) (i off : Int) (hbad : ¬ (0 ≤ i ∧ i < n ∧ 0 ≤ off ∧ off < 32) → K (.tuple #[.int .u8 0, .int .i64 2]) h)
    (hok : 0 ≤ i → i < n → 0 ≤ off → off < 32 → K (.tuple #[.int .u8 (byteAt b i off), .int .i64 0]) h) :
    CallsH Try.prog f_mem_Memory_Byte #[.pointer (some ⟨m, 0, none⟩), .int .i64 i, .int .i64 off] h K := by
  refine q_mem_Memory_Byte_calls m i off h K ?_
  unfold q_mem_Memory_Byte
  refine c_mem_at hm i off 1 (by omega) (by omega) (fun hb => ⟨_, _, _, _, rfl, iteP_ne (by decide) (hbad (by omega))⟩) fun h1 h2 h3 h4 => ⟨_, _, _, _, rfl, iteP_nne rfl ?_⟩
  refine ⟨by omega, by decide, ?_⟩
  rw [wth_some]
  refine ⟨_, ?_, hok h1 h2 h3 (by omega)⟩
  have := hm.byte h1 h2 h3 (by omega)
  rw [Addr.add_mk]
  exact this
theorem c_mem_SetByte (hm : MemAt h m f n b) (i off c : Int) (hbad : ¬ (0 ≤ i ∧ i < n ∧ 0 ≤ off ∧ off < 32) → K (.int .i64 2) h)
    (hok : 0 ≤ i → i < n → 0 ≤ off → off < 32 → ∀ h', MemAt h' m f n (b.set (i * 32 + off).toNat c) → Step h h' [f] [f] → h'.size = h.size → K (.int .i64 0) h') :
    CallsH Try.prog f_mem_Memory_SetByte #[.pointer (some ⟨m, 0, none⟩), .int .i64 i, .int .i64 off, .int .u8 c] h K := by
  refine q_mem_Memory_SetByte_calls m i off c h K ?_
  unfold q_mem_Memory_SetByte
  refine c_mem_at hm i off 1 (by omega) (by omega) (fun hb => ⟨_, _, _, _, rfl, iteP_neq (by decide) (hbad (by omega))⟩) fun h1 h2 h3 h4 => ⟨_, _, _, _, rfl, iteP_eq rfl ?_⟩
  refine ⟨by omega, by decide, ?_⟩
  rw [wth_some, Addr.add_mk]
  have hb := hm.byte h1 h2 h3 (by omega)
  refine ⟨⟨_, hb⟩, frozenAt_cells hm.fr, ?_⟩
  refine letH_iff.2 (hok h1 h2 h3 (by omega) _ ?_ (Step.setH (by simp)) (setH_size _ _ _))
  refine hm.over ?_ (by simp) (Step.setH (by simp))
  have e : (i * 32 + off).toNat = i.toNat * 32 + off.toNat := by omega
  have := setH_same (o := i.toNat * 32 + off.toNat) (v := .int .u8 c) hm.fr
  rw [e, show (i.toNat * 32 + off.toNat + Int.toNat 0 * 1) = i.toNat * 32 + off.toNat by simp, this]
  simp [List.map_set]
theorem c_mem_Size (hm : MemAt h m f n b) (hok : K (.int .i64 (n : Int)) h) : CallsH Try.prog f_mem_Memory_Size #[.pointer (some ⟨m, 0, none⟩)] h K := by
  refine q_mem_Memory_Size_calls m h K ?_
  unfold q_mem_Memory_Size
  exact ⟨_, _, _, hm.cell, hok⟩
theorem c_mem_Zero (hm : MemAt h m f n b) (i : Int) (h1 : 0 ≤ i) (h2 : i < n)
    (hok : ∀ h', MemAt h' m f n (over b (i.toNat * 32) (List.replicate 32 0)) → Step h h' [f] [f] → h'.size = h.size → K (.int .i64 0) h') :
    CallsH Try.prog f_mem_Memory_Zero #[.pointer (some ⟨m, 0, none⟩), .int .i64 i] h K := by
  refine q_mem_Memory_Zero_calls m i h K ?_
  unfold q_mem_Memory_Zero
  refine c_mem_at hm i 0 32 (by omega) (by omega) (fun hb => (hb ⟨h1, h2, by omega, by omega⟩).elim) fun _ _ _ _ => ?_
  refine ⟨_, _, _, _, rfl, ?_⟩
  refine semWP_clear (P := Try.prog) (h := h) (b := f) (o := i.toNat * 32 + Int.toNat 0) (n := Int.toNat 32) (cp := Int.toNat 32) (tys := #[T_s_uint8]) (ty := T_x) (e := T_N_mem_frame) (t := T_s_uint8) (el := T_uint8) (z := .int .u8 0) (by rfl) (by kernel_rfl) (by kernel_rfl) (by kernel_rfl) (by rfl) (by decide) hm.fr ?_ ?_
  · have := hm.len
    simp only [List.size_toArray, List.length_map]
    omega
  · intro h' h3 h4 h5
    refine ⟨rfl, hok h' (hm.over ?_ over_length h4) h4 h5⟩
    rw [h3, over_map]
    rfl
theorem c_mem_Copy (hm : MemAt h m f n b) (i j : Int) (h1 : 0 ≤ i) (h2 : i < n) (h3 : 0 ≤ j) (h4 : j < n)
    (hok : ∀ h', MemAt h' m f n (over b (i.toNat * 32) ((b.drop (j.toNat * 32)).take 32)) → Step h h' [f] [f] → h'.size = h.size → K (.int .i64 0) h') :
    CallsH Try.prog f_mem_Memory_Copy #[.pointer (some ⟨m, 0, none⟩), .int .i64 i, .int .i64 j] h K := by
  refine q_mem_Memory_Copy_calls m i j h K ?_
  unfold q_mem_Memory_Copy
  refine c_mem_at hm i 0 32 (by omega) (by omega) (fun hb => (hb ⟨h1, h2, by omega, by omega⟩).elim) fun _ _ _ _ => ?_
  refine ⟨_, _, _, _, rfl, ?_⟩
  refine c_mem_at hm j 0 32 (by omega) (by omega) (fun hb => (hb ⟨h3, h4, by omega, by omega⟩).elim) fun _ _ _ _ => ?_
  refine ⟨_, _, _, _, rfl, ?_⟩
  refine iteP_nne rfl (iteP_nne rfl ?_)
  have hl := hm.len
  have hrow : ∀ k : Int, 0 ≤ k → k < n → SlAt h T_N_mem_frame 1 (some ⟨f, k.toNat * 32 + Int.toNat 0, none⟩) (Int.toNat 32) (Int.toNat 32) (((b.drop (k.toNat * 32)).take 32).map (.int .u8)) [f] := by
    intro k hk1 hk2
    refine ⟨?_, Nat.le_refl _, .inr ⟨f, _, _, rfl, rfl, hm.fr, ?_, ?_⟩⟩
    · simp only [List.length_map, List.length_take, List.length_drop, hl]
      show _ = 32 * 1
      omega
    · simp only [List.size_toArray, List.length_map, hl]
      show _ + 32 * 1 ≤ _
      omega
    · rw [← List.map_drop, ← List.map_take]; rfl
  refine semWP_copy (t := T_s_uint8) (el := T_uint8) (by rfl) (by kernel_rfl) (by kernel_rfl) (sz := 1) (by kernel_rfl) (hrow i h1 h2) (hrow j h3 h4) ?_ ?_
  · intro v hv
    obtain ⟨x, _, rfl⟩ := List.mem_map.1 hv
    rfl
  · intro h' h5 _ h6 h7
    refine ⟨_, rfl, hok h' (hm.over ?_ over_length h6) h6 h7⟩
    rw [h5 f _ rfl _ hm.fr, over_map, show min (Int.toNat 32) (Int.toNat 32) * 1 = 32 from rfl, ← List.map_take, List.take_take]
    rfl
theorem c_mem_New (k : Int) (hbad : k < 1 ∨ 64 < k → K (.pointer none) h)
    (hok : 1 ≤ k → k ≤ 64 → ∀ h', MemAt h' (h.size + 1) h.size k.toNat (List.replicate (k.toNat * 32) 0) → Ext h h' → h'.size = h.size + 2 → K (.pointer (some ⟨h.size + 1, 0, none⟩)) h') :
    CallsH Try.prog f_mem_New #[.int .i64 k] h K := by
  refine q_mem_New_calls k h K ?_
  unfold q_mem_New
  refine iteP_cases (fun h1 => hbad (.inl h1)) fun h1 => iteP_cases (fun h2 => hbad (.inr h2)) fun h2 => ?_
  refine semWP_makeSlice (t := T_s_mem_frame) (el := T_N_mem_frame) (i := Try.prog.types[T_N_mem_frame]!) (by kernel_rfl) (by kernel_rfl) (by kernel_rfl) (by kernel_rfl) (by kernel_rfl) (by omega) ?_ (by omega) ?_
  · rw [show Try.prog.types[T_N_mem_frame]!.bytes = 32 by kernel_rfl]; omega
  · intro h' hh
    have hz : (zeroCells Try.prog T_N_mem_frame).toList = List.replicate 32 (.int .u8 0) := by kernel_rfl
    rw [hz, repL_replicate] at hh
    refine ⟨_, _, _, rfl, letH_iff.2 ?_⟩
    subst hh
    have e : (h.push (.cells ⟨List.replicate (k.toNat * 32) (.int .u8 0)⟩ T_N_mem_frame)).size = h.size + 1 := by simp
    rw [e]
    refine hok (by omega) (by omega) _ ⟨?_, ?_, by simp, by omega, by omega⟩ ?_ (by simp)
    · rw [← e]; exact push_new _ _
    · rw [push_old (by simp), push_new]; simp
    · exact (Ext.push _ _).trans (Ext.push _ _)
end
end Go.Proofs.Ytmdhfmljgjnggaa
