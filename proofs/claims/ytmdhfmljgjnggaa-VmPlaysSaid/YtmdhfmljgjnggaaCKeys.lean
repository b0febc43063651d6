/- slices.Sorted(maps.Keys(m)) at int keys: the keys, sorted, in new memory; nothing that was there changes. No condition. -/
import Derived.Test.YtmdhfmljgjnggaaPlain
import Derived.Test.YtmdhfmljgjnggaaCVm5
import Derived.Shelf.SortM.SortNone
import Derived.Shelf.SortM.Plain
namespace Go.Proofs.Ytmdhfmljgjnggaa
attribute [local irreducible] semWP
open Go.RowKit Go.Maps Go.Sort Go.Shelf
set_option linter.constructorNameAsVariable false

theorem insert_perm {H : Type} (x : Lit × DataW H) : ∀ l : List (Lit × DataW H), (DataW.insert x l).Perm (x :: l) := by
  intro l
  induction l with
  | nil => exact List.Perm.refl _
  | cons y r ih =>
    unfold DataW.insert
    split
    · exact List.Perm.refl _
    · exact (List.Perm.cons y ih).trans (List.Perm.swap x y r)
theorem foldr_insert_perm {H : Type} : ∀ l : List (Lit × DataW H), (l.foldr DataW.insert []).Perm l := by
  intro l
  induction l with
  | nil => exact List.Perm.refl _
  | cons x l ih => exact (insert_perm x _).trans (List.Perm.cons x ih)
def nilR : Value → Option (DataW Unit × List MemPlace) := fun _ => some (.nil, [])
theorem ownsMap_of {h : Hp} {r : Nat} {l : List (Int × Value)} (ha : MapAt .i64 h r l) (hwf : ∀ p ∈ l, (Lit.int .i64 p.1).wf = true) (hsz : l.length ≤ maxLen) {w : World} (hw : w.heap = h) :
    ∃ D0 : DataW Unit, w.ownsMap Try.prog T_int nilR r l.length D0 ∧ (intKeys D0).Perm (keysOf l) ∧ Maps.size D0 = l.length := by
  obtain ⟨es, clk, h1, h2, h3, h4⟩ := ha.is
  have hu : Try.prog.underlying T_int = some (.int .i64) := by kernel_rfl
  have hlen : es.size = l.length := by
    have := congrArg List.length h2
    simpa using this
  have hkv : ∀ x ∈ es.toList, ∃ n : Int, x.key = .int .i64 n ∧ (Lit.int .i64 n).wf = true := by
    intro x hx
    have : (x.key, x.val) ∈ l.map (fun p => ((.int .i64 p.1 : Value), p.2)) := by rw [← h2]; exact List.mem_map.2 ⟨x, hx, rfl⟩
    obtain ⟨p, hp, e⟩ := List.mem_map.1 this
    simp only [Prod.mk.injEq] at e
    exact ⟨p.1, e.1.symm, hwf p hp⟩
  have hkeys : es.toList.map (·.key) = (keysOf l).map (Value.int .i64) := by
    have := congrArg (List.map (·.1)) h2
    simpa [keysOf, List.map_map, Function.comp_def] using this
  have hrd : ∀ x ∈ es.toList, WideElems.rd Try.prog T_int nilR x = some (.int .i64 (ival x.key), .nil) := by
    intro x hx
    obtain ⟨n, e, hn⟩ := hkv x hx
    unfold WideElems.rd
    rw [e, keyOf_int_mk hu hn]
    rfl
  have hmap : (es.toList.map (WideElems.rg Try.prog T_int nilR)).map (fun p => Go.intOf p.1) = keysOf l := by
    rw [List.map_map]
    have e : es.toList.map ((fun p : Lit × DataW Unit => Go.intOf p.1) ∘ WideElems.rg Try.prog T_int nilR) = es.toList.map fun x => ival x.key := by
      apply List.map_congr_left
      intro x hx
      simp only [Function.comp_apply, WideElems.rg, hrd x hx, Option.getD_some]
      rfl
    rw [e]
    have := congrArg (List.map ival) hkeys
    rw [List.map_map, List.map_map] at this
    have e2 : (keysOf l).map (ival ∘ Value.int .i64) = keysOf l := by
      conv => rhs; rw [← List.map_id (keysOf l)]
      rfl
    rw [e2] at this
    exact this
  refine ⟨.map ((es.toList.map (WideElems.rg Try.prog T_int nilR)).foldr DataW.insert []), ⟨es, clk, by rw [hw]; exact h1, ⟨by rw [hlen]; exact hsz, ⟨h4, h3, ?_⟩, fun x hx => ⟨_, hrd x hx⟩⟩, by rw [hlen]; exact Nat.le_refl _, rfl⟩, ?_, ?_⟩
  · rw [hkeys]
    exact List.pairwise_map.2 (ha.nodup.imp fun hne e => hne (by simpa using e))
  · show (((es.toList.map (WideElems.rg Try.prog T_int nilR)).foldr DataW.insert []).map fun p => Go.intOf p.1).Perm _
    rw [← hmap]
    exact (foldr_insert_perm _).map _
  · show ((es.toList.map (WideElems.rg Try.prog T_int nilR)).foldr DataW.insert []).length = _
    rw [(foldr_insert_perm _).length_eq]
    simp [hlen]
theorem sortsA (m : Nat) : AnyZI.SortsIn Try.prog Try.sortedA_ren Fence.wide m :=
  ⟨fun blk off cap ss W hH hblk hsz => callsIn_wide.2 (AnyM.slices_Sort_int Try.sortA blk off cap ss W hH hblk hsz),
   fun p cap W => callsIn_wide.2 (AnyM.slices_Sort_int_none Try.sortA p cap W)⟩
def sortI (ks : List Int) : List Int := ks.mergeSort fun x y => decide (x ≤ y)
theorem same_of_below {w w' : World} {n : Nat} (hb : Go.RowKit.Below n w w') : Same w w' := ⟨hb.tape, hb.os, hb.output⟩
theorem ext_of_below {w w' : World} (hb : Go.RowKit.Below w.heap.size w w') : Ext w.heap w'.heap := ⟨hb.size, fun r hr _ => hb.block r hr, by simp⟩
section
variable {h : Hp} {K : Value → Hp → Prop}
theorem c_sorted_keys {r bm : Nat} {l : List (Int × Value)} {e : TypeId} (ha : MapAt .i64 h r l) (hb : h[bm]? = some (.cells #[.map (some r)] e (0, 0))) (hwf : ∀ p ∈ l, (Lit.int .i64 p.1).wf = true) (hsz : l.length ≤ 1073741824)
    (hK : ∀ h' p c F, SlAt h' T_int 1 p l.length c ((sortI (keysOf l)).map (.int .i64)) F → Ext h h' → (∀ q ∈ F, h.size ≤ q) → K (.slice p l.length c) h') :
    CallsH Try.prog f_slices_Sorted_int #[.func (.func f_maps_Keys_vm_space_int_int_1) #[] #[.pointer (some ⟨bm, 0, none⟩)]] h K := by
  have hmax : l.length ≤ maxLen := by unfold maxLen; omega
  refine ⟨fun args w => Try.call106 args w, fun w hw => ?_⟩
  obtain ⟨D0, hown, hperm, hsize⟩ := ownsMap_of ha hwf hmax hw
  have hbm : bm < w.heap.size := by rw [hw]; exact lt_of_at hb
  have hcell : w.cell? ⟨bm, 0, none⟩ = some (.map (some r)) := by
    simp [World.cell?, hw, hb]
  have hseq : SeqGives Fence.wide 2 Try.prog 142 #[.pointer (some ⟨bm, 0, none⟩)] encZ (fun ss => ss.Perm (intKeys D0)) (Maps.size D0) w :=
    AnyZI.keys_gives (ρ := Try.keysA_ren) { Try.keysA with } Fence.wide _ trivial rfl (by omega) bm r _ D0 w hbm hcell hown
  have cS := AnyZI.sorted_in Try.sortedA Fence.wide 5 trivial trivial trivial trivial rfl (by omega) (sortsA _) (enters_of Try.func141 (by kernel_rfl) rfl) 142 #[.pointer (some ⟨bm, 0, none⟩)] trivial (enters_of Try.func142 (by kernel_rfl) rfl) _ _ (by rw [hsize]; exact hmax) (by rw [hsize]; omega) _ hseq
  refine ((callsIn_wide (n := 5)).1 cS).mono ?_
  rintro ee w' ⟨v, ss, rfl, hS, hrow, hnil, hbel⟩
  have hss : ss.mergeSort (fun x y => decide (x ≤ y)) = sortI (keysOf l) := mergeSort_of_perm_i (hS.trans hperm)
  have hlen : ss.length = l.length := by
    have := (hS.trans hperm).length_eq
    simpa [keysOf] using this
  have he : Ext h w'.heap := by rw [← hw]; exact ext_of_below hbel
  obtain ⟨hl, hr⟩ := hrow
  rw [hss] at hl hr
  rw [hlen] at hr
  have hl2 : ((sortI (keysOf l)).map encZ).length = l.length := by rw [hl, hlen]; simp
  rcases hr with ⟨rfl, h0⟩ | ⟨g, cap, cur, rfl, h1, h2, h3, h4, h5, h6⟩
  · refine ⟨_, rfl, ?_, same_of_below hbel⟩
    have := hK w'.heap none 0 [] ⟨by rw [h0]; rw [h0] at hl2; exact hl2, by omega, .inl ⟨rfl, rfl, rfl⟩⟩ he (by simp)
    rw [h0] at this
    exact this
  · refine ⟨_, rfl, hK w'.heap _ cap [g] ⟨by rw [Nat.mul_one]; exact hl2, h3, .inr ⟨g, 0, cur, rfl, rfl, h2, by rw [h5]; omega, ?_⟩⟩ he (by intro q hq; simp at hq; rw [hq, ← hw]; exact h1), same_of_below hbel⟩
    rw [List.drop_zero]; exact h6
theorem c_sorted_nil {bm : Nat} {e : TypeId} (hb : h[bm]? = some (.cells #[.map none] e (0, 0))) (hK : ∀ h', Ext h h' → K (.slice none 0 0) h') :
    CallsH Try.prog f_slices_Sorted_int #[.func (.func f_maps_Keys_vm_space_int_int_1) #[] #[.pointer (some ⟨bm, 0, none⟩)]] h K := by
  refine ⟨fun args w => Try.call106 args w, fun w hw => ?_⟩
  have hbm : bm < w.heap.size := by rw [hw]; exact lt_of_at hb
  have hcell : w.cell? ⟨bm, 0, none⟩ = some (.map none) := by
    simp [World.cell?, hw, hb]
  have hseq : SeqGives Fence.wide 2 Try.prog 142 #[.pointer (some ⟨bm, 0, none⟩)] encZ (fun ss : List Int => ss = []) 0 w :=
    AnyZI.keys_gives_nil (ρ := Try.keysA_ren) { Try.keysA with } Fence.wide _ trivial rfl bm w hbm hcell
  have cS := AnyZI.sorted_in Try.sortedA Fence.wide 5 trivial trivial trivial trivial rfl (by omega) (sortsA _) (enters_of Try.func141 (by kernel_rfl) rfl) 142 #[.pointer (some ⟨bm, 0, none⟩)] trivial (enters_of Try.func142 (by kernel_rfl) rfl) _ 0 (Nat.zero_le _) (by omega) _ hseq
  refine ((callsIn_wide (n := 5)).1 cS).mono ?_
  rintro ee w' ⟨v, ss, rfl, rfl, hrow, hnil, hbel⟩
  obtain rfl : v = .slice none 0 0 := hnil.2 rfl
  exact ⟨_, rfl, hK w'.heap (by rw [← hw]; exact ext_of_below hbel), same_of_below hbel⟩
end
end Go.Proofs.Ytmdhfmljgjnggaa
