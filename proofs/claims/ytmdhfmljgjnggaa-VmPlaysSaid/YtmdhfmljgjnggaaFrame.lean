/- Opening a law's arguments: rows and structs of integers and slices. No condition. -/
import Derived.Test.YtmdhfmljgjnggaaRows
import Derived.Test.YtmdhfmljgjnggaaSli
import Derived.Test.YtmdhfmljgjnggaaNames
import Derived.WalkKit
import Derived.ProofKit
import Derived.OpenShut
import Derived.ShutString
import Derived.ChangeOld
import Derived.Below
import Derived.Carry
namespace Go.Proofs.Ytmdhfmljgjnggaa
open Go.ChangeShapes Go.WideShapes Go.ChangeAt Go.RowKit
set_option linter.constructorNameAsVariable false
theorem own : ownKnob Try.prog.godebug = none := by kernel_rfl
theorem laidOut : laidOutB Try.prog = true := by kernel_rfl
theorem und3 : Try.prog.underlying T_int = some (.int .i64) := by kernel_rfl
theorem und5 : Try.prog.underlying T_uint8 = some (.int .u8) := by kernel_rfl
theorem und4 : Try.prog.underlying 4 = some .bool := by kernel_rfl
theorem below_of {h h' : Hp} {w w' : World} (hw : w.heap = h) (hw' : w'.heap = h') (hs : Same w w') (he : Ext h h') : Go.RowKit.Below w.heap.size w w' :=
  ⟨hs.2.1, hs.1, hs.2.2, by rw [hw, hw']; exact he.size, fun k hk => by rw [hw'] ; rw [hw] at hk ⊢; exact he.frame k hk (by simp)⟩
theorem calls_below {f : FuncId} {args : Array Value} {w : World} (hc : CallsH Try.prog f args w.heap fun r h' => r = .bool true ∧ Ext w.heap h') :
    Calls Try.prog f args w fun e w' => e = .returned (.bool true) ∧ Go.RowKit.Below w.heap.size w w' := by
  refine (hc.2 w rfl).mono ?_
  rintro e w' ⟨v, rfl, ⟨rfl, he⟩, hs⟩
  exact ⟨rfl, below_of rfl rfl hs he⟩
theorem cell_int {P : Program} {w : World} {base : Nat} {e : TypeId} {k : IntKind} {c : Value} (he : P.underlying e = some (.int k)) (h : Cell.okWide P w .any base e c) : ∃ n, c = .int k n := by
  have hv : Value.okWide P w .any base e c := by simp only [Value.okWide, he]; exact h
  exact okWide_int he hv
theorem cell_slice {P : Program} {w : World} {base : Nat} {e el : TypeId} {c : Value} (he : P.underlying e = some (.slice el)) (h : Cell.okWide P w .any base e c) : ∃ p n k, c = .slice p n k := by
  have hv : Value.okWide P w .any base e c := by simp only [Value.okWide, he]; exact h
  exact okWide_slice he hv
theorem ints_of {k : IntKind} : ∀ {cs : List Value}, (∀ c ∈ cs, ∃ n, c = .int k n) → ∃ ns : List Int, cs = ns.map (.int k) := by
  intro cs
  induction cs with
  | nil => intro _; exact ⟨[], rfl⟩
  | cons c cs ih =>
    intro hc
    obtain ⟨n, rfl⟩ := hc c (by simp)
    obtain ⟨ns, rfl⟩ := ih fun c hm => hc c (by simp [hm])
    exact ⟨n :: ns, rfl⟩
theorem arr_row {P : Program} {w : World} {base : Nat} {t e : TypeId} {k : IntKind} {n : Nat} {v : Value} (hu : P.underlying t = some (.array n e)) (hct : P.cellTypes P.depth t = some (List.replicate n e)) (hc : P.cellsOf t = n) (he : P.underlying e = some (.int k))
    (h : Value.okWide P w .any base t v) : ∃ ns : List Int, ns.length = n ∧ v = .agg ⟨ns.map (.int k)⟩ := by
  simp only [Value.okWide, hu, hc] at h
  obtain ⟨cs, rfl, hsz, ts, hts, _, hall⟩ := h
  rw [hct] at hts
  injection hts with hts
  subst hts
  obtain ⟨ns, hns⟩ := ints_of (k := k) (cs := cs.toList) fun c hm => by
    obtain ⟨i, hi⟩ := List.getElem?_of_mem hm
    obtain ⟨u, hu2, hok⟩ := hall i c (by rw [← Array.getElem?_toList]; exact hi)
    have hu3 : u = e := List.eq_of_mem_replicate (List.mem_of_getElem? hu2)
    subst hu3
    exact cell_int he hok
  have hl : ns.length = n := by
    have := congrArg List.length hns
    simp only [Array.length_toList, List.length_map] at this
    omega
  exact ⟨ns, hl, congrArg Value.agg (Array.ext' hns)⟩
/-- A struct's cells, each of its own type. -/
theorem struct_cells {P : Program} {w : World} {base : Nat} {t : TypeId} {fs : Array Field} {ts : List TypeId} {v : Value} (hu : P.underlying t = some (.struct fs)) (hct : P.cellTypes P.depth t = some ts) (hc : P.cellsOf t = ts.length) (h : Value.okWide P w .any base t v) :
    ∃ cs : List Value, v = .agg ⟨cs⟩ ∧ cs.length = ts.length ∧ ∀ i c, cs[i]? = some c → ∃ u, ts[i % ts.length]? = some u ∧ Cell.okWide P w .any base u c := by
  simp only [Value.okWide, hu, hc] at h
  obtain ⟨cs, rfl, hsz, ts', hts, _, hall⟩ := h
  rw [hct] at hts
  injection hts with hts
  subst hts
  exact ⟨cs.toList, rfl, by simpa using hsz, fun i c hi => hall i c (by rw [← Array.getElem?_toList]; exact hi)⟩
theorem six' {α : Type} {ns : List α} (h : ns.length = 6) : ∃ b0 b1 b2 b3 b4 b5 : α, ns = [b0, b1, b2, b3, b4, b5] := by
  match ns, h with
  | [b0, b1, b2, b3, b4, b5], _ => exact ⟨b0, b1, b2, b3, b4, b5, rfl⟩
theorem deed_open {P : Program} {w : World} {base : Nat} {t ti tb ts el : TypeId} {fs : Array Field} {v : Value} (hu : P.underlying t = some (.struct fs)) (hct : P.cellTypes P.depth t = some [ti, ti, ti, ti, tb, ts]) (hc : P.cellsOf t = 6)
    (hi : P.underlying ti = some (.int .i64)) (hb : P.underlying tb = some (.int .u8)) (hs : P.underlying ts = some (.slice el)) (h : Value.okWide P w .any base t v) :
    ∃ (a b c d e : Int) (p : Option Addr) (l k : Nat), v = .agg #[.int .i64 a, .int .i64 b, .int .i64 c, .int .i64 d, .int .u8 e, .slice p l k] := by
  obtain ⟨cs, rfl, hl, hall⟩ := struct_cells hu hct hc h
  obtain ⟨c0, c1, c2, c3, c4, c5, rfl⟩ := six' hl
  have g : ∀ i u c, [c0, c1, c2, c3, c4, c5][i]? = some c → [ti, ti, ti, ti, tb, ts][i % 6]? = some u → Cell.okWide P w .any base u c := fun i u c h1 h2 => by
    obtain ⟨u', h3, h4⟩ := hall i c h1
    rw [show [ti, ti, ti, ti, tb, ts].length = 6 from rfl, h2] at h3
    cases h3
    exact h4
  obtain ⟨a, rfl⟩ := cell_int hi (g 0 ti c0 rfl rfl)
  obtain ⟨b, rfl⟩ := cell_int hi (g 1 ti c1 rfl rfl)
  obtain ⟨c, rfl⟩ := cell_int hi (g 2 ti c2 rfl rfl)
  obtain ⟨d, rfl⟩ := cell_int hi (g 3 ti c3 rfl rfl)
  obtain ⟨e, rfl⟩ := cell_int hb (g 4 tb c4 rfl rfl)
  obtain ⟨p, l, k, rfl⟩ := cell_slice hs (g 5 ts c5 rfl rfl)
  exact ⟨a, b, c, d, e, p, l, k, rfl⟩
end Go.Proofs.Ytmdhfmljgjnggaa
