/- An array of three ints as a row's parameter. No condition but what each lemma says. -/
import Derived.Test.YtjaabhdgahljcaaDoorRowBase
import Derived.ProofKit
import Derived.Laws.IdiomArrays
namespace Go.Proofs.YtjaabhdgahljcaaDoor
open Go.ChangeShapes Go.WideShapes Go.ChangeAt Go.RowKit

theorem okWide_array {P : Program} {w : World} {r : Reach} {base : Nat} {t e : TypeId} {n : Nat} {v : Value} (ht : P.underlying t = some (.array n e)) (h : Value.okWide P w r base t v) : ∃ cs, v = .agg cs ∧ cs.size = P.cellsOf t := by
  simp only [Value.okWide, ht] at h
  obtain ⟨cs, h1, h2, -⟩ := h
  exact ⟨cs, h1, h2⟩

theorem three_of {H : Type} {enc : TypeId × Value → H} {w : World} {base : Nat} {spare : Nat → Bool} {held : Bool} {fuel : Nat} {cs : Array Value} {x : DataW H × List MemPlace} (hz : cs.size = Tryd.prog.cellsOf 53)
    (h : DataW.trod enc Tryd.prog w base spare held fuel 53 cs.toList = some x) :
    ∃ t0 t1 t2 : Int, cs = #[.int .i64 t0, .int .i64 t1, .int .i64 t2] ∧ (Lit.int .i64 t1).wf = true := by
  have hz3 : cs.toList.length = 3 := by rw [Array.length_toList, hz]; kernel_rfl
  obtain ⟨l, rfl⟩ : ∃ l : List Value, cs = l.toArray := ⟨cs.toList, by simp⟩
  simp only [] at h hz3
  match l, hz3 with
  | [c0, c1, c2], _ =>
    obtain ⟨y0, y1, y2, n, -, h0, h1, h2⟩ := trod_array3 Tryd.underlying53 (by kernel_rfl) h
    obtain ⟨k0, e0, -, -⟩ := DataW.trod_int Tryd.underlying3 h0
    obtain ⟨k1, e1, -, f1⟩ := DataW.trod_int Tryd.underlying3 h1
    obtain ⟨k2, e2, -, -⟩ := DataW.trod_int Tryd.underlying3 h2
    simp only [List.cons.injEq, and_true] at e0 e1 e2
    subst e0 e1 e2
    exact ⟨k0, k1, k2, rfl, f1⟩

end Go.Proofs.YtjaabhdgahljcaaDoor
