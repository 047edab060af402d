/- FifoOrder's walk, over what its arguments are. -/
import Derived.Test.YtiodaglceoodpaaF7
namespace Go.Proofs.Ytiodaglceoodpaa
open Go Go.Sh Go.ChangeShapes Go.WideShapes Go.ChangeAt Go.RowKit

theorem walk4 {H : Type} {enc : TypeId × Value → H} (W : World) (base : Nat) (args : Array Value) (ds : List (DataW H)) (p : List MemPlace) (hval : ∀ (j : Nat) t v, Try.f4.params[j]? = some t → args[j]? = some v → Value.okWide Try.prog W .any base t v)
    (hA : DataW.TrodAll enc Try.prog W 0 (fun _ => true) true Try.f4.params.toList args.toList ds p) : callV Try.prog 4 args W fun v w' => v = .bool true ∧ Below W.heap.size W w' := by
  rw [Try.params4] at hA hval
  obtain ⟨v0, vs0, d0, ds0, p0, q0, hargs, rfl, rfl, h0, r0⟩ := trodAll_cons hA
  obtain ⟨v1, vs1, d1, ds1, p1, q1, rfl, rfl, rfl, h1, r1⟩ := trodAll_cons r0
  obtain ⟨rfl, rfl, rfl⟩ := trodAll_nil r1
  obtain rfl : args = #[v0, v1] := by cases args; simp_all
  obtain ⟨a0, rfl, rfl, rfl, w0⟩ := open_int Try.underlying5 (hval 0 5 v0 rfl rfl) h0
  have hc1 := okWide_cell (u := 49) (by rw [Try.underlying49]; intro fs h; cases h) (by rw [Try.underlying49]; intro n e h; cases h) (hval 1 49 v1 rfl rfl)
  obtain ⟨ps, l, c, rfl, hle, _⟩ := cell_slice Try.underlying49 hc1
  obtain ⟨fuel, h1⟩ := h1
  obtain ⟨C, hC, _, _, _, hk⟩ := open_came Try.underlying49 (by rw [show Try.prog.cellsOf 4 = 1 by kernel_rfl]; omega) h1
  rw [show Try.prog.cellsOf 4 = 1 by kernel_rfl] at hC
  have b0 := bounds_u8 w0
  exact order_call (w := W) (by omega) (by omega) hle hC (fun cs hcs => by obtain ⟨f, y, hy⟩ := hk cs hcs; exact trod_bool Try.underlying4 hy) fun w' c => ⟨rfl, c.below fun k hk h => by omega⟩
end Go.Proofs.Ytiodaglceoodpaa
