/- WheelTells' walk, over what its arguments are. -/
import Derived.Test.YtibalkkiefgljaaG5
import Derived.Test.YtibalkkiefgljaaW0
namespace Go.Proofs.Ytibalkkiefgljaa
open Go Go.Sh Go.ChangeShapes Go.WideShapes Go.ChangeAt Go.RowKit
theorem walk3 {H : Type} {enc : TypeId × Value → H} (W : World) (base : Nat) (args : Array Value) (ds : List (DataW H)) (p : List MemPlace) (hval : ∀ (j : Nat) t v, Try.f3.params[j]? = some t → args[j]? = some v → Value.okWide Try.prog W .any base t v)
    (hA : DataW.TrodAll enc Try.prog W 0 (fun _ => true) true Try.f3.params.toList args.toList ds p) : callV Try.prog 3 args W fun v w' => v = .bool true ∧ Below W.heap.size W w' := by
  rw [Try.params3] at hA hval
  obtain ⟨v0, vs0, d0, ds0, p0, q0, hargs, rfl, rfl, h0, r0⟩ := trodAll_cons hA
  obtain ⟨v1, vs1, d1, ds1, p1, q1, rfl, rfl, rfl, h1, r1⟩ := trodAll_cons r0
  obtain ⟨v2, vs2, d2, ds2, p2, q2, rfl, rfl, rfl, h2, r2⟩ := trodAll_cons r1
  obtain ⟨rfl, rfl, rfl⟩ := trodAll_nil r2
  obtain rfl : args = #[v0, v1, v2] := by cases args; simp_all
  obtain ⟨x, rfl, _⟩ := arg_int Try.underlying3 (hval 0 3 v0 rfl rfl)
  obtain ⟨y, rfl, _⟩ := arg_int Try.underlying3 (hval 1 3 v1 rfl rfl)
  obtain ⟨p, l, c, C, rfl, hlc, hC, hk⟩ := arg_ops (hval 2 22 v2 rfl rfl) h2
  exact tells_law x y hlc hC hk fun w' cc => ⟨rfl, cc.below fun k hk h => h⟩
end Go.Proofs.Ytibalkkiefgljaa
