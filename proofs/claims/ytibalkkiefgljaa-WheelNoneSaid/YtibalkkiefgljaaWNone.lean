/- WheelNone's walk, over what its arguments are. -/
import Derived.Test.YtibalkkiefgljaaG1
import Derived.Test.YtibalkkiefgljaaArg3
namespace Go.Proofs.Ytibalkkiefgljaa
open Go Go.Sh Go.ChangeShapes Go.WideShapes Go.ChangeAt Go.RowKit
theorem walk7 {H : Type} {enc : TypeId × Value → H} (W : World) (base : Nat) (args : Array Value) (ds : List (DataW H)) (p : List MemPlace) (hval : ∀ (j : Nat) t v, Try.f7.params[j]? = some t → args[j]? = some v → Value.okWide Try.prog W .any base t v)
    (hA : DataW.TrodAll enc Try.prog W 0 (fun _ => true) true Try.f7.params.toList args.toList ds p) : callV Try.prog 7 args W fun v w' => v = .bool true ∧ Below W.heap.size W w' := by
  rw [Try.params7] at hA hval
  obtain ⟨v0, vs0, d0, ds0, p0, q0, hargs, rfl, rfl, h0, r0⟩ := trodAll_cons hA
  obtain ⟨v1, vs1, d1, ds1, p1, q1, rfl, rfl, rfl, h1, r1⟩ := trodAll_cons r0
  obtain ⟨rfl, rfl, rfl⟩ := trodAll_nil r1
  obtain rfl : args = #[v0, v1] := by cases args; simp_all
  obtain ⟨id, rfl, _⟩ := arg_int Try.underlying3 (hval 0 3 v0 rfl rfl)
  obtain ⟨af, rfl, _⟩ := arg_int Try.underlying3 (hval 1 3 v1 rfl rfl)
  exact none_law id af fun w' cc => ⟨rfl, cc.below fun k hk h => h⟩
end Go.Proofs.Ytibalkkiefgljaa
