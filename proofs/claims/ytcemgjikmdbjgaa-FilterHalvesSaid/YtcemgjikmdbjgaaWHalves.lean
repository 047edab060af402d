/- FilterHalves' walk, over what its arguments are. -/
import Derived.Test.YtcemgjikmdbjgaaG3
import Derived.Test.YtcemgjikmdbjgaaW0
namespace Go.Proofs.Ytcemgjikmdbjgaa
open Go Go.Sh Go.Flt Go.ChangeShapes Go.WideShapes Go.ChangeAt Go.RowKit
theorem walk4 {H : Type} {enc : TypeId × Value → H} (W : World) (base : Nat) (args : Array Value) (ds : List (DataW H)) (p : List MemPlace) (hval : ∀ (j : Nat) t v, Try.f4.params[j]? = some t → args[j]? = some v → Value.okWide Try.prog W .any base t v)
    (hA : DataW.TrodAll enc Try.prog W 0 (fun _ => true) true Try.f4.params.toList args.toList ds p) : callV Try.prog 4 args W fun v w' => v = .bool true ∧ Below W.heap.size W w' := by
  rw [Try.params4] at hA hval
  obtain ⟨v0, vs0, d0, ds0, p0, q0, hargs, rfl, rfl, h0, r0⟩ := trodAll_cons hA
  obtain ⟨v1, vs1, d1, ds1, p1, q1, rfl, rfl, rfl, h1, r1⟩ := trodAll_cons r0
  obtain ⟨v2, vs2, d2, ds2, p2, q2, rfl, rfl, rfl, h2, r2⟩ := trodAll_cons r1
  obtain ⟨rfl, rfl, rfl⟩ := trodAll_nil r2
  obtain rfl : args = #[v0, v1, v2] := by cases args; simp_all
  obtain ⟨x, rfl⟩ := open_flt (hval 0 24 v0 rfl rfl)
  obtain ⟨k, rfl, rfl, rfl, w1⟩ := open_int Try.underlying5 (hval 1 5 v1 rfl rfl) h1
  obtain ⟨id, rfl⟩ := arg_u32 (hval 2 22 v2 rfl rfl)
  have hb := bounds_u8 w1
  obtain ⟨k, rfl⟩ : ∃ n : Nat, k = n := ⟨k.toNat, by omega⟩
  exact halves_call x k (by omega) id fun w' cc => ⟨rfl, cc.below fun k hk h => h⟩
end Go.Proofs.Ytcemgjikmdbjgaa
