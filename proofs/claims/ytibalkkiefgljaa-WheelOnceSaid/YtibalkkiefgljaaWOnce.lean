/- WheelOnce's walk, over what its arguments are. -/
import Derived.Test.YtibalkkiefgljaaG6
import Derived.Test.YtibalkkiefgljaaW0
namespace Go.Proofs.Ytibalkkiefgljaa
open Go Go.Sh Go.ChangeShapes Go.WideShapes Go.ChangeAt Go.RowKit
theorem arg_u16s {H : Type} {enc : TypeId × Value → H} {W : World} {sp : Nat → Bool} {held : Bool} {r : Reach} {base : Nat} {v : Value} {d : DataW H} {ps : List MemPlace} (hval : Value.okWide Try.prog W r base 48 v) (hd : DataW.Trod enc Try.prog W 0 sp held 48 v d ps) :
    ∃ p l c C, v = .slice p l c ∧ l ≤ c ∧ Cam W 1 p l C ∧ ∀ cs ∈ C, ∃ n : Nat, cs = [.int .u16 n] ∧ n < 65536 := by
  obtain ⟨p, l, c, C, rfl, h1, _, _, hC, hk⟩ := arg_slice Try.underlying48 (by rw [show Try.prog.cellsOf 51 = 1 by kernel_rfl]; omega) hval hd
  rw [show Try.prog.cellsOf 51 = 1 by kernel_rfl] at hC
  refine ⟨p, l, c, C, rfl, h1, hC, fun cs hc => ?_⟩
  obtain ⟨f, y, hy⟩ := hk cs hc
  obtain ⟨n, rfl, hw⟩ := trod_num Try.underlying51 hy
  have := bounds_u16 hw
  exact ⟨n.toNat, by rw [Int.toNat_of_nonneg (by omega)], by omega⟩
theorem arg_u8s {H : Type} {enc : TypeId × Value → H} {W : World} {sp : Nat → Bool} {held : Bool} {r : Reach} {base : Nat} {v : Value} {d : DataW H} {ps : List MemPlace} (hval : Value.okWide Try.prog W r base 49 v) (hd : DataW.Trod enc Try.prog W 0 sp held 49 v d ps) :
    ∃ p l c C, v = .slice p l c ∧ l ≤ c ∧ Cam W 1 p l C ∧ ∀ cs ∈ C, ∃ n : Nat, cs = [.int .u8 n] ∧ n < 256 := by
  obtain ⟨p, l, c, C, rfl, h1, _, _, hC, hk⟩ := arg_slice Try.underlying49 (by rw [show Try.prog.cellsOf 5 = 1 by kernel_rfl]; omega) hval hd
  rw [show Try.prog.cellsOf 5 = 1 by kernel_rfl] at hC
  refine ⟨p, l, c, C, rfl, h1, hC, fun cs hc => ?_⟩
  obtain ⟨f, y, hy⟩ := hk cs hc
  obtain ⟨n, rfl, hw⟩ := trod_num Try.underlying5 hy
  have := bounds_u8 hw
  exact ⟨n.toNat, by rw [Int.toNat_of_nonneg (by omega)], by omega⟩
theorem walk4 {H : Type} {enc : TypeId × Value → H} (W : World) (base : Nat) (args : Array Value) (ds : List (DataW H)) (p : List MemPlace) (hval : ∀ (j : Nat) t v, Try.f4.params[j]? = some t → args[j]? = some v → Value.okWide Try.prog W .any base t v)
    (hA : DataW.TrodAll enc Try.prog W 0 (fun _ => true) true Try.f4.params.toList args.toList ds p) : callV Try.prog 4 args W fun v w' => v = .bool true ∧ Below W.heap.size W w' := by
  rw [Try.params4] at hA hval
  obtain ⟨v0, vs0, d0, ds0, p0, q0, hargs, rfl, rfl, h0, r0⟩ := trodAll_cons hA
  obtain ⟨v1, vs1, d1, ds1, p1, q1, rfl, rfl, rfl, h1, r1⟩ := trodAll_cons r0
  obtain ⟨v2, vs2, d2, ds2, p2, q2, rfl, rfl, rfl, h2, r2⟩ := trodAll_cons r1
  obtain ⟨rfl, rfl, rfl⟩ := trodAll_nil r2
  obtain rfl : args = #[v0, v1, v2] := by cases args; simp_all
  obtain ⟨x, rfl, _⟩ := arg_u8 (hval 0 5 v0 rfl rfl)
  obtain ⟨p, l, c, C, rfl, hlc, hC, hk⟩ := arg_u16s (hval 1 48 v1 rfl rfl) h1
  obtain ⟨p2, l2, c2, C2, rfl, hlc2, hC2, hk2⟩ := arg_u8s (hval 2 49 v2 rfl rfl) h2
  exact once_law x hlc hC hk hlc2 hC2 hk2 fun w' cc => ⟨rfl, cc.below fun k hk h => h⟩
end Go.Proofs.Ytibalkkiefgljaa
