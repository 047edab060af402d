/- FifoNone's walk, over what its one argument is. -/
import Derived.Test.YtiodaglceoodpaaF6
import Derived.Test.YtiodaglceoodpaaLaw
namespace Go.Proofs.Ytiodaglceoodpaa
open Go Go.Sh Go.ChangeShapes Go.WideShapes Go.ChangeAt Go.RowKit

theorem open_rx {w : World} {r : Reach} {base : Nat} {v : Value} (h : Value.okWide Try.prog w r base 36 v) : ∃ x : Rec, v = x.val := by
  obtain ⟨cs, rfl, hl, hc⟩ := cells_struct (ts := [31, 4, 4, 5, 32, 3]) Try.underlying36 (by kernel_rfl) (by kernel_rfl) h
  match cs, hl with
  | [c0, c1, c2, c3, c4, c5], _ =>
    obtain ⟨n0, rfl, _⟩ := cell_int Try.underlying31 (hc 0 (by decide) c0 rfl)
    obtain ⟨b1, rfl⟩ := cell_bool Try.underlying4 (hc 1 (by decide) c1 rfl)
    obtain ⟨b2, rfl⟩ := cell_bool Try.underlying4 (hc 2 (by decide) c2 rfl)
    obtain ⟨n3, rfl, _⟩ := cell_int Try.underlying5 (hc 3 (by decide) c3 rfl)
    obtain ⟨p4, l4, q4, rfl, _⟩ := cell_slice Try.underlying32 (hc 4 (by decide) c4 rfl)
    obtain ⟨n5, rfl, _⟩ := cell_int Try.underlying3 (hc 5 (by decide) c5 rfl)
    exact ⟨⟨n0, b1, b2, n3, p4, l4, q4, n5⟩, rfl⟩

theorem walk6 {H : Type} {enc : TypeId × Value → H} (W : World) (base : Nat) (args : Array Value) (ds : List (DataW H)) (p : List MemPlace) (hval : ∀ (j : Nat) t v, Try.f6.params[j]? = some t → args[j]? = some v → Value.okWide Try.prog W .any base t v)
    (hA : DataW.TrodAll enc Try.prog W 0 (fun _ => true) true Try.f6.params.toList args.toList ds p) : callV Try.prog 6 args W fun v w' => v = .bool true ∧ Below W.heap.size W w' := by
  rw [Try.params6] at hA hval
  obtain ⟨v0, vs0, d0, ds0, p0, q0, hargs, rfl, rfl, h0, r0⟩ := trodAll_cons hA
  obtain ⟨rfl, rfl, rfl⟩ := trodAll_nil r0
  obtain rfl : args = #[v0] := by cases args; simp_all
  obtain ⟨x, rfl⟩ := open_rx (hval 0 36 v0 rfl rfl)
  exact none_law x fun w' c => ⟨rfl, c.below fun k hk h => by omega⟩
end Go.Proofs.Ytiodaglceoodpaa
