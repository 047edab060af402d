/- What the arguments are: lists of steps. -/
import Derived.Test.YtibalkkiefgljaaG3
import Derived.Test.YtibalkkiefgljaaArg3
namespace Go.Proofs.Ytibalkkiefgljaa
open Go Go.Sh Go.ChangeShapes Go.WideShapes Go.ChangeAt Go.RowKit
theorem trod_opd {H : Type} {enc : TypeId × Value → H} {W : World} {sp : Nat → Bool} {held : Bool} {fuel : Nat} {cs : List Value} {x : DataW H × List MemPlace} (h : DataW.trod enc Try.prog W 0 sp held fuel 32 cs = some x) : Opd cs := by
  obtain ⟨hl, hf⟩ := trod_struct Try.underlying32 h
  rw [show Try.prog.cellsOf 32 = 3 by kernel_rfl] at hl
  match cs, hl with
  | [c0, c1, c2], _ =>
    obtain ⟨f0, y0, h0⟩ := hf _ (List.mem_cons_self ..)
    obtain ⟨f1, y1, h1⟩ := hf _ (List.mem_cons_of_mem _ (List.mem_cons_self ..))
    obtain ⟨f2, y2, h2⟩ := hf _ (List.mem_cons_of_mem _ (List.mem_cons_of_mem _ (List.mem_cons_self ..)))
    dsimp only at h0 h1 h2
    rw [show Try.prog.cellsOf 5 = 1 by kernel_rfl] at h0
    rw [show Try.prog.cellsOf 3 = 1 by kernel_rfl] at h1 h2
    obtain ⟨n0, e0, w0⟩ := trod_num Try.underlying5 h0
    obtain ⟨n1, e1, w1⟩ := trod_num Try.underlying3 h1
    obtain ⟨n2, e2, w2⟩ := trod_num Try.underlying3 h2
    simp at e0 e1 e2
    subst e0 e1 e2
    have b0 := bounds_u8 w0
    obtain ⟨n, rfl⟩ : ∃ n : Nat, n0 = n := ⟨n0.toNat, by omega⟩
    exact ⟨n, n1, n2, rfl, by omega⟩
theorem arg_ops {H : Type} {enc : TypeId × Value → H} {W : World} {sp : Nat → Bool} {held : Bool} {r : Reach} {base : Nat} {v : Value} {d : DataW H} {ps : List MemPlace} (hval : Value.okWide Try.prog W r base 22 v) (hd : DataW.Trod enc Try.prog W 0 sp held 22 v d ps) :
    ∃ p l c C, v = .slice p l c ∧ l ≤ c ∧ Cam W 3 p l C ∧ ∀ cs ∈ C, Opd cs := by
  obtain ⟨p, l, c, C, rfl, h1, _, _, hC, hk⟩ := arg_slice Try.underlying22 (by rw [show Try.prog.cellsOf 32 = 3 by kernel_rfl]; omega) hval hd
  rw [show Try.prog.cellsOf 32 = 3 by kernel_rfl] at hC
  exact ⟨p, l, c, C, rfl, h1, hC, fun cs hc => by obtain ⟨f, y, hy⟩ := hk cs hc; exact trod_opd hy⟩
theorem arg_u8 {W : World} {r : Reach} {base : Nat} {v : Value} (hval : Value.okWide Try.prog W r base 5 v) : ∃ x : Nat, v = .int .u8 x ∧ x < 256 := by
  obtain ⟨n, rfl, h⟩ := arg_int Try.underlying5 hval
  obtain ⟨h1, h2⟩ := has_u8 h
  exact ⟨n.toNat, by rw [Int.toNat_of_nonneg h1], by omega⟩
theorem arg_u16 {W : World} {r : Reach} {base : Nat} {v : Value} (hval : Value.okWide Try.prog W r base 51 v) : ∃ x : Nat, v = .int .u16 x ∧ x < 65536 := by
  obtain ⟨n, rfl, h⟩ := arg_int Try.underlying51 hval
  obtain ⟨h1, h2⟩ := has_u16 h
  exact ⟨n.toNat, by rw [Int.toNat_of_nonneg h1], by omega⟩
end Go.Proofs.Ytibalkkiefgljaa
