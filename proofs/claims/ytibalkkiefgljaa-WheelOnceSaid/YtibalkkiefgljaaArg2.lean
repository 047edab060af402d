/- What a struct that came in holds: field by field; a number; a slice. -/
import Derived.Test.YtibalkkiefgljaaArg
namespace Go.Sh
open Go.ChangeShapes Go.WideShapes Go.ChangeAt Go.RowKit
section
variable {H : Type} {enc : TypeId × Value → H} {P : Program} {w : World} {sp : Nat → Bool} {held : Bool} {base : Nat}

theorem trod_struct {t : TypeId} {fs : Array Field} (ht : P.underlying t = some (.struct fs)) {fuel : Nat} {cs : List Value} {x : DataW H × List MemPlace} (h : DataW.trod enc P w base sp held fuel t cs = some x) :
    cs.length = P.cellsOf t ∧ ∀ f ∈ fs.toList, ∃ fuel y, DataW.trod enc P w base sp held fuel f.type ((cs.drop f.offset).take (P.cellsOf f.type)) = some y := by
  cases fuel with
  | zero => cases h
  | succ n =>
    simp only [DataW.trod, ht] at h
    split at h
    · rename_i hl
      refine ⟨hl, fun f hf => ?_⟩
      cases hm : (fs.toList.mapM fun f => DataW.trod enc P w base sp held n f.type ((cs.drop f.offset).take (P.cellsOf f.type))) with
      | none => rw [hm] at h; cases h
      | some ys =>
        obtain ⟨i, hi, hfi⟩ := List.getElem_of_mem hf
        have := mapM_some_get hm i f (by rw [List.getElem?_eq_getElem hi, hfi])
        have hl2 : ys.length = fs.toList.length := mapM_some_length hm
        rw [List.getElem?_eq_getElem (by omega)] at this
        exact ⟨n, _, this⟩
    · cases h
theorem trod_num {t : TypeId} {k : IntKind} (ht : P.underlying t = some (.int k)) {fuel : Nat} {cs : List Value} {x : DataW H × List MemPlace} (h : DataW.trod enc P w base sp held fuel t cs = some x) : ∃ n, cs = [.int k n] ∧ (Lit.int k n).wf = true := by
  obtain ⟨n, h1, _, h2⟩ := DataW.trod_int ht h
  exact ⟨n, h1, h2⟩
theorem trod_sl {t e : TypeId} (ht : P.underlying t = some (.slice e)) {fuel : Nat} {cs : List Value} {x : DataW H × List MemPlace} (h : DataW.trod enc P w base sp held fuel t cs = some x) : ∃ p n c, cs = [.slice p n c] := by
  rcases DataW.trod_slice ht h with ⟨h1, _⟩ | ⟨a, l, c, _, _, _, _, h1, _⟩
  · exact ⟨_, _, _, h1⟩
  · exact ⟨_, _, _, h1⟩
end
end Go.Sh
