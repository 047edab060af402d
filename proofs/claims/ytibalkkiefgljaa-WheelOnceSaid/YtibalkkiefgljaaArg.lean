/- A slice that came in: its elements' cells; what they are, by the reading. -/
import Derived.Test.YtibalkkiefgljaaLaw
namespace Go.Sh
open Go.ChangeShapes Go.WideShapes Go.ChangeAt Go.RowKit

theorem add_add (a : Addr) (x y : Nat) : (a.add x).add y = a.add (x + y) := by
  unfold Addr.add
  split
  · rename_i h; subst h; simp
  · split
    · rename_i h; subst h; simp; omega
    · rw [if_neg (by omega)]; simp [Nat.add_assoc]
theorem add_zero (a : Addr) : a.add 0 = a := rfl
theorem add_block (a : Addr) (x : Nat) : (a.add x).block = a.block := by unfold Addr.add; split <;> rfl

/-- The n elements of sz cells behind p: C. -/
def Cam (w : World) (sz : Nat) (p : Option Addr) (n : Nat) (C : List (List Value)) : Prop :=
  C.length = n ∧ ∀ i cs, C[i]? = some cs → cs.length = sz ∧ ∃ a, p = some a ∧ a.block < w.heap.size ∧ ∀ j, j < sz → w.cell? (a.add (i * sz + j)) = cs[j]?

theorem Cam.chg {w w' : World} {sz : Nat} {p : Option Addr} {n : Nat} {C : List (List Value)} {F : Nat → Prop} (h : Cam w sz p n C) (hc : Chg F w w') (hF : ∀ a, p = some a → a.block < w.heap.size → ¬ F a.block) : Cam w' sz p n C := by
  refine ⟨h.1, fun i cs hi => ?_⟩
  obtain ⟨h1, a, hp, hb, hk⟩ := h.2 i cs hi
  refine ⟨h1, a, hp, Nat.lt_of_lt_of_le hb hc.size, fun j hj => ?_⟩
  rw [← hk j hj]
  have := hc.block a.block hb (hF a hp hb)
  exact World.cell?_of_block (by rw [add_block]; exact this)
theorem Cam.prefix {w : World} {sz : Nat} {p : Option Addr} {n : Nat} {C : List (List Value)} (h : Cam w sz p n C) (m : Nat) (hm : m ≤ n) : Cam w sz p m (C.take m) := by
  refine ⟨by rw [List.length_take, h.1]; omega, fun i cs hi => ?_⟩
  rw [List.getElem?_take] at hi
  split at hi
  · exact h.2 i cs hi
  · cases hi
theorem Cam.at_ {w : World} {sz : Nat} {p : Option Addr} {n : Nat} {C : List (List Value)} (h : Cam w sz p n C) {i : Nat} (hi : i < n) : ∃ cs a, C[i]? = some cs ∧ cs ∈ C ∧ cs.length = sz ∧ p = some a ∧ a.block < w.heap.size ∧ ∀ j, j < sz → w.cell? ((a.add (i * sz)).add j) = cs[j]? := by
  have hi' : i < C.length := by rw [h.1]; exact hi
  obtain ⟨h1, a, hp, hb, hk⟩ := h.2 i C[i] (List.getElem?_eq_getElem hi')
  exact ⟨C[i], a, List.getElem?_eq_getElem hi', List.getElem_mem hi', h1, hp, hb, fun j hj => by rw [add_add]; exact hk j hj⟩

section
variable {H : Type} {enc : TypeId × Value → H} {P : Program} {w : World} {sp : Nat → Bool} {held : Bool}

theorem cells_came {base : Nat} {a : Addr} {n : Nat} {cs : List Value} (h : w.cells? base a n = some cs) : cs.length = n ∧ ∀ j, j < n → w.cell? (a.add j) = cs[j]? :=
  (World.cells?_some h).2

/-- A slice that came in. -/
theorem open_came {t e : TypeId} (ht : P.underlying t = some (.slice e)) (hs : 0 < P.cellsOf e) {p : Option Addr} {n c : Nat} {fuel : Nat} {x : DataW H × List MemPlace} (h : DataW.trod enc P w 0 sp held fuel t [.slice p n c] = some x) :
    ∃ C, Cam w (P.cellsOf e) p n C ∧ n ≤ c ∧ c ≤ maxLen ∧ (p = none → n = 0 ∧ c = 0) ∧ ∀ cs ∈ C, ∃ fuel y, DataW.trod enc P w 0 sp held fuel e cs = some y := by
  cases fuel with
  | zero => cases h
  | succ fuel =>
    cases p with
    | none =>
      match n, c, h with
      | 0, 0, h => exact ⟨[], ⟨rfl, fun i cs hi => by cases hi⟩, Nat.le_refl _, by decide, fun _ => ⟨rfl, rfl⟩, fun cs hc => by cases hc⟩
      | 0, c + 1, h => simp [DataW.trod, ht] at h
      | n + 1, c, h => simp [DataW.trod, ht] at h
    | some a =>
      simp only [DataW.trod, ht] at h
      split at h
      · rename_i hcond
        cases hm : ((List.range n).mapM fun i => (w.cells? 0 (a.add (i * P.cellsOf e)) (P.cellsOf e)).bind (DataW.trod enc P w 0 sp held fuel e)) with
        | none => rw [hm] at h; cases h
        | some elems =>
          have hl : elems.length = n := by simpa using mapM_some_length hm
          have hg : ∀ i, i < n → ∃ cs y, w.cells? 0 (a.add (i * P.cellsOf e)) (P.cellsOf e) = some cs ∧ DataW.trod enc P w 0 sp held fuel e cs = some y := fun i hi => by
            have := mapM_some_get hm i i (by simp [hi])
            rw [List.getElem?_eq_getElem (by omega)] at this
            obtain ⟨cs, h1, h2⟩ := Option.bind_eq_some_iff.1 this
            exact ⟨cs, _, h1, h2⟩
          refine ⟨(List.range n).map fun i => (w.cells? 0 (a.add (i * P.cellsOf e)) (P.cellsOf e)).getD [], ⟨by simp, fun i cs hi => ?_⟩, hcond.2.1, hcond.2.2, (fun h => by cases h), fun cs hc => ?_⟩
          · have hin : i < n := by
              have := (List.getElem?_eq_some_iff.1 hi).1; simpa using this
            obtain ⟨cs', y, h1, h2⟩ := hg i hin
            rw [List.getElem?_map, List.getElem?_range hin, Option.map_some, h1, Option.getD_some] at hi
            obtain rfl : cs' = cs := by simpa using hi
            obtain ⟨h3, h4⟩ := cells_came h1
            refine ⟨h3, a, rfl, ?_, fun j hj => ?_⟩
            · have := World.cells?_block h1 hs
              rw [add_block] at this; exact this
            · rw [← add_add]; exact h4 j hj
          · obtain ⟨i, hi, rfl⟩ := List.mem_map.1 hc
            obtain ⟨cs', y, h1, h2⟩ := hg i (List.mem_range.1 hi)
            rw [h1]; exact ⟨fuel, y, h2⟩
      · cases h

theorem trod_bool {t : TypeId} (ht : P.underlying t = some .bool) {fuel base : Nat} {cs : List Value} {x : DataW H × List MemPlace} (h : DataW.trod enc P w base sp held fuel t cs = some x) : ∃ b, cs = [.bool b] := by
  cases fuel with
  | zero => cases h
  | succ f =>
    simp only [DataW.trod, ht] at h
    split at h <;> first | (rename_i h1 h2; cases h1) | skip
    all_goals first | exact ⟨_, rfl⟩ | (cases h) | skip
    all_goals simp_all
end
end Go.Sh
