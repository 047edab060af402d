/- Slices that came in as sources of an append; appending to none. -/
import Derived.Test.YtibalkkiefgljaaSl
import Derived.Test.YtibalkkiefgljaaArg
namespace Go.Sh
open Go Go.Rg

theorem flatten_get {sz : Nat} : ∀ (C : List (List Value)) (i : Nat) (cs : List Value) (j : Nat), j < sz → (∀ cs ∈ C, cs.length = sz) → C[i]? = some cs → C.flatten[i * sz + j]? = cs[j]?
  | [], i, cs, j, _, _, h => by cases h
  | c :: C, i, cs, j, hj, hl, hi => by
    have hc := hl c (by simp)
    rw [List.flatten_cons]
    cases i with
    | zero => simp at hi; subst hi; rw [List.getElem?_append_left (by omega)]; simp
    | succ i =>
      rw [List.getElem?_append_right (by rw [hc, Nat.add_mul]; omega), ← flatten_get C i cs j hj (fun cs h => hl cs (by simp [h])) (by simpa using hi)]
      congr 1; rw [hc, Nat.add_mul]; omega
theorem flatten_len {sz : Nat} : ∀ (C : List (List Value)), (∀ cs ∈ C, cs.length = sz) → C.flatten.length = C.length * sz
  | [], _ => by simp
  | c :: C, hl => by rw [List.flatten_cons, List.length_append, hl c (by simp), flatten_len C fun cs h => hl cs (by simp [h]), List.length_cons, Nat.add_mul]; omega
theorem Cam.lens {w : World} {sz : Nat} {p : Option Addr} {n : Nat} {C : List (List Value)} (h : Cam w sz p n C) : ∀ cs ∈ C, cs.length = sz := fun cs hc => by
  obtain ⟨i, hi⟩ := List.mem_iff_getElem?.1 hc
  exact (h.2 i cs hi).1
theorem Cam.of_blk {w : World} {b : Nat} {t : TypeId} {sz : Nat} {C : List (List Value)} (h : Blk w b C.flatten t) (hl : ∀ cs ∈ C, cs.length = sz) : Cam w sz (some ⟨b, 0, none⟩) C.length C := by
  refine ⟨rfl, fun i cs hi => ⟨hl cs (List.mem_of_getElem? hi), ⟨b, 0, none⟩, rfl, h.lt, fun j hj => ?_⟩⟩
  rw [add_lit, h.cell, ← flatten_get C i cs j hj hl hi]; congr 1; omega
theorem Cam.src {P : Program} {tx e : TypeId} (ht : P.underlying tx = some (.slice e)) {w : World} {sz : Nat} {p : Option Addr} {n : Nat} {C : List (List Value)} (h : Cam w sz p n C) (c : Nat) (h1 : ∀ cs ∈ C, ∀ v ∈ cs, v.oneCell' = true) (hs : 0 < sz) : Src P sz tx (.slice p n c) n C.flatten w := by
  have hk : C.length = n := h.1
  cases p with
  | none =>
    have : C = [] := by
      cases C with
      | nil => rfl
      | cons m bs => obtain ⟨_, a, ha, _⟩ := h.2 0 m rfl; cases ha
    subst this
    simp at hk; subst hk
    exact Src.ofNil w ht c
  | some a =>
    refine Src.ofSlice w ht a n c C.flatten (by rw [flatten_len C h.lens, hk]) (fun j u hj => ?_) (fun v hv => by
      obtain ⟨cs, hc, hv⟩ := List.mem_flatten.1 hv; exact h1 cs hc v hv)
    have hjl : j < C.length * sz := by have := (List.getElem?_eq_some_iff.1 hj).1; rwa [flatten_len C h.lens] at this
    have hi : j / sz < C.length := by rw [Nat.div_lt_iff_lt_mul hs]; exact hjl
    have hm : j % sz < sz := Nat.mod_lt _ hs
    have hg := flatten_get C (j / sz) C[j / sz] (j % sz) hm h.lens (List.getElem?_eq_getElem hi)
    rw [Nat.div_add_mod' j sz] at hg
    obtain ⟨_, a', ha, _, hcell⟩ := h.2 (j / sz) C[j / sz] (List.getElem?_eq_getElem hi)
    simp at ha; subst ha
    have := hcell (j % sz) hm
    rw [Nat.div_add_mod' j sz] at this
    rw [this, ← hg, hj]
/-- What a slice of the call's own holds, as elements. -/
theorem Own.cam {w : World} {sz : Nat} {e : TypeId} {p : Option Addr} {n c : Nat} {C : List (List Value)} (h : Own w sz e p n c C.flatten) (hl : ∀ cs ∈ C, cs.length = sz) (hs : 0 < sz) : Cam w sz p n C := by
  have hlen := h.len
  rw [flatten_len C hl] at hlen
  have hn : C.length = n := Nat.eq_of_mul_eq_mul_right hs hlen
  refine ⟨hn, fun i cs hi => ?_⟩
  have hil : i < C.length := (List.getElem?_eq_some_iff.1 hi).1
  have hcs := hl cs (List.mem_of_getElem? hi)
  obtain ⟨g, o, hp, hcell⟩ := h.cell (by omega)
  refine ⟨hcs, ⟨g, o, none⟩, hp, h.lt ⟨o, hp⟩, fun j hj => ?_⟩
  rw [add_lit, hcell _ (by
    have : i * sz + sz ≤ n * sz := by rw [← Nat.succ_mul]; exact Nat.mul_le_mul_right _ (by omega)
    omega)]
  exact flatten_get C i cs j hj hl hi
/-- 's[:N]', within the length. -/
theorem slc_pre {p : Option Addr} {n c sz N : Nat} {k : Option Addr → Nat → Nat → Prop} (h1 : N ≤ n) (h2 : n ≤ c) (hk : k p N c) : slc p n c sz none (some (N : Int)) none k := by
  refine slc_rule 0 N c rfl rfl rfl (Nat.le_refl _) (by omega) (by omega) (fun h => by cases h) ?_
  have : (if c = 0 then p else Option.map (fun x => x.add (0 * sz)) p) = p := by
    split
    · rfl
    · cases p with
      | none => rfl
      | some a => rw [Nat.zero_mul, Option.map_some, add_zero]
  rw [this, Nat.sub_zero, Nat.sub_zero]
  exact hk
theorem min_nat (b l : Nat) : ∃ N : Nat, (if (b : Int) < (l : Int) then (b : Int) else (l : Int)) = N ∧ N ≤ l ∧ N ≤ b ∧ (N = b ∨ N = l) := by
  by_cases h : (b : Int) < (l : Int)
  · exact ⟨b, by rw [if_pos h], by omega, by omega, .inl rfl⟩
  · exact ⟨l, by rw [if_neg h], by omega, by omega, .inr rfl⟩
end Go.Sh
