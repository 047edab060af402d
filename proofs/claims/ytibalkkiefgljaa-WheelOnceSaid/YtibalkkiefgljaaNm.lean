/- Rows of elements of one cell: in a block, in a slice of the call's own. -/
import Derived.Test.YtibalkkiefgljaaSl2
namespace Go.Sh
open Go Go.Rg
section
variable {α : Type} {enc : α → Value} {e : TypeId}
theorem lay1 (cs : List Value) (o : Nat) (v : Value) : lay cs o [v] = cs.set o v := rfl
theorem lay_mid (A X Y Z B : List Value) (h : Z.length = Y.length) : lay (A ++ X ++ Y ++ B) (A.length + X.length) Z = A ++ X ++ Z ++ B := by
  rw [lay_eq _ _ _ (by simp; omega)]
  have e1 : (A ++ X ++ Y ++ B).take (A.length + X.length) = A ++ X := by rw [List.append_assoc (A ++ X), List.take_left' (by simp)]
  have e2 : (A ++ X ++ Y ++ B).drop (A.length + X.length + Z.length) = B := by rw [List.drop_left' (by simp; omega)]
  rw [e1, e2]
/-- The elements xs lie in block g behind A, ahead of B. -/
def Nums (enc : α → Value) (e : TypeId) (w : World) (g : Nat) (A : List Value) (xs : List α) (B : List Value) : Prop := Blk w g (A ++ xs.map enc ++ B) e
theorem Nums.cell {w : World} {g : Nat} {A B : List Value} {xs : List α} (h : Nums enc e w g A xs B) {i : Nat} {x : α} (hx : xs[i]? = some x) : w.cell? ⟨g, A.length + i * 1, none⟩ = some (enc x) := by
  have hi := (List.getElem?_eq_some_iff.1 hx).1
  rw [Blk.cell h, List.append_assoc, List.getElem?_append_right (by omega), List.getElem?_append_left (by simp; omega), List.getElem?_map]
  rw [show A.length + i * 1 - A.length = i by omega, hx]; rfl
theorem Nums.set {w : World} {g : Nat} {A B : List Value} {xs : List α} (h : Nums enc e w g A xs B) (h1 : ∀ x, (enc x).oneCell' = true) {i : Nat} (hi : i < xs.length) {v : α} {k : World → Prop} (hk : ∀ w', Nums enc e w' g A (xs.set i v) B → Chg (fun k => k = g) w w' → k w') : stL w ⟨g, A.length + i * 1, none⟩ 0 [enc v] k := by
  refine stL_abs h (by simp; omega) (by simp [h1]) fun w' hb c => hk w' ?_ c
  unfold Nums
  rw [lay1, List.append_assoc, List.set_append_right _ _ (by omega), List.set_append_left _ _ (by simp; omega), ← List.append_assoc] at hb
  rw [show A.length + i * 1 - A.length = i by omega] at hb
  rw [List.map_set]; exact hb
theorem Nums.chg {w w' : World} {g : Nat} {A B : List Value} {xs : List α} (h : Nums enc e w g A xs B) {F : Nat → Prop} (hc : Chg F w w') (hF : ¬ F g) : Nums enc e w' g A xs B := hc.blk h hF
/-- The slice (p, n, c) is of the elements xs, in a block of the call's own. -/
def OwnE (enc : α → Value) (e : TypeId) (w : World) (p : Option Addr) (n c : Nat) (xs : List α) : Prop := Own w 1 e p n c (xs.map enc)
theorem OwnE.len {w : World} {p : Option Addr} {n c : Nat} {xs : List α} (h : OwnE enc e w p n c xs) : xs.length = n := by have := Own.len h; simpa using this
theorem OwnE.nums {w : World} {p : Option Addr} {n c : Nat} {xs : List α} (h : OwnE enc e w p n c xs) : (p = none ∧ n = 0 ∧ c = 0 ∧ xs = []) ∨ ∃ g A B, p = some ⟨g, A.length, none⟩ ∧ Nums enc e w g A xs B ∧ c ≤ xs.length + B.length := by
  have hlen := h.len
  have hle := h.le
  rcases h.at_ with ⟨hp, hc, hx⟩ | ⟨g, o, cs, hp, hb, hl, hx⟩
  · have : n = 0 := by omega
    subst this
    exact .inl ⟨hp, rfl, hc, List.eq_nil_of_length_eq_zero hlen⟩
  · refine .inr ⟨g, cs.take o, cs.drop (o + n), ?_, ?_, ?_⟩
    · rw [hp, List.length_take, Nat.min_eq_left (by omega)]
    · unfold Nums
      rw [hx, Nat.mul_one, ← List.drop_drop, List.append_assoc, List.take_append_drop, List.take_append_drop]
      exact hb
    · simp; omega
theorem Nums.own {w : World} {g : Nat} {A B : List Value} {xs : List α} (h : Nums enc e w g A xs B) (h1 : ∀ x, (enc x).oneCell' = true) {n c : Nat} (hn : xs.length = n) (hnc : n ≤ c) (hc : c ≤ xs.length + B.length) : OwnE enc e w (some ⟨g, A.length, none⟩) n c xs := by
  refine ⟨hnc, .inr ⟨g, A.length, _, rfl, h, by simp; omega, ?_⟩, fun v hv => by obtain ⟨x, _, rfl⟩ := List.mem_map.1 hv; exact h1 x⟩
  rw [List.append_assoc, List.drop_left, Nat.mul_one, List.take_append_of_le_length (by simp; omega), List.take_of_length_le (by simp; omega)]
theorem OwnE.get {w : World} {p : Option Addr} {n c : Nat} {xs : List α} (h : OwnE enc e w p n c xs) {i : Nat} (hi : i < n) : ∃ x g o, xs[i]? = some x ∧ p = some ⟨g, o, none⟩ ∧ w.cell? ⟨g, o + i * 1, none⟩ = some (enc x) := by
  have hlen := h.len
  rcases h.nums with ⟨_, h0, _⟩ | ⟨g, A, B, hp, hN, _⟩
  · omega
  · have hx := List.getElem?_eq_getElem (l := xs) (i := i) (by omega)
    exact ⟨xs[i], g, A.length, hx, hp, hN.cell hx⟩

/-- The first place where something holds; below 0: nowhere. -/
def firstI (p : α → Bool) (L : List α) : Int := match L.findIdx? p with | some i => (i : Int) | none => -1
theorem firstI_at {p : α → Bool} {L : List α} {i : Nat} {x : α} (h : L[i]? = some x) (hp : p x = true) (hb : ∀ (j : Nat) y, j < i → L[j]? = some y → p y = false) : firstI p L = i := by
  have : L.findIdx? p = some i := by
    rw [List.findIdx?_eq_some_iff_getElem]
    have hi := (List.getElem?_eq_some_iff.1 h).1
    refine ⟨hi, ?_, fun j hj => ?_⟩
    · rw [(List.getElem?_eq_some_iff.1 h).2]; exact hp
    · have := hb j L[j] hj (List.getElem?_eq_getElem (by omega)); simp [this]
  unfold firstI; rw [this]
theorem firstI_none {p : α → Bool} {L : List α} (hb : ∀ (j : Nat) y, L[j]? = some y → p y = false) : firstI p L = -1 := by
  have : L.findIdx? p = none := by
    rw [List.findIdx?_eq_none_iff]
    intro x hx
    obtain ⟨j, hj⟩ := List.mem_iff_getElem?.1 hx
    exact hb j x hj
  unfold firstI; rw [this]
theorem firstI_cases (p : α → Bool) (L : List α) : (firstI p L = -1 ∧ ∀ x ∈ L, p x = false) ∨ ∃ (i : Nat) (x : α), firstI p L = i ∧ L[i]? = some x ∧ p x = true ∧ ∀ (j : Nat) y, j < i → L[j]? = some y → p y = false := by
  cases hf : L.findIdx? p with
  | none =>
    refine .inl ⟨by unfold firstI; rw [hf], fun x hx => ?_⟩
    rw [List.findIdx?_eq_none_iff] at hf
    exact hf x hx
  | some i =>
    obtain ⟨hi, h1, h2⟩ := List.findIdx?_eq_some_iff_getElem.1 hf
    refine .inr ⟨i, L[i], by unfold firstI; rw [hf], List.getElem?_eq_getElem hi, h1, fun j y hj hy => ?_⟩
    have := h2 j hj
    rw [List.getElem?_eq_getElem (by omega)] at hy
    cases hy
    simpa using this
end
end Go.Sh
