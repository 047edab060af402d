/- A region that draws its order, where not all of its orders come to the same: as a tree: an operation that goes well with all that are left is taken first; where there is none, each that may come up is. -/
import Derived.Test.YtibalkkiefgljaaRg
namespace Go.Rg
open Go
section
variable {P : Program} {qs : List Nat} {ops : Array Oper}

def tAny (P : Program) (qs : List Nat) (ops : Array Oper) (Q : Act → World → Prop) : Nat → Array Bool → Act → World → Prop
  | 0, listed, a, w => Region.ready .any ops listed = [] ∧ Q a w
  | f + 1, listed, a, w => (Region.ready .any ops listed = [] → Q a w) ∧ ∀ i ∈ Region.ready .any ops listed, tOp P qs ops i (tAny P qs ops Q f (listed.setIfInBounds i true)) a w

theorem tAny_wp {Q : Exit → Act → World → Prop} : ∀ (f : Nat) (listed : Array Bool) (a : Act) (w : World), tAny P qs ops (Q .normal) f listed a w → wpAny P .any ops Q f listed a w
  | 0, _, _, _, h => h
  | f + 1, _, _, _, h => ⟨h.1, fun i hi => tOp_wpOp (tOp_mono (fun a' w' h' => tAny_wp f _ a' w' h') (h.2 i hi))⟩

def free (P : Program) (qs : List Nat) (ops : Array Oper) (B : Array Nat) (listed : Array Bool) (i : Nat) : Bool :=
  (List.range ops.size).all fun j => listed.getD j true || Nat.beq i j || (Nat.blt i j && (B.getD j 0).testBit i) || okPair P qs ops i j

theorem Inv.set {B : Array Nat} {listed : Array Bool} (hm : masksOk ops B = true) (inv : Inv ops B listed) {j : Nat} (hj : j ∈ Region.ready .any ops listed) : Inv ops B (listed.setIfInBounds j true) := by
  have hcl := ready_closed hm inv hj
  refine ⟨by simp [inv.size], fun k hk i hik hb => ?_⟩
  by_cases hjk : j = k
  · subst hjk; exact getD_set_true (hcl i hik hb)
  · rw [getD_set_ne false hjk] at hk
    exact getD_set_true (inv.closed k hk i hik hb)

theorem ready_lt {listed : Array Bool} {j : Nat} (hj : j ∈ Region.ready .any ops listed) : j < ops.size ∧ listed.getD j true = false := by
  obtain ⟨hu, o, ho, _⟩ := mem_ready.1 hj
  exact ⟨(Array.getElem?_eq_some_iff.1 ho).1, hu⟩

theorem ready_set {listed : Array Bool} {i j : Nat} (hi : i ∈ Region.ready .any ops listed) (hij : j ≠ i) : i ∈ Region.ready .any ops (listed.setIfInBounds j true) := by
  obtain ⟨hu, o, ho, hall⟩ := mem_ready.1 hi
  refine mem_ready.2 ⟨by rw [getD_set_ne true hij]; exact hu, o, ho, fun e he hb => getD_set_true (hall e he hb)⟩

theorem left_one {listed : Array Bool} {j : Nat} (hsz : listed.size = ops.size) (hj : j < ops.size) (hu : listed.getD j true = false) : (left ops (listed.setIfInBounds j true)).length + 1 = (left ops listed).length := by
  obtain ⟨is, rest, e1, e2, _⟩ := left_set (ops := ops) hj hu hsz
  rw [e1, e2]; simp; omega

theorem set_comm (listed : Array Bool) (i j : Nat) : (listed.setIfInBounds i true).setIfInBounds j true = (listed.setIfInBounds j true).setIfInBounds i true := by
  by_cases h : i = j
  · rw [h]
  · exact Array.setIfInBounds_comm _ _ h

theorem tAny_free {Q : Act → World → Prop} (hs : Region.noSelect ops = true) (hm : masksOk ops (Region.before ops) = true) : ∀ (f : Nat) (listed : Array Bool) (a : Act) (w : World), Inv ops (Region.before ops) listed → (left ops listed).length ≤ f + 1 →
    ∀ i, i ∈ Region.ready .any ops listed → free P qs ops (Region.before ops) listed i = true → tOp P qs ops i (tAny P qs ops Q f (listed.setIfInBounds i true)) a w → tAny P qs ops Q (f + 1) listed a w := by
  intro f
  induction f with
  | zero =>
    intro listed a w inv hl i hi hf h
    refine ⟨fun hr => (by rw [hr] at hi; cases hi), fun j hj => ?_⟩
    by_cases hji : j = i
    · subst hji; exact h
    · -- two are left: more than there are
      exfalso
      obtain ⟨his, hiu⟩ := ready_lt hi
      obtain ⟨hjs, hju⟩ := ready_lt hj
      have h1 := left_one inv.size his hiu
      have h2 := left_one (listed := listed.setIfInBounds i true) (by simp [inv.size]) hjs (by rw [getD_set_ne true (Ne.symm hji)]; exact hju)
      omega
  | succ f ih =>
    intro listed a w inv hl i hi hf h
    refine ⟨fun hr => (by rw [hr] at hi; cases hi), fun j hj => ?_⟩
    by_cases hji : j = i
    · subst hji; exact h
    obtain ⟨his, hiu⟩ := ready_lt hi
    obtain ⟨hjs, hju⟩ := ready_lt hj
    have hok : okPair P qs ops i j = true := by
      have h1 := List.all_eq_true.1 hf j (List.mem_range.2 hjs)
      simp only [hju, Bool.false_or, Bool.or_eq_true] at h1
      rcases h1 with (h1 | h1) | h1
      · exact absurd (Nat.eq_of_beq_eq_true h1).symm hji
      · exfalso
        simp only [Bool.and_eq_true] at h1
        have hij : i < j := by simpa [Nat.blt_eq] using h1.1
        have h1 := h1.2
        have := ready_closed hm inv hj i hij h1
        have hsz : i < listed.size := by rw [inv.size]; exact his
        simp [hsz] at this hiu
        rw [hiu] at this; cases this
      · exact h1
    have hj' : j ∈ Region.ready .any ops (listed.setIfInBounds i true) := ready_set hj (Ne.symm hji)
    have h1 : tOp P qs ops i (tOp P qs ops j (tAny P qs ops Q f ((listed.setIfInBounds i true).setIfInBounds j true))) a w := tOp_mono (fun a' w' h' => h'.2 j hj') h
    have h2 : tOp P qs ops j (tOp P qs ops i (tAny P qs ops Q f ((listed.setIfInBounds j true).setIfInBounds i true))) a w := by
      rw [set_comm listed j i]
      unfold okPair at hok
      split at hok
      · rename_i x y hx hy
        simp only [Bool.and_eq_true] at hok
        exact tOp_swap hx hy hok.1 (fun cs b => Region.noSelect_spec hs i x cs b hx) (fun cs b => Region.noSelect_spec hs j y cs b hy) hok.2 h1
      · cases hok
    refine tOp_mono (fun a' w' h' => ih (listed.setIfInBounds j true) a' w' (inv.set hm hj) ?_ i (ready_set hi hji) ?_ h') h2
    · have := left_one inv.size hjs hju; omega
    · refine List.all_eq_true.2 fun k hk => ?_
      have h3 := List.all_eq_true.1 hf k hk
      by_cases hjk : j = k
      · subst hjk
        have : (listed.setIfInBounds j true).getD j true = true := by have : j < listed.size := by rw [inv.size]; exact hjs
                                                                      simp [this]
        rw [this]; rfl
      · rw [getD_set_ne true hjk]; exact h3

theorem first_ready {listed : Array Bool} (hm : masksOk ops (Region.before ops) = true) (hsz : listed.size = ops.size) (hl : left ops listed ≠ []) : Region.ready .any ops listed ≠ [] := by
  intro hr
  cases hle : left ops listed with
  | nil => exact hl hle
  | cons i r =>
    have hi : i ∈ left ops listed := by rw [hle]; simp
    obtain ⟨his, hiu⟩ := mem_left.1 hi
    have hfirst : ∀ k, k < i → listed.getD k true = true := fun k hk => by
      cases hkk : listed.getD k true
      · have hkl : k ∈ left ops listed := mem_left.2 ⟨by omega, hkk⟩
        have hsort : (left ops listed).Pairwise (· < ·) := List.pairwise_lt_range.filter _
        rw [hle] at hsort hkl
        rcases List.mem_cons.1 hkl with h5 | h5
        · omega
        · have := (List.pairwise_cons.1 hsort).1 k h5; omega
      · rfl
    have hir : i ∈ Region.ready .any ops listed := by
      refine mem_ready.2 ⟨hiu, ops[i], Array.getElem?_eq_getElem his, fun e he hb => ?_⟩
      have h1 := List.all_eq_true.1 hm i (List.mem_range.2 his)
      rw [Array.getElem?_eq_getElem his] at h1
      simp only [Bool.and_eq_true] at h1
      have h4 := Array.all_eq_true_iff_forall_mem.1 h1.1 e he
      simp only [hb, Bool.not_true, Bool.false_or, decide_eq_true_eq] at h4
      have h5 := hfirst e.on h4
      have : e.on < listed.size := by rw [hsz]; omega
      simp [this] at h5 ⊢
      exact h5
    rw [hr] at hir; cases hir

/-- The tree of orders. -/
def TT (P : Program) (qs : List Nat) (ops : Array Oper) (B : Array Nat) (Q : Act → World → Prop) : Nat → Array Bool → Act → World → Prop
  | 0, _, a, w => Q a w
  | f + 1, listed, a, w => match (Region.ready .any ops listed).find? (free P qs ops B listed) with
    | some i => tOp P qs ops i (TT P qs ops B Q f (listed.setIfInBounds i true)) a w
    | none => ∀ i ∈ Region.ready .any ops listed, tOp P qs ops i (TT P qs ops B Q f (listed.setIfInBounds i true)) a w

theorem TT_tAny {Q : Act → World → Prop} (hs : Region.noSelect ops = true) (hm : masksOk ops (Region.before ops) = true) : ∀ (f : Nat) (listed : Array Bool) (a : Act) (w : World), Inv ops (Region.before ops) listed → (left ops listed).length = f →
    TT P qs ops (Region.before ops) Q f listed a w → tAny P qs ops Q f listed a w
  | 0, listed, a, w, _, hl, h => by
    refine ⟨?_, h⟩
    have h0 := List.eq_nil_of_length_eq_zero hl
    cases hr : Region.ready .any ops listed with
    | nil => rfl
    | cons i r =>
      obtain ⟨h1, h2⟩ := ready_lt (ops := ops) (listed := listed) (j := i) (by rw [hr]; simp)
      have : i ∈ left ops listed := mem_left.2 ⟨h1, h2⟩
      rw [h0] at this; cases this
  | f + 1, listed, a, w, inv, hl, h => by
    have step : ∀ i ∈ Region.ready .any ops listed, tOp P qs ops i (TT P qs ops (Region.before ops) Q f (listed.setIfInBounds i true)) a w → tOp P qs ops i (tAny P qs ops Q f (listed.setIfInBounds i true)) a w := fun i hi hh => by
      obtain ⟨h1, h2⟩ := ready_lt hi
      exact tOp_mono (fun a' w' h' => TT_tAny hs hm f _ a' w' (inv.set hm hi) (by have := left_one inv.size h1 h2; omega) h') hh
    simp only [TT] at h
    split at h
    · rename_i i hf
      have hi := List.mem_of_find?_eq_some hf
      exact tAny_free hs hm f listed a w inv (by omega) i hi (List.find?_some hf) (step i hi h)
    · exact ⟨fun hr => (first_ready hm inv.size (by intro h0; rw [h0] at hl; cases hl) hr).elim, fun i hi => step i hi (h i hi)⟩

/-- **A REGION THAT DRAWS ITS ORDER, BY THE TREE OF ITS ORDERS.** -/
theorem wp_tree {id : Nat} {Q : Exit → Act → World → Prop} {a : Act} {w : World} (hf : P.follows .mixedOrders = true) (hs : Region.noSelect ops = true) (hm : masksOk ops (Region.before ops) = true)
    (h : TT P qs ops (Region.before ops) (Q .normal) ops.size (Array.replicate ops.size false) a { w with drawn := w.drawn + 1 }) : (Code.region id ops true).wp P Q a w := by
  refine wp_region_any hf (tAny_wp ops.size _ a _ (TT_tAny hs hm ops.size _ a _ ⟨by simp, fun j hj => ?_⟩ ?_ h))
  · rw [getD_replicate_false'] at hj; cases hj
  · have : left ops (Array.replicate ops.size false) = List.range ops.size := by
      unfold left
      refine List.filter_eq_self.2 fun i hi => ?_
      have := List.mem_range.1 hi
      simp [this]
    rw [this]; simp
end
end Go.Rg
