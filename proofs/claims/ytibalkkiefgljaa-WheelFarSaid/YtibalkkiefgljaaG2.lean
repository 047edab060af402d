/- WheelFar. -/
import Derived.Test.YtibalkkiefgljaaF6
import Derived.Test.YtibalkkiefgljaaD5
namespace Go.Proofs.Ytibalkkiefgljaa
open Go Go.Sh

theorem mget_one (a v k : Int) : mget [(a, v)] k = if a = k then some v else none := by rw [mget_cons, mget_nil]
theorem due_one {ds : List Int} {a v n : Int} (hs : ds.Pairwise (· < ·)) (hm : ∀ x, x ∈ ds ↔ mget [(a, v)] x = some n) : ds = if v = n then [a] else [] := by
  refine strict_ext hs (by split <;> simp) fun x => ?_
  rw [hm, mget_one]
  by_cases h1 : a = x <;> by_cases h2 : v = n <;> simp [h1, h2]
  exact fun h => h1 h.symm
theorem due_none {ds : List Int} {n : Int} (hs : ds.Pairwise (· < ·)) (hm : ∀ x, x ∈ ds ↔ mget ([] : List (Int × Int)) x = some n) : ds = [] := by
  refine strict_ext hs (by simp) fun x => ?_
  rw [hm, mget_nil]; simp

def farT (n k : Int) : List (Int × Int) := if k < n then [(3, n)] else []
theorem far_due {ds : List Int} {n k : Int} (hs : ds.Pairwise (· < ·)) (hm : ∀ x, x ∈ ds ↔ mget (farT n k) x = some (k + 1)) : ds = if k + 1 = n then [3] else [] := by
  unfold farT at hm
  by_cases h : k < n
  · rw [if_pos h] at hm
    rw [due_one hs hm]
    by_cases h2 : n = k + 1
    · rw [if_pos h2, if_pos h2.symm]
    · rw [if_neg h2, if_neg (Ne.symm h2)]
  · rw [if_neg h] at hm
    rw [due_none hs hm, if_neg (by omega)]
theorem far_next (n k : Int) : (farT n k).filter (fun p => decide (¬ p.2 = k + 1)) = farT n (k + 1) := by
  unfold farT
  by_cases h : k < n
  · rw [if_pos h]
    by_cases h2 : n = k + 1
    · rw [if_neg (by omega)]; simp [h2]
    · rw [if_pos (by omega)]; simp [h2]
  · rw [if_neg h, if_neg (by omega)]; rfl

theorem far_law {w : World} (a : Int) (h0 : 0 ≤ a) (t s : Nat) (ht : t < 256) (hs : s < 256) {K : Value → World → Prop} (hk : ∀ w', Chg (fun _ => False) w w' → K (.bool true) w') : callV Try.prog 6 #[.int .u64 a, .int .u8 t, .int .u8 s] w K := by
  refine ok6 ?_
  unfold S6
  have e1 : IntKind.wrap .i64 (1 + IntKind.wrap .i64 (s : Int)) = ((1 + s : Nat) : Int) := by rw [wrap64_id (n := (s : Int)) (by omega) (by omega), wrap64_id (by omega) (by omega)]; omega
  obtain ⟨k, hk1, hk2⟩ : ∃ k : Nat, IntKind.wrap .i64 (Int.tmod (t : Int) 200) = k ∧ k < 200 := ⟨t % 200, by rw [Int.tmod_eq_emod_of_nonneg (by omega), wrap64_id (by omega) (by omega)]; omega, by omega⟩
  obtain ⟨n, hn1, hn2, hn3⟩ : ∃ n : Int, IntKind.wrap .i64 (1 + IntKind.wrap .i64 (Int.tmod a 1099511627776)) = n ∧ 1 ≤ n ∧ n ≤ 1099511627776 := ⟨1 + a % 1099511627776, by
    rw [Int.tmod_eq_emod_of_nonneg h0, wrap64_id (n := a % 1099511627776) (by omega) (by omega), wrap64_id (by omega) (by omega)], by omega, by omega⟩
  rw [e1, hk1, hn1]
  refine callQ_chg (new_call (S := 1 + s) (m := 1) (by omega) (by omega) (by omega) (by omega) fun w1 h H hS hfp c1 => ⟨c1, _, _, rfl, ?_⟩)
  have base : ∀ {w'}, Chg h.fp w1 w' → Chg (fun _ => False) w w' := fun cc => (c1.none.trans (cc.mono (F' := fun k => w.heap.size ≤ k) fun k _ hk => hfp k hk)).mono fun k hk h => by omega
  rw [show ((0 : Int) != 0) = false from rfl, br_false]
  refine set_call H (by omega) 3 n (fun h => by omega) (fun _ _ h => by simp at h) fun _ _ w2 H2 c2 => ⟨_, rfl, ?_⟩
  have H2 : Wh w2 h 1 1 0 (farT n 0) := by unfold farT; rw [if_pos (by omega)]; simpa [mdel] using H2
  rw [show ((0 : Int) != 0) = false from rfl, br_false]
  refine ⟨fun m x w' => ∃ i : Nat, x = i ∧ i ≤ k ∧ m = k - i ∧ Wh w' h 1 1 i (farT n i) ∧ Chg h.fp w2 w', ⟨k, 0, rfl, by omega, rfl, H2, Chg.refl _ _⟩, ?_⟩
  have hstrict : ∀ i : Int, ∀ p ∈ farT n i, i < p.2 := fun i p hp => by
    unfold farT at hp
    split at hp
    · simp at hp; subst hp; assumption
    · cases hp
  have hlen : ∀ i : Int, (farT n i).length ≤ 1000000 := fun i => by unfold farT; split <;> simp
  rintro m x w3 ⟨i, rfl, hi, hm, H3, c3⟩
  refine br_of (fun hlt => ?_) (fun hge => ?_)
  · have hlt : i < k := by have := of_decide_eq_true hlt; omega
    refine tick_call H3 (hstrict _) (by omega) (hlen _) fun w4 p4 n4 d4 hs4 hm4 o4 hf4 H4 c4 => ⟨_, _, _, rfl, ?_⟩
    have hd := far_due hs4 hm4
    have hl : n4 = if (i : Int) + 1 = n then 1 else 0 := by
      rw [← o4.len, hd]; split <;> rfl
    rw [far_next] at H4
    rw [wrap64_id (by omega) (by omega)]
    have : (!((((n4 : Int) : Int) == 1) == ((((i : Int) + 1) : Int) == n))) = false := by
      rw [hl]
      by_cases h2 : (i : Int) + 1 = n
      · simp [h2]
      · simp [h2]
    rw [this, br_false]
    exact ⟨k - (i + 1), by omega, i + 1, by omega, by omega, rfl, by simpa using H4, c3.trans c4⟩
  · have hge : i = k := by have := of_decide_eq_false hge; omega
    subst hge
    have hg3 : mget (farT n i) 3 = if (i : Int) < n then some n else none := by
      unfold farT; split
      · rw [mget_one]; rfl
      · rfl
    refine callQ_chg (left_call H3 3 fun w4 c4 => ⟨c4, _, _, rfl, ?_⟩)
    have H4 := H3.go c4
    have his : (mget (farT n i) 3).isSome = decide ((i : Int) < n) := by
      rw [hg3]; by_cases h : (i : Int) < n <;> simp [h]
    rw [his]
    have c24 := c3.trans c4.none
    refine jn_rule (fun J => J w4) ?_ fun J21 hJ21 => ?_
    · refine jn_rule (fun J => ∀ w' N, N < 100 → Wh w' h N 1 ((i : Int) + 1) [(3, (i : Int) + 2)] → Chg h.fp w4 w' → J w') (fun w5 N hN H5 c5 => ?_) fun J34 hJ34 => ?_
      · refine tick_call H5 (by intro p hp; obtain rfl := List.mem_singleton.1 hp; dsimp only; omega) (by omega) (by simp) fun w6 p6 n6 d6 hs6 hm6 o6 hf6 H6 c6 => ⟨_, _, _, rfl, ?_⟩
        have hd : d6 = [3] := by rw [due_one hs6 hm6, if_pos (by omega)]
        subst hd
        refine al_abs fun r w7 hr h7 c7 hs7 => ints_call (Own.chg o6 c7 fun _ _ => id) (Own1 h7) (by have := o6.len; simp at this; omega) fun w8 c8 => ⟨_, rfl, ?_⟩
        rw [show decide (([3] : List Int) = [3]) = true from rfl, br_true]
        have H8 := H6.go (c7.trans c8)
        refine callQ_chg (len_call H8 ⟨Chg.refl _ _, _, rfl, ?_⟩)
        have : ([((3 : Int), (i : Int) + 2)].filter fun p => decide (¬ p.2 = (i : Int) + 1 + 1)) = [] := by simp; omega
        rw [this, show (((([] : List (Int × Int)).length : Int)) == 0) = true from rfl, br_true]
        have cc := base (c2.trans (c24.trans (c5.trans (c6.trans (c7.trans c8).none))))
        exact awake_call fun w9 c9 => ⟨_, rfl, hk w9 (cc.trans c9)⟩
      · refine set_call H4 (by omega) 3 2 (fun h => by omega) (fun _ hn hl => ?_) fun _ _ w5 H5 c5 => ⟨_, rfl, ?_⟩
        · exfalso
          rw [hg3] at hn
          unfold farT at hl
          split at hn
          · cases hn
          · rename_i hh; rw [if_neg hh] at hl; simp at hl
        have hT : mdel (farT n i) 3 ++ [((3 : Int), (i : Int) + 2)] = [(3, (i : Int) + 2)] := by unfold farT; split <;> simp [mdel]
        rw [hT] at H5
        rw [show ((0 : Int) != 0) = false from rfl, br_false]
        have last : ∀ w6 N, N < 100 → Wh w6 h N 1 (i : Int) [(3, (i : Int) + 2)] → Chg h.fp w5 w6 → callV Try.prog 17 #[ptr h.b] w6 fun v30 w => ∃ (p31 : Option Addr) (l32 c33 : Nat), v30 = (.slice p31 l32 c33) ∧ br (((l32 : Int) : Int) != 0) (K (.bool false) w) (J34 w) := fun w6 N hN H6 c6 => by
          refine tick_call H6 (by simp; omega) (by omega) (by simp) fun w7 p7 n7 d7 hs7 hm7 o7 hf7 H7 c7 => ⟨_, _, _, rfl, ?_⟩
          have hd : d7 = [] := by rw [due_one hs7 hm7, if_neg (by omega)]
          have hn7 : n7 = 0 := by have := o7.len; rw [hd] at this; exact this.symm
          subst hn7
          rw [show ((((0 : Nat) : Int) : Int) != 0) = false from rfl, br_false]
          refine hJ34 w7 N hN ?_ (c5.trans (c6.trans c7))
          have : ([((3 : Int), (i : Int) + 2)].filter fun p => decide (¬ p.2 = (i : Int) + 1)) = [(3, (i : Int) + 2)] := by
            rw [List.filter_cons_of_pos (by simp only [decide_eq_true_eq]; omega)]; rfl
          rw [this] at H7; exact H7
        refine br_of (fun _ => ?_) (fun _ => last w5 _ (by omega) H5 (Chg.refl _ _))
        refine set_call H5 (by omega) 4 2 (fun h => by omega) (fun _ _ _ w6 c6 => ⟨_, rfl, ?_⟩) fun _ hr => ?_
        · rw [show ((5 : Int) != 5) = false from rfl, br_false]
          exact last w6 _ (by omega) (H5.go c6) c6.none
        · exfalso
          rw [mget_one] at hr
          simp at hr
    · rw [show (!(decide ((i : Int) < n) == decide (((i : Int) : Int) < n))) = false by simp, br_false]
      refine br_of (fun hl => ?_) (fun _ => hJ21)
      have hl : (i : Int) < n := of_decide_eq_true hl
      have : leftOf (farT n i) i 3 = n - i := by unfold leftOf; rw [hg3, if_pos hl]
      rw [this, wrap64_id (by omega) (by omega), bne_self_eq_false, br_false]
      exact hJ21
end Go.Proofs.Ytibalkkiefgljaa
