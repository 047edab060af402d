/- The reference's Tick. -/
import Derived.Test.YtibalkkiefgljaaF9
namespace Go.Proofs.Ytibalkkiefgljaa
open Go Go.Sh

def dueL (T : List (Int × Int)) (n : Int) (i : Nat) : List Int := ((List.range i).map fun (j : Nat) => (j : Int)).filter fun x => decide (mget T x = some n)
theorem dueL_succ (T : List (Int × Int)) (n : Int) (i : Nat) : dueL T n (i + 1) = dueL T n i ++ if mget T (i : Int) = some n then [(i : Int)] else [] := by
  unfold dueL
  rw [List.range_succ, List.map_append, List.filter_append, List.map_singleton, List.filter_cons, List.filter_nil]
  by_cases h : mget T (i : Int) = some n <;> simp [h]
theorem dueL_len (T : List (Int × Int)) (n : Int) (i : Nat) : (dueL T n i).length ≤ i := by
  refine Nat.le_trans (List.length_filter_le _ _) ?_
  simp
theorem dueL_due {T : List (Int × Int)} (hid : ∀ p ∈ T, 0 ≤ p.1 ∧ p.1 ≤ 1023) (n : Int) : Due T n (dueL T n 1024) := by
  refine ⟨List.Pairwise.filter _ ?_, fun x => ?_⟩
  · rw [List.pairwise_map]
    exact List.pairwise_lt_range.imp fun h => by omega
  · unfold dueL
    rw [List.mem_filter, decide_eq_true_eq]
    refine ⟨fun h => h.2, fun h => ⟨?_, h⟩⟩
    have := hid _ (mget_some h)
    exact List.mem_map.2 ⟨x.toNat, List.mem_range.2 (by omega), by omega⟩
theorem fold_tick {T : List (Int × Int)} {n : Int} {ds : List Int} (hnd : (T.map (·.1)).Nodup) (h : Due T n ds) : ds.foldl mdel T = tickT T n := by
  rw [foldl_mdel]
  unfold tickT
  refine List.filter_congr fun p hp => ?_
  have h1 := mem_mget hnd hp
  have h2 := h.mem p.1
  rw [h1] at h2
  by_cases hpn : p.2 = n
  · rw [decide_eq_false (by rw [h2, hpn]; simp), decide_eq_false (by simp [hpn])]
  · rw [decide_eq_true (by rw [h2]; simpa using hpn), decide_eq_true hpn]
theorem foldl_nodup : ∀ (ds : List Int) (T : List (Int × Int)), (T.map (·.1)).Nodup → ((ds.foldl mdel T).map (·.1)).Nodup
  | [], _, h => h
  | d :: ds, T, h => foldl_nodup ds (mdel T d) (mdel_nodup h d)
theorem foldl_le : ∀ (ds : List Int) (T : List (Int × Int)), (ds.foldl mdel T).length ≤ T.length
  | [], _ => Nat.le_refl _
  | d :: ds, T => Nat.le_trans (foldl_le ds (mdel T d)) (mdel_le T d)

theorem rtick_call {w : World} {p : Option Addr} {n c : Nat} {T : List (Int × Int)} (h : TO w p n c T) (hnd : (T.map (·.1)).Nodup) (hn : n < 900000) {now most : Int} (hn0 : 0 ≤ now ∧ now < 1000000000000000000) (htm : ∀ p ∈ T, 0 ≤ p.1 ∧ p.1 ≤ 1023 ∧ now < p.2 ∧ p.2 ≤ now + 1099511627776) {K : Value → World → Prop}
    (hk : ∀ w' q m d q2 m2 d2 ds, TO w' q m d (tickT T (now + 1)) → (∀ k, inB q k → inB p k ∨ w.heap.size ≤ k) → Due T (now + 1) ds → ON w' q2 m2 d2 ds → (∀ k, inB q2 k → w.heap.size ≤ k) → Chg (fun _ => False) w w' → K (.tuple #[.agg #[iv (now + 1), iv most, .slice q m d], .slice q2 m2 d2]) w') : callV Try.prog 15 #[.agg #[iv now, iv most, .slice p n c]] w K := by
  refine ok15 (al_abs fun r w1 hr hb c1 hs => al_abs fun r2 w2 hr2 hb2 c2 hs2 => ?_)
  have hb := c2.blk hb (fun h => h)
  have c12 := c1.trans c2
  have hlen := h.len
  refine ⟨_, hb.cell 0, ?_⟩
  rw [wrap64_id (by omega) (by omega)]
  refine stL_abs hb (by simp) (by simp [Value.oneCell']) fun w3 hb3 c3 => ?_
  have hb3 : Blk w3 r [iv (now + 1), iv most, .slice p n c] 30 := hb3
  have hb23 := c3.blk hb2 (show ¬ r2 = r by omega)
  have hrp : ∀ k, inB p k → k < w.heap.size := fun k hk => Own.lt h hk
  have h3 : TO w3 p n c T := (h.go c12).chg c3 fun k hk e => by have := hrp k hk; omega
  have c03 : Chg (fun k => w.heap.size ≤ k) w w3 := c12.none.trans (c3.mono fun k _ hk => by omega)
  have hs3 := c3.size
  generalize hN : now + 1 = n1 at *
  refine ⟨fun m q l d x w' => ∃ i : Nat, x = i ∧ i ≤ 1024 ∧ m = 1024 - i ∧ ON w' q l d (dueL T n1 i) ∧ (∀ k, inB q k → w3.heap.size ≤ k) ∧ Chg (fun _ => False) w3 w', ⟨1024, 0, rfl, by omega, rfl, Own.nil _ _ _, fun k hk => none_inB hk, Chg.refl _ _⟩, ?_⟩
  rintro m q l d x w4 ⟨i, rfl, hi, hm, hq, hqf, c4⟩
  have hb4 := c4.blk hb3 (fun h => h)
  have hb24 := c4.blk hb23 (fun h => h)
  have hql := hq.len
  have hdl := dueL_len T n1 i
  unfold B15_0
  rw [add_lit, add_lit]
  refine br_of (fun hlt => ?_) (fun hge => ?_)
  · have hlt : i ≤ 1023 := by have := of_decide_eq_true hlt; omega
    refine jn_rule (fun J => ∀ w' q l d, ON w' q l d (dueL T n1 (i + 1)) → (∀ k, inB q k → w3.heap.size ≤ k) → Chg (fun _ => False) w3 w' → J q l d w') (fun w' q l d hq hqf cc => ⟨1024 - (i + 1), by omega, i + 1, by rw [wrap64_id (by omega) (by omega)]; omega, by omega, rfl, hq, hqf, cc⟩) fun J33 hJ => ?_
    refine ⟨_, hb4.cell 0, _, hb4.cell 1, _, _, _, hb4.cell 2, callQ_chg (rleft_call (h3.go c4) hnd (by omega) (by omega) (fun p hp => by have := htm p hp; omega) i fun w5 c5 => ⟨c5, _, _, rfl, ?_⟩)⟩
    have hq5 : ON w5 q l d (dueL T n1 i) := Own.chg hq c5 fun _ _ => id
    have c45 := c4.trans c5
    refine jn_rule (fun J => (mget T (i : Int) = some n1 → J true w5) ∧ (¬ mget T (i : Int) = some n1 → J false w5)) ⟨fun hg => ?_, fun hg => ?_⟩ fun J24 hJ24 => ?_
    · rw [br_true]
      refine app_int hq5 i (by omega) fun w6 q6 d6 h6 hf6 c6 => ⟨_, _, _, rfl, hJ w6 q6 _ d6 (by rw [dueL_succ, if_pos hg]; exact h6) (fun k hk => ?_) ?_⟩
      · rcases hf6 k hk with h | h
        · exact hqf k h
        · have := c45.size; omega
      · exact (c45.none.trans (c6.mono (F' := fun k => w3.heap.size ≤ k) fun k _ hk => hqf k hk)).mono fun k hk h => by omega
    · rw [br_false]
      exact hJ w5 q l d (by rw [dueL_succ, if_neg hg, List.append_nil]; exact hq5) hqf c45
    · unfold leftOf
      cases hg : mget T (i : Int) with
      | none => rw [Option.isSome_none, br_false]; exact hJ24.2 fun h => by rw [hg] at h; cases h
      | some v =>
        rw [Option.isSome_some, br_true]
        by_cases hv : v = n1
        · subst hv
          rw [show (((v - v : Int)) == 0) = true by simp]
          exact hJ24.1 hg
        · rw [show (((v - n1 : Int)) == 0) = false by simp; omega]
          exact hJ24.2 fun h => by rw [hg] at h; cases h; exact hv rfl
  · have hge : i = 1024 := by have := of_decide_eq_false hge; omega
    subst hge
    have hdue := dueL_due (fun p hp => by have := htm p hp; omega) n1 (T := T)
    generalize dueL T n1 1024 = ds at *
    have c04 : Chg (fun k => w.heap.size ≤ k) w w4 := c03.trans c4.none
    have hs4 := c4.size
    refine ⟨fun m x w' => ∃ (i : Nat) (q' : Option Addr) (m' d' : Nat), x = i ∧ i ≤ l ∧ m = l - i ∧ Blk w' r [iv n1, iv most, .slice q' m' d'] 30 ∧ Blk w' r2 [iv 0, iv 0, .slice none 0 0] 30 ∧ TO w' q' m' d' ((ds.take i).foldl mdel T) ∧ (∀ k, inB q' k → inB p k ∨ w2.heap.size ≤ k) ∧ ON w' q l d ds ∧ Chg (fun k => w.heap.size ≤ k) w w' ∧ w2.heap.size ≤ w'.heap.size, ⟨l, 0, p, n, c, rfl, by omega, rfl, hb4, hb24, h3.go c4, fun k hk => .inl hk, hq, c04, by omega⟩, ?_⟩
    rintro m x w5 ⟨i, q', m', d', rfl, hi, hm, hb5, hb25, h5, hqf5, hq5, c5, hs5⟩
    refine br_of (fun hlt => ?_) (fun hge => ?_)
    · have hlt : i < l := by have := of_decide_eq_true hlt; omega
      refine dr_abs fun w6 _ c6 => ?_
      have hb6 := c6.blk hb5 (fun h => h)
      obtain ⟨x, g, o, hx, hp, hcell⟩ := OwnE.get (Own.chg hq5 c6 fun _ _ => id) hlt
      refine ⟨_, hb6.cell 0, ?_⟩
      rw [add_lit]
      refine ⟨_, hb6.cell 1, ?_⟩
      rw [add_lit]
      refine ⟨_, _, _, hb6.cell 2, ⟨by omega, by omega, ?_⟩⟩
      subst hp
      rw [need_some, add_lit]
      refine ⟨x, by rw [Int.toNat_natCast]; exact hcell, ?_⟩
      have hl5 := h5.len
      have := foldl_le (ds.take i) T
      refine callQ_chg (rcancel_call (h5.go c6) (foldl_nodup _ _ hnd) (by omega) x fun w7 q7 m7 d7 h7 hf7 c7 => ⟨c7, _, _, _, _, _, _, rfl, ?_⟩)
      have hs67 := c6.size
      have hs77 := c7.size
      refine stL_abs (c7.blk hb6 (fun h => h)) (by simp) (by simp [Value.oneCell']) fun w8 hb8 c8 => ?_
      have c68 := c6.trans c7
      refine ⟨l - (i + 1), by omega, i + 1, q7, m7, d7, by rw [wrap64_id (by omega) (by omega)]; omega, by omega, rfl, hb8, (c8.blk (c68.blk hb25 (fun h => h)) (show ¬ r2 = r by omega)), ?_, fun k hk => .inr (by have := hf7 k hk; omega), Own.chg (Own.chg hq5 c68 fun _ _ => id) c8 (fun k hk e => by have := hqf k hk; omega), c5.trans (c68.none.trans (c8.mono fun k _ hk => by omega)), by have := c8.size; omega⟩
      rw [List.take_add_one, hx, Option.toList_some, List.foldl_append]
      exact h7.chg c8 fun k hk e => by have := hf7 k hk; omega
    · have hge : i = l := by have := of_decide_eq_false hge; omega
      subst hge
      rw [List.take_of_length_le (by omega), fold_tick hnd hdue] at h5
      refine ⟨_, hb5.cell 0, _, hb5.cell 1, _, _, _, hb5.cell 2, stL_abs hb25 (by simp) (by simp [Value.oneCell']) fun w6 hb6 c6 => ?_⟩
      have hb6 : Blk w6 r2 [iv n1, iv most, .slice q' m' d'] 30 := hb6
      refine ⟨_, hb6.cell 0, _, hb6.cell 1, _, _, _, hb6.cell 2, hk w6 q' m' d' q i d ds (h5.chg c6 fun k hk e => ?_) (fun k hk => ?_) hdue (Own.chg hq5 c6 fun k hk e => ?_) (fun k hk => ?_) ?_⟩
      · rcases hqf5 k hk with h | h
        · have := hrp k h; omega
        · omega
      · rcases hqf5 k hk with h | h
        · exact .inl h
        · right; omega
      · have := hqf k hk; omega
      · have := hqf k hk; omega
      · exact (c5.trans (c6.mono (F' := fun k => w.heap.size ≤ k) fun k _ hk => by omega)).mono fun k hk h => by omega
end Go.Proofs.Ytibalkkiefgljaa
