/- The library's IndexFunc and DeleteFunc at int; the wheel's Tick. -/
import Derived.Test.YtibalkkiefgljaaF3
namespace Go.Proofs.Ytibalkkiefgljaa
open Go Go.Sh

theorem iv1 (x : Int) : (iv x).oneCell' = true := rfl
theorem und39 : Try.prog.underlying 39 = some (.slice 3) := by kernel_rfl
theorem info3 : ∃ i, Try.prog.info? 3 = some i ∧ i.size = 1 ∧ i.bytes = 8 ∧ i.zero = some (iv 0) := info_of (by kernel_rfl)
/-- What a function's value answers, while only blocks in F turn. -/
def Asks (fv : Value) (q : Int → Bool) (xs : List Int) (F : Nat → Prop) (w : World) : Prop :=
  ∀ w', Chg F w w' → ∀ x ∈ xs, ∀ K : Value → World → Prop, (∀ w'', Chg (fun _ => False) w' w'' → K (.bool (q x)) w'') → callF Try.prog fv #[iv x] w' K

theorem index_call {w : World} {p : Option Addr} {n c : Nat} {xs : List Int} (h : ON w p n c xs) {fv : Value} {q : Int → Bool} {F : Nat → Prop} (hq : Asks fv q xs F w) (hn : n < 9223372036854775807) {K : Value → World → Prop}
    (hk : ∀ w', Chg (fun _ => False) w w' → K (iv (firstI q xs)) w') : callV Try.prog 29 #[.slice p n c, fv] w K := by
  refine ok29 ?_
  have hlen := h.len
  refine ⟨fun m x w' => ∃ i : Nat, x = i ∧ i ≤ n ∧ m = n - i ∧ (∀ (j : Nat) y, j < i → xs[j]? = some y → q y = false) ∧ Chg (fun _ => False) w w', ⟨n, 0, rfl, by omega, rfl, fun j y hj => by omega, Chg.refl _ _⟩, ?_⟩
  rintro m x w' ⟨i, rfl, hi, hm, hb, hc⟩
  refine br_of (fun hlt => ?_) (fun hge => ?_)
  · have hlt : i < n := by have := of_decide_eq_true hlt; omega
    obtain ⟨x, g, o, hx, hp, hcell⟩ := OwnE.get (Own.chg h hc fun _ _ => id) hlt
    rw [hp]
    refine idx_rule (by omega) (by omega) ⟨x, by rw [Int.toNat_natCast]; exact hcell, hq w' hc.none x (List.mem_of_getElem? hx) _ fun w2 c2 => ⟨_, rfl, ?_⟩⟩
    cases hl : q x with
    | true => rw [br_true, ← firstI_at hx hl hb]; exact hk w2 (hc.trans c2)
    | false =>
      rw [br_false, wrap64_id (by omega) (by omega)]
      refine ⟨n - (i + 1), by omega, i + 1, by omega, by omega, rfl, fun j y hj hy => ?_, hc.trans c2⟩
      rcases Nat.lt_or_ge j i with h1 | h1
      · exact hb j y h1 hy
      · obtain rfl : j = i := by omega
        rw [hx] at hy; cases hy; exact hl
  · have hge : i = n := by have := of_decide_eq_false hge; omega
    rw [show (-1 : Int) = firstI q xs from (firstI_none fun j y hy => hb j y (by have := (List.getElem?_eq_some_iff.1 hy).1; omega) hy).symm]
    exact hk w' hc

theorem delete_call {w : World} {p : Option Addr} {n c : Nat} {xs : List Int} (h : ON w p n c xs) {fv : Value} {q : Int → Bool} (hq : Asks fv q xs (inB p) w) (hbig : n ≤ 1000000) {K : Value → World → Prop}
    (hk : ∀ w' m, ON w' p m c (xs.filter fun x => !q x) → Chg (inB p) w w' → K (.slice p m c) w') : callV Try.prog 25 #[.slice p n c, fv] w K := by
  have hlen := h.len
  have hle := h.le
  refine ok25 (index_call h hq (by omega) fun w1 c1 => ⟨_, rfl, ?_⟩)
  rcases firstI_cases q xs with ⟨hf, hall⟩ | ⟨i0, x0, hf, hx0, hq0, hb0⟩
  · rw [hf, show ((-1 : Int) == -1) = true from rfl, br_true]
    have : xs.filter (fun x => !q x) = xs := List.filter_eq_self.2 fun x hx => by simp [hall x hx]
    refine hk w1 n ?_ c1.none
    rw [this]; exact Own.chg h c1 fun _ _ => id
  rw [hf, show (((i0 : Nat) : Int) == -1) = false by simp, br_false]
  have hi0 := (List.getElem?_eq_some_iff.1 hx0).1
  rcases h.nums with ⟨_, hn0, _⟩ | ⟨g, A, B, rfl, hN, hc⟩
  · omega
  have htake : xs.take i0 = (xs.take (i0 + 1)).filter fun x => !q x := by
    rw [List.take_add_one, hx0, Option.toList_some, List.filter_append, List.filter_cons_of_neg (by simp [hq0]), List.filter_nil, List.append_nil]
    refine (List.filter_eq_self.2 fun x hx => ?_).symm
    obtain ⟨j, hj⟩ := List.mem_iff_getElem?.1 hx
    rw [List.getElem?_take] at hj
    split at hj
    · rename_i hjl; simp [hb0 j x hjl hj]
    · cases hj
  rw [wrap64_id (by omega) (by omega)]
  refine ⟨fun m x11 x12 w' => ∃ (j : Nat) (zs : List Int), x12 = j ∧ x11 = (((xs.take j).filter fun x => !q x).length : Int) ∧ j ≤ n ∧ m = n - j ∧ zs.length = n ∧ ((xs.take j).filter fun x => !q x).length < j ∧ zs.take ((xs.take j).filter fun x => !q x).length = ((xs.take j).filter fun x => !q x) ∧ zs.drop j = xs.drop j ∧ Nums iv 3 w' g A zs B ∧ Chg (fun k => k = g) w w', ?_, ?_⟩
  · refine ⟨n - (i0 + 1), i0 + 1, xs, by omega, ?_, by omega, rfl, hlen, ?_, ?_, rfl, hN.chg c1 id, c1.none⟩
    · rw [← htake]; simp; omega
    · rw [← htake]; simp; omega
    · rw [← htake]; simp
  rintro m x11 x12 w2 ⟨j, zs, rfl, rfl, hjn, hm, hzl, hlj, hz1, hz2, hN2, c2⟩
  refine br_of (fun hlt => ?_) (fun hge => ?_)
  · have hlt : j < n := by have := of_decide_eq_true hlt; omega
    obtain ⟨x, hx⟩ : ∃ x, xs[j]? = some x := ⟨xs[j], List.getElem?_eq_getElem (by omega)⟩
    have hzx : zs[j]? = some x := by
      have := congrArg (fun l => l[0]?) hz2
      simp only [List.getElem?_drop, Nat.add_zero] at this
      rw [this]; exact hx
    have hz3 : zs.drop (j + 1) = xs.drop (j + 1) := by
      have := congrArg (List.drop 1) hz2
      rw [List.drop_drop, List.drop_drop] at this; exact this
    have hnext : (xs.take (j + 1)).filter (fun x => !q x) = if q x then (xs.take j).filter (fun x => !q x) else (xs.take j).filter (fun x => !q x) ++ [x] := by
      rw [List.take_add_one, hx, Option.toList_some, List.filter_append]
      cases hqx : q x
      · rw [List.filter_cons_of_pos (by simp [hqx])]; rfl
      · rw [List.filter_cons_of_neg (by simp [hqx])]; simp
    refine jn_rule (fun J => ∀ zs' w', zs'.length = n → ((xs.take (j + 1)).filter fun x => !q x).length < j + 1 → zs'.take ((xs.take (j + 1)).filter fun x => !q x).length = ((xs.take (j + 1)).filter fun x => !q x) → zs'.drop (j + 1) = xs.drop (j + 1) → Nums iv 3 w' g A zs' B → Chg (fun k => k = g) w w' → J (((xs.take (j + 1)).filter fun x => !q x).length : Int) w') ?_ fun J hJ => ?_
    · intro zs' w' h1 h2 h3 h4 h5 h6
      rw [wrap64_id (by omega) (by omega)]
      exact ⟨n - (j + 1), by omega, j + 1, zs', by omega, rfl, by omega, rfl, h1, h2, h3, h4, h5, h6⟩
    refine idx_rule (by omega) (by omega) ⟨x, by rw [Int.toNat_natCast]; exact hN2.cell hzx, hq w2 (c2.mono fun k _ hk => ⟨A.length, by rw [hk]⟩) x (List.mem_of_getElem? hx) _ fun w3 c3 => ⟨_, rfl, ?_⟩⟩
    have hN3 := hN2.chg c3 id
    cases hqx : q x with
    | true =>
      rw [hqx, if_pos rfl] at hnext
      rw [Bool.not_true, br_false]
      have := hJ zs w3 hzl (by rw [hnext]; omega) (by rw [hnext]; exact hz1) hz3 hN3 (c2.trans c3.none)
      rw [hnext] at this; exact this
    | false =>
      rw [hqx] at hnext
      simp only [Bool.false_eq_true, if_false] at hnext
      rw [Bool.not_false, br_true]
      refine idx_rule (by omega) (by omega) ?_
      rw [Int.toNat_natCast]
      refine hN3.set iv1 (by omega) fun w4 hN4 c4 => ?_
      have hl : ((xs.take (j + 1)).filter fun x => !q x).length = ((xs.take j).filter fun x => !q x).length + 1 := by rw [hnext]; simp
      have := hJ (zs.set ((xs.take j).filter fun x => !q x).length x) w4 (by simp [hzl]) (by omega) ?_ (by rw [List.drop_set_of_lt (by omega)]; exact hz3) hN4 (c2.trans (c3.none.trans c4))
      · rw [hl] at this
        rw [wrap64_id (by omega) (by omega)]
        exact this
      · rw [hl, hnext, List.take_add_one, List.take_set_of_le (Nat.le_refl _), hz1, List.getElem?_set_self (by omega)]; rfl
  · have hge : j = n := by have := of_decide_eq_false hge; omega
    subst hge
    have hall : xs.take j = xs := List.take_of_length_le (by omega)
    rw [hall] at hz1 hlj ⊢
    generalize hys : xs.filter (fun x => !q x) = ys at *
    obtain ⟨ti, hi, hs1, hby, hz⟩ := info3
    refine slc_rule ys.length j c rfl rfl rfl (by omega) (by omega) (by omega) (fun h => by cases h) ?_
    rw [if_neg (by omega), Option.map_some, add_lit]
    refine ⟨_, _, runClear (tg := 3) und39 hi hz (by decide) (by omega) hN2 (by simp [Value.cells]; omega) (by simp [Value.cells, Value.oneCell']), rfl, ?_⟩
    have c4 : Chg (fun k => k = g) w2 (setBlk w2 g (.cells (lay (A ++ zs.map iv ++ B) (A.length + ys.length * 1) ((List.replicate (j - ys.length) (iv 0).cells.toList).flatten)).toArray 3 (0, 0))) := Chg.set _ _ _ _ rfl
    have hb4 : Blk (setBlk w2 g (.cells (lay (A ++ zs.map iv ++ B) (A.length + ys.length * 1) ((List.replicate (j - ys.length) (iv 0).cells.toList).flatten)).toArray 3 (0, 0))) g _ 3 := Blk.set_same (cs' := lay (A ++ zs.map iv ++ B) (A.length + ys.length * 1) ((List.replicate (j - ys.length) (iv 0).cells.toList).flatten)) (t' := 3) hN2
    generalize setBlk w2 g (.cells (lay (A ++ zs.map iv ++ B) (A.length + ys.length * 1) ((List.replicate (j - ys.length) (iv 0).cells.toList).flatten)).toArray 3 (0, 0)) = w4 at c4 hb4 ⊢
    have hfl : ((List.replicate (j - ys.length) (iv 0).cells.toList).flatten).length = j - ys.length := by simp [Value.cells]
    refine slc_rule 0 ys.length c rfl rfl rfl (by omega) (by omega) (by omega) (fun h => by cases h) ?_
    rw [if_neg (by omega), Option.map_some, add_lit, Nat.zero_mul, Nat.add_zero, Nat.sub_zero, Nat.sub_zero]
    refine hk w4 _ ?_ ((c2.trans c4).mono fun k _ hk => ⟨A.length, by rw [hk]⟩)
    have e7 : lay (A ++ zs.map iv ++ B) (A.length + ys.length * 1) ((List.replicate (j - ys.length) (iv 0).cells.toList).flatten) = A ++ ys.map iv ++ ((List.replicate (j - ys.length) (iv 0).cells.toList).flatten ++ B) := by
      have hzsplit : zs.map iv = ys.map iv ++ (zs.drop ys.length).map iv := by
        rw [← List.map_append]; congr 1; conv => lhs; rw [← List.take_append_drop ys.length zs, hz1]
      have := lay_mid A (ys.map iv) ((zs.drop ys.length).map iv) ((List.replicate (j - ys.length) (iv 0).cells.toList).flatten) B (by rw [hfl]; simp; omega)
      rw [List.length_map] at this
      rw [hzsplit, Nat.mul_one, ← List.append_assoc, this]; simp
    rw [e7] at hb4
    exact Nums.own (xs := ys) hb4 iv1 rfl (by omega) (by simp [Value.cells]; omega)
end Go.Proofs.Ytibalkkiefgljaa
