/- The library's Clone and Compact at uint32. -/
import Derived.Test.YtcemgjikmdbjgaaD1
import Derived.Test.YtcemgjikmdbjgaaF3
import Derived.Test.YtcemgjikmdbjgaaSl2
namespace Go.Proofs.Ytcemgjikmdbjgaa
open Go Go.Sh

theorem info22 : ∃ i, Try.prog.info? 22 = some i ∧ i.size = 1 ∧ i.bytes = 4 ∧ i.zero = some (iu 0) := info_of (by kernel_rfl)
theorem und36 : Try.prog.underlying 36 = some (.slice 22) := by kernel_rfl
/-- Numbers that lie somewhere. -/
def NL (w : World) (p : Option Addr) (n : Nat) (xs : List Int) : Prop := Cam w 1 p n (xs.map fun x => [iu x])
theorem nl_flat (xs : List Int) : (xs.map fun x => [iu x]).flatten = xs.map iu := by
  induction xs with
  | nil => rfl
  | cons x xs ih => simp [ih]
theorem NL.len {w : World} {p : Option Addr} {n : Nat} {xs : List Int} (h : NL w p n xs) : xs.length = n := by have := h.1; simpa using this

/-- The slice (p, n, c) is of the numbers xs, in a block of the call's own. -/
def ON (w : World) (p : Option Addr) (n c : Nat) (xs : List Int) : Prop := Own w 1 22 p n c (xs.map iu)
theorem ON.len {w : World} {p : Option Addr} {n c : Nat} {xs : List Int} (h : ON w p n c xs) : xs.length = n := by have := Own.len h; simpa using this
theorem ON.nums {w : World} {p : Option Addr} {n c : Nat} {xs : List Int} (h : ON w p n c xs) : (p = none ∧ n = 0 ∧ xs = []) ∨ ∃ g A B, p = some ⟨g, A.length, none⟩ ∧ Nums w g A xs B ∧ c ≤ xs.length + B.length := by
  have hlen := h.len
  have hle := h.le
  rcases h.at_ with ⟨hp, hc, hx⟩ | ⟨g, o, cs, hp, hb, hl, hx⟩
  · have : n = 0 := by omega
    subst this
    exact .inl ⟨hp, rfl, List.eq_nil_of_length_eq_zero hlen⟩
  · refine .inr ⟨g, cs.take o, cs.drop (o + n), ?_, ?_, ?_⟩
    · rw [hp, List.length_take, Nat.min_eq_left (by omega)]
    · unfold Nums
      rw [hx, Nat.mul_one, ← List.drop_drop, List.append_assoc, List.take_append_drop, List.take_append_drop]
      exact hb
    · simp; omega
theorem iu1 (xs : List Int) : ∀ v ∈ xs.map iu, v.oneCell' = true := fun v hv => by obtain ⟨x, _, rfl⟩ := List.mem_map.1 hv; rfl
theorem Nums.on {w : World} {g : Nat} {A B : List Value} {xs : List Int} (h : Nums w g A xs B) {n c : Nat} (hn : xs.length = n) (hnc : n ≤ c) (hc : c ≤ xs.length + B.length) : ON w (some ⟨g, A.length, none⟩) n c xs := by
  refine ⟨hnc, .inr ⟨g, A.length, _, rfl, h, by simp; omega, ?_⟩, iu1 xs⟩
  rw [List.append_assoc, List.drop_left, Nat.mul_one, List.take_append_of_le_length (by simp; omega), List.take_of_length_le (by simp; omega)]

theorem clone_call {w : World} {p : Option Addr} {n c : Nat} {xs : List Int} (h : NL w p n xs) (hp : p = none → n = 0) (hn : n ≤ 1000000) {K : Value → World → Prop}
    (hk : ∀ w' p' c', ON w' p' n c' xs → (∀ k, inB p' k → w.heap.size ≤ k) → Chg (fun _ => False) w w' → K (.slice p' n c') w') : callV Try.prog 31 #[.slice p n c] w K := by
  have hlen := h.len
  refine ok31 (br_of (fun h0 => ?_) (fun h0 => ?_))
  · have hp0 : p = none := by simpa using h0
    have := hp hp0
    subst this
    have := List.eq_nil_of_length_eq_zero hlen
    subst this
    exact hk w none 0 (Own.nil _ _ _) (fun k ⟨o, ho⟩ => by cases ho) (Chg.refl _ _)
  · obtain ⟨i, hi, hs1, hby, hz⟩ := info22
    refine al_abs fun r w1 hr hb c1 hz1 => ?_
    have hs := (Cam.chg h c1 fun _ _ _ => id).src und36 c (fun cs hc v hv => by obtain ⟨x, _, rfl⟩ := List.mem_map.1 hc; simp at hv; subst hv; rfl) (by omega)
    rw [nl_flat] at hs
    have h0 : Own w1 1 22 (some ⟨r, 0, none⟩) 0 0 [] := Own.of_blk hb rfl (fun v hv => by cases hv)
    refine append_own (P := Try.prog) und36 hi hz (by rw [hs1]; rfl) (by simp [Value.cells, Value.oneCell']) (by omega) (by rw [hs1]; exact h0) (by rw [hs1]; exact hs) (by rw [hby]; omega) (by omega) fun w' p' c' ho hf cc => ⟨_, _, _, rfl, ?_⟩
    rw [hs1, Nat.zero_add] at ho
    rw [Nat.zero_add]
    refine hk w' p' c' ho (fun k hk => ?_) ((c1.none.trans (cc.mono (F' := fun k => w.heap.size ≤ k) fun k _ ⟨o, hk⟩ => by simp at hk; omega)).mono fun k hk h => by omega)
    rcases hf k hk with ⟨o, hk⟩ | hk
    · simp at hk; omega
    · omega

theorem sort_small_on {w : World} {p : Option Addr} {n c : Nat} {xs : List Int} (h : ON w p n c xs) (h12 : n ≤ 12) {K : Value → World → Prop}
    (hk : ∀ w' ys, ON w' p n c ys → ys.Perm xs → ys.Pairwise (· ≤ ·) → Chg (inB p) w w' → K (.tuple #[]) w') : callV Try.prog 32 #[.slice p n c] w K := by
  have hlen := h.len
  have hle := h.le
  rcases h.nums with ⟨rfl, rfl, rfl⟩ | ⟨g, A, B, rfl, hN, hc⟩
  · refine ok32 (len64_call fun z => ⟨_, rfl, ok34 ?_⟩)
    refine ⟨fun m x10 x11 x12 x13 x14 w' => x10 = 0 ∧ x11 = 0 ∧ w' = w, ⟨0, rfl, rfl, rfl⟩, ?_⟩
    rintro m x10 x11 x12 x13 x14 w' ⟨rfl, rfl, rfl⟩
    unfold B34_0
    rw [wrap64_id (by omega) (by omega), show decide (((0 : Int) - 0) ≤ 12) = true by simp, br_true]
    refine ok36 ?_
    unfold S36
    rw [wrap64_id (by omega) (by omega)]
    refine ⟨fun m x w1 => x = 1 ∧ w1 = w', ⟨0, rfl, rfl⟩, ?_⟩
    rintro m x w1 ⟨rfl, rfl⟩
    exact br_of (fun h => by have := of_decide_eq_true h; omega) fun _ => ⟨rfl, rfl, hk _ [] h (List.Perm.refl _) List.Pairwise.nil (Chg.refl _ _)⟩
  · refine sort_small hN hlen.symm h12 fun w' ys hN' hp hs cc => hk w' ys ?_ hp hs (cc.mono fun k _ hk => ⟨A.length, by rw [hk]⟩)
    exact hN'.on (by rw [hp.length_eq, hlen]) hle (by rw [hp.length_eq]; exact hc)

/-- Each that is like the one ahead of it is let go. -/
def dd (xs : List Int) : List Int := xs.foldl (fun acc x => if acc.getLast? = some x then acc else acc ++ [x]) []
theorem dd_snoc (xs : List Int) (x : Int) : dd (xs ++ [x]) = if (dd xs).getLast? = some x then dd xs else dd xs ++ [x] := by unfold dd; rw [List.foldl_append]; rfl
theorem snoc_ind {P : List Int → Prop} (h0 : P []) (h1 : ∀ xs x, P xs → P (xs ++ [x])) : ∀ xs, P xs := fun xs => by
  have : ∀ n (xs : List Int), xs.length = n → P xs := by
    intro n
    induction n with
    | zero => intro xs h; rw [List.eq_nil_of_length_eq_zero h]; exact h0
    | succ n ih =>
      intro xs h
      have hne : xs ≠ [] := by intro h0; rw [h0] at h; cases h
      rw [← List.dropLast_concat_getLast hne]
      exact h1 _ _ (ih _ (by simp; omega))
  exact this _ xs rfl
theorem dd_last (xs : List Int) : (dd xs).getLast? = xs.getLast? := by
  induction xs using snoc_ind with
  | h0 => rfl
  | h1 xs x ih =>
    rw [dd_snoc]
    split
    · rename_i h; rw [h]; simp
    · simp
theorem dd_len (xs : List Int) : (dd xs).length ≤ xs.length := by
  induction xs using snoc_ind with
  | h0 => simp [dd]
  | h1 xs x ih => rw [dd_snoc]; split <;> simp <;> omega
theorem dd_mem (xs : List Int) (y : Int) : y ∈ dd xs ↔ y ∈ xs := by
  induction xs using snoc_ind with
  | h0 => simp [dd]
  | h1 xs x ih =>
    rw [dd_snoc]
    split
    · rename_i h
      rw [ih, List.mem_append, List.mem_singleton]
      refine ⟨.inl, fun h2 => h2.elim id fun e => ?_⟩
      rw [dd_last] at h
      subst e
      exact List.mem_of_getLast? h
    · simp [ih]
theorem dd_strict (xs : List Int) (h : xs.Pairwise (· ≤ ·)) : (dd xs).Pairwise (· < ·) := by
  induction xs using snoc_ind with
  | h0 => simp [dd]
  | h1 xs x ih =>
    rw [List.pairwise_append] at h
    have ih := ih h.1
    rw [dd_snoc]
    split
    · exact ih
    · rename_i hl
      refine List.pairwise_append.2 ⟨ih, List.pairwise_singleton _ _, fun a ha b hb => ?_⟩
      simp at hb; subst hb
      have hle : a ≤ b := h.2.2 a ((dd_mem xs a).1 ha) b (by simp)
      rcases Int.lt_or_eq_of_le hle with h1 | h1
      · exact h1
      · exfalso
        subst h1
        apply hl
        rw [dd_last]
        -- a is in xs, and all of xs are at most a: the last one is a
        cases hg : xs.getLast? with
        | none => rw [List.getLast?_eq_none_iff] at hg; subst hg; simp [dd] at ha
        | some z =>
          have hz : z ≤ a := h.2.2 z (List.mem_of_getLast? hg) a (by simp)
          have haz : a ≤ z := by
            obtain ⟨ys, hys⟩ := List.getLast?_eq_some_iff.1 hg
            have ham := (dd_mem xs a).1 ha
            rw [hys] at ham
            rcases List.mem_append.1 ham with h2 | h2
            · have := h.1; rw [hys, List.pairwise_append] at this; exact this.2.2 a h2 z (by simp)
            · simp at h2; omega
          congr 1; omega
theorem dd_id (xs : List Int) (h : ∀ i x, xs[i]? = some x → xs[i + 1]? = some x → False) : dd xs = xs := by
  induction xs using snoc_ind with
  | h0 => rfl
  | h1 xs x ih =>
    rw [dd_snoc, ih fun i y h1 h2 => h i y (by rw [List.getElem?_append_left (List.getElem?_eq_some_iff.1 h1).1]; exact h1) (by rw [List.getElem?_append_left (List.getElem?_eq_some_iff.1 h2).1]; exact h2)]
    rw [if_neg]
    intro hl
    rw [List.getLast?_eq_getElem?] at hl
    have hlt := (List.getElem?_eq_some_iff.1 hl).1
    refine h (xs.length - 1) x (by rw [List.getElem?_append_left hlt]; exact hl) ?_
    rw [show xs.length - 1 + 1 = xs.length by omega]
    simp

theorem lay_mid (A X Y Z B : List Value) (h : Z.length = Y.length) : lay (A ++ X ++ Y ++ B) (A.length + X.length) Z = A ++ X ++ Z ++ B := by
  rw [lay_eq _ _ _ (by simp; omega)]
  have e1 : (A ++ X ++ Y ++ B).take (A.length + X.length) = A ++ X := by rw [List.append_assoc (A ++ X), List.take_left' (by simp)]
  have e2 : (A ++ X ++ Y ++ B).drop (A.length + X.length + Z.length) = B := by rw [List.drop_left' (by simp; omega)]
  rw [e1, e2]

theorem compact_call {w : World} {p : Option Addr} {n c : Nat} {xs : List Int} (h : ON w p n c xs) (hbig : n ≤ 1000000) {K : Value → World → Prop}
    (hk : ∀ w' m, ON w' p m c (dd xs) → Chg (inB p) w w' → K (.slice p m c) w') : callV Try.prog 33 #[.slice p n c] w K := by
  have hlen := h.len
  have hle := h.le
  refine ok33 (br_of (fun h0 => ?_) (fun h0 => ?_))
  · have h0 : n < 2 := by have := of_decide_eq_true h0; omega
    have : dd xs = xs := dd_id xs fun i x h1 h2 => by have := (List.getElem?_eq_some_iff.1 h2).1; omega
    exact hk w n (by rw [this]; exact h) (Chg.refl _ _)
  have h0 : 2 ≤ n := by have := of_decide_eq_false h0; omega
  rcases h.nums with ⟨_, hn0, _⟩ | ⟨g, A, B, rfl, hN, hc⟩
  · omega
  refine ⟨fun m x w' => ∃ k : Nat, x = k ∧ 1 ≤ k ∧ k ≤ n ∧ m = n - k ∧ (∀ i x, i + 1 < k → xs[i]? = some x → xs[i + 1]? = some x → False) ∧ Nums w' g A xs B ∧ Chg (fun k => k = g) w w', ⟨n - 1, 1, rfl, by omega, by omega, rfl, fun i x h1 => by omega, hN, Chg.refl _ _⟩, ?_⟩
  rintro m x w1 ⟨k, rfl, hk1, hkn, hm, hne, hN1, c1⟩
  refine br_of (fun hlt => ?_) (fun hge => ?_)
  · have hlt : k < n := by have := of_decide_eq_true hlt; omega
    refine dr_abs fun w2 _ c2 => ?_
    have hN2 := hN1.chg c2 id
    have cc2 := c1.trans c2.none
    obtain ⟨x, hx⟩ : ∃ x, xs[k]? = some x := ⟨xs[k], List.getElem?_eq_getElem (by omega)⟩
    obtain ⟨y, hy⟩ : ∃ x, xs[k - 1]? = some x := ⟨xs[k - 1], List.getElem?_eq_getElem (by omega)⟩
    rw [wrap64_id (n := (k : Int) - 1) (by omega) (by omega), show ((k : Int) - 1) = ((k - 1 : Nat) : Int) by omega]
    refine idx_rule (by omega) (by omega) ⟨x, by rw [Int.toNat_natCast]; exact hN2.cell hx, idx_rule (by omega) (by omega) ⟨y, by rw [Int.toNat_natCast]; exact hN2.cell hy, ?_⟩⟩
    refine br_of (fun heq => ?_) (fun hneq => ?_)
    · have hxy : x = y := by simpa using heq
      subst hxy
      have hddk : dd (xs.take (k + 1)) = xs.take k := by
        have e1 : dd (xs.take k) = xs.take k := dd_id _ fun i z h1 h2 => by
          have hi := (List.getElem?_eq_some_iff.1 h2).1
          simp at hi
          rw [List.getElem?_take, if_pos (by omega)] at h1 h2
          exact hne i z (by omega) h1 h2
        rw [List.take_add_one, hx, Option.toList_some, dd_snoc, e1, if_pos]
        rw [List.getLast?_eq_getElem?, List.length_take, Nat.min_eq_left (by omega), List.getElem?_take, if_pos (by omega)]
        exact hy
      refine slc_rule k n c rfl rfl rfl (by omega) (by omega) (by omega) (fun h => by cases h) ?_
      have hp2 : (if c = k then some (⟨g, A.length, none⟩ : Addr) else Option.map (fun x => x.add (k * 1)) (some (⟨g, A.length, none⟩ : Addr))) = some ⟨g, A.length + k, none⟩ := by
        rw [if_neg (by omega), Option.map_some, add_lit]; congr 2; omega
      rw [hp2]
      -- the inner loop
      refine ⟨fun m x18 x22 w' => ∃ k2 : Nat, x22 = k2 ∧ 1 ≤ k2 ∧ k + k2 ≤ n ∧ m = n - (k + k2) ∧ ∃ zs : List Int, x18 = ((dd (xs.take (k + k2))).length : Int) ∧ (dd (xs.take (k + k2))).length + 1 ≤ k + k2 ∧ zs.length = n ∧ zs.take (dd (xs.take (k + k2))).length = dd (xs.take (k + k2)) ∧ zs.drop (k + k2 - 1) = xs.drop (k + k2 - 1) ∧ Nums w' g A zs B ∧ Chg (fun k => k = g) w w', ?_, ?_⟩
      · refine ⟨n - (k + 1), 1, rfl, by omega, by omega, rfl, xs, ?_, ?_, hlen, ?_, rfl, hN2, cc2⟩
        · rw [hddk]; simp; omega
        · rw [hddk]; simp; omega
        · rw [hddk]; simp
      · rintro m2 x18 x22 w3 ⟨k2, rfl, hk21, hk2n, hm2, zs, rfl, hdl, hzl, hz1, hz2, hN3, c3⟩
        refine br_of (fun hlt2 => ?_) (fun hge2 => ?_)
        · have hlt2 : k + k2 < n := by have := of_decide_eq_true hlt2; omega
          refine jn_rule (fun J => ∀ zs' w', zs'.length = n → zs'.take (dd (xs.take (k + k2 + 1))).length = dd (xs.take (k + k2 + 1)) → zs'.drop (k + k2) = xs.drop (k + k2) → (dd (xs.take (k + k2 + 1))).length ≤ k + k2 → Nums w' g A zs' B → Chg (fun k => k = g) w w' → J ((dd (xs.take (k + k2 + 1))).length : Int) w') ?_ fun J31 hJ => ?_
          · intro zs' w' h1 h2 h3 h4 h5 h6
            refine ⟨n - (k + (k2 + 1)), by omega, k2 + 1, by rw [wrap64_id (by omega) (by omega)]; omega, by omega, by omega, rfl, zs', ?_, ?_, h1, ?_, ?_, h5, h6⟩
            · rw [show k + (k2 + 1) = k + k2 + 1 by omega]
            · rw [show k + (k2 + 1) = k + k2 + 1 by omega]; omega
            · rw [show k + (k2 + 1) = k + k2 + 1 by omega]; exact h2
            · rw [show k + (k2 + 1) - 1 = k + k2 by omega]; exact h3
          refine dr_abs fun w4 _ c4 => ?_
          have hN4 := hN3.chg c4 id
          have cc4 := c3.trans c4.none
          obtain ⟨u, hu⟩ : ∃ x, xs[k + k2]? = some x := ⟨xs[k + k2], List.getElem?_eq_getElem (by omega)⟩
          obtain ⟨v, hv⟩ : ∃ x, xs[k + k2 - 1]? = some x := ⟨xs[k + k2 - 1], List.getElem?_eq_getElem (by omega)⟩
          have hzu : zs[k + k2]? = some u := by
            have := congrArg (fun l => l[1]?) hz2
            simp only [List.getElem?_drop] at this
            rw [show k + k2 - 1 + 1 = k + k2 by omega] at this
            rw [this]; exact hu
          have hzv : zs[k + k2 - 1]? = some v := by
            have := congrArg (fun l => l[0]?) hz2
            simp only [List.getElem?_drop] at this
            rw [show k + k2 - 1 + 0 = k + k2 - 1 by omega] at this
            rw [this]; exact hv
          have hz3 : zs.drop (k + k2) = xs.drop (k + k2) := by
            have := congrArg (List.drop 1) hz2
            rw [List.drop_drop, List.drop_drop, show k + k2 - 1 + 1 = k + k2 by omega] at this
            exact this
          have hdd1 : dd (xs.take (k + k2 + 1)) = if v = u then dd (xs.take (k + k2)) else dd (xs.take (k + k2)) ++ [u] := by
            have hl : (dd (xs.take (k + k2))).getLast? = some v := by
              rw [dd_last, List.getLast?_eq_getElem?, List.length_take, Nat.min_eq_left (by omega), List.getElem?_take, if_pos (by omega), hv]
            rw [List.take_add_one, hu, Option.toList_some, dd_snoc, hl]
            by_cases h : v = u
            · rw [if_pos h, if_pos (by rw [h])]
            · rw [if_neg h, if_neg (by intro h2; exact h (Option.some.inj h2))]
          have ea : ∀ j : Nat, (⟨g, A.length + k + ((j : Nat) : Int).toNat * 1, none⟩ : Addr) = ⟨g, A.length + (k + j) * 1, none⟩ := fun j => by rw [Int.toNat_natCast]; congr 1; omega
          rw [wrap64_id (n := (k2 : Int) - 1) (by omega) (by omega), show ((k2 : Int) - 1) = ((k2 - 1 : Nat) : Int) by omega]
          refine idx_rule (by omega) (by omega) ⟨u, by rw [ea]; exact hN4.cell hzu, idx_rule (by omega) (by omega) ⟨v, by rw [ea, show k + (k2 - 1) = k + k2 - 1 by omega]; exact hN4.cell hzv, ?_⟩⟩
          refine br_of (fun hne2 => ?_) (fun heq2 => ?_)
          · have huv : ¬ v = u := by intro h; subst h; simp at hne2
            rw [if_neg huv] at hdd1
            refine idx_rule (by omega) (by omega) ⟨u, by rw [ea]; exact hN4.cell hzu, idx_rule (by omega) (by omega) ?_⟩
            rw [Int.toNat_natCast]
            refine hN4.set (by omega) fun w5 hN5 c5 => ?_
            have e5 : IntKind.wrap .i64 (((dd (xs.take (k + k2))).length : Int) + 1) = ((dd (xs.take (k + k2 + 1))).length : Int) := by
              rw [wrap64_id (by omega) (by omega), hdd1]; simp
            rw [e5]
            refine hJ (zs.set (dd (xs.take (k + k2))).length u) w5 (by simp [hzl]) ?_ ?_ (by rw [hdd1]; simp; omega) hN5 (cc4.trans c5)
            · rw [hdd1, List.length_append, List.length_singleton, List.take_add_one, List.take_set_of_le (Nat.le_refl _), hz1, List.getElem?_set_self (by omega)]; rfl
            · rw [List.drop_set_of_lt (by omega)]; exact hz3
          · have huv : v = u := by have : u = v := by simpa using heq2
                                   exact this.symm
            rw [if_pos huv] at hdd1
            have := hJ zs w4 hzl (by rw [hdd1]; exact hz1) hz3 (by rw [hdd1]; omega) hN4 cc4
            rw [hdd1] at this; exact this
        · have hge2 : k + k2 = n := by have := of_decide_eq_false hge2; omega
          have hall : xs.take (k + k2) = xs := List.take_of_length_le (by omega)
          rw [hall] at hz1 hdl ⊢
          obtain ⟨i, hi, hs1, hby, hz⟩ := info22
          have hlt3 : (dd xs).length < n := by omega
          refine slc_rule (dd xs).length n c rfl rfl rfl (by omega) (by omega) (by omega) (fun h => by cases h) ?_
          rw [if_neg (by omega), Option.map_some, add_lit]
          refine ⟨_, _, runClear (tg := 22) und36 hi hz (by decide) (by omega) hN3 (by simp [Value.cells]; omega) (by simp [Value.cells, Value.oneCell']), rfl, ?_⟩
          have c4 : Chg (fun k => k = g) w3 (setBlk w3 g (.cells (lay (A ++ zs.map iu ++ B) (A.length + (dd xs).length * 1) ((List.replicate (n - (dd xs).length) (iu 0).cells.toList).flatten)).toArray 22 (0, 0))) := Chg.set _ _ _ _ rfl
          have hb4 : Blk (setBlk w3 g (.cells (lay (A ++ zs.map iu ++ B) (A.length + (dd xs).length * 1) ((List.replicate (n - (dd xs).length) (iu 0).cells.toList).flatten)).toArray 22 (0, 0))) g _ 22 := Blk.set_same (cs' := lay (A ++ zs.map iu ++ B) (A.length + (dd xs).length * 1) ((List.replicate (n - (dd xs).length) (iu 0).cells.toList).flatten)) (t' := 22) hN3
          generalize setBlk w3 g (.cells (lay (A ++ zs.map iu ++ B) (A.length + (dd xs).length * 1) ((List.replicate (n - (dd xs).length) (iu 0).cells.toList).flatten)).toArray 22 (0, 0)) = w4 at c4 hb4 ⊢
          have hfl : ((List.replicate (n - (dd xs).length) (iu 0).cells.toList).flatten).length = n - (dd xs).length := by simp [Value.cells]
          refine slc_rule 0 (dd xs).length c rfl rfl rfl (by omega) (by omega) (by omega) (fun h => by cases h) ?_
          rw [if_neg (by omega), Option.map_some, add_lit, Nat.zero_mul, Nat.add_zero, Nat.sub_zero, Nat.sub_zero]
          refine hk w4 _ ?_ ((c3.trans c4).mono fun k _ hk => ⟨A.length, by rw [hk]⟩)
          have e7 : lay (A ++ zs.map iu ++ B) (A.length + (dd xs).length * 1) ((List.replicate (n - (dd xs).length) (iu 0).cells.toList).flatten) = A ++ (dd xs).map iu ++ ((List.replicate (n - (dd xs).length) (iu 0).cells.toList).flatten ++ B) := by
            have hzsplit : zs.map iu = (dd xs).map iu ++ (zs.drop (dd xs).length).map iu := by
              rw [← List.map_append]; congr 1; conv => lhs; rw [← List.take_append_drop (dd xs).length zs, hz1]
            have := lay_mid A ((dd xs).map iu) ((zs.drop (dd xs).length).map iu) ((List.replicate (n - (dd xs).length) (iu 0).cells.toList).flatten) B (by rw [hfl]; simp; omega)
            rw [List.length_map] at this
            rw [hzsplit, Nat.mul_one, ← List.append_assoc, this]; simp
          rw [e7] at hb4
          exact Nums.on (xs := dd xs) hb4 rfl (by omega) (by simp [Value.cells]; omega)
    · refine ⟨n - (k + 1), by omega, k + 1, by rw [wrap64_id (by omega) (by omega)]; omega, by omega, by omega, rfl, fun i z h1 h2 h3 => ?_, hN2, cc2⟩
      rcases Nat.lt_or_ge (i + 1) k with h4 | h4
      · exact hne i z h4 h2 h3
      · have e : i + 1 = k := by omega
        rw [e, hx] at h3
        rw [show i = k - 1 by omega, hy] at h2
        cases h2; cases h3
        simp at hneq
  · have hge : k = n := by have := of_decide_eq_false hge; omega
    have : dd xs = xs := dd_id xs fun i x h1 h2 => hne i x (by have := (List.getElem?_eq_some_iff.1 h2).1; omega) h1 h2
    refine hk w1 n (by rw [this]; exact hN1.on hlen hle hc) (c1.mono fun k _ hk => ⟨A.length, by rw [hk]⟩)
end Go.Proofs.Ytcemgjikmdbjgaa
