/- The wheel's Set and New; wheels that are none. -/
import Derived.Test.YtibalkkiefgljaaF1
namespace Go.Proofs.Ytibalkkiefgljaa
open Go Go.Sh

theorem set_call {w : World} {h : WH} {N : Nat} {most now : Int} {T : List (Int × Int)} (H : Wh w h N most now T) (hN : N < 9000000000000000000) (id after : Int) {K : Value → World → Prop}
    (hk2 : (id < 0 ∨ id > 1023 ∨ after < 1 ∨ after > 1099511627776) → K (iv 2) w)
    (hk5 : ¬ (id < 0 ∨ id > 1023 ∨ after < 1 ∨ after > 1099511627776) → mget T id = none → most ≤ T.length → ∀ w', Chg (fun _ => False) w w' → K (iv 5) w')
    (hk0 : ¬ (id < 0 ∨ id > 1023 ∨ after < 1 ∨ after > 1099511627776) → ((mget T id).isSome = true ∨ (T.length : Int) < most) → ∀ w', Wh w' h (N + 1) most now (mdel T id ++ [(id, now + after)]) → Chg h.fp w w' → K (iv 0) w') :
    callV Try.prog 12 #[ptr h.b, iv id, iv after] w K := by
  refine ok12 (none_call H ⟨_, rfl, ?_⟩)
  rw [br_false, need_some, add_lit]
  refine ⟨_, H.hb.cell 1, lookup_rule und50 key3 zero3 H.hi ?_⟩
  rw [mget_map T (fun v => v % (h.S : Int)), Option.isSome_map, if_pos rfl]
  refine ⟨_, _, rfl, ?_⟩
  refine jn_rule (fun J => ¬ (id < 0 ∨ id > 1023 ∨ after < 1 ∨ after > 1099511627776) → ((mget T id).isSome = true ∨ (T.length : Int) < most) → ∀ w', Chg (fun _ => False) w w' → J w') (fun hbad hroom w1 c1 => ?_) fun J19 hJ => ?_
  · refine cancel_call (H.go c1) id fun w2 H2 c2 => ⟨_, rfl, ?_⟩
    have hn := H.n0
    have hs1 := H.s1
    have htm : 0 ≤ now + after ∧ now + after < 2000000000000000000 := by omega
    obtain ⟨j, hj, hjS⟩ := H.emod (now + after)
    rw [need_some, add_lit]
    refine ⟨_, H2.hb.cell 3, ?_⟩
    rw [need_some]
    refine ⟨_, _, _, H2.hb.cell 0, by omega, ?_⟩
    rw [wrap64_id (by omega) (by omega), Int.tmod_eq_emod_of_nonneg (by omega), hj]
    refine dr_abs fun w3 _ c3 => ?_
    have H3 := H2.go c3
    rw [need_some]
    refine ⟨_, _, _, H3.hb.cell 0, idx_rule (by omega) (by omega) ⟨_, H3.slot hjS, ?_⟩⟩
    rw [need_some, add_lit]
    refine ⟨_, H3.hb.cell 1, ?_⟩
    have hnone : mget (mdel T id) id = none := mget_mdel_self T id
    have hslot : mget ((mdel T id).filter fun p => decide (p.2 % (h.S : Int) = j)) id = none := by
      rw [mget_filter H3.nd (fun v => decide (v % (h.S : Int) = j)), hnone]; rfl
    have hin : mget ((mdel T id).map fun p => (p.1, p.2 % (h.S : Int))) id = none := by
      rw [mget_map (mdel T id) (fun v => v % (h.S : Int)), hnone]; rfl
    refine entry_rule und50 key3 zero3 (H3.hs j hjS) fun w4 n h4 s4 c4 => ⟨_, _, rfl, ?_⟩
    rw [hslot] at h4
    refine store_rule key3 h4 s4 (by omega) fun w5 h5 c5 => ?_
    rw [mset_twice _ _ _ _ hslot] at h5
    have hbs : h.b ≠ h.sb j := Ne.symm ((H3.hs j hjS).ne_blk H3.hb)
    have hgs : h.g ≠ h.sb j := Ne.symm ((H3.hs j hjS).ne_blk H3.hg)
    have hbi : h.b ≠ h.im := Ne.symm (H3.hi.ne_blk H3.hb)
    have hgi : h.g ≠ h.im := Ne.symm (H3.hi.ne_blk H3.hg)
    have c45 := c4.trans c5
    refine entry_rule und50 key3 zero3 (H3.hi.chg c45 (Ne.symm (H3.nim j hjS))) fun w6 n2 h6 s6 c6 => ⟨_, _, rfl, ?_⟩
    rw [hin] at h6
    refine store_rule key3 h6 s6 (by omega) fun w7 h7 c7 => ?_
    rw [mset_twice _ _ _ _ hin] at h7
    have c67 := c6.trans c7
    refine hk0 hbad hroom w7 ⟨c67.blk (c45.blk H3.hb hbs) hbi, c67.blk (c45.blk H3.hg hgs) hgi, by rw [List.map_append, List.map_singleton, hj]; exact h7, fun i hi => ?_, H.inj, H.nim, H.s1, fun p hp => ?_, ?_, H.n0, H.nb⟩ ?_
    · rw [List.filter_append]
      by_cases hij : i = j
      · subst hij
        rw [List.filter_cons_of_pos (by simpa using hj), List.filter_nil]
        exact h5.chg c67 (H3.nim i hi)
      · rw [List.filter_cons_of_neg (by rw [decide_eq_true_eq, hj]; omega), List.filter_nil]
        have := (((H3.hs i hi).chg c45 (fun e => hij (H.inj i j hi hjS e))).chg c67 (H3.nim i hi)).mono (Nat.le_succ N)
        simpa using this
    · rcases List.mem_append.1 hp with hp | hp
      · exact H3.tm p hp
      · simp at hp; subst hp; omega
    · rw [List.map_append, List.nodup_append]
      refine ⟨H3.nd, by simp, fun a ha b hb => ?_⟩
      simp at hb; subst hb
      intro e; subst e
      exact mget_none.1 hnone ha
    · exact c1.none.trans (c2.trans (c3.none.trans ((c45.mono fun k _ hk => .inr (.inr (.inr ⟨j, hjS, hk⟩))).trans (c67.mono fun k _ hk => .inr (.inr (.inl hk))))))
  · refine jn_rule (fun J => ((id < 0 ∨ id > 1023 ∨ after < 1 ∨ after > 1099511627776) → J true w) ∧ (¬ (id < 0 ∨ id > 1023 ∨ after < 1 ∨ after > 1099511627776) → J false w)) ⟨fun hb => hk2 hb, fun hb => ?_⟩ fun J12 hJ12 => ?_
    · rw [br_false]
      refine dr_abs fun w2 _ c2 => ?_
      have H2 := H.go c2
      refine br_of (fun hnk => ?_) (fun hk => hJ hb (.inl (by simpa using hk)) _ c2)
      have hg : mget T id = none := by simpa using hnk
      rw [need_some, add_lit]
      refine ⟨_, H2.hb.cell 1, len_rule und50 H2.hi ⟨_, rfl, ?_⟩⟩
      rw [need_some, add_lit, List.length_map]
      refine ⟨_, H2.hb.cell 2, br_of (fun hge => ?_) (fun hlt => ?_)⟩
      · exact hk5 hb hg (by have := of_decide_eq_true hge; omega) _ c2
      · exact hJ hb (.inr (by have := of_decide_eq_false hlt; omega)) _ c2
    · refine br_of (fun h1 => hJ12.1 (.inl (of_decide_eq_true h1))) (fun h1 => br_of (fun h2 => hJ12.1 (.inr (.inl (of_decide_eq_true h2)))) (fun h2 => br_of (fun h3 => hJ12.1 (.inr (.inr (.inl (of_decide_eq_true h3))))) (fun h3 => ?_)))
      have h1 := of_decide_eq_false h1
      have h2 := of_decide_eq_false h2
      have h3 := of_decide_eq_false h3
      by_cases h4 : after > 1099511627776
      · rw [decide_eq_true h4]; exact hJ12.1 (.inr (.inr (.inr h4)))
      · rw [decide_eq_false h4]; exact hJ12.2 (by omega)

/-! A new wheel. -/
theorem new_bad {w : World} {s m : Int} (hb : s < 1 ∨ s > 1024 ∨ m < 0 ∨ m > 1024) {K : Value → World → Prop} (hk : K (.tuple #[.pointer none, iv 2]) w) : callV Try.prog 9 #[iv s, iv m] w K := by
  refine ok9 (br_of (fun _ => hk) fun h1 => br_of (fun _ => hk) fun h2 => br_of (fun _ => hk) fun h3 => br_of (fun _ => hk) fun h4 => ?_)
  have := of_decide_eq_false h1; have := of_decide_eq_false h2; have := of_decide_eq_false h3; have := of_decide_eq_false h4
  omega

theorem flat_one {α : Type} (n : Nat) (v : α) : (List.replicate n [v]).flatten = List.replicate n v := by
  induction n with
  | zero => rfl
  | succ n ih => rw [List.replicate_succ, List.flatten_cons, ih, List.replicate_succ]; rfl
theorem new_call {w : World} {S : Nat} {m : Int} (h1 : 1 ≤ S) (h2 : S ≤ 1024) (h3 : 0 ≤ m) (h4 : m ≤ 1024) {K : Value → World → Prop}
    (hk : ∀ w' h, Wh w' h 0 m 0 [] → h.S = S → (∀ k, h.fp k → w.heap.size ≤ k) → Chg (fun _ => False) w w' → K (.tuple #[ptr h.b, iv 0]) w') : callV Try.prog 9 #[iv S, iv m] w K := by
  refine ok9 ?_
  unfold S9
  rw [decide_eq_false (by omega), br_false, decide_eq_false (by omega), br_false, decide_eq_false (by omega), br_false, decide_eq_false (by omega), br_false]
  obtain ⟨i, hi, hs, hby, hz⟩ := info50
  refine ⟨_, _, runMake und56 hi hz (by rw [hs]; rfl) (by omega) (Nat.le_refl _) (by rw [hby]; omega) (by omega) w, _, _, _, rfl, ?_⟩
  have hgN := Blk.new w ((List.replicate S (Value.map none).cells.toList).flatten) 50
  have cg : Chg (fun _ => False) w (pushW w (.cells ((List.replicate S (Value.map none).cells.toList).flatten).toArray 50)) := Chg.push _ _ _
  have hsz : (pushW w (.cells ((List.replicate S (Value.map none).cells.toList).flatten).toArray 50)).heap.size = w.heap.size + 1 := by simp
  generalize pushW w (.cells ((List.replicate S (Value.map none).cells.toList).flatten).toArray 50) = w1 at hgN cg hsz
  generalize hgv : w.heap.size = g at hgN hsz
  have hflat : (List.replicate S (Value.map none).cells.toList).flatten = List.replicate S (Value.map none) := by
    have : (Value.map none).cells.toList = [Value.map none] := rfl
    rw [this]; exact flat_one S _
  rw [hflat] at hgN
  refine make_rule (ek := iv) (ev := iv) fun w2 hm c2 hs2 => ⟨_, rfl, al_abs fun b w3 hb3 hb c3 hs3 => ⟨_, _, _, hb.cell 0, ?_⟩⟩
  generalize hiv : w1.heap.size = im at hm hs2 hb
  have hg3 := (c2.trans c3).blk hgN (fun h => h)
  have hm3 := hm.chg c3 (fun h => h)
  have c03 : Chg (fun _ => False) w w3 := cg.trans (c2.trans c3)
  -- the loop: a map for each slot
  refine ⟨fun n x w' => ∃ (k : Nat) (sb : Nat → Nat), x = k ∧ k ≤ S ∧ n = S - k ∧ Blk w' b [.slice (some ⟨g, 0, none⟩) S S, .map (some im), iv m, iv 0] 58 ∧ Blk w' g ((List.range S).map fun j => if j < k then Value.map (some (sb j)) else Value.map none) 50 ∧ MI w' im 0 [] ∧ (∀ j, j < k → MI w' (sb j) 0 [] ∧ w3.heap.size ≤ sb j) ∧ (∀ i j, i < k → j < k → sb i = sb j → i = j) ∧ Chg (fun k => k = g) w3 w', ⟨S, 0, fun _ => 0, rfl, by omega, rfl, hb, ?_, hm3, fun j hj => by omega, fun i j hi => by omega, Chg.refl _ _⟩, ?_⟩
  · have : ((List.range S).map fun j => if j < 0 then Value.map (some 0) else Value.map none) = List.replicate S (Value.map none) := by
      refine List.ext_getElem? fun i => ?_
      rw [List.getElem?_map, List.getElem?_replicate]
      by_cases hi : i < S
      · rw [List.getElem?_range hi, if_pos hi]; rfl
      · rw [if_neg hi, List.getElem?_eq_none (by simp; omega)]; rfl
    rw [this]; exact hg3
  rintro n x w4 ⟨k, sb, rfl, hk1, hn, hb4, hg4, hm4, hsb, hinj, c4⟩
  refine br_of (fun hlt => ?_) (fun hge => ?_)
  · have hlt : k < S := by have := of_decide_eq_true hlt; omega
    refine ⟨_, _, _, hb4.cell 0, make_rule (ek := iv) (ev := iv) fun w5 hm5 c5 hs5 => ⟨_, rfl, idx_rule (by omega) (by omega) ?_⟩⟩
    rw [Int.toNat_natCast]
    have hw34 := c4.size
    have hg5 := c5.blk hg4 (fun h => h)
    refine stL_abs hg5 (by simp; omega) (by simp [Value.oneCell']) fun w6 hg6 c6 => ?_
    have hne5 : w4.heap.size ≠ g := by have := hg4.lt; omega
    refine ⟨S - (k + 1), by omega, k + 1, fun j => if j = k then w4.heap.size else sb j, by rw [wrap64_id (by omega) (by omega)]; omega, by omega, rfl, c6.blk (c5.blk hb4 (fun h => h)) (by have := hb.lt; have := hg3.lt; omega), ?_, (hm4.chg c5 (fun h => h)).chg c6 (by have := hm3.lt; omega), fun j hj => ?_, fun i j hi hj he => ?_, c4.trans (c5.none.trans c6)⟩
    · have : lay ((List.range S).map fun j => if j < k then Value.map (some (sb j)) else Value.map none) (0 + k * 1) [.map (some w4.heap.size)] = (List.range S).map fun j => if j < k + 1 then Value.map (some (if j = k then w4.heap.size else sb j)) else Value.map none := by
        refine List.ext_getElem? fun i => ?_
        rw [show lay ((List.range S).map fun j => if j < k then Value.map (some (sb j)) else Value.map none) (0 + k * 1) [.map (some w4.heap.size)] = ((List.range S).map fun j => if j < k then Value.map (some (sb j)) else Value.map none).set (0 + k * 1) (.map (some w4.heap.size)) from rfl]
        rw [List.getElem?_set, List.getElem?_map, List.getElem?_map, Nat.zero_add, Nat.mul_one]
        by_cases hi : i < S
        · rw [List.getElem?_range hi]
          by_cases hik : k = i
          · subst hik; simp [hi]
          · rw [if_neg hik]
            simp only [Option.map_some, Option.some.injEq]
            by_cases h1 : i < k
            · rw [if_pos h1, if_pos (by omega), if_neg (by omega)]
            · rw [if_neg h1, if_neg (by omega)]
        · have : (List.range S)[i]? = none := List.getElem?_eq_none (by simp; omega)
          rw [this, if_neg (by omega)]; rfl
      rw [this] at hg6
      exact hg6
    · by_cases hjk : j = k
      · subst hjk
        dsimp only
        rw [if_pos rfl]
        exact ⟨hm5.chg c6 (by omega), by omega⟩
      · dsimp only
        rw [if_neg hjk]
        obtain ⟨h5, h6⟩ := hsb j (by omega)
        exact ⟨(h5.chg c5 (fun h => h)).chg c6 (by have := hg3.lt; omega), h6⟩
    · have hlt2 : ∀ j, j < k → sb j < w4.heap.size := fun j hj => (hsb j hj).1.lt
      dsimp only at he
      by_cases h1 : i = k <;> by_cases h2 : j = k
      · omega
      · rw [if_pos h1, if_neg h2] at he; have := hlt2 j (by omega); omega
      · rw [if_neg h1, if_pos h2] at he; have := hlt2 i (by omega); omega
      · rw [if_neg h1, if_neg h2] at he; exact hinj i j (by omega) (by omega) he
  · have hge : k = S := by have := of_decide_eq_false hge; omega
    subst hge
    have hg3l := hg3.lt
    have hm3l := hm3.lt
    have hbl := hb.lt
    refine hk w4 ⟨b, g, im, k, sb⟩ ⟨hb4, ?_, hm4, fun j hj => (hsb j hj).1, hinj, fun j hj e => ?_, ⟨h1, h2⟩, (by simp), (by simp), ⟨by omega, by omega⟩, ?_⟩ rfl (fun q hq => ?_) ((c03.none.trans (c4.mono (F' := fun q => w.heap.size ≤ q) fun q _ hq => by omega)).mono fun q hq h => by omega)
    · have : ((List.range k).map fun j => if j < k then Value.map (some (sb j)) else Value.map none) = (List.range k).map fun j => Value.map (some (sb j)) :=
        List.map_congr_left fun j hj => by rw [if_pos (List.mem_range.1 hj)]
      rw [this] at hg4; exact hg4
    · have := (hsb j hj).2; dsimp only at e; omega
    · show b ≠ g; omega
    · rcases hq with h | h | h | ⟨j, hj, h⟩
      · dsimp only at h; omega
      · dsimp only at h; omega
      · dsimp only at h; omega
      · have := (hsb j hj).2; dsimp only at h; omega

/-! None. -/
/-- A wheel that is none: nil, or one that New did not answer. -/
def Non (w : World) (p : Option Addr) : Prop := p = none ∨ ∃ b l2 l3 l4, p = some ⟨b, 0, none⟩ ∧ Blk w b [.slice none 0 0, l2, l3, l4] 58
theorem Non.go {w w' : World} {p : Option Addr} (h : Non w p) (c : Chg (fun _ => False) w w') : Non w' p := by
  rcases h with rfl | ⟨b, l2, l3, l4, rfl, h⟩
  · exact .inl rfl
  · exact .inr ⟨b, l2, l3, l4, rfl, c.blk h id⟩
theorem non_call {w : World} {p : Option Addr} (h : Non w p) {K : Value → World → Prop} (hk : K (.bool true) w) : callQ Try.prog 23 #[.pointer p] w K := by
  refine callQ_chg (ok23 ?_)
  unfold S23
  rcases h with rfl | ⟨b, l2, l3, l4, rfl, h⟩
  · rw [Option.isNone_none, br_true]; exact ⟨Chg.refl _ _, hk⟩
  · rw [Option.isNone_some, br_false, need_some]
    exact ⟨_, _, _, h.cell 0, Chg.refl _ _, hk⟩
end Go.Proofs.Ytibalkkiefgljaa
