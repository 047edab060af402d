/- The wheel in memory; its functions but Tick. -/
import Derived.Test.YtibalkkiefgljaaD1
import Derived.Test.YtibalkkiefgljaaMp
import Derived.Test.YtibalkkiefgljaaSl2
namespace Go.Proofs.Ytibalkkiefgljaa
open Go Go.Sh

abbrev iv (n : Int) : Value := .int .i64 n
abbrev ptr (b : Nat) : Value := .pointer (some ⟨b, 0, none⟩)
abbrev MI (w : World) (b N : Nat) (m : List (Int × Int)) : Prop := MapB iv iv w b N m
theorem und50 : Try.prog.underlying 50 = some (.map 3 3) := by kernel_rfl
theorem und56 : Try.prog.underlying 56 = some (.slice 50) := by kernel_rfl
theorem key3 : KeyOk Try.prog 3 iv := keyInt Try.underlying3
theorem zero3 : zeroOf Try.prog 3 = some (iv 0) := by kernel_rfl
theorem zero3' : zeroOf Try.prog 3 = some (iv (0 : Int)) := zero3
theorem info50 : ∃ i, Try.prog.info? 50 = some i ∧ i.size = 1 ∧ i.bytes = 8 ∧ i.zero = some (.map none) := info_of (by kernel_rfl)

/-! Lists of timers. -/
theorem mget_map {V W : Type} (T : List (Int × V)) (f : V → W) (k : Int) : mget (T.map fun p => (p.1, f p.2)) k = (mget T k).map f := by
  induction T with
  | nil => rfl
  | cons p T ih =>
    unfold mget at ih ⊢
    rw [List.map_cons, List.find?_cons, List.find?_cons]
    dsimp only
    cases hd : decide (p.1 = k) with
    | true => rfl
    | false => exact ih
theorem mget_filter {V : Type} {T : List (Int × V)} (hn : (T.map (·.1)).Nodup) (q : V → Bool) (k : Int) : mget (T.filter fun p => q p.2) k = (mget T k).filter q := by
  cases hg : mget T k with
  | none =>
    rw [mget_none] at hg
    have : mget (T.filter fun p => q p.2) k = none := mget_none.2 fun h => by
      obtain ⟨p, hp, he⟩ := List.mem_map.1 h
      exact hg (List.mem_map.2 ⟨p, (List.mem_filter.1 hp).1, he⟩)
    rw [this]; rfl
  | some v =>
    have hm := mget_some hg
    cases hq : q v with
    | true =>
      have : mget (T.filter fun p => q p.2) k = some v := mget_of_mem (hn.sublist (List.Sublist.map _ List.filter_sublist)) (List.mem_filter.2 ⟨hm, hq⟩)
      rw [this, Option.filter_some, hq]; rfl
    | false =>
      have : mget (T.filter fun p => q p.2) k = none := by
        cases h2 : mget (T.filter fun p => q p.2) k with
        | none => rfl
        | some u =>
          have := mget_some h2
          obtain ⟨h3, h4⟩ := List.mem_filter.1 this
          have h5 := mget_of_mem hn h3
          rw [hg] at h5
          cases h5
          dsimp only at h4
          rw [hq] at h4; cases h4
      rw [this, Option.filter_some, hq]; rfl
theorem mdel_map {V W : Type} (T : List (Int × V)) (f : V → W) (k : Int) : mdel (T.map fun p => (p.1, f p.2)) k = (mdel T k).map fun p => (p.1, f p.2) := by
  unfold mdel; rw [List.filter_map]; rfl
theorem mdel_filter {V : Type} (T : List (Int × V)) (q : Int × V → Bool) (k : Int) : mdel (T.filter q) k = (mdel T k).filter q := by
  unfold mdel
  rw [List.filter_filter, List.filter_filter]
  congr 1; funext p; rw [Bool.and_comm]
theorem mdel_none {V : Type} {T : List (Int × V)} {k : Int} (h : mget T k = none) : mdel T k = T := by
  unfold mdel
  refine List.filter_eq_self.2 fun p hp => ?_
  have := mget_none.1 h
  simp only [decide_eq_true_eq]
  intro e; exact this (List.mem_map.2 ⟨p, hp, e⟩)
theorem mset_none {V : Type} {T : List (Int × V)} {k : Int} {v : V} (h : mget T k = none) : mset T k v = T ++ [(k, v)] := by
  unfold mset; rw [if_neg (mget_none.1 h)]
theorem mset_twice {V : Type} (T : List (Int × V)) (k : Int) (u v : V) (h : mget T k = none) : mset (mset T k u) k v = T ++ [(k, v)] := by
  rw [mset_none h]
  unfold mset
  rw [if_pos (by simp), List.map_append]
  congr 1
  · conv => rhs; rw [← List.map_id T]
    refine List.map_congr_left fun p hp => ?_
    rw [if_neg]
    · rfl
    · intro e; exact mget_none.1 h (List.mem_map.2 ⟨p, hp, e⟩)
  · simp
theorem mget_mdel_self {V : Type} (T : List (Int × V)) (k : Int) : mget (mdel T k) k = none := by rw [mget_del, if_pos rfl]
theorem mem_mget {V : Type} {T : List (Int × V)} (hn : (T.map (·.1)).Nodup) {p : Int × V} (h : p ∈ T) : mget T p.1 = some p.2 := mget_of_mem hn h

/-- Where a wheel lies: itself, its row, its map, its slots. -/
structure WH where
  b : Nat
  g : Nat
  im : Nat
  S : Nat
  sb : Nat → Nat
def WH.fp (h : WH) (k : Nat) : Prop := k = h.b ∨ k = h.g ∨ k = h.im ∨ ∃ j, j < h.S ∧ k = h.sb j

/-- The wheel's timers: T, each with when it is due. -/
structure Wh (w : World) (h : WH) (N : Nat) (most now : Int) (T : List (Int × Int)) : Prop where
  hb : Blk w h.b [.slice (some ⟨h.g, 0, none⟩) h.S h.S, .map (some h.im), iv most, iv now] 58
  hg : Blk w h.g ((List.range h.S).map fun j => .map (some (h.sb j))) 50
  hi : MI w h.im N (T.map fun p => (p.1, p.2 % (h.S : Int)))
  hs : ∀ j, j < h.S → MI w (h.sb j) N (T.filter fun p => decide (p.2 % (h.S : Int) = j))
  inj : ∀ i j, i < h.S → j < h.S → h.sb i = h.sb j → i = j
  nim : ∀ j, j < h.S → h.sb j ≠ h.im
  s1 : 1 ≤ h.S ∧ h.S ≤ 1024
  tm : ∀ p ∈ T, 0 ≤ p.1 ∧ p.1 ≤ 1023 ∧ now ≤ p.2 ∧ p.2 ≤ now + 1099511627776
  nd : (T.map (·.1)).Nodup
  n0 : 0 ≤ now ∧ now ≤ 1000000000000000000
  nb : h.b ≠ h.g

theorem Wh.chg {w w' : World} {h : WH} {N : Nat} {most now : Int} {T : List (Int × Int)} (H : Wh w h N most now T) {F : Nat → Prop} (hc : Chg F w w') (hF : ∀ k, h.fp k → ¬ F k) : Wh w' h N most now T :=
  ⟨hc.blk H.hb (hF _ (.inl rfl)), hc.blk H.hg (hF _ (.inr (.inl rfl))), H.hi.chg hc (hF _ (.inr (.inr (.inl rfl)))), fun j hj => (H.hs j hj).chg hc (hF _ (.inr (.inr (.inr ⟨j, hj, rfl⟩)))), H.inj, H.nim, H.s1, H.tm, H.nd, H.n0, H.nb⟩
theorem Wh.go {w w' : World} {h : WH} {N : Nat} {most now : Int} {T : List (Int × Int)} (H : Wh w h N most now T) (hc : Chg (fun _ => False) w w') : Wh w' h N most now T := H.chg hc fun _ _ => id
theorem Wh.mono {w : World} {h : WH} {N N' : Nat} {most now : Int} {T : List (Int × Int)} (H : Wh w h N most now T) (hN : N ≤ N') : Wh w h N' most now T :=
  ⟨H.hb, H.hg, H.hi.mono hN, fun j hj => (H.hs j hj).mono hN, H.inj, H.nim, H.s1, H.tm, H.nd, H.n0, H.nb⟩
theorem Wh.lt {w : World} {h : WH} {N : Nat} {most now : Int} {T : List (Int × Int)} (H : Wh w h N most now T) {k : Nat} (hk : h.fp k) : k < w.heap.size := by
  rcases hk with rfl | rfl | rfl | ⟨j, hj, rfl⟩
  · exact H.hb.lt
  · exact H.hg.lt
  · exact H.hi.lt
  · exact (H.hs j hj).lt
theorem Wh.slot {w : World} {h : WH} {N : Nat} {most now : Int} {T : List (Int × Int)} (H : Wh w h N most now T) {j : Nat} (hj : j < h.S) : w.cell? ⟨h.g, 0 + ((j : Nat) : Int).toNat * 1, none⟩ = some (.map (some (h.sb j))) := by
  rw [H.hg.cell, Int.toNat_natCast, Nat.zero_add, Nat.mul_one, List.getElem?_map, List.getElem?_range hj]; rfl
theorem Wh.emod {w : World} {h : WH} {N : Nat} {most now : Int} {T : List (Int × Int)} (H : Wh w h N most now T) (d : Int) : ∃ j : Nat, d % (h.S : Int) = j ∧ j < h.S := by
  have := H.s1
  have h1 := Int.emod_nonneg d (b := (h.S : Int)) (by omega)
  have h2 := Int.emod_lt_of_pos d (b := (h.S : Int)) (by omega)
  exact ⟨(d % (h.S : Int)).toNat, by omega, by omega⟩

theorem none_call {w : World} {h : WH} {N : Nat} {most now : Int} {T : List (Int × Int)} (H : Wh w h N most now T) {K : Value → World → Prop} (hk : K (.bool false) w) : callQ Try.prog 23 #[ptr h.b] w K := by
  refine callQ_chg (ok23 ?_)
  have := H.s1
  unfold S23
  rw [Option.isNone_some, br_false, need_some]
  refine ⟨_, _, _, H.hb.cell 0, Chg.refl _ _, ?_⟩
  rw [show (((h.S : Int) : Int) == 0) = false by simp; omega]
  exact hk

theorem now_call {w : World} {h : WH} {N : Nat} {most now : Int} {T : List (Int × Int)} (H : Wh w h N most now T) {K : Value → World → Prop} (hk : K (iv now) w) : callV Try.prog 20 #[ptr h.b] w K := by
  refine ok20 (none_call H ⟨_, rfl, ?_⟩)
  rw [br_false, need_some, add_lit]
  exact ⟨_, H.hb.cell 3, hk⟩
theorem len_call {w : World} {h : WH} {N : Nat} {most now : Int} {T : List (Int × Int)} (H : Wh w h N most now T) {K : Value → World → Prop} (hk : K (iv T.length) w) : callV Try.prog 21 #[ptr h.b] w K := by
  refine ok21 (none_call H ⟨_, rfl, ?_⟩)
  rw [br_false, need_some, add_lit]
  refine ⟨_, H.hb.cell 1, len_rule und50 H.hi ⟨_, rfl, ?_⟩⟩
  rw [List.length_map]; exact hk

/-- In how many ticks one is due. -/
def leftOf (T : List (Int × Int)) (now id : Int) : Int := match mget T id with | some d => d - now | none => 0
theorem left_call {w : World} {h : WH} {N : Nat} {most now : Int} {T : List (Int × Int)} (H : Wh w h N most now T) (id : Int) {K : Value → World → Prop}
    (hk : ∀ w', Chg (fun _ => False) w w' → K (.tuple #[iv (leftOf T now id), .bool (mget T id).isSome]) w') : callV Try.prog 18 #[ptr h.b, iv id] w K := by
  refine ok18 (none_call H ⟨_, rfl, ?_⟩)
  rw [br_false, need_some, add_lit]
  refine ⟨_, H.hb.cell 1, lookup_rule und50 key3 zero3 H.hi ?_⟩
  rw [mget_map T (fun v => v % (h.S : Int)), Option.isSome_map, if_pos rfl]
  refine ⟨_, _, rfl, ?_⟩
  unfold leftOf at hk
  cases hg : mget T id with
  | none =>
    rw [hg] at hk
    exact hk w (Chg.refl _ _)
  | some d =>
    rw [hg] at hk
    rw [Option.map_some, Option.getD_some, Option.isSome_some, Bool.not_true, br_false]
    refine dr_abs fun w2 _ c2 => ?_
    have H2 := H.go c2
    obtain ⟨j, hj, hjS⟩ := H.emod d
    rw [need_some, hj]
    have hf : mget (T.filter fun p => decide (p.2 % (h.S : Int) = j)) id = some d := by
      rw [mget_filter H.nd (fun v => decide (v % (h.S : Int) = j)), hg, Option.filter_some, decide_eq_true hj]; rfl
    refine ⟨_, _, _, H2.hb.cell 0, idx_rule (by omega) (by omega) ⟨_, H2.slot hjS, lookup_rule und50 key3 zero3 (H2.hs j hjS) ?_⟩⟩
    rw [hf]
    refine ⟨_, rfl, ?_⟩
    rw [need_some, add_lit]
    refine ⟨_, H2.hb.cell 3, ?_⟩
    have ht := H.tm _ (mget_some hg)
    have hn := H.n0
    rw [Option.getD_some, wrap64_id (by omega) (by omega)]
    exact hk w2 c2

theorem Wh.del_ne {w : World} {h : WH} {N : Nat} {most now : Int} {T : List (Int × Int)} (H : Wh w h N most now T) {id d : Int} (hg : mget T id = some d) {j : Nat} (hj : d % (h.S : Int) ≠ j) : (mdel T id).filter (fun p => decide (p.2 % (h.S : Int) = j)) = T.filter fun p => decide (p.2 % (h.S : Int) = j) := by
  unfold mdel
  rw [List.filter_filter]
  refine List.filter_congr fun p hp => ?_
  by_cases hpd : p.1 = id
  · have := mem_mget H.nd hp
    rw [hpd, hg] at this
    cases this
    simp [hj]
  · simp [hpd]
theorem Wh.del {w : World} {h : WH} {N : Nat} {most now : Int} {T : List (Int × Int)} (H : Wh w h N most now T) (id : Int) {t m : Int} : (∀ p ∈ mdel T id, 0 ≤ p.1 ∧ p.1 ≤ 1023 ∧ now ≤ p.2 ∧ p.2 ≤ now + 1099511627776) ∧ ((mdel T id).map (·.1)).Nodup :=
  ⟨fun p hp => H.tm p (mem_mdel.1 hp).1, mdel_nodup H.nd id⟩

theorem cancel_call {w : World} {h : WH} {N : Nat} {most now : Int} {T : List (Int × Int)} (H : Wh w h N most now T) (id : Int) {K : Value → World → Prop}
    (hk : ∀ w', Wh w' h N most now (mdel T id) → Chg h.fp w w' → K (.bool (mget T id).isSome) w') : callV Try.prog 14 #[ptr h.b, iv id] w K := by
  refine ok14 (none_call H ⟨_, rfl, ?_⟩)
  rw [br_false, need_some, add_lit]
  refine ⟨_, H.hb.cell 1, lookup_rule und50 key3 zero3 H.hi ?_⟩
  rw [mget_map T (fun v => v % (h.S : Int)), Option.isSome_map, if_pos rfl]
  refine ⟨_, _, rfl, ?_⟩
  cases hg : mget T id with
  | none =>
    rw [hg, mdel_none hg] at hk
    exact hk w H (Chg.refl _ _)
  | some d =>
    rw [hg] at hk
    rw [Option.map_some, Option.getD_some, Option.isSome_some, br_true]
    obtain ⟨j, hj, hjS⟩ := H.emod d
    rw [need_some, hj]
    refine ⟨_, _, _, H.hb.cell 0, idx_rule (by omega) (by omega) ⟨_, H.slot hjS, delete_rule und50 key3 (H.hs j hjS) fun w2 h2 c2 => ⟨rfl, ?_⟩⟩⟩
    have hbs : h.b ≠ h.sb j := Ne.symm ((H.hs j hjS).ne_blk H.hb)
    have hgs : h.g ≠ h.sb j := Ne.symm ((H.hs j hjS).ne_blk H.hg)
    have hb2 := c2.blk H.hb hbs
    have hg2 := c2.blk H.hg hgs
    have hi2 := H.hi.chg c2 (Ne.symm (H.nim j hjS))
    rw [need_some, add_lit]
    refine ⟨_, hb2.cell 1, delete_rule und50 key3 hi2 fun w3 h3 c3 => ⟨rfl, ?_⟩⟩
    have hbi : h.b ≠ h.im := Ne.symm (H.hi.ne_blk H.hb)
    have hgi : h.g ≠ h.im := Ne.symm (H.hi.ne_blk H.hg)
    refine hk w3 ⟨c3.blk hb2 hbi, c3.blk hg2 hgi, by rw [mdel_map T (fun v => v % (h.S : Int))] at h3; exact h3, fun i hi => ?_, H.inj, H.nim, H.s1, (H.del id (t := 0) (m := 0)).1, (H.del id (t := 0) (m := 0)).2, H.n0, H.nb⟩ ((c2.mono fun k _ hk => .inr (.inr (.inr ⟨j, hjS, hk⟩))).trans (c3.mono fun k _ hk => .inr (.inr (.inl hk))))
    by_cases hij : i = j
    · subst hij
      have := h2.chg c3 (H.nim i hi)
      rw [mdel_filter] at this
      exact this
    · have := ((H.hs i hi).chg c2 (fun e => hij (H.inj i j hi hjS e))).chg c3 (H.nim i hi)
      rw [H.del_ne hg (by rw [hj]; omega)]
      exact this
end Go.Proofs.Ytibalkkiefgljaa
