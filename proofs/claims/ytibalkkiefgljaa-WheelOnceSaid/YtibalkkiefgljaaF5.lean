/- The wheel's Tick. -/
import Derived.Test.YtibalkkiefgljaaF4
namespace Go.Proofs.Ytibalkkiefgljaa
open Go Go.Sh

theorem own_clip {w : World} {sz : Nat} {e : TypeId} {p : Option Addr} {n c : Nat} {xs : List Value} (h : Own w sz e p n c xs) : Own w sz e p n n xs := by
  have hle := h.le
  refine ⟨Nat.le_refl _, ?_, h.one⟩
  rcases h.at_ with ⟨hp, hc, hx⟩ | ⟨g, o, cs, hp, hb, hl, hx⟩
  · exact .inl ⟨hp, by omega, hx⟩
  · have := Nat.mul_le_mul_right sz hle
    exact .inr ⟨g, o, cs, hp, hb, by omega, hx⟩
theorem clip_call {w : World} {p : Option Addr} {n c : Nat} {xs : List Int} (h : ON w p n c xs) {K : Value → World → Prop} (hk : ON w p n n xs → K (.slice p n n) w) : callV Try.prog 28 #[.slice p n c] w K := by
  refine ok28 (slc_rule 0 n n rfl rfl rfl h.le (Nat.le_refl _) (by omega) (fun _ => rfl) ?_)
  have : (if n = 0 then p else Option.map (fun x => x.add (0 * 1)) p) = p := by
    split
    · rfl
    · cases p <;> rfl
  rw [this, Nat.sub_zero]
  exact hk (own_clip h)

theorem foldl_mdel : ∀ (ds : List Int) (T : List (Int × Int)), ds.foldl mdel T = T.filter fun p => decide (p.1 ∉ ds)
  | [], T => (List.filter_eq_self.2 fun _ _ => by simp).symm
  | d :: ds, T => by
    rw [List.foldl_cons, foldl_mdel ds (mdel T d)]
    unfold mdel
    rw [List.filter_filter]
    refine List.filter_congr fun p _ => ?_
    simp only [List.mem_cons, not_or, Bool.decide_and, Bool.and_comm]

/-- With the time one further: some are due. -/
theorem Wh.step {w w' : World} {h : WH} {N : Nat} {most now : Int} {T : List (Int × Int)} (H : Wh w h N most now T) (hst : ∀ p ∈ T, now < p.2) (hn : now < 1000000000000000000) (hb : Blk w' h.b [.slice (some ⟨h.g, 0, none⟩) h.S h.S, .map (some h.im), iv most, iv (now + 1)] 58) (hc : Chg (fun k => k = h.b) w w') : Wh w' h N most (now + 1) T :=
  ⟨hb, hc.blk H.hg (Ne.symm H.nb), H.hi.chg hc (H.hi.ne_blk H.hb), fun j hj => (H.hs j hj).chg hc ((H.hs j hj).ne_blk H.hb), H.inj, H.nim, H.s1, fun p hp => by have := H.tm p hp; have := hst p hp; omega, H.nd, by have := H.n0; omega, H.nb⟩

theorem tick_call {w : World} {h : WH} {N : Nat} {most now : Int} {T : List (Int × Int)} (H : Wh w h N most now T) (hst : ∀ p ∈ T, now < p.2) (hn : now < 1000000000000000000) (hT : T.length ≤ 1000000) {K : Value → World → Prop}
    (hk : ∀ w' p n ds, ds.Pairwise (· < ·) → (∀ x, x ∈ ds ↔ mget T x = some (now + 1)) → ON w' p n n ds → (∀ k, inB p k → w.heap.size ≤ k) → Wh w' h N most (now + 1) (T.filter fun p => decide (¬ p.2 = now + 1)) → Chg h.fp w w' → K (.slice p n n) w') :
    callV Try.prog 17 #[ptr h.b] w K := by
  have hn0 := H.n0
  have hs1 := H.s1
  refine ok17 (al_abs fun r w1 hr hbox c1 hz1 => ⟨_, hbox.cell 0, none_call (H.go c1) ⟨_, rfl, ?_⟩⟩)
  have H1 := H.go c1
  rw [br_false]
  refine ⟨_, hbox.cell 0, ?_⟩
  rw [need_some, add_lit]
  refine ⟨_, H1.hb.cell 3, ?_⟩
  rw [need_some, add_lit, wrap64_id (by omega) (by omega)]
  refine stL_abs H1.hb (by simp) (by simp [Value.oneCell']) fun w2 hb2 c2 => dr_abs fun w3 _ c3 => ?_
  have hrb : r ≠ h.b := by have := H.hb.lt; omega
  have H2 : Wh w3 h N most (now + 1) T := (H1.step hst hn hb2 c2).go c3
  have hbox := c3.blk (c2.blk hbox hrb) id
  refine ⟨_, hbox.cell 0, ?_⟩
  rw [need_some]
  refine ⟨_, _, _, H2.hb.cell 0, _, hbox.cell 0, ?_⟩
  rw [need_some, add_lit]
  refine ⟨_, H2.hb.cell 3, _, hbox.cell 0, ?_⟩
  rw [need_some]
  obtain ⟨j, hj, hjS⟩ := H.emod (now + 1)
  refine ⟨_, _, _, H2.hb.cell 0, by omega, ?_⟩
  rw [Int.tmod_eq_emod_of_nonneg (by omega), hj]
  refine idx_rule (by omega) (by omega) ⟨_, H2.slot hjS, al_abs fun r2 w4 hr2 hm4 c4 hz4 => stL_abs hm4 (by simp) (by simp [Value.oneCell']) fun w5 hm5 c5 => ?_⟩
  have hm5 : Blk w5 r2 [.map (some (h.sb j))] 50 := hm5
  have c35 : Chg (fun _ => False) w3 w5 := (c4.none.trans (c5.mono (F' := fun k => w3.heap.size ≤ k) fun k _ hk => by omega)).mono fun k hk h => by omega
  have H5 := H2.go c35
  have hbox5 := c35.blk hbox id
  refine ⟨_, hm5.cell 0, ok27 (al_abs fun r3 w6 hr3 hm6 c6 hz6 => ⟨_, rfl, ?_⟩)⟩
  have H6 := H5.go c6
  have hTj : ∀ p ∈ T.filter (fun p => decide (p.2 % (h.S : Int) = j)), -9223372036854775808 ≤ p.1 ∧ p.1 ≤ 9223372036854775807 := fun p hp => by
    have := H.tm p (List.mem_filter.1 hp).1; omega
  refine sorted_call hm6 (H6.hs j hjS) hTj (Nat.le_trans (List.length_filter_le _ _) hT) fun w7 p7 n7 cp7 ss hperm hsort hON hfr c7 => ⟨_, _, _, rfl, ?_⟩
  have H7 := H6.go c7
  have hbox7 := (c6.trans c7).blk hbox5 id
  have hm7 := (c6.trans c7).blk hm5 id
  have hfr7 : ∀ k, inB p7 k → w6.heap.size ≤ k := hfr
  have hfp7 : ∀ k, h.fp k → ¬ inB p7 k := fun k hk hi => by have := H6.lt hk; have := hfr7 k hi; omega
  have hbl6 := ((c6.blk hbox5 id)).lt
  have hml6 := (c6.blk hm5 id).lt
  have hss : ss.length = n7 := hON.len
  have hn7 : n7 ≤ 1000000 := by
    rw [← hss, hperm.length_eq, List.length_map]; exact Nat.le_trans (List.length_filter_le _ _) hT
  have hget : ∀ x, mget (T.filter fun p => decide (p.2 % (h.S : Int) = j)) x = (mget T x).filter fun v => decide (v % (h.S : Int) = j) := fun x => mget_filter H.nd (fun v => decide (v % (h.S : Int) = j)) x
  refine delete_call hON (q := fun x => ((mget (T.filter fun p => decide (p.2 % (h.S : Int) = j)) x).getD 0 != now + 1)) (fun w' c' x hx K hK => ?_) hn7 fun w8 m8 hON8 c8 => ⟨_, _, _, rfl, ?_⟩
  · show callV _ _ _ _ _
    refine ok24 (dr_abs fun w9 _ c9 => ?_)
    have H9 := (H7.chg c' hfp7).go c9
    have hm9 := c9.blk (c'.blk hm7 fun hi => by have := hfr7 _ hi; omega) id
    have hb9 := c9.blk (c'.blk hbox7 fun hi => by have := hfr7 _ hi; omega) id
    refine ⟨_, hm9.cell 0, lookup_rule und50 key3 zero3 (H9.hs j hjS) ⟨_, rfl, _, hb9.cell 0, ?_⟩⟩
    rw [need_some, add_lit]
    exact ⟨_, H9.hb.cell 3, hK w9 c9⟩
  generalize hds : ss.filter (fun x => !((mget (T.filter fun p => decide (p.2 % (h.S : Int) = j)) x).getD 0 != now + 1)) = ds at hON8
  have hmem : ∀ x, x ∈ ds ↔ mget T x = some (now + 1) := fun x => by
    rw [← hds, List.mem_filter, hperm.mem_iff, hget]
    constructor
    · rintro ⟨h1, h2⟩
      obtain ⟨p, hp, rfl⟩ := List.mem_map.1 h1
      obtain ⟨hp1, hp2⟩ := List.mem_filter.1 hp
      rw [mem_mget H.nd hp1, Option.filter_some, hp2] at h2
      have : p.2 = now + 1 := by simpa using h2
      rw [mem_mget H.nd hp1, this]
    · intro h1
      have h2 := mget_some h1
      refine ⟨List.mem_map.2 ⟨_, List.mem_filter.2 ⟨h2, by simpa using hj⟩, rfl⟩, ?_⟩
      rw [h1, Option.filter_some, decide_eq_true hj]; simp
  have hstrict : ds.Pairwise (· < ·) := by
    have hnd : ss.Nodup := hperm.nodup_iff.2 (H.nd.sublist (List.Sublist.map _ List.filter_sublist))
    have : ss.Pairwise (· < ·) := by
      have h2 := hsort.and hnd
      exact h2.imp fun ⟨h3, h4⟩ => by omega
    rw [← hds]; exact this.filter _
  have H8 := H7.chg c8 hfp7
  have hbox8 := c8.blk hbox7 fun hi => by have := hfr7 _ hi; omega
  have c68 : Chg (fun k => w6.heap.size ≤ k) w6 w8 := c7.none.trans (c8.mono fun k _ hk => hfr7 k hk)
  have c28 : Chg (fun _ => False) w1 w6 → True := fun _ => trivial
  have cw6 : Chg (fun k => h.fp k) w w6 := c1.none.trans ((c2.mono fun k _ hk => .inl hk).trans (c3.none.trans (c35.none.trans c6.none)))
  have cw8 : Chg h.fp w w8 := (cw6.mono (F' := fun k => h.fp k ∨ w.heap.size ≤ k) fun k _ hk => .inl hk).trans (c68.mono fun k _ hk => .inr (by have := cw6.size; omega)) |>.mono fun k hk hh => hh.elim id fun hh => by omega
  have hlen8 := hON8.len
  have hlen9 : ds.length ≤ ss.length := by rw [← hds]; exact List.length_filter_le _ _
  have hw6 := cw6.size
  have hfr8 : ∀ k, inB p7 k → w.heap.size ≤ k := fun k hk => by have := hfr7 k hk; omega
  have hfpd : ∀ k, inB p7 k → ¬ h.fp k := fun k hk hi => hfp7 k hi hk
  have hnr : ¬ h.fp r := fun hi => by have := H.lt hi; omega
  refine ⟨fun m x w' => ∃ i : Nat, x = i ∧ i ≤ m8 ∧ m = m8 - i ∧ Wh w' h N most (now + 1) ((ds.take i).foldl mdel T) ∧ Chg h.fp w8 w', ⟨m8, 0, rfl, by omega, rfl, H8, Chg.refl _ _⟩, ?_⟩
  rintro m x w9 ⟨i, rfl, hi, hm, H9, c9⟩
  refine br_of (fun hlt => ?_) (fun hge => ?_)
  · have hlt : i < m8 := by have := of_decide_eq_true hlt; omega
    obtain ⟨x, g, o, hx, hp, hcell⟩ := OwnE.get (Own.chg hON8 c9 hfpd) hlt
    rw [hp]
    refine idx_rule (by omega) (by omega) ⟨x, by rw [Int.toNat_natCast]; exact hcell, _, (c9.blk hbox8 hnr).cell 0, cancel_call H9 x fun w10 H10 c10 => ⟨_, rfl, ?_⟩⟩
    rw [wrap64_id (by omega) (by omega)]
    refine ⟨m8 - (i + 1), by omega, i + 1, by omega, by omega, rfl, ?_, c9.trans c10⟩
    rw [List.take_add_one, hx, Option.toList_some, List.foldl_append]
    exact H10
  · have hge : i = m8 := by have := of_decide_eq_false hge; omega
    subst hge
    have hON9 : ON w9 p7 i cp7 ds := Own.chg hON8 c9 hfpd
    refine clip_call hON9 fun hON10 => ⟨_, _, _, rfl, hk w9 p7 i ds hstrict hmem hON10 hfr8 ?_ (cw8.trans c9)⟩
    rw [List.take_of_length_le (by omega), foldl_mdel] at H9
    have : (T.filter fun p => decide (p.1 ∉ ds)) = T.filter fun p => decide (¬ p.2 = now + 1) := List.filter_congr fun p hp => by
      have h1 := mem_mget H.nd hp
      have h2 := hmem p.1
      rw [h1] at h2
      simp only [Option.some.injEq] at h2
      simp only [h2]
    rw [this] at H9
    exact H9
end Go.Proofs.Ytibalkkiefgljaa
