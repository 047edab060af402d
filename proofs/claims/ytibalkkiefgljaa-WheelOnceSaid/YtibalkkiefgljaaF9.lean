/- The reference: a state with its list of timers. -/
import Derived.Test.YtibalkkiefgljaaF8
import Derived.Test.YtibalkkiefgljaaD2
namespace Go.Proofs.Ytibalkkiefgljaa
open Go Go.Sh

theorem und28 : Try.prog.underlying 28 = some (.slice 65) := by kernel_rfl
theorem info65 : ∃ i, Try.prog.info? 65 = some i ∧ i.size = 2 ∧ i.bytes = 16 ∧ i.zero = some (.agg #[iv 0, iv 0]) := info_of (by kernel_rfl)
abbrev PC (p : Int × Int) : List Value := [iv p.1, iv p.2]
/-- The slice's cells are the timers T, in a block of the call's own. -/
def TO (w : World) (p : Option Addr) (n c : Nat) (T : List (Int × Int)) : Prop := Own w 2 65 p n c (T.map PC).flatten
theorem TO.nil (w : World) : TO w none 0 0 [] := Own.nil _ _ _
theorem TO.chg {w w' : World} {p : Option Addr} {n c : Nat} {T : List (Int × Int)} (h : TO w p n c T) {F : Nat → Prop} (hc : Chg F w w') (hF : ∀ k, inB p k → ¬ F k) : TO w' p n c T := Own.chg h hc hF
theorem TO.go {w w' : World} {p : Option Addr} {n c : Nat} {T : List (Int × Int)} (h : TO w p n c T) (hc : Chg (fun _ => False) w w') : TO w' p n c T := Own.chg h hc fun _ _ => id
theorem TO.cam {w : World} {p : Option Addr} {n c : Nat} {T : List (Int × Int)} (h : TO w p n c T) : Cam w 2 p n (T.map PC) := Own.cam h (fun cs hc => by obtain ⟨x, _, rfl⟩ := List.mem_map.1 hc; rfl) (by omega)
theorem TO.len {w : World} {p : Option Addr} {n c : Nat} {T : List (Int × Int)} (h : TO w p n c T) : T.length = n := by have := h.cam.1; rw [List.length_map] at this; exact this
theorem TO.get {w : World} {p : Option Addr} {n c : Nat} {T : List (Int × Int)} (h : TO w p n c T) {i : Nat} (hi : i < n) : ∃ x ad, T[i]? = some x ∧ p = some ad ∧ w.cell? (ad.add (i * 2)) = some (iv x.1) ∧ w.cell? ((ad.add (i * 2)).add 1) = some (iv x.2) := by
  obtain ⟨cs, ad, hc, _, _, hp, _, hcell⟩ := h.cam.at_ hi
  rw [List.getElem?_map] at hc
  cases hx : T[i]? with
  | none => rw [hx] at hc; cases hc
  | some x =>
    rw [hx] at hc
    cases hc
    exact ⟨x, ad, rfl, hp, by have := hcell 0 (by omega); rw [add_zero] at this; exact this, hcell 1 (by omega)⟩
theorem app_pair {w : World} {p : Option Addr} {n c : Nat} {T : List (Int × Int)} (h : TO w p n c T) (a d : Int) (hn : n < 1000000) {K : Value → World → Prop}
    (hk : ∀ w' p' c', TO w' p' (n + 1) c' (T ++ [(a, d)]) → (∀ k, inB p' k → inB p k ∨ w.heap.size ≤ k) → Chg (inB p) w w' → K (.slice p' (n + 1) c') w') :
    al w (.cells #[iv a, iv d] 65) fun r w => runV Try.prog (Builtin.append_ #[28, 28] 28 #[.slice p n c, .slice (some ⟨r, 0, none⟩) 1 1]) w K := by
  refine al_abs fun r w1 hr hb c1 hs => ?_
  obtain ⟨i, hi, hs1, hby, hz⟩ := info65
  have hsrc : Own w1 2 65 (some ⟨r, 0, none⟩) 1 1 [iv a, iv d] := Own.of_blk hb rfl (by simp [Value.oneCell'])
  have h1 : Own w1 2 65 p n c (T.map PC).flatten := h.go c1
  refine append_own (P := Try.prog) und28 hi hz (by rw [hs1]; rfl) (by simp [Value.cells, Value.oneCell']) (by omega) (by rw [hs1]; exact h1) (by rw [hs1]; exact hsrc.src und28) (by rw [hby]; omega) (by omega) fun w2 p2 c2 ho hf cc => ?_
  rw [hs1] at ho
  refine hk w2 p2 c2 ?_ (fun k hk => (hf k hk).imp id fun h => by omega) (c1.none.trans cc)
  unfold TO
  rw [List.map_append, List.flatten_append]
  simpa using ho
theorem none_inB {k : Nat} {q : Prop} (h : inB none k) : q := by obtain ⟨o, ho⟩ := h; cases ho

theorem without_call {w : World} {p : Option Addr} {n c : Nat} {T : List (Int × Int)} (h : TO w p n c T) (hnd : (T.map (·.1)).Nodup) (hn : n < 1000000) (id : Int) {K : Value → World → Prop}
    (hk : ∀ w' q m d, TO w' q m d (mdel T id) → (∀ k, inB q k → w.heap.size ≤ k) → Chg (fun _ => False) w w' → K (.tuple #[.slice q m d, .bool (mget T id).isSome]) w') : callV Try.prog 22 #[.slice p n c, iv id] w K := by
  have hlen := h.len
  refine ok22 ⟨fun r q m d x w' => ∃ i : Nat, x = i ∧ i ≤ n ∧ r = n - i ∧ TO w' q m d (mdel (T.take i) id) ∧ (∀ k, inB q k → w.heap.size ≤ k) ∧ Chg (fun _ => False) w w', ⟨n, 0, rfl, by omega, rfl, TO.nil w, fun k hk => none_inB hk, Chg.refl _ _⟩, ?_⟩
  rintro r q m d x w1 ⟨i, rfl, hi, hr, hq, hqn, c1⟩
  refine br_of (fun hlt => ?_) (fun hge => ?_)
  · have hlt : i < n := by have := of_decide_eq_true hlt; omega
    have hml := hq.len
    have hmi : m ≤ i := by
      rw [← hml]; refine Nat.le_trans (List.length_filter_le _ _) ?_
      rw [List.length_take]; omega
    refine jn_rule (fun J => ∀ w' q m d, TO w' q m d (mdel (T.take (i + 1)) id) → (∀ k, inB q k → w.heap.size ≤ k) → Chg (fun _ => False) w w' → J q m d w') (fun w' q m d hq hqn c => ⟨n - (i + 1), by omega, i + 1, by rw [wrap64_id (by omega) (by omega)]; omega, by omega, rfl, hq, hqn, c⟩) fun J hJ => ?_
    obtain ⟨x, ad, hxi, hp, k0, k1⟩ := (h.go c1).get hlt
    have hd : mdel (T.take (i + 1)) id = mdel (T.take i) id ++ if x.1 = id then [] else [x] := by
      rw [List.take_add_one, hxi]
      unfold mdel
      rw [List.filter_append, Option.toList_some, List.filter_cons, List.filter_nil]
      by_cases hx : x.1 = id <;> simp [hx]
    rw [hp]
    have hidx : ∀ {k : Addr → Prop}, k (ad.add (i * 2)) → idx (some ad) n 2 i k := fun hk => ⟨by omega, by omega, by rw [need_some, Int.toNat_natCast]; exact hk⟩
    refine hidx ⟨_, k0, br_of (fun hne => ?_) (fun he => ?_)⟩
    · have hne : ¬ x.1 = id := by simpa using hne
      rw [if_neg hne] at hd
      refine hidx ⟨_, k0, _, k1, app_pair hq x.1 x.2 (by omega) fun w2 p2 c2 h2 hf cc => ⟨_, _, _, rfl, hJ w2 p2 _ c2 (by rw [hd]; exact h2) (fun k hk => ?_) ?_⟩⟩
      · rcases hf k hk with h | h
        · exact hqn k h
        · have := c1.size; omega
      · exact (c1.none.trans (cc.mono (F' := fun k => w.heap.size ≤ k) fun k _ hk => hqn k hk)).mono fun k hk h => by omega
    · have he : x.1 = id := by simpa using he
      rw [if_pos he, List.append_nil] at hd
      exact hJ w1 q m d (by rw [hd]; exact hq) hqn c1
  · have hge : i = n := by have := of_decide_eq_false hge; omega
    subst hge
    rw [List.take_of_length_le (by omega)] at hq
    have hl := hq.len
    have hd := mdel_len hnd id
    have : decide ((m : Int) < (i : Int)) = (mget T id).isSome := by
      cases hg : (mget T id).isSome with
      | true => rw [hg] at hd; simp at hd; exact decide_eq_true (by omega)
      | false => rw [hg] at hd; simp at hd; exact decide_eq_false (by omega)
    show K (.tuple #[.slice q m d, .bool (decide ((m : Int) < (i : Int)))]) w1
    rw [this]
    exact hk w1 q m d hq hqn c1

theorem rleft_call {w : World} {p : Option Addr} {n c : Nat} {T : List (Int × Int)} (h : TO w p n c T) (hnd : (T.map (·.1)).Nodup) (hn : n < 1000000) {now most : Int} (hn0 : 0 ≤ now ∧ now ≤ 1000000000000000000) (htm : ∀ p ∈ T, now ≤ p.2 ∧ p.2 ≤ now + 1099511627776) (id : Int) {K : Value → World → Prop}
    (hk : ∀ w', Chg (fun _ => False) w w' → K (.tuple #[iv (leftOf T now id), .bool (mget T id).isSome]) w') : callV Try.prog 19 #[.agg #[iv now, iv most, .slice p n c], iv id] w K := by
  have hlen := h.len
  refine ok19 (al_abs fun r w1 hr hb c1 hs => ?_)
  have h1 := h.go c1
  refine ⟨fun m x w' => ∃ i : Nat, x = i ∧ i ≤ n ∧ m = n - i ∧ w' = w1 ∧ ∀ (j : Nat) y, j < i → T[j]? = some y → y.1 ≠ id, ⟨n, 0, rfl, by omega, rfl, rfl, fun j y hj => by omega⟩, ?_⟩
  rintro m x w' ⟨i, rfl, hi, hm, rfl, hno⟩
  unfold B19_0
  rw [add_lit]
  refine ⟨_, _, _, hb.cell 2, br_of (fun hlt => ?_) (fun hge => ?_)⟩
  · have hlt : i < n := by have := of_decide_eq_true hlt; omega
    obtain ⟨x, ad, hxi, hp, k0, k1⟩ := h1.get hlt
    have hidx : ∀ {k : Addr → Prop}, k (ad.add (i * 2)) → idx p n 2 i k := fun hk => ⟨by omega, by omega, by rw [hp, need_some, Int.toNat_natCast]; exact hk⟩
    refine ⟨_, _, _, hb.cell 2, hidx ⟨_, k0, br_of (fun he => ?_) (fun hne => ?_)⟩⟩
    · have he : x.1 = id := by simpa using he
      refine dr_abs fun w2 _ c2 => ?_
      have hb2 := c2.blk hb (fun h => h)
      obtain ⟨x', ad', hxi', hp', k0', k1'⟩ := (h1.go c2).get hlt
      rw [hxi] at hxi'; cases hxi'
      rw [hp] at hp'; cases hp'
      refine ⟨_, _, _, hb2.cell 2, hidx ⟨_, k1', _, hb2.cell 0, ?_⟩⟩
      have hmem : x ∈ T := List.mem_of_getElem? hxi
      have hg := mem_mget hnd hmem
      have := htm x hmem
      rw [wrap64_id (by omega) (by omega)]
      have := hk w2 (c1.trans c2)
      unfold leftOf at this
      rw [← he, hg] at this
      exact this
    · have hne : ¬ x.1 = id := by simpa using hne
      refine ⟨n - (i + 1), by omega, i + 1, by rw [wrap64_id (by omega) (by omega)]; omega, by omega, rfl, rfl, fun j y hj hy => ?_⟩
      by_cases hji : j = i
      · subst hji; rw [hxi] at hy; cases hy; exact hne
      · exact hno j y (by omega) hy
  · have hge : i = n := by have := of_decide_eq_false hge; omega
    subst hge
    have hg : mget T id = none := mget_none.2 fun hm => by
      obtain ⟨y, hy, he⟩ := List.mem_map.1 hm
      obtain ⟨j, hj⟩ := List.mem_iff_getElem?.1 hy
      have hjl := (List.getElem?_eq_some_iff.1 hj).1
      exact hno j y (by omega) hj he
    have := hk w' c1
    unfold leftOf at this
    rw [hg] at this
    exact this

theorem rcancel_call {w : World} {p : Option Addr} {n c : Nat} {T : List (Int × Int)} (h : TO w p n c T) (hnd : (T.map (·.1)).Nodup) (hn : n < 1000000) {now most : Int} (id : Int) {K : Value → World → Prop}
    (hk : ∀ w' q m d, TO w' q m d (mdel T id) → (∀ k, inB q k → w.heap.size ≤ k) → Chg (fun _ => False) w w' → K (.tuple #[.agg #[iv now, iv most, .slice q m d], .bool (mget T id).isSome]) w') : callV Try.prog 13 #[.agg #[iv now, iv most, .slice p n c], iv id] w K := by
  refine ok13 (al_abs fun r w1 hr hb c1 hs => al_abs fun r2 w2 hr2 hb2 c2 hs2 => ?_)
  have hb := c2.blk hb (fun h => h)
  refine ⟨_, _, _, hb.cell 2, callQ_chg (without_call (h.go (c1.trans c2)) hnd hn id fun w3 q m d hq hqn c3 => ⟨c3, _, _, _, _, rfl, ?_⟩)⟩
  refine stL_abs (c3.blk hb (fun h => h)) (by simp) (by simp [Value.oneCell']) fun w4 hb4 c4 => ?_
  have hb4 : Blk w4 r [iv now, iv most, .slice q m d] 30 := hb4
  have hb24 := c4.blk (c3.blk hb2 (fun h => h)) (show ¬ r2 = r by omega)
  refine ⟨_, hb4.cell 0, _, hb4.cell 1, _, _, _, hb4.cell 2, stL_abs hb24 (by simp) (by simp [Value.oneCell']) fun w5 hb5 c5 => ?_⟩
  have hb5 : Blk w5 r2 [iv now, iv most, .slice q m d] 30 := hb5
  refine ⟨_, hb5.cell 0, _, hb5.cell 1, _, _, _, hb5.cell 2, hk w5 q m d ((hq.chg c4 fun k hk e => ?_).chg c5 fun k hk e => ?_) (fun k hk => ?_) ?_⟩
  · have := hqn k hk; omega
  · have := hqn k hk; omega
  · have := hqn k hk; omega
  · exact (c1.none.trans (c2.none.trans (c3.none.trans ((c4.mono (F' := fun k => w.heap.size ≤ k) fun k _ hk => by omega).trans (c5.mono (F' := fun k => w.heap.size ≤ k) fun k _ hk => by omega))))).mono fun k hk h => by omega

theorem rset_call {w : World} {p : Option Addr} {n c : Nat} {T : List (Int × Int)} (h : TO w p n c T) (hnd : (T.map (·.1)).Nodup) (hn : n < 900000) {now most : Int} (hn0 : 0 ≤ now ∧ now ≤ 1000000000000000000) (id after : Int) {K : Value → World → Prop}
    (hk : ∀ w' q m d, TO w' q m d (setF most now T id after).2 → (∀ k, inB q k → inB p k ∨ w.heap.size ≤ k) → Chg (fun _ => False) w w' → K (.tuple #[.agg #[iv now, iv most, .slice q m d], iv (setF most now T id after).1]) w') : callV Try.prog 11 #[.agg #[iv now, iv most, .slice p n c], iv id, iv after] w K := by
  refine ok11 (al_abs fun r w1 hr hb c1 hs => al_abs fun r2 w2 hr2 hb2 c2 hs2 => ?_)
  have hlen := h.len
  have hb := c2.blk hb (fun h => h)
  have c12 := c1.trans c2
  have h2 := h.go c12
  -- putting the answer into place
  have put : ∀ {w3 : World} {q : Option Addr} {m d : Nat} {T' : List (Int × Int)} {e : Int}, Blk w3 r [iv now, iv most, .slice q m d] 30 → Blk w3 r2 [iv 0, iv 0, .slice none 0 0] 30 → TO w3 q m d T' → (∀ k, inB q k → inB p k ∨ w2.heap.size ≤ k) → Chg (fun k => w.heap.size ≤ k) w w3 → setF most now T id after = (e, T') →
      stL w3 ⟨r2, 0, none⟩ 0 [iv now, iv most, .slice q m d] fun w => ∃ n17 : Int, w.cell? ⟨r2, 0, none⟩ = some (iv n17) ∧ ∃ n18 : Int, w.cell? ⟨r2, 1, none⟩ = some (iv n18) ∧ ∃ (p19 : Option Addr) (l20 c21 : Nat), w.cell? ⟨r2, 2, none⟩ = some (.slice p19 l20 c21) ∧ K (.tuple #[(.agg #[iv n17, iv n18, .slice p19 l20 c21]), iv e]) w := by
    intro w3 q m d T' e k1 k2 hq hqn cc he
    refine stL_abs k2 (by simp) (by simp [Value.oneCell']) fun w5 hb5 c5 => ?_
    have hb5 : Blk w5 r2 [iv now, iv most, .slice q m d] 30 := hb5
    have hlt := fun k hk => Own.lt h (k := k) hk
    refine ⟨_, hb5.cell 0, _, hb5.cell 1, _, _, _, hb5.cell 2, ?_⟩
    have := hk w5 q m d
    rw [he] at this
    refine this (hq.chg c5 fun k hk e => ?_) (fun k hk => ?_) ?_
    · rcases hqn k hk with h | h
      · have := hlt k h; omega
      · omega
    · rcases hqn k hk with h | h
      · exact .inl h
      · right; omega
    · exact (cc.trans (c5.mono (F' := fun k => w.heap.size ≤ k) fun k _ hk => by omega)).mono fun k hk h => by omega
  have put2 : ∀ {e : Int}, setF most now T id after = (e, T) → ∀ {w3}, Chg (fun _ => False) w2 w3 → ∃ n12 : Int, w3.cell? ⟨r, 0, none⟩ = some (iv n12) ∧ ∃ n13 : Int, w3.cell? ⟨r, 1, none⟩ = some (iv n13) ∧ ∃ (p14 : Option Addr) (l15 c16 : Nat), w3.cell? ⟨r, 2, none⟩ = some (.slice p14 l15 c16) ∧ stL w3 ⟨r2, 0, none⟩ 0 [iv n12, iv n13, .slice p14 l15 c16] fun w => ∃ n17 : Int, w.cell? ⟨r2, 0, none⟩ = some (iv n17) ∧ ∃ n18 : Int, w.cell? ⟨r2, 1, none⟩ = some (iv n18) ∧ ∃ (p19 : Option Addr) (l20 c21 : Nat), w.cell? ⟨r2, 2, none⟩ = some (.slice p19 l20 c21) ∧ K (.tuple #[(.agg #[iv n17, iv n18, .slice p19 l20 c21]), iv e]) w := by
    intro e he w3 c3
    have hb3 := c3.blk hb (fun h => h)
    exact ⟨_, hb3.cell 0, _, hb3.cell 1, _, _, _, hb3.cell 2, put hb3 (c3.blk hb2 (fun h => h)) (h2.go c3) (fun k hk => .inl hk) (c12.trans c3).none he⟩
  refine jn_rule (fun J => (badA id after → J true w2) ∧ (¬ badA id after → J false w2)) ⟨fun hbad => ?_, fun hbad => ?_⟩ fun J11 hJ11 => ?_
  · rw [br_true]
    exact put2 (by unfold setF; rw [if_pos hbad]) (Chg.refl _ _)
  · rw [br_false]
    refine ⟨_, _, _, hb.cell 2, callQ_chg (without_call h2 hnd (by omega) id fun w3 q m d hq hqn c3 => ⟨c3, _, _, _, _, rfl, ?_⟩)⟩
    have hb3 := c3.blk hb (fun h => h)
    have hb23 := c3.blk hb2 (fun h => h)
    refine jn_rule (fun J => (mget T id = none ∧ most ≤ T.length → J true w3) ∧ (¬ (mget T id = none ∧ most ≤ T.length) → J false w3)) ⟨fun hf => ?_, fun hf => ?_⟩ fun J35 hJ35 => ?_
    · rw [br_true]
      exact put2 (by unfold setF; rw [if_neg hbad, if_pos hf]) c3
    · rw [br_false]
      have hm := hq.len
      have hml := mdel_le T id
      unfold badA at hbad
      refine ⟨_, hb3.cell 0, ?_⟩
      rw [wrap64_id (by omega) (by omega)]
      refine app_pair hq id (now + after) (by omega) fun w4 q4 d4 h4 hf4 c4 => ⟨_, _, _, rfl, ?_⟩
      have c34 : Chg (fun k => w2.heap.size ≤ k) w2 w4 := c3.none.trans (c4.mono fun k _ hk => hqn k hk)
      refine stL_abs (c34.blk hb (by omega)) (by simp) (by simp [Value.oneCell']) fun w5 hb5 c5 => ?_
      have hb5 : Blk w5 r [iv now, iv most, .slice q4 (m + 1) d4] 30 := hb5
      have hfr : ∀ k, inB q4 k → w2.heap.size ≤ k := fun k hk => by
        rcases hf4 k hk with h | h
        · exact hqn k h
        · have := c3.size; omega
      have c45 := c5.blk (c34.blk hb2 (by omega)) (show ¬ r2 = r by omega)
      refine ⟨_, hb5.cell 0, _, hb5.cell 1, _, _, _, hb5.cell 2, put hb5 c45 (h4.chg c5 fun k hk e => by have := hfr k hk; omega) (fun k hk => .inr (hfr k hk)) ?_ (by unfold setF; rw [if_neg (show ¬ badA id after from hbad), if_neg hf])⟩
      exact c12.none.trans ((c34.mono (F' := fun k => w.heap.size ≤ k) fun k _ hk => by omega).trans (c5.mono (F' := fun k => w.heap.size ≤ k) fun k _ hk => by omega))
    · cases hg : mget T id with
      | some v =>
        rw [Option.isSome_some, Bool.not_true, br_false]
        exact hJ35.2 fun h => by rw [hg] at h; cases h.1
      | none =>
        rw [Option.isSome_none, Bool.not_false, br_true]
        refine ⟨_, _, _, hb3.cell 2, _, hb3.cell 1, ?_⟩
        by_cases hge : most ≤ T.length
        · rw [decide_eq_true (show (n : Int) ≥ most by omega)]; exact hJ35.1 ⟨hg, hge⟩
        · rw [decide_eq_false (show ¬ (n : Int) ≥ most by omega)]; exact hJ35.2 fun h => hge h.2
  · refine br_of (fun h1 => hJ11.1 (.inl (of_decide_eq_true h1))) (fun h1 => br_of (fun h2 => hJ11.1 (.inr (.inl (of_decide_eq_true h2)))) (fun h2 => br_of (fun h3 => hJ11.1 (.inr (.inr (.inl (of_decide_eq_true h3))))) (fun h3 => ?_)))
    have h1 := of_decide_eq_false h1
    have h2 := of_decide_eq_false h2
    have h3 := of_decide_eq_false h3
    by_cases h4 : after > 1099511627776
    · rw [decide_eq_true h4]; exact hJ11.1 (.inr (.inr (.inr h4)))
    · rw [decide_eq_false h4]; exact hJ11.2 (by unfold badA; omega)
end Go.Proofs.Ytibalkkiefgljaa
