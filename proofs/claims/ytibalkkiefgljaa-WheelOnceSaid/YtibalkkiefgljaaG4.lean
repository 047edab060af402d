/- WheelCalm. -/
import Derived.Test.YtibalkkiefgljaaF8
import Derived.Test.YtibalkkiefgljaaD6
import Derived.Test.YtibalkkiefgljaaG3
namespace Go.Proofs.Ytibalkkiefgljaa
open Go Go.Sh

theorem setF_in {n : Int} {T : List (Int × Int)} (hnd : (T.map (·.1)).Nodup) (hid : ∀ p ∈ T, 0 ≤ p.1 ∧ p.1 ≤ 63) {k : Nat} (hk : k ≤ 63) {d : Int} (hd : 1 ≤ d ∧ d ≤ 128) : setF 64 n T k d = (0, mdel T k ++ [((k : Int), n + d)]) := by
  unfold setF
  rw [if_neg (show ¬ badA k d by unfold badA; omega), if_neg]
  rintro ⟨h1, h2⟩
  have : ((k : Int) :: T.map (·.1)).length ≤ ((List.range 64).map fun (j : Nat) => (j : Int)).length := by
    refine nodup_le (List.pairwise_cons.2 ⟨fun x hx e => ?_, hnd⟩) fun x hx => ?_
    · subst e; exact mget_none.1 h1 hx
    · rcases List.mem_cons.1 hx with rfl | hx
      · exact List.mem_map.2 ⟨k, List.mem_range.2 (by omega), rfl⟩
      · obtain ⟨p, hp, rfl⟩ := List.mem_map.1 hx
        have := hid p hp
        exact List.mem_map.2 ⟨p.1.toNat, List.mem_range.2 (by omega), by omega⟩
  simp at this; omega

/-- The two wheels of this law: the other has the even ones. -/
structure Calm (W w : World) (a b : WH) (N : Nat) (n : Int) (T : List (Int × Int)) : Prop where
  two : Two W w a b N N 64 64 n n T (evT T)
  ok : Ok 64 n T
  ids : ∀ p ∈ T, 0 ≤ p.1 ∧ p.1 ≤ 63
theorem Calm.go {W w w' : World} {a b : WH} {N : Nat} {n : Int} {T : List (Int × Int)} (h : Calm W w a b N n T) (c : Chg (fun _ => False) w w') : Calm W w' a b N n T := ⟨h.two.go c, h.ok, h.ids⟩
theorem Two.mono {W w : World} {a b : WH} {Na Nb Na' Nb' : Nat} {ma mb na nb : Int} {S T : List (Int × Int)} (h : Two W w a b Na Nb ma mb na nb S T) (h1 : Na ≤ Na') (h2 : Nb ≤ Nb') : Two W w a b Na' Nb' ma mb na nb S T := ⟨h.A.mono h1, h.B.mono h2, h.dis, h.lo, h.cc⟩

theorem evens_loop {w : World} {x39 x40 : Option Addr} {x41 x46 x47 x48 x49 : Int} {x42 : Bool} {x43 : Option Addr} {l44 c45 : Nat} {p : Option Addr} {n c : Nat} {ds : List Int} (h : ON w p n c ds) (hn : n < 1000000) {X : Option Addr → Nat → Nat → World → Prop} {K : Value → World → Prop}
    (hk : ∀ w' q m d, ON w' q m d (ds.filter evB) → (∀ k, inB q k → w.heap.size ≤ k) → Chg (fun _ => False) w w' → X q m d w') :
    LS8_5 x39 x40 x41 x42 x43 l44 c45 x46 x47 x48 x49 p n c n none 0 0 0 w X K := by
  have hlen := h.len
  refine ⟨fun r q m d x w' => ∃ i : Nat, x = i ∧ i ≤ n ∧ r = n - i ∧ ON w' q m d ((ds.take i).filter evB) ∧ (∀ k, inB q k → w.heap.size ≤ k) ∧ Chg (fun _ => False) w w', ⟨n, 0, rfl, by omega, rfl, Own.nil _ _ _, fun k hk => (by obtain ⟨o, ho⟩ := hk; cases ho), Chg.refl _ _⟩, ?_⟩
  rintro r q m d x w1 ⟨i, rfl, hi, hr, hq, hqn, c1⟩
  refine br_of (fun hlt => ?_) (fun hge => ?_)
  · have hlt : i < n := by have := of_decide_eq_true hlt; omega
    have hml := hq.len
    have hmi : m ≤ i := by
      rw [← hml]; refine Nat.le_trans (List.length_filter_le _ _) ?_
      rw [List.length_take]; omega
    refine jn_rule (fun J => ∀ w' q m d, ON w' q m d ((ds.take (i + 1)).filter evB) → (∀ k, inB q k → w.heap.size ≤ k) → Chg (fun _ => False) w w' → J q m d w') (fun w' q m d hq hqn c => ⟨n - (i + 1), by omega, i + 1, by rw [wrap64_id (by omega) (by omega)]; omega, by omega, rfl, hq, hqn, c⟩) fun J hJ => ?_
    obtain ⟨x, g, o, hxi, hp, k0⟩ := OwnE.get (Own.chg h c1 fun _ _ => id) hlt
    rw [hp]
    refine idx_rule (by omega) (by omega) ⟨x, by rw [Int.toNat_natCast]; exact k0, br_of (fun hev => ?_) (fun hev => ?_)⟩
    · refine app_int hq x (by omega) fun w2 p2 c2 h2 hf cc => ⟨_, _, _, rfl, hJ w2 p2 _ c2 ?_ (fun k hk => ?_) ?_⟩
      · rw [List.take_add_one, hxi, List.filter_append]
        rw [show List.filter evB (some x).toList = [x] from List.filter_cons_of_pos hev]
        exact h2
      · rcases hf k hk with h | h
        · exact hqn k h
        · have := c1.size; omega
      · exact (c1.none.trans (cc.mono (F' := fun k => w.heap.size ≤ k) fun k _ hk => hqn k hk)).mono fun k hk h => by omega
    · refine hJ w1 q m d ?_ hqn c1
      rw [List.take_add_one, hxi, List.filter_append]
      rw [show List.filter evB (some x).toList = [] from List.filter_cons_of_neg (by rw [show evB x = false from hev]; simp), List.append_nil]
      exact hq
  · have hge : i = n := by have := of_decide_eq_false hge; omega
    subst hge
    rw [List.take_of_length_le (by omega)] at hq
    exact hk w1 q m d hq hqn c1

set_option maxHeartbeats 1000000 in
theorem calm_law {W : World} (x1 x2 : Nat) (h1 : x1 < 256) (h2 : x2 < 256) {p : Option Addr} {l c : Nat} (hlc : l ≤ c) {C : List (List Value)} (hC : Cam W 3 p l C) (hb : ∀ cs ∈ C, Opd cs) {K : Value → World → Prop}
    (hk : ∀ w', Chg (fun _ => False) W w' → K (.bool true) w') : callV Try.prog 8 #[.int .u8 x1, .int .u8 x2, .slice p l c] W K := by
  refine ok8 ?_
  unfold S8
  have e : ∀ x : Nat, x < 256 → IntKind.wrap .i64 (1 + IntKind.wrap .i64 (x : Int)) = ((1 + x : Nat) : Int) := fun x hx => by
    rw [wrap64_id (n := (x : Int)) (by omega) (by omega), wrap64_id (by omega) (by omega)]; omega
  rw [e x1 h1, e x2 h2]
  refine callQ_mono (two_new (K := fun a b w => _) ⟨by omega, by omega⟩ ⟨by omega, by omega⟩ ⟨by omega, by omega⟩ ⟨by omega, by omega⟩ fun w a b h => h) fun v w ⟨a, hv, hh⟩ => ⟨_, _, hv, callQ_mono hh fun v w ⟨b, hv, h⟩ => ⟨_, _, hv, ?_⟩⟩
  rw [show ((0 : Int) != 0) = false from rfl, br_false, br_false]
  obtain ⟨M, hM, hM1, hM2, _⟩ := min_nat 80 l
  have hM : (if (80 : Int) < (l : Int) then 80 else (l : Int)) = M := hM
  rw [hM]
  refine slc_pre hM1 hlc ?_
  have hCM := Cam.prefix hC M hM1
  refine ⟨fun m x w' => ∃ (i : Nat) (n : Int) (T : List (Int × Int)), x = i ∧ i ≤ M ∧ m = M - i ∧ n ≤ 16 * i ∧ Calm W w' a b i n T, ⟨M, 0, 0, [], rfl, by omega, rfl, by omega, ⟨h, ⟨by simp, by simp, by simp⟩, by simp⟩⟩, ?_⟩
  clear h hh hv
  rintro m x w1 ⟨i, n, T, rfl, hi, hm, hn, h⟩
  refine br_of (fun hlt => ?_) (fun hge => awake_call fun w2 c2 => ⟨_, rfl, hk w2 (h.two.cc.trans c2)⟩)
  have hlt : i < M := by have := of_decide_eq_true hlt; omega
  refine jn_rule (fun J => ∀ w' n T, n ≤ 16 * ((i : Int) + 1) → Calm W w' a b (i + 1) n T → J w') (fun w' n T hn h => ⟨M - (i + 1), by omega, i + 1, n, T, by rw [wrap64_id (by omega) (by omega)]; omega, by omega, rfl, by omega, h⟩) fun J132 hJ132 => ?_
  obtain ⟨cs, ad, _, hmem, _, hp, _, hcell⟩ := (hCM.chg h.two.cc fun _ _ _ => id).at_ hlt
  obtain ⟨what, id, af, rfl, hw⟩ := hb cs (List.mem_of_mem_take hmem)
  rw [hp]
  refine ⟨by omega, by omega, ?_⟩
  rw [need_some, Int.toNat_natCast]
  refine ⟨_, by have := hcell 0 (by omega); rw [add_zero] at this; exact this, _, hcell 1 (by omega), _, hcell 2 (by omega), al_abs fun r w2 hr hb2 c2 hs2 => stL_abs hb2 (by simp) (by simp [Value.oneCell']) fun w3 hb3 c3 => dr_abs fun w4 _ c4 => ?_⟩
  have hb3 : Blk w3 r [.int .u8 what, iv id, iv af] 32 := hb3
  have hb4 := c4.blk hb3 (fun h => h)
  have c14 : Chg (fun _ => False) w1 w4 := ((c2.none.trans (c3.mono (F' := fun k => w1.heap.size ≤ k) fun k _ hk => by omega)).mono fun k hk h => by omega).trans c4
  have h4 := h.go c14
  clear hcell h
  refine ⟨_, hb4.cell 1, _, hb4.cell 2, ?_⟩
  obtain ⟨k, hk1, hk2⟩ := and_le id 63 63 (by decide) (by omega)
  rw [hk1]
  obtain ⟨s, hs1, hs2⟩ := and_le af 127 127 (by decide) (by omega)
  obtain ⟨t, ht1, ht2⟩ := and_le af 15 15 (by decide) (by omega)
  have hnn := h4.two.A.n0
  refine jn_rule (fun J => ∀ w' n T, n ≤ 16 * ((i : Int) + 1) → Calm W w' a b (i + 1) n T → J w') (fun w5 n T hn h5 => ?_) fun J93 hJ => ?_
  · refine callQ_chg (left_call h5.two.A k fun w6 c6 => ⟨c6, _, _, rfl, ?_⟩)
    have h6 := h5.go c6
    refine callQ_chg (left_call h6.two.B k fun w7 c7 => ⟨c7, _, _, rfl, ?_⟩)
    have h7 := h6.go c7
    have hlen := evT_len T
    have fin : ∀ {Q : Prop}, (J132 w7 → Q) → Q := fun hq => hq (hJ132 w7 n T hn h7)
    refine fin fun hj => ?_
    have tail : callQ Try.prog 20 #[ptr a.b] w7 (fun v100 w => ∃ n101 : Int, v100 = (.int .i64 n101) ∧ callQ Try.prog 20 #[ptr b.b] w fun v102 w => ∃ n103 : Int, v102 = (.int .i64 n103) ∧ br ((n101 : Int) != n103)
        (K (.bool false) w)
        (callQ Try.prog 21 #[ptr b.b] w fun v104 w => ∃ n105 : Int, v104 = (.int .i64 n105) ∧ callQ Try.prog 21 #[ptr a.b] w fun v106 w => ∃ n107 : Int, v106 = (.int .i64 n107) ∧ br (decide ((n105 : Int) > n107))
        (K (.bool false) w)
        (J132 w))) := by
      refine callQ_chg (now_call h7.two.A ⟨Chg.refl _ _, _, rfl, callQ_chg (now_call h7.two.B ⟨Chg.refl _ _, _, rfl, ?_⟩)⟩)
      rw [bne_self_eq_false, br_false]
      refine callQ_chg (len_call h7.two.B ⟨Chg.refl _ _, _, rfl, callQ_chg (len_call h7.two.A ⟨Chg.refl _ _, _, rfl, ?_⟩)⟩)
      rw [decide_eq_false (by omega), br_false]
      exact hj
    have hm := mget_evT T k
    have hl : leftOf (evT T) n k = if evB k then leftOf T n k else 0 := by unfold leftOf; rw [hm]; by_cases hx : evB (k : Int) = true <;> simp [hx]
    cases hev : evB (k : Int) with
    | true =>
      rw [hev, if_pos rfl] at hm hl
      have hev : (Int.tmod (k : Int) 2 == 0) = true := hev
      rw [hm, hl, hev, br_true, bne_self_eq_false, br_false, beq_self_eq_true, Bool.not_true, br_false, br_false]
      exact tail
    | false =>
      rw [hev] at hm hl
      have hev : (Int.tmod (k : Int) 2 == 0) = false := hev
      rw [hev, br_false, Bool.not_false, br_true, hm, if_neg (by simp), Option.isSome_none, br_false]
      exact tail
  refine ⟨_, hb4.cell 0, ?_⟩
  rw [tmod4]
  refine br_of (fun _ => ?_) (fun _ => br_of (fun _ => ?_) (fun _ => ?_))
  · -- set
    have hw : IntKind.wrap .i64 (1 + IntKind.wrap .i64 (((BitVec.ofInt 64 af &&& BitVec.ofInt 64 127).toNat : Nat) : Int)) = ((1 + s : Nat) : Int) := by rw [hs1, wrap64_id (by omega) (by omega)]; omega
    rw [hw]
    have hA := setF_in (n := n) h4.ok.nd h4.ids hk2 (d := ((1 + s : Nat) : Int)) (by omega)
    have hB := setF_in (n := n) h4.ok.ev.nd (fun p hp => h4.ids p (List.mem_filter.1 hp).1) hk2 (d := ((1 + s : Nat) : Int)) (by omega)
    have ok' := h4.ok.set (k : Int) ((1 + s : Nat) : Int)
    rw [hA] at ok'
    have ids' : ∀ p ∈ mdel T (k : Int) ++ [((k : Int), n + ((1 + s : Nat) : Int))], 0 ≤ p.1 ∧ p.1 ≤ 63 := fun p hp => by
      rcases List.mem_append.1 hp with hp | hp
      · exact h4.ids p (mem_mdel.1 hp).1
      · obtain rfl := List.mem_singleton.1 hp; dsimp only; omega
    refine setF_call h4.two.A (by omega) k _ fun w5 H5 c5 => ?_
    rw [hA] at H5 ⊢
    have h5 := h4.two.upA H5 c5
    refine ⟨_, rfl, ?_⟩
    rw [show (((0 : Int), mdel T (k : Int) ++ [((k : Int), n + ((1 + s : Nat) : Int))]).1 != 0) = false from rfl, br_false]
    cases hev : evB (k : Int) with
    | true =>
      rw [show (Int.tmod (k : Int) 2 == 0) = true from hev, br_true]
      refine setF_call h5.B (by omega) k _ fun w6 H6 c6 => ?_
      rw [hB] at H6 ⊢
      refine ⟨_, rfl, ?_⟩
      rw [show (((0 : Int), mdel (evT T) (k : Int) ++ [((k : Int), n + ((1 + s : Nat) : Int))]).1 != 0) = false from rfl, br_false]
      refine hJ w6 n _ (by omega) ⟨?_, ok', ids'⟩
      rw [evT_app, hev, if_pos rfl, evT_mdel]
      exact h5.upB H6 c6
    | false =>
      rw [show (Int.tmod (k : Int) 2 == 0) = false from hev, br_false]
      refine hJ w5 n _ (by omega) ⟨?_, ok', ids'⟩
      rw [evT_app, hev, if_neg (by simp), List.append_nil, evT_mdel_odd T hev]
      exact h5.mono (Nat.le_refl _) (by omega)
  · -- cancel
    refine cancel_call h4.two.A k fun w5 H5 c5 => ⟨_, rfl, ?_⟩
    have h5 := h4.two.upA H5 c5
    have ids' : ∀ p ∈ mdel T (k : Int), 0 ≤ p.1 ∧ p.1 ≤ 63 := fun p hp => h4.ids p (mem_mdel.1 hp).1
    cases hev : evB (k : Int) with
    | true =>
      rw [show (Int.tmod (k : Int) 2 == 0) = true from hev, br_true]
      refine cancel_call h5.B k fun w6 H6 c6 => ⟨_, rfl, ?_⟩
      rw [mget_evT, hev, if_pos rfl, beq_self_eq_true, Bool.not_true, br_false]
      refine hJ w6 n _ (by omega) ⟨?_, h4.ok.del k, ids'⟩
      rw [evT_mdel]
      exact (h5.upB H6 c6).mono (by omega) (by omega)
    | false =>
      rw [show (Int.tmod (k : Int) 2 == 0) = false from hev, br_false]
      refine hJ w5 n _ (by omega) ⟨?_, h4.ok.del k, ids'⟩
      rw [evT_mdel_odd T hev]
      exact h5.mono (by omega) (by omega)
  · -- ticks
    refine ⟨_, hb4.cell 2, ?_⟩
    have hw : IntKind.wrap .i64 (1 + IntKind.wrap .i64 (((BitVec.ofInt 64 af &&& BitVec.ofInt 64 15).toNat : Nat) : Int)) = ((1 + t : Nat) : Int) := by rw [ht1, wrap64_id (by omega) (by omega)]; omega
    rw [hw]
    refine ⟨fun m x w' => ∃ (j : Nat) (T' : List (Int × Int)), x = j ∧ j ≤ 1 + t ∧ m = 1 + t - j ∧ Calm W w' a b i (n + j) T', ⟨1 + t, 0, T, rfl, by omega, rfl, by simpa using h4⟩, ?_⟩
    rintro m x w5 ⟨j, T', rfl, hj, hm, h5⟩
    refine br_of (fun hlt => ?_) (fun hge => ?_)
    · have hlt : j < 1 + t := by have := of_decide_eq_true hlt; omega
      have hln := h5.ok.ln
      refine tickO_call h5.two.A h5.ok (by omega) (by omega) fun w6 p6 n6 d6 hd6 o6 hf6 H6 c6 => ⟨_, _, _, rfl, ?_⟩
      have h6 := h5.two.upA H6 c6
      have hl6 := o6.len
      have := hd6.len
      refine evens_loop o6 (by omega) fun w7 q m d o7 hf7 c7 => ?_
      have h7 := h6.go c7
      have hd7 := hd6.ev
      refine tickO_call h7.B h5.ok.ev (by omega) (by omega) fun w8 p8 n8 d8 hd8 o8 hf8 H8 c8 => ⟨_, _, _, rfl, ?_⟩
      have h8 := h7.upB H8 c8
      have hdd := hd8.eq hd7
      have hl8 := o8.len
      have := hd8.len
      have := evT_len T'
      refine ints_call o8 (Own.chg o7 c8 fun k hk hf => by have := hf7 k hk; have := h6.B.lt hf; omega) (by omega) fun w9 c9 => ⟨_, rfl, ?_⟩
      rw [decide_eq_true hdd, Bool.not_true, br_false, wrap64_id (by omega) (by omega)]
      have e1 : n + ((j + 1 : Nat) : Int) = n + j + 1 := by omega
      refine ⟨1 + t - (j + 1), by omega, j + 1, tickT T' (n + j + 1), by omega, by omega, rfl, ?_⟩
      rw [e1]
      refine ⟨?_, h5.ok.tick, fun p hp => h5.ids p (List.mem_filter.1 hp).1⟩
      rw [evT_tick]
      exact h8.go c9
    · have hge : j = 1 + t := by have := of_decide_eq_false hge; omega
      subst hge
      exact hJ w5 _ T' (by omega) ⟨h5.two.mono (by omega) (by omega), h5.ok, h5.ids⟩
end Go.Proofs.Ytibalkkiefgljaa
