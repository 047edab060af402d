/- WheelTells. -/
import Derived.Test.YtibalkkiefgljaaF10
import Derived.Test.YtibalkkiefgljaaG3
namespace Go.Proofs.Ytibalkkiefgljaa
open Go Go.Sh

/-- The wheel beside the reference, made behind W. -/
structure Tel (W w : World) (h : WH) (r N : Nat) (most n n' : Int) (T S : List (Int × Int)) : Prop where
  H : Wh w h N most n T
  bl : ∃ q m d, Blk w r [iv n', iv most, .slice q m d] 30 ∧ TO w q m d S ∧ (∀ k, inB q k → ¬ h.fp k ∧ k ≠ r)
  nr : ¬ h.fp r
  lo : ∀ k, h.fp k ∨ k = r → W.heap.size ≤ k
  cc : Chg (fun _ => False) W w
section
variable {W w w' : World} {h : WH} {r N N' : Nat} {most n n' n2 : Int} {T S T' : List (Int × Int)}
theorem Tel.go (H : Tel W w h r N most n n' T S) (c : Chg (fun _ => False) w w') : Tel W w' h r N most n n' T S := by
  obtain ⟨q, m, d, h1, h2, h3⟩ := H.bl
  exact ⟨H.H.go c, ⟨q, m, d, c.blk h1 (fun h => h), h2.go c, h3⟩, H.nr, H.lo, H.cc.trans c⟩
theorem Tel.upH (H : Tel W w h r N most n n' T S) (hA : Wh w' h N' most n2 T') (c : Chg h.fp w w') : Tel W w' h r N' most n2 n' T' S := by
  obtain ⟨q, m, d, h1, h2, h3⟩ := H.bl
  exact ⟨hA, ⟨q, m, d, c.blk h1 H.nr, h2.chg c fun k hk => (h3 k hk).1, h3⟩, H.nr, H.lo, (H.cc.none.trans (c.mono (F' := fun k => W.heap.size ≤ k) fun k _ hk => H.lo k (.inl hk))).mono fun k hk h => by omega⟩
theorem Tel.upR (H : Tel W w h r N most n n' T S) (c : Chg (fun k => k = r) w w') {q : Option Addr} {m d : Nat} (hb : Blk w' r [iv n2, iv most, .slice q m d] 30) (ht : TO w' q m d T') (hs : ∀ k, inB q k → ¬ h.fp k ∧ k ≠ r) : Tel W w' h r N most n n2 T T' :=
  ⟨H.H.chg c fun k hk e => H.nr (e ▸ hk), ⟨q, m, d, hb, ht, hs⟩, H.nr, H.lo, (H.cc.none.trans (c.mono (F' := fun k => W.heap.size ≤ k) fun k _ hk => H.lo k (.inr hk))).mono fun k hk h => by omega⟩
theorem Tel.mono (H : Tel W w h r N most n n' T S) (hN : N ≤ N') : Tel W w h r N' most n n' T S := ⟨H.H.mono hN, H.bl, H.nr, H.lo, H.cc⟩
end
theorem keep_rule {w : World} {r : Nat} {c0 c1 c2 : Value} (hb : Blk w r [c0, c1, c2] 30) (n m : Int) (q : Option Addr) (l d : Nat) {k : World → Prop} (hk : ∀ w', Blk w' r [iv n, iv m, .slice q l d] 30 → Chg (fun k => k = r) w w' → k w') :
    al w (.cells #[iv 0, iv 0, .slice none 0 0] 30) fun r44 w => stL w ⟨r44, 0, none⟩ 0 [iv n, iv m, .slice q l d] fun w => ∃ n45 : Int, w.cell? ⟨r44, 0, none⟩ = some (iv n45) ∧ ∃ n46 : Int, w.cell? ⟨r44, 1, none⟩ = some (iv n46) ∧ ∃ (p47 : Option Addr) (l48 c49 : Nat), w.cell? ⟨r44, 2, none⟩ = some (.slice p47 l48 c49) ∧ stL w ⟨r, 0, none⟩ 0 [iv n45, iv n46, .slice p47 l48 c49] k := by
  refine al_abs fun r1 w1 hr1 hb1 cc1 hs1 => stL_abs hb1 (by simp) (by simp [Value.oneCell']) fun w2 hb2 cc2 => ?_
  have hb2 : Blk w2 r1 [iv n, iv m, .slice q l d] 30 := hb2
  have hlt := hb.lt
  refine ⟨_, hb2.cell 0, _, hb2.cell 1, _, _, _, hb2.cell 2, stL_abs (cc2.blk (cc1.blk hb (fun h => h)) (by omega)) (by simp) (by simp [Value.oneCell']) fun w3 hb3 cc3 => hk w3 hb3 ?_⟩
  exact (cc1.none.trans ((cc2.mono (F' := fun k => k = r ∨ w.heap.size ≤ k) fun k _ hk => .inr (by omega)).trans (cc3.mono fun k _ hk => .inl hk))).mono fun k hk h => by omega

set_option maxHeartbeats 1000000 in
theorem tells_law {W : World} (x1 x2 : Int) {p : Option Addr} {l c : Nat} (hlc : l ≤ c) {C : List (List Value)} (hC : Cam W 3 p l C) (hb : ∀ cs ∈ C, Opd cs) {K : Value → World → Prop}
    (hk : ∀ w', Chg (fun _ => False) W w' → K (.bool true) w') : callV Try.prog 3 #[iv x1, iv x2, .slice p l c] W K := by
  refine ok3 ?_
  unfold S3
  have cond : ∀ {J : Bool → World → Prop} {w : World}, (J (decide (x1 < 1 ∨ x1 > 1024 ∨ x2 < 0 ∨ x2 > 1024)) w) → br (decide ((x1 : Int) < 1)) (J true w) (br (decide ((x1 : Int) > 1024)) (J true w) (br (decide ((x2 : Int) < 0)) (J true w) (J (decide ((x2 : Int) > 1024)) w))) := fun {J w} hj => by
    refine br_of (fun h1 => ?_) (fun h1 => br_of (fun h2 => ?_) (fun h2 => br_of (fun h3 => ?_) (fun h3 => ?_)))
    · have := of_decide_eq_true h1; rw [decide_eq_true (by omega)] at hj; exact hj
    · have := of_decide_eq_true h2; rw [decide_eq_true (by omega)] at hj; exact hj
    · have := of_decide_eq_true h3; rw [decide_eq_true (by omega)] at hj; exact hj
    · have h1 := of_decide_eq_false h1; have h2 := of_decide_eq_false h2; have h3 := of_decide_eq_false h3
      have : decide (x1 < 1 ∨ x1 > 1024 ∨ x2 < 0 ∨ x2 > 1024) = decide (x2 > 1024) := by
        by_cases h4 : x2 > 1024
        · rw [decide_eq_true h4, decide_eq_true (by omega)]
        · rw [decide_eq_false h4, decide_eq_false (by omega)]
      rw [this] at hj; exact hj
  by_cases hbad : x1 < 1 ∨ x1 > 1024 ∨ x2 < 0 ∨ x2 > 1024
  · refine callQ_chg (new_bad hbad ⟨Chg.refl _ _, _, _, rfl, jn_rule (fun J => J true W) ?_ fun J hJ => cond ?_⟩)
    · rw [br_true, show ((2 : Int) == 2) = true from rfl, br_true]
      exact awake_call fun w2 c2 => ⟨_, rfl, hk w2 c2⟩
    · rw [decide_eq_true hbad]; exact hJ
  obtain ⟨s, rfl⟩ : ∃ s : Nat, x1 = s := ⟨x1.toNat, by omega⟩
  refine callQ_chg (new_call (S := s) (m := x2) (by omega) (by omega) (by omega) (by omega) fun w1 h H hS hfp c1 => ⟨c1, _, _, rfl, jn_rule (fun J => J false w1) ?_ fun J hJ => cond ?_⟩)
  rotate_left
  · rw [decide_eq_false hbad]; exact hJ
  rw [br_false, show ((0 : Int) != 0) = false from rfl, br_false]
  refine al_abs fun r w2 hr hb2 c2 hs2 => stL_abs hb2 (by simp) (by simp [Value.oneCell']) fun w3 hb3 c3 => ?_
  have hb3 : Blk w3 r [iv 0, iv x2, .slice none 0 0] 30 := hb3
  have hs1 := c1.size
  have tel : Tel W w3 h r 0 x2 0 0 [] [] := by
    have hnr : ¬ h.fp r := fun hf => by have := H.lt hf; omega
    refine ⟨(H.go c2).chg c3 fun k hk e => hnr (e ▸ hk), ⟨_, _, _, hb3, TO.nil _, fun k hk => none_inB hk⟩, hnr, fun k hk => ?_, (c1.none.trans (c2.none.trans (c3.mono (F' := fun k => W.heap.size ≤ k) fun k _ hk => by omega))).mono fun k hk h => by omega⟩
    rcases hk with hk | hk
    · exact hfp k hk
    · omega
  clear hb2 c2 c3 hs2 hb3 H hfp c1 hr hs1 hS
  obtain ⟨M, hM, hM1, hM2, _⟩ := min_nat 60 l
  have hM : (if (60 : Int) < (l : Int) then 60 else (l : Int)) = M := hM
  rw [hM]
  refine slc_pre hM1 hlc ?_
  have hCM := Cam.prefix hC M hM1
  refine ⟨fun m x w' => ∃ (i N : Nat) (n : Int) (T : List (Int × Int)), x = i ∧ i ≤ M ∧ m = M - i ∧ n ≤ 16 * i ∧ N ≤ i ∧ Ok x2 n T ∧ Tel W w' h r N x2 n n T T, ⟨M, 0, 0, 0, [], rfl, by omega, rfl, by omega, by omega, ⟨by simp, by simp; omega, by simp⟩, tel⟩, ?_⟩
  clear tel
  rintro m x w4 ⟨i, N, n, T, rfl, hi, hm, hn, hN, ok, tel⟩
  refine br_of (fun hlt => ?_) (fun hge => awake_call fun w5 c5 => ⟨_, rfl, hk w5 (tel.cc.trans c5)⟩)
  have hlt : i < M := by have := of_decide_eq_true hlt; omega
  obtain ⟨cs, ad, _, hmem, _, hp, _, hcell⟩ := (hCM.chg tel.cc fun _ _ _ => id).at_ hlt
  obtain ⟨what, id, af, rfl, hw⟩ := hb cs (List.mem_of_mem_take hmem)
  rw [hp]
  refine ⟨by omega, by omega, ?_⟩
  rw [need_some, Int.toNat_natCast]
  refine ⟨_, by have := hcell 0 (by omega); rw [add_zero] at this; exact this, _, hcell 1 (by omega), _, hcell 2 (by omega), al_abs fun r1 w5 hr1 hb5 c5 hs5 => stL_abs hb5 (by simp) (by simp [Value.oneCell']) fun w6 hb6 c6 => ?_⟩
  have hb6 : Blk w6 r1 [.int .u8 what, iv id, iv af] 32 := hb6
  have c46 : Chg (fun _ => False) w4 w6 := (c5.none.trans (c6.mono (F' := fun k => w4.heap.size ≤ k) fun k _ hk => by omega)).mono fun k hk h => by omega
  have hn1 : ¬ h.fp r1 := fun hf => by have := tel.H.lt hf; omega
  have hr1r : r1 ≠ r := fun e => by obtain ⟨_, _, _, hbl, _⟩ := tel.bl; have := hbl.lt; omega
  have tel6 := tel.go c46
  clear hcell tel c5 c6 hb5 hs5 hr1 c46
  refine jn_rule (fun J => ∀ w' N' n' T', n' ≤ 16 * ((i : Int) + 1) → N' ≤ i + 1 → Ok x2 n' T' → Tel W w' h r N' x2 n' n' T' T' → Blk w' r1 [.int .u8 what, iv id, iv af] 32 → J w') (fun w7 N' n' T' hn' hN' ok' tel7 hb7 => ?_) fun J113 hJ => ?_
  · have hln := ok'.ln
    have hnn := tel7.H.n0
    refine ⟨_, hb7.cell 1, callQ_chg (left_call tel7.H id fun w8 c8 => ⟨c8, _, _, rfl, ?_⟩)⟩
    have tel8 := tel7.go c8
    obtain ⟨q, m, d, k1, k2, k3⟩ := tel8.bl
    have hq := k2.len
    refine ⟨_, k1.cell 0, ?_⟩
    rw [add_lit, add_lit]
    refine ⟨_, k1.cell 1, _, _, _, k1.cell 2, _, (c8.blk hb7 (fun h => h)).cell 1, callQ_chg (rleft_call k2 ok'.nd (by omega) hnn (fun p hp => by have := tel8.H.tm p hp; omega) id fun w9 c9 => ⟨c9, _, _, rfl, dr_abs fun w10 _ c10 => ?_⟩)⟩
    rw [bne_self_eq_false, br_false, beq_self_eq_true, Bool.not_true, br_false]
    have c810 := c9.trans c10
    have tel10 := tel8.go c810
    have k10 := c810.blk k1 (fun h => h)
    refine ⟨_, k10.cell 0, callQ_chg (now_call tel10.H ⟨Chg.refl _ _, _, rfl, ?_⟩)⟩
    rw [bne_self_eq_false, br_false]
    refine ⟨_, _, _, k10.cell 2, callQ_chg (len_call tel10.H ⟨Chg.refl _ _, _, rfl, ?_⟩)⟩
    rw [hq, bne_self_eq_false, br_false, wrap64_id (by omega) (by omega)]
    exact ⟨M - (i + 1), by omega, i + 1, N', n', T', by omega, by omega, rfl, by omega, hN', ok', tel10⟩
  have hnn := tel6.H.n0
  have hln := ok.ln
  refine ⟨_, hb6.cell 0, ?_⟩
  rw [tmod4]
  refine br_of (fun _ => ?_) (fun _ => br_of (fun _ => ?_) (fun _ => ?_))
  · -- set
    obtain ⟨q, m, d, k1, k2, k3⟩ := tel6.bl
    have hq := k2.len
    refine ⟨_, k1.cell 0, ?_⟩
    rw [add_lit, add_lit]
    refine ⟨_, k1.cell 1, _, _, _, k1.cell 2, _, hb6.cell 1, _, hb6.cell 2, callQ_chg (rset_call k2 ok.nd (by omega) hnn id af fun w7 q7 m7 d7 h7 hf7 c7 => ⟨c7, _, _, _, _, _, _, rfl, ?_⟩)⟩
    have tel7 := tel6.go c7
    refine keep_rule (c7.blk k1 (fun h => h)) _ _ _ _ _ fun w8 hb8 c8 => ?_
    have hsep : ∀ k, inB q7 k → ¬ h.fp k ∧ k ≠ r := fun k hk => by
      rcases hf7 k hk with hh | hh
      · exact k3 k hh
      · exact ⟨fun hf => by have := tel6.H.lt hf; omega, fun e => by have := k1.lt; omega⟩
    have tel8 := tel7.upR c8 hb8 (h7.chg c8 fun k hk e => (hsep k hk).2 e) hsep
    have hb18 := c8.blk (c7.blk hb6 (fun h => h)) hr1r
    refine ⟨_, hb18.cell 1, _, hb18.cell 2, setF_call tel8.H (by omega) id af fun w9 H9 c9 => ⟨_, rfl, ?_⟩⟩
    rw [bne_self_eq_false, br_false]
    exact hJ w9 (N + 1) n _ (by omega) (by omega) (ok.set id af) (tel8.upH H9 c9) (c9.blk hb18 hn1)
  · -- cancel
    obtain ⟨q, m, d, k1, k2, k3⟩ := tel6.bl
    have hq := k2.len
    refine ⟨_, k1.cell 0, ?_⟩
    rw [add_lit, add_lit]
    refine ⟨_, k1.cell 1, _, _, _, k1.cell 2, _, hb6.cell 1, callQ_chg (rcancel_call k2 ok.nd (by omega) id fun w7 q7 m7 d7 h7 hf7 c7 => ⟨c7, _, _, _, _, _, _, rfl, ?_⟩)⟩
    have tel7 := tel6.go c7
    refine keep_rule (c7.blk k1 (fun h => h)) _ _ _ _ _ fun w8 hb8 c8 => ?_
    have hsep : ∀ k, inB q7 k → ¬ h.fp k ∧ k ≠ r := fun k hk =>
      ⟨fun hf => by have := hf7 k hk; have := tel6.H.lt hf; omega, fun e => by have := hf7 k hk; have := k1.lt; omega⟩
    have tel8 := tel7.upR c8 hb8 (h7.chg c8 fun k hk e => (hsep k hk).2 e) hsep
    have hb18 := c8.blk (c7.blk hb6 (fun h => h)) hr1r
    refine ⟨_, hb18.cell 1, cancel_call tel8.H id fun w9 H9 c9 => ⟨_, rfl, ?_⟩⟩
    rw [beq_self_eq_true, Bool.not_true, br_false]
    exact hJ w9 N n _ (by omega) (by omega) (ok.del id) (tel8.upH H9 c9) (c9.blk hb18 hn1)
  · -- ticks
    refine ⟨_, hb6.cell 2, ?_⟩
    obtain ⟨tk, htk, htk1, htk2⟩ := and15 af
    rw [htk]
    refine ⟨fun m x w' => ∃ (j : Nat) (T' : List (Int × Int)), x = j ∧ j ≤ tk ∧ m = tk - j ∧ Ok x2 (n + j) T' ∧ Tel W w' h r N x2 (n + j) (n + j) T' T' ∧ Blk w' r1 [.int .u8 what, iv id, iv af] 32, ⟨tk, 0, T, rfl, by omega, rfl, by simpa using ok, by simpa using tel6, hb6⟩, ?_⟩
    rintro m x w7 ⟨j, T', rfl, hj, hm, ok7, tel7, hb7⟩
    refine br_of (fun hlt => ?_) (fun hge => ?_)
    · have hlt : j < tk := by have := of_decide_eq_true hlt; omega
      have hln7 := ok7.ln
      have hn7 := tel7.H.n0
      obtain ⟨q, m, d, k1, k2, k3⟩ := tel7.bl
      have hq := k2.len
      refine ⟨_, k1.cell 0, ?_⟩
      rw [add_lit, add_lit]
      refine ⟨_, k1.cell 1, _, _, _, k1.cell 2, callQ_chg (rtick_call k2 ok7.nd (by omega) (by omega) (fun p hp => by have := tel7.H.tm p hp; have := ok7.ah p hp; omega) fun w8 q8 m8 d8 q9 m9 d9 ds h8 hf8 hdue o8 hf9 c8 => ⟨c8, _, _, _, _, _, _, _, _, rfl, ?_⟩)⟩
      have tel8 := tel7.go c8
      refine keep_rule (c8.blk k1 (fun h => h)) _ _ _ _ _ fun w9 hb9 c9 => ?_
      have hsep : ∀ k, inB q8 k → ¬ h.fp k ∧ k ≠ r := fun k hk => by
        rcases hf8 k hk with hh | hh
        · exact k3 k hh
        · exact ⟨fun hf => by have := tel7.H.lt hf; omega, fun e => by have := k1.lt; omega⟩
      have hsep9 : ∀ k, inB q9 k → ¬ h.fp k ∧ k ≠ r := fun k hk =>
        ⟨fun hf => by have := hf9 k hk; have := tel7.H.lt hf; omega, fun e => by have := hf9 k hk; have := k1.lt; omega⟩
      have tel9 := tel8.upR c9 hb9 (h8.chg c9 fun k hk e => (hsep k hk).2 e) hsep
      have o9 : ON w9 q9 m9 d9 ds := Own.chg o8 c9 fun k hk e => (hsep9 k hk).2 e
      have hb19 := c9.blk (c8.blk hb7 (fun h => h)) hr1r
      refine tickO_call tel9.H ok7 (by omega) (by omega) fun w10 p10 n10 d10 hd10 o10 hf10 H10 c10 => ⟨_, _, _, rfl, ?_⟩
      have tel10 := tel9.upH H10 c10
      have hdd := hd10.eq hdue
      have hl10 := o10.len
      have := hd10.len
      refine ints_call o10 (Own.chg o9 c10 fun k hk hf => (hsep9 k hk).1 hf) (by omega) fun w11 c11 => ⟨_, rfl, ?_⟩
      rw [decide_eq_true hdd, Bool.not_true, br_false, wrap64_id (by omega) (by omega)]
      have e1 : n + ((j + 1 : Nat) : Int) = n + j + 1 := by omega
      refine ⟨tk - (j + 1), by omega, j + 1, tickT T' (n + j + 1), by omega, by omega, rfl, ?_, ?_, c11.blk (c10.blk hb19 hn1) (fun h => h)⟩
      · rw [e1]; exact ok7.tick
      · rw [e1]; exact tel10.go c11
    · have hge : j = tk := by have := of_decide_eq_false hge; omega
      subst hge
      exact hJ w7 N _ T' (by omega) (by omega) ok7 tel7 hb7
end Go.Proofs.Ytibalkkiefgljaa
