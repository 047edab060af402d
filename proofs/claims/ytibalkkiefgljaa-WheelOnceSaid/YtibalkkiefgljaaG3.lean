/- WheelSlots. -/
import Derived.Test.YtibalkkiefgljaaF7
import Derived.Test.YtibalkkiefgljaaD4
namespace Go.Proofs.Ytibalkkiefgljaa
open Go Go.Sh

/-- A step that came in: its cells. -/
def Opd (cs : List Value) : Prop := ∃ (n : Nat) (i a : Int), cs = [.int .u8 n, iv i, iv a] ∧ n < 256
theorem and15 (a : Int) : ∃ k : Nat, IntKind.wrap .i64 (1 + IntKind.wrap .i64 (((BitVec.ofInt 64 a &&& BitVec.ofInt 64 15).toNat : Nat) : Int)) = k ∧ 1 ≤ k ∧ k ≤ 16 := by
  have h : (BitVec.ofInt 64 a &&& BitVec.ofInt 64 15).toNat ≤ 15 := by
    rw [BitVec.toNat_and]
    exact Nat.le_trans Nat.and_le_right (by decide)
  generalize (BitVec.ofInt 64 a &&& BitVec.ofInt 64 15).toNat = m at h
  exact ⟨1 + m, by rw [wrap64_id (n := (m : Int)) (by omega) (by omega), wrap64_id (by omega) (by omega)]; omega, by omega, by omega⟩
theorem tmod4 (n : Nat) : Int.tmod (n : Int) 4 = ((n % 4 : Nat) : Int) := by rw [Int.tmod_eq_emod_of_nonneg (by omega)]; rfl

theorem nodup_len : ∀ {l m : List Int}, l.Pairwise (· ≠ ·) → (∀ x ∈ l, x ∈ m) → l.length ≤ m.length
  | [], _, _, _ => Nat.zero_le _
  | a :: l, m, h, hs => by
    have hm := hs a (by simp)
    have := nodup_len (l := l) (m := m.erase a) (List.pairwise_cons.1 h).2 fun x hx => (List.mem_erase_of_ne fun e => (List.pairwise_cons.1 h).1 x hx e.symm).2 (hs x (by simp [hx]))
    rw [List.length_erase_of_mem hm] at this
    have := List.length_pos_of_mem hm
    rw [List.length_cons]; omega

set_option maxHeartbeats 1000000 in
theorem slots_law {W : World} (x1 x2 : Nat) (h1 : x1 < 65536) (h2 : x2 < 65536) (room : Nat) (hr : room < 256) {p : Option Addr} {l c : Nat} (hlc : l ≤ c) {C : List (List Value)} (hC : Cam W 3 p l C) (hb : ∀ cs ∈ C, Opd cs) {K : Value → World → Prop}
    (hk : ∀ w', Chg (fun _ => False) W w' → K (.bool true) w') : callV Try.prog 5 #[.int .u16 x1, .int .u16 x2, .int .u8 room, .slice p l c] W K := by
  refine ok5 ?_
  unfold S5
  have e : ∀ x : Nat, IntKind.wrap .i64 (1 + IntKind.wrap .i64 (Int.tmod (x : Int) 1024)) = ((1 + x % 1024 : Nat) : Int) := fun x => by
    rw [Int.tmod_eq_emod_of_nonneg (by omega), wrap64_id (n := (x : Int) % 1024) (by omega) (by omega), wrap64_id (by omega) (by omega)]; omega
  rw [e, e, wrap64_id (n := (room : Int)) (by omega) (by omega)]
  refine callQ_mono (two_new (K := fun a b w => _) ⟨by omega, by omega⟩ ⟨by omega, by omega⟩ ⟨by omega, by omega⟩ ⟨by omega, by omega⟩ fun w a b h => h) fun v w ⟨a, hv, hh⟩ => ⟨_, _, hv, callQ_mono hh fun v w ⟨b, hv, h⟩ => ⟨_, _, hv, ?_⟩⟩
  rw [show ((0 : Int) != 0) = false from rfl, br_false, br_false]
  obtain ⟨M, hM, hM1, hM2, _⟩ := min_nat 60 l
  have hM : (if (60 : Int) < (l : Int) then 60 else (l : Int)) = M := hM
  rw [hM]
  refine slc_pre hM1 hlc ?_
  have hCM := Cam.prefix hC M hM1
  refine ⟨fun m x w' => ∃ (i : Nat) (n : Int) (Na Nb : Nat) (T : List (Int × Int)), x = i ∧ i ≤ M ∧ m = M - i ∧ n ≤ 16 * i ∧ Na ≤ i ∧ Nb ≤ i ∧ Ok room n T ∧ Two W w' a b Na Nb room room n n T T, ⟨M, 0, 0, 0, 0, [], rfl, by omega, rfl, by omega, by omega, by omega, ⟨by simp, by simp, by simp⟩, h⟩, ?_⟩
  clear h hh hv
  rintro m x w1 ⟨i, n, Na, Nb, T, rfl, hi, hm, hn, hNa, hNb, ok, h⟩
  refine br_of (fun hlt => ?_) (fun hge => awake_call fun w2 c2 => ⟨_, rfl, hk w2 (h.cc.trans c2)⟩)
  have hlt : i < M := by have := of_decide_eq_true hlt; omega
  obtain ⟨cs, ad, _, hmem, _, hp, _, hcell⟩ := (hCM.chg h.cc fun _ _ _ => id).at_ hlt
  obtain ⟨what, id, af, rfl, hw⟩ := hb cs (List.mem_of_mem_take hmem)
  rw [hp]
  refine ⟨by omega, by omega, ?_⟩
  rw [need_some, Int.toNat_natCast]
  refine ⟨_, by have := hcell 0 (by omega); rw [add_zero] at this; exact this, _, hcell 1 (by omega), _, hcell 2 (by omega), al_abs fun r w2 hr hb2 c2 hs2 => stL_abs hb2 (by simp) (by simp [Value.oneCell']) fun w3 hb3 c3 => ?_⟩
  have hb3 : Blk w3 r [.int .u8 what, iv id, iv af] 32 := hb3
  have c13 : Chg (fun _ => False) w1 w3 := (c2.none.trans (c3.mono (F' := fun k => w1.heap.size ≤ k) fun k _ hk => by omega)).mono fun k hk h => by omega
  have hnr : ¬ a.fp r ∧ ¬ b.fp r := ⟨fun hf => by have := h.A.lt hf; omega, fun hf => by have := h.B.lt hf; omega⟩
  have h3 := h.go c13
  clear hcell h
  have hnn := h3.A.n0
  refine jn_rule (fun J => ∀ w' n' Na' Nb' T', n' ≤ 16 * ((i : Int) + 1) → Na' ≤ i + 1 → Nb' ≤ i + 1 → Ok room n' T' → Two W w' a b Na' Nb' room room n' n' T' T' → J w') (fun w4 n' Na' Nb' T' hn' hNa' hNb' ok' h4 => ?_) fun J92 hJ => ?_
  · refine callQ_chg (len_call h4.A ⟨Chg.refl _ _, _, rfl, callQ_chg (len_call h4.B ⟨Chg.refl _ _, _, rfl, ?_⟩)⟩)
    rw [bne_self_eq_false, br_false]
    refine callQ_chg (len_call h4.A ⟨Chg.refl _ _, _, rfl, ?_⟩)
    have hln := ok'.ln
    rw [wrap64_id (by omega) (by omega), decide_eq_false (by omega), br_false]
    refine callQ_chg (now_call h4.A ⟨Chg.refl _ _, _, rfl, callQ_chg (now_call h4.B ⟨Chg.refl _ _, _, rfl, ?_⟩)⟩)
    rw [bne_self_eq_false, br_false, wrap64_id (by omega) (by omega)]
    exact ⟨M - (i + 1), by omega, i + 1, n', Na', Nb', T', by omega, by omega, rfl, by omega, hNa', hNb', ok', h4⟩
  refine ⟨_, hb3.cell 0, ?_⟩
  rw [tmod4]
  refine br_of (fun _ => ?_) (fun _ => br_of (fun _ => ?_) (fun _ => ?_))
  · -- set
    refine dr_abs fun w4 _ c4 => ?_
    have h4 := h3.go c4
    have hb4 := c4.blk hb3 (fun h => h)
    have sA : ∀ {Q : Value → World → Prop}, (∀ w5, Two W w5 a b (Na + 1) Nb room room n n (setF room n T id af).2 T → Blk w5 r [.int .u8 what, iv id, iv af] 32 → Q (iv (setF room n T id af).1) w5) → callV Try.prog 12 #[ptr a.b, iv id, iv af] w4 Q := fun hQ =>
      setF_call h4.A (by omega) id af fun w5 H5 c5 => hQ w5 (h4.upA H5 c5) (h4.keep hb4 hnr c5 (.inl fun _ h => h))
    have sB : ∀ {Q : Value → World → Prop} {w5}, Two W w5 a b (Na + 1) Nb room room n n (setF room n T id af).2 T → (∀ w6, J92 w6 → Q (iv (setF room n T id af).1) w6) → callV Try.prog 12 #[ptr b.b, iv id, iv af] w5 Q := fun h5 hQ =>
      setF_call h5.B (by omega) id af fun w6 H6 c6 => hQ w6 (hJ w6 n (Na + 1) (Nb + 1) _ (by omega) (by omega) (by omega) (ok.set id af) (h5.upB H6 c6))
    have fin : ∀ w6 (e : Int), J92 w6 → br (e != e) (K (.bool false) w6) (J92 w6) := fun w6 e hj => by rw [bne_self_eq_false, br_false]; exact hj
    refine ⟨_, hb4.cell 1, _, hb4.cell 2, sA fun w5 h5 hb5 => ⟨_, rfl, _, hb5.cell 1, _, hb5.cell 2, sB h5 fun w6 hj => ⟨_, rfl, fin _ _ hj⟩⟩, ⟨_, hb4.cell 1, sA fun w5 h5 hb5 => ⟨_, rfl, _, hb5.cell 2, sB h5 fun w6 hj => ⟨_, rfl, fin _ _ hj⟩⟩, _, hb4.cell 2, sA fun w5 h5 hb5 => ⟨_, rfl, sB h5 fun w6 hj => ⟨_, rfl, fin _ _ hj⟩⟩⟩, _, hb4.cell 2, sA fun w5 h5 hb5 => ⟨_, rfl, _, hb5.cell 1, sB h5 fun w6 hj => ⟨_, rfl, fin _ _ hj⟩⟩, _, hb4.cell 1, sA fun w5 h5 hb5 => ⟨_, rfl, sB h5 fun w6 hj => ⟨_, rfl, fin _ _ hj⟩⟩⟩
  · -- cancel
    refine dr_abs fun w4 _ c4 => ?_
    have h4 := h3.go c4
    have hb4 := c4.blk hb3 (fun h => h)
    have sA : ∀ {Q : Value → World → Prop}, (∀ w5, Two W w5 a b Na Nb room room n n (mdel T id) T → Blk w5 r [.int .u8 what, iv id, iv af] 32 → Q (.bool (mget T id).isSome) w5) → callV Try.prog 14 #[ptr a.b, iv id] w4 Q := fun hQ =>
      cancel_call h4.A id fun w5 H5 c5 => hQ w5 (h4.upA H5 c5) (h4.keep hb4 hnr c5 (.inl fun _ h => h))
    have sB : ∀ {Q : Value → World → Prop} {w5}, Two W w5 a b Na Nb room room n n (mdel T id) T → (∀ w6, J92 w6 → Q (.bool (mget T id).isSome) w6) → callV Try.prog 14 #[ptr b.b, iv id] w5 Q := fun h5 hQ =>
      cancel_call h5.B id fun w6 H6 c6 => hQ w6 (hJ w6 n Na Nb _ (by omega) (by omega) (by omega) (ok.del id) (h5.upB H6 c6))
    have fin : ∀ w6 (e : Bool), J92 w6 → br (!(e == e)) (K (.bool false) w6) (J92 w6) := fun w6 e hj => by rw [beq_self_eq_true, Bool.not_true, br_false]; exact hj
    exact ⟨_, hb4.cell 1, sA fun w5 h5 hb5 => ⟨_, rfl, _, hb5.cell 1, sB h5 fun w6 hj => ⟨_, rfl, fin _ _ hj⟩⟩, _, hb4.cell 1, sA fun w5 h5 hb5 => ⟨_, rfl, sB h5 fun w6 hj => ⟨_, rfl, fin _ _ hj⟩⟩⟩
  · -- ticks
    refine ⟨_, hb3.cell 2, ?_⟩
    obtain ⟨tk, htk, htk1, htk2⟩ := and15 af
    rw [htk]
    refine ⟨fun m x w' => ∃ (j : Nat) (T' : List (Int × Int)), x = j ∧ j ≤ tk ∧ m = tk - j ∧ Ok room (n + j) T' ∧ Two W w' a b Na Nb room room (n + j) (n + j) T' T', ⟨tk, 0, T, rfl, by omega, rfl, by simpa using ok, by simpa using h3⟩, ?_⟩
    rintro m x w4 ⟨j, T', rfl, hj, hm, ok4, h4⟩
    refine br_of (fun hlt => ?_) (fun hge => ?_)
    · have hlt : j < tk := by have := of_decide_eq_true hlt; omega
      refine tickO_call h4.A ok4 (by omega) (by omega) fun w5 p5 n5 d5 hd5 o5 hf5 H5 c5 => ⟨_, _, _, rfl, ?_⟩
      have h5 := h4.upA H5 c5
      have hfp : ∀ k, inB p5 k → ¬ b.fp k := fun k hk hf => by have := hf5 k hk; have := h4.B.lt hf; omega
      refine tickO_call h5.B ok4 (by omega) (by omega) fun w6 p6 n6 d6 hd6 o6 hf6 H6 c6 => ⟨_, _, _, rfl, ?_⟩
      have h6 := h5.upB H6 c6
      have hdd := hd5.eq hd6
      subst hdd
      refine ints_call (Own.chg o5 c6 hfp) o6 (by have := o5.len; have := ok4.ln; have : d5.length ≤ T'.length := by
                                                                            simpa using nodup_len (m := T'.map (·.1)) (hd5.st.imp fun h => by omega) fun x hx => List.mem_map.2 ⟨(x, _), mget_some ((hd5.mem x).1 hx), rfl⟩
                                                  omega) fun w7 c7 => ⟨_, rfl, ?_⟩
      rw [decide_eq_true rfl, Bool.not_true, br_false, wrap64_id (by omega) (by omega)]
      have e1 : n + ((j + 1 : Nat) : Int) = n + j + 1 := by omega
      refine ⟨tk - (j + 1), by omega, j + 1, tickT T' (n + j + 1), by omega, by omega, rfl, ?_, ?_⟩
      · rw [e1]; exact ok4.tick
      · rw [e1]; exact h6.go c7
    · have hge : j = tk := by have := of_decide_eq_false hge; omega
      subst hge
      exact hJ w4 (n + j) Na Nb T' (by omega) (by omega) (by omega) ok4 h4
end Go.Proofs.Ytibalkkiefgljaa
