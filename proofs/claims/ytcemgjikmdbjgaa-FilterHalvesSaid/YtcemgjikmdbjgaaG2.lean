/- FilterCovers. -/
import Derived.Test.YtcemgjikmdbjgaaF6
import Derived.Test.YtcemgjikmdbjgaaD3
namespace Go.Proofs.Ytcemgjikmdbjgaa
open Go Go.Sh Go.Flt

theorem shl1 {k : Nat} (hk : k < 32) : IntKind.wrap .u32 (1 * 2 ^ (min ((k : Int).toNat) (IntKind.bits .u32))) = (((1#32 <<< k) : BitVec 32).toNat : Int) := by
  have h1 : min ((k : Int).toNat) (IntKind.bits .u32) = k := by rw [Int.toNat_natCast]; show min k 32 = k; omega
  have h2 : 2 ^ k < 2 ^ 32 := Nat.pow_lt_pow_right (by omega) hk
  rw [h1, BitVec.toNat_shiftLeft]
  have h3 : (1#32).toNat <<< k = 2 ^ k := by rw [Nat.shiftLeft_eq]; simp
  rw [h3, Nat.mod_eq_of_lt h2, Int.one_mul, wrapU32_id (Int.le_of_lt (Int.pow_pos (by decide))) (by
    have : ((2 ^ k : Nat) : Int) < ((2 ^ 32 : Nat) : Int) := by exact_mod_cast h2
    simpa using this)]
  simp
theorem bit_test (x : BitVec 32) {k : Nat} (hk : k < 32) : (x &&& (1#32 <<< k) == 0#32) = !bt x k := by
  rw [Bool.eq_iff_iff, beq_iff_eq, Bool.not_eq_true']
  constructor
  · intro h
    have := eq_bits h k
    rw [bt_and, bt_bit, bt_zero, decide_eq_true hk, decide_eq_true rfl] at this
    simpa using this
  · intro h
    refine bits_eq fun i => ?_
    rw [bt_and, bt_bit, bt_zero]
    by_cases hik : i = k
    · subst hik; rw [h]; rfl
    · simp [hik]
theorem neB0 (v : BitVec 32) : (((v.toNat : Int)) != 0) = !(v == 0#32) := by rw [← eqB0]; rfl

/-- The three filters lie in their blocks. -/
structure Tri (W : World) (r s t : Nat) (a b c : Flt) (w : World) : Prop where
  ha : Blk w r (cellsF a) 24
  hb : Blk w s (cellsF b) 24
  hc : Blk w t (cellsF c) 24
  cc : Chg (fun _ => False) W w
theorem Tri.go {W : World} {r s t : Nat} {a b c : Flt} {w w' : World} (h : Tri W r s t a b c w) (k : Chg (fun _ => False) w w') : Tri W r s t a b c w' :=
  ⟨k.blk h.ha id, k.blk h.hb id, k.blk h.hc id, h.cc.trans k⟩

theorem lets1_call {w : World} {s : Nat} {b : Flt} (hb : Blk w s (cellsF b) 24) {x : Flt} {id : BitVec 32} {K : Value → World → Prop} (hk : ∀ w', Chg (fun _ => False) w w' → K (.bool (lets id b.ext x)) w') : callV Try.prog 9 #[valF x, u32 id, .pointer (some ⟨s, 0, none⟩)] w K := by
  refine ok9 (al_abs fun r w1 hr h1 c1 hs1 => ?_)
  refine ⟨_, h1.cell 0, _, h1.cell 1, _, h1.cell 2, al_abs fun r2 w2 hr2 h2 c2 hs2 => ?_⟩
  have hb := (c1.trans c2).blk hb (fun h => h)
  have h2 : FL w2 (some ⟨r2, 0, none⟩) 1 [x] := FL.of_blk (L := [x]) (t := 24) h2
  refine ⟨_, hb.cell 0, callQ_chg (pass_call h2 ⟨id, b.ext, false, 0, none, 0, 0⟩ (by omega) fun w3 c3 => ⟨c3, _, rfl, ?_⟩)⟩
  have : pass ⟨id, b.ext, false, 0, none, 0, 0⟩ [x] = lets id b.ext x := by simp [pass]
  rw [this]
  exact hk w3 (c1.trans (c2.trans c3))

theorem cover_call {w : World} (a b c : Flt) (id : BitVec 32) {K : Value → World → Prop} (hk : ∀ w', Chg (fun _ => False) w w' → K (.bool true) w') : callV Try.prog 3 #[valF a, valF b, valF c, u32 id] w K := by
  refine ok3 (al_abs fun r w1 hr h1 c1 hs1 => al_abs fun s w2 hr2 h2 c2 hs2 => al_abs fun t w3 hr3 h3 c3 hs3 => dr_abs fun w4 _ c4 => ?_)
  have h0 : Tri w r s t a b c w4 := ⟨(c2.trans (c3.trans c4)).blk h1 (fun h => h), (c3.trans c4).blk h2 (fun h => h), c4.blk h3 (fun h => h), c1.trans (c2.trans (c3.trans c4))⟩
  refine ⟨_, h0.ha.cell 0, _, h0.ha.cell 1, _, h0.ha.cell 2, _, h0.hb.cell 0, _, h0.hb.cell 1, _, h0.hb.cell 2, _, h0.hc.cell 0, _, h0.hc.cell 1, _, h0.hc.cell 2, ?_⟩
  refine callQ_chg (mend_call fun w5 c5 => ⟨c5, _, _, _, rfl, callQ_chg (mend_call fun w6 c6 => ⟨c6, _, _, _, rfl, callQ_chg (mend_call fun w7 c7 => ⟨c7, _, _, _, rfl, ?_⟩)⟩)⟩)
  have h7 := h0.go (c5.trans (c6.trans c7))
  have ra := mend_right a
  have rb := mend_right b
  have rc := mend_right c
  have eb : (mend b).ext = b.ext := rfl
  refine stL_abs h7.ha (by simp [cellsF]) (by simp [Value.oneCell']) fun w8 k8 c8 => ?_
  refine stL_abs (c8.blk h7.hb (by omega)) (by simp [cellsF]) (by simp [Value.oneCell']) fun w9 k9 c9 => ?_
  refine stL_abs (c9.blk (c8.blk h7.hc (by omega)) (by omega)) (by simp [cellsF]) (by simp [Value.oneCell']) fun w10 k10 c10 => ?_
  have h : Tri w r s t (mend a) (mend b) (mend c) w10 := ⟨c10.blk (c9.blk k8 (by omega)) (by omega), c10.blk k9 (by omega), k10, (h7.cc.none.trans ((c8.mono (F' := fun k => w.heap.size ≤ k) fun k _ h => by omega).trans ((c9.mono fun k _ h => by omega).trans (c10.mono fun k _ h => by omega)))).mono fun k hk h => by omega⟩
  clear h0 h7 k8 k9 k10
  generalize mend a = A at h ra
  generalize mend b = B at h rb
  generalize mend c = C at h rc
  clear c1 c2 c3 c4 c5 c6 c7 c8 c9 c10 h1 h2 h3
  refine ⟨_, h.hb.cell 2, _, h.hb.cell 1, ?_⟩
  have hin := lets_self rb id
  generalize hI : (B.mat ||| (id &&& ~~~B.mask)) &&& top B.ext = I at hin
  refine jn_rule (fun J => J (I.toNat : Int) w10) ?_ fun J hJ => ⟨_, h.hb.cell 0, br_of (fun e => ?_) (fun e => ?_)⟩
  rotate_left
  · simp only [ofB, wrB]; rw [show (BitVec.ofInt 32 536870911) = top true from rfl, ← e, hI]; exact hJ
  · simp only [ofB, wrB]; rw [show (BitVec.ofInt 32 2047) = top false from rfl, ← e, hI]; exact hJ
  refine ⟨_, h.ha.cell 0, _, h.ha.cell 1, _, h.ha.cell 2, _, h.hb.cell 0, _, h.hb.cell 1, _, h.hb.cell 2, callQ_chg (covers_call fun w11 c11 => ⟨c11, _, rfl, ?_⟩)⟩
  have h := h.go c11
  have fin : ∀ w', Tri w r s t A B C w' → callQ Try.prog 12 #[] w' fun v119 w => ∃ b120 : Bool, v119 = (.bool b120) ∧ K (.bool b120) w := fun w' h' => callQ_chg (awake_call fun w'' k => ⟨k, _, rfl, hk w'' (h'.cc.trans k)⟩)
  generalize hcov : covers A B = cov
  refine jn_rule (fun J => ∀ w', Tri w r s t A B C w' → J w') (fun w12 h => ?_) fun J58 hJ58 => ?_
  · refine jn_rule (fun J => ∀ w', Tri w r s t A B C w' → J w') (fun w13 h => ?_) fun J93 hJ93 => ?_
    · refine jn_rule (fun J => ∀ w', Tri w r s t A B C w' → J w') (fun w14 h => ?_) fun J110 hJ110 => ?_
      · refine ⟨_, h.ha.cell 0, _, h.ha.cell 1, _, h.ha.cell 2, _, h.ha.cell 0, _, h.ha.cell 1, _, h.ha.cell 2, callQ_chg (covers_call fun w15 c15 => ⟨c15, _, rfl, ?_⟩)⟩
        have h := h.go c15
        rw [covers_refl ra, br_true]
        refine br_of (fun _ => fin _ h) (fun hc => ?_)
        have hcv : cov = true := by cases cov <;> simp_all
        refine ⟨_, h.hb.cell 0, _, h.hb.cell 1, _, h.hb.cell 2, _, h.ha.cell 0, _, h.ha.cell 1, _, h.ha.cell 2, callQ_chg (covers_call fun w16 c16 => ⟨c16, _, rfl, ?_⟩)⟩
        have h := h.go c16
        refine br_of (fun _ => fin _ h) (fun hc2 => ?_)
        have hba : covers B A = true := by simpa using hc2
        have hAB : A = B := covers_anti (by rw [hcov, hcv]) hba
        refine ⟨_, h.ha.cell 0, _, h.ha.cell 1, _, h.ha.cell 2, _, h.hb.cell 0, _, h.hb.cell 1, _, h.hb.cell 2, eqlF ?_⟩
        rw [decide_eq_true hAB, br_true]
        exact fin _ h
      · refine br_of (fun hcv => ?_) (fun _ => hJ110 _ h)
        refine ⟨_, h.hb.cell 0, _, h.hb.cell 1, _, h.hb.cell 2, _, h.hc.cell 0, _, h.hc.cell 1, _, h.hc.cell 2, callQ_chg (covers_call fun w14 c14 => ⟨c14, _, rfl, ?_⟩)⟩
        have h := h.go c14
        refine br_of (fun hbc => ?_) (fun _ => hJ110 _ h)
        refine ⟨_, h.ha.cell 0, _, h.ha.cell 1, _, h.ha.cell 2, _, h.hc.cell 0, _, h.hc.cell 1, _, h.hc.cell 2, callQ_chg (covers_call fun w15 c15 => ⟨c15, _, rfl, ?_⟩)⟩
        rw [covers_trans (by rw [hcov, hcv]) hbc, Bool.not_true, br_false]
        exact hJ110 _ (h.go c15)
    · refine jn_rule (fun J => J false w12 ∧ (cov = false → A.ext = B.ext → J true w12)) ⟨?_, fun hcv he => ?_⟩ fun J62 hJ62 => ?_
      · rw [br_false]; exact hJ93 _ h
      · rw [br_true]
        refine ⟨_, h.ha.cell 0, _, h.ha.cell 1, _, h.ha.cell 2, _, h.hb.cell 2, lets1_call h.hb fun w13 c13 => ⟨_, rfl, ?_⟩⟩
        have h := h.go c13
        rw [hcv] at hcov
        have hnc := not_covers ra rb he hcov
        refine ⟨fun m x y w' => ∃ i : Nat, y = i ∧ i ≤ 29 ∧ m = 29 - i ∧ (x = true ∨ ∃ k, i ≤ k ∧ k < 29 ∧ bt A.mask k = true ∧ bt B.mask k = false) ∧ Tri w r s t A B C w', ⟨29, 0, rfl, by omega, rfl, ?_, h⟩, ?_⟩
        · rcases hnc with h1 | ⟨k, h1, h2, h3⟩
          · exact .inl (by rw [h1]; rfl)
          · exact .inr ⟨k, by omega, h1, h2, h3⟩
        · rintro m x y w14 ⟨i, rfl, hi, hm, hx, h⟩
          refine br_of (fun hlt => ?_) (fun hge => ?_)
          · have hlt : i < 29 := by have := of_decide_eq_true hlt; omega
            refine jn_rule (fun J => ∀ x w', (x = true ∨ ∃ k, i + 1 ≤ k ∧ k < 29 ∧ bt A.mask k = true ∧ bt B.mask k = false) → Tri w r s t A B C w' → J x w') (fun x w' hx h => ?_) fun J91 hJ91 => ?_
            · rw [wrap64_id (by omega) (by omega)]
              exact ⟨29 - (i + 1), by omega, i + 1, by omega, by omega, rfl, hx, h⟩
            · refine ⟨by omega, ?_⟩
              rw [shl1 (by omega)]
              simp only [add_lit]
              refine ⟨_, h.ha.cell 1, _, h.hb.cell 1, ?_⟩
              simp only [ofB, wrB, neB0]
              rw [bit_test _ (by omega), Bool.not_not, bt_and, bt_not, decide_eq_true (show i < 32 by omega), Bool.true_and]
              refine br_of (fun hbit => ?_) (fun hbit => ?_)
              · simp only [Bool.and_eq_true, Bool.not_eq_true'] at hbit
                refine br_of (fun _ => hJ91 _ _ (.inl rfl) h) (fun _ => ?_)
                refine ⟨_, h.ha.cell 0, _, h.ha.cell 1, _, h.ha.cell 2, lets1_call h.hb fun w15 c15 => ⟨_, rfl, ?_⟩⟩
                have h := h.go c15
                refine br_of (fun _ => hJ91 _ _ (.inl rfl) h) (fun hl => ?_)
                have hl : lets I B.ext A = true := by simpa using hl
                refine ⟨_, h.ha.cell 0, _, h.ha.cell 1, _, h.ha.cell 2, lets1_call h.hb fun w16 c16 => ⟨_, rfl, ?_⟩⟩
                exact hJ91 _ _ (.inl (by rw [xor_lets hbit.1 hl]; rfl)) (h.go c16)
              · refine hJ91 _ _ (hx.imp (fun h => h) fun ⟨k, h1, h2, h3, h4⟩ => ⟨k, ?_, h2, h3, h4⟩) h
                rcases Nat.lt_or_eq_of_le h1 with h5 | h5
                · omega
                · subst h5; rw [h3, h4] at hbit; cases hbit
          · have hge : i = 29 := by have := of_decide_eq_false hge; omega
            have hx : x = true := hx.elim (fun h => h) fun ⟨k, h1, h2, _⟩ => by omega
            rw [hx]
            show br (!true) _ _
            rw [Bool.not_true, br_false]
            exact hJ93 _ h
      · refine br_of (fun hcv => ?_) (fun _ => hJ62.1)
        refine ⟨_, h.ha.cell 0, _, h.hb.cell 0, ?_⟩
        cases he : (A.ext == B.ext) with
        | false => exact hJ62.1
        | true => exact hJ62.2 (by simpa using hcv) (by simpa using he)
  · refine ⟨_, h.hb.cell 0, _, h.hb.cell 1, _, h.hb.cell 2, lets1_call h.hb fun w12 c12 => ⟨_, rfl, ?_⟩⟩
    have h := h.go c12
    rw [hin, Bool.not_true, br_false]
    refine br_of (fun hcv => ?_) (fun _ => hJ58 _ h)
    refine ⟨_, h.ha.cell 0, _, h.ha.cell 1, _, h.ha.cell 2, lets1_call h.hb fun w13 c13 => ⟨_, rfl, ?_⟩⟩
    rw [lets_covered (by rw [hcov, hcv]) hin, Bool.not_true, br_false]
    exact hJ58 _ (h.go c13)
end Go.Proofs.Ytcemgjikmdbjgaa
