/- The chapter's examples of the fifo answer true; so do FifoFull and FifoNone. -/
import Derived.Test.YtiodaglceoodpaaF4
import Derived.Test.YtiodaglceoodpaaD2
namespace Go.Proofs.Ytiodaglceoodpaa
open Go Go.Sh

abbrev rxr (n : Int) : Rec := Rec.mk (IntKind.wrap .u32 n) false false 0 none 0 0 n

theorem awake_call {w : World} {K : Value → World → Prop} (hk : ∀ w', Chg (fun k => w.heap.size ≤ k) w w' → K (.bool true) w') : callV Try.prog 8 #[] w K := by
  refine ok8 (qnew_call (room := 2) (by omega) (by omega) fun w1 b g h1 hb hg c1 => ⟨_, _, rfl, ?_⟩)
  rw [show ((0 : Int) != 0) = false from rfl, br_false]
  have c : Chg (fun k => w.heap.size ≤ k) w w1 := c1.none
  clear c1
  refine rx_call fun w2 c2 => ⟨_, _, _, _, _, _, _, _, rfl, ?_⟩
  refine qpush_ok (h1.chg c2 id id) (by simp) (rxr 1) rfl fun w3 h3 c3 => ⟨_, rfl, ?_⟩
  have c := c.trans (c2.none.trans (c3.mono fun k _ hk => by omega))
  refine rx_call fun w4 c4 => ⟨_, _, _, _, _, _, _, _, rfl, ?_⟩
  refine qpush_ok (h3.chg c4 id id) (by simp) (rxr 2) rfl fun w5 h5 c5 => ⟨_, rfl, ?_⟩
  have c := c.trans (c4.none.trans (c5.mono fun k _ hk => by omega))
  refine rx_call fun w6 c6 => ⟨_, _, _, _, _, _, _, _, rfl, ?_⟩
  refine qpush_full (h5.chg c6 id id) (by simp) (rxr 3) fun w7 h7 c7 => ⟨_, rfl, ?_⟩
  have c := c.trans (c6.none.trans (c7.mono fun k _ hk => by omega))
  refine qover_call h7 ⟨_, rfl, qpops_some h7 fun w8 h8 c8 => ⟨_, rfl, ?_⟩⟩
  have c := c.trans (c8.mono fun k _ hk => by omega)
  refine rx_call fun w9 c9 => ⟨_, _, _, _, _, _, _, _, rfl, ?_⟩
  refine qpush_ok (h8.chg c9 id id) (by simp) (rxr 4) rfl fun w10 h10 c10 => ⟨_, rfl, ?_⟩
  have c := c.trans (c9.none.trans (c10.mono fun k _ hk => by omega))
  refine qpops_some h10 fun w11 h11 c11 => ⟨_, rfl, qpops_some h11 fun w12 h12 c12 => ⟨_, rfl, qpop_none h12 fun w13 c13 h13 => ?_⟩⟩
  have c := c.trans ((c11.mono (F' := fun k => w.heap.size ≤ k) fun k _ hk => by omega).trans ((c12.mono fun k _ hk => by omega).trans c13.none))
  have hs := c.size
  refine ⟨_, _, _, _, _, _, _, _, _, rfl, al_abs fun r14 w14 hr14 hx c14 hs14 => stL_abs hx (by simp) (by simp [Value.oneCell']) fun w15 hx c15 => ?_⟩
  have h15 := (h13.chg c14 id id).chg c15 (by have := h13.lt; omega) (by have := h13.lt; omega)
  have c := c.trans (c14.none.trans (c15.mono fun k _ hk => by omega))
  simp only [show ((0 : Int) == 0) = true from rfl, show ((5 : Int) == 5) = true from rfl, br_true, show ((1 : Int) == 1) = true from rfl, show ((2 : Int) == 2) = true from rfl, show ((4 : Int) == 4) = true from rfl, Bool.not_false]
  refine qclear_call h15 fun w16 h16 c16 => ⟨_, rfl, ?_⟩
  rw [br_true]
  refine qclear_call h16 fun w17 h17 c17 => ⟨_, rfl, hk w17 ?_⟩
  exact c.trans ((c16.mono fun k _ hk => by omega).trans (c17.mono fun k _ hk => by omega))

/-! FifoFull. -/
theorem full_push (n : Nat) (hn : n ≤ 256) (b g : Nat) (t : Int) (ht0 : 0 ≤ t) (ht : t < 5) (w : World) (h : FQ w b g n false []) (x48 x49 : Int) {X : World → Prop} {K : Value → World → Prop}
    (hX : ∀ w', FQ w' b g n false ((List.range n).map fun i : Nat => rxr (t * 1000 + i)) → Chg (fun k => k = b ∨ k = g) w w' → X w') :
    LS5_2 n (some ⟨b, 0, none⟩) t x48 x49 n 0 w X K := by
  refine ⟨fun m x wi => ∃ i : Nat, x = i ∧ i ≤ n ∧ m = n - i ∧ FQ wi b g n false ((List.range i).map fun i : Nat => rxr (t * 1000 + i)) ∧ Chg (fun k => k = b ∨ k = g) w wi, ⟨n, 0, rfl, by omega, rfl, h, Chg.refl _ _⟩, ?_⟩
  rintro m x wi ⟨i, rfl, hi, hm, hq, c⟩
  unfold B5_2
  refine br_of (fun hlt => ?_) (fun hge => ?_)
  · have hlt : i < n := by simpa using hlt
    have e : IntKind.wrap .i64 ((IntKind.wrap .i64 (t * 1000)) + (i : Int)) = t * 1000 + i := by
      rw [wrap64_id (n := t * 1000) (by omega) (by omega), wrap64_id (by omega) (by omega)]
    rw [e]
    refine rx_call fun w2 c2 => ⟨_, _, _, _, _, _, _, _, rfl, ?_⟩
    refine qpush_ok (hq.chg c2 id id) (by simp; omega) (rxr (t * 1000 + i)) rfl fun w3 h3 c3 => ⟨_, rfl, ?_⟩
    rw [show ((0 : Int) != 0) = false from rfl, br_false, wrap64_id (by omega) (by omega)]
    refine ⟨n - (i + 1), by omega, i + 1, by omega, by omega, rfl, ?_, c.trans (c2.none.trans c3)⟩
    rw [List.range_succ, List.map_append]; exact h3
  · have : i = n := by simp at hge; omega
    subst this
    exact hX wi hq c

theorem full_pop (n : Nat) (hn : n ≤ 256) (b g : Nat) (t : Int) (ht0 : 0 ≤ t) (ht : t < 5) (w : World) (h : FQ w b g n false ((List.range n).map fun i : Nat => rxr (t * 1000 + i))) (x48 x49 : Int) {X : World → Prop} {K : Value → World → Prop}
    (hX : ∀ w', FQ w' b g n false [] → Chg (fun k => k = b ∨ k = g) w w' → X w') :
    LS5_4 n (some ⟨b, 0, none⟩) t x48 x49 n 0 w X K := by
  refine ⟨fun m x wi => ∃ i : Nat, x = i ∧ i ≤ n ∧ m = n - i ∧ FQ wi b g n false (((List.range n).map fun i : Nat => rxr (t * 1000 + i)).drop i) ∧ Chg (fun k => k = b ∨ k = g) w wi, ⟨n, 0, rfl, by omega, rfl, h, Chg.refl _ _⟩, ?_⟩
  rintro m x wi ⟨i, rfl, hi, hm, hq, c⟩
  unfold B5_4
  refine br_of (fun hlt => ?_) (fun hge => ?_)
  · have hlt : i < n := by simpa using hlt
    have e : IntKind.wrap .i64 ((IntKind.wrap .i64 (t * 1000)) + (i : Int)) = t * 1000 + i := by
      rw [wrap64_id (n := t * 1000) (by omega) (by omega), wrap64_id (by omega) (by omega)]
    rw [e]
    have hd : ((List.range n).map fun i : Nat => rxr (t * 1000 + i)).drop i = rxr (t * 1000 + i) :: ((List.range n).map fun i : Nat => rxr (t * 1000 + i)).drop (i + 1) := by
      rw [List.drop_eq_getElem_cons (by simp; omega)]; simp
    rw [hd] at hq
    refine qpops_some hq fun w3 h3 c3 => ⟨_, rfl, ?_⟩
    rw [show ((rxr (t * 1000 + i)).at_ == t * 1000 + (i : Int)) = true by simp, Bool.not_true, br_false, wrap64_id (by omega) (by omega)]
    exact ⟨n - (i + 1), by omega, i + 1, by omega, by omega, rfl, h3, c.trans c3⟩
  · have : i = n := by simp at hge; omega
    subst this
    rw [List.drop_of_length_le (by simp)] at hq
    exact hX wi hq c

theorem full_call {w : World} {x1 x2 : Int} (h1 : 0 ≤ x1) (h2 : x1 ≤ 255) (h3 : 0 ≤ x2) (h4 : x2 ≤ 255) {K : Value → World → Prop} (hk : ∀ w', Chg (fun k => w.heap.size ≤ k) w w' → K (.bool true) w') : callV Try.prog 5 #[.int .u8 x1, .int .u8 x2] w K := by
  obtain ⟨n, hn⟩ : ∃ n : Nat, IntKind.wrap .i64 (1 + (IntKind.wrap .i64 x1)) = n ∧ 1 ≤ n ∧ n ≤ 256 := ⟨(1 + x1).toNat, by rw [wrap64_id (n := x1) (by omega) (by omega), wrap64_id (by omega) (by omega)]; omega, by omega, by omega⟩
  obtain ⟨m, hm⟩ : ∃ m : Int, IntKind.wrap .i64 (1 + (IntKind.wrap .i64 (Int.tmod x2 5))) = m ∧ m ≤ 5 := by
    have : Int.tmod x2 5 = x2 % 5 := Int.tmod_eq_emod_of_nonneg h3
    refine ⟨1 + x2 % 5, ?_, by omega⟩
    rw [this, wrap64_id (n := x2 % 5) (by omega) (by omega), wrap64_id (by omega) (by omega)]
  obtain ⟨hn, hn1, hn2⟩ := hn
  refine ok5 ?_
  unfold S5
  rw [hn, hm.1]
  refine qnew_call hn1 hn2 fun w1 b g hq hb hg c1 => ⟨_, _, rfl, ?_⟩
  rw [show ((0 : Int) != 0) = false from rfl, br_false]
  refine ⟨fun q x wi => 0 ≤ x ∧ (x ≤ m ∨ x ≤ 0) ∧ q = (m - x).toNat ∧ FQ wi b g n false [] ∧ Chg (fun k => w.heap.size ≤ k) w wi, ⟨_, by omega, by omega, rfl, hq, c1.none⟩, ?_⟩
  rintro q x wi ⟨hx0, hx1, hq2, hq, c⟩
  unfold B5_0
  refine br_of (fun hlt => ?_) (fun hge => ?_)
  · have hlt : x < m := by simpa using hlt
    refine full_push n hn2 b g x hx0 (by omega) wi hq _ _ fun w2 hq2' c2 => ?_
    refine qover_call hq2' ⟨_, rfl, ?_⟩
    rw [br_false]
    refine rx_call fun w3 c3 => ⟨_, _, _, _, _, _, _, _, rfl, ?_⟩
    refine qpush_full (hq2'.chg c3 id id) (by simp) (rxr (-1)) fun w4 hq4 c4 => ⟨_, rfl, ?_⟩
    rw [show ((5 : Int) != 5) = false from rfl, br_false]
    refine qclear_call hq4 fun w5 hq5 c5 => ⟨_, rfl, ?_⟩
    rw [Bool.not_true, br_false]
    refine qlenq_call hq5 fun w6 _ c6 hq6 => ⟨_, rfl, ?_⟩
    rw [show (((((List.range n).map fun i : Nat => rxr (x * 1000 + i)).length : Nat) : Int) != n) = false by simp, br_false]
    refine full_pop n hn2 b g x hx0 (by omega) w6 hq6 _ _ fun w7 hq7 c7 => ?_
    refine qpop_none hq7 fun w8 c8 hq8 => ⟨_, _, _, _, _, _, _, _, _, rfl, al_abs fun r w9 hr hx c9 hs9 => stL_abs hx (by simp) (by simp [Value.oneCell']) fun w10 hx c10 => ?_⟩
    have hl8 := hq8.lt
    have hq10 := (hq8.chg c9 id id).chg c10 (by omega) (by omega)
    rw [br_false]
    refine qlenq_call hq10 fun w11 _ c11 hq11 => ⟨_, rfl, ?_⟩
    rw [show ((([] : List Rec).length : Int) != 0) = false from rfl, br_false, wrap64_id (by omega) (by omega)]
    have ca : Chg (fun k => w.heap.size ≤ k) w w8 := c.trans ((c2.mono fun k _ hk => by omega).trans (c3.none.trans ((c4.mono fun k _ hk => by omega).trans ((c5.mono fun k _ hk => by omega).trans (c6.none.trans ((c7.mono fun k _ hk => by omega).trans c8.none))))))
    have hsz := ca.size
    refine ⟨(m - (x + 1)).toNat, by omega, by omega, by omega, rfl, hq11, ca.trans (c9.none.trans ((c10.mono fun k _ hk => by omega).trans c11.none))⟩
  · exact awake_call fun w2 c2 => ⟨_, rfl, hk w2 (c.trans (c2.mono fun k _ hk => by have := c.size; omega))⟩
end Go.Proofs.Ytiodaglceoodpaa
