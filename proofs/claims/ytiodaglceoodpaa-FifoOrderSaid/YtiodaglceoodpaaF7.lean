/- FifoOrder. -/
import Derived.Test.YtiodaglceoodpaaF5
import Derived.Test.YtiodaglceoodpaaD3
import Derived.Test.YtiodaglceoodpaaSl
import Derived.Test.YtiodaglceoodpaaArg
namespace Go.Proofs.Ytiodaglceoodpaa
open Go Go.Sh

theorem info3 : ∃ i, Try.prog.info? 3 = some i ∧ i.size = 1 ∧ i.bytes = 8 ∧ i.zero = some (.int .i64 0) := info_of (by kernel_rfl)
theorem und50 : Try.prog.underlying 50 = some (.slice 3) := by kernel_rfl

def nums (L : List Nat) : List Value := L.map fun v : Nat => .int .i64 v
def recs (L : List Nat) : List Rec := L.map fun v : Nat => rxr v

structure OS (w wi : World) (b g n : Nat) (p : Option Addr) (l c : Nat) (lost : Bool) (L : List Nat) : Prop where
  q : FQ wi b g n lost (recs L)
  own : Own wi 1 3 p l c (nums L)
  far : ∀ k, inB p k → w.heap.size ≤ k ∧ k ≠ b ∧ k ≠ g
  bound : ∀ v ∈ L, v ≤ 1000
  chg : Chg (fun k => w.heap.size ≤ k) w wi

theorem OS.len {w wi : World} {b g n : Nat} {p : Option Addr} {l c : Nat} {lost : Bool} {L : List Nat} (h : OS w wi b g n p l c lost L) : l = L.length := by
  have := h.own.len
  simp [nums] at this; exact this.symm

theorem order_call {w : World} {x1 : Int} {p : Option Addr} {l c : Nat} (h1 : 0 ≤ x1) (h2 : x1 ≤ 255) (hle : l ≤ c) {C : List (List Value)} (hC : Cam w 1 p l C) (hb : ∀ cs ∈ C, ∃ b, cs = [Value.bool b]) {K : Value → World → Prop} (hk : ∀ w', Chg (fun k => w.heap.size ≤ k) w w' → K (.bool true) w') : callV Try.prog 4 #[.int .u8 x1, .slice p l c] w K := by
  obtain ⟨n, hn⟩ : ∃ n : Nat, IntKind.wrap .i64 (1 + (IntKind.wrap .i64 x1)) = n ∧ 1 ≤ n ∧ n ≤ 256 := ⟨(1 + x1).toNat, by rw [wrap64_id (n := x1) (by omega) (by omega), wrap64_id (by omega) (by omega)]; omega, by omega, by omega⟩
  obtain ⟨hn, hn1, hn2⟩ := hn
  obtain ⟨i3, hi3, hs3, hb3, hz3⟩ := info3
  refine ok4 ?_
  unfold S4
  rw [hn]
  refine qnew_call hn1 hn2 fun w1 b g hq hb0 hg0 c1 => ⟨_, _, rfl, ?_⟩
  rw [show ((0 : Int) != 0) = false from rfl, br_false]
  obtain ⟨N, hN, hN1, hN2⟩ : ∃ N : Nat, (if (1000 : Int) < (l : Int) then 1000 else (l : Int)) = N ∧ N ≤ l ∧ N ≤ 1000 := by
    by_cases h : (1000 : Int) < (l : Int)
    · exact ⟨1000, by rw [if_pos h]; rfl, by omega, by omega⟩
    · exact ⟨l, by rw [if_neg h], by omega, by omega⟩
  rw [hN]
  refine slc_rule 0 N c rfl rfl rfl (Nat.le_refl _) (by omega) (by omega) (fun h => by cases h) ?_
  have hp' : (if c = 0 then p else Option.map (fun x => x.add (0 * 1)) p) = p := by
    split
    · rfl
    · cases p <;> rfl
  rw [hp', Nat.sub_zero, Nat.sub_zero]
  have hCN := hC.prefix N hN1
  refine ⟨fun m p0 l0 c0 lost x wi => ∃ (i : Nat) (L : List Nat), x = i ∧ i ≤ N ∧ m = N - i ∧ OS w wi b g n p0 l0 c0 lost L, ⟨N, 0, [], rfl, by omega, rfl, ⟨hq, Own.nil _ _ _, fun k ⟨o, ho⟩ => (by cases ho), fun v hv => (by cases hv), c1.none⟩⟩, ?_⟩
  rintro m p0 l0 c0 lost x wi ⟨i, L, rfl, hi, hm, h⟩
  unfold B4_0
  refine br_of (fun hlt => ?_) (fun hge => ?_)
  · have hlt : i < N := by have := of_decide_eq_true hlt; omega
    refine jn_rule (fun J => ∀ p l c lost L wi, OS w wi b g n p l c lost L → J p l c lost wi) (fun p l c lost L wi h => ?_) fun J81 hJ81 => ?_
    · rw [wrap64_id (by omega) (by omega)]
      exact ⟨N - (i + 1), by omega, i + 1, L, by omega, by omega, rfl, h⟩
    have hCi := hCN.chg h.chg fun a _ ha => by omega
    obtain ⟨cs, a, _, hmem, _, hp, _, hcell⟩ := hCi.at_ hlt
    obtain ⟨bv, rfl⟩ := hb cs (List.mem_of_mem_take hmem)
    have hc0 := hcell 0 (by omega)
    rw [add_zero] at hc0
    rw [hp]
    refine ⟨by omega, by omega, bv, by simpa using hc0, ?_⟩
    refine jn_rule (fun J => ∀ p l c lost L wi, OS w wi b g n p l c lost L → J p l c lost wi) (fun p l c lost L wi h => ?_) fun J66 hJ66 => ?_
    · -- what is asked behind each step
      have hrl : (recs L).length = L.length := by simp [recs]
      have hll := h.len
      refine qlenq_call h.q fun w2 _ c2 h2 => ⟨_, rfl, ?_⟩
      rw [show ((((recs L).length : Nat) : Int) != (l : Int)) = false by rw [hrl, hll]; simp, br_false]
      refine qlenq_call h2 fun w3 _ c3 h3 => ⟨_, rfl, ?_⟩
      have := h.q.len
      rw [show decide ((((recs L).length : Nat) : Int) > (n : Int)) = false by simp; omega, br_false]
      refine qover_call h3 ⟨_, rfl, ?_⟩
      rw [show (!(lost == lost)) = false by simp, br_false]
      have hs3 : OS w w3 b g n p l c lost L := ⟨h3, (h.own.chg c2 fun _ _ => id).chg c3 fun _ _ => id, h.far, h.bound, h.chg.trans (c2.none.trans c3.none)⟩
      refine br_of (fun _ => ?_) (fun _ => hJ81 _ _ _ _ _ _ hs3)
      refine qclear_call hs3.q fun w4 h4 c4 => ⟨_, rfl, ?_⟩
      rw [show (!(lost == lost)) = false by simp, br_false]
      refine qover_call h4 ⟨_, rfl, ?_⟩
      rw [br_false]
      refine hJ81 _ _ _ _ _ _ ⟨h4, hs3.own.chg c4 fun k hk => (h.far k hk).2.1, h.far, h.bound, hs3.chg.trans (c4.mono fun k _ hk => by omega)⟩
    have hrl : (recs L).length = L.length := by simp [recs]
    have hll := h.len
    have hql := h.q.len
    rw [hrl] at hql
    refine br_of (fun _ => ?_) (fun _ => ?_)
    · -- a frame comes
      rw [wrap64_id (by omega) (by omega)]
      refine rx_call fun w2 c2 => ⟨_, _, _, _, _, _, _, _, rfl, ?_⟩
      have hq2 := h.q.chg c2 id id
      have ho2 := h.own.chg c2 fun _ _ => id
      have hch := h.chg.trans (c2.none (F := fun k => w.heap.size ≤ k))
      by_cases hfull : L.length = n
      · refine qpush_full hq2 (by rw [hrl]; exact hfull) (rxr (i + 1)) fun w3 hq3 c3 => ⟨_, rfl, ?_⟩
        unfold jn
        rw [show ((5 : Int) == 0) = false from rfl, show ((5 : Int) != 0) = true from rfl, show ((5 : Int) != 5) = false from rfl]
        rw [show decide ((l0 : Int) < (n : Int)) = false by simp; omega]
        simp only [br_false, br_true, show (!(false == false)) = false from rfl]
        exact hJ66 _ _ _ _ _ _ ⟨hq3, ho2.chg c3 fun k hk => (h.far k hk).2.1, h.far, h.bound, hch.trans (c3.mono fun k _ hk => by omega)⟩
      · refine qpush_ok hq2 (by rw [hrl]; omega) (rxr (i + 1)) rfl fun w3 hq3 c3 => ⟨_, rfl, ?_⟩
        unfold jn
        rw [show ((0 : Int) == 0) = true from rfl, show ((0 : Int) != 0) = false from rfl]
        rw [show decide ((l0 : Int) < (n : Int)) = true by simp; omega]
        simp only [br_false, br_true, show (!(true == true)) = false from rfl]
        refine al_abs fun r w4 hr hrb c4 hs4 => ?_
        have ho4 := (ho2.chg c3 fun k hk => by have := (h.far k hk).2; omega).chg c4 fun _ _ => id
        have hsrc : Own w4 1 3 (some ⟨r, 0, none⟩) 1 1 [.int .i64 ((i : Int) + 1)] := Own.of_blk hrb rfl (by simp [Value.oneCell'])
        have e1 : i3.size = 1 := hs3
        refine append_own (P := Try.prog) und50 hi3 hz3 (by rw [hs3]; rfl) (by simp [Value.cells, Value.oneCell']) (by omega) (by rw [hs3]; exact ho4) (by rw [hs3]; exact hsrc.src und50) (by rw [hb3]; omega) (by omega) fun w5 p5 c5 ho5 hf5 cc5 => ?_
        rw [hs3] at ho5
        refine ⟨_, _, _, rfl, ?_⟩
        have hb3' := hq3.lt
        have hsz := hch.size
        have hsz3 := c3.size
        refine hJ66 _ _ _ _ (L ++ [i + 1]) _ ⟨?_, ?_, fun k hk => ?_, fun v hv => ?_, ?_⟩
        · have : recs (L ++ [i + 1]) = recs L ++ [rxr ((i : Int) + 1)] := by simp [recs]
          rw [this]
          exact (hq3.chg c4 id id).chg cc5 (fun hk => (h.far _ hk).2.1 rfl) (fun hk => (h.far _ hk).2.2 rfl)
        · have : nums (L ++ [i + 1]) = nums L ++ [.int .i64 ((i : Int) + 1)] := by simp [nums]
          rw [this]; exact ho5
        · rcases hf5 k hk with hk | hk
          · exact h.far k hk
          · omega
        · rcases List.mem_append.1 hv with hv | hv
          · exact h.bound v hv
          · simp at hv; omega
        · exact hch.trans ((c3.mono fun k _ hk => by omega).trans (c4.none.trans (cc5.mono fun k _ hk => (h.far k hk).1)))
    · -- one is taken
      cases L with
      | nil =>
        refine qpop_none h.q fun w2 c2 hq2 => ⟨_, _, _, _, _, _, _, _, _, rfl, al_abs fun r w3 hr hrb c3 hs3' => stL_abs hrb (by simp) (by simp [Value.oneCell']) fun w4 hrb c4 => ?_⟩
        have hb2 := hq2.lt
        have hsz := h.chg.size
        unfold jn dr
        rw [show decide ((l0 : Int) > 0) = false by simp at hll ⊢; omega]
        simp only [br_false, show (!(false == false)) = false from rfl]
        have ho := h.own
        refine hJ66 _ _ _ _ [] _ ⟨((hq2.chg c3 id id).chg c4 (by omega) (by omega)).chg (Chg.draw (fun _ => False) _) id id, ((((ho.chg c2 fun _ _ => id).chg c3 fun _ _ => id).chg c4 fun k hk => by have := ho.lt hk; have := c2.size; omega).chg (Chg.draw (fun _ => False) _) fun _ _ => id), h.far, h.bound, ?_⟩
        exact h.chg.trans (c2.none.trans (c3.none.trans ((c4.mono fun k _ hk => by have := c2.size; omega).trans (Chg.draw _ _))))
      | cons v L =>
        refine qpop_some h.q fun w2 hq2 c2 => ⟨_, _, _, _, _, _, _, _, _, rfl, al_abs fun r w3 hr hrb c3 hs3' => stL_abs hrb (by simp) (by simp [Value.oneCell']) fun w4 hrb c4 => ?_⟩
        have hb2 := hq2.lt
        have hsz := h.chg.size
        have hsz2 := c2.size
        have hv := h.bound v (by simp)
        have hfar := h.far
        have ho4 : Own w4 1 3 p0 l0 c0 (nums (v :: L)) := ((h.own.chg c2 fun k hk => by have := hfar k hk; omega).chg c3 fun _ _ => id).chg c4 fun k hk => by have := h.own.lt hk; omega
        have ho5 : Own (drawW w4) 1 3 p0 l0 c0 (nums (v :: L)) := ho4.chg (Chg.draw (fun _ => False) _) fun _ _ => id
        obtain ⟨gg, oo, hpp, hcells⟩ := ho5.cell (by rw [hll]; simp)
        unfold jn dr
        rw [show decide ((l0 : Int) > 0) = true by simp at hll ⊢; omega]
        simp only [br_true, br_false, show (!(true == true)) = false from rfl]
        refine ⟨_, hrb.draw.cell 5, ?_⟩
        have hcell0 := hcells 0 (by rw [hll]; simp)
        subst hpp
        refine idx_rule (by omega) (by rw [hll]; simp) ⟨v, by simpa [nums] using hcell0, ?_⟩
        rw [show (((rxr (v : Int)).at_) != (v : Int)) = false by simp [rxr], br_false]
        refine ⟨_, hrb.draw.cell 0, idx_rule (by omega) (by rw [hll]; simp) ⟨v, by simpa [nums] using hcell0, ?_⟩⟩
        rw [show (((rxr (v : Int)).id) != (IntKind.wrap .u32 (v : Int))) = false by simp [rxr], br_false]
        refine slc_own ho5 1 l0 (by rw [hll]; simp) (Nat.le_refl _) rfl rfl fun p' hown hfar' => ?_
        refine hJ66 _ _ _ _ L _ ⟨((hq2.chg c3 id id).chg c4 (by omega) (by omega)).chg (Chg.draw (fun _ => False) _) id id, ?_, fun k hk => hfar k (hfar' k hk), fun u hu => h.bound u (by simp [hu]), ?_⟩
        · have : ((nums (v :: L)).drop (1 * 1)).take ((l0 - 1) * 1) = nums L := by
            rw [hll]
            show List.take ((L.length + 1 - 1) * 1) (nums L) = nums L
            exact List.take_of_length_le (by simp [nums])
          rw [this] at hown; exact hown
        · exact h.chg.trans ((c2.mono fun k _ hk => by omega).trans (c3.none.trans ((c4.mono fun k _ hk => by omega).trans (Chg.draw _ _))))
  · exact awake_call fun w2 c2 => ⟨_, rfl, hk w2 (h.chg.trans (c2.mono fun k _ hk => by have := h.chg.size; omega))⟩
end Go.Proofs.Ytiodaglceoodpaa
