/- The fifo's functions that turn it: Pop, pack, Push. -/
import Derived.Test.YtiodaglceoodpaaF1
namespace Go.Proofs.Ytiodaglceoodpaa
open Go Go.Sh

theorem Fifo.chg {w w' : World} {b g room lost fr n xs} (h : Fifo w b g room lost fr n xs) {F : Nat → Prop} (hc : Chg F w w') (h1 : ¬ F b) (h2 : ¬ F g) : Fifo w' b g room lost fr n xs :=
  ⟨hc.blk h.hb h1, hc.blk h.hg h2, h.hne, h.len, h.r0, h.r1, h.f0, h.f1, h.f2⟩

theorem lenq_call {w : World} {b g room lost fr n xs} (h : Fifo w b g room lost fr n xs) {K : Value → World → Prop} (hk : ∀ w', w'.heap = w.heap → Chg (fun _ => False) w w' → K (.int .i64 ((n - fr : Nat) : Int)) w') : callQ Try.prog 15 #[ptr b] w K :=
  callQ_of (len_call h fun w' hh hc => ⟨hh, hk w' hh hc⟩)

theorem pop_none {w : World} {b g room lost n xs} (h : Fifo w b g room lost n n xs) {K : Value → World → Prop} (hk : ∀ w', Chg (fun _ => False) w w' → K (.tuple #[Rec.zero.val, .bool false]) w') : callV Try.prog 12 #[ptr b] w K := by
  refine ok12 (al_abs fun r w1 hr hz c1 hs1 => ?_)
  refine lenq_call (h.chg c1 id id) fun w2 _ c2 => ⟨_, rfl, ?_⟩
  rw [show (((n - n : Nat) : Int) == 0) = true by simp, br_true]
  refine stL_abs (c2.blk hz id) (by simp) (by simp [Value.oneCell']) fun w3 hb c3 => ?_
  refine ⟨_, hb.cell 0, _, hb.cell 1, _, hb.cell 2, _, hb.cell 3, _, _, _, hb.cell 4, _, hb.cell 5, hk _ ?_⟩
  exact ((c1.none.trans c2.none).trans c3).mono fun k hk hk2 => by omega

theorem pop_some {w : World} {b g room lost fr n xs} (h : Fifo w b g room lost fr n xs) (hlt : fr < n) {r : Rec} (hr : xs[fr]? = some r) {K : Value → World → Prop} (hk : ∀ w', Fifo w' b g room lost (fr + 1) n (xs.set fr Rec.zero) → Chg (fun k => k = b ∨ k = g) w w' → K (.tuple #[r.val, .bool true]) w') : callV Try.prog 12 #[ptr b] w K := by
  have hf1 := h.f1; have hr1 := h.r1; have hf0 := h.f0; have hf2 := h.f2; have hlen := h.len; have hr0 := h.r0; have hne := h.hne
  have hbl := h.hb.lt; have hgl := h.hg.lt
  refine ok12 (al_abs fun r2 w1 hr2 hz c1 hs1 => ?_)
  have h1 := h.chg c1 id id
  refine lenq_call h1 fun w2 _ c2 => ⟨_, rfl, ?_⟩
  have h2 := h1.chg c2 id id
  have hz := c2.blk hz id
  rw [show (((n - fr : Nat) : Int) == 0) = false by simp; omega, br_false]
  refine dr_abs fun w3 _ c3 => ?_
  have h3 := h2.chg c3 id id
  have hz := c3.blk hz id
  have hs3 : r2 < w3.heap.size := hz.lt
  simp only [need_some, add_lit]
  refine ⟨_, _, _, h3.hb.cell 0, fr, h3.hb.cell 1, idx_rule (by omega) (by omega) ?_⟩
  have hc : ∀ j, j < 6 → w3.cell? ⟨g, 0 + (fr : Int).toNat * 6 + j, none⟩ = r.cells[j]? := fun j hj => by
    rw [h3.hg.cell, ← rows_get hr j hj, Int.toNat_natCast]; congr 1; omega
  simp only [add_lit]
  refine ⟨_, hc 0 (by omega), _, hc 1 (by omega), _, hc 2 (by omega), _, hc 3 (by omega), _, _, _, hc 4 (by omega), _, hc 5 (by omega), ?_⟩
  refine al_abs fun r4 w4 hr4 hn c4 hs4 => stL_abs hn (by simp) (by simp [Value.oneCell']) fun w5 hn c5 => dr_abs fun w6 _ c6 => ?_
  have h6 := ((h3.chg c4 id id).chg c5 (by omega) (by omega)).chg c6 id id
  have hz := c6.blk (c5.blk (c4.blk hz id) (by omega)) id
  have hn := c6.blk hn id
  refine ⟨_, _, _, h6.hb.cell 0, fr, h6.hb.cell 1, idx_rule (by omega) (by omega) ?_⟩
  refine stL_abs h6.hg (by rw [rows_length, h6.len]; simp; omega) (by simp [Value.oneCell']) fun w7 hg c7 => ?_
  have e7 : lay (rows xs) (0 + (fr : Int).toNat * 6) [.int .u32 0, .bool false, .bool false, .int .u8 0, .slice none 0 0, .int .i64 0] = rows (xs.set fr Rec.zero) := by
    rw [← rows_lay (by omega) Rec.zero, Int.toNat_natCast]; congr 1; omega
  rw [e7] at hg
  have hb := c7.blk h6.hb hne
  refine ⟨fr, hb.cell 1, ?_⟩
  rw [wrap64_id (by omega) (by omega)]
  refine stL_abs hb (by simp) (by simp [Value.oneCell']) fun w8 hb c8 => ?_
  have hn := c8.blk (c7.blk hn (by omega)) (by omega)
  refine ⟨_, hn.cell 0, _, hn.cell 1, _, hn.cell 2, _, hn.cell 3, _, _, _, hn.cell 4, _, hn.cell 5, ?_⟩
  have hz := c8.blk (c7.blk hz (by omega)) (by omega)
  refine stL_abs hz (by simp) (by simp [Value.oneCell']) fun w9 hz c9 => ?_
  refine ⟨_, hz.cell 0, _, hz.cell 1, _, hz.cell 2, _, hz.cell 3, _, _, _, hz.cell 4, _, hz.cell 5, ?_⟩
  refine hk w9 ⟨c9.blk hb (by omega), c9.blk (c8.blk hg (by omega)) (by omega), hne, by simp [hlen], hr0, hr1, by omega, hf1, by omega⟩ ?_
  have := c1.none.trans (c2.none.trans (c3.none.trans (c4.none.trans ((c5.mono (F' := fun k => k = b ∨ k = g ∨ w.heap.size ≤ k) fun k _ hk => by omega).trans (c6.none.trans ((c7.mono fun k _ hk => by omega).trans ((c8.mono fun k _ hk => by omega).trans (c9.mono fun k _ hk => by omega))))))))
  exact this.mono fun k hk hk2 => by omega

theorem pops_some {w : World} {b g room lost fr n xs} (h : Fifo w b g room lost fr n xs) (hlt : fr < n) {r : Rec} (hr : xs[fr]? = some r) {a : Int} {K : Value → World → Prop} (hk : ∀ w', Fifo w' b g room lost (fr + 1) n (xs.set fr Rec.zero) → Chg (fun k => k = b ∨ k = g) w w' → K (.bool (r.at_ == a)) w') : callV Try.prog 18 #[ptr b, .int .i64 a] w K := by
  have hbl := h.hb.lt; have hgl := h.hg.lt
  refine ok18 (pop_some h hlt hr fun w1 h1 c1 => ?_)
  refine ⟨_, _, _, _, _, _, _, _, _, rfl, al_abs fun r2 w2 hr2 hz c2 hs2 => stL_abs hz (by simp) (by simp [Value.oneCell']) fun w3 hz c3 => ?_⟩
  have hs := c1.size
  have h3 := (h1.chg c2 id id).chg c3 (by omega) (by omega)
  rw [br_true]
  refine ⟨_, hz.cell 5, ?_⟩
  refine hk w3 h3 (((c1.mono (F' := fun k => k = b ∨ k = g ∨ w.heap.size ≤ k) fun k _ hk => by omega).trans (c2.none.trans (c3.mono fun k _ hk => by omega))).mono fun k hk hk2 => by omega)
end Go.Proofs.Ytiodaglceoodpaa
