/- The fifo's pack and Push. -/
import Derived.Test.YtiodaglceoodpaaF2
namespace Go.Proofs.Ytiodaglceoodpaa
open Go Go.Sh

theorem rows_take (xs : List Rec) (i : Nat) : (rows xs).take (6 * i) = rows (xs.take i) := by
  rcases Nat.le_total i xs.length with h | h
  · conv => lhs; rw [← List.take_append_drop i xs, rows_append]
    rw [List.take_append_of_le_length (by rw [rows_length]; simp; omega), List.take_of_length_le (by rw [rows_length]; simp; omega)]
  · rw [List.take_of_length_le (by rw [rows_length]; omega), List.take_of_length_le h]
theorem rows_drop (xs : List Rec) (i : Nat) : (rows xs).drop (6 * i) = rows (xs.drop i) := by
  rcases Nat.le_total i xs.length with h | h
  · conv => lhs; rw [← List.take_append_drop i xs, rows_append]
    rw [List.drop_append, List.drop_of_length_le (by rw [rows_length]; simp; omega), rows_length]
    simp [Nat.min_eq_left h]
  · rw [List.drop_of_length_le (by rw [rows_length]; omega), List.drop_of_length_le h]; rfl
theorem rows_laid (xs ys : List Rec) (i : Nat) (h : i + ys.length ≤ xs.length) : lay (rows xs) (6 * i) (rows ys) = rows (xs.take i ++ ys ++ xs.drop (i + ys.length)) := by
  rw [lay_eq _ _ _ (by rw [rows_length, rows_length]; omega), rows_length, ← Nat.mul_add, rows_take, rows_drop, rows_append, rows_append]

theorem pack_call {w : World} {b g room lost fr xs} (h : Fifo w b g room lost fr (2 * room) xs) (hlt : 2 * room - fr < room) {K : Value → World → Prop} (hk : ∀ w', Fifo w' b g room lost 0 (2 * room - fr) (xs.drop fr ++ List.replicate fr Rec.zero) → Chg (fun k => k = b ∨ k = g) w w' → K (.tuple #[]) w') : callV Try.prog 20 #[ptr b] w K := by
  have hf1 := h.f1; have hr1 := h.r1; have hf0 := h.f0; have hf2 := h.f2; have hlen := h.len; have hr0 := h.r0; have hne := h.hne
  obtain ⟨i, hi, hs, hby, hz⟩ := info36
  refine ok20 (dr_abs fun w1 _ c1 => ?_)
  have h1 := h.chg c1 id id
  simp only [need_some, add_lit]
  refine ⟨_, _, _, h1.hb.cell 0, _, _, _, h1.hb.cell 0, fr, h1.hb.cell 1, ?_⟩
  refine slc_rule fr (2 * room) (2 * room) rfl rfl rfl (by omega) (by omega) (by omega) (by simp) ?_
  -- the source of the copy
  have hsrc : ∃ o2, (if 2 * room = fr then (some (⟨g, 0, none⟩ : Addr)) else (some (⟨g, 0, none⟩ : Addr)).map (·.add (fr * 6))) = some ⟨g, o2, none⟩ ∧ o2 + (2 * room - fr) * 6 ≤ 6 * (2 * room) ∧ ((rows xs).drop o2).take ((2 * room - fr) * 6) = rows (xs.drop fr) := by
    by_cases hc : 2 * room = fr
    · refine ⟨0, by rw [if_pos hc], by omega, ?_⟩
      rw [show 2 * room - fr = 0 by omega, List.drop_of_length_le (by omega : xs.length ≤ fr)]; rfl
    · refine ⟨6 * fr, by rw [if_neg hc]; simp only [Option.map_some, add_lit]; congr 2; omega, by omega, ?_⟩
      rw [rows_drop, List.take_of_length_le (by rw [rows_length]; simp; omega)]
  obtain ⟨o2, hp, hl2, hseg⟩ := hsrc
  rw [hp]
  have hmin : min (2 * room - fr) (2 * room) = 2 * room - fr := by omega
  refine ⟨_, _, runCopy (w := w1) (tg := 36) (tr := 36) und28 hi hmin h1.hg h1.hg (by rw [hs, rows_length, hlen]; omega) (by rw [hs, rows_length, hlen]; omega) (fun v hv => rows1 xs v (List.mem_of_mem_drop (List.mem_of_mem_take hv))), ?_⟩
  rw [hs, hseg]
  refine ⟨_, rfl, ?_⟩
  have hlay : lay (rows xs) 0 (rows (xs.drop fr)) = rows (xs.drop fr ++ xs.drop (2 * room - fr)) := by
    have := rows_laid xs (xs.drop fr) 0 (by simp)
    simp only [Nat.mul_zero, List.take_zero, List.nil_append, Nat.zero_add, List.length_drop] at this
    rw [this, show xs.length - fr = 2 * room - fr by omega]
  rw [hlay]
  have c2 : Chg (fun k => k = b ∨ k = g) w (setBlk w1 g (.cells (rows (xs.drop fr ++ xs.drop (2 * room - fr))).toArray 36 (0, 0))) := c1.none.trans (Chg.set _ _ _ _ (.inr rfl))
  have hg2 : Blk (setBlk w1 g (.cells (rows (xs.drop fr ++ xs.drop (2 * room - fr))).toArray 36 (0, 0))) g (rows (xs.drop fr ++ xs.drop (2 * room - fr))) 36 := h1.hg.set_same
  have hb2 : Blk (setBlk w1 g (.cells (rows (xs.drop fr ++ xs.drop (2 * room - fr))).toArray 36 (0, 0))) b _ 56 := h1.hb.set_other (Ne.symm hne)
  generalize setBlk w1 g (.cells (rows (xs.drop fr ++ xs.drop (2 * room - fr))).toArray 36 (0, 0)) = w2 at c2 hg2 hb2 ⊢
  refine ⟨_, _, _, hb2.cell 0, ?_⟩
  refine slc_rule (2 * room - fr) (2 * room) (2 * room) rfl rfl rfl (by omega) (by omega) (by omega) (by simp) ?_
  rw [if_neg (by omega)]
  simp only [Option.map_some, add_lit]
  have hzc : Rec.zero.val.cells.toList = Rec.zero.cells := rfl
  have hzs : Rec.zero.val.cells.size = 6 := rfl
  refine ⟨_, _, runClear (w := w2) (tg := 36) und28 hi hz (by rw [hzs]; omega) (by omega) hg2 (by rw [hzs, rows_length]; simp; omega) (by rw [hzc]; exact rec_cells1 _), ?_⟩
  rw [hzc, zrows]
  have hlay2 : lay (rows (xs.drop fr ++ xs.drop (2 * room - fr))) (0 + (2 * room - fr) * 6) (rows (List.replicate (2 * room - (2 * room - fr)) Rec.zero)) = rows (xs.drop fr ++ List.replicate fr Rec.zero) := by
    have := rows_laid (xs.drop fr ++ xs.drop (2 * room - fr)) (List.replicate (2 * room - (2 * room - fr)) Rec.zero) (2 * room - fr) (by simp; omega)
    rw [show 0 + (2 * room - fr) * 6 = 6 * (2 * room - fr) by omega, this]
    have e1 : (xs.drop fr ++ xs.drop (2 * room - fr)).take (2 * room - fr) = xs.drop fr := by
      rw [List.take_append_of_le_length (by simp; omega), List.take_of_length_le (by simp; omega)]
    have e2 : (xs.drop fr ++ xs.drop (2 * room - fr)).drop (2 * room - fr + (List.replicate (2 * room - (2 * room - fr)) Rec.zero).length) = [] := by
      apply List.drop_of_length_le; simp; omega
    rw [e1, e2, show 2 * room - (2 * room - fr) = fr by omega]; simp
  rw [hlay2]
  have c3 : Chg (fun k => k = b ∨ k = g) w (setBlk w2 g (.cells (rows (xs.drop fr ++ List.replicate fr Rec.zero)).toArray 36 (0, 0))) := c2.trans (Chg.set _ _ _ _ (.inr rfl))
  have hg3 : Blk (setBlk w2 g (.cells (rows (xs.drop fr ++ List.replicate fr Rec.zero)).toArray 36 (0, 0))) g (rows (xs.drop fr ++ List.replicate fr Rec.zero)) 36 := hg2.set_same
  have hb3 : Blk (setBlk w2 g (.cells (rows (xs.drop fr ++ List.replicate fr Rec.zero)).toArray 36 (0, 0))) b _ 56 := hb2.set_other (Ne.symm hne)
  generalize setBlk w2 g (.cells (rows (xs.drop fr ++ List.replicate fr Rec.zero)).toArray 36 (0, 0)) = w3 at c3 hg3 hb3 ⊢
  refine ⟨rfl, dr_abs fun w4 _ c4 => ?_⟩
  have hb4 := c4.blk hb3 id
  have hg4 := c4.blk hg3 id
  refine ⟨_, _, _, hb4.cell 0, _, _, _, hb4.cell 0, ?_⟩
  refine slc_rule 0 (2 * room - fr) (2 * room) rfl rfl rfl (by omega) (by omega) (by omega) (by simp) ?_
  rw [if_neg (by omega)]
  simp only [Option.map_some, add_lit]
  refine stL_abs hb4 (by simp) (by simp [Value.oneCell']) fun w5 hb5 c5 => stL_abs hb5 (by simp [lay]) (by simp [Value.oneCell']) fun w6 hb6 c6 => ?_
  refine hk w6 ⟨?_, c6.blk (c5.blk hg4 (Ne.symm hne)) (Ne.symm hne), hne, by simp; omega, hr0, hr1, by omega, by omega, by omega⟩ ?_
  · simpa [lay] using hb6
  · exact c3.trans (c4.none.trans ((c5.mono fun k _ hk => .inl hk).trans (c6.mono fun k _ hk => .inl hk)))
end Go.Proofs.Ytiodaglceoodpaa
