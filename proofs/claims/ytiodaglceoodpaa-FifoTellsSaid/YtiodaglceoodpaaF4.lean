/- The fifo as a list: its functions by what is in it. -/
import Derived.Test.YtiodaglceoodpaaF3
namespace Go.Proofs.Ytiodaglceoodpaa
open Go Go.Sh

/-- The fifo at blocks b, g holds the frames L, the eldest first. -/
def FQ (w : World) (b g room : Nat) (lost : Bool) (L : List Rec) : Prop := ∃ fr n xs, Fifo w b g room lost fr n xs ∧ (xs.drop fr).take (n - fr) = L

theorem FQ.chg {w w' : World} {b g room lost L} (h : FQ w b g room lost L) {F : Nat → Prop} (hc : Chg F w w') (h1 : ¬ F b) (h2 : ¬ F g) : FQ w' b g room lost L :=
  let ⟨fr, n, xs, h, e⟩ := h; ⟨fr, n, xs, h.chg hc h1 h2, e⟩
theorem FQ.lt {w : World} {b g room lost L} (h : FQ w b g room lost L) : b < w.heap.size ∧ g < w.heap.size :=
  let ⟨_, _, _, h, _⟩ := h; ⟨h.hb.lt, h.hg.lt⟩
theorem FQ.len {w : World} {b g room lost L} (h : FQ w b g room lost L) : L.length ≤ room := by
  obtain ⟨fr, n, xs, h, rfl⟩ := h
  have := h.f2; simp; omega

theorem qnew_call {w : World} {room : Nat} (h0 : 1 ≤ room) (h1 : room ≤ 256) {K : Value → World → Prop} (hk : ∀ w' b g, FQ w' b g room false [] → w.heap.size ≤ b → w.heap.size ≤ g → Chg (fun _ => False) w w' → K (.tuple #[ptr b, .int .i64 0]) w') : callV Try.prog 7 #[.int .i64 room] w K :=
  new_call h0 h1 fun w' h c => hk w' _ _ ⟨0, 0, _, h, by simp⟩ (by omega) (by omega) c

theorem qlen_call {w : World} {b g room lost L} (h : FQ w b g room lost L) {K : Value → World → Prop} (hk : ∀ w', w'.heap = w.heap → Chg (fun _ => False) w w' → FQ w' b g room lost L → K (.int .i64 (L.length : Int)) w') : callV Try.prog 15 #[ptr b] w K := by
  have h' := h
  obtain ⟨fr, n, xs, h, rfl⟩ := h
  refine len_call h fun w' hh c => ?_
  have := hk w' hh c (h'.chg c id id)
  have e : ((xs.drop fr).take (n - fr)).length = n - fr := by have := h.f1; have := h.len; simp; omega
  rw [e] at this; exact this
theorem qlenq_call {w : World} {b g room lost L} (h : FQ w b g room lost L) {K : Value → World → Prop} (hk : ∀ w', w'.heap = w.heap → Chg (fun _ => False) w w' → FQ w' b g room lost L → K (.int .i64 (L.length : Int)) w') : callQ Try.prog 15 #[ptr b] w K :=
  callQ_of (qlen_call h fun w' hh c hq => ⟨hh, hk w' hh c hq⟩)
theorem qnone_call {w : World} {b g room lost L} (h : FQ w b g room lost L) {K : Value → World → Prop} (hk : K (.bool false) w) : callV Try.prog 19 #[ptr b] w K := by
  obtain ⟨fr, n, xs, h, rfl⟩ := h
  exact none_call h hk
theorem qover_call {w : World} {b g room lost L} (h : FQ w b g room lost L) {K : Value → World → Prop} (hk : K (.bool lost) w) : callV Try.prog 16 #[ptr b] w K := by
  obtain ⟨fr, n, xs, h, rfl⟩ := h
  exact over_call h hk
theorem qclear_call {w : World} {b g room lost L} (h : FQ w b g room lost L) {K : Value → World → Prop} (hk : ∀ w', FQ w' b g room false L → Chg (fun k => k = b) w w' → K (.bool lost) w') : callV Try.prog 14 #[ptr b] w K := by
  obtain ⟨fr, n, xs, h, rfl⟩ := h
  exact clear_call h fun w' h' c => hk w' ⟨fr, n, xs, h', rfl⟩ c

theorem qpop_none {w : World} {b g room lost} (h : FQ w b g room lost []) {K : Value → World → Prop} (hk : ∀ w', Chg (fun _ => False) w w' → FQ w' b g room lost [] → K (.tuple #[Rec.zero.val, .bool false]) w') : callV Try.prog 12 #[ptr b] w K := by
  have h' := h
  obtain ⟨fr, n, xs, h, e⟩ := h
  have hn : n = fr := by
    have e2 : ((xs.drop fr).take (n - fr)).length = 0 := by rw [e]; rfl
    have := h.f1; have := h.len; have := h.f0; simp at e2; omega
  subst hn
  exact pop_none h fun w' c => hk w' c (h'.chg c id id)

theorem cont_cons {xs : List Rec} {fr n : Nat} {r : Rec} {L : List Rec} (h : (xs.drop fr).take (n - fr) = r :: L) : fr < n ∧ xs[fr]? = some r ∧ ((xs.set fr Rec.zero).drop (fr + 1)).take (n - (fr + 1)) = L := by
  have h0 : fr < n := by
    rcases Nat.lt_or_ge fr n with h1 | h1
    · exact h1
    · rw [show n - fr = 0 by omega] at h; simp at h
  obtain ⟨m, hm⟩ : ∃ m, n - fr = m + 1 := ⟨n - fr - 1, by omega⟩
  rw [hm] at h
  cases hd : xs.drop fr with
  | nil => rw [hd] at h; simp at h
  | cons y ys =>
    rw [hd] at h
    simp only [List.take_succ_cons, List.cons.injEq] at h
    obtain ⟨rfl, h2⟩ := h
    have h3 : xs[fr]? = some y := by have := List.getElem?_drop (xs := xs) (i := fr) (j := 0); rw [hd] at this; simpa using this.symm
    refine ⟨h0, h3, ?_⟩
    rw [List.drop_set_of_lt (by omega)]
    have h4 : xs.drop (fr + 1) = ys := by rw [← List.drop_drop, hd]; rfl
    rw [h4, show n - (fr + 1) = m by omega, h2]

theorem qpop_some {w : World} {b g room lost r L} (h : FQ w b g room lost (r :: L)) {K : Value → World → Prop} (hk : ∀ w', FQ w' b g room lost L → Chg (fun k => k = b ∨ k = g) w w' → K (.tuple #[r.val, .bool true]) w') : callV Try.prog 12 #[ptr b] w K := by
  obtain ⟨fr, n, xs, h, e⟩ := h
  obtain ⟨h0, h1, h2⟩ := cont_cons e
  exact pop_some h h0 h1 fun w' h' c => hk w' ⟨_, _, _, h', h2⟩ c
theorem qpops_some {w : World} {b g room lost r L} (h : FQ w b g room lost (r :: L)) {a : Int} {K : Value → World → Prop} (hk : ∀ w', FQ w' b g room lost L → Chg (fun k => k = b ∨ k = g) w w' → K (.bool (r.at_ == a)) w') : callV Try.prog 18 #[ptr b, .int .i64 a] w K := by
  obtain ⟨fr, n, xs, h, e⟩ := h
  obtain ⟨h0, h1, h2⟩ := cont_cons e
  exact pops_some h h0 h1 fun w' h' c => hk w' ⟨_, _, _, h', h2⟩ c

theorem cont_push {xs : List Rec} {fr n : Nat} {r : Rec} (h0 : fr ≤ n) (h1 : n < xs.length) : ((xs.set n r).drop fr).take (n + 1 - fr) = (xs.drop fr).take (n - fr) ++ [r] := by
  apply List.ext_getElem?
  intro i
  simp only [List.getElem?_append, List.getElem?_take, List.getElem?_drop, List.getElem?_set, List.length_take, List.length_drop]
  grind

theorem qpush_full {w : World} {b g room lost L} (h : FQ w b g room lost L) (hl : L.length = room) (r : Rec) {K : Value → World → Prop} (hk : ∀ w', FQ w' b g room true L → Chg (fun k => k = b) w w' → K (.int .i64 5) w') : callV Try.prog 10 #[ptr b, r.val] w K := by
  have hlt := h.lt
  refine ok10 (al_abs fun r1 w1 hr1 hx c1 hs1 => ?_)
  have h1 := h.chg c1 id id
  refine jn_rule (fun _ => True) trivial fun J _ => ?_
  refine qnone_call h1 ⟨_, rfl, ?_⟩
  rw [br_false]
  refine dr_abs fun w2 _ c2 => qlenq_call (h1.chg c2 id id) fun w3 _ c3 h3 => ?_
  refine ⟨_, rfl, ?_⟩
  obtain ⟨fr, n, xs, h4, rfl⟩ := h3
  simp only [need_some, add_lit]
  refine ⟨_, h4.hb.cell 2, ?_⟩
  rw [hl, show ((room : Int) == room) = true by simp, br_true]
  refine stL_abs h4.hb (by simp) (by simp [Value.oneCell']) fun w4 hb c4 => ?_
  refine hk w4 ⟨fr, n, xs, ⟨by simpa [lay] using hb, c4.blk h4.hg (Ne.symm h4.hne), h4.hne, h4.len, h4.r0, h4.r1, h4.f0, h4.f1, h4.f2⟩, rfl⟩ ?_
  exact c1.none.trans (c2.none.trans (c3.none.trans c4))

theorem qpush_ok {w : World} {b g room lost L} (h : FQ w b g room lost L) (hl : L.length < room) (r : Rec) (hd : r.dp = none) {K : Value → World → Prop} (hk : ∀ w', FQ w' b g room lost (L ++ [r]) → Chg (fun k => k = b ∨ k = g) w w' → K (.int .i64 0) w') : callV Try.prog 10 #[ptr b, r.val] w K := by
  have hlt := h.lt
  obtain ⟨i, hi, hs, hby, hz⟩ := info36
  refine ok10 (al_abs fun r1 w1 hr1 hx c1 hs1 => ?_)
  have hx : Blk w1 r1 r.cells 36 := hx
  have h1 := h.chg c1 id id
  refine jn_rule (fun J => ∀ w' fr n xs, Fifo w' b g room lost fr n xs → n < 2 * room → n - fr < room → (xs.drop fr).take (n - fr) = L → Blk w' r1 r.cells 36 → Chg (fun k => k = b ∨ k = g) w w' → J w') ?_ fun J hJ => ?_
  · intro w2 fr n xs h2 hn hnf hL hx2 c2
    have hlen := h2.len; have hr0 := h2.r0; have hr1' := h2.r1; have hf0 := h2.f0; have hne := h2.hne
    refine jn_rule (fun J => J w2) ?_ fun J hJ => ?_
    · refine dr_abs fun w3 _ c3 => ?_
      have h3 := h2.chg c3 id id
      have hx3 := c3.blk hx2 id
      simp only [need_some, add_lit]
      refine ⟨_, _, _, h3.hb.cell 0, _, hx3.cell 0, _, hx3.cell 1, _, hx3.cell 2, _, hx3.cell 3, _, _, _, hx3.cell 4, _, hx3.cell 5, ?_⟩
      refine al_abs fun r4 w4 hr4 hy c4 hs4 => ?_
      have hy : Blk w4 r4 r.cells 36 := hy
      have h4 := h3.chg c4 id id
      have hc6 : r.cells.length = 6 := rfl
      refine ⟨_, _, runAppendRoom (tg := 36) (tr := 36) und28 und28 hi h4.hg hy (by omega) (by rw [hs, rows_length]; omega) (by rw [hs, hc6]; omega) (fun v hv => rec_cells1 r v (List.mem_of_mem_drop (List.mem_of_mem_take hv))), ?_⟩
      have hseg : (r.cells.drop 0).take (1 * i.size) = r.cells := by rw [hs]; rfl
      have e5 : lay (rows xs) (0 + n * i.size) ((r.cells.drop 0).take (1 * i.size)) = rows (xs.set n r) := by
        rw [hseg, hs, ← rows_lay (by omega) r]; congr 1; omega
      rw [e5]
      have c5 : Chg (fun k => k = b ∨ k = g) w (setBlk w4 g (.cells (rows (xs.set n r)).toArray 36 (0, 0))) := c2.trans (c3.none.trans (c4.none.trans (Chg.set _ _ _ _ (.inr rfl))))
      have hg5 : Blk (setBlk w4 g (.cells (rows (xs.set n r)).toArray 36 (0, 0))) g (rows (xs.set n r)) 36 := h4.hg.set_same
      have hb5 : Blk (setBlk w4 g (.cells (rows (xs.set n r)).toArray 36 (0, 0))) b _ 56 := h4.hb.set_other (Ne.symm hne)
      generalize setBlk w4 g (.cells (rows (xs.set n r)).toArray 36 (0, 0)) = w5 at c5 hg5 hb5 ⊢
      refine ⟨_, _, _, rfl, ?_⟩
      refine stL_abs hb5 (by simp) (by simp [Value.oneCell']) fun w6 hb6 c6 => ?_
      refine hk w6 ⟨fr, n + 1, xs.set n r, ⟨by simpa [lay] using hb6, c6.blk hg5 (Ne.symm hne), hne, by simp [hlen], hr0, hr1', by omega, by omega, by omega⟩, ?_⟩ (c5.trans (c6.mono fun k _ hk => .inl hk))
      rw [cont_push hf0 (by omega), hL]
    · refine ⟨_, _, _, hx2.cell 4, ?_⟩
      simp only [hd, Option.isNone_none, Bool.not_true, br_false]
      exact hJ
  · refine qnone_call h1 ⟨_, rfl, ?_⟩
    rw [br_false]
    refine dr_abs fun w2 _ c2 => qlenq_call (h1.chg c2 id id) fun w3 _ c3 h3 => ?_
    refine ⟨_, rfl, ?_⟩
    obtain ⟨fr, n, xs, h4, hL⟩ := h3
    have hlen := h4.len; have hr0 := h4.r0; have hr1' := h4.r1; have hf0 := h4.f0; have hne := h4.hne; have hf1 := h4.f1
    have hnL : n - fr = L.length := by rw [← hL]; simp; omega
    simp only [need_some, add_lit]
    refine ⟨_, h4.hb.cell 2, ?_⟩
    rw [show ((L.length : Int) == room) = false by simp; omega, br_false]
    refine dr_abs fun w5 _ c5 => ?_
    have h5 := h4.chg c5 id id
    have hx5 := c5.blk (c3.blk (c2.blk hx id) id) id
    have cc : Chg (fun k => k = b ∨ k = g) w w5 := c1.none.trans (c2.none.trans (c3.none.trans c5.none))
    refine ⟨_, _, _, h5.hb.cell 0, _, _, _, h5.hb.cell 0, ?_⟩
    by_cases hfull : n = 2 * room
    · subst hfull
      rw [show (((2 * room : Nat) : Int) == ((2 * room : Nat) : Int)) = true by simp, br_true]
      refine pack_call h5 (by omega) fun w6 h6 c6 => ⟨rfl, hJ w6 _ _ _ h6 (by omega) (by omega) ?_ (c6.blk hx5 (by omega)) (cc.trans c6)⟩
      rw [← hL, List.drop_zero, Nat.sub_zero, List.take_append_of_le_length (by simp; omega)]
    · rw [show ((n : Int) == ((2 * room : Nat) : Int)) = false by simp; omega, br_false]
      exact hJ w5 _ _ _ h5 (by omega) (by omega) hL hx5 cc
end Go.Proofs.Ytiodaglceoodpaa
