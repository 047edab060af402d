/- FifoTells: Push of any frame; the reference's Push and Pop. -/
import Derived.Test.YtiodaglceoodpaaF4
import Derived.Test.YtiodaglceoodpaaD4
import Derived.Test.YtiodaglceoodpaaSl
namespace Go.Proofs.Ytiodaglceoodpaa
open Go Go.Sh

theorem info5 : ∃ i, Try.prog.info? 5 = some i ∧ i.size = 1 ∧ i.bytes = 1 ∧ i.zero = some (.int .u8 0) := info_of (by kernel_rfl)
theorem und32 : Try.prog.underlying 32 = some (.slice 5) := by kernel_rfl
def byt (bs : List Int) : List Value := bs.map fun v : Int => .int .u8 v
theorem byt1 (bs : List Int) : ∀ v ∈ byt bs, v.oneCell' = true := by
  intro v hv
  obtain ⟨n, _, rfl⟩ := List.mem_map.1 hv
  rfl
/-- The record with other data. -/
abbrev Rec.wd (r : Rec) (p : Option Addr) (c : Nat) : Rec := ⟨r.id, r.ext, r.rem, r.dlc, p, r.dl, c, r.at_⟩

theorem qpush_any {w : World} {b g room lost L} (h : FQ w b g room lost L) (hl : L.length < room) (r : Rec) {bs : List Int} (hd : Own w 1 5 r.dp r.dl r.dc (byt bs)) (hbig : r.dl ≤ 1000000) (hbg : ∀ k, inB r.dp k → k ≠ b ∧ k ≠ g) {K : Value → World → Prop}
    (hk : ∀ w' p c, FQ w' b g room lost (L ++ [r.wd p c]) → Own w' 1 5 p r.dl c (byt bs) → (∀ k, inB p k → w.heap.size ≤ k) → Chg (fun k => k = b ∨ k = g) w w' → K (.int .i64 0) w') : callV Try.prog 10 #[ptr b, r.val] w K := by
  have hlt := h.lt
  obtain ⟨i, hi, hs, hby, hz⟩ := info36
  obtain ⟨i5, hi5, hs5, hby5, hz5⟩ := info5
  refine ok10 (al_abs fun r1 w1 hr1 hx c1 hs1 => ?_)
  have hx : Blk w1 r1 r.cells 36 := hx
  have h1 := h.chg c1 id id
  have hd1 := hd.chg c1 fun _ _ => id
  refine jn_rule (fun J => ∀ w' fr n xs, Fifo w' b g room lost fr n xs → n < 2 * room → n - fr < room → (xs.drop fr).take (n - fr) = L → Blk w' r1 r.cells 36 → Own w' 1 5 r.dp r.dl r.dc (byt bs) → Chg (fun k => k = b ∨ k = g) w w' → w.heap.size < w'.heap.size → J w') ?_ fun J hJ => ?_
  · intro w2 fr n xs h2 hn hnf hL hx2 hd2 c2 hlt2
    have hlen := h2.len; have hr0 := h2.r0; have hr1' := h2.r1; have hf0 := h2.f0; have hne := h2.hne
    have hb2 := h2.hb.lt; have hg2 := h2.hg.lt
    refine jn_rule (fun J => ∀ w' p c, Fifo w' b g room lost fr n xs → Blk w' r1 (r.wd p c).cells 36 → Own w' 1 5 p r.dl c (byt bs) → (∀ k, inB p k → w.heap.size ≤ k ∧ k ≠ b ∧ k ≠ g) → Chg (fun k => k = b ∨ k = g) w w' → J w') ?_ fun J hJ => ?_
    · intro w2 p c h2 hx2 hd2 hp2 c2
      refine dr_abs fun w3 _ c3 => ?_
      have h3 := h2.chg c3 id id
      have hx3 := c3.blk hx2 id
      simp only [need_some, add_lit]
      refine ⟨_, _, _, h3.hb.cell 0, _, hx3.cell 0, _, hx3.cell 1, _, hx3.cell 2, _, hx3.cell 3, _, _, _, hx3.cell 4, _, hx3.cell 5, ?_⟩
      refine al_abs fun r4 w4 hr4 hy c4 hs4 => ?_
      have hy : Blk w4 r4 (r.wd p c).cells 36 := hy
      have h4 := h3.chg c4 id id
      have hd4 := (hd2.chg c3 fun _ _ => id).chg c4 fun _ _ => id
      have hc6 : (r.wd p c).cells.length = 6 := rfl
      refine ⟨_, _, runAppendRoom (tg := 36) (tr := 36) und28 und28 hi h4.hg hy (by omega) (by rw [hs, rows_length]; omega) (by rw [hs, hc6]; omega) (fun v hv => rec_cells1 _ v (List.mem_of_mem_drop (List.mem_of_mem_take hv))), ?_⟩
      have hseg : ((r.wd p c).cells.drop 0).take (1 * i.size) = (r.wd p c).cells := by rw [hs]; rfl
      have e5 : lay (rows xs) (0 + n * i.size) (((r.wd p c).cells.drop 0).take (1 * i.size)) = rows (xs.set n (r.wd p c)) := by
        rw [hseg, hs, ← rows_lay (by omega) (r.wd p c)]; congr 1; omega
      rw [e5]
      have cg : Chg (fun k => k = g) w4 (setBlk w4 g (.cells (rows (xs.set n (r.wd p c))).toArray 36 (0, 0))) := Chg.set _ _ _ _ rfl
      have c5 : Chg (fun k => k = b ∨ k = g) w (setBlk w4 g (.cells (rows (xs.set n (r.wd p c))).toArray 36 (0, 0))) := c2.trans (c3.none.trans (c4.none.trans (cg.mono fun k _ hk => .inr hk)))
      have hg5 : Blk (setBlk w4 g (.cells (rows (xs.set n (r.wd p c))).toArray 36 (0, 0))) g (rows (xs.set n (r.wd p c))) 36 := h4.hg.set_same
      have hb5 : Blk (setBlk w4 g (.cells (rows (xs.set n (r.wd p c))).toArray 36 (0, 0))) b _ 56 := h4.hb.set_other (Ne.symm hne)
      have hd5 := hd4.chg cg fun k hk => (hp2 k hk).2.2
      generalize setBlk w4 g (.cells (rows (xs.set n (r.wd p c))).toArray 36 (0, 0)) = w5 at c5 hg5 hb5 hd5 ⊢
      refine ⟨_, _, _, rfl, ?_⟩
      refine stL_abs hb5 (by simp) (by simp [Value.oneCell']) fun w6 hb6 c6 => ?_
      refine hk w6 p c ⟨fr, n + 1, xs.set n (r.wd p c), ⟨by simpa [lay] using hb6, c6.blk hg5 (Ne.symm hne), hne, by simp [hlen], hr0, hr1', by omega, by omega, by omega⟩, ?_⟩ (hd5.chg c6 fun k hk => (hp2 k hk).2.1) (fun k hk => (hp2 k hk).1) (c5.trans (c6.mono fun k _ hk => .inl hk))
      rw [cont_push hf0 (by omega), hL]
    · refine ⟨_, _, _, hx2.cell 4, ?_⟩
      refine br_of (fun hsome => ?_) (fun hnone => ?_)
      · refine ⟨_, _, runMake und32 hi5 hz5 (by rw [hs5]; rfl) (by omega) (Nat.le_refl _) (by rw [hby5]; omega) (by omega) w2, ?_⟩
        refine ⟨_, _, _, rfl, ?_⟩
        have hnew : Blk (pushW w2 (.cells (List.replicate r.dl (Value.int .u8 0).cells.toList).flatten.toArray 5)) w2.heap.size (List.replicate r.dl (Value.int .u8 0).cells.toList).flatten 5 := Blk.new _ _ _
        have c3 : Chg (fun _ => False) w2 (pushW w2 (.cells (List.replicate r.dl (Value.int .u8 0).cells.toList).flatten.toArray 5)) := Chg.push _ _ _
        have hzl : (List.replicate r.dl (Value.int .u8 0).cells.toList).flatten.length = r.dl := by rw [List.length_flatten]; simp [Value.cells]
        generalize pushW w2 (.cells (List.replicate r.dl (Value.int .u8 0).cells.toList).flatten.toArray 5) = w3 at hnew c3 ⊢
        generalize (List.replicate r.dl (Value.int .u8 0).cells.toList).flatten = zs at hnew hzl
        have hxl := hx2.lt
        refine stL_abs (c3.blk hx2 id) (by simp [Rec.cells]) (by simp [Value.oneCell']) fun w4 hx4 c4 => ?_
        have hx4 : Blk w4 r1 (r.wd (some ⟨w2.heap.size, 0, none⟩) r.dl).cells 36 := hx4
        refine ⟨_, _, _, hx4.cell 4, ?_⟩
        have hd4 : Own w4 1 5 r.dp r.dl r.dc (byt bs) := (hd2.chg c3 fun _ _ => id).chg c4 fun k hk => by have := hd.lt hk; omega
        have hn4 : Blk w4 w2.heap.size zs 5 := c4.blk hnew (by omega)
        -- the copy
        have hlen4 := hd4.len
        have hdl : r.dl = bs.length := by simp [byt] at hlen4; omega
        rcases hd4.at_ with ⟨hp, hc0, hxs⟩ | ⟨g2, o2, cs2, hp, hb2', hl2, hxs⟩
        · rw [hp] at hsome; simp at hsome
        · have hrun := runCopy (P := Try.prog) (t := 32) (t2 := 32) (ty := 3) (w := w4) (g := w2.heap.size) (o := 0) (n := r.dl) (c := r.dl) (r := g2) (o2 := o2) (m := r.dl) (c2 := r.dc) (q := r.dl) (tg := 5) (tr := 5) und32 hi5 (Nat.min_self _) hn4 hb2' (by rw [hs5, hzl]; omega) (by rw [hs5]; have := hd4.le; omega) (fun v hv => by rw [hs5, ← hxs] at hv; exact byt1 bs v hv)
          rw [hp]
          refine ⟨_, _, hrun, _, rfl, ?_⟩
          rw [hs5, ← hxs]
          have e : lay zs 0 (byt bs) = byt bs := by
            rw [lay_eq _ _ _ (by rw [hzl]; simp [byt]; omega)]
            simp
            rw [hzl]; simp [byt]; omega
          rw [e]
          have c5 : Chg (fun k => k = w2.heap.size) w4 (setBlk w4 w2.heap.size (.cells (byt bs).toArray 5 (0, 0))) := Chg.set _ _ _ _ rfl
          have hn5 : Blk (setBlk w4 w2.heap.size (.cells (byt bs).toArray 5 (0, 0))) w2.heap.size (byt bs) 5 := hn4.set_same
          generalize setBlk w4 w2.heap.size (.cells (byt bs).toArray 5 (0, 0)) = w5 at c5 hn5 ⊢
          refine hJ w5 (some ⟨w2.heap.size, 0, none⟩) r.dl (((h2.chg c3 id id).chg c4 (by omega) (by omega)).chg c5 (by omega) (by omega)) (c5.blk hx4 (by omega)) (Own.of_blk hn5 (by simp [byt]; omega) (byt1 bs)) (fun k hk => by obtain ⟨o, ho⟩ := hk; simp at ho; omega) ?_
          have call : Chg (fun k => k = b ∨ k = g ∨ w.heap.size ≤ k) w w5 := (c2.mono fun k _ hk => by omega).trans (c3.none.trans ((c4.mono fun k _ hk => by omega).trans (c5.mono fun k _ hk => by omega)))
          exact call.mono fun k hk h => by omega
      · have hp : r.dp = none := by cases hdp : r.dp <;> simp_all
        rw [hp] at hd2
        refine hJ w2 none r.dc h2 (by have : r.wd none r.dc = r := by cases r; simp at hp; subst hp; rfl
                                      rw [this]; exact hx2) hd2 (fun k hk => by obtain ⟨o, ho⟩ := hk; cases ho) c2
  · refine qnone_call h1 ⟨_, rfl, ?_⟩
    rw [br_false]
    refine dr_abs fun w2 _ c2 => qlenq_call (h1.chg c2 id id) fun w3 _ c3 h3 => ?_
    refine ⟨_, rfl, ?_⟩
    obtain ⟨fr, n, xs, h4, hL⟩ := h3
    have hlen := h4.len; have hr0 := h4.r0; have hr1' := h4.r1; have hf0 := h4.f0; have hne := h4.hne; have hf1 := h4.f1
    have hnL : n - fr = L.length := by rw [← hL]; simp; omega
    simp only [need_some, add_lit]
    refine ⟨_, h4.hb.cell 2, ?_⟩
    rw [show ((L.length : Int) == room) = false by simp; omega, br_false]
    refine dr_abs fun w5 _ c5 => ?_
    have h5 := h4.chg c5 id id
    have hx5 := c5.blk (c3.blk (c2.blk hx id) id) id
    have hd5 := ((hd1.chg c2 fun _ _ => id).chg c3 fun _ _ => id).chg c5 fun _ _ => id
    have cc : Chg (fun k => k = b ∨ k = g) w w5 := c1.none.trans (c2.none.trans (c3.none.trans c5.none))
    have hss : w.heap.size < w5.heap.size := by have := c2.size; have := c3.size; have := c5.size; omega
    refine ⟨_, _, _, h5.hb.cell 0, _, _, _, h5.hb.cell 0, ?_⟩
    by_cases hfull : n = 2 * room
    · subst hfull
      rw [show (((2 * room : Nat) : Int) == ((2 * room : Nat) : Int)) = true by simp, br_true]
      refine pack_call h5 (by omega) fun w6 h6 c6 => ⟨rfl, hJ w6 _ _ _ h6 (by omega) (by omega) ?_ (c6.blk hx5 (by omega)) (hd5.chg c6 fun k hk => by have := hbg k hk; omega) (cc.trans c6) (by have := c6.size; omega)⟩
      rw [← hL, List.drop_zero, Nat.sub_zero, List.take_append_of_le_length (by simp; omega)]
    · rw [show ((n : Int) == ((2 * room : Nat) : Int)) = false by simp; omega, br_false]
      exact hJ w5 _ _ _ h5 (by omega) (by omega) hL hx5 hd5 cc hss
end Go.Proofs.Ytiodaglceoodpaa
