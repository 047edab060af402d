/- FifoTells: the reference's Push and Pop, and what compares two frames. -/
import Derived.Test.YtiodaglceoodpaaF8
namespace Go.Proofs.Ytiodaglceoodpaa
open Go Go.Sh

abbrev stv (p : Option Addr) (l c : Nat) (room : Int) (flag : Bool) : Value := .agg #[.slice p l c, .int .i64 room, .bool flag]

theorem mpop_none {w : World} {p : Option Addr} {c : Nat} {room : Int} {flag : Bool} {K : Value → World → Prop} (hk : ∀ w', Chg (fun _ => False) w w' → K (.tuple #[stv p 0 c room flag, Rec.zero.val, .bool false]) w') : callV Try.prog 11 #[stv p 0 c room flag] w K := by
  refine ok11 (al_abs fun r6 w1 hr6 h6 c1 hs1 => al_abs fun r7 w2 hr7 h7 c2 hs2 => al_abs fun r8 w3 hr8 h8 c3 hs3 => ?_)
  have h6 := c3.blk (c2.blk h6 id) id
  have h7 := c3.blk h7 id
  refine ⟨_, _, _, h6.cell 0, ?_⟩
  rw [show ((((0 : Nat) : Int)) == 0) = true from rfl, br_true]
  refine ⟨_, _, _, h6.cell 0, _, h6.cell 1, _, h6.cell 2, ?_⟩
  refine stL_abs h7 (by simp) (by simp [Value.oneCell']) fun w4 h7 c4 => stL_abs (c4.blk h8 (by omega)) (by simp) (by simp [Value.oneCell']) fun w5 h8 c5 => ?_
  have h7 := c5.blk h7 (by omega)
  refine ⟨_, _, _, h7.cell 0, _, h7.cell 1, _, h7.cell 2, _, h8.cell 0, _, h8.cell 1, _, h8.cell 2, _, h8.cell 3, _, _, _, h8.cell 4, _, h8.cell 5, ?_⟩
  refine hk w5 ?_
  have := c1.none.trans (c2.none.trans (c3.none.trans ((c4.mono (F' := fun k => w.heap.size ≤ k) fun k _ hk => by omega).trans (c5.mono fun k _ hk => by omega))))
  exact this.mono fun k hk h => by omega

theorem mpop_some {w : World} {p : Option Addr} {l c : Nat} {r : Rec} {L : List Rec} (h : Own w 6 36 p l c (rows (r :: L))) {room : Int} {flag : Bool} {K : Value → World → Prop}
    (hk : ∀ w' p', Own w' 6 36 p' (l - 1) (c - 1) (rows L) → (∀ k, inB p' k → inB p k) → Chg (fun _ => False) w w' → K (.tuple #[stv p' (l - 1) (c - 1) room flag, r.val, .bool true]) w') : callV Try.prog 11 #[stv p l c room flag] w K := by
  have hlen := h.len
  rw [rows_length] at hlen
  simp at hlen
  refine ok11 (al_abs fun r6 w1 hr6 h6 c1 hs1 => al_abs fun r7 w2 hr7 h7 c2 hs2 => al_abs fun r8 w3 hr8 h8 c3 hs3 => ?_)
  have h6 := c3.blk (c2.blk h6 id) id
  have h7 := c3.blk h7 id
  have ho := ((h.chg c1 fun _ _ => id).chg c2 fun _ _ => id).chg c3 fun _ _ => id
  refine ⟨_, _, _, h6.cell 0, ?_⟩
  rw [show (((l : Nat) : Int) == 0) = false by simp; omega, br_false]
  refine ⟨_, _, _, h6.cell 0, ?_⟩
  obtain ⟨g, o, hp, hcell⟩ := ho.cell (by omega)
  have hc : ∀ j, j < 6 → w3.cell? ⟨g, o + j, none⟩ = r.cells[j]? := fun j hj => by
    rw [hcell j (by omega), rows_cons, List.getElem?_append_left (by simpa [Rec.cells] using hj)]
  subst hp
  refine idx_rule (by omega) (by omega) ?_
  simp only [Int.toNat_zero, Nat.zero_mul, Nat.add_zero, add_lit]
  refine ⟨_, hc 0 (by omega), _, hc 1 (by omega), _, hc 2 (by omega), _, hc 3 (by omega), _, _, _, hc 4 (by omega), _, hc 5 (by omega), ?_⟩
  refine al_abs fun r42 w4 hr42 h42 c4 hs4 => stL_abs h42 (by simp) (by simp [Value.oneCell']) fun w5 h42 c5 => ?_
  have h42 : Blk w5 r42 r.cells 36 := h42
  have hlt : ∀ k, inB (some (⟨g, o, none⟩ : Addr)) k → k < w.heap.size := fun k hk => h.lt hk
  have ho := (ho.chg c4 fun _ _ => id).chg c5 fun k hk => by have := hlt k hk; omega
  have h6 := c5.blk (c4.blk h6 id) (by omega)
  have h7 := c5.blk (c4.blk h7 id) (by omega)
  have h8 := c5.blk (c4.blk h8 id) (by omega)
  refine ⟨_, _, _, h6.cell 0, slc_own ho 1 l (by omega) (Nat.le_refl _) rfl rfl fun p' hown hsub => ?_⟩
  have hrows : ((rows (r :: L)).drop (1 * 6)).take ((l - 1) * 6) = rows L := by
    rw [rows_cons, Nat.one_mul, List.drop_append_of_le_length (by simp [Rec.cells]), List.drop_of_length_le (by simp [Rec.cells]), List.nil_append, List.take_of_length_le (by rw [rows_length]; omega)]
  rw [hrows] at hown
  refine stL_abs h6 (by simp) (by simp [Value.oneCell']) fun w6 h6 c6 => dr_abs fun w7 _ c7 => ?_
  have h6 := c7.blk h6 id
  have h7 := c7.blk (c6.blk h7 (by omega)) id
  have h8 := c7.blk (c6.blk h8 (by omega)) id
  have h42 := c7.blk (c6.blk h42 (by omega)) id
  have hown := (hown.chg c6 fun k hk => by have := hlt k (hsub k hk); omega).chg c7 fun _ _ => id
  have cc : Chg (fun k => w.heap.size ≤ k) w w7 := c1.none.trans (c2.none.trans (c3.none.trans (c4.none.trans ((c5.mono fun k _ hk => by omega).trans ((c6.mono fun k _ hk => by omega).trans c7.none)))))
  refine ⟨_, _, _, h6.cell 0, _, h6.cell 1, _, h6.cell 2, ⟨_, h42.cell 0, _, h42.cell 1, _, h42.cell 2, _, h42.cell 3, _, _, _, h42.cell 4, _, h42.cell 5, ?_⟩, ?_⟩
  · refine stL_abs h7 (by simp) (by simp [Value.oneCell']) fun w8 h7 c8 => stL_abs (c8.blk h8 (by omega)) (by simp) (by simp [Value.oneCell']) fun w9 h8 c9 => ?_
    have h7 := c9.blk h7 (by omega)
    refine ⟨_, _, _, h7.cell 0, _, h7.cell 1, _, h7.cell 2, _, h8.cell 0, _, h8.cell 1, _, h8.cell 2, _, h8.cell 3, _, _, _, h8.cell 4, _, h8.cell 5, ?_⟩
    refine hk w9 p' ((hown.chg c8 fun k hk => by have := hlt k (hsub k hk); omega).chg c9 fun k hk => by have := hlt k (hsub k hk); omega) hsub ?_
    have := cc.trans ((c8.mono fun k _ hk => by omega).trans (c9.mono fun k _ hk => by omega))
    exact this.mono fun k hk h => by omega
  · refine stL_abs h7 (by simp) (by simp [Value.oneCell']) fun w8 h7 c8 => ?_
    have h42 := c8.blk h42 (by omega)
    refine ⟨_, h42.cell 0, _, h42.cell 1, _, h42.cell 2, _, h42.cell 3, _, _, _, h42.cell 4, _, h42.cell 5, ?_⟩
    refine stL_abs (c8.blk h8 (by omega)) (by simp) (by simp [Value.oneCell']) fun w9 h8 c9 => ?_
    have h7 := c9.blk h7 (by omega)
    refine ⟨_, _, _, h7.cell 0, _, h7.cell 1, _, h7.cell 2, _, h8.cell 0, _, h8.cell 1, _, h8.cell 2, _, h8.cell 3, _, _, _, h8.cell 4, _, h8.cell 5, ?_⟩
    refine hk w9 p' ((hown.chg c8 fun k hk => by have := hlt k (hsub k hk); omega).chg c9 fun k hk => by have := hlt k (hsub k hk); omega) hsub ?_
    have := cc.trans ((c8.mono fun k _ hk => by omega).trans (c9.mono fun k _ hk => by omega))
    exact this.mono fun k hk h => by omega

theorem mpush_full {w : World} {p : Option Addr} {l c : Nat} {room : Int} {flag : Bool} (hf : room ≤ l) (r : Rec) {K : Value → World → Prop} (hk : ∀ w', Chg (fun _ => False) w w' → K (.tuple #[stv p l c room true, .int .i64 5]) w') : callV Try.prog 9 #[stv p l c room flag, r.val] w K := by
  refine ok9 (al_abs fun r14 w1 hr14 h14 c1 hs1 => al_abs fun r15 w2 hr15 h15 c2 hs2 => al_abs fun r16 w3 hr16 h16 c3 hs3 => ?_)
  have h14 := c3.blk (c2.blk h14 id) id
  refine ⟨_, _, _, h14.cell 0, _, h14.cell 1, ?_⟩
  rw [show decide (((l : Nat) : Int) ≥ room) = true by simp; omega, br_true]
  refine stL_abs h14 (by simp) (by simp [Value.oneCell']) fun w4 h14 c4 => ?_
  refine ⟨_, _, _, h14.cell 0, _, h14.cell 1, _, h14.cell 2, ?_⟩
  refine stL_abs (c4.blk h16 (by omega)) (by simp) (by simp [Value.oneCell']) fun w5 h16 c5 => ?_
  refine ⟨_, _, _, h16.cell 0, _, h16.cell 1, _, h16.cell 2, hk w5 ?_⟩
  have := c1.none.trans (c2.none.trans (c3.none.trans ((c4.mono (F' := fun k => w.heap.size ≤ k) fun k _ hk => by omega).trans (c5.mono fun k _ hk => by omega))))
  exact this.mono fun k hk h => by omega

/-- The reference's appends, one and two. -/
theorem app1 {w : World} {r : Nat} (hr : Blk w r [] 36) {p : Option Addr} {l c : Nat} {xs : List Value} (h : Own w 6 36 p l c xs) (hl : l ≤ 1000) {K : Value → World → Prop}
    (hk : ∀ w' p' c', Own w' 6 36 p' l c' xs → (∀ k, inB p' k → k = r ∨ w.heap.size ≤ k) → Chg (fun k => k = r) w w' → K (.slice p' l c') w') : runV Try.prog (Builtin.append_ #[28, 28] 28 #[.slice (some ⟨r, 0, none⟩) 0 0, .slice p l c]) w K := by
  obtain ⟨i, hi, hs, hby, hz⟩ := info36
  have h0 : Own w 6 36 (some ⟨r, 0, none⟩) 0 0 [] := Own.of_blk hr rfl (fun v hv => by cases hv)
  refine append_own (P := Try.prog) und28 hi hz (by rw [hs]; rfl) (rec_cells1 _) (by omega) (by rw [hs]; exact h0) (by rw [hs]; exact h.src und28) (by rw [hby]; omega) (by omega) fun w' p' c' ho hf cc => ?_
  rw [hs] at ho
  rw [Nat.zero_add] at ho ⊢
  refine hk w' p' c' ho (fun k hk => ?_) (cc.mono fun k _ ⟨o, hk⟩ => by simp at hk; omega)
  rcases hf k hk with ⟨o, hk⟩ | hk
  · simp at hk; omega
  · exact Or.inr hk
theorem app2 {w : World} {q : Nat} {r : Rec} (hq : Blk w q r.cells 36) {p : Option Addr} {l c : Nat} {L : List Rec} (h : Own w 6 36 p l c (rows L)) (hl : l ≤ 1000) {K : Value → World → Prop}
    (hk : ∀ w' p' c', Own w' 6 36 p' (l + 1) c' (rows (L ++ [r])) → (∀ k, inB p' k → inB p k ∨ w.heap.size ≤ k) → Chg (inB p) w w' → K (.slice p' (l + 1) c') w') : runV Try.prog (Builtin.append_ #[28, 28] 28 #[.slice p l c, .slice (some ⟨q, 0, none⟩) 1 1]) w K := by
  obtain ⟨i, hi, hs, hby, hz⟩ := info36
  have h0 : Own w 6 36 (some ⟨q, 0, none⟩) 1 1 r.cells := Own.of_blk hq rfl (rec_cells1 r)
  refine append_own (P := Try.prog) und28 hi hz (by rw [hs]; rfl) (rec_cells1 _) (by omega) (by rw [hs]; exact h) (by rw [hs]; exact h0.src und28) (by rw [hby]; omega) (by omega) fun w' p' c' ho hf cc => ?_
  rw [hs] at ho
  refine hk w' p' c' ?_ hf cc
  rw [rows_append, rows_cons]; simpa [rows] using ho

theorem mpush_ok {w : World} {p : Option Addr} {l c : Nat} {L : List Rec} (h : Own w 6 36 p l c (rows L)) (hl : l ≤ 1000) {room : Int} {flag : Bool} (hf : l < room) (r : Rec) {K : Value → World → Prop}
    (hk : ∀ w' p' c', Own w' 6 36 p' (l + 1) c' (rows (L ++ [r])) → (∀ k, inB p' k → w.heap.size ≤ k) → Chg (fun _ => False) w w' → K (.tuple #[stv p' (l + 1) c' room flag, .int .i64 0]) w') : callV Try.prog 9 #[stv p l c room flag, r.val] w K := by
  refine ok9 (al_abs fun r14 w1 hr14 h14 c1 hs1 => al_abs fun r15 w2 hr15 h15 c2 hs2 => al_abs fun r16 w3 hr16 h16 c3 hs3 => ?_)
  have h14 := c3.blk (c2.blk h14 id) id
  have h15 : Blk w3 r15 r.cells 36 := c3.blk h15 id
  have h14 : Blk w3 r14 [.slice p l c, .int .i64 room, .bool flag] 30 := h14
  have ho := ((h.chg c1 fun _ _ => id).chg c2 fun _ _ => id).chg c3 fun _ _ => id
  have hlt : ∀ k, inB p k → k < w.heap.size := fun k hk => h.lt hk
  have cc : Chg (fun k => w.heap.size ≤ k) w w3 := c1.none.trans (c2.none.trans c3.none)
  refine ⟨_, _, _, h14.cell 0, _, h14.cell 1, ?_⟩
  rw [show decide (((l : Nat) : Int) ≥ room) = false by simp; omega, br_false]
  refine jn_rule (fun J => ∀ w' p' c', Own w' 6 36 p' (l + 1) c' (rows (L ++ [r])) → (∀ k, inB p' k → w3.heap.size ≤ k) → Blk w' r14 [.slice p' (l + 1) c', .int .i64 room, .bool flag] 30 → Blk w' r16 [.slice none 0 0, .int .i64 0, .bool false] 30 → Chg (fun k => w.heap.size ≤ k) w w' → J w') (fun w' p' c' ho hp h14 h16 cc => ?_) fun J hJ => ?_
  · refine ⟨_, _, _, h14.cell 0, _, h14.cell 1, _, h14.cell 2, stL_abs h16 (by simp) (by simp [Value.oneCell']) fun w5 h16 c5 => ⟨_, _, _, h16.cell 0, _, h16.cell 1, _, h16.cell 2, ?_⟩⟩
    refine hk w5 p' c' (ho.chg c5 fun k hk => by have := hp k hk; omega) (fun k hk => by have := hp k hk; omega) ?_
    exact (cc.trans (c5.mono fun k _ hk => by omega)).mono fun k hk h => by omega
  refine dr_abs fun w4 _ c4 => ?_
  have h14 := c4.blk h14 id
  have h15 := c4.blk h15 id
  have h16 := c4.blk h16 id
  have ho := ho.chg c4 fun _ _ => id
  have cc := cc.trans (c4.none (F := fun k => w.heap.size ≤ k))
  have hsz := c4.size
  -- the last step, of all orders
  have last : ∀ w' p' c', Own w' 6 36 p' (l + 1) c' (rows (L ++ [r])) → (∀ k, inB p' k → w4.heap.size ≤ k) → Chg (fun k => w4.heap.size ≤ k) w4 w' → stL w' ⟨r14, 0, none⟩ 0 [.slice p' (l + 1) c'] fun w => J w := fun w' p' c' ho hp ch => by
    refine stL_abs (ch.blk h14 (by omega)) (by simp) (by simp [Value.oneCell']) fun w5 h14 c5 => ?_
    refine hJ w5 p' c' (ho.chg c5 fun k hk => by have := hp k hk; omega) (fun k hk => by have := hp k hk; omega) h14 (c5.blk (ch.blk h16 (by omega)) (by omega)) ?_
    exact cc.trans ((ch.mono fun k _ hk => by omega).trans (c5.mono fun k _ hk => by omega))
  -- orders: the empty row first, or the frame first
  have two : ∀ (w5 : World) (re : Nat), Blk w5 re [] 36 → w4.heap.size ≤ re → Chg (fun k => w4.heap.size ≤ k) w4 w5 → ∀ (rb : Nat), Blk w5 rb r.cells 36 → w4.heap.size ≤ rb → rb ≠ re →
      runV Try.prog (Builtin.append_ #[28, 28] 28 #[.slice (some ⟨re, 0, none⟩) 0 0, .slice p l c]) w5 fun v w => ∃ (p' : Option Addr) (l' c' : Nat), v = .slice p' l' c' ∧ runV Try.prog (Builtin.append_ #[28, 28] 28 #[.slice p' l' c', .slice (some ⟨rb, 0, none⟩) 1 1]) w fun v w => ∃ (p' : Option Addr) (l' c' : Nat), v = .slice p' l' c' ∧ stL w ⟨r14, 0, none⟩ 0 [.slice p' l' c'] fun w => J w := fun w5 re hre hle ch rb hrb hlb hne => by
    have ho5 := ho.chg ch fun k hk => by have := hlt k hk; omega
    have h5s := ch.size
    refine app1 hre ho5 hl fun w6 p6 c6 ho6 hf6 ch6 => ⟨_, _, _, rfl, ?_⟩
    have hp6 : ∀ k, inB p6 k → w4.heap.size ≤ k := fun k hk => by rcases hf6 k hk with h | h <;> omega
    have h6s := ch6.size
    have hrb6 := ch6.blk hrb hne
    have hne6 : ∀ k, inB p6 k → k ≠ rb := fun k hk => by
      rcases hf6 k hk with h | h
      · omega
      · have := hrb.lt; omega
    refine app2 hrb6 ho6 hl fun w7 p7 c7 ho7 hf7 ch7 => ⟨_, _, _, rfl, ?_⟩
    refine last w7 p7 c7 ho7 (fun k hk => ?_) (ch.trans ((ch6.mono fun k _ hk => by omega).trans (ch7.mono fun k _ hk => hp6 k hk)))
    rcases hf7 k hk with h | h
    · exact hp6 k h
    · omega
  have one : ∀ (w5 : World) (re : Nat), Blk w5 re [] 36 → w4.heap.size ≤ re → Chg (fun k => w4.heap.size ≤ k) w4 w5 →
      runV Try.prog (Builtin.append_ #[28, 28] 28 #[.slice (some ⟨re, 0, none⟩) 0 0, .slice p l c]) w5 fun v w => ∃ (p' : Option Addr) (l' c' : Nat), v = .slice p' l' c' ∧ al w (.cells #[.int .u32 r.id, .bool r.ext, .bool r.rem, .int .u8 r.dlc, .slice r.dp r.dl r.dc, .int .i64 r.at_] 36) fun rb w => runV Try.prog (Builtin.append_ #[28, 28] 28 #[.slice p' l' c', .slice (some ⟨rb, 0, none⟩) 1 1]) w fun v w => ∃ (p' : Option Addr) (l' c' : Nat), v = .slice p' l' c' ∧ stL w ⟨r14, 0, none⟩ 0 [.slice p' l' c'] fun w => J w := fun w5 re hre hle ch => by
    have ho5 := ho.chg ch fun k hk => by have := hlt k hk; omega
    have h5s := ch.size
    refine app1 hre ho5 hl fun w6 p6 c6 ho6 hf6 ch6 => ⟨_, _, _, rfl, al_abs fun rb w7 hrb hb ch7 hs7 => ?_⟩
    have hp6 : ∀ k, inB p6 k → w4.heap.size ≤ k := fun k hk => by rcases hf6 k hk with h | h <;> omega
    have h6s := ch6.size
    refine app2 (r := r) hb (ho6.chg ch7 fun _ _ => id) hl fun w8 p8 c8 ho8 hf8 ch8 => ⟨_, _, _, rfl, ?_⟩
    refine last w8 p8 c8 ho8 (fun k hk => ?_) (ch.trans ((ch6.mono fun k _ hk => by omega).trans (ch7.none.trans (ch8.mono fun k _ hk => hp6 k hk))))
    rcases hf8 k hk with h | h
    · exact hp6 k h
    · omega
  have r15c := fun j => h15.cell j
  refine ⟨_, _, _, h14.cell 0, ?_, ?_⟩
  · refine al_abs fun re w5 hre hb5 c5 hs5 => ⟨?_, ?_⟩
    · have h15 := c5.blk h15 id
      refine app1 hb5 (ho.chg c5 fun _ _ => id) hl fun w6 p6 c6 ho6 hf6 ch6 => ⟨_, _, _, rfl, ?_⟩
      have h15 := ch6.blk h15 (by have := h15.lt; omega)
      refine ⟨_, h15.cell 0, _, h15.cell 1, _, h15.cell 2, _, h15.cell 3, _, _, _, h15.cell 4, _, h15.cell 5, al_abs fun rb w7 hrb hb ch7 hs7 => ?_⟩
      have hp6 : ∀ k, inB p6 k → w4.heap.size ≤ k := fun k hk => by rcases hf6 k hk with h | h <;> omega
      have h6s := ch6.size
      refine app2 (r := r) hb (ho6.chg ch7 fun _ _ => id) hl fun w8 p8 c8 ho8 hf8 ch8 => ⟨_, _, _, rfl, ?_⟩
      refine last w8 p8 c8 ho8 (fun k hk => ?_) (c5.none.trans ((ch6.mono fun k _ hk => by omega).trans (ch7.none.trans (ch8.mono fun k _ hk => hp6 k hk))))
      rcases hf8 k hk with h | h
      · exact hp6 k h
      · omega
    · have h15 := c5.blk h15 id
      refine ⟨_, h15.cell 0, _, h15.cell 1, _, h15.cell 2, _, h15.cell 3, _, _, _, h15.cell 4, _, h15.cell 5, one w5 re hb5 (by omega) c5.none, ?_⟩
      refine al_abs fun rb w6 hrb hb6 c6 hs6 => two w6 re (c6.blk hb5 id) (by omega) (c5.none.trans c6.none) rb hb6 (by omega) (by omega)
  · refine ⟨_, h15.cell 0, _, h15.cell 1, _, h15.cell 2, _, h15.cell 3, _, _, _, h15.cell 4, _, h15.cell 5, ?_, ?_⟩
    · refine al_abs fun re w5 hre hb5 c5 hs5 => ⟨one w5 re hb5 (by omega) c5.none, ?_⟩
      refine al_abs fun rb w6 hrb hb6 c6 hs6 => two w6 re (c6.blk hb5 id) (by omega) (c5.none.trans c6.none) rb hb6 (by omega) (by omega)
    · refine al_abs fun rb w5 hrb hb5 c5 hs5 => al_abs fun re w6 hre hb6 c6 hs6 => two w6 re hb6 (by omega) (c5.none.trans c6.none) rb (c6.blk hb5 id) (by omega) (by omega)
end Go.Proofs.Ytiodaglceoodpaa
