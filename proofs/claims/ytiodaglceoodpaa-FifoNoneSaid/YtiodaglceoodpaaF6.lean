/- A fifo that is none: nil, or the zero one. FifoNone. -/
import Derived.Test.YtiodaglceoodpaaF5
namespace Go.Proofs.Ytiodaglceoodpaa
open Go Go.Sh

/-- The pointer p leads to no fifo that New made: it is nil, or its block is the zero one. -/
def NoneQ (w : World) (p : Option Addr) : Prop := p = none ∨ ∃ b, p = some ⟨b, 0, none⟩ ∧ Blk w b [.slice none 0 0, .int .i64 0, .int .i64 0, .bool false] 56

theorem NoneQ.chg {w w' : World} {p : Option Addr} {F : Nat → Prop} (h : NoneQ w p) (hc : Chg F w w') (hF : ∀ b, p = some ⟨b, 0, none⟩ → b < w.heap.size → ¬ F b) : NoneQ w' p := by
  rcases h with h | ⟨b, h, hb⟩
  · exact Or.inl h
  · exact Or.inr ⟨b, h, hc.blk hb (hF b h hb.lt)⟩

theorem nnone_call {w : World} {p : Option Addr} (h : NoneQ w p) {K : Value → World → Prop} (hk : K (.bool true) w) : callV Try.prog 19 #[.pointer p] w K := by
  refine ok19 ?_
  unfold S19
  rcases h with rfl | ⟨b, rfl, hb⟩
  · exact hk
  · simp only [Option.isNone_some, br_false, need_some, add_lit]
    exact ⟨0, hb.cell 2, hk⟩

theorem nlen_call {w : World} {p : Option Addr} (h : NoneQ w p) {K : Value → World → Prop} (hk : K (.int .i64 0) w) : callV Try.prog 15 #[.pointer p] w K :=
  ok15 (nnone_call h ⟨_, rfl, hk⟩)
theorem nlenq_call {w : World} {p : Option Addr} (h : NoneQ w p) {K : Value → World → Prop} (hk : K (.int .i64 0) w) : callQ Try.prog 15 #[.pointer p] w K :=
  callQ_of (nlen_call h ⟨rfl, hk⟩)
theorem nover_call {w : World} {p : Option Addr} (h : NoneQ w p) {K : Value → World → Prop} (hk : K (.bool false) w) : callV Try.prog 16 #[.pointer p] w K :=
  ok16 (nnone_call h ⟨_, rfl, hk⟩)
theorem nclear_call {w : World} {p : Option Addr} (h : NoneQ w p) {K : Value → World → Prop} (hk : K (.bool false) w) : callV Try.prog 14 #[.pointer p] w K :=
  ok14 (nover_call h ⟨_, rfl, hk⟩)

theorem npop_call {w : World} {p : Option Addr} (h : NoneQ w p) {K : Value → World → Prop} (hk : ∀ w', Chg (fun _ => False) w w' → K (.tuple #[Rec.zero.val, .bool false]) w') : callV Try.prog 12 #[.pointer p] w K := by
  refine ok12 (al_abs fun r w1 hr hz c1 hs1 => ?_)
  refine nlenq_call (h.chg c1 fun _ _ _ => id) ⟨_, rfl, ?_⟩
  rw [show ((0 : Int) == 0) = true from rfl, br_true]
  refine stL_abs hz (by simp) (by simp [Value.oneCell']) fun w3 hb c3 => ?_
  refine ⟨_, hb.cell 0, _, hb.cell 1, _, hb.cell 2, _, hb.cell 3, _, _, _, hb.cell 4, _, hb.cell 5, hk _ ?_⟩
  exact (c1.none.trans c3).mono fun k hk hk2 => by omega

theorem npush_call {w : World} {p : Option Addr} (h : NoneQ w p) (r : Rec) {K : Value → World → Prop} (hk : ∀ w', Chg (fun _ => False) w w' → K (.int .i64 1) w') : callV Try.prog 10 #[.pointer p, r.val] w K := by
  refine ok10 (al_abs fun r1 w1 hr hz c1 hs1 => ?_)
  refine nnone_call (h.chg c1 fun _ _ _ => id) ⟨_, rfl, ?_⟩
  rw [br_true]
  exact hk _ c1

theorem none_law {w : World} (r : Rec) {K : Value → World → Prop} (hk : ∀ w', Chg (fun k => w.heap.size ≤ k) w w' → K (.bool true) w') : callV Try.prog 6 #[r.val] w K := by
  refine ok6 (al_abs fun r9 w1 hr9 hx c1 hs1 => al_abs fun r10 w2 hr10 hq c2 hs2 => al_abs fun r11 w3 hr11 hl c3 hs3 => ?_)
  have hx := c3.blk (c2.blk hx id) id
  have hq := c3.blk hq id
  have c := c1.trans (c2.trans c3)
  refine ⟨fun m x wi => ∃ i : Nat, x = i ∧ i ≤ 2 ∧ m = 2 - i ∧ Blk wi r9 r.cells 36 ∧ Blk wi r10 [.slice none 0 0, .int .i64 0, .int .i64 0, .bool false] 56 ∧ Blk wi r11 [.pointer none, .pointer (some ⟨r10, 0, none⟩)] 23 ∧ Chg (fun k => w.heap.size ≤ k) w wi, ⟨2, 0, rfl, by omega, rfl, hx, hq, hl, c.none⟩, ?_⟩
  rintro m x wi ⟨i, rfl, hi, hm, hx, hq, hl, c⟩
  unfold B6_0
  refine br_of (fun hlt => ?_) (fun hge => ?_)
  · have hlt : i < 2 := by have := of_decide_eq_true hlt; omega
    refine idx_rule (by omega) (by omega) ?_
    obtain ⟨p, hp, hn⟩ : ∃ p, wi.cell? ⟨r11, 0 + (i : Int).toNat * 1, none⟩ = some (.pointer p) ∧ NoneQ wi p ∧ (p = none ∨ p = some ⟨r10, 0, none⟩) := by
      rcases (by omega : i = 0 ∨ i = 1) with rfl | rfl
      · exact ⟨none, hl.cell 0, Or.inl rfl, Or.inl rfl⟩
      · exact ⟨_, hl.cell 1, Or.inr ⟨r10, rfl, hq⟩, Or.inr rfl⟩
    have hp2 := hn.2
    have hn := hn.1
    refine ⟨p, hp, npop_call hn fun w4 c4 => ⟨_, _, _, _, _, _, _, _, _, rfl, al_abs fun r30 w5 hr30 hy c5 hs5 => stL_abs hy (by simp) (by simp [Value.oneCell']) fun w6 hy c6 => ?_⟩⟩
    have h4 := c4.size
    have l9 := hx.lt; have l10 := hq.lt; have l11 := hl.lt
    have cc : Chg (fun k => wi.heap.size ≤ k) wi w6 := c4.none.trans (c5.none.trans (c6.mono fun k _ hk => by omega))
    have hx6 := cc.blk hx (by omega)
    have hq6 := cc.blk hq (by omega)
    have hl6 := cc.blk hl (by omega)
    have hn6 : NoneQ w6 p := hn.chg cc fun b e hb => by omega
    refine ⟨_, hx6.cell 0, _, hx6.cell 1, _, hx6.cell 2, _, hx6.cell 3, _, _, _, hx6.cell 4, _, hx6.cell 5, ?_⟩
    refine npush_call hn6 r fun w7 c7 => ⟨_, rfl, ?_⟩
    have hy := c7.blk hy id
    have hn7 := hn6.chg c7 fun _ _ _ => id
    rw [show ((1 : Int) != 1) = false from rfl, br_false, br_false]
    refine ⟨_, hy.cell 5, ?_⟩
    rw [show (Rec.zero.at_ != 0) = false from rfl, br_false]
    refine ⟨_, _, _, hy.cell 4, ?_⟩
    rw [show (((Rec.zero.dl : Nat) : Int) != 0) = false from rfl, br_false]
    refine nlenq_call hn7 ⟨_, rfl, ?_⟩
    rw [show ((0 : Int) != 0) = false from rfl, br_false]
    refine nover_call hn7 ⟨_, rfl, ?_⟩
    rw [br_false]
    refine nclear_call hn7 ⟨_, rfl, ?_⟩
    rw [br_false, wrap64_id (by omega) (by omega)]
    exact ⟨2 - (i + 1), by omega, i + 1, by omega, by omega, rfl, c7.blk hx6 id, c7.blk hq6 id, c7.blk hl6 id, c.trans ((cc.mono fun k _ hk => by have := c.size; omega).trans c7.none)⟩
  · exact awake_call fun w2 c2 => ⟨_, rfl, hk w2 (c.trans (c2.mono fun k _ hk => by have := c.size; omega))⟩
end Go.Proofs.Ytiodaglceoodpaa
