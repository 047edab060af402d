/- The filters' functions: what each comes to. -/
import Derived.Test.YtcemgjikmdbjgaaD1
import Derived.Test.YtcemgjikmdbjgaaArg2
import Derived.Test.YtcemgjikmdbjgaaFlt
namespace Go.Proofs.Ytcemgjikmdbjgaa
open Go Go.Sh Go.Flt

/-! Numbers of 32 bits. -/
abbrev u32 (v : BitVec 32) : Value := .int .u32 (v.toNat : Int)
theorem wrB (v : BitVec 32) : IntKind.wrap .u32 (v.toNat : Int) = v.toNat := wrapU32_id (by omega) (by have := v.isLt; omega)
theorem ofB (v : BitVec 32) : BitVec.ofInt 32 (v.toNat : Int) = v := by simp
theorem eqB (v u : BitVec 32) : (((v.toNat : Int)) == (u.toNat : Int)) = (v == u) := by
  rw [Bool.eq_iff_iff, beq_iff_eq, beq_iff_eq]
  exact ⟨fun h => BitVec.eq_of_toNat_eq (by omega), fun h => by rw [h]⟩
theorem eqB0 (v : BitVec 32) : (((v.toNat : Int)) == 0) = (v == 0#32) := eqB v 0#32
theorem topT : (536870911 : Int) = ((top true).toNat : Int) := rfl
theorem topF : (2047 : Int) = ((top false).toNat : Int) := rfl
theorem u32_of {n : Int} (h0 : 0 ≤ n) (h1 : n < 4294967296) : ∃ v : BitVec 32, n = (v.toNat : Int) := ⟨BitVec.ofInt 32 n, by rw [BitVec.toNat_ofInt]; omega⟩

def cellsF (x : Flt) : List Value := [.bool x.ext, u32 x.mask, u32 x.mat]
abbrev valF (x : Flt) : Value := .agg #[.bool x.ext, u32 x.mask, u32 x.mat]

theorem one_box (w : World) (t : TypeId) (cs : List Value) : ∀ k, k < w.heap.size → ¬ (k = w.heap.size) := fun k h e => by omega

theorem most_call {w : World} {e : Bool} {K : Value → World → Prop} (hk : K (u32 (top e)) w) : callV Try.prog 26 #[.bool e] w K := by
  refine ok26 ?_
  unfold S26
  cases e
  · exact hk
  · exact hk

theorem right_call {w : World} {x : Flt} {K : Value → World → Prop} (hk : ∀ w', Chg (fun _ => False) w w' → K (.bool (right x)) w') : callV Try.prog 18 #[valF x] w K := by
  refine ok18 (al_abs fun r w1 hr hb c1 hs1 => dr_abs fun w2 _ c2 => ?_)
  have hb : Blk w2 r (cellsF x) 24 := c2.blk hb id
  refine ⟨_, hb.cell 1, _, hb.cell 0, callQ_chg (most_call ⟨Chg.refl _ _, _, rfl, ?_⟩)⟩
  have hr : decide ((x.mask.toNat : Int) ≤ ((top x.ext).toNat : Int)) = decide (x.mask.toNat ≤ (top x.ext).toNat) := by simp
  rw [hr]
  cases hd : decide (x.mask.toNat ≤ (top x.ext).toNat) with
  | false =>
    have : right x = false := by unfold right; rw [hd]; rfl
    rw [br_false, ← this]; exact hk _ (c1.trans c2)
  | true =>
    rw [br_true]
    refine ⟨_, hb.cell 2, _, hb.cell 1, ?_⟩
    rw [ofB, ofB, wrB, eqB0]
    have : right x = (x.mat &&& ~~~x.mask == 0#32) := by unfold right; rw [hd]; rfl
    rw [← this]; exact hk _ (c1.trans c2)

theorem mend_call {w : World} {x : Flt} {K : Value → World → Prop} (hk : ∀ w', Chg (fun _ => False) w w' → K (valF (mend x)) w') : callV Try.prog 8 #[valF x] w K := by
  refine ok8 (al_abs fun r w1 hr hb c1 hs1 => al_abs fun r2 w2 hr2 hb2 c2 hs2 => ?_)
  have hb : Blk w2 r (cellsF x) 24 := c2.blk hb id
  refine jn_rule (fun J => J ((top x.ext).toNat : Int) w2) ?_ fun J hJ => ⟨_, hb.cell 0, br_of (fun h => by rw [h] at hJ; exact hJ) (fun h => by rw [h] at hJ; exact hJ)⟩
  refine ⟨_, hb.cell 1, ?_⟩
  rw [ofB, ofB, wrB]
  refine stL_abs hb (by simp [cellsF]) (by simp [Value.oneCell']) fun w3 hb c3 => ?_
  refine ⟨_, hb.cell 2, _, hb.cell 1, ?_⟩
  rw [ofB, ofB, wrB]
  refine stL_abs hb (by simp [cellsF, lay]) (by simp [Value.oneCell']) fun w4 hb c4 => ?_
  refine ⟨_, hb.cell 0, _, hb.cell 1, _, hb.cell 2, ?_⟩
  have hb2 := c4.blk (c3.blk hb2 (by omega)) (by omega)
  refine stL_abs hb2 (by simp) (by simp [Value.oneCell']) fun w5 hb2 c5 => ?_
  refine ⟨_, hb2.cell 0, _, hb2.cell 1, _, hb2.cell 2, hk _ ?_⟩
  exact (c1.none.trans (c2.none.trans ((c3.mono (F' := fun k => w.heap.size ≤ k) fun k _ h => by omega).trans ((c4.mono fun k _ h => by omega).trans (c5.mono fun k _ h => by omega))))).mono fun k hk h => by omega

theorem covers_call {w : World} {x y : Flt} {K : Value → World → Prop} (hk : ∀ w', Chg (fun _ => False) w w' → K (.bool (covers x y)) w') : callV Try.prog 11 #[valF x, valF y] w K := by
  refine ok11 (al_abs fun r w1 hr hb c1 hs1 => al_abs fun r2 w2 hr2 hb2 c2 hs2 => ?_)
  have hb : Blk w2 r (cellsF x) 24 := c2.blk hb id
  have hb2 : Blk w2 r2 (cellsF y) 24 := hb2
  refine ⟨_, hb.cell 0, _, hb.cell 1, _, hb.cell 2, callQ_chg (right_call fun w3 c3 => ⟨c3, _, rfl, ?_⟩)⟩
  have c3' := c1.trans (c2.trans c3)
  cases h1 : right x with
  | false => 
    have : covers x y = false := by unfold covers; rw [h1]; rfl
    rw [br_false, ← this]; exact hk _ c3'
  | true =>
  rw [br_true]
  have hb := c3.blk hb id
  have hb2 := c3.blk hb2 id
  refine ⟨_, hb2.cell 0, _, hb2.cell 1, _, hb2.cell 2, callQ_chg (right_call fun w4 c4 => ⟨c4, _, rfl, ?_⟩)⟩
  have c4' := c3'.trans c4
  cases h2 : right y with
  | false => 
    have : covers x y = false := by unfold covers; rw [h1, h2]; rfl
    rw [br_false, ← this]; exact hk _ c4'
  | true =>
  rw [br_true]
  have hb := c4.blk hb id
  have hb2 := c4.blk hb2 id
  refine ⟨_, hb.cell 0, _, hb2.cell 0, ?_⟩
  cases h3 : (x.ext == y.ext) with
  | false => 
    have : covers x y = false := by unfold covers; rw [h1, h2, h3]; rfl
    rw [br_false, ← this]; exact hk _ c4'
  | true =>
  rw [br_true]
  refine ⟨_, hb.cell 1, _, hb2.cell 1, ?_⟩
  rw [ofB, ofB, wrB, eqB0]
  cases h4 : (x.mask &&& ~~~y.mask == 0#32) with
  | false => 
    have : covers x y = false := by unfold covers; rw [h1, h2, h3, h4]; rfl
    rw [br_false, ← this]; exact hk _ c4'
  | true =>
  rw [br_true]
  refine ⟨_, hb2.cell 2, _, hb.cell 1, _, hb.cell 2, ?_⟩
  rw [ofB, ofB, wrB, eqB]
  have : covers x y = (y.mat &&& x.mask == x.mat) := by unfold covers; rw [h1, h2, h3, h4]; rfl
  rw [← this]; exact hk _ c4'

/-- What lets a frame in: the closure, over the frame's block. -/
theorem letsc_call {w : World} {x : Flt} {b : Nat} {id : BitVec 32} {e : Bool} {cs : List Value} {t : TypeId} (hf : Blk w b (u32 id :: .bool e :: cs) t) {K : Value → World → Prop} (hk : ∀ w', Chg (fun _ => False) w w' → K (.bool (lets id e x)) w') : callV Try.prog 30 #[valF x, .pointer (some ⟨b, 0, none⟩)] w K := by
  refine ok30 (al_abs fun r w1 hr hb c1 hs1 => ?_)
  have hb : Blk w1 r (cellsF x) 24 := hb
  refine ⟨_, hb.cell 0, _, hb.cell 1, _, hb.cell 2, callQ_chg (right_call fun w2 c2 => ⟨c2, _, rfl, ?_⟩)⟩
  have c2' := c1.trans c2
  cases h1 : right x with
  | false => 
    have : lets id e x = false := by unfold lets; rw [h1]; rfl
    rw [br_false, ← this]; exact hk _ c2'
  | true =>
  rw [br_true]
  have hb := c2.blk hb (fun h => h)
  have hf := c2'.blk hf (fun h => h)
  simp only [add_lit]
  refine ⟨_, hb.cell 0, _, hf.cell 1, ?_⟩
  cases h2 : (x.ext == e) with
  | false => 
    have : lets id e x = false := by unfold lets; rw [h1, h2]; rfl
    rw [br_false, ← this]; exact hk _ c2'
  | true =>
  rw [br_true]
  refine ⟨_, hf.cell 0, _, hb.cell 1, _, hb.cell 2, ?_⟩
  rw [ofB, ofB, wrB, eqB]
  have : lets id e x = (id &&& x.mask == x.mat) := by unfold lets; rw [h1, h2]; rfl
  rw [← this]; exact hk _ c2'
end Go.Proofs.Ytcemgjikmdbjgaa
