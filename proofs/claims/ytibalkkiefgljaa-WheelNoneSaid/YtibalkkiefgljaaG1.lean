/- WheelNone. -/
import Derived.Test.YtibalkkiefgljaaF6
import Derived.Test.YtibalkkiefgljaaD5
namespace Go.Proofs.Ytibalkkiefgljaa
open Go Go.Sh

theorem none_law {w : World} (id after : Int) {K : Value → World → Prop} (hk : ∀ w', Chg (fun _ => False) w w' → K (.bool true) w') : callV Try.prog 7 #[iv id, iv after] w K := by
  refine ok7 (al_abs fun r w1 hr hb c1 hs1 => al_abs fun r2 w2 hr2 hb2 c2 hs2 => ?_)
  have hb := c2.blk hb (fun h => h)
  refine ⟨fun m x w' => ∃ i : Nat, x = i ∧ i ≤ 2 ∧ m = 2 - i ∧ Chg (fun _ => False) w2 w', ⟨2, 0, rfl, by omega, rfl, Chg.refl _ _⟩, ?_⟩
  rintro m x w3 ⟨i, rfl, hi, hm, c3⟩
  refine br_of (fun hlt => ?_) (fun hge => ?_)
  · have hlt : i < 2 := by have := of_decide_eq_true hlt; omega
    obtain ⟨p, hp, hnon⟩ : ∃ p, w3.cell? ⟨r2, 0 + ((i : Nat) : Int).toNat * 1, none⟩ = some (.pointer p) ∧ Non w3 p := by
      have h3 := c3.blk hb2 (fun h => h)
      have h4 := c3.blk hb (fun h => h)
      rcases (by omega : i = 0 ∨ i = 1) with rfl | rfl
      · exact ⟨none, h3.cell 0, .inl rfl⟩
      · exact ⟨_, h3.cell 1, .inr ⟨r, _, _, _, rfl, h4⟩⟩
    refine idx_rule (by omega) (by omega) ⟨p, hp, ?_⟩
    refine non_left hnon _ ⟨_, _, rfl, non_set hnon _ _ ⟨_, rfl, ?_⟩⟩
    rw [show ((1 : Int) != 1) = false from rfl, br_false]
    refine non_cancel hnon _ ⟨_, rfl, ?_⟩
    rw [br_false, show ((0 : Int) != 0) = false from rfl, br_false, br_false]
    refine non_tick hnon fun w4 c4 => ⟨_, _, _, rfl, ?_⟩
    rw [show ((((0 : Nat) : Int) : Int) != 0) = false from rfl, br_false]
    refine non_now (hnon.go c4) ⟨_, rfl, ?_⟩
    rw [show ((0 : Int) != 0) = false from rfl, br_false]
    refine non_len (hnon.go c4) ⟨_, rfl, ?_⟩
    rw [show ((0 : Int) != 0) = false from rfl, br_false, wrap64_id (by omega) (by omega)]
    exact ⟨2 - (i + 1), by omega, i + 1, by omega, by omega, rfl, c3.trans c4⟩
  · exact awake_call fun w4 c4 => ⟨_, rfl, hk w4 (c1.trans (c2.trans (c3.trans c4)))⟩
end Go.Proofs.Ytibalkkiefgljaa
