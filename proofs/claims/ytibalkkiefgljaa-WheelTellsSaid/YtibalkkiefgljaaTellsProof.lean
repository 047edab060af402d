/- WheelTells: the row, over the walk. -/
import Derived.Test.YtibalkkiefgljaaRows
import Derived.Test.YtibalkkiefgljaaLaw
import Derived.Test.YtibalkkiefgljaaWTells
namespace Go.Proofs.Ytibalkkiefgljaa.wheelTells
open Go Go.Sh Go.ChangeShapes Go.WideShapes Go.ChangeAt Go.RowKit
theorem own : ownKnob Try.prog.godebug = none := by kernel_rfl
theorem laid : laidOutB Try.prog = true := by kernel_rfl
theorem fits (H : Type) (ds : List (DataW H)) (h : ds.length = Try.f3.params.size) : Rows.wheelTellsSpec.fn H ds = { results := [.lit (.bool true)], args := ds } := by
  have h : ds.length = 3 := h
  match ds, h with
  | [d0, d1, d2], _ => rfl
set_option maxRecDepth 100000 in
theorem lifted (os : Os) (started : os.Started) (H : Type) (enc : TypeId × Value → H) :
    ReturnsInHanded {} Try.checked os 3 .any (Rows.wheelTellsSpec.pre6 enc Try.prog Try.f3 Rows.wheelTellsRow.domain false) (Rows.wheelTellsSpec.post enc Try.prog Try.f3 false true false false) := by
  refine returnsInHanded_of_change (C := Try.checked) own started (by kernel_rfl) Try.func3
    (ChangeSpec.witness6 (enc := enc) (C := Try.checked) false ⟨#[], #[.int .i64 0, .int .i64 0, .slice none 0 0], []⟩ 8 (by kernel_rfl) (by kernel_rfl) (by kernel_rfl) (by kernel_rfl)) ?_
  intro W base args ds gs before hval hW hcnd _
  have hg : gs = [] := by obtain ⟨p, q, hA, hV, _⟩ := hW; exact (trodVars_none hV).1
  subst hg
  obtain ⟨p, q, hA, hV, he, hfz, hnd⟩ := id hW
  refine (walk3 W base args ds p hval hA).mono fun e W' ⟨v, he, hv, hb⟩ => ⟨v, he, ?_⟩
  subst hv
  exact post_law laid rfl (by decide +kernel) (by kernel_rfl) Try.underlying4 (fits H ds) hW hb

theorem over : Rows.wheelTellsRow.holds Try.pinned (OpenSpec.ofChange Rows.wheelTellsSpec) :=
  OpenClaim.holds_of_wide 3 Try.f3 rfl rfl rfl rfl rfl rfl rfl ⟨rfl, rfl, rfl, rfl, rfl⟩ rfl rfl rfl rfl rfl (by kernel_rfl) Try.func3 (by kernel_rfl)
    (of_decide_eq_true (by kernel_rfl)) (by unfold Func.isWrapper; first | (rw [if_pos (by decide +kernel)]; kernel_rfl) | (rw [if_neg (by decide +kernel)]; exact ⟨rfl, rfl⟩))
    (fun os started H enc _ => lifted os started H enc)

theorem proved : Rows.WheelTellsSaid := over
#print axioms proved
end Go.Proofs.Ytibalkkiefgljaa.wheelTells
