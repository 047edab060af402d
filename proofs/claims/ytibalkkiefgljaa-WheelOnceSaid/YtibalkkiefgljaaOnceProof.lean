/- WheelOnce: the row, over the walk. -/
import Derived.Test.YtibalkkiefgljaaRows
import Derived.Test.YtibalkkiefgljaaLaw
import Derived.Test.YtibalkkiefgljaaWOnce
namespace Go.Proofs.Ytibalkkiefgljaa.wheelOnce
open Go Go.Sh Go.ChangeShapes Go.WideShapes Go.ChangeAt Go.RowKit
theorem own : ownKnob Try.prog.godebug = none := by kernel_rfl
theorem laid : laidOutB Try.prog = true := by kernel_rfl
theorem fits (H : Type) (ds : List (DataW H)) (h : ds.length = Try.f4.params.size) : Rows.wheelOnceSpec.fn H ds = { results := [.lit (.bool true)], args := ds } := by
  have h : ds.length = 3 := h
  match ds, h with
  | [d0, d1, d2], _ => rfl
set_option maxRecDepth 100000 in
theorem lifted (os : Os) (started : os.Started) (H : Type) (enc : TypeId × Value → H) :
    ReturnsInHanded {} Try.checked os 4 .any (Rows.wheelOnceSpec.pre6 enc Try.prog Try.f4 Rows.wheelOnceRow.domain false) (Rows.wheelOnceSpec.post enc Try.prog Try.f4 false true false false) := by
  refine returnsInHanded_of_change (C := Try.checked) own started (by kernel_rfl) Try.func4
    (ChangeSpec.witness6 (enc := enc) (C := Try.checked) false ⟨#[], #[.int .u8 0, .slice none 0 0, .slice none 0 0], []⟩ 8 (by kernel_rfl) (by kernel_rfl) (by kernel_rfl) (by kernel_rfl)) ?_
  intro W base args ds gs before hval hW hcnd _
  have hg : gs = [] := by obtain ⟨p, q, hA, hV, _⟩ := hW; exact (trodVars_none hV).1
  subst hg
  obtain ⟨p, q, hA, hV, he, hfz, hnd⟩ := id hW
  refine (walk4 W base args ds p hval hA).mono fun e W' ⟨v, he, hv, hb⟩ => ⟨v, he, ?_⟩
  subst hv
  exact post_law laid rfl (by decide +kernel) (by kernel_rfl) Try.underlying4 (fits H ds) hW hb

theorem over : Rows.wheelOnceRow.holds Try.pinned (OpenSpec.ofChange Rows.wheelOnceSpec) :=
  OpenClaim.holds_of_wide 4 Try.f4 rfl rfl rfl rfl rfl rfl rfl ⟨rfl, rfl, rfl, rfl, rfl⟩ rfl rfl rfl rfl rfl (by kernel_rfl) Try.func4 (by kernel_rfl)
    (of_decide_eq_true (by kernel_rfl)) (by unfold Func.isWrapper; first | (rw [if_pos (by decide +kernel)]; kernel_rfl) | (rw [if_neg (by decide +kernel)]; exact ⟨rfl, rfl⟩))
    (fun os started H enc _ => lifted os started H enc)

theorem proved : Rows.WheelOnceSaid := over
#print axioms proved
end Go.Proofs.Ytibalkkiefgljaa.wheelOnce
