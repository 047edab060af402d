/- What arguments are, kind by kind. -/
import Derived.Test.YtibalkkiefgljaaArg2
namespace Go.Sh
open Go Go.ChangeShapes Go.WideShapes Go.ChangeAt Go.RowKit
theorem has_u32 {n : Int} (h : IntKind.u32.has n) : 0 ≤ n ∧ n < 4294967296 := by
  unfold IntKind.has at h
  simp [IntKind.min, IntKind.max, IntKind.signed, IntKind.bits] at h
  omega
theorem has_int {k : IntKind} {n : Int} (h : k.has n) : k.min ≤ n ∧ n ≤ k.max := h
theorem has_u8 {n : Int} (h : IntKind.u8.has n) : 0 ≤ n ∧ n < 256 := by
  unfold IntKind.has at h
  simp [IntKind.min, IntKind.max, IntKind.signed, IntKind.bits] at h
  omega
theorem has_u16 {n : Int} (h : IntKind.u16.has n) : 0 ≤ n ∧ n < 65536 := by
  unfold IntKind.has at h
  simp [IntKind.min, IntKind.max, IntKind.signed, IntKind.bits] at h
  omega
theorem has_u64 {n : Int} (h : IntKind.u64.has n) : 0 ≤ n ∧ n < 18446744073709551616 := by
  unfold IntKind.has at h
  simp [IntKind.min, IntKind.max, IntKind.signed, IntKind.bits] at h
  omega
theorem has_i64 {n : Int} (h : IntKind.i64.has n) : -9223372036854775808 ≤ n ∧ n < 9223372036854775808 := by
  unfold IntKind.has at h
  simp [IntKind.min, IntKind.max, IntKind.signed, IntKind.bits] at h
  omega
section
variable {H : Type} {enc : TypeId × Value → H} {P : Program} {W : World} {held : Bool} {sp : Nat → Bool}
theorem arg_slice {t e : TypeId} (ht : P.underlying t = some (.slice e)) (hs : 0 < P.cellsOf e) {r : Reach} {base : Nat} {v : Value} {d : DataW H} {ps : List MemPlace} (hval : Value.okWide P W r base t v) (hd : DataW.Trod enc P W 0 sp held t v d ps) :
    ∃ p l c C, v = .slice p l c ∧ l ≤ c ∧ c ≤ maxLen ∧ (p = none → l = 0 ∧ c = 0) ∧ Cam W (P.cellsOf e) p l C ∧ ∀ cs ∈ C, ∃ fuel y, DataW.trod enc P W 0 sp held fuel e cs = some y := by
  have hc := okWide_cell (u := t) (by rw [ht]; intro fs h; cases h) (by rw [ht]; intro n e h; cases h) hval
  obtain ⟨p, l, c, rfl, hle, _⟩ := cell_slice ht hc
  obtain ⟨fuel, h⟩ := hd
  obtain ⟨C, hC, h1, h2, h3, hk⟩ := open_came ht hs h
  exact ⟨p, l, c, C, rfl, h1, h2, h3, hC, hk⟩
theorem arg_int {t : TypeId} {k : IntKind} (ht : P.underlying t = some (.int k)) {r : Reach} {base : Nat} {v : Value} (hval : Value.okWide P W r base t v) : ∃ n, v = .int k n ∧ k.has n :=
  cell_int ht (okWide_cell (u := t) (by rw [ht]; intro fs h; cases h) (by rw [ht]; intro n e h; cases h) hval)
theorem arg_bool {t : TypeId} (ht : P.underlying t = some .bool) {r : Reach} {base : Nat} {v : Value} (hval : Value.okWide P W r base t v) : ∃ b, v = .bool b :=
  cell_bool ht (okWide_cell (u := t) (by rw [ht]; intro fs h; cases h) (by rw [ht]; intro n e h; cases h) hval)
end
theorem all_of {α : Type} {f : α → List Value} {C : List (List Value)} (h : ∀ cs ∈ C, ∃ x, cs = f x) : ∃ L : List α, C = L.map f := by
  induction C with
  | nil => exact ⟨[], rfl⟩
  | cons c C ih =>
    obtain ⟨x, rfl⟩ := h c (by simp)
    obtain ⟨L, rfl⟩ := ih fun cs hc => h cs (by simp [hc])
    exact ⟨x :: L, rfl⟩
end Go.Sh
