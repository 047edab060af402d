/- What arguments are: numbers, slices, filters. -/
import Derived.Test.YtcemgjikmdbjgaaF2
namespace Go.Sh
open Go Go.ChangeShapes Go.WideShapes Go.ChangeAt Go.RowKit
theorem has_u32 {n : Int} (h : IntKind.u32.has n) : 0 ≤ n ∧ n < 4294967296 := by
  unfold IntKind.has at h
  simp [IntKind.min, IntKind.max, IntKind.signed, IntKind.bits] at h
  omega
section
variable {H : Type} {enc : TypeId × Value → H} {P : Program} {W : World} {held : Bool} {sp : Nat → Bool}
theorem arg_slice {t e : TypeId} (ht : P.underlying t = some (.slice e)) (hs : 0 < P.cellsOf e) {r : Reach} {base : Nat} {v : Value} {d : DataW H} {ps : List MemPlace} (hval : Value.okWide P W r base t v) (hd : DataW.Trod enc P W 0 sp held t v d ps) :
    ∃ p l c C, v = .slice p l c ∧ l ≤ c ∧ c ≤ maxLen ∧ (p = none → l = 0 ∧ c = 0) ∧ Cam W (P.cellsOf e) p l C ∧ ∀ cs ∈ C, ∃ fuel y, DataW.trod enc P W 0 sp held fuel e cs = some y := by
  have hc := okWide_cell (u := t) (by rw [ht]; intro fs h; cases h) (by rw [ht]; intro n e h; cases h) hval
  obtain ⟨p, l, c, rfl, hle, _⟩ := cell_slice ht hc
  obtain ⟨fuel, h⟩ := hd
  obtain ⟨C, hC, h1, h2, h3, hk⟩ := open_came ht hs h
  exact ⟨p, l, c, C, rfl, h1, h2, h3, hC, hk⟩
theorem arg_int {t : TypeId} {k : IntKind} (ht : P.underlying t = some (.int k)) {r : Reach} {base : Nat} {v : Value} (hval : Value.okWide P W r base t v) : ∃ n, v = .int k n ∧ k.has n :=
  cell_int ht (okWide_cell (u := t) (by rw [ht]; intro fs h; cases h) (by rw [ht]; intro n e h; cases h) hval)
theorem arg_bool {t : TypeId} (ht : P.underlying t = some .bool) {r : Reach} {base : Nat} {v : Value} (hval : Value.okWide P W r base t v) : ∃ b, v = .bool b :=
  cell_bool ht (okWide_cell (u := t) (by rw [ht]; intro fs h; cases h) (by rw [ht]; intro n e h; cases h) hval)
end
end Go.Sh
namespace Go.Proofs.Ytcemgjikmdbjgaa
open Go Go.Sh Go.Flt Go.ChangeShapes Go.WideShapes Go.ChangeAt Go.RowKit

theorem open_flt {w : World} {r : Reach} {base : Nat} {v : Value} (h : Value.okWide Try.prog w r base 24 v) : ∃ x : Flt, v = valF x := by
  obtain ⟨cs, rfl, hl, hc⟩ := cells_struct (ts := [4, 22, 22]) Try.underlying24 (by kernel_rfl) (by kernel_rfl) h
  match cs, hl with
  | [c0, c1, c2], _ =>
    obtain ⟨b0, rfl⟩ := cell_bool Try.underlying4 (hc 0 (by decide) c0 rfl)
    obtain ⟨n1, rfl, h1⟩ := cell_int Try.underlying22 (hc 1 (by decide) c1 rfl)
    obtain ⟨n2, rfl, h2⟩ := cell_int Try.underlying22 (hc 2 (by decide) c2 rfl)
    obtain ⟨v1, rfl⟩ := u32_of (has_u32 h1).1 (has_u32 h1).2
    obtain ⟨v2, rfl⟩ := u32_of (has_u32 h2).1 (has_u32 h2).2
    exact ⟨⟨b0, v1, v2⟩, rfl⟩
theorem trod_flt {H : Type} {enc : TypeId × Value → H} {W : World} {sp : Nat → Bool} {held : Bool} {fuel : Nat} {cs : List Value} {x : DataW H × List MemPlace} (h : DataW.trod enc Try.prog W 0 sp held fuel 24 cs = some x) : ∃ x : Flt, cs = cellsF x := by
  obtain ⟨hl, hf⟩ := trod_struct Try.underlying24 h
  rw [show Try.prog.cellsOf 24 = 3 by kernel_rfl] at hl
  match cs, hl with
  | [c0, c1, c2], _ =>
    obtain ⟨f0, y0, h0⟩ := hf _ (List.mem_cons_self ..)
    obtain ⟨f1, y1, h1⟩ := hf _ (List.mem_cons_of_mem _ (List.mem_cons_self ..))
    obtain ⟨f2, y2, h2⟩ := hf _ (List.mem_cons_of_mem _ (List.mem_cons_of_mem _ (List.mem_cons_self ..)))
    dsimp only at h0 h1 h2
    rw [show Try.prog.cellsOf 4 = 1 by kernel_rfl] at h0
    rw [show Try.prog.cellsOf 22 = 1 by kernel_rfl] at h1 h2
    obtain ⟨b0, e0⟩ := trod_bool Try.underlying4 h0
    obtain ⟨n1, e1, w1⟩ := trod_num Try.underlying22 h1
    obtain ⟨n2, e2, w2⟩ := trod_num Try.underlying22 h2
    simp at e0 e1 e2
    subst e0 e1 e2
    have b1 := bounds_u32 w1
    have b2 := bounds_u32 w2
    obtain ⟨v1, rfl⟩ := u32_of (n := n1) (by omega) (by omega)
    obtain ⟨v2, rfl⟩ := u32_of (n := n2) (by omega) (by omega)
    exact ⟨⟨b0, v1, v2⟩, rfl⟩
theorem all_of {α : Type} {f : α → List Value} {C : List (List Value)} (h : ∀ cs ∈ C, ∃ x, cs = f x) : ∃ L : List α, C = L.map f := by
  induction C with
  | nil => exact ⟨[], rfl⟩
  | cons c C ih =>
    obtain ⟨x, rfl⟩ := h c (by simp)
    obtain ⟨L, rfl⟩ := ih fun cs hc => h cs (by simp [hc])
    exact ⟨x :: L, rfl⟩
theorem arg_fl {H : Type} {enc : TypeId × Value → H} {W : World} {sp : Nat → Bool} {held : Bool} {r : Reach} {base : Nat} {v : Value} {d : DataW H} {ps : List MemPlace} (hval : Value.okWide Try.prog W r base 27 v) (hd : DataW.Trod enc Try.prog W 0 sp held 27 v d ps) :
    ∃ p l c L, v = .slice p l c ∧ l ≤ c ∧ FL W p l L := by
  obtain ⟨p, l, c, C, rfl, h1, _, _, hC, hk⟩ := arg_slice Try.underlying27 (by rw [show Try.prog.cellsOf 24 = 3 by kernel_rfl]; omega) hval hd
  rw [show Try.prog.cellsOf 24 = 3 by kernel_rfl] at hC
  obtain ⟨L, rfl⟩ := all_of (f := cellsF) (C := C) fun cs hc => by obtain ⟨f, y, hy⟩ := hk cs hc; exact trod_flt hy
  exact ⟨p, l, c, L, rfl, h1, hC⟩
theorem arg_u32 {W : World} {r : Reach} {base : Nat} {v : Value} (hval : Value.okWide Try.prog W r base 22 v) : ∃ x, v = u32 x := by
  obtain ⟨n, rfl, h⟩ := arg_int Try.underlying22 hval
  obtain ⟨x, rfl⟩ := u32_of (has_u32 h).1 (has_u32 h).2
  exact ⟨x, rfl⟩
end Go.Proofs.Ytcemgjikmdbjgaa
