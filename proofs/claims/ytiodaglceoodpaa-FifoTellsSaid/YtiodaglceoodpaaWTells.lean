/- FifoTells' walk, over what its arguments are. -/
import Derived.Test.YtiodaglceoodpaaG3
import Derived.Test.YtiodaglceoodpaaArg2
namespace Go.Proofs.Ytiodaglceoodpaa
open Go Go.Sh Go.ChangeShapes Go.WideShapes Go.ChangeAt Go.RowKit

theorem opd_of {H : Type} {enc : TypeId × Value → H} {W : World} {sp : Nat → Bool} {held : Bool} {fuel : Nat} {cs : List Value} {x : DataW H × List MemPlace} (h : DataW.trod enc Try.prog W 0 sp held fuel 38 cs = some x) : Opd W cs := by
  obtain ⟨hl, hf⟩ := trod_struct Try.underlying38 h
  rw [show Try.prog.cellsOf 38 = 7 by kernel_rfl] at hl
  match cs, hl with
  | [c0, c1, c2, c3, c4, c5, c6], _ =>
    obtain ⟨f0, y0, h0⟩ := hf _ (List.mem_cons_self ..)
    obtain ⟨f1, y1, h1⟩ := hf _ (List.mem_cons_of_mem _ (List.mem_cons_self ..))
    dsimp only at h0 h1
    rw [show Try.prog.cellsOf 5 = 1 by kernel_rfl] at h0
    rw [show Try.prog.cellsOf 36 = 6 by kernel_rfl] at h1
    obtain ⟨n0, e0, w0⟩ := trod_num Try.underlying5 h0
    simp at e0
    subst e0
    obtain ⟨_, hg⟩ := trod_struct Try.underlying36 h1
    obtain ⟨f2, y2, h2⟩ := hg _ (List.mem_cons_self ..)
    obtain ⟨f3, y3, h3⟩ := hg _ (List.mem_cons_of_mem _ (List.mem_cons_self ..))
    dsimp only at h2 h3
    rw [show Try.prog.cellsOf 34 = 5 by kernel_rfl] at h2
    rw [show Try.prog.cellsOf 3 = 1 by kernel_rfl] at h3
    obtain ⟨n6, e6, _⟩ := trod_num Try.underlying3 h3
    simp at e6
    subst e6
    obtain ⟨_, hr⟩ := trod_struct Try.underlying34 h2
    obtain ⟨_, _, k1⟩ := hr _ (List.mem_cons_self ..)
    obtain ⟨_, _, k2⟩ := hr _ (List.mem_cons_of_mem _ (List.mem_cons_self ..))
    obtain ⟨_, _, k3⟩ := hr _ (List.mem_cons_of_mem _ (List.mem_cons_of_mem _ (List.mem_cons_self ..)))
    obtain ⟨_, _, k4⟩ := hr _ (List.mem_cons_of_mem _ (List.mem_cons_of_mem _ (List.mem_cons_of_mem _ (List.mem_cons_self ..))))
    obtain ⟨_, _, k5⟩ := hr _ (List.mem_cons_of_mem _ (List.mem_cons_of_mem _ (List.mem_cons_of_mem _ (List.mem_cons_of_mem _ (List.mem_cons_self ..)))))
    dsimp only at k1 k2 k3 k4 k5
    rw [show Try.prog.cellsOf 31 = 1 by kernel_rfl] at k1
    rw [show Try.prog.cellsOf 4 = 1 by kernel_rfl] at k2 k3
    rw [show Try.prog.cellsOf 5 = 1 by kernel_rfl] at k4
    rw [show Try.prog.cellsOf 32 = 1 by kernel_rfl] at k5
    obtain ⟨n1, e1, _⟩ := trod_num Try.underlying31 k1
    obtain ⟨b2, e2⟩ := trod_bool Try.underlying4 k2
    obtain ⟨b3, e3⟩ := trod_bool Try.underlying4 k3
    obtain ⟨n4, e4, _⟩ := trod_num Try.underlying5 k4
    obtain ⟨p5, l5, c5', e5⟩ := trod_sl Try.underlying32 k5
    rw [e5] at k5
    simp at e1 e2 e3 e4 e5
    subst e1 e2 e3 e4 e5
    obtain ⟨D, hD, hle, _, _, hk⟩ := open_came Try.underlying32 (by rw [show Try.prog.cellsOf 5 = 1 by kernel_rfl]; omega) k5
    rw [show Try.prog.cellsOf 5 = 1 by kernel_rfl] at hD
    exact ⟨n0, ⟨n1, b2, b3, n4, p5, l5, c5', n6⟩, rfl, (bounds_u8 w0).1, hle, D, hD, fun c hc => by
      obtain ⟨f, y, hy⟩ := hk c hc
      obtain ⟨m, e, _⟩ := trod_num Try.underlying5 hy
      exact ⟨m, e⟩⟩

theorem walk3 {H : Type} {enc : TypeId × Value → H} (W : World) (base : Nat) (args : Array Value) (ds : List (DataW H)) (p : List MemPlace) (hval : ∀ (j : Nat) t v, Try.f3.params[j]? = some t → args[j]? = some v → Value.okWide Try.prog W .any base t v)
    (hA : DataW.TrodAll enc Try.prog W 0 (fun _ => true) true Try.f3.params.toList args.toList ds p) : callV Try.prog 3 args W fun v w' => v = .bool true ∧ Below W.heap.size W w' := by
  rw [Try.params3] at hA hval
  obtain ⟨v0, vs0, d0, ds0, p0, q0, hargs, rfl, rfl, h0, r0⟩ := trodAll_cons hA
  obtain ⟨v1, vs1, d1, ds1, p1, q1, rfl, rfl, rfl, h1, r1⟩ := trodAll_cons r0
  obtain ⟨rfl, rfl, rfl⟩ := trodAll_nil r1
  obtain rfl : args = #[v0, v1] := by cases args; simp_all
  obtain ⟨a0, rfl, rfl, rfl, w0⟩ := open_int Try.underlying3 (hval 0 3 v0 rfl rfl) h0
  have hc1 := okWide_cell (u := 22) (by rw [Try.underlying22]; intro fs h; cases h) (by rw [Try.underlying22]; intro n e h; cases h) (hval 1 22 v1 rfl rfl)
  obtain ⟨ps, l, c, rfl, hle, _⟩ := cell_slice Try.underlying22 hc1
  obtain ⟨fuel, h1⟩ := h1
  obtain ⟨C, hC, _, _, _, hk⟩ := open_came Try.underlying22 (by rw [show Try.prog.cellsOf 38 = 7 by kernel_rfl]; omega) h1
  rw [show Try.prog.cellsOf 38 = 7 by kernel_rfl] at hC
  exact tells_call (w := W) hle hC (fun cs hcs => by obtain ⟨f, y, hy⟩ := hk cs hcs; exact opd_of hy) fun w' c => ⟨rfl, c.below fun k hk h => by omega⟩
end Go.Proofs.Ytiodaglceoodpaa
