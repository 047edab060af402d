/- 'for k, v := range m' whose round leaves m alone. -/
import Derived.Test.YtibalkkiefgljaaMp
import Derived.Maps.RangeRun
namespace Go.Sh
open Go Go.Rg
section
variable {K V : Type} {P : Program} {kt et t : TypeId} {ek : K → Value} {ev : V → Value}
/-- The block r goes over the map in block b; cnt of its entries are still to come. -/
structure Itr (ek : K → Value) (ev : V → Value) (w : World) (r b N cnt : Nat) (m : List (K × V)) : Prop where
  map : MapB ek ev w b N m
  ex : ∃ es clock since seen c0, w.heap[b]? = some (.map es clock) ∧ w.heap[r]? = some (.mapIter (some b) since seen c0) ∧ (∀ x ∈ es.toList, x.born < since) ∧ since ≤ c0 ∧ since ≤ clock ∧ (Go.leftOf es seen).size = cnt ∧ (es.toList.map (·.born)).Nodup
theorem Itr.lt {w : World} {r b N cnt : Nat} {m : List (K × V)} (h : Itr ek ev w r b N cnt m) : r < w.heap.size := by
  obtain ⟨es, c, s, seen, c0, hb, hr, _⟩ := h.ex
  rcases Nat.lt_or_ge r w.heap.size with h' | h'
  · exact h'
  · rw [Array.getElem?_eq_none h'] at hr; cases hr
theorem Itr.chg {w w' : World} {r b N cnt : Nat} {m : List (K × V)} {F : Nat → Prop} (h : Itr ek ev w r b N cnt m) (hc : Chg F w w') (hb : ¬ F b) (hr : ¬ F r) : Itr ek ev w' r b N cnt m := by
  have h1 := h.map.lt
  have h2 := h.lt
  obtain ⟨es, c, s, seen, c0, k1, k2, k3⟩ := h.ex
  exact ⟨h.map.chg hc hb, es, c, s, seen, c0, by rw [hc.block b h1 hb]; exact k1, by rw [hc.block r h2 hr]; exact k2, k3⟩
theorem range_rule (ht : P.underlying t = some (.map kt et)) {w : World} {b N : Nat} {m : List (K × V)} (h : MapB ek ev w b N m) {k : Nat → World → Prop}
    (hk : ∀ w' cnt, Itr ek ev w' w.heap.size b N cnt m → Chg (fun _ => False) w w' → w'.heap.size = w.heap.size + 1 → k w.heap.size w') : rangeK P (Instr.range t (.map (some b))) w k := by
  have hlt := h.lt
  have h0 := h
  obtain ⟨hn, es, c, hb, h1, h2, h3, h4c⟩ := h
  have cc : Chg (fun _ => False) w (pushW w (.mapIter (some b) c #[] c)) := Chg.push _ _ _
  refine ⟨_, _, run_range_map w t kt et b es c ht hb, hk (pushW w (.mapIter (some b) c #[] c)) _ ⟨h0.chg cc id, es, c, c, #[], c, ?_, pushW_new _ _, h2, Nat.le_refl _, Nat.le_refl _, rfl, h3⟩ cc (by simp)⟩
  rw [cc.block b hlt id]; exact hb
theorem next_rule {ty : TypeId} {w : World} {r b N cnt : Nat} {m : List (K × V)} (h : Itr ek ev w r b N cnt m) {k0 : World → Prop} {k1 : (Value → World → Prop) → Prop}
    (h0 : cnt = 0 → k0 w)
    (h1 : ∀ (run : Value → World → Prop) (p : K × V) (w' : World) (cnt' : Nat), p ∈ m → cnt' < cnt → Itr ek ev w' r b N cnt' m → Chg (fun k => k = r) w w' →
      (∀ Q : Value → World → Prop, Q (.tuple #[ek p.1, ev p.2]) w' → runV P (Instr.entry (.pointer (some ⟨r, 0, none⟩))) w' Q) → run (.tuple #[.bool true, ek p.1, ev p.2]) w' → k1 run) :
    nextP P (Instr.next (.pointer (some ⟨r, 0, none⟩)) false ty) w k0 k1 := by
  have hm := h.map
  have hblt := hm.lt
  obtain ⟨es, c, s, seen, c0, k1', k2, k3, k4, k5, rfl, k7⟩ := h.ex
  obtain ⟨hn, es', c', hb, q1, q2, q3, q4⟩ := hm
  rw [k1'] at hb
  cases hb
  have hne : b ≠ r := by intro e; subst e; rw [k1'] at k2; cases k2
  rcases run_next_at (P := P) w ty r b s c0 seen es c k2 k1' k3 k4 with ⟨hz, hrun⟩ | ⟨e, he, w1, hal, hrun⟩
  · exact .inl ⟨w, hrun, h0 hz⟩
  · right
    obtain ⟨hem, hes⟩ := mem_left he
    have : (e.key, e.val) ∈ es.toList.map (fun e => (e.key, e.val)) := List.mem_map.2 ⟨e, hem, rfl⟩
    rw [q1] at this
    obtain ⟨p, hp, hpe⟩ := List.mem_map.1 this
    simp only [Prod.mk.injEq] at hpe
    have cw : Chg (fun k => k = r) w w1 := by
      rcases hal with rfl | rfl
      · exact Chg.refl _ _
      · exact Chg.draw _ _
    have hr1 : w1.heap = w.heap := by rcases hal with rfl | rfl <;> rfl
    have cc : Chg (fun k => k = r) w (setBlk w1 r (.mapIter (some b) s (seen.push e.born) c)) := cw.trans (Chg.set _ _ _ _ rfl)
    have hrlt : r < w1.heap.size := by rw [hr1]; exact h.lt
    have hr2 : (setBlk w1 r (.mapIter (some b) s (seen.push e.born) c)).heap[r]? = some (.mapIter (some b) s (seen.push e.born) c) := setBlk_same hrlt
    have hb2 : (setBlk w1 r (.mapIter (some b) s (seen.push e.born) c)).heap[b]? = some (.map es c) := by rw [cc.block b hblt hne]; exact k1'
    refine h1 _ p (setBlk w1 r (.mapIter (some b) s (seen.push e.born) c)) _ hp (left_shrinks es seen e he) ⟨h.map.chg cc hne, es, c, s, seen.push e.born, c, hb2, hr2, k3, k5, k5, rfl, k7⟩ cc (fun Q hq => ?_) ?_
    · rw [hpe.1, hpe.2] at hq
      exact ⟨_, _, run_entry_at _ r b s seen es c e hr2 hb2 hem k7, hq⟩
    · rw [hpe.1, hpe.2]; exact hrun
end
end Go.Sh
