/- Of whatever law: what its row asks, out of a walk that answers true and turns nothing old; what a cell that came in is. -/
import Derived.Test.YtibalkkiefgljaaMem
import Derived.WalkKit
import Derived.ProofKit
import Derived.OpenShut
import Derived.Carry
import GoSem.ClaimMapViews
namespace Go.Sh
open Go.ChangeShapes Go.WideShapes Go.ChangeAt Go.RowKit
section
variable {H : Type} {enc : TypeId × Value → H} {P : Program} {W W' : World}

theorem trodAll_stays (hl : laidOutB P = true) (hb : Below W.heap.size W W') : ∀ (ts : List TypeId) (vs : List Value) (ds : List (DataW H)) (ps : List MemPlace), (∀ t ∈ ts, P.readableRec t = true ∧ t < P.types.size) → DataW.TrodAll enc P W 0 (fun _ => true) true ts vs ds ps → (∀ x ∈ ps, x.block < W.heap.size) →
    DataW.TrodAll enc P W' 0 (fun b => decide (b < W.heap.size)) true ts vs ds ps
  | [], vs, ds, ps, _, h, _ => by obtain ⟨rfl, rfl, rfl⟩ := trodAll_nil h; exact trodAll_mk0
  | t :: ts, vs, ds, ps, hr, h, hlt => by
    obtain ⟨v, vs', d, ds', p, q, rfl, rfl, rfl, h0, h1⟩ := trodAll_cons h
    have hlt0 : ∀ x ∈ p, x.block < W.heap.size := fun x hx => hlt x (List.mem_append_left _ hx)
    have ht := hr t (by simp)
    exact trodAll_cons_mk (Below.trod hl ht.1 ht.2 h0 hb hlt0) (trodAll_stays hl hb ts vs' ds' q (fun t h => hr t (by simp [h])) h1 fun x hx => hlt x (List.mem_append_right _ hx))

/-- The row's end. -/
theorem post_law {f : Func} {s : ChangeSpec} {args : Array Value} {ds gs : List (DataW H)} {before : List MemPlace} {tb : TypeId} (hl : laidOutB P = true) (hs : s.vars = []) (hp : ∀ t ∈ f.params.toList, P.readableRec t = true ∧ t < P.types.size) (hr : f.resultTypes = #[tb]) (htb : P.underlying tb = some .bool)
    (hf : ds.length = f.params.size → s.fn H ds = { results := [.lit (.bool true)], args := ds }) (hW : DataW.Whole enc P f.params.toList s.vars false W args.toList ds gs before) (hb : Below W.heap.size W W') :
    s.post enc P f false true false false W args (.bool true) W' := by
  have hW' := hW
  obtain ⟨p, q, hA, hV, he, hfz, hnd⟩ := hW
  rw [hs] at hV
  obtain ⟨rfl, rfl⟩ := trodVars_none hV
  have hlen : ds.length = f.params.size := by
    have : ∀ (ts : List TypeId) (vs : List Value) (ds : List (DataW H)) (ps : List MemPlace), DataW.TrodAll enc P W 0 (fun _ => true) true ts vs ds ps → ds.length = ts.length := by
      intro ts
      induction ts with
      | nil => intro vs ds ps h; obtain ⟨_, rfl, _⟩ := trodAll_nil h; rfl
      | cons t ts ih => intro vs ds ps h; obtain ⟨v, vs', d, ds', p, q, rfl, rfl, rfl, h0, h1⟩ := trodAll_cons h; simp [ih _ _ _ h1]
    rw [this _ _ _ _ hA]; simp
  have e := hf hlen
  refine ⟨_, _, _, [], p, [], hW', ?_, ?_, ?_, hb.frame _, fun h => by cases h⟩
  · rw [List.append_nil, e, hr]; exact trodAll_cons_mk (shut_bool htb _) trodAll_mk0
  · rw [List.append_nil, e]; exact trodAll_stays hl hb _ _ _ _ hp hA (DataW.TrodAll.lt hA)
  · rw [List.append_nil, e, hs]; rfl

end

/-! What a cell that came in is: by its type's kind. -/
section
variable {P : Program} {w : World} {r : Reach} {base : Nat} {u : TypeId} {v : Value}
theorem cell_bool (hu : P.underlying u = some .bool) (h : Cell.okWide P w r base u v) : ∃ b, v = .bool b := by
  unfold Cell.okWide Cell.ok at h
  rw [hu] at h
  cases v <;> first | exact ⟨_, rfl⟩ | exact absurd h id
theorem cell_int {k : IntKind} (hu : P.underlying u = some (.int k)) (h : Cell.okWide P w r base u v) : ∃ n, v = .int k n ∧ k.has n := by
  unfold Cell.okWide Cell.ok at h
  rw [hu] at h
  cases v <;> first | (obtain ⟨rfl, h⟩ := h; exact ⟨_, rfl, h⟩) | exact absurd h id
theorem cell_string (hu : P.underlying u = some .string) (h : Cell.okWide P w r base u v) : ∃ s, v = .string s ∧ (s.size : Int) ≤ IntKind.i64.max := by
  unfold Cell.okWide Cell.ok at h
  rw [hu] at h
  cases v <;> first | exact ⟨_, rfl, h⟩ | exact absurd h id
theorem cell_slice {e : TypeId} (hu : P.underlying u = some (.slice e)) (h : Cell.okWide P w r base u v) : ∃ p l c, v = .slice p l c ∧ l ≤ c ∧ (c : Int) ≤ IntKind.i64.max ∧ (p = none → l = 0 ∧ c = 0) := by
  unfold Cell.okWide Cell.ok at h
  rw [hu] at h
  cases v with
  | slice p l c =>
    cases p with
    | none => 
      refine ⟨none, l, c, rfl, ?_⟩
      match l, c, h with
      | 0, 0, _ => exact ⟨Nat.le_refl _, by decide, fun _ => ⟨rfl, rfl⟩⟩
    | some a => exact ⟨some a, l, c, rfl, h.1, h.2.1, fun h => by cases h⟩
  | _ => exact absurd h id
/-- A struct's cells. -/
theorem cells_struct {fs : Array Field} {ts : List TypeId} (hu : P.underlying u = some (.struct fs)) (hc : P.cellTypes P.depth u = some ts) (hn : P.cellsOf u = ts.length) (h : Value.okWide P w r base u v) :
    ∃ cs : List Value, v = .agg cs.toArray ∧ cs.length = ts.length ∧ ∀ i (hi : i < ts.length) c, cs[i]? = some c → Cell.okWide P w r base ts[i] c := by
  unfold Value.okWide at h
  rw [hu] at h
  obtain ⟨cs, rfl, hs, ts', ht, _, hk⟩ := h
  rw [hc] at ht
  obtain rfl : ts = ts' := by simpa using ht
  refine ⟨cs.toList, by simp, by simp [hs, hn], fun i hi c hc => ?_⟩
  obtain ⟨u, h1, h2⟩ := hk i c (by simpa using hc)
  rw [Nat.mod_eq_of_lt hi, List.getElem?_eq_getElem hi] at h1
  simp at h1
  rw [h1]; exact h2
theorem okWide_cell (hu : ∀ fs, P.underlying u ≠ some (.struct fs)) (ha : ∀ n e, P.underlying u ≠ some (.array n e)) (h : Value.okWide P w r base u v) : Cell.okWide P w r base u v := by
  unfold Value.okWide at h
  split at h
  · exact absurd (by assumption) (hu _)
  · exact absurd (by assumption) (ha _ _)
  · exact h
end
end Go.Sh
