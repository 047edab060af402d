/- Slices by what they hold: 'Own': the cells of a slice's elements; slicing, reading, appending (where it grows, too). -/
import Derived.Test.YtibalkkiefgljaaMem
import Derived.Deep.AppendSrc
import Derived.Deep.Upon
namespace Go.Sh
open Go Go.Rg

def inB (p : Option Addr) (k : Nat) : Prop := ∃ o, p = some ⟨k, o, none⟩
/-- The slice (p, n, c) of elements of sz cells: its cells are xs. -/
structure Own (w : World) (sz : Nat) (e : TypeId) (p : Option Addr) (n c : Nat) (xs : List Value) : Prop where
  le : n ≤ c
  at_ : (p = none ∧ c = 0 ∧ xs = []) ∨ ∃ g o cs, p = some ⟨g, o, none⟩ ∧ Blk w g cs e ∧ o + c * sz ≤ cs.length ∧ xs = (cs.drop o).take (n * sz)
  one : ∀ v ∈ xs, v.oneCell' = true

theorem Own.nil (w : World) (sz : Nat) (e : TypeId) : Own w sz e none 0 0 [] := ⟨Nat.le_refl _, Or.inl ⟨rfl, rfl, rfl⟩, fun _ h => by cases h⟩
theorem Own.of_blk {w : World} {sz : Nat} {e : TypeId} {g : Nat} {cs : List Value} {n : Nat} (h : Blk w g cs e) (hn : cs.length = n * sz) (h1 : ∀ v ∈ cs, v.oneCell' = true) : Own w sz e (some ⟨g, 0, none⟩) n n cs :=
  ⟨Nat.le_refl _, Or.inr ⟨g, 0, cs, rfl, h, by omega, by rw [List.drop_zero, ← hn, List.take_length]⟩, h1⟩
theorem Own.len {w : World} {sz : Nat} {e : TypeId} {p : Option Addr} {n c : Nat} {xs : List Value} (h : Own w sz e p n c xs) : xs.length = n * sz := by
  have hle := h.le
  rcases h.at_ with ⟨_, hc, rfl⟩ | ⟨g, o, cs, _, _, hl, rfl⟩
  · have : n = 0 := by omega
    subst this; simp
  · have := Nat.mul_le_mul_right sz hle
    simp; omega
theorem Own.lt {w : World} {sz : Nat} {e : TypeId} {p : Option Addr} {n c : Nat} {xs : List Value} (h : Own w sz e p n c xs) {k : Nat} (hk : inB p k) : k < w.heap.size := by
  obtain ⟨o, rfl⟩ := hk
  rcases h.at_ with ⟨h0, _⟩ | ⟨g, o', cs, hp, hb, _⟩
  · cases h0
  · simp at hp; rw [hp.1]; exact hb.lt
theorem Own.chg {w w' : World} {sz : Nat} {e : TypeId} {p : Option Addr} {n c : Nat} {xs : List Value} {F : Nat → Prop} (h : Own w sz e p n c xs) (hc : Chg F w w') (hF : ∀ k, inB p k → ¬ F k) : Own w' sz e p n c xs := by
  refine ⟨h.le, ?_, h.one⟩
  rcases h.at_ with h0 | ⟨g, o, cs, hp, hb, hl, hx⟩
  · exact Or.inl h0
  · exact Or.inr ⟨g, o, cs, hp, hc.blk hb (hF g ⟨o, hp⟩), hl, hx⟩
theorem Own.cell {w : World} {sz : Nat} {e : TypeId} {p : Option Addr} {n c : Nat} {xs : List Value} (h : Own w sz e p n c xs) (hn : 0 < n) : ∃ g o, p = some ⟨g, o, none⟩ ∧ ∀ j, j < n * sz → w.cell? ⟨g, o + j, none⟩ = xs[j]? := by
  have hle := h.le
  rcases h.at_ with ⟨_, hc, _⟩ | ⟨g, o, cs, hp, hb, hl, rfl⟩
  · omega
  · refine ⟨g, o, hp, fun j hj => ?_⟩
    rw [hb.cell, List.getElem?_take_of_lt hj, List.getElem?_drop]
theorem Own.sub {w : World} {sz : Nat} {e : TypeId} {p : Option Addr} {n c : Nat} {xs : List Value} (h : Own w sz e p n c xs) (l u : Nat) (hl : l ≤ u) (hu : u ≤ n) : Own w sz e (if c = l then p else p.map (·.add (l * sz))) (u - l) (c - l) ((xs.drop (l * sz)).take ((u - l) * sz)) := by
  have hle := h.le
  refine ⟨by omega, ?_, fun v hv => h.one v (List.mem_of_mem_drop (List.mem_of_mem_take hv))⟩
  have hm := Nat.mul_le_mul_right sz (show l ≤ c by omega)
  have hs : (c - l) * sz = c * sz - l * sz := Nat.mul_sub_right_distrib _ _ _
  have hs2 : (u - l) * sz = u * sz - l * sz := Nat.mul_sub_right_distrib _ _ _
  have hm2 := Nat.mul_le_mul_right sz hu
  have hm3 := Nat.mul_le_mul_right sz hl
  rcases h.at_ with ⟨rfl, rfl, rfl⟩ | ⟨g, o, cs, rfl, hb, hcl, rfl⟩
  · refine Or.inl ⟨by split <;> rfl, by omega, by simp⟩
  · refine Or.inr ?_
    split
    · rename_i hcl'
      subst hcl'
      refine ⟨g, o, cs, rfl, hb, by simp; omega, ?_⟩
      have : u = c := by omega
      subst this; simp
    · refine ⟨g, o + l * sz, cs, by rw [Option.map_some, add_lit], hb, by omega, ?_⟩
      rw [List.drop_take, List.drop_drop, List.take_take]
      congr 1; omega
theorem inB_sub {p : Option Addr} {c l sz : Nat} {k : Nat} (hp : p = none ∨ ∃ g o, p = some ⟨g, o, none⟩) (h : inB (if c = l then p else p.map (·.add (l * sz))) k) : inB p k := by
  split at h
  · exact h
  · obtain ⟨o, ho⟩ := h
    rcases hp with rfl | ⟨g, x, rfl⟩
    · cases ho
    · rw [Option.map_some, add_lit] at ho; simp at ho; exact ⟨x, by rw [ho.1]⟩
theorem Own.form {w : World} {sz : Nat} {e : TypeId} {p : Option Addr} {n c : Nat} {xs : List Value} (h : Own w sz e p n c xs) : p = none ∨ ∃ g o, p = some ⟨g, o, none⟩ := by
  rcases h.at_ with ⟨h0, _⟩ | ⟨g, o, cs, hp, _⟩
  · exact Or.inl h0
  · exact Or.inr ⟨g, o, hp⟩
/-- 's[l:u]', within the length. -/
theorem slc_own {w : World} {sz : Nat} {e : TypeId} {p : Option Addr} {n c : Nat} {xs : List Value} (h : Own w sz e p n c xs) (l u : Nat) (hl : l ≤ u) (hu : u ≤ n) {lo hi : Option Int} (h1 : lo.getD 0 = l) (h2 : hi.getD n = u) {k : Option Addr → Nat → Nat → Prop}
    (hk : ∀ p', Own w sz e p' (u - l) (c - l) ((xs.drop (l * sz)).take ((u - l) * sz)) → (∀ q, inB p' q → inB p q) → k p' (u - l) (c - l)) : slc p n c sz lo hi none k := by
  have hle := h.le
  refine slc_rule l u c h1 h2 rfl (Nat.le_refl _) (by omega) hl (fun h => by cases h) (hk _ (h.sub l u hl hu) fun q hq => inB_sub h.form hq)

theorem Own.src {P : Program} {w : World} {sz : Nat} {e tx : TypeId} (ht : P.underlying tx = some (.slice e)) {p : Option Addr} {n c : Nat} {xs : List Value} (h : Own w sz e p n c xs) : Src P sz tx (.slice p n c) n xs w := by
  have hlen := h.len
  have hle := h.le
  rcases h.at_ with ⟨rfl, rfl, rfl⟩ | ⟨g, o, cs, rfl, hb, hl, hx⟩
  · have : n = 0 := by omega
    subst this
    exact Src.ofNil w ht 0
  · refine Src.ofSlice w ht _ n c xs hlen (fun j u hj => ?_) h.one
    rw [add_lit, hb.cell]
    subst hx
    rw [List.getElem?_take] at hj
    split at hj
    · rw [List.getElem?_drop] at hj; exact hj
    · cases hj

theorem setCells_blk {b : Nat} {t : TypeId} : ∀ (vs : List Value) (o : Nat) (cs : List Value) (w : World), Blk w b cs t → w.setCells b o vs = setBlk w b (.cells (lay cs o vs).toArray t (0, 0))
  | [], o, cs, w, h => by
    show w = _
    have hh := h
    unfold Blk at hh
    unfold setBlk lay
    have : w.heap.setIfInBounds b (.cells cs.toArray t (0, 0)) = w.heap := by
      apply Array.ext_getElem?
      intro k
      rw [Array.getElem?_setIfInBounds]
      split
      · rename_i hbk; subst hbk; rw [hh]; simp [h.lt]
      · rfl
    rw [this]
  | v :: vs, o, cs, w, h => by
    show (w.setCell ⟨b, o, none⟩ v).setCells b (o + 1) vs = _
    rw [setCell_blk h, setCells_blk vs (o + 1) (cs.set o v) _ h.set_same, setBlk_setBlk]; rfl

/-- 'append(s, x...)'. -/
theorem append_own {P : Program} {t tx ty e : TypeId} {i : TypeInfo} {z : Value} (ht : P.underlying t = some (.slice e)) (hi : P.info? e = some i) (hz : i.zero = some z) (hzs : z.cells.size = i.size) (hz1 : ∀ v ∈ z.cells.toList, v.oneCell' = true) (h1 : 0 < i.size)
    {w : World} {p : Option Addr} {n c m : Nat} {xs news : List Value} {x : Value} (h : Own w i.size e p n c xs) (hs : Src P i.size tx x m news w) (hfit : (n + m) * i.bytes ≤ 140737488355328) (h63 : n + m ≤ 9223372036854775807) {K : Value → World → Prop}
    (hk : ∀ w' p' c', Own w' i.size e p' (n + m) c' (xs ++ news) → (∀ k, inB p' k → inB p k ∨ w.heap.size ≤ k) → Chg (inB p) w w' → K (.slice p' (n + m) c') w') :
    runV P (Builtin.append_ #[t, tx] ty #[.slice p n c, x]) w K := by
  have hle := h.le
  have hlen := h.len
  have hnl := hs.newsLen
  by_cases hroom : n + m ≤ c
  · -- there is room
    rcases h.at_ with ⟨rfl, rfl, rfl⟩ | ⟨g, o, cs, rfl, hb, hl, hx⟩
    · have hm : m = 0 := by omega
      have hn : n = 0 := by omega
      subst hm; subst hn
      have hnews : news = [] := List.eq_nil_of_length_eq_zero (by rw [hnl]; simp)
      subst hnews
      exact ⟨_, _, run_append_nothing w t tx ty e i ht hi none 0 0 (Nat.le_refl _) x hs, hk w none 0 (Own.nil _ _ _) (fun k hk => Or.inl hk) (Chg.refl _ _)⟩
    · have hmul : (n + m) * i.size ≤ c * i.size := Nat.mul_le_mul_right _ hroom
      rw [Nat.add_mul] at hmul
      refine ⟨_, _, run_append_room_src w t tx ty e i ht hi g o n c x m news hs hroom (fun j hj => ?_) (fun j _ => hb.free _), ?_⟩
      · rw [hb.cell]; simp; omega
      · rw [setCells_blk news _ cs w hb]
        refine hk _ _ _ ⟨hroom, Or.inr ⟨g, o, _, rfl, hb.set_same, by rw [lay_length]; exact hl, ?_⟩, fun v hv => ?_⟩ (fun k hk => Or.inl hk) (Chg.set _ _ _ _ ⟨o, rfl⟩)
        · rw [lay_eq _ _ _ (by omega), hx]
          have e1 : (cs.take (o + n * i.size) ++ news ++ cs.drop (o + n * i.size + news.length)).drop o = (cs.drop o).take (n * i.size) ++ (news ++ cs.drop (o + n * i.size + news.length)) := by
            rw [List.append_assoc, List.drop_append_of_le_length (by rw [List.length_take]; omega), List.drop_take]
            congr 2; omega
          rw [e1, ← List.append_assoc]
          refine (List.take_left' ?_).symm
          rw [← hx, List.length_append, hlen, hnl, Nat.add_mul]
        · rcases List.mem_append.1 hv with hv | hv
          · exact h.one v hv
          · exact hs.one v hv
  · -- a new row
    have hg : c < n + m := by omega
    have hold : (Builtin.firstCells i.size n (.slice p n c)).run P w.drew = .ok xs.toArray w.drew := (h.chg (F := fun _ => False) (Chg.draw _ _) (fun _ _ => id)).src (P := P) ht |>.cells
    refine ⟨_, _, run_append_grow_src w t tx ty e i z ht hi hz p n c xs hold x m news hs hg (by omega) (growslice_fits hg hfit), ?_⟩
    have hgc := grownCap_ge w (n + m) c e
    have hzc : Builtin.zeroCells z.cells (grownCap w (n + m) c e - (n + m)) = ((List.replicate (grownCap w (n + m) c e - (n + m)) z.cells.toList).flatten).toArray := by
      have := zeros_eq z.cells.toList (grownCap w (n + m) c e - (n + m)) (by simp; omega)
      simpa [Builtin.zeroCells] using this
    rw [hzc]
    have hb : Blk (w.drew.alloc (.cells ((xs ++ news).toArray ++ ((List.replicate (grownCap w (n + m) c e - (n + m)) z.cells.toList).flatten).toArray) e)) w.heap.size (xs ++ news ++ (List.replicate (grownCap w (n + m) c e - (n + m)) z.cells.toList).flatten) e := by
      have := Blk.new w.drew (xs ++ news ++ (List.replicate (grownCap w (n + m) c e - (n + m)) z.cells.toList).flatten) e
      rw [List.append_toArray]
      exact this
    have hfl : ((List.replicate (grownCap w (n + m) c e - (n + m)) z.cells.toList).flatten).length = (grownCap w (n + m) c e - (n + m)) * i.size := by
      rw [List.length_flatten]; simp [hzs]
    refine hk _ _ _ ⟨hgc, Or.inr ⟨_, 0, _, rfl, hb, ?_, ?_⟩, fun v hv => ?_⟩ (fun k hk => by obtain ⟨o, ho⟩ := hk; simp at ho; exact Or.inr (by omega)) (((Chg.draw (fun _ => False) w).trans (Chg.push _ _ _)).none)
    · rw [List.length_append, List.length_append, hlen, hnl, hfl, ← Nat.add_mul, ← Nat.add_mul]
      have : n + m + (grownCap w (n + m) c e - (n + m)) = grownCap w (n + m) c e := by omega
      rw [this]; omega
    · rw [List.drop_zero, List.take_append_of_le_length (by rw [List.length_append, hlen, hnl, Nat.add_mul]; omega), List.take_of_length_le (by rw [List.length_append, hlen, hnl, Nat.add_mul]; omega)]
    · rcases List.mem_append.1 hv with hv | hv
      · exact h.one v hv
      · exact hs.one v hv
end Go.Sh
