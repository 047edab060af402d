/- Memory, block by block: what the primitives of the formulas come to where the blocks are known. -/
import Derived.Test.YtibalkkiefgljaaSh
import Derived.Below
namespace Go.Sh
open Go Go.Rg

def setBlk (w : World) (b : Nat) (o : Obj) : World := { w with heap := w.heap.setIfInBounds b o }
@[simp] theorem setBlk_size (w : World) (b : Nat) (o : Obj) : (setBlk w b o).heap.size = w.heap.size := by simp [setBlk]
theorem setBlk_same {w : World} {b : Nat} {o : Obj} (h : b < w.heap.size) : (setBlk w b o).heap[b]? = some o := by simp [setBlk, h]
theorem setBlk_other {w : World} {b k : Nat} {o : Obj} (h : b ≠ k) : (setBlk w b o).heap[k]? = w.heap[k]? := by
  simp only [setBlk]; rw [Array.getElem?_setIfInBounds_ne h]

abbrev pushW (w : World) (o : Obj) : World := { w with heap := w.heap.push o }
theorem pushW_size (w : World) (o : Obj) : (pushW w o).heap.size = w.heap.size + 1 := by simp
theorem pushW_new (w : World) (o : Obj) : (pushW w o).heap[w.heap.size]? = some o := by simp
theorem pushW_old {w : World} {o : Obj} {k : Nat} (h : k < w.heap.size) : (pushW w o).heap[k]? = w.heap[k]? := by
  show (w.heap.push o)[k]? = _; rw [Array.getElem?_push, if_neg (by omega)]
abbrev drawW (w : World) : World := { w with drawn := w.drawn + 1 }

/-- The block b holds these cells. -/
def Blk (w : World) (b : Nat) (cs : List Value) (t : TypeId) : Prop := w.heap[b]? = some (.cells cs.toArray t (0, 0))
theorem Blk.lt {w : World} {b : Nat} {cs : List Value} {t : TypeId} (h : Blk w b cs t) : b < w.heap.size := by
  rcases Nat.lt_or_ge b w.heap.size with h' | h'
  · exact h'
  · unfold Blk at h; rw [Array.getElem?_eq_none h'] at h; cases h
theorem Blk.cell {w : World} {b : Nat} {cs : List Value} {t : TypeId} (h : Blk w b cs t) (o : Nat) : w.cell? ⟨b, o, none⟩ = cs[o]? := by
  unfold World.cell?; unfold Blk at h; simp [h]
theorem Blk.free {w : World} {b : Nat} {cs : List Value} {t : TypeId} (h : Blk w b cs t) (o : Nat) : w.frozen? ⟨b, o, none⟩ = false := by
  unfold World.frozen?; unfold Blk at h; simp [h]
theorem Blk.draw {w : World} {b : Nat} {cs : List Value} {t : TypeId} (h : Blk w b cs t) : Blk (drawW w) b cs t := h
theorem Blk.push {w : World} {b : Nat} {cs : List Value} {t : TypeId} (h : Blk w b cs t) (o : Obj) : Blk (pushW w o) b cs t := by
  have := h.lt; unfold Blk at *; rw [pushW_old this]; exact h
theorem Blk.new (w : World) (cs : List Value) (t : TypeId) : Blk (pushW w (.cells cs.toArray t)) w.heap.size cs t := pushW_new _ _
theorem Blk.set_other {w : World} {b b' : Nat} {cs : List Value} {t : TypeId} {o : Obj} (h : Blk w b cs t) (hne : b' ≠ b) : Blk (setBlk w b' o) b cs t := by
  unfold Blk at *; rw [setBlk_other hne]; exact h
theorem Blk.set_same {w : World} {b : Nat} {cs cs' : List Value} {t t' : TypeId} (h : Blk w b cs t) : Blk (setBlk w b (.cells cs'.toArray t' (0, 0))) b cs' t' := setBlk_same h.lt

/-- The cells vs laid from place o on. -/
def lay (cs : List Value) : Nat → List Value → List Value
  | _, [] => cs
  | o, v :: vs => lay (cs.set o v) (o + 1) vs
theorem lay_length (cs : List Value) : ∀ (vs : List Value) (o : Nat), (lay cs o vs).length = cs.length := by
  intro vs
  induction vs generalizing cs with
  | nil => intro o; rfl
  | cons v vs ih => intro o; simp [lay, ih]
theorem lay_eq (cs : List Value) : ∀ (vs : List Value) (o : Nat), o + vs.length ≤ cs.length → lay cs o vs = cs.take o ++ vs ++ cs.drop (o + vs.length) := by
  intro vs
  induction vs generalizing cs with
  | nil => intro o h; simp [lay]
  | cons v vs ih =>
    intro o h
    simp only [List.length_cons] at h
    rw [lay, ih _ _ (by simp; omega)]
    apply List.ext_getElem?
    intro i
    simp only [List.getElem?_append, List.getElem?_take, List.getElem?_drop, List.length_append, List.length_take, List.length_set, List.getElem?_set, List.length_cons]
    grind

theorem setCell_blk {w : World} {b i : Nat} {cs : List Value} {t : TypeId} (h : Blk w b cs t) (v : Value) : w.setCell ⟨b, i, none⟩ v = setBlk w b (.cells (cs.set i v).toArray t (0, 0)) := by
  have hlt := h.lt
  unfold World.setCell setBlk
  congr 1
  apply Array.ext_getElem?
  intro k
  simp only [Array.getElem?_modify, Array.getElem?_setIfInBounds]
  unfold Blk at h
  by_cases hk : b = k
  · subst hk
    have h2 : w.heap[b] = .cells cs.toArray t (0, 0) := by have := Array.getElem?_eq_getElem hlt; rw [h] at this; exact (Option.some.inj this).symm
    simp [hlt, h2]
  · simp [hk]

theorem setBlk_setBlk (w : World) (b : Nat) (o o' : Obj) : setBlk (setBlk w b o) b o' = setBlk w b o' := by simp [setBlk]

theorem st_rule {w : World} {b i : Nat} {cs : List Value} {t : TypeId} {v : Value} {k : World → Prop} (h : Blk w b cs t) (hi : i < cs.length) (hv : v.oneCell' = true) (hk : k (setBlk w b (.cells (cs.set i v).toArray t (0, 0)))) : st w ⟨b, i, none⟩ v k :=
  ⟨⟨cs[i], by rw [h.cell]; simp [hi]⟩, h.free i, hv, by rw [setCell_blk h]; exact hk⟩

theorem add_lit (b o i : Nat) : Addr.add ⟨b, o, none⟩ i = ⟨b, o + i, none⟩ := by
  unfold Addr.add; split
  · rename_i h; subst h; rfl
  · rfl

theorem stL_rule' {b o : Nat} {t : TypeId} : ∀ (vs : List Value) (w : World) (i : Nat) (cs : List Value) (k : World → Prop), Blk w b cs t → o + i + vs.length ≤ cs.length → (∀ v ∈ vs, v.oneCell' = true) → k (setBlk w b (.cells (lay cs (o + i) vs).toArray t (0, 0))) → stL w ⟨b, o, none⟩ i vs k
  | [], w, i, cs, k, h, _, _, hk => by
    have : setBlk w b (.cells (lay cs (o + i) []).toArray t (0, 0)) = w := by
      simp only [lay, setBlk]
      have h' := h
      unfold Blk at h'
      congr 1
      apply Array.ext_getElem?
      intro j
      simp only [Array.getElem?_setIfInBounds]
      by_cases hj : b = j
      · subst hj; rw [h']; simp [h.lt]
      · simp [hj]
    rw [this] at hk; exact hk
  | v :: vs, w, i, cs, k, h, hl, hv, hk => by
    simp only [List.length_cons] at hl
    rw [stL, add_lit]
    refine st_rule h (by omega) (hv v (by simp)) ?_
    refine stL_rule' vs _ (i + 1) (cs.set (o + i) v) k h.set_same (by simp; omega) (fun u hu => hv u (by simp [hu])) ?_
    rw [setBlk_setBlk]
    exact hk
theorem stL_rule {w : World} {b o : Nat} {cs : List Value} {t : TypeId} {vs : List Value} {k : World → Prop} (h : Blk w b cs t) (hl : o + vs.length ≤ cs.length) (hv : ∀ v ∈ vs, v.oneCell' = true) (hk : k (setBlk w b (.cells (lay cs o vs).toArray t (0, 0)))) : stL w ⟨b, o, none⟩ 0 vs k :=
  stL_rule' vs w 0 cs k h (by simpa using hl) hv hk

/-- Of what was there only the blocks in F may have turned. -/
structure Chg (F : Nat → Prop) (w w' : World) : Prop where
  os : w'.os = w.os
  tape : w'.tape = w.tape
  output : w'.output = w.output
  size : w.heap.size ≤ w'.heap.size
  block : ∀ k, k < w.heap.size → ¬ F k → w'.heap[k]? = w.heap[k]?
theorem Chg.refl (F : Nat → Prop) (w : World) : Chg F w w := ⟨rfl, rfl, rfl, Nat.le_refl _, fun _ _ _ => rfl⟩
theorem Chg.trans {F : Nat → Prop} {a b c : World} (h : Chg F a b) (k : Chg F b c) : Chg F a c :=
  ⟨k.os.trans h.os, k.tape.trans h.tape, k.output.trans h.output, Nat.le_trans h.size k.size, fun i hi hf => (k.block i (Nat.lt_of_lt_of_le hi h.size) hf).trans (h.block i hi hf)⟩
theorem Chg.mono {F F' : Nat → Prop} {a b : World} (h : Chg F a b) (hf : ∀ k, k < a.heap.size → F k → F' k) : Chg F' a b := ⟨h.os, h.tape, h.output, h.size, fun k hk hn => h.block k hk fun h' => hn (hf k hk h')⟩
theorem Chg.draw (F : Nat → Prop) (w : World) : Chg F w (drawW w) := ⟨rfl, rfl, rfl, Nat.le_refl _, fun _ _ _ => rfl⟩
theorem Chg.push (F : Nat → Prop) (w : World) (o : Obj) : Chg F w (pushW w o) := ⟨rfl, rfl, rfl, by simp, fun _ hk _ => pushW_old hk⟩
theorem Chg.set (F : Nat → Prop) (w : World) (b : Nat) (o : Obj) (hb : F b) : Chg F w (setBlk w b o) := ⟨rfl, rfl, rfl, by simp, fun k _ hn => setBlk_other fun h => hn (h ▸ hb)⟩
theorem Chg.blk {F : Nat → Prop} {w w' : World} (h : Chg F w w') {b : Nat} {cs : List Value} {t : TypeId} (hb : Blk w b cs t) (hn : ¬ F b) : Blk w' b cs t := by
  have := hb.lt; unfold Blk at *; rw [h.block b this hn]; exact hb
theorem Chg.below {F : Nat → Prop} {w w' : World} (h : Chg F w w') (hF : ∀ k, k < w.heap.size → ¬ F k) : RowKit.Below w.heap.size w w' := ⟨h.os, h.tape, h.output, h.size, fun k hk => h.block k hk (hF k hk)⟩

theorem idx_rule {b o n sz : Nat} {i : Int} {k : Addr → Prop} (h0 : 0 ≤ i) (h1 : i < n) (hk : k ⟨b, o + i.toNat * sz, none⟩) : idx (some ⟨b, o, none⟩) n sz i k := ⟨h0, h1, by rw [need_some, add_lit]; exact hk⟩

/-- make: the cells of n zero values, one behind the other. -/
theorem zeros_eq (z : List Value) (n : Nat) (hz : 0 < z.length) : ((Array.range (n * z.length)).map (z.toArray[· % z.length]!)) = ((List.replicate n z).flatten).toArray := by
  apply Array.ext_getElem?
  intro i
  simp only [Array.getElem?_map, List.getElem?_toArray]
  have key : ∀ (n i : Nat), i < n * z.length → (List.replicate n z).flatten[i]? = some (z.toArray[i % z.length]!) := by
    intro n
    induction n with
    | zero => intro i h; simp at h
    | succ n ih =>
      intro i h
      rw [List.replicate_succ, List.flatten_cons]
      by_cases hi : i < z.length
      · rw [List.getElem?_append_left hi, Nat.mod_eq_of_lt hi]
        simp [hi]
      · rw [List.getElem?_append_right (by omega)]
        have h1 : (n + 1) * z.length = n * z.length + z.length := by rw [Nat.add_mul]; omega
        rw [ih (i - z.length) (by omega), Nat.mod_eq_sub_mod (by omega : i ≥ z.length)]
  have hlen : ((List.replicate n z).flatten).length = n * z.length := by simp
  by_cases hi : i < n * z.length
  · rw [key n i hi]; simp [hi]
  · rw [List.getElem?_eq_none (by omega)]; simp; omega

theorem runMake {P : Program} {t e : TypeId} {i : TypeInfo} {z : Value} (ht : P.underlying t = some (.slice e)) (he : P.info? e = some i) (hz : i.zero = some z) (hs : z.cells.size = i.size) (h1 : 0 < i.size) {l c : Nat} (hlc : l ≤ c) (hb : i.bytes * c ≤ 2 ^ 48) (hc : c < 2 ^ 62) (w : World) :
    (Instr.makeSlice t (.int .i64 (l : Int)) (.int .i64 (c : Int))).run P w = .ok (.slice (some ⟨w.heap.size, 0, none⟩) l c) (pushW w (.cells ((List.replicate c z.cells.toList).flatten).toArray e)) := by
  have hu : (underlying t).run P w = .ok (.slice e) w := (Reads.underlying ht w).run
  have wl : IntKind.wrap .i64 (l : Int) = l := by unfold IntKind.wrap IntKind.bits IntKind.signed; simp; split <;> omega
  have wc : IntKind.wrap .i64 (c : Int) = c := by unfold IntKind.wrap IntKind.bits IntKind.signed; simp; split <;> omega
  have hbi : ((i.bytes : Int) * (c : Int)) ≤ 2 ^ 48 := by exact_mod_cast hb
  unfold Instr.makeSlice
  simp only [Sem.run_bind, hu, Result.andThen_ok, asInt, asIntOf, Sem.run_pure, run_info he w, wl, wc]
  have hif : ((decide ((c : Int) < 0) || decide ((i.bytes : Int) * (c : Int) > 2 ^ 48)) || decide ((l : Int) < 0) || decide ((l : Int) > (c : Int))) = false := by
    simp only [Bool.or_eq_false_iff, decide_eq_false_iff_not]
    refine ⟨⟨⟨by omega, by omega⟩, by omega⟩, by omega⟩
  simp only [hif, Bool.false_eq_true, if_false]
  have har : (askRoom ((c : Int).toNat * i.bytes)).run P w = .ok () w := by unfold askRoom; split <;> rfl
  simp only [Sem.run_bind, har, Result.andThen_ok, run_size he w]
  have hzs : z.cells.toList.length = i.size := by simpa using hs
  by_cases h0 : c = 0
  · subst h0
    simp only [Int.toNat_natCast, Nat.zero_mul, if_true, Sem.run_pure, Result.andThen_ok, List.replicate_zero, List.flatten_nil]
    have e0 : ∀ (f : Nat → Value), Array.map f (Array.range 0) = #[] := fun f => by simp
    simp only [Sem.run_bind, Sem.run_pure, Result.andThen_ok]
    rw [e0]
    rfl
  · have hne : ¬ ((c : Int).toNat * i.size = 0) := by
      rw [Int.toNat_natCast, Nat.mul_eq_zero]; omega
    rw [if_neg hne]
    have hzv : (zeroValue e).run P w = .ok z w := run_zero (by simp [zeroOf, he, hz]) w
    simp only [Sem.run_bind, hzv, Result.andThen_ok, Sem.run_pure, Int.toNat_natCast]
    have := zeros_eq z.cells.toList c (by omega)
    rw [hzs] at this
    simp only [Array.toArray_toList] at this
    rw [hs, this]
    rfl

theorem runStores {P : Program} {w : World} {b o : Nat} {cs : List Value} {t : TypeId} {vs : List Value} (h : Blk w b cs t) (hl : o + vs.length ≤ cs.length) (hv : ∀ v ∈ vs, v.oneCell' = true) :
    (storeCells ⟨b, o, none⟩ vs).run P w = .ok () (setBlk w b (.cells (lay cs o vs).toArray t (0, 0))) := by
  obtain ⟨w', hr, hk⟩ := stL_run (P := P) vs 0 w (stL_rule (k := fun w' => w' = setBlk w b (.cells (lay cs o vs).toArray t (0, 0))) h hl hv rfl)
  rw [hr, hk]
theorem runLoads {P : Program} {w : World} {b o : Nat} {cs : List Value} {t : TypeId} {n : Nat} (h : Blk w b cs t) (hl : o + n ≤ cs.length) : (loadCells ⟨b, o, none⟩ n).run P w = .ok ((cs.drop o).take n).toArray w := by
  have hlen : ((cs.drop o).take n).length = n := by simp; omega
  have := (Reads.loadCells (P := P) (a := ⟨b, o, none⟩) (w := w) ((cs.drop o).take n) 0 #[] (fun j v hv => by
    rw [add_lit, h.cell]
    rw [List.getElem?_take] at hv
    split at hv
    · rw [List.getElem?_drop] at hv; rw [← hv]; congr 1; omega
    · cases hv)).run
  rw [hlen] at this
  simpa [loadCells] using this

theorem run_len_slice {P : Program} (w : World) (p : Option Addr) (n c : Nat) : (Builtin.lenOf (.slice p n c)).run P w = .ok n w := rfl

/-- append where there is room: the cells are laid behind the last element. -/
theorem runAppendRoom {P : Program} {t t2 ty e : TypeId} {i : TypeInfo} (ht : P.underlying t = some (.slice e)) (h2 : P.underlying t2 = some (.slice e)) (he : P.info? e = some i) {w : World} {g o n c r o2 m c2 : Nat} {cs cs2 : List Value} {tg tr : TypeId}
    (hg : Blk w g cs tg) (hr : Blk w r cs2 tr) (hroom : n + m ≤ c) (hl : o + n * i.size + m * i.size ≤ cs.length) (hl2 : o2 + m * i.size ≤ cs2.length) (hv : ∀ v ∈ (cs2.drop o2).take (m * i.size), v.oneCell' = true) :
    (Builtin.append_ #[t, t2] ty #[.slice (some ⟨g, o, none⟩) n c, .slice (some ⟨r, o2, none⟩) m c2]).run P w = .ok (.slice (some ⟨g, o, none⟩) (n + m) c) (setBlk w g (.cells (lay cs (o + n * i.size) ((cs2.drop o2).take (m * i.size))).toArray tg (0, 0))) := by
  have hu : (underlying t).run P w = .ok (.slice e) w := (Reads.underlying ht w).run
  have hu2 : (underlying t2).run P w = .ok (.slice e) w := (Reads.underlying h2 w).run
  have hlen : ((cs2.drop o2).take (m * i.size)).length = m * i.size := by simp; omega
  have hst := runStores (P := P) (o := o + n * i.size) (vs := (cs2.drop o2).take (m * i.size)) hg (by rw [hlen]; exact hl) hv
  unfold Builtin.append_
  simp only [Sem.run_bind, hu, hu2, Result.andThen_ok, run_size he w, Sem.run_pure]
  simp only [List.getElem?_toArray, List.getElem?_cons_succ, List.getElem?_cons_zero, Sem.run_bind, hu, Result.andThen_ok, run_size he w, hu2, Sem.run_pure, run_len_slice, Bool.false_eq_true, if_false, Bool.not_false, if_true, hroom, Builtin.firstCells, runLoads hr hl2, add_lit, hst]

theorem runCopy {P : Program} {t t2 ty e : TypeId} {i : TypeInfo} (ht : P.underlying t = some (.slice e)) (he : P.info? e = some i) {w : World} {g o n c r o2 m c2 q : Nat} {cs cs2 : List Value} {tg tr : TypeId}
    (hq : min m n = q) (hg : Blk w g cs tg) (hr : Blk w r cs2 tr) (hl : o + q * i.size ≤ cs.length) (hl2 : o2 + q * i.size ≤ cs2.length) (hv : ∀ v ∈ (cs2.drop o2).take (q * i.size), v.oneCell' = true) :
    (Builtin.copy_ #[t, t2] ty #[.slice (some ⟨g, o, none⟩) n c, .slice (some ⟨r, o2, none⟩) m c2]).run P w = .ok (.int .i64 (q : Int)) (setBlk w g (.cells (lay cs o ((cs2.drop o2).take (q * i.size))).toArray tg (0, 0))) := by
  have hu : (underlying t).run P w = .ok (.slice e) w := (Reads.underlying ht w).run
  have hlen : ((cs2.drop o2).take (q * i.size)).length = q * i.size := by simp; omega
  have hst := runStores (P := P) (o := o) (vs := (cs2.drop o2).take (q * i.size)) hg (by rw [hlen]; exact hl) hv
  have hm : Nat.min m n = q := hq
  unfold Builtin.copy_
  simp only [List.getElem?_toArray, List.getElem?_cons_succ, List.getElem?_cons_zero, Sem.run_bind, hu, Result.andThen_ok, run_size he w, run_len_slice, Sem.run_pure, Builtin.firstCells, hm, runLoads hr hl2, hst, goInt]

theorem runClear {P : Program} {t ty e : TypeId} {i : TypeInfo} {z : Value} (ht : P.underlying t = some (.slice e)) (he : P.info? e = some i) (hz : i.zero = some z) (h1 : 0 < z.cells.size) {w : World} {g o n c : Nat} {cs : List Value} {tg : TypeId} (hn : 0 < n)
    (hg : Blk w g cs tg) (hl : o + n * z.cells.size ≤ cs.length) (hv : ∀ v ∈ z.cells.toList, v.oneCell' = true) :
    (Builtin.clear_ #[t] ty #[.slice (some ⟨g, o, none⟩) n c]).run P w = .ok (.tuple #[]) (setBlk w g (.cells (lay cs o ((List.replicate n z.cells.toList).flatten)).toArray tg (0, 0))) := by
  have hu : (underlying t).run P w = .ok (.slice e) w := (Reads.underlying ht w).run
  have hzv : (zeroValue e).run P w = .ok z w := run_zero (by simp [zeroOf, he, hz]) w
  have hzc : (Builtin.zeroCells z.cells n).toList = (List.replicate n z.cells.toList).flatten := by
    have := zeros_eq z.cells.toList n (by simpa using h1)
    simp only [Array.length_toList, Array.toArray_toList] at this
    unfold Builtin.zeroCells
    rw [this]
  have hst := runStores (P := P) (o := o) (vs := (List.replicate n z.cells.toList).flatten) hg (by simpa using hl) (fun v hv' => by
    obtain ⟨l, hl, hvl⟩ := List.mem_flatten.1 hv'
    rw [List.eq_of_mem_replicate hl] at hvl
    exact hv v hvl)
  obtain ⟨m, rfl⟩ : ∃ m, n = m + 1 := ⟨n - 1, by omega⟩
  unfold Builtin.clear_
  simp only [List.getElem?_toArray, List.getElem?_cons_succ, List.getElem?_cons_zero, Sem.run_bind, hu, Result.andThen_ok, hzv, Sem.run_pure, hzc, hst]

theorem stL_abs {w : World} {b o : Nat} {cs : List Value} {t : TypeId} {vs : List Value} {k : World → Prop} (h : Blk w b cs t) (hl : o + vs.length ≤ cs.length) (hv : ∀ v ∈ vs, v.oneCell' = true) (hk : ∀ w', Blk w' b (lay cs o vs) t → Chg (fun k => k = b) w w' → k w') : stL w ⟨b, o, none⟩ 0 vs k :=
  stL_rule h hl hv (hk _ h.set_same (Chg.set _ _ _ _ rfl))
theorem al_abs {w : World} {cs : Array Value} {t : TypeId} {k : Nat → World → Prop} (hk : ∀ r w', r = w.heap.size → Blk w' r cs.toList t → Chg (fun _ => False) w w' → w'.heap.size = r + 1 → k r w') : al w (.cells cs t) k :=
  hk _ _ rfl (by have := Blk.new w cs.toList t; simpa using this) (Chg.push _ _ _) (by simp)
theorem dr_abs {w : World} {k : World → Prop} (hk : ∀ w', w'.heap = w.heap → Chg (fun _ => False) w w' → k w') : dr w k := hk _ rfl (Chg.draw _ _)
theorem Chg.none {F : Nat → Prop} {w w' : World} (h : Chg (fun _ => False) w w') : Chg F w w' := h.mono fun _ _ h => h.elim
theorem Chg.ext {w w' : World} (h : Chg (fun _ => False) w w') : Ext w w' := fun b o hb => by
  rcases Nat.lt_or_ge b w.heap.size with h' | h'
  · rw [h.block b h' id]; exact hb
  · rw [Array.getElem?_eq_none h'] at hb; cases hb
theorem callQ_chg {P : Program} {f : FuncId} {args : Array Value} {w : World} {k : Value → World → Prop} (h : callV P f args w fun v w' => Chg (fun _ => False) w w' ∧ k v w') : callQ P f args w k := callQ_of (callV_mono h fun _ _ h => ⟨h.1.ext, h.2⟩)
theorem Blk.heap {w w' : World} {b : Nat} {cs : List Value} {t : TypeId} (h : Blk w b cs t) (e : w'.heap = w.heap) : Blk w' b cs t := by unfold Blk at *; rw [e]; exact h
theorem slc_rule {p : Option Addr} {len cap sz : Nat} {lo hi mx : Option Int} {k : Option Addr → Nat → Nat → Prop} (l h m : Nat) (hl : lo.getD 0 = l) (hh : hi.getD len = h) (hm : mx.getD cap = m) (h1 : m ≤ cap) (h2 : h ≤ m) (h3 : l ≤ h) (h4 : mx.isSome = true → hi.isSome = true)
    (hk : k (if m = l then p else p.map (·.add (l * sz))) (h - l) (m - l)) : slc p len cap sz lo hi mx k := by
  unfold slc
  simp only [hl, hh, hm, Int.toNat_natCast]
  exact ⟨by omega, by omega, by omega, by omega, by omega, by omega, h4, hk⟩
theorem jn_rule {α : Type} {f : α} {k : α → Prop} (p : α → Prop) (h1 : p f) (h2 : ∀ J, p J → k J) : jn f k := h2 f h1
theorem info_of {P : Program} {t : TypeId} {s b : Nat} {z : Option Value} (h : (P.info? t).map (fun i => (i.size, i.bytes, i.zero)) = some (s, b, z)) : ∃ i, P.info? t = some i ∧ i.size = s ∧ i.bytes = b ∧ i.zero = z := by
  cases hi : P.info? t with
  | none => simp [hi] at h
  | some i => simp [hi] at h; exact ⟨i, rfl, h.1, h.2.1, h.2.2⟩
theorem wrap64_id {n : Int} (h0 : -9223372036854775808 ≤ n) (h1 : n < 9223372036854775808) : IntKind.wrap .i64 n = n := by
  unfold IntKind.wrap IntKind.bits IntKind.signed
  simp
  split <;> omega
theorem wrapU32_id {n : Int} (h0 : 0 ≤ n) (h1 : n < 4294967296) : IntKind.wrap .u32 n = n := by
  unfold IntKind.wrap IntKind.bits IntKind.signed
  simp
  omega
end Go.Sh
