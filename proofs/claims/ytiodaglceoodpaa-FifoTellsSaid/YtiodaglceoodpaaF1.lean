/- The fifo's functions: what each comes to, over what a fifo holds. -/
import Derived.Test.YtiodaglceoodpaaD1
import Derived.Test.YtiodaglceoodpaaMem
namespace Go.Proofs.Ytiodaglceoodpaa
open Go Go.Sh

/-- A frame that came: its six cells. -/
structure Rec where
  id : Int
  ext : Bool
  rem : Bool
  dlc : Int
  dp : Option Addr
  dl : Nat
  dc : Nat
  at_ : Int
def Rec.cells (r : Rec) : List Value := [.int .u32 r.id, .bool r.ext, .bool r.rem, .int .u8 r.dlc, .slice r.dp r.dl r.dc, .int .i64 r.at_]
def Rec.val (r : Rec) : Value := .agg #[.int .u32 r.id, .bool r.ext, .bool r.rem, .int .u8 r.dlc, .slice r.dp r.dl r.dc, .int .i64 r.at_]
def Rec.zero : Rec := ⟨0, false, false, 0, none, 0, 0, 0⟩
def rows (xs : List Rec) : List Value := xs.flatMap Rec.cells
theorem rows_length (xs : List Rec) : (rows xs).length = 6 * xs.length := by
  induction xs with
  | nil => rfl
  | cons x xs ih => simp only [rows, List.flatMap_cons, List.length_append] at ih ⊢; rw [ih]; simp [Rec.cells]; omega
theorem rows_append (xs ys : List Rec) : rows (xs ++ ys) = rows xs ++ rows ys := by simp [rows]
theorem rows_cons (x : Rec) (xs : List Rec) : rows (x :: xs) = x.cells ++ rows xs := by simp [rows]
theorem rows_split {xs : List Rec} {i : Nat} {r : Rec} (h : xs[i]? = some r) : rows xs = rows (xs.take i) ++ (r.cells ++ rows (xs.drop (i + 1))) := by
  have hi : i < xs.length := (List.getElem?_eq_some_iff.1 h).1
  have hr : xs[i] = r := (List.getElem?_eq_some_iff.1 h).2
  rw [← rows_cons, ← rows_append, ← hr]
  simp
theorem rows_get {xs : List Rec} {i : Nat} {r : Rec} (h : xs[i]? = some r) (j : Nat) (hj : j < 6) : (rows xs)[6 * i + j]? = r.cells[j]? := by
  have hi : i < xs.length := (List.getElem?_eq_some_iff.1 h).1
  rw [rows_split h, List.getElem?_append_right (by rw [rows_length]; simp; omega), rows_length]
  have : 6 * i + j - 6 * (xs.take i).length = j := by simp; omega
  rw [this, List.getElem?_append_left (by simp [Rec.cells]; omega)]
theorem rows_lay {xs : List Rec} {i : Nat} (hi : i < xs.length) (r : Rec) : lay (rows xs) (6 * i) r.cells = rows (xs.set i r) := by
  have h0 : xs[i]? = some xs[i] := List.getElem?_eq_getElem hi
  have h1 : (xs.set i r)[i]? = some r := by simp [hi]
  have hc : r.cells.length = 6 := rfl
  rw [lay_eq _ _ _ (by rw [rows_length, hc]; omega), rows_split h1, rows_split h0, hc]
  have e1 : (xs.set i r).take i = xs.take i := by
    apply List.ext_getElem?
    intro j
    simp only [List.getElem?_take, List.getElem?_set]
    grind
  have e2 : (xs.set i r).drop (i + 1) = xs.drop (i + 1) := by rw [List.drop_set_of_lt (by omega)]
  rw [e1, e2]
  have hl : (rows (xs.take i)).length = 6 * i := by rw [rows_length]; simp; omega
  rw [List.take_append_of_le_length (by omega), List.take_of_length_le (by omega)]
  rw [List.drop_append, List.drop_of_length_le (by omega : (rows (xs.take i)).length ≤ 6 * i + 6)]
  rw [hl, show 6 * i + 6 - 6 * i = 6 by omega]
  have hc0 : (xs[i]).cells.length = 6 := rfl
  rw [List.drop_append, List.drop_of_length_le (by omega)]
  simp [hc0]

/-- The fifo at block b, its row at block g: 'xs': all places of the row; those from 'fr' to 'n' are in it. -/
structure Fifo (w : World) (b g : Nat) (room : Nat) (lost : Bool) (fr n : Nat) (xs : List Rec) : Prop where
  hb : Blk w b [.slice (some ⟨g, 0, none⟩) n (2 * room), .int .i64 fr, .int .i64 room, .bool lost] 56
  hg : Blk w g (rows xs) 36
  hne : b ≠ g
  len : xs.length = 2 * room
  r0 : 1 ≤ room
  r1 : room ≤ 256
  f0 : fr ≤ n
  f1 : n ≤ 2 * room
  f2 : n - fr ≤ room

abbrev ptr (b : Nat) : Value := .pointer (some ⟨b, 0, none⟩)

theorem none_call {w : World} {b g room lost fr n xs} (h : Fifo w b g room lost fr n xs) {K : Value → World → Prop} (hk : K (.bool false) w) : callV Try.prog 19 #[ptr b] w K := by
  refine ok19 ?_
  have hr := h.r0
  simp only [S19, Option.isNone_some, br_false, need_some, add_lit, h.hb.cell]
  refine ⟨room, rfl, ?_⟩
  have : ((room : Int) == 0) = false := by simp; omega
  rw [this]; exact hk

theorem len_call {w : World} {b g room lost fr n xs} (h : Fifo w b g room lost fr n xs) {K : Value → World → Prop} (hk : ∀ w', w'.heap = w.heap → Chg (fun _ => False) w w' → K (.int .i64 ((n - fr : Nat) : Int)) w') : callV Try.prog 15 #[ptr b] w K := by
  refine ok15 (none_call h ⟨_, rfl, ?_⟩)
  have hf0 := h.f0; have hf1 := h.f1; have hr1 := h.r1
  simp only [br_false, dr, need_some, add_lit]
  have hd : Blk (drawW w) b _ _ := h.hb.draw
  simp only [hd.cell]
  refine ⟨_, _, _, rfl, fr, rfl, ?_⟩
  rw [wrap64_id (by omega) (by omega), show (n : Int) - fr = ((n - fr : Nat) : Int) by omega]
  exact hk _ rfl (Chg.draw _ _)

theorem over_call {w : World} {b g room lost fr n xs} (h : Fifo w b g room lost fr n xs) {K : Value → World → Prop} (hk : K (.bool lost) w) : callV Try.prog 16 #[ptr b] w K := by
  refine ok16 (none_call h ⟨_, rfl, ?_⟩)
  simp only [Bool.not_false, br_true, need_some, add_lit, h.hb.cell]
  exact ⟨lost, rfl, hk⟩

theorem clear_call {w : World} {b g room lost fr n xs} (h : Fifo w b g room lost fr n xs) {K : Value → World → Prop} (hk : ∀ w', Fifo w' b g room false fr n xs → Chg (fun k => k = b) w w' → K (.bool lost) w') : callV Try.prog 14 #[ptr b] w K := by
  refine ok14 (over_call h ⟨_, rfl, ?_⟩)
  cases lost with
  | false => exact hk w h (Chg.refl _ _)
  | true =>
    simp only [br_true, need_some, add_lit]
    refine stL_rule h.hb (by simp) (by simp [Value.oneCell']) (hk _ ?_ (Chg.set _ _ _ _ rfl))
    exact ⟨h.hb.set_same, h.hg.set_other h.hne, h.hne, h.len, h.r0, h.r1, h.f0, h.f1, h.f2⟩

theorem rec_cells1 (r : Rec) : ∀ v ∈ r.cells, v.oneCell' = true := by simp [Rec.cells, Value.oneCell']
theorem rows1 (xs : List Rec) : ∀ v ∈ rows xs, v.oneCell' = true := by
  intro v hv
  obtain ⟨r, _, h⟩ := List.mem_flatMap.1 hv
  exact rec_cells1 r v h
theorem info36 : ∃ i, Try.prog.info? 36 = some i ∧ i.size = 6 ∧ i.bytes = 40 ∧ i.zero = some Rec.zero.val := info_of (by kernel_rfl)
theorem und28 : Try.prog.underlying 28 = some (.slice 36) := by kernel_rfl
theorem zrows (n : Nat) : (List.replicate n Rec.zero.cells).flatten = rows (List.replicate n Rec.zero) := by
  induction n with
  | zero => rfl
  | succ n ih => rw [List.replicate_succ, List.replicate_succ, List.flatten_cons, rows_cons, ih]

theorem new_call {w : World} {room : Nat} (h0 : 1 ≤ room) (h1 : room ≤ 256) {K : Value → World → Prop} (hk : ∀ w', Fifo w' (w.heap.size + 1) w.heap.size room false 0 0 (List.replicate (2 * room) Rec.zero) → Chg (fun _ => False) w w' → K (.tuple #[ptr (w.heap.size + 1), .int .i64 0]) w') : callV Try.prog 7 #[.int .i64 room] w K := by
  refine ok7 ?_
  obtain ⟨i, hi, hs, hby, hz⟩ := info36
  have d1 : decide ((room : Int) < 1) = false := by simp; omega
  have d2 : decide ((room : Int) > 256) = false := by simp; omega
  simp only [S7, d1, d2, br_false]
  rw [wrap64_id (by omega) (by omega), show (2 * (room : Int)) = ((2 * room : Nat) : Int) by omega]
  refine ⟨_, _, runMake (l := 0) und28 hi hz (by rw [hs]; rfl) (by omega) (by omega) (by rw [hby]; omega) (by omega) w, ?_⟩
  refine ⟨_, _, _, rfl, ?_⟩
  have hzc : Rec.zero.val.cells.toList = Rec.zero.cells := rfl
  rw [hzc, zrows]
  unfold al
  rw [pushW_size]
  refine hk _ ?_ ((Chg.push _ _ _).trans (Chg.push _ _ _))
  have hg : Blk (pushW w (.cells (rows (List.replicate (2 * room) Rec.zero)).toArray 36)) w.heap.size (rows (List.replicate (2 * room) Rec.zero)) 36 := Blk.new _ _ _
  refine ⟨?_, hg.push _, by omega, by simp, h0, h1, by omega, by omega, by omega⟩
  have := Blk.new (pushW w (.cells (rows (List.replicate (2 * room) Rec.zero)).toArray 36)) [.slice (some ⟨w.heap.size, 0, none⟩) 0 (2 * room), .int .i64 0, .int .i64 room, .bool false] 56
  rw [pushW_size] at this
  exact this

theorem new_bad {w : World} {r : Int} (h : r < 1 ∨ 256 < r) {K : Value → World → Prop} (hk : K (.tuple #[.pointer none, .int .i64 2]) w) : callV Try.prog 7 #[.int .i64 r] w K := by
  refine ok7 ?_
  unfold S7
  refine br_of (fun _ => hk) fun h1 => br_of (fun _ => hk) fun h2 => ?_
  simp at h1 h2
  omega

theorem rx_call {w : World} {n : Int} {K : Value → World → Prop} (hk : ∀ w', Chg (fun _ => False) w w' → K (Rec.mk (IntKind.wrap .u32 n) false false 0 none 0 0 n).val w') : callV Try.prog 17 #[.int .i64 n] w K := by
  refine ok17 ?_
  unfold S17 al
  have hb : Blk (pushW w (.cells Rec.zero.cells.toArray 36)) w.heap.size Rec.zero.cells 36 := Blk.new _ _ _
  refine stL_rule hb (by simp [Rec.cells]) (by simp [Value.oneCell']) ?_
  have hb2 := hb.set_same (cs' := (Rec.mk (IntKind.wrap .u32 n) false false 0 none 0 0 n).cells) (t' := 36)
  exact ⟨_, hb2.cell 0, _, hb2.cell 1, _, hb2.cell 2, _, hb2.cell 3, _, _, _, hb2.cell 4, _, hb2.cell 5, hk _ (((Chg.push (fun k => k = w.heap.size) _ _).trans (Chg.set _ _ _ _ rfl)).mono fun k hk hk2 => by omega)⟩
end Go.Proofs.Ytiodaglceoodpaa
