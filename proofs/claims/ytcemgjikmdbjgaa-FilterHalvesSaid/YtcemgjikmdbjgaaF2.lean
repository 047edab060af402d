/- The filters' lists: which one lets a frame in first; does one. -/
import Derived.Test.YtcemgjikmdbjgaaF1
namespace Go.Proofs.Ytcemgjikmdbjgaa
open Go Go.Sh Go.Flt

theorem cam_rows {w : World} {b : Nat} {t : TypeId} {sz : Nat} {C : List (List Value)} (h : Blk w b C.flatten t) (hl : ∀ cs ∈ C, cs.length = sz) : Cam w sz (some ⟨b, 0, none⟩) C.length C := by
  refine ⟨rfl, fun i cs hi => ⟨hl cs (List.mem_of_getElem? hi), ⟨b, 0, none⟩, rfl, h.lt, fun j hj => ?_⟩⟩
  rw [add_lit, h.cell]
  have key : ∀ (C : List (List Value)) (i : Nat) (cs : List Value), (∀ cs ∈ C, cs.length = sz) → C[i]? = some cs → C.flatten[i * sz + j]? = cs[j]? := by
    intro C
    induction C with
    | nil => intro i cs _ h; cases h
    | cons c C ih =>
      intro i cs hl hi
      have hc := hl c (by simp)
      rw [List.flatten_cons]
      cases i with
      | zero => simp at hi; subst hi; rw [List.getElem?_append_left (by omega)]; simp
      | succ i =>
        rw [List.getElem?_append_right (by rw [hc, Nat.add_mul]; omega), ← ih i cs (fun cs h => hl cs (by simp [h])) (by simpa using hi)]
        congr 1; rw [hc, Nat.add_mul]; omega
  rw [← key C i cs hl hi]; congr 1; omega

/-- A list of filters that lies somewhere. -/
def FL (w : World) (p : Option Addr) (n : Nat) (L : List Flt) : Prop := Cam w 3 p n (L.map cellsF)
theorem FL.chg {w w' : World} {p : Option Addr} {n : Nat} {L : List Flt} (h : FL w p n L) (hc : Chg (fun _ => False) w w') : FL w' p n L := Cam.chg h hc fun _ _ _ => id
theorem FL.len {w : World} {p : Option Addr} {n : Nat} {L : List Flt} (h : FL w p n L) : L.length = n := by have := h.1; simpa using this
theorem FL.of_blk {w : World} {b : Nat} {t : TypeId} {L : List Flt} (h : Blk w b (L.flatMap cellsF) t) : FL w (some ⟨b, 0, none⟩) L.length L := by
  have := cam_rows (sz := 3) (C := L.map cellsF) (by rw [List.flatMap_def] at h; exact h) (fun cs hc => by obtain ⟨x, _, rfl⟩ := List.mem_map.1 hc; rfl)
  rw [List.length_map] at this; exact this
theorem FL.get {w : World} {p : Option Addr} {n : Nat} {L : List Flt} (h : FL w p n L) {i : Nat} (hi : i < n) : ∃ x a, L[i]? = some x ∧ p = some a ∧ a.block < w.heap.size ∧ w.cell? (a.add (i * 3)) = some (.bool x.ext) ∧ w.cell? ((a.add (i * 3)).add 1) = some (u32 x.mask) ∧ w.cell? ((a.add (i * 3)).add 2) = some (u32 x.mat) := by
  obtain ⟨cs, a, h1, _, _, hp, hlt, hk⟩ := Cam.at_ h hi
  rw [List.getElem?_map] at h1
  cases hx : L[i]? with
  | none => rw [hx] at h1; cases h1
  | some x =>
    rw [hx] at h1
    simp at h1
    subst h1
    exact ⟨x, a, rfl, hp, hlt, by have := hk 0 (by omega); rw [add_zero] at this; exact this, hk 1 (by omega), hk 2 (by omega)⟩

abbrev clo (b : Nat) : Value := .func (.func 30) #[] #[.pointer (some ⟨b, 0, none⟩)]
/-- The first place where something holds; below 0: nowhere. -/
def firstI {α : Type} (p : α → Bool) (L : List α) : Int := match L.findIdx? p with | some i => (i : Int) | none => -1
theorem firstI_at {α : Type} {p : α → Bool} {L : List α} {i : Nat} {x : α} (h : L[i]? = some x) (hp : p x = true) (hb : ∀ (j : Nat) y, j < i → L[j]? = some y → p y = false) : firstI p L = i := by
  have : L.findIdx? p = some i := by
    rw [List.findIdx?_eq_some_iff_getElem]
    have hi := (List.getElem?_eq_some_iff.1 h).1
    refine ⟨hi, ?_, fun j hj => ?_⟩
    · rw [(List.getElem?_eq_some_iff.1 h).2]; exact hp
    · have := hb j L[j] hj (List.getElem?_eq_getElem (by omega)); simp [this]
  unfold firstI; rw [this]
theorem firstI_none {α : Type} {p : α → Bool} {L : List α} (hb : ∀ (j : Nat) y, L[j]? = some y → p y = false) : firstI p L = -1 := by
  have : L.findIdx? p = none := by
    rw [List.findIdx?_eq_none_iff]
    intro x hx
    obtain ⟨j, hj⟩ := List.mem_iff_getElem?.1 hx
    exact hb j x hj
  unfold firstI; rw [this]

theorem index_call {w : World} {p : Option Addr} {n c : Nat} {L : List Flt} (hL : FL w p n L) {b : Nat} {id : BitVec 32} {e : Bool} {cs : List Value} {t : TypeId} (hf : Blk w b (u32 id :: .bool e :: cs) t) {K : Value → World → Prop} (hn : n < 9223372036854775807)
    (hk : ∀ w', Chg (fun _ => False) w w' → K (.int .i64 (firstI (lets id e) L)) w') : callV Try.prog 24 #[.slice p n c, clo b] w K := by
  refine ok24 ?_
  have hlen := hL.len
  refine ⟨fun m x w' => ∃ i : Nat, x = i ∧ i ≤ n ∧ m = n - i ∧ (∀ (j : Nat) y, j < i → L[j]? = some y → lets id e y = false) ∧ Chg (fun _ => False) w w', ⟨n, 0, rfl, by omega, rfl, fun j y hj => by omega, Chg.refl _ _⟩, ?_⟩
  rintro m x w' ⟨i, rfl, hi, hm, hb, hc⟩
  refine br_of (fun hlt => ?_) (fun hge => ?_)
  · have hlt : i < n := by have := of_decide_eq_true hlt; omega
    obtain ⟨x, a, hx, hp, _, k0, k1, k2⟩ := (hL.chg hc).get hlt
    rw [hp]
    refine ⟨by omega, by omega, ?_⟩
    rw [need_some, Int.toNat_natCast]
    refine ⟨_, k0, _, k1, _, k2, ?_⟩
    show callV _ _ _ _ _
    refine letsc_call (hc.blk hf (fun h => h)) fun w2 c2 => ⟨_, rfl, ?_⟩
    cases hl : lets id e x with
    | true => rw [br_true, ← firstI_at hx hl hb]; exact hk w2 (hc.trans c2)
    | false =>
      rw [br_false, wrap64_id (by omega) (by omega)]
      refine ⟨n - (i + 1), by omega, i + 1, by omega, by omega, rfl, fun j y hj hy => ?_, hc.trans c2⟩
      rcases Nat.lt_or_ge j i with h1 | h1
      · exact hb j y h1 hy
      · obtain rfl : j = i := by omega
        rw [hx] at hy; cases hy; exact hl
  · have hge : i = n := by have := of_decide_eq_false hge; omega
    rw [show (-1 : Int) = firstI (lets id e) L from (firstI_none fun j y hy => hb j y (by have := (List.getElem?_eq_some_iff.1 hy).1; omega) hy).symm]
    exact hk w' hc

structure Frm where
  id : BitVec 32
  ext : Bool
  rem : Bool
  dlc : Int
  dp : Option Addr
  dl : Nat
  dc : Nat
abbrev valR (f : Frm) : Value := .agg #[u32 f.id, .bool f.ext, .bool f.rem, .int .u8 f.dlc, .slice f.dp f.dl f.dc]

theorem first_call {w : World} {p : Option Addr} {n c : Nat} {L : List Flt} (hL : FL w p n L) (f : Frm) {K : Value → World → Prop} (hn : n < 9223372036854775807)
    (hk : ∀ w', Chg (fun _ => False) w w' → K (.tuple #[.int .i64 (max (firstI (lets f.id f.ext) L) 0), .bool (decide (firstI (lets f.id f.ext) L ≥ 0))]) w') : callV Try.prog 13 #[.slice p n c, valR f] w K := by
  refine ok13 (al_abs fun r w1 hr hb c1 hs1 => ?_)
  refine ⟨_, hb.cell 0, _, hb.cell 1, _, hb.cell 2, _, hb.cell 3, _, _, _, hb.cell 4, ?_⟩
  refine callQ_chg (ok23 (al_abs fun r2 w2 hr2 hb2 c2 hs2 => ⟨c2, _, rfl, ?_⟩))
  refine callQ_chg (index_call (hL.chg (c1.trans c2)) hb2 hn fun w3 c3 => ⟨c3, _, rfl, ?_⟩)
  have : (if 0 > firstI (lets f.id f.ext) L then 0 else firstI (lets f.id f.ext) L) = max (firstI (lets f.id f.ext) L) 0 := by split <;> omega
  rw [this]
  exact hk _ (c1.trans (c2.trans c3))

def pass (f : Frm) (L : List Flt) : Bool := L.isEmpty || L.any (lets f.id f.ext)
theorem firstI_any {α : Type} {p : α → Bool} {L : List α} : decide (firstI p L ≥ 0) = L.any p := by
  unfold firstI
  cases h : L.findIdx? p with
  | none =>
    rw [List.findIdx?_eq_none_iff] at h
    have : L.any p = false := by rw [List.any_eq_false]; intro x hx; simp [h x hx]
    rw [this]; rfl
  | some i =>
    rw [List.findIdx?_eq_some_iff_getElem] at h
    obtain ⟨hi, hp, _⟩ := h
    have : L.any p = true := List.any_eq_true.2 ⟨L[i], List.getElem_mem hi, hp⟩
    rw [this]; simp

theorem pass_call {w : World} {p : Option Addr} {n c : Nat} {L : List Flt} (hL : FL w p n L) (f : Frm) {K : Value → World → Prop} (hn : n < 9223372036854775807)
    (hk : ∀ w', Chg (fun _ => False) w w' → K (.bool (pass f L)) w') : callV Try.prog 10 #[.slice p n c, valR f] w K := by
  have hlen := hL.len
  refine ok10 (al_abs fun r w1 hr hb c1 hs1 => br_of (fun h => ?_) (fun h => ?_))
  · have h0 : n = 0 := by simp at h; omega
    have : pass f L = true := by
      subst h0
      have := List.eq_nil_of_length_eq_zero hlen
      subst this; rfl
    rw [← this]; exact hk _ c1
  refine ⟨_, hb.cell 0, _, hb.cell 1, _, hb.cell 2, _, hb.cell 3, _, _, _, hb.cell 4, ?_⟩
  refine callQ_chg (ok23 (al_abs fun r2 w2 hr2 hb2 c2 hs2 => ⟨c2, _, rfl, ?_⟩))
  refine callQ_chg (ok22 (callQ_chg (index_call (hL.chg (c1.trans c2)) hb2 hn fun w3 c3 => ⟨c3, _, rfl, c3, _, rfl, ?_⟩)))
  rw [firstI_any]
  have : pass f L = L.any (lets f.id f.ext) := by
    unfold pass
    cases L with
    | nil => simp at hlen; subst hlen; simp at h
    | cons x L => rfl
  rw [← this]
  exact hk _ (c1.trans (c2.trans c3))
end Go.Proofs.Ytcemgjikmdbjgaa
