/- FilterMore. -/
import Derived.Test.YtcemgjikmdbjgaaF6
import Derived.Test.YtcemgjikmdbjgaaD6
namespace Go.Proofs.Ytcemgjikmdbjgaa
open Go Go.Sh Go.Flt

theorem FL.src {w : World} {p : Option Addr} {n : Nat} {L : List Flt} (h : FL w p n L) (c : Nat) : Src Try.prog 3 27 (.slice p n c) n (L.flatMap cellsF) w := by
  have := Cam.src und27 h c (fun cs hc v hv => by obtain ⟨x, _, rfl⟩ := List.mem_map.1 hc; exact cellsF1 x v hv) (by omega)
  rw [flat_cells] at this; exact this
theorem FL.pre {w : World} {p : Option Addr} {n : Nat} {L : List Flt} (h : FL w p n L) (N : Nat) (hN : N ≤ n) : FL w p N (L.take N) := by
  have := Cam.prefix h N hN
  rw [← List.map_take] at this; exact this
theorem app_of {w : World} {p : Option Addr} {n c m : Nat} {L M : List Flt} {x : Value} (h : OF w p n c L) (hs : Src Try.prog 3 27 x m (M.flatMap cellsF) w) (hfit : n + m ≤ 1000000) {K : Value → World → Prop}
    (hk : ∀ w' p' c', OF w' p' (n + m) c' (L ++ M) → (∀ k, inB p' k → inB p k ∨ w.heap.size ≤ k) → Chg (inB p) w w' → K (.slice p' (n + m) c') w') : runV Try.prog (Builtin.append_ #[27, 27] 27 #[.slice p n c, x]) w K := by
  obtain ⟨i, hi, hs1, hby, hz⟩ := info24
  refine append_own (P := Try.prog) und27 hi hz (by rw [hs1]; rfl) (by simp [Value.cells, Value.oneCell']) (by omega) (by rw [hs1]; exact h) (by rw [hs1]; exact hs) (by rw [hby]; omega) (by omega) fun w' p' c' ho hf cc => hk w' p' c' ?_ hf cc
  unfold OF
  rw [hs1] at ho
  rw [List.flatMap_append]; exact ho

theorem first_app {α : Type} (q : α → Bool) (L M : List α) : firstI q (L ++ M) = if L.any q then firstI q L else if M.any q then firstI q M + L.length else -1 := by
  have key : ∀ (L : List α), L.any q = true → ∃ (i : Nat) (x : α), L[i]? = some x ∧ q x = true ∧ ∀ (j : Nat) y, j < i → L[j]? = some y → q y = false := by
    intro L
    induction L with
    | nil => intro h; cases h
    | cons z L ih =>
      intro h
      cases hz : q z with
      | true => exact ⟨0, z, rfl, hz, fun j y hj => by omega⟩
      | false =>
        rw [List.any_cons, hz, Bool.false_or] at h
        obtain ⟨i, x, h1, h2, h3⟩ := ih h
        refine ⟨i + 1, x, by simpa using h1, h2, fun j y hj hy => ?_⟩
        cases j with
        | zero => simp at hy; subst hy; exact hz
        | succ j => exact h3 j y (by omega) (by simpa using hy)
  cases hL : L.any q with
  | true =>
    obtain ⟨i, x, h1, h2, h3⟩ := key L hL
    have hi := (List.getElem?_eq_some_iff.1 h1).1
    rw [if_pos rfl, firstI_at h1 h2 h3]
    exact firstI_at (by rw [List.getElem?_append_left hi]; exact h1) h2 (fun j y hj hy => h3 j y hj (by rw [List.getElem?_append_left (by omega)] at hy; exact hy))
  | false =>
    have hLn : ∀ (j : Nat) y, L[j]? = some y → q y = false := fun j y hj => by
      rw [List.any_eq_false] at hL
      have := hL y (List.mem_of_getElem? hj); simpa using this
    simp only [Bool.false_eq_true, if_false]
    cases hM : M.any q with
    | true =>
      obtain ⟨i, x, h1, h2, h3⟩ := key M hM
      rw [if_pos rfl, firstI_at h1 h2 h3]
      have := firstI_at (p := q) (L := L ++ M) (i := L.length + i) (x := x) (by rw [List.getElem?_append_right (by omega)]; simpa using h1) h2 (fun j y hj hy => by
        rcases Nat.lt_or_ge j L.length with h4 | h4
        · rw [List.getElem?_append_left h4] at hy; exact hLn j y hy
        · rw [List.getElem?_append_right h4] at hy; exact h3 _ y (by omega) hy)
      rw [this]; omega
    | false =>
      simp only [Bool.false_eq_true, if_false]
      refine firstI_none fun j y hj => ?_
      have hm := List.mem_of_getElem? hj
      have : (L ++ M).any q = false := by rw [List.any_append, hL, hM]; rfl
      rw [List.any_eq_false] at this
      have := this y hm; simpa using this
theorem first_neg {α : Type} {q : α → Bool} {L : List α} : firstI q L ≥ 0 ↔ L.any q = true := by
  rw [← firstI_any, decide_eq_true_eq]

theorem more_call {w : World} {p1 p2 : Option Addr} {n1 c1 n2 c2 : Nat} {L M : List Flt} (hL : FL w p1 n1 L) (hM : FL w p2 n2 M) (hc1 : n1 ≤ c1) (hc2 : n2 ≤ c2) (id : BitVec 32) (e : Bool) {K : Value → World → Prop}
    (hk : ∀ w', Chg (fun _ => False) w w' → K (.bool true) w') : callV Try.prog 7 #[.slice p1 n1 c1, .slice p2 n2 c2, u32 id, .bool e] w K := by
  refine ok7 (dr_abs fun w0 _ c0 => ?_)
  obtain ⟨N1, e1, h1, h1', _⟩ := min_nat 20 n1
  obtain ⟨N2, e2, h2, h2', _⟩ := min_nat 20 n2
  have e1 : (if (20 : Int) < (n1 : Int) then 20 else (n1 : Int)) = N1 := e1
  have e2 : (if (20 : Int) < (n2 : Int) then 20 else (n2 : Int)) = N2 := e2
  rw [e1, e2]
  refine slc_pre h1 hc1 (slc_pre h2 hc2 ?_)
  have hL := (hL.chg c0).pre N1 h1
  have hM := (hM.chg c0).pre N2 h2
  generalize L.take N1 = L at hL
  generalize M.take N2 = M at hM
  have hLl := hL.len
  have hMl := hM.len
  refine al_abs fun r w1 hr hb1 cc1 hs1 => ?_
  have h0 : OF w1 (some ⟨r, 0, none⟩) 0 0 [] := Own.of_blk hb1 rfl (fun v hv => by cases hv)
  refine app_of h0 ((hL.chg cc1).src c1) (by omega) fun w2 p3 c3 h3 hf3 cc2 => ⟨_, _, _, rfl, ?_⟩
  have ccA : Chg (fun _ => False) w w2 := (c0.none.trans (cc1.none.trans (cc2.mono (F' := fun k => w.heap.size ≤ k) fun k _ ⟨o, h⟩ => by have := c0.size; simp at h; omega))).mono fun k hk h => by omega
  have ccB : Chg (fun _ => False) w0 w2 := (cc1.none.trans (cc2.mono (F' := fun k => w0.heap.size ≤ k) fun k _ ⟨o, h⟩ => by simp at h; omega)).mono fun k hk h => by omega
  refine app_of h3 ((hM.chg ccB).src c2) (by omega) fun w3 p4 c4 h4 hf4 cc3 => ⟨_, _, _, rfl, ?_⟩
  have hp3 : ∀ k, inB p3 k → w0.heap.size ≤ k := fun k hk => by
    rcases hf3 k hk with ⟨o, h⟩ | h
    · simp at h; omega
    · have := cc1.size; omega
  have ccC : Chg (fun _ => False) w0 w3 := (ccB.none.trans (cc3.mono (F' := fun k => w0.heap.size ≤ k) fun k _ h => hp3 k h)).mono fun k hk h => by omega
  rw [List.nil_append] at h4
  refine al_abs fun r24 w4 hr4 hb4 cc4 hs4 => stL_abs hb4 (by simp) (by simp [Value.oneCell']) fun w5 hb cc5 => ?_
  have hb : Blk w5 r24 [u32 id, .bool e, .bool false, .int .u8 0, .slice none 0 0] 30 := hb
  have ccD : Chg (fun _ => False) w3 w5 := (cc4.none.trans (cc5.mono (F' := fun k => w3.heap.size ≤ k) fun k _ h => by omega)).mono fun k hk h => by omega
  have hB : FL w5 p4 (0 + N1 + N2) (L ++ M) := h4.fl.chg ccD
  have hL := hL.chg (ccC.trans ccD)
  have hM := hM.chg (ccC.trans ccD)
  have ccw : Chg (fun _ => False) w w5 := c0.trans (ccC.trans ccD)
  obtain ⟨f, hf⟩ : ∃ f : Frm, f = ⟨id, e, false, 0, none, 0, 0⟩ := ⟨_, rfl⟩
  refine ⟨_, hb.cell 0, _, hb.cell 1, _, hb.cell 2, _, hb.cell 3, _, _, _, hb.cell 4, ?_⟩
  refine callQ_chg (first_call hL ⟨id, e, false, 0, none, 0, 0⟩ (by omega) fun w6 cc6 => ⟨cc6, _, _, rfl, ?_⟩)
  have hb := cc6.blk hb (fun h => h)
  refine ⟨_, hb.cell 0, _, hb.cell 1, _, hb.cell 2, _, hb.cell 3, _, _, _, hb.cell 4, ?_⟩
  refine callQ_chg (first_call (hM.chg cc6) ⟨id, e, false, 0, none, 0, 0⟩ (by omega) fun w7 cc7 => ⟨cc7, _, _, rfl, ?_⟩)
  have hb := cc7.blk hb (fun h => h)
  refine ⟨_, hb.cell 0, _, hb.cell 1, _, hb.cell 2, _, hb.cell 3, _, _, _, hb.cell 4, ?_⟩
  refine callQ_chg (first_call (hB.chg (cc6.trans cc7)) ⟨id, e, false, 0, none, 0, 0⟩ (by omega) fun w8 cc8 => ⟨cc8, _, _, rfl, ?_⟩)
  have hb := cc8.blk hb (fun h => h)
  have cc58 := cc6.trans (cc7.trans cc8)
  have hB := hB.chg cc58
  rw [firstI_any, firstI_any, firstI_any, List.any_append]
  have hfa := first_app (lets id e) L M
  have hn1 := first_neg (q := lets id e) (L := L)
  have hn2 := first_neg (q := lets id e) (L := M)
  have hfl : ∀ (X : List Flt), X.any (lets id e) = true → max (firstI (lets id e) X) 0 = firstI (lets id e) X := fun X h => by have := first_neg.2 h; omega
  have lt2 : M.any (lets id e) = true → firstI (lets id e) M < 1000 := fun h => by
    unfold firstI
    cases hi : M.findIdx? (lets id e) with
    | none => simp
    | some i => have := (List.findIdx?_eq_some_iff_getElem.1 hi).1; simp; omega
  refine jn_rule (fun J => J w8) ?_ fun J hJ => ?_
  · refine ⟨_, hb.cell 0, _, hb.cell 1, _, hb.cell 2, _, hb.cell 3, _, _, _, hb.cell 4, ?_⟩
    refine callQ_chg (pass_call hB ⟨id, e, false, 0, none, 0, 0⟩ (by omega) fun w9 cc9 => ⟨cc9, _, rfl, ?_⟩)
    have hb := cc9.blk hb (fun h => h)
    have hend : (∃ n65 : Int, w9.cell? ⟨r24, 0, none⟩ = some (.int .u32 n65) ∧ ∃ b66 : Bool, w9.cell? ⟨r24, 1, none⟩ = some (.bool b66) ∧ ∃ b67 : Bool, w9.cell? ⟨r24, 2, none⟩ = some (.bool b67) ∧ ∃ n68 : Int, w9.cell? ⟨r24, 3, none⟩ = some (.int .u8 n68) ∧ ∃ (p69 : Option Addr) (l70 c71 : Nat), w9.cell? ⟨r24, 4, none⟩ = some (.slice p69 l70 c71) ∧ callQ Try.prog 10 #[(.slice none 0 0), (.agg #[(.int .u32 n65), (.bool b66), (.bool b67), (.int .u8 n68), (.slice p69 l70 c71)])] w9 fun v72 w => ∃ b73 : Bool, v72 = (.bool b73) ∧ br b73
        (callQ Try.prog 12 #[] w fun v74 w => ∃ b75 : Bool, v74 = (.bool b75) ∧ K (.bool b75) w)
        (K (.bool false) w)) := by
      refine ⟨_, hb.cell 0, _, hb.cell 1, _, hb.cell 2, _, hb.cell 3, _, _, _, hb.cell 4, ?_⟩
      refine callQ_chg (pass_call (show FL w9 none 0 [] from ⟨rfl, fun i cs hi => by cases hi⟩) ⟨id, e, false, 0, none, 0, 0⟩ (by omega) fun w10 cc10 => ⟨cc10, _, rfl, ?_⟩)
      rw [show pass ⟨id, e, false, 0, none, 0, 0⟩ [] = true from rfl, br_true]
      exact callQ_chg (awake_call fun w11 cc11 => ⟨cc11, _, rfl, hk w11 (ccw.trans (cc58.trans (cc9.trans (cc10.trans cc11))))⟩)
    have hBl := hB.len
    have hps : pass ⟨id, e, false, 0, none, 0, 0⟩ (L ++ M) = ((L ++ M).isEmpty || (L.any (lets id e) || M.any (lets id e))) := by unfold pass; rw [List.any_append]
    have hem : (L ++ M).isEmpty = (((0 + N1 + N2 : Nat) : Int) == 0) := by
      rw [Bool.eq_iff_iff, beq_iff_eq, List.isEmpty_iff, ← List.length_eq_zero_iff]; omega
    rw [hps]
    refine br_of (fun h => ?_) (fun h => ?_)
    · rw [h, Bool.or_true, show ((true == true) = true) from rfl, br_true]; exact hend
    · rw [h, Bool.or_false, hem, beq_self_eq_true, br_true]; exact hend
  · cases hA : L.any (lets id e) with
    | true =>
      have hx : firstI (lets id e) (L ++ M) = firstI (lets id e) L := by rw [hfa, hA]; rfl
      simp only [Bool.true_or, br_true, beq_self_eq_true, Bool.not_true, br_false, hx, bne_self_eq_false]
      exact hJ
    | false =>
      simp only [Bool.false_or, br_false, beq_self_eq_true, Bool.not_true, Bool.not_false, br_true]
      refine br_of (fun hB2 => ?_) (fun _ => hJ)
      have hx : firstI (lets id e) (L ++ M) = firstI (lets id e) M + L.length := by rw [hfa, hA, hB2]; rfl
      have := hn2.2 hB2
      have := lt2 hB2
      rw [hfl M hB2, wrap64_id (by omega) (by omega), show max (firstI (lets id e) (L ++ M)) 0 = firstI (lets id e) M + (N1 : Int) by omega, bne_self_eq_false, br_false]
      exact hJ
end Go.Proofs.Ytcemgjikmdbjgaa
