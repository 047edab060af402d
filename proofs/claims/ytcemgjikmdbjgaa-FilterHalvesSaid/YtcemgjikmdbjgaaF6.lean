/- Two lists of filters compared; the chapter's examples. -/
import Derived.Test.YtcemgjikmdbjgaaF5
import Derived.Test.YtcemgjikmdbjgaaEql
namespace Go.Proofs.Ytcemgjikmdbjgaa
open Go Go.Sh Go.Flt

theorem flat24 : FlatT Try.prog 24 := ⟨by kernel_rfl, by kernel_rfl, by kernel_rfl, by kernel_rfl⟩
theorem prims24 (x y : Flt) : primsB Try.prog (Try.prog.fieldsOf 24).toList (cellsF x) (cellsF y) = true := by kernel_rfl
theorem allEq24 (x y : Flt) : allEq (cellsF x) (cellsF y) = decide (x = y) := by
  obtain ⟨e, m, t⟩ := x
  obtain ⟨e', m', t'⟩ := y
  unfold cellsF u32
  simp only [allEq, cellEq, eqB]
  rw [Bool.eq_iff_iff]
  simp
theorem eqlF {xo yo : Operand} {x y : Flt} {k : Bool → Prop} (hk : k (decide (x = y))) : eqK Try.prog .eql 24 xo yo (valF x) (valF y) k :=
  eqK_eql flat24 (xs := cellsF x) (ys := cellsF y) (prims24 x y) (by rw [allEq24]; exact hk)
theorem neqF {xo yo : Operand} {x y : Flt} {k : Bool → Prop} (hk : k (!decide (x = y))) : eqK Try.prog .neq 24 xo yo (valF x) (valF y) k :=
  eqK_neq flat24 (xs := cellsF x) (ys := cellsF y) (prims24 x y) (by rw [allEq24]; exact hk)

theorem lists_call {w : World} {p q : Option Addr} {n c m d : Nat} {L M : List Flt} (hL : FL w p n L) (hM : FL w q m M) (hn : n < 9223372036854775807) {K : Value → World → Prop} (hk : ∀ w', Chg (fun _ => False) w w' → K (.bool (decide (L = M))) w') : callV Try.prog 21 #[.slice p n c, .slice q m d] w K := by
  have h1 := hL.len
  have h2 := hM.len
  refine ok21 (br_of (fun h => ?_) (fun h => ?_))
  · have hne : ¬ L = M := by intro e; subst e; rw [← h1, ← h2] at h; simp at h
    rw [show false = decide (L = M) by simp [hne]] at *
    exact hk w (Chg.refl _ _)
  · have hnm : n = m := by simp at h; omega
    subst hnm
    refine ⟨fun r x w' => ∃ i : Nat, x = i ∧ i ≤ n ∧ r = n - i ∧ L.take i = M.take i ∧ Chg (fun _ => False) w w', ⟨n, 0, rfl, by omega, rfl, rfl, Chg.refl _ _⟩, ?_⟩
    rintro r x w1 ⟨i, rfl, hi, hr, he, c1⟩
    refine br_of (fun hlt => ?_) (fun hge => ?_)
    · have hlt : i < n := by have := of_decide_eq_true hlt; omega
      refine dr_abs fun w2 _ c2 => ?_
      have cc := c1.trans c2
      obtain ⟨x, a, hx, hp, _, k0, k1, k2⟩ := (hL.chg cc).get hlt
      obtain ⟨y, b, hy, hq, _, j0, j1, j2⟩ := (hM.chg cc).get hlt
      rw [hp, hq]
      refine ⟨by omega, by omega, ?_⟩
      rw [need_some, Int.toNat_natCast]
      refine ⟨_, k0, _, k1, _, k2, by omega, by omega, ?_⟩
      rw [need_some, Int.toNat_natCast]
      refine ⟨_, j0, _, j1, _, j2, neqF ?_⟩
      by_cases hxy : x = y
      · rw [show (!decide (x = y)) = false by simp [hxy], br_false, wrap64_id (by omega) (by omega)]
        exact ⟨n - (i + 1), by omega, i + 1, by omega, by omega, rfl, by rw [List.take_add_one, List.take_add_one, hx, hy, he, hxy], cc⟩
      · rw [show (!decide (x = y)) = true by simp [hxy], br_true]
        have hne : ¬ L = M := by intro e; subst e; rw [hx] at hy; cases hy; exact hxy rfl
        have := hk w2 cc
        rw [show decide (L = M) = false by simp [hne]] at this; exact this
    · have hge : i = n := by have := of_decide_eq_false hge; omega
      subst hge
      rw [List.take_of_length_le (by omega), List.take_of_length_le (by omega)] at he
      have := hk w1 c1
      rw [show decide (L = M) = true by simp [he]] at this; exact this

theorem nl_blk {w : World} {b : Nat} {xs : List Int} (h : Blk w b (xs.map iu) 22) : NL w (some ⟨b, 0, none⟩) xs.length xs := by
  have := Cam.of_blk (sz := 1) (C := xs.map fun x => [iu x]) (by rw [nl_flat]; exact h) (fun cs hc => by obtain ⟨x, _, rfl⟩ := List.mem_map.1 hc; rfl)
  rw [List.length_map] at this; exact this

theorem strict_ext {l m : List Int} (hl : l.Pairwise (· < ·)) (hm : m.Pairwise (· < ·)) (h : ∀ x, x ∈ l ↔ x ∈ m) : l = m := by
  induction l generalizing m with
  | nil => cases m with
    | nil => rfl
    | cons y m => exact absurd ((h y).2 (by simp)) (by simp)
  | cons x l ih =>
    cases m with
    | nil => exact absurd ((h x).1 (by simp)) (by simp)
    | cons y m =>
      rw [List.pairwise_cons] at hl hm
      have hxy : x = y := by
        have h1 := (h x).1 (by simp)
        have h2 := (h y).2 (by simp)
        rcases List.mem_cons.1 h1 with e | h1
        · exact e
        · rcases List.mem_cons.1 h2 with e | h2
          · exact e.symm
          · have := hl.1 y h2; have := hm.1 x h1; omega
      subst hxy
      congr 1
      refine ih hl.2 hm.2 fun z => ⟨fun hz => ?_, fun hz => ?_⟩
      · rcases List.mem_cons.1 ((h z).1 (by simp [hz])) with e | h1
        · have := hl.1 z hz; omega
        · exact h1
      · rcases List.mem_cons.1 ((h z).2 (by simp [hz])) with e | h1
        · have := hm.1 z hz; omega
        · exact h1

def xF : Flt := ⟨false, 1792#32, 256#32⟩
theorem awake_call {w : World} {K : Value → World → Prop} (hk : ∀ w', Chg (fun _ => False) w w' → K (.bool true) w') : callV Try.prog 12 #[] w K := by
  refine ok12 (al_abs fun r w1 hr hb c1 hs1 => stL_abs hb (by simp) (by simp [Value.oneCell']) fun w2 hb c2 => ?_)
  have hb : Blk w2 r (cellsF xF) 24 := hb
  refine ⟨_, hb.cell 0, _, hb.cell 1, _, hb.cell 2, al_abs fun r5 w3 hr5 h5 c3 hs3 => ?_⟩
  have h5 : FL w3 (some ⟨r5, 0, none⟩) 1 [xF] := FL.of_blk (L := [xF]) (t := 24) h5
  have c03 : Chg (fun _ => False) w w3 := (c1.none.trans ((c2.mono (F' := fun k => w.heap.size ≤ k) fun k _ h => by omega).trans c3.none)).mono fun k hk h => by omega
  have hb := c3.blk hb (fun h => h)
  refine al_abs fun r6 w4 hr6 h6 c4 hs4 => ?_
  have h6 : NL w4 (some ⟨r6, 0, none⟩) 3 [5, 3, 5] := nl_blk h6
  refine callQ_chg (only_call sortOk12 h6 (by simp) (fun h => by cases h) (by omega) (by omega) fun w5 p7 l9 c9 n11 hO c5 => ⟨c5, _, _, _, _, rfl, ?_⟩)
  refine al_abs fun r12 w6 hr12 h12 c6 hs6 => ?_
  have h12 : NL w6 (some ⟨r12, 0, none⟩) 1 [2048] := nl_blk h12
  refine callQ_chg (only_call sortOk12 h12 (by simp) (fun h => by cases h) (by omega) (by omega) fun w7 p14 l15 c15 n17 hO2 c7 => ⟨c7, _, _, _, _, rfl, ?_⟩)
  have h17 : n17 = 2 := by
    obtain ⟨ds, _, _, h | h | h⟩ := hO2
    · exact h.1
    · have := h.2.2.2.2.1 2048 (by simp); simp [top] at this
    · have := h.2.1 2048 (by simp); simp [top] at this
  have hO7 : n11 = 0 ∧ FL w7 p7 l9 [⟨false, 2047#32, 3#32⟩, ⟨false, 2047#32, 5#32⟩] := by
    obtain ⟨ds, hs, hm, h | h | h⟩ := hO
    · obtain ⟨_, _, _, _, d, hd, hlt⟩ := h
      simp [top] at hd hlt; omega
    · have h1 := h.2.2.2.2.2
      have e : ds = [3, 5] := strict_ext hs (by simp) (fun x => by rw [hm]; simp; omega)
      subst e; simp at h1
    · have e : ds = [3, 5] := strict_ext hs (by simp) (fun x => by rw [hm]; simp; omega)
      subst e
      exact ⟨h.1, (h.2.2.2.fl.chg c6).chg c7⟩
  obtain ⟨rfl, h7⟩ := hO7
  subst h17
  have c37 : Chg (fun _ => False) w3 w7 := c4.trans (c5.trans (c6.trans c7))
  have h5 := h5.chg c37
  refine callQ_chg (pass_call h5 ⟨256#32, false, false, 0, none, 0, 0⟩ (by omega) fun w8 c8 => ⟨c8, _, rfl, ?_⟩)
  rw [show pass ⟨256#32, false, false, 0, none, 0, 0⟩ [xF] = true by decide, br_true]
  refine callQ_chg (pass_call (h5.chg c8) ⟨511#32, false, false, 0, none, 0, 0⟩ (by omega) fun w9 c9 => ⟨c9, _, rfl, ?_⟩)
  rw [show pass ⟨511#32, false, false, 0, none, 0, 0⟩ [xF] = true by decide, br_true]
  have c79 := c8.trans c9
  refine callQ_chg (pass_call (h5.chg c79) ⟨512#32, false, false, 0, none, 0, 0⟩ (by omega) fun w10 c10 => ⟨c10, _, rfl, ?_⟩)
  rw [show pass ⟨512#32, false, false, 0, none, 0, 0⟩ [xF] = false by decide, Bool.not_false, br_true]
  have c710 := c79.trans c10
  refine callQ_chg (pass_call (h5.chg c710) ⟨256#32, true, false, 0, none, 0, 0⟩ (by omega) fun w11 c11 => ⟨c11, _, rfl, ?_⟩)
  rw [show pass ⟨256#32, true, false, 0, none, 0, 0⟩ [xF] = false by decide, Bool.not_false, br_true]
  have c711 := c710.trans c11
  have hb := (c37.trans c711).blk hb (fun h => h)
  refine ⟨_, hb.cell 0, _, hb.cell 1, _, hb.cell 2, callQ_chg (covers_call (x := ⟨false, 0#32, 0#32⟩) (y := xF) fun w12 c12 => ⟨c12, _, rfl, ?_⟩)⟩
  rw [show covers ⟨false, 0#32, 0#32⟩ xF = true by decide, br_true]
  have hb := c12.blk hb (fun h => h)
  refine ⟨_, hb.cell 0, _, hb.cell 1, _, hb.cell 2, callQ_chg (covers_call (x := xF) (y := ⟨false, 0#32, 0#32⟩) fun w13 c13 => ⟨c13, _, rfl, ?_⟩)⟩
  rw [show covers xF ⟨false, 0#32, 0#32⟩ = false by decide, Bool.not_false, br_true, show ((0 : Int) == 0) = true from rfl, br_true]
  have c713 := c711.trans (c12.trans c13)
  refine al_abs fun r14 w14 hr14 h14 c14 hs14 => ?_
  have h14 : FL w14 (some ⟨r14, 0, none⟩) 2 [⟨false, 2047#32, 3#32⟩, ⟨false, 2047#32, 5#32⟩] := FL.of_blk (L := [⟨false, 2047#32, 3#32⟩, ⟨false, 2047#32, 5#32⟩]) (t := 24) h14
  refine callQ_chg (lists_call ((h7.chg c713).chg c14) h14 (by have := h7.len; simp at this; omega) fun w15 c15 => ⟨c15, _, rfl, ?_⟩)
  rw [show decide (([⟨false, 2047#32, 3#32⟩, ⟨false, 2047#32, 5#32⟩] : List Flt) = [⟨false, 2047#32, 3#32⟩, ⟨false, 2047#32, 5#32⟩]) = true by decide, br_true, show ((2 : Int) == 2) = true from rfl]
  exact hk w15 (c03.trans (c37.trans (c713.trans (c14.trans c15))))
end Go.Proofs.Ytcemgjikmdbjgaa
