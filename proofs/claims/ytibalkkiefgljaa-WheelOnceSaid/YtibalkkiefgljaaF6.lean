/- Rows compared; the chapter's examples; wheels that are none. -/
import Derived.Test.YtibalkkiefgljaaF5
namespace Go.Proofs.Ytibalkkiefgljaa
open Go Go.Sh

theorem ints_call {w : World} {p q : Option Addr} {n c m d : Nat} {xs ys : List Int} (hx : ON w p n c xs) (hy : ON w q m d ys) (hn : n < 9223372036854775807) {K : Value → World → Prop} (hk : ∀ w', Chg (fun _ => False) w w' → K (.bool (decide (xs = ys))) w') : callQ Try.prog 16 #[.slice p n c, .slice q m d] w K := by
  have h1 := hx.len
  have h2 := hy.len
  refine callQ_chg (ok16 (br_of (fun h => ?_) (fun h => ?_)))
  · have hne : ¬ xs = ys := by intro e; subst e; rw [← h1, ← h2] at h; simp at h
    have := hk w (Chg.refl _ _)
    rw [decide_eq_false hne] at this
    exact ⟨Chg.refl _ _, this⟩
  · have hnm : n = m := by simp at h; omega
    subst hnm
    refine ⟨fun r x w' => ∃ i : Nat, x = i ∧ i ≤ n ∧ r = n - i ∧ xs.take i = ys.take i ∧ Chg (fun _ => False) w w', ⟨n, 0, rfl, by omega, rfl, rfl, Chg.refl _ _⟩, ?_⟩
    rintro r x w1 ⟨i, rfl, hi, hr, he, c1⟩
    refine br_of (fun hlt => ?_) (fun hge => ?_)
    · have hlt : i < n := by have := of_decide_eq_true hlt; omega
      refine dr_abs fun w2 _ c2 => ?_
      have cc := c1.trans c2
      obtain ⟨x, g, o, hxi, hp, k0⟩ := OwnE.get (Own.chg hx cc fun _ _ => id) hlt
      obtain ⟨y, g', o', hyi, hq, j0⟩ := OwnE.get (Own.chg hy cc fun _ _ => id) hlt
      rw [hp, hq]
      refine idx_rule (by omega) (by omega) ⟨x, by rw [Int.toNat_natCast]; exact k0, idx_rule (by omega) (by omega) ⟨y, by rw [Int.toNat_natCast]; exact j0, ?_⟩⟩
      by_cases hxy : x = y
      · rw [show (x != y) = false by simp [hxy], br_false, wrap64_id (by omega) (by omega)]
        exact ⟨n - (i + 1), by omega, i + 1, by omega, by omega, rfl, by rw [List.take_add_one, List.take_add_one, hxi, hyi, he, hxy], cc⟩
      · rw [show (x != y) = true by simp [hxy], br_true]
        have hne : ¬ xs = ys := by intro e; subst e; rw [hxi] at hyi; cases hyi; exact hxy rfl
        have := hk w2 cc
        rw [decide_eq_false hne] at this; exact ⟨cc, this⟩
    · have hge : i = n := by have := of_decide_eq_false hge; omega
      subst hge
      rw [List.take_of_length_le (by omega), List.take_of_length_le (by omega)] at he
      have := hk w1 c1
      rw [decide_eq_true he] at this; exact ⟨c1, this⟩

theorem strict_ext {l m : List Int} (hl : l.Pairwise (· < ·)) (hm : m.Pairwise (· < ·)) (h : ∀ x, x ∈ l ↔ x ∈ m) : l = m := by
  induction l generalizing m with
  | nil => cases m with
    | nil => rfl
    | cons y m => exact absurd ((h y).2 (by simp)) (by simp)
  | cons x l ih =>
    cases m with
    | nil => exact absurd ((h x).1 (by simp)) (by simp)
    | cons y m =>
      rw [List.pairwise_cons] at hl hm
      have hxy : x = y := by
        have h1 := (h x).1 (by simp)
        have h2 := (h y).2 (by simp)
        rcases List.mem_cons.1 h1 with e | h1
        · exact e
        · rcases List.mem_cons.1 h2 with e | h2
          · exact e.symm
          · have := hl.1 y h2; have := hm.1 x h1; omega
      subst hxy
      congr 1
      refine ih hl.2 hm.2 fun z => ⟨fun hz => ?_, fun hz => ?_⟩
      · rcases List.mem_cons.1 ((h z).1 (by simp [hz])) with e | h1
        · have := hl.1 z hz; omega
        · exact h1
      · rcases List.mem_cons.1 ((h z).2 (by simp [hz])) with e | h1
        · have := hm.1 z hz; omega
        · exact h1
theorem mget_cons {V : Type} (a : Int) (v : V) (T : List (Int × V)) (k : Int) : mget ((a, v) :: T) k = if a = k then some v else mget T k := by
  unfold mget
  rw [List.find?_cons]
  by_cases h : a = k <;> simp [h]

theorem Own1 {w : World} {r : Nat} {x : Int} (h : Blk w r [iv x] 3) : ON w (some ⟨r, 0, none⟩) 1 1 [x] := Own.of_blk h rfl (by simp [Value.oneCell'])

theorem awake_call {w : World} {K : Value → World → Prop} (hk : ∀ w', Chg (fun _ => False) w w' → K (.bool true) w') : callQ Try.prog 10 #[] w K := by
  refine callQ_chg (ok10 ?_)
  refine callQ_chg (new_call (S := 4) (m := 2) (by omega) (by omega) (by omega) (by omega) fun w1 h H hS hfp c1 => ⟨c1, _, _, rfl, ?_⟩)
  have base : ∀ {w'}, Chg h.fp w1 w' → Chg (fun _ => False) w w' := fun cc => (c1.none.trans (cc.mono (F' := fun k => w.heap.size ≤ k) fun k _ hk => hfp k hk)).mono fun k hk h => by omega
  rw [show ((0 : Int) != 0) = false from rfl, br_false]
  refine set_call H (by omega) 7 3 (fun h => by omega) (fun _ _ h => by simp at h) fun _ _ w2 H2 c2 => ⟨_, rfl, ?_⟩
  have H2 : Wh w2 h 1 2 0 [(7, 3)] := H2
  refine set_call H2 (by omega) 2 3 (fun h => by omega) (fun _ _ h => by simp at h) fun _ _ w3 H3 c3 => ⟨_, rfl, ?_⟩
  have H3 : Wh w3 h 2 2 0 [(7, 3), (2, 3)] := H3
  refine set_call H3 (by omega) 9 1 (fun h => by omega) (fun _ _ _ w4 c4 => ⟨_, rfl, ?_⟩) fun _ h => absurd h (by decide)
  have H4 := H3.go c4
  refine set_call H4 (by omega) 7 1 (fun h => by omega) (fun _ h => by cases h) fun _ _ w5 H5 c5 => ⟨_, rfl, ?_⟩
  have H5 : Wh w5 h 3 2 0 [(2, 3), (7, 1)] := H5
  refine tick_call H5 (by simp) (by omega) (by simp) fun w6 p6 n6 d6 hs6 hm6 o6 hf6 H6 c6 => ⟨_, _, _, rfl, ?_⟩
  have H6 : Wh w6 h 3 2 1 [(2, 3)] := H6
  have e6 : d6 = [7] := strict_ext hs6 (by simp) fun x => by
    rw [hm6, mget_cons, mget_cons, mget_nil]
    simp
    constructor
    · intro hh; split at hh
      · simp at hh
      · split at hh
        · omega
        · cases hh
    · intro hh; subst hh; simp
  subst e6
  refine callQ_chg (left_call H6 2 fun w7 c7 => ⟨c7, _, _, rfl, ?_⟩)
  have H7 := H6.go c7
  have o7 := Own.chg o6 c7 fun _ _ => id
  refine tick_call H7 (by simp) (by omega) (by simp) fun w8 p8 n8 d8 hs8 hm8 o8 hf8 H8 c8 => ⟨_, _, _, rfl, ?_⟩
  have H8 : Wh w8 h 3 2 2 [(2, 3)] := H8
  have e8 : d8 = [] := strict_ext hs8 (by simp) fun x => by
    rw [hm8, mget_cons, mget_nil]
    simp
  subst e8
  have hn8 : n8 = 0 := by have := o8.len; simp at this; omega
  subst hn8
  refine tick_call H8 (by simp) (by omega) (by simp) fun w9 p9 n9 d9 hs9 hm9 o9 hf9 H9 c9 => ⟨_, _, _, rfl, ?_⟩
  have H9 : Wh w9 h 3 2 3 [] := H9
  have e9 : d9 = [2] := strict_ext hs9 (by simp) fun x => by
    rw [hm9, mget_cons, mget_nil]
    simp
    omega
  subst e9
  refine set_call H9 (by omega) 2 5 (fun h => by omega) (fun _ _ h => by simp at h) fun _ _ w10 H10 c10 => ⟨_, rfl, ?_⟩
  have H10 : Wh w10 h 4 2 3 [(2, 8)] := H10
  have o10 : ON w10 p6 n6 n6 [7] := Own.chg (Own.chg (Own.chg o7 c8 fun k hk hf => by have := hf6 k hk; have := H5.lt hf; omega) c9 fun k hk hf => by have := hf6 k hk; have := H5.lt hf; omega) c10 fun k hk hf => by have := hf6 k hk; have := H5.lt hf; omega
  have q10 : ON w10 p9 n9 n9 [2] := Own.chg o9 c10 fun k hk hf => by have := hf9 k hk; have := H8.lt hf; omega
  simp only [show ((0 : Int) == 0) = true from rfl, show ((5 : Int) == 5) = true from rfl, br_true]
  refine al_abs fun r11 w11 hr11 h11 c11 hs11 => ?_
  refine ints_call (Own.chg o10 c11 fun _ _ => id) (Own1 h11) (by have := o6.len; simp at this; omega) fun w12 c12 => ⟨_, rfl, ?_⟩
  rw [show decide (([7] : List Int) = [7]) = true from rfl, br_true]
  rw [show (mget [((2 : Int), (3 : Int))] 2).isSome = true from rfl, br_true]
  rw [show (leftOf [((2 : Int), (3 : Int))] 1 2 == 2) = true from rfl, br_true]
  rw [show ((((0 : Nat) : Int) : Int) == 0) = true from rfl, br_true]
  refine al_abs fun r13 w13 hr13 h13 c13 hs13 => ?_
  have c1013 := c11.trans (c12.trans c13)
  refine ints_call (Own.chg q10 c1013 fun _ _ => id) (Own1 h13) (by have := o9.len; simp at this; omega) fun w14 c14 => ⟨_, rfl, ?_⟩
  rw [show decide (([2] : List Int) = [2]) = true from rfl, br_true]
  have H14 := H10.go (c1013.trans c14)
  refine callQ_chg (now_call H14 ⟨Chg.refl _ _, _, rfl, ?_⟩)
  rw [show ((3 : Int) == 3) = true from rfl, br_true]
  refine cancel_call H14 2 fun w15 H15 c15 => ⟨_, rfl, ?_⟩
  have H15 : Wh w15 h 4 2 3 [] := H15
  rw [show (mget [((2 : Int), (8 : Int))] 2).isSome = true from rfl, br_true]
  refine cancel_call H15 2 fun w16 H16 c16 => ⟨_, rfl, ?_⟩
  have cc := base (c2.trans (c3.trans (c4.none.trans (c5.trans (c6.trans (c7.none.trans (c8.trans (c9.trans (c10.trans ((c1013.trans c14).none.trans (c15.trans c16)))))))))))
  exact ⟨cc, hk w16 cc⟩

/-! Wheels that are none. -/
theorem non_left {w : World} {p : Option Addr} (h : Non w p) (id : Int) {K : Value → World → Prop} (hk : K (.tuple #[iv 0, .bool false]) w) : callQ Try.prog 18 #[.pointer p, iv id] w K :=
  callQ_chg (ok18 (non_call h ⟨_, rfl, by rw [br_true]; exact ⟨Chg.refl _ _, hk⟩⟩))
theorem non_now {w : World} {p : Option Addr} (h : Non w p) {K : Value → World → Prop} (hk : K (iv 0) w) : callQ Try.prog 20 #[.pointer p] w K :=
  callQ_chg (ok20 (non_call h ⟨_, rfl, by rw [br_true]; exact ⟨Chg.refl _ _, hk⟩⟩))
theorem non_len {w : World} {p : Option Addr} (h : Non w p) {K : Value → World → Prop} (hk : K (iv 0) w) : callQ Try.prog 21 #[.pointer p] w K :=
  callQ_chg (ok21 (non_call h ⟨_, rfl, by rw [br_true]; exact ⟨Chg.refl _ _, hk⟩⟩))
theorem non_set {w : World} {p : Option Addr} (h : Non w p) (id after : Int) {K : Value → World → Prop} (hk : K (iv 1) w) : callV Try.prog 12 #[.pointer p, iv id, iv after] w K :=
  ok12 (non_call h ⟨_, rfl, by rw [br_true]; exact hk⟩)
theorem non_cancel {w : World} {p : Option Addr} (h : Non w p) (id : Int) {K : Value → World → Prop} (hk : K (.bool false) w) : callV Try.prog 14 #[.pointer p, iv id] w K :=
  ok14 (non_call h ⟨_, rfl, by rw [br_true]; exact hk⟩)
theorem non_tick {w : World} {p : Option Addr} (h : Non w p) {K : Value → World → Prop} (hk : ∀ w', Chg (fun _ => False) w w' → K (.slice none 0 0) w') : callV Try.prog 17 #[.pointer p] w K :=
  ok17 (al_abs fun r w1 hr hb c1 hs1 => ⟨_, hb.cell 0, non_call (h.go c1) ⟨_, rfl, by rw [br_true]; exact hk _ c1⟩⟩)
end Go.Proofs.Ytibalkkiefgljaa
