/- The library's sort at uint32: its insertion sort; rows of numbers in memory. -/
import Derived.Test.YtcemgjikmdbjgaaD2
import Derived.Test.YtcemgjikmdbjgaaSl
import Derived.KernelRfl
namespace Go.Proofs.Ytcemgjikmdbjgaa
open Go Go.Sh

abbrev iu (n : Int) : Value := .int .u32 n
/-- The numbers xs lie in block g behind A, ahead of B. -/
def Nums (w : World) (g : Nat) (A : List Value) (xs : List Int) (B : List Value) : Prop := Blk w g (A ++ xs.map iu ++ B) 22
theorem Nums.cell {w : World} {g : Nat} {A B : List Value} {xs : List Int} (h : Nums w g A xs B) {i : Nat} {x : Int} (hx : xs[i]? = some x) : w.cell? ⟨g, A.length + i * 1, none⟩ = some (iu x) := by
  have hi := (List.getElem?_eq_some_iff.1 hx).1
  rw [Blk.cell h, List.append_assoc, List.getElem?_append_right (by omega), List.getElem?_append_left (by simp; omega), List.getElem?_map]
  rw [show A.length + i * 1 - A.length = i by omega, hx]; rfl
theorem lay1 (cs : List Value) (o : Nat) (v : Value) : lay cs o [v] = cs.set o v := rfl
theorem Nums.set {w : World} {g : Nat} {A B : List Value} {xs : List Int} (h : Nums w g A xs B) {i : Nat} (hi : i < xs.length) {v : Int} {k : World → Prop} (hk : ∀ w', Nums w' g A (xs.set i v) B → Chg (fun k => k = g) w w' → k w') : stL w ⟨g, A.length + i * 1, none⟩ 0 [iu v] k := by
  refine stL_abs h (by simp; omega) (by simp [Value.oneCell']) fun w' hb c => hk w' ?_ c
  unfold Nums
  rw [lay1, List.append_assoc, List.set_append_right _ _ (by omega), List.set_append_left _ _ (by simp; omega), ← List.append_assoc] at hb
  rw [show A.length + i * 1 - A.length = i by omega] at hb
  rw [List.map_set]; exact hb
theorem Nums.chg {w w' : World} {g : Nat} {A B : List Value} {xs : List Int} (h : Nums w g A xs B) {F : Nat → Prop} (hc : Chg F w w') (hF : ¬ F g) : Nums w' g A xs B := hc.blk h hF

theorem less_call {w : World} {x y : Int} {K : Value → World → Prop} (hk : K (.bool (decide (x < y))) w) : callV Try.prog 42 #[iu x, iu y] w K := by
  refine ok42 (ok52 ⟨_, rfl, ?_⟩)
  rw [show (x != x) = false by simp, br_false]
  exact hk
theorem idx_any {k : Int → Prop} (s : ByteArray) (hs : s.size = 256) {j : Int} (h0 : 0 ≤ j) (h1 : j < 256) (hk : ∀ n, k n) : idxStr s j k := by
  have : j.toNat < s.size := by omega
  exact ⟨h0, s[j.toNat], by rw [getElem?_pos s _ this], hk _⟩
theorem len64_call {w : World} {x : Int} {K : Value → World → Prop} (hk : ∀ n, K (.int .i64 n) w) : callV Try.prog 35 #[.int .u64 x] w K := by
  refine ok35 (ok46 ?_)
  unfold S46
  refine jn_rule (fun J => ∀ a b, J a b w) (fun a b => ?_) fun J4 h4 => br_of (fun _ => h4 _ _) (fun _ => h4 _ _)
  refine jn_rule (fun J => ∀ a b, J a b w) (fun a b => ?_) fun J4 h4 => br_of (fun _ => h4 _ _) (fun _ => h4 _ _)
  refine jn_rule (fun J => ∀ a b, J a b w) (fun a b => ?_) fun J4 h4 => br_of (fun _ => h4 _ _) (fun _ => h4 _ _)
  have hw : 0 ≤ IntKind.wrap .u8 a ∧ IntKind.wrap .u8 a < 256 := by unfold IntKind.wrap IntKind.bits IntKind.signed; simp; omega
  exact idx_any _ (by kernel_rfl) hw.1 hw.2 fun n => ⟨_, rfl, hk _⟩

/-- a to b of xs is sorted now: ys. -/
structure Srt (a b : Nat) (xs ys : List Int) : Prop where
  eq : ∃ m : List Int, ys = xs.take a ++ m ++ xs.drop b ∧ m.Perm ((xs.take b).drop a) ∧ m.Pairwise (· ≤ ·)

theorem set_mid {α : Type} (P : List α) (x v : α) (Q : List α) : (P ++ x :: Q).set P.length v = P ++ v :: Q := by simp
theorem get_mid {α : Type} (P : List α) (x : α) (Q : List α) : (P ++ x :: Q)[P.length]? = some x := by simp

/-- At the head of the outer round: what lies from a to i is sorted. -/
structure InsJ (w : World) (g : Nat) (A B : List Value) (xs : List Int) (a b i : Nat) (w' : World) : Prop where
  ai : a ≤ i
  ib : i ≤ b ∨ i = a + 1
  ex : ∃ M : List Int, Nums w' g A (xs.take a ++ M ++ xs.drop (min i b)) B ∧ M.Perm ((xs.take (min i b)).drop a) ∧ M.Pairwise (· ≤ ·)
  chg : Chg (fun k => k = g) w w'

theorem ins_call {w : World} {g n c : Nat} {A B : List Value} {xs : List Int} (h : Nums w g A xs B) (hn : n = xs.length) (hbig : n < 4611686018427387904) {a b : Nat} (hab : a ≤ b) (hb : b ≤ n) {K : Value → World → Prop}
    (hk : ∀ w' ys, Nums w' g A ys B → Srt a b xs ys → Chg (fun k => k = g) w w' → K (.tuple #[]) w') : callV Try.prog 36 #[.slice (some ⟨g, A.length, none⟩) n c, .int .i64 a, .int .i64 b] w K := by
  refine ok36 ?_
  unfold S36
  rw [wrap64_id (by omega) (by omega)]
  refine ⟨fun m x w' => ∃ i : Nat, x = i ∧ m = b + 1 - i ∧ InsJ w g A B xs a b i w', ?_, ?_⟩
  · refine ⟨b + 1 - (a + 1), a + 1, by omega, rfl, by omega, .inr rfl, ⟨(xs.take (min (a + 1) b)).drop a, ?_, List.Perm.refl _, ?_⟩, Chg.refl _ _⟩
    · have : xs.take a ++ (xs.take (min (a + 1) b)).drop a ++ xs.drop (min (a + 1) b) = xs := by
        have e : xs.take a = (xs.take (min (a + 1) b)).take a := by rw [List.take_take]; congr 1; omega
        rw [e, List.take_append_drop, List.take_append_drop]
      rw [this]; exact h
    · have : ((xs.take (min (a + 1) b)).drop a).length ≤ 1 := by simp; omega
      match hm : (xs.take (min (a + 1) b)).drop a, this with
      | [], _ => exact List.Pairwise.nil
      | [x], _ => exact List.pairwise_singleton _ _
  · rintro m x w1 ⟨i, rfl, hm, hai, hib, ⟨M, hN, hMp, hMs⟩, hc⟩
    refine br_of (fun hlt => ?_) (fun hge => ?_)
    · have hlt : i < b := by have := of_decide_eq_true hlt; omega
      have ei : min i b = i := by omega
      rw [ei] at hN hMp
      have hML : M.length = i - a := by rw [hMp.length_eq]; simp; omega
      -- the element that comes in
      obtain ⟨x, hx⟩ : ∃ x, xs[i]? = some x := ⟨xs[i], List.getElem?_eq_getElem (by omega)⟩
      have hdrop : xs.drop i = x :: xs.drop (i + 1) := by
        rw [List.drop_eq_getElem_cons (by omega)]; congr 1
        have := List.getElem?_eq_getElem (l := xs) (i := i) (by omega); rw [hx] at this; exact (Option.some.inj this).symm
      have hta : (xs.take a).length = a := by simp; omega
      refine ⟨fun m j w' => ∃ (L R : List Int), j = ((a + L.length : Nat) : Int) ∧ m = L.length ∧ Nums w' g A (xs.take a ++ L ++ x :: R ++ xs.drop (i + 1)) B ∧ (L ++ R) = M ∧ (∀ r ∈ R, x ≤ r) ∧ Chg (fun k => k = g) w w', ?_, ?_⟩
      · refine ⟨M.length, M, [], by omega, rfl, ?_, by simp, by simp, hc⟩
        rw [hdrop] at hN
        simpa using hN
      · rintro m' j w2 ⟨L, R, rfl, hm2, hN2, hLR, hR, hc2⟩
        have hlen : L.length + R.length = i - a := by rw [← hML, ← hLR]; simp
        refine dr_abs fun w3 _ c3 => ?_
        have hN3 := hN2.chg c3 id
        have cc3 := hc2.trans c3.none
        have fin : ∀ w4, Nums w4 g A (xs.take a ++ L ++ x :: R ++ xs.drop (i + 1)) B → (∀ l ∈ L, l ≤ x) → Chg (fun k => k = g) w w4 → ∃ m0, m0 < m ∧ ∃ i' : Nat, IntKind.wrap .i64 ((i : Int) + 1) = i' ∧ m0 = b + 1 - i' ∧ InsJ w g A B xs a b i' w4 := fun w4 hN4 hL c4 => by
          refine ⟨b + 1 - (i + 1), by omega, i + 1, by rw [wrap64_id (by omega) (by omega)]; omega, rfl, by omega, .inl (by omega), ⟨L ++ x :: R, ?_, ?_, ?_⟩, c4⟩
          · rw [show min (i + 1) b = i + 1 by omega]; simpa using hN4
          · rw [show min (i + 1) b = i + 1 by omega]
            have e1 : (xs.take (i + 1)).drop a = (xs.take i).drop a ++ [x] := by
              rw [List.take_add_one, hx, List.drop_append_of_le_length (by simp; omega)]; rfl
            rw [e1]
            refine (List.perm_middle.trans ?_).trans (List.perm_append_singleton x _).symm
            rw [hLR]; exact hMp.cons x
          · rw [← hLR] at hMs
            rw [List.pairwise_append] at hMs ⊢
            refine ⟨hMs.1, List.pairwise_cons.2 ⟨hR, hMs.2.1⟩, fun l hl r hr => ?_⟩
            rcases List.mem_cons.1 hr with rfl | hr
            · exact hL l hl
            · exact hMs.2.2 l hl r hr
        have hxs : (xs.take a ++ L ++ x :: R ++ xs.drop (i + 1)) = (xs.take a ++ L) ++ x :: (R ++ xs.drop (i + 1)) := by simp
        have htot : (xs.take a ++ L ++ x :: R ++ xs.drop (i + 1)).length = n := by simp; omega
        refine br_of (fun hgt => ?_) (fun hle => ?_)
        · have hgt : 0 < L.length := by have := of_decide_eq_true hgt; omega
          obtain ⟨L', y, rfl⟩ : ∃ L' y, L = L' ++ [y] := ⟨L.dropLast, L.getLast (by intro h0; rw [h0] at hgt; simp at hgt), (List.dropLast_concat_getLast _).symm⟩
          rw [List.length_append] at hlen hgt
          simp only [List.length_append, List.length_cons, List.length_nil, Nat.zero_add] at hlen hgt ⊢ hm2
          have hxs2 : (xs.take a ++ (L' ++ [y]) ++ x :: R ++ xs.drop (i + 1)) = (xs.take a ++ L') ++ y :: (x :: (R ++ xs.drop (i + 1))) := by simp
          have g1 : (xs.take a ++ (L' ++ [y]) ++ x :: R ++ xs.drop (i + 1))[a + (L'.length + 1)]? = some x := by
            rw [hxs]
            have := get_mid (xs.take a ++ (L' ++ [y])) x (R ++ xs.drop (i + 1))
            rw [show (xs.take a ++ (L' ++ [y])).length = a + (L'.length + 1) by simp; omega] at this
            exact this
          have g2 : (xs.take a ++ (L' ++ [y]) ++ x :: R ++ xs.drop (i + 1))[a + L'.length]? = some y := by
            rw [hxs2]
            have := get_mid (xs.take a ++ L') y (x :: (R ++ xs.drop (i + 1)))
            rw [show (xs.take a ++ L').length = a + L'.length by simp; omega] at this
            exact this
          have e1 : IntKind.wrap .i64 (((a + (L'.length + 1) : Nat) : Int) - 1) = ((a + L'.length : Nat) : Int) := by rw [wrap64_id (by omega) (by omega)]; omega
          rw [e1]
          refine idx_rule (by omega) (by omega) ?_
          rw [Int.toNat_natCast]
          refine ⟨x, hN3.cell g1, idx_rule (by omega) (by omega) ?_⟩
          rw [Int.toNat_natCast]
          refine ⟨y, hN3.cell g2, less_call ⟨_, rfl, ?_⟩⟩
          refine br_of (fun hlt2 => ?_) (fun hge2 => ?_)
          · have hxy : x < y := of_decide_eq_true hlt2
            refine dr_abs fun w5 _ c5 => ?_
            have hN5 := hN3.chg c5 id
            refine idx_rule (by omega) (by omega) ?_
            rw [Int.toNat_natCast]
            refine ⟨y, hN5.cell g2, idx_rule (by omega) (by omega) ?_⟩
            rw [Int.toNat_natCast]
            refine ⟨x, hN5.cell g1, idx_rule (by omega) (by omega) ?_⟩
            rw [Int.toNat_natCast]
            refine hN5.set (by omega) fun w6 hN6 c6 => idx_rule (by omega) (by omega) ?_
            rw [Int.toNat_natCast]
            refine hN6.set (by rw [List.length_set]; omega) fun w7 hN7 c7 => ?_
            have e2 : ((xs.take a ++ (L' ++ [y]) ++ x :: R ++ xs.drop (i + 1)).set (a + (L'.length + 1)) y).set (a + L'.length) x = xs.take a ++ L' ++ x :: (y :: R) ++ xs.drop (i + 1) := by
              have := set_mid (xs.take a ++ (L' ++ [y])) x y (R ++ xs.drop (i + 1))
              rw [show (xs.take a ++ (L' ++ [y])).length = a + (L'.length + 1) by simp; omega] at this
              rw [hxs, this]
              have := set_mid (xs.take a ++ L') y x (y :: (R ++ xs.drop (i + 1)))
              rw [show (xs.take a ++ L').length = a + L'.length by simp; omega] at this
              rw [show xs.take a ++ (L' ++ [y]) ++ y :: (R ++ xs.drop (i + 1)) = xs.take a ++ L' ++ y :: (y :: (R ++ xs.drop (i + 1))) by simp, this]
              simp
            rw [e2] at hN7
            refine ⟨L'.length, by omega, L', y :: R, rfl, rfl, hN7, by rw [← hLR]; simp, fun r hr => ?_, cc3.trans (c5.none.trans (c6.trans c7))⟩
            rcases List.mem_cons.1 hr with rfl | hr
            · omega
            · exact hR r hr
          · have hxy : y ≤ x := by have := of_decide_eq_false hge2; omega
            refine fin w3 hN3 (fun l hl => ?_) cc3
            rcases List.mem_append.1 hl with hl | hl
            · have : l ≤ y := by
                rw [← hLR, List.append_assoc, List.pairwise_append] at hMs
                exact hMs.2.2 l hl y (by simp)
              omega
            · simp at hl; omega
        · have hle : L.length = 0 := by have := of_decide_eq_false hle; omega
          have := List.eq_nil_of_length_eq_zero hle
          subst this
          exact fin w3 hN3 (fun l hl => by cases hl) cc3
    · have hge : b ≤ i := by have := of_decide_eq_false hge; omega
      have ei : min i b = b := by omega
      rw [ei] at hN hMp
      exact hk w1 _ hN ⟨M, rfl, hMp, hMs⟩ hc

theorem sort_small {w : World} {g n c : Nat} {A B : List Value} {xs : List Int} (h : Nums w g A xs B) (hn : n = xs.length) (h12 : n ≤ 12) {K : Value → World → Prop}
    (hk : ∀ w' ys, Nums w' g A ys B → ys.Perm xs → ys.Pairwise (· ≤ ·) → Chg (fun k => k = g) w w' → K (.tuple #[]) w') : callV Try.prog 32 #[.slice (some ⟨g, A.length, none⟩) n c] w K := by
  refine ok32 (len64_call fun z => ⟨_, rfl, ok34 ?_⟩)
  refine ⟨fun m x10 x11 x12 x13 x14 w' => x10 = 0 ∧ x11 = n ∧ w' = w, ⟨0, rfl, rfl, rfl⟩, ?_⟩
  rintro m x10 x11 x12 x13 x14 w' ⟨rfl, rfl, rfl⟩
  unfold B34_0
  rw [wrap64_id (by omega) (by omega), show decide (((n : Int) - 0) ≤ 12) = true by simp; omega, br_true]
  refine ins_call (a := 0) h hn (by omega) (by omega) (Nat.le_refl _) fun w' ys hN hS c => ⟨rfl, rfl, ?_⟩
  obtain ⟨m, rfl, hp, hs⟩ := hS.eq
  refine hk w' _ hN ?_ ?_ c
  · rw [hn] at hp ⊢; simpa using hp
  · rw [hn]; simpa using hs
end Go.Proofs.Ytcemgjikmdbjgaa
