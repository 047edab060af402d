/- The formulas of the functions 6, 7 of this seat, written by a program of my own (dec.py), each with its proof. -/
import Derived.Test.YtibalkkiefgljaaProg
import Derived.Test.YtibalkkiefgljaaSh
import Derived.KernelRfl
namespace Go.Proofs.Ytibalkkiefgljaa
open Go Go.Sh
set_option linter.unusedVariables false
set_option maxRecDepth 100000
def B6_0 (x9 : Int) (x10 : Int) (x11 : Option Addr) (x12 : Int) (x13 : Int) (w : World) (N : Int → World → Prop) (X0 : World → Prop) (K : Value → World → Prop) : Prop :=
  br (decide ((x13 : Int) < x12))
  (callV Try.prog 17 #[(.pointer x11)] w fun v14 w => ∃ (p15 : Option Addr) (l16 c17 : Nat), v14 = (.slice p15 l16 c17) ∧ br (!((((l16 : Int) : Int) == 1) == (((IntKind.wrap .i64 (x13 + 1)) : Int) == x9)))
  (K (.bool false) w)
  (N (IntKind.wrap .i64 (x13 + 1)) w))
  (X0 w)
/-- The loop in block 0 of function 6: by what holds at its head. -/
def LS6_0 (x9 : Int) (x10 : Int) (x11 : Option Addr) (x12 : Int) (x13 : Int) (w : World) (X0 : World → Prop) (K : Value → World → Prop) : Prop :=
  ∃ J : Nat → Int → World → Prop, (∃ n, J n x13 w) ∧ ∀ n x13 w, J n x13 w → B6_0 x9 x10 x11 x12 x13 w (fun x13 w => ∃ m, m < n ∧ J m x13 w) X0 K
abbrev env6_0 (x9 : Int) (x10 : Int) (x11 : Option Addr) (x12 : Int) (x13 : Int) : Env := [(7, (.int .i64 x9)), (8, (.int .i64 x10)), (9, (.pointer x11)), (37, (.int .i64 x12)), (38, (.int .i64 x13))]
def Kt6_0 (N : Int → World → Prop) (X0 : World → Prop) (K : Value → World → Prop) : Kont := fun e E w => match e with
  | .normal => gI .i64 E 38 fun x13 => N x13 w
  | .exit j => match Nat.beq j 0 with | true => (X0 w) | false => (False)
  | .ret => retG Try.prog Try.f6.results.toList K .ret E w
  | _ => False
def HL6_0 (F : Value → World → Prop) (K : Kont) (E : Env) (w : World) : Prop := match keep [7, 8, 9, 37, 38] E with
  | [(7, (.int .i64 x9)), (8, (.int .i64 x10)), (9, (.pointer x11)), (37, (.int .i64 x12)), (38, (.int .i64 x13))] => LS6_0 x9 x10 x11 x12 x13 w (fun w => K (.exit 0) [(7, (.int .i64 x9)), (8, (.int .i64 x10)), (9, (.pointer x11))] w) F
  | _ => False
def H6 (F : Value → World → Prop) : Nat → Kont → Env → World → Prop := fun b K E w => match Nat.beq b 0 with | true => HL6_0 F K E w | false => (False)
theorem Beq6_0 (x9 : Int) (x10 : Int) (x11 : Option Addr) (x12 : Int) (x13 : Int) (w : World) (N : Int → World → Prop) (X0 : World → Prop) (K : Value → World → Prop) :
    G Try.prog [9, 10, 11, 13, 15, 16, 18, 19, 20, 21, 22, 23, 24] 101 [0, 1, 2, 6, 7, 8, 9, 10, 11, 12, 13, 14, 36, 37, 38, 39, 50, 71, 88] (H6 K) 0 (loopOf 0 Try.f6) (Kt6_0 N X0 K) (env6_0 x9 x10 x11 x12 x13) w = B6_0 x9 x10 x11 x12 x13 w N X0 K := by kernel_rfl
theorem lok6_0 (F : Value → World → Prop) : LoopOk Try.prog 101 Try.f6.results.toList F (H6 F) 0 (.loop (loopOf 0 Try.f6)) := by
  intro K E a w Q hr h hs hq
  have hs0 := hs.keep [7, 8, 9, 37, 38]
  have h1 : HL6_0 F K E w := h
  unfold HL6_0 at h1
  split at h1
  · rename_i x9 x10 x11 x12 x13 heq
    obtain ⟨J, ⟨n, hJ⟩, hround⟩ := h1
    rw [heq] at hs0
    refine loop_typed (qs := [9, 10, 11, 13, 15, 16, 18, 19, 20, 21, 22, 23, 24]) (L := [0, 1, 2, 6, 7, 8, 9, 10, 11, 12, 13, 14, 36, 37, 38, 39, 50, 71, 88]) (rs := Try.f6.results.toList) (F := F) (H := H6 F) (b := 0) (by kernel_rfl) (allL (show loops [9, 10, 11, 13, 15, 16, 18, 19, 20, 21, 22, 23, 24] 0 (loopOf 0 Try.f6) = [] by kernel_rfl) True.intro) (σ := Int) (fun s => env6_0 x9 x10 x11 x12 s) (fun n s w => J n s w)
      (fun n => Kt6_0 (fun x13 w => ∃ m, m < n ∧ J m x13 w) (fun w => K (.exit 0) [(7, (.int .i64 x9)), (8, (.int .i64 x10)), (9, (.pointer x11))] w) F) (fun _ _ _ h => h) ?_ ?_ a ?_ n x13 a w hJ (Fr.refl _ _) hs0
    · intro n s w hJ
      exact Eq.mpr (Beq6_0 x9 x10 x11 x12 s w _ _ F) (hround n s w hJ)
    · intro n s E' w' h
      obtain ⟨x13, e38, h⟩ := gI_get h
      obtain ⟨m, hm, hJ⟩ := h
      exact ⟨m, x13, hm, hJ, ⟨.inl ⟨by kernel_rfl, rfl⟩, .inl ⟨by kernel_rfl, rfl⟩, .inl ⟨by kernel_rfl, rfl⟩, .inl ⟨by kernel_rfl, rfl⟩, .inr e38, True.intro⟩⟩
    · intro n s a1 e E' a' w' he hs1 hf0 hf1 hs' h
      cases e with
      | normal => exact (he rfl).elim
      | exit j =>
        dsimp only [Kt6_0] at h
        cases hb : Nat.beq j 0
        case' true =>
          rw [hb] at h
          have hj := Nat.eq_of_beq_eq_true hb
          subst hj
          dsimp only at h
          exact hq _ _ _ _ (hs1.next hf1 hs' (E2 := [(7, (.int .i64 x9)), (8, (.int .i64 x10)), (9, (.pointer x11))]) ⟨.inl ⟨by kernel_rfl, rfl⟩, .inl ⟨by kernel_rfl, rfl⟩, .inl ⟨by kernel_rfl, rfl⟩, True.intro⟩) hf0 h
        rw [hb] at h
        dsimp only at h
        all_goals exact h.elim
      | ret => exact hq _ _ _ _ hs' hf0 (hr _ _ h)
      | _ => exact h.elim
  · exact h1.elim
/-- jackstay/jackstaylaw13.WheelFar -/
def S6 (x1 : Int) (x2 : Int) (x3 : Int) (w : World) (K : Value → World → Prop) : Prop :=
  callQ Try.prog 9 #[(.int .i64 (IntKind.wrap .i64 (1 + (IntKind.wrap .i64 x3)))), (.int .i64 1)] w fun v4 w => ∃ p5 : Option Addr, ∃ n6 : Int, v4 = (.tuple #[(.pointer p5), (.int .i64 n6)]) ∧ br ((n6 : Int) != 0)
  (K (.bool false) w)
  (callV Try.prog 12 #[(.pointer p5), (.int .i64 3), (.int .i64 (IntKind.wrap .i64 (1 + (IntKind.wrap .i64 (Int.tmod x1 1099511627776)))))] w fun v7 w => ∃ n8 : Int, v7 = (.int .i64 n8) ∧ br ((n8 : Int) != 0)
  (K (.bool false) w)
  (LS6_0 (IntKind.wrap .i64 (1 + (IntKind.wrap .i64 (Int.tmod x1 1099511627776)))) (IntKind.wrap .i64 (Int.tmod x2 200)) p5 (IntKind.wrap .i64 (Int.tmod x2 200)) 0 w
  (fun w => callQ Try.prog 18 #[(.pointer p5), (.int .i64 3)] w fun v18 w => ∃ n19 : Int, ∃ b20 : Bool, v18 = (.tuple #[(.int .i64 n19), (.bool b20)]) ∧ jn (fun (w : World) =>
  jn (fun (w : World) =>
  callV Try.prog 17 #[(.pointer p5)] w fun v35 w => ∃ (p36 : Option Addr) (l37 c38 : Nat), v35 = (.slice p36 l37 c38) ∧ al w (.cells #[(.int .i64 3)] 3) fun r39 w => callQ Try.prog 16 #[(.slice p36 l37 c38), (.slice (some ⟨r39, 0, none⟩) 1 1)] w fun v40 w => ∃ b41 : Bool, v40 = (.bool b41) ∧ br b41
  (callQ Try.prog 21 #[(.pointer p5)] w fun v42 w => ∃ n43 : Int, v42 = (.int .i64 n43) ∧ br ((n43 : Int) == 0)
  (callQ Try.prog 10 #[] w fun v44 w => ∃ b45 : Bool, v44 = (.bool b45) ∧ K (.bool b45) w)
  (K (.bool false) w))
  (K (.bool false) w)) fun J34 =>
  callV Try.prog 12 #[(.pointer p5), (.int .i64 3), (.int .i64 2)] w fun v22 w => ∃ n23 : Int, v22 = (.int .i64 n23) ∧ br ((n23 : Int) != 0)
  (K (.bool false) w)
  (br b20
  (callV Try.prog 12 #[(.pointer p5), (.int .i64 4), (.int .i64 2)] w fun v24 w => ∃ n25 : Int, v24 = (.int .i64 n25) ∧ br ((n25 : Int) != 5)
  (K (.bool false) w)
  (callV Try.prog 17 #[(.pointer p5)] w fun v26 w => ∃ (p27 : Option Addr) (l28 c29 : Nat), v26 = (.slice p27 l28 c29) ∧ br (((l28 : Int) : Int) != 0)
  (K (.bool false) w)
  (J34 w)))
  (callV Try.prog 17 #[(.pointer p5)] w fun v30 w => ∃ (p31 : Option Addr) (l32 c33 : Nat), v30 = (.slice p31 l32 c33) ∧ br (((l32 : Int) : Int) != 0)
  (K (.bool false) w)
  (J34 w)))) fun J21 =>
  br (!(b20 == (decide (((IntKind.wrap .i64 (Int.tmod x2 200)) : Int) < (IntKind.wrap .i64 (1 + (IntKind.wrap .i64 (Int.tmod x1 1099511627776))))))))
  (K (.bool false) w)
  (br b20
  (br ((n19 : Int) != (IntKind.wrap .i64 ((IntKind.wrap .i64 (1 + (IntKind.wrap .i64 (Int.tmod x1 1099511627776)))) - (IntKind.wrap .i64 (Int.tmod x2 200)))))
  (K (.bool false) w)
  (J21 w))
  (J21 w))) K))
theorem eq6 (x1 : Int) (x2 : Int) (x3 : Int) (w : World) (K : Value → World → Prop) : G Try.prog [9, 10, 11, 13, 15, 16, 18, 19, 20, 21, 22, 23, 24] 101 [0, 1, 2, 6, 7, 8, 9, 10, 11, 12, 13, 14, 36, 37, 38, 39, 50, 71, 88] (H6 K) 0 (bodyOf Try.f6) (retG Try.prog Try.f6.results.toList K) (env0 0 [(.int .u64 x1), (.int .u8 x2), (.int .u8 x3)]) w = S6 x1 x2 x3 w K := by kernel_rfl
theorem ok6 {x1 : Int} {x2 : Int} {x3 : Int} {w : World} {K : Value → World → Prop} (h : S6 x1 x2 x3 w K) : callV Try.prog 6 #[(.int .u64 x1), (.int .u8 x2), (.int .u8 x3)] w K :=
  call_sound (qs := [9, 10, 11, 13, 15, 16, 18, 19, 20, 21, 22, 23, 24]) (args := [(.int .u64 x1), (.int .u8 x2), (.int .u8 x3)]) (by kernel_rfl) (Try.func6) (c := bodyOf Try.f6) (by kernel_rfl) (by kernel_rfl) (allL (show loops [9, 10, 11, 13, 15, 16, 18, 19, 20, 21, 22, 23, 24] 0 (bodyOf Try.f6) = [(0, .loop (loopOf 0 Try.f6))] by kernel_rfl) ⟨lok6_0 K, True.intro⟩) (Eq.mpr (eq6 x1 x2 x3 w K) h)
def B7_0 (x5 : Int) (x6 : Int) (x7 : Option Addr) (l8 : Nat) (c9 : Nat) (x10 : Int) (x11 : Int) (w : World) (N : Int → World → Prop) (X0 : World → Prop) (K : Value → World → Prop) : Prop :=
  br (decide ((x11 : Int) < x10))
  (idx x7 l8 1 x11 fun a12 => ∃ p13 : Option Addr, w.cell? a12 = some (.pointer p13) ∧ callQ Try.prog 18 #[(.pointer p13), (.int .i64 x5)] w fun v14 w => ∃ n15 : Int, ∃ b16 : Bool, v14 = (.tuple #[(.int .i64 n15), (.bool b16)]) ∧ callV Try.prog 12 #[(.pointer p13), (.int .i64 x5), (.int .i64 x6)] w fun v17 w => ∃ n18 : Int, v17 = (.int .i64 n18) ∧ br ((n18 : Int) != 1)
  (K (.bool false) w)
  (callV Try.prog 14 #[(.pointer p13), (.int .i64 x5)] w fun v19 w => ∃ b20 : Bool, v19 = (.bool b20) ∧ br b20
  (K (.bool false) w)
  (br ((n15 : Int) != 0)
  (K (.bool false) w)
  (br b16
  (K (.bool false) w)
  (callV Try.prog 17 #[(.pointer p13)] w fun v21 w => ∃ (p22 : Option Addr) (l23 c24 : Nat), v21 = (.slice p22 l23 c24) ∧ br (((l23 : Int) : Int) != 0)
  (K (.bool false) w)
  (callQ Try.prog 20 #[(.pointer p13)] w fun v25 w => ∃ n26 : Int, v25 = (.int .i64 n26) ∧ br ((n26 : Int) != 0)
  (K (.bool false) w)
  (callQ Try.prog 21 #[(.pointer p13)] w fun v27 w => ∃ n28 : Int, v27 = (.int .i64 n28) ∧ br ((n28 : Int) != 0)
  (K (.bool false) w)
  (N (IntKind.wrap .i64 (x11 + 1)) w))))))))
  (X0 w)
/-- The loop in block 0 of function 7: by what holds at its head. -/
def LS7_0 (x5 : Int) (x6 : Int) (x7 : Option Addr) (l8 : Nat) (c9 : Nat) (x10 : Int) (x11 : Int) (w : World) (X0 : World → Prop) (K : Value → World → Prop) : Prop :=
  ∃ J : Nat → Int → World → Prop, (∃ n, J n x11 w) ∧ ∀ n x11 w, J n x11 w → B7_0 x5 x6 x7 l8 c9 x10 x11 w (fun x11 w => ∃ m, m < n ∧ J m x11 w) X0 K
abbrev env7_0 (x5 : Int) (x6 : Int) (x7 : Option Addr) (l8 : Nat) (c9 : Nat) (x10 : Int) (x11 : Int) : Env := [(0, (.int .i64 x5)), (1, (.int .i64 x6)), (11, (.slice x7 l8 c9)), (12, (.int .i64 x10)), (13, (.int .i64 x11))]
def Kt7_0 (N : Int → World → Prop) (X0 : World → Prop) (K : Value → World → Prop) : Kont := fun e E w => match e with
  | .normal => gI .i64 E 13 fun x11 => N x11 w
  | .exit j => match Nat.beq j 0 with | true => (X0 w) | false => (False)
  | .ret => retG Try.prog Try.f7.results.toList K .ret E w
  | _ => False
def HL7_0 (F : Value → World → Prop) (K : Kont) (E : Env) (w : World) : Prop := match keep [0, 1, 11, 12, 13] E with
  | [(0, (.int .i64 x5)), (1, (.int .i64 x6)), (11, (.slice x7 l8 c9)), (12, (.int .i64 x10)), (13, (.int .i64 x11))] => LS7_0 x5 x6 x7 l8 c9 x10 x11 w (fun w => K (.exit 0) [] w) F
  | _ => False
def H7 (F : Value → World → Prop) : Nat → Kont → Env → World → Prop := fun b K E w => match Nat.beq b 0 with | true => HL7_0 F K E w | false => (False)
theorem Beq7_0 (x5 : Int) (x6 : Int) (x7 : Option Addr) (l8 : Nat) (c9 : Nat) (x10 : Int) (x11 : Int) (w : World) (N : Int → World → Prop) (X0 : World → Prop) (K : Value → World → Prop) :
    G Try.prog [9, 10, 11, 13, 15, 16, 18, 19, 20, 21, 22, 23, 24] 58 [0, 1, 4, 6, 7, 8, 11, 12, 13, 14, 55] (H7 K) 0 (loopOf 0 Try.f7) (Kt7_0 N X0 K) (env7_0 x5 x6 x7 l8 c9 x10 x11) w = B7_0 x5 x6 x7 l8 c9 x10 x11 w N X0 K := by kernel_rfl
theorem lok7_0 (F : Value → World → Prop) : LoopOk Try.prog 58 Try.f7.results.toList F (H7 F) 0 (.loop (loopOf 0 Try.f7)) := by
  intro K E a w Q hr h hs hq
  have hs0 := hs.keep [0, 1, 11, 12, 13]
  have h1 : HL7_0 F K E w := h
  unfold HL7_0 at h1
  split at h1
  · rename_i x5 x6 x7 l8 c9 x10 x11 heq
    obtain ⟨J, ⟨n, hJ⟩, hround⟩ := h1
    rw [heq] at hs0
    refine loop_typed (qs := [9, 10, 11, 13, 15, 16, 18, 19, 20, 21, 22, 23, 24]) (L := [0, 1, 4, 6, 7, 8, 11, 12, 13, 14, 55]) (rs := Try.f7.results.toList) (F := F) (H := H7 F) (b := 0) (by kernel_rfl) (allL (show loops [9, 10, 11, 13, 15, 16, 18, 19, 20, 21, 22, 23, 24] 0 (loopOf 0 Try.f7) = [] by kernel_rfl) True.intro) (σ := Int) (fun s => env7_0 x5 x6 x7 l8 c9 x10 s) (fun n s w => J n s w)
      (fun n => Kt7_0 (fun x11 w => ∃ m, m < n ∧ J m x11 w) (fun w => K (.exit 0) [] w) F) (fun _ _ _ h => h) ?_ ?_ a ?_ n x11 a w hJ (Fr.refl _ _) hs0
    · intro n s w hJ
      exact Eq.mpr (Beq7_0 x5 x6 x7 l8 c9 x10 s w _ _ F) (hround n s w hJ)
    · intro n s E' w' h
      obtain ⟨x11, e13, h⟩ := gI_get h
      obtain ⟨m, hm, hJ⟩ := h
      exact ⟨m, x11, hm, hJ, ⟨.inl ⟨by kernel_rfl, rfl⟩, .inl ⟨by kernel_rfl, rfl⟩, .inl ⟨by kernel_rfl, rfl⟩, .inl ⟨by kernel_rfl, rfl⟩, .inr e13, True.intro⟩⟩
    · intro n s a1 e E' a' w' he hs1 hf0 hf1 hs' h
      cases e with
      | normal => exact (he rfl).elim
      | exit j =>
        dsimp only [Kt7_0] at h
        cases hb : Nat.beq j 0
        case' true =>
          rw [hb] at h
          have hj := Nat.eq_of_beq_eq_true hb
          subst hj
          dsimp only at h
          exact hq _ _ _ _ (hs1.next hf1 hs' (E2 := []) True.intro) hf0 h
        rw [hb] at h
        dsimp only at h
        all_goals exact h.elim
      | ret => exact hq _ _ _ _ hs' hf0 (hr _ _ h)
      | _ => exact h.elim
  · exact h1.elim
/-- jackstay/jackstaylaw13.WheelNone -/
def S7 (x1 : Int) (x2 : Int) (w : World) (K : Value → World → Prop) : Prop :=
  al w (.cells #[(.slice none 0 0), (.map none), (.int .i64 0), (.int .i64 0)] 58) fun r3 w => al w (.cells #[(.pointer none), (.pointer (some ⟨r3, 0, none⟩))] 23) fun r4 w => LS7_0 x1 x2 (some ⟨r4, 0, none⟩) 2 2 2 0 w
  (fun w => callQ Try.prog 10 #[] w fun v29 w => ∃ b30 : Bool, v29 = (.bool b30) ∧ K (.bool b30) w) K
theorem eq7 (x1 : Int) (x2 : Int) (w : World) (K : Value → World → Prop) : G Try.prog [9, 10, 11, 13, 15, 16, 18, 19, 20, 21, 22, 23, 24] 58 [0, 1, 4, 6, 7, 8, 11, 12, 13, 14, 55] (H7 K) 0 (bodyOf Try.f7) (retG Try.prog Try.f7.results.toList K) (env0 0 [(.int .i64 x1), (.int .i64 x2)]) w = S7 x1 x2 w K := by kernel_rfl
theorem ok7 {x1 : Int} {x2 : Int} {w : World} {K : Value → World → Prop} (h : S7 x1 x2 w K) : callV Try.prog 7 #[(.int .i64 x1), (.int .i64 x2)] w K :=
  call_sound (qs := [9, 10, 11, 13, 15, 16, 18, 19, 20, 21, 22, 23, 24]) (args := [(.int .i64 x1), (.int .i64 x2)]) (by kernel_rfl) (Try.func7) (c := bodyOf Try.f7) (by kernel_rfl) (by kernel_rfl) (allL (show loops [9, 10, 11, 13, 15, 16, 18, 19, 20, 21, 22, 23, 24] 0 (bodyOf Try.f7) = [(0, .loop (loopOf 0 Try.f7))] by kernel_rfl) ⟨lok7_0 K, True.intro⟩) (Eq.mpr (eq7 x1 x2 w K) h)
end Go.Proofs.Ytibalkkiefgljaa
