/- The formulas of the functions 4 of this seat, written by a program of my own (dec.py), each with its proof. -/
import Derived.Test.YtibalkkiefgljaaProg
import Derived.Test.YtibalkkiefgljaaSh
import Derived.KernelRfl
namespace Go.Proofs.Ytibalkkiefgljaa
open Go Go.Sh
set_option linter.unusedVariables false
set_option maxRecDepth 100000
def B4_0 (x16 : Option Addr) (l17 : Nat) (c18 : Nat) (x19 : Option Addr) (x20 : Option Nat) (x21 : Option Addr) (l22 : Nat) (c23 : Nat) (x24 : Int) (x25 : Int) (w : World) (N : Int → World → Prop) (X0 : World → Prop) (K : Value → World → Prop) : Prop :=
  br (decide ((x25 : Int) < x24))
  (idx x21 l22 1 x25 fun a26 => ∃ n27 : Int, w.cell? a26 = some (.int .u16 n27) ∧ callV Try.prog 12 #[(.pointer x19), (.int .i64 (IntKind.wrap .i64 (Int.tmod n27 64))), (.int .i64 (IntKind.wrap .i64 (1 + (Int.tmod (IntKind.wrap .i64 (IntKind.wrap .u16 (Int.tdiv n27 64))) 100))))] w fun v28 w => ∃ n29 : Int, v28 = (.int .i64 n29) ∧ br ((n29 : Int) != 0)
  (K (.bool false) w)
  (runU Try.prog (Instr.mapUpdate 50 (.map x20) (.int .i64 (IntKind.wrap .i64 (Int.tmod n27 64))) (.int .i64 (IntKind.wrap .i64 (1 + (Int.tmod (IntKind.wrap .i64 (IntKind.wrap .u16 (Int.tdiv n27 64))) 100))))) w fun w => N (IntKind.wrap .i64 (x25 + 1)) w))
  (X0 w)
/-- The loop in block 0 of function 4: by what holds at its head. -/
def LS4_0 (x16 : Option Addr) (l17 : Nat) (c18 : Nat) (x19 : Option Addr) (x20 : Option Nat) (x21 : Option Addr) (l22 : Nat) (c23 : Nat) (x24 : Int) (x25 : Int) (w : World) (X0 : World → Prop) (K : Value → World → Prop) : Prop :=
  ∃ J : Nat → Int → World → Prop, (∃ n, J n x25 w) ∧ ∀ n x25 w, J n x25 w → B4_0 x16 l17 c18 x19 x20 x21 l22 c23 x24 x25 w (fun x25 w => ∃ m, m < n ∧ J m x25 w) X0 K
abbrev env4_0 (x16 : Option Addr) (l17 : Nat) (c18 : Nat) (x19 : Option Addr) (x20 : Option Nat) (x21 : Option Addr) (l22 : Nat) (c23 : Nat) (x24 : Int) (x25 : Int) : Env := [(2, (.slice x16 l17 c18)), (7, (.pointer x19)), (9, (.map x20)), (42, (.slice x21 l22 c23)), (43, (.int .i64 x24)), (44, (.int .i64 x25))]
def Kt4_0 (N : Int → World → Prop) (X0 : World → Prop) (K : Value → World → Prop) : Kont := fun e E w => match e with
  | .normal => gI .i64 E 44 fun x25 => N x25 w
  | .exit j => match Nat.beq j 0 with | true => (X0 w) | false => (False)
  | .ret => retG Try.prog Try.f4.results.toList K .ret E w
  | _ => False
def HL4_0 (F : Value → World → Prop) (K : Kont) (E : Env) (w : World) : Prop := match keep [2, 7, 9, 42, 43, 44] E with
  | [(2, (.slice x16 l17 c18)), (7, (.pointer x19)), (9, (.map x20)), (42, (.slice x21 l22 c23)), (43, (.int .i64 x24)), (44, (.int .i64 x25))] => LS4_0 x16 l17 c18 x19 x20 x21 l22 c23 x24 x25 w (fun w => K (.exit 0) [(2, (.slice x16 l17 c18)), (7, (.pointer x19)), (9, (.map x20))] w) F
  | _ => False
def B4_2 (x33 : Option Addr) (x34 : Option Nat) (x35 : Option Addr) (l36 : Nat) (c37 : Nat) (x38 : Int) (x39 : Int) (w : World) (N : Int → World → Prop) (X2 : World → Prop) (K : Value → World → Prop) : Prop :=
  br (decide ((x39 : Int) < x38))
  (idx x35 l36 1 x39 fun a40 => ∃ n41 : Int, w.cell? a40 = some (.int .u8 n41) ∧ rdV Try.prog (Instr.lookup 50 (.map x34) (.int .i64 (IntKind.wrap .i64 (Int.tmod n41 64))) true) w fun v42 => ∃ n43 : Int, ∃ b44 : Bool, v42 = (.tuple #[(.int .i64 n43), (.bool b44)]) ∧ callV Try.prog 14 #[(.pointer x33), (.int .i64 (IntKind.wrap .i64 (Int.tmod n41 64)))] w fun v45 w => ∃ b46 : Bool, v45 = (.bool b46) ∧ br (!(b46 == b44))
  (K (.bool false) w)
  (runV Try.prog (Builtin.delete_ #[50, 3] 0 #[(.map x34), (.int .i64 (IntKind.wrap .i64 (Int.tmod n41 64)))]) w fun v47 w => v47 = (.tuple #[]) ∧ N (IntKind.wrap .i64 (x39 + 1)) w))
  (X2 w)
/-- The loop in block 2 of function 4: by what holds at its head. -/
def LS4_2 (x33 : Option Addr) (x34 : Option Nat) (x35 : Option Addr) (l36 : Nat) (c37 : Nat) (x38 : Int) (x39 : Int) (w : World) (X2 : World → Prop) (K : Value → World → Prop) : Prop :=
  ∃ J : Nat → Int → World → Prop, (∃ n, J n x39 w) ∧ ∀ n x39 w, J n x39 w → B4_2 x33 x34 x35 l36 c37 x38 x39 w (fun x39 w => ∃ m, m < n ∧ J m x39 w) X2 K
abbrev env4_2 (x33 : Option Addr) (x34 : Option Nat) (x35 : Option Addr) (l36 : Nat) (c37 : Nat) (x38 : Int) (x39 : Int) : Env := [(7, (.pointer x33)), (9, (.map x34)), (69, (.slice x35 l36 c37)), (70, (.int .i64 x38)), (71, (.int .i64 x39))]
def Kt4_2 (N : Int → World → Prop) (X2 : World → Prop) (K : Value → World → Prop) : Kont := fun e E w => match e with
  | .normal => gI .i64 E 71 fun x39 => N x39 w
  | .exit j => match Nat.beq j 2 with | true => (X2 w) | false => (False)
  | .ret => retG Try.prog Try.f4.results.toList K .ret E w
  | _ => False
def HL4_2 (F : Value → World → Prop) (K : Kont) (E : Env) (w : World) : Prop := match keep [7, 9, 69, 70, 71] E with
  | [(7, (.pointer x33)), (9, (.map x34)), (69, (.slice x35 l36 c37)), (70, (.int .i64 x38)), (71, (.int .i64 x39))] => LS4_2 x33 x34 x35 l36 c37 x38 x39 w (fun w => K (.exit 2) [(7, (.pointer x33)), (9, (.map x34))] w) F
  | _ => False
def B4_6 (x55 : Option Addr) (x56 : Option Nat) (x57 : Int) (x59 : Option Addr) (l60 : Nat) (c61 : Nat) (x62 : Int) (x58 : Int) (x63 : Int) (w : World) (N : Int → Int → World → Prop) (X6 : World → Prop) (K : Value → World → Prop) : Prop :=
  br (decide ((x63 : Int) < x62))
  (idx x59 l60 1 x63 fun a64 => ∃ n65 : Int, w.cell? a64 = some (.int .i64 n65) ∧ rdV Try.prog (Instr.lookup 50 (.map x56) (.int .i64 n65) true) w fun v66 => ∃ n67 : Int, ∃ b68 : Bool, v66 = (.tuple #[(.int .i64 n67), (.bool b68)]) ∧ br (!b68)
  (K (.bool false) w)
  (br ((n67 : Int) != x57)
  (K (.bool false) w)
  (br (decide ((n65 : Int) ≤ x58))
  (K (.bool false) w)
  (runV Try.prog (Builtin.delete_ #[50, 3] 0 #[(.map x56), (.int .i64 n65)]) w fun v69 w => v69 = (.tuple #[]) ∧ N n65 (IntKind.wrap .i64 (x63 + 1)) w))))
  (X6 w)
/-- The loop in block 6 of function 4: by what holds at its head. -/
def LS4_6 (x55 : Option Addr) (x56 : Option Nat) (x57 : Int) (x59 : Option Addr) (l60 : Nat) (c61 : Nat) (x62 : Int) (x58 : Int) (x63 : Int) (w : World) (X6 : World → Prop) (K : Value → World → Prop) : Prop :=
  ∃ J : Nat → Int → Int → World → Prop, (∃ n, J n x58 x63 w) ∧ ∀ n x58 x63 w, J n x58 x63 w → B4_6 x55 x56 x57 x59 l60 c61 x62 x58 x63 w (fun x58 x63 w => ∃ m, m < n ∧ J m x58 x63 w) X6 K
abbrev env4_6 (x55 : Option Addr) (x56 : Option Nat) (x57 : Int) (x59 : Option Addr) (l60 : Nat) (c61 : Nat) (x62 : Int) (x58 : Int) (x63 : Int) : Env := [(7, (.pointer x55)), (9, (.map x56)), (19, (.int .i64 x57)), (20, (.int .i64 x58)), (97, (.slice x59 l60 c61)), (98, (.int .i64 x62)), (99, (.int .i64 x63))]
def Kt4_6 (N : Int → Int → World → Prop) (X6 : World → Prop) (K : Value → World → Prop) : Kont := fun e E w => match e with
  | .normal => gI .i64 E 20 fun x58 => gI .i64 E 99 fun x63 => N x58 x63 w
  | .exit j => match Nat.beq j 6 with | true => (X6 w) | false => (False)
  | .ret => retG Try.prog Try.f4.results.toList K .ret E w
  | _ => False
def HL4_6 (F : Value → World → Prop) (K : Kont) (E : Env) (w : World) : Prop := match keep [7, 9, 19, 20, 97, 98, 99] E with
  | [(7, (.pointer x55)), (9, (.map x56)), (19, (.int .i64 x57)), (20, (.int .i64 x58)), (97, (.slice x59 l60 c61)), (98, (.int .i64 x62)), (99, (.int .i64 x63))] => LS4_6 x55 x56 x57 x59 l60 c61 x62 x58 x63 w (fun w => K (.exit 6) [(7, (.pointer x55)), (9, (.map x56)), (19, (.int .i64 x57))] w) F
  | _ => False
def B4_8 (x71 : Option Addr) (x72 : Option Nat) (x73 : Int) (x74 : Addr) (w : World) (N : World → Prop) (X8 : World → Prop) (K : Value → World → Prop) : Prop :=
  jn (fun (x78 : Bool) (w : World) =>
  br x78
  (runV Try.prog (Instr.entry (.pointer (some x74))) w fun v80 w => ∃ n81 : Int, ∃ n82 : Int, v80 = (.tuple #[(.int .i64 n81), (.int .i64 n82)]) ∧ br (decide ((n82 : Int) ≤ x73))
  (K (.bool false) w)
  (N w))
  (X8 w)) fun J79 =>
  nextP Try.prog (Instr.next (.pointer (some x74)) false 0) w
  (fun w => J79 false w)
  (fun h75 => ∃ n76 : Int, ∃ n77 : Int, ∃ w, h75 (.tuple #[(.bool true), (.int .i64 n76), (.int .i64 n77)]) w ∧ J79 true w)
/-- The loop in block 8 of function 4: by what holds at its head. -/
def LS4_8 (x71 : Option Addr) (x72 : Option Nat) (x73 : Int) (x74 : Addr) (w : World) (X8 : World → Prop) (K : Value → World → Prop) : Prop :=
  ∃ J : Nat → World → Prop, (∃ n, J n w) ∧ ∀ n w, J n w → B4_8 x71 x72 x73 x74 w (fun w => ∃ m, m < n ∧ J m w) X8 K
abbrev env4_8 (x71 : Option Addr) (x72 : Option Nat) (x73 : Int) (x74 : Addr) : Env := [(7, (.pointer x71)), (9, (.map x72)), (19, (.int .i64 x73)), (126, (.pointer (some x74)))]
def Kt4_8 (N : World → Prop) (X8 : World → Prop) (K : Value → World → Prop) : Kont := fun e E w => match e with
  | .normal => N w
  | .exit j => match Nat.beq j 8 with | true => (X8 w) | false => (False)
  | .ret => retG Try.prog Try.f4.results.toList K .ret E w
  | _ => False
def HL4_8 (F : Value → World → Prop) (K : Kont) (E : Env) (w : World) : Prop := match keep [7, 9, 19, 126] E with
  | [(7, (.pointer x71)), (9, (.map x72)), (19, (.int .i64 x73)), (126, (.pointer (some x74)))] => LS4_8 x71 x72 x73 x74 w (fun w => K (.exit 8) [(7, (.pointer x71)), (9, (.map x72)), (19, (.int .i64 x73))] w) F
  | _ => False
def B4_4 (x48 : Option Addr) (x49 : Option Nat) (x50 : Int) (w : World) (N : Int → World → Prop) (X4 : World → Prop) (K : Value → World → Prop) : Prop :=
  br (decide ((x50 : Int) ≤ 300))
  (callV Try.prog 17 #[(.pointer x48)] w fun v51 w => ∃ (p52 : Option Addr) (l53 c54 : Nat), v51 = (.slice p52 l53 c54) ∧ LS4_6 x48 x49 x50 p52 l53 c54 (l53 : Int) (-1) 0 w
  (fun w => rangeK Try.prog (Instr.range 50 (.map x49)) w fun r70 w => LS4_8 x48 x49 x50 (⟨r70, 0, none⟩) w
  (fun w => N (IntKind.wrap .i64 (x50 + 1)) w) K) K)
  (X4 w)
/-- The loop in block 4 of function 4: by what holds at its head. -/
def LS4_4 (x48 : Option Addr) (x49 : Option Nat) (x50 : Int) (w : World) (X4 : World → Prop) (K : Value → World → Prop) : Prop :=
  ∃ J : Nat → Int → World → Prop, (∃ n, J n x50 w) ∧ ∀ n x50 w, J n x50 w → B4_4 x48 x49 x50 w (fun x50 w => ∃ m, m < n ∧ J m x50 w) X4 K
abbrev env4_4 (x48 : Option Addr) (x49 : Option Nat) (x50 : Int) : Env := [(7, (.pointer x48)), (9, (.map x49)), (19, (.int .i64 x50))]
def Kt4_4 (N : Int → World → Prop) (X4 : World → Prop) (K : Value → World → Prop) : Kont := fun e E w => match e with
  | .normal => gI .i64 E 19 fun x50 => N x50 w
  | .exit j => match Nat.beq j 4 with | true => (X4 w) | false => (False)
  | .ret => retG Try.prog Try.f4.results.toList K .ret E w
  | _ => False
def HL4_4 (F : Value → World → Prop) (K : Kont) (E : Env) (w : World) : Prop := match keep [7, 9, 19] E with
  | [(7, (.pointer x48)), (9, (.map x49)), (19, (.int .i64 x50))] => LS4_4 x48 x49 x50 w (fun w => K (.exit 4) [(7, (.pointer x48)), (9, (.map x49))] w) F
  | _ => False
def H4 (F : Value → World → Prop) : Nat → Kont → Env → World → Prop := fun b K E w => match Nat.beq b 0 with | true => HL4_0 F K E w | false => (match Nat.beq b 2 with | true => HL4_2 F K E w | false => (match Nat.beq b 6 with | true => HL4_6 F K E w | false => (match Nat.beq b 8 with | true => HL4_8 F K E w | false => (match Nat.beq b 4 with | true => HL4_4 F K E w | false => (False)))))
theorem Beq4_0 (x16 : Option Addr) (l17 : Nat) (c18 : Nat) (x19 : Option Addr) (x20 : Option Nat) (x21 : Option Addr) (l22 : Nat) (c23 : Nat) (x24 : Int) (x25 : Int) (w : World) (N : Int → World → Prop) (X0 : World → Prop) (K : Value → World → Prop) :
    G Try.prog [9, 10, 11, 13, 15, 16, 18, 19, 20, 21, 22, 23, 24, 2260050] 150 [0, 1, 2, 6, 7, 8, 9, 11, 12, 13, 15, 16, 18, 19, 20, 22, 23, 24, 26, 36, 42, 43, 44, 45, 60, 69, 70, 71, 72, 88, 93, 97, 98, 99, 100, 120, 126, 128, 133] (H4 K) 0 (loopOf 0 Try.f4) (Kt4_0 N X0 K) (env4_0 x16 l17 c18 x19 x20 x21 l22 c23 x24 x25) w = B4_0 x16 l17 c18 x19 x20 x21 l22 c23 x24 x25 w N X0 K := by kernel_rfl
theorem lok4_0 (F : Value → World → Prop) : LoopOk Try.prog 150 Try.f4.results.toList F (H4 F) 0 (.loop (loopOf 0 Try.f4)) := by
  intro K E a w Q hr h hs hq
  have hs0 := hs.keep [2, 7, 9, 42, 43, 44]
  have h1 : HL4_0 F K E w := h
  unfold HL4_0 at h1
  split at h1
  · rename_i x16 l17 c18 x19 x20 x21 l22 c23 x24 x25 heq
    obtain ⟨J, ⟨n, hJ⟩, hround⟩ := h1
    rw [heq] at hs0
    refine loop_typed (qs := [9, 10, 11, 13, 15, 16, 18, 19, 20, 21, 22, 23, 24, 2260050]) (L := [0, 1, 2, 6, 7, 8, 9, 11, 12, 13, 15, 16, 18, 19, 20, 22, 23, 24, 26, 36, 42, 43, 44, 45, 60, 69, 70, 71, 72, 88, 93, 97, 98, 99, 100, 120, 126, 128, 133]) (rs := Try.f4.results.toList) (F := F) (H := H4 F) (b := 0) (by kernel_rfl) (allL (show loops [9, 10, 11, 13, 15, 16, 18, 19, 20, 21, 22, 23, 24, 2260050] 0 (loopOf 0 Try.f4) = [] by kernel_rfl) True.intro) (σ := Int) (fun s => env4_0 x16 l17 c18 x19 x20 x21 l22 c23 x24 s) (fun n s w => J n s w)
      (fun n => Kt4_0 (fun x25 w => ∃ m, m < n ∧ J m x25 w) (fun w => K (.exit 0) [(2, (.slice x16 l17 c18)), (7, (.pointer x19)), (9, (.map x20))] w) F) (fun _ _ _ h => h) ?_ ?_ a ?_ n x25 a w hJ (Fr.refl _ _) hs0
    · intro n s w hJ
      exact Eq.mpr (Beq4_0 x16 l17 c18 x19 x20 x21 l22 c23 x24 s w _ _ F) (hround n s w hJ)
    · intro n s E' w' h
      obtain ⟨x25, e44, h⟩ := gI_get h
      obtain ⟨m, hm, hJ⟩ := h
      exact ⟨m, x25, hm, hJ, ⟨.inl ⟨by kernel_rfl, rfl⟩, .inl ⟨by kernel_rfl, rfl⟩, .inl ⟨by kernel_rfl, rfl⟩, .inl ⟨by kernel_rfl, rfl⟩, .inl ⟨by kernel_rfl, rfl⟩, .inr e44, True.intro⟩⟩
    · intro n s a1 e E' a' w' he hs1 hf0 hf1 hs' h
      cases e with
      | normal => exact (he rfl).elim
      | exit j =>
        dsimp only [Kt4_0] at h
        cases hb : Nat.beq j 0
        case' true =>
          rw [hb] at h
          have hj := Nat.eq_of_beq_eq_true hb
          subst hj
          dsimp only at h
          exact hq _ _ _ _ (hs1.next hf1 hs' (E2 := [(2, (.slice x16 l17 c18)), (7, (.pointer x19)), (9, (.map x20))]) ⟨.inl ⟨by kernel_rfl, rfl⟩, .inl ⟨by kernel_rfl, rfl⟩, .inl ⟨by kernel_rfl, rfl⟩, True.intro⟩) hf0 h
        rw [hb] at h
        dsimp only at h
        all_goals exact h.elim
      | ret => exact hq _ _ _ _ hs' hf0 (hr _ _ h)
      | _ => exact h.elim
  · exact h1.elim
theorem Beq4_2 (x33 : Option Addr) (x34 : Option Nat) (x35 : Option Addr) (l36 : Nat) (c37 : Nat) (x38 : Int) (x39 : Int) (w : World) (N : Int → World → Prop) (X2 : World → Prop) (K : Value → World → Prop) :
    G Try.prog [9, 10, 11, 13, 15, 16, 18, 19, 20, 21, 22, 23, 24, 2260050] 150 [0, 1, 2, 6, 7, 8, 9, 11, 12, 13, 15, 16, 18, 19, 20, 22, 23, 24, 26, 36, 42, 43, 44, 45, 60, 69, 70, 71, 72, 88, 93, 97, 98, 99, 100, 120, 126, 128, 133] (H4 K) 2 (loopOf 2 Try.f4) (Kt4_2 N X2 K) (env4_2 x33 x34 x35 l36 c37 x38 x39) w = B4_2 x33 x34 x35 l36 c37 x38 x39 w N X2 K := by kernel_rfl
theorem lok4_2 (F : Value → World → Prop) : LoopOk Try.prog 150 Try.f4.results.toList F (H4 F) 2 (.loop (loopOf 2 Try.f4)) := by
  intro K E a w Q hr h hs hq
  have hs0 := hs.keep [7, 9, 69, 70, 71]
  have h1 : HL4_2 F K E w := h
  unfold HL4_2 at h1
  split at h1
  · rename_i x33 x34 x35 l36 c37 x38 x39 heq
    obtain ⟨J, ⟨n, hJ⟩, hround⟩ := h1
    rw [heq] at hs0
    refine loop_typed (qs := [9, 10, 11, 13, 15, 16, 18, 19, 20, 21, 22, 23, 24, 2260050]) (L := [0, 1, 2, 6, 7, 8, 9, 11, 12, 13, 15, 16, 18, 19, 20, 22, 23, 24, 26, 36, 42, 43, 44, 45, 60, 69, 70, 71, 72, 88, 93, 97, 98, 99, 100, 120, 126, 128, 133]) (rs := Try.f4.results.toList) (F := F) (H := H4 F) (b := 2) (by kernel_rfl) (allL (show loops [9, 10, 11, 13, 15, 16, 18, 19, 20, 21, 22, 23, 24, 2260050] 2 (loopOf 2 Try.f4) = [] by kernel_rfl) True.intro) (σ := Int) (fun s => env4_2 x33 x34 x35 l36 c37 x38 s) (fun n s w => J n s w)
      (fun n => Kt4_2 (fun x39 w => ∃ m, m < n ∧ J m x39 w) (fun w => K (.exit 2) [(7, (.pointer x33)), (9, (.map x34))] w) F) (fun _ _ _ h => h) ?_ ?_ a ?_ n x39 a w hJ (Fr.refl _ _) hs0
    · intro n s w hJ
      exact Eq.mpr (Beq4_2 x33 x34 x35 l36 c37 x38 s w _ _ F) (hround n s w hJ)
    · intro n s E' w' h
      obtain ⟨x39, e71, h⟩ := gI_get h
      obtain ⟨m, hm, hJ⟩ := h
      exact ⟨m, x39, hm, hJ, ⟨.inl ⟨by kernel_rfl, rfl⟩, .inl ⟨by kernel_rfl, rfl⟩, .inl ⟨by kernel_rfl, rfl⟩, .inl ⟨by kernel_rfl, rfl⟩, .inr e71, True.intro⟩⟩
    · intro n s a1 e E' a' w' he hs1 hf0 hf1 hs' h
      cases e with
      | normal => exact (he rfl).elim
      | exit j =>
        dsimp only [Kt4_2] at h
        cases hb : Nat.beq j 2
        case' true =>
          rw [hb] at h
          have hj := Nat.eq_of_beq_eq_true hb
          subst hj
          dsimp only at h
          exact hq _ _ _ _ (hs1.next hf1 hs' (E2 := [(7, (.pointer x33)), (9, (.map x34))]) ⟨.inl ⟨by kernel_rfl, rfl⟩, .inl ⟨by kernel_rfl, rfl⟩, True.intro⟩) hf0 h
        rw [hb] at h
        dsimp only at h
        all_goals exact h.elim
      | ret => exact hq _ _ _ _ hs' hf0 (hr _ _ h)
      | _ => exact h.elim
  · exact h1.elim
theorem Beq4_6 (x55 : Option Addr) (x56 : Option Nat) (x57 : Int) (x59 : Option Addr) (l60 : Nat) (c61 : Nat) (x62 : Int) (x58 : Int) (x63 : Int) (w : World) (N : Int → Int → World → Prop) (X6 : World → Prop) (K : Value → World → Prop) :
    G Try.prog [9, 10, 11, 13, 15, 16, 18, 19, 20, 21, 22, 23, 24, 2260050] 150 [0, 1, 2, 6, 7, 8, 9, 11, 12, 13, 15, 16, 18, 19, 20, 22, 23, 24, 26, 36, 42, 43, 44, 45, 60, 69, 70, 71, 72, 88, 93, 97, 98, 99, 100, 120, 126, 128, 133] (H4 K) 6 (loopOf 6 Try.f4) (Kt4_6 N X6 K) (env4_6 x55 x56 x57 x59 l60 c61 x62 x58 x63) w = B4_6 x55 x56 x57 x59 l60 c61 x62 x58 x63 w N X6 K := by kernel_rfl
theorem lok4_6 (F : Value → World → Prop) : LoopOk Try.prog 150 Try.f4.results.toList F (H4 F) 6 (.loop (loopOf 6 Try.f4)) := by
  intro K E a w Q hr h hs hq
  have hs0 := hs.keep [7, 9, 19, 20, 97, 98, 99]
  have h1 : HL4_6 F K E w := h
  unfold HL4_6 at h1
  split at h1
  · rename_i x55 x56 x57 x58 x59 l60 c61 x62 x63 heq
    obtain ⟨J, ⟨n, hJ⟩, hround⟩ := h1
    rw [heq] at hs0
    refine loop_typed (qs := [9, 10, 11, 13, 15, 16, 18, 19, 20, 21, 22, 23, 24, 2260050]) (L := [0, 1, 2, 6, 7, 8, 9, 11, 12, 13, 15, 16, 18, 19, 20, 22, 23, 24, 26, 36, 42, 43, 44, 45, 60, 69, 70, 71, 72, 88, 93, 97, 98, 99, 100, 120, 126, 128, 133]) (rs := Try.f4.results.toList) (F := F) (H := H4 F) (b := 6) (by kernel_rfl) (allL (show loops [9, 10, 11, 13, 15, 16, 18, 19, 20, 21, 22, 23, 24, 2260050] 6 (loopOf 6 Try.f4) = [] by kernel_rfl) True.intro) (σ := Int × Int) (fun s => env4_6 x55 x56 x57 x59 l60 c61 x62 s.1 s.2) (fun n s w => J n s.1 s.2 w)
      (fun n => Kt4_6 (fun x58 x63 w => ∃ m, m < n ∧ J m x58 x63 w) (fun w => K (.exit 6) [(7, (.pointer x55)), (9, (.map x56)), (19, (.int .i64 x57))] w) F) (fun _ _ _ h => h) ?_ ?_ a ?_ n (x58, x63) a w hJ (Fr.refl _ _) hs0
    · intro n s w hJ
      exact Eq.mpr (Beq4_6 x55 x56 x57 x59 l60 c61 x62 s.1 s.2 w _ _ F) (hround n s.1 s.2 w hJ)
    · intro n s E' w' h
      obtain ⟨x58, e20, h⟩ := gI_get h
      obtain ⟨x63, e99, h⟩ := gI_get h
      obtain ⟨m, hm, hJ⟩ := h
      exact ⟨m, (x58, x63), hm, hJ, ⟨.inl ⟨by kernel_rfl, rfl⟩, .inl ⟨by kernel_rfl, rfl⟩, .inl ⟨by kernel_rfl, rfl⟩, .inr e20, .inl ⟨by kernel_rfl, rfl⟩, .inl ⟨by kernel_rfl, rfl⟩, .inr e99, True.intro⟩⟩
    · intro n s a1 e E' a' w' he hs1 hf0 hf1 hs' h
      cases e with
      | normal => exact (he rfl).elim
      | exit j =>
        dsimp only [Kt4_6] at h
        cases hb : Nat.beq j 6
        case' true =>
          rw [hb] at h
          have hj := Nat.eq_of_beq_eq_true hb
          subst hj
          dsimp only at h
          exact hq _ _ _ _ (hs1.next hf1 hs' (E2 := [(7, (.pointer x55)), (9, (.map x56)), (19, (.int .i64 x57))]) ⟨.inl ⟨by kernel_rfl, rfl⟩, .inl ⟨by kernel_rfl, rfl⟩, .inl ⟨by kernel_rfl, rfl⟩, True.intro⟩) hf0 h
        rw [hb] at h
        dsimp only at h
        all_goals exact h.elim
      | ret => exact hq _ _ _ _ hs' hf0 (hr _ _ h)
      | _ => exact h.elim
  · exact h1.elim
theorem Beq4_8 (x71 : Option Addr) (x72 : Option Nat) (x73 : Int) (x74 : Addr) (w : World) (N : World → Prop) (X8 : World → Prop) (K : Value → World → Prop) :
    G Try.prog [9, 10, 11, 13, 15, 16, 18, 19, 20, 21, 22, 23, 24, 2260050] 150 [0, 1, 2, 6, 7, 8, 9, 11, 12, 13, 15, 16, 18, 19, 20, 22, 23, 24, 26, 36, 42, 43, 44, 45, 60, 69, 70, 71, 72, 88, 93, 97, 98, 99, 100, 120, 126, 128, 133] (H4 K) 8 (loopOf 8 Try.f4) (Kt4_8 N X8 K) (env4_8 x71 x72 x73 x74) w = B4_8 x71 x72 x73 x74 w N X8 K := by kernel_rfl
theorem lok4_8 (F : Value → World → Prop) : LoopOk Try.prog 150 Try.f4.results.toList F (H4 F) 8 (.loop (loopOf 8 Try.f4)) := by
  intro K E a w Q hr h hs hq
  have hs0 := hs.keep [7, 9, 19, 126]
  have h1 : HL4_8 F K E w := h
  unfold HL4_8 at h1
  split at h1
  · rename_i x71 x72 x73 x74 heq
    obtain ⟨J, ⟨n, hJ⟩, hround⟩ := h1
    rw [heq] at hs0
    refine loop_typed (qs := [9, 10, 11, 13, 15, 16, 18, 19, 20, 21, 22, 23, 24, 2260050]) (L := [0, 1, 2, 6, 7, 8, 9, 11, 12, 13, 15, 16, 18, 19, 20, 22, 23, 24, 26, 36, 42, 43, 44, 45, 60, 69, 70, 71, 72, 88, 93, 97, 98, 99, 100, 120, 126, 128, 133]) (rs := Try.f4.results.toList) (F := F) (H := H4 F) (b := 8) (by kernel_rfl) (allL (show loops [9, 10, 11, 13, 15, 16, 18, 19, 20, 21, 22, 23, 24, 2260050] 8 (loopOf 8 Try.f4) = [] by kernel_rfl) True.intro) (σ := Unit) (fun s => env4_8 x71 x72 x73 x74) (fun n s w => J n w)
      (fun n => Kt4_8 (fun w => ∃ m, m < n ∧ J m w) (fun w => K (.exit 8) [(7, (.pointer x71)), (9, (.map x72)), (19, (.int .i64 x73))] w) F) (fun _ _ _ h => h) ?_ ?_ a ?_ n () a w hJ (Fr.refl _ _) hs0
    · intro n s w hJ
      exact Eq.mpr (Beq4_8 x71 x72 x73 x74 w _ _ F) (hround n w hJ)
    · intro n s E' w' h
      obtain ⟨m, hm, hJ⟩ := h
      exact ⟨m, (), hm, hJ, ⟨.inl ⟨by kernel_rfl, rfl⟩, .inl ⟨by kernel_rfl, rfl⟩, .inl ⟨by kernel_rfl, rfl⟩, .inl ⟨by kernel_rfl, rfl⟩, True.intro⟩⟩
    · intro n s a1 e E' a' w' he hs1 hf0 hf1 hs' h
      cases e with
      | normal => exact (he rfl).elim
      | exit j =>
        dsimp only [Kt4_8] at h
        cases hb : Nat.beq j 8
        case' true =>
          rw [hb] at h
          have hj := Nat.eq_of_beq_eq_true hb
          subst hj
          dsimp only at h
          exact hq _ _ _ _ (hs1.next hf1 hs' (E2 := [(7, (.pointer x71)), (9, (.map x72)), (19, (.int .i64 x73))]) ⟨.inl ⟨by kernel_rfl, rfl⟩, .inl ⟨by kernel_rfl, rfl⟩, .inl ⟨by kernel_rfl, rfl⟩, True.intro⟩) hf0 h
        rw [hb] at h
        dsimp only at h
        all_goals exact h.elim
      | ret => exact hq _ _ _ _ hs' hf0 (hr _ _ h)
      | _ => exact h.elim
  · exact h1.elim
theorem Beq4_4 (x48 : Option Addr) (x49 : Option Nat) (x50 : Int) (w : World) (N : Int → World → Prop) (X4 : World → Prop) (K : Value → World → Prop) :
    G Try.prog [9, 10, 11, 13, 15, 16, 18, 19, 20, 21, 22, 23, 24, 2260050] 150 [0, 1, 2, 6, 7, 8, 9, 11, 12, 13, 15, 16, 18, 19, 20, 22, 23, 24, 26, 36, 42, 43, 44, 45, 60, 69, 70, 71, 72, 88, 93, 97, 98, 99, 100, 120, 126, 128, 133] (H4 K) 4 (loopOf 4 Try.f4) (Kt4_4 N X4 K) (env4_4 x48 x49 x50) w = B4_4 x48 x49 x50 w N X4 K := by kernel_rfl
theorem lok4_4 (F : Value → World → Prop) : LoopOk Try.prog 150 Try.f4.results.toList F (H4 F) 4 (.loop (loopOf 4 Try.f4)) := by
  intro K E a w Q hr h hs hq
  have hs0 := hs.keep [7, 9, 19]
  have h1 : HL4_4 F K E w := h
  unfold HL4_4 at h1
  split at h1
  · rename_i x48 x49 x50 heq
    obtain ⟨J, ⟨n, hJ⟩, hround⟩ := h1
    rw [heq] at hs0
    refine loop_typed (qs := [9, 10, 11, 13, 15, 16, 18, 19, 20, 21, 22, 23, 24, 2260050]) (L := [0, 1, 2, 6, 7, 8, 9, 11, 12, 13, 15, 16, 18, 19, 20, 22, 23, 24, 26, 36, 42, 43, 44, 45, 60, 69, 70, 71, 72, 88, 93, 97, 98, 99, 100, 120, 126, 128, 133]) (rs := Try.f4.results.toList) (F := F) (H := H4 F) (b := 4) (by kernel_rfl) (allL (show loops [9, 10, 11, 13, 15, 16, 18, 19, 20, 21, 22, 23, 24, 2260050] 4 (loopOf 4 Try.f4) = [(6, .loop (loopOf 6 Try.f4)), (8, .loop (loopOf 8 Try.f4))] by kernel_rfl) ⟨lok4_6 F, lok4_8 F, True.intro⟩) (σ := Int) (fun s => env4_4 x48 x49 s) (fun n s w => J n s w)
      (fun n => Kt4_4 (fun x50 w => ∃ m, m < n ∧ J m x50 w) (fun w => K (.exit 4) [(7, (.pointer x48)), (9, (.map x49))] w) F) (fun _ _ _ h => h) ?_ ?_ a ?_ n x50 a w hJ (Fr.refl _ _) hs0
    · intro n s w hJ
      exact Eq.mpr (Beq4_4 x48 x49 s w _ _ F) (hround n s w hJ)
    · intro n s E' w' h
      obtain ⟨x50, e19, h⟩ := gI_get h
      obtain ⟨m, hm, hJ⟩ := h
      exact ⟨m, x50, hm, hJ, ⟨.inl ⟨by kernel_rfl, rfl⟩, .inl ⟨by kernel_rfl, rfl⟩, .inr e19, True.intro⟩⟩
    · intro n s a1 e E' a' w' he hs1 hf0 hf1 hs' h
      cases e with
      | normal => exact (he rfl).elim
      | exit j =>
        dsimp only [Kt4_4] at h
        cases hb : Nat.beq j 4
        case' true =>
          rw [hb] at h
          have hj := Nat.eq_of_beq_eq_true hb
          subst hj
          dsimp only at h
          exact hq _ _ _ _ (hs1.next hf1 hs' (E2 := [(7, (.pointer x48)), (9, (.map x49))]) ⟨.inl ⟨by kernel_rfl, rfl⟩, .inl ⟨by kernel_rfl, rfl⟩, True.intro⟩) hf0 h
        rw [hb] at h
        dsimp only at h
        all_goals exact h.elim
      | ret => exact hq _ _ _ _ hs' hf0 (hr _ _ h)
      | _ => exact h.elim
  · exact h1.elim
/-- jackstay/jackstaylaw13.WheelOnce -/
def S4 (x1 : Int) (x2 : Option Addr) (l3 : Nat) (c4 : Nat) (x5 : Option Addr) (l6 : Nat) (c7 : Nat) (w : World) (K : Value → World → Prop) : Prop :=
  callQ Try.prog 9 #[(.int .i64 (IntKind.wrap .i64 (1 + (IntKind.wrap .i64 (Int.tmod x1 40))))), (.int .i64 64)] w fun v8 w => ∃ p9 : Option Addr, ∃ n10 : Int, v8 = (.tuple #[(.pointer p9), (.int .i64 n10)]) ∧ br ((n10 : Int) != 0)
  (K (.bool false) w)
  (runV Try.prog (Instr.makeMap 50 none) w fun v11 w => ∃ m12 : Option Nat, v11 = (.map m12) ∧ slc x2 l3 c4 1 none (some (if 50 < (l3 : Int) then 50 else (l3 : Int))) none fun p13 l14 c15 => LS4_0 x5 l6 c7 p9 m12 p13 l14 c15 (l14 : Int) 0 w
  (fun w => slc x5 l6 c7 1 none (some (if 50 < (l6 : Int) then 50 else (l6 : Int))) none fun p30 l31 c32 => LS4_2 p9 m12 p30 l31 c32 (l31 : Int) 0 w
  (fun w => LS4_4 p9 m12 1 w
  (fun w => callQ Try.prog 21 #[(.pointer p9)] w fun v83 w => ∃ n84 : Int, v83 = (.int .i64 n84) ∧ br ((n84 : Int) == 0)
  (rdV Try.prog (Builtin.len_ #[50] 3 #[(.map m12)]) w fun v85 => ∃ n86 : Int, v85 = (.int .i64 n86) ∧ br ((n86 : Int) == 0)
  (callQ Try.prog 20 #[(.pointer p9)] w fun v87 w => ∃ n88 : Int, v87 = (.int .i64 n88) ∧ br ((n88 : Int) == 300)
  (callQ Try.prog 10 #[] w fun v89 w => ∃ b90 : Bool, v89 = (.bool b90) ∧ K (.bool b90) w)
  (K (.bool false) w))
  (K (.bool false) w))
  (K (.bool false) w)) K) K) K)
theorem eq4 (x1 : Int) (x2 : Option Addr) (l3 : Nat) (c4 : Nat) (x5 : Option Addr) (l6 : Nat) (c7 : Nat) (w : World) (K : Value → World → Prop) : G Try.prog [9, 10, 11, 13, 15, 16, 18, 19, 20, 21, 22, 23, 24, 2260050] 150 [0, 1, 2, 6, 7, 8, 9, 11, 12, 13, 15, 16, 18, 19, 20, 22, 23, 24, 26, 36, 42, 43, 44, 45, 60, 69, 70, 71, 72, 88, 93, 97, 98, 99, 100, 120, 126, 128, 133] (H4 K) 0 (bodyOf Try.f4) (retG Try.prog Try.f4.results.toList K) (env0 0 [(.int .u8 x1), (.slice x2 l3 c4), (.slice x5 l6 c7)]) w = S4 x1 x2 l3 c4 x5 l6 c7 w K := by kernel_rfl
theorem ok4 {x1 : Int} {x2 : Option Addr} {l3 : Nat} {c4 : Nat} {x5 : Option Addr} {l6 : Nat} {c7 : Nat} {w : World} {K : Value → World → Prop} (h : S4 x1 x2 l3 c4 x5 l6 c7 w K) : callV Try.prog 4 #[(.int .u8 x1), (.slice x2 l3 c4), (.slice x5 l6 c7)] w K :=
  call_sound (qs := [9, 10, 11, 13, 15, 16, 18, 19, 20, 21, 22, 23, 24, 2260050]) (args := [(.int .u8 x1), (.slice x2 l3 c4), (.slice x5 l6 c7)]) (by kernel_rfl) (Try.func4) (c := bodyOf Try.f4) (by kernel_rfl) (by kernel_rfl) (allL (show loops [9, 10, 11, 13, 15, 16, 18, 19, 20, 21, 22, 23, 24, 2260050] 0 (bodyOf Try.f4) = [(0, .loop (loopOf 0 Try.f4)), (2, .loop (loopOf 2 Try.f4)), (4, .loop (loopOf 4 Try.f4))] by kernel_rfl) ⟨lok4_0 K, lok4_2 K, lok4_4 K, True.intro⟩) (Eq.mpr (eq4 x1 x2 l3 c4 x5 l6 c7 w K) h)
end Go.Proofs.Ytibalkkiefgljaa
