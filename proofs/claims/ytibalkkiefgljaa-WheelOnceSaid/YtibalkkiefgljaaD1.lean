/- The formulas of the functions 9, 10, 12, 14, 16, 17, 18, 20, 21, 23, 24, 25, 27, 28, 29 of this seat, written by a program of my own (dec.py), each with its proof. -/
import Derived.Test.YtibalkkiefgljaaProg
import Derived.Test.YtibalkkiefgljaaSh
import Derived.KernelRfl
namespace Go.Proofs.Ytibalkkiefgljaa
open Go Go.Sh
set_option linter.unusedVariables false
set_option maxRecDepth 100000
def B9_0 (x13 : Addr) (x14 : Int) (x15 : Int) (w : World) (N : Int → World → Prop) (X0 : World → Prop) (K : Value → World → Prop) : Prop :=
  br (decide ((x15 : Int) < x14))
  (∃ (p16 : Option Addr) (l17 c18 : Nat), w.cell? x13 = some (.slice p16 l17 c18) ∧ runV Try.prog (Instr.makeMap 50 none) w fun v19 w => ∃ m20 : Option Nat, v19 = (.map m20) ∧ idx p16 l17 1 x15 fun a21 => stL w a21 0 [(.map m20)] fun w => N (IntKind.wrap .i64 (x15 + 1)) w)
  (X0 w)
/-- The loop in block 0 of function 9: by what holds at its head. -/
def LS9_0 (x13 : Addr) (x14 : Int) (x15 : Int) (w : World) (X0 : World → Prop) (K : Value → World → Prop) : Prop :=
  ∃ J : Nat → Int → World → Prop, (∃ n, J n x15 w) ∧ ∀ n x15 w, J n x15 w → B9_0 x13 x14 x15 w (fun x15 w => ∃ m, m < n ∧ J m x15 w) X0 K
abbrev env9_0 (x13 : Addr) (x14 : Int) (x15 : Int) : Env := [(6, (.pointer (some x13))), (32, (.int .i64 x14)), (33, (.int .i64 x15))]
def Kt9_0 (N : Int → World → Prop) (X0 : World → Prop) (K : Value → World → Prop) : Kont := fun e E w => match e with
  | .normal => gI .i64 E 33 fun x15 => N x15 w
  | .exit j => match Nat.beq j 0 with | true => (X0 w) | false => (False)
  | .ret => retG Try.prog Try.f9.results.toList K .ret E w
  | _ => False
def HL9_0 (F : Value → World → Prop) (K : Kont) (E : Env) (w : World) : Prop := match keep [6, 32, 33] E with
  | [(6, (.pointer (some x13))), (32, (.int .i64 x14)), (33, (.int .i64 x15))] => LS9_0 x13 x14 x15 w (fun w => K (.exit 0) [(6, (.pointer (some x13)))] w) F
  | _ => False
def H9 (F : Value → World → Prop) : Nat → Kont → Env → World → Prop := fun b K E w => match Nat.beq b 0 with | true => HL9_0 F K E w | false => (False)
theorem Beq9_0 (x13 : Addr) (x14 : Int) (x15 : Int) (w : World) (N : Int → World → Prop) (X0 : World → Prop) (K : Value → World → Prop) :
    G Try.prog [9, 10, 11, 13, 15, 16, 18, 19, 20, 21, 22, 23, 24] 45 [0, 1, 4, 5, 6, 7, 21, 32, 33, 34] (H9 K) 0 (loopOf 0 Try.f9) (Kt9_0 N X0 K) (env9_0 x13 x14 x15) w = B9_0 x13 x14 x15 w N X0 K := by kernel_rfl
theorem lok9_0 (F : Value → World → Prop) : LoopOk Try.prog 45 Try.f9.results.toList F (H9 F) 0 (.loop (loopOf 0 Try.f9)) := by
  intro K E a w Q hr h hs hq
  have hs0 := hs.keep [6, 32, 33]
  have h1 : HL9_0 F K E w := h
  unfold HL9_0 at h1
  split at h1
  · rename_i x13 x14 x15 heq
    obtain ⟨J, ⟨n, hJ⟩, hround⟩ := h1
    rw [heq] at hs0
    refine loop_typed (qs := [9, 10, 11, 13, 15, 16, 18, 19, 20, 21, 22, 23, 24]) (L := [0, 1, 4, 5, 6, 7, 21, 32, 33, 34]) (rs := Try.f9.results.toList) (F := F) (H := H9 F) (b := 0) (by kernel_rfl) (allL (show loops [9, 10, 11, 13, 15, 16, 18, 19, 20, 21, 22, 23, 24] 0 (loopOf 0 Try.f9) = [] by kernel_rfl) True.intro) (σ := Int) (fun s => env9_0 x13 x14 s) (fun n s w => J n s w)
      (fun n => Kt9_0 (fun x15 w => ∃ m, m < n ∧ J m x15 w) (fun w => K (.exit 0) [(6, (.pointer (some x13)))] w) F) (fun _ _ _ h => h) ?_ ?_ a ?_ n x15 a w hJ (Fr.refl _ _) hs0
    · intro n s w hJ
      exact Eq.mpr (Beq9_0 x13 x14 s w _ _ F) (hround n s w hJ)
    · intro n s E' w' h
      obtain ⟨x15, e33, h⟩ := gI_get h
      obtain ⟨m, hm, hJ⟩ := h
      exact ⟨m, x15, hm, hJ, ⟨.inl ⟨by kernel_rfl, rfl⟩, .inl ⟨by kernel_rfl, rfl⟩, .inr e33, True.intro⟩⟩
    · intro n s a1 e E' a' w' he hs1 hf0 hf1 hs' h
      cases e with
      | normal => exact (he rfl).elim
      | exit j =>
        dsimp only [Kt9_0] at h
        cases hb : Nat.beq j 0
        case' true =>
          rw [hb] at h
          have hj := Nat.eq_of_beq_eq_true hb
          subst hj
          dsimp only at h
          exact hq _ _ _ _ (hs1.next hf1 hs' (E2 := [(6, (.pointer (some x13)))]) ⟨.inl ⟨by kernel_rfl, rfl⟩, True.intro⟩) hf0 h
        rw [hb] at h
        dsimp only at h
        all_goals exact h.elim
      | ret => exact hq _ _ _ _ hs' hf0 (hr _ _ h)
      | _ => exact h.elim
  · exact h1.elim
/-- jackstay/wheel.New -/
def S9 (x1 : Int) (x2 : Int) (w : World) (K : Value → World → Prop) : Prop :=
  br (decide ((x1 : Int) < 1))
  (K (.tuple #[(.pointer none), (.int .i64 2)]) w)
  (br (decide ((x1 : Int) > 1024))
  (K (.tuple #[(.pointer none), (.int .i64 2)]) w)
  (br (decide ((x2 : Int) < 0))
  (K (.tuple #[(.pointer none), (.int .i64 2)]) w)
  (br (decide ((x2 : Int) > 1024))
  (K (.tuple #[(.pointer none), (.int .i64 2)]) w)
  (runV Try.prog (Instr.makeSlice 56 (.int .i64 x1) (.int .i64 x1)) w fun v3 w => ∃ (p4 : Option Addr) (l5 c6 : Nat), v3 = (.slice p4 l5 c6) ∧ runV Try.prog (Instr.makeMap 50 none) w fun v7 w => ∃ m8 : Option Nat, v7 = (.map m8) ∧ al w (.cells #[(.slice p4 l5 c6), (.map m8), (.int .i64 x2), (.int .i64 0)] 58) fun r9 w => ∃ (p10 : Option Addr) (l11 c12 : Nat), w.cell? ⟨r9, 0, none⟩ = some (.slice p10 l11 c12) ∧ LS9_0 (⟨r9, 0, none⟩) (l11 : Int) 0 w
  (fun w => K (.tuple #[(.pointer (some ⟨r9, 0, none⟩)), (.int .i64 0)]) w) K))))
theorem eq9 (x1 : Int) (x2 : Int) (w : World) (K : Value → World → Prop) : G Try.prog [9, 10, 11, 13, 15, 16, 18, 19, 20, 21, 22, 23, 24] 45 [0, 1, 4, 5, 6, 7, 21, 32, 33, 34] (H9 K) 0 (bodyOf Try.f9) (retG Try.prog Try.f9.results.toList K) (env0 0 [(.int .i64 x1), (.int .i64 x2)]) w = S9 x1 x2 w K := by kernel_rfl
theorem ok9 {x1 : Int} {x2 : Int} {w : World} {K : Value → World → Prop} (h : S9 x1 x2 w K) : callV Try.prog 9 #[(.int .i64 x1), (.int .i64 x2)] w K :=
  call_sound (qs := [9, 10, 11, 13, 15, 16, 18, 19, 20, 21, 22, 23, 24]) (args := [(.int .i64 x1), (.int .i64 x2)]) (by kernel_rfl) (Try.func9) (c := bodyOf Try.f9) (by kernel_rfl) (by kernel_rfl) (allL (show loops [9, 10, 11, 13, 15, 16, 18, 19, 20, 21, 22, 23, 24] 0 (bodyOf Try.f9) = [(0, .loop (loopOf 0 Try.f9))] by kernel_rfl) ⟨lok9_0 K, True.intro⟩) (Eq.mpr (eq9 x1 x2 w K) h)
def H10 (_F : Value → World → Prop) : Nat → Kont → Env → World → Prop := fun _ _ _ _ => False
/-- jackstay/jackstaylaw13.awake -/
def S10 (w : World) (K : Value → World → Prop) : Prop :=
  callQ Try.prog 9 #[(.int .i64 4), (.int .i64 2)] w fun v1 w => ∃ p2 : Option Addr, ∃ n3 : Int, v1 = (.tuple #[(.pointer p2), (.int .i64 n3)]) ∧ br ((n3 : Int) != 0)
  (K (.bool false) w)
  (callV Try.prog 12 #[(.pointer p2), (.int .i64 7), (.int .i64 3)] w fun v4 w => ∃ n5 : Int, v4 = (.int .i64 n5) ∧ callV Try.prog 12 #[(.pointer p2), (.int .i64 2), (.int .i64 3)] w fun v6 w => ∃ n7 : Int, v6 = (.int .i64 n7) ∧ callV Try.prog 12 #[(.pointer p2), (.int .i64 9), (.int .i64 1)] w fun v8 w => ∃ n9 : Int, v8 = (.int .i64 n9) ∧ callV Try.prog 12 #[(.pointer p2), (.int .i64 7), (.int .i64 1)] w fun v10 w => ∃ n11 : Int, v10 = (.int .i64 n11) ∧ callV Try.prog 17 #[(.pointer p2)] w fun v12 w => ∃ (p13 : Option Addr) (l14 c15 : Nat), v12 = (.slice p13 l14 c15) ∧ callQ Try.prog 18 #[(.pointer p2), (.int .i64 2)] w fun v16 w => ∃ n17 : Int, ∃ b18 : Bool, v16 = (.tuple #[(.int .i64 n17), (.bool b18)]) ∧ callV Try.prog 17 #[(.pointer p2)] w fun v19 w => ∃ (p20 : Option Addr) (l21 c22 : Nat), v19 = (.slice p20 l21 c22) ∧ callV Try.prog 17 #[(.pointer p2)] w fun v23 w => ∃ (p24 : Option Addr) (l25 c26 : Nat), v23 = (.slice p24 l25 c26) ∧ callV Try.prog 12 #[(.pointer p2), (.int .i64 2), (.int .i64 5)] w fun v27 w => ∃ n28 : Int, v27 = (.int .i64 n28) ∧ br ((n5 : Int) == 0)
  (br ((n7 : Int) == 0)
  (br ((n9 : Int) == 5)
  (br ((n11 : Int) == 0)
  (al w (.cells #[(.int .i64 7)] 3) fun r29 w => callQ Try.prog 16 #[(.slice p13 l14 c15), (.slice (some ⟨r29, 0, none⟩) 1 1)] w fun v30 w => ∃ b31 : Bool, v30 = (.bool b31) ∧ br b31
  (br b18
  (br ((n17 : Int) == 2)
  (br (((l21 : Int) : Int) == 0)
  (al w (.cells #[(.int .i64 2)] 3) fun r32 w => callQ Try.prog 16 #[(.slice p24 l25 c26), (.slice (some ⟨r32, 0, none⟩) 1 1)] w fun v33 w => ∃ b34 : Bool, v33 = (.bool b34) ∧ br b34
  (callQ Try.prog 20 #[(.pointer p2)] w fun v35 w => ∃ n36 : Int, v35 = (.int .i64 n36) ∧ br ((n36 : Int) == 3)
  (callV Try.prog 14 #[(.pointer p2), (.int .i64 2)] w fun v37 w => ∃ b38 : Bool, v37 = (.bool b38) ∧ br b38
  (callV Try.prog 14 #[(.pointer p2), (.int .i64 2)] w fun v39 w => ∃ b40 : Bool, v39 = (.bool b40) ∧ K (.bool (!b40)) w)
  (K (.bool false) w))
  (K (.bool false) w))
  (K (.bool false) w))
  (K (.bool false) w))
  (K (.bool false) w))
  (K (.bool false) w))
  (K (.bool false) w))
  (K (.bool false) w))
  (K (.bool false) w))
  (K (.bool false) w))
  (K (.bool false) w))
theorem eq10 (w : World) (K : Value → World → Prop) : G Try.prog [9, 10, 11, 13, 15, 16, 18, 19, 20, 21, 22, 23, 24] 89 [0, 1, 2, 3, 4, 5, 6, 7, 8, 9, 10, 11, 17] (H10 K) 0 (bodyOf Try.f10) (retG Try.prog Try.f10.results.toList K) (env0 0 []) w = S10 w K := by kernel_rfl
theorem ok10 {w : World} {K : Value → World → Prop} (h : S10 w K) : callV Try.prog 10 #[] w K :=
  call_sound (qs := [9, 10, 11, 13, 15, 16, 18, 19, 20, 21, 22, 23, 24]) (args := []) (by kernel_rfl) (Try.func10) (c := bodyOf Try.f10) (by kernel_rfl) (by kernel_rfl) (allL (show loops [9, 10, 11, 13, 15, 16, 18, 19, 20, 21, 22, 23, 24] 0 (bodyOf Try.f10) = [] by kernel_rfl) True.intro) (Eq.mpr (eq10 w K) h)
def H12 (_F : Value → World → Prop) : Nat → Kont → Env → World → Prop := fun _ _ _ _ => False
/-- (*jackstay/wheel.Wheel).Set -/
def S12 (x1 : Option Addr) (x2 : Int) (x3 : Int) (w : World) (K : Value → World → Prop) : Prop :=
  callQ Try.prog 23 #[(.pointer x1)] w fun v4 w => ∃ b5 : Bool, v4 = (.bool b5) ∧ br b5
  (K (.int .i64 1) w)
  (need x1 fun a6 => ∃ m7 : Option Nat, w.cell? (a6.add 1) = some (.map m7) ∧ rdV Try.prog (Instr.lookup 50 (.map m7) (.int .i64 x2) true) w fun v8 => ∃ n9 : Int, ∃ b10 : Bool, v8 = (.tuple #[(.int .i64 n9), (.bool b10)]) ∧ jn (fun (w : World) =>
  callV Try.prog 14 #[(.pointer x1), (.int .i64 x2)] w fun v20 w => ∃ b21 : Bool, v20 = (.bool b21) ∧ need x1 fun a22 => ∃ n23 : Int, w.cell? (a22.add 3) = some (.int .i64 n23) ∧ need x1 fun a24 => ∃ (p25 : Option Addr) (l26 c27 : Nat), w.cell? a24 = some (.slice p25 l26 c27) ∧ remK .i64 (IntKind.wrap .i64 (n23 + x3)) (l26 : Int) fun n28 => dr w fun w =>
  need x1 fun a29 => ∃ (p30 : Option Addr) (l31 c32 : Nat), w.cell? a29 = some (.slice p30 l31 c32) ∧ idx p30 l31 1 n28 fun a33 => ∃ m34 : Option Nat, w.cell? a33 = some (.map m34) ∧ need x1 fun a35 => ∃ m36 : Option Nat, w.cell? (a35.add 1) = some (.map m36) ∧ runV Try.prog (Instr.mapEntry 50 (.map m34) (.int .i64 x2)) w fun v37 w => ∃ n38 : Int, ∃ n39 : Int, v37 = (.tuple #[(.int .i64 n38), (.int .i64 n39)]) ∧ runU Try.prog (Instr.entryStore 50 (.map m34) (.int .i64 n39) (.int .i64 (IntKind.wrap .i64 (n23 + x3)))) w fun w => runV Try.prog (Instr.mapEntry 50 (.map m36) (.int .i64 x2)) w fun v40 w => ∃ n41 : Int, ∃ n42 : Int, v40 = (.tuple #[(.int .i64 n41), (.int .i64 n42)]) ∧ runU Try.prog (Instr.entryStore 50 (.map m36) (.int .i64 n42) (.int .i64 n28)) w fun w => K (.int .i64 0) w) fun J19 =>
  jn (fun (x11 : Bool) (w : World) =>
  br x11
  (K (.int .i64 2) w)
  (dr w fun w =>
  br (!b10)
  (need x1 fun a13 => ∃ m14 : Option Nat, w.cell? (a13.add 1) = some (.map m14) ∧ rdV Try.prog (Builtin.len_ #[50] 3 #[(.map m14)]) w fun v15 => ∃ n16 : Int, v15 = (.int .i64 n16) ∧ need x1 fun a17 => ∃ n18 : Int, w.cell? (a17.add 2) = some (.int .i64 n18) ∧ br (decide ((n16 : Int) ≥ n18))
  (K (.int .i64 5) w)
  (J19 w))
  (J19 w))) fun J12 =>
  br (decide ((x2 : Int) < 0))
  (J12 true w)
  (br (decide ((x2 : Int) > 1023))
  (J12 true w)
  (br (decide ((x3 : Int) < 1))
  (J12 true w)
  (J12 (decide ((x3 : Int) > 1099511627776)) w))))
theorem eq12 (x1 : Option Addr) (x2 : Int) (x3 : Int) (w : World) (K : Value → World → Prop) : G Try.prog [9, 10, 11, 13, 15, 16, 18, 19, 20, 21, 22, 23, 24] 87 [0, 1, 2, 6, 8, 9, 10, 12, 22, 37] (H12 K) 0 (bodyOf Try.f12) (retG Try.prog Try.f12.results.toList K) (env0 0 [(.pointer x1), (.int .i64 x2), (.int .i64 x3)]) w = S12 x1 x2 x3 w K := by kernel_rfl
theorem ok12 {x1 : Option Addr} {x2 : Int} {x3 : Int} {w : World} {K : Value → World → Prop} (h : S12 x1 x2 x3 w K) : callV Try.prog 12 #[(.pointer x1), (.int .i64 x2), (.int .i64 x3)] w K :=
  call_sound (qs := [9, 10, 11, 13, 15, 16, 18, 19, 20, 21, 22, 23, 24]) (args := [(.pointer x1), (.int .i64 x2), (.int .i64 x3)]) (by kernel_rfl) (Try.func12) (c := bodyOf Try.f12) (by kernel_rfl) (by kernel_rfl) (allL (show loops [9, 10, 11, 13, 15, 16, 18, 19, 20, 21, 22, 23, 24] 0 (bodyOf Try.f12) = [] by kernel_rfl) True.intro) (Eq.mpr (eq12 x1 x2 x3 w K) h)
def H14 (_F : Value → World → Prop) : Nat → Kont → Env → World → Prop := fun _ _ _ _ => False
/-- (*jackstay/wheel.Wheel).Cancel -/
def S14 (x1 : Option Addr) (x2 : Int) (w : World) (K : Value → World → Prop) : Prop :=
  callQ Try.prog 23 #[(.pointer x1)] w fun v3 w => ∃ b4 : Bool, v3 = (.bool b4) ∧ br b4
  (K (.bool false) w)
  (need x1 fun a5 => ∃ m6 : Option Nat, w.cell? (a5.add 1) = some (.map m6) ∧ rdV Try.prog (Instr.lookup 50 (.map m6) (.int .i64 x2) true) w fun v7 => ∃ n8 : Int, ∃ b9 : Bool, v7 = (.tuple #[(.int .i64 n8), (.bool b9)]) ∧ br b9
  (need x1 fun a10 => ∃ (p11 : Option Addr) (l12 c13 : Nat), w.cell? a10 = some (.slice p11 l12 c13) ∧ idx p11 l12 1 n8 fun a14 => ∃ m15 : Option Nat, w.cell? a14 = some (.map m15) ∧ runV Try.prog (Builtin.delete_ #[50, 3] 0 #[(.map m15), (.int .i64 x2)]) w fun v16 w => v16 = (.tuple #[]) ∧ need x1 fun a17 => ∃ m18 : Option Nat, w.cell? (a17.add 1) = some (.map m18) ∧ runV Try.prog (Builtin.delete_ #[50, 3] 0 #[(.map m18), (.int .i64 x2)]) w fun v19 w => v19 = (.tuple #[]) ∧ K (.bool b9) w)
  (K (.bool b9) w))
theorem eq14 (x1 : Option Addr) (x2 : Int) (w : World) (K : Value → World → Prop) : G Try.prog [9, 10, 11, 13, 15, 16, 18, 19, 20, 21, 22, 23, 24] 33 [0, 1, 4, 5, 6, 8, 18] (H14 K) 0 (bodyOf Try.f14) (retG Try.prog Try.f14.results.toList K) (env0 0 [(.pointer x1), (.int .i64 x2)]) w = S14 x1 x2 w K := by kernel_rfl
theorem ok14 {x1 : Option Addr} {x2 : Int} {w : World} {K : Value → World → Prop} (h : S14 x1 x2 w K) : callV Try.prog 14 #[(.pointer x1), (.int .i64 x2)] w K :=
  call_sound (qs := [9, 10, 11, 13, 15, 16, 18, 19, 20, 21, 22, 23, 24]) (args := [(.pointer x1), (.int .i64 x2)]) (by kernel_rfl) (Try.func14) (c := bodyOf Try.f14) (by kernel_rfl) (by kernel_rfl) (allL (show loops [9, 10, 11, 13, 15, 16, 18, 19, 20, 21, 22, 23, 24] 0 (bodyOf Try.f14) = [] by kernel_rfl) True.intro) (Eq.mpr (eq14 x1 x2 w K) h)
def B16_0 (x7 : Option Addr) (l8 : Nat) (c9 : Nat) (x10 : Option Addr) (l11 : Nat) (c12 : Nat) (x13 : Int) (x14 : Int) (w : World) (N : Int → World → Prop) (X0 : World → Prop) (K : Value → World → Prop) : Prop :=
  br (decide ((x14 : Int) < x13))
  (dr w fun w =>
  idx x7 l8 1 x14 fun a15 => ∃ n16 : Int, w.cell? a15 = some (.int .i64 n16) ∧ idx x10 l11 1 x14 fun a17 => ∃ n18 : Int, w.cell? a17 = some (.int .i64 n18) ∧ br ((n16 : Int) != n18)
  (K (.bool false) w)
  (N (IntKind.wrap .i64 (x14 + 1)) w))
  (X0 w)
/-- The loop in block 0 of function 16: by what holds at its head. -/
def LS16_0 (x7 : Option Addr) (l8 : Nat) (c9 : Nat) (x10 : Option Addr) (l11 : Nat) (c12 : Nat) (x13 : Int) (x14 : Int) (w : World) (X0 : World → Prop) (K : Value → World → Prop) : Prop :=
  ∃ J : Nat → Int → World → Prop, (∃ n, J n x14 w) ∧ ∀ n x14 w, J n x14 w → B16_0 x7 l8 c9 x10 l11 c12 x13 x14 w (fun x14 w => ∃ m, m < n ∧ J m x14 w) X0 K
abbrev env16_0 (x7 : Option Addr) (l8 : Nat) (c9 : Nat) (x10 : Option Addr) (l11 : Nat) (c12 : Nat) (x13 : Int) (x14 : Int) : Env := [(0, (.slice x7 l8 c9)), (1, (.slice x10 l11 c12)), (12, (.int .i64 x13)), (13, (.int .i64 x14))]
def Kt16_0 (N : Int → World → Prop) (X0 : World → Prop) (K : Value → World → Prop) : Kont := fun e E w => match e with
  | .normal => gI .i64 E 13 fun x14 => N x14 w
  | .exit j => match Nat.beq j 0 with | true => (X0 w) | false => (False)
  | .ret => retG Try.prog Try.f16.results.toList K .ret E w
  | _ => False
def HL16_0 (F : Value → World → Prop) (K : Kont) (E : Env) (w : World) : Prop := match keep [0, 1, 12, 13] E with
  | [(0, (.slice x7 l8 c9)), (1, (.slice x10 l11 c12)), (12, (.int .i64 x13)), (13, (.int .i64 x14))] => LS16_0 x7 l8 c9 x10 l11 c12 x13 x14 w (fun w => K (.exit 0) [] w) F
  | _ => False
def H16 (F : Value → World → Prop) : Nat → Kont → Env → World → Prop := fun b K E w => match Nat.beq b 0 with | true => HL16_0 F K E w | false => (False)
theorem Beq16_0 (x7 : Option Addr) (l8 : Nat) (c9 : Nat) (x10 : Option Addr) (l11 : Nat) (c12 : Nat) (x13 : Int) (x14 : Int) (w : World) (N : Int → World → Prop) (X0 : World → Prop) (K : Value → World → Prop) :
    G Try.prog [9, 10, 11, 13, 15, 16, 18, 19, 20, 21, 22, 23, 24] 26 [0, 1, 4, 5, 10, 12, 13, 14, 24] (H16 K) 0 (loopOf 0 Try.f16) (Kt16_0 N X0 K) (env16_0 x7 l8 c9 x10 l11 c12 x13 x14) w = B16_0 x7 l8 c9 x10 l11 c12 x13 x14 w N X0 K := by kernel_rfl
theorem lok16_0 (F : Value → World → Prop) : LoopOk Try.prog 26 Try.f16.results.toList F (H16 F) 0 (.loop (loopOf 0 Try.f16)) := by
  intro K E a w Q hr h hs hq
  have hs0 := hs.keep [0, 1, 12, 13]
  have h1 : HL16_0 F K E w := h
  unfold HL16_0 at h1
  split at h1
  · rename_i x7 l8 c9 x10 l11 c12 x13 x14 heq
    obtain ⟨J, ⟨n, hJ⟩, hround⟩ := h1
    rw [heq] at hs0
    refine loop_typed (qs := [9, 10, 11, 13, 15, 16, 18, 19, 20, 21, 22, 23, 24]) (L := [0, 1, 4, 5, 10, 12, 13, 14, 24]) (rs := Try.f16.results.toList) (F := F) (H := H16 F) (b := 0) (by kernel_rfl) (allL (show loops [9, 10, 11, 13, 15, 16, 18, 19, 20, 21, 22, 23, 24] 0 (loopOf 0 Try.f16) = [] by kernel_rfl) True.intro) (σ := Int) (fun s => env16_0 x7 l8 c9 x10 l11 c12 x13 s) (fun n s w => J n s w)
      (fun n => Kt16_0 (fun x14 w => ∃ m, m < n ∧ J m x14 w) (fun w => K (.exit 0) [] w) F) (fun _ _ _ h => h) ?_ ?_ a ?_ n x14 a w hJ (Fr.refl _ _) hs0
    · intro n s w hJ
      exact Eq.mpr (Beq16_0 x7 l8 c9 x10 l11 c12 x13 s w _ _ F) (hround n s w hJ)
    · intro n s E' w' h
      obtain ⟨x14, e13, h⟩ := gI_get h
      obtain ⟨m, hm, hJ⟩ := h
      exact ⟨m, x14, hm, hJ, ⟨.inl ⟨by kernel_rfl, rfl⟩, .inl ⟨by kernel_rfl, rfl⟩, .inl ⟨by kernel_rfl, rfl⟩, .inr e13, True.intro⟩⟩
    · intro n s a1 e E' a' w' he hs1 hf0 hf1 hs' h
      cases e with
      | normal => exact (he rfl).elim
      | exit j =>
        dsimp only [Kt16_0] at h
        cases hb : Nat.beq j 0
        case' true =>
          rw [hb] at h
          have hj := Nat.eq_of_beq_eq_true hb
          subst hj
          dsimp only at h
          exact hq _ _ _ _ (hs1.next hf1 hs' (E2 := []) True.intro) hf0 h
        rw [hb] at h
        dsimp only at h
        all_goals exact h.elim
      | ret => exact hq _ _ _ _ hs' hf0 (hr _ _ h)
      | _ => exact h.elim
  · exact h1.elim
/-- jackstay/jackstaylaw13.ints -/
def S16 (x1 : Option Addr) (l2 : Nat) (c3 : Nat) (x4 : Option Addr) (l5 : Nat) (c6 : Nat) (w : World) (K : Value → World → Prop) : Prop :=
  br (((l2 : Int) : Int) != (l5 : Int))
  (K (.bool false) w)
  (LS16_0 x1 l2 c3 x4 l5 c6 (l2 : Int) 0 w
  (fun w => K (.bool true) w) K)
theorem eq16 (x1 : Option Addr) (l2 : Nat) (c3 : Nat) (x4 : Option Addr) (l5 : Nat) (c6 : Nat) (w : World) (K : Value → World → Prop) : G Try.prog [9, 10, 11, 13, 15, 16, 18, 19, 20, 21, 22, 23, 24] 26 [0, 1, 4, 5, 10, 12, 13, 14, 24] (H16 K) 0 (bodyOf Try.f16) (retG Try.prog Try.f16.results.toList K) (env0 0 [(.slice x1 l2 c3), (.slice x4 l5 c6)]) w = S16 x1 l2 c3 x4 l5 c6 w K := by kernel_rfl
theorem ok16 {x1 : Option Addr} {l2 : Nat} {c3 : Nat} {x4 : Option Addr} {l5 : Nat} {c6 : Nat} {w : World} {K : Value → World → Prop} (h : S16 x1 l2 c3 x4 l5 c6 w K) : callV Try.prog 16 #[(.slice x1 l2 c3), (.slice x4 l5 c6)] w K :=
  call_sound (qs := [9, 10, 11, 13, 15, 16, 18, 19, 20, 21, 22, 23, 24]) (args := [(.slice x1 l2 c3), (.slice x4 l5 c6)]) (by kernel_rfl) (Try.func16) (c := bodyOf Try.f16) (by kernel_rfl) (by kernel_rfl) (allL (show loops [9, 10, 11, 13, 15, 16, 18, 19, 20, 21, 22, 23, 24] 0 (bodyOf Try.f16) = [(0, .loop (loopOf 0 Try.f16))] by kernel_rfl) ⟨lok16_0 K, True.intro⟩) (Eq.mpr (eq16 x1 l2 c3 x4 l5 c6 w K) h)
def B17_0 (x38 : Addr) (x39 : Option Addr) (l40 : Nat) (c41 : Nat) (x42 : Option Addr) (l43 : Nat) (c44 : Nat) (x45 : Int) (x46 : Int) (w : World) (N : Int → World → Prop) (X0 : World → Prop) (K : Value → World → Prop) : Prop :=
  br (decide ((x46 : Int) < x45))
  (idx x42 l43 1 x46 fun a47 => ∃ n48 : Int, w.cell? a47 = some (.int .i64 n48) ∧ ∃ p49 : Option Addr, w.cell? x38 = some (.pointer p49) ∧ callV Try.prog 14 #[(.pointer p49), (.int .i64 n48)] w fun v50 w => ∃ b51 : Bool, v50 = (.bool b51) ∧ N (IntKind.wrap .i64 (x46 + 1)) w)
  (X0 w)
/-- The loop in block 0 of function 17: by what holds at its head. -/
def LS17_0 (x38 : Addr) (x39 : Option Addr) (l40 : Nat) (c41 : Nat) (x42 : Option Addr) (l43 : Nat) (c44 : Nat) (x45 : Int) (x46 : Int) (w : World) (X0 : World → Prop) (K : Value → World → Prop) : Prop :=
  ∃ J : Nat → Int → World → Prop, (∃ n, J n x46 w) ∧ ∀ n x46 w, J n x46 w → B17_0 x38 x39 l40 c41 x42 l43 c44 x45 x46 w (fun x46 w => ∃ m, m < n ∧ J m x46 w) X0 K
abbrev env17_0 (x38 : Addr) (x39 : Option Addr) (l40 : Nat) (c41 : Nat) (x42 : Option Addr) (l43 : Nat) (c44 : Nat) (x45 : Int) (x46 : Int) : Env := [(1, (.pointer (some x38))), (5, (.slice x39 l40 c41)), (39, (.slice x42 l43 c44)), (40, (.int .i64 x45)), (41, (.int .i64 x46))]
def Kt17_0 (N : Int → World → Prop) (X0 : World → Prop) (K : Value → World → Prop) : Kont := fun e E w => match e with
  | .normal => gI .i64 E 41 fun x46 => N x46 w
  | .exit j => match Nat.beq j 0 with | true => (X0 w) | false => (False)
  | .ret => retG Try.prog Try.f17.results.toList K .ret E w
  | _ => False
def HL17_0 (F : Value → World → Prop) (K : Kont) (E : Env) (w : World) : Prop := match keep [1, 5, 39, 40, 41] E with
  | [(1, (.pointer (some x38))), (5, (.slice x39 l40 c41)), (39, (.slice x42 l43 c44)), (40, (.int .i64 x45)), (41, (.int .i64 x46))] => LS17_0 x38 x39 l40 c41 x42 l43 c44 x45 x46 w (fun w => K (.exit 0) [(5, (.slice x39 l40 c41))] w) F
  | _ => False
def H17 (F : Value → World → Prop) : Nat → Kont → Env → World → Prop := fun b K E w => match Nat.beq b 0 with | true => HL17_0 F K E w | false => (False)
theorem Beq17_0 (x38 : Addr) (x39 : Option Addr) (l40 : Nat) (c41 : Nat) (x42 : Option Addr) (l43 : Nat) (c44 : Nat) (x45 : Int) (x46 : Int) (w : World) (N : Int → World → Prop) (X0 : World → Prop) (K : Value → World → Prop) :
    G Try.prog [9, 10, 11, 13, 15, 16, 18, 19, 20, 21, 22, 23, 24] 51 [0, 1, 2, 3, 4, 5, 7, 9, 39, 40, 41, 42] (H17 K) 0 (loopOf 0 Try.f17) (Kt17_0 N X0 K) (env17_0 x38 x39 l40 c41 x42 l43 c44 x45 x46) w = B17_0 x38 x39 l40 c41 x42 l43 c44 x45 x46 w N X0 K := by kernel_rfl
theorem lok17_0 (F : Value → World → Prop) : LoopOk Try.prog 51 Try.f17.results.toList F (H17 F) 0 (.loop (loopOf 0 Try.f17)) := by
  intro K E a w Q hr h hs hq
  have hs0 := hs.keep [1, 5, 39, 40, 41]
  have h1 : HL17_0 F K E w := h
  unfold HL17_0 at h1
  split at h1
  · rename_i x38 x39 l40 c41 x42 l43 c44 x45 x46 heq
    obtain ⟨J, ⟨n, hJ⟩, hround⟩ := h1
    rw [heq] at hs0
    refine loop_typed (qs := [9, 10, 11, 13, 15, 16, 18, 19, 20, 21, 22, 23, 24]) (L := [0, 1, 2, 3, 4, 5, 7, 9, 39, 40, 41, 42]) (rs := Try.f17.results.toList) (F := F) (H := H17 F) (b := 0) (by kernel_rfl) (allL (show loops [9, 10, 11, 13, 15, 16, 18, 19, 20, 21, 22, 23, 24] 0 (loopOf 0 Try.f17) = [] by kernel_rfl) True.intro) (σ := Int) (fun s => env17_0 x38 x39 l40 c41 x42 l43 c44 x45 s) (fun n s w => J n s w)
      (fun n => Kt17_0 (fun x46 w => ∃ m, m < n ∧ J m x46 w) (fun w => K (.exit 0) [(5, (.slice x39 l40 c41))] w) F) (fun _ _ _ h => h) ?_ ?_ a ?_ n x46 a w hJ (Fr.refl _ _) hs0
    · intro n s w hJ
      exact Eq.mpr (Beq17_0 x38 x39 l40 c41 x42 l43 c44 x45 s w _ _ F) (hround n s w hJ)
    · intro n s E' w' h
      obtain ⟨x46, e41, h⟩ := gI_get h
      obtain ⟨m, hm, hJ⟩ := h
      exact ⟨m, x46, hm, hJ, ⟨.inl ⟨by kernel_rfl, rfl⟩, .inl ⟨by kernel_rfl, rfl⟩, .inl ⟨by kernel_rfl, rfl⟩, .inl ⟨by kernel_rfl, rfl⟩, .inr e41, True.intro⟩⟩
    · intro n s a1 e E' a' w' he hs1 hf0 hf1 hs' h
      cases e with
      | normal => exact (he rfl).elim
      | exit j =>
        dsimp only [Kt17_0] at h
        cases hb : Nat.beq j 0
        case' true =>
          rw [hb] at h
          have hj := Nat.eq_of_beq_eq_true hb
          subst hj
          dsimp only at h
          exact hq _ _ _ _ (hs1.next hf1 hs' (E2 := [(5, (.slice x39 l40 c41))]) ⟨.inl ⟨by kernel_rfl, rfl⟩, True.intro⟩) hf0 h
        rw [hb] at h
        dsimp only at h
        all_goals exact h.elim
      | ret => exact hq _ _ _ _ hs' hf0 (hr _ _ h)
      | _ => exact h.elim
  · exact h1.elim
/-- (*jackstay/wheel.Wheel).Tick -/
def S17 (x1 : Option Addr) (w : World) (K : Value → World → Prop) : Prop :=
  al w (.cells #[(.pointer x1)] 23) fun r2 w => ∃ p3 : Option Addr, w.cell? ⟨r2, 0, none⟩ = some (.pointer p3) ∧ callQ Try.prog 23 #[(.pointer p3)] w fun v4 w => ∃ b5 : Bool, v4 = (.bool b5) ∧ br b5
  (K (.slice none 0 0) w)
  (∃ p6 : Option Addr, w.cell? ⟨r2, 0, none⟩ = some (.pointer p6) ∧ need p6 fun a7 => ∃ n8 : Int, w.cell? (a7.add 3) = some (.int .i64 n8) ∧ need p6 fun a9 => stL w (a9.add 3) 0 [(.int .i64 (IntKind.wrap .i64 (n8 + 1)))] fun w => dr w fun w =>
  ∃ p10 : Option Addr, w.cell? ⟨r2, 0, none⟩ = some (.pointer p10) ∧ need p10 fun a11 => ∃ (p12 : Option Addr) (l13 c14 : Nat), w.cell? a11 = some (.slice p12 l13 c14) ∧ ∃ p15 : Option Addr, w.cell? ⟨r2, 0, none⟩ = some (.pointer p15) ∧ need p15 fun a16 => ∃ n17 : Int, w.cell? (a16.add 3) = some (.int .i64 n17) ∧ ∃ p18 : Option Addr, w.cell? ⟨r2, 0, none⟩ = some (.pointer p18) ∧ need p18 fun a19 => ∃ (p20 : Option Addr) (l21 c22 : Nat), w.cell? a19 = some (.slice p20 l21 c22) ∧ remK .i64 n17 (l21 : Int) fun n23 => idx p12 l13 1 n23 fun a24 => ∃ m25 : Option Nat, w.cell? a24 = some (.map m25) ∧ al w (.cells #[(.map none)] 50) fun r26 w => stL w ⟨r26, 0, none⟩ 0 [(.map m25)] fun w => ∃ m27 : Option Nat, w.cell? ⟨r26, 0, none⟩ = some (.map m27) ∧ callV Try.prog 27 #[(.map m27)] w fun v28 w => ∃ v29 : Value, v28 = v29 ∧ callV Try.prog 26 #[v29] w fun v30 w => ∃ (p31 : Option Addr) (l32 c33 : Nat), v30 = (.slice p31 l32 c33) ∧ callV Try.prog 25 #[(.slice p31 l32 c33), (.func (.func 24) #[] #[(.pointer (some ⟨r26, 0, none⟩)), (.pointer (some ⟨r2, 0, none⟩))])] w fun v34 w => ∃ (p35 : Option Addr) (l36 c37 : Nat), v34 = (.slice p35 l36 c37) ∧ LS17_0 (⟨r2, 0, none⟩) p35 l36 c37 p35 l36 c37 (l36 : Int) 0 w
  (fun w => callV Try.prog 28 #[(.slice p35 l36 c37)] w fun v52 w => ∃ (p53 : Option Addr) (l54 c55 : Nat), v52 = (.slice p53 l54 c55) ∧ K (.slice p53 l54 c55) w) K)
theorem eq17 (x1 : Option Addr) (w : World) (K : Value → World → Prop) : G Try.prog [9, 10, 11, 13, 15, 16, 18, 19, 20, 21, 22, 23, 24] 51 [0, 1, 2, 3, 4, 5, 7, 9, 39, 40, 41, 42] (H17 K) 0 (bodyOf Try.f17) (retG Try.prog Try.f17.results.toList K) (env0 0 [(.pointer x1)]) w = S17 x1 w K := by kernel_rfl
theorem ok17 {x1 : Option Addr} {w : World} {K : Value → World → Prop} (h : S17 x1 w K) : callV Try.prog 17 #[(.pointer x1)] w K :=
  call_sound (qs := [9, 10, 11, 13, 15, 16, 18, 19, 20, 21, 22, 23, 24]) (args := [(.pointer x1)]) (by kernel_rfl) (Try.func17) (c := bodyOf Try.f17) (by kernel_rfl) (by kernel_rfl) (allL (show loops [9, 10, 11, 13, 15, 16, 18, 19, 20, 21, 22, 23, 24] 0 (bodyOf Try.f17) = [(0, .loop (loopOf 0 Try.f17))] by kernel_rfl) ⟨lok17_0 K, True.intro⟩) (Eq.mpr (eq17 x1 w K) h)
def H18 (_F : Value → World → Prop) : Nat → Kont → Env → World → Prop := fun _ _ _ _ => False
/-- (*jackstay/wheel.Wheel).Left -/
def S18 (x1 : Option Addr) (x2 : Int) (w : World) (K : Value → World → Prop) : Prop :=
  callQ Try.prog 23 #[(.pointer x1)] w fun v3 w => ∃ b4 : Bool, v3 = (.bool b4) ∧ br b4
  (K (.tuple #[(.int .i64 0), (.bool false)]) w)
  (need x1 fun a5 => ∃ m6 : Option Nat, w.cell? (a5.add 1) = some (.map m6) ∧ rdV Try.prog (Instr.lookup 50 (.map m6) (.int .i64 x2) true) w fun v7 => ∃ n8 : Int, ∃ b9 : Bool, v7 = (.tuple #[(.int .i64 n8), (.bool b9)]) ∧ br (!b9)
  (K (.tuple #[(.int .i64 0), (.bool false)]) w)
  (dr w fun w =>
  need x1 fun a10 => ∃ (p11 : Option Addr) (l12 c13 : Nat), w.cell? a10 = some (.slice p11 l12 c13) ∧ idx p11 l12 1 n8 fun a14 => ∃ m15 : Option Nat, w.cell? a14 = some (.map m15) ∧ rdV Try.prog (Instr.lookup 50 (.map m15) (.int .i64 x2) false) w fun v16 => ∃ n17 : Int, v16 = (.int .i64 n17) ∧ need x1 fun a18 => ∃ n19 : Int, w.cell? (a18.add 3) = some (.int .i64 n19) ∧ K (.tuple #[(.int .i64 (IntKind.wrap .i64 (n17 - n19))), (.bool true)]) w))
theorem eq18 (x1 : Option Addr) (x2 : Int) (w : World) (K : Value → World → Prop) : G Try.prog [9, 10, 11, 13, 15, 16, 18, 19, 20, 21, 22, 23, 24] 35 [0, 1, 4, 5, 6, 7, 9, 20] (H18 K) 0 (bodyOf Try.f18) (retG Try.prog Try.f18.results.toList K) (env0 0 [(.pointer x1), (.int .i64 x2)]) w = S18 x1 x2 w K := by kernel_rfl
theorem ok18 {x1 : Option Addr} {x2 : Int} {w : World} {K : Value → World → Prop} (h : S18 x1 x2 w K) : callV Try.prog 18 #[(.pointer x1), (.int .i64 x2)] w K :=
  call_sound (qs := [9, 10, 11, 13, 15, 16, 18, 19, 20, 21, 22, 23, 24]) (args := [(.pointer x1), (.int .i64 x2)]) (by kernel_rfl) (Try.func18) (c := bodyOf Try.f18) (by kernel_rfl) (by kernel_rfl) (allL (show loops [9, 10, 11, 13, 15, 16, 18, 19, 20, 21, 22, 23, 24] 0 (bodyOf Try.f18) = [] by kernel_rfl) True.intro) (Eq.mpr (eq18 x1 x2 w K) h)
def H20 (_F : Value → World → Prop) : Nat → Kont → Env → World → Prop := fun _ _ _ _ => False
/-- (*jackstay/wheel.Wheel).Now -/
def S20 (x1 : Option Addr) (w : World) (K : Value → World → Prop) : Prop :=
  callQ Try.prog 23 #[(.pointer x1)] w fun v2 w => ∃ b3 : Bool, v2 = (.bool b3) ∧ br b3
  (K (.int .i64 0) w)
  (need x1 fun a4 => ∃ n5 : Int, w.cell? (a4.add 3) = some (.int .i64 n5) ∧ K (.int .i64 n5) w)
theorem eq20 (x1 : Option Addr) (w : World) (K : Value → World → Prop) : G Try.prog [9, 10, 11, 13, 15, 16, 18, 19, 20, 21, 22, 23, 24] 9 [0, 2, 4] (H20 K) 0 (bodyOf Try.f20) (retG Try.prog Try.f20.results.toList K) (env0 0 [(.pointer x1)]) w = S20 x1 w K := by kernel_rfl
theorem ok20 {x1 : Option Addr} {w : World} {K : Value → World → Prop} (h : S20 x1 w K) : callV Try.prog 20 #[(.pointer x1)] w K :=
  call_sound (qs := [9, 10, 11, 13, 15, 16, 18, 19, 20, 21, 22, 23, 24]) (args := [(.pointer x1)]) (by kernel_rfl) (Try.func20) (c := bodyOf Try.f20) (by kernel_rfl) (by kernel_rfl) (allL (show loops [9, 10, 11, 13, 15, 16, 18, 19, 20, 21, 22, 23, 24] 0 (bodyOf Try.f20) = [] by kernel_rfl) True.intro) (Eq.mpr (eq20 x1 w K) h)
def H21 (_F : Value → World → Prop) : Nat → Kont → Env → World → Prop := fun _ _ _ _ => False
/-- (*jackstay/wheel.Wheel).Len -/
def S21 (x1 : Option Addr) (w : World) (K : Value → World → Prop) : Prop :=
  callQ Try.prog 23 #[(.pointer x1)] w fun v2 w => ∃ b3 : Bool, v2 = (.bool b3) ∧ br b3
  (K (.int .i64 0) w)
  (need x1 fun a4 => ∃ m5 : Option Nat, w.cell? (a4.add 1) = some (.map m5) ∧ rdV Try.prog (Builtin.len_ #[50] 3 #[(.map m5)]) w fun v6 => ∃ n7 : Int, v6 = (.int .i64 n7) ∧ K (.int .i64 n7) w)
theorem eq21 (x1 : Option Addr) (w : World) (K : Value → World → Prop) : G Try.prog [9, 10, 11, 13, 15, 16, 18, 19, 20, 21, 22, 23, 24] 10 [0, 2, 4] (H21 K) 0 (bodyOf Try.f21) (retG Try.prog Try.f21.results.toList K) (env0 0 [(.pointer x1)]) w = S21 x1 w K := by kernel_rfl
theorem ok21 {x1 : Option Addr} {w : World} {K : Value → World → Prop} (h : S21 x1 w K) : callV Try.prog 21 #[(.pointer x1)] w K :=
  call_sound (qs := [9, 10, 11, 13, 15, 16, 18, 19, 20, 21, 22, 23, 24]) (args := [(.pointer x1)]) (by kernel_rfl) (Try.func21) (c := bodyOf Try.f21) (by kernel_rfl) (by kernel_rfl) (allL (show loops [9, 10, 11, 13, 15, 16, 18, 19, 20, 21, 22, 23, 24] 0 (bodyOf Try.f21) = [] by kernel_rfl) True.intro) (Eq.mpr (eq21 x1 w K) h)
def H23 (_F : Value → World → Prop) : Nat → Kont → Env → World → Prop := fun _ _ _ _ => False
/-- (*jackstay/wheel.Wheel).none -/
def S23 (x1 : Option Addr) (w : World) (K : Value → World → Prop) : Prop :=
  br x1.isNone
  (K (.bool true) w)
  (need x1 fun a2 => ∃ (p3 : Option Addr) (l4 c5 : Nat), w.cell? a2 = some (.slice p3 l4 c5) ∧ K (.bool (((l4 : Int) : Int) == 0)) w)
theorem eq23 (x1 : Option Addr) (w : World) (K : Value → World → Prop) : G Try.prog [9, 10, 11, 13, 15, 16, 18, 19, 20, 21, 22, 23, 24] 13 [0, 2] (H23 K) 0 (bodyOf Try.f23) (retG Try.prog Try.f23.results.toList K) (env0 0 [(.pointer x1)]) w = S23 x1 w K := by kernel_rfl
theorem ok23 {x1 : Option Addr} {w : World} {K : Value → World → Prop} (h : S23 x1 w K) : callV Try.prog 23 #[(.pointer x1)] w K :=
  call_sound (qs := [9, 10, 11, 13, 15, 16, 18, 19, 20, 21, 22, 23, 24]) (args := [(.pointer x1)]) (by kernel_rfl) (Try.func23) (c := bodyOf Try.f23) (by kernel_rfl) (by kernel_rfl) (allL (show loops [9, 10, 11, 13, 15, 16, 18, 19, 20, 21, 22, 23, 24] 0 (bodyOf Try.f23) = [] by kernel_rfl) True.intro) (Eq.mpr (eq23 x1 w K) h)
def H24 (_F : Value → World → Prop) : Nat → Kont → Env → World → Prop := fun _ _ _ _ => False
/-- (*jackstay/wheel.Wheel).Tick$1 -/
def S24 (x1 : Int) (a2 : Addr) (a3 : Addr) (w : World) (K : Value → World → Prop) : Prop :=
  dr w fun w =>
  ∃ m4 : Option Nat, w.cell? a2 = some (.map m4) ∧ rdV Try.prog (Instr.lookup 50 (.map m4) (.int .i64 x1) false) w fun v5 => ∃ n6 : Int, v5 = (.int .i64 n6) ∧ ∃ p7 : Option Addr, w.cell? a3 = some (.pointer p7) ∧ need p7 fun a8 => ∃ n9 : Int, w.cell? (a8.add 3) = some (.int .i64 n9) ∧ K (.bool ((n6 : Int) != n9)) w
theorem eq24 (x1 : Int) (a2 : Addr) (a3 : Addr) (w : World) (K : Value → World → Prop) : G Try.prog [9, 10, 11, 13, 15, 16, 18, 19, 20, 21, 22, 23, 24] 13 [0, 1, 2, 4] (H24 K) 0 (bodyOf Try.f24) (retG Try.prog Try.f24.results.toList K) (env0 0 [(.int .i64 x1), (.pointer (some a2)), (.pointer (some a3))]) w = S24 x1 a2 a3 w K := by kernel_rfl
theorem ok24 {x1 : Int} {a2 : Addr} {a3 : Addr} {w : World} {K : Value → World → Prop} (h : S24 x1 a2 a3 w K) : callV Try.prog 24 #[(.int .i64 x1), (.pointer (some a2)), (.pointer (some a3))] w K :=
  call_sound (qs := [9, 10, 11, 13, 15, 16, 18, 19, 20, 21, 22, 23, 24]) (args := [(.int .i64 x1), (.pointer (some a2)), (.pointer (some a3))]) (by kernel_rfl) (Try.func24) (c := bodyOf Try.f24) (by kernel_rfl) (by kernel_rfl) (allL (show loops [9, 10, 11, 13, 15, 16, 18, 19, 20, 21, 22, 23, 24] 0 (bodyOf Try.f24) = [] by kernel_rfl) True.intro) (Eq.mpr (eq24 x1 a2 a3 w K) h)
def B25_0 (x7 : Option Addr) (l8 : Nat) (c9 : Nat) (x10 : Value) (x11 : Int) (x12 : Int) (w : World) (N : Int → Int → World → Prop) (X0 : Int → World → Prop) (K : Value → World → Prop) : Prop :=
  br (decide ((x12 : Int) < (l8 : Int)))
  (jn (fun (x18 : Int) (w : World) =>
  N x18 (IntKind.wrap .i64 (x12 + 1)) w) fun J19 =>
  idx x7 l8 1 x12 fun a13 => ∃ n14 : Int, w.cell? a13 = some (.int .i64 n14) ∧ callF Try.prog x10 #[(.int .i64 n14)] w fun v15 w => ∃ b16 : Bool, v15 = (.bool b16) ∧ br (!b16)
  (idx x7 l8 1 x11 fun a17 => stL w a17 0 [(.int .i64 n14)] fun w => J19 (IntKind.wrap .i64 (x11 + 1)) w)
  (J19 x11 w))
  (X0 x11 w)
/-- The loop in block 0 of function 25: by what holds at its head. -/
def LS25_0 (x7 : Option Addr) (l8 : Nat) (c9 : Nat) (x10 : Value) (x11 : Int) (x12 : Int) (w : World) (X0 : Int → World → Prop) (K : Value → World → Prop) : Prop :=
  ∃ J : Nat → Int → Int → World → Prop, (∃ n, J n x11 x12 w) ∧ ∀ n x11 x12 w, J n x11 x12 w → B25_0 x7 l8 c9 x10 x11 x12 w (fun x11 x12 w => ∃ m, m < n ∧ J m x11 x12 w) X0 K
abbrev env25_0 (x7 : Option Addr) (l8 : Nat) (c9 : Nat) (x10 : Value) (x11 : Int) (x12 : Int) : Env := [(0, (.slice x7 l8 c9)), (1, x10), (5, (.int .i64 x11)), (6, (.int .i64 x12))]
def Kt25_0 (N : Int → Int → World → Prop) (X0 : Int → World → Prop) (K : Value → World → Prop) : Kont := fun e E w => match e with
  | .normal => gI .i64 E 5 fun x11 => gI .i64 E 6 fun x12 => N x11 x12 w
  | .exit j => match Nat.beq j 0 with | true => (gI .i64 E 5 fun x20 => X0 x20 w) | false => (False)
  | .ret => retG Try.prog Try.f25.results.toList K .ret E w
  | _ => False
def HL25_0 (F : Value → World → Prop) (K : Kont) (E : Env) (w : World) : Prop := match keep [0, 1, 5, 6] E with
  | [(0, (.slice x7 l8 c9)), (1, x10), (5, (.int .i64 x11)), (6, (.int .i64 x12))] => LS25_0 x7 l8 c9 x10 x11 x12 w (fun (x20 : Int) w => K (.exit 0) [(0, (.slice x7 l8 c9)), (5, (.int .i64 x20))] w) F
  | _ => False
def H25 (F : Value → World → Prop) : Nat → Kont → Env → World → Prop := fun b K E w => match Nat.beq b 0 with | true => HL25_0 F K E w | false => (False)
theorem Beq25_0 (x7 : Option Addr) (l8 : Nat) (c9 : Nat) (x10 : Value) (x11 : Int) (x12 : Int) (w : World) (N : Int → Int → World → Prop) (X0 : Int → World → Prop) (K : Value → World → Prop) :
    G Try.prog [9, 10, 11, 13, 15, 16, 18, 19, 20, 21, 22, 23, 24] 42 [0, 1, 4, 5, 6, 7, 12, 19, 29] (H25 K) 0 (loopOf 0 Try.f25) (Kt25_0 N X0 K) (env25_0 x7 l8 c9 x10 x11 x12) w = B25_0 x7 l8 c9 x10 x11 x12 w N X0 K := by kernel_rfl
theorem lok25_0 (F : Value → World → Prop) : LoopOk Try.prog 42 Try.f25.results.toList F (H25 F) 0 (.loop (loopOf 0 Try.f25)) := by
  intro K E a w Q hr h hs hq
  have hs0 := hs.keep [0, 1, 5, 6]
  have h1 : HL25_0 F K E w := h
  unfold HL25_0 at h1
  split at h1
  · rename_i x7 l8 c9 x10 x11 x12 heq
    obtain ⟨J, ⟨n, hJ⟩, hround⟩ := h1
    rw [heq] at hs0
    refine loop_typed (qs := [9, 10, 11, 13, 15, 16, 18, 19, 20, 21, 22, 23, 24]) (L := [0, 1, 4, 5, 6, 7, 12, 19, 29]) (rs := Try.f25.results.toList) (F := F) (H := H25 F) (b := 0) (by kernel_rfl) (allL (show loops [9, 10, 11, 13, 15, 16, 18, 19, 20, 21, 22, 23, 24] 0 (loopOf 0 Try.f25) = [] by kernel_rfl) True.intro) (σ := Int × Int) (fun s => env25_0 x7 l8 c9 x10 s.1 s.2) (fun n s w => J n s.1 s.2 w)
      (fun n => Kt25_0 (fun x11 x12 w => ∃ m, m < n ∧ J m x11 x12 w) (fun (x20 : Int) w => K (.exit 0) [(0, (.slice x7 l8 c9)), (5, (.int .i64 x20))] w) F) (fun _ _ _ h => h) ?_ ?_ a ?_ n (x11, x12) a w hJ (Fr.refl _ _) hs0
    · intro n s w hJ
      exact Eq.mpr (Beq25_0 x7 l8 c9 x10 s.1 s.2 w _ _ F) (hround n s.1 s.2 w hJ)
    · intro n s E' w' h
      obtain ⟨x11, e5, h⟩ := gI_get h
      obtain ⟨x12, e6, h⟩ := gI_get h
      obtain ⟨m, hm, hJ⟩ := h
      exact ⟨m, (x11, x12), hm, hJ, ⟨.inl ⟨by kernel_rfl, rfl⟩, .inl ⟨by kernel_rfl, rfl⟩, .inr e5, .inr e6, True.intro⟩⟩
    · intro n s a1 e E' a' w' he hs1 hf0 hf1 hs' h
      cases e with
      | normal => exact (he rfl).elim
      | exit j =>
        dsimp only [Kt25_0] at h
        cases hb : Nat.beq j 0
        case' true =>
          rw [hb] at h
          have hj := Nat.eq_of_beq_eq_true hb
          subst hj
          dsimp only at h
          obtain ⟨x20, e5, h⟩ := gI_get h
          exact hq _ _ _ _ (hs1.next hf1 hs' (E2 := [(0, (.slice x7 l8 c9)), (5, (.int .i64 x20))]) ⟨.inl ⟨by kernel_rfl, rfl⟩, .inr e5, True.intro⟩) hf0 h
        rw [hb] at h
        dsimp only at h
        all_goals exact h.elim
      | ret => exact hq _ _ _ _ hs' hf0 (hr _ _ h)
      | _ => exact h.elim
  · exact h1.elim
/-- slices.DeleteFunc[[]int,int] -/
def S25 (x1 : Option Addr) (l2 : Nat) (c3 : Nat) (x4 : Value) (w : World) (K : Value → World → Prop) : Prop :=
  callV Try.prog 29 #[(.slice x1 l2 c3), x4] w fun v5 w => ∃ n6 : Int, v5 = (.int .i64 n6) ∧ br ((n6 : Int) == (-1))
  (K (.slice x1 l2 c3) w)
  (LS25_0 x1 l2 c3 x4 n6 (IntKind.wrap .i64 (n6 + 1)) w
  (fun (x20 : Int) w => slc x1 l2 c3 1 (some x20) none none fun p21 l22 c23 => runV Try.prog (Builtin.clear_ #[39] 0 #[(.slice p21 l22 c23)]) w fun v24 w => v24 = (.tuple #[]) ∧ slc x1 l2 c3 1 none (some x20) none fun p25 l26 c27 => K (.slice p25 l26 c27) w) K)
theorem eq25 (x1 : Option Addr) (l2 : Nat) (c3 : Nat) (x4 : Value) (w : World) (K : Value → World → Prop) : G Try.prog [9, 10, 11, 13, 15, 16, 18, 19, 20, 21, 22, 23, 24] 42 [0, 1, 4, 5, 6, 7, 12, 19, 29] (H25 K) 0 (bodyOf Try.f25) (retG Try.prog Try.f25.results.toList K) (env0 0 [(.slice x1 l2 c3), x4]) w = S25 x1 l2 c3 x4 w K := by kernel_rfl
theorem ok25 {x1 : Option Addr} {l2 : Nat} {c3 : Nat} {x4 : Value} {w : World} {K : Value → World → Prop} (h : S25 x1 l2 c3 x4 w K) : callV Try.prog 25 #[(.slice x1 l2 c3), x4] w K :=
  call_sound (qs := [9, 10, 11, 13, 15, 16, 18, 19, 20, 21, 22, 23, 24]) (args := [(.slice x1 l2 c3), x4]) (by kernel_rfl) (Try.func25) (c := bodyOf Try.f25) (by kernel_rfl) (by kernel_rfl) (allL (show loops [9, 10, 11, 13, 15, 16, 18, 19, 20, 21, 22, 23, 24] 0 (bodyOf Try.f25) = [(0, .loop (loopOf 0 Try.f25))] by kernel_rfl) ⟨lok25_0 K, True.intro⟩) (Eq.mpr (eq25 x1 l2 c3 x4 w K) h)
def H27 (_F : Value → World → Prop) : Nat → Kont → Env → World → Prop := fun _ _ _ _ => False
/-- maps.Keys[map[int]int,int,int] -/
def S27 (x1 : Option Nat) (w : World) (K : Value → World → Prop) : Prop :=
  al w (.cells #[(.map x1)] 50) fun r2 w => K (.func (.func 32) #[] #[(.pointer (some ⟨r2, 0, none⟩))]) w
theorem eq27 (x1 : Option Nat) (w : World) (K : Value → World → Prop) : G Try.prog [9, 10, 11, 13, 15, 16, 18, 19, 20, 21, 22, 23, 24] 4 [0, 1, 2] (H27 K) 0 (bodyOf Try.f27) (retG Try.prog Try.f27.results.toList K) (env0 0 [(.map x1)]) w = S27 x1 w K := by kernel_rfl
theorem ok27 {x1 : Option Nat} {w : World} {K : Value → World → Prop} (h : S27 x1 w K) : callV Try.prog 27 #[(.map x1)] w K :=
  call_sound (qs := [9, 10, 11, 13, 15, 16, 18, 19, 20, 21, 22, 23, 24]) (args := [(.map x1)]) (by kernel_rfl) (Try.func27) (c := bodyOf Try.f27) (by kernel_rfl) (by kernel_rfl) (allL (show loops [9, 10, 11, 13, 15, 16, 18, 19, 20, 21, 22, 23, 24] 0 (bodyOf Try.f27) = [] by kernel_rfl) True.intro) (Eq.mpr (eq27 x1 w K) h)
def H28 (_F : Value → World → Prop) : Nat → Kont → Env → World → Prop := fun _ _ _ _ => False
/-- slices.Clip[[]int,int] -/
def S28 (x1 : Option Addr) (l2 : Nat) (c3 : Nat) (w : World) (K : Value → World → Prop) : Prop :=
  slc x1 l2 c3 1 none (some (l2 : Int)) (some (l2 : Int)) fun p4 l5 c6 => K (.slice p4 l5 c6) w
theorem eq28 (x1 : Option Addr) (l2 : Nat) (c3 : Nat) (w : World) (K : Value → World → Prop) : G Try.prog [9, 10, 11, 13, 15, 16, 18, 19, 20, 21, 22, 23, 24] 9 [0, 2] (H28 K) 0 (bodyOf Try.f28) (retG Try.prog Try.f28.results.toList K) (env0 0 [(.slice x1 l2 c3)]) w = S28 x1 l2 c3 w K := by kernel_rfl
theorem ok28 {x1 : Option Addr} {l2 : Nat} {c3 : Nat} {w : World} {K : Value → World → Prop} (h : S28 x1 l2 c3 w K) : callV Try.prog 28 #[(.slice x1 l2 c3)] w K :=
  call_sound (qs := [9, 10, 11, 13, 15, 16, 18, 19, 20, 21, 22, 23, 24]) (args := [(.slice x1 l2 c3)]) (by kernel_rfl) (Try.func28) (c := bodyOf Try.f28) (by kernel_rfl) (by kernel_rfl) (allL (show loops [9, 10, 11, 13, 15, 16, 18, 19, 20, 21, 22, 23, 24] 0 (bodyOf Try.f28) = [] by kernel_rfl) True.intro) (Eq.mpr (eq28 x1 l2 c3 w K) h)
def B29_0 (x5 : Option Addr) (l6 : Nat) (c7 : Nat) (x8 : Value) (x9 : Int) (x10 : Int) (w : World) (N : Int → World → Prop) (X0 : World → Prop) (K : Value → World → Prop) : Prop :=
  br (decide ((x10 : Int) < x9))
  (idx x5 l6 1 x10 fun a11 => ∃ n12 : Int, w.cell? a11 = some (.int .i64 n12) ∧ callF Try.prog x8 #[(.int .i64 n12)] w fun v13 w => ∃ b14 : Bool, v13 = (.bool b14) ∧ br b14
  (K (.int .i64 x10) w)
  (N (IntKind.wrap .i64 (x10 + 1)) w))
  (X0 w)
/-- The loop in block 0 of function 29: by what holds at its head. -/
def LS29_0 (x5 : Option Addr) (l6 : Nat) (c7 : Nat) (x8 : Value) (x9 : Int) (x10 : Int) (w : World) (X0 : World → Prop) (K : Value → World → Prop) : Prop :=
  ∃ J : Nat → Int → World → Prop, (∃ n, J n x10 w) ∧ ∀ n x10 w, J n x10 w → B29_0 x5 l6 c7 x8 x9 x10 w (fun x10 w => ∃ m, m < n ∧ J m x10 w) X0 K
abbrev env29_0 (x5 : Option Addr) (l6 : Nat) (c7 : Nat) (x8 : Value) (x9 : Int) (x10 : Int) : Env := [(0, (.slice x5 l6 c7)), (1, x8), (7, (.int .i64 x9)), (8, (.int .i64 x10))]
def Kt29_0 (N : Int → World → Prop) (X0 : World → Prop) (K : Value → World → Prop) : Kont := fun e E w => match e with
  | .normal => gI .i64 E 8 fun x10 => N x10 w
  | .exit j => match Nat.beq j 0 with | true => (X0 w) | false => (False)
  | .ret => retG Try.prog Try.f29.results.toList K .ret E w
  | _ => False
def HL29_0 (F : Value → World → Prop) (K : Kont) (E : Env) (w : World) : Prop := match keep [0, 1, 7, 8] E with
  | [(0, (.slice x5 l6 c7)), (1, x8), (7, (.int .i64 x9)), (8, (.int .i64 x10))] => LS29_0 x5 l6 c7 x8 x9 x10 w (fun w => K (.exit 0) [] w) F
  | _ => False
def H29 (F : Value → World → Prop) : Nat → Kont → Env → World → Prop := fun b K E w => match Nat.beq b 0 with | true => HL29_0 F K E w | false => (False)
theorem Beq29_0 (x5 : Option Addr) (l6 : Nat) (c7 : Nat) (x8 : Value) (x9 : Int) (x10 : Int) (w : World) (N : Int → World → Prop) (X0 : World → Prop) (K : Value → World → Prop) :
    G Try.prog [9, 10, 11, 13, 15, 16, 18, 19, 20, 21, 22, 23, 24] 19 [0, 1, 4, 5, 7, 8, 9, 16] (H29 K) 0 (loopOf 0 Try.f29) (Kt29_0 N X0 K) (env29_0 x5 l6 c7 x8 x9 x10) w = B29_0 x5 l6 c7 x8 x9 x10 w N X0 K := by kernel_rfl
theorem lok29_0 (F : Value → World → Prop) : LoopOk Try.prog 19 Try.f29.results.toList F (H29 F) 0 (.loop (loopOf 0 Try.f29)) := by
  intro K E a w Q hr h hs hq
  have hs0 := hs.keep [0, 1, 7, 8]
  have h1 : HL29_0 F K E w := h
  unfold HL29_0 at h1
  split at h1
  · rename_i x5 l6 c7 x8 x9 x10 heq
    obtain ⟨J, ⟨n, hJ⟩, hround⟩ := h1
    rw [heq] at hs0
    refine loop_typed (qs := [9, 10, 11, 13, 15, 16, 18, 19, 20, 21, 22, 23, 24]) (L := [0, 1, 4, 5, 7, 8, 9, 16]) (rs := Try.f29.results.toList) (F := F) (H := H29 F) (b := 0) (by kernel_rfl) (allL (show loops [9, 10, 11, 13, 15, 16, 18, 19, 20, 21, 22, 23, 24] 0 (loopOf 0 Try.f29) = [] by kernel_rfl) True.intro) (σ := Int) (fun s => env29_0 x5 l6 c7 x8 x9 s) (fun n s w => J n s w)
      (fun n => Kt29_0 (fun x10 w => ∃ m, m < n ∧ J m x10 w) (fun w => K (.exit 0) [] w) F) (fun _ _ _ h => h) ?_ ?_ a ?_ n x10 a w hJ (Fr.refl _ _) hs0
    · intro n s w hJ
      exact Eq.mpr (Beq29_0 x5 l6 c7 x8 x9 s w _ _ F) (hround n s w hJ)
    · intro n s E' w' h
      obtain ⟨x10, e8, h⟩ := gI_get h
      obtain ⟨m, hm, hJ⟩ := h
      exact ⟨m, x10, hm, hJ, ⟨.inl ⟨by kernel_rfl, rfl⟩, .inl ⟨by kernel_rfl, rfl⟩, .inl ⟨by kernel_rfl, rfl⟩, .inr e8, True.intro⟩⟩
    · intro n s a1 e E' a' w' he hs1 hf0 hf1 hs' h
      cases e with
      | normal => exact (he rfl).elim
      | exit j =>
        dsimp only [Kt29_0] at h
        cases hb : Nat.beq j 0
        case' true =>
          rw [hb] at h
          have hj := Nat.eq_of_beq_eq_true hb
          subst hj
          dsimp only at h
          exact hq _ _ _ _ (hs1.next hf1 hs' (E2 := []) True.intro) hf0 h
        rw [hb] at h
        dsimp only at h
        all_goals exact h.elim
      | ret => exact hq _ _ _ _ hs' hf0 (hr _ _ h)
      | _ => exact h.elim
  · exact h1.elim
/-- slices.IndexFunc[[]int,int] -/
def S29 (x1 : Option Addr) (l2 : Nat) (c3 : Nat) (x4 : Value) (w : World) (K : Value → World → Prop) : Prop :=
  LS29_0 x1 l2 c3 x4 (l2 : Int) 0 w
  (fun w => K (.int .i64 (-1)) w) K
theorem eq29 (x1 : Option Addr) (l2 : Nat) (c3 : Nat) (x4 : Value) (w : World) (K : Value → World → Prop) : G Try.prog [9, 10, 11, 13, 15, 16, 18, 19, 20, 21, 22, 23, 24] 19 [0, 1, 4, 5, 7, 8, 9, 16] (H29 K) 0 (bodyOf Try.f29) (retG Try.prog Try.f29.results.toList K) (env0 0 [(.slice x1 l2 c3), x4]) w = S29 x1 l2 c3 x4 w K := by kernel_rfl
theorem ok29 {x1 : Option Addr} {l2 : Nat} {c3 : Nat} {x4 : Value} {w : World} {K : Value → World → Prop} (h : S29 x1 l2 c3 x4 w K) : callV Try.prog 29 #[(.slice x1 l2 c3), x4] w K :=
  call_sound (qs := [9, 10, 11, 13, 15, 16, 18, 19, 20, 21, 22, 23, 24]) (args := [(.slice x1 l2 c3), x4]) (by kernel_rfl) (Try.func29) (c := bodyOf Try.f29) (by kernel_rfl) (by kernel_rfl) (allL (show loops [9, 10, 11, 13, 15, 16, 18, 19, 20, 21, 22, 23, 24] 0 (bodyOf Try.f29) = [(0, .loop (loopOf 0 Try.f29))] by kernel_rfl) ⟨lok29_0 K, True.intro⟩) (Eq.mpr (eq29 x1 l2 c3 x4 w K) h)
end Go.Proofs.Ytibalkkiefgljaa
