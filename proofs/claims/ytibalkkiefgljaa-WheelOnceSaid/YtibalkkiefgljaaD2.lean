/- The formulas of the functions 3, 11, 13, 15, 19, 22 of this seat, written by a program of my own (dec.py), each with its proof. -/
import Derived.Test.YtibalkkiefgljaaProg
import Derived.Test.YtibalkkiefgljaaSh
import Derived.KernelRfl
namespace Go.Proofs.Ytibalkkiefgljaa
open Go Go.Sh
set_option linter.unusedVariables false
set_option maxRecDepth 100000
def B3_3 (x77 : Option Addr) (x78 : Addr) (x79 : Addr) (x80 : Option Addr) (l81 : Nat) (c82 : Nat) (x83 : Int) (x84 : Int) (x85 : Int) (x86 : Int) (w : World) (N : Int → World → Prop) (X3 : World → Prop) (K : Value → World → Prop) : Prop :=
  br (decide ((x86 : Int) < x85))
  (∃ n87 : Int, w.cell? x78 = some (.int .i64 n87) ∧ ∃ n88 : Int, w.cell? (x78.add 1) = some (.int .i64 n88) ∧ ∃ (p89 : Option Addr) (l90 c91 : Nat), w.cell? (x78.add 2) = some (.slice p89 l90 c91) ∧ callQ Try.prog 15 #[(.agg #[(.int .i64 n87), (.int .i64 n88), (.slice p89 l90 c91)])] w fun v92 w => ∃ n93 : Int, ∃ n94 : Int, ∃ (p95 : Option Addr) (l96 c97 : Nat), ∃ (p98 : Option Addr) (l99 c100 : Nat), v92 = (.tuple #[(.agg #[(.int .i64 n93), (.int .i64 n94), (.slice p95 l96 c97)]), (.slice p98 l99 c100)]) ∧ al w (.cells #[(.int .i64 0), (.int .i64 0), (.slice none 0 0)] 30) fun r101 w => stL w ⟨r101, 0, none⟩ 0 [(.int .i64 n93), (.int .i64 n94), (.slice p95 l96 c97)] fun w => ∃ n102 : Int, w.cell? ⟨r101, 0, none⟩ = some (.int .i64 n102) ∧ ∃ n103 : Int, w.cell? ⟨r101, 1, none⟩ = some (.int .i64 n103) ∧ ∃ (p104 : Option Addr) (l105 c106 : Nat), w.cell? ⟨r101, 2, none⟩ = some (.slice p104 l105 c106) ∧ stL w x78 0 [(.int .i64 n102), (.int .i64 n103), (.slice p104 l105 c106)] fun w => callV Try.prog 17 #[(.pointer x77)] w fun v107 w => ∃ (p108 : Option Addr) (l109 c110 : Nat), v107 = (.slice p108 l109 c110) ∧ callQ Try.prog 16 #[(.slice p108 l109 c110), (.slice p98 l99 c100)] w fun v111 w => ∃ b112 : Bool, v111 = (.bool b112) ∧ br (!b112)
  (K (.bool false) w)
  (N (IntKind.wrap .i64 (x86 + 1)) w))
  (X3 w)
/-- The loop in block 3 of function 3: by what holds at its head. -/
def LS3_3 (x77 : Option Addr) (x78 : Addr) (x79 : Addr) (x80 : Option Addr) (l81 : Nat) (c82 : Nat) (x83 : Int) (x84 : Int) (x85 : Int) (x86 : Int) (w : World) (X3 : World → Prop) (K : Value → World → Prop) : Prop :=
  ∃ J : Nat → Int → World → Prop, (∃ n, J n x86 w) ∧ ∀ n x86 w, J n x86 w → B3_3 x77 x78 x79 x80 l81 c82 x83 x84 x85 x86 w (fun x86 w => ∃ m, m < n ∧ J m x86 w) X3 K
abbrev env3_3 (x77 : Option Addr) (x78 : Addr) (x79 : Addr) (x80 : Option Addr) (l81 : Nat) (c82 : Nat) (x83 : Int) (x84 : Int) (x85 : Int) (x86 : Int) : Env := [(7, (.pointer x77)), (9, (.pointer (some x78))), (11, (.pointer (some x79))), (55, (.slice x80 l81 c82)), (56, (.int .i64 x83)), (57, (.int .i64 x84)), (67, (.int .i64 x85)), (68, (.int .i64 x86))]
def Kt3_3 (N : Int → World → Prop) (X3 : World → Prop) (K : Value → World → Prop) : Kont := fun e E w => match e with
  | .normal => gI .i64 E 68 fun x86 => N x86 w
  | .exit j => match Nat.beq j 3 with | true => (X3 w) | false => (False)
  | .ret => retG Try.prog Try.f3.results.toList K .ret E w
  | _ => False
def HL3_3 (F : Value → World → Prop) (K : Kont) (E : Env) (w : World) : Prop := match keep [7, 9, 11, 55, 56, 57, 67, 68] E with
  | [(7, (.pointer x77)), (9, (.pointer (some x78))), (11, (.pointer (some x79))), (55, (.slice x80 l81 c82)), (56, (.int .i64 x83)), (57, (.int .i64 x84)), (67, (.int .i64 x85)), (68, (.int .i64 x86))] => LS3_3 x77 x78 x79 x80 l81 c82 x83 x84 x85 x86 w (fun w => K (.exit 3) [(7, (.pointer x77)), (9, (.pointer (some x78))), (11, (.pointer (some x79))), (55, (.slice x80 l81 c82)), (56, (.int .i64 x83)), (57, (.int .i64 x84))] w) F
  | _ => False
def B3_0 (x17 : Option Addr) (x18 : Addr) (x19 : Option Addr) (l20 : Nat) (c21 : Nat) (x22 : Int) (x23 : Int) (w : World) (N : Int → World → Prop) (X0 : World → Prop) (K : Value → World → Prop) : Prop :=
  br (decide ((x23 : Int) < x22))
  (idx x19 l20 3 x23 fun a24 => ∃ n25 : Int, w.cell? a24 = some (.int .u8 n25) ∧ ∃ n26 : Int, w.cell? (a24.add 1) = some (.int .i64 n26) ∧ ∃ n27 : Int, w.cell? (a24.add 2) = some (.int .i64 n27) ∧ al w (.cells #[(.int .u8 0), (.int .i64 0), (.int .i64 0)] 32) fun r28 w => stL w ⟨r28, 0, none⟩ 0 [(.int .u8 n25), (.int .i64 n26), (.int .i64 n27)] fun w => jn (fun (w : World) =>
  ∃ n114 : Int, w.cell? ⟨r28, 1, none⟩ = some (.int .i64 n114) ∧ callQ Try.prog 18 #[(.pointer x17), (.int .i64 n114)] w fun v115 w => ∃ n116 : Int, ∃ b117 : Bool, v115 = (.tuple #[(.int .i64 n116), (.bool b117)]) ∧ ∃ n118 : Int, w.cell? x18 = some (.int .i64 n118) ∧ ∃ n119 : Int, w.cell? (x18.add 1) = some (.int .i64 n119) ∧ ∃ (p120 : Option Addr) (l121 c122 : Nat), w.cell? (x18.add 2) = some (.slice p120 l121 c122) ∧ ∃ n123 : Int, w.cell? ⟨r28, 1, none⟩ = some (.int .i64 n123) ∧ callQ Try.prog 19 #[(.agg #[(.int .i64 n118), (.int .i64 n119), (.slice p120 l121 c122)]), (.int .i64 n123)] w fun v124 w => ∃ n125 : Int, ∃ b126 : Bool, v124 = (.tuple #[(.int .i64 n125), (.bool b126)]) ∧ dr w fun w =>
  br ((n116 : Int) != n125)
  (K (.bool false) w)
  (br (!(b117 == b126))
  (K (.bool false) w)
  (∃ n127 : Int, w.cell? x18 = some (.int .i64 n127) ∧ callQ Try.prog 20 #[(.pointer x17)] w fun v128 w => ∃ n129 : Int, v128 = (.int .i64 n129) ∧ br ((n129 : Int) != n127)
  (K (.bool false) w)
  (∃ (p130 : Option Addr) (l131 c132 : Nat), w.cell? (x18.add 2) = some (.slice p130 l131 c132) ∧ callQ Try.prog 21 #[(.pointer x17)] w fun v133 w => ∃ n134 : Int, v133 = (.int .i64 n134) ∧ br ((n134 : Int) != (l131 : Int))
  (K (.bool false) w)
  (N (IntKind.wrap .i64 (x23 + 1)) w))))) fun J113 =>
  ∃ n29 : Int, w.cell? ⟨r28, 0, none⟩ = some (.int .u8 n29) ∧ br (((Int.tmod n29 4) : Int) == 0)
  (∃ n30 : Int, w.cell? x18 = some (.int .i64 n30) ∧ ∃ n31 : Int, w.cell? (x18.add 1) = some (.int .i64 n31) ∧ ∃ (p32 : Option Addr) (l33 c34 : Nat), w.cell? (x18.add 2) = some (.slice p32 l33 c34) ∧ ∃ n35 : Int, w.cell? ⟨r28, 1, none⟩ = some (.int .i64 n35) ∧ ∃ n36 : Int, w.cell? ⟨r28, 2, none⟩ = some (.int .i64 n36) ∧ callQ Try.prog 11 #[(.agg #[(.int .i64 n30), (.int .i64 n31), (.slice p32 l33 c34)]), (.int .i64 n35), (.int .i64 n36)] w fun v37 w => ∃ n38 : Int, ∃ n39 : Int, ∃ (p40 : Option Addr) (l41 c42 : Nat), ∃ n43 : Int, v37 = (.tuple #[(.agg #[(.int .i64 n38), (.int .i64 n39), (.slice p40 l41 c42)]), (.int .i64 n43)]) ∧ al w (.cells #[(.int .i64 0), (.int .i64 0), (.slice none 0 0)] 30) fun r44 w => stL w ⟨r44, 0, none⟩ 0 [(.int .i64 n38), (.int .i64 n39), (.slice p40 l41 c42)] fun w => ∃ n45 : Int, w.cell? ⟨r44, 0, none⟩ = some (.int .i64 n45) ∧ ∃ n46 : Int, w.cell? ⟨r44, 1, none⟩ = some (.int .i64 n46) ∧ ∃ (p47 : Option Addr) (l48 c49 : Nat), w.cell? ⟨r44, 2, none⟩ = some (.slice p47 l48 c49) ∧ stL w x18 0 [(.int .i64 n45), (.int .i64 n46), (.slice p47 l48 c49)] fun w => ∃ n50 : Int, w.cell? ⟨r28, 1, none⟩ = some (.int .i64 n50) ∧ ∃ n51 : Int, w.cell? ⟨r28, 2, none⟩ = some (.int .i64 n51) ∧ callV Try.prog 12 #[(.pointer x17), (.int .i64 n50), (.int .i64 n51)] w fun v52 w => ∃ n53 : Int, v52 = (.int .i64 n53) ∧ br ((n53 : Int) != n43)
  (K (.bool false) w)
  (J113 w))
  (br (((Int.tmod n29 4) : Int) == 1)
  (∃ n54 : Int, w.cell? x18 = some (.int .i64 n54) ∧ ∃ n55 : Int, w.cell? (x18.add 1) = some (.int .i64 n55) ∧ ∃ (p56 : Option Addr) (l57 c58 : Nat), w.cell? (x18.add 2) = some (.slice p56 l57 c58) ∧ ∃ n59 : Int, w.cell? ⟨r28, 1, none⟩ = some (.int .i64 n59) ∧ callQ Try.prog 13 #[(.agg #[(.int .i64 n54), (.int .i64 n55), (.slice p56 l57 c58)]), (.int .i64 n59)] w fun v60 w => ∃ n61 : Int, ∃ n62 : Int, ∃ (p63 : Option Addr) (l64 c65 : Nat), ∃ b66 : Bool, v60 = (.tuple #[(.agg #[(.int .i64 n61), (.int .i64 n62), (.slice p63 l64 c65)]), (.bool b66)]) ∧ al w (.cells #[(.int .i64 0), (.int .i64 0), (.slice none 0 0)] 30) fun r67 w => stL w ⟨r67, 0, none⟩ 0 [(.int .i64 n61), (.int .i64 n62), (.slice p63 l64 c65)] fun w => ∃ n68 : Int, w.cell? ⟨r67, 0, none⟩ = some (.int .i64 n68) ∧ ∃ n69 : Int, w.cell? ⟨r67, 1, none⟩ = some (.int .i64 n69) ∧ ∃ (p70 : Option Addr) (l71 c72 : Nat), w.cell? ⟨r67, 2, none⟩ = some (.slice p70 l71 c72) ∧ stL w x18 0 [(.int .i64 n68), (.int .i64 n69), (.slice p70 l71 c72)] fun w => ∃ n73 : Int, w.cell? ⟨r28, 1, none⟩ = some (.int .i64 n73) ∧ callV Try.prog 14 #[(.pointer x17), (.int .i64 n73)] w fun v74 w => ∃ b75 : Bool, v74 = (.bool b75) ∧ br (!(b75 == b66))
  (K (.bool false) w)
  (J113 w))
  (∃ n76 : Int, w.cell? ⟨r28, 2, none⟩ = some (.int .i64 n76) ∧ LS3_3 x17 x18 (⟨r28, 0, none⟩) x19 l20 c21 x22 x23 (IntKind.wrap .i64 (1 + (IntKind.wrap .i64 ((BitVec.ofInt 64 n76 &&& (BitVec.ofInt 64 15)).toNat : Int)))) 0 w
  (fun w => J113 w) K)))
  (X0 w)
/-- The loop in block 0 of function 3: by what holds at its head. -/
def LS3_0 (x17 : Option Addr) (x18 : Addr) (x19 : Option Addr) (l20 : Nat) (c21 : Nat) (x22 : Int) (x23 : Int) (w : World) (X0 : World → Prop) (K : Value → World → Prop) : Prop :=
  ∃ J : Nat → Int → World → Prop, (∃ n, J n x23 w) ∧ ∀ n x23 w, J n x23 w → B3_0 x17 x18 x19 l20 c21 x22 x23 w (fun x23 w => ∃ m, m < n ∧ J m x23 w) X0 K
abbrev env3_0 (x17 : Option Addr) (x18 : Addr) (x19 : Option Addr) (l20 : Nat) (c21 : Nat) (x22 : Int) (x23 : Int) : Env := [(7, (.pointer x17)), (9, (.pointer (some x18))), (55, (.slice x19 l20 c21)), (56, (.int .i64 x22)), (57, (.int .i64 x23))]
def Kt3_0 (N : Int → World → Prop) (X0 : World → Prop) (K : Value → World → Prop) : Kont := fun e E w => match e with
  | .normal => gI .i64 E 57 fun x23 => N x23 w
  | .exit j => match Nat.beq j 0 with | true => (X0 w) | false => (False)
  | .ret => retG Try.prog Try.f3.results.toList K .ret E w
  | _ => False
def HL3_0 (F : Value → World → Prop) (K : Kont) (E : Env) (w : World) : Prop := match keep [7, 9, 55, 56, 57] E with
  | [(7, (.pointer x17)), (9, (.pointer (some x18))), (55, (.slice x19 l20 c21)), (56, (.int .i64 x22)), (57, (.int .i64 x23))] => LS3_0 x17 x18 x19 l20 c21 x22 x23 w (fun w => K (.exit 0) [] w) F
  | _ => False
def H3 (F : Value → World → Prop) : Nat → Kont → Env → World → Prop := fun b K E w => match Nat.beq b 3 with | true => HL3_3 F K E w | false => (match Nat.beq b 0 with | true => HL3_0 F K E w | false => (False))
theorem Beq3_3 (x77 : Option Addr) (x78 : Addr) (x79 : Addr) (x80 : Option Addr) (l81 : Nat) (c82 : Nat) (x83 : Int) (x84 : Int) (x85 : Int) (x86 : Int) (w : World) (N : Int → World → Prop) (X3 : World → Prop) (K : Value → World → Prop) :
    G Try.prog [9, 10, 11, 13, 15, 16, 18, 19, 20, 21, 22, 23, 24] 157 [0, 1, 2, 6, 7, 8, 9, 11, 12, 13, 14, 15, 16, 17, 18, 19, 20, 21, 41, 48, 55, 56, 57, 58, 63, 67, 68, 69, 80, 82, 101, 102, 117, 154] (H3 K) 3 (loopOf 3 Try.f3) (Kt3_3 N X3 K) (env3_3 x77 x78 x79 x80 l81 c82 x83 x84 x85 x86) w = B3_3 x77 x78 x79 x80 l81 c82 x83 x84 x85 x86 w N X3 K := by kernel_rfl
theorem lok3_3 (F : Value → World → Prop) : LoopOk Try.prog 157 Try.f3.results.toList F (H3 F) 3 (.loop (loopOf 3 Try.f3)) := by
  intro K E a w Q hr h hs hq
  have hs0 := hs.keep [7, 9, 11, 55, 56, 57, 67, 68]
  have h1 : HL3_3 F K E w := h
  unfold HL3_3 at h1
  split at h1
  · rename_i x77 x78 x79 x80 l81 c82 x83 x84 x85 x86 heq
    obtain ⟨J, ⟨n, hJ⟩, hround⟩ := h1
    rw [heq] at hs0
    refine loop_typed (qs := [9, 10, 11, 13, 15, 16, 18, 19, 20, 21, 22, 23, 24]) (L := [0, 1, 2, 6, 7, 8, 9, 11, 12, 13, 14, 15, 16, 17, 18, 19, 20, 21, 41, 48, 55, 56, 57, 58, 63, 67, 68, 69, 80, 82, 101, 102, 117, 154]) (rs := Try.f3.results.toList) (F := F) (H := H3 F) (b := 3) (by kernel_rfl) (allL (show loops [9, 10, 11, 13, 15, 16, 18, 19, 20, 21, 22, 23, 24] 3 (loopOf 3 Try.f3) = [] by kernel_rfl) True.intro) (σ := Int) (fun s => env3_3 x77 x78 x79 x80 l81 c82 x83 x84 x85 s) (fun n s w => J n s w)
      (fun n => Kt3_3 (fun x86 w => ∃ m, m < n ∧ J m x86 w) (fun w => K (.exit 3) [(7, (.pointer x77)), (9, (.pointer (some x78))), (11, (.pointer (some x79))), (55, (.slice x80 l81 c82)), (56, (.int .i64 x83)), (57, (.int .i64 x84))] w) F) (fun _ _ _ h => h) ?_ ?_ a ?_ n x86 a w hJ (Fr.refl _ _) hs0
    · intro n s w hJ
      exact Eq.mpr (Beq3_3 x77 x78 x79 x80 l81 c82 x83 x84 x85 s w _ _ F) (hround n s w hJ)
    · intro n s E' w' h
      obtain ⟨x86, e68, h⟩ := gI_get h
      obtain ⟨m, hm, hJ⟩ := h
      exact ⟨m, x86, hm, hJ, ⟨.inl ⟨by kernel_rfl, rfl⟩, .inl ⟨by kernel_rfl, rfl⟩, .inl ⟨by kernel_rfl, rfl⟩, .inl ⟨by kernel_rfl, rfl⟩, .inl ⟨by kernel_rfl, rfl⟩, .inl ⟨by kernel_rfl, rfl⟩, .inl ⟨by kernel_rfl, rfl⟩, .inr e68, True.intro⟩⟩
    · intro n s a1 e E' a' w' he hs1 hf0 hf1 hs' h
      cases e with
      | normal => exact (he rfl).elim
      | exit j =>
        dsimp only [Kt3_3] at h
        cases hb : Nat.beq j 3
        case' true =>
          rw [hb] at h
          have hj := Nat.eq_of_beq_eq_true hb
          subst hj
          dsimp only at h
          exact hq _ _ _ _ (hs1.next hf1 hs' (E2 := [(7, (.pointer x77)), (9, (.pointer (some x78))), (11, (.pointer (some x79))), (55, (.slice x80 l81 c82)), (56, (.int .i64 x83)), (57, (.int .i64 x84))]) ⟨.inl ⟨by kernel_rfl, rfl⟩, .inl ⟨by kernel_rfl, rfl⟩, .inl ⟨by kernel_rfl, rfl⟩, .inl ⟨by kernel_rfl, rfl⟩, .inl ⟨by kernel_rfl, rfl⟩, .inl ⟨by kernel_rfl, rfl⟩, True.intro⟩) hf0 h
        rw [hb] at h
        dsimp only at h
        all_goals exact h.elim
      | ret => exact hq _ _ _ _ hs' hf0 (hr _ _ h)
      | _ => exact h.elim
  · exact h1.elim
theorem Beq3_0 (x17 : Option Addr) (x18 : Addr) (x19 : Option Addr) (l20 : Nat) (c21 : Nat) (x22 : Int) (x23 : Int) (w : World) (N : Int → World → Prop) (X0 : World → Prop) (K : Value → World → Prop) :
    G Try.prog [9, 10, 11, 13, 15, 16, 18, 19, 20, 21, 22, 23, 24] 157 [0, 1, 2, 6, 7, 8, 9, 11, 12, 13, 14, 15, 16, 17, 18, 19, 20, 21, 41, 48, 55, 56, 57, 58, 63, 67, 68, 69, 80, 82, 101, 102, 117, 154] (H3 K) 0 (loopOf 0 Try.f3) (Kt3_0 N X0 K) (env3_0 x17 x18 x19 l20 c21 x22 x23) w = B3_0 x17 x18 x19 l20 c21 x22 x23 w N X0 K := by kernel_rfl
theorem lok3_0 (F : Value → World → Prop) : LoopOk Try.prog 157 Try.f3.results.toList F (H3 F) 0 (.loop (loopOf 0 Try.f3)) := by
  intro K E a w Q hr h hs hq
  have hs0 := hs.keep [7, 9, 55, 56, 57]
  have h1 : HL3_0 F K E w := h
  unfold HL3_0 at h1
  split at h1
  · rename_i x17 x18 x19 l20 c21 x22 x23 heq
    obtain ⟨J, ⟨n, hJ⟩, hround⟩ := h1
    rw [heq] at hs0
    refine loop_typed (qs := [9, 10, 11, 13, 15, 16, 18, 19, 20, 21, 22, 23, 24]) (L := [0, 1, 2, 6, 7, 8, 9, 11, 12, 13, 14, 15, 16, 17, 18, 19, 20, 21, 41, 48, 55, 56, 57, 58, 63, 67, 68, 69, 80, 82, 101, 102, 117, 154]) (rs := Try.f3.results.toList) (F := F) (H := H3 F) (b := 0) (by kernel_rfl) (allL (show loops [9, 10, 11, 13, 15, 16, 18, 19, 20, 21, 22, 23, 24] 0 (loopOf 0 Try.f3) = [(3, .loop (loopOf 3 Try.f3))] by kernel_rfl) ⟨lok3_3 F, True.intro⟩) (σ := Int) (fun s => env3_0 x17 x18 x19 l20 c21 x22 s) (fun n s w => J n s w)
      (fun n => Kt3_0 (fun x23 w => ∃ m, m < n ∧ J m x23 w) (fun w => K (.exit 0) [] w) F) (fun _ _ _ h => h) ?_ ?_ a ?_ n x23 a w hJ (Fr.refl _ _) hs0
    · intro n s w hJ
      exact Eq.mpr (Beq3_0 x17 x18 x19 l20 c21 x22 s w _ _ F) (hround n s w hJ)
    · intro n s E' w' h
      obtain ⟨x23, e57, h⟩ := gI_get h
      obtain ⟨m, hm, hJ⟩ := h
      exact ⟨m, x23, hm, hJ, ⟨.inl ⟨by kernel_rfl, rfl⟩, .inl ⟨by kernel_rfl, rfl⟩, .inl ⟨by kernel_rfl, rfl⟩, .inl ⟨by kernel_rfl, rfl⟩, .inr e57, True.intro⟩⟩
    · intro n s a1 e E' a' w' he hs1 hf0 hf1 hs' h
      cases e with
      | normal => exact (he rfl).elim
      | exit j =>
        dsimp only [Kt3_0] at h
        cases hb : Nat.beq j 0
        case' true =>
          rw [hb] at h
          have hj := Nat.eq_of_beq_eq_true hb
          subst hj
          dsimp only at h
          exact hq _ _ _ _ (hs1.next hf1 hs' (E2 := []) True.intro) hf0 h
        rw [hb] at h
        dsimp only at h
        all_goals exact h.elim
      | ret => exact hq _ _ _ _ hs' hf0 (hr _ _ h)
      | _ => exact h.elim
  · exact h1.elim
/-- jackstay/jackstaylaw13.WheelTells -/
def S3 (x1 : Int) (x2 : Int) (x3 : Option Addr) (l4 : Nat) (c5 : Nat) (w : World) (K : Value → World → Prop) : Prop :=
  callQ Try.prog 9 #[(.int .i64 x1), (.int .i64 x2)] w fun v6 w => ∃ p7 : Option Addr, ∃ n8 : Int, v6 = (.tuple #[(.pointer p7), (.int .i64 n8)]) ∧ jn (fun (x9 : Bool) (w : World) =>
  br x9
  (br ((n8 : Int) == 2)
  (callQ Try.prog 10 #[] w fun v11 w => ∃ b12 : Bool, v11 = (.bool b12) ∧ K (.bool b12) w)
  (K (.bool false) w))
  (br ((n8 : Int) != 0)
  (K (.bool false) w)
  (al w (.cells #[(.int .i64 0), (.int .i64 0), (.slice none 0 0)] 30) fun r13 w => stL w ⟨r13, 0, none⟩ 0 [(.int .i64 0), (.int .i64 x2), (.slice none 0 0)] fun w => slc x3 l4 c5 3 none (some (if 60 < (l4 : Int) then 60 else (l4 : Int))) none fun p14 l15 c16 => LS3_0 p7 (⟨r13, 0, none⟩) p14 l15 c16 (l15 : Int) 0 w
  (fun w => callQ Try.prog 10 #[] w fun v135 w => ∃ b136 : Bool, v135 = (.bool b136) ∧ K (.bool b136) w) K))) fun J10 =>
  br (decide ((x1 : Int) < 1))
  (J10 true w)
  (br (decide ((x1 : Int) > 1024))
  (J10 true w)
  (br (decide ((x2 : Int) < 0))
  (J10 true w)
  (J10 (decide ((x2 : Int) > 1024)) w)))
theorem eq3 (x1 : Int) (x2 : Int) (x3 : Option Addr) (l4 : Nat) (c5 : Nat) (w : World) (K : Value → World → Prop) : G Try.prog [9, 10, 11, 13, 15, 16, 18, 19, 20, 21, 22, 23, 24] 157 [0, 1, 2, 6, 7, 8, 9, 11, 12, 13, 14, 15, 16, 17, 18, 19, 20, 21, 41, 48, 55, 56, 57, 58, 63, 67, 68, 69, 80, 82, 101, 102, 117, 154] (H3 K) 0 (bodyOf Try.f3) (retG Try.prog Try.f3.results.toList K) (env0 0 [(.int .i64 x1), (.int .i64 x2), (.slice x3 l4 c5)]) w = S3 x1 x2 x3 l4 c5 w K := by kernel_rfl
theorem ok3 {x1 : Int} {x2 : Int} {x3 : Option Addr} {l4 : Nat} {c5 : Nat} {w : World} {K : Value → World → Prop} (h : S3 x1 x2 x3 l4 c5 w K) : callV Try.prog 3 #[(.int .i64 x1), (.int .i64 x2), (.slice x3 l4 c5)] w K :=
  call_sound (qs := [9, 10, 11, 13, 15, 16, 18, 19, 20, 21, 22, 23, 24]) (args := [(.int .i64 x1), (.int .i64 x2), (.slice x3 l4 c5)]) (by kernel_rfl) (Try.func3) (c := bodyOf Try.f3) (by kernel_rfl) (by kernel_rfl) (allL (show loops [9, 10, 11, 13, 15, 16, 18, 19, 20, 21, 22, 23, 24] 0 (bodyOf Try.f3) = [(0, .loop (loopOf 0 Try.f3))] by kernel_rfl) ⟨lok3_0 K, True.intro⟩) (Eq.mpr (eq3 x1 x2 x3 l4 c5 w K) h)
def H11 (_F : Value → World → Prop) : Nat → Kont → Env → World → Prop := fun _ _ _ _ => False
/-- (jackstay/jackstayref13.State).Set -/
def S11 (x1 : Int) (x2 : Int) (x3 : Option Addr) (l4 : Nat) (c5 : Nat) (x6 : Int) (x7 : Int) (w : World) (K : Value → World → Prop) : Prop :=
  al w (.cells #[(.int .i64 x1), (.int .i64 x2), (.slice x3 l4 c5)] 30) fun r8 w => al w (.cells #[(.int .i64 0), (.int .i64 0), (.slice none 0 0)] 30) fun r9 w => jn (fun (x10 : Bool) (w : World) =>
  br x10
  (∃ n12 : Int, w.cell? ⟨r8, 0, none⟩ = some (.int .i64 n12) ∧ ∃ n13 : Int, w.cell? ⟨r8, 1, none⟩ = some (.int .i64 n13) ∧ ∃ (p14 : Option Addr) (l15 c16 : Nat), w.cell? ⟨r8, 2, none⟩ = some (.slice p14 l15 c16) ∧ stL w ⟨r9, 0, none⟩ 0 [(.int .i64 n12), (.int .i64 n13), (.slice p14 l15 c16)] fun w => ∃ n17 : Int, w.cell? ⟨r9, 0, none⟩ = some (.int .i64 n17) ∧ ∃ n18 : Int, w.cell? ⟨r9, 1, none⟩ = some (.int .i64 n18) ∧ ∃ (p19 : Option Addr) (l20 c21 : Nat), w.cell? ⟨r9, 2, none⟩ = some (.slice p19 l20 c21) ∧ K (.tuple #[(.agg #[(.int .i64 n17), (.int .i64 n18), (.slice p19 l20 c21)]), (.int .i64 2)]) w)
  (∃ (p22 : Option Addr) (l23 c24 : Nat), w.cell? ⟨r8, 2, none⟩ = some (.slice p22 l23 c24) ∧ callQ Try.prog 22 #[(.slice p22 l23 c24), (.int .i64 x6)] w fun v25 w => ∃ (p26 : Option Addr) (l27 c28 : Nat), ∃ b29 : Bool, v25 = (.tuple #[(.slice p26 l27 c28), (.bool b29)]) ∧ jn (fun (x34 : Bool) (w : World) =>
  br x34
  (∃ n36 : Int, w.cell? ⟨r8, 0, none⟩ = some (.int .i64 n36) ∧ ∃ n37 : Int, w.cell? ⟨r8, 1, none⟩ = some (.int .i64 n37) ∧ ∃ (p38 : Option Addr) (l39 c40 : Nat), w.cell? ⟨r8, 2, none⟩ = some (.slice p38 l39 c40) ∧ stL w ⟨r9, 0, none⟩ 0 [(.int .i64 n36), (.int .i64 n37), (.slice p38 l39 c40)] fun w => ∃ n41 : Int, w.cell? ⟨r9, 0, none⟩ = some (.int .i64 n41) ∧ ∃ n42 : Int, w.cell? ⟨r9, 1, none⟩ = some (.int .i64 n42) ∧ ∃ (p43 : Option Addr) (l44 c45 : Nat), w.cell? ⟨r9, 2, none⟩ = some (.slice p43 l44 c45) ∧ K (.tuple #[(.agg #[(.int .i64 n41), (.int .i64 n42), (.slice p43 l44 c45)]), (.int .i64 5)]) w)
  (∃ n46 : Int, w.cell? ⟨r8, 0, none⟩ = some (.int .i64 n46) ∧ al w (.cells #[(.int .i64 x6), (.int .i64 (IntKind.wrap .i64 (n46 + x7)))] 65) fun r47 w => runV Try.prog (Builtin.append_ #[28, 28] 28 #[(.slice p26 l27 c28), (.slice (some ⟨r47, 0, none⟩) 1 1)]) w fun v48 w => ∃ (p49 : Option Addr) (l50 c51 : Nat), v48 = (.slice p49 l50 c51) ∧ stL w ⟨r8, 2, none⟩ 0 [(.slice p49 l50 c51)] fun w => ∃ n52 : Int, w.cell? ⟨r8, 0, none⟩ = some (.int .i64 n52) ∧ ∃ n53 : Int, w.cell? ⟨r8, 1, none⟩ = some (.int .i64 n53) ∧ ∃ (p54 : Option Addr) (l55 c56 : Nat), w.cell? ⟨r8, 2, none⟩ = some (.slice p54 l55 c56) ∧ stL w ⟨r9, 0, none⟩ 0 [(.int .i64 n52), (.int .i64 n53), (.slice p54 l55 c56)] fun w => ∃ n57 : Int, w.cell? ⟨r9, 0, none⟩ = some (.int .i64 n57) ∧ ∃ n58 : Int, w.cell? ⟨r9, 1, none⟩ = some (.int .i64 n58) ∧ ∃ (p59 : Option Addr) (l60 c61 : Nat), w.cell? ⟨r9, 2, none⟩ = some (.slice p59 l60 c61) ∧ K (.tuple #[(.agg #[(.int .i64 n57), (.int .i64 n58), (.slice p59 l60 c61)]), (.int .i64 0)]) w)) fun J35 =>
  br (!b29)
  (∃ (p30 : Option Addr) (l31 c32 : Nat), w.cell? ⟨r8, 2, none⟩ = some (.slice p30 l31 c32) ∧ ∃ n33 : Int, w.cell? ⟨r8, 1, none⟩ = some (.int .i64 n33) ∧ J35 (decide (((l31 : Int) : Int) ≥ n33)) w)
  (J35 false w))) fun J11 =>
  br (decide ((x6 : Int) < 0))
  (J11 true w)
  (br (decide ((x6 : Int) > 1023))
  (J11 true w)
  (br (decide ((x7 : Int) < 1))
  (J11 true w)
  (J11 (decide ((x7 : Int) > 1099511627776)) w)))
theorem eq11 (x1 : Int) (x2 : Int) (x3 : Option Addr) (l4 : Nat) (c5 : Nat) (x6 : Int) (x7 : Int) (w : World) (K : Value → World → Prop) : G Try.prog [9, 10, 11, 13, 15, 16, 18, 19, 20, 21, 22, 23, 24] 54 [0, 1, 2, 3, 6, 7, 8, 9, 23, 41] (H11 K) 0 (bodyOf Try.f11) (retG Try.prog Try.f11.results.toList K) (env0 0 [(.agg #[(.int .i64 x1), (.int .i64 x2), (.slice x3 l4 c5)]), (.int .i64 x6), (.int .i64 x7)]) w = S11 x1 x2 x3 l4 c5 x6 x7 w K := by kernel_rfl
theorem ok11 {x1 : Int} {x2 : Int} {x3 : Option Addr} {l4 : Nat} {c5 : Nat} {x6 : Int} {x7 : Int} {w : World} {K : Value → World → Prop} (h : S11 x1 x2 x3 l4 c5 x6 x7 w K) : callV Try.prog 11 #[(.agg #[(.int .i64 x1), (.int .i64 x2), (.slice x3 l4 c5)]), (.int .i64 x6), (.int .i64 x7)] w K :=
  call_sound (qs := [9, 10, 11, 13, 15, 16, 18, 19, 20, 21, 22, 23, 24]) (args := [(.agg #[(.int .i64 x1), (.int .i64 x2), (.slice x3 l4 c5)]), (.int .i64 x6), (.int .i64 x7)]) (by kernel_rfl) (Try.func11) (c := bodyOf Try.f11) (by kernel_rfl) (by kernel_rfl) (allL (show loops [9, 10, 11, 13, 15, 16, 18, 19, 20, 21, 22, 23, 24] 0 (bodyOf Try.f11) = [] by kernel_rfl) True.intro) (Eq.mpr (eq11 x1 x2 x3 l4 c5 x6 x7 w K) h)
def H13 (_F : Value → World → Prop) : Nat → Kont → Env → World → Prop := fun _ _ _ _ => False
/-- (jackstay/jackstayref13.State).Cancel -/
def S13 (x1 : Int) (x2 : Int) (x3 : Option Addr) (l4 : Nat) (c5 : Nat) (x6 : Int) (w : World) (K : Value → World → Prop) : Prop :=
  al w (.cells #[(.int .i64 x1), (.int .i64 x2), (.slice x3 l4 c5)] 30) fun r7 w => al w (.cells #[(.int .i64 0), (.int .i64 0), (.slice none 0 0)] 30) fun r8 w => ∃ (p9 : Option Addr) (l10 c11 : Nat), w.cell? ⟨r7, 2, none⟩ = some (.slice p9 l10 c11) ∧ callQ Try.prog 22 #[(.slice p9 l10 c11), (.int .i64 x6)] w fun v12 w => ∃ (p13 : Option Addr) (l14 c15 : Nat), ∃ b16 : Bool, v12 = (.tuple #[(.slice p13 l14 c15), (.bool b16)]) ∧ stL w ⟨r7, 2, none⟩ 0 [(.slice p13 l14 c15)] fun w => ∃ n17 : Int, w.cell? ⟨r7, 0, none⟩ = some (.int .i64 n17) ∧ ∃ n18 : Int, w.cell? ⟨r7, 1, none⟩ = some (.int .i64 n18) ∧ ∃ (p19 : Option Addr) (l20 c21 : Nat), w.cell? ⟨r7, 2, none⟩ = some (.slice p19 l20 c21) ∧ stL w ⟨r8, 0, none⟩ 0 [(.int .i64 n17), (.int .i64 n18), (.slice p19 l20 c21)] fun w => ∃ n22 : Int, w.cell? ⟨r8, 0, none⟩ = some (.int .i64 n22) ∧ ∃ n23 : Int, w.cell? ⟨r8, 1, none⟩ = some (.int .i64 n23) ∧ ∃ (p24 : Option Addr) (l25 c26 : Nat), w.cell? ⟨r8, 2, none⟩ = some (.slice p24 l25 c26) ∧ K (.tuple #[(.agg #[(.int .i64 n22), (.int .i64 n23), (.slice p24 l25 c26)]), (.bool b16)]) w
theorem eq13 (x1 : Int) (x2 : Int) (x3 : Option Addr) (l4 : Nat) (c5 : Nat) (x6 : Int) (w : World) (K : Value → World → Prop) : G Try.prog [9, 10, 11, 13, 15, 16, 18, 19, 20, 21, 22, 23, 24] 19 [0, 1, 2, 4, 5, 6, 7] (H13 K) 0 (bodyOf Try.f13) (retG Try.prog Try.f13.results.toList K) (env0 0 [(.agg #[(.int .i64 x1), (.int .i64 x2), (.slice x3 l4 c5)]), (.int .i64 x6)]) w = S13 x1 x2 x3 l4 c5 x6 w K := by kernel_rfl
theorem ok13 {x1 : Int} {x2 : Int} {x3 : Option Addr} {l4 : Nat} {c5 : Nat} {x6 : Int} {w : World} {K : Value → World → Prop} (h : S13 x1 x2 x3 l4 c5 x6 w K) : callV Try.prog 13 #[(.agg #[(.int .i64 x1), (.int .i64 x2), (.slice x3 l4 c5)]), (.int .i64 x6)] w K :=
  call_sound (qs := [9, 10, 11, 13, 15, 16, 18, 19, 20, 21, 22, 23, 24]) (args := [(.agg #[(.int .i64 x1), (.int .i64 x2), (.slice x3 l4 c5)]), (.int .i64 x6)]) (by kernel_rfl) (Try.func13) (c := bodyOf Try.f13) (by kernel_rfl) (by kernel_rfl) (allL (show loops [9, 10, 11, 13, 15, 16, 18, 19, 20, 21, 22, 23, 24] 0 (bodyOf Try.f13) = [] by kernel_rfl) True.intro) (Eq.mpr (eq13 x1 x2 x3 l4 c5 x6 w K) h)
def B15_0 (x9 : Addr) (x10 : Addr) (x11 : Option Addr) (l12 : Nat) (c13 : Nat) (x14 : Int) (w : World) (N : (Option Addr) → Nat → Nat → Int → World → Prop) (X0 : (Option Addr) → Nat → Nat → World → Prop) (K : Value → World → Prop) : Prop :=
  br (decide ((x14 : Int) ≤ 1023))
  (jn (fun (x30 : Option Addr) (l31 : Nat) (c32 : Nat) (w : World) =>
  N x30 l31 c32 (IntKind.wrap .i64 (x14 + 1)) w) fun J33 =>
  ∃ n15 : Int, w.cell? x9 = some (.int .i64 n15) ∧ ∃ n16 : Int, w.cell? (x9.add 1) = some (.int .i64 n16) ∧ ∃ (p17 : Option Addr) (l18 c19 : Nat), w.cell? (x9.add 2) = some (.slice p17 l18 c19) ∧ callQ Try.prog 19 #[(.agg #[(.int .i64 n15), (.int .i64 n16), (.slice p17 l18 c19)]), (.int .i64 x14)] w fun v20 w => ∃ n21 : Int, ∃ b22 : Bool, v20 = (.tuple #[(.int .i64 n21), (.bool b22)]) ∧ jn (fun (x23 : Bool) (w : World) =>
  br x23
  (al w (.cells #[(.int .i64 x14)] 3) fun r25 w => runV Try.prog (Builtin.append_ #[39, 39] 39 #[(.slice x11 l12 c13), (.slice (some ⟨r25, 0, none⟩) 1 1)]) w fun v26 w => ∃ (p27 : Option Addr) (l28 c29 : Nat), v26 = (.slice p27 l28 c29) ∧ J33 p27 l28 c29 w)
  (J33 x11 l12 c13 w)) fun J24 =>
  br b22
  (J24 ((n21 : Int) == 0) w)
  (J24 false w))
  (X0 x11 l12 c13 w)
/-- The loop in block 0 of function 15: by what holds at its head. -/
def LS15_0 (x9 : Addr) (x10 : Addr) (x11 : Option Addr) (l12 : Nat) (c13 : Nat) (x14 : Int) (w : World) (X0 : (Option Addr) → Nat → Nat → World → Prop) (K : Value → World → Prop) : Prop :=
  ∃ J : Nat → (Option Addr) → Nat → Nat → Int → World → Prop, (∃ n, J n x11 l12 c13 x14 w) ∧ ∀ n x11 l12 c13 x14 w, J n x11 l12 c13 x14 w → B15_0 x9 x10 x11 l12 c13 x14 w (fun x11 l12 c13 x14 w => ∃ m, m < n ∧ J m x11 l12 c13 x14 w) X0 K
abbrev env15_0 (x9 : Addr) (x10 : Addr) (x11 : Option Addr) (l12 : Nat) (c13 : Nat) (x14 : Int) : Env := [(1, (.pointer (some x9))), (2, (.pointer (some x10))), (4, (.slice x11 l12 c13)), (5, (.int .i64 x14))]
def Kt15_0 (N : (Option Addr) → Nat → Nat → Int → World → Prop) (X0 : (Option Addr) → Nat → Nat → World → Prop) (K : Value → World → Prop) : Kont := fun e E w => match e with
  | .normal => gS E 4 fun x11 l12 c13 => gI .i64 E 5 fun x14 => N x11 l12 c13 x14 w
  | .exit j => match Nat.beq j 0 with | true => (gS E 4 fun x34 l35 c36 => X0 x34 l35 c36 w) | false => (False)
  | .ret => retG Try.prog Try.f15.results.toList K .ret E w
  | _ => False
def HL15_0 (F : Value → World → Prop) (K : Kont) (E : Env) (w : World) : Prop := match keep [1, 2, 4, 5] E with
  | [(1, (.pointer (some x9))), (2, (.pointer (some x10))), (4, (.slice x11 l12 c13)), (5, (.int .i64 x14))] => LS15_0 x9 x10 x11 l12 c13 x14 w (fun (x34 : Option Addr) (l35 : Nat) (c36 : Nat) w => K (.exit 0) [(1, (.pointer (some x9))), (2, (.pointer (some x10))), (4, (.slice x34 l35 c36))] w) F
  | _ => False
def B15_2 (x37 : Addr) (x38 : Addr) (x39 : Option Addr) (l40 : Nat) (c41 : Nat) (x42 : Int) (w : World) (N : Int → World → Prop) (X2 : World → Prop) (K : Value → World → Prop) : Prop :=
  br (decide ((x42 : Int) < (l40 : Int)))
  (dr w fun w =>
  ∃ n43 : Int, w.cell? x37 = some (.int .i64 n43) ∧ ∃ n44 : Int, w.cell? (x37.add 1) = some (.int .i64 n44) ∧ ∃ (p45 : Option Addr) (l46 c47 : Nat), w.cell? (x37.add 2) = some (.slice p45 l46 c47) ∧ idx x39 l40 1 x42 fun a48 => ∃ n49 : Int, w.cell? a48 = some (.int .i64 n49) ∧ callQ Try.prog 13 #[(.agg #[(.int .i64 n43), (.int .i64 n44), (.slice p45 l46 c47)]), (.int .i64 n49)] w fun v50 w => ∃ n51 : Int, ∃ n52 : Int, ∃ (p53 : Option Addr) (l54 c55 : Nat), ∃ b56 : Bool, v50 = (.tuple #[(.agg #[(.int .i64 n51), (.int .i64 n52), (.slice p53 l54 c55)]), (.bool b56)]) ∧ stL w x37 0 [(.int .i64 n51), (.int .i64 n52), (.slice p53 l54 c55)] fun w => N (IntKind.wrap .i64 (x42 + 1)) w)
  (X2 w)
/-- The loop in block 2 of function 15: by what holds at its head. -/
def LS15_2 (x37 : Addr) (x38 : Addr) (x39 : Option Addr) (l40 : Nat) (c41 : Nat) (x42 : Int) (w : World) (X2 : World → Prop) (K : Value → World → Prop) : Prop :=
  ∃ J : Nat → Int → World → Prop, (∃ n, J n x42 w) ∧ ∀ n x42 w, J n x42 w → B15_2 x37 x38 x39 l40 c41 x42 w (fun x42 w => ∃ m, m < n ∧ J m x42 w) X2 K
abbrev env15_2 (x37 : Addr) (x38 : Addr) (x39 : Option Addr) (l40 : Nat) (c41 : Nat) (x42 : Int) : Env := [(1, (.pointer (some x37))), (2, (.pointer (some x38))), (4, (.slice x39 l40 c41)), (8, (.int .i64 x42))]
def Kt15_2 (N : Int → World → Prop) (X2 : World → Prop) (K : Value → World → Prop) : Kont := fun e E w => match e with
  | .normal => gI .i64 E 8 fun x42 => N x42 w
  | .exit j => match Nat.beq j 2 with | true => (X2 w) | false => (False)
  | .ret => retG Try.prog Try.f15.results.toList K .ret E w
  | _ => False
def HL15_2 (F : Value → World → Prop) (K : Kont) (E : Env) (w : World) : Prop := match keep [1, 2, 4, 8] E with
  | [(1, (.pointer (some x37))), (2, (.pointer (some x38))), (4, (.slice x39 l40 c41)), (8, (.int .i64 x42))] => LS15_2 x37 x38 x39 l40 c41 x42 w (fun w => K (.exit 2) [(1, (.pointer (some x37))), (2, (.pointer (some x38))), (4, (.slice x39 l40 c41))] w) F
  | _ => False
def H15 (F : Value → World → Prop) : Nat → Kont → Env → World → Prop := fun b K E w => match Nat.beq b 0 with | true => HL15_0 F K E w | false => (match Nat.beq b 2 with | true => HL15_2 F K E w | false => (False))
theorem Beq15_0 (x9 : Addr) (x10 : Addr) (x11 : Option Addr) (l12 : Nat) (c13 : Nat) (x14 : Int) (w : World) (N : (Option Addr) → Nat → Nat → Int → World → Prop) (X0 : (Option Addr) → Nat → Nat → World → Prop) (K : Value → World → Prop) :
    G Try.prog [9, 10, 11, 13, 15, 16, 18, 19, 20, 21, 22, 23, 24] 49 [0, 1, 2, 3, 4, 5, 6, 7, 8, 14, 27, 35] (H15 K) 0 (loopOf 0 Try.f15) (Kt15_0 N X0 K) (env15_0 x9 x10 x11 l12 c13 x14) w = B15_0 x9 x10 x11 l12 c13 x14 w N X0 K := by kernel_rfl
theorem lok15_0 (F : Value → World → Prop) : LoopOk Try.prog 49 Try.f15.results.toList F (H15 F) 0 (.loop (loopOf 0 Try.f15)) := by
  intro K E a w Q hr h hs hq
  have hs0 := hs.keep [1, 2, 4, 5]
  have h1 : HL15_0 F K E w := h
  unfold HL15_0 at h1
  split at h1
  · rename_i x9 x10 x11 l12 c13 x14 heq
    obtain ⟨J, ⟨n, hJ⟩, hround⟩ := h1
    rw [heq] at hs0
    refine loop_typed (qs := [9, 10, 11, 13, 15, 16, 18, 19, 20, 21, 22, 23, 24]) (L := [0, 1, 2, 3, 4, 5, 6, 7, 8, 14, 27, 35]) (rs := Try.f15.results.toList) (F := F) (H := H15 F) (b := 0) (by kernel_rfl) (allL (show loops [9, 10, 11, 13, 15, 16, 18, 19, 20, 21, 22, 23, 24] 0 (loopOf 0 Try.f15) = [] by kernel_rfl) True.intro) (σ := Option Addr × Nat × Nat × Int) (fun s => env15_0 x9 x10 s.1 s.2.1 s.2.2.1 s.2.2.2) (fun n s w => J n s.1 s.2.1 s.2.2.1 s.2.2.2 w)
      (fun n => Kt15_0 (fun x11 l12 c13 x14 w => ∃ m, m < n ∧ J m x11 l12 c13 x14 w) (fun (x34 : Option Addr) (l35 : Nat) (c36 : Nat) w => K (.exit 0) [(1, (.pointer (some x9))), (2, (.pointer (some x10))), (4, (.slice x34 l35 c36))] w) F) (fun _ _ _ h => h) ?_ ?_ a ?_ n (x11, l12, c13, x14) a w hJ (Fr.refl _ _) hs0
    · intro n s w hJ
      exact Eq.mpr (Beq15_0 x9 x10 s.1 s.2.1 s.2.2.1 s.2.2.2 w _ _ F) (hround n s.1 s.2.1 s.2.2.1 s.2.2.2 w hJ)
    · intro n s E' w' h
      obtain ⟨x11, l12, c13, e4, h⟩ := gS_get h
      obtain ⟨x14, e5, h⟩ := gI_get h
      obtain ⟨m, hm, hJ⟩ := h
      exact ⟨m, (x11, l12, c13, x14), hm, hJ, ⟨.inl ⟨by kernel_rfl, rfl⟩, .inl ⟨by kernel_rfl, rfl⟩, .inr e4, .inr e5, True.intro⟩⟩
    · intro n s a1 e E' a' w' he hs1 hf0 hf1 hs' h
      cases e with
      | normal => exact (he rfl).elim
      | exit j =>
        dsimp only [Kt15_0] at h
        cases hb : Nat.beq j 0
        case' true =>
          rw [hb] at h
          have hj := Nat.eq_of_beq_eq_true hb
          subst hj
          dsimp only at h
          obtain ⟨x34, l35, c36, e4, h⟩ := gS_get h
          exact hq _ _ _ _ (hs1.next hf1 hs' (E2 := [(1, (.pointer (some x9))), (2, (.pointer (some x10))), (4, (.slice x34 l35 c36))]) ⟨.inl ⟨by kernel_rfl, rfl⟩, .inl ⟨by kernel_rfl, rfl⟩, .inr e4, True.intro⟩) hf0 h
        rw [hb] at h
        dsimp only at h
        all_goals exact h.elim
      | ret => exact hq _ _ _ _ hs' hf0 (hr _ _ h)
      | _ => exact h.elim
  · exact h1.elim
theorem Beq15_2 (x37 : Addr) (x38 : Addr) (x39 : Option Addr) (l40 : Nat) (c41 : Nat) (x42 : Int) (w : World) (N : Int → World → Prop) (X2 : World → Prop) (K : Value → World → Prop) :
    G Try.prog [9, 10, 11, 13, 15, 16, 18, 19, 20, 21, 22, 23, 24] 49 [0, 1, 2, 3, 4, 5, 6, 7, 8, 14, 27, 35] (H15 K) 2 (loopOf 2 Try.f15) (Kt15_2 N X2 K) (env15_2 x37 x38 x39 l40 c41 x42) w = B15_2 x37 x38 x39 l40 c41 x42 w N X2 K := by kernel_rfl
theorem lok15_2 (F : Value → World → Prop) : LoopOk Try.prog 49 Try.f15.results.toList F (H15 F) 2 (.loop (loopOf 2 Try.f15)) := by
  intro K E a w Q hr h hs hq
  have hs0 := hs.keep [1, 2, 4, 8]
  have h1 : HL15_2 F K E w := h
  unfold HL15_2 at h1
  split at h1
  · rename_i x37 x38 x39 l40 c41 x42 heq
    obtain ⟨J, ⟨n, hJ⟩, hround⟩ := h1
    rw [heq] at hs0
    refine loop_typed (qs := [9, 10, 11, 13, 15, 16, 18, 19, 20, 21, 22, 23, 24]) (L := [0, 1, 2, 3, 4, 5, 6, 7, 8, 14, 27, 35]) (rs := Try.f15.results.toList) (F := F) (H := H15 F) (b := 2) (by kernel_rfl) (allL (show loops [9, 10, 11, 13, 15, 16, 18, 19, 20, 21, 22, 23, 24] 2 (loopOf 2 Try.f15) = [] by kernel_rfl) True.intro) (σ := Int) (fun s => env15_2 x37 x38 x39 l40 c41 s) (fun n s w => J n s w)
      (fun n => Kt15_2 (fun x42 w => ∃ m, m < n ∧ J m x42 w) (fun w => K (.exit 2) [(1, (.pointer (some x37))), (2, (.pointer (some x38))), (4, (.slice x39 l40 c41))] w) F) (fun _ _ _ h => h) ?_ ?_ a ?_ n x42 a w hJ (Fr.refl _ _) hs0
    · intro n s w hJ
      exact Eq.mpr (Beq15_2 x37 x38 x39 l40 c41 s w _ _ F) (hround n s w hJ)
    · intro n s E' w' h
      obtain ⟨x42, e8, h⟩ := gI_get h
      obtain ⟨m, hm, hJ⟩ := h
      exact ⟨m, x42, hm, hJ, ⟨.inl ⟨by kernel_rfl, rfl⟩, .inl ⟨by kernel_rfl, rfl⟩, .inl ⟨by kernel_rfl, rfl⟩, .inr e8, True.intro⟩⟩
    · intro n s a1 e E' a' w' he hs1 hf0 hf1 hs' h
      cases e with
      | normal => exact (he rfl).elim
      | exit j =>
        dsimp only [Kt15_2] at h
        cases hb : Nat.beq j 2
        case' true =>
          rw [hb] at h
          have hj := Nat.eq_of_beq_eq_true hb
          subst hj
          dsimp only at h
          exact hq _ _ _ _ (hs1.next hf1 hs' (E2 := [(1, (.pointer (some x37))), (2, (.pointer (some x38))), (4, (.slice x39 l40 c41))]) ⟨.inl ⟨by kernel_rfl, rfl⟩, .inl ⟨by kernel_rfl, rfl⟩, .inl ⟨by kernel_rfl, rfl⟩, True.intro⟩) hf0 h
        rw [hb] at h
        dsimp only at h
        all_goals exact h.elim
      | ret => exact hq _ _ _ _ hs' hf0 (hr _ _ h)
      | _ => exact h.elim
  · exact h1.elim
/-- (jackstay/jackstayref13.State).Tick -/
def S15 (x1 : Int) (x2 : Int) (x3 : Option Addr) (l4 : Nat) (c5 : Nat) (w : World) (K : Value → World → Prop) : Prop :=
  al w (.cells #[(.int .i64 x1), (.int .i64 x2), (.slice x3 l4 c5)] 30) fun r6 w => al w (.cells #[(.int .i64 0), (.int .i64 0), (.slice none 0 0)] 30) fun r7 w => ∃ n8 : Int, w.cell? ⟨r6, 0, none⟩ = some (.int .i64 n8) ∧ stL w ⟨r6, 0, none⟩ 0 [(.int .i64 (IntKind.wrap .i64 (n8 + 1)))] fun w => LS15_0 (⟨r6, 0, none⟩) (⟨r7, 0, none⟩) none 0 0 0 w
  (fun (x34 : Option Addr) (l35 : Nat) (c36 : Nat) w => LS15_2 (⟨r6, 0, none⟩) (⟨r7, 0, none⟩) x34 l35 c36 0 w
  (fun w => ∃ n57 : Int, w.cell? ⟨r6, 0, none⟩ = some (.int .i64 n57) ∧ ∃ n58 : Int, w.cell? ⟨r6, 1, none⟩ = some (.int .i64 n58) ∧ ∃ (p59 : Option Addr) (l60 c61 : Nat), w.cell? ⟨r6, 2, none⟩ = some (.slice p59 l60 c61) ∧ stL w ⟨r7, 0, none⟩ 0 [(.int .i64 n57), (.int .i64 n58), (.slice p59 l60 c61)] fun w => ∃ n62 : Int, w.cell? ⟨r7, 0, none⟩ = some (.int .i64 n62) ∧ ∃ n63 : Int, w.cell? ⟨r7, 1, none⟩ = some (.int .i64 n63) ∧ ∃ (p64 : Option Addr) (l65 c66 : Nat), w.cell? ⟨r7, 2, none⟩ = some (.slice p64 l65 c66) ∧ K (.tuple #[(.agg #[(.int .i64 n62), (.int .i64 n63), (.slice p64 l65 c66)]), (.slice x34 l35 c36)]) w) K) K
theorem eq15 (x1 : Int) (x2 : Int) (x3 : Option Addr) (l4 : Nat) (c5 : Nat) (w : World) (K : Value → World → Prop) : G Try.prog [9, 10, 11, 13, 15, 16, 18, 19, 20, 21, 22, 23, 24] 49 [0, 1, 2, 3, 4, 5, 6, 7, 8, 14, 27, 35] (H15 K) 0 (bodyOf Try.f15) (retG Try.prog Try.f15.results.toList K) (env0 0 [(.agg #[(.int .i64 x1), (.int .i64 x2), (.slice x3 l4 c5)])]) w = S15 x1 x2 x3 l4 c5 w K := by kernel_rfl
theorem ok15 {x1 : Int} {x2 : Int} {x3 : Option Addr} {l4 : Nat} {c5 : Nat} {w : World} {K : Value → World → Prop} (h : S15 x1 x2 x3 l4 c5 w K) : callV Try.prog 15 #[(.agg #[(.int .i64 x1), (.int .i64 x2), (.slice x3 l4 c5)])] w K :=
  call_sound (qs := [9, 10, 11, 13, 15, 16, 18, 19, 20, 21, 22, 23, 24]) (args := [(.agg #[(.int .i64 x1), (.int .i64 x2), (.slice x3 l4 c5)])]) (by kernel_rfl) (Try.func15) (c := bodyOf Try.f15) (by kernel_rfl) (by kernel_rfl) (allL (show loops [9, 10, 11, 13, 15, 16, 18, 19, 20, 21, 22, 23, 24] 0 (bodyOf Try.f15) = [(0, .loop (loopOf 0 Try.f15)), (2, .loop (loopOf 2 Try.f15))] by kernel_rfl) ⟨lok15_0 K, lok15_2 K, True.intro⟩) (Eq.mpr (eq15 x1 x2 x3 l4 c5 w K) h)
def B19_0 (x8 : Int) (x9 : Addr) (x10 : Int) (w : World) (N : Int → World → Prop) (X0 : World → Prop) (K : Value → World → Prop) : Prop :=
  ∃ (p11 : Option Addr) (l12 c13 : Nat), w.cell? (x9.add 2) = some (.slice p11 l12 c13) ∧ br (decide ((x10 : Int) < (l12 : Int)))
  (∃ (p14 : Option Addr) (l15 c16 : Nat), w.cell? (x9.add 2) = some (.slice p14 l15 c16) ∧ idx p14 l15 2 x10 fun a17 => ∃ n18 : Int, w.cell? a17 = some (.int .i64 n18) ∧ br ((n18 : Int) == x8)
  (dr w fun w =>
  ∃ (p19 : Option Addr) (l20 c21 : Nat), w.cell? (x9.add 2) = some (.slice p19 l20 c21) ∧ idx p19 l20 2 x10 fun a22 => ∃ n23 : Int, w.cell? (a22.add 1) = some (.int .i64 n23) ∧ ∃ n24 : Int, w.cell? x9 = some (.int .i64 n24) ∧ K (.tuple #[(.int .i64 (IntKind.wrap .i64 (n23 - n24))), (.bool true)]) w)
  (N (IntKind.wrap .i64 (x10 + 1)) w))
  (X0 w)
/-- The loop in block 0 of function 19: by what holds at its head. -/
def LS19_0 (x8 : Int) (x9 : Addr) (x10 : Int) (w : World) (X0 : World → Prop) (K : Value → World → Prop) : Prop :=
  ∃ J : Nat → Int → World → Prop, (∃ n, J n x10 w) ∧ ∀ n x10 w, J n x10 w → B19_0 x8 x9 x10 w (fun x10 w => ∃ m, m < n ∧ J m x10 w) X0 K
abbrev env19_0 (x8 : Int) (x9 : Addr) (x10 : Int) : Env := [(1, (.int .i64 x8)), (2, (.pointer (some x9))), (6, (.int .i64 x10))]
def Kt19_0 (N : Int → World → Prop) (X0 : World → Prop) (K : Value → World → Prop) : Kont := fun e E w => match e with
  | .normal => gI .i64 E 6 fun x10 => N x10 w
  | .exit j => match Nat.beq j 0 with | true => (X0 w) | false => (False)
  | .ret => retG Try.prog Try.f19.results.toList K .ret E w
  | _ => False
def HL19_0 (F : Value → World → Prop) (K : Kont) (E : Env) (w : World) : Prop := match keep [1, 2, 6] E with
  | [(1, (.int .i64 x8)), (2, (.pointer (some x9))), (6, (.int .i64 x10))] => LS19_0 x8 x9 x10 w (fun w => K (.exit 0) [] w) F
  | _ => False
def H19 (F : Value → World → Prop) : Nat → Kont → Env → World → Prop := fun b K E w => match Nat.beq b 0 with | true => HL19_0 F K E w | false => (False)
theorem Beq19_0 (x8 : Int) (x9 : Addr) (x10 : Int) (w : World) (N : Int → World → Prop) (X0 : World → Prop) (K : Value → World → Prop) :
    G Try.prog [9, 10, 11, 13, 15, 16, 18, 19, 20, 21, 22, 23, 24] 31 [0, 1, 2, 4, 5, 6, 11, 21] (H19 K) 0 (loopOf 0 Try.f19) (Kt19_0 N X0 K) (env19_0 x8 x9 x10) w = B19_0 x8 x9 x10 w N X0 K := by kernel_rfl
theorem lok19_0 (F : Value → World → Prop) : LoopOk Try.prog 31 Try.f19.results.toList F (H19 F) 0 (.loop (loopOf 0 Try.f19)) := by
  intro K E a w Q hr h hs hq
  have hs0 := hs.keep [1, 2, 6]
  have h1 : HL19_0 F K E w := h
  unfold HL19_0 at h1
  split at h1
  · rename_i x8 x9 x10 heq
    obtain ⟨J, ⟨n, hJ⟩, hround⟩ := h1
    rw [heq] at hs0
    refine loop_typed (qs := [9, 10, 11, 13, 15, 16, 18, 19, 20, 21, 22, 23, 24]) (L := [0, 1, 2, 4, 5, 6, 11, 21]) (rs := Try.f19.results.toList) (F := F) (H := H19 F) (b := 0) (by kernel_rfl) (allL (show loops [9, 10, 11, 13, 15, 16, 18, 19, 20, 21, 22, 23, 24] 0 (loopOf 0 Try.f19) = [] by kernel_rfl) True.intro) (σ := Int) (fun s => env19_0 x8 x9 s) (fun n s w => J n s w)
      (fun n => Kt19_0 (fun x10 w => ∃ m, m < n ∧ J m x10 w) (fun w => K (.exit 0) [] w) F) (fun _ _ _ h => h) ?_ ?_ a ?_ n x10 a w hJ (Fr.refl _ _) hs0
    · intro n s w hJ
      exact Eq.mpr (Beq19_0 x8 x9 s w _ _ F) (hround n s w hJ)
    · intro n s E' w' h
      obtain ⟨x10, e6, h⟩ := gI_get h
      obtain ⟨m, hm, hJ⟩ := h
      exact ⟨m, x10, hm, hJ, ⟨.inl ⟨by kernel_rfl, rfl⟩, .inl ⟨by kernel_rfl, rfl⟩, .inr e6, True.intro⟩⟩
    · intro n s a1 e E' a' w' he hs1 hf0 hf1 hs' h
      cases e with
      | normal => exact (he rfl).elim
      | exit j =>
        dsimp only [Kt19_0] at h
        cases hb : Nat.beq j 0
        case' true =>
          rw [hb] at h
          have hj := Nat.eq_of_beq_eq_true hb
          subst hj
          dsimp only at h
          exact hq _ _ _ _ (hs1.next hf1 hs' (E2 := []) True.intro) hf0 h
        rw [hb] at h
        dsimp only at h
        all_goals exact h.elim
      | ret => exact hq _ _ _ _ hs' hf0 (hr _ _ h)
      | _ => exact h.elim
  · exact h1.elim
/-- (jackstay/jackstayref13.State).Left -/
def S19 (x1 : Int) (x2 : Int) (x3 : Option Addr) (l4 : Nat) (c5 : Nat) (x6 : Int) (w : World) (K : Value → World → Prop) : Prop :=
  al w (.cells #[(.int .i64 x1), (.int .i64 x2), (.slice x3 l4 c5)] 30) fun r7 w => LS19_0 x6 (⟨r7, 0, none⟩) 0 w
  (fun w => K (.tuple #[(.int .i64 0), (.bool false)]) w) K
theorem eq19 (x1 : Int) (x2 : Int) (x3 : Option Addr) (l4 : Nat) (c5 : Nat) (x6 : Int) (w : World) (K : Value → World → Prop) : G Try.prog [9, 10, 11, 13, 15, 16, 18, 19, 20, 21, 22, 23, 24] 31 [0, 1, 2, 4, 5, 6, 11, 21] (H19 K) 0 (bodyOf Try.f19) (retG Try.prog Try.f19.results.toList K) (env0 0 [(.agg #[(.int .i64 x1), (.int .i64 x2), (.slice x3 l4 c5)]), (.int .i64 x6)]) w = S19 x1 x2 x3 l4 c5 x6 w K := by kernel_rfl
theorem ok19 {x1 : Int} {x2 : Int} {x3 : Option Addr} {l4 : Nat} {c5 : Nat} {x6 : Int} {w : World} {K : Value → World → Prop} (h : S19 x1 x2 x3 l4 c5 x6 w K) : callV Try.prog 19 #[(.agg #[(.int .i64 x1), (.int .i64 x2), (.slice x3 l4 c5)]), (.int .i64 x6)] w K :=
  call_sound (qs := [9, 10, 11, 13, 15, 16, 18, 19, 20, 21, 22, 23, 24]) (args := [(.agg #[(.int .i64 x1), (.int .i64 x2), (.slice x3 l4 c5)]), (.int .i64 x6)]) (by kernel_rfl) (Try.func19) (c := bodyOf Try.f19) (by kernel_rfl) (by kernel_rfl) (allL (show loops [9, 10, 11, 13, 15, 16, 18, 19, 20, 21, 22, 23, 24] 0 (bodyOf Try.f19) = [(0, .loop (loopOf 0 Try.f19))] by kernel_rfl) ⟨lok19_0 K, True.intro⟩) (Eq.mpr (eq19 x1 x2 x3 l4 c5 x6 w K) h)
def B22_0 (x5 : Option Addr) (l6 : Nat) (c7 : Nat) (x8 : Int) (x9 : Option Addr) (l10 : Nat) (c11 : Nat) (x12 : Int) (w : World) (N : (Option Addr) → Nat → Nat → Int → World → Prop) (X0 : (Option Addr) → Nat → Nat → World → Prop) (K : Value → World → Prop) : Prop :=
  br (decide ((x12 : Int) < (l6 : Int)))
  (jn (fun (x23 : Option Addr) (l24 : Nat) (c25 : Nat) (w : World) =>
  N x23 l24 c25 (IntKind.wrap .i64 (x12 + 1)) w) fun J26 =>
  idx x5 l6 2 x12 fun a13 => ∃ n14 : Int, w.cell? a13 = some (.int .i64 n14) ∧ br ((n14 : Int) != x8)
  (idx x5 l6 2 x12 fun a15 => ∃ n16 : Int, w.cell? a15 = some (.int .i64 n16) ∧ ∃ n17 : Int, w.cell? (a15.add 1) = some (.int .i64 n17) ∧ al w (.cells #[(.int .i64 n16), (.int .i64 n17)] 65) fun r18 w => runV Try.prog (Builtin.append_ #[28, 28] 28 #[(.slice x9 l10 c11), (.slice (some ⟨r18, 0, none⟩) 1 1)]) w fun v19 w => ∃ (p20 : Option Addr) (l21 c22 : Nat), v19 = (.slice p20 l21 c22) ∧ J26 p20 l21 c22 w)
  (J26 x9 l10 c11 w))
  (X0 x9 l10 c11 w)
/-- The loop in block 0 of function 22: by what holds at its head. -/
def LS22_0 (x5 : Option Addr) (l6 : Nat) (c7 : Nat) (x8 : Int) (x9 : Option Addr) (l10 : Nat) (c11 : Nat) (x12 : Int) (w : World) (X0 : (Option Addr) → Nat → Nat → World → Prop) (K : Value → World → Prop) : Prop :=
  ∃ J : Nat → (Option Addr) → Nat → Nat → Int → World → Prop, (∃ n, J n x9 l10 c11 x12 w) ∧ ∀ n x9 l10 c11 x12 w, J n x9 l10 c11 x12 w → B22_0 x5 l6 c7 x8 x9 l10 c11 x12 w (fun x9 l10 c11 x12 w => ∃ m, m < n ∧ J m x9 l10 c11 x12 w) X0 K
abbrev env22_0 (x5 : Option Addr) (l6 : Nat) (c7 : Nat) (x8 : Int) (x9 : Option Addr) (l10 : Nat) (c11 : Nat) (x12 : Int) : Env := [(0, (.slice x5 l6 c7)), (1, (.int .i64 x8)), (6, (.slice x9 l10 c11)), (7, (.int .i64 x12))]
def Kt22_0 (N : (Option Addr) → Nat → Nat → Int → World → Prop) (X0 : (Option Addr) → Nat → Nat → World → Prop) (K : Value → World → Prop) : Kont := fun e E w => match e with
  | .normal => gS E 6 fun x9 l10 c11 => gI .i64 E 7 fun x12 => N x9 l10 c11 x12 w
  | .exit j => match Nat.beq j 0 with | true => (gS E 6 fun x27 l28 c29 => X0 x27 l28 c29 w) | false => (False)
  | .ret => retG Try.prog Try.f22.results.toList K .ret E w
  | _ => False
def HL22_0 (F : Value → World → Prop) (K : Kont) (E : Env) (w : World) : Prop := match keep [0, 1, 6, 7] E with
  | [(0, (.slice x5 l6 c7)), (1, (.int .i64 x8)), (6, (.slice x9 l10 c11)), (7, (.int .i64 x12))] => LS22_0 x5 l6 c7 x8 x9 l10 c11 x12 w (fun (x27 : Option Addr) (l28 : Nat) (c29 : Nat) w => K (.exit 0) [(0, (.slice x5 l6 c7)), (6, (.slice x27 l28 c29))] w) F
  | _ => False
def H22 (F : Value → World → Prop) : Nat → Kont → Env → World → Prop := fun b K E w => match Nat.beq b 0 with | true => HL22_0 F K E w | false => (False)
theorem Beq22_0 (x5 : Option Addr) (l6 : Nat) (c7 : Nat) (x8 : Int) (x9 : Option Addr) (l10 : Nat) (c11 : Nat) (x12 : Int) (w : World) (N : (Option Addr) → Nat → Nat → Int → World → Prop) (X0 : (Option Addr) → Nat → Nat → World → Prop) (K : Value → World → Prop) :
    G Try.prog [9, 10, 11, 13, 15, 16, 18, 19, 20, 21, 22, 23, 24] 34 [0, 1, 4, 5, 6, 7, 11, 20] (H22 K) 0 (loopOf 0 Try.f22) (Kt22_0 N X0 K) (env22_0 x5 l6 c7 x8 x9 l10 c11 x12) w = B22_0 x5 l6 c7 x8 x9 l10 c11 x12 w N X0 K := by kernel_rfl
theorem lok22_0 (F : Value → World → Prop) : LoopOk Try.prog 34 Try.f22.results.toList F (H22 F) 0 (.loop (loopOf 0 Try.f22)) := by
  intro K E a w Q hr h hs hq
  have hs0 := hs.keep [0, 1, 6, 7]
  have h1 : HL22_0 F K E w := h
  unfold HL22_0 at h1
  split at h1
  · rename_i x5 l6 c7 x8 x9 l10 c11 x12 heq
    obtain ⟨J, ⟨n, hJ⟩, hround⟩ := h1
    rw [heq] at hs0
    refine loop_typed (qs := [9, 10, 11, 13, 15, 16, 18, 19, 20, 21, 22, 23, 24]) (L := [0, 1, 4, 5, 6, 7, 11, 20]) (rs := Try.f22.results.toList) (F := F) (H := H22 F) (b := 0) (by kernel_rfl) (allL (show loops [9, 10, 11, 13, 15, 16, 18, 19, 20, 21, 22, 23, 24] 0 (loopOf 0 Try.f22) = [] by kernel_rfl) True.intro) (σ := Option Addr × Nat × Nat × Int) (fun s => env22_0 x5 l6 c7 x8 s.1 s.2.1 s.2.2.1 s.2.2.2) (fun n s w => J n s.1 s.2.1 s.2.2.1 s.2.2.2 w)
      (fun n => Kt22_0 (fun x9 l10 c11 x12 w => ∃ m, m < n ∧ J m x9 l10 c11 x12 w) (fun (x27 : Option Addr) (l28 : Nat) (c29 : Nat) w => K (.exit 0) [(0, (.slice x5 l6 c7)), (6, (.slice x27 l28 c29))] w) F) (fun _ _ _ h => h) ?_ ?_ a ?_ n (x9, l10, c11, x12) a w hJ (Fr.refl _ _) hs0
    · intro n s w hJ
      exact Eq.mpr (Beq22_0 x5 l6 c7 x8 s.1 s.2.1 s.2.2.1 s.2.2.2 w _ _ F) (hround n s.1 s.2.1 s.2.2.1 s.2.2.2 w hJ)
    · intro n s E' w' h
      obtain ⟨x9, l10, c11, e6, h⟩ := gS_get h
      obtain ⟨x12, e7, h⟩ := gI_get h
      obtain ⟨m, hm, hJ⟩ := h
      exact ⟨m, (x9, l10, c11, x12), hm, hJ, ⟨.inl ⟨by kernel_rfl, rfl⟩, .inl ⟨by kernel_rfl, rfl⟩, .inr e6, .inr e7, True.intro⟩⟩
    · intro n s a1 e E' a' w' he hs1 hf0 hf1 hs' h
      cases e with
      | normal => exact (he rfl).elim
      | exit j =>
        dsimp only [Kt22_0] at h
        cases hb : Nat.beq j 0
        case' true =>
          rw [hb] at h
          have hj := Nat.eq_of_beq_eq_true hb
          subst hj
          dsimp only at h
          obtain ⟨x27, l28, c29, e6, h⟩ := gS_get h
          exact hq _ _ _ _ (hs1.next hf1 hs' (E2 := [(0, (.slice x5 l6 c7)), (6, (.slice x27 l28 c29))]) ⟨.inl ⟨by kernel_rfl, rfl⟩, .inr e6, True.intro⟩) hf0 h
        rw [hb] at h
        dsimp only at h
        all_goals exact h.elim
      | ret => exact hq _ _ _ _ hs' hf0 (hr _ _ h)
      | _ => exact h.elim
  · exact h1.elim
/-- jackstay/jackstayref13.without -/
def S22 (x1 : Option Addr) (l2 : Nat) (c3 : Nat) (x4 : Int) (w : World) (K : Value → World → Prop) : Prop :=
  LS22_0 x1 l2 c3 x4 none 0 0 0 w
  (fun (x27 : Option Addr) (l28 : Nat) (c29 : Nat) w => K (.tuple #[(.slice x27 l28 c29), (.bool (decide (((l28 : Int) : Int) < (l2 : Int))))]) w) K
theorem eq22 (x1 : Option Addr) (l2 : Nat) (c3 : Nat) (x4 : Int) (w : World) (K : Value → World → Prop) : G Try.prog [9, 10, 11, 13, 15, 16, 18, 19, 20, 21, 22, 23, 24] 34 [0, 1, 4, 5, 6, 7, 11, 20] (H22 K) 0 (bodyOf Try.f22) (retG Try.prog Try.f22.results.toList K) (env0 0 [(.slice x1 l2 c3), (.int .i64 x4)]) w = S22 x1 l2 c3 x4 w K := by kernel_rfl
theorem ok22 {x1 : Option Addr} {l2 : Nat} {c3 : Nat} {x4 : Int} {w : World} {K : Value → World → Prop} (h : S22 x1 l2 c3 x4 w K) : callV Try.prog 22 #[(.slice x1 l2 c3), (.int .i64 x4)] w K :=
  call_sound (qs := [9, 10, 11, 13, 15, 16, 18, 19, 20, 21, 22, 23, 24]) (args := [(.slice x1 l2 c3), (.int .i64 x4)]) (by kernel_rfl) (Try.func22) (c := bodyOf Try.f22) (by kernel_rfl) (by kernel_rfl) (allL (show loops [9, 10, 11, 13, 15, 16, 18, 19, 20, 21, 22, 23, 24] 0 (bodyOf Try.f22) = [(0, .loop (loopOf 0 Try.f22))] by kernel_rfl) ⟨lok22_0 K, True.intro⟩) (Eq.mpr (eq22 x1 l2 c3 x4 w K) h)
end Go.Proofs.Ytibalkkiefgljaa
