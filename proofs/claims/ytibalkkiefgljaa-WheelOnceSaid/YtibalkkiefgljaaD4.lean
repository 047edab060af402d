/- The formulas of the functions 5 of this seat, written by a program of my own (dec.py), each with its proof. -/
import Derived.Test.YtibalkkiefgljaaProg
import Derived.Test.YtibalkkiefgljaaSh
import Derived.KernelRfl
namespace Go.Proofs.Ytibalkkiefgljaa
open Go Go.Sh
set_option linter.unusedVariables false
set_option maxRecDepth 100000
def B5_3 (x72 : Int) (x73 : Option Addr) (x74 : Option Addr) (x75 : Option Addr) (l76 : Nat) (c77 : Nat) (x78 : Int) (x79 : Int) (x80 : Int) (x81 : Int) (w : World) (N : Int → World → Prop) (X3 : World → Prop) (K : Value → World → Prop) : Prop :=
  br (decide ((x81 : Int) < x80))
  (callV Try.prog 17 #[(.pointer x73)] w fun v82 w => ∃ (p83 : Option Addr) (l84 c85 : Nat), v82 = (.slice p83 l84 c85) ∧ callV Try.prog 17 #[(.pointer x74)] w fun v86 w => ∃ (p87 : Option Addr) (l88 c89 : Nat), v86 = (.slice p87 l88 c89) ∧ callQ Try.prog 16 #[(.slice p83 l84 c85), (.slice p87 l88 c89)] w fun v90 w => ∃ b91 : Bool, v90 = (.bool b91) ∧ br (!b91)
  (K (.bool false) w)
  (N (IntKind.wrap .i64 (x81 + 1)) w))
  (X3 w)
/-- The loop in block 3 of function 5: by what holds at its head. -/
def LS5_3 (x72 : Int) (x73 : Option Addr) (x74 : Option Addr) (x75 : Option Addr) (l76 : Nat) (c77 : Nat) (x78 : Int) (x79 : Int) (x80 : Int) (x81 : Int) (w : World) (X3 : World → Prop) (K : Value → World → Prop) : Prop :=
  ∃ J : Nat → Int → World → Prop, (∃ n, J n x81 w) ∧ ∀ n x81 w, J n x81 w → B5_3 x72 x73 x74 x75 l76 c77 x78 x79 x80 x81 w (fun x81 w => ∃ m, m < n ∧ J m x81 w) X3 K
abbrev env5_3 (x72 : Int) (x73 : Option Addr) (x74 : Option Addr) (x75 : Option Addr) (l76 : Nat) (c77 : Nat) (x78 : Int) (x79 : Int) (x80 : Int) (x81 : Int) : Env := [(2, (.int .u8 x72)), (9, (.pointer x73)), (11, (.pointer x74)), (45, (.slice x75 l76 c77)), (46, (.int .i64 x78)), (47, (.int .i64 x79)), (57, (.int .i64 x80)), (58, (.int .i64 x81))]
def Kt5_3 (N : Int → World → Prop) (X3 : World → Prop) (K : Value → World → Prop) : Kont := fun e E w => match e with
  | .normal => gI .i64 E 58 fun x81 => N x81 w
  | .exit j => match Nat.beq j 3 with | true => (X3 w) | false => (False)
  | .ret => retG Try.prog Try.f5.results.toList K .ret E w
  | _ => False
def HL5_3 (F : Value → World → Prop) (K : Kont) (E : Env) (w : World) : Prop := match keep [2, 9, 11, 45, 46, 47, 57, 58] E with
  | [(2, (.int .u8 x72)), (9, (.pointer x73)), (11, (.pointer x74)), (45, (.slice x75 l76 c77)), (46, (.int .i64 x78)), (47, (.int .i64 x79)), (57, (.int .i64 x80)), (58, (.int .i64 x81))] => LS5_3 x72 x73 x74 x75 l76 c77 x78 x79 x80 x81 w (fun w => K (.exit 3) [(2, (.int .u8 x72)), (9, (.pointer x73)), (11, (.pointer x74)), (45, (.slice x75 l76 c77)), (46, (.int .i64 x78)), (47, (.int .i64 x79))] w) F
  | _ => False
def B5_0 (x16 : Int) (x17 : Option Addr) (x18 : Option Addr) (x19 : Option Addr) (l20 : Nat) (c21 : Nat) (x22 : Int) (x23 : Int) (w : World) (N : Int → World → Prop) (X0 : World → Prop) (K : Value → World → Prop) : Prop :=
  br (decide ((x23 : Int) < x22))
  (idx x19 l20 3 x23 fun a24 => ∃ n25 : Int, w.cell? a24 = some (.int .u8 n25) ∧ ∃ n26 : Int, w.cell? (a24.add 1) = some (.int .i64 n26) ∧ ∃ n27 : Int, w.cell? (a24.add 2) = some (.int .i64 n27) ∧ al w (.cells #[(.int .u8 0), (.int .i64 0), (.int .i64 0)] 32) fun r28 w => stL w ⟨r28, 0, none⟩ 0 [(.int .u8 n25), (.int .i64 n26), (.int .i64 n27)] fun w => jn (fun (w : World) =>
  callQ Try.prog 21 #[(.pointer x17)] w fun v93 w => ∃ n94 : Int, v93 = (.int .i64 n94) ∧ callQ Try.prog 21 #[(.pointer x18)] w fun v95 w => ∃ n96 : Int, v95 = (.int .i64 n96) ∧ br ((n94 : Int) != n96)
  (K (.bool false) w)
  (callQ Try.prog 21 #[(.pointer x17)] w fun v97 w => ∃ n98 : Int, v97 = (.int .i64 n98) ∧ br (decide ((n98 : Int) > (IntKind.wrap .i64 x16)))
  (K (.bool false) w)
  (callQ Try.prog 20 #[(.pointer x17)] w fun v99 w => ∃ n100 : Int, v99 = (.int .i64 n100) ∧ callQ Try.prog 20 #[(.pointer x18)] w fun v101 w => ∃ n102 : Int, v101 = (.int .i64 n102) ∧ br ((n100 : Int) != n102)
  (K (.bool false) w)
  (N (IntKind.wrap .i64 (x23 + 1)) w)))) fun J92 =>
  ∃ n29 : Int, w.cell? ⟨r28, 0, none⟩ = some (.int .u8 n29) ∧ br (((Int.tmod n29 4) : Int) == 0)
  (dr w fun w =>
  ∃ n30 : Int, w.cell? ⟨r28, 1, none⟩ = some (.int .i64 n30) ∧ ∃ n31 : Int, w.cell? ⟨r28, 2, none⟩ = some (.int .i64 n31) ∧ (callV Try.prog 12 #[(.pointer x17), (.int .i64 n30), (.int .i64 n31)] w fun v32 w => ∃ n33 : Int, v32 = (.int .i64 n33) ∧ ∃ n34 : Int, w.cell? ⟨r28, 1, none⟩ = some (.int .i64 n34) ∧ ∃ n35 : Int, w.cell? ⟨r28, 2, none⟩ = some (.int .i64 n35) ∧ callV Try.prog 12 #[(.pointer x18), (.int .i64 n34), (.int .i64 n35)] w fun v36 w => ∃ n37 : Int, v36 = (.int .i64 n37) ∧ br ((n33 : Int) != n37)
  (K (.bool false) w)
  (J92 w)) ∧
  (∃ n38 : Int, w.cell? ⟨r28, 1, none⟩ = some (.int .i64 n38) ∧ (callV Try.prog 12 #[(.pointer x17), (.int .i64 n30), (.int .i64 n31)] w fun v39 w => ∃ n40 : Int, v39 = (.int .i64 n40) ∧ ∃ n41 : Int, w.cell? ⟨r28, 2, none⟩ = some (.int .i64 n41) ∧ callV Try.prog 12 #[(.pointer x18), (.int .i64 n38), (.int .i64 n41)] w fun v42 w => ∃ n43 : Int, v42 = (.int .i64 n43) ∧ br ((n40 : Int) != n43)
  (K (.bool false) w)
  (J92 w)) ∧
  (∃ n44 : Int, w.cell? ⟨r28, 2, none⟩ = some (.int .i64 n44) ∧ callV Try.prog 12 #[(.pointer x17), (.int .i64 n30), (.int .i64 n31)] w fun v45 w => ∃ n46 : Int, v45 = (.int .i64 n46) ∧ callV Try.prog 12 #[(.pointer x18), (.int .i64 n38), (.int .i64 n44)] w fun v47 w => ∃ n48 : Int, v47 = (.int .i64 n48) ∧ br ((n46 : Int) != n48)
  (K (.bool false) w)
  (J92 w))) ∧
  (∃ n49 : Int, w.cell? ⟨r28, 2, none⟩ = some (.int .i64 n49) ∧ (callV Try.prog 12 #[(.pointer x17), (.int .i64 n30), (.int .i64 n31)] w fun v50 w => ∃ n51 : Int, v50 = (.int .i64 n51) ∧ ∃ n52 : Int, w.cell? ⟨r28, 1, none⟩ = some (.int .i64 n52) ∧ callV Try.prog 12 #[(.pointer x18), (.int .i64 n52), (.int .i64 n49)] w fun v53 w => ∃ n54 : Int, v53 = (.int .i64 n54) ∧ br ((n51 : Int) != n54)
  (K (.bool false) w)
  (J92 w)) ∧
  (∃ n55 : Int, w.cell? ⟨r28, 1, none⟩ = some (.int .i64 n55) ∧ callV Try.prog 12 #[(.pointer x17), (.int .i64 n30), (.int .i64 n31)] w fun v56 w => ∃ n57 : Int, v56 = (.int .i64 n57) ∧ callV Try.prog 12 #[(.pointer x18), (.int .i64 n55), (.int .i64 n49)] w fun v58 w => ∃ n59 : Int, v58 = (.int .i64 n59) ∧ br ((n57 : Int) != n59)
  (K (.bool false) w)
  (J92 w))))
  (br (((Int.tmod n29 4) : Int) == 1)
  (dr w fun w =>
  ∃ n60 : Int, w.cell? ⟨r28, 1, none⟩ = some (.int .i64 n60) ∧ (callV Try.prog 14 #[(.pointer x17), (.int .i64 n60)] w fun v61 w => ∃ b62 : Bool, v61 = (.bool b62) ∧ ∃ n63 : Int, w.cell? ⟨r28, 1, none⟩ = some (.int .i64 n63) ∧ callV Try.prog 14 #[(.pointer x18), (.int .i64 n63)] w fun v64 w => ∃ b65 : Bool, v64 = (.bool b65) ∧ br (!(b62 == b65))
  (K (.bool false) w)
  (J92 w)) ∧
  (∃ n66 : Int, w.cell? ⟨r28, 1, none⟩ = some (.int .i64 n66) ∧ callV Try.prog 14 #[(.pointer x17), (.int .i64 n60)] w fun v67 w => ∃ b68 : Bool, v67 = (.bool b68) ∧ callV Try.prog 14 #[(.pointer x18), (.int .i64 n66)] w fun v69 w => ∃ b70 : Bool, v69 = (.bool b70) ∧ br (!(b68 == b70))
  (K (.bool false) w)
  (J92 w)))
  (∃ n71 : Int, w.cell? ⟨r28, 2, none⟩ = some (.int .i64 n71) ∧ LS5_3 x16 x17 x18 x19 l20 c21 x22 x23 (IntKind.wrap .i64 (1 + (IntKind.wrap .i64 ((BitVec.ofInt 64 n71 &&& (BitVec.ofInt 64 15)).toNat : Int)))) 0 w
  (fun w => J92 w) K)))
  (X0 w)
/-- The loop in block 0 of function 5: by what holds at its head. -/
def LS5_0 (x16 : Int) (x17 : Option Addr) (x18 : Option Addr) (x19 : Option Addr) (l20 : Nat) (c21 : Nat) (x22 : Int) (x23 : Int) (w : World) (X0 : World → Prop) (K : Value → World → Prop) : Prop :=
  ∃ J : Nat → Int → World → Prop, (∃ n, J n x23 w) ∧ ∀ n x23 w, J n x23 w → B5_0 x16 x17 x18 x19 l20 c21 x22 x23 w (fun x23 w => ∃ m, m < n ∧ J m x23 w) X0 K
abbrev env5_0 (x16 : Int) (x17 : Option Addr) (x18 : Option Addr) (x19 : Option Addr) (l20 : Nat) (c21 : Nat) (x22 : Int) (x23 : Int) : Env := [(2, (.int .u8 x16)), (9, (.pointer x17)), (11, (.pointer x18)), (45, (.slice x19 l20 c21)), (46, (.int .i64 x22)), (47, (.int .i64 x23))]
def Kt5_0 (N : Int → World → Prop) (X0 : World → Prop) (K : Value → World → Prop) : Kont := fun e E w => match e with
  | .normal => gI .i64 E 47 fun x23 => N x23 w
  | .exit j => match Nat.beq j 0 with | true => (X0 w) | false => (False)
  | .ret => retG Try.prog Try.f5.results.toList K .ret E w
  | _ => False
def HL5_0 (F : Value → World → Prop) (K : Kont) (E : Env) (w : World) : Prop := match keep [2, 9, 11, 45, 46, 47] E with
  | [(2, (.int .u8 x16)), (9, (.pointer x17)), (11, (.pointer x18)), (45, (.slice x19 l20 c21)), (46, (.int .i64 x22)), (47, (.int .i64 x23))] => LS5_0 x16 x17 x18 x19 l20 c21 x22 x23 w (fun w => K (.exit 0) [] w) F
  | _ => False
def H5 (F : Value → World → Prop) : Nat → Kont → Env → World → Prop := fun b K E w => match Nat.beq b 3 with | true => HL5_3 F K E w | false => (match Nat.beq b 0 with | true => HL5_0 F K E w | false => (False))
theorem Beq5_3 (x72 : Int) (x73 : Option Addr) (x74 : Option Addr) (x75 : Option Addr) (l76 : Nat) (c77 : Nat) (x78 : Int) (x79 : Int) (x80 : Int) (x81 : Int) (w : World) (N : Int → World → Prop) (X3 : World → Prop) (K : Value → World → Prop) :
    G Try.prog [9, 10, 11, 13, 15, 16, 18, 19, 20, 21, 22, 23, 24] 114 [0, 1, 2, 3, 8, 9, 10, 11, 12, 14, 40, 45, 46, 47, 48, 53, 57, 58, 59, 65, 67, 81, 82, 92, 111] (H5 K) 3 (loopOf 3 Try.f5) (Kt5_3 N X3 K) (env5_3 x72 x73 x74 x75 l76 c77 x78 x79 x80 x81) w = B5_3 x72 x73 x74 x75 l76 c77 x78 x79 x80 x81 w N X3 K := by kernel_rfl
theorem lok5_3 (F : Value → World → Prop) : LoopOk Try.prog 114 Try.f5.results.toList F (H5 F) 3 (.loop (loopOf 3 Try.f5)) := by
  intro K E a w Q hr h hs hq
  have hs0 := hs.keep [2, 9, 11, 45, 46, 47, 57, 58]
  have h1 : HL5_3 F K E w := h
  unfold HL5_3 at h1
  split at h1
  · rename_i x72 x73 x74 x75 l76 c77 x78 x79 x80 x81 heq
    obtain ⟨J, ⟨n, hJ⟩, hround⟩ := h1
    rw [heq] at hs0
    refine loop_typed (qs := [9, 10, 11, 13, 15, 16, 18, 19, 20, 21, 22, 23, 24]) (L := [0, 1, 2, 3, 8, 9, 10, 11, 12, 14, 40, 45, 46, 47, 48, 53, 57, 58, 59, 65, 67, 81, 82, 92, 111]) (rs := Try.f5.results.toList) (F := F) (H := H5 F) (b := 3) (by kernel_rfl) (allL (show loops [9, 10, 11, 13, 15, 16, 18, 19, 20, 21, 22, 23, 24] 3 (loopOf 3 Try.f5) = [] by kernel_rfl) True.intro) (σ := Int) (fun s => env5_3 x72 x73 x74 x75 l76 c77 x78 x79 x80 s) (fun n s w => J n s w)
      (fun n => Kt5_3 (fun x81 w => ∃ m, m < n ∧ J m x81 w) (fun w => K (.exit 3) [(2, (.int .u8 x72)), (9, (.pointer x73)), (11, (.pointer x74)), (45, (.slice x75 l76 c77)), (46, (.int .i64 x78)), (47, (.int .i64 x79))] w) F) (fun _ _ _ h => h) ?_ ?_ a ?_ n x81 a w hJ (Fr.refl _ _) hs0
    · intro n s w hJ
      exact Eq.mpr (Beq5_3 x72 x73 x74 x75 l76 c77 x78 x79 x80 s w _ _ F) (hround n s w hJ)
    · intro n s E' w' h
      obtain ⟨x81, e58, h⟩ := gI_get h
      obtain ⟨m, hm, hJ⟩ := h
      exact ⟨m, x81, hm, hJ, ⟨.inl ⟨by kernel_rfl, rfl⟩, .inl ⟨by kernel_rfl, rfl⟩, .inl ⟨by kernel_rfl, rfl⟩, .inl ⟨by kernel_rfl, rfl⟩, .inl ⟨by kernel_rfl, rfl⟩, .inl ⟨by kernel_rfl, rfl⟩, .inl ⟨by kernel_rfl, rfl⟩, .inr e58, True.intro⟩⟩
    · intro n s a1 e E' a' w' he hs1 hf0 hf1 hs' h
      cases e with
      | normal => exact (he rfl).elim
      | exit j =>
        dsimp only [Kt5_3] at h
        cases hb : Nat.beq j 3
        case' true =>
          rw [hb] at h
          have hj := Nat.eq_of_beq_eq_true hb
          subst hj
          dsimp only at h
          exact hq _ _ _ _ (hs1.next hf1 hs' (E2 := [(2, (.int .u8 x72)), (9, (.pointer x73)), (11, (.pointer x74)), (45, (.slice x75 l76 c77)), (46, (.int .i64 x78)), (47, (.int .i64 x79))]) ⟨.inl ⟨by kernel_rfl, rfl⟩, .inl ⟨by kernel_rfl, rfl⟩, .inl ⟨by kernel_rfl, rfl⟩, .inl ⟨by kernel_rfl, rfl⟩, .inl ⟨by kernel_rfl, rfl⟩, .inl ⟨by kernel_rfl, rfl⟩, True.intro⟩) hf0 h
        rw [hb] at h
        dsimp only at h
        all_goals exact h.elim
      | ret => exact hq _ _ _ _ hs' hf0 (hr _ _ h)
      | _ => exact h.elim
  · exact h1.elim
theorem Beq5_0 (x16 : Int) (x17 : Option Addr) (x18 : Option Addr) (x19 : Option Addr) (l20 : Nat) (c21 : Nat) (x22 : Int) (x23 : Int) (w : World) (N : Int → World → Prop) (X0 : World → Prop) (K : Value → World → Prop) :
    G Try.prog [9, 10, 11, 13, 15, 16, 18, 19, 20, 21, 22, 23, 24] 114 [0, 1, 2, 3, 8, 9, 10, 11, 12, 14, 40, 45, 46, 47, 48, 53, 57, 58, 59, 65, 67, 81, 82, 92, 111] (H5 K) 0 (loopOf 0 Try.f5) (Kt5_0 N X0 K) (env5_0 x16 x17 x18 x19 l20 c21 x22 x23) w = B5_0 x16 x17 x18 x19 l20 c21 x22 x23 w N X0 K := by kernel_rfl
theorem lok5_0 (F : Value → World → Prop) : LoopOk Try.prog 114 Try.f5.results.toList F (H5 F) 0 (.loop (loopOf 0 Try.f5)) := by
  intro K E a w Q hr h hs hq
  have hs0 := hs.keep [2, 9, 11, 45, 46, 47]
  have h1 : HL5_0 F K E w := h
  unfold HL5_0 at h1
  split at h1
  · rename_i x16 x17 x18 x19 l20 c21 x22 x23 heq
    obtain ⟨J, ⟨n, hJ⟩, hround⟩ := h1
    rw [heq] at hs0
    refine loop_typed (qs := [9, 10, 11, 13, 15, 16, 18, 19, 20, 21, 22, 23, 24]) (L := [0, 1, 2, 3, 8, 9, 10, 11, 12, 14, 40, 45, 46, 47, 48, 53, 57, 58, 59, 65, 67, 81, 82, 92, 111]) (rs := Try.f5.results.toList) (F := F) (H := H5 F) (b := 0) (by kernel_rfl) (allL (show loops [9, 10, 11, 13, 15, 16, 18, 19, 20, 21, 22, 23, 24] 0 (loopOf 0 Try.f5) = [(3, .loop (loopOf 3 Try.f5))] by kernel_rfl) ⟨lok5_3 F, True.intro⟩) (σ := Int) (fun s => env5_0 x16 x17 x18 x19 l20 c21 x22 s) (fun n s w => J n s w)
      (fun n => Kt5_0 (fun x23 w => ∃ m, m < n ∧ J m x23 w) (fun w => K (.exit 0) [] w) F) (fun _ _ _ h => h) ?_ ?_ a ?_ n x23 a w hJ (Fr.refl _ _) hs0
    · intro n s w hJ
      exact Eq.mpr (Beq5_0 x16 x17 x18 x19 l20 c21 x22 s w _ _ F) (hround n s w hJ)
    · intro n s E' w' h
      obtain ⟨x23, e47, h⟩ := gI_get h
      obtain ⟨m, hm, hJ⟩ := h
      exact ⟨m, x23, hm, hJ, ⟨.inl ⟨by kernel_rfl, rfl⟩, .inl ⟨by kernel_rfl, rfl⟩, .inl ⟨by kernel_rfl, rfl⟩, .inl ⟨by kernel_rfl, rfl⟩, .inl ⟨by kernel_rfl, rfl⟩, .inr e47, True.intro⟩⟩
    · intro n s a1 e E' a' w' he hs1 hf0 hf1 hs' h
      cases e with
      | normal => exact (he rfl).elim
      | exit j =>
        dsimp only [Kt5_0] at h
        cases hb : Nat.beq j 0
        case' true =>
          rw [hb] at h
          have hj := Nat.eq_of_beq_eq_true hb
          subst hj
          dsimp only at h
          exact hq _ _ _ _ (hs1.next hf1 hs' (E2 := []) True.intro) hf0 h
        rw [hb] at h
        dsimp only at h
        all_goals exact h.elim
      | ret => exact hq _ _ _ _ hs' hf0 (hr _ _ h)
      | _ => exact h.elim
  · exact h1.elim
/-- jackstay/jackstaylaw13.WheelSlots -/
def S5 (x1 : Int) (x2 : Int) (x3 : Int) (x4 : Option Addr) (l5 : Nat) (c6 : Nat) (w : World) (K : Value → World → Prop) : Prop :=
  callQ Try.prog 9 #[(.int .i64 (IntKind.wrap .i64 (1 + (IntKind.wrap .i64 (Int.tmod x1 1024))))), (.int .i64 (IntKind.wrap .i64 x3))] w fun v7 w => ∃ p8 : Option Addr, ∃ n9 : Int, v7 = (.tuple #[(.pointer p8), (.int .i64 n9)]) ∧ callQ Try.prog 9 #[(.int .i64 (IntKind.wrap .i64 (1 + (IntKind.wrap .i64 (Int.tmod x2 1024))))), (.int .i64 (IntKind.wrap .i64 x3))] w fun v10 w => ∃ p11 : Option Addr, ∃ n12 : Int, v10 = (.tuple #[(.pointer p11), (.int .i64 n12)]) ∧ br ((n9 : Int) != 0)
  (K (.bool false) w)
  (br ((n12 : Int) != 0)
  (K (.bool false) w)
  (slc x4 l5 c6 3 none (some (if 60 < (l5 : Int) then 60 else (l5 : Int))) none fun p13 l14 c15 => LS5_0 x3 p8 p11 p13 l14 c15 (l14 : Int) 0 w
  (fun w => callQ Try.prog 10 #[] w fun v103 w => ∃ b104 : Bool, v103 = (.bool b104) ∧ K (.bool b104) w) K))
theorem eq5 (x1 : Int) (x2 : Int) (x3 : Int) (x4 : Option Addr) (l5 : Nat) (c6 : Nat) (w : World) (K : Value → World → Prop) : G Try.prog [9, 10, 11, 13, 15, 16, 18, 19, 20, 21, 22, 23, 24] 114 [0, 1, 2, 3, 8, 9, 10, 11, 12, 14, 40, 45, 46, 47, 48, 53, 57, 58, 59, 65, 67, 81, 82, 92, 111] (H5 K) 0 (bodyOf Try.f5) (retG Try.prog Try.f5.results.toList K) (env0 0 [(.int .u16 x1), (.int .u16 x2), (.int .u8 x3), (.slice x4 l5 c6)]) w = S5 x1 x2 x3 x4 l5 c6 w K := by kernel_rfl
theorem ok5 {x1 : Int} {x2 : Int} {x3 : Int} {x4 : Option Addr} {l5 : Nat} {c6 : Nat} {w : World} {K : Value → World → Prop} (h : S5 x1 x2 x3 x4 l5 c6 w K) : callV Try.prog 5 #[(.int .u16 x1), (.int .u16 x2), (.int .u8 x3), (.slice x4 l5 c6)] w K :=
  call_sound (qs := [9, 10, 11, 13, 15, 16, 18, 19, 20, 21, 22, 23, 24]) (args := [(.int .u16 x1), (.int .u16 x2), (.int .u8 x3), (.slice x4 l5 c6)]) (by kernel_rfl) (Try.func5) (c := bodyOf Try.f5) (by kernel_rfl) (by kernel_rfl) (allL (show loops [9, 10, 11, 13, 15, 16, 18, 19, 20, 21, 22, 23, 24] 0 (bodyOf Try.f5) = [(0, .loop (loopOf 0 Try.f5))] by kernel_rfl) ⟨lok5_0 K, True.intro⟩) (Eq.mpr (eq5 x1 x2 x3 x4 l5 c6 w K) h)
end Go.Proofs.Ytibalkkiefgljaa
