/- The formulas of the functions 6, 7 of this seat, written by a program of my own (dec.py), each with its proof. -/
import Derived.Test.YtcemgjikmdbjgaaProg
import Derived.Test.YtcemgjikmdbjgaaSh
import Derived.KernelRfl
namespace Go.Proofs.Ytcemgjikmdbjgaa
open Go Go.Sh
set_option linter.unusedVariables false
set_option maxRecDepth 100000
def B6_0 (x11 : Bool) (x12 : Int) (x13 : Int) (x17 : Option Addr) (l18 : Nat) (c19 : Nat) (x20 : Int) (x14 : Option Addr) (l15 : Nat) (c16 : Nat) (x21 : Int) (w : World) (N : (Option Addr) → Nat → Nat → Int → World → Prop) (X0 : (Option Addr) → Nat → Nat → World → Prop) (K : Value → World → Prop) : Prop :=
  br (decide ((x21 : Int) < x20))
  (idx x17 l18 1 x21 fun a22 => ∃ n23 : Int, w.cell? a22 = some (.int .u32 n23) ∧ al w (.cells #[(.int .u32 (IntKind.wrap .u32 ((BitVec.ofInt 32 n23 &&& (BitVec.ofInt 32 x13)).toNat : Int)))] 22) fun r24 w => runV Try.prog (Builtin.append_ #[36, 36] 36 #[(.slice x14 l15 c16), (.slice (some ⟨r24, 0, none⟩) 1 1)]) w fun v25 w => ∃ (p26 : Option Addr) (l27 c28 : Nat), v25 = (.slice p26 l27 c28) ∧ N p26 l27 c28 (IntKind.wrap .i64 (x21 + 1)) w)
  (X0 x14 l15 c16 w)
/-- The loop in block 0 of function 6: by what holds at its head. -/
def LS6_0 (x11 : Bool) (x12 : Int) (x13 : Int) (x17 : Option Addr) (l18 : Nat) (c19 : Nat) (x20 : Int) (x14 : Option Addr) (l15 : Nat) (c16 : Nat) (x21 : Int) (w : World) (X0 : (Option Addr) → Nat → Nat → World → Prop) (K : Value → World → Prop) : Prop :=
  ∃ J : Nat → (Option Addr) → Nat → Nat → Int → World → Prop, (∃ n, J n x14 l15 c16 x21 w) ∧ ∀ n x14 l15 c16 x21 w, J n x14 l15 c16 x21 w → B6_0 x11 x12 x13 x17 l18 c19 x20 x14 l15 c16 x21 w (fun x14 l15 c16 x21 w => ∃ m, m < n ∧ J m x14 l15 c16 x21 w) X0 K
abbrev env6_0 (x11 : Bool) (x12 : Int) (x13 : Int) (x17 : Option Addr) (l18 : Nat) (c19 : Nat) (x20 : Int) (x14 : Option Addr) (l15 : Nat) (c16 : Nat) (x21 : Int) : Env := [(1, (.bool x11)), (2, (.int .u32 x12)), (7, (.int .u32 x13)), (8, (.slice x14 l15 c16)), (24, (.slice x17 l18 c19)), (25, (.int .i64 x20)), (26, (.int .i64 x21))]
def Kt6_0 (N : (Option Addr) → Nat → Nat → Int → World → Prop) (X0 : (Option Addr) → Nat → Nat → World → Prop) (K : Value → World → Prop) : Kont := fun e E w => match e with
  | .normal => gS E 8 fun x14 l15 c16 => gI .i64 E 26 fun x21 => N x14 l15 c16 x21 w
  | .exit j => match Nat.beq j 0 with | true => (gS E 8 fun x29 l30 c31 => X0 x29 l30 c31 w) | false => (False)
  | .ret => retG Try.prog Try.f6.results.toList K .ret E w
  | _ => False
def HL6_0 (F : Value → World → Prop) (K : Kont) (E : Env) (w : World) : Prop := match keep [1, 2, 7, 8, 24, 25, 26] E with
  | [(1, (.bool x11)), (2, (.int .u32 x12)), (7, (.int .u32 x13)), (8, (.slice x14 l15 c16)), (24, (.slice x17 l18 c19)), (25, (.int .i64 x20)), (26, (.int .i64 x21))] => LS6_0 x11 x12 x13 x17 l18 c19 x20 x14 l15 c16 x21 w (fun (x29 : Option Addr) (l30 : Nat) (c31 : Nat) w => K (.exit 0) [(1, (.bool x11)), (2, (.int .u32 x12)), (7, (.int .u32 x13)), (8, (.slice x29 l30 c31))] w) F
  | _ => False
def B6_2 (x37 : Bool) (x38 : Int) (x39 : Option Addr) (l40 : Nat) (c41 : Nat) (x42 : Option Addr) (l43 : Nat) (c44 : Nat) (x46 : Option Addr) (l47 : Nat) (c48 : Nat) (x49 : Int) (x45 : Bool) (x50 : Int) (w : World) (N : Bool → Int → World → Prop) (X2 : Bool → World → Prop) (K : Value → World → Prop) : Prop :=
  br (decide ((x50 : Int) < x49))
  (jn (fun (x60 : Bool) (w : World) =>
  N x60 (IntKind.wrap .i64 (x50 + 1)) w) fun J61 =>
  idx x46 l47 1 x50 fun a51 => ∃ n52 : Int, w.cell? a51 = some (.int .u32 n52) ∧ callQ Try.prog 13 #[(.slice x42 l43 c44), (.agg #[(.int .u32 n52), (.bool x37), (.bool false), (.int .u8 0), (.slice none 0 0)])] w fun v53 w => ∃ n54 : Int, ∃ b55 : Bool, v53 = (.tuple #[(.int .i64 n54), (.bool b55)]) ∧ br (!b55)
  (K (.bool false) w)
  (idx x42 l43 3 n54 fun a56 => ∃ n57 : Int, w.cell? (a56.add 2) = some (.int .u32 n57) ∧ br ((n57 : Int) != n52)
  (K (.bool false) w)
  (callQ Try.prog 10 #[(.slice x42 l43 c44), (.agg #[(.int .u32 n52), (.bool (!x37)), (.bool false), (.int .u8 0), (.slice none 0 0)])] w fun v58 w => ∃ b59 : Bool, v58 = (.bool b59) ∧ br b59
  (K (.bool false) w)
  (br x45
  (J61 true w)
  (J61 ((n52 : Int) == x38) w)))))
  (X2 x45 w)
/-- The loop in block 2 of function 6: by what holds at its head. -/
def LS6_2 (x37 : Bool) (x38 : Int) (x39 : Option Addr) (l40 : Nat) (c41 : Nat) (x42 : Option Addr) (l43 : Nat) (c44 : Nat) (x46 : Option Addr) (l47 : Nat) (c48 : Nat) (x49 : Int) (x45 : Bool) (x50 : Int) (w : World) (X2 : Bool → World → Prop) (K : Value → World → Prop) : Prop :=
  ∃ J : Nat → Bool → Int → World → Prop, (∃ n, J n x45 x50 w) ∧ ∀ n x45 x50 w, J n x45 x50 w → B6_2 x37 x38 x39 l40 c41 x42 l43 c44 x46 l47 c48 x49 x45 x50 w (fun x45 x50 w => ∃ m, m < n ∧ J m x45 x50 w) X2 K
abbrev env6_2 (x37 : Bool) (x38 : Int) (x39 : Option Addr) (l40 : Nat) (c41 : Nat) (x42 : Option Addr) (l43 : Nat) (c44 : Nat) (x46 : Option Addr) (l47 : Nat) (c48 : Nat) (x49 : Int) (x45 : Bool) (x50 : Int) : Env := [(1, (.bool x37)), (2, (.int .u32 x38)), (8, (.slice x39 l40 c41)), (11, (.slice x42 l43 c44)), (13, (.bool x45)), (55, (.slice x46 l47 c48)), (56, (.int .i64 x49)), (57, (.int .i64 x50))]
def Kt6_2 (N : Bool → Int → World → Prop) (X2 : Bool → World → Prop) (K : Value → World → Prop) : Kont := fun e E w => match e with
  | .normal => gB E 13 fun x45 => gI .i64 E 57 fun x50 => N x45 x50 w
  | .exit j => match Nat.beq j 2 with | true => (gB E 13 fun x62 => X2 x62 w) | false => (False)
  | .ret => retG Try.prog Try.f6.results.toList K .ret E w
  | _ => False
def HL6_2 (F : Value → World → Prop) (K : Kont) (E : Env) (w : World) : Prop := match keep [1, 2, 8, 11, 13, 55, 56, 57] E with
  | [(1, (.bool x37)), (2, (.int .u32 x38)), (8, (.slice x39 l40 c41)), (11, (.slice x42 l43 c44)), (13, (.bool x45)), (55, (.slice x46 l47 c48)), (56, (.int .i64 x49)), (57, (.int .i64 x50))] => LS6_2 x37 x38 x39 l40 c41 x42 l43 c44 x46 l47 c48 x49 x45 x50 w (fun (x62 : Bool) w => K (.exit 2) [(1, (.bool x37)), (2, (.int .u32 x38)), (8, (.slice x39 l40 c41)), (11, (.slice x42 l43 c44)), (13, (.bool x62))] w) F
  | _ => False
def B6_4 (x63 : Bool) (x64 : Int) (x65 : Option Addr) (l66 : Nat) (c67 : Nat) (x68 : Option Addr) (l69 : Nat) (c70 : Nat) (x71 : Bool) (x72 : Int) (x73 : Int) (w : World) (N : Int → World → Prop) (X4 : World → Prop) (K : Value → World → Prop) : Prop :=
  br (decide ((x73 : Int) < x72))
  (jn (fun (w : World) =>
  N (IntKind.wrap .i64 (x73 + 1)) w) fun J84 =>
  dr w fun w =>
  idx x68 l69 3 x73 fun a74 => ∃ b75 : Bool, w.cell? a74 = some (.bool b75) ∧ ∃ n76 : Int, w.cell? (a74.add 1) = some (.int .u32 n76) ∧ ∃ n77 : Int, w.cell? (a74.add 2) = some (.int .u32 n77) ∧ callQ Try.prog 18 #[(.agg #[(.bool b75), (.int .u32 n76), (.int .u32 n77)])] w fun v78 w => ∃ b79 : Bool, v78 = (.bool b79) ∧ br (!b79)
  (K (.bool false) w)
  (br (decide ((x73 : Int) > 0))
  (idx x68 l69 3 (IntKind.wrap .i64 (x73 - 1)) fun a80 => ∃ n81 : Int, w.cell? (a80.add 2) = some (.int .u32 n81) ∧ idx x68 l69 3 x73 fun a82 => ∃ n83 : Int, w.cell? (a82.add 2) = some (.int .u32 n83) ∧ br (decide ((n81 : Int) ≥ n83))
  (K (.bool false) w)
  (J84 w))
  (J84 w)))
  (X4 w)
/-- The loop in block 4 of function 6: by what holds at its head. -/
def LS6_4 (x63 : Bool) (x64 : Int) (x65 : Option Addr) (l66 : Nat) (c67 : Nat) (x68 : Option Addr) (l69 : Nat) (c70 : Nat) (x71 : Bool) (x72 : Int) (x73 : Int) (w : World) (X4 : World → Prop) (K : Value → World → Prop) : Prop :=
  ∃ J : Nat → Int → World → Prop, (∃ n, J n x73 w) ∧ ∀ n x73 w, J n x73 w → B6_4 x63 x64 x65 l66 c67 x68 l69 c70 x71 x72 x73 w (fun x73 w => ∃ m, m < n ∧ J m x73 w) X4 K
abbrev env6_4 (x63 : Bool) (x64 : Int) (x65 : Option Addr) (l66 : Nat) (c67 : Nat) (x68 : Option Addr) (l69 : Nat) (c70 : Nat) (x71 : Bool) (x72 : Int) (x73 : Int) : Env := [(1, (.bool x63)), (2, (.int .u32 x64)), (8, (.slice x65 l66 c67)), (11, (.slice x68 l69 c70)), (13, (.bool x71)), (96, (.int .i64 x72)), (97, (.int .i64 x73))]
def Kt6_4 (N : Int → World → Prop) (X4 : World → Prop) (K : Value → World → Prop) : Kont := fun e E w => match e with
  | .normal => gI .i64 E 97 fun x73 => N x73 w
  | .exit j => match Nat.beq j 4 with | true => (X4 w) | false => (False)
  | .ret => retG Try.prog Try.f6.results.toList K .ret E w
  | _ => False
def HL6_4 (F : Value → World → Prop) (K : Kont) (E : Env) (w : World) : Prop := match keep [1, 2, 8, 11, 13, 96, 97] E with
  | [(1, (.bool x63)), (2, (.int .u32 x64)), (8, (.slice x65 l66 c67)), (11, (.slice x68 l69 c70)), (13, (.bool x71)), (96, (.int .i64 x72)), (97, (.int .i64 x73))] => LS6_4 x63 x64 x65 l66 c67 x68 l69 c70 x71 x72 x73 w (fun w => K (.exit 4) [(1, (.bool x63)), (2, (.int .u32 x64)), (8, (.slice x65 l66 c67)), (11, (.slice x68 l69 c70)), (13, (.bool x71))] w) F
  | _ => False
def H6 (F : Value → World → Prop) : Nat → Kont → Env → World → Prop := fun b K E w => match Nat.beq b 0 with | true => HL6_0 F K E w | false => (match Nat.beq b 2 with | true => HL6_2 F K E w | false => (match Nat.beq b 4 with | true => HL6_4 F K E w | false => (False)))
theorem Beq6_0 (x11 : Bool) (x12 : Int) (x13 : Int) (x17 : Option Addr) (l18 : Nat) (c19 : Nat) (x20 : Int) (x14 : Option Addr) (l15 : Nat) (c16 : Nat) (x21 : Int) (w : World) (N : (Option Addr) → Nat → Nat → Int → World → Prop) (X0 : (Option Addr) → Nat → Nat → World → Prop) (K : Value → World → Prop) :
    G Try.prog [8, 9, 10, 11, 12, 13, 14, 15, 16, 17, 18, 19, 20, 21, 22, 23, 24, 25, 26, 27, 28, 29, 30, 31] 140 [0, 1, 2, 6, 7, 8, 10, 11, 12, 13, 15, 16, 17, 18, 19, 24, 25, 26, 27, 51, 55, 56, 57, 58, 87, 96, 97, 98, 123] (H6 K) 0 (loopOf 0 Try.f6) (Kt6_0 N X0 K) (env6_0 x11 x12 x13 x17 l18 c19 x20 x14 l15 c16 x21) w = B6_0 x11 x12 x13 x17 l18 c19 x20 x14 l15 c16 x21 w N X0 K := by kernel_rfl
theorem lok6_0 (F : Value → World → Prop) : LoopOk Try.prog 140 Try.f6.results.toList F (H6 F) 0 (loopOf 0 Try.f6) := by
  intro K E a w Q hr h hs hq
  have hs0 := hs.keep [1, 2, 7, 8, 24, 25, 26]
  have h1 : HL6_0 F K E w := h
  unfold HL6_0 at h1
  split at h1
  · rename_i x11 x12 x13 x14 l15 c16 x17 l18 c19 x20 x21 heq
    obtain ⟨J, ⟨n, hJ⟩, hround⟩ := h1
    rw [heq] at hs0
    refine loop_typed (qs := [8, 9, 10, 11, 12, 13, 14, 15, 16, 17, 18, 19, 20, 21, 22, 23, 24, 25, 26, 27, 28, 29, 30, 31]) (L := [0, 1, 2, 6, 7, 8, 10, 11, 12, 13, 15, 16, 17, 18, 19, 24, 25, 26, 27, 51, 55, 56, 57, 58, 87, 96, 97, 98, 123]) (rs := Try.f6.results.toList) (F := F) (H := H6 F) (b := 0) (by kernel_rfl) (allL (show loops 0 (loopOf 0 Try.f6) = [] by kernel_rfl) True.intro) (σ := Option Addr × Nat × Nat × Int) (fun s => env6_0 x11 x12 x13 x17 l18 c19 x20 s.1 s.2.1 s.2.2.1 s.2.2.2) (fun n s w => J n s.1 s.2.1 s.2.2.1 s.2.2.2 w)
      (fun n => Kt6_0 (fun x14 l15 c16 x21 w => ∃ m, m < n ∧ J m x14 l15 c16 x21 w) (fun (x29 : Option Addr) (l30 : Nat) (c31 : Nat) w => K (.exit 0) [(1, (.bool x11)), (2, (.int .u32 x12)), (7, (.int .u32 x13)), (8, (.slice x29 l30 c31))] w) F) (fun _ _ _ h => h) ?_ ?_ a ?_ n (x14, l15, c16, x21) a w hJ (Fr.refl _ _) hs0
    · intro n s w hJ
      exact Eq.mpr (Beq6_0 x11 x12 x13 x17 l18 c19 x20 s.1 s.2.1 s.2.2.1 s.2.2.2 w _ _ F) (hround n s.1 s.2.1 s.2.2.1 s.2.2.2 w hJ)
    · intro n s E' w' h
      obtain ⟨x14, l15, c16, e8, h⟩ := gS_get h
      obtain ⟨x21, e26, h⟩ := gI_get h
      obtain ⟨m, hm, hJ⟩ := h
      exact ⟨m, (x14, l15, c16, x21), hm, hJ, ⟨.inl ⟨by kernel_rfl, rfl⟩, .inl ⟨by kernel_rfl, rfl⟩, .inl ⟨by kernel_rfl, rfl⟩, .inr e8, .inl ⟨by kernel_rfl, rfl⟩, .inl ⟨by kernel_rfl, rfl⟩, .inr e26, True.intro⟩⟩
    · intro n s a1 e E' a' w' he hs1 hf0 hf1 hs' h
      cases e with
      | normal => exact (he rfl).elim
      | exit j =>
        dsimp only [Kt6_0] at h
        cases hb : Nat.beq j 0
        case' true =>
          rw [hb] at h
          have hj := Nat.eq_of_beq_eq_true hb
          subst hj
          dsimp only at h
          obtain ⟨x29, l30, c31, e8, h⟩ := gS_get h
          exact hq _ _ _ _ (hs1.next hf1 hs' (E2 := [(1, (.bool x11)), (2, (.int .u32 x12)), (7, (.int .u32 x13)), (8, (.slice x29 l30 c31))]) ⟨.inl ⟨by kernel_rfl, rfl⟩, .inl ⟨by kernel_rfl, rfl⟩, .inl ⟨by kernel_rfl, rfl⟩, .inr e8, True.intro⟩) hf0 h
        rw [hb] at h
        dsimp only at h
        all_goals exact h.elim
      | ret => exact hq _ _ _ _ hs' hf0 (hr _ _ h)
      | _ => exact h.elim
  · exact h1.elim
theorem Beq6_2 (x37 : Bool) (x38 : Int) (x39 : Option Addr) (l40 : Nat) (c41 : Nat) (x42 : Option Addr) (l43 : Nat) (c44 : Nat) (x46 : Option Addr) (l47 : Nat) (c48 : Nat) (x49 : Int) (x45 : Bool) (x50 : Int) (w : World) (N : Bool → Int → World → Prop) (X2 : Bool → World → Prop) (K : Value → World → Prop) :
    G Try.prog [8, 9, 10, 11, 12, 13, 14, 15, 16, 17, 18, 19, 20, 21, 22, 23, 24, 25, 26, 27, 28, 29, 30, 31] 140 [0, 1, 2, 6, 7, 8, 10, 11, 12, 13, 15, 16, 17, 18, 19, 24, 25, 26, 27, 51, 55, 56, 57, 58, 87, 96, 97, 98, 123] (H6 K) 2 (loopOf 2 Try.f6) (Kt6_2 N X2 K) (env6_2 x37 x38 x39 l40 c41 x42 l43 c44 x46 l47 c48 x49 x45 x50) w = B6_2 x37 x38 x39 l40 c41 x42 l43 c44 x46 l47 c48 x49 x45 x50 w N X2 K := by kernel_rfl
theorem lok6_2 (F : Value → World → Prop) : LoopOk Try.prog 140 Try.f6.results.toList F (H6 F) 2 (loopOf 2 Try.f6) := by
  intro K E a w Q hr h hs hq
  have hs0 := hs.keep [1, 2, 8, 11, 13, 55, 56, 57]
  have h1 : HL6_2 F K E w := h
  unfold HL6_2 at h1
  split at h1
  · rename_i x37 x38 x39 l40 c41 x42 l43 c44 x45 x46 l47 c48 x49 x50 heq
    obtain ⟨J, ⟨n, hJ⟩, hround⟩ := h1
    rw [heq] at hs0
    refine loop_typed (qs := [8, 9, 10, 11, 12, 13, 14, 15, 16, 17, 18, 19, 20, 21, 22, 23, 24, 25, 26, 27, 28, 29, 30, 31]) (L := [0, 1, 2, 6, 7, 8, 10, 11, 12, 13, 15, 16, 17, 18, 19, 24, 25, 26, 27, 51, 55, 56, 57, 58, 87, 96, 97, 98, 123]) (rs := Try.f6.results.toList) (F := F) (H := H6 F) (b := 2) (by kernel_rfl) (allL (show loops 2 (loopOf 2 Try.f6) = [] by kernel_rfl) True.intro) (σ := Bool × Int) (fun s => env6_2 x37 x38 x39 l40 c41 x42 l43 c44 x46 l47 c48 x49 s.1 s.2) (fun n s w => J n s.1 s.2 w)
      (fun n => Kt6_2 (fun x45 x50 w => ∃ m, m < n ∧ J m x45 x50 w) (fun (x62 : Bool) w => K (.exit 2) [(1, (.bool x37)), (2, (.int .u32 x38)), (8, (.slice x39 l40 c41)), (11, (.slice x42 l43 c44)), (13, (.bool x62))] w) F) (fun _ _ _ h => h) ?_ ?_ a ?_ n (x45, x50) a w hJ (Fr.refl _ _) hs0
    · intro n s w hJ
      exact Eq.mpr (Beq6_2 x37 x38 x39 l40 c41 x42 l43 c44 x46 l47 c48 x49 s.1 s.2 w _ _ F) (hround n s.1 s.2 w hJ)
    · intro n s E' w' h
      obtain ⟨x45, e13, h⟩ := gB_get h
      obtain ⟨x50, e57, h⟩ := gI_get h
      obtain ⟨m, hm, hJ⟩ := h
      exact ⟨m, (x45, x50), hm, hJ, ⟨.inl ⟨by kernel_rfl, rfl⟩, .inl ⟨by kernel_rfl, rfl⟩, .inl ⟨by kernel_rfl, rfl⟩, .inl ⟨by kernel_rfl, rfl⟩, .inr e13, .inl ⟨by kernel_rfl, rfl⟩, .inl ⟨by kernel_rfl, rfl⟩, .inr e57, True.intro⟩⟩
    · intro n s a1 e E' a' w' he hs1 hf0 hf1 hs' h
      cases e with
      | normal => exact (he rfl).elim
      | exit j =>
        dsimp only [Kt6_2] at h
        cases hb : Nat.beq j 2
        case' true =>
          rw [hb] at h
          have hj := Nat.eq_of_beq_eq_true hb
          subst hj
          dsimp only at h
          obtain ⟨x62, e13, h⟩ := gB_get h
          exact hq _ _ _ _ (hs1.next hf1 hs' (E2 := [(1, (.bool x37)), (2, (.int .u32 x38)), (8, (.slice x39 l40 c41)), (11, (.slice x42 l43 c44)), (13, (.bool x62))]) ⟨.inl ⟨by kernel_rfl, rfl⟩, .inl ⟨by kernel_rfl, rfl⟩, .inl ⟨by kernel_rfl, rfl⟩, .inl ⟨by kernel_rfl, rfl⟩, .inr e13, True.intro⟩) hf0 h
        rw [hb] at h
        dsimp only at h
        all_goals exact h.elim
      | ret => exact hq _ _ _ _ hs' hf0 (hr _ _ h)
      | _ => exact h.elim
  · exact h1.elim
theorem Beq6_4 (x63 : Bool) (x64 : Int) (x65 : Option Addr) (l66 : Nat) (c67 : Nat) (x68 : Option Addr) (l69 : Nat) (c70 : Nat) (x71 : Bool) (x72 : Int) (x73 : Int) (w : World) (N : Int → World → Prop) (X4 : World → Prop) (K : Value → World → Prop) :
    G Try.prog [8, 9, 10, 11, 12, 13, 14, 15, 16, 17, 18, 19, 20, 21, 22, 23, 24, 25, 26, 27, 28, 29, 30, 31] 140 [0, 1, 2, 6, 7, 8, 10, 11, 12, 13, 15, 16, 17, 18, 19, 24, 25, 26, 27, 51, 55, 56, 57, 58, 87, 96, 97, 98, 123] (H6 K) 4 (loopOf 4 Try.f6) (Kt6_4 N X4 K) (env6_4 x63 x64 x65 l66 c67 x68 l69 c70 x71 x72 x73) w = B6_4 x63 x64 x65 l66 c67 x68 l69 c70 x71 x72 x73 w N X4 K := by kernel_rfl
theorem lok6_4 (F : Value → World → Prop) : LoopOk Try.prog 140 Try.f6.results.toList F (H6 F) 4 (loopOf 4 Try.f6) := by
  intro K E a w Q hr h hs hq
  have hs0 := hs.keep [1, 2, 8, 11, 13, 96, 97]
  have h1 : HL6_4 F K E w := h
  unfold HL6_4 at h1
  split at h1
  · rename_i x63 x64 x65 l66 c67 x68 l69 c70 x71 x72 x73 heq
    obtain ⟨J, ⟨n, hJ⟩, hround⟩ := h1
    rw [heq] at hs0
    refine loop_typed (qs := [8, 9, 10, 11, 12, 13, 14, 15, 16, 17, 18, 19, 20, 21, 22, 23, 24, 25, 26, 27, 28, 29, 30, 31]) (L := [0, 1, 2, 6, 7, 8, 10, 11, 12, 13, 15, 16, 17, 18, 19, 24, 25, 26, 27, 51, 55, 56, 57, 58, 87, 96, 97, 98, 123]) (rs := Try.f6.results.toList) (F := F) (H := H6 F) (b := 4) (by kernel_rfl) (allL (show loops 4 (loopOf 4 Try.f6) = [] by kernel_rfl) True.intro) (σ := Int) (fun s => env6_4 x63 x64 x65 l66 c67 x68 l69 c70 x71 x72 s) (fun n s w => J n s w)
      (fun n => Kt6_4 (fun x73 w => ∃ m, m < n ∧ J m x73 w) (fun w => K (.exit 4) [(1, (.bool x63)), (2, (.int .u32 x64)), (8, (.slice x65 l66 c67)), (11, (.slice x68 l69 c70)), (13, (.bool x71))] w) F) (fun _ _ _ h => h) ?_ ?_ a ?_ n x73 a w hJ (Fr.refl _ _) hs0
    · intro n s w hJ
      exact Eq.mpr (Beq6_4 x63 x64 x65 l66 c67 x68 l69 c70 x71 x72 s w _ _ F) (hround n s w hJ)
    · intro n s E' w' h
      obtain ⟨x73, e97, h⟩ := gI_get h
      obtain ⟨m, hm, hJ⟩ := h
      exact ⟨m, x73, hm, hJ, ⟨.inl ⟨by kernel_rfl, rfl⟩, .inl ⟨by kernel_rfl, rfl⟩, .inl ⟨by kernel_rfl, rfl⟩, .inl ⟨by kernel_rfl, rfl⟩, .inl ⟨by kernel_rfl, rfl⟩, .inl ⟨by kernel_rfl, rfl⟩, .inr e97, True.intro⟩⟩
    · intro n s a1 e E' a' w' he hs1 hf0 hf1 hs' h
      cases e with
      | normal => exact (he rfl).elim
      | exit j =>
        dsimp only [Kt6_4] at h
        cases hb : Nat.beq j 4
        case' true =>
          rw [hb] at h
          have hj := Nat.eq_of_beq_eq_true hb
          subst hj
          dsimp only at h
          exact hq _ _ _ _ (hs1.next hf1 hs' (E2 := [(1, (.bool x63)), (2, (.int .u32 x64)), (8, (.slice x65 l66 c67)), (11, (.slice x68 l69 c70)), (13, (.bool x71))]) ⟨.inl ⟨by kernel_rfl, rfl⟩, .inl ⟨by kernel_rfl, rfl⟩, .inl ⟨by kernel_rfl, rfl⟩, .inl ⟨by kernel_rfl, rfl⟩, .inl ⟨by kernel_rfl, rfl⟩, True.intro⟩) hf0 h
        rw [hb] at h
        dsimp only at h
        all_goals exact h.elim
      | ret => exact hq _ _ _ _ hs' hf0 (hr _ _ h)
      | _ => exact h.elim
  · exact h1.elim
/-- jackstay/jackstaylaw11.FilterOnly -/
def S6 (x1 : Option Addr) (l2 : Nat) (c3 : Nat) (x4 : Bool) (x5 : Int) (w : World) (K : Value → World → Prop) : Prop :=
  jn (fun (x6 : Int) (w : World) =>
  slc x1 l2 c3 1 none (some (if 40 < (l2 : Int) then 40 else (l2 : Int))) none fun p8 l9 c10 => LS6_0 x4 x5 x6 p8 l9 c10 (l9 : Int) none 0 0 0 w
  (fun (x29 : Option Addr) (l30 : Nat) (c31 : Nat) w => callQ Try.prog 15 #[(.slice x29 l30 c31), (.bool x4)] w fun v32 w => ∃ (p33 : Option Addr) (l34 c35 : Nat), ∃ n36 : Int, v32 = (.tuple #[(.slice p33 l34 c35), (.int .i64 n36)]) ∧ br ((n36 : Int) != 0)
  (K (.bool false) w)
  (br (decide (((l34 : Int) : Int) > (l30 : Int)))
  (K (.bool false) w)
  (LS6_2 x4 (IntKind.wrap .u32 ((BitVec.ofInt 32 x5 &&& (BitVec.ofInt 32 x6)).toNat : Int)) x29 l30 c31 p33 l34 c35 x29 l30 c31 (l30 : Int) false 0 w
  (fun (x62 : Bool) w => LS6_4 x4 (IntKind.wrap .u32 ((BitVec.ofInt 32 x5 &&& (BitVec.ofInt 32 x6)).toNat : Int)) x29 l30 c31 p33 l34 c35 x62 (l34 : Int) 0 w
  (fun w => callQ Try.prog 10 #[(.slice p33 l34 c35), (.agg #[(.int .u32 (IntKind.wrap .u32 ((BitVec.ofInt 32 x5 &&& (BitVec.ofInt 32 x6)).toNat : Int))), (.bool x4), (.bool true), (.int .u8 0), (.slice none 0 0)])] w fun v85 w => ∃ b86 : Bool, v85 = (.bool b86) ∧ br x62
  (br (b86 == true)
  (callQ Try.prog 12 #[] w fun v87 w => ∃ b88 : Bool, v87 = (.bool b88) ∧ K (.bool b88) w)
  (K (.bool false) w))
  (br (b86 == (((l30 : Int) : Int) == 0))
  (callQ Try.prog 12 #[] w fun v89 w => ∃ b90 : Bool, v89 = (.bool b90) ∧ K (.bool b90) w)
  (K (.bool false) w))) K) K))) K) fun J7 =>
  br x4
  (J7 536870911 w)
  (J7 2047 w)
theorem eq6 (x1 : Option Addr) (l2 : Nat) (c3 : Nat) (x4 : Bool) (x5 : Int) (w : World) (K : Value → World → Prop) : G Try.prog [8, 9, 10, 11, 12, 13, 14, 15, 16, 17, 18, 19, 20, 21, 22, 23, 24, 25, 26, 27, 28, 29, 30, 31] 140 [0, 1, 2, 6, 7, 8, 10, 11, 12, 13, 15, 16, 17, 18, 19, 24, 25, 26, 27, 51, 55, 56, 57, 58, 87, 96, 97, 98, 123] (H6 K) 0 (bodyOf Try.f6) (retG Try.prog Try.f6.results.toList K) (env0 0 [(.slice x1 l2 c3), (.bool x4), (.int .u32 x5)]) w = S6 x1 l2 c3 x4 x5 w K := by kernel_rfl
theorem ok6 {x1 : Option Addr} {l2 : Nat} {c3 : Nat} {x4 : Bool} {x5 : Int} {w : World} {K : Value → World → Prop} (h : S6 x1 l2 c3 x4 x5 w K) : callV Try.prog 6 #[(.slice x1 l2 c3), (.bool x4), (.int .u32 x5)] w K :=
  call_sound (qs := [8, 9, 10, 11, 12, 13, 14, 15, 16, 17, 18, 19, 20, 21, 22, 23, 24, 25, 26, 27, 28, 29, 30, 31]) (args := [(.slice x1 l2 c3), (.bool x4), (.int .u32 x5)]) (by kernel_rfl) (Try.func6) (c := bodyOf Try.f6) (by kernel_rfl) (by kernel_rfl) (allL (show loops 0 (bodyOf Try.f6) = [(0, loopOf 0 Try.f6), (2, loopOf 2 Try.f6), (4, loopOf 4 Try.f6)] by kernel_rfl) ⟨lok6_0 K, lok6_2 K, lok6_4 K, True.intro⟩) (Eq.mpr (eq6 x1 l2 c3 x4 x5 w K) h)
def H7 (_F : Value → World → Prop) : Nat → Kont → Env → World → Prop := fun _ _ _ _ => False
/-- jackstay/jackstaylaw11.FilterMore -/
def S7 (x1 : Option Addr) (l2 : Nat) (c3 : Nat) (x4 : Option Addr) (l5 : Nat) (c6 : Nat) (x7 : Int) (x8 : Bool) (w : World) (K : Value → World → Prop) : Prop :=
  dr w fun w =>
  slc x1 l2 c3 3 none (some (if 20 < (l2 : Int) then 20 else (l2 : Int))) none fun p9 l10 c11 => slc x4 l5 c6 3 none (some (if 20 < (l5 : Int) then 20 else (l5 : Int))) none fun p12 l13 c14 => al w (.cells #[] 24) fun r15 w => runV Try.prog (Builtin.append_ #[27, 27] 27 #[(.slice (some ⟨r15, 0, none⟩) 0 0), (.slice p9 l10 c11)]) w fun v16 w => ∃ (p17 : Option Addr) (l18 c19 : Nat), v16 = (.slice p17 l18 c19) ∧ runV Try.prog (Builtin.append_ #[27, 27] 27 #[(.slice p17 l18 c19), (.slice p12 l13 c14)]) w fun v20 w => ∃ (p21 : Option Addr) (l22 c23 : Nat), v20 = (.slice p21 l22 c23) ∧ al w (.cells #[(.int .u32 0), (.bool false), (.bool false), (.int .u8 0), (.slice none 0 0)] 30) fun r24 w => stL w ⟨r24, 0, none⟩ 0 [(.int .u32 x7), (.bool x8), (.bool false), (.int .u8 0), (.slice none 0 0)] fun w => ∃ n25 : Int, w.cell? ⟨r24, 0, none⟩ = some (.int .u32 n25) ∧ ∃ b26 : Bool, w.cell? ⟨r24, 1, none⟩ = some (.bool b26) ∧ ∃ b27 : Bool, w.cell? ⟨r24, 2, none⟩ = some (.bool b27) ∧ ∃ n28 : Int, w.cell? ⟨r24, 3, none⟩ = some (.int .u8 n28) ∧ ∃ (p29 : Option Addr) (l30 c31 : Nat), w.cell? ⟨r24, 4, none⟩ = some (.slice p29 l30 c31) ∧ callQ Try.prog 13 #[(.slice p9 l10 c11), (.agg #[(.int .u32 n25), (.bool b26), (.bool b27), (.int .u8 n28), (.slice p29 l30 c31)])] w fun v32 w => ∃ n33 : Int, ∃ b34 : Bool, v32 = (.tuple #[(.int .i64 n33), (.bool b34)]) ∧ ∃ n35 : Int, w.cell? ⟨r24, 0, none⟩ = some (.int .u32 n35) ∧ ∃ b36 : Bool, w.cell? ⟨r24, 1, none⟩ = some (.bool b36) ∧ ∃ b37 : Bool, w.cell? ⟨r24, 2, none⟩ = some (.bool b37) ∧ ∃ n38 : Int, w.cell? ⟨r24, 3, none⟩ = some (.int .u8 n38) ∧ ∃ (p39 : Option Addr) (l40 c41 : Nat), w.cell? ⟨r24, 4, none⟩ = some (.slice p39 l40 c41) ∧ callQ Try.prog 13 #[(.slice p12 l13 c14), (.agg #[(.int .u32 n35), (.bool b36), (.bool b37), (.int .u8 n38), (.slice p39 l40 c41)])] w fun v42 w => ∃ n43 : Int, ∃ b44 : Bool, v42 = (.tuple #[(.int .i64 n43), (.bool b44)]) ∧ ∃ n45 : Int, w.cell? ⟨r24, 0, none⟩ = some (.int .u32 n45) ∧ ∃ b46 : Bool, w.cell? ⟨r24, 1, none⟩ = some (.bool b46) ∧ ∃ b47 : Bool, w.cell? ⟨r24, 2, none⟩ = some (.bool b47) ∧ ∃ n48 : Int, w.cell? ⟨r24, 3, none⟩ = some (.int .u8 n48) ∧ ∃ (p49 : Option Addr) (l50 c51 : Nat), w.cell? ⟨r24, 4, none⟩ = some (.slice p49 l50 c51) ∧ callQ Try.prog 13 #[(.slice p21 l22 c23), (.agg #[(.int .u32 n45), (.bool b46), (.bool b47), (.int .u8 n48), (.slice p49 l50 c51)])] w fun v52 w => ∃ n53 : Int, ∃ b54 : Bool, v52 = (.tuple #[(.int .i64 n53), (.bool b54)]) ∧ jn (fun (w : World) =>
  ∃ n56 : Int, w.cell? ⟨r24, 0, none⟩ = some (.int .u32 n56) ∧ ∃ b57 : Bool, w.cell? ⟨r24, 1, none⟩ = some (.bool b57) ∧ ∃ b58 : Bool, w.cell? ⟨r24, 2, none⟩ = some (.bool b58) ∧ ∃ n59 : Int, w.cell? ⟨r24, 3, none⟩ = some (.int .u8 n59) ∧ ∃ (p60 : Option Addr) (l61 c62 : Nat), w.cell? ⟨r24, 4, none⟩ = some (.slice p60 l61 c62) ∧ callQ Try.prog 10 #[(.slice p21 l22 c23), (.agg #[(.int .u32 n56), (.bool b57), (.bool b58), (.int .u8 n59), (.slice p60 l61 c62)])] w fun v63 w => ∃ b64 : Bool, v63 = (.bool b64) ∧ br b54
  (br (b64 == true)
  (∃ n65 : Int, w.cell? ⟨r24, 0, none⟩ = some (.int .u32 n65) ∧ ∃ b66 : Bool, w.cell? ⟨r24, 1, none⟩ = some (.bool b66) ∧ ∃ b67 : Bool, w.cell? ⟨r24, 2, none⟩ = some (.bool b67) ∧ ∃ n68 : Int, w.cell? ⟨r24, 3, none⟩ = some (.int .u8 n68) ∧ ∃ (p69 : Option Addr) (l70 c71 : Nat), w.cell? ⟨r24, 4, none⟩ = some (.slice p69 l70 c71) ∧ callQ Try.prog 10 #[(.slice none 0 0), (.agg #[(.int .u32 n65), (.bool b66), (.bool b67), (.int .u8 n68), (.slice p69 l70 c71)])] w fun v72 w => ∃ b73 : Bool, v72 = (.bool b73) ∧ br b73
  (callQ Try.prog 12 #[] w fun v74 w => ∃ b75 : Bool, v74 = (.bool b75) ∧ K (.bool b75) w)
  (K (.bool false) w))
  (K (.bool false) w))
  (br (b64 == (((l22 : Int) : Int) == 0))
  (∃ n76 : Int, w.cell? ⟨r24, 0, none⟩ = some (.int .u32 n76) ∧ ∃ b77 : Bool, w.cell? ⟨r24, 1, none⟩ = some (.bool b77) ∧ ∃ b78 : Bool, w.cell? ⟨r24, 2, none⟩ = some (.bool b78) ∧ ∃ n79 : Int, w.cell? ⟨r24, 3, none⟩ = some (.int .u8 n79) ∧ ∃ (p80 : Option Addr) (l81 c82 : Nat), w.cell? ⟨r24, 4, none⟩ = some (.slice p80 l81 c82) ∧ callQ Try.prog 10 #[(.slice none 0 0), (.agg #[(.int .u32 n76), (.bool b77), (.bool b78), (.int .u8 n79), (.slice p80 l81 c82)])] w fun v83 w => ∃ b84 : Bool, v83 = (.bool b84) ∧ br b84
  (callQ Try.prog 12 #[] w fun v85 w => ∃ b86 : Bool, v85 = (.bool b86) ∧ K (.bool b86) w)
  (K (.bool false) w))
  (K (.bool false) w))) fun J55 =>
  br b34
  (br (!(b54 == true))
  (K (.bool false) w)
  (br b34
  (br ((n53 : Int) != n33)
  (K (.bool false) w)
  (br (!b34)
  (br b44
  (br ((n53 : Int) != (IntKind.wrap .i64 (n43 + (l10 : Int))))
  (K (.bool false) w)
  (J55 w))
  (J55 w))
  (J55 w)))
  (br (!b34)
  (br b44
  (br ((n53 : Int) != (IntKind.wrap .i64 (n43 + (l10 : Int))))
  (K (.bool false) w)
  (J55 w))
  (J55 w))
  (J55 w))))
  (br (!(b54 == b44))
  (K (.bool false) w)
  (br b34
  (br ((n53 : Int) != n33)
  (K (.bool false) w)
  (br (!b34)
  (br b44
  (br ((n53 : Int) != (IntKind.wrap .i64 (n43 + (l10 : Int))))
  (K (.bool false) w)
  (J55 w))
  (J55 w))
  (J55 w)))
  (br (!b34)
  (br b44
  (br ((n53 : Int) != (IntKind.wrap .i64 (n43 + (l10 : Int))))
  (K (.bool false) w)
  (J55 w))
  (J55 w))
  (J55 w))))
theorem eq7 (x1 : Option Addr) (l2 : Nat) (c3 : Nat) (x4 : Option Addr) (l5 : Nat) (c6 : Nat) (x7 : Int) (x8 : Bool) (w : World) (K : Value → World → Prop) : G Try.prog [8, 9, 10, 11, 12, 13, 14, 15, 16, 17, 18, 19, 20, 21, 22, 23, 24, 25, 26, 27, 28, 29, 30, 31] 99 [0, 1, 2, 3, 8, 9, 10, 11, 12, 13, 14, 15, 16, 81] (H7 K) 0 (bodyOf Try.f7) (retG Try.prog Try.f7.results.toList K) (env0 0 [(.slice x1 l2 c3), (.slice x4 l5 c6), (.int .u32 x7), (.bool x8)]) w = S7 x1 l2 c3 x4 l5 c6 x7 x8 w K := by kernel_rfl
theorem ok7 {x1 : Option Addr} {l2 : Nat} {c3 : Nat} {x4 : Option Addr} {l5 : Nat} {c6 : Nat} {x7 : Int} {x8 : Bool} {w : World} {K : Value → World → Prop} (h : S7 x1 l2 c3 x4 l5 c6 x7 x8 w K) : callV Try.prog 7 #[(.slice x1 l2 c3), (.slice x4 l5 c6), (.int .u32 x7), (.bool x8)] w K :=
  call_sound (qs := [8, 9, 10, 11, 12, 13, 14, 15, 16, 17, 18, 19, 20, 21, 22, 23, 24, 25, 26, 27, 28, 29, 30, 31]) (args := [(.slice x1 l2 c3), (.slice x4 l5 c6), (.int .u32 x7), (.bool x8)]) (by kernel_rfl) (Try.func7) (c := bodyOf Try.f7) (by kernel_rfl) (by kernel_rfl) (allL (show loops 0 (bodyOf Try.f7) = [] by kernel_rfl) True.intro) (Eq.mpr (eq7 x1 l2 c3 x4 l5 c6 x7 x8 w K) h)
end Go.Proofs.Ytcemgjikmdbjgaa
