/- The formulas of the functions 8, 6, 5 of this seat, written by a program of my own (dec.py), each with its proof. -/
import Derived.Test.YtiodaglceoodpaaProg
import Derived.Test.YtiodaglceoodpaaSh
import Derived.KernelRfl
namespace Go.Proofs.Ytiodaglceoodpaa
open Go Go.Sh
set_option linter.unusedVariables false
set_option maxRecDepth 100000
def H8 (_F : Value → World → Prop) : Nat → Kont → Env → World → Prop := fun _ _ _ _ => False
/-- jackstay/jackstaylaw12.awake -/
def S8 (w : World) (K : Value → World → Prop) : Prop :=
  callV Try.prog 7 #[(.int .i64 2)] w fun v1 w => ∃ p2 : Option Addr, ∃ n3 : Int, v1 = (.tuple #[(.pointer p2), (.int .i64 n3)]) ∧ br ((n3 : Int) != 0)
  (K (.bool false) w)
  (callV Try.prog 17 #[(.int .i64 1)] w fun v4 w => ∃ n5 : Int, ∃ b6 : Bool, ∃ b7 : Bool, ∃ n8 : Int, ∃ (p9 : Option Addr) (l10 c11 : Nat), ∃ n12 : Int, v4 = (.agg #[(.int .u32 n5), (.bool b6), (.bool b7), (.int .u8 n8), (.slice p9 l10 c11), (.int .i64 n12)]) ∧ callV Try.prog 10 #[(.pointer p2), (.agg #[(.int .u32 n5), (.bool b6), (.bool b7), (.int .u8 n8), (.slice p9 l10 c11), (.int .i64 n12)])] w fun v13 w => ∃ n14 : Int, v13 = (.int .i64 n14) ∧ callV Try.prog 17 #[(.int .i64 2)] w fun v15 w => ∃ n16 : Int, ∃ b17 : Bool, ∃ b18 : Bool, ∃ n19 : Int, ∃ (p20 : Option Addr) (l21 c22 : Nat), ∃ n23 : Int, v15 = (.agg #[(.int .u32 n16), (.bool b17), (.bool b18), (.int .u8 n19), (.slice p20 l21 c22), (.int .i64 n23)]) ∧ callV Try.prog 10 #[(.pointer p2), (.agg #[(.int .u32 n16), (.bool b17), (.bool b18), (.int .u8 n19), (.slice p20 l21 c22), (.int .i64 n23)])] w fun v24 w => ∃ n25 : Int, v24 = (.int .i64 n25) ∧ callV Try.prog 17 #[(.int .i64 3)] w fun v26 w => ∃ n27 : Int, ∃ b28 : Bool, ∃ b29 : Bool, ∃ n30 : Int, ∃ (p31 : Option Addr) (l32 c33 : Nat), ∃ n34 : Int, v26 = (.agg #[(.int .u32 n27), (.bool b28), (.bool b29), (.int .u8 n30), (.slice p31 l32 c33), (.int .i64 n34)]) ∧ callV Try.prog 10 #[(.pointer p2), (.agg #[(.int .u32 n27), (.bool b28), (.bool b29), (.int .u8 n30), (.slice p31 l32 c33), (.int .i64 n34)])] w fun v35 w => ∃ n36 : Int, v35 = (.int .i64 n36) ∧ callV Try.prog 16 #[(.pointer p2)] w fun v37 w => ∃ b38 : Bool, v37 = (.bool b38) ∧ callV Try.prog 18 #[(.pointer p2), (.int .i64 1)] w fun v39 w => ∃ b40 : Bool, v39 = (.bool b40) ∧ callV Try.prog 17 #[(.int .i64 4)] w fun v41 w => ∃ n42 : Int, ∃ b43 : Bool, ∃ b44 : Bool, ∃ n45 : Int, ∃ (p46 : Option Addr) (l47 c48 : Nat), ∃ n49 : Int, v41 = (.agg #[(.int .u32 n42), (.bool b43), (.bool b44), (.int .u8 n45), (.slice p46 l47 c48), (.int .i64 n49)]) ∧ callV Try.prog 10 #[(.pointer p2), (.agg #[(.int .u32 n42), (.bool b43), (.bool b44), (.int .u8 n45), (.slice p46 l47 c48), (.int .i64 n49)])] w fun v50 w => ∃ n51 : Int, v50 = (.int .i64 n51) ∧ callV Try.prog 18 #[(.pointer p2), (.int .i64 2)] w fun v52 w => ∃ b53 : Bool, v52 = (.bool b53) ∧ callV Try.prog 18 #[(.pointer p2), (.int .i64 4)] w fun v54 w => ∃ b55 : Bool, v54 = (.bool b55) ∧ callV Try.prog 12 #[(.pointer p2)] w fun v56 w => ∃ n57 : Int, ∃ b58 : Bool, ∃ b59 : Bool, ∃ n60 : Int, ∃ (p61 : Option Addr) (l62 c63 : Nat), ∃ n64 : Int, ∃ b65 : Bool, v56 = (.tuple #[(.agg #[(.int .u32 n57), (.bool b58), (.bool b59), (.int .u8 n60), (.slice p61 l62 c63), (.int .i64 n64)]), (.bool b65)]) ∧ al w (.cells #[(.int .u32 0), (.bool false), (.bool false), (.int .u8 0), (.slice none 0 0), (.int .i64 0)] 36) fun r66 w => stL w ⟨r66, 0, none⟩ 0 [(.int .u32 n57), (.bool b58), (.bool b59), (.int .u8 n60), (.slice p61 l62 c63), (.int .i64 n64)] fun w => br ((n14 : Int) == 0)
  (br ((n25 : Int) == 0)
  (br ((n36 : Int) == 5)
  (br b38
  (br b40
  (br ((n51 : Int) == 0)
  (br b53
  (br b55
  (br (!b65)
  (callV Try.prog 14 #[(.pointer p2)] w fun v67 w => ∃ b68 : Bool, v67 = (.bool b68) ∧ br b68
  (callV Try.prog 14 #[(.pointer p2)] w fun v69 w => ∃ b70 : Bool, v69 = (.bool b70) ∧ K (.bool (!b70)) w)
  (K (.bool false) w))
  (K (.bool false) w))
  (K (.bool false) w))
  (K (.bool false) w))
  (K (.bool false) w))
  (K (.bool false) w))
  (K (.bool false) w))
  (K (.bool false) w))
  (K (.bool false) w))
  (K (.bool false) w))
theorem eq8 (w : World) (K : Value → World → Prop) : G Try.prog [15] 83 [0, 1, 2, 3, 4, 5, 6, 7, 8, 9, 10, 12, 18] (H8 K) 0 (bodyOf Try.f8) (retG Try.prog Try.f8.results.toList K) (env0 0 []) w = S8 w K := by kernel_rfl
theorem ok8 {w : World} {K : Value → World → Prop} (h : S8 w K) : callV Try.prog 8 #[] w K :=
  call_sound (qs := [15]) (args := []) (by kernel_rfl) (Try.func8) (c := bodyOf Try.f8) (by kernel_rfl) (by kernel_rfl) (allL (show loops 0 (bodyOf Try.f8) = [] by kernel_rfl) True.intro) (Eq.mpr (eq8 w K) h)
def B6_0 (x12 : Addr) (x13 : Option Addr) (l14 : Nat) (c15 : Nat) (x16 : Int) (x17 : Int) (w : World) (N : Int → World → Prop) (X0 : World → Prop) (K : Value → World → Prop) : Prop :=
  br (decide ((x17 : Int) < x16))
  (idx x13 l14 1 x17 fun a18 => ∃ p19 : Option Addr, w.cell? a18 = some (.pointer p19) ∧ callV Try.prog 12 #[(.pointer p19)] w fun v20 w => ∃ n21 : Int, ∃ b22 : Bool, ∃ b23 : Bool, ∃ n24 : Int, ∃ (p25 : Option Addr) (l26 c27 : Nat), ∃ n28 : Int, ∃ b29 : Bool, v20 = (.tuple #[(.agg #[(.int .u32 n21), (.bool b22), (.bool b23), (.int .u8 n24), (.slice p25 l26 c27), (.int .i64 n28)]), (.bool b29)]) ∧ al w (.cells #[(.int .u32 0), (.bool false), (.bool false), (.int .u8 0), (.slice none 0 0), (.int .i64 0)] 36) fun r30 w => stL w ⟨r30, 0, none⟩ 0 [(.int .u32 n21), (.bool b22), (.bool b23), (.int .u8 n24), (.slice p25 l26 c27), (.int .i64 n28)] fun w => ∃ n31 : Int, w.cell? x12 = some (.int .u32 n31) ∧ ∃ b32 : Bool, w.cell? (x12.add 1) = some (.bool b32) ∧ ∃ b33 : Bool, w.cell? (x12.add 2) = some (.bool b33) ∧ ∃ n34 : Int, w.cell? (x12.add 3) = some (.int .u8 n34) ∧ ∃ (p35 : Option Addr) (l36 c37 : Nat), w.cell? (x12.add 4) = some (.slice p35 l36 c37) ∧ ∃ n38 : Int, w.cell? (x12.add 5) = some (.int .i64 n38) ∧ callV Try.prog 10 #[(.pointer p19), (.agg #[(.int .u32 n31), (.bool b32), (.bool b33), (.int .u8 n34), (.slice p35 l36 c37), (.int .i64 n38)])] w fun v39 w => ∃ n40 : Int, v39 = (.int .i64 n40) ∧ br ((n40 : Int) != 1)
  (K (.bool false) w)
  (br b29
  (K (.bool false) w)
  (∃ n41 : Int, w.cell? ⟨r30, 5, none⟩ = some (.int .i64 n41) ∧ br ((n41 : Int) != 0)
  (K (.bool false) w)
  (∃ (p42 : Option Addr) (l43 c44 : Nat), w.cell? ⟨r30, 4, none⟩ = some (.slice p42 l43 c44) ∧ br (((l43 : Int) : Int) != 0)
  (K (.bool false) w)
  (callQ Try.prog 15 #[(.pointer p19)] w fun v45 w => ∃ n46 : Int, v45 = (.int .i64 n46) ∧ br ((n46 : Int) != 0)
  (K (.bool false) w)
  (callV Try.prog 16 #[(.pointer p19)] w fun v47 w => ∃ b48 : Bool, v47 = (.bool b48) ∧ br b48
  (K (.bool false) w)
  (callV Try.prog 14 #[(.pointer p19)] w fun v49 w => ∃ b50 : Bool, v49 = (.bool b50) ∧ br b50
  (K (.bool false) w)
  (N (IntKind.wrap .i64 (x17 + 1)) w))))))))
  (X0 w)
/-- The loop in block 0 of function 6: by what holds at its head. -/
def LS6_0 (x12 : Addr) (x13 : Option Addr) (l14 : Nat) (c15 : Nat) (x16 : Int) (x17 : Int) (w : World) (X0 : World → Prop) (K : Value → World → Prop) : Prop :=
  ∃ J : Nat → Int → World → Prop, (∃ n, J n x17 w) ∧ ∀ n x17 w, J n x17 w → B6_0 x12 x13 l14 c15 x16 x17 w (fun x17 w => ∃ m, m < n ∧ J m x17 w) X0 K
abbrev env6_0 (x12 : Addr) (x13 : Option Addr) (l14 : Nat) (c15 : Nat) (x16 : Int) (x17 : Int) : Env := [(1, (.pointer (some x12))), (9, (.slice x13 l14 c15)), (10, (.int .i64 x16)), (11, (.int .i64 x17))]
def Kt6_0 (N : Int → World → Prop) (X0 : World → Prop) (K : Value → World → Prop) : Kont := fun e E w => match e with
  | .normal => gI .i64 E 11 fun x17 => N x17 w
  | .exit j => match Nat.beq j 0 with | true => (X0 w) | false => (False)
  | .ret => retG Try.prog Try.f6.results.toList K .ret E w
  | _ => False
def HL6_0 (F : Value → World → Prop) (K : Kont) (E : Env) (w : World) : Prop := match keep [1, 9, 10, 11] E with
  | [(1, (.pointer (some x12))), (9, (.slice x13 l14 c15)), (10, (.int .i64 x16)), (11, (.int .i64 x17))] => LS6_0 x12 x13 l14 c15 x16 x17 w (fun w => K (.exit 0) [] w) F
  | _ => False
def H6 (F : Value → World → Prop) : Nat → Kont → Env → World → Prop := fun b K E w => match Nat.beq b 0 with | true => HL6_0 F K E w | false => (False)
theorem Beq6_0 (x12 : Addr) (x13 : Option Addr) (l14 : Nat) (c15 : Nat) (x16 : Int) (x17 : Int) (w : World) (N : Int → World → Prop) (X0 : World → Prop) (K : Value → World → Prop) :
    G Try.prog [15] 54 [0, 1, 2, 4, 5, 6, 9, 10, 11, 12, 51] (H6 K) 0 (loopOf 0 Try.f6) (Kt6_0 N X0 K) (env6_0 x12 x13 l14 c15 x16 x17) w = B6_0 x12 x13 l14 c15 x16 x17 w N X0 K := by kernel_rfl
theorem lok6_0 (F : Value → World → Prop) : LoopOk Try.prog 54 Try.f6.results.toList F (H6 F) 0 (loopOf 0 Try.f6) := by
  intro K E a w Q hr h hs hq
  have hs0 := hs.keep [1, 9, 10, 11]
  have h1 : HL6_0 F K E w := h
  unfold HL6_0 at h1
  split at h1
  · rename_i x12 x13 l14 c15 x16 x17 heq
    obtain ⟨J, ⟨n, hJ⟩, hround⟩ := h1
    rw [heq] at hs0
    refine loop_typed (qs := [15]) (L := [0, 1, 2, 4, 5, 6, 9, 10, 11, 12, 51]) (rs := Try.f6.results.toList) (F := F) (H := H6 F) (b := 0) (by kernel_rfl) (allL (show loops 0 (loopOf 0 Try.f6) = [] by kernel_rfl) True.intro) (σ := Int) (fun s => env6_0 x12 x13 l14 c15 x16 s) (fun n s w => J n s w)
      (fun n => Kt6_0 (fun x17 w => ∃ m, m < n ∧ J m x17 w) (fun w => K (.exit 0) [] w) F) (fun _ _ _ h => h) ?_ ?_ a ?_ n x17 a w hJ (Fr.refl _ _) hs0
    · intro n s w hJ
      exact Eq.mpr (Beq6_0 x12 x13 l14 c15 x16 s w _ _ F) (hround n s w hJ)
    · intro n s E' w' h
      obtain ⟨x17, e11, h⟩ := gI_get h
      obtain ⟨m, hm, hJ⟩ := h
      exact ⟨m, x17, hm, hJ, ⟨.inl ⟨by kernel_rfl, rfl⟩, .inl ⟨by kernel_rfl, rfl⟩, .inl ⟨by kernel_rfl, rfl⟩, .inr e11, True.intro⟩⟩
    · intro n s a1 e E' a' w' he hs1 hf0 hf1 hs' h
      cases e with
      | normal => exact (he rfl).elim
      | exit j =>
        dsimp only [Kt6_0] at h
        cases hb : Nat.beq j 0
        case' true =>
          rw [hb] at h
          have hj := Nat.eq_of_beq_eq_true hb
          subst hj
          dsimp only at h
          exact hq _ _ _ _ (hs1.next hf1 hs' (E2 := []) True.intro) hf0 h
        rw [hb] at h
        dsimp only at h
        all_goals exact h.elim
      | ret => exact hq _ _ _ _ hs' hf0 (hr _ _ h)
      | _ => exact h.elim
  · exact h1.elim
/-- jackstay/jackstaylaw12.FifoNone -/
def S6 (x1 : Int) (x2 : Bool) (x3 : Bool) (x4 : Int) (x5 : Option Addr) (l6 : Nat) (c7 : Nat) (x8 : Int) (w : World) (K : Value → World → Prop) : Prop :=
  al w (.cells #[(.int .u32 x1), (.bool x2), (.bool x3), (.int .u8 x4), (.slice x5 l6 c7), (.int .i64 x8)] 36) fun r9 w => al w (.cells #[(.slice none 0 0), (.int .i64 0), (.int .i64 0), (.bool false)] 56) fun r10 w => al w (.cells #[(.pointer none), (.pointer (some ⟨r10, 0, none⟩))] 23) fun r11 w => LS6_0 (⟨r9, 0, none⟩) (some ⟨r11, 0, none⟩) 2 2 2 0 w
  (fun w => callV Try.prog 8 #[] w fun v51 w => ∃ b52 : Bool, v51 = (.bool b52) ∧ K (.bool b52) w) K
theorem eq6 (x1 : Int) (x2 : Bool) (x3 : Bool) (x4 : Int) (x5 : Option Addr) (l6 : Nat) (c7 : Nat) (x8 : Int) (w : World) (K : Value → World → Prop) : G Try.prog [15] 54 [0, 1, 2, 4, 5, 6, 9, 10, 11, 12, 51] (H6 K) 0 (bodyOf Try.f6) (retG Try.prog Try.f6.results.toList K) (env0 0 [(.agg #[(.int .u32 x1), (.bool x2), (.bool x3), (.int .u8 x4), (.slice x5 l6 c7), (.int .i64 x8)])]) w = S6 x1 x2 x3 x4 x5 l6 c7 x8 w K := by kernel_rfl
theorem ok6 {x1 : Int} {x2 : Bool} {x3 : Bool} {x4 : Int} {x5 : Option Addr} {l6 : Nat} {c7 : Nat} {x8 : Int} {w : World} {K : Value → World → Prop} (h : S6 x1 x2 x3 x4 x5 l6 c7 x8 w K) : callV Try.prog 6 #[(.agg #[(.int .u32 x1), (.bool x2), (.bool x3), (.int .u8 x4), (.slice x5 l6 c7), (.int .i64 x8)])] w K :=
  call_sound (qs := [15]) (args := [(.agg #[(.int .u32 x1), (.bool x2), (.bool x3), (.int .u8 x4), (.slice x5 l6 c7), (.int .i64 x8)])]) (by kernel_rfl) (Try.func6) (c := bodyOf Try.f6) (by kernel_rfl) (by kernel_rfl) (allL (show loops 0 (bodyOf Try.f6) = [(0, loopOf 0 Try.f6)] by kernel_rfl) ⟨lok6_0 K, True.intro⟩) (Eq.mpr (eq6 x1 x2 x3 x4 x5 l6 c7 x8 w K) h)
def B5_2 (x10 : Int) (x11 : Option Addr) (x12 : Int) (x13 : Int) (x14 : Int) (x15 : Int) (x16 : Int) (w : World) (N : Int → World → Prop) (X2 : World → Prop) (K : Value → World → Prop) : Prop :=
  br (decide ((x16 : Int) < x15))
  (callV Try.prog 17 #[(.int .i64 (IntKind.wrap .i64 ((IntKind.wrap .i64 (x12 * 1000)) + x16)))] w fun v17 w => ∃ n18 : Int, ∃ b19 : Bool, ∃ b20 : Bool, ∃ n21 : Int, ∃ (p22 : Option Addr) (l23 c24 : Nat), ∃ n25 : Int, v17 = (.agg #[(.int .u32 n18), (.bool b19), (.bool b20), (.int .u8 n21), (.slice p22 l23 c24), (.int .i64 n25)]) ∧ callV Try.prog 10 #[(.pointer x11), (.agg #[(.int .u32 n18), (.bool b19), (.bool b20), (.int .u8 n21), (.slice p22 l23 c24), (.int .i64 n25)])] w fun v26 w => ∃ n27 : Int, v26 = (.int .i64 n27) ∧ br ((n27 : Int) != 0)
  (K (.bool false) w)
  (N (IntKind.wrap .i64 (x16 + 1)) w))
  (X2 w)
/-- The loop in block 2 of function 5: by what holds at its head. -/
def LS5_2 (x10 : Int) (x11 : Option Addr) (x12 : Int) (x13 : Int) (x14 : Int) (x15 : Int) (x16 : Int) (w : World) (X2 : World → Prop) (K : Value → World → Prop) : Prop :=
  ∃ J : Nat → Int → World → Prop, (∃ n, J n x16 w) ∧ ∀ n x16 w, J n x16 w → B5_2 x10 x11 x12 x13 x14 x15 x16 w (fun x16 w => ∃ m, m < n ∧ J m x16 w) X2 K
abbrev env5_2 (x10 : Int) (x11 : Option Addr) (x12 : Int) (x13 : Int) (x14 : Int) (x15 : Int) (x16 : Int) : Env := [(5, (.int .i64 x10)), (6, (.pointer x11)), (8, (.int .i64 x12)), (26, (.int .i64 x13)), (27, (.int .i64 x14)), (30, (.int .i64 x15)), (31, (.int .i64 x16))]
def Kt5_2 (N : Int → World → Prop) (X2 : World → Prop) (K : Value → World → Prop) : Kont := fun e E w => match e with
  | .normal => gI .i64 E 31 fun x16 => N x16 w
  | .exit j => match Nat.beq j 2 with | true => (X2 w) | false => (False)
  | .ret => retG Try.prog Try.f5.results.toList K .ret E w
  | _ => False
def HL5_2 (F : Value → World → Prop) (K : Kont) (E : Env) (w : World) : Prop := match keep [5, 6, 8, 26, 27, 30, 31] E with
  | [(5, (.int .i64 x10)), (6, (.pointer x11)), (8, (.int .i64 x12)), (26, (.int .i64 x13)), (27, (.int .i64 x14)), (30, (.int .i64 x15)), (31, (.int .i64 x16))] => LS5_2 x10 x11 x12 x13 x14 x15 x16 w (fun w => K (.exit 2) [(5, (.int .i64 x10)), (6, (.pointer x11)), (8, (.int .i64 x12)), (26, (.int .i64 x13)), (27, (.int .i64 x14))] w) F
  | _ => False
def B5_4 (x45 : Int) (x46 : Option Addr) (x47 : Int) (x48 : Int) (x49 : Int) (x50 : Int) (x51 : Int) (w : World) (N : Int → World → Prop) (X4 : World → Prop) (K : Value → World → Prop) : Prop :=
  br (decide ((x51 : Int) < x50))
  (callV Try.prog 18 #[(.pointer x46), (.int .i64 (IntKind.wrap .i64 ((IntKind.wrap .i64 (x47 * 1000)) + x51)))] w fun v52 w => ∃ b53 : Bool, v52 = (.bool b53) ∧ br (!b53)
  (K (.bool false) w)
  (N (IntKind.wrap .i64 (x51 + 1)) w))
  (X4 w)
/-- The loop in block 4 of function 5: by what holds at its head. -/
def LS5_4 (x45 : Int) (x46 : Option Addr) (x47 : Int) (x48 : Int) (x49 : Int) (x50 : Int) (x51 : Int) (w : World) (X4 : World → Prop) (K : Value → World → Prop) : Prop :=
  ∃ J : Nat → Int → World → Prop, (∃ n, J n x51 w) ∧ ∀ n x51 w, J n x51 w → B5_4 x45 x46 x47 x48 x49 x50 x51 w (fun x51 w => ∃ m, m < n ∧ J m x51 w) X4 K
abbrev env5_4 (x45 : Int) (x46 : Option Addr) (x47 : Int) (x48 : Int) (x49 : Int) (x50 : Int) (x51 : Int) : Env := [(5, (.int .i64 x45)), (6, (.pointer x46)), (8, (.int .i64 x47)), (26, (.int .i64 x48)), (27, (.int .i64 x49)), (62, (.int .i64 x50)), (63, (.int .i64 x51))]
def Kt5_4 (N : Int → World → Prop) (X4 : World → Prop) (K : Value → World → Prop) : Kont := fun e E w => match e with
  | .normal => gI .i64 E 63 fun x51 => N x51 w
  | .exit j => match Nat.beq j 4 with | true => (X4 w) | false => (False)
  | .ret => retG Try.prog Try.f5.results.toList K .ret E w
  | _ => False
def HL5_4 (F : Value → World → Prop) (K : Kont) (E : Env) (w : World) : Prop := match keep [5, 6, 8, 26, 27, 62, 63] E with
  | [(5, (.int .i64 x45)), (6, (.pointer x46)), (8, (.int .i64 x47)), (26, (.int .i64 x48)), (27, (.int .i64 x49)), (62, (.int .i64 x50)), (63, (.int .i64 x51))] => LS5_4 x45 x46 x47 x48 x49 x50 x51 w (fun w => K (.exit 4) [(5, (.int .i64 x45)), (6, (.pointer x46)), (26, (.int .i64 x48)), (27, (.int .i64 x49))] w) F
  | _ => False
def B5_0 (x6 : Int) (x7 : Option Addr) (x8 : Int) (x9 : Int) (w : World) (N : Int → World → Prop) (X0 : World → Prop) (K : Value → World → Prop) : Prop :=
  br (decide ((x9 : Int) < x8))
  (LS5_2 x6 x7 x9 x8 x9 x6 0 w
  (fun w => callV Try.prog 16 #[(.pointer x7)] w fun v28 w => ∃ b29 : Bool, v28 = (.bool b29) ∧ br b29
  (K (.bool false) w)
  (callV Try.prog 17 #[(.int .i64 (-1))] w fun v30 w => ∃ n31 : Int, ∃ b32 : Bool, ∃ b33 : Bool, ∃ n34 : Int, ∃ (p35 : Option Addr) (l36 c37 : Nat), ∃ n38 : Int, v30 = (.agg #[(.int .u32 n31), (.bool b32), (.bool b33), (.int .u8 n34), (.slice p35 l36 c37), (.int .i64 n38)]) ∧ callV Try.prog 10 #[(.pointer x7), (.agg #[(.int .u32 n31), (.bool b32), (.bool b33), (.int .u8 n34), (.slice p35 l36 c37), (.int .i64 n38)])] w fun v39 w => ∃ n40 : Int, v39 = (.int .i64 n40) ∧ br ((n40 : Int) != 5)
  (K (.bool false) w)
  (callV Try.prog 14 #[(.pointer x7)] w fun v41 w => ∃ b42 : Bool, v41 = (.bool b42) ∧ br (!b42)
  (K (.bool false) w)
  (callQ Try.prog 15 #[(.pointer x7)] w fun v43 w => ∃ n44 : Int, v43 = (.int .i64 n44) ∧ br ((n44 : Int) != x6)
  (K (.bool false) w)
  (LS5_4 x6 x7 x9 x8 x9 x6 0 w
  (fun w => callV Try.prog 12 #[(.pointer x7)] w fun v54 w => ∃ n55 : Int, ∃ b56 : Bool, ∃ b57 : Bool, ∃ n58 : Int, ∃ (p59 : Option Addr) (l60 c61 : Nat), ∃ n62 : Int, ∃ b63 : Bool, v54 = (.tuple #[(.agg #[(.int .u32 n55), (.bool b56), (.bool b57), (.int .u8 n58), (.slice p59 l60 c61), (.int .i64 n62)]), (.bool b63)]) ∧ al w (.cells #[(.int .u32 0), (.bool false), (.bool false), (.int .u8 0), (.slice none 0 0), (.int .i64 0)] 36) fun r64 w => stL w ⟨r64, 0, none⟩ 0 [(.int .u32 n55), (.bool b56), (.bool b57), (.int .u8 n58), (.slice p59 l60 c61), (.int .i64 n62)] fun w => br b63
  (K (.bool false) w)
  (callQ Try.prog 15 #[(.pointer x7)] w fun v65 w => ∃ n66 : Int, v65 = (.int .i64 n66) ∧ br ((n66 : Int) != 0)
  (K (.bool false) w)
  (N (IntKind.wrap .i64 (x9 + 1)) w))) K))))) K)
  (X0 w)
/-- The loop in block 0 of function 5: by what holds at its head. -/
def LS5_0 (x6 : Int) (x7 : Option Addr) (x8 : Int) (x9 : Int) (w : World) (X0 : World → Prop) (K : Value → World → Prop) : Prop :=
  ∃ J : Nat → Int → World → Prop, (∃ n, J n x9 w) ∧ ∀ n x9 w, J n x9 w → B5_0 x6 x7 x8 x9 w (fun x9 w => ∃ m, m < n ∧ J m x9 w) X0 K
abbrev env5_0 (x6 : Int) (x7 : Option Addr) (x8 : Int) (x9 : Int) : Env := [(5, (.int .i64 x6)), (6, (.pointer x7)), (26, (.int .i64 x8)), (27, (.int .i64 x9))]
def Kt5_0 (N : Int → World → Prop) (X0 : World → Prop) (K : Value → World → Prop) : Kont := fun e E w => match e with
  | .normal => gI .i64 E 27 fun x9 => N x9 w
  | .exit j => match Nat.beq j 0 with | true => (X0 w) | false => (False)
  | .ret => retG Try.prog Try.f5.results.toList K .ret E w
  | _ => False
def HL5_0 (F : Value → World → Prop) (K : Kont) (E : Env) (w : World) : Prop := match keep [5, 6, 26, 27] E with
  | [(5, (.int .i64 x6)), (6, (.pointer x7)), (26, (.int .i64 x8)), (27, (.int .i64 x9))] => LS5_0 x6 x7 x8 x9 w (fun w => K (.exit 0) [] w) F
  | _ => False
def H5 (F : Value → World → Prop) : Nat → Kont → Env → World → Prop := fun b K E w => match Nat.beq b 2 with | true => HL5_2 F K E w | false => (match Nat.beq b 4 with | true => HL5_4 F K E w | false => (match Nat.beq b 0 with | true => HL5_0 F K E w | false => (False)))
theorem Beq5_2 (x10 : Int) (x11 : Option Addr) (x12 : Int) (x13 : Int) (x14 : Int) (x15 : Int) (x16 : Int) (w : World) (N : Int → World → Prop) (X2 : World → Prop) (K : Value → World → Prop) :
    G Try.prog [15] 87 [0, 1, 4, 5, 6, 7, 8, 9, 10, 12, 22, 26, 27, 28, 30, 31, 32, 41, 61, 62, 63, 64, 72, 84] (H5 K) 2 (loopOf 2 Try.f5) (Kt5_2 N X2 K) (env5_2 x10 x11 x12 x13 x14 x15 x16) w = B5_2 x10 x11 x12 x13 x14 x15 x16 w N X2 K := by kernel_rfl
theorem lok5_2 (F : Value → World → Prop) : LoopOk Try.prog 87 Try.f5.results.toList F (H5 F) 2 (loopOf 2 Try.f5) := by
  intro K E a w Q hr h hs hq
  have hs0 := hs.keep [5, 6, 8, 26, 27, 30, 31]
  have h1 : HL5_2 F K E w := h
  unfold HL5_2 at h1
  split at h1
  · rename_i x10 x11 x12 x13 x14 x15 x16 heq
    obtain ⟨J, ⟨n, hJ⟩, hround⟩ := h1
    rw [heq] at hs0
    refine loop_typed (qs := [15]) (L := [0, 1, 4, 5, 6, 7, 8, 9, 10, 12, 22, 26, 27, 28, 30, 31, 32, 41, 61, 62, 63, 64, 72, 84]) (rs := Try.f5.results.toList) (F := F) (H := H5 F) (b := 2) (by kernel_rfl) (allL (show loops 2 (loopOf 2 Try.f5) = [] by kernel_rfl) True.intro) (σ := Int) (fun s => env5_2 x10 x11 x12 x13 x14 x15 s) (fun n s w => J n s w)
      (fun n => Kt5_2 (fun x16 w => ∃ m, m < n ∧ J m x16 w) (fun w => K (.exit 2) [(5, (.int .i64 x10)), (6, (.pointer x11)), (8, (.int .i64 x12)), (26, (.int .i64 x13)), (27, (.int .i64 x14))] w) F) (fun _ _ _ h => h) ?_ ?_ a ?_ n x16 a w hJ (Fr.refl _ _) hs0
    · intro n s w hJ
      exact Eq.mpr (Beq5_2 x10 x11 x12 x13 x14 x15 s w _ _ F) (hround n s w hJ)
    · intro n s E' w' h
      obtain ⟨x16, e31, h⟩ := gI_get h
      obtain ⟨m, hm, hJ⟩ := h
      exact ⟨m, x16, hm, hJ, ⟨.inl ⟨by kernel_rfl, rfl⟩, .inl ⟨by kernel_rfl, rfl⟩, .inl ⟨by kernel_rfl, rfl⟩, .inl ⟨by kernel_rfl, rfl⟩, .inl ⟨by kernel_rfl, rfl⟩, .inl ⟨by kernel_rfl, rfl⟩, .inr e31, True.intro⟩⟩
    · intro n s a1 e E' a' w' he hs1 hf0 hf1 hs' h
      cases e with
      | normal => exact (he rfl).elim
      | exit j =>
        dsimp only [Kt5_2] at h
        cases hb : Nat.beq j 2
        case' true =>
          rw [hb] at h
          have hj := Nat.eq_of_beq_eq_true hb
          subst hj
          dsimp only at h
          exact hq _ _ _ _ (hs1.next hf1 hs' (E2 := [(5, (.int .i64 x10)), (6, (.pointer x11)), (8, (.int .i64 x12)), (26, (.int .i64 x13)), (27, (.int .i64 x14))]) ⟨.inl ⟨by kernel_rfl, rfl⟩, .inl ⟨by kernel_rfl, rfl⟩, .inl ⟨by kernel_rfl, rfl⟩, .inl ⟨by kernel_rfl, rfl⟩, .inl ⟨by kernel_rfl, rfl⟩, True.intro⟩) hf0 h
        rw [hb] at h
        dsimp only at h
        all_goals exact h.elim
      | ret => exact hq _ _ _ _ hs' hf0 (hr _ _ h)
      | _ => exact h.elim
  · exact h1.elim
theorem Beq5_4 (x45 : Int) (x46 : Option Addr) (x47 : Int) (x48 : Int) (x49 : Int) (x50 : Int) (x51 : Int) (w : World) (N : Int → World → Prop) (X4 : World → Prop) (K : Value → World → Prop) :
    G Try.prog [15] 87 [0, 1, 4, 5, 6, 7, 8, 9, 10, 12, 22, 26, 27, 28, 30, 31, 32, 41, 61, 62, 63, 64, 72, 84] (H5 K) 4 (loopOf 4 Try.f5) (Kt5_4 N X4 K) (env5_4 x45 x46 x47 x48 x49 x50 x51) w = B5_4 x45 x46 x47 x48 x49 x50 x51 w N X4 K := by kernel_rfl
theorem lok5_4 (F : Value → World → Prop) : LoopOk Try.prog 87 Try.f5.results.toList F (H5 F) 4 (loopOf 4 Try.f5) := by
  intro K E a w Q hr h hs hq
  have hs0 := hs.keep [5, 6, 8, 26, 27, 62, 63]
  have h1 : HL5_4 F K E w := h
  unfold HL5_4 at h1
  split at h1
  · rename_i x45 x46 x47 x48 x49 x50 x51 heq
    obtain ⟨J, ⟨n, hJ⟩, hround⟩ := h1
    rw [heq] at hs0
    refine loop_typed (qs := [15]) (L := [0, 1, 4, 5, 6, 7, 8, 9, 10, 12, 22, 26, 27, 28, 30, 31, 32, 41, 61, 62, 63, 64, 72, 84]) (rs := Try.f5.results.toList) (F := F) (H := H5 F) (b := 4) (by kernel_rfl) (allL (show loops 4 (loopOf 4 Try.f5) = [] by kernel_rfl) True.intro) (σ := Int) (fun s => env5_4 x45 x46 x47 x48 x49 x50 s) (fun n s w => J n s w)
      (fun n => Kt5_4 (fun x51 w => ∃ m, m < n ∧ J m x51 w) (fun w => K (.exit 4) [(5, (.int .i64 x45)), (6, (.pointer x46)), (26, (.int .i64 x48)), (27, (.int .i64 x49))] w) F) (fun _ _ _ h => h) ?_ ?_ a ?_ n x51 a w hJ (Fr.refl _ _) hs0
    · intro n s w hJ
      exact Eq.mpr (Beq5_4 x45 x46 x47 x48 x49 x50 s w _ _ F) (hround n s w hJ)
    · intro n s E' w' h
      obtain ⟨x51, e63, h⟩ := gI_get h
      obtain ⟨m, hm, hJ⟩ := h
      exact ⟨m, x51, hm, hJ, ⟨.inl ⟨by kernel_rfl, rfl⟩, .inl ⟨by kernel_rfl, rfl⟩, .inl ⟨by kernel_rfl, rfl⟩, .inl ⟨by kernel_rfl, rfl⟩, .inl ⟨by kernel_rfl, rfl⟩, .inl ⟨by kernel_rfl, rfl⟩, .inr e63, True.intro⟩⟩
    · intro n s a1 e E' a' w' he hs1 hf0 hf1 hs' h
      cases e with
      | normal => exact (he rfl).elim
      | exit j =>
        dsimp only [Kt5_4] at h
        cases hb : Nat.beq j 4
        case' true =>
          rw [hb] at h
          have hj := Nat.eq_of_beq_eq_true hb
          subst hj
          dsimp only at h
          exact hq _ _ _ _ (hs1.next hf1 hs' (E2 := [(5, (.int .i64 x45)), (6, (.pointer x46)), (26, (.int .i64 x48)), (27, (.int .i64 x49))]) ⟨.inl ⟨by kernel_rfl, rfl⟩, .inl ⟨by kernel_rfl, rfl⟩, .inl ⟨by kernel_rfl, rfl⟩, .inl ⟨by kernel_rfl, rfl⟩, True.intro⟩) hf0 h
        rw [hb] at h
        dsimp only at h
        all_goals exact h.elim
      | ret => exact hq _ _ _ _ hs' hf0 (hr _ _ h)
      | _ => exact h.elim
  · exact h1.elim
theorem Beq5_0 (x6 : Int) (x7 : Option Addr) (x8 : Int) (x9 : Int) (w : World) (N : Int → World → Prop) (X0 : World → Prop) (K : Value → World → Prop) :
    G Try.prog [15] 87 [0, 1, 4, 5, 6, 7, 8, 9, 10, 12, 22, 26, 27, 28, 30, 31, 32, 41, 61, 62, 63, 64, 72, 84] (H5 K) 0 (loopOf 0 Try.f5) (Kt5_0 N X0 K) (env5_0 x6 x7 x8 x9) w = B5_0 x6 x7 x8 x9 w N X0 K := by kernel_rfl
theorem lok5_0 (F : Value → World → Prop) : LoopOk Try.prog 87 Try.f5.results.toList F (H5 F) 0 (loopOf 0 Try.f5) := by
  intro K E a w Q hr h hs hq
  have hs0 := hs.keep [5, 6, 26, 27]
  have h1 : HL5_0 F K E w := h
  unfold HL5_0 at h1
  split at h1
  · rename_i x6 x7 x8 x9 heq
    obtain ⟨J, ⟨n, hJ⟩, hround⟩ := h1
    rw [heq] at hs0
    refine loop_typed (qs := [15]) (L := [0, 1, 4, 5, 6, 7, 8, 9, 10, 12, 22, 26, 27, 28, 30, 31, 32, 41, 61, 62, 63, 64, 72, 84]) (rs := Try.f5.results.toList) (F := F) (H := H5 F) (b := 0) (by kernel_rfl) (allL (show loops 0 (loopOf 0 Try.f5) = [(2, loopOf 2 Try.f5), (4, loopOf 4 Try.f5)] by kernel_rfl) ⟨lok5_2 F, lok5_4 F, True.intro⟩) (σ := Int) (fun s => env5_0 x6 x7 x8 s) (fun n s w => J n s w)
      (fun n => Kt5_0 (fun x9 w => ∃ m, m < n ∧ J m x9 w) (fun w => K (.exit 0) [] w) F) (fun _ _ _ h => h) ?_ ?_ a ?_ n x9 a w hJ (Fr.refl _ _) hs0
    · intro n s w hJ
      exact Eq.mpr (Beq5_0 x6 x7 x8 s w _ _ F) (hround n s w hJ)
    · intro n s E' w' h
      obtain ⟨x9, e27, h⟩ := gI_get h
      obtain ⟨m, hm, hJ⟩ := h
      exact ⟨m, x9, hm, hJ, ⟨.inl ⟨by kernel_rfl, rfl⟩, .inl ⟨by kernel_rfl, rfl⟩, .inl ⟨by kernel_rfl, rfl⟩, .inr e27, True.intro⟩⟩
    · intro n s a1 e E' a' w' he hs1 hf0 hf1 hs' h
      cases e with
      | normal => exact (he rfl).elim
      | exit j =>
        dsimp only [Kt5_0] at h
        cases hb : Nat.beq j 0
        case' true =>
          rw [hb] at h
          have hj := Nat.eq_of_beq_eq_true hb
          subst hj
          dsimp only at h
          exact hq _ _ _ _ (hs1.next hf1 hs' (E2 := []) True.intro) hf0 h
        rw [hb] at h
        dsimp only at h
        all_goals exact h.elim
      | ret => exact hq _ _ _ _ hs' hf0 (hr _ _ h)
      | _ => exact h.elim
  · exact h1.elim
/-- jackstay/jackstaylaw12.FifoFull -/
def S5 (x1 : Int) (x2 : Int) (w : World) (K : Value → World → Prop) : Prop :=
  callV Try.prog 7 #[(.int .i64 (IntKind.wrap .i64 (1 + (IntKind.wrap .i64 x1))))] w fun v3 w => ∃ p4 : Option Addr, ∃ n5 : Int, v3 = (.tuple #[(.pointer p4), (.int .i64 n5)]) ∧ br ((n5 : Int) != 0)
  (K (.bool false) w)
  (LS5_0 (IntKind.wrap .i64 (1 + (IntKind.wrap .i64 x1))) p4 (IntKind.wrap .i64 (1 + (IntKind.wrap .i64 (Int.tmod x2 5)))) 0 w
  (fun w => callV Try.prog 8 #[] w fun v67 w => ∃ b68 : Bool, v67 = (.bool b68) ∧ K (.bool b68) w) K)
theorem eq5 (x1 : Int) (x2 : Int) (w : World) (K : Value → World → Prop) : G Try.prog [15] 87 [0, 1, 4, 5, 6, 7, 8, 9, 10, 12, 22, 26, 27, 28, 30, 31, 32, 41, 61, 62, 63, 64, 72, 84] (H5 K) 0 (bodyOf Try.f5) (retG Try.prog Try.f5.results.toList K) (env0 0 [(.int .u8 x1), (.int .u8 x2)]) w = S5 x1 x2 w K := by kernel_rfl
theorem ok5 {x1 : Int} {x2 : Int} {w : World} {K : Value → World → Prop} (h : S5 x1 x2 w K) : callV Try.prog 5 #[(.int .u8 x1), (.int .u8 x2)] w K :=
  call_sound (qs := [15]) (args := [(.int .u8 x1), (.int .u8 x2)]) (by kernel_rfl) (Try.func5) (c := bodyOf Try.f5) (by kernel_rfl) (by kernel_rfl) (allL (show loops 0 (bodyOf Try.f5) = [(0, loopOf 0 Try.f5)] by kernel_rfl) ⟨lok5_0 K, True.intro⟩) (Eq.mpr (eq5 x1 x2 w K) h)
end Go.Proofs.Ytiodaglceoodpaa
