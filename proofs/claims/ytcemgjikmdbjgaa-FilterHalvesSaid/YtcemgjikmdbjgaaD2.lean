/- The formulas of the functions 32, 34, 36, 42, 52, 35, 46 of this seat, written by a program of my own (dec.py), each with its proof. -/
import Derived.Test.YtcemgjikmdbjgaaProg
import Derived.Test.YtcemgjikmdbjgaaSh
import Derived.KernelRfl
namespace Go.Proofs.Ytcemgjikmdbjgaa
open Go Go.Sh
set_option linter.unusedVariables false
set_option maxRecDepth 100000
def H32 (_F : Value → World → Prop) : Nat → Kont → Env → World → Prop := fun _ _ _ _ => False
/-- slices.Sort[[]uint32,uint32] -/
def S32 (x1 : Option Addr) (l2 : Nat) (c3 : Nat) (w : World) (K : Value → World → Prop) : Prop :=
  callV Try.prog 35 #[(.int .u64 (IntKind.wrap .u64 (l2 : Int)))] w fun v4 w => ∃ n5 : Int, v4 = (.int .i64 n5) ∧ callV Try.prog 34 #[(.slice x1 l2 c3), (.int .i64 0), (.int .i64 (l2 : Int)), (.int .i64 n5)] w fun v6 w => v6 = (.tuple #[]) ∧ K (.tuple #[]) w
theorem eq32 (x1 : Option Addr) (l2 : Nat) (c3 : Nat) (w : World) (K : Value → World → Prop) : G Try.prog [] 11 [0, 2] (H32 K) 0 (bodyOf Try.f32) (retG Try.prog Try.f32.results.toList K) (env0 0 [(.slice x1 l2 c3)]) w = S32 x1 l2 c3 w K := by kernel_rfl
theorem ok32 {x1 : Option Addr} {l2 : Nat} {c3 : Nat} {w : World} {K : Value → World → Prop} (h : S32 x1 l2 c3 w K) : callV Try.prog 32 #[(.slice x1 l2 c3)] w K :=
  call_sound (qs := []) (args := [(.slice x1 l2 c3)]) (by kernel_rfl) (Try.func32) (c := bodyOf Try.f32) (by kernel_rfl) (by kernel_rfl) (allL (show loops [] 0 (bodyOf Try.f32) = [] by kernel_rfl) True.intro) (Eq.mpr (eq32 x1 l2 c3 w K) h)
def B34_0 (x7 : Option Addr) (l8 : Nat) (c9 : Nat) (x10 : Int) (x11 : Int) (x12 : Int) (x13 : Bool) (x14 : Bool) (w : World) (N : Int → Int → Int → Bool → Bool → World → Prop) (K : Value → World → Prop) : Prop :=
  br (decide (((IntKind.wrap .i64 (x11 - x10)) : Int) ≤ 12))
  (callV Try.prog 36 #[(.slice x7 l8 c9), (.int .i64 x10), (.int .i64 x11)] w fun v15 w => v15 = (.tuple #[]) ∧ K (.tuple #[]) w)
  (br ((x12 : Int) == 0)
  (callV Try.prog 37 #[(.slice x7 l8 c9), (.int .i64 x10), (.int .i64 x11)] w fun v16 w => v16 = (.tuple #[]) ∧ K (.tuple #[]) w)
  (jn (fun (x18 : Int) (w : World) =>
  callV Try.prog 39 #[(.slice x7 l8 c9), (.int .i64 x10), (.int .i64 x11)] w fun v20 w => ∃ n21 : Int, ∃ n22 : Int, v20 = (.tuple #[(.int .i64 n21), (.int .i64 n22)]) ∧ jn (fun (x24 : Int) (x25 : Int) (w : World) =>
  jn (fun (w : World) =>
  jn (fun (x38 : Bool) (w : World) =>
  br x38
  (callV Try.prog 43 #[(.slice x7 l8 c9), (.int .i64 x10), (.int .i64 x11), (.int .i64 x24)] w fun v40 w => ∃ n41 : Int, v40 = (.int .i64 n41) ∧ N n41 x11 x18 x13 x14 w)
  (callV Try.prog 44 #[(.slice x7 l8 c9), (.int .i64 x10), (.int .i64 x11), (.int .i64 x24)] w fun v42 w => ∃ n43 : Int, ∃ b44 : Bool, v42 = (.tuple #[(.int .i64 n43), (.bool b44)]) ∧ br (decide (((IntKind.wrap .i64 (n43 - x10)) : Int) < (IntKind.wrap .i64 (x11 - n43))))
  (callV Try.prog 34 #[(.slice x7 l8 c9), (.int .i64 x10), (.int .i64 n43), (.int .i64 x18)] w fun v45 w => v45 = (.tuple #[]) ∧ N (IntKind.wrap .i64 (n43 + 1)) x11 x18 (decide (((IntKind.wrap .i64 (n43 - x10)) : Int) ≥ (IntKind.wrap .i64 (Int.tdiv (IntKind.wrap .i64 (x11 - x10)) 8)))) b44 w)
  (callV Try.prog 34 #[(.slice x7 l8 c9), (.int .i64 (IntKind.wrap .i64 (n43 + 1))), (.int .i64 x11), (.int .i64 x18)] w fun v46 w => v46 = (.tuple #[]) ∧ N x10 n43 x18 (decide (((IntKind.wrap .i64 (x11 - n43)) : Int) ≥ (IntKind.wrap .i64 (Int.tdiv (IntKind.wrap .i64 (x11 - x10)) 8)))) b44 w))) fun J39 =>
  dr w fun w =>
  br (decide ((x10 : Int) > 0))
  (idx x7 l8 1 (IntKind.wrap .i64 (x10 - 1)) fun a32 => ∃ n33 : Int, w.cell? a32 = some (.int .u32 n33) ∧ idx x7 l8 1 x24 fun a34 => ∃ n35 : Int, w.cell? a34 = some (.int .u32 n35) ∧ callV Try.prog 42 #[(.int .u32 n33), (.int .u32 n35)] w fun v36 w => ∃ b37 : Bool, v36 = (.bool b37) ∧ J39 (!b37) w)
  (J39 false w)) fun J31 =>
  jn (fun (x27 : Bool) (w : World) =>
  br x27
  (callV Try.prog 41 #[(.slice x7 l8 c9), (.int .i64 x10), (.int .i64 x11)] w fun v29 w => ∃ b30 : Bool, v29 = (.bool b30) ∧ br b30
  (K (.tuple #[]) w)
  (J31 w))
  (J31 w)) fun J28 =>
  br x13
  (br x14
  (J28 ((x25 : Int) == 1) w)
  (J28 false w))
  (J28 false w)) fun J26 =>
  br ((n22 : Int) == 2)
  (callV Try.prog 40 #[(.slice x7 l8 c9), (.int .i64 x10), (.int .i64 x11)] w fun v23 w => v23 = (.tuple #[]) ∧ J26 (IntKind.wrap .i64 ((IntKind.wrap .i64 (x11 - 1)) - (IntKind.wrap .i64 (n21 - x10)))) 1 w)
  (J26 n21 n22 w)) fun J19 =>
  br (!x13)
  (callV Try.prog 38 #[(.slice x7 l8 c9), (.int .i64 x10), (.int .i64 x11)] w fun v17 w => v17 = (.tuple #[]) ∧ J19 (IntKind.wrap .i64 (x12 - 1)) w)
  (J19 x12 w)))
/-- The loop in block 0 of function 34: by what holds at its head. -/
def LS34_0 (x7 : Option Addr) (l8 : Nat) (c9 : Nat) (x10 : Int) (x11 : Int) (x12 : Int) (x13 : Bool) (x14 : Bool) (w : World) (K : Value → World → Prop) : Prop :=
  ∃ J : Nat → Int → Int → Int → Bool → Bool → World → Prop, (∃ n, J n x10 x11 x12 x13 x14 w) ∧ ∀ n x10 x11 x12 x13 x14 w, J n x10 x11 x12 x13 x14 w → B34_0 x7 l8 c9 x10 x11 x12 x13 x14 w (fun x10 x11 x12 x13 x14 w => ∃ m, m < n ∧ J m x10 x11 x12 x13 x14 w) K
abbrev env34_0 (x7 : Option Addr) (l8 : Nat) (c9 : Nat) (x10 : Int) (x11 : Int) (x12 : Int) (x13 : Bool) (x14 : Bool) : Env := [(0, (.slice x7 l8 c9)), (1, (.int .i64 x10)), (2, (.int .i64 x11)), (3, (.int .i64 x12)), (8, (.bool x13)), (9, (.bool x14))]
def Kt34_0 (N : Int → Int → Int → Bool → Bool → World → Prop) (K : Value → World → Prop) : Kont := fun e E w => match e with
  | .normal => gI .i64 E 1 fun x10 => gI .i64 E 2 fun x11 => gI .i64 E 3 fun x12 => gB E 8 fun x13 => gB E 9 fun x14 => N x10 x11 x12 x13 x14 w
  | .exit j => False
  | .ret => retG Try.prog Try.f34.results.toList K .ret E w
  | _ => False
def HL34_0 (F : Value → World → Prop) (K : Kont) (E : Env) (w : World) : Prop := match keep [0, 1, 2, 3, 8, 9] E with
  | [(0, (.slice x7 l8 c9)), (1, (.int .i64 x10)), (2, (.int .i64 x11)), (3, (.int .i64 x12)), (8, (.bool x13)), (9, (.bool x14))] => LS34_0 x7 l8 c9 x10 x11 x12 x13 x14 w F
  | _ => False
def H34 (F : Value → World → Prop) : Nat → Kont → Env → World → Prop := fun b K E w => match Nat.beq b 0 with | true => HL34_0 F K E w | false => (False)
theorem Beq34_0 (x7 : Option Addr) (l8 : Nat) (c9 : Nat) (x10 : Int) (x11 : Int) (x12 : Int) (x13 : Bool) (x14 : Bool) (w : World) (N : Int → Int → Int → Bool → Bool → World → Prop) (K : Value → World → Prop) :
    G Try.prog [] 134 [0, 1, 2, 3, 8, 9, 10, 11, 12, 13, 14, 15, 16, 17, 18, 23, 29, 35, 50, 68, 72, 87, 113] (H34 K) 0 (loopOf 0 Try.f34) (Kt34_0 N K) (env34_0 x7 l8 c9 x10 x11 x12 x13 x14) w = B34_0 x7 l8 c9 x10 x11 x12 x13 x14 w N K := by kernel_rfl
theorem lok34_0 (F : Value → World → Prop) : LoopOk Try.prog 134 Try.f34.results.toList F (H34 F) 0 (.loop (loopOf 0 Try.f34)) := by
  intro K E a w Q hr h hs hq
  have hs0 := hs.keep [0, 1, 2, 3, 8, 9]
  have h1 : HL34_0 F K E w := h
  unfold HL34_0 at h1
  split at h1
  · rename_i x7 l8 c9 x10 x11 x12 x13 x14 heq
    obtain ⟨J, ⟨n, hJ⟩, hround⟩ := h1
    rw [heq] at hs0
    refine loop_typed (qs := []) (L := [0, 1, 2, 3, 8, 9, 10, 11, 12, 13, 14, 15, 16, 17, 18, 23, 29, 35, 50, 68, 72, 87, 113]) (rs := Try.f34.results.toList) (F := F) (H := H34 F) (b := 0) (by kernel_rfl) (allL (show loops [] 0 (loopOf 0 Try.f34) = [] by kernel_rfl) True.intro) (σ := Int × Int × Int × Bool × Bool) (fun s => env34_0 x7 l8 c9 s.1 s.2.1 s.2.2.1 s.2.2.2.1 s.2.2.2.2) (fun n s w => J n s.1 s.2.1 s.2.2.1 s.2.2.2.1 s.2.2.2.2 w)
      (fun n => Kt34_0 (fun x10 x11 x12 x13 x14 w => ∃ m, m < n ∧ J m x10 x11 x12 x13 x14 w) F) (fun _ _ _ h => h) ?_ ?_ a ?_ n (x10, x11, x12, x13, x14) a w hJ (Fr.refl _ _) hs0
    · intro n s w hJ
      exact Eq.mpr (Beq34_0 x7 l8 c9 s.1 s.2.1 s.2.2.1 s.2.2.2.1 s.2.2.2.2 w _ F) (hround n s.1 s.2.1 s.2.2.1 s.2.2.2.1 s.2.2.2.2 w hJ)
    · intro n s E' w' h
      obtain ⟨x10, e1, h⟩ := gI_get h
      obtain ⟨x11, e2, h⟩ := gI_get h
      obtain ⟨x12, e3, h⟩ := gI_get h
      obtain ⟨x13, e8, h⟩ := gB_get h
      obtain ⟨x14, e9, h⟩ := gB_get h
      obtain ⟨m, hm, hJ⟩ := h
      exact ⟨m, (x10, x11, x12, x13, x14), hm, hJ, ⟨.inl ⟨by kernel_rfl, rfl⟩, .inr e1, .inr e2, .inr e3, .inr e8, .inr e9, True.intro⟩⟩
    · intro n s a1 e E' a' w' he hs1 hf0 hf1 hs' h
      cases e with
      | normal => exact (he rfl).elim
      | exit j =>
        dsimp only [Kt34_0] at h
        all_goals exact h.elim
      | ret => exact hq _ _ _ _ hs' hf0 (hr _ _ h)
      | _ => exact h.elim
  · exact h1.elim
/-- slices.pdqsortOrdered[uint32] -/
def S34 (x1 : Option Addr) (l2 : Nat) (c3 : Nat) (x4 : Int) (x5 : Int) (x6 : Int) (w : World) (K : Value → World → Prop) : Prop :=
  LS34_0 x1 l2 c3 x4 x5 x6 true true w K
theorem eq34 (x1 : Option Addr) (l2 : Nat) (c3 : Nat) (x4 : Int) (x5 : Int) (x6 : Int) (w : World) (K : Value → World → Prop) : G Try.prog [] 134 [0, 1, 2, 3, 8, 9, 10, 11, 12, 13, 14, 15, 16, 17, 18, 23, 29, 35, 50, 68, 72, 87, 113] (H34 K) 0 (bodyOf Try.f34) (retG Try.prog Try.f34.results.toList K) (env0 0 [(.slice x1 l2 c3), (.int .i64 x4), (.int .i64 x5), (.int .i64 x6)]) w = S34 x1 l2 c3 x4 x5 x6 w K := by kernel_rfl
theorem ok34 {x1 : Option Addr} {l2 : Nat} {c3 : Nat} {x4 : Int} {x5 : Int} {x6 : Int} {w : World} {K : Value → World → Prop} (h : S34 x1 l2 c3 x4 x5 x6 w K) : callV Try.prog 34 #[(.slice x1 l2 c3), (.int .i64 x4), (.int .i64 x5), (.int .i64 x6)] w K :=
  call_sound (qs := []) (args := [(.slice x1 l2 c3), (.int .i64 x4), (.int .i64 x5), (.int .i64 x6)]) (by kernel_rfl) (Try.func34) (c := bodyOf Try.f34) (by kernel_rfl) (by kernel_rfl) (allL (show loops [] 0 (bodyOf Try.f34) = [(0, .loop (loopOf 0 Try.f34))] by kernel_rfl) ⟨lok34_0 K, True.intro⟩) (Eq.mpr (eq34 x1 l2 c3 x4 x5 x6 w K) h)
def B36_2 (x12 : Option Addr) (l13 : Nat) (c14 : Nat) (x15 : Int) (x16 : Int) (x17 : Int) (x18 : Int) (w : World) (N : Int → World → Prop) (X2 : World → Prop) (K : Value → World → Prop) : Prop :=
  dr w fun w =>
  br (decide ((x18 : Int) > x15))
  (idx x12 l13 1 x18 fun a19 => ∃ n20 : Int, w.cell? a19 = some (.int .u32 n20) ∧ idx x12 l13 1 (IntKind.wrap .i64 (x18 - 1)) fun a21 => ∃ n22 : Int, w.cell? a21 = some (.int .u32 n22) ∧ callV Try.prog 42 #[(.int .u32 n20), (.int .u32 n22)] w fun v23 w => ∃ b24 : Bool, v23 = (.bool b24) ∧ br b24
  (dr w fun w =>
  idx x12 l13 1 (IntKind.wrap .i64 (x18 - 1)) fun a25 => ∃ n26 : Int, w.cell? a25 = some (.int .u32 n26) ∧ idx x12 l13 1 x18 fun a27 => ∃ n28 : Int, w.cell? a27 = some (.int .u32 n28) ∧ idx x12 l13 1 x18 fun a29 => stL w a29 0 [(.int .u32 n26)] fun w => idx x12 l13 1 (IntKind.wrap .i64 (x18 - 1)) fun a30 => stL w a30 0 [(.int .u32 n28)] fun w => N (IntKind.wrap .i64 (x18 - 1)) w)
  (X2 w))
  (X2 w)
/-- The loop in block 2 of function 36: by what holds at its head. -/
def LS36_2 (x12 : Option Addr) (l13 : Nat) (c14 : Nat) (x15 : Int) (x16 : Int) (x17 : Int) (x18 : Int) (w : World) (X2 : World → Prop) (K : Value → World → Prop) : Prop :=
  ∃ J : Nat → Int → World → Prop, (∃ n, J n x18 w) ∧ ∀ n x18 w, J n x18 w → B36_2 x12 l13 c14 x15 x16 x17 x18 w (fun x18 w => ∃ m, m < n ∧ J m x18 w) X2 K
abbrev env36_2 (x12 : Option Addr) (l13 : Nat) (c14 : Nat) (x15 : Int) (x16 : Int) (x17 : Int) (x18 : Int) : Env := [(0, (.slice x12 l13 c14)), (1, (.int .i64 x15)), (2, (.int .i64 x16)), (6, (.int .i64 x17)), (7, (.int .i64 x18))]
def Kt36_2 (N : Int → World → Prop) (X2 : World → Prop) (K : Value → World → Prop) : Kont := fun e E w => match e with
  | .normal => gI .i64 E 7 fun x18 => N x18 w
  | .exit j => match Nat.beq j 2 with | true => (X2 w) | false => (False)
  | .ret => retG Try.prog Try.f36.results.toList K .ret E w
  | _ => False
def HL36_2 (F : Value → World → Prop) (K : Kont) (E : Env) (w : World) : Prop := match keep [0, 1, 2, 6, 7] E with
  | [(0, (.slice x12 l13 c14)), (1, (.int .i64 x15)), (2, (.int .i64 x16)), (6, (.int .i64 x17)), (7, (.int .i64 x18))] => LS36_2 x12 l13 c14 x15 x16 x17 x18 w (fun w => K (.exit 2) [(0, (.slice x12 l13 c14)), (1, (.int .i64 x15)), (2, (.int .i64 x16)), (6, (.int .i64 x17))] w) F
  | _ => False
def B36_0 (x6 : Option Addr) (l7 : Nat) (c8 : Nat) (x9 : Int) (x10 : Int) (x11 : Int) (w : World) (N : Int → World → Prop) (X0 : World → Prop) (K : Value → World → Prop) : Prop :=
  br (decide ((x11 : Int) < x10))
  (LS36_2 x6 l7 c8 x9 x10 x11 x11 w
  (fun w => N (IntKind.wrap .i64 (x11 + 1)) w) K)
  (X0 w)
/-- The loop in block 0 of function 36: by what holds at its head. -/
def LS36_0 (x6 : Option Addr) (l7 : Nat) (c8 : Nat) (x9 : Int) (x10 : Int) (x11 : Int) (w : World) (X0 : World → Prop) (K : Value → World → Prop) : Prop :=
  ∃ J : Nat → Int → World → Prop, (∃ n, J n x11 w) ∧ ∀ n x11 w, J n x11 w → B36_0 x6 l7 c8 x9 x10 x11 w (fun x11 w => ∃ m, m < n ∧ J m x11 w) X0 K
abbrev env36_0 (x6 : Option Addr) (l7 : Nat) (c8 : Nat) (x9 : Int) (x10 : Int) (x11 : Int) : Env := [(0, (.slice x6 l7 c8)), (1, (.int .i64 x9)), (2, (.int .i64 x10)), (6, (.int .i64 x11))]
def Kt36_0 (N : Int → World → Prop) (X0 : World → Prop) (K : Value → World → Prop) : Kont := fun e E w => match e with
  | .normal => gI .i64 E 6 fun x11 => N x11 w
  | .exit j => match Nat.beq j 0 with | true => (X0 w) | false => (False)
  | .ret => retG Try.prog Try.f36.results.toList K .ret E w
  | _ => False
def HL36_0 (F : Value → World → Prop) (K : Kont) (E : Env) (w : World) : Prop := match keep [0, 1, 2, 6] E with
  | [(0, (.slice x6 l7 c8)), (1, (.int .i64 x9)), (2, (.int .i64 x10)), (6, (.int .i64 x11))] => LS36_0 x6 l7 c8 x9 x10 x11 w (fun w => K (.exit 0) [] w) F
  | _ => False
def H36 (F : Value → World → Prop) : Nat → Kont → Env → World → Prop := fun b K E w => match Nat.beq b 2 with | true => HL36_2 F K E w | false => (match Nat.beq b 0 with | true => HL36_0 F K E w | false => (False))
theorem Beq36_2 (x12 : Option Addr) (l13 : Nat) (c14 : Nat) (x15 : Int) (x16 : Int) (x17 : Int) (x18 : Int) (w : World) (N : Int → World → Prop) (X2 : World → Prop) (K : Value → World → Prop) :
    G Try.prog [] 49 [0, 1, 2, 6, 7, 12, 30] (H36 K) 2 (loopOf 2 Try.f36) (Kt36_2 N X2 K) (env36_2 x12 l13 c14 x15 x16 x17 x18) w = B36_2 x12 l13 c14 x15 x16 x17 x18 w N X2 K := by kernel_rfl
theorem lok36_2 (F : Value → World → Prop) : LoopOk Try.prog 49 Try.f36.results.toList F (H36 F) 2 (.loop (loopOf 2 Try.f36)) := by
  intro K E a w Q hr h hs hq
  have hs0 := hs.keep [0, 1, 2, 6, 7]
  have h1 : HL36_2 F K E w := h
  unfold HL36_2 at h1
  split at h1
  · rename_i x12 l13 c14 x15 x16 x17 x18 heq
    obtain ⟨J, ⟨n, hJ⟩, hround⟩ := h1
    rw [heq] at hs0
    refine loop_typed (qs := []) (L := [0, 1, 2, 6, 7, 12, 30]) (rs := Try.f36.results.toList) (F := F) (H := H36 F) (b := 2) (by kernel_rfl) (allL (show loops [] 2 (loopOf 2 Try.f36) = [] by kernel_rfl) True.intro) (σ := Int) (fun s => env36_2 x12 l13 c14 x15 x16 x17 s) (fun n s w => J n s w)
      (fun n => Kt36_2 (fun x18 w => ∃ m, m < n ∧ J m x18 w) (fun w => K (.exit 2) [(0, (.slice x12 l13 c14)), (1, (.int .i64 x15)), (2, (.int .i64 x16)), (6, (.int .i64 x17))] w) F) (fun _ _ _ h => h) ?_ ?_ a ?_ n x18 a w hJ (Fr.refl _ _) hs0
    · intro n s w hJ
      exact Eq.mpr (Beq36_2 x12 l13 c14 x15 x16 x17 s w _ _ F) (hround n s w hJ)
    · intro n s E' w' h
      obtain ⟨x18, e7, h⟩ := gI_get h
      obtain ⟨m, hm, hJ⟩ := h
      exact ⟨m, x18, hm, hJ, ⟨.inl ⟨by kernel_rfl, rfl⟩, .inl ⟨by kernel_rfl, rfl⟩, .inl ⟨by kernel_rfl, rfl⟩, .inl ⟨by kernel_rfl, rfl⟩, .inr e7, True.intro⟩⟩
    · intro n s a1 e E' a' w' he hs1 hf0 hf1 hs' h
      cases e with
      | normal => exact (he rfl).elim
      | exit j =>
        dsimp only [Kt36_2] at h
        cases hb : Nat.beq j 2
        case' true =>
          rw [hb] at h
          have hj := Nat.eq_of_beq_eq_true hb
          subst hj
          dsimp only at h
          exact hq _ _ _ _ (hs1.next hf1 hs' (E2 := [(0, (.slice x12 l13 c14)), (1, (.int .i64 x15)), (2, (.int .i64 x16)), (6, (.int .i64 x17))]) ⟨.inl ⟨by kernel_rfl, rfl⟩, .inl ⟨by kernel_rfl, rfl⟩, .inl ⟨by kernel_rfl, rfl⟩, .inl ⟨by kernel_rfl, rfl⟩, True.intro⟩) hf0 h
        rw [hb] at h
        dsimp only at h
        all_goals exact h.elim
      | ret => exact hq _ _ _ _ hs' hf0 (hr _ _ h)
      | _ => exact h.elim
  · exact h1.elim
theorem Beq36_0 (x6 : Option Addr) (l7 : Nat) (c8 : Nat) (x9 : Int) (x10 : Int) (x11 : Int) (w : World) (N : Int → World → Prop) (X0 : World → Prop) (K : Value → World → Prop) :
    G Try.prog [] 49 [0, 1, 2, 6, 7, 12, 30] (H36 K) 0 (loopOf 0 Try.f36) (Kt36_0 N X0 K) (env36_0 x6 l7 c8 x9 x10 x11) w = B36_0 x6 l7 c8 x9 x10 x11 w N X0 K := by kernel_rfl
theorem lok36_0 (F : Value → World → Prop) : LoopOk Try.prog 49 Try.f36.results.toList F (H36 F) 0 (.loop (loopOf 0 Try.f36)) := by
  intro K E a w Q hr h hs hq
  have hs0 := hs.keep [0, 1, 2, 6]
  have h1 : HL36_0 F K E w := h
  unfold HL36_0 at h1
  split at h1
  · rename_i x6 l7 c8 x9 x10 x11 heq
    obtain ⟨J, ⟨n, hJ⟩, hround⟩ := h1
    rw [heq] at hs0
    refine loop_typed (qs := []) (L := [0, 1, 2, 6, 7, 12, 30]) (rs := Try.f36.results.toList) (F := F) (H := H36 F) (b := 0) (by kernel_rfl) (allL (show loops [] 0 (loopOf 0 Try.f36) = [(2, .loop (loopOf 2 Try.f36))] by kernel_rfl) ⟨lok36_2 F, True.intro⟩) (σ := Int) (fun s => env36_0 x6 l7 c8 x9 x10 s) (fun n s w => J n s w)
      (fun n => Kt36_0 (fun x11 w => ∃ m, m < n ∧ J m x11 w) (fun w => K (.exit 0) [] w) F) (fun _ _ _ h => h) ?_ ?_ a ?_ n x11 a w hJ (Fr.refl _ _) hs0
    · intro n s w hJ
      exact Eq.mpr (Beq36_0 x6 l7 c8 x9 x10 s w _ _ F) (hround n s w hJ)
    · intro n s E' w' h
      obtain ⟨x11, e6, h⟩ := gI_get h
      obtain ⟨m, hm, hJ⟩ := h
      exact ⟨m, x11, hm, hJ, ⟨.inl ⟨by kernel_rfl, rfl⟩, .inl ⟨by kernel_rfl, rfl⟩, .inl ⟨by kernel_rfl, rfl⟩, .inr e6, True.intro⟩⟩
    · intro n s a1 e E' a' w' he hs1 hf0 hf1 hs' h
      cases e with
      | normal => exact (he rfl).elim
      | exit j =>
        dsimp only [Kt36_0] at h
        cases hb : Nat.beq j 0
        case' true =>
          rw [hb] at h
          have hj := Nat.eq_of_beq_eq_true hb
          subst hj
          dsimp only at h
          exact hq _ _ _ _ (hs1.next hf1 hs' (E2 := []) True.intro) hf0 h
        rw [hb] at h
        dsimp only at h
        all_goals exact h.elim
      | ret => exact hq _ _ _ _ hs' hf0 (hr _ _ h)
      | _ => exact h.elim
  · exact h1.elim
/-- slices.insertionSortOrdered[uint32] -/
def S36 (x1 : Option Addr) (l2 : Nat) (c3 : Nat) (x4 : Int) (x5 : Int) (w : World) (K : Value → World → Prop) : Prop :=
  LS36_0 x1 l2 c3 x4 x5 (IntKind.wrap .i64 (x4 + 1)) w
  (fun w => K (.tuple #[]) w) K
theorem eq36 (x1 : Option Addr) (l2 : Nat) (c3 : Nat) (x4 : Int) (x5 : Int) (w : World) (K : Value → World → Prop) : G Try.prog [] 49 [0, 1, 2, 6, 7, 12, 30] (H36 K) 0 (bodyOf Try.f36) (retG Try.prog Try.f36.results.toList K) (env0 0 [(.slice x1 l2 c3), (.int .i64 x4), (.int .i64 x5)]) w = S36 x1 l2 c3 x4 x5 w K := by kernel_rfl
theorem ok36 {x1 : Option Addr} {l2 : Nat} {c3 : Nat} {x4 : Int} {x5 : Int} {w : World} {K : Value → World → Prop} (h : S36 x1 l2 c3 x4 x5 w K) : callV Try.prog 36 #[(.slice x1 l2 c3), (.int .i64 x4), (.int .i64 x5)] w K :=
  call_sound (qs := []) (args := [(.slice x1 l2 c3), (.int .i64 x4), (.int .i64 x5)]) (by kernel_rfl) (Try.func36) (c := bodyOf Try.f36) (by kernel_rfl) (by kernel_rfl) (allL (show loops [] 0 (bodyOf Try.f36) = [(0, .loop (loopOf 0 Try.f36))] by kernel_rfl) ⟨lok36_0 K, True.intro⟩) (Eq.mpr (eq36 x1 l2 c3 x4 x5 w K) h)
def H42 (_F : Value → World → Prop) : Nat → Kont → Env → World → Prop := fun _ _ _ _ => False
/-- cmp.Less[uint32] -/
def S42 (x1 : Int) (x2 : Int) (w : World) (K : Value → World → Prop) : Prop :=
  callV Try.prog 52 #[(.int .u32 x1)] w fun v3 w => ∃ b4 : Bool, v3 = (.bool b4) ∧ br b4
  (callV Try.prog 52 #[(.int .u32 x2)] w fun v5 w => ∃ b6 : Bool, v5 = (.bool b6) ∧ br (!b6)
  (K (.bool true) w)
  (K (.bool (decide ((x1 : Int) < x2))) w))
  (K (.bool (decide ((x1 : Int) < x2))) w)
theorem eq42 (x1 : Int) (x2 : Int) (w : World) (K : Value → World → Prop) : G Try.prog [] 17 [0, 1, 4] (H42 K) 0 (bodyOf Try.f42) (retG Try.prog Try.f42.results.toList K) (env0 0 [(.int .u32 x1), (.int .u32 x2)]) w = S42 x1 x2 w K := by kernel_rfl
theorem ok42 {x1 : Int} {x2 : Int} {w : World} {K : Value → World → Prop} (h : S42 x1 x2 w K) : callV Try.prog 42 #[(.int .u32 x1), (.int .u32 x2)] w K :=
  call_sound (qs := []) (args := [(.int .u32 x1), (.int .u32 x2)]) (by kernel_rfl) (Try.func42) (c := bodyOf Try.f42) (by kernel_rfl) (by kernel_rfl) (allL (show loops [] 0 (bodyOf Try.f42) = [] by kernel_rfl) True.intro) (Eq.mpr (eq42 x1 x2 w K) h)
def H52 (_F : Value → World → Prop) : Nat → Kont → Env → World → Prop := fun _ _ _ _ => False
/-- cmp.isNaN[uint32] -/
def S52 (x1 : Int) (w : World) (K : Value → World → Prop) : Prop :=
  K (.bool ((x1 : Int) != x1)) w
theorem eq52 (x1 : Int) (w : World) (K : Value → World → Prop) : G Try.prog [] 6 [0, 2] (H52 K) 0 (bodyOf Try.f52) (retG Try.prog Try.f52.results.toList K) (env0 0 [(.int .u32 x1)]) w = S52 x1 w K := by kernel_rfl
theorem ok52 {x1 : Int} {w : World} {K : Value → World → Prop} (h : S52 x1 w K) : callV Try.prog 52 #[(.int .u32 x1)] w K :=
  call_sound (qs := []) (args := [(.int .u32 x1)]) (by kernel_rfl) (Try.func52) (c := bodyOf Try.f52) (by kernel_rfl) (by kernel_rfl) (allL (show loops [] 0 (bodyOf Try.f52) = [] by kernel_rfl) True.intro) (Eq.mpr (eq52 x1 w K) h)
def H35 (_F : Value → World → Prop) : Nat → Kont → Env → World → Prop := fun _ _ _ _ => False
/-- math/bits.Len -/
def S35 (x1 : Int) (w : World) (K : Value → World → Prop) : Prop :=
  callV Try.prog 46 #[(.int .u64 x1)] w fun v2 w => ∃ n3 : Int, v2 = (.int .i64 n3) ∧ K (.int .i64 n3) w
theorem eq35 (x1 : Int) (w : World) (K : Value → World → Prop) : G Try.prog [] 8 [0, 2] (H35 K) 0 (bodyOf Try.f35) (retG Try.prog Try.f35.results.toList K) (env0 0 [(.int .u64 x1)]) w = S35 x1 w K := by kernel_rfl
theorem ok35 {x1 : Int} {w : World} {K : Value → World → Prop} (h : S35 x1 w K) : callV Try.prog 35 #[(.int .u64 x1)] w K :=
  call_sound (qs := []) (args := [(.int .u64 x1)]) (by kernel_rfl) (Try.func35) (c := bodyOf Try.f35) (by kernel_rfl) (by kernel_rfl) (allL (show loops [] 0 (bodyOf Try.f35) = [] by kernel_rfl) True.intro) (Eq.mpr (eq35 x1 w K) h)
def H46 (_F : Value → World → Prop) : Nat → Kont → Env → World → Prop := fun _ _ _ _ => False
/-- math/bits.Len64 -/
def S46 (x1 : Int) (w : World) (K : Value → World → Prop) : Prop :=
  jn (fun (x2 : Int) (x3 : Int) (w : World) =>
  jn (fun (x5 : Int) (x6 : Int) (w : World) =>
  jn (fun (x8 : Int) (x9 : Int) (w : World) =>
  idxStr ⟨#[0, 1, 2, 2, 3, 3, 3, 3, 4, 4, 4, 4, 4, 4, 4, 4, 5, 5, 5, 5, 5, 5, 5, 5, 5, 5, 5, 5, 5, 5, 5, 5, 6, 6, 6, 6, 6, 6, 6, 6, 6, 6, 6, 6, 6, 6, 6, 6, 6, 6, 6, 6, 6, 6, 6, 6, 6, 6, 6, 6, 6, 6, 6, 6, 7, 7, 7, 7, 7, 7, 7, 7, 7, 7, 7, 7, 7, 7, 7, 7, 7, 7, 7, 7, 7, 7, 7, 7, 7, 7, 7, 7, 7, 7, 7, 7, 7, 7, 7, 7, 7, 7, 7, 7, 7, 7, 7, 7, 7, 7, 7, 7, 7, 7, 7, 7, 7, 7, 7, 7, 7, 7, 7, 7, 7, 7, 7, 7, 8, 8, 8, 8, 8, 8, 8, 8, 8, 8, 8, 8, 8, 8, 8, 8, 8, 8, 8, 8, 8, 8, 8, 8, 8, 8, 8, 8, 8, 8, 8, 8, 8, 8, 8, 8, 8, 8, 8, 8, 8, 8, 8, 8, 8, 8, 8, 8, 8, 8, 8, 8, 8, 8, 8, 8, 8, 8, 8, 8, 8, 8, 8, 8, 8, 8, 8, 8, 8, 8, 8, 8, 8, 8, 8, 8, 8, 8, 8, 8, 8, 8, 8, 8, 8, 8, 8, 8, 8, 8, 8, 8, 8, 8, 8, 8, 8, 8, 8, 8, 8, 8, 8, 8, 8, 8, 8, 8, 8, 8, 8, 8, 8, 8, 8, 8, 8, 8, 8, 8, 8, 8, 8, 8, 8, 8, 8, 8]⟩ (IntKind.wrap .u8 x8) fun n11 => K (.int .i64 (IntKind.wrap .i64 (x9 + (IntKind.wrap .i64 n11)))) w) fun J10 =>
  br (decide ((x5 : Int) ≥ 256))
  (J10 (Int.fdiv x5 (2 ^ 8)) (IntKind.wrap .i64 (x6 + 8)) w)
  (J10 x5 x6 w)) fun J7 =>
  br (decide ((x2 : Int) ≥ 65536))
  (J7 (Int.fdiv x2 (2 ^ 16)) (IntKind.wrap .i64 (x3 + 16)) w)
  (J7 x2 x3 w)) fun J4 =>
  br (decide ((x1 : Int) ≥ 4294967296))
  (J4 (Int.fdiv x1 (2 ^ 32)) 32 w)
  (J4 x1 0 w)
theorem eq46 (x1 : Int) (w : World) (K : Value → World → Prop) : G Try.prog [] 25 [0, 2, 4, 8, 14] (H46 K) 0 (bodyOf Try.f46) (retG Try.prog Try.f46.results.toList K) (env0 0 [(.int .u64 x1)]) w = S46 x1 w K := by kernel_rfl
theorem ok46 {x1 : Int} {w : World} {K : Value → World → Prop} (h : S46 x1 w K) : callV Try.prog 46 #[(.int .u64 x1)] w K :=
  call_sound (qs := []) (args := [(.int .u64 x1)]) (by kernel_rfl) (Try.func46) (c := bodyOf Try.f46) (by kernel_rfl) (by kernel_rfl) (allL (show loops [] 0 (bodyOf Try.f46) = [] by kernel_rfl) True.intro) (Eq.mpr (eq46 x1 w K) h)
end Go.Proofs.Ytcemgjikmdbjgaa
