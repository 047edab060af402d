/- The formulas of the functions 19, 15, 16, 14, 7, 12, 17, 18, 20, 10 of this seat, written by a program of my own (dec.py), each with its proof. -/
import Derived.Test.YtiodaglceoodpaaProg
import Derived.Test.YtiodaglceoodpaaSh
import Derived.KernelRfl
namespace Go.Proofs.Ytiodaglceoodpaa
open Go Go.Sh
set_option linter.unusedVariables false
set_option maxRecDepth 100000
def H19 (_F : Value → World → Prop) : Nat → Kont → Env → World → Prop := fun _ _ _ _ => False
/-- (*jackstay/fifo.Fifo).none -/
def S19 (x1 : Option Addr) (w : World) (K : Value → World → Prop) : Prop :=
  br x1.isNone
  (K (.bool true) w)
  (need x1 fun a2 => ∃ n3 : Int, w.cell? (a2.add 2) = some (.int .i64 n3) ∧ K (.bool ((n3 : Int) == 0)) w)
theorem eq19 (x1 : Option Addr) (w : World) (K : Value → World → Prop) : G Try.prog [15] 12 [0, 2] (H19 K) 0 (bodyOf Try.f19) (retG Try.prog Try.f19.results.toList K) (env0 0 [(.pointer x1)]) w = S19 x1 w K := by kernel_rfl
theorem ok19 {x1 : Option Addr} {w : World} {K : Value → World → Prop} (h : S19 x1 w K) : callV Try.prog 19 #[(.pointer x1)] w K :=
  call_sound (qs := [15]) (args := [(.pointer x1)]) (by kernel_rfl) (Try.func19) (c := bodyOf Try.f19) (by kernel_rfl) (by kernel_rfl) (allL (show loops 0 (bodyOf Try.f19) = [] by kernel_rfl) True.intro) (Eq.mpr (eq19 x1 w K) h)
def H15 (_F : Value → World → Prop) : Nat → Kont → Env → World → Prop := fun _ _ _ _ => False
/-- (*jackstay/fifo.Fifo).Len -/
def S15 (x1 : Option Addr) (w : World) (K : Value → World → Prop) : Prop :=
  callV Try.prog 19 #[(.pointer x1)] w fun v2 w => ∃ b3 : Bool, v2 = (.bool b3) ∧ br b3
  (K (.int .i64 0) w)
  (dr w fun w =>
  need x1 fun a4 => ∃ (p5 : Option Addr) (l6 c7 : Nat), w.cell? a4 = some (.slice p5 l6 c7) ∧ need x1 fun a8 => ∃ n9 : Int, w.cell? (a8.add 1) = some (.int .i64 n9) ∧ K (.int .i64 (IntKind.wrap .i64 ((l6 : Int) - n9))) w)
theorem eq15 (x1 : Option Addr) (w : World) (K : Value → World → Prop) : G Try.prog [15] 15 [0, 2, 4] (H15 K) 0 (bodyOf Try.f15) (retG Try.prog Try.f15.results.toList K) (env0 0 [(.pointer x1)]) w = S15 x1 w K := by kernel_rfl
theorem ok15 {x1 : Option Addr} {w : World} {K : Value → World → Prop} (h : S15 x1 w K) : callV Try.prog 15 #[(.pointer x1)] w K :=
  call_sound (qs := [15]) (args := [(.pointer x1)]) (by kernel_rfl) (Try.func15) (c := bodyOf Try.f15) (by kernel_rfl) (by kernel_rfl) (allL (show loops 0 (bodyOf Try.f15) = [] by kernel_rfl) True.intro) (Eq.mpr (eq15 x1 w K) h)
def H16 (_F : Value → World → Prop) : Nat → Kont → Env → World → Prop := fun _ _ _ _ => False
/-- (*jackstay/fifo.Fifo).Overrun -/
def S16 (x1 : Option Addr) (w : World) (K : Value → World → Prop) : Prop :=
  callV Try.prog 19 #[(.pointer x1)] w fun v2 w => ∃ b3 : Bool, v2 = (.bool b3) ∧ br (!b3)
  (need x1 fun a4 => ∃ b5 : Bool, w.cell? (a4.add 3) = some (.bool b5) ∧ K (.bool b5) w)
  (K (.bool false) w)
theorem eq16 (x1 : Option Addr) (w : World) (K : Value → World → Prop) : G Try.prog [15] 12 [0, 2] (H16 K) 0 (bodyOf Try.f16) (retG Try.prog Try.f16.results.toList K) (env0 0 [(.pointer x1)]) w = S16 x1 w K := by kernel_rfl
theorem ok16 {x1 : Option Addr} {w : World} {K : Value → World → Prop} (h : S16 x1 w K) : callV Try.prog 16 #[(.pointer x1)] w K :=
  call_sound (qs := [15]) (args := [(.pointer x1)]) (by kernel_rfl) (Try.func16) (c := bodyOf Try.f16) (by kernel_rfl) (by kernel_rfl) (allL (show loops 0 (bodyOf Try.f16) = [] by kernel_rfl) True.intro) (Eq.mpr (eq16 x1 w K) h)
def H14 (_F : Value → World → Prop) : Nat → Kont → Env → World → Prop := fun _ _ _ _ => False
/-- (*jackstay/fifo.Fifo).Clear -/
def S14 (x1 : Option Addr) (w : World) (K : Value → World → Prop) : Prop :=
  callV Try.prog 16 #[(.pointer x1)] w fun v2 w => ∃ b3 : Bool, v2 = (.bool b3) ∧ br b3
  (need x1 fun a4 => stL w (a4.add 3) 0 [(.bool false)] fun w => K (.bool b3) w)
  (K (.bool b3) w)
theorem eq14 (x1 : Option Addr) (w : World) (K : Value → World → Prop) : G Try.prog [15] 11 [0, 2, 3, 6] (H14 K) 0 (bodyOf Try.f14) (retG Try.prog Try.f14.results.toList K) (env0 0 [(.pointer x1)]) w = S14 x1 w K := by kernel_rfl
theorem ok14 {x1 : Option Addr} {w : World} {K : Value → World → Prop} (h : S14 x1 w K) : callV Try.prog 14 #[(.pointer x1)] w K :=
  call_sound (qs := [15]) (args := [(.pointer x1)]) (by kernel_rfl) (Try.func14) (c := bodyOf Try.f14) (by kernel_rfl) (by kernel_rfl) (allL (show loops 0 (bodyOf Try.f14) = [] by kernel_rfl) True.intro) (Eq.mpr (eq14 x1 w K) h)
def H7 (_F : Value → World → Prop) : Nat → Kont → Env → World → Prop := fun _ _ _ _ => False
/-- jackstay/fifo.New -/
def S7 (x1 : Int) (w : World) (K : Value → World → Prop) : Prop :=
  br (decide ((x1 : Int) < 1))
  (K (.tuple #[(.pointer none), (.int .i64 2)]) w)
  (br (decide ((x1 : Int) > 256))
  (K (.tuple #[(.pointer none), (.int .i64 2)]) w)
  (runV Try.prog (Instr.makeSlice 28 (.int .i64 0) (.int .i64 (IntKind.wrap .i64 (2 * x1)))) w fun v2 w => ∃ (p3 : Option Addr) (l4 c5 : Nat), v2 = (.slice p3 l4 c5) ∧ al w (.cells #[(.slice p3 l4 c5), (.int .i64 0), (.int .i64 x1), (.bool false)] 56) fun r6 w => K (.tuple #[(.pointer (some ⟨r6, 0, none⟩)), (.int .i64 0)]) w))
theorem eq7 (x1 : Int) (w : World) (K : Value → World → Prop) : G Try.prog [15] 16 [0, 2, 3, 9] (H7 K) 0 (bodyOf Try.f7) (retG Try.prog Try.f7.results.toList K) (env0 0 [(.int .i64 x1)]) w = S7 x1 w K := by kernel_rfl
theorem ok7 {x1 : Int} {w : World} {K : Value → World → Prop} (h : S7 x1 w K) : callV Try.prog 7 #[(.int .i64 x1)] w K :=
  call_sound (qs := [15]) (args := [(.int .i64 x1)]) (by kernel_rfl) (Try.func7) (c := bodyOf Try.f7) (by kernel_rfl) (by kernel_rfl) (allL (show loops 0 (bodyOf Try.f7) = [] by kernel_rfl) True.intro) (Eq.mpr (eq7 x1 w K) h)
def H12 (_F : Value → World → Prop) : Nat → Kont → Env → World → Prop := fun _ _ _ _ => False
/-- (*jackstay/fifo.Fifo).Pop -/
def S12 (x1 : Option Addr) (w : World) (K : Value → World → Prop) : Prop :=
  al w (.cells #[(.int .u32 0), (.bool false), (.bool false), (.int .u8 0), (.slice none 0 0), (.int .i64 0)] 36) fun r2 w => callQ Try.prog 15 #[(.pointer x1)] w fun v3 w => ∃ n4 : Int, v3 = (.int .i64 n4) ∧ br ((n4 : Int) == 0)
  (stL w ⟨r2, 0, none⟩ 0 [(.int .u32 0), (.bool false), (.bool false), (.int .u8 0), (.slice none 0 0), (.int .i64 0)] fun w => ∃ n5 : Int, w.cell? ⟨r2, 0, none⟩ = some (.int .u32 n5) ∧ ∃ b6 : Bool, w.cell? ⟨r2, 1, none⟩ = some (.bool b6) ∧ ∃ b7 : Bool, w.cell? ⟨r2, 2, none⟩ = some (.bool b7) ∧ ∃ n8 : Int, w.cell? ⟨r2, 3, none⟩ = some (.int .u8 n8) ∧ ∃ (p9 : Option Addr) (l10 c11 : Nat), w.cell? ⟨r2, 4, none⟩ = some (.slice p9 l10 c11) ∧ ∃ n12 : Int, w.cell? ⟨r2, 5, none⟩ = some (.int .i64 n12) ∧ K (.tuple #[(.agg #[(.int .u32 n5), (.bool b6), (.bool b7), (.int .u8 n8), (.slice p9 l10 c11), (.int .i64 n12)]), (.bool false)]) w)
  (dr w fun w =>
  need x1 fun a13 => ∃ (p14 : Option Addr) (l15 c16 : Nat), w.cell? a13 = some (.slice p14 l15 c16) ∧ need x1 fun a17 => ∃ n18 : Int, w.cell? (a17.add 1) = some (.int .i64 n18) ∧ idx p14 l15 6 n18 fun a19 => ∃ n20 : Int, w.cell? a19 = some (.int .u32 n20) ∧ ∃ b21 : Bool, w.cell? (a19.add 1) = some (.bool b21) ∧ ∃ b22 : Bool, w.cell? (a19.add 2) = some (.bool b22) ∧ ∃ n23 : Int, w.cell? (a19.add 3) = some (.int .u8 n23) ∧ ∃ (p24 : Option Addr) (l25 c26 : Nat), w.cell? (a19.add 4) = some (.slice p24 l25 c26) ∧ ∃ n27 : Int, w.cell? (a19.add 5) = some (.int .i64 n27) ∧ al w (.cells #[(.int .u32 0), (.bool false), (.bool false), (.int .u8 0), (.slice none 0 0), (.int .i64 0)] 36) fun r28 w => stL w ⟨r28, 0, none⟩ 0 [(.int .u32 n20), (.bool b21), (.bool b22), (.int .u8 n23), (.slice p24 l25 c26), (.int .i64 n27)] fun w => dr w fun w =>
  need x1 fun a29 => ∃ (p30 : Option Addr) (l31 c32 : Nat), w.cell? a29 = some (.slice p30 l31 c32) ∧ need x1 fun a33 => ∃ n34 : Int, w.cell? (a33.add 1) = some (.int .i64 n34) ∧ idx p30 l31 6 n34 fun a35 => stL w a35 0 [(.int .u32 0), (.bool false), (.bool false), (.int .u8 0), (.slice none 0 0), (.int .i64 0)] fun w => need x1 fun a36 => ∃ n37 : Int, w.cell? (a36.add 1) = some (.int .i64 n37) ∧ need x1 fun a38 => stL w (a38.add 1) 0 [(.int .i64 (IntKind.wrap .i64 (n37 + 1)))] fun w => ∃ n39 : Int, w.cell? ⟨r28, 0, none⟩ = some (.int .u32 n39) ∧ ∃ b40 : Bool, w.cell? ⟨r28, 1, none⟩ = some (.bool b40) ∧ ∃ b41 : Bool, w.cell? ⟨r28, 2, none⟩ = some (.bool b41) ∧ ∃ n42 : Int, w.cell? ⟨r28, 3, none⟩ = some (.int .u8 n42) ∧ ∃ (p43 : Option Addr) (l44 c45 : Nat), w.cell? ⟨r28, 4, none⟩ = some (.slice p43 l44 c45) ∧ ∃ n46 : Int, w.cell? ⟨r28, 5, none⟩ = some (.int .i64 n46) ∧ stL w ⟨r2, 0, none⟩ 0 [(.int .u32 n39), (.bool b40), (.bool b41), (.int .u8 n42), (.slice p43 l44 c45), (.int .i64 n46)] fun w => ∃ n47 : Int, w.cell? ⟨r2, 0, none⟩ = some (.int .u32 n47) ∧ ∃ b48 : Bool, w.cell? ⟨r2, 1, none⟩ = some (.bool b48) ∧ ∃ b49 : Bool, w.cell? ⟨r2, 2, none⟩ = some (.bool b49) ∧ ∃ n50 : Int, w.cell? ⟨r2, 3, none⟩ = some (.int .u8 n50) ∧ ∃ (p51 : Option Addr) (l52 c53 : Nat), w.cell? ⟨r2, 4, none⟩ = some (.slice p51 l52 c53) ∧ ∃ n54 : Int, w.cell? ⟨r2, 5, none⟩ = some (.int .i64 n54) ∧ K (.tuple #[(.agg #[(.int .u32 n47), (.bool b48), (.bool b49), (.int .u8 n50), (.slice p51 l52 c53), (.int .i64 n54)]), (.bool true)]) w)
theorem eq12 (x1 : Option Addr) (w : World) (K : Value → World → Prop) : G Try.prog [15] 37 [0, 2, 3, 4, 7] (H12 K) 0 (bodyOf Try.f12) (retG Try.prog Try.f12.results.toList K) (env0 0 [(.pointer x1)]) w = S12 x1 w K := by kernel_rfl
theorem ok12 {x1 : Option Addr} {w : World} {K : Value → World → Prop} (h : S12 x1 w K) : callV Try.prog 12 #[(.pointer x1)] w K :=
  call_sound (qs := [15]) (args := [(.pointer x1)]) (by kernel_rfl) (Try.func12) (c := bodyOf Try.f12) (by kernel_rfl) (by kernel_rfl) (allL (show loops 0 (bodyOf Try.f12) = [] by kernel_rfl) True.intro) (Eq.mpr (eq12 x1 w K) h)
def H17 (_F : Value → World → Prop) : Nat → Kont → Env → World → Prop := fun _ _ _ _ => False
/-- jackstay/jackstaylaw12.rx -/
def S17 (x1 : Int) (w : World) (K : Value → World → Prop) : Prop :=
  al w (.cells #[(.int .u32 0), (.bool false), (.bool false), (.int .u8 0), (.slice none 0 0), (.int .i64 0)] 36) fun r2 w => stL w ⟨r2, 0, none⟩ 0 [(.int .u32 (IntKind.wrap .u32 x1)), (.bool false), (.bool false), (.int .u8 0), (.slice none 0 0), (.int .i64 x1)] fun w => ∃ n3 : Int, w.cell? ⟨r2, 0, none⟩ = some (.int .u32 n3) ∧ ∃ b4 : Bool, w.cell? ⟨r2, 1, none⟩ = some (.bool b4) ∧ ∃ b5 : Bool, w.cell? ⟨r2, 2, none⟩ = some (.bool b5) ∧ ∃ n6 : Int, w.cell? ⟨r2, 3, none⟩ = some (.int .u8 n6) ∧ ∃ (p7 : Option Addr) (l8 c9 : Nat), w.cell? ⟨r2, 4, none⟩ = some (.slice p7 l8 c9) ∧ ∃ n10 : Int, w.cell? ⟨r2, 5, none⟩ = some (.int .i64 n10) ∧ K (.agg #[(.int .u32 n3), (.bool b4), (.bool b5), (.int .u8 n6), (.slice p7 l8 c9), (.int .i64 n10)]) w
theorem eq17 (x1 : Int) (w : World) (K : Value → World → Prop) : G Try.prog [15] 8 [0, 2] (H17 K) 0 (bodyOf Try.f17) (retG Try.prog Try.f17.results.toList K) (env0 0 [(.int .i64 x1)]) w = S17 x1 w K := by kernel_rfl
theorem ok17 {x1 : Int} {w : World} {K : Value → World → Prop} (h : S17 x1 w K) : callV Try.prog 17 #[(.int .i64 x1)] w K :=
  call_sound (qs := [15]) (args := [(.int .i64 x1)]) (by kernel_rfl) (Try.func17) (c := bodyOf Try.f17) (by kernel_rfl) (by kernel_rfl) (allL (show loops 0 (bodyOf Try.f17) = [] by kernel_rfl) True.intro) (Eq.mpr (eq17 x1 w K) h)
def H18 (_F : Value → World → Prop) : Nat → Kont → Env → World → Prop := fun _ _ _ _ => False
/-- jackstay/jackstaylaw12.pops -/
def S18 (x1 : Option Addr) (x2 : Int) (w : World) (K : Value → World → Prop) : Prop :=
  callV Try.prog 12 #[(.pointer x1)] w fun v3 w => ∃ n4 : Int, ∃ b5 : Bool, ∃ b6 : Bool, ∃ n7 : Int, ∃ (p8 : Option Addr) (l9 c10 : Nat), ∃ n11 : Int, ∃ b12 : Bool, v3 = (.tuple #[(.agg #[(.int .u32 n4), (.bool b5), (.bool b6), (.int .u8 n7), (.slice p8 l9 c10), (.int .i64 n11)]), (.bool b12)]) ∧ al w (.cells #[(.int .u32 0), (.bool false), (.bool false), (.int .u8 0), (.slice none 0 0), (.int .i64 0)] 36) fun r13 w => stL w ⟨r13, 0, none⟩ 0 [(.int .u32 n4), (.bool b5), (.bool b6), (.int .u8 n7), (.slice p8 l9 c10), (.int .i64 n11)] fun w => br b12
  (∃ n14 : Int, w.cell? ⟨r13, 5, none⟩ = some (.int .i64 n14) ∧ K (.bool ((n14 : Int) == x2)) w)
  (K (.bool false) w)
theorem eq18 (x1 : Option Addr) (x2 : Int) (w : World) (K : Value → World → Prop) : G Try.prog [15] 19 [0, 1, 4, 5, 6] (H18 K) 0 (bodyOf Try.f18) (retG Try.prog Try.f18.results.toList K) (env0 0 [(.pointer x1), (.int .i64 x2)]) w = S18 x1 x2 w K := by kernel_rfl
theorem ok18 {x1 : Option Addr} {x2 : Int} {w : World} {K : Value → World → Prop} (h : S18 x1 x2 w K) : callV Try.prog 18 #[(.pointer x1), (.int .i64 x2)] w K :=
  call_sound (qs := [15]) (args := [(.pointer x1), (.int .i64 x2)]) (by kernel_rfl) (Try.func18) (c := bodyOf Try.f18) (by kernel_rfl) (by kernel_rfl) (allL (show loops 0 (bodyOf Try.f18) = [] by kernel_rfl) True.intro) (Eq.mpr (eq18 x1 x2 w K) h)
def H20 (_F : Value → World → Prop) : Nat → Kont → Env → World → Prop := fun _ _ _ _ => False
/-- (*jackstay/fifo.Fifo).pack -/
def S20 (x1 : Option Addr) (w : World) (K : Value → World → Prop) : Prop :=
  dr w fun w =>
  need x1 fun a2 => ∃ (p3 : Option Addr) (l4 c5 : Nat), w.cell? a2 = some (.slice p3 l4 c5) ∧ need x1 fun a6 => ∃ (p7 : Option Addr) (l8 c9 : Nat), w.cell? a6 = some (.slice p7 l8 c9) ∧ need x1 fun a10 => ∃ n11 : Int, w.cell? (a10.add 1) = some (.int .i64 n11) ∧ slc p7 l8 c9 6 (some n11) none none fun p12 l13 c14 => runV Try.prog (Builtin.copy_ #[28, 28] 3 #[(.slice p3 l4 c5), (.slice p12 l13 c14)]) w fun v15 w => ∃ n16 : Int, v15 = (.int .i64 n16) ∧ need x1 fun a17 => ∃ (p18 : Option Addr) (l19 c20 : Nat), w.cell? a17 = some (.slice p18 l19 c20) ∧ slc p18 l19 c20 6 (some n16) none none fun p21 l22 c23 => runV Try.prog (Builtin.clear_ #[28] 0 #[(.slice p21 l22 c23)]) w fun v24 w => v24 = (.tuple #[]) ∧ dr w fun w =>
  need x1 fun a25 => ∃ (p26 : Option Addr) (l27 c28 : Nat), w.cell? a25 = some (.slice p26 l27 c28) ∧ need x1 fun a29 => ∃ (p30 : Option Addr) (l31 c32 : Nat), w.cell? a29 = some (.slice p30 l31 c32) ∧ slc p26 l27 c28 6 none (some n16) (some (c32 : Int)) fun p33 l34 c35 => need x1 fun a36 => stL w a36 0 [(.slice p33 l34 c35)] fun w => need x1 fun a37 => stL w (a37.add 1) 0 [(.int .i64 0)] fun w => K (.tuple #[]) w
theorem eq20 (x1 : Option Addr) (w : World) (K : Value → World → Prop) : G Try.prog [15] 40 [0, 2] (H20 K) 0 (bodyOf Try.f20) (retG Try.prog Try.f20.results.toList K) (env0 0 [(.pointer x1)]) w = S20 x1 w K := by kernel_rfl
theorem ok20 {x1 : Option Addr} {w : World} {K : Value → World → Prop} (h : S20 x1 w K) : callV Try.prog 20 #[(.pointer x1)] w K :=
  call_sound (qs := [15]) (args := [(.pointer x1)]) (by kernel_rfl) (Try.func20) (c := bodyOf Try.f20) (by kernel_rfl) (by kernel_rfl) (allL (show loops 0 (bodyOf Try.f20) = [] by kernel_rfl) True.intro) (Eq.mpr (eq20 x1 w K) h)
def H10 (_F : Value → World → Prop) : Nat → Kont → Env → World → Prop := fun _ _ _ _ => False
/-- (*jackstay/fifo.Fifo).Push -/
def S10 (x1 : Option Addr) (x2 : Int) (x3 : Bool) (x4 : Bool) (x5 : Int) (x6 : Option Addr) (l7 : Nat) (c8 : Nat) (x9 : Int) (w : World) (K : Value → World → Prop) : Prop :=
  al w (.cells #[(.int .u32 x2), (.bool x3), (.bool x4), (.int .u8 x5), (.slice x6 l7 c8), (.int .i64 x9)] 36) fun r10 w => jn (fun (w : World) =>
  jn (fun (w : World) =>
  dr w fun w =>
  need x1 fun a41 => ∃ (p42 : Option Addr) (l43 c44 : Nat), w.cell? a41 = some (.slice p42 l43 c44) ∧ ∃ n45 : Int, w.cell? ⟨r10, 0, none⟩ = some (.int .u32 n45) ∧ ∃ b46 : Bool, w.cell? ⟨r10, 1, none⟩ = some (.bool b46) ∧ ∃ b47 : Bool, w.cell? ⟨r10, 2, none⟩ = some (.bool b47) ∧ ∃ n48 : Int, w.cell? ⟨r10, 3, none⟩ = some (.int .u8 n48) ∧ ∃ (p49 : Option Addr) (l50 c51 : Nat), w.cell? ⟨r10, 4, none⟩ = some (.slice p49 l50 c51) ∧ ∃ n52 : Int, w.cell? ⟨r10, 5, none⟩ = some (.int .i64 n52) ∧ al w (.cells #[(.int .u32 n45), (.bool b46), (.bool b47), (.int .u8 n48), (.slice p49 l50 c51), (.int .i64 n52)] 36) fun r53 w => runV Try.prog (Builtin.append_ #[28, 28] 28 #[(.slice p42 l43 c44), (.slice (some ⟨r53, 0, none⟩) 1 1)]) w fun v54 w => ∃ (p55 : Option Addr) (l56 c57 : Nat), v54 = (.slice p55 l56 c57) ∧ need x1 fun a58 => stL w a58 0 [(.slice p55 l56 c57)] fun w => K (.int .i64 0) w) fun J40 =>
  ∃ (p28 : Option Addr) (l29 c30 : Nat), w.cell? ⟨r10, 4, none⟩ = some (.slice p28 l29 c30) ∧ br (!p28.isNone)
  (runV Try.prog (Instr.makeSlice 32 (.int .i64 (l29 : Int)) (.int .i64 (l29 : Int))) w fun v31 w => ∃ (p32 : Option Addr) (l33 c34 : Nat), v31 = (.slice p32 l33 c34) ∧ stL w ⟨r10, 4, none⟩ 0 [(.slice p32 l33 c34)] fun w => ∃ (p35 : Option Addr) (l36 c37 : Nat), w.cell? ⟨r10, 4, none⟩ = some (.slice p35 l36 c37) ∧ runV Try.prog (Builtin.copy_ #[32, 32] 3 #[(.slice p35 l36 c37), (.slice p28 l29 c30)]) w fun v38 w => ∃ n39 : Int, v38 = (.int .i64 n39) ∧ J40 w)
  (J40 w)) fun J27 =>
  callV Try.prog 19 #[(.pointer x1)] w fun v11 w => ∃ b12 : Bool, v11 = (.bool b12) ∧ br b12
  (K (.int .i64 1) w)
  (dr w fun w =>
  callQ Try.prog 15 #[(.pointer x1)] w fun v13 w => ∃ n14 : Int, v13 = (.int .i64 n14) ∧ need x1 fun a15 => ∃ n16 : Int, w.cell? (a15.add 2) = some (.int .i64 n16) ∧ br ((n14 : Int) == n16)
  (need x1 fun a17 => stL w (a17.add 3) 0 [(.bool true)] fun w => K (.int .i64 5) w)
  (dr w fun w =>
  need x1 fun a18 => ∃ (p19 : Option Addr) (l20 c21 : Nat), w.cell? a18 = some (.slice p19 l20 c21) ∧ need x1 fun a22 => ∃ (p23 : Option Addr) (l24 c25 : Nat), w.cell? a22 = some (.slice p23 l24 c25) ∧ br (((l20 : Int) : Int) == (c25 : Int))
  (callV Try.prog 20 #[(.pointer x1)] w fun v26 w => v26 = (.tuple #[]) ∧ J27 w)
  (J27 w)))
theorem eq10 (x1 : Option Addr) (x2 : Int) (x3 : Bool) (x4 : Bool) (x5 : Int) (x6 : Option Addr) (l7 : Nat) (c8 : Nat) (x9 : Int) (w : World) (K : Value → World → Prop) : G Try.prog [15] 59 [0, 1, 3, 4, 5, 6, 9, 20, 38] (H10 K) 0 (bodyOf Try.f10) (retG Try.prog Try.f10.results.toList K) (env0 0 [(.pointer x1), (.agg #[(.int .u32 x2), (.bool x3), (.bool x4), (.int .u8 x5), (.slice x6 l7 c8), (.int .i64 x9)])]) w = S10 x1 x2 x3 x4 x5 x6 l7 c8 x9 w K := by kernel_rfl
theorem ok10 {x1 : Option Addr} {x2 : Int} {x3 : Bool} {x4 : Bool} {x5 : Int} {x6 : Option Addr} {l7 : Nat} {c8 : Nat} {x9 : Int} {w : World} {K : Value → World → Prop} (h : S10 x1 x2 x3 x4 x5 x6 l7 c8 x9 w K) : callV Try.prog 10 #[(.pointer x1), (.agg #[(.int .u32 x2), (.bool x3), (.bool x4), (.int .u8 x5), (.slice x6 l7 c8), (.int .i64 x9)])] w K :=
  call_sound (qs := [15]) (args := [(.pointer x1), (.agg #[(.int .u32 x2), (.bool x3), (.bool x4), (.int .u8 x5), (.slice x6 l7 c8), (.int .i64 x9)])]) (by kernel_rfl) (Try.func10) (c := bodyOf Try.f10) (by kernel_rfl) (by kernel_rfl) (allL (show loops 0 (bodyOf Try.f10) = [] by kernel_rfl) True.intro) (Eq.mpr (eq10 x1 x2 x3 x4 x5 x6 l7 c8 x9 w K) h)
end Go.Proofs.Ytiodaglceoodpaa
