/- The formulas of the functions 8, 9, 10, 11, 12, 13, 15, 18, 21, 22, 23, 24, 26, 27, 30, 31, 33 of this seat, written by a program of my own (dec.py), each with its proof. -/
import Derived.Test.YtcemgjikmdbjgaaProg
import Derived.Test.YtcemgjikmdbjgaaSh
import Derived.KernelRfl
namespace Go.Proofs.Ytcemgjikmdbjgaa
open Go Go.Sh
set_option linter.unusedVariables false
set_option maxRecDepth 100000
def H8 (_F : Value → World → Prop) : Nat → Kont → Env → World → Prop := fun _ _ _ _ => False
/-- jackstay/jackstaylaw11.right -/
def S8 (x1 : Bool) (x2 : Int) (x3 : Int) (w : World) (K : Value → World → Prop) : Prop :=
  al w (.cells #[(.bool x1), (.int .u32 x2), (.int .u32 x3)] 24) fun r4 w => al w (.cells #[(.bool false), (.int .u32 0), (.int .u32 0)] 24) fun r5 w => jn (fun (x7 : Int) (w : World) =>
  ∃ n9 : Int, w.cell? ⟨r4, 1, none⟩ = some (.int .u32 n9) ∧ stL w ⟨r4, 1, none⟩ 0 [(.int .u32 (IntKind.wrap .u32 ((BitVec.ofInt 32 n9 &&& (BitVec.ofInt 32 x7)).toNat : Int)))] fun w => ∃ n10 : Int, w.cell? ⟨r4, 2, none⟩ = some (.int .u32 n10) ∧ ∃ n11 : Int, w.cell? ⟨r4, 1, none⟩ = some (.int .u32 n11) ∧ stL w ⟨r4, 2, none⟩ 0 [(.int .u32 (IntKind.wrap .u32 ((BitVec.ofInt 32 n10 &&& (BitVec.ofInt 32 n11)).toNat : Int)))] fun w => ∃ b12 : Bool, w.cell? ⟨r4, 0, none⟩ = some (.bool b12) ∧ ∃ n13 : Int, w.cell? ⟨r4, 1, none⟩ = some (.int .u32 n13) ∧ ∃ n14 : Int, w.cell? ⟨r4, 2, none⟩ = some (.int .u32 n14) ∧ stL w ⟨r5, 0, none⟩ 0 [(.bool b12), (.int .u32 n13), (.int .u32 n14)] fun w => ∃ b15 : Bool, w.cell? ⟨r5, 0, none⟩ = some (.bool b15) ∧ ∃ n16 : Int, w.cell? ⟨r5, 1, none⟩ = some (.int .u32 n16) ∧ ∃ n17 : Int, w.cell? ⟨r5, 2, none⟩ = some (.int .u32 n17) ∧ K (.agg #[(.bool b15), (.int .u32 n16), (.int .u32 n17)]) w) fun J8 =>
  ∃ b6 : Bool, w.cell? ⟨r4, 0, none⟩ = some (.bool b6) ∧ br b6
  (J8 536870911 w)
  (J8 2047 w)
theorem eq8 (x1 : Bool) (x2 : Int) (x3 : Int) (w : World) (K : Value → World → Prop) : G Try.prog [8, 9, 10, 11, 12, 13, 14, 15, 16, 17, 18, 19, 20, 21, 22, 23, 24, 25, 26, 27, 28, 29, 30, 31] 18 [0, 1, 2, 3, 5] (H8 K) 0 (bodyOf Try.f8) (retG Try.prog Try.f8.results.toList K) (env0 0 [(.agg #[(.bool x1), (.int .u32 x2), (.int .u32 x3)])]) w = S8 x1 x2 x3 w K := by kernel_rfl
theorem ok8 {x1 : Bool} {x2 : Int} {x3 : Int} {w : World} {K : Value → World → Prop} (h : S8 x1 x2 x3 w K) : callV Try.prog 8 #[(.agg #[(.bool x1), (.int .u32 x2), (.int .u32 x3)])] w K :=
  call_sound (qs := [8, 9, 10, 11, 12, 13, 14, 15, 16, 17, 18, 19, 20, 21, 22, 23, 24, 25, 26, 27, 28, 29, 30, 31]) (args := [(.agg #[(.bool x1), (.int .u32 x2), (.int .u32 x3)])]) (by kernel_rfl) (Try.func8) (c := bodyOf Try.f8) (by kernel_rfl) (by kernel_rfl) (allL (show loops [8, 9, 10, 11, 12, 13, 14, 15, 16, 17, 18, 19, 20, 21, 22, 23, 24, 25, 26, 27, 28, 29, 30, 31] 0 (bodyOf Try.f8) = [] by kernel_rfl) True.intro) (Eq.mpr (eq8 x1 x2 x3 w K) h)
def H9 (_F : Value → World → Prop) : Nat → Kont → Env → World → Prop := fun _ _ _ _ => False
/-- jackstay/jackstaylaw11.FilterCovers$1 -/
def S9 (x1 : Bool) (x2 : Int) (x3 : Int) (x4 : Int) (a5 : Addr) (w : World) (K : Value → World → Prop) : Prop :=
  al w (.cells #[(.bool x1), (.int .u32 x2), (.int .u32 x3)] 24) fun r6 w => ∃ b7 : Bool, w.cell? ⟨r6, 0, none⟩ = some (.bool b7) ∧ ∃ n8 : Int, w.cell? ⟨r6, 1, none⟩ = some (.int .u32 n8) ∧ ∃ n9 : Int, w.cell? ⟨r6, 2, none⟩ = some (.int .u32 n9) ∧ al w (.cells #[(.bool b7), (.int .u32 n8), (.int .u32 n9)] 24) fun r10 w => ∃ b11 : Bool, w.cell? a5 = some (.bool b11) ∧ callQ Try.prog 10 #[(.slice (some ⟨r10, 0, none⟩) 1 1), (.agg #[(.int .u32 x4), (.bool b11), (.bool false), (.int .u8 0), (.slice none 0 0)])] w fun v12 w => ∃ b13 : Bool, v12 = (.bool b13) ∧ K (.bool b13) w
theorem eq9 (x1 : Bool) (x2 : Int) (x3 : Int) (x4 : Int) (a5 : Addr) (w : World) (K : Value → World → Prop) : G Try.prog [8, 9, 10, 11, 12, 13, 14, 15, 16, 17, 18, 19, 20, 21, 22, 23, 24, 25, 26, 27, 28, 29, 30, 31] 13 [0, 1, 2, 3, 5] (H9 K) 0 (bodyOf Try.f9) (retG Try.prog Try.f9.results.toList K) (env0 0 [(.agg #[(.bool x1), (.int .u32 x2), (.int .u32 x3)]), (.int .u32 x4), (.pointer (some a5))]) w = S9 x1 x2 x3 x4 a5 w K := by kernel_rfl
theorem ok9 {x1 : Bool} {x2 : Int} {x3 : Int} {x4 : Int} {a5 : Addr} {w : World} {K : Value → World → Prop} (h : S9 x1 x2 x3 x4 a5 w K) : callV Try.prog 9 #[(.agg #[(.bool x1), (.int .u32 x2), (.int .u32 x3)]), (.int .u32 x4), (.pointer (some a5))] w K :=
  call_sound (qs := [8, 9, 10, 11, 12, 13, 14, 15, 16, 17, 18, 19, 20, 21, 22, 23, 24, 25, 26, 27, 28, 29, 30, 31]) (args := [(.agg #[(.bool x1), (.int .u32 x2), (.int .u32 x3)]), (.int .u32 x4), (.pointer (some a5))]) (by kernel_rfl) (Try.func9) (c := bodyOf Try.f9) (by kernel_rfl) (by kernel_rfl) (allL (show loops [8, 9, 10, 11, 12, 13, 14, 15, 16, 17, 18, 19, 20, 21, 22, 23, 24, 25, 26, 27, 28, 29, 30, 31] 0 (bodyOf Try.f9) = [] by kernel_rfl) True.intro) (Eq.mpr (eq9 x1 x2 x3 x4 a5 w K) h)
def H10 (_F : Value → World → Prop) : Nat → Kont → Env → World → Prop := fun _ _ _ _ => False
/-- jackstay/filter.Pass -/
def S10 (x1 : Option Addr) (l2 : Nat) (c3 : Nat) (x4 : Int) (x5 : Bool) (x6 : Bool) (x7 : Int) (x8 : Option Addr) (l9 : Nat) (c10 : Nat) (w : World) (K : Value → World → Prop) : Prop :=
  al w (.cells #[(.int .u32 x4), (.bool x5), (.bool x6), (.int .u8 x7), (.slice x8 l9 c10)] 30) fun r11 w => br (((l2 : Int) : Int) == 0)
  (K (.bool true) w)
  (∃ n12 : Int, w.cell? ⟨r11, 0, none⟩ = some (.int .u32 n12) ∧ ∃ b13 : Bool, w.cell? ⟨r11, 1, none⟩ = some (.bool b13) ∧ ∃ b14 : Bool, w.cell? ⟨r11, 2, none⟩ = some (.bool b14) ∧ ∃ n15 : Int, w.cell? ⟨r11, 3, none⟩ = some (.int .u8 n15) ∧ ∃ (p16 : Option Addr) (l17 c18 : Nat), w.cell? ⟨r11, 4, none⟩ = some (.slice p16 l17 c18) ∧ callQ Try.prog 23 #[(.agg #[(.int .u32 n12), (.bool b13), (.bool b14), (.int .u8 n15), (.slice p16 l17 c18)])] w fun v19 w => ∃ v20 : Value, v19 = v20 ∧ callQ Try.prog 22 #[(.slice x1 l2 c3), v20] w fun v21 w => ∃ b22 : Bool, v21 = (.bool b22) ∧ K (.bool b22) w)
theorem eq10 (x1 : Option Addr) (l2 : Nat) (c3 : Nat) (x4 : Int) (x5 : Bool) (x6 : Bool) (x7 : Int) (x8 : Option Addr) (l9 : Nat) (c10 : Nat) (w : World) (K : Value → World → Prop) : G Try.prog [8, 9, 10, 11, 12, 13, 14, 15, 16, 17, 18, 19, 20, 21, 22, 23, 24, 25, 26, 27, 28, 29, 30, 31] 14 [0, 1, 3, 4] (H10 K) 0 (bodyOf Try.f10) (retG Try.prog Try.f10.results.toList K) (env0 0 [(.slice x1 l2 c3), (.agg #[(.int .u32 x4), (.bool x5), (.bool x6), (.int .u8 x7), (.slice x8 l9 c10)])]) w = S10 x1 l2 c3 x4 x5 x6 x7 x8 l9 c10 w K := by kernel_rfl
theorem ok10 {x1 : Option Addr} {l2 : Nat} {c3 : Nat} {x4 : Int} {x5 : Bool} {x6 : Bool} {x7 : Int} {x8 : Option Addr} {l9 : Nat} {c10 : Nat} {w : World} {K : Value → World → Prop} (h : S10 x1 l2 c3 x4 x5 x6 x7 x8 l9 c10 w K) : callV Try.prog 10 #[(.slice x1 l2 c3), (.agg #[(.int .u32 x4), (.bool x5), (.bool x6), (.int .u8 x7), (.slice x8 l9 c10)])] w K :=
  call_sound (qs := [8, 9, 10, 11, 12, 13, 14, 15, 16, 17, 18, 19, 20, 21, 22, 23, 24, 25, 26, 27, 28, 29, 30, 31]) (args := [(.slice x1 l2 c3), (.agg #[(.int .u32 x4), (.bool x5), (.bool x6), (.int .u8 x7), (.slice x8 l9 c10)])]) (by kernel_rfl) (Try.func10) (c := bodyOf Try.f10) (by kernel_rfl) (by kernel_rfl) (allL (show loops [8, 9, 10, 11, 12, 13, 14, 15, 16, 17, 18, 19, 20, 21, 22, 23, 24, 25, 26, 27, 28, 29, 30, 31] 0 (bodyOf Try.f10) = [] by kernel_rfl) True.intro) (Eq.mpr (eq10 x1 l2 c3 x4 x5 x6 x7 x8 l9 c10 w K) h)
def H11 (_F : Value → World → Prop) : Nat → Kont → Env → World → Prop := fun _ _ _ _ => False
/-- jackstay/filter.Covers -/
def S11 (x1 : Bool) (x2 : Int) (x3 : Int) (x4 : Bool) (x5 : Int) (x6 : Int) (w : World) (K : Value → World → Prop) : Prop :=
  al w (.cells #[(.bool x1), (.int .u32 x2), (.int .u32 x3)] 24) fun r7 w => al w (.cells #[(.bool x4), (.int .u32 x5), (.int .u32 x6)] 24) fun r8 w => ∃ b9 : Bool, w.cell? ⟨r7, 0, none⟩ = some (.bool b9) ∧ ∃ n10 : Int, w.cell? ⟨r7, 1, none⟩ = some (.int .u32 n10) ∧ ∃ n11 : Int, w.cell? ⟨r7, 2, none⟩ = some (.int .u32 n11) ∧ callQ Try.prog 18 #[(.agg #[(.bool b9), (.int .u32 n10), (.int .u32 n11)])] w fun v12 w => ∃ b13 : Bool, v12 = (.bool b13) ∧ br b13
  (∃ b14 : Bool, w.cell? ⟨r8, 0, none⟩ = some (.bool b14) ∧ ∃ n15 : Int, w.cell? ⟨r8, 1, none⟩ = some (.int .u32 n15) ∧ ∃ n16 : Int, w.cell? ⟨r8, 2, none⟩ = some (.int .u32 n16) ∧ callQ Try.prog 18 #[(.agg #[(.bool b14), (.int .u32 n15), (.int .u32 n16)])] w fun v17 w => ∃ b18 : Bool, v17 = (.bool b18) ∧ br b18
  (∃ b19 : Bool, w.cell? ⟨r7, 0, none⟩ = some (.bool b19) ∧ ∃ b20 : Bool, w.cell? ⟨r8, 0, none⟩ = some (.bool b20) ∧ br (b19 == b20)
  (∃ n21 : Int, w.cell? ⟨r7, 1, none⟩ = some (.int .u32 n21) ∧ ∃ n22 : Int, w.cell? ⟨r8, 1, none⟩ = some (.int .u32 n22) ∧ br (((IntKind.wrap .u32 ((BitVec.ofInt 32 n21 &&& ~~~(BitVec.ofInt 32 n22)).toNat : Int)) : Int) == 0)
  (∃ n23 : Int, w.cell? ⟨r8, 2, none⟩ = some (.int .u32 n23) ∧ ∃ n24 : Int, w.cell? ⟨r7, 1, none⟩ = some (.int .u32 n24) ∧ ∃ n25 : Int, w.cell? ⟨r7, 2, none⟩ = some (.int .u32 n25) ∧ K (.bool (((IntKind.wrap .u32 ((BitVec.ofInt 32 n23 &&& (BitVec.ofInt 32 n24)).toNat : Int)) : Int) == n25)) w)
  (K (.bool false) w))
  (K (.bool false) w))
  (K (.bool false) w))
  (K (.bool false) w)
theorem eq11 (x1 : Bool) (x2 : Int) (x3 : Int) (x4 : Bool) (x5 : Int) (x6 : Int) (w : World) (K : Value → World → Prop) : G Try.prog [8, 9, 10, 11, 12, 13, 14, 15, 16, 17, 18, 19, 20, 21, 22, 23, 24, 25, 26, 27, 28, 29, 30, 31] 36 [0, 1, 2, 3, 4] (H11 K) 0 (bodyOf Try.f11) (retG Try.prog Try.f11.results.toList K) (env0 0 [(.agg #[(.bool x1), (.int .u32 x2), (.int .u32 x3)]), (.agg #[(.bool x4), (.int .u32 x5), (.int .u32 x6)])]) w = S11 x1 x2 x3 x4 x5 x6 w K := by kernel_rfl
theorem ok11 {x1 : Bool} {x2 : Int} {x3 : Int} {x4 : Bool} {x5 : Int} {x6 : Int} {w : World} {K : Value → World → Prop} (h : S11 x1 x2 x3 x4 x5 x6 w K) : callV Try.prog 11 #[(.agg #[(.bool x1), (.int .u32 x2), (.int .u32 x3)]), (.agg #[(.bool x4), (.int .u32 x5), (.int .u32 x6)])] w K :=
  call_sound (qs := [8, 9, 10, 11, 12, 13, 14, 15, 16, 17, 18, 19, 20, 21, 22, 23, 24, 25, 26, 27, 28, 29, 30, 31]) (args := [(.agg #[(.bool x1), (.int .u32 x2), (.int .u32 x3)]), (.agg #[(.bool x4), (.int .u32 x5), (.int .u32 x6)])]) (by kernel_rfl) (Try.func11) (c := bodyOf Try.f11) (by kernel_rfl) (by kernel_rfl) (allL (show loops [8, 9, 10, 11, 12, 13, 14, 15, 16, 17, 18, 19, 20, 21, 22, 23, 24, 25, 26, 27, 28, 29, 30, 31] 0 (bodyOf Try.f11) = [] by kernel_rfl) True.intro) (Eq.mpr (eq11 x1 x2 x3 x4 x5 x6 w K) h)
def H12 (_F : Value → World → Prop) : Nat → Kont → Env → World → Prop := fun _ _ _ _ => False
/-- jackstay/jackstaylaw11.awake -/
def S12 (w : World) (K : Value → World → Prop) : Prop :=
  al w (.cells #[(.bool false), (.int .u32 0), (.int .u32 0)] 24) fun r1 w => stL w ⟨r1, 0, none⟩ 0 [(.bool false), (.int .u32 1792), (.int .u32 256)] fun w => ∃ b2 : Bool, w.cell? ⟨r1, 0, none⟩ = some (.bool b2) ∧ ∃ n3 : Int, w.cell? ⟨r1, 1, none⟩ = some (.int .u32 n3) ∧ ∃ n4 : Int, w.cell? ⟨r1, 2, none⟩ = some (.int .u32 n4) ∧ al w (.cells #[(.bool b2), (.int .u32 n3), (.int .u32 n4)] 24) fun r5 w => al w (.cells #[(.int .u32 5), (.int .u32 3), (.int .u32 5)] 22) fun r6 w => callQ Try.prog 15 #[(.slice (some ⟨r6, 0, none⟩) 3 3), (.bool false)] w fun v7 w => ∃ (p8 : Option Addr) (l9 c10 : Nat), ∃ n11 : Int, v7 = (.tuple #[(.slice p8 l9 c10), (.int .i64 n11)]) ∧ al w (.cells #[(.int .u32 2048)] 22) fun r12 w => callQ Try.prog 15 #[(.slice (some ⟨r12, 0, none⟩) 1 1), (.bool false)] w fun v13 w => ∃ (p14 : Option Addr) (l15 c16 : Nat), ∃ n17 : Int, v13 = (.tuple #[(.slice p14 l15 c16), (.int .i64 n17)]) ∧ callQ Try.prog 10 #[(.slice (some ⟨r5, 0, none⟩) 1 1), (.agg #[(.int .u32 256), (.bool false), (.bool false), (.int .u8 0), (.slice none 0 0)])] w fun v18 w => ∃ b19 : Bool, v18 = (.bool b19) ∧ br b19
  (callQ Try.prog 10 #[(.slice (some ⟨r5, 0, none⟩) 1 1), (.agg #[(.int .u32 511), (.bool false), (.bool false), (.int .u8 0), (.slice none 0 0)])] w fun v20 w => ∃ b21 : Bool, v20 = (.bool b21) ∧ br b21
  (callQ Try.prog 10 #[(.slice (some ⟨r5, 0, none⟩) 1 1), (.agg #[(.int .u32 512), (.bool false), (.bool false), (.int .u8 0), (.slice none 0 0)])] w fun v22 w => ∃ b23 : Bool, v22 = (.bool b23) ∧ br (!b23)
  (callQ Try.prog 10 #[(.slice (some ⟨r5, 0, none⟩) 1 1), (.agg #[(.int .u32 256), (.bool true), (.bool false), (.int .u8 0), (.slice none 0 0)])] w fun v24 w => ∃ b25 : Bool, v24 = (.bool b25) ∧ br (!b25)
  (∃ b26 : Bool, w.cell? ⟨r1, 0, none⟩ = some (.bool b26) ∧ ∃ n27 : Int, w.cell? ⟨r1, 1, none⟩ = some (.int .u32 n27) ∧ ∃ n28 : Int, w.cell? ⟨r1, 2, none⟩ = some (.int .u32 n28) ∧ callQ Try.prog 11 #[(.agg #[(.bool false), (.int .u32 0), (.int .u32 0)]), (.agg #[(.bool b26), (.int .u32 n27), (.int .u32 n28)])] w fun v29 w => ∃ b30 : Bool, v29 = (.bool b30) ∧ br b30
  (∃ b31 : Bool, w.cell? ⟨r1, 0, none⟩ = some (.bool b31) ∧ ∃ n32 : Int, w.cell? ⟨r1, 1, none⟩ = some (.int .u32 n32) ∧ ∃ n33 : Int, w.cell? ⟨r1, 2, none⟩ = some (.int .u32 n33) ∧ callQ Try.prog 11 #[(.agg #[(.bool b31), (.int .u32 n32), (.int .u32 n33)]), (.agg #[(.bool false), (.int .u32 0), (.int .u32 0)])] w fun v34 w => ∃ b35 : Bool, v34 = (.bool b35) ∧ br (!b35)
  (br ((n11 : Int) == 0)
  (al w (.cells #[(.bool false), (.int .u32 2047), (.int .u32 3), (.bool false), (.int .u32 2047), (.int .u32 5)] 24) fun r36 w => callQ Try.prog 21 #[(.slice p8 l9 c10), (.slice (some ⟨r36, 0, none⟩) 2 2)] w fun v37 w => ∃ b38 : Bool, v37 = (.bool b38) ∧ br b38
  (K (.bool ((n17 : Int) == 2)) w)
  (K (.bool false) w))
  (K (.bool false) w))
  (K (.bool false) w))
  (K (.bool false) w))
  (K (.bool false) w))
  (K (.bool false) w))
  (K (.bool false) w))
  (K (.bool false) w)
theorem eq12 (w : World) (K : Value → World → Prop) : G Try.prog [8, 9, 10, 11, 12, 13, 14, 15, 16, 17, 18, 19, 20, 21, 22, 23, 24, 25, 26, 27, 28, 29, 30, 31] 66 [0, 1, 2, 3, 4, 6] (H12 K) 0 (bodyOf Try.f12) (retG Try.prog Try.f12.results.toList K) (env0 0 []) w = S12 w K := by kernel_rfl
theorem ok12 {w : World} {K : Value → World → Prop} (h : S12 w K) : callV Try.prog 12 #[] w K :=
  call_sound (qs := [8, 9, 10, 11, 12, 13, 14, 15, 16, 17, 18, 19, 20, 21, 22, 23, 24, 25, 26, 27, 28, 29, 30, 31]) (args := []) (by kernel_rfl) (Try.func12) (c := bodyOf Try.f12) (by kernel_rfl) (by kernel_rfl) (allL (show loops [8, 9, 10, 11, 12, 13, 14, 15, 16, 17, 18, 19, 20, 21, 22, 23, 24, 25, 26, 27, 28, 29, 30, 31] 0 (bodyOf Try.f12) = [] by kernel_rfl) True.intro) (Eq.mpr (eq12 w K) h)
def H13 (_F : Value → World → Prop) : Nat → Kont → Env → World → Prop := fun _ _ _ _ => False
/-- jackstay/filter.First -/
def S13 (x1 : Option Addr) (l2 : Nat) (c3 : Nat) (x4 : Int) (x5 : Bool) (x6 : Bool) (x7 : Int) (x8 : Option Addr) (l9 : Nat) (c10 : Nat) (w : World) (K : Value → World → Prop) : Prop :=
  al w (.cells #[(.int .u32 x4), (.bool x5), (.bool x6), (.int .u8 x7), (.slice x8 l9 c10)] 30) fun r11 w => ∃ n12 : Int, w.cell? ⟨r11, 0, none⟩ = some (.int .u32 n12) ∧ ∃ b13 : Bool, w.cell? ⟨r11, 1, none⟩ = some (.bool b13) ∧ ∃ b14 : Bool, w.cell? ⟨r11, 2, none⟩ = some (.bool b14) ∧ ∃ n15 : Int, w.cell? ⟨r11, 3, none⟩ = some (.int .u8 n15) ∧ ∃ (p16 : Option Addr) (l17 c18 : Nat), w.cell? ⟨r11, 4, none⟩ = some (.slice p16 l17 c18) ∧ callQ Try.prog 23 #[(.agg #[(.int .u32 n12), (.bool b13), (.bool b14), (.int .u8 n15), (.slice p16 l17 c18)])] w fun v19 w => ∃ v20 : Value, v19 = v20 ∧ callQ Try.prog 24 #[(.slice x1 l2 c3), v20] w fun v21 w => ∃ n22 : Int, v21 = (.int .i64 n22) ∧ K (.tuple #[(.int .i64 (if 0 > n22 then 0 else n22)), (.bool (decide ((n22 : Int) ≥ 0)))]) w
theorem eq13 (x1 : Option Addr) (l2 : Nat) (c3 : Nat) (x4 : Int) (x5 : Bool) (x6 : Bool) (x7 : Int) (x8 : Option Addr) (l9 : Nat) (c10 : Nat) (w : World) (K : Value → World → Prop) : G Try.prog [8, 9, 10, 11, 12, 13, 14, 15, 16, 17, 18, 19, 20, 21, 22, 23, 24, 25, 26, 27, 28, 29, 30, 31] 15 [0, 1, 3, 4, 5, 6] (H13 K) 0 (bodyOf Try.f13) (retG Try.prog Try.f13.results.toList K) (env0 0 [(.slice x1 l2 c3), (.agg #[(.int .u32 x4), (.bool x5), (.bool x6), (.int .u8 x7), (.slice x8 l9 c10)])]) w = S13 x1 l2 c3 x4 x5 x6 x7 x8 l9 c10 w K := by kernel_rfl
theorem ok13 {x1 : Option Addr} {l2 : Nat} {c3 : Nat} {x4 : Int} {x5 : Bool} {x6 : Bool} {x7 : Int} {x8 : Option Addr} {l9 : Nat} {c10 : Nat} {w : World} {K : Value → World → Prop} (h : S13 x1 l2 c3 x4 x5 x6 x7 x8 l9 c10 w K) : callV Try.prog 13 #[(.slice x1 l2 c3), (.agg #[(.int .u32 x4), (.bool x5), (.bool x6), (.int .u8 x7), (.slice x8 l9 c10)])] w K :=
  call_sound (qs := [8, 9, 10, 11, 12, 13, 14, 15, 16, 17, 18, 19, 20, 21, 22, 23, 24, 25, 26, 27, 28, 29, 30, 31]) (args := [(.slice x1 l2 c3), (.agg #[(.int .u32 x4), (.bool x5), (.bool x6), (.int .u8 x7), (.slice x8 l9 c10)])]) (by kernel_rfl) (Try.func13) (c := bodyOf Try.f13) (by kernel_rfl) (by kernel_rfl) (allL (show loops [8, 9, 10, 11, 12, 13, 14, 15, 16, 17, 18, 19, 20, 21, 22, 23, 24, 25, 26, 27, 28, 29, 30, 31] 0 (bodyOf Try.f13) = [] by kernel_rfl) True.intro) (Eq.mpr (eq13 x1 l2 c3 x4 x5 x6 x7 x8 l9 c10 w K) h)
def B15_1 (x15 : Bool) (x16 : Int) (x20 : Option Addr) (l21 : Nat) (c22 : Nat) (x23 : Int) (x17 : Option Addr) (l18 : Nat) (c19 : Nat) (x24 : Int) (w : World) (N : (Option Addr) → Nat → Nat → Int → World → Prop) (X1 : (Option Addr) → Nat → Nat → World → Prop) (K : Value → World → Prop) : Prop :=
  br (decide ((x24 : Int) < x23))
  (idx x20 l21 1 x24 fun a25 => ∃ n26 : Int, w.cell? a25 = some (.int .u32 n26) ∧ al w (.cells #[(.bool x15), (.int .u32 x16), (.int .u32 n26)] 24) fun r27 w => runV Try.prog (Builtin.append_ #[27, 27] 27 #[(.slice x17 l18 c19), (.slice (some ⟨r27, 0, none⟩) 1 1)]) w fun v28 w => ∃ (p29 : Option Addr) (l30 c31 : Nat), v28 = (.slice p29 l30 c31) ∧ N p29 l30 c31 (IntKind.wrap .i64 (x24 + 1)) w)
  (X1 x17 l18 c19 w)
/-- The loop in block 1 of function 15: by what holds at its head. -/
def LS15_1 (x15 : Bool) (x16 : Int) (x20 : Option Addr) (l21 : Nat) (c22 : Nat) (x23 : Int) (x17 : Option Addr) (l18 : Nat) (c19 : Nat) (x24 : Int) (w : World) (X1 : (Option Addr) → Nat → Nat → World → Prop) (K : Value → World → Prop) : Prop :=
  ∃ J : Nat → (Option Addr) → Nat → Nat → Int → World → Prop, (∃ n, J n x17 l18 c19 x24 w) ∧ ∀ n x17 l18 c19 x24 w, J n x17 l18 c19 x24 w → B15_1 x15 x16 x20 l21 c22 x23 x17 l18 c19 x24 w (fun x17 l18 c19 x24 w => ∃ m, m < n ∧ J m x17 l18 c19 x24 w) X1 K
abbrev env15_1 (x15 : Bool) (x16 : Int) (x20 : Option Addr) (l21 : Nat) (c22 : Nat) (x23 : Int) (x17 : Option Addr) (l18 : Nat) (c19 : Nat) (x24 : Int) : Env := [(1, (.bool x15)), (6, (.int .u32 x16)), (9, (.slice x17 l18 c19)), (33, (.slice x20 l21 c22)), (34, (.int .i64 x23)), (35, (.int .i64 x24))]
def Kt15_1 (N : (Option Addr) → Nat → Nat → Int → World → Prop) (X1 : (Option Addr) → Nat → Nat → World → Prop) (K : Value → World → Prop) : Kont := fun e E w => match e with
  | .normal => gS E 9 fun x17 l18 c19 => gI .i64 E 35 fun x24 => N x17 l18 c19 x24 w
  | .exit j => match Nat.beq j 1 with | true => (gS E 9 fun x32 l33 c34 => X1 x32 l33 c34 w) | false => (False)
  | .ret => retG Try.prog Try.f15.results.toList K .ret E w
  | _ => False
def HL15_1 (F : Value → World → Prop) (K : Kont) (E : Env) (w : World) : Prop := match keep [1, 6, 9, 33, 34, 35] E with
  | [(1, (.bool x15)), (6, (.int .u32 x16)), (9, (.slice x17 l18 c19)), (33, (.slice x20 l21 c22)), (34, (.int .i64 x23)), (35, (.int .i64 x24))] => LS15_1 x15 x16 x20 l21 c22 x23 x17 l18 c19 x24 w (fun (x32 : Option Addr) (l33 : Nat) (c34 : Nat) w => K (.exit 1) [(9, (.slice x32 l33 c34))] w) F
  | _ => False
def H15 (F : Value → World → Prop) : Nat → Kont → Env → World → Prop := fun b K E w => match Nat.beq b 1 with | true => HL15_1 F K E w | false => (False)
theorem Beq15_1 (x15 : Bool) (x16 : Int) (x20 : Option Addr) (l21 : Nat) (c22 : Nat) (x23 : Int) (x17 : Option Addr) (l18 : Nat) (c19 : Nat) (x24 : Int) (w : World) (N : (Option Addr) → Nat → Nat → Int → World → Prop) (X1 : (Option Addr) → Nat → Nat → World → Prop) (K : Value → World → Prop) :
    G Try.prog [8, 9, 10, 11, 12, 13, 14, 15, 16, 17, 18, 19, 20, 21, 22, 23, 24, 25, 26, 27, 28, 29, 30, 31] 48 [0, 1, 4, 5, 6, 7, 8, 9, 11, 18, 30, 33, 34, 35, 36] (H15 K) 1 (loopOf 1 Try.f15) (Kt15_1 N X1 K) (env15_1 x15 x16 x20 l21 c22 x23 x17 l18 c19 x24) w = B15_1 x15 x16 x20 l21 c22 x23 x17 l18 c19 x24 w N X1 K := by kernel_rfl
theorem lok15_1 (F : Value → World → Prop) : LoopOk Try.prog 48 Try.f15.results.toList F (H15 F) 1 (.loop (loopOf 1 Try.f15)) := by
  intro K E a w Q hr h hs hq
  have hs0 := hs.keep [1, 6, 9, 33, 34, 35]
  have h1 : HL15_1 F K E w := h
  unfold HL15_1 at h1
  split at h1
  · rename_i x15 x16 x17 l18 c19 x20 l21 c22 x23 x24 heq
    obtain ⟨J, ⟨n, hJ⟩, hround⟩ := h1
    rw [heq] at hs0
    refine loop_typed (qs := [8, 9, 10, 11, 12, 13, 14, 15, 16, 17, 18, 19, 20, 21, 22, 23, 24, 25, 26, 27, 28, 29, 30, 31]) (L := [0, 1, 4, 5, 6, 7, 8, 9, 11, 18, 30, 33, 34, 35, 36]) (rs := Try.f15.results.toList) (F := F) (H := H15 F) (b := 1) (by kernel_rfl) (allL (show loops [8, 9, 10, 11, 12, 13, 14, 15, 16, 17, 18, 19, 20, 21, 22, 23, 24, 25, 26, 27, 28, 29, 30, 31] 1 (loopOf 1 Try.f15) = [] by kernel_rfl) True.intro) (σ := Option Addr × Nat × Nat × Int) (fun s => env15_1 x15 x16 x20 l21 c22 x23 s.1 s.2.1 s.2.2.1 s.2.2.2) (fun n s w => J n s.1 s.2.1 s.2.2.1 s.2.2.2 w)
      (fun n => Kt15_1 (fun x17 l18 c19 x24 w => ∃ m, m < n ∧ J m x17 l18 c19 x24 w) (fun (x32 : Option Addr) (l33 : Nat) (c34 : Nat) w => K (.exit 1) [(9, (.slice x32 l33 c34))] w) F) (fun _ _ _ h => h) ?_ ?_ a ?_ n (x17, l18, c19, x24) a w hJ (Fr.refl _ _) hs0
    · intro n s w hJ
      exact Eq.mpr (Beq15_1 x15 x16 x20 l21 c22 x23 s.1 s.2.1 s.2.2.1 s.2.2.2 w _ _ F) (hround n s.1 s.2.1 s.2.2.1 s.2.2.2 w hJ)
    · intro n s E' w' h
      obtain ⟨x17, l18, c19, e9, h⟩ := gS_get h
      obtain ⟨x24, e35, h⟩ := gI_get h
      obtain ⟨m, hm, hJ⟩ := h
      exact ⟨m, (x17, l18, c19, x24), hm, hJ, ⟨.inl ⟨by kernel_rfl, rfl⟩, .inl ⟨by kernel_rfl, rfl⟩, .inr e9, .inl ⟨by kernel_rfl, rfl⟩, .inl ⟨by kernel_rfl, rfl⟩, .inr e35, True.intro⟩⟩
    · intro n s a1 e E' a' w' he hs1 hf0 hf1 hs' h
      cases e with
      | normal => exact (he rfl).elim
      | exit j =>
        dsimp only [Kt15_1] at h
        cases hb : Nat.beq j 1
        case' true =>
          rw [hb] at h
          have hj := Nat.eq_of_beq_eq_true hb
          subst hj
          dsimp only at h
          obtain ⟨x32, l33, c34, e9, h⟩ := gS_get h
          exact hq _ _ _ _ (hs1.next hf1 hs' (E2 := [(9, (.slice x32 l33 c34))]) ⟨.inr e9, True.intro⟩) hf0 h
        rw [hb] at h
        dsimp only at h
        all_goals exact h.elim
      | ret => exact hq _ _ _ _ hs' hf0 (hr _ _ h)
      | _ => exact h.elim
  · exact h1.elim
/-- jackstay/filter.Only -/
def S15 (x1 : Option Addr) (l2 : Nat) (c3 : Nat) (x4 : Bool) (w : World) (K : Value → World → Prop) : Prop :=
  callQ Try.prog 26 #[(.bool x4)] w fun v5 w => ∃ n6 : Int, v5 = (.int .u32 n6) ∧ callQ Try.prog 27 #[(.slice x1 l2 c3)] w fun v7 w => ∃ (p8 : Option Addr) (l9 c10 : Nat), v7 = (.slice p8 l9 c10) ∧ jn (fun (x13 : Bool) (w : World) =>
  br x13
  (K (.tuple #[(.slice none 0 0), (.int .i64 2)]) w)
  (br (decide (((l9 : Int) : Int) > 64))
  (K (.tuple #[(.slice none 0 0), (.int .i64 5)]) w)
  (LS15_1 x4 n6 p8 l9 c10 (l9 : Int) none 0 0 0 w
  (fun (x32 : Option Addr) (l33 : Nat) (c34 : Nat) w => K (.tuple #[(.slice x32 l33 c34), (.int .i64 0)]) w) K))) fun J14 =>
  br (decide (((l9 : Int) : Int) > 0))
  (idx p8 l9 1 (IntKind.wrap .i64 ((l9 : Int) - 1)) fun a11 => ∃ n12 : Int, w.cell? a11 = some (.int .u32 n12) ∧ J14 (decide ((n12 : Int) > n6)) w)
  (J14 false w)
theorem eq15 (x1 : Option Addr) (l2 : Nat) (c3 : Nat) (x4 : Bool) (w : World) (K : Value → World → Prop) : G Try.prog [8, 9, 10, 11, 12, 13, 14, 15, 16, 17, 18, 19, 20, 21, 22, 23, 24, 25, 26, 27, 28, 29, 30, 31] 48 [0, 1, 4, 5, 6, 7, 8, 9, 11, 18, 30, 33, 34, 35, 36] (H15 K) 0 (bodyOf Try.f15) (retG Try.prog Try.f15.results.toList K) (env0 0 [(.slice x1 l2 c3), (.bool x4)]) w = S15 x1 l2 c3 x4 w K := by kernel_rfl
theorem ok15 {x1 : Option Addr} {l2 : Nat} {c3 : Nat} {x4 : Bool} {w : World} {K : Value → World → Prop} (h : S15 x1 l2 c3 x4 w K) : callV Try.prog 15 #[(.slice x1 l2 c3), (.bool x4)] w K :=
  call_sound (qs := [8, 9, 10, 11, 12, 13, 14, 15, 16, 17, 18, 19, 20, 21, 22, 23, 24, 25, 26, 27, 28, 29, 30, 31]) (args := [(.slice x1 l2 c3), (.bool x4)]) (by kernel_rfl) (Try.func15) (c := bodyOf Try.f15) (by kernel_rfl) (by kernel_rfl) (allL (show loops [8, 9, 10, 11, 12, 13, 14, 15, 16, 17, 18, 19, 20, 21, 22, 23, 24, 25, 26, 27, 28, 29, 30, 31] 0 (bodyOf Try.f15) = [(1, .loop (loopOf 1 Try.f15))] by kernel_rfl) ⟨lok15_1 K, True.intro⟩) (Eq.mpr (eq15 x1 l2 c3 x4 w K) h)
def H18 (_F : Value → World → Prop) : Nat → Kont → Env → World → Prop := fun _ _ _ _ => False
/-- jackstay/filter.Right -/
def S18 (x1 : Bool) (x2 : Int) (x3 : Int) (w : World) (K : Value → World → Prop) : Prop :=
  al w (.cells #[(.bool x1), (.int .u32 x2), (.int .u32 x3)] 24) fun r4 w => dr w fun w =>
  ∃ n5 : Int, w.cell? ⟨r4, 1, none⟩ = some (.int .u32 n5) ∧ ∃ b6 : Bool, w.cell? ⟨r4, 0, none⟩ = some (.bool b6) ∧ callQ Try.prog 26 #[(.bool b6)] w fun v7 w => ∃ n8 : Int, v7 = (.int .u32 n8) ∧ br (decide ((n5 : Int) ≤ n8))
  (∃ n9 : Int, w.cell? ⟨r4, 2, none⟩ = some (.int .u32 n9) ∧ ∃ n10 : Int, w.cell? ⟨r4, 1, none⟩ = some (.int .u32 n10) ∧ K (.bool (((IntKind.wrap .u32 ((BitVec.ofInt 32 n9 &&& ~~~(BitVec.ofInt 32 n10)).toNat : Int)) : Int) == 0)) w)
  (K (.bool false) w)
theorem eq18 (x1 : Bool) (x2 : Int) (x3 : Int) (w : World) (K : Value → World → Prop) : G Try.prog [8, 9, 10, 11, 12, 13, 14, 15, 16, 17, 18, 19, 20, 21, 22, 23, 24, 25, 26, 27, 28, 29, 30, 31] 17 [0, 1, 2] (H18 K) 0 (bodyOf Try.f18) (retG Try.prog Try.f18.results.toList K) (env0 0 [(.agg #[(.bool x1), (.int .u32 x2), (.int .u32 x3)])]) w = S18 x1 x2 x3 w K := by kernel_rfl
theorem ok18 {x1 : Bool} {x2 : Int} {x3 : Int} {w : World} {K : Value → World → Prop} (h : S18 x1 x2 x3 w K) : callV Try.prog 18 #[(.agg #[(.bool x1), (.int .u32 x2), (.int .u32 x3)])] w K :=
  call_sound (qs := [8, 9, 10, 11, 12, 13, 14, 15, 16, 17, 18, 19, 20, 21, 22, 23, 24, 25, 26, 27, 28, 29, 30, 31]) (args := [(.agg #[(.bool x1), (.int .u32 x2), (.int .u32 x3)])]) (by kernel_rfl) (Try.func18) (c := bodyOf Try.f18) (by kernel_rfl) (by kernel_rfl) (allL (show loops [8, 9, 10, 11, 12, 13, 14, 15, 16, 17, 18, 19, 20, 21, 22, 23, 24, 25, 26, 27, 28, 29, 30, 31] 0 (bodyOf Try.f18) = [] by kernel_rfl) True.intro) (Eq.mpr (eq18 x1 x2 x3 w K) h)
def B21_0 (x7 : Option Addr) (l8 : Nat) (c9 : Nat) (x10 : Option Addr) (l11 : Nat) (c12 : Nat) (x13 : Int) (x14 : Int) (w : World) (N : Int → World → Prop) (X0 : World → Prop) (K : Value → World → Prop) : Prop :=
  br (decide ((x14 : Int) < x13))
  (dr w fun w =>
  idx x7 l8 3 x14 fun a15 => ∃ b16 : Bool, w.cell? a15 = some (.bool b16) ∧ ∃ n17 : Int, w.cell? (a15.add 1) = some (.int .u32 n17) ∧ ∃ n18 : Int, w.cell? (a15.add 2) = some (.int .u32 n18) ∧ idx x10 l11 3 x14 fun a19 => ∃ b20 : Bool, w.cell? a19 = some (.bool b20) ∧ ∃ n21 : Int, w.cell? (a19.add 1) = some (.int .u32 n21) ∧ ∃ n22 : Int, w.cell? (a19.add 2) = some (.int .u32 n22) ∧ eqK Try.prog .neq 24 (.tmp 19) (.tmp 23) (.agg #[(.bool b16), (.int .u32 n17), (.int .u32 n18)]) (.agg #[(.bool b20), (.int .u32 n21), (.int .u32 n22)]) fun b23 => br b23
  (K (.bool false) w)
  (N (IntKind.wrap .i64 (x14 + 1)) w))
  (X0 w)
/-- The loop in block 0 of function 21: by what holds at its head. -/
def LS21_0 (x7 : Option Addr) (l8 : Nat) (c9 : Nat) (x10 : Option Addr) (l11 : Nat) (c12 : Nat) (x13 : Int) (x14 : Int) (w : World) (X0 : World → Prop) (K : Value → World → Prop) : Prop :=
  ∃ J : Nat → Int → World → Prop, (∃ n, J n x14 w) ∧ ∀ n x14 w, J n x14 w → B21_0 x7 l8 c9 x10 l11 c12 x13 x14 w (fun x14 w => ∃ m, m < n ∧ J m x14 w) X0 K
abbrev env21_0 (x7 : Option Addr) (l8 : Nat) (c9 : Nat) (x10 : Option Addr) (l11 : Nat) (c12 : Nat) (x13 : Int) (x14 : Int) : Env := [(0, (.slice x7 l8 c9)), (1, (.slice x10 l11 c12)), (12, (.int .i64 x13)), (13, (.int .i64 x14))]
def Kt21_0 (N : Int → World → Prop) (X0 : World → Prop) (K : Value → World → Prop) : Kont := fun e E w => match e with
  | .normal => gI .i64 E 13 fun x14 => N x14 w
  | .exit j => match Nat.beq j 0 with | true => (X0 w) | false => (False)
  | .ret => retG Try.prog Try.f21.results.toList K .ret E w
  | _ => False
def HL21_0 (F : Value → World → Prop) (K : Kont) (E : Env) (w : World) : Prop := match keep [0, 1, 12, 13] E with
  | [(0, (.slice x7 l8 c9)), (1, (.slice x10 l11 c12)), (12, (.int .i64 x13)), (13, (.int .i64 x14))] => LS21_0 x7 l8 c9 x10 l11 c12 x13 x14 w (fun w => K (.exit 0) [] w) F
  | _ => False
def H21 (F : Value → World → Prop) : Nat → Kont → Env → World → Prop := fun b K E w => match Nat.beq b 0 with | true => HL21_0 F K E w | false => (False)
theorem Beq21_0 (x7 : Option Addr) (l8 : Nat) (c9 : Nat) (x10 : Option Addr) (l11 : Nat) (c12 : Nat) (x13 : Int) (x14 : Int) (w : World) (N : Int → World → Prop) (X0 : World → Prop) (K : Value → World → Prop) :
    G Try.prog [8, 9, 10, 11, 12, 13, 14, 15, 16, 17, 18, 19, 20, 21, 22, 23, 24, 25, 26, 27, 28, 29, 30, 31] 26 [0, 1, 4, 5, 10, 12, 13, 14, 24] (H21 K) 0 (loopOf 0 Try.f21) (Kt21_0 N X0 K) (env21_0 x7 l8 c9 x10 l11 c12 x13 x14) w = B21_0 x7 l8 c9 x10 l11 c12 x13 x14 w N X0 K := by kernel_rfl
theorem lok21_0 (F : Value → World → Prop) : LoopOk Try.prog 26 Try.f21.results.toList F (H21 F) 0 (.loop (loopOf 0 Try.f21)) := by
  intro K E a w Q hr h hs hq
  have hs0 := hs.keep [0, 1, 12, 13]
  have h1 : HL21_0 F K E w := h
  unfold HL21_0 at h1
  split at h1
  · rename_i x7 l8 c9 x10 l11 c12 x13 x14 heq
    obtain ⟨J, ⟨n, hJ⟩, hround⟩ := h1
    rw [heq] at hs0
    refine loop_typed (qs := [8, 9, 10, 11, 12, 13, 14, 15, 16, 17, 18, 19, 20, 21, 22, 23, 24, 25, 26, 27, 28, 29, 30, 31]) (L := [0, 1, 4, 5, 10, 12, 13, 14, 24]) (rs := Try.f21.results.toList) (F := F) (H := H21 F) (b := 0) (by kernel_rfl) (allL (show loops [8, 9, 10, 11, 12, 13, 14, 15, 16, 17, 18, 19, 20, 21, 22, 23, 24, 25, 26, 27, 28, 29, 30, 31] 0 (loopOf 0 Try.f21) = [] by kernel_rfl) True.intro) (σ := Int) (fun s => env21_0 x7 l8 c9 x10 l11 c12 x13 s) (fun n s w => J n s w)
      (fun n => Kt21_0 (fun x14 w => ∃ m, m < n ∧ J m x14 w) (fun w => K (.exit 0) [] w) F) (fun _ _ _ h => h) ?_ ?_ a ?_ n x14 a w hJ (Fr.refl _ _) hs0
    · intro n s w hJ
      exact Eq.mpr (Beq21_0 x7 l8 c9 x10 l11 c12 x13 s w _ _ F) (hround n s w hJ)
    · intro n s E' w' h
      obtain ⟨x14, e13, h⟩ := gI_get h
      obtain ⟨m, hm, hJ⟩ := h
      exact ⟨m, x14, hm, hJ, ⟨.inl ⟨by kernel_rfl, rfl⟩, .inl ⟨by kernel_rfl, rfl⟩, .inl ⟨by kernel_rfl, rfl⟩, .inr e13, True.intro⟩⟩
    · intro n s a1 e E' a' w' he hs1 hf0 hf1 hs' h
      cases e with
      | normal => exact (he rfl).elim
      | exit j =>
        dsimp only [Kt21_0] at h
        cases hb : Nat.beq j 0
        case' true =>
          rw [hb] at h
          have hj := Nat.eq_of_beq_eq_true hb
          subst hj
          dsimp only at h
          exact hq _ _ _ _ (hs1.next hf1 hs' (E2 := []) True.intro) hf0 h
        rw [hb] at h
        dsimp only at h
        all_goals exact h.elim
      | ret => exact hq _ _ _ _ hs' hf0 (hr _ _ h)
      | _ => exact h.elim
  · exact h1.elim
/-- jackstay/jackstaylaw11.lists -/
def S21 (x1 : Option Addr) (l2 : Nat) (c3 : Nat) (x4 : Option Addr) (l5 : Nat) (c6 : Nat) (w : World) (K : Value → World → Prop) : Prop :=
  br (((l2 : Int) : Int) != (l5 : Int))
  (K (.bool false) w)
  (LS21_0 x1 l2 c3 x4 l5 c6 (l2 : Int) 0 w
  (fun w => K (.bool true) w) K)
theorem eq21 (x1 : Option Addr) (l2 : Nat) (c3 : Nat) (x4 : Option Addr) (l5 : Nat) (c6 : Nat) (w : World) (K : Value → World → Prop) : G Try.prog [8, 9, 10, 11, 12, 13, 14, 15, 16, 17, 18, 19, 20, 21, 22, 23, 24, 25, 26, 27, 28, 29, 30, 31] 26 [0, 1, 4, 5, 10, 12, 13, 14, 24] (H21 K) 0 (bodyOf Try.f21) (retG Try.prog Try.f21.results.toList K) (env0 0 [(.slice x1 l2 c3), (.slice x4 l5 c6)]) w = S21 x1 l2 c3 x4 l5 c6 w K := by kernel_rfl
theorem ok21 {x1 : Option Addr} {l2 : Nat} {c3 : Nat} {x4 : Option Addr} {l5 : Nat} {c6 : Nat} {w : World} {K : Value → World → Prop} (h : S21 x1 l2 c3 x4 l5 c6 w K) : callV Try.prog 21 #[(.slice x1 l2 c3), (.slice x4 l5 c6)] w K :=
  call_sound (qs := [8, 9, 10, 11, 12, 13, 14, 15, 16, 17, 18, 19, 20, 21, 22, 23, 24, 25, 26, 27, 28, 29, 30, 31]) (args := [(.slice x1 l2 c3), (.slice x4 l5 c6)]) (by kernel_rfl) (Try.func21) (c := bodyOf Try.f21) (by kernel_rfl) (by kernel_rfl) (allL (show loops [8, 9, 10, 11, 12, 13, 14, 15, 16, 17, 18, 19, 20, 21, 22, 23, 24, 25, 26, 27, 28, 29, 30, 31] 0 (bodyOf Try.f21) = [(0, .loop (loopOf 0 Try.f21))] by kernel_rfl) ⟨lok21_0 K, True.intro⟩) (Eq.mpr (eq21 x1 l2 c3 x4 l5 c6 w K) h)
def H22 (_F : Value → World → Prop) : Nat → Kont → Env → World → Prop := fun _ _ _ _ => False
/-- slices.ContainsFunc[[]jackstay/api.Filter,jackstay/api.Filter] -/
def S22 (x1 : Option Addr) (l2 : Nat) (c3 : Nat) (x4 : Value) (w : World) (K : Value → World → Prop) : Prop :=
  callQ Try.prog 24 #[(.slice x1 l2 c3), x4] w fun v5 w => ∃ n6 : Int, v5 = (.int .i64 n6) ∧ K (.bool (decide ((n6 : Int) ≥ 0))) w
theorem eq22 (x1 : Option Addr) (l2 : Nat) (c3 : Nat) (x4 : Value) (w : World) (K : Value → World → Prop) : G Try.prog [8, 9, 10, 11, 12, 13, 14, 15, 16, 17, 18, 19, 20, 21, 22, 23, 24, 25, 26, 27, 28, 29, 30, 31] 9 [0, 1, 4] (H22 K) 0 (bodyOf Try.f22) (retG Try.prog Try.f22.results.toList K) (env0 0 [(.slice x1 l2 c3), x4]) w = S22 x1 l2 c3 x4 w K := by kernel_rfl
theorem ok22 {x1 : Option Addr} {l2 : Nat} {c3 : Nat} {x4 : Value} {w : World} {K : Value → World → Prop} (h : S22 x1 l2 c3 x4 w K) : callV Try.prog 22 #[(.slice x1 l2 c3), x4] w K :=
  call_sound (qs := [8, 9, 10, 11, 12, 13, 14, 15, 16, 17, 18, 19, 20, 21, 22, 23, 24, 25, 26, 27, 28, 29, 30, 31]) (args := [(.slice x1 l2 c3), x4]) (by kernel_rfl) (Try.func22) (c := bodyOf Try.f22) (by kernel_rfl) (by kernel_rfl) (allL (show loops [8, 9, 10, 11, 12, 13, 14, 15, 16, 17, 18, 19, 20, 21, 22, 23, 24, 25, 26, 27, 28, 29, 30, 31] 0 (bodyOf Try.f22) = [] by kernel_rfl) True.intro) (Eq.mpr (eq22 x1 l2 c3 x4 w K) h)
def H23 (_F : Value → World → Prop) : Nat → Kont → Env → World → Prop := fun _ _ _ _ => False
/-- jackstay/filter.lets -/
def S23 (x1 : Int) (x2 : Bool) (x3 : Bool) (x4 : Int) (x5 : Option Addr) (l6 : Nat) (c7 : Nat) (w : World) (K : Value → World → Prop) : Prop :=
  al w (.cells #[(.int .u32 x1), (.bool x2), (.bool x3), (.int .u8 x4), (.slice x5 l6 c7)] 30) fun r8 w => K (.func (.func 30) #[] #[(.pointer (some ⟨r8, 0, none⟩))]) w
theorem eq23 (x1 : Int) (x2 : Bool) (x3 : Bool) (x4 : Int) (x5 : Option Addr) (l6 : Nat) (c7 : Nat) (w : World) (K : Value → World → Prop) : G Try.prog [8, 9, 10, 11, 12, 13, 14, 15, 16, 17, 18, 19, 20, 21, 22, 23, 24, 25, 26, 27, 28, 29, 30, 31] 4 [0, 1, 2] (H23 K) 0 (bodyOf Try.f23) (retG Try.prog Try.f23.results.toList K) (env0 0 [(.agg #[(.int .u32 x1), (.bool x2), (.bool x3), (.int .u8 x4), (.slice x5 l6 c7)])]) w = S23 x1 x2 x3 x4 x5 l6 c7 w K := by kernel_rfl
theorem ok23 {x1 : Int} {x2 : Bool} {x3 : Bool} {x4 : Int} {x5 : Option Addr} {l6 : Nat} {c7 : Nat} {w : World} {K : Value → World → Prop} (h : S23 x1 x2 x3 x4 x5 l6 c7 w K) : callV Try.prog 23 #[(.agg #[(.int .u32 x1), (.bool x2), (.bool x3), (.int .u8 x4), (.slice x5 l6 c7)])] w K :=
  call_sound (qs := [8, 9, 10, 11, 12, 13, 14, 15, 16, 17, 18, 19, 20, 21, 22, 23, 24, 25, 26, 27, 28, 29, 30, 31]) (args := [(.agg #[(.int .u32 x1), (.bool x2), (.bool x3), (.int .u8 x4), (.slice x5 l6 c7)])]) (by kernel_rfl) (Try.func23) (c := bodyOf Try.f23) (by kernel_rfl) (by kernel_rfl) (allL (show loops [8, 9, 10, 11, 12, 13, 14, 15, 16, 17, 18, 19, 20, 21, 22, 23, 24, 25, 26, 27, 28, 29, 30, 31] 0 (bodyOf Try.f23) = [] by kernel_rfl) True.intro) (Eq.mpr (eq23 x1 x2 x3 x4 x5 l6 c7 w K) h)
def B24_0 (x5 : Option Addr) (l6 : Nat) (c7 : Nat) (x8 : Value) (x9 : Int) (x10 : Int) (w : World) (N : Int → World → Prop) (X0 : World → Prop) (K : Value → World → Prop) : Prop :=
  br (decide ((x10 : Int) < x9))
  (idx x5 l6 3 x10 fun a11 => ∃ b12 : Bool, w.cell? a11 = some (.bool b12) ∧ ∃ n13 : Int, w.cell? (a11.add 1) = some (.int .u32 n13) ∧ ∃ n14 : Int, w.cell? (a11.add 2) = some (.int .u32 n14) ∧ callF Try.prog x8 #[(.agg #[(.bool b12), (.int .u32 n13), (.int .u32 n14)])] w fun v15 w => ∃ b16 : Bool, v15 = (.bool b16) ∧ br b16
  (K (.int .i64 x10) w)
  (N (IntKind.wrap .i64 (x10 + 1)) w))
  (X0 w)
/-- The loop in block 0 of function 24: by what holds at its head. -/
def LS24_0 (x5 : Option Addr) (l6 : Nat) (c7 : Nat) (x8 : Value) (x9 : Int) (x10 : Int) (w : World) (X0 : World → Prop) (K : Value → World → Prop) : Prop :=
  ∃ J : Nat → Int → World → Prop, (∃ n, J n x10 w) ∧ ∀ n x10 w, J n x10 w → B24_0 x5 l6 c7 x8 x9 x10 w (fun x10 w => ∃ m, m < n ∧ J m x10 w) X0 K
abbrev env24_0 (x5 : Option Addr) (l6 : Nat) (c7 : Nat) (x8 : Value) (x9 : Int) (x10 : Int) : Env := [(0, (.slice x5 l6 c7)), (1, x8), (7, (.int .i64 x9)), (8, (.int .i64 x10))]
def Kt24_0 (N : Int → World → Prop) (X0 : World → Prop) (K : Value → World → Prop) : Kont := fun e E w => match e with
  | .normal => gI .i64 E 8 fun x10 => N x10 w
  | .exit j => match Nat.beq j 0 with | true => (X0 w) | false => (False)
  | .ret => retG Try.prog Try.f24.results.toList K .ret E w
  | _ => False
def HL24_0 (F : Value → World → Prop) (K : Kont) (E : Env) (w : World) : Prop := match keep [0, 1, 7, 8] E with
  | [(0, (.slice x5 l6 c7)), (1, x8), (7, (.int .i64 x9)), (8, (.int .i64 x10))] => LS24_0 x5 l6 c7 x8 x9 x10 w (fun w => K (.exit 0) [] w) F
  | _ => False
def H24 (F : Value → World → Prop) : Nat → Kont → Env → World → Prop := fun b K E w => match Nat.beq b 0 with | true => HL24_0 F K E w | false => (False)
theorem Beq24_0 (x5 : Option Addr) (l6 : Nat) (c7 : Nat) (x8 : Value) (x9 : Int) (x10 : Int) (w : World) (N : Int → World → Prop) (X0 : World → Prop) (K : Value → World → Prop) :
    G Try.prog [8, 9, 10, 11, 12, 13, 14, 15, 16, 17, 18, 19, 20, 21, 22, 23, 24, 25, 26, 27, 28, 29, 30, 31] 19 [0, 1, 4, 5, 7, 8, 9, 16] (H24 K) 0 (loopOf 0 Try.f24) (Kt24_0 N X0 K) (env24_0 x5 l6 c7 x8 x9 x10) w = B24_0 x5 l6 c7 x8 x9 x10 w N X0 K := by kernel_rfl
theorem lok24_0 (F : Value → World → Prop) : LoopOk Try.prog 19 Try.f24.results.toList F (H24 F) 0 (.loop (loopOf 0 Try.f24)) := by
  intro K E a w Q hr h hs hq
  have hs0 := hs.keep [0, 1, 7, 8]
  have h1 : HL24_0 F K E w := h
  unfold HL24_0 at h1
  split at h1
  · rename_i x5 l6 c7 x8 x9 x10 heq
    obtain ⟨J, ⟨n, hJ⟩, hround⟩ := h1
    rw [heq] at hs0
    refine loop_typed (qs := [8, 9, 10, 11, 12, 13, 14, 15, 16, 17, 18, 19, 20, 21, 22, 23, 24, 25, 26, 27, 28, 29, 30, 31]) (L := [0, 1, 4, 5, 7, 8, 9, 16]) (rs := Try.f24.results.toList) (F := F) (H := H24 F) (b := 0) (by kernel_rfl) (allL (show loops [8, 9, 10, 11, 12, 13, 14, 15, 16, 17, 18, 19, 20, 21, 22, 23, 24, 25, 26, 27, 28, 29, 30, 31] 0 (loopOf 0 Try.f24) = [] by kernel_rfl) True.intro) (σ := Int) (fun s => env24_0 x5 l6 c7 x8 x9 s) (fun n s w => J n s w)
      (fun n => Kt24_0 (fun x10 w => ∃ m, m < n ∧ J m x10 w) (fun w => K (.exit 0) [] w) F) (fun _ _ _ h => h) ?_ ?_ a ?_ n x10 a w hJ (Fr.refl _ _) hs0
    · intro n s w hJ
      exact Eq.mpr (Beq24_0 x5 l6 c7 x8 x9 s w _ _ F) (hround n s w hJ)
    · intro n s E' w' h
      obtain ⟨x10, e8, h⟩ := gI_get h
      obtain ⟨m, hm, hJ⟩ := h
      exact ⟨m, x10, hm, hJ, ⟨.inl ⟨by kernel_rfl, rfl⟩, .inl ⟨by kernel_rfl, rfl⟩, .inl ⟨by kernel_rfl, rfl⟩, .inr e8, True.intro⟩⟩
    · intro n s a1 e E' a' w' he hs1 hf0 hf1 hs' h
      cases e with
      | normal => exact (he rfl).elim
      | exit j =>
        dsimp only [Kt24_0] at h
        cases hb : Nat.beq j 0
        case' true =>
          rw [hb] at h
          have hj := Nat.eq_of_beq_eq_true hb
          subst hj
          dsimp only at h
          exact hq _ _ _ _ (hs1.next hf1 hs' (E2 := []) True.intro) hf0 h
        rw [hb] at h
        dsimp only at h
        all_goals exact h.elim
      | ret => exact hq _ _ _ _ hs' hf0 (hr _ _ h)
      | _ => exact h.elim
  · exact h1.elim
/-- slices.IndexFunc[[]jackstay/api.Filter,jackstay/api.Filter] -/
def S24 (x1 : Option Addr) (l2 : Nat) (c3 : Nat) (x4 : Value) (w : World) (K : Value → World → Prop) : Prop :=
  LS24_0 x1 l2 c3 x4 (l2 : Int) 0 w
  (fun w => K (.int .i64 (-1)) w) K
theorem eq24 (x1 : Option Addr) (l2 : Nat) (c3 : Nat) (x4 : Value) (w : World) (K : Value → World → Prop) : G Try.prog [8, 9, 10, 11, 12, 13, 14, 15, 16, 17, 18, 19, 20, 21, 22, 23, 24, 25, 26, 27, 28, 29, 30, 31] 19 [0, 1, 4, 5, 7, 8, 9, 16] (H24 K) 0 (bodyOf Try.f24) (retG Try.prog Try.f24.results.toList K) (env0 0 [(.slice x1 l2 c3), x4]) w = S24 x1 l2 c3 x4 w K := by kernel_rfl
theorem ok24 {x1 : Option Addr} {l2 : Nat} {c3 : Nat} {x4 : Value} {w : World} {K : Value → World → Prop} (h : S24 x1 l2 c3 x4 w K) : callV Try.prog 24 #[(.slice x1 l2 c3), x4] w K :=
  call_sound (qs := [8, 9, 10, 11, 12, 13, 14, 15, 16, 17, 18, 19, 20, 21, 22, 23, 24, 25, 26, 27, 28, 29, 30, 31]) (args := [(.slice x1 l2 c3), x4]) (by kernel_rfl) (Try.func24) (c := bodyOf Try.f24) (by kernel_rfl) (by kernel_rfl) (allL (show loops [8, 9, 10, 11, 12, 13, 14, 15, 16, 17, 18, 19, 20, 21, 22, 23, 24, 25, 26, 27, 28, 29, 30, 31] 0 (bodyOf Try.f24) = [(0, .loop (loopOf 0 Try.f24))] by kernel_rfl) ⟨lok24_0 K, True.intro⟩) (Eq.mpr (eq24 x1 l2 c3 x4 w K) h)
def H26 (_F : Value → World → Prop) : Nat → Kont → Env → World → Prop := fun _ _ _ _ => False
/-- jackstay/filter.most -/
def S26 (x1 : Bool) (w : World) (K : Value → World → Prop) : Prop :=
  br x1
  (K (.int .u32 536870911) w)
  (K (.int .u32 2047) w)
theorem eq26 (x1 : Bool) (w : World) (K : Value → World → Prop) : G Try.prog [8, 9, 10, 11, 12, 13, 14, 15, 16, 17, 18, 19, 20, 21, 22, 23, 24, 25, 26, 27, 28, 29, 30, 31] 4 [0, 2, 3] (H26 K) 0 (bodyOf Try.f26) (retG Try.prog Try.f26.results.toList K) (env0 0 [(.bool x1)]) w = S26 x1 w K := by kernel_rfl
theorem ok26 {x1 : Bool} {w : World} {K : Value → World → Prop} (h : S26 x1 w K) : callV Try.prog 26 #[(.bool x1)] w K :=
  call_sound (qs := [8, 9, 10, 11, 12, 13, 14, 15, 16, 17, 18, 19, 20, 21, 22, 23, 24, 25, 26, 27, 28, 29, 30, 31]) (args := [(.bool x1)]) (by kernel_rfl) (Try.func26) (c := bodyOf Try.f26) (by kernel_rfl) (by kernel_rfl) (allL (show loops [8, 9, 10, 11, 12, 13, 14, 15, 16, 17, 18, 19, 20, 21, 22, 23, 24, 25, 26, 27, 28, 29, 30, 31] 0 (bodyOf Try.f26) = [] by kernel_rfl) True.intro) (Eq.mpr (eq26 x1 w K) h)
def H27 (_F : Value → World → Prop) : Nat → Kont → Env → World → Prop := fun _ _ _ _ => False
/-- jackstay/filter.rising[uint32] -/
def S27 (x1 : Option Addr) (l2 : Nat) (c3 : Nat) (w : World) (K : Value → World → Prop) : Prop :=
  callQ Try.prog 31 #[(.slice x1 l2 c3)] w fun v4 w => ∃ (p5 : Option Addr) (l6 c7 : Nat), v4 = (.slice p5 l6 c7) ∧ callV Try.prog 32 #[(.slice p5 l6 c7)] w fun v8 w => v8 = (.tuple #[]) ∧ callV Try.prog 33 #[(.slice p5 l6 c7)] w fun v9 w => ∃ (p10 : Option Addr) (l11 c12 : Nat), v9 = (.slice p10 l11 c12) ∧ K (.slice p10 l11 c12) w
theorem eq27 (x1 : Option Addr) (l2 : Nat) (c3 : Nat) (w : World) (K : Value → World → Prop) : G Try.prog [8, 9, 10, 11, 12, 13, 14, 15, 16, 17, 18, 19, 20, 21, 22, 23, 24, 25, 26, 27, 28, 29, 30, 31] 10 [0, 2, 3] (H27 K) 0 (bodyOf Try.f27) (retG Try.prog Try.f27.results.toList K) (env0 0 [(.slice x1 l2 c3)]) w = S27 x1 l2 c3 w K := by kernel_rfl
theorem ok27 {x1 : Option Addr} {l2 : Nat} {c3 : Nat} {w : World} {K : Value → World → Prop} (h : S27 x1 l2 c3 w K) : callV Try.prog 27 #[(.slice x1 l2 c3)] w K :=
  call_sound (qs := [8, 9, 10, 11, 12, 13, 14, 15, 16, 17, 18, 19, 20, 21, 22, 23, 24, 25, 26, 27, 28, 29, 30, 31]) (args := [(.slice x1 l2 c3)]) (by kernel_rfl) (Try.func27) (c := bodyOf Try.f27) (by kernel_rfl) (by kernel_rfl) (allL (show loops [8, 9, 10, 11, 12, 13, 14, 15, 16, 17, 18, 19, 20, 21, 22, 23, 24, 25, 26, 27, 28, 29, 30, 31] 0 (bodyOf Try.f27) = [] by kernel_rfl) True.intro) (Eq.mpr (eq27 x1 l2 c3 w K) h)
def H30 (_F : Value → World → Prop) : Nat → Kont → Env → World → Prop := fun _ _ _ _ => False
/-- jackstay/filter.lets$1 -/
def S30 (x1 : Bool) (x2 : Int) (x3 : Int) (a4 : Addr) (w : World) (K : Value → World → Prop) : Prop :=
  al w (.cells #[(.bool x1), (.int .u32 x2), (.int .u32 x3)] 24) fun r5 w => ∃ b6 : Bool, w.cell? ⟨r5, 0, none⟩ = some (.bool b6) ∧ ∃ n7 : Int, w.cell? ⟨r5, 1, none⟩ = some (.int .u32 n7) ∧ ∃ n8 : Int, w.cell? ⟨r5, 2, none⟩ = some (.int .u32 n8) ∧ callQ Try.prog 18 #[(.agg #[(.bool b6), (.int .u32 n7), (.int .u32 n8)])] w fun v9 w => ∃ b10 : Bool, v9 = (.bool b10) ∧ br b10
  (∃ b11 : Bool, w.cell? ⟨r5, 0, none⟩ = some (.bool b11) ∧ ∃ b12 : Bool, w.cell? (a4.add 1) = some (.bool b12) ∧ br (b11 == b12)
  (∃ n13 : Int, w.cell? a4 = some (.int .u32 n13) ∧ ∃ n14 : Int, w.cell? ⟨r5, 1, none⟩ = some (.int .u32 n14) ∧ ∃ n15 : Int, w.cell? ⟨r5, 2, none⟩ = some (.int .u32 n15) ∧ K (.bool (((IntKind.wrap .u32 ((BitVec.ofInt 32 n13 &&& (BitVec.ofInt 32 n14)).toNat : Int)) : Int) == n15)) w)
  (K (.bool false) w))
  (K (.bool false) w)
theorem eq30 (x1 : Bool) (x2 : Int) (x3 : Int) (a4 : Addr) (w : World) (K : Value → World → Prop) : G Try.prog [8, 9, 10, 11, 12, 13, 14, 15, 16, 17, 18, 19, 20, 21, 22, 23, 24, 25, 26, 27, 28, 29, 30, 31] 23 [0, 1, 2, 3] (H30 K) 0 (bodyOf Try.f30) (retG Try.prog Try.f30.results.toList K) (env0 0 [(.agg #[(.bool x1), (.int .u32 x2), (.int .u32 x3)]), (.pointer (some a4))]) w = S30 x1 x2 x3 a4 w K := by kernel_rfl
theorem ok30 {x1 : Bool} {x2 : Int} {x3 : Int} {a4 : Addr} {w : World} {K : Value → World → Prop} (h : S30 x1 x2 x3 a4 w K) : callV Try.prog 30 #[(.agg #[(.bool x1), (.int .u32 x2), (.int .u32 x3)]), (.pointer (some a4))] w K :=
  call_sound (qs := [8, 9, 10, 11, 12, 13, 14, 15, 16, 17, 18, 19, 20, 21, 22, 23, 24, 25, 26, 27, 28, 29, 30, 31]) (args := [(.agg #[(.bool x1), (.int .u32 x2), (.int .u32 x3)]), (.pointer (some a4))]) (by kernel_rfl) (Try.func30) (c := bodyOf Try.f30) (by kernel_rfl) (by kernel_rfl) (allL (show loops [8, 9, 10, 11, 12, 13, 14, 15, 16, 17, 18, 19, 20, 21, 22, 23, 24, 25, 26, 27, 28, 29, 30, 31] 0 (bodyOf Try.f30) = [] by kernel_rfl) True.intro) (Eq.mpr (eq30 x1 x2 x3 a4 w K) h)
def H31 (_F : Value → World → Prop) : Nat → Kont → Env → World → Prop := fun _ _ _ _ => False
/-- slices.Clone[[]uint32,uint32] -/
def S31 (x1 : Option Addr) (l2 : Nat) (c3 : Nat) (w : World) (K : Value → World → Prop) : Prop :=
  br x1.isNone
  (K (.slice none 0 0) w)
  (al w (.cells #[] 22) fun r4 w => runV Try.prog (Builtin.append_ #[36, 36] 36 #[(.slice (some ⟨r4, 0, none⟩) 0 0), (.slice x1 l2 c3)]) w fun v5 w => ∃ (p6 : Option Addr) (l7 c8 : Nat), v5 = (.slice p6 l7 c8) ∧ K (.slice p6 l7 c8) w)
theorem eq31 (x1 : Option Addr) (l2 : Nat) (c3 : Nat) (w : World) (K : Value → World → Prop) : G Try.prog [8, 9, 10, 11, 12, 13, 14, 15, 16, 17, 18, 19, 20, 21, 22, 23, 24, 25, 26, 27, 28, 29, 30, 31] 8 [0, 2, 4] (H31 K) 0 (bodyOf Try.f31) (retG Try.prog Try.f31.results.toList K) (env0 0 [(.slice x1 l2 c3)]) w = S31 x1 l2 c3 w K := by kernel_rfl
theorem ok31 {x1 : Option Addr} {l2 : Nat} {c3 : Nat} {w : World} {K : Value → World → Prop} (h : S31 x1 l2 c3 w K) : callV Try.prog 31 #[(.slice x1 l2 c3)] w K :=
  call_sound (qs := [8, 9, 10, 11, 12, 13, 14, 15, 16, 17, 18, 19, 20, 21, 22, 23, 24, 25, 26, 27, 28, 29, 30, 31]) (args := [(.slice x1 l2 c3)]) (by kernel_rfl) (Try.func31) (c := bodyOf Try.f31) (by kernel_rfl) (by kernel_rfl) (allL (show loops [8, 9, 10, 11, 12, 13, 14, 15, 16, 17, 18, 19, 20, 21, 22, 23, 24, 25, 26, 27, 28, 29, 30, 31] 0 (bodyOf Try.f31) = [] by kernel_rfl) True.intro) (Eq.mpr (eq31 x1 l2 c3 w K) h)
def B33_2 (x15 : Option Addr) (l16 : Nat) (c17 : Nat) (x19 : Option Addr) (l20 : Nat) (c21 : Nat) (x18 : Int) (x22 : Int) (w : World) (N : Int → Int → World → Prop) (X2 : Int → World → Prop) (K : Value → World → Prop) : Prop :=
  br (decide ((x22 : Int) < (l20 : Int)))
  (jn (fun (x30 : Int) (w : World) =>
  N x30 (IntKind.wrap .i64 (x22 + 1)) w) fun J31 =>
  dr w fun w =>
  idx x19 l20 1 x22 fun a23 => ∃ n24 : Int, w.cell? a23 = some (.int .u32 n24) ∧ idx x19 l20 1 (IntKind.wrap .i64 (x22 - 1)) fun a25 => ∃ n26 : Int, w.cell? a25 = some (.int .u32 n26) ∧ br ((n24 : Int) != n26)
  (idx x19 l20 1 x22 fun a27 => ∃ n28 : Int, w.cell? a27 = some (.int .u32 n28) ∧ idx x15 l16 1 x18 fun a29 => stL w a29 0 [(.int .u32 n28)] fun w => J31 (IntKind.wrap .i64 (x18 + 1)) w)
  (J31 x18 w))
  (X2 x18 w)
/-- The loop in block 2 of function 33: by what holds at its head. -/
def LS33_2 (x15 : Option Addr) (l16 : Nat) (c17 : Nat) (x19 : Option Addr) (l20 : Nat) (c21 : Nat) (x18 : Int) (x22 : Int) (w : World) (X2 : Int → World → Prop) (K : Value → World → Prop) : Prop :=
  ∃ J : Nat → Int → Int → World → Prop, (∃ n, J n x18 x22 w) ∧ ∀ n x18 x22 w, J n x18 x22 w → B33_2 x15 l16 c17 x19 l20 c21 x18 x22 w (fun x18 x22 w => ∃ m, m < n ∧ J m x18 x22 w) X2 K
abbrev env33_2 (x15 : Option Addr) (l16 : Nat) (c17 : Nat) (x19 : Option Addr) (l20 : Nat) (c21 : Nat) (x18 : Int) (x22 : Int) : Env := [(0, (.slice x15 l16 c17)), (3, (.int .i64 x18)), (4, (.slice x19 l20 c21)), (5, (.int .i64 x22))]
def Kt33_2 (N : Int → Int → World → Prop) (X2 : Int → World → Prop) (K : Value → World → Prop) : Kont := fun e E w => match e with
  | .normal => gI .i64 E 3 fun x18 => gI .i64 E 5 fun x22 => N x18 x22 w
  | .exit j => match Nat.beq j 2 with | true => (gI .i64 E 3 fun x32 => X2 x32 w) | false => (False)
  | .ret => retG Try.prog Try.f33.results.toList K .ret E w
  | _ => False
def HL33_2 (F : Value → World → Prop) (K : Kont) (E : Env) (w : World) : Prop := match keep [0, 3, 4, 5] E with
  | [(0, (.slice x15 l16 c17)), (3, (.int .i64 x18)), (4, (.slice x19 l20 c21)), (5, (.int .i64 x22))] => LS33_2 x15 l16 c17 x19 l20 c21 x18 x22 w (fun (x32 : Int) w => K (.exit 2) [(0, (.slice x15 l16 c17)), (3, (.int .i64 x32))] w) F
  | _ => False
def B33_0 (x4 : Option Addr) (l5 : Nat) (c6 : Nat) (x7 : Int) (w : World) (N : Int → World → Prop) (X0 : World → Prop) (K : Value → World → Prop) : Prop :=
  br (decide ((x7 : Int) < (l5 : Int)))
  (dr w fun w =>
  idx x4 l5 1 x7 fun a8 => ∃ n9 : Int, w.cell? a8 = some (.int .u32 n9) ∧ idx x4 l5 1 (IntKind.wrap .i64 (x7 - 1)) fun a10 => ∃ n11 : Int, w.cell? a10 = some (.int .u32 n11) ∧ br ((n9 : Int) == n11)
  (slc x4 l5 c6 1 (some x7) none none fun p12 l13 c14 => LS33_2 x4 l5 c6 p12 l13 c14 x7 1 w
  (fun (x32 : Int) w => slc x4 l5 c6 1 (some x32) none none fun p33 l34 c35 => runV Try.prog (Builtin.clear_ #[36] 0 #[(.slice p33 l34 c35)]) w fun v36 w => v36 = (.tuple #[]) ∧ slc x4 l5 c6 1 none (some x32) none fun p37 l38 c39 => K (.slice p37 l38 c39) w) K)
  (N (IntKind.wrap .i64 (x7 + 1)) w))
  (X0 w)
/-- The loop in block 0 of function 33: by what holds at its head. -/
def LS33_0 (x4 : Option Addr) (l5 : Nat) (c6 : Nat) (x7 : Int) (w : World) (X0 : World → Prop) (K : Value → World → Prop) : Prop :=
  ∃ J : Nat → Int → World → Prop, (∃ n, J n x7 w) ∧ ∀ n x7 w, J n x7 w → B33_0 x4 l5 c6 x7 w (fun x7 w => ∃ m, m < n ∧ J m x7 w) X0 K
abbrev env33_0 (x4 : Option Addr) (l5 : Nat) (c6 : Nat) (x7 : Int) : Env := [(0, (.slice x4 l5 c6)), (3, (.int .i64 x7))]
def Kt33_0 (N : Int → World → Prop) (X0 : World → Prop) (K : Value → World → Prop) : Kont := fun e E w => match e with
  | .normal => gI .i64 E 3 fun x7 => N x7 w
  | .exit j => match Nat.beq j 0 with | true => (X0 w) | false => (False)
  | .ret => retG Try.prog Try.f33.results.toList K .ret E w
  | _ => False
def HL33_0 (F : Value → World → Prop) (K : Kont) (E : Env) (w : World) : Prop := match keep [0, 3] E with
  | [(0, (.slice x4 l5 c6)), (3, (.int .i64 x7))] => LS33_0 x4 l5 c6 x7 w (fun w => K (.exit 0) [(0, (.slice x4 l5 c6))] w) F
  | _ => False
def H33 (F : Value → World → Prop) : Nat → Kont → Env → World → Prop := fun b K E w => match Nat.beq b 2 with | true => HL33_2 F K E w | false => (match Nat.beq b 0 with | true => HL33_0 F K E w | false => (False))
theorem Beq33_2 (x15 : Option Addr) (l16 : Nat) (c17 : Nat) (x19 : Option Addr) (l20 : Nat) (c21 : Nat) (x18 : Int) (x22 : Int) (w : World) (N : Int → Int → World → Prop) (X2 : Int → World → Prop) (K : Value → World → Prop) :
    G Try.prog [8, 9, 10, 11, 12, 13, 14, 15, 16, 17, 18, 19, 20, 21, 22, 23, 24, 25, 26, 27, 28, 29, 30, 31] 61 [0, 2, 3, 4, 5, 8, 13, 25, 32, 44] (H33 K) 2 (loopOf 2 Try.f33) (Kt33_2 N X2 K) (env33_2 x15 l16 c17 x19 l20 c21 x18 x22) w = B33_2 x15 l16 c17 x19 l20 c21 x18 x22 w N X2 K := by kernel_rfl
theorem lok33_2 (F : Value → World → Prop) : LoopOk Try.prog 61 Try.f33.results.toList F (H33 F) 2 (.loop (loopOf 2 Try.f33)) := by
  intro K E a w Q hr h hs hq
  have hs0 := hs.keep [0, 3, 4, 5]
  have h1 : HL33_2 F K E w := h
  unfold HL33_2 at h1
  split at h1
  · rename_i x15 l16 c17 x18 x19 l20 c21 x22 heq
    obtain ⟨J, ⟨n, hJ⟩, hround⟩ := h1
    rw [heq] at hs0
    refine loop_typed (qs := [8, 9, 10, 11, 12, 13, 14, 15, 16, 17, 18, 19, 20, 21, 22, 23, 24, 25, 26, 27, 28, 29, 30, 31]) (L := [0, 2, 3, 4, 5, 8, 13, 25, 32, 44]) (rs := Try.f33.results.toList) (F := F) (H := H33 F) (b := 2) (by kernel_rfl) (allL (show loops [8, 9, 10, 11, 12, 13, 14, 15, 16, 17, 18, 19, 20, 21, 22, 23, 24, 25, 26, 27, 28, 29, 30, 31] 2 (loopOf 2 Try.f33) = [] by kernel_rfl) True.intro) (σ := Int × Int) (fun s => env33_2 x15 l16 c17 x19 l20 c21 s.1 s.2) (fun n s w => J n s.1 s.2 w)
      (fun n => Kt33_2 (fun x18 x22 w => ∃ m, m < n ∧ J m x18 x22 w) (fun (x32 : Int) w => K (.exit 2) [(0, (.slice x15 l16 c17)), (3, (.int .i64 x32))] w) F) (fun _ _ _ h => h) ?_ ?_ a ?_ n (x18, x22) a w hJ (Fr.refl _ _) hs0
    · intro n s w hJ
      exact Eq.mpr (Beq33_2 x15 l16 c17 x19 l20 c21 s.1 s.2 w _ _ F) (hround n s.1 s.2 w hJ)
    · intro n s E' w' h
      obtain ⟨x18, e3, h⟩ := gI_get h
      obtain ⟨x22, e5, h⟩ := gI_get h
      obtain ⟨m, hm, hJ⟩ := h
      exact ⟨m, (x18, x22), hm, hJ, ⟨.inl ⟨by kernel_rfl, rfl⟩, .inr e3, .inl ⟨by kernel_rfl, rfl⟩, .inr e5, True.intro⟩⟩
    · intro n s a1 e E' a' w' he hs1 hf0 hf1 hs' h
      cases e with
      | normal => exact (he rfl).elim
      | exit j =>
        dsimp only [Kt33_2] at h
        cases hb : Nat.beq j 2
        case' true =>
          rw [hb] at h
          have hj := Nat.eq_of_beq_eq_true hb
          subst hj
          dsimp only at h
          obtain ⟨x32, e3, h⟩ := gI_get h
          exact hq _ _ _ _ (hs1.next hf1 hs' (E2 := [(0, (.slice x15 l16 c17)), (3, (.int .i64 x32))]) ⟨.inl ⟨by kernel_rfl, rfl⟩, .inr e3, True.intro⟩) hf0 h
        rw [hb] at h
        dsimp only at h
        all_goals exact h.elim
      | ret => exact hq _ _ _ _ hs' hf0 (hr _ _ h)
      | _ => exact h.elim
  · exact h1.elim
theorem Beq33_0 (x4 : Option Addr) (l5 : Nat) (c6 : Nat) (x7 : Int) (w : World) (N : Int → World → Prop) (X0 : World → Prop) (K : Value → World → Prop) :
    G Try.prog [8, 9, 10, 11, 12, 13, 14, 15, 16, 17, 18, 19, 20, 21, 22, 23, 24, 25, 26, 27, 28, 29, 30, 31] 61 [0, 2, 3, 4, 5, 8, 13, 25, 32, 44] (H33 K) 0 (loopOf 0 Try.f33) (Kt33_0 N X0 K) (env33_0 x4 l5 c6 x7) w = B33_0 x4 l5 c6 x7 w N X0 K := by kernel_rfl
theorem lok33_0 (F : Value → World → Prop) : LoopOk Try.prog 61 Try.f33.results.toList F (H33 F) 0 (.loop (loopOf 0 Try.f33)) := by
  intro K E a w Q hr h hs hq
  have hs0 := hs.keep [0, 3]
  have h1 : HL33_0 F K E w := h
  unfold HL33_0 at h1
  split at h1
  · rename_i x4 l5 c6 x7 heq
    obtain ⟨J, ⟨n, hJ⟩, hround⟩ := h1
    rw [heq] at hs0
    refine loop_typed (qs := [8, 9, 10, 11, 12, 13, 14, 15, 16, 17, 18, 19, 20, 21, 22, 23, 24, 25, 26, 27, 28, 29, 30, 31]) (L := [0, 2, 3, 4, 5, 8, 13, 25, 32, 44]) (rs := Try.f33.results.toList) (F := F) (H := H33 F) (b := 0) (by kernel_rfl) (allL (show loops [8, 9, 10, 11, 12, 13, 14, 15, 16, 17, 18, 19, 20, 21, 22, 23, 24, 25, 26, 27, 28, 29, 30, 31] 0 (loopOf 0 Try.f33) = [(2, .loop (loopOf 2 Try.f33))] by kernel_rfl) ⟨lok33_2 F, True.intro⟩) (σ := Int) (fun s => env33_0 x4 l5 c6 s) (fun n s w => J n s w)
      (fun n => Kt33_0 (fun x7 w => ∃ m, m < n ∧ J m x7 w) (fun w => K (.exit 0) [(0, (.slice x4 l5 c6))] w) F) (fun _ _ _ h => h) ?_ ?_ a ?_ n x7 a w hJ (Fr.refl _ _) hs0
    · intro n s w hJ
      exact Eq.mpr (Beq33_0 x4 l5 c6 s w _ _ F) (hround n s w hJ)
    · intro n s E' w' h
      obtain ⟨x7, e3, h⟩ := gI_get h
      obtain ⟨m, hm, hJ⟩ := h
      exact ⟨m, x7, hm, hJ, ⟨.inl ⟨by kernel_rfl, rfl⟩, .inr e3, True.intro⟩⟩
    · intro n s a1 e E' a' w' he hs1 hf0 hf1 hs' h
      cases e with
      | normal => exact (he rfl).elim
      | exit j =>
        dsimp only [Kt33_0] at h
        cases hb : Nat.beq j 0
        case' true =>
          rw [hb] at h
          have hj := Nat.eq_of_beq_eq_true hb
          subst hj
          dsimp only at h
          exact hq _ _ _ _ (hs1.next hf1 hs' (E2 := [(0, (.slice x4 l5 c6))]) ⟨.inl ⟨by kernel_rfl, rfl⟩, True.intro⟩) hf0 h
        rw [hb] at h
        dsimp only at h
        all_goals exact h.elim
      | ret => exact hq _ _ _ _ hs' hf0 (hr _ _ h)
      | _ => exact h.elim
  · exact h1.elim
/-- slices.Compact[[]uint32,uint32] -/
def S33 (x1 : Option Addr) (l2 : Nat) (c3 : Nat) (w : World) (K : Value → World → Prop) : Prop :=
  br (decide (((l2 : Int) : Int) < 2))
  (K (.slice x1 l2 c3) w)
  (LS33_0 x1 l2 c3 1 w
  (fun w => K (.slice x1 l2 c3) w) K)
theorem eq33 (x1 : Option Addr) (l2 : Nat) (c3 : Nat) (w : World) (K : Value → World → Prop) : G Try.prog [8, 9, 10, 11, 12, 13, 14, 15, 16, 17, 18, 19, 20, 21, 22, 23, 24, 25, 26, 27, 28, 29, 30, 31] 61 [0, 2, 3, 4, 5, 8, 13, 25, 32, 44] (H33 K) 0 (bodyOf Try.f33) (retG Try.prog Try.f33.results.toList K) (env0 0 [(.slice x1 l2 c3)]) w = S33 x1 l2 c3 w K := by kernel_rfl
theorem ok33 {x1 : Option Addr} {l2 : Nat} {c3 : Nat} {w : World} {K : Value → World → Prop} (h : S33 x1 l2 c3 w K) : callV Try.prog 33 #[(.slice x1 l2 c3)] w K :=
  call_sound (qs := [8, 9, 10, 11, 12, 13, 14, 15, 16, 17, 18, 19, 20, 21, 22, 23, 24, 25, 26, 27, 28, 29, 30, 31]) (args := [(.slice x1 l2 c3)]) (by kernel_rfl) (Try.func33) (c := bodyOf Try.f33) (by kernel_rfl) (by kernel_rfl) (allL (show loops [8, 9, 10, 11, 12, 13, 14, 15, 16, 17, 18, 19, 20, 21, 22, 23, 24, 25, 26, 27, 28, 29, 30, 31] 0 (bodyOf Try.f33) = [(0, .loop (loopOf 0 Try.f33))] by kernel_rfl) ⟨lok33_0 K, True.intro⟩) (Eq.mpr (eq33 x1 l2 c3 w K) h)
end Go.Proofs.Ytcemgjikmdbjgaa
