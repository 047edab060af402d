/- The formulas of the functions 8 of this seat, written by a program of my own (dec.py), each with its proof. -/
import Derived.Test.YtibalkkiefgljaaProg
import Derived.Test.YtibalkkiefgljaaSh
import Derived.KernelRfl
namespace Go.Proofs.Ytibalkkiefgljaa
open Go Go.Sh
set_option linter.unusedVariables false
set_option maxRecDepth 100000
def B8_5 (x54 : Option Addr) (x55 : Option Addr) (x56 : Int) (x57 : Bool) (x61 : Option Addr) (l62 : Nat) (c63 : Nat) (x64 : Int) (x65 : Int) (x66 : Int) (x67 : Int) (x68 : Option Addr) (l69 : Nat) (c70 : Nat) (x71 : Int) (x58 : Option Addr) (l59 : Nat) (c60 : Nat) (x72 : Int) (w : World) (N : (Option Addr) → Nat → Nat → Int → World → Prop) (X5 : (Option Addr) → Nat → Nat → World → Prop) (K : Value → World → Prop) : Prop :=
  br (decide ((x72 : Int) < x71))
  (jn (fun (x80 : Option Addr) (l81 : Nat) (c82 : Nat) (w : World) =>
  N x80 l81 c82 (IntKind.wrap .i64 (x72 + 1)) w) fun J83 =>
  idx x68 l69 1 x72 fun a73 => ∃ n74 : Int, w.cell? a73 = some (.int .i64 n74) ∧ br (((Int.tmod n74 2) : Int) == 0)
  (al w (.cells #[(.int .i64 n74)] 3) fun r75 w => runV Try.prog (Builtin.append_ #[39, 39] 39 #[(.slice x58 l59 c60), (.slice (some ⟨r75, 0, none⟩) 1 1)]) w fun v76 w => ∃ (p77 : Option Addr) (l78 c79 : Nat), v76 = (.slice p77 l78 c79) ∧ J83 p77 l78 c79 w)
  (J83 x58 l59 c60 w))
  (X5 x58 l59 c60 w)
/-- The loop in block 5 of function 8: by what holds at its head. -/
def LS8_5 (x54 : Option Addr) (x55 : Option Addr) (x56 : Int) (x57 : Bool) (x61 : Option Addr) (l62 : Nat) (c63 : Nat) (x64 : Int) (x65 : Int) (x66 : Int) (x67 : Int) (x68 : Option Addr) (l69 : Nat) (c70 : Nat) (x71 : Int) (x58 : Option Addr) (l59 : Nat) (c60 : Nat) (x72 : Int) (w : World) (X5 : (Option Addr) → Nat → Nat → World → Prop) (K : Value → World → Prop) : Prop :=
  ∃ J : Nat → (Option Addr) → Nat → Nat → Int → World → Prop, (∃ n, J n x58 l59 c60 x72 w) ∧ ∀ n x58 l59 c60 x72 w, J n x58 l59 c60 x72 w → B8_5 x54 x55 x56 x57 x61 l62 c63 x64 x65 x66 x67 x68 l69 c70 x71 x58 l59 c60 x72 w (fun x58 l59 c60 x72 w => ∃ m, m < n ∧ J m x58 l59 c60 x72 w) X5 K
abbrev env8_5 (x54 : Option Addr) (x55 : Option Addr) (x56 : Int) (x57 : Bool) (x61 : Option Addr) (l62 : Nat) (c63 : Nat) (x64 : Int) (x65 : Int) (x66 : Int) (x67 : Int) (x68 : Option Addr) (l69 : Nat) (c70 : Nat) (x71 : Int) (x58 : Option Addr) (l59 : Nat) (c60 : Nat) (x72 : Int) : Env := [(7, (.pointer x54)), (9, (.pointer x55)), (13, (.int .i64 x56)), (15, (.bool x57)), (17, (.slice x58 l59 c60)), (48, (.slice x61 l62 c63)), (49, (.int .i64 x64)), (50, (.int .i64 x65)), (70, (.int .i64 x66)), (71, (.int .i64 x67)), (74, (.slice x68 l69 c70)), (75, (.int .i64 x71)), (76, (.int .i64 x72))]
def Kt8_5 (N : (Option Addr) → Nat → Nat → Int → World → Prop) (X5 : (Option Addr) → Nat → Nat → World → Prop) (K : Value → World → Prop) : Kont := fun e E w => match e with
  | .normal => gS E 17 fun x58 l59 c60 => gI .i64 E 76 fun x72 => N x58 l59 c60 x72 w
  | .exit j => match Nat.beq j 5 with | true => (gS E 17 fun x84 l85 c86 => X5 x84 l85 c86 w) | false => (False)
  | .ret => retG Try.prog Try.f8.results.toList K .ret E w
  | _ => False
def HL8_5 (F : Value → World → Prop) (K : Kont) (E : Env) (w : World) : Prop := match keep [7, 9, 13, 15, 17, 48, 49, 50, 70, 71, 74, 75, 76] E with
  | [(7, (.pointer x54)), (9, (.pointer x55)), (13, (.int .i64 x56)), (15, (.bool x57)), (17, (.slice x58 l59 c60)), (48, (.slice x61 l62 c63)), (49, (.int .i64 x64)), (50, (.int .i64 x65)), (70, (.int .i64 x66)), (71, (.int .i64 x67)), (74, (.slice x68 l69 c70)), (75, (.int .i64 x71)), (76, (.int .i64 x72))] => LS8_5 x54 x55 x56 x57 x61 l62 c63 x64 x65 x66 x67 x68 l69 c70 x71 x58 l59 c60 x72 w (fun (x84 : Option Addr) (l85 : Nat) (c86 : Nat) w => K (.exit 5) [(7, (.pointer x54)), (9, (.pointer x55)), (13, (.int .i64 x56)), (15, (.bool x57)), (17, (.slice x84 l85 c86)), (48, (.slice x61 l62 c63)), (49, (.int .i64 x64)), (50, (.int .i64 x65)), (70, (.int .i64 x66)), (71, (.int .i64 x67))] w) F
  | _ => False
def B8_3 (x39 : Option Addr) (x40 : Option Addr) (x41 : Int) (x42 : Bool) (x43 : Option Addr) (l44 : Nat) (c45 : Nat) (x46 : Int) (x47 : Int) (x48 : Int) (x49 : Int) (w : World) (N : Int → World → Prop) (X3 : World → Prop) (K : Value → World → Prop) : Prop :=
  br (decide ((x49 : Int) < x48))
  (callV Try.prog 17 #[(.pointer x39)] w fun v50 w => ∃ (p51 : Option Addr) (l52 c53 : Nat), v50 = (.slice p51 l52 c53) ∧ LS8_5 x39 x40 x41 x42 x43 l44 c45 x46 x47 x48 x49 p51 l52 c53 (l52 : Int) none 0 0 0 w
  (fun (x84 : Option Addr) (l85 : Nat) (c86 : Nat) w => callV Try.prog 17 #[(.pointer x40)] w fun v87 w => ∃ (p88 : Option Addr) (l89 c90 : Nat), v87 = (.slice p88 l89 c90) ∧ callQ Try.prog 16 #[(.slice p88 l89 c90), (.slice x84 l85 c86)] w fun v91 w => ∃ b92 : Bool, v91 = (.bool b92) ∧ br (!b92)
  (K (.bool false) w)
  (N (IntKind.wrap .i64 (x49 + 1)) w)) K)
  (X3 w)
/-- The loop in block 3 of function 8: by what holds at its head. -/
def LS8_3 (x39 : Option Addr) (x40 : Option Addr) (x41 : Int) (x42 : Bool) (x43 : Option Addr) (l44 : Nat) (c45 : Nat) (x46 : Int) (x47 : Int) (x48 : Int) (x49 : Int) (w : World) (X3 : World → Prop) (K : Value → World → Prop) : Prop :=
  ∃ J : Nat → Int → World → Prop, (∃ n, J n x49 w) ∧ ∀ n x49 w, J n x49 w → B8_3 x39 x40 x41 x42 x43 l44 c45 x46 x47 x48 x49 w (fun x49 w => ∃ m, m < n ∧ J m x49 w) X3 K
abbrev env8_3 (x39 : Option Addr) (x40 : Option Addr) (x41 : Int) (x42 : Bool) (x43 : Option Addr) (l44 : Nat) (c45 : Nat) (x46 : Int) (x47 : Int) (x48 : Int) (x49 : Int) : Env := [(7, (.pointer x39)), (9, (.pointer x40)), (13, (.int .i64 x41)), (15, (.bool x42)), (48, (.slice x43 l44 c45)), (49, (.int .i64 x46)), (50, (.int .i64 x47)), (70, (.int .i64 x48)), (71, (.int .i64 x49))]
def Kt8_3 (N : Int → World → Prop) (X3 : World → Prop) (K : Value → World → Prop) : Kont := fun e E w => match e with
  | .normal => gI .i64 E 71 fun x49 => N x49 w
  | .exit j => match Nat.beq j 3 with | true => (X3 w) | false => (False)
  | .ret => retG Try.prog Try.f8.results.toList K .ret E w
  | _ => False
def HL8_3 (F : Value → World → Prop) (K : Kont) (E : Env) (w : World) : Prop := match keep [7, 9, 13, 15, 48, 49, 50, 70, 71] E with
  | [(7, (.pointer x39)), (9, (.pointer x40)), (13, (.int .i64 x41)), (15, (.bool x42)), (48, (.slice x43 l44 c45)), (49, (.int .i64 x46)), (50, (.int .i64 x47)), (70, (.int .i64 x48)), (71, (.int .i64 x49))] => LS8_3 x39 x40 x41 x42 x43 l44 c45 x46 x47 x48 x49 w (fun w => K (.exit 3) [(7, (.pointer x39)), (9, (.pointer x40)), (13, (.int .i64 x41)), (15, (.bool x42)), (48, (.slice x43 l44 c45)), (49, (.int .i64 x46)), (50, (.int .i64 x47))] w) F
  | _ => False
def B8_0 (x15 : Option Addr) (x16 : Option Addr) (x17 : Option Addr) (l18 : Nat) (c19 : Nat) (x20 : Int) (x21 : Int) (w : World) (N : Int → World → Prop) (X0 : World → Prop) (K : Value → World → Prop) : Prop :=
  br (decide ((x21 : Int) < x20))
  (jn (fun (w : World) =>
  N (IntKind.wrap .i64 (x21 + 1)) w) fun J132 =>
  idx x17 l18 3 x21 fun a22 => ∃ n23 : Int, w.cell? a22 = some (.int .u8 n23) ∧ ∃ n24 : Int, w.cell? (a22.add 1) = some (.int .i64 n24) ∧ ∃ n25 : Int, w.cell? (a22.add 2) = some (.int .i64 n25) ∧ al w (.cells #[(.int .u8 0), (.int .i64 0), (.int .i64 0)] 32) fun r26 w => stL w ⟨r26, 0, none⟩ 0 [(.int .u8 n23), (.int .i64 n24), (.int .i64 n25)] fun w => dr w fun w =>
  ∃ n27 : Int, w.cell? ⟨r26, 1, none⟩ = some (.int .i64 n27) ∧ ∃ n28 : Int, w.cell? ⟨r26, 2, none⟩ = some (.int .i64 n28) ∧ jn (fun (w : World) =>
  callQ Try.prog 18 #[(.pointer x15), (.int .i64 (IntKind.wrap .i64 ((BitVec.ofInt 64 n27 &&& (BitVec.ofInt 64 63)).toNat : Int)))] w fun v94 w => ∃ n95 : Int, ∃ b96 : Bool, v94 = (.tuple #[(.int .i64 n95), (.bool b96)]) ∧ callQ Try.prog 18 #[(.pointer x16), (.int .i64 (IntKind.wrap .i64 ((BitVec.ofInt 64 n27 &&& (BitVec.ofInt 64 63)).toNat : Int)))] w fun v97 w => ∃ n98 : Int, ∃ b99 : Bool, v97 = (.tuple #[(.int .i64 n98), (.bool b99)]) ∧ br (((Int.tmod (IntKind.wrap .i64 ((BitVec.ofInt 64 n27 &&& (BitVec.ofInt 64 63)).toNat : Int)) 2) : Int) == 0)
  (br ((n95 : Int) != n98)
  (K (.bool false) w)
  (br (!(b96 == b99))
  (K (.bool false) w)
  (br (!(((Int.tmod (IntKind.wrap .i64 ((BitVec.ofInt 64 n27 &&& (BitVec.ofInt 64 63)).toNat : Int)) 2) : Int) == 0))
  (br b99
  (K (.bool false) w)
  (callQ Try.prog 20 #[(.pointer x15)] w fun v100 w => ∃ n101 : Int, v100 = (.int .i64 n101) ∧ callQ Try.prog 20 #[(.pointer x16)] w fun v102 w => ∃ n103 : Int, v102 = (.int .i64 n103) ∧ br ((n101 : Int) != n103)
  (K (.bool false) w)
  (callQ Try.prog 21 #[(.pointer x16)] w fun v104 w => ∃ n105 : Int, v104 = (.int .i64 n105) ∧ callQ Try.prog 21 #[(.pointer x15)] w fun v106 w => ∃ n107 : Int, v106 = (.int .i64 n107) ∧ br (decide ((n105 : Int) > n107))
  (K (.bool false) w)
  (J132 w))))
  (callQ Try.prog 20 #[(.pointer x15)] w fun v108 w => ∃ n109 : Int, v108 = (.int .i64 n109) ∧ callQ Try.prog 20 #[(.pointer x16)] w fun v110 w => ∃ n111 : Int, v110 = (.int .i64 n111) ∧ br ((n109 : Int) != n111)
  (K (.bool false) w)
  (callQ Try.prog 21 #[(.pointer x16)] w fun v112 w => ∃ n113 : Int, v112 = (.int .i64 n113) ∧ callQ Try.prog 21 #[(.pointer x15)] w fun v114 w => ∃ n115 : Int, v114 = (.int .i64 n115) ∧ br (decide ((n113 : Int) > n115))
  (K (.bool false) w)
  (J132 w))))))
  (br (!(((Int.tmod (IntKind.wrap .i64 ((BitVec.ofInt 64 n27 &&& (BitVec.ofInt 64 63)).toNat : Int)) 2) : Int) == 0))
  (br b99
  (K (.bool false) w)
  (callQ Try.prog 20 #[(.pointer x15)] w fun v116 w => ∃ n117 : Int, v116 = (.int .i64 n117) ∧ callQ Try.prog 20 #[(.pointer x16)] w fun v118 w => ∃ n119 : Int, v118 = (.int .i64 n119) ∧ br ((n117 : Int) != n119)
  (K (.bool false) w)
  (callQ Try.prog 21 #[(.pointer x16)] w fun v120 w => ∃ n121 : Int, v120 = (.int .i64 n121) ∧ callQ Try.prog 21 #[(.pointer x15)] w fun v122 w => ∃ n123 : Int, v122 = (.int .i64 n123) ∧ br (decide ((n121 : Int) > n123))
  (K (.bool false) w)
  (J132 w))))
  (callQ Try.prog 20 #[(.pointer x15)] w fun v124 w => ∃ n125 : Int, v124 = (.int .i64 n125) ∧ callQ Try.prog 20 #[(.pointer x16)] w fun v126 w => ∃ n127 : Int, v126 = (.int .i64 n127) ∧ br ((n125 : Int) != n127)
  (K (.bool false) w)
  (callQ Try.prog 21 #[(.pointer x16)] w fun v128 w => ∃ n129 : Int, v128 = (.int .i64 n129) ∧ callQ Try.prog 21 #[(.pointer x15)] w fun v130 w => ∃ n131 : Int, v130 = (.int .i64 n131) ∧ br (decide ((n129 : Int) > n131))
  (K (.bool false) w)
  (J132 w))))) fun J93 =>
  ∃ n29 : Int, w.cell? ⟨r26, 0, none⟩ = some (.int .u8 n29) ∧ br (((Int.tmod n29 4) : Int) == 0)
  (callV Try.prog 12 #[(.pointer x15), (.int .i64 (IntKind.wrap .i64 ((BitVec.ofInt 64 n27 &&& (BitVec.ofInt 64 63)).toNat : Int))), (.int .i64 (IntKind.wrap .i64 (1 + (IntKind.wrap .i64 ((BitVec.ofInt 64 n28 &&& (BitVec.ofInt 64 127)).toNat : Int)))))] w fun v30 w => ∃ n31 : Int, v30 = (.int .i64 n31) ∧ br ((n31 : Int) != 0)
  (K (.bool false) w)
  (br (((Int.tmod (IntKind.wrap .i64 ((BitVec.ofInt 64 n27 &&& (BitVec.ofInt 64 63)).toNat : Int)) 2) : Int) == 0)
  (callV Try.prog 12 #[(.pointer x16), (.int .i64 (IntKind.wrap .i64 ((BitVec.ofInt 64 n27 &&& (BitVec.ofInt 64 63)).toNat : Int))), (.int .i64 (IntKind.wrap .i64 (1 + (IntKind.wrap .i64 ((BitVec.ofInt 64 n28 &&& (BitVec.ofInt 64 127)).toNat : Int)))))] w fun v32 w => ∃ n33 : Int, v32 = (.int .i64 n33) ∧ br ((n33 : Int) != 0)
  (K (.bool false) w)
  (J93 w))
  (J93 w)))
  (br (((Int.tmod n29 4) : Int) == 1)
  (callV Try.prog 14 #[(.pointer x15), (.int .i64 (IntKind.wrap .i64 ((BitVec.ofInt 64 n27 &&& (BitVec.ofInt 64 63)).toNat : Int)))] w fun v34 w => ∃ b35 : Bool, v34 = (.bool b35) ∧ br (((Int.tmod (IntKind.wrap .i64 ((BitVec.ofInt 64 n27 &&& (BitVec.ofInt 64 63)).toNat : Int)) 2) : Int) == 0)
  (callV Try.prog 14 #[(.pointer x16), (.int .i64 (IntKind.wrap .i64 ((BitVec.ofInt 64 n27 &&& (BitVec.ofInt 64 63)).toNat : Int)))] w fun v36 w => ∃ b37 : Bool, v36 = (.bool b37) ∧ br (!(b37 == b35))
  (K (.bool false) w)
  (J93 w))
  (J93 w))
  (∃ n38 : Int, w.cell? ⟨r26, 2, none⟩ = some (.int .i64 n38) ∧ LS8_3 x15 x16 (IntKind.wrap .i64 ((BitVec.ofInt 64 n27 &&& (BitVec.ofInt 64 63)).toNat : Int)) (((Int.tmod (IntKind.wrap .i64 ((BitVec.ofInt 64 n27 &&& (BitVec.ofInt 64 63)).toNat : Int)) 2) : Int) == 0) x17 l18 c19 x20 x21 (IntKind.wrap .i64 (1 + (IntKind.wrap .i64 ((BitVec.ofInt 64 n38 &&& (BitVec.ofInt 64 15)).toNat : Int)))) 0 w
  (fun w => J93 w) K)))
  (X0 w)
/-- The loop in block 0 of function 8: by what holds at its head. -/
def LS8_0 (x15 : Option Addr) (x16 : Option Addr) (x17 : Option Addr) (l18 : Nat) (c19 : Nat) (x20 : Int) (x21 : Int) (w : World) (X0 : World → Prop) (K : Value → World → Prop) : Prop :=
  ∃ J : Nat → Int → World → Prop, (∃ n, J n x21 w) ∧ ∀ n x21 w, J n x21 w → B8_0 x15 x16 x17 l18 c19 x20 x21 w (fun x21 w => ∃ m, m < n ∧ J m x21 w) X0 K
abbrev env8_0 (x15 : Option Addr) (x16 : Option Addr) (x17 : Option Addr) (l18 : Nat) (c19 : Nat) (x20 : Int) (x21 : Int) : Env := [(7, (.pointer x15)), (9, (.pointer x16)), (48, (.slice x17 l18 c19)), (49, (.int .i64 x20)), (50, (.int .i64 x21))]
def Kt8_0 (N : Int → World → Prop) (X0 : World → Prop) (K : Value → World → Prop) : Kont := fun e E w => match e with
  | .normal => gI .i64 E 50 fun x21 => N x21 w
  | .exit j => match Nat.beq j 0 with | true => (X0 w) | false => (False)
  | .ret => retG Try.prog Try.f8.results.toList K .ret E w
  | _ => False
def HL8_0 (F : Value → World → Prop) (K : Kont) (E : Env) (w : World) : Prop := match keep [7, 9, 48, 49, 50] E with
  | [(7, (.pointer x15)), (9, (.pointer x16)), (48, (.slice x17 l18 c19)), (49, (.int .i64 x20)), (50, (.int .i64 x21))] => LS8_0 x15 x16 x17 l18 c19 x20 x21 w (fun w => K (.exit 0) [] w) F
  | _ => False
def H8 (F : Value → World → Prop) : Nat → Kont → Env → World → Prop := fun b K E w => match Nat.beq b 5 with | true => HL8_5 F K E w | false => (match Nat.beq b 3 with | true => HL8_3 F K E w | false => (match Nat.beq b 0 with | true => HL8_0 F K E w | false => (False)))
theorem Beq8_5 (x54 : Option Addr) (x55 : Option Addr) (x56 : Int) (x57 : Bool) (x61 : Option Addr) (l62 : Nat) (c63 : Nat) (x64 : Int) (x65 : Int) (x66 : Int) (x67 : Int) (x68 : Option Addr) (l69 : Nat) (c70 : Nat) (x71 : Int) (x58 : Option Addr) (l59 : Nat) (c60 : Nat) (x72 : Int) (w : World) (N : (Option Addr) → Nat → Nat → Int → World → Prop) (X5 : (Option Addr) → Nat → Nat → World → Prop) (K : Value → World → Prop) :
    G Try.prog [9, 10, 11, 13, 15, 16, 18, 19, 20, 21, 22, 23, 24] 170 [0, 1, 2, 6, 7, 8, 9, 10, 12, 13, 14, 15, 16, 17, 19, 20, 21, 22, 23, 43, 48, 49, 50, 51, 66, 70, 71, 72, 74, 75, 76, 77, 82, 92, 94, 110, 111, 123, 167] (H8 K) 5 (loopOf 5 Try.f8) (Kt8_5 N X5 K) (env8_5 x54 x55 x56 x57 x61 l62 c63 x64 x65 x66 x67 x68 l69 c70 x71 x58 l59 c60 x72) w = B8_5 x54 x55 x56 x57 x61 l62 c63 x64 x65 x66 x67 x68 l69 c70 x71 x58 l59 c60 x72 w N X5 K := by kernel_rfl
theorem lok8_5 (F : Value → World → Prop) : LoopOk Try.prog 170 Try.f8.results.toList F (H8 F) 5 (.loop (loopOf 5 Try.f8)) := by
  intro K E a w Q hr h hs hq
  have hs0 := hs.keep [7, 9, 13, 15, 17, 48, 49, 50, 70, 71, 74, 75, 76]
  have h1 : HL8_5 F K E w := h
  unfold HL8_5 at h1
  split at h1
  · rename_i x54 x55 x56 x57 x58 l59 c60 x61 l62 c63 x64 x65 x66 x67 x68 l69 c70 x71 x72 heq
    obtain ⟨J, ⟨n, hJ⟩, hround⟩ := h1
    rw [heq] at hs0
    refine loop_typed (qs := [9, 10, 11, 13, 15, 16, 18, 19, 20, 21, 22, 23, 24]) (L := [0, 1, 2, 6, 7, 8, 9, 10, 12, 13, 14, 15, 16, 17, 19, 20, 21, 22, 23, 43, 48, 49, 50, 51, 66, 70, 71, 72, 74, 75, 76, 77, 82, 92, 94, 110, 111, 123, 167]) (rs := Try.f8.results.toList) (F := F) (H := H8 F) (b := 5) (by kernel_rfl) (allL (show loops [9, 10, 11, 13, 15, 16, 18, 19, 20, 21, 22, 23, 24] 5 (loopOf 5 Try.f8) = [] by kernel_rfl) True.intro) (σ := Option Addr × Nat × Nat × Int) (fun s => env8_5 x54 x55 x56 x57 x61 l62 c63 x64 x65 x66 x67 x68 l69 c70 x71 s.1 s.2.1 s.2.2.1 s.2.2.2) (fun n s w => J n s.1 s.2.1 s.2.2.1 s.2.2.2 w)
      (fun n => Kt8_5 (fun x58 l59 c60 x72 w => ∃ m, m < n ∧ J m x58 l59 c60 x72 w) (fun (x84 : Option Addr) (l85 : Nat) (c86 : Nat) w => K (.exit 5) [(7, (.pointer x54)), (9, (.pointer x55)), (13, (.int .i64 x56)), (15, (.bool x57)), (17, (.slice x84 l85 c86)), (48, (.slice x61 l62 c63)), (49, (.int .i64 x64)), (50, (.int .i64 x65)), (70, (.int .i64 x66)), (71, (.int .i64 x67))] w) F) (fun _ _ _ h => h) ?_ ?_ a ?_ n (x58, l59, c60, x72) a w hJ (Fr.refl _ _) hs0
    · intro n s w hJ
      exact Eq.mpr (Beq8_5 x54 x55 x56 x57 x61 l62 c63 x64 x65 x66 x67 x68 l69 c70 x71 s.1 s.2.1 s.2.2.1 s.2.2.2 w _ _ F) (hround n s.1 s.2.1 s.2.2.1 s.2.2.2 w hJ)
    · intro n s E' w' h
      obtain ⟨x58, l59, c60, e17, h⟩ := gS_get h
      obtain ⟨x72, e76, h⟩ := gI_get h
      obtain ⟨m, hm, hJ⟩ := h
      exact ⟨m, (x58, l59, c60, x72), hm, hJ, ⟨.inl ⟨by kernel_rfl, rfl⟩, .inl ⟨by kernel_rfl, rfl⟩, .inl ⟨by kernel_rfl, rfl⟩, .inl ⟨by kernel_rfl, rfl⟩, .inr e17, .inl ⟨by kernel_rfl, rfl⟩, .inl ⟨by kernel_rfl, rfl⟩, .inl ⟨by kernel_rfl, rfl⟩, .inl ⟨by kernel_rfl, rfl⟩, .inl ⟨by kernel_rfl, rfl⟩, .inl ⟨by kernel_rfl, rfl⟩, .inl ⟨by kernel_rfl, rfl⟩, .inr e76, True.intro⟩⟩
    · intro n s a1 e E' a' w' he hs1 hf0 hf1 hs' h
      cases e with
      | normal => exact (he rfl).elim
      | exit j =>
        dsimp only [Kt8_5] at h
        cases hb : Nat.beq j 5
        case' true =>
          rw [hb] at h
          have hj := Nat.eq_of_beq_eq_true hb
          subst hj
          dsimp only at h
          obtain ⟨x84, l85, c86, e17, h⟩ := gS_get h
          exact hq _ _ _ _ (hs1.next hf1 hs' (E2 := [(7, (.pointer x54)), (9, (.pointer x55)), (13, (.int .i64 x56)), (15, (.bool x57)), (17, (.slice x84 l85 c86)), (48, (.slice x61 l62 c63)), (49, (.int .i64 x64)), (50, (.int .i64 x65)), (70, (.int .i64 x66)), (71, (.int .i64 x67))]) ⟨.inl ⟨by kernel_rfl, rfl⟩, .inl ⟨by kernel_rfl, rfl⟩, .inl ⟨by kernel_rfl, rfl⟩, .inl ⟨by kernel_rfl, rfl⟩, .inr e17, .inl ⟨by kernel_rfl, rfl⟩, .inl ⟨by kernel_rfl, rfl⟩, .inl ⟨by kernel_rfl, rfl⟩, .inl ⟨by kernel_rfl, rfl⟩, .inl ⟨by kernel_rfl, rfl⟩, True.intro⟩) hf0 h
        rw [hb] at h
        dsimp only at h
        all_goals exact h.elim
      | ret => exact hq _ _ _ _ hs' hf0 (hr _ _ h)
      | _ => exact h.elim
  · exact h1.elim
theorem Beq8_3 (x39 : Option Addr) (x40 : Option Addr) (x41 : Int) (x42 : Bool) (x43 : Option Addr) (l44 : Nat) (c45 : Nat) (x46 : Int) (x47 : Int) (x48 : Int) (x49 : Int) (w : World) (N : Int → World → Prop) (X3 : World → Prop) (K : Value → World → Prop) :
    G Try.prog [9, 10, 11, 13, 15, 16, 18, 19, 20, 21, 22, 23, 24] 170 [0, 1, 2, 6, 7, 8, 9, 10, 12, 13, 14, 15, 16, 17, 19, 20, 21, 22, 23, 43, 48, 49, 50, 51, 66, 70, 71, 72, 74, 75, 76, 77, 82, 92, 94, 110, 111, 123, 167] (H8 K) 3 (loopOf 3 Try.f8) (Kt8_3 N X3 K) (env8_3 x39 x40 x41 x42 x43 l44 c45 x46 x47 x48 x49) w = B8_3 x39 x40 x41 x42 x43 l44 c45 x46 x47 x48 x49 w N X3 K := by kernel_rfl
theorem lok8_3 (F : Value → World → Prop) : LoopOk Try.prog 170 Try.f8.results.toList F (H8 F) 3 (.loop (loopOf 3 Try.f8)) := by
  intro K E a w Q hr h hs hq
  have hs0 := hs.keep [7, 9, 13, 15, 48, 49, 50, 70, 71]
  have h1 : HL8_3 F K E w := h
  unfold HL8_3 at h1
  split at h1
  · rename_i x39 x40 x41 x42 x43 l44 c45 x46 x47 x48 x49 heq
    obtain ⟨J, ⟨n, hJ⟩, hround⟩ := h1
    rw [heq] at hs0
    refine loop_typed (qs := [9, 10, 11, 13, 15, 16, 18, 19, 20, 21, 22, 23, 24]) (L := [0, 1, 2, 6, 7, 8, 9, 10, 12, 13, 14, 15, 16, 17, 19, 20, 21, 22, 23, 43, 48, 49, 50, 51, 66, 70, 71, 72, 74, 75, 76, 77, 82, 92, 94, 110, 111, 123, 167]) (rs := Try.f8.results.toList) (F := F) (H := H8 F) (b := 3) (by kernel_rfl) (allL (show loops [9, 10, 11, 13, 15, 16, 18, 19, 20, 21, 22, 23, 24] 3 (loopOf 3 Try.f8) = [(5, .loop (loopOf 5 Try.f8))] by kernel_rfl) ⟨lok8_5 F, True.intro⟩) (σ := Int) (fun s => env8_3 x39 x40 x41 x42 x43 l44 c45 x46 x47 x48 s) (fun n s w => J n s w)
      (fun n => Kt8_3 (fun x49 w => ∃ m, m < n ∧ J m x49 w) (fun w => K (.exit 3) [(7, (.pointer x39)), (9, (.pointer x40)), (13, (.int .i64 x41)), (15, (.bool x42)), (48, (.slice x43 l44 c45)), (49, (.int .i64 x46)), (50, (.int .i64 x47))] w) F) (fun _ _ _ h => h) ?_ ?_ a ?_ n x49 a w hJ (Fr.refl _ _) hs0
    · intro n s w hJ
      exact Eq.mpr (Beq8_3 x39 x40 x41 x42 x43 l44 c45 x46 x47 x48 s w _ _ F) (hround n s w hJ)
    · intro n s E' w' h
      obtain ⟨x49, e71, h⟩ := gI_get h
      obtain ⟨m, hm, hJ⟩ := h
      exact ⟨m, x49, hm, hJ, ⟨.inl ⟨by kernel_rfl, rfl⟩, .inl ⟨by kernel_rfl, rfl⟩, .inl ⟨by kernel_rfl, rfl⟩, .inl ⟨by kernel_rfl, rfl⟩, .inl ⟨by kernel_rfl, rfl⟩, .inl ⟨by kernel_rfl, rfl⟩, .inl ⟨by kernel_rfl, rfl⟩, .inl ⟨by kernel_rfl, rfl⟩, .inr e71, True.intro⟩⟩
    · intro n s a1 e E' a' w' he hs1 hf0 hf1 hs' h
      cases e with
      | normal => exact (he rfl).elim
      | exit j =>
        dsimp only [Kt8_3] at h
        cases hb : Nat.beq j 3
        case' true =>
          rw [hb] at h
          have hj := Nat.eq_of_beq_eq_true hb
          subst hj
          dsimp only at h
          exact hq _ _ _ _ (hs1.next hf1 hs' (E2 := [(7, (.pointer x39)), (9, (.pointer x40)), (13, (.int .i64 x41)), (15, (.bool x42)), (48, (.slice x43 l44 c45)), (49, (.int .i64 x46)), (50, (.int .i64 x47))]) ⟨.inl ⟨by kernel_rfl, rfl⟩, .inl ⟨by kernel_rfl, rfl⟩, .inl ⟨by kernel_rfl, rfl⟩, .inl ⟨by kernel_rfl, rfl⟩, .inl ⟨by kernel_rfl, rfl⟩, .inl ⟨by kernel_rfl, rfl⟩, .inl ⟨by kernel_rfl, rfl⟩, True.intro⟩) hf0 h
        rw [hb] at h
        dsimp only at h
        all_goals exact h.elim
      | ret => exact hq _ _ _ _ hs' hf0 (hr _ _ h)
      | _ => exact h.elim
  · exact h1.elim
theorem Beq8_0 (x15 : Option Addr) (x16 : Option Addr) (x17 : Option Addr) (l18 : Nat) (c19 : Nat) (x20 : Int) (x21 : Int) (w : World) (N : Int → World → Prop) (X0 : World → Prop) (K : Value → World → Prop) :
    G Try.prog [9, 10, 11, 13, 15, 16, 18, 19, 20, 21, 22, 23, 24] 170 [0, 1, 2, 6, 7, 8, 9, 10, 12, 13, 14, 15, 16, 17, 19, 20, 21, 22, 23, 43, 48, 49, 50, 51, 66, 70, 71, 72, 74, 75, 76, 77, 82, 92, 94, 110, 111, 123, 167] (H8 K) 0 (loopOf 0 Try.f8) (Kt8_0 N X0 K) (env8_0 x15 x16 x17 l18 c19 x20 x21) w = B8_0 x15 x16 x17 l18 c19 x20 x21 w N X0 K := by kernel_rfl
theorem lok8_0 (F : Value → World → Prop) : LoopOk Try.prog 170 Try.f8.results.toList F (H8 F) 0 (.loop (loopOf 0 Try.f8)) := by
  intro K E a w Q hr h hs hq
  have hs0 := hs.keep [7, 9, 48, 49, 50]
  have h1 : HL8_0 F K E w := h
  unfold HL8_0 at h1
  split at h1
  · rename_i x15 x16 x17 l18 c19 x20 x21 heq
    obtain ⟨J, ⟨n, hJ⟩, hround⟩ := h1
    rw [heq] at hs0
    refine loop_typed (qs := [9, 10, 11, 13, 15, 16, 18, 19, 20, 21, 22, 23, 24]) (L := [0, 1, 2, 6, 7, 8, 9, 10, 12, 13, 14, 15, 16, 17, 19, 20, 21, 22, 23, 43, 48, 49, 50, 51, 66, 70, 71, 72, 74, 75, 76, 77, 82, 92, 94, 110, 111, 123, 167]) (rs := Try.f8.results.toList) (F := F) (H := H8 F) (b := 0) (by kernel_rfl) (allL (show loops [9, 10, 11, 13, 15, 16, 18, 19, 20, 21, 22, 23, 24] 0 (loopOf 0 Try.f8) = [(3, .loop (loopOf 3 Try.f8))] by kernel_rfl) ⟨lok8_3 F, True.intro⟩) (σ := Int) (fun s => env8_0 x15 x16 x17 l18 c19 x20 s) (fun n s w => J n s w)
      (fun n => Kt8_0 (fun x21 w => ∃ m, m < n ∧ J m x21 w) (fun w => K (.exit 0) [] w) F) (fun _ _ _ h => h) ?_ ?_ a ?_ n x21 a w hJ (Fr.refl _ _) hs0
    · intro n s w hJ
      exact Eq.mpr (Beq8_0 x15 x16 x17 l18 c19 x20 s w _ _ F) (hround n s w hJ)
    · intro n s E' w' h
      obtain ⟨x21, e50, h⟩ := gI_get h
      obtain ⟨m, hm, hJ⟩ := h
      exact ⟨m, x21, hm, hJ, ⟨.inl ⟨by kernel_rfl, rfl⟩, .inl ⟨by kernel_rfl, rfl⟩, .inl ⟨by kernel_rfl, rfl⟩, .inl ⟨by kernel_rfl, rfl⟩, .inr e50, True.intro⟩⟩
    · intro n s a1 e E' a' w' he hs1 hf0 hf1 hs' h
      cases e with
      | normal => exact (he rfl).elim
      | exit j =>
        dsimp only [Kt8_0] at h
        cases hb : Nat.beq j 0
        case' true =>
          rw [hb] at h
          have hj := Nat.eq_of_beq_eq_true hb
          subst hj
          dsimp only at h
          exact hq _ _ _ _ (hs1.next hf1 hs' (E2 := []) True.intro) hf0 h
        rw [hb] at h
        dsimp only at h
        all_goals exact h.elim
      | ret => exact hq _ _ _ _ hs' hf0 (hr _ _ h)
      | _ => exact h.elim
  · exact h1.elim
/-- jackstay/jackstaylaw13.WheelCalm -/
def S8 (x1 : Int) (x2 : Int) (x3 : Option Addr) (l4 : Nat) (c5 : Nat) (w : World) (K : Value → World → Prop) : Prop :=
  callQ Try.prog 9 #[(.int .i64 (IntKind.wrap .i64 (1 + (IntKind.wrap .i64 x1)))), (.int .i64 64)] w fun v6 w => ∃ p7 : Option Addr, ∃ n8 : Int, v6 = (.tuple #[(.pointer p7), (.int .i64 n8)]) ∧ callQ Try.prog 9 #[(.int .i64 (IntKind.wrap .i64 (1 + (IntKind.wrap .i64 x2)))), (.int .i64 64)] w fun v9 w => ∃ p10 : Option Addr, ∃ n11 : Int, v9 = (.tuple #[(.pointer p10), (.int .i64 n11)]) ∧ br ((n8 : Int) != 0)
  (K (.bool false) w)
  (br ((n11 : Int) != 0)
  (K (.bool false) w)
  (slc x3 l4 c5 3 none (some (if 80 < (l4 : Int) then 80 else (l4 : Int))) none fun p12 l13 c14 => LS8_0 p7 p10 p12 l13 c14 (l13 : Int) 0 w
  (fun w => callQ Try.prog 10 #[] w fun v133 w => ∃ b134 : Bool, v133 = (.bool b134) ∧ K (.bool b134) w) K))
theorem eq8 (x1 : Int) (x2 : Int) (x3 : Option Addr) (l4 : Nat) (c5 : Nat) (w : World) (K : Value → World → Prop) : G Try.prog [9, 10, 11, 13, 15, 16, 18, 19, 20, 21, 22, 23, 24] 170 [0, 1, 2, 6, 7, 8, 9, 10, 12, 13, 14, 15, 16, 17, 19, 20, 21, 22, 23, 43, 48, 49, 50, 51, 66, 70, 71, 72, 74, 75, 76, 77, 82, 92, 94, 110, 111, 123, 167] (H8 K) 0 (bodyOf Try.f8) (retG Try.prog Try.f8.results.toList K) (env0 0 [(.int .u8 x1), (.int .u8 x2), (.slice x3 l4 c5)]) w = S8 x1 x2 x3 l4 c5 w K := by kernel_rfl
theorem ok8 {x1 : Int} {x2 : Int} {x3 : Option Addr} {l4 : Nat} {c5 : Nat} {w : World} {K : Value → World → Prop} (h : S8 x1 x2 x3 l4 c5 w K) : callV Try.prog 8 #[(.int .u8 x1), (.int .u8 x2), (.slice x3 l4 c5)] w K :=
  call_sound (qs := [9, 10, 11, 13, 15, 16, 18, 19, 20, 21, 22, 23, 24]) (args := [(.int .u8 x1), (.int .u8 x2), (.slice x3 l4 c5)]) (by kernel_rfl) (Try.func8) (c := bodyOf Try.f8) (by kernel_rfl) (by kernel_rfl) (allL (show loops [9, 10, 11, 13, 15, 16, 18, 19, 20, 21, 22, 23, 24] 0 (bodyOf Try.f8) = [(0, .loop (loopOf 0 Try.f8))] by kernel_rfl) ⟨lok8_0 K, True.intro⟩) (Eq.mpr (eq8 x1 x2 x3 l4 c5 w K) h)
end Go.Proofs.Ytibalkkiefgljaa
