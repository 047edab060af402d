/- The formulas of the functions 9, 11, 13, 21, 3 of this seat, written by a program of my own (dec.py), each with its proof. -/
import Derived.Test.YtiodaglceoodpaaProg
import Derived.Test.YtiodaglceoodpaaSh
import Derived.KernelRfl
namespace Go.Proofs.Ytiodaglceoodpaa
open Go Go.Sh
set_option linter.unusedVariables false
set_option maxRecDepth 100000
def H9 (_F : Value → World → Prop) : Nat → Kont → Env → World → Prop := fun _ _ _ _ => False
/-- (jackstay/jackstayref12.State).Push -/
def S9 (x1 : Option Addr) (l2 : Nat) (c3 : Nat) (x4 : Int) (x5 : Bool) (x6 : Int) (x7 : Bool) (x8 : Bool) (x9 : Int) (x10 : Option Addr) (l11 : Nat) (c12 : Nat) (x13 : Int) (w : World) (K : Value → World → Prop) : Prop :=
  al w (.cells #[(.slice x1 l2 c3), (.int .i64 x4), (.bool x5)] 30) fun r14 w => al w (.cells #[(.int .u32 x6), (.bool x7), (.bool x8), (.int .u8 x9), (.slice x10 l11 c12), (.int .i64 x13)] 36) fun r15 w => al w (.cells #[(.slice none 0 0), (.int .i64 0), (.bool false)] 30) fun r16 w => ∃ (p17 : Option Addr) (l18 c19 : Nat), w.cell? ⟨r14, 0, none⟩ = some (.slice p17 l18 c19) ∧ ∃ n20 : Int, w.cell? ⟨r14, 1, none⟩ = some (.int .i64 n20) ∧ br (decide (((l18 : Int) : Int) ≥ n20))
  (stL w ⟨r14, 2, none⟩ 0 [(.bool true)] fun w => ∃ (p21 : Option Addr) (l22 c23 : Nat), w.cell? ⟨r14, 0, none⟩ = some (.slice p21 l22 c23) ∧ ∃ n24 : Int, w.cell? ⟨r14, 1, none⟩ = some (.int .i64 n24) ∧ ∃ b25 : Bool, w.cell? ⟨r14, 2, none⟩ = some (.bool b25) ∧ stL w ⟨r16, 0, none⟩ 0 [(.slice p21 l22 c23), (.int .i64 n24), (.bool b25)] fun w => ∃ (p26 : Option Addr) (l27 c28 : Nat), w.cell? ⟨r16, 0, none⟩ = some (.slice p26 l27 c28) ∧ ∃ n29 : Int, w.cell? ⟨r16, 1, none⟩ = some (.int .i64 n29) ∧ ∃ b30 : Bool, w.cell? ⟨r16, 2, none⟩ = some (.bool b30) ∧ K (.tuple #[(.agg #[(.slice p26 l27 c28), (.int .i64 n29), (.bool b30)]), (.int .i64 5)]) w)
  (jn (fun (w : World) =>
  ∃ (p116 : Option Addr) (l117 c118 : Nat), w.cell? ⟨r14, 0, none⟩ = some (.slice p116 l117 c118) ∧ ∃ n119 : Int, w.cell? ⟨r14, 1, none⟩ = some (.int .i64 n119) ∧ ∃ b120 : Bool, w.cell? ⟨r14, 2, none⟩ = some (.bool b120) ∧ stL w ⟨r16, 0, none⟩ 0 [(.slice p116 l117 c118), (.int .i64 n119), (.bool b120)] fun w => ∃ (p121 : Option Addr) (l122 c123 : Nat), w.cell? ⟨r16, 0, none⟩ = some (.slice p121 l122 c123) ∧ ∃ n124 : Int, w.cell? ⟨r16, 1, none⟩ = some (.int .i64 n124) ∧ ∃ b125 : Bool, w.cell? ⟨r16, 2, none⟩ = some (.bool b125) ∧ K (.tuple #[(.agg #[(.slice p121 l122 c123), (.int .i64 n124), (.bool b125)]), (.int .i64 0)]) w) fun J115 =>
  dr w fun w =>
  ∃ (p31 : Option Addr) (l32 c33 : Nat), w.cell? ⟨r14, 0, none⟩ = some (.slice p31 l32 c33) ∧ (al w (.cells #[] 36) fun r34 w => (runV Try.prog (Builtin.append_ #[28, 28] 28 #[(.slice (some ⟨r34, 0, none⟩) 0 0), (.slice p31 l32 c33)]) w fun v35 w => ∃ (p36 : Option Addr) (l37 c38 : Nat), v35 = (.slice p36 l37 c38) ∧ ∃ n39 : Int, w.cell? ⟨r15, 0, none⟩ = some (.int .u32 n39) ∧ ∃ b40 : Bool, w.cell? ⟨r15, 1, none⟩ = some (.bool b40) ∧ ∃ b41 : Bool, w.cell? ⟨r15, 2, none⟩ = some (.bool b41) ∧ ∃ n42 : Int, w.cell? ⟨r15, 3, none⟩ = some (.int .u8 n42) ∧ ∃ (p43 : Option Addr) (l44 c45 : Nat), w.cell? ⟨r15, 4, none⟩ = some (.slice p43 l44 c45) ∧ ∃ n46 : Int, w.cell? ⟨r15, 5, none⟩ = some (.int .i64 n46) ∧ al w (.cells #[(.int .u32 n39), (.bool b40), (.bool b41), (.int .u8 n42), (.slice p43 l44 c45), (.int .i64 n46)] 36) fun r47 w => runV Try.prog (Builtin.append_ #[28, 28] 28 #[(.slice p36 l37 c38), (.slice (some ⟨r47, 0, none⟩) 1 1)]) w fun v48 w => ∃ (p49 : Option Addr) (l50 c51 : Nat), v48 = (.slice p49 l50 c51) ∧ stL w ⟨r14, 0, none⟩ 0 [(.slice p49 l50 c51)] fun w => J115 w) ∧
  (∃ n52 : Int, w.cell? ⟨r15, 0, none⟩ = some (.int .u32 n52) ∧ ∃ b53 : Bool, w.cell? ⟨r15, 1, none⟩ = some (.bool b53) ∧ ∃ b54 : Bool, w.cell? ⟨r15, 2, none⟩ = some (.bool b54) ∧ ∃ n55 : Int, w.cell? ⟨r15, 3, none⟩ = some (.int .u8 n55) ∧ ∃ (p56 : Option Addr) (l57 c58 : Nat), w.cell? ⟨r15, 4, none⟩ = some (.slice p56 l57 c58) ∧ ∃ n59 : Int, w.cell? ⟨r15, 5, none⟩ = some (.int .i64 n59) ∧ (runV Try.prog (Builtin.append_ #[28, 28] 28 #[(.slice (some ⟨r34, 0, none⟩) 0 0), (.slice p31 l32 c33)]) w fun v60 w => ∃ (p61 : Option Addr) (l62 c63 : Nat), v60 = (.slice p61 l62 c63) ∧ al w (.cells #[(.int .u32 n52), (.bool b53), (.bool b54), (.int .u8 n55), (.slice p56 l57 c58), (.int .i64 n59)] 36) fun r64 w => runV Try.prog (Builtin.append_ #[28, 28] 28 #[(.slice p61 l62 c63), (.slice (some ⟨r64, 0, none⟩) 1 1)]) w fun v65 w => ∃ (p66 : Option Addr) (l67 c68 : Nat), v65 = (.slice p66 l67 c68) ∧ stL w ⟨r14, 0, none⟩ 0 [(.slice p66 l67 c68)] fun w => J115 w) ∧
  (al w (.cells #[(.int .u32 n52), (.bool b53), (.bool b54), (.int .u8 n55), (.slice p56 l57 c58), (.int .i64 n59)] 36) fun r69 w => runV Try.prog (Builtin.append_ #[28, 28] 28 #[(.slice (some ⟨r34, 0, none⟩) 0 0), (.slice p31 l32 c33)]) w fun v70 w => ∃ (p71 : Option Addr) (l72 c73 : Nat), v70 = (.slice p71 l72 c73) ∧ runV Try.prog (Builtin.append_ #[28, 28] 28 #[(.slice p71 l72 c73), (.slice (some ⟨r69, 0, none⟩) 1 1)]) w fun v74 w => ∃ (p75 : Option Addr) (l76 c77 : Nat), v74 = (.slice p75 l76 c77) ∧ stL w ⟨r14, 0, none⟩ 0 [(.slice p75 l76 c77)] fun w => J115 w))) ∧
  (∃ n78 : Int, w.cell? ⟨r15, 0, none⟩ = some (.int .u32 n78) ∧ ∃ b79 : Bool, w.cell? ⟨r15, 1, none⟩ = some (.bool b79) ∧ ∃ b80 : Bool, w.cell? ⟨r15, 2, none⟩ = some (.bool b80) ∧ ∃ n81 : Int, w.cell? ⟨r15, 3, none⟩ = some (.int .u8 n81) ∧ ∃ (p82 : Option Addr) (l83 c84 : Nat), w.cell? ⟨r15, 4, none⟩ = some (.slice p82 l83 c84) ∧ ∃ n85 : Int, w.cell? ⟨r15, 5, none⟩ = some (.int .i64 n85) ∧ (al w (.cells #[] 36) fun r86 w => (runV Try.prog (Builtin.append_ #[28, 28] 28 #[(.slice (some ⟨r86, 0, none⟩) 0 0), (.slice p31 l32 c33)]) w fun v87 w => ∃ (p88 : Option Addr) (l89 c90 : Nat), v87 = (.slice p88 l89 c90) ∧ al w (.cells #[(.int .u32 n78), (.bool b79), (.bool b80), (.int .u8 n81), (.slice p82 l83 c84), (.int .i64 n85)] 36) fun r91 w => runV Try.prog (Builtin.append_ #[28, 28] 28 #[(.slice p88 l89 c90), (.slice (some ⟨r91, 0, none⟩) 1 1)]) w fun v92 w => ∃ (p93 : Option Addr) (l94 c95 : Nat), v92 = (.slice p93 l94 c95) ∧ stL w ⟨r14, 0, none⟩ 0 [(.slice p93 l94 c95)] fun w => J115 w) ∧
  (al w (.cells #[(.int .u32 n78), (.bool b79), (.bool b80), (.int .u8 n81), (.slice p82 l83 c84), (.int .i64 n85)] 36) fun r96 w => runV Try.prog (Builtin.append_ #[28, 28] 28 #[(.slice (some ⟨r86, 0, none⟩) 0 0), (.slice p31 l32 c33)]) w fun v97 w => ∃ (p98 : Option Addr) (l99 c100 : Nat), v97 = (.slice p98 l99 c100) ∧ runV Try.prog (Builtin.append_ #[28, 28] 28 #[(.slice p98 l99 c100), (.slice (some ⟨r96, 0, none⟩) 1 1)]) w fun v101 w => ∃ (p102 : Option Addr) (l103 c104 : Nat), v101 = (.slice p102 l103 c104) ∧ stL w ⟨r14, 0, none⟩ 0 [(.slice p102 l103 c104)] fun w => J115 w)) ∧
  (al w (.cells #[(.int .u32 n78), (.bool b79), (.bool b80), (.int .u8 n81), (.slice p82 l83 c84), (.int .i64 n85)] 36) fun r105 w => al w (.cells #[] 36) fun r106 w => runV Try.prog (Builtin.append_ #[28, 28] 28 #[(.slice (some ⟨r106, 0, none⟩) 0 0), (.slice p31 l32 c33)]) w fun v107 w => ∃ (p108 : Option Addr) (l109 c110 : Nat), v107 = (.slice p108 l109 c110) ∧ runV Try.prog (Builtin.append_ #[28, 28] 28 #[(.slice p108 l109 c110), (.slice (some ⟨r105, 0, none⟩) 1 1)]) w fun v111 w => ∃ (p112 : Option Addr) (l113 c114 : Nat), v111 = (.slice p112 l113 c114) ∧ stL w ⟨r14, 0, none⟩ 0 [(.slice p112 l113 c114)] fun w => J115 w)))
theorem eq9 (x1 : Option Addr) (l2 : Nat) (c3 : Nat) (x4 : Int) (x5 : Bool) (x6 : Int) (x7 : Bool) (x8 : Bool) (x9 : Int) (x10 : Option Addr) (l11 : Nat) (c12 : Nat) (x13 : Int) (w : World) (K : Value → World → Prop) : G Try.prog [15] 23 [0, 1, 2, 3, 4, 5, 11] (H9 K) 0 (bodyOf Try.f9) (retG Try.prog Try.f9.results.toList K) (env0 0 [(.agg #[(.slice x1 l2 c3), (.int .i64 x4), (.bool x5)]), (.agg #[(.int .u32 x6), (.bool x7), (.bool x8), (.int .u8 x9), (.slice x10 l11 c12), (.int .i64 x13)])]) w = S9 x1 l2 c3 x4 x5 x6 x7 x8 x9 x10 l11 c12 x13 w K := by kernel_rfl
theorem ok9 {x1 : Option Addr} {l2 : Nat} {c3 : Nat} {x4 : Int} {x5 : Bool} {x6 : Int} {x7 : Bool} {x8 : Bool} {x9 : Int} {x10 : Option Addr} {l11 : Nat} {c12 : Nat} {x13 : Int} {w : World} {K : Value → World → Prop} (h : S9 x1 l2 c3 x4 x5 x6 x7 x8 x9 x10 l11 c12 x13 w K) : callV Try.prog 9 #[(.agg #[(.slice x1 l2 c3), (.int .i64 x4), (.bool x5)]), (.agg #[(.int .u32 x6), (.bool x7), (.bool x8), (.int .u8 x9), (.slice x10 l11 c12), (.int .i64 x13)])] w K :=
  call_sound (qs := [15]) (args := [(.agg #[(.slice x1 l2 c3), (.int .i64 x4), (.bool x5)]), (.agg #[(.int .u32 x6), (.bool x7), (.bool x8), (.int .u8 x9), (.slice x10 l11 c12), (.int .i64 x13)])]) (by kernel_rfl) (Try.func9) (c := bodyOf Try.f9) (by kernel_rfl) (by kernel_rfl) (allL (show loops 0 (bodyOf Try.f9) = [] by kernel_rfl) True.intro) (Eq.mpr (eq9 x1 l2 c3 x4 x5 x6 x7 x8 x9 x10 l11 c12 x13 w K) h)
def H11 (_F : Value → World → Prop) : Nat → Kont → Env → World → Prop := fun _ _ _ _ => False
/-- (jackstay/jackstayref12.State).Pop -/
def S11 (x1 : Option Addr) (l2 : Nat) (c3 : Nat) (x4 : Int) (x5 : Bool) (w : World) (K : Value → World → Prop) : Prop :=
  al w (.cells #[(.slice x1 l2 c3), (.int .i64 x4), (.bool x5)] 30) fun r6 w => al w (.cells #[(.slice none 0 0), (.int .i64 0), (.bool false)] 30) fun r7 w => al w (.cells #[(.int .u32 0), (.bool false), (.bool false), (.int .u8 0), (.slice none 0 0), (.int .i64 0)] 36) fun r8 w => ∃ (p9 : Option Addr) (l10 c11 : Nat), w.cell? ⟨r6, 0, none⟩ = some (.slice p9 l10 c11) ∧ br (((l10 : Int) : Int) == 0)
  (∃ (p12 : Option Addr) (l13 c14 : Nat), w.cell? ⟨r6, 0, none⟩ = some (.slice p12 l13 c14) ∧ ∃ n15 : Int, w.cell? ⟨r6, 1, none⟩ = some (.int .i64 n15) ∧ ∃ b16 : Bool, w.cell? ⟨r6, 2, none⟩ = some (.bool b16) ∧ stL w ⟨r7, 0, none⟩ 0 [(.slice p12 l13 c14), (.int .i64 n15), (.bool b16)] fun w => stL w ⟨r8, 0, none⟩ 0 [(.int .u32 0), (.bool false), (.bool false), (.int .u8 0), (.slice none 0 0), (.int .i64 0)] fun w => ∃ (p17 : Option Addr) (l18 c19 : Nat), w.cell? ⟨r7, 0, none⟩ = some (.slice p17 l18 c19) ∧ ∃ n20 : Int, w.cell? ⟨r7, 1, none⟩ = some (.int .i64 n20) ∧ ∃ b21 : Bool, w.cell? ⟨r7, 2, none⟩ = some (.bool b21) ∧ ∃ n22 : Int, w.cell? ⟨r8, 0, none⟩ = some (.int .u32 n22) ∧ ∃ b23 : Bool, w.cell? ⟨r8, 1, none⟩ = some (.bool b23) ∧ ∃ b24 : Bool, w.cell? ⟨r8, 2, none⟩ = some (.bool b24) ∧ ∃ n25 : Int, w.cell? ⟨r8, 3, none⟩ = some (.int .u8 n25) ∧ ∃ (p26 : Option Addr) (l27 c28 : Nat), w.cell? ⟨r8, 4, none⟩ = some (.slice p26 l27 c28) ∧ ∃ n29 : Int, w.cell? ⟨r8, 5, none⟩ = some (.int .i64 n29) ∧ K (.tuple #[(.agg #[(.slice p17 l18 c19), (.int .i64 n20), (.bool b21)]), (.agg #[(.int .u32 n22), (.bool b23), (.bool b24), (.int .u8 n25), (.slice p26 l27 c28), (.int .i64 n29)]), (.bool false)]) w)
  (∃ (p30 : Option Addr) (l31 c32 : Nat), w.cell? ⟨r6, 0, none⟩ = some (.slice p30 l31 c32) ∧ idx p30 l31 6 0 fun a33 => ∃ n34 : Int, w.cell? a33 = some (.int .u32 n34) ∧ ∃ b35 : Bool, w.cell? (a33.add 1) = some (.bool b35) ∧ ∃ b36 : Bool, w.cell? (a33.add 2) = some (.bool b36) ∧ ∃ n37 : Int, w.cell? (a33.add 3) = some (.int .u8 n37) ∧ ∃ (p38 : Option Addr) (l39 c40 : Nat), w.cell? (a33.add 4) = some (.slice p38 l39 c40) ∧ ∃ n41 : Int, w.cell? (a33.add 5) = some (.int .i64 n41) ∧ al w (.cells #[(.int .u32 0), (.bool false), (.bool false), (.int .u8 0), (.slice none 0 0), (.int .i64 0)] 36) fun r42 w => stL w ⟨r42, 0, none⟩ 0 [(.int .u32 n34), (.bool b35), (.bool b36), (.int .u8 n37), (.slice p38 l39 c40), (.int .i64 n41)] fun w => ∃ (p43 : Option Addr) (l44 c45 : Nat), w.cell? ⟨r6, 0, none⟩ = some (.slice p43 l44 c45) ∧ slc p43 l44 c45 6 (some 1) none none fun p46 l47 c48 => stL w ⟨r6, 0, none⟩ 0 [(.slice p46 l47 c48)] fun w => dr w fun w =>
  ∃ (p49 : Option Addr) (l50 c51 : Nat), w.cell? ⟨r6, 0, none⟩ = some (.slice p49 l50 c51) ∧ ∃ n52 : Int, w.cell? ⟨r6, 1, none⟩ = some (.int .i64 n52) ∧ ∃ b53 : Bool, w.cell? ⟨r6, 2, none⟩ = some (.bool b53) ∧ (∃ n54 : Int, w.cell? ⟨r42, 0, none⟩ = some (.int .u32 n54) ∧ ∃ b55 : Bool, w.cell? ⟨r42, 1, none⟩ = some (.bool b55) ∧ ∃ b56 : Bool, w.cell? ⟨r42, 2, none⟩ = some (.bool b56) ∧ ∃ n57 : Int, w.cell? ⟨r42, 3, none⟩ = some (.int .u8 n57) ∧ ∃ (p58 : Option Addr) (l59 c60 : Nat), w.cell? ⟨r42, 4, none⟩ = some (.slice p58 l59 c60) ∧ ∃ n61 : Int, w.cell? ⟨r42, 5, none⟩ = some (.int .i64 n61) ∧ stL w ⟨r7, 0, none⟩ 0 [(.slice p49 l50 c51), (.int .i64 n52), (.bool b53)] fun w => stL w ⟨r8, 0, none⟩ 0 [(.int .u32 n54), (.bool b55), (.bool b56), (.int .u8 n57), (.slice p58 l59 c60), (.int .i64 n61)] fun w => ∃ (p70 : Option Addr) (l71 c72 : Nat), w.cell? ⟨r7, 0, none⟩ = some (.slice p70 l71 c72) ∧ ∃ n73 : Int, w.cell? ⟨r7, 1, none⟩ = some (.int .i64 n73) ∧ ∃ b74 : Bool, w.cell? ⟨r7, 2, none⟩ = some (.bool b74) ∧ ∃ n75 : Int, w.cell? ⟨r8, 0, none⟩ = some (.int .u32 n75) ∧ ∃ b76 : Bool, w.cell? ⟨r8, 1, none⟩ = some (.bool b76) ∧ ∃ b77 : Bool, w.cell? ⟨r8, 2, none⟩ = some (.bool b77) ∧ ∃ n78 : Int, w.cell? ⟨r8, 3, none⟩ = some (.int .u8 n78) ∧ ∃ (p79 : Option Addr) (l80 c81 : Nat), w.cell? ⟨r8, 4, none⟩ = some (.slice p79 l80 c81) ∧ ∃ n82 : Int, w.cell? ⟨r8, 5, none⟩ = some (.int .i64 n82) ∧ K (.tuple #[(.agg #[(.slice p70 l71 c72), (.int .i64 n73), (.bool b74)]), (.agg #[(.int .u32 n75), (.bool b76), (.bool b77), (.int .u8 n78), (.slice p79 l80 c81), (.int .i64 n82)]), (.bool true)]) w) ∧
  (stL w ⟨r7, 0, none⟩ 0 [(.slice p49 l50 c51), (.int .i64 n52), (.bool b53)] fun w => ∃ n62 : Int, w.cell? ⟨r42, 0, none⟩ = some (.int .u32 n62) ∧ ∃ b63 : Bool, w.cell? ⟨r42, 1, none⟩ = some (.bool b63) ∧ ∃ b64 : Bool, w.cell? ⟨r42, 2, none⟩ = some (.bool b64) ∧ ∃ n65 : Int, w.cell? ⟨r42, 3, none⟩ = some (.int .u8 n65) ∧ ∃ (p66 : Option Addr) (l67 c68 : Nat), w.cell? ⟨r42, 4, none⟩ = some (.slice p66 l67 c68) ∧ ∃ n69 : Int, w.cell? ⟨r42, 5, none⟩ = some (.int .i64 n69) ∧ stL w ⟨r8, 0, none⟩ 0 [(.int .u32 n62), (.bool b63), (.bool b64), (.int .u8 n65), (.slice p66 l67 c68), (.int .i64 n69)] fun w => ∃ (p83 : Option Addr) (l84 c85 : Nat), w.cell? ⟨r7, 0, none⟩ = some (.slice p83 l84 c85) ∧ ∃ n86 : Int, w.cell? ⟨r7, 1, none⟩ = some (.int .i64 n86) ∧ ∃ b87 : Bool, w.cell? ⟨r7, 2, none⟩ = some (.bool b87) ∧ ∃ n88 : Int, w.cell? ⟨r8, 0, none⟩ = some (.int .u32 n88) ∧ ∃ b89 : Bool, w.cell? ⟨r8, 1, none⟩ = some (.bool b89) ∧ ∃ b90 : Bool, w.cell? ⟨r8, 2, none⟩ = some (.bool b90) ∧ ∃ n91 : Int, w.cell? ⟨r8, 3, none⟩ = some (.int .u8 n91) ∧ ∃ (p92 : Option Addr) (l93 c94 : Nat), w.cell? ⟨r8, 4, none⟩ = some (.slice p92 l93 c94) ∧ ∃ n95 : Int, w.cell? ⟨r8, 5, none⟩ = some (.int .i64 n95) ∧ K (.tuple #[(.agg #[(.slice p83 l84 c85), (.int .i64 n86), (.bool b87)]), (.agg #[(.int .u32 n88), (.bool b89), (.bool b90), (.int .u8 n91), (.slice p92 l93 c94), (.int .i64 n95)]), (.bool true)]) w))
theorem eq11 (x1 : Option Addr) (l2 : Nat) (c3 : Nat) (x4 : Int) (x5 : Bool) (w : World) (K : Value → World → Prop) : G Try.prog [15] 22 [0, 1, 2, 3, 4, 5, 9] (H11 K) 0 (bodyOf Try.f11) (retG Try.prog Try.f11.results.toList K) (env0 0 [(.agg #[(.slice x1 l2 c3), (.int .i64 x4), (.bool x5)])]) w = S11 x1 l2 c3 x4 x5 w K := by kernel_rfl
theorem ok11 {x1 : Option Addr} {l2 : Nat} {c3 : Nat} {x4 : Int} {x5 : Bool} {w : World} {K : Value → World → Prop} (h : S11 x1 l2 c3 x4 x5 w K) : callV Try.prog 11 #[(.agg #[(.slice x1 l2 c3), (.int .i64 x4), (.bool x5)])] w K :=
  call_sound (qs := [15]) (args := [(.agg #[(.slice x1 l2 c3), (.int .i64 x4), (.bool x5)])]) (by kernel_rfl) (Try.func11) (c := bodyOf Try.f11) (by kernel_rfl) (by kernel_rfl) (allL (show loops 0 (bodyOf Try.f11) = [] by kernel_rfl) True.intro) (Eq.mpr (eq11 x1 l2 c3 x4 x5 w K) h)
def H13 (_F : Value → World → Prop) : Nat → Kont → Env → World → Prop := fun _ _ _ _ => False
/-- jackstay/jackstayref12.Alike -/
def S13 (x1 : Int) (x2 : Bool) (x3 : Bool) (x4 : Int) (x5 : Option Addr) (l6 : Nat) (c7 : Nat) (x8 : Int) (x9 : Int) (x10 : Bool) (x11 : Bool) (x12 : Int) (x13 : Option Addr) (l14 : Nat) (c15 : Nat) (x16 : Int) (w : World) (K : Value → World → Prop) : Prop :=
  al w (.cells #[(.int .u32 x1), (.bool x2), (.bool x3), (.int .u8 x4), (.slice x5 l6 c7), (.int .i64 x8)] 36) fun r17 w => al w (.cells #[(.int .u32 x9), (.bool x10), (.bool x11), (.int .u8 x12), (.slice x13 l14 c15), (.int .i64 x16)] 36) fun r18 w => ∃ n19 : Int, w.cell? ⟨r17, 5, none⟩ = some (.int .i64 n19) ∧ ∃ n20 : Int, w.cell? ⟨r18, 5, none⟩ = some (.int .i64 n20) ∧ br ((n19 : Int) == n20)
  (∃ n21 : Int, w.cell? ⟨r17, 0, none⟩ = some (.int .u32 n21) ∧ ∃ b22 : Bool, w.cell? ⟨r17, 1, none⟩ = some (.bool b22) ∧ ∃ b23 : Bool, w.cell? ⟨r17, 2, none⟩ = some (.bool b23) ∧ ∃ n24 : Int, w.cell? ⟨r17, 3, none⟩ = some (.int .u8 n24) ∧ ∃ (p25 : Option Addr) (l26 c27 : Nat), w.cell? ⟨r17, 4, none⟩ = some (.slice p25 l26 c27) ∧ ∃ n28 : Int, w.cell? ⟨r18, 0, none⟩ = some (.int .u32 n28) ∧ ∃ b29 : Bool, w.cell? ⟨r18, 1, none⟩ = some (.bool b29) ∧ ∃ b30 : Bool, w.cell? ⟨r18, 2, none⟩ = some (.bool b30) ∧ ∃ n31 : Int, w.cell? ⟨r18, 3, none⟩ = some (.int .u8 n31) ∧ ∃ (p32 : Option Addr) (l33 c34 : Nat), w.cell? ⟨r18, 4, none⟩ = some (.slice p32 l33 c34) ∧ callV Try.prog 21 #[(.agg #[(.int .u32 n21), (.bool b22), (.bool b23), (.int .u8 n24), (.slice p25 l26 c27)]), (.agg #[(.int .u32 n28), (.bool b29), (.bool b30), (.int .u8 n31), (.slice p32 l33 c34)])] w fun v35 w => ∃ b36 : Bool, v35 = (.bool b36) ∧ K (.bool b36) w)
  (K (.bool false) w)
theorem eq13 (x1 : Int) (x2 : Bool) (x3 : Bool) (x4 : Int) (x5 : Option Addr) (l6 : Nat) (c7 : Nat) (x8 : Int) (x9 : Int) (x10 : Bool) (x11 : Bool) (x12 : Int) (x13 : Option Addr) (l14 : Nat) (c15 : Nat) (x16 : Int) (w : World) (K : Value → World → Prop) : G Try.prog [15] 17 [0, 1, 2, 3, 4] (H13 K) 0 (bodyOf Try.f13) (retG Try.prog Try.f13.results.toList K) (env0 0 [(.agg #[(.int .u32 x1), (.bool x2), (.bool x3), (.int .u8 x4), (.slice x5 l6 c7), (.int .i64 x8)]), (.agg #[(.int .u32 x9), (.bool x10), (.bool x11), (.int .u8 x12), (.slice x13 l14 c15), (.int .i64 x16)])]) w = S13 x1 x2 x3 x4 x5 l6 c7 x8 x9 x10 x11 x12 x13 l14 c15 x16 w K := by kernel_rfl
theorem ok13 {x1 : Int} {x2 : Bool} {x3 : Bool} {x4 : Int} {x5 : Option Addr} {l6 : Nat} {c7 : Nat} {x8 : Int} {x9 : Int} {x10 : Bool} {x11 : Bool} {x12 : Int} {x13 : Option Addr} {l14 : Nat} {c15 : Nat} {x16 : Int} {w : World} {K : Value → World → Prop} (h : S13 x1 x2 x3 x4 x5 l6 c7 x8 x9 x10 x11 x12 x13 l14 c15 x16 w K) : callV Try.prog 13 #[(.agg #[(.int .u32 x1), (.bool x2), (.bool x3), (.int .u8 x4), (.slice x5 l6 c7), (.int .i64 x8)]), (.agg #[(.int .u32 x9), (.bool x10), (.bool x11), (.int .u8 x12), (.slice x13 l14 c15), (.int .i64 x16)])] w K :=
  call_sound (qs := [15]) (args := [(.agg #[(.int .u32 x1), (.bool x2), (.bool x3), (.int .u8 x4), (.slice x5 l6 c7), (.int .i64 x8)]), (.agg #[(.int .u32 x9), (.bool x10), (.bool x11), (.int .u8 x12), (.slice x13 l14 c15), (.int .i64 x16)])]) (by kernel_rfl) (Try.func13) (c := bodyOf Try.f13) (by kernel_rfl) (by kernel_rfl) (allL (show loops 0 (bodyOf Try.f13) = [] by kernel_rfl) True.intro) (Eq.mpr (eq13 x1 x2 x3 x4 x5 l6 c7 x8 x9 x10 x11 x12 x13 l14 c15 x16 w K) h)
def B21_0 (x31 : Addr) (x32 : Addr) (x33 : Int) (w : World) (N : Int → World → Prop) (X0 : World → Prop) (K : Value → World → Prop) : Prop :=
  ∃ (p34 : Option Addr) (l35 c36 : Nat), w.cell? (x31.add 4) = some (.slice p34 l35 c36) ∧ br (decide ((x33 : Int) < (l35 : Int)))
  (dr w fun w =>
  ∃ (p37 : Option Addr) (l38 c39 : Nat), w.cell? (x31.add 4) = some (.slice p37 l38 c39) ∧ idx p37 l38 1 x33 fun a40 => ∃ n41 : Int, w.cell? a40 = some (.int .u8 n41) ∧ ∃ (p42 : Option Addr) (l43 c44 : Nat), w.cell? (x32.add 4) = some (.slice p42 l43 c44) ∧ idx p42 l43 1 x33 fun a45 => ∃ n46 : Int, w.cell? a45 = some (.int .u8 n46) ∧ br ((n41 : Int) != n46)
  (K (.bool false) w)
  (N (IntKind.wrap .i64 (x33 + 1)) w))
  (X0 w)
/-- The loop in block 0 of function 21: by what holds at its head. -/
def LS21_0 (x31 : Addr) (x32 : Addr) (x33 : Int) (w : World) (X0 : World → Prop) (K : Value → World → Prop) : Prop :=
  ∃ J : Nat → Int → World → Prop, (∃ n, J n x33 w) ∧ ∀ n x33 w, J n x33 w → B21_0 x31 x32 x33 w (fun x33 w => ∃ m, m < n ∧ J m x33 w) X0 K
abbrev env21_0 (x31 : Addr) (x32 : Addr) (x33 : Int) : Env := [(2, (.pointer (some x31))), (3, (.pointer (some x32))), (5, (.int .i64 x33))]
def Kt21_0 (N : Int → World → Prop) (X0 : World → Prop) (K : Value → World → Prop) : Kont := fun e E w => match e with
  | .normal => gI .i64 E 5 fun x33 => N x33 w
  | .exit j => match Nat.beq j 0 with | true => (X0 w) | false => (False)
  | .ret => retG Try.prog Try.f21.results.toList K .ret E w
  | _ => False
def HL21_0 (F : Value → World → Prop) (K : Kont) (E : Env) (w : World) : Prop := match keep [2, 3, 5] E with
  | [(2, (.pointer (some x31))), (3, (.pointer (some x32))), (5, (.int .i64 x33))] => LS21_0 x31 x32 x33 w (fun w => K (.exit 0) [] w) F
  | _ => False
def H21 (F : Value → World → Prop) : Nat → Kont → Env → World → Prop := fun b K E w => match Nat.beq b 0 with | true => HL21_0 F K E w | false => (False)
theorem Beq21_0 (x31 : Addr) (x32 : Addr) (x33 : Int) (w : World) (N : Int → World → Prop) (X0 : World → Prop) (K : Value → World → Prop) :
    G Try.prog [15] 59 [0, 1, 2, 3, 4, 5, 40, 45, 58] (H21 K) 0 (loopOf 0 Try.f21) (Kt21_0 N X0 K) (env21_0 x31 x32 x33) w = B21_0 x31 x32 x33 w N X0 K := by kernel_rfl
theorem lok21_0 (F : Value → World → Prop) : LoopOk Try.prog 59 Try.f21.results.toList F (H21 F) 0 (loopOf 0 Try.f21) := by
  intro K E a w Q hr h hs hq
  have hs0 := hs.keep [2, 3, 5]
  have h1 : HL21_0 F K E w := h
  unfold HL21_0 at h1
  split at h1
  · rename_i x31 x32 x33 heq
    obtain ⟨J, ⟨n, hJ⟩, hround⟩ := h1
    rw [heq] at hs0
    refine loop_typed (qs := [15]) (L := [0, 1, 2, 3, 4, 5, 40, 45, 58]) (rs := Try.f21.results.toList) (F := F) (H := H21 F) (b := 0) (by kernel_rfl) (allL (show loops 0 (loopOf 0 Try.f21) = [] by kernel_rfl) True.intro) (σ := Int) (fun s => env21_0 x31 x32 s) (fun n s w => J n s w)
      (fun n => Kt21_0 (fun x33 w => ∃ m, m < n ∧ J m x33 w) (fun w => K (.exit 0) [] w) F) (fun _ _ _ h => h) ?_ ?_ a ?_ n x33 a w hJ (Fr.refl _ _) hs0
    · intro n s w hJ
      exact Eq.mpr (Beq21_0 x31 x32 s w _ _ F) (hround n s w hJ)
    · intro n s E' w' h
      obtain ⟨x33, e5, h⟩ := gI_get h
      obtain ⟨m, hm, hJ⟩ := h
      exact ⟨m, x33, hm, hJ, ⟨.inl ⟨by kernel_rfl, rfl⟩, .inl ⟨by kernel_rfl, rfl⟩, .inr e5, True.intro⟩⟩
    · intro n s a1 e E' a' w' he hs1 hf0 hf1 hs' h
      cases e with
      | normal => exact (he rfl).elim
      | exit j =>
        dsimp only [Kt21_0] at h
        cases hb : Nat.beq j 0
        case' true =>
          rw [hb] at h
          have hj := Nat.eq_of_beq_eq_true hb
          subst hj
          dsimp only at h
          exact hq _ _ _ _ (hs1.next hf1 hs' (E2 := []) True.intro) hf0 h
        rw [hb] at h
        dsimp only at h
        all_goals exact h.elim
      | ret => exact hq _ _ _ _ hs' hf0 (hr _ _ h)
      | _ => exact h.elim
  · exact h1.elim
/-- jackstay/jackstayref10.Same -/
def S21 (x1 : Int) (x2 : Bool) (x3 : Bool) (x4 : Int) (x5 : Option Addr) (l6 : Nat) (c7 : Nat) (x8 : Int) (x9 : Bool) (x10 : Bool) (x11 : Int) (x12 : Option Addr) (l13 : Nat) (c14 : Nat) (w : World) (K : Value → World → Prop) : Prop :=
  al w (.cells #[(.int .u32 x1), (.bool x2), (.bool x3), (.int .u8 x4), (.slice x5 l6 c7)] 34) fun r15 w => al w (.cells #[(.int .u32 x8), (.bool x9), (.bool x10), (.int .u8 x11), (.slice x12 l13 c14)] 34) fun r16 w => ∃ n17 : Int, w.cell? ⟨r15, 0, none⟩ = some (.int .u32 n17) ∧ ∃ n18 : Int, w.cell? ⟨r16, 0, none⟩ = some (.int .u32 n18) ∧ br ((n17 : Int) != n18)
  (K (.bool false) w)
  (∃ b19 : Bool, w.cell? ⟨r15, 1, none⟩ = some (.bool b19) ∧ ∃ b20 : Bool, w.cell? ⟨r16, 1, none⟩ = some (.bool b20) ∧ br (!(b19 == b20))
  (K (.bool false) w)
  (∃ b21 : Bool, w.cell? ⟨r15, 2, none⟩ = some (.bool b21) ∧ ∃ b22 : Bool, w.cell? ⟨r16, 2, none⟩ = some (.bool b22) ∧ br (!(b21 == b22))
  (K (.bool false) w)
  (∃ n23 : Int, w.cell? ⟨r15, 3, none⟩ = some (.int .u8 n23) ∧ ∃ n24 : Int, w.cell? ⟨r16, 3, none⟩ = some (.int .u8 n24) ∧ br ((n23 : Int) != n24)
  (K (.bool false) w)
  (∃ (p25 : Option Addr) (l26 c27 : Nat), w.cell? ⟨r15, 4, none⟩ = some (.slice p25 l26 c27) ∧ ∃ (p28 : Option Addr) (l29 c30 : Nat), w.cell? ⟨r16, 4, none⟩ = some (.slice p28 l29 c30) ∧ br (((l26 : Int) : Int) != (l29 : Int))
  (K (.bool false) w)
  (LS21_0 (⟨r15, 0, none⟩) (⟨r16, 0, none⟩) 0 w
  (fun w => K (.bool true) w) K)))))
theorem eq21 (x1 : Int) (x2 : Bool) (x3 : Bool) (x4 : Int) (x5 : Option Addr) (l6 : Nat) (c7 : Nat) (x8 : Int) (x9 : Bool) (x10 : Bool) (x11 : Int) (x12 : Option Addr) (l13 : Nat) (c14 : Nat) (w : World) (K : Value → World → Prop) : G Try.prog [15] 59 [0, 1, 2, 3, 4, 5, 40, 45, 58] (H21 K) 0 (bodyOf Try.f21) (retG Try.prog Try.f21.results.toList K) (env0 0 [(.agg #[(.int .u32 x1), (.bool x2), (.bool x3), (.int .u8 x4), (.slice x5 l6 c7)]), (.agg #[(.int .u32 x8), (.bool x9), (.bool x10), (.int .u8 x11), (.slice x12 l13 c14)])]) w = S21 x1 x2 x3 x4 x5 l6 c7 x8 x9 x10 x11 x12 l13 c14 w K := by kernel_rfl
theorem ok21 {x1 : Int} {x2 : Bool} {x3 : Bool} {x4 : Int} {x5 : Option Addr} {l6 : Nat} {c7 : Nat} {x8 : Int} {x9 : Bool} {x10 : Bool} {x11 : Int} {x12 : Option Addr} {l13 : Nat} {c14 : Nat} {w : World} {K : Value → World → Prop} (h : S21 x1 x2 x3 x4 x5 l6 c7 x8 x9 x10 x11 x12 l13 c14 w K) : callV Try.prog 21 #[(.agg #[(.int .u32 x1), (.bool x2), (.bool x3), (.int .u8 x4), (.slice x5 l6 c7)]), (.agg #[(.int .u32 x8), (.bool x9), (.bool x10), (.int .u8 x11), (.slice x12 l13 c14)])] w K :=
  call_sound (qs := [15]) (args := [(.agg #[(.int .u32 x1), (.bool x2), (.bool x3), (.int .u8 x4), (.slice x5 l6 c7)]), (.agg #[(.int .u32 x8), (.bool x9), (.bool x10), (.int .u8 x11), (.slice x12 l13 c14)])]) (by kernel_rfl) (Try.func21) (c := bodyOf Try.f21) (by kernel_rfl) (by kernel_rfl) (allL (show loops 0 (bodyOf Try.f21) = [(0, loopOf 0 Try.f21)] by kernel_rfl) ⟨lok21_0 K, True.intro⟩) (Eq.mpr (eq21 x1 x2 x3 x4 x5 l6 c7 x8 x9 x10 x11 x12 l13 c14 w K) h)
def B3_3 (x116 : Option Addr) (x117 : Addr) (x118 : Addr) (x119 : Option Addr) (l120 : Nat) (c121 : Nat) (x122 : Int) (x123 : Int) (x124 : Int) (x125 : Int) (w : World) (N : Int → World → Prop) (X3 : World → Prop) (K : Value → World → Prop) : Prop :=
  br (decide ((x125 : Int) < x124))
  (∃ (p126 : Option Addr) (l127 c128 : Nat), w.cell? (x118.add 4) = some (.slice p126 l127 c128) ∧ idx p126 l127 1 x125 fun a129 => ∃ n130 : Int, w.cell? a129 = some (.int .u8 n130) ∧ idx p126 l127 1 x125 fun a131 => stL w a131 0 [(.int .u8 (IntKind.wrap .u8 (n130 + 1)))] fun w => N (IntKind.wrap .i64 (x125 + 1)) w)
  (X3 w)
/-- The loop in block 3 of function 3: by what holds at its head. -/
def LS3_3 (x116 : Option Addr) (x117 : Addr) (x118 : Addr) (x119 : Option Addr) (l120 : Nat) (c121 : Nat) (x122 : Int) (x123 : Int) (x124 : Int) (x125 : Int) (w : World) (X3 : World → Prop) (K : Value → World → Prop) : Prop :=
  ∃ J : Nat → Int → World → Prop, (∃ n, J n x125 w) ∧ ∀ n x125 w, J n x125 w → B3_3 x116 x117 x118 x119 l120 c121 x122 x123 x124 x125 w (fun x125 w => ∃ m, m < n ∧ J m x125 w) X3 K
abbrev env3_3 (x116 : Option Addr) (x117 : Addr) (x118 : Addr) (x119 : Option Addr) (l120 : Nat) (c121 : Nat) (x122 : Int) (x123 : Int) (x124 : Int) (x125 : Int) : Env := [(5, (.pointer x116)), (7, (.pointer (some x117))), (10, (.pointer (some x118))), (45, (.slice x119 l120 c121)), (46, (.int .i64 x122)), (47, (.int .i64 x123)), (103, (.int .i64 x124)), (104, (.int .i64 x125))]
def Kt3_3 (N : Int → World → Prop) (X3 : World → Prop) (K : Value → World → Prop) : Kont := fun e E w => match e with
  | .normal => gI .i64 E 104 fun x125 => N x125 w
  | .exit j => match Nat.beq j 3 with | true => (X3 w) | false => (False)
  | .ret => retG Try.prog Try.f3.results.toList K .ret E w
  | _ => False
def HL3_3 (F : Value → World → Prop) (K : Kont) (E : Env) (w : World) : Prop := match keep [5, 7, 10, 45, 46, 47, 103, 104] E with
  | [(5, (.pointer x116)), (7, (.pointer (some x117))), (10, (.pointer (some x118))), (45, (.slice x119 l120 c121)), (46, (.int .i64 x122)), (47, (.int .i64 x123)), (103, (.int .i64 x124)), (104, (.int .i64 x125))] => LS3_3 x116 x117 x118 x119 l120 c121 x122 x123 x124 x125 w (fun w => K (.exit 3) [(5, (.pointer x116)), (7, (.pointer (some x117))), (45, (.slice x119 l120 c121)), (46, (.int .i64 x122)), (47, (.int .i64 x123))] w) F
  | _ => False
def B3_5 (x191 : Option Addr) (x192 : Addr) (x193 : Addr) (x194 : Option Addr) (l195 : Nat) (c196 : Nat) (x197 : Int) (x198 : Int) (x199 : Int) (x200 : Int) (w : World) (N : Int → World → Prop) (X5 : World → Prop) (K : Value → World → Prop) : Prop :=
  br (decide ((x200 : Int) < x199))
  (∃ (p201 : Option Addr) (l202 c203 : Nat), w.cell? (x193.add 4) = some (.slice p201 l202 c203) ∧ idx p201 l202 1 x200 fun a204 => stL w a204 0 [(.int .u8 77)] fun w => N (IntKind.wrap .i64 (x200 + 1)) w)
  (X5 w)
/-- The loop in block 5 of function 3: by what holds at its head. -/
def LS3_5 (x191 : Option Addr) (x192 : Addr) (x193 : Addr) (x194 : Option Addr) (l195 : Nat) (c196 : Nat) (x197 : Int) (x198 : Int) (x199 : Int) (x200 : Int) (w : World) (X5 : World → Prop) (K : Value → World → Prop) : Prop :=
  ∃ J : Nat → Int → World → Prop, (∃ n, J n x200 w) ∧ ∀ n x200 w, J n x200 w → B3_5 x191 x192 x193 x194 l195 c196 x197 x198 x199 x200 w (fun x200 w => ∃ m, m < n ∧ J m x200 w) X5 K
abbrev env3_5 (x191 : Option Addr) (x192 : Addr) (x193 : Addr) (x194 : Option Addr) (l195 : Nat) (c196 : Nat) (x197 : Int) (x198 : Int) (x199 : Int) (x200 : Int) : Env := [(5, (.pointer x191)), (7, (.pointer (some x192))), (18, (.pointer (some x193))), (45, (.slice x194 l195 c196)), (46, (.int .i64 x197)), (47, (.int .i64 x198)), (142, (.int .i64 x199)), (143, (.int .i64 x200))]
def Kt3_5 (N : Int → World → Prop) (X5 : World → Prop) (K : Value → World → Prop) : Kont := fun e E w => match e with
  | .normal => gI .i64 E 143 fun x200 => N x200 w
  | .exit j => match Nat.beq j 5 with | true => (X5 w) | false => (False)
  | .ret => retG Try.prog Try.f3.results.toList K .ret E w
  | _ => False
def HL3_5 (F : Value → World → Prop) (K : Kont) (E : Env) (w : World) : Prop := match keep [5, 7, 18, 45, 46, 47, 142, 143] E with
  | [(5, (.pointer x191)), (7, (.pointer (some x192))), (18, (.pointer (some x193))), (45, (.slice x194 l195 c196)), (46, (.int .i64 x197)), (47, (.int .i64 x198)), (142, (.int .i64 x199)), (143, (.int .i64 x200))] => LS3_5 x191 x192 x193 x194 l195 c196 x197 x198 x199 x200 w (fun w => K (.exit 5) [(5, (.pointer x191)), (7, (.pointer (some x192))), (45, (.slice x194 l195 c196)), (46, (.int .i64 x197)), (47, (.int .i64 x198))] w) F
  | _ => False
def B3_0 (x16 : Option Addr) (x17 : Addr) (x18 : Option Addr) (l19 : Nat) (c20 : Nat) (x21 : Int) (x22 : Int) (w : World) (N : Int → World → Prop) (X0 : World → Prop) (K : Value → World → Prop) : Prop :=
  br (decide ((x22 : Int) < x21))
  (jn (fun (w : World) =>
  N (IntKind.wrap .i64 (x22 + 1)) w) fun J224 =>
  idx x18 l19 7 x22 fun a23 => ∃ n24 : Int, w.cell? a23 = some (.int .u8 n24) ∧ ∃ n25 : Int, w.cell? (a23.add 1) = some (.int .u32 n25) ∧ ∃ b26 : Bool, w.cell? (a23.add 2) = some (.bool b26) ∧ ∃ b27 : Bool, w.cell? (a23.add 3) = some (.bool b27) ∧ ∃ n28 : Int, w.cell? (a23.add 4) = some (.int .u8 n28) ∧ ∃ (p29 : Option Addr) (l30 c31 : Nat), w.cell? (a23.add 5) = some (.slice p29 l30 c31) ∧ ∃ n32 : Int, w.cell? (a23.add 6) = some (.int .i64 n32) ∧ al w (.cells #[(.int .u8 0), (.int .u32 0), (.bool false), (.bool false), (.int .u8 0), (.slice none 0 0), (.int .i64 0)] 38) fun r33 w => stL w ⟨r33, 0, none⟩ 0 [(.int .u8 n24), (.int .u32 n25), (.bool b26), (.bool b27), (.int .u8 n28), (.slice p29 l30 c31), (.int .i64 n32)] fun w => jn (fun (w : World) =>
  dr w fun w =>
  callQ Try.prog 15 #[(.pointer x16)] w fun v213 w => ∃ n214 : Int, v213 = (.int .i64 n214) ∧ ∃ (p215 : Option Addr) (l216 c217 : Nat), w.cell? x17 = some (.slice p215 l216 c217) ∧ br ((n214 : Int) != (l216 : Int))
  ((K (.bool false) w) ∧
  (K (.bool false) w))
  ((callV Try.prog 16 #[(.pointer x16)] w fun v218 w => ∃ b219 : Bool, v218 = (.bool b219) ∧ ∃ b220 : Bool, w.cell? (x17.add 2) = some (.bool b220) ∧ br (!(b219 == b220))
  (K (.bool false) w)
  (J224 w)) ∧
  (∃ b221 : Bool, w.cell? (x17.add 2) = some (.bool b221) ∧ callV Try.prog 16 #[(.pointer x16)] w fun v222 w => ∃ b223 : Bool, v222 = (.bool b223) ∧ br (!(b223 == b221))
  (K (.bool false) w)
  (J224 w)))) fun J212 =>
  ∃ n34 : Int, w.cell? ⟨r33, 0, none⟩ = some (.int .u8 n34) ∧ jn (fun (x35 : Bool) (w : World) =>
  br x35
  (∃ n37 : Int, w.cell? ⟨r33, 1, none⟩ = some (.int .u32 n37) ∧ ∃ b38 : Bool, w.cell? ⟨r33, 2, none⟩ = some (.bool b38) ∧ ∃ b39 : Bool, w.cell? ⟨r33, 3, none⟩ = some (.bool b39) ∧ ∃ n40 : Int, w.cell? ⟨r33, 4, none⟩ = some (.int .u8 n40) ∧ ∃ (p41 : Option Addr) (l42 c43 : Nat), w.cell? ⟨r33, 5, none⟩ = some (.slice p41 l42 c43) ∧ ∃ n44 : Int, w.cell? ⟨r33, 6, none⟩ = some (.int .i64 n44) ∧ al w (.cells #[(.int .u32 0), (.bool false), (.bool false), (.int .u8 0), (.slice none 0 0), (.int .i64 0)] 36) fun r45 w => stL w ⟨r45, 0, none⟩ 0 [(.int .u32 n37), (.bool b38), (.bool b39), (.int .u8 n40), (.slice p41 l42 c43), (.int .i64 n44)] fun w => al w (.cells #[] 5) fun r46 w => ∃ (p47 : Option Addr) (l48 c49 : Nat), w.cell? ⟨r33, 5, none⟩ = some (.slice p47 l48 c49) ∧ ∃ (p50 : Option Addr) (l51 c52 : Nat), w.cell? ⟨r33, 5, none⟩ = some (.slice p50 l51 c52) ∧ slc p47 l48 c49 1 none (some (if 20 < (l51 : Int) then 20 else (l51 : Int))) none fun p53 l54 c55 => runV Try.prog (Builtin.append_ #[32, 32] 32 #[(.slice (some ⟨r46, 0, none⟩) 0 0), (.slice p53 l54 c55)]) w fun v56 w => ∃ (p57 : Option Addr) (l58 c59 : Nat), v56 = (.slice p57 l58 c59) ∧ stL w ⟨r45, 4, none⟩ 0 [(.slice p57 l58 c59)] fun w => ∃ n60 : Int, w.cell? ⟨r45, 0, none⟩ = some (.int .u32 n60) ∧ ∃ b61 : Bool, w.cell? ⟨r45, 1, none⟩ = some (.bool b61) ∧ ∃ b62 : Bool, w.cell? ⟨r45, 2, none⟩ = some (.bool b62) ∧ ∃ n63 : Int, w.cell? ⟨r45, 3, none⟩ = some (.int .u8 n63) ∧ ∃ (p64 : Option Addr) (l65 c66 : Nat), w.cell? ⟨r45, 4, none⟩ = some (.slice p64 l65 c66) ∧ ∃ n67 : Int, w.cell? ⟨r45, 5, none⟩ = some (.int .i64 n67) ∧ al w (.cells #[(.int .u32 0), (.bool false), (.bool false), (.int .u8 0), (.slice none 0 0), (.int .i64 0)] 36) fun r68 w => stL w ⟨r68, 0, none⟩ 0 [(.int .u32 n60), (.bool b61), (.bool b62), (.int .u8 n63), (.slice p64 l65 c66), (.int .i64 n67)] fun w => al w (.cells #[] 5) fun r69 w => ∃ (p70 : Option Addr) (l71 c72 : Nat), w.cell? ⟨r45, 4, none⟩ = some (.slice p70 l71 c72) ∧ runV Try.prog (Builtin.append_ #[32, 32] 32 #[(.slice (some ⟨r69, 0, none⟩) 0 0), (.slice p70 l71 c72)]) w fun v73 w => ∃ (p74 : Option Addr) (l75 c76 : Nat), v73 = (.slice p74 l75 c76) ∧ stL w ⟨r68, 4, none⟩ 0 [(.slice p74 l75 c76)] fun w => ∃ (p77 : Option Addr) (l78 c79 : Nat), w.cell? x17 = some (.slice p77 l78 c79) ∧ ∃ n80 : Int, w.cell? (x17.add 1) = some (.int .i64 n80) ∧ ∃ b81 : Bool, w.cell? (x17.add 2) = some (.bool b81) ∧ ∃ n82 : Int, w.cell? ⟨r68, 0, none⟩ = some (.int .u32 n82) ∧ ∃ b83 : Bool, w.cell? ⟨r68, 1, none⟩ = some (.bool b83) ∧ ∃ b84 : Bool, w.cell? ⟨r68, 2, none⟩ = some (.bool b84) ∧ ∃ n85 : Int, w.cell? ⟨r68, 3, none⟩ = some (.int .u8 n85) ∧ ∃ (p86 : Option Addr) (l87 c88 : Nat), w.cell? ⟨r68, 4, none⟩ = some (.slice p86 l87 c88) ∧ ∃ n89 : Int, w.cell? ⟨r68, 5, none⟩ = some (.int .i64 n89) ∧ callV Try.prog 9 #[(.agg #[(.slice p77 l78 c79), (.int .i64 n80), (.bool b81)]), (.agg #[(.int .u32 n82), (.bool b83), (.bool b84), (.int .u8 n85), (.slice p86 l87 c88), (.int .i64 n89)])] w fun v90 w => ∃ (p91 : Option Addr) (l92 c93 : Nat), ∃ n94 : Int, ∃ b95 : Bool, ∃ n96 : Int, v90 = (.tuple #[(.agg #[(.slice p91 l92 c93), (.int .i64 n94), (.bool b95)]), (.int .i64 n96)]) ∧ al w (.cells #[(.slice none 0 0), (.int .i64 0), (.bool false)] 30) fun r97 w => stL w ⟨r97, 0, none⟩ 0 [(.slice p91 l92 c93), (.int .i64 n94), (.bool b95)] fun w => ∃ (p98 : Option Addr) (l99 c100 : Nat), w.cell? ⟨r97, 0, none⟩ = some (.slice p98 l99 c100) ∧ ∃ n101 : Int, w.cell? ⟨r97, 1, none⟩ = some (.int .i64 n101) ∧ ∃ b102 : Bool, w.cell? ⟨r97, 2, none⟩ = some (.bool b102) ∧ stL w x17 0 [(.slice p98 l99 c100), (.int .i64 n101), (.bool b102)] fun w => ∃ n103 : Int, w.cell? ⟨r45, 0, none⟩ = some (.int .u32 n103) ∧ ∃ b104 : Bool, w.cell? ⟨r45, 1, none⟩ = some (.bool b104) ∧ ∃ b105 : Bool, w.cell? ⟨r45, 2, none⟩ = some (.bool b105) ∧ ∃ n106 : Int, w.cell? ⟨r45, 3, none⟩ = some (.int .u8 n106) ∧ ∃ (p107 : Option Addr) (l108 c109 : Nat), w.cell? ⟨r45, 4, none⟩ = some (.slice p107 l108 c109) ∧ ∃ n110 : Int, w.cell? ⟨r45, 5, none⟩ = some (.int .i64 n110) ∧ callV Try.prog 10 #[(.pointer x16), (.agg #[(.int .u32 n103), (.bool b104), (.bool b105), (.int .u8 n106), (.slice p107 l108 c109), (.int .i64 n110)])] w fun v111 w => ∃ n112 : Int, v111 = (.int .i64 n112) ∧ br ((n112 : Int) != n96)
  (K (.bool false) w)
  (∃ (p113 : Option Addr) (l114 c115 : Nat), w.cell? ⟨r45, 4, none⟩ = some (.slice p113 l114 c115) ∧ LS3_3 x16 x17 (⟨r45, 0, none⟩) x18 l19 c20 x21 x22 (l114 : Int) 0 w
  (fun w => J212 w) K))
  (br (((Int.tmod n34 4) : Int) == 2)
  (∃ (p132 : Option Addr) (l133 c134 : Nat), w.cell? x17 = some (.slice p132 l133 c134) ∧ ∃ n135 : Int, w.cell? (x17.add 1) = some (.int .i64 n135) ∧ ∃ b136 : Bool, w.cell? (x17.add 2) = some (.bool b136) ∧ callV Try.prog 11 #[(.agg #[(.slice p132 l133 c134), (.int .i64 n135), (.bool b136)])] w fun v137 w => ∃ (p138 : Option Addr) (l139 c140 : Nat), ∃ n141 : Int, ∃ b142 : Bool, ∃ n143 : Int, ∃ b144 : Bool, ∃ b145 : Bool, ∃ n146 : Int, ∃ (p147 : Option Addr) (l148 c149 : Nat), ∃ n150 : Int, ∃ b151 : Bool, v137 = (.tuple #[(.agg #[(.slice p138 l139 c140), (.int .i64 n141), (.bool b142)]), (.agg #[(.int .u32 n143), (.bool b144), (.bool b145), (.int .u8 n146), (.slice p147 l148 c149), (.int .i64 n150)]), (.bool b151)]) ∧ al w (.cells #[(.slice none 0 0), (.int .i64 0), (.bool false)] 30) fun r152 w => al w (.cells #[(.int .u32 0), (.bool false), (.bool false), (.int .u8 0), (.slice none 0 0), (.int .i64 0)] 36) fun r153 w => stL w ⟨r152, 0, none⟩ 0 [(.slice p138 l139 c140), (.int .i64 n141), (.bool b142)] fun w => stL w ⟨r153, 0, none⟩ 0 [(.int .u32 n143), (.bool b144), (.bool b145), (.int .u8 n146), (.slice p147 l148 c149), (.int .i64 n150)] fun w => ∃ (p154 : Option Addr) (l155 c156 : Nat), w.cell? ⟨r152, 0, none⟩ = some (.slice p154 l155 c156) ∧ ∃ n157 : Int, w.cell? ⟨r152, 1, none⟩ = some (.int .i64 n157) ∧ ∃ b158 : Bool, w.cell? ⟨r152, 2, none⟩ = some (.bool b158) ∧ stL w x17 0 [(.slice p154 l155 c156), (.int .i64 n157), (.bool b158)] fun w => callV Try.prog 12 #[(.pointer x16)] w fun v159 w => ∃ n160 : Int, ∃ b161 : Bool, ∃ b162 : Bool, ∃ n163 : Int, ∃ (p164 : Option Addr) (l165 c166 : Nat), ∃ n167 : Int, ∃ b168 : Bool, v159 = (.tuple #[(.agg #[(.int .u32 n160), (.bool b161), (.bool b162), (.int .u8 n163), (.slice p164 l165 c166), (.int .i64 n167)]), (.bool b168)]) ∧ al w (.cells #[(.int .u32 0), (.bool false), (.bool false), (.int .u8 0), (.slice none 0 0), (.int .i64 0)] 36) fun r169 w => stL w ⟨r169, 0, none⟩ 0 [(.int .u32 n160), (.bool b161), (.bool b162), (.int .u8 n163), (.slice p164 l165 c166), (.int .i64 n167)] fun w => br (!(b168 == b151))
  (K (.bool false) w)
  (∃ n170 : Int, w.cell? ⟨r169, 0, none⟩ = some (.int .u32 n170) ∧ ∃ b171 : Bool, w.cell? ⟨r169, 1, none⟩ = some (.bool b171) ∧ ∃ b172 : Bool, w.cell? ⟨r169, 2, none⟩ = some (.bool b172) ∧ ∃ n173 : Int, w.cell? ⟨r169, 3, none⟩ = some (.int .u8 n173) ∧ ∃ (p174 : Option Addr) (l175 c176 : Nat), w.cell? ⟨r169, 4, none⟩ = some (.slice p174 l175 c176) ∧ ∃ n177 : Int, w.cell? ⟨r169, 5, none⟩ = some (.int .i64 n177) ∧ ∃ n178 : Int, w.cell? ⟨r153, 0, none⟩ = some (.int .u32 n178) ∧ ∃ b179 : Bool, w.cell? ⟨r153, 1, none⟩ = some (.bool b179) ∧ ∃ b180 : Bool, w.cell? ⟨r153, 2, none⟩ = some (.bool b180) ∧ ∃ n181 : Int, w.cell? ⟨r153, 3, none⟩ = some (.int .u8 n181) ∧ ∃ (p182 : Option Addr) (l183 c184 : Nat), w.cell? ⟨r153, 4, none⟩ = some (.slice p182 l183 c184) ∧ ∃ n185 : Int, w.cell? ⟨r153, 5, none⟩ = some (.int .i64 n185) ∧ callV Try.prog 13 #[(.agg #[(.int .u32 n170), (.bool b171), (.bool b172), (.int .u8 n173), (.slice p174 l175 c176), (.int .i64 n177)]), (.agg #[(.int .u32 n178), (.bool b179), (.bool b180), (.int .u8 n181), (.slice p182 l183 c184), (.int .i64 n185)])] w fun v186 w => ∃ b187 : Bool, v186 = (.bool b187) ∧ br (!b187)
  (K (.bool false) w)
  (∃ (p188 : Option Addr) (l189 c190 : Nat), w.cell? ⟨r169, 4, none⟩ = some (.slice p188 l189 c190) ∧ LS3_5 x16 x17 (⟨r169, 0, none⟩) x18 l19 c20 x21 x22 (l189 : Int) 0 w
  (fun w => J212 w) K)))
  (jn (fun (w : World) =>
  stL w (x17.add 2) 0 [(.bool false)] fun w => J212 w) fun J211 =>
  dr w fun w =>
  (callV Try.prog 14 #[(.pointer x16)] w fun v205 w => ∃ b206 : Bool, v205 = (.bool b206) ∧ ∃ b207 : Bool, w.cell? (x17.add 2) = some (.bool b207) ∧ br (!(b206 == b207))
  (K (.bool false) w)
  (J211 w)) ∧
  (∃ b208 : Bool, w.cell? (x17.add 2) = some (.bool b208) ∧ callV Try.prog 14 #[(.pointer x16)] w fun v209 w => ∃ b210 : Bool, v209 = (.bool b210) ∧ br (!(b210 == b208))
  (K (.bool false) w)
  (J211 w))))) fun J36 =>
  br (((Int.tmod n34 4) : Int) == 0)
  (J36 (((Int.tmod n34 4) : Int) == 0) w)
  (J36 (((Int.tmod n34 4) : Int) == 1) w))
  (X0 w)
/-- The loop in block 0 of function 3: by what holds at its head. -/
def LS3_0 (x16 : Option Addr) (x17 : Addr) (x18 : Option Addr) (l19 : Nat) (c20 : Nat) (x21 : Int) (x22 : Int) (w : World) (X0 : World → Prop) (K : Value → World → Prop) : Prop :=
  ∃ J : Nat → Int → World → Prop, (∃ n, J n x22 w) ∧ ∀ n x22 w, J n x22 w → B3_0 x16 x17 x18 l19 c20 x21 x22 w (fun x22 w => ∃ m, m < n ∧ J m x22 w) X0 K
abbrev env3_0 (x16 : Option Addr) (x17 : Addr) (x18 : Option Addr) (l19 : Nat) (c20 : Nat) (x21 : Int) (x22 : Int) : Env := [(5, (.pointer x16)), (7, (.pointer (some x17))), (45, (.slice x18 l19 c20)), (46, (.int .i64 x21)), (47, (.int .i64 x22))]
def Kt3_0 (N : Int → World → Prop) (X0 : World → Prop) (K : Value → World → Prop) : Kont := fun e E w => match e with
  | .normal => gI .i64 E 47 fun x22 => N x22 w
  | .exit j => match Nat.beq j 0 with | true => (X0 w) | false => (False)
  | .ret => retG Try.prog Try.f3.results.toList K .ret E w
  | _ => False
def HL3_0 (F : Value → World → Prop) (K : Kont) (E : Env) (w : World) : Prop := match keep [5, 7, 45, 46, 47] E with
  | [(5, (.pointer x16)), (7, (.pointer (some x17))), (45, (.slice x18 l19 c20)), (46, (.int .i64 x21)), (47, (.int .i64 x22))] => LS3_0 x16 x17 x18 l19 c20 x21 x22 w (fun w => K (.exit 0) [] w) F
  | _ => False
def H3 (F : Value → World → Prop) : Nat → Kont → Env → World → Prop := fun b K E w => match Nat.beq b 3 with | true => HL3_3 F K E w | false => (match Nat.beq b 5 with | true => HL3_5 F K E w | false => (match Nat.beq b 0 with | true => HL3_0 F K E w | false => (False)))
theorem Beq3_3 (x116 : Option Addr) (x117 : Addr) (x118 : Addr) (x119 : Option Addr) (l120 : Nat) (c121 : Nat) (x122 : Int) (x123 : Int) (x124 : Int) (x125 : Int) (w : World) (N : Int → World → Prop) (X3 : World → Prop) (K : Value → World → Prop) :
    G Try.prog [15] 167 [0, 1, 4, 5, 6, 7, 9, 10, 11, 12, 13, 14, 15, 16, 17, 18, 19, 20, 31, 38, 45, 46, 47, 48, 53, 58, 60, 99, 103, 104, 105, 116, 138, 142, 143, 144, 164] (H3 K) 3 (loopOf 3 Try.f3) (Kt3_3 N X3 K) (env3_3 x116 x117 x118 x119 l120 c121 x122 x123 x124 x125) w = B3_3 x116 x117 x118 x119 l120 c121 x122 x123 x124 x125 w N X3 K := by kernel_rfl
theorem lok3_3 (F : Value → World → Prop) : LoopOk Try.prog 167 Try.f3.results.toList F (H3 F) 3 (loopOf 3 Try.f3) := by
  intro K E a w Q hr h hs hq
  have hs0 := hs.keep [5, 7, 10, 45, 46, 47, 103, 104]
  have h1 : HL3_3 F K E w := h
  unfold HL3_3 at h1
  split at h1
  · rename_i x116 x117 x118 x119 l120 c121 x122 x123 x124 x125 heq
    obtain ⟨J, ⟨n, hJ⟩, hround⟩ := h1
    rw [heq] at hs0
    refine loop_typed (qs := [15]) (L := [0, 1, 4, 5, 6, 7, 9, 10, 11, 12, 13, 14, 15, 16, 17, 18, 19, 20, 31, 38, 45, 46, 47, 48, 53, 58, 60, 99, 103, 104, 105, 116, 138, 142, 143, 144, 164]) (rs := Try.f3.results.toList) (F := F) (H := H3 F) (b := 3) (by kernel_rfl) (allL (show loops 3 (loopOf 3 Try.f3) = [] by kernel_rfl) True.intro) (σ := Int) (fun s => env3_3 x116 x117 x118 x119 l120 c121 x122 x123 x124 s) (fun n s w => J n s w)
      (fun n => Kt3_3 (fun x125 w => ∃ m, m < n ∧ J m x125 w) (fun w => K (.exit 3) [(5, (.pointer x116)), (7, (.pointer (some x117))), (45, (.slice x119 l120 c121)), (46, (.int .i64 x122)), (47, (.int .i64 x123))] w) F) (fun _ _ _ h => h) ?_ ?_ a ?_ n x125 a w hJ (Fr.refl _ _) hs0
    · intro n s w hJ
      exact Eq.mpr (Beq3_3 x116 x117 x118 x119 l120 c121 x122 x123 x124 s w _ _ F) (hround n s w hJ)
    · intro n s E' w' h
      obtain ⟨x125, e104, h⟩ := gI_get h
      obtain ⟨m, hm, hJ⟩ := h
      exact ⟨m, x125, hm, hJ, ⟨.inl ⟨by kernel_rfl, rfl⟩, .inl ⟨by kernel_rfl, rfl⟩, .inl ⟨by kernel_rfl, rfl⟩, .inl ⟨by kernel_rfl, rfl⟩, .inl ⟨by kernel_rfl, rfl⟩, .inl ⟨by kernel_rfl, rfl⟩, .inl ⟨by kernel_rfl, rfl⟩, .inr e104, True.intro⟩⟩
    · intro n s a1 e E' a' w' he hs1 hf0 hf1 hs' h
      cases e with
      | normal => exact (he rfl).elim
      | exit j =>
        dsimp only [Kt3_3] at h
        cases hb : Nat.beq j 3
        case' true =>
          rw [hb] at h
          have hj := Nat.eq_of_beq_eq_true hb
          subst hj
          dsimp only at h
          exact hq _ _ _ _ (hs1.next hf1 hs' (E2 := [(5, (.pointer x116)), (7, (.pointer (some x117))), (45, (.slice x119 l120 c121)), (46, (.int .i64 x122)), (47, (.int .i64 x123))]) ⟨.inl ⟨by kernel_rfl, rfl⟩, .inl ⟨by kernel_rfl, rfl⟩, .inl ⟨by kernel_rfl, rfl⟩, .inl ⟨by kernel_rfl, rfl⟩, .inl ⟨by kernel_rfl, rfl⟩, True.intro⟩) hf0 h
        rw [hb] at h
        dsimp only at h
        all_goals exact h.elim
      | ret => exact hq _ _ _ _ hs' hf0 (hr _ _ h)
      | _ => exact h.elim
  · exact h1.elim
theorem Beq3_5 (x191 : Option Addr) (x192 : Addr) (x193 : Addr) (x194 : Option Addr) (l195 : Nat) (c196 : Nat) (x197 : Int) (x198 : Int) (x199 : Int) (x200 : Int) (w : World) (N : Int → World → Prop) (X5 : World → Prop) (K : Value → World → Prop) :
    G Try.prog [15] 167 [0, 1, 4, 5, 6, 7, 9, 10, 11, 12, 13, 14, 15, 16, 17, 18, 19, 20, 31, 38, 45, 46, 47, 48, 53, 58, 60, 99, 103, 104, 105, 116, 138, 142, 143, 144, 164] (H3 K) 5 (loopOf 5 Try.f3) (Kt3_5 N X5 K) (env3_5 x191 x192 x193 x194 l195 c196 x197 x198 x199 x200) w = B3_5 x191 x192 x193 x194 l195 c196 x197 x198 x199 x200 w N X5 K := by kernel_rfl
theorem lok3_5 (F : Value → World → Prop) : LoopOk Try.prog 167 Try.f3.results.toList F (H3 F) 5 (loopOf 5 Try.f3) := by
  intro K E a w Q hr h hs hq
  have hs0 := hs.keep [5, 7, 18, 45, 46, 47, 142, 143]
  have h1 : HL3_5 F K E w := h
  unfold HL3_5 at h1
  split at h1
  · rename_i x191 x192 x193 x194 l195 c196 x197 x198 x199 x200 heq
    obtain ⟨J, ⟨n, hJ⟩, hround⟩ := h1
    rw [heq] at hs0
    refine loop_typed (qs := [15]) (L := [0, 1, 4, 5, 6, 7, 9, 10, 11, 12, 13, 14, 15, 16, 17, 18, 19, 20, 31, 38, 45, 46, 47, 48, 53, 58, 60, 99, 103, 104, 105, 116, 138, 142, 143, 144, 164]) (rs := Try.f3.results.toList) (F := F) (H := H3 F) (b := 5) (by kernel_rfl) (allL (show loops 5 (loopOf 5 Try.f3) = [] by kernel_rfl) True.intro) (σ := Int) (fun s => env3_5 x191 x192 x193 x194 l195 c196 x197 x198 x199 s) (fun n s w => J n s w)
      (fun n => Kt3_5 (fun x200 w => ∃ m, m < n ∧ J m x200 w) (fun w => K (.exit 5) [(5, (.pointer x191)), (7, (.pointer (some x192))), (45, (.slice x194 l195 c196)), (46, (.int .i64 x197)), (47, (.int .i64 x198))] w) F) (fun _ _ _ h => h) ?_ ?_ a ?_ n x200 a w hJ (Fr.refl _ _) hs0
    · intro n s w hJ
      exact Eq.mpr (Beq3_5 x191 x192 x193 x194 l195 c196 x197 x198 x199 s w _ _ F) (hround n s w hJ)
    · intro n s E' w' h
      obtain ⟨x200, e143, h⟩ := gI_get h
      obtain ⟨m, hm, hJ⟩ := h
      exact ⟨m, x200, hm, hJ, ⟨.inl ⟨by kernel_rfl, rfl⟩, .inl ⟨by kernel_rfl, rfl⟩, .inl ⟨by kernel_rfl, rfl⟩, .inl ⟨by kernel_rfl, rfl⟩, .inl ⟨by kernel_rfl, rfl⟩, .inl ⟨by kernel_rfl, rfl⟩, .inl ⟨by kernel_rfl, rfl⟩, .inr e143, True.intro⟩⟩
    · intro n s a1 e E' a' w' he hs1 hf0 hf1 hs' h
      cases e with
      | normal => exact (he rfl).elim
      | exit j =>
        dsimp only [Kt3_5] at h
        cases hb : Nat.beq j 5
        case' true =>
          rw [hb] at h
          have hj := Nat.eq_of_beq_eq_true hb
          subst hj
          dsimp only at h
          exact hq _ _ _ _ (hs1.next hf1 hs' (E2 := [(5, (.pointer x191)), (7, (.pointer (some x192))), (45, (.slice x194 l195 c196)), (46, (.int .i64 x197)), (47, (.int .i64 x198))]) ⟨.inl ⟨by kernel_rfl, rfl⟩, .inl ⟨by kernel_rfl, rfl⟩, .inl ⟨by kernel_rfl, rfl⟩, .inl ⟨by kernel_rfl, rfl⟩, .inl ⟨by kernel_rfl, rfl⟩, True.intro⟩) hf0 h
        rw [hb] at h
        dsimp only at h
        all_goals exact h.elim
      | ret => exact hq _ _ _ _ hs' hf0 (hr _ _ h)
      | _ => exact h.elim
  · exact h1.elim
theorem Beq3_0 (x16 : Option Addr) (x17 : Addr) (x18 : Option Addr) (l19 : Nat) (c20 : Nat) (x21 : Int) (x22 : Int) (w : World) (N : Int → World → Prop) (X0 : World → Prop) (K : Value → World → Prop) :
    G Try.prog [15] 167 [0, 1, 4, 5, 6, 7, 9, 10, 11, 12, 13, 14, 15, 16, 17, 18, 19, 20, 31, 38, 45, 46, 47, 48, 53, 58, 60, 99, 103, 104, 105, 116, 138, 142, 143, 144, 164] (H3 K) 0 (loopOf 0 Try.f3) (Kt3_0 N X0 K) (env3_0 x16 x17 x18 l19 c20 x21 x22) w = B3_0 x16 x17 x18 l19 c20 x21 x22 w N X0 K := by kernel_rfl
theorem lok3_0 (F : Value → World → Prop) : LoopOk Try.prog 167 Try.f3.results.toList F (H3 F) 0 (loopOf 0 Try.f3) := by
  intro K E a w Q hr h hs hq
  have hs0 := hs.keep [5, 7, 45, 46, 47]
  have h1 : HL3_0 F K E w := h
  unfold HL3_0 at h1
  split at h1
  · rename_i x16 x17 x18 l19 c20 x21 x22 heq
    obtain ⟨J, ⟨n, hJ⟩, hround⟩ := h1
    rw [heq] at hs0
    refine loop_typed (qs := [15]) (L := [0, 1, 4, 5, 6, 7, 9, 10, 11, 12, 13, 14, 15, 16, 17, 18, 19, 20, 31, 38, 45, 46, 47, 48, 53, 58, 60, 99, 103, 104, 105, 116, 138, 142, 143, 144, 164]) (rs := Try.f3.results.toList) (F := F) (H := H3 F) (b := 0) (by kernel_rfl) (allL (show loops 0 (loopOf 0 Try.f3) = [(3, loopOf 3 Try.f3), (5, loopOf 5 Try.f3)] by kernel_rfl) ⟨lok3_3 F, lok3_5 F, True.intro⟩) (σ := Int) (fun s => env3_0 x16 x17 x18 l19 c20 x21 s) (fun n s w => J n s w)
      (fun n => Kt3_0 (fun x22 w => ∃ m, m < n ∧ J m x22 w) (fun w => K (.exit 0) [] w) F) (fun _ _ _ h => h) ?_ ?_ a ?_ n x22 a w hJ (Fr.refl _ _) hs0
    · intro n s w hJ
      exact Eq.mpr (Beq3_0 x16 x17 x18 l19 c20 x21 s w _ _ F) (hround n s w hJ)
    · intro n s E' w' h
      obtain ⟨x22, e47, h⟩ := gI_get h
      obtain ⟨m, hm, hJ⟩ := h
      exact ⟨m, x22, hm, hJ, ⟨.inl ⟨by kernel_rfl, rfl⟩, .inl ⟨by kernel_rfl, rfl⟩, .inl ⟨by kernel_rfl, rfl⟩, .inl ⟨by kernel_rfl, rfl⟩, .inr e47, True.intro⟩⟩
    · intro n s a1 e E' a' w' he hs1 hf0 hf1 hs' h
      cases e with
      | normal => exact (he rfl).elim
      | exit j =>
        dsimp only [Kt3_0] at h
        cases hb : Nat.beq j 0
        case' true =>
          rw [hb] at h
          have hj := Nat.eq_of_beq_eq_true hb
          subst hj
          dsimp only at h
          exact hq _ _ _ _ (hs1.next hf1 hs' (E2 := []) True.intro) hf0 h
        rw [hb] at h
        dsimp only at h
        all_goals exact h.elim
      | ret => exact hq _ _ _ _ hs' hf0 (hr _ _ h)
      | _ => exact h.elim
  · exact h1.elim
/-- jackstay/jackstaylaw12.FifoTells -/
def S3 (x1 : Int) (x2 : Option Addr) (l3 : Nat) (c4 : Nat) (w : World) (K : Value → World → Prop) : Prop :=
  callV Try.prog 7 #[(.int .i64 x1)] w fun v5 w => ∃ p6 : Option Addr, ∃ n7 : Int, v5 = (.tuple #[(.pointer p6), (.int .i64 n7)]) ∧ jn (fun (x8 : Bool) (w : World) =>
  br x8
  (br ((n7 : Int) == 2)
  (callV Try.prog 8 #[] w fun v10 w => ∃ b11 : Bool, v10 = (.bool b11) ∧ K (.bool b11) w)
  (K (.bool false) w))
  (br ((n7 : Int) != 0)
  (K (.bool false) w)
  (al w (.cells #[(.slice none 0 0), (.int .i64 0), (.bool false)] 30) fun r12 w => stL w ⟨r12, 0, none⟩ 0 [(.slice none 0 0), (.int .i64 x1), (.bool false)] fun w => slc x2 l3 c4 7 none (some (if 400 < (l3 : Int) then 400 else (l3 : Int))) none fun p13 l14 c15 => LS3_0 p6 (⟨r12, 0, none⟩) p13 l14 c15 (l14 : Int) 0 w
  (fun w => callV Try.prog 8 #[] w fun v225 w => ∃ b226 : Bool, v225 = (.bool b226) ∧ K (.bool b226) w) K))) fun J9 =>
  br (decide ((x1 : Int) < 1))
  (J9 true w)
  (J9 (decide ((x1 : Int) > 256)) w)
theorem eq3 (x1 : Int) (x2 : Option Addr) (l3 : Nat) (c4 : Nat) (w : World) (K : Value → World → Prop) : G Try.prog [15] 167 [0, 1, 4, 5, 6, 7, 9, 10, 11, 12, 13, 14, 15, 16, 17, 18, 19, 20, 31, 38, 45, 46, 47, 48, 53, 58, 60, 99, 103, 104, 105, 116, 138, 142, 143, 144, 164] (H3 K) 0 (bodyOf Try.f3) (retG Try.prog Try.f3.results.toList K) (env0 0 [(.int .i64 x1), (.slice x2 l3 c4)]) w = S3 x1 x2 l3 c4 w K := by kernel_rfl
theorem ok3 {x1 : Int} {x2 : Option Addr} {l3 : Nat} {c4 : Nat} {w : World} {K : Value → World → Prop} (h : S3 x1 x2 l3 c4 w K) : callV Try.prog 3 #[(.int .i64 x1), (.slice x2 l3 c4)] w K :=
  call_sound (qs := [15]) (args := [(.int .i64 x1), (.slice x2 l3 c4)]) (by kernel_rfl) (Try.func3) (c := bodyOf Try.f3) (by kernel_rfl) (by kernel_rfl) (allL (show loops 0 (bodyOf Try.f3) = [(0, loopOf 0 Try.f3)] by kernel_rfl) ⟨lok3_0 K, True.intro⟩) (Eq.mpr (eq3 x1 x2 l3 c4 w K) h)
end Go.Proofs.Ytiodaglceoodpaa
