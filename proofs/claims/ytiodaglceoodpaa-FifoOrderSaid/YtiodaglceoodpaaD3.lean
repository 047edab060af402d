/- The formulas of the functions 4 of this seat, written by a program of my own (dec.py), each with its proof. -/
import Derived.Test.YtiodaglceoodpaaProg
import Derived.Test.YtiodaglceoodpaaSh
import Derived.KernelRfl
namespace Go.Proofs.Ytiodaglceoodpaa
open Go Go.Sh
set_option linter.unusedVariables false
set_option maxRecDepth 100000
def B4_0 (x11 : Int) (x12 : Option Addr) (x17 : Option Addr) (l18 : Nat) (c19 : Nat) (x20 : Int) (x13 : Option Addr) (l14 : Nat) (c15 : Nat) (x16 : Bool) (x21 : Int) (w : World) (N : (Option Addr) → Nat → Nat → Bool → Int → World → Prop) (X0 : World → Prop) (K : Value → World → Prop) : Prop :=
  br (decide ((x21 : Int) < x20))
  (jn (fun (x77 : Option Addr) (l78 : Nat) (c79 : Nat) (x80 : Bool) (w : World) =>
  N x77 l78 c79 x80 (IntKind.wrap .i64 (x21 + 1)) w) fun J81 =>
  idx x17 l18 1 x21 fun a22 => ∃ b23 : Bool, w.cell? a22 = some (.bool b23) ∧ jn (fun (x62 : Option Addr) (l63 : Nat) (c64 : Nat) (x65 : Bool) (w : World) =>
  callQ Try.prog 15 #[(.pointer x12)] w fun v67 w => ∃ n68 : Int, v67 = (.int .i64 n68) ∧ br ((n68 : Int) != (l63 : Int))
  (K (.bool false) w)
  (callQ Try.prog 15 #[(.pointer x12)] w fun v69 w => ∃ n70 : Int, v69 = (.int .i64 n70) ∧ br (decide ((n70 : Int) > x11))
  (K (.bool false) w)
  (callV Try.prog 16 #[(.pointer x12)] w fun v71 w => ∃ b72 : Bool, v71 = (.bool b72) ∧ br (!(b72 == x65))
  (K (.bool false) w)
  (br (((Int.tmod x21 50) : Int) == 49)
  (callV Try.prog 14 #[(.pointer x12)] w fun v73 w => ∃ b74 : Bool, v73 = (.bool b74) ∧ br (!(b74 == x65))
  (K (.bool false) w)
  (callV Try.prog 16 #[(.pointer x12)] w fun v75 w => ∃ b76 : Bool, v75 = (.bool b76) ∧ br b76
  (K (.bool false) w)
  (J81 x62 l63 c64 false w)))
  (J81 x62 l63 c64 x65 w))))) fun J66 =>
  br b23
  (callV Try.prog 17 #[(.int .i64 (IntKind.wrap .i64 (x21 + 1)))] w fun v24 w => ∃ n25 : Int, ∃ b26 : Bool, ∃ b27 : Bool, ∃ n28 : Int, ∃ (p29 : Option Addr) (l30 c31 : Nat), ∃ n32 : Int, v24 = (.agg #[(.int .u32 n25), (.bool b26), (.bool b27), (.int .u8 n28), (.slice p29 l30 c31), (.int .i64 n32)]) ∧ callV Try.prog 10 #[(.pointer x12), (.agg #[(.int .u32 n25), (.bool b26), (.bool b27), (.int .u8 n28), (.slice p29 l30 c31), (.int .i64 n32)])] w fun v33 w => ∃ n34 : Int, v33 = (.int .i64 n34) ∧ jn (fun (w : World) =>
  br ((n34 : Int) == 0)
  (al w (.cells #[(.int .i64 (IntKind.wrap .i64 (x21 + 1)))] 3) fun r36 w => runV Try.prog (Builtin.append_ #[50, 50] 50 #[(.slice x13 l14 c15), (.slice (some ⟨r36, 0, none⟩) 1 1)]) w fun v37 w => ∃ (p38 : Option Addr) (l39 c40 : Nat), v37 = (.slice p38 l39 c40) ∧ J66 p38 l39 c40 x16 w)
  (J66 x13 l14 c15 true w)) fun J35 =>
  br (!(((n34 : Int) == 0) == (decide (((l14 : Int) : Int) < x11))))
  (K (.bool false) w)
  (br ((n34 : Int) != 0)
  (br ((n34 : Int) != 5)
  (K (.bool false) w)
  (J35 w))
  (J35 w)))
  (callV Try.prog 12 #[(.pointer x12)] w fun v41 w => ∃ n42 : Int, ∃ b43 : Bool, ∃ b44 : Bool, ∃ n45 : Int, ∃ (p46 : Option Addr) (l47 c48 : Nat), ∃ n49 : Int, ∃ b50 : Bool, v41 = (.tuple #[(.agg #[(.int .u32 n42), (.bool b43), (.bool b44), (.int .u8 n45), (.slice p46 l47 c48), (.int .i64 n49)]), (.bool b50)]) ∧ al w (.cells #[(.int .u32 0), (.bool false), (.bool false), (.int .u8 0), (.slice none 0 0), (.int .i64 0)] 36) fun r51 w => stL w ⟨r51, 0, none⟩ 0 [(.int .u32 n42), (.bool b43), (.bool b44), (.int .u8 n45), (.slice p46 l47 c48), (.int .i64 n49)] fun w => jn (fun (w : World) =>
  br b50
  (slc x13 l14 c15 1 (some 1) none none fun p59 l60 c61 => J66 p59 l60 c61 x16 w)
  (J66 x13 l14 c15 x16 w)) fun J58 =>
  dr w fun w =>
  br (!(b50 == (decide (((l14 : Int) : Int) > 0))))
  (K (.bool false) w)
  (br b50
  (∃ n52 : Int, w.cell? ⟨r51, 5, none⟩ = some (.int .i64 n52) ∧ idx x13 l14 1 0 fun a53 => ∃ n54 : Int, w.cell? a53 = some (.int .i64 n54) ∧ br ((n52 : Int) != n54)
  (K (.bool false) w)
  (∃ n55 : Int, w.cell? ⟨r51, 0, none⟩ = some (.int .u32 n55) ∧ idx x13 l14 1 0 fun a56 => ∃ n57 : Int, w.cell? a56 = some (.int .i64 n57) ∧ br ((n55 : Int) != (IntKind.wrap .u32 n57))
  (K (.bool false) w)
  (J58 w)))
  (J58 w))))
  (X0 w)
/-- The loop in block 0 of function 4: by what holds at its head. -/
def LS4_0 (x11 : Int) (x12 : Option Addr) (x17 : Option Addr) (l18 : Nat) (c19 : Nat) (x20 : Int) (x13 : Option Addr) (l14 : Nat) (c15 : Nat) (x16 : Bool) (x21 : Int) (w : World) (X0 : World → Prop) (K : Value → World → Prop) : Prop :=
  ∃ J : Nat → (Option Addr) → Nat → Nat → Bool → Int → World → Prop, (∃ n, J n x13 l14 c15 x16 x21 w) ∧ ∀ n x13 l14 c15 x16 x21 w, J n x13 l14 c15 x16 x21 w → B4_0 x11 x12 x17 l18 c19 x20 x13 l14 c15 x16 x21 w (fun x13 l14 c15 x16 x21 w => ∃ m, m < n ∧ J m x13 l14 c15 x16 x21 w) X0 K
abbrev env4_0 (x11 : Int) (x12 : Option Addr) (x17 : Option Addr) (l18 : Nat) (c19 : Nat) (x20 : Int) (x13 : Option Addr) (l14 : Nat) (c15 : Nat) (x16 : Bool) (x21 : Int) : Env := [(5, (.int .i64 x11)), (6, (.pointer x12)), (8, (.slice x13 l14 c15)), (9, (.bool x16)), (29, (.slice x17 l18 c19)), (30, (.int .i64 x20)), (31, (.int .i64 x21))]
def Kt4_0 (N : (Option Addr) → Nat → Nat → Bool → Int → World → Prop) (X0 : World → Prop) (K : Value → World → Prop) : Kont := fun e E w => match e with
  | .normal => gS E 8 fun x13 l14 c15 => gB E 9 fun x16 => gI .i64 E 31 fun x21 => N x13 l14 c15 x16 x21 w
  | .exit j => match Nat.beq j 0 with | true => (X0 w) | false => (False)
  | .ret => retG Try.prog Try.f4.results.toList K .ret E w
  | _ => False
def HL4_0 (F : Value → World → Prop) (K : Kont) (E : Env) (w : World) : Prop := match keep [5, 6, 8, 9, 29, 30, 31] E with
  | [(5, (.int .i64 x11)), (6, (.pointer x12)), (8, (.slice x13 l14 c15)), (9, (.bool x16)), (29, (.slice x17 l18 c19)), (30, (.int .i64 x20)), (31, (.int .i64 x21))] => LS4_0 x11 x12 x17 l18 c19 x20 x13 l14 c15 x16 x21 w (fun w => K (.exit 0) [] w) F
  | _ => False
def H4 (F : Value → World → Prop) : Nat → Kont → Env → World → Prop := fun b K E w => match Nat.beq b 0 with | true => HL4_0 F K E w | false => (False)
theorem Beq4_0 (x11 : Int) (x12 : Option Addr) (x17 : Option Addr) (l18 : Nat) (c19 : Nat) (x20 : Int) (x13 : Option Addr) (l14 : Nat) (c15 : Nat) (x16 : Bool) (x21 : Int) (w : World) (N : (Option Addr) → Nat → Nat → Bool → Int → World → Prop) (X0 : World → Prop) (K : Value → World → Prop) :
    G Try.prog [15] 128 [0, 1, 4, 5, 6, 7, 8, 9, 10, 11, 12, 13, 14, 24, 29, 30, 31, 32, 36, 56, 58, 94, 95, 114, 117, 125] (H4 K) 0 (loopOf 0 Try.f4) (Kt4_0 N X0 K) (env4_0 x11 x12 x17 l18 c19 x20 x13 l14 c15 x16 x21) w = B4_0 x11 x12 x17 l18 c19 x20 x13 l14 c15 x16 x21 w N X0 K := by kernel_rfl
theorem lok4_0 (F : Value → World → Prop) : LoopOk Try.prog 128 Try.f4.results.toList F (H4 F) 0 (loopOf 0 Try.f4) := by
  intro K E a w Q hr h hs hq
  have hs0 := hs.keep [5, 6, 8, 9, 29, 30, 31]
  have h1 : HL4_0 F K E w := h
  unfold HL4_0 at h1
  split at h1
  · rename_i x11 x12 x13 l14 c15 x16 x17 l18 c19 x20 x21 heq
    obtain ⟨J, ⟨n, hJ⟩, hround⟩ := h1
    rw [heq] at hs0
    refine loop_typed (qs := [15]) (L := [0, 1, 4, 5, 6, 7, 8, 9, 10, 11, 12, 13, 14, 24, 29, 30, 31, 32, 36, 56, 58, 94, 95, 114, 117, 125]) (rs := Try.f4.results.toList) (F := F) (H := H4 F) (b := 0) (by kernel_rfl) (allL (show loops 0 (loopOf 0 Try.f4) = [] by kernel_rfl) True.intro) (σ := Option Addr × Nat × Nat × Bool × Int) (fun s => env4_0 x11 x12 x17 l18 c19 x20 s.1 s.2.1 s.2.2.1 s.2.2.2.1 s.2.2.2.2) (fun n s w => J n s.1 s.2.1 s.2.2.1 s.2.2.2.1 s.2.2.2.2 w)
      (fun n => Kt4_0 (fun x13 l14 c15 x16 x21 w => ∃ m, m < n ∧ J m x13 l14 c15 x16 x21 w) (fun w => K (.exit 0) [] w) F) (fun _ _ _ h => h) ?_ ?_ a ?_ n (x13, l14, c15, x16, x21) a w hJ (Fr.refl _ _) hs0
    · intro n s w hJ
      exact Eq.mpr (Beq4_0 x11 x12 x17 l18 c19 x20 s.1 s.2.1 s.2.2.1 s.2.2.2.1 s.2.2.2.2 w _ _ F) (hround n s.1 s.2.1 s.2.2.1 s.2.2.2.1 s.2.2.2.2 w hJ)
    · intro n s E' w' h
      obtain ⟨x13, l14, c15, e8, h⟩ := gS_get h
      obtain ⟨x16, e9, h⟩ := gB_get h
      obtain ⟨x21, e31, h⟩ := gI_get h
      obtain ⟨m, hm, hJ⟩ := h
      exact ⟨m, (x13, l14, c15, x16, x21), hm, hJ, ⟨.inl ⟨by kernel_rfl, rfl⟩, .inl ⟨by kernel_rfl, rfl⟩, .inr e8, .inr e9, .inl ⟨by kernel_rfl, rfl⟩, .inl ⟨by kernel_rfl, rfl⟩, .inr e31, True.intro⟩⟩
    · intro n s a1 e E' a' w' he hs1 hf0 hf1 hs' h
      cases e with
      | normal => exact (he rfl).elim
      | exit j =>
        dsimp only [Kt4_0] at h
        cases hb : Nat.beq j 0
        case' true =>
          rw [hb] at h
          have hj := Nat.eq_of_beq_eq_true hb
          subst hj
          dsimp only at h
          exact hq _ _ _ _ (hs1.next hf1 hs' (E2 := []) True.intro) hf0 h
        rw [hb] at h
        dsimp only at h
        all_goals exact h.elim
      | ret => exact hq _ _ _ _ hs' hf0 (hr _ _ h)
      | _ => exact h.elim
  · exact h1.elim
/-- jackstay/jackstaylaw12.FifoOrder -/
def S4 (x1 : Int) (x2 : Option Addr) (l3 : Nat) (c4 : Nat) (w : World) (K : Value → World → Prop) : Prop :=
  callV Try.prog 7 #[(.int .i64 (IntKind.wrap .i64 (1 + (IntKind.wrap .i64 x1))))] w fun v5 w => ∃ p6 : Option Addr, ∃ n7 : Int, v5 = (.tuple #[(.pointer p6), (.int .i64 n7)]) ∧ br ((n7 : Int) != 0)
  (K (.bool false) w)
  (slc x2 l3 c4 1 none (some (if 1000 < (l3 : Int) then 1000 else (l3 : Int))) none fun p8 l9 c10 => LS4_0 (IntKind.wrap .i64 (1 + (IntKind.wrap .i64 x1))) p6 p8 l9 c10 (l9 : Int) none 0 0 false 0 w
  (fun w => callV Try.prog 8 #[] w fun v82 w => ∃ b83 : Bool, v82 = (.bool b83) ∧ K (.bool b83) w) K)
theorem eq4 (x1 : Int) (x2 : Option Addr) (l3 : Nat) (c4 : Nat) (w : World) (K : Value → World → Prop) : G Try.prog [15] 128 [0, 1, 4, 5, 6, 7, 8, 9, 10, 11, 12, 13, 14, 24, 29, 30, 31, 32, 36, 56, 58, 94, 95, 114, 117, 125] (H4 K) 0 (bodyOf Try.f4) (retG Try.prog Try.f4.results.toList K) (env0 0 [(.int .u8 x1), (.slice x2 l3 c4)]) w = S4 x1 x2 l3 c4 w K := by kernel_rfl
theorem ok4 {x1 : Int} {x2 : Option Addr} {l3 : Nat} {c4 : Nat} {w : World} {K : Value → World → Prop} (h : S4 x1 x2 l3 c4 w K) : callV Try.prog 4 #[(.int .u8 x1), (.slice x2 l3 c4)] w K :=
  call_sound (qs := [15]) (args := [(.int .u8 x1), (.slice x2 l3 c4)]) (by kernel_rfl) (Try.func4) (c := bodyOf Try.f4) (by kernel_rfl) (by kernel_rfl) (allL (show loops 0 (bodyOf Try.f4) = [(0, loopOf 0 Try.f4)] by kernel_rfl) ⟨lok4_0 K, True.intro⟩) (Eq.mpr (eq4 x1 x2 l3 c4 w K) h)
end Go.Proofs.Ytiodaglceoodpaa
