/- The formulas of the functions 3 of this seat, written by a program of my own (dec.py), each with its proof. -/
import Derived.Test.YtcemgjikmdbjgaaProg
import Derived.Test.YtcemgjikmdbjgaaSh
import Derived.KernelRfl
namespace Go.Proofs.Ytcemgjikmdbjgaa
open Go Go.Sh
set_option linter.unusedVariables false
set_option maxRecDepth 100000
def B3_0 (x69 : Addr) (x70 : Addr) (x71 : Addr) (x72 : Addr) (x73 : Int) (x74 : Bool) (x75 : Bool) (x76 : Int) (w : World) (N : Bool → Int → World → Prop) (X0 : Bool → World → Prop) (K : Value → World → Prop) : Prop :=
  br (decide ((x76 : Int) < 29))
  (jn (fun (x90 : Bool) (w : World) =>
  N x90 (IntKind.wrap .i64 (x76 + 1)) w) fun J91 =>
  shlK .u32 1 x76 fun n77 => ∃ n78 : Int, w.cell? (x69.add 1) = some (.int .u32 n78) ∧ ∃ n79 : Int, w.cell? (x70.add 1) = some (.int .u32 n79) ∧ br (((IntKind.wrap .u32 ((BitVec.ofInt 32 (IntKind.wrap .u32 ((BitVec.ofInt 32 n78 &&& ~~~(BitVec.ofInt 32 n79)).toNat : Int)) &&& (BitVec.ofInt 32 n77)).toNat : Int)) : Int) != 0)
  (br x75
  (J91 true w)
  (∃ b80 : Bool, w.cell? x69 = some (.bool b80) ∧ ∃ n81 : Int, w.cell? (x69.add 1) = some (.int .u32 n81) ∧ ∃ n82 : Int, w.cell? (x69.add 2) = some (.int .u32 n82) ∧ callV Try.prog 9 #[(.agg #[(.bool b80), (.int .u32 n81), (.int .u32 n82)]), (.int .u32 x73), (.pointer (some x72))] w fun v83 w => ∃ b84 : Bool, v83 = (.bool b84) ∧ br (!b84)
  (J91 true w)
  (∃ b85 : Bool, w.cell? x69 = some (.bool b85) ∧ ∃ n86 : Int, w.cell? (x69.add 1) = some (.int .u32 n86) ∧ ∃ n87 : Int, w.cell? (x69.add 2) = some (.int .u32 n87) ∧ callV Try.prog 9 #[(.agg #[(.bool b85), (.int .u32 n86), (.int .u32 n87)]), (.int .u32 (IntKind.wrap .u32 ((BitVec.ofInt 32 x73 ^^^ (BitVec.ofInt 32 n77)).toNat : Int))), (.pointer (some x72))] w fun v88 w => ∃ b89 : Bool, v88 = (.bool b89) ∧ J91 (!b89) w)))
  (J91 x75 w))
  (X0 x75 w)
/-- The loop in block 0 of function 3: by what holds at its head. -/
def LS3_0 (x69 : Addr) (x70 : Addr) (x71 : Addr) (x72 : Addr) (x73 : Int) (x74 : Bool) (x75 : Bool) (x76 : Int) (w : World) (X0 : Bool → World → Prop) (K : Value → World → Prop) : Prop :=
  ∃ J : Nat → Bool → Int → World → Prop, (∃ n, J n x75 x76 w) ∧ ∀ n x75 x76 w, J n x75 x76 w → B3_0 x69 x70 x71 x72 x73 x74 x75 x76 w (fun x75 x76 w => ∃ m, m < n ∧ J m x75 x76 w) X0 K
abbrev env3_0 (x69 : Addr) (x70 : Addr) (x71 : Addr) (x72 : Addr) (x73 : Int) (x74 : Bool) (x75 : Bool) (x76 : Int) : Env := [(4, (.pointer (some x69))), (5, (.pointer (some x70))), (6, (.pointer (some x71))), (9, (.func (.func 9) #[] #[(.pointer (some x72))])), (10, (.int .u32 x73)), (11, (.bool x74)), (12, (.bool x75)), (68, (.int .i64 x76))]
def Kt3_0 (N : Bool → Int → World → Prop) (X0 : Bool → World → Prop) (K : Value → World → Prop) : Kont := fun e E w => match e with
  | .normal => gB E 12 fun x75 => gI .i64 E 68 fun x76 => N x75 x76 w
  | .exit j => match Nat.beq j 0 with | true => (gB E 12 fun x92 => X0 x92 w) | false => (False)
  | .ret => retG Try.prog Try.f3.results.toList K .ret E w
  | _ => False
def HL3_0 (F : Value → World → Prop) (K : Kont) (E : Env) (w : World) : Prop := match keep [4, 5, 6, 9, 10, 11, 12, 68] E with
  | [(4, (.pointer (some x69))), (5, (.pointer (some x70))), (6, (.pointer (some x71))), (9, (.func (.func 9) gf9 gc9)), (10, (.int .u32 x73)), (11, (.bool x74)), (12, (.bool x75)), (68, (.int .i64 x76))] => (match gf9.toList with | [] => (match gc9.toList with | [(.pointer (some x72))] => LS3_0 x69 x70 x71 x72 x73 x74 x75 x76 w (fun (x92 : Bool) w => K (.exit 0) [(4, (.pointer (some x69))), (5, (.pointer (some x70))), (6, (.pointer (some x71))), (11, (.bool x74)), (12, (.bool x92))] w) F | _ => False) | _ => False)
  | _ => False
def H3 (F : Value → World → Prop) : Nat → Kont → Env → World → Prop := fun b K E w => match Nat.beq b 0 with | true => HL3_0 F K E w | false => (False)
theorem Beq3_0 (x69 : Addr) (x70 : Addr) (x71 : Addr) (x72 : Addr) (x73 : Int) (x74 : Bool) (x75 : Bool) (x76 : Int) (w : World) (N : Bool → Int → World → Prop) (X0 : Bool → World → Prop) (K : Value → World → Prop) :
    G Try.prog [8, 9, 10, 11, 12, 13, 14, 15, 16, 17, 18, 19, 20, 21, 22, 23, 24, 25, 26, 27, 28, 29, 30, 31] 134 [0, 1, 2, 3, 4, 5, 6, 8, 9, 10, 11, 12, 13, 14, 30, 52, 61, 68, 69, 80, 100, 112] (H3 K) 0 (loopOf 0 Try.f3) (Kt3_0 N X0 K) (env3_0 x69 x70 x71 x72 x73 x74 x75 x76) w = B3_0 x69 x70 x71 x72 x73 x74 x75 x76 w N X0 K := by kernel_rfl
theorem lok3_0 (F : Value → World → Prop) : LoopOk Try.prog 134 Try.f3.results.toList F (H3 F) 0 (.loop (loopOf 0 Try.f3)) := by
  intro K E a w Q hr h hs hq
  have hs0 := hs.keep [4, 5, 6, 9, 10, 11, 12, 68]
  have h1 : HL3_0 F K E w := h
  unfold HL3_0 at h1
  split at h1
  · rename_i x69 x70 x71 gf9 gc9 x73 x74 x75 x76 heq
    split at h1
    case h_2 => exact h1.elim
    rename_i  hgf9
    obtain rfl : gf9 = #[] := by rw [← Array.toArray_toList (xs := gf9), hgf9]
    split at h1
    case h_2 => exact h1.elim
    rename_i x72 hgc9
    obtain rfl : gc9 = #[(.pointer (some x72))] := by rw [← Array.toArray_toList (xs := gc9), hgc9]
    obtain ⟨J, ⟨n, hJ⟩, hround⟩ := h1
    rw [heq] at hs0
    refine loop_typed (qs := [8, 9, 10, 11, 12, 13, 14, 15, 16, 17, 18, 19, 20, 21, 22, 23, 24, 25, 26, 27, 28, 29, 30, 31]) (L := [0, 1, 2, 3, 4, 5, 6, 8, 9, 10, 11, 12, 13, 14, 30, 52, 61, 68, 69, 80, 100, 112]) (rs := Try.f3.results.toList) (F := F) (H := H3 F) (b := 0) (by kernel_rfl) (allL (show loops [8, 9, 10, 11, 12, 13, 14, 15, 16, 17, 18, 19, 20, 21, 22, 23, 24, 25, 26, 27, 28, 29, 30, 31] 0 (loopOf 0 Try.f3) = [] by kernel_rfl) True.intro) (σ := Bool × Int) (fun s => env3_0 x69 x70 x71 x72 x73 x74 s.1 s.2) (fun n s w => J n s.1 s.2 w)
      (fun n => Kt3_0 (fun x75 x76 w => ∃ m, m < n ∧ J m x75 x76 w) (fun (x92 : Bool) w => K (.exit 0) [(4, (.pointer (some x69))), (5, (.pointer (some x70))), (6, (.pointer (some x71))), (11, (.bool x74)), (12, (.bool x92))] w) F) (fun _ _ _ h => h) ?_ ?_ a ?_ n (x75, x76) a w hJ (Fr.refl _ _) hs0
    · intro n s w hJ
      exact Eq.mpr (Beq3_0 x69 x70 x71 x72 x73 x74 s.1 s.2 w _ _ F) (hround n s.1 s.2 w hJ)
    · intro n s E' w' h
      obtain ⟨x75, e12, h⟩ := gB_get h
      obtain ⟨x76, e68, h⟩ := gI_get h
      obtain ⟨m, hm, hJ⟩ := h
      exact ⟨m, (x75, x76), hm, hJ, ⟨.inl ⟨by kernel_rfl, rfl⟩, .inl ⟨by kernel_rfl, rfl⟩, .inl ⟨by kernel_rfl, rfl⟩, .inl ⟨by kernel_rfl, rfl⟩, .inl ⟨by kernel_rfl, rfl⟩, .inl ⟨by kernel_rfl, rfl⟩, .inr e12, .inr e68, True.intro⟩⟩
    · intro n s a1 e E' a' w' he hs1 hf0 hf1 hs' h
      cases e with
      | normal => exact (he rfl).elim
      | exit j =>
        dsimp only [Kt3_0] at h
        cases hb : Nat.beq j 0
        case' true =>
          rw [hb] at h
          have hj := Nat.eq_of_beq_eq_true hb
          subst hj
          dsimp only at h
          obtain ⟨x92, e12, h⟩ := gB_get h
          exact hq _ _ _ _ (hs1.next hf1 hs' (E2 := [(4, (.pointer (some x69))), (5, (.pointer (some x70))), (6, (.pointer (some x71))), (11, (.bool x74)), (12, (.bool x92))]) ⟨.inl ⟨by kernel_rfl, rfl⟩, .inl ⟨by kernel_rfl, rfl⟩, .inl ⟨by kernel_rfl, rfl⟩, .inl ⟨by kernel_rfl, rfl⟩, .inr e12, True.intro⟩) hf0 h
        rw [hb] at h
        dsimp only at h
        all_goals exact h.elim
      | ret => exact hq _ _ _ _ hs' hf0 (hr _ _ h)
      | _ => exact h.elim
  · exact h1.elim
/-- jackstay/jackstaylaw11.FilterCovers -/
def S3 (x1 : Bool) (x2 : Int) (x3 : Int) (x4 : Bool) (x5 : Int) (x6 : Int) (x7 : Bool) (x8 : Int) (x9 : Int) (x10 : Int) (w : World) (K : Value → World → Prop) : Prop :=
  al w (.cells #[(.bool x1), (.int .u32 x2), (.int .u32 x3)] 24) fun r11 w => al w (.cells #[(.bool x4), (.int .u32 x5), (.int .u32 x6)] 24) fun r12 w => al w (.cells #[(.bool x7), (.int .u32 x8), (.int .u32 x9)] 24) fun r13 w => dr w fun w =>
  ∃ b14 : Bool, w.cell? ⟨r11, 0, none⟩ = some (.bool b14) ∧ ∃ n15 : Int, w.cell? ⟨r11, 1, none⟩ = some (.int .u32 n15) ∧ ∃ n16 : Int, w.cell? ⟨r11, 2, none⟩ = some (.int .u32 n16) ∧ ∃ b17 : Bool, w.cell? ⟨r12, 0, none⟩ = some (.bool b17) ∧ ∃ n18 : Int, w.cell? ⟨r12, 1, none⟩ = some (.int .u32 n18) ∧ ∃ n19 : Int, w.cell? ⟨r12, 2, none⟩ = some (.int .u32 n19) ∧ ∃ b20 : Bool, w.cell? ⟨r13, 0, none⟩ = some (.bool b20) ∧ ∃ n21 : Int, w.cell? ⟨r13, 1, none⟩ = some (.int .u32 n21) ∧ ∃ n22 : Int, w.cell? ⟨r13, 2, none⟩ = some (.int .u32 n22) ∧ callQ Try.prog 8 #[(.agg #[(.bool b14), (.int .u32 n15), (.int .u32 n16)])] w fun v23 w => ∃ b24 : Bool, ∃ n25 : Int, ∃ n26 : Int, v23 = (.agg #[(.bool b24), (.int .u32 n25), (.int .u32 n26)]) ∧ callQ Try.prog 8 #[(.agg #[(.bool b17), (.int .u32 n18), (.int .u32 n19)])] w fun v27 w => ∃ b28 : Bool, ∃ n29 : Int, ∃ n30 : Int, v27 = (.agg #[(.bool b28), (.int .u32 n29), (.int .u32 n30)]) ∧ callQ Try.prog 8 #[(.agg #[(.bool b20), (.int .u32 n21), (.int .u32 n22)])] w fun v31 w => ∃ b32 : Bool, ∃ n33 : Int, ∃ n34 : Int, v31 = (.agg #[(.bool b32), (.int .u32 n33), (.int .u32 n34)]) ∧ stL w ⟨r11, 0, none⟩ 0 [(.bool b24), (.int .u32 n25), (.int .u32 n26)] fun w => stL w ⟨r12, 0, none⟩ 0 [(.bool b28), (.int .u32 n29), (.int .u32 n30)] fun w => stL w ⟨r13, 0, none⟩ 0 [(.bool b32), (.int .u32 n33), (.int .u32 n34)] fun w => ∃ n35 : Int, w.cell? ⟨r12, 2, none⟩ = some (.int .u32 n35) ∧ ∃ n36 : Int, w.cell? ⟨r12, 1, none⟩ = some (.int .u32 n36) ∧ jn (fun (x38 : Int) (w : World) =>
  ∃ b40 : Bool, w.cell? ⟨r11, 0, none⟩ = some (.bool b40) ∧ ∃ n41 : Int, w.cell? ⟨r11, 1, none⟩ = some (.int .u32 n41) ∧ ∃ n42 : Int, w.cell? ⟨r11, 2, none⟩ = some (.int .u32 n42) ∧ ∃ b43 : Bool, w.cell? ⟨r12, 0, none⟩ = some (.bool b43) ∧ ∃ n44 : Int, w.cell? ⟨r12, 1, none⟩ = some (.int .u32 n44) ∧ ∃ n45 : Int, w.cell? ⟨r12, 2, none⟩ = some (.int .u32 n45) ∧ callQ Try.prog 11 #[(.agg #[(.bool b40), (.int .u32 n41), (.int .u32 n42)]), (.agg #[(.bool b43), (.int .u32 n44), (.int .u32 n45)])] w fun v46 w => ∃ b47 : Bool, v46 = (.bool b47) ∧ jn (fun (w : World) =>
  jn (fun (w : World) =>
  jn (fun (w : World) =>
  ∃ b111 : Bool, w.cell? ⟨r11, 0, none⟩ = some (.bool b111) ∧ ∃ n112 : Int, w.cell? ⟨r11, 1, none⟩ = some (.int .u32 n112) ∧ ∃ n113 : Int, w.cell? ⟨r11, 2, none⟩ = some (.int .u32 n113) ∧ ∃ b114 : Bool, w.cell? ⟨r11, 0, none⟩ = some (.bool b114) ∧ ∃ n115 : Int, w.cell? ⟨r11, 1, none⟩ = some (.int .u32 n115) ∧ ∃ n116 : Int, w.cell? ⟨r11, 2, none⟩ = some (.int .u32 n116) ∧ callQ Try.prog 11 #[(.agg #[(.bool b111), (.int .u32 n112), (.int .u32 n113)]), (.agg #[(.bool b114), (.int .u32 n115), (.int .u32 n116)])] w fun v117 w => ∃ b118 : Bool, v117 = (.bool b118) ∧ br b118
  (br (!b47)
  (callQ Try.prog 12 #[] w fun v119 w => ∃ b120 : Bool, v119 = (.bool b120) ∧ K (.bool b120) w)
  (∃ b121 : Bool, w.cell? ⟨r12, 0, none⟩ = some (.bool b121) ∧ ∃ n122 : Int, w.cell? ⟨r12, 1, none⟩ = some (.int .u32 n122) ∧ ∃ n123 : Int, w.cell? ⟨r12, 2, none⟩ = some (.int .u32 n123) ∧ ∃ b124 : Bool, w.cell? ⟨r11, 0, none⟩ = some (.bool b124) ∧ ∃ n125 : Int, w.cell? ⟨r11, 1, none⟩ = some (.int .u32 n125) ∧ ∃ n126 : Int, w.cell? ⟨r11, 2, none⟩ = some (.int .u32 n126) ∧ callQ Try.prog 11 #[(.agg #[(.bool b121), (.int .u32 n122), (.int .u32 n123)]), (.agg #[(.bool b124), (.int .u32 n125), (.int .u32 n126)])] w fun v127 w => ∃ b128 : Bool, v127 = (.bool b128) ∧ br (!b128)
  (callQ Try.prog 12 #[] w fun v129 w => ∃ b130 : Bool, v129 = (.bool b130) ∧ K (.bool b130) w)
  (∃ b131 : Bool, w.cell? ⟨r11, 0, none⟩ = some (.bool b131) ∧ ∃ n132 : Int, w.cell? ⟨r11, 1, none⟩ = some (.int .u32 n132) ∧ ∃ n133 : Int, w.cell? ⟨r11, 2, none⟩ = some (.int .u32 n133) ∧ ∃ b134 : Bool, w.cell? ⟨r12, 0, none⟩ = some (.bool b134) ∧ ∃ n135 : Int, w.cell? ⟨r12, 1, none⟩ = some (.int .u32 n135) ∧ ∃ n136 : Int, w.cell? ⟨r12, 2, none⟩ = some (.int .u32 n136) ∧ eqK Try.prog .eql 24 (.tmp 126) (.tmp 127) (.agg #[(.bool b131), (.int .u32 n132), (.int .u32 n133)]) (.agg #[(.bool b134), (.int .u32 n135), (.int .u32 n136)]) fun b137 => br b137
  (callQ Try.prog 12 #[] w fun v138 w => ∃ b139 : Bool, v138 = (.bool b139) ∧ K (.bool b139) w)
  (K (.bool false) w))))
  (K (.bool false) w)) fun J110 =>
  br b47
  (∃ b94 : Bool, w.cell? ⟨r12, 0, none⟩ = some (.bool b94) ∧ ∃ n95 : Int, w.cell? ⟨r12, 1, none⟩ = some (.int .u32 n95) ∧ ∃ n96 : Int, w.cell? ⟨r12, 2, none⟩ = some (.int .u32 n96) ∧ ∃ b97 : Bool, w.cell? ⟨r13, 0, none⟩ = some (.bool b97) ∧ ∃ n98 : Int, w.cell? ⟨r13, 1, none⟩ = some (.int .u32 n98) ∧ ∃ n99 : Int, w.cell? ⟨r13, 2, none⟩ = some (.int .u32 n99) ∧ callQ Try.prog 11 #[(.agg #[(.bool b94), (.int .u32 n95), (.int .u32 n96)]), (.agg #[(.bool b97), (.int .u32 n98), (.int .u32 n99)])] w fun v100 w => ∃ b101 : Bool, v100 = (.bool b101) ∧ br b101
  (∃ b102 : Bool, w.cell? ⟨r11, 0, none⟩ = some (.bool b102) ∧ ∃ n103 : Int, w.cell? ⟨r11, 1, none⟩ = some (.int .u32 n103) ∧ ∃ n104 : Int, w.cell? ⟨r11, 2, none⟩ = some (.int .u32 n104) ∧ ∃ b105 : Bool, w.cell? ⟨r13, 0, none⟩ = some (.bool b105) ∧ ∃ n106 : Int, w.cell? ⟨r13, 1, none⟩ = some (.int .u32 n106) ∧ ∃ n107 : Int, w.cell? ⟨r13, 2, none⟩ = some (.int .u32 n107) ∧ callQ Try.prog 11 #[(.agg #[(.bool b102), (.int .u32 n103), (.int .u32 n104)]), (.agg #[(.bool b105), (.int .u32 n106), (.int .u32 n107)])] w fun v108 w => ∃ b109 : Bool, v108 = (.bool b109) ∧ br (!b109)
  (K (.bool false) w)
  (J110 w))
  (J110 w))
  (J110 w)) fun J93 =>
  jn (fun (x61 : Bool) (w : World) =>
  br x61
  (∃ b63 : Bool, w.cell? ⟨r11, 0, none⟩ = some (.bool b63) ∧ ∃ n64 : Int, w.cell? ⟨r11, 1, none⟩ = some (.int .u32 n64) ∧ ∃ n65 : Int, w.cell? ⟨r11, 2, none⟩ = some (.int .u32 n65) ∧ ∃ n66 : Int, w.cell? ⟨r12, 2, none⟩ = some (.int .u32 n66) ∧ callV Try.prog 9 #[(.agg #[(.bool b63), (.int .u32 n64), (.int .u32 n65)]), (.int .u32 n66), (.pointer (some ⟨r12, 0, none⟩))] w fun v67 w => ∃ b68 : Bool, v67 = (.bool b68) ∧ LS3_0 (⟨r11, 0, none⟩) (⟨r12, 0, none⟩) (⟨r13, 0, none⟩) (⟨r12, 0, none⟩) x38 b47 (!b68) 0 w
  (fun (x92 : Bool) w => br (!x92)
  (K (.bool false) w)
  (J93 w)) K)
  (J93 w)) fun J62 =>
  br (!b47)
  (∃ b59 : Bool, w.cell? ⟨r11, 0, none⟩ = some (.bool b59) ∧ ∃ b60 : Bool, w.cell? ⟨r12, 0, none⟩ = some (.bool b60) ∧ J62 (b59 == b60) w)
  (J62 false w)) fun J58 =>
  ∃ b48 : Bool, w.cell? ⟨r12, 0, none⟩ = some (.bool b48) ∧ ∃ n49 : Int, w.cell? ⟨r12, 1, none⟩ = some (.int .u32 n49) ∧ ∃ n50 : Int, w.cell? ⟨r12, 2, none⟩ = some (.int .u32 n50) ∧ callV Try.prog 9 #[(.agg #[(.bool b48), (.int .u32 n49), (.int .u32 n50)]), (.int .u32 x38), (.pointer (some ⟨r12, 0, none⟩))] w fun v51 w => ∃ b52 : Bool, v51 = (.bool b52) ∧ br (!b52)
  (K (.bool false) w)
  (br b47
  (∃ b53 : Bool, w.cell? ⟨r11, 0, none⟩ = some (.bool b53) ∧ ∃ n54 : Int, w.cell? ⟨r11, 1, none⟩ = some (.int .u32 n54) ∧ ∃ n55 : Int, w.cell? ⟨r11, 2, none⟩ = some (.int .u32 n55) ∧ callV Try.prog 9 #[(.agg #[(.bool b53), (.int .u32 n54), (.int .u32 n55)]), (.int .u32 x38), (.pointer (some ⟨r12, 0, none⟩))] w fun v56 w => ∃ b57 : Bool, v56 = (.bool b57) ∧ br (!b57)
  (K (.bool false) w)
  (J58 w))
  (J58 w))) fun J39 =>
  ∃ b37 : Bool, w.cell? ⟨r12, 0, none⟩ = some (.bool b37) ∧ br b37
  (J39 (IntKind.wrap .u32 ((BitVec.ofInt 32 (IntKind.wrap .u32 ((BitVec.ofInt 32 n35 ||| (BitVec.ofInt 32 (IntKind.wrap .u32 ((BitVec.ofInt 32 x10 &&& ~~~(BitVec.ofInt 32 n36)).toNat : Int)))).toNat : Int)) &&& (BitVec.ofInt 32 536870911)).toNat : Int)) w)
  (J39 (IntKind.wrap .u32 ((BitVec.ofInt 32 (IntKind.wrap .u32 ((BitVec.ofInt 32 n35 ||| (BitVec.ofInt 32 (IntKind.wrap .u32 ((BitVec.ofInt 32 x10 &&& ~~~(BitVec.ofInt 32 n36)).toNat : Int)))).toNat : Int)) &&& (BitVec.ofInt 32 2047)).toNat : Int)) w)
theorem eq3 (x1 : Bool) (x2 : Int) (x3 : Int) (x4 : Bool) (x5 : Int) (x6 : Int) (x7 : Bool) (x8 : Int) (x9 : Int) (x10 : Int) (w : World) (K : Value → World → Prop) : G Try.prog [8, 9, 10, 11, 12, 13, 14, 15, 16, 17, 18, 19, 20, 21, 22, 23, 24, 25, 26, 27, 28, 29, 30, 31] 134 [0, 1, 2, 3, 4, 5, 6, 8, 9, 10, 11, 12, 13, 14, 30, 52, 61, 68, 69, 80, 100, 112] (H3 K) 0 (bodyOf Try.f3) (retG Try.prog Try.f3.results.toList K) (env0 0 [(.agg #[(.bool x1), (.int .u32 x2), (.int .u32 x3)]), (.agg #[(.bool x4), (.int .u32 x5), (.int .u32 x6)]), (.agg #[(.bool x7), (.int .u32 x8), (.int .u32 x9)]), (.int .u32 x10)]) w = S3 x1 x2 x3 x4 x5 x6 x7 x8 x9 x10 w K := by kernel_rfl
theorem ok3 {x1 : Bool} {x2 : Int} {x3 : Int} {x4 : Bool} {x5 : Int} {x6 : Int} {x7 : Bool} {x8 : Int} {x9 : Int} {x10 : Int} {w : World} {K : Value → World → Prop} (h : S3 x1 x2 x3 x4 x5 x6 x7 x8 x9 x10 w K) : callV Try.prog 3 #[(.agg #[(.bool x1), (.int .u32 x2), (.int .u32 x3)]), (.agg #[(.bool x4), (.int .u32 x5), (.int .u32 x6)]), (.agg #[(.bool x7), (.int .u32 x8), (.int .u32 x9)]), (.int .u32 x10)] w K :=
  call_sound (qs := [8, 9, 10, 11, 12, 13, 14, 15, 16, 17, 18, 19, 20, 21, 22, 23, 24, 25, 26, 27, 28, 29, 30, 31]) (args := [(.agg #[(.bool x1), (.int .u32 x2), (.int .u32 x3)]), (.agg #[(.bool x4), (.int .u32 x5), (.int .u32 x6)]), (.agg #[(.bool x7), (.int .u32 x8), (.int .u32 x9)]), (.int .u32 x10)]) (by kernel_rfl) (Try.func3) (c := bodyOf Try.f3) (by kernel_rfl) (by kernel_rfl) (allL (show loops [8, 9, 10, 11, 12, 13, 14, 15, 16, 17, 18, 19, 20, 21, 22, 23, 24, 25, 26, 27, 28, 29, 30, 31] 0 (bodyOf Try.f3) = [(0, .loop (loopOf 0 Try.f3))] by kernel_rfl) ⟨lok3_0 K, True.intro⟩) (Eq.mpr (eq3 x1 x2 x3 x4 x5 x6 x7 x8 x9 x10 w K) h)
end Go.Proofs.Ytcemgjikmdbjgaa
