/- FilterHalves. -/
import Derived.Test.YtcemgjikmdbjgaaG2
import Derived.Test.YtcemgjikmdbjgaaD4
namespace Go.Proofs.Ytcemgjikmdbjgaa
open Go Go.Sh Go.Flt

abbrev z24 : Array Value := #[.bool false, .int .u32 0, .int .u32 0]
/-- A filter at block b; one block more. -/
structure P1 (W : World) (b : Nat) (x : Flt) (r : Nat) (u : List Value) (w : World) : Prop where
  hb : Blk w b (cellsF x) 24
  lt : b < W.heap.size
  hr : Blk w r u 24
  ul : u.length = 3
  ge : W.heap.size ≤ r
  cc : Chg (fun _ => False) W w
structure P2 (W : World) (b : Nat) (x : Flt) (r s : Nat) (u v : List Value) (w : World) : Prop where
  hb : Blk w b (cellsF x) 24
  lt : b < W.heap.size
  hr : Blk w r u 24
  hs : Blk w s v 24
  ul : u.length = 3
  vl : v.length = 3
  ne : r ≠ s
  ge : W.heap.size ≤ r ∧ W.heap.size ≤ s
  cc : Chg (fun _ => False) W w
theorem al1 {w : World} {b : Nat} {x : Flt} (h : Blk w b (cellsF x) 24) {k : Nat → World → Prop} (hk : ∀ r w', P1 w b x r z24.toList w' → k r w') : al w (.cells z24 24) k :=
  al_abs fun r w' hr hb c hs => hk r w' ⟨c.blk h id, h.lt, hb, rfl, by omega, c⟩
theorem al2 {W w : World} {b r : Nat} {x : Flt} {u : List Value} (h : P1 W b x r u w) {k : Nat → World → Prop} (hk : ∀ s w', P2 W b x r s u z24.toList w' → k s w') : al w (.cells z24 24) k :=
  al_abs fun s w' hr hb c hs => hk s w' ⟨c.blk h.hb id, h.lt, c.blk h.hr id, hb, h.ul, rfl, by have := h.hr.lt; omega, ⟨h.ge, by have := h.ge; have := h.hr.lt; omega⟩, h.cc.trans c⟩
theorem P2.sw {W w : World} {b r s : Nat} {x : Flt} {u v : List Value} (h : P2 W b x r s u v w) : P2 W b x s r v u w := ⟨h.hb, h.lt, h.hs, h.hr, h.vl, h.ul, Ne.symm h.ne, ⟨h.ge.2, h.ge.1⟩, h.cc⟩
theorem P2.st {W w : World} {b r s : Nat} {x : Flt} {u v : List Value} (h : P2 W b x r s u v w) (i : Nat) (vs : List Value) (hi : i + vs.length ≤ 3) (h1 : ∀ v ∈ vs, v.oneCell' = true) {k : World → Prop} (hk : ∀ w', P2 W b x r s (lay u i vs) v w' → k w') : stL w ⟨r, i, none⟩ 0 vs k := by
  refine stL_abs h.hr (by rw [h.ul]; exact hi) h1 fun w' hr c => hk w' ?_
  have := h.lt; have := h.ge; have := h.ne
  exact ⟨c.blk h.hb (by omega), h.lt, hr, c.blk h.hs (by omega), by rw [lay_length, h.ul], h.vl, h.ne, h.ge, (h.cc.none.trans (c.mono (F' := fun k => W.heap.size ≤ k) fun k _ hk => by omega)).mono fun k hk h => by omega⟩
theorem cells1 (x : Flt) : ∀ v ∈ [Value.bool x.ext, u32 x.mask, u32 x.mat], v.oneCell' = true := cellsF1 x

theorem two_call {w : World} {b : Nat} {x : Flt} (h : Blk w b (cellsF x) 24) {a1 : Int} {bit : Int} {K : Value → World → Prop} {J : Addr → Addr → World → Prop} (hJ : ∀ r s w', P2 w b x r s (cellsF x) (cellsF x) w' → J ⟨r, 0, none⟩ ⟨s, 0, none⟩ w') : CX4_c10 a1 ⟨b, 0, none⟩ bit w J K := by
  unfold CX4_c10
  simp only [add_lit]
  refine dr_abs fun w1 _ c1 => ?_
  have h1 : Blk w1 b (cellsF x) 24 := c1.blk h id
  have up : ∀ {r s u v w'}, P2 w1 b x r s u v w' → P2 w b x r s u v w' := fun h' => ⟨h'.hb, h.lt, h'.hr, h'.hs, h'.ul, h'.vl, h'.ne, by have := h'.ge; have := c1.size; omega, c1.trans h'.cc⟩
  have fin : ∀ r s w', P2 w1 b x r s (cellsF x) (cellsF x) w' → J ⟨r, 0, none⟩ ⟨s, 0, none⟩ w' := fun r s w' h' => hJ r s w' (up h')
  refine ⟨_, h1.cell 0, _, h1.cell 1, _, h1.cell 2, ⟨_, h1.cell 0, _, h1.cell 1, _, h1.cell 2, ?_, ?_⟩, al1 h1 fun r w2 h2 => ⟨⟨_, h2.hb.cell 0, _, h2.hb.cell 1, _, h2.hb.cell 2, ?_⟩, al2 h2 fun s w3 h3 => ⟨⟨_, h3.hb.cell 0, _, h3.hb.cell 1, _, h3.hb.cell 2, ?_⟩, ?_⟩⟩, al1 h1 fun r w2 h2 => ⟨⟨_, h2.hb.cell 0, _, h2.hb.cell 1, _, h2.hb.cell 2, ?_⟩, al2 h2 fun s w3 h3 => ⟨⟨_, h3.hb.cell 0, _, h3.hb.cell 1, _, h3.hb.cell 2, ?_⟩, ?_⟩⟩⟩
  · exact al1 h1 fun r w2 h2 => al2 h2 fun s w3 h3 => h3.st 0 _ (by simp) (cells1 x) fun w4 h4 => h4.sw.st 0 _ (by simp) (cells1 x) fun w5 h5 => fin _ _ _ h5.sw
  · exact al1 h1 fun r w2 h2 => al2 h2 fun s w3 h3 => h3.sw.st 0 _ (by simp) (cells1 x) fun w4 h4 => h4.sw.st 0 _ (by simp) (cells1 x) fun w5 h5 => fin _ _ _ h5.sw
  · exact al2 h2 fun s w3 h3 => h3.st 0 _ (by simp) (cells1 x) fun w4 h4 => h4.sw.st 0 _ (by simp) (cells1 x) fun w5 h5 => fin _ _ _ h5.sw
  · exact h3.st 0 _ (by simp) (cells1 x) fun w4 h4 => h4.sw.st 0 _ (by simp) (cells1 x) fun w5 h5 => fin _ _ _ h5.sw
  · refine h3.st 0 _ (by simp) (cells1 x) fun w4 h4 => ⟨_, h4.hb.cell 0, _, h4.hb.cell 1, _, h4.hb.cell 2, h4.sw.st 0 _ (by simp) (cells1 x) fun w5 h5 => fin _ _ _ h5.sw⟩
  · exact al2 h2 fun s w3 h3 => h3.sw.st 0 _ (by simp) (cells1 x) fun w4 h4 => h4.sw.st 0 _ (by simp) (cells1 x) fun w5 h5 => fin _ _ _ h5.sw
  · exact h3.sw.st 0 _ (by simp) (cells1 x) fun w4 h4 => h4.sw.st 0 _ (by simp) (cells1 x) fun w5 h5 => fin _ _ _ h5.sw
  · refine h3.sw.st 0 _ (by simp) (cells1 x) fun w4 h4 => ⟨_, h4.hb.cell 0, _, h4.hb.cell 1, _, h4.hb.cell 2, h4.sw.st 0 _ (by simp) (cells1 x) fun w5 h5 => fin _ _ _ h5.sw⟩

theorem pass1 (id : BitVec 32) (e : Bool) (x : Flt) : pass ⟨id, e, false, 0, none, 0, 0⟩ [x] = lets id e x := by simp [pass]
theorem bit_ne (x : BitVec 32) {k : Nat} (hk : k < 32) : (!(x &&& (1#32 <<< k) == 0#32)) = bt x k := by rw [bit_test x hk, Bool.not_not]

theorem halves_call {w : World} (x0 : Flt) (k8 : Nat) (hk8 : k8 < 256) (id0 : BitVec 32) {K : Value → World → Prop}
    (hk : ∀ w', Chg (fun _ => False) w w' → K (.bool true) w') : callV Try.prog 4 #[valF x0, .int .u8 (k8 : Int), u32 id0] w K := by
  refine ok4 (al_abs fun b w1 hr h1 c1 hs1 => ?_)
  have h1 : Blk w1 b (cellsF x0) 24 := h1
  refine ⟨_, h1.cell 0, _, h1.cell 1, _, h1.cell 2, callQ_chg (mend_call fun w2 c2 => ⟨c2, _, _, _, rfl, ?_⟩)⟩
  refine stL_abs (c2.blk h1 id) (by simp [cellsF]) (by simp [Value.oneCell']) fun w3 h c3 => ?_
  have h : Blk w3 b (cellsF (mend x0)) 24 := h
  have hR := mend_right x0
  have cw : Chg (fun _ => False) w w3 := (c1.none.trans (c2.none.trans (c3.mono (F' := fun k => w.heap.size ≤ k) fun k _ hk => by omega))).mono fun k hk h => by omega
  generalize mend x0 = X at h hR
  clear h1 c1 c2 c3
  unfold CS4_c5
  refine jn_rule (fun J => J (wid X.ext : Int) w3) ?_ fun J hJ => ⟨_, h.cell 0, br_of (fun e => by rw [e] at hJ; exact hJ) (fun e => by rw [e] at hJ; exact hJ)⟩
  obtain ⟨kb, hkb, hkw⟩ : ∃ kb : Nat, ((k8 : Int)).tmod (wid X.ext : Int) = kb ∧ kb < wid X.ext := ⟨k8 % wid X.ext, by rw [Int.tmod_eq_emod_of_nonneg (by omega)]; rfl, Nat.mod_lt _ (by cases X.ext <;> decide)⟩
  have hw29 : wid X.ext ≤ 29 := by cases X.ext <;> decide
  refine ⟨by cases X.ext <;> decide, ?_⟩
  rw [wrap64_id (by omega) (by omega), hkb]
  refine ⟨by omega, ?_⟩
  rw [shl1 (by omega)]
  refine ⟨by omega, ?_⟩
  rw [shl1 (by omega)]
  have htop : IntKind.wrap .u32 ((((1#32 <<< (wid X.ext) : BitVec 32).toNat : Int)) - 1) = ((top X.ext).toNat : Int) := by cases X.ext <;> decide
  simp only [htop, add_lit, ofB, wrB, neB0]
  refine ⟨_, h.cell 1, ?_⟩
  simp only [ofB, wrB, neB0]
  rw [bit_ne _ (by omega)]
  have fin : ∀ w', Chg (fun _ => False) w3 w' → callQ Try.prog 12 #[] w' fun v119 w => ∃ b120 : Bool, v119 = (.bool b120) ∧ K (.bool b120) w := fun w' h' => callQ_chg (awake_call fun w'' k => ⟨k, _, rfl, hk w'' (cw.trans (h'.trans k))⟩)
  refine br_of (fun _ => fin w3 (Chg.refl _ _)) (fun hm => ?_)
  generalize hid : id0 &&& top X.ext = id
  unfold CS4_c10
  refine jn_rule (fun J => ∀ r s w', P2 w3 b X r s (cellsF X) (cellsF X) w' → J ⟨r, 0, none⟩ ⟨s, 0, none⟩ w') (fun r s w4 h4 => ?_) fun J hJ => two_call h hJ
  unfold CY4_c10
  simp only [add_lit]
  refine ⟨_, h4.hr.cell 1, ?_⟩
  rw [ofB, ofB, wrB]
  refine h4.st 1 [u32 (X.mask ||| (1#32 <<< kb))] (by simp) (by simp [Value.oneCell']) fun w5 h5 => ?_
  have h5 : P2 w3 b X r s (cellsF (half X kb false)) (cellsF X) w5 := h5
  unfold CS4_c12
  refine jn_rule (fun J => ∀ w', P2 w3 b X r s (cellsF (half X kb false)) (cellsF (half X kb true)) w' → J w') (fun w6 h6 => ?_) fun J hJ => ?_
  · unfold CY4_c12
    refine ⟨_, h6.hb.cell 0, al_abs fun t w7 ht h7 c7 hs7 => stL_abs h7 (by simp) (by simp [Value.oneCell']) fun w8 h8 c8 => ?_⟩
    have h8 : Blk w8 t [u32 id, .bool X.ext, .bool false, .int .u8 0, .slice none 0 0] 30 := h8
    have c68 : Chg (fun _ => False) w6 w8 := (c7.none.trans (c8.mono (F' := fun k => w6.heap.size ≤ k) fun k _ hk => by omega)).mono fun k hk h => by omega
    have hb := c68.blk h6.hb (fun h => h)
    have h1 := c68.blk h6.hr (fun h => h)
    have h2 := c68.blk h6.hs (fun h => h)
    have cc := h6.cc.trans c68
    clear h6 h7 c7 c8
    have l1 := half_lets hR hkw hm false id
    have l2 := half_lets hR hkw hm true id
    unfold CS4_c14
    refine jn_rule (fun J => ∀ w', Chg (fun _ => False) w8 w' → J (lets id X.ext (half X kb false)) (lets id X.ext (half X kb true)) w') (fun w9 c9 => ?_) fun J hJ => ?_
    · unfold CY4_c14
      simp only [add_lit]
      have hb := c9.blk hb (fun h => h)
      have h1 := c9.blk h1 (fun h => h)
      have h2 := c9.blk h2 (fun h => h)
      have h8 := c9.blk h8 (fun h => h)
      refine ⟨_, hb.cell 0, _, hb.cell 1, _, hb.cell 2, al_abs fun r2 w10 hr2 h10 c10 hs10 => ?_⟩
      have h10 : FL w10 (some ⟨r2, 0, none⟩) 1 [X] := FL.of_blk (L := [X]) (t := 24) h10
      have h8 := c10.blk h8 (fun h => h)
      refine ⟨_, h8.cell 0, _, h8.cell 1, _, h8.cell 2, _, h8.cell 3, _, _, _, h8.cell 4, ?_⟩
      refine callQ_chg (pass_call h10 ⟨id, X.ext, false, 0, none, 0, 0⟩ (by omega) fun w11 c11 => ⟨c11, _, rfl, ?_⟩)
      have hb := (c10.trans c11).blk hb (fun h => h)
      have h1 := (c10.trans c11).blk h1 (fun h => h)
      have h2 := (c10.trans c11).blk h2 (fun h => h)
      have h8 := c11.blk h8 (fun h => h)
      have c8b := cc.trans (c9.trans (c10.trans c11))
      rw [pass1]
      unfold CS4_c17
      have hv := half_covers hR hkw hm
      refine jn_rule (fun J => ∀ w', Chg (fun _ => False) w11 w' → J w') (fun w12 c12 => ?_) fun J hJ => ?_
      · unfold CY4_c17
        simp only [add_lit]
        have hb := c12.blk hb (fun h => h)
        have h1 := c12.blk h1 (fun h => h)
        have h2 := c12.blk h2 (fun h => h)
        refine ⟨_, hb.cell 0, _, hb.cell 1, _, hb.cell 2, _, h1.cell 0, _, h1.cell 1, _, h1.cell 2, callQ_chg (covers_call fun w13 c13 => ⟨c13, _, rfl, ?_⟩)⟩
        rw [(hv false).1, br_true]
        have hb := c13.blk hb (fun h => h)
        have h1 := c13.blk h1 (fun h => h)
        have h2 := c13.blk h2 (fun h => h)
        refine ⟨_, hb.cell 0, _, hb.cell 1, _, hb.cell 2, _, h2.cell 0, _, h2.cell 1, _, h2.cell 2, callQ_chg (covers_call fun w14 c14 => ⟨c14, _, rfl, ?_⟩)⟩
        rw [(hv true).1, br_true]
        have hb := c14.blk hb (fun h => h)
        have h1 := c14.blk h1 (fun h => h)
        have h2 := c14.blk h2 (fun h => h)
        refine ⟨_, h1.cell 0, _, h1.cell 1, _, h1.cell 2, _, hb.cell 0, _, hb.cell 1, _, hb.cell 2, callQ_chg (covers_call fun w15 c15 => ⟨c15, _, rfl, ?_⟩)⟩
        rw [(hv false).2, Bool.not_false, br_true]
        have hb := c15.blk hb (fun h => h)
        have h1 := c15.blk h1 (fun h => h)
        have h2 := c15.blk h2 (fun h => h)
        refine ⟨_, h2.cell 0, _, h2.cell 1, _, h2.cell 2, _, hb.cell 0, _, hb.cell 1, _, hb.cell 2, callQ_chg (covers_call fun w16 c16 => ⟨c16, _, rfl, ?_⟩)⟩
        rw [(hv true).2, Bool.not_false, br_true]
        have h1 := c16.blk h1 (fun h => h)
        have h2 := c16.blk h2 (fun h => h)
        refine ⟨_, h1.cell 0, _, h1.cell 1, _, h1.cell 2, _, h2.cell 0, _, h2.cell 1, _, h2.cell 2, callQ_chg (covers_call fun w17 c17 => ⟨c17, _, rfl, ?_⟩)⟩
        rw [halves_apart hkw hR hm, Bool.not_false, br_true]
        exact fin w17 (c8b.trans (c12.trans (c13.trans (c14.trans (c15.trans (c16.trans c17))))))
      · have two : ∀ (c : Bool), c = lets id X.ext X → (∃ b139 : Bool, w11.cell? ⟨r, 0, none⟩ = some (.bool b139) ∧ ∃ n140 : Int, w11.cell? (Addr.add ⟨r, 0, none⟩ 1) = some (.int .u32 n140) ∧ ∃ n141 : Int, w11.cell? (Addr.add ⟨r, 0, none⟩ 2) = some (.int .u32 n141) ∧ ∃ b142 : Bool, w11.cell? ⟨s, 0, none⟩ = some (.bool b142) ∧ ∃ n143 : Int, w11.cell? (Addr.add ⟨s, 0, none⟩ 1) = some (.int .u32 n143) ∧ ∃ n144 : Int, w11.cell? (Addr.add ⟨s, 0, none⟩ 2) = some (.int .u32 n144) ∧ al w11 (.cells #[(.bool b139), (.int .u32 n140), (.int .u32 n141), (.bool b142), (.int .u32 n143), (.int .u32 n144)] 24) fun r145 w => ∃ n146 : Int, w.cell? ⟨t, 0, none⟩ = some (.int .u32 n146) ∧ ∃ b147 : Bool, w.cell? (Addr.add ⟨t, 0, none⟩ 1) = some (.bool b147) ∧ ∃ b148 : Bool, w.cell? (Addr.add ⟨t, 0, none⟩ 2) = some (.bool b148) ∧ ∃ n149 : Int, w.cell? (Addr.add ⟨t, 0, none⟩ 3) = some (.int .u8 n149) ∧ ∃ (p150 : Option Addr) (l151 c152 : Nat), w.cell? (Addr.add ⟨t, 0, none⟩ 4) = some (.slice p150 l151 c152) ∧ callQ Try.prog 10 #[(.slice (some ⟨r145, 0, none⟩) 2 2), (.agg #[(.int .u32 n146), (.bool b147), (.bool b148), (.int .u8 n149), (.slice p150 l151 c152)])] w fun v153 w => ∃ b154 : Bool, v153 = (.bool b154) ∧ br (!(c == b154)) (K (.bool false) w) (J w)) := fun c hc => by
          simp only [add_lit]
          refine ⟨_, h1.cell 0, _, h1.cell 1, _, h1.cell 2, _, h2.cell 0, _, h2.cell 1, _, h2.cell 2, al_abs fun r3 w12 hr3 h12 c12 hs12 => ?_⟩
          have h12 : FL w12 (some ⟨r3, 0, none⟩) 2 [half X kb false, half X kb true] := FL.of_blk (L := [half X kb false, half X kb true]) (t := 24) h12
          have h8 := c12.blk h8 (fun h => h)
          refine ⟨_, h8.cell 0, _, h8.cell 1, _, h8.cell 2, _, h8.cell 3, _, _, _, h8.cell 4, ?_⟩
          refine callQ_chg (pass_call h12 ⟨id, X.ext, false, 0, none, 0, 0⟩ (by omega) fun w13 c13 => ⟨c13, _, rfl, ?_⟩)
          have : pass ⟨id, X.ext, false, 0, none, 0, 0⟩ [half X kb false, half X kb true] = (lets id X.ext (half X kb false) || lets id X.ext (half X kb true)) := by simp [pass]
          rw [this, l1, l2, hc]
          have : (lets id X.ext X == ((lets id X.ext X && (bt id kb == false)) || (lets id X.ext X && (bt id kb == true)))) = true := by cases lets id X.ext X <;> cases bt id kb <;> rfl
          rw [this, Bool.not_true, br_false]
          exact hJ _ (c12.trans c13)
        unfold CX4_c17
        rw [l1, l2]
        cases hl : lets id X.ext X <;> cases hbk : bt id kb <;> simp only [Bool.true_and, Bool.false_and, beq_self_eq_true, Bool.not_true, Bool.not_false, br_true, br_false, show (true == false) = false from rfl, show (false == true) = false from rfl] <;> exact two _ hl.symm
    · unfold CX4_c14
      simp only [add_lit]
      refine dr_abs fun w9 _ c9 => ?_
      have h1 := c9.blk h1 (fun h => h)
      have h2 := c9.blk h2 (fun h => h)
      have h8 := c9.blk h8 (fun h => h)
      refine ⟨_, h1.cell 0, _, h1.cell 1, _, h1.cell 2, _, h8.cell 0, _, h8.cell 1, _, h8.cell 2, _, h8.cell 3, _, _, _, h8.cell 4, _, h2.cell 0, _, h2.cell 1, _, h2.cell 2, _, h8.cell 0, _, h8.cell 1, _, h8.cell 2, _, h8.cell 3, _, _, _, h8.cell 4, ?_⟩
      have of1 : ∀ {w' : World} {r2 : Nat} (Y : Flt), Blk w' r2 (cellsF Y) 24 → FL w' (some ⟨r2, 0, none⟩) 1 [Y] := fun Y h => FL.of_blk (L := [Y]) (t := 24) h
      refine ⟨al_abs fun r2 w10 hr2 h10 c10 hs10 => ⟨?_, al_abs fun r3 w11 hr3 h11 c11 hs11 => ?_⟩, al_abs fun r3 w10 hr2 h10 c10 hs10 => al_abs fun r2 w11 hr3 h11 c11 hs11 => ?_⟩
      · refine callQ_chg (pass_call (of1 _ h10) ⟨id, X.ext, false, 0, none, 0, 0⟩ (by omega) fun w11 c11 => ⟨c11, _, rfl, al_abs fun r3 w12 hr3 h12 c12 hs12 => ?_⟩)
        refine callQ_chg (pass_call (of1 _ h12) ⟨id, X.ext, false, 0, none, 0, 0⟩ (by omega) fun w13 c13 => ⟨c13, _, rfl, ?_⟩)
        have := hJ w13 (c9.trans (c10.trans (c11.trans (c12.trans c13))))
        rw [pass1, pass1]; exact this
      · refine callQ_chg (pass_call ((of1 _ h10).chg c11) ⟨id, X.ext, false, 0, none, 0, 0⟩ (by omega) fun w12 c12 => ⟨c12, _, rfl, ?_⟩)
        refine callQ_chg (pass_call ((of1 _ h11).chg c12) ⟨id, X.ext, false, 0, none, 0, 0⟩ (by omega) fun w13 c13 => ⟨c13, _, rfl, ?_⟩)
        have := hJ w13 (c9.trans (c10.trans (c11.trans (c12.trans c13))))
        rw [pass1, pass1]; exact this
      · refine callQ_chg (pass_call (of1 _ h11) ⟨id, X.ext, false, 0, none, 0, 0⟩ (by omega) fun w12 c12 => ⟨c12, _, rfl, ?_⟩)
        refine callQ_chg (pass_call (((of1 _ h10).chg c11).chg c12) ⟨id, X.ext, false, 0, none, 0, 0⟩ (by omega) fun w13 c13 => ⟨c13, _, rfl, ?_⟩)
        have := hJ w13 (c9.trans (c10.trans (c11.trans (c12.trans c13))))
        rw [pass1, pass1]; exact this
  · unfold CX4_c12
    simp only [add_lit]
    refine dr_abs fun w6 _ c6 => ?_
    have h6 : P2 w3 b X r s (cellsF (half X kb false)) (cellsF X) w6 := ⟨c6.blk h5.hb (fun h => h), h5.lt, c6.blk h5.hr (fun h => h), c6.blk h5.hs (fun h => h), h5.ul, h5.vl, h5.ne, h5.ge, h5.cc.trans c6⟩
    refine ⟨_, h6.hr.cell 1, ⟨_, h6.hb.cell 2, ?_⟩, ?_⟩
    · rw [ofB, ofB, wrB]
      exact h6.sw.st 1 [u32 (half X kb false).mask] (by simp) (by simp [Value.oneCell']) fun w7 h7 => h7.st 2 [u32 (X.mat ||| (1#32 <<< kb))] (by simp) (by simp [Value.oneCell']) fun w8 h8 => hJ _ h8.sw
    · refine h6.sw.st 1 [u32 (half X kb false).mask] (by simp) (by simp [Value.oneCell']) fun w7 h7 => ⟨_, h7.hb.cell 2, ?_⟩
      rw [ofB, ofB, wrB]
      exact h7.st 2 [u32 (X.mat ||| (1#32 <<< kb))] (by simp) (by simp [Value.oneCell']) fun w8 h8 => hJ _ h8.sw
end Go.Proofs.Ytcemgjikmdbjgaa
