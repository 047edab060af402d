/- FifoTells. -/
import Derived.Test.YtiodaglceoodpaaG2
namespace Go.Proofs.Ytiodaglceoodpaa
open Go Go.Sh

/-- A step of the row that came in: its cells. -/
def Opd (w : World) (cs : List Value) : Prop := ∃ (n : Int) (r : Rec), cs = .int .u8 n :: r.cells ∧ 0 ≤ n ∧ r.dl ≤ r.dc ∧ ∃ C : List (List Value), Cam w 1 r.dp r.dl C ∧ ∀ c ∈ C, ∃ m : Int, c = [.int .u8 m]

set_option maxHeartbeats 1000000 in
theorem tells_call {w : World} {x1 : Int} {p : Option Addr} {l c : Nat} (hle : l ≤ c) {C : List (List Value)} (hC : Cam w 7 p l C) (hb : ∀ cs ∈ C, Opd w cs) {K : Value → World → Prop} (hk : ∀ w', Chg (fun k => w.heap.size ≤ k) w w' → K (.bool true) w') : callV Try.prog 3 #[.int .i64 x1, .slice p l c] w K := by
  refine ok3 ?_
  unfold S3
  by_cases hrange : x1 < 1 ∨ 256 < x1
  · refine new_bad hrange ⟨_, _, rfl, ?_⟩
    refine jn_rule (fun J => J true w) ?_ fun J hJ => ?_
    · rw [br_true, show ((2 : Int) == 2) = true from rfl, br_true]
      exact awake_call fun w2 c2 => ⟨_, rfl, hk w2 c2⟩
    · refine br_of (fun _ => hJ) fun h1 => ?_
      have : decide (x1 > 256) = true := by simp at h1 ⊢; omega
      rw [this]; exact hJ
  obtain ⟨room, rfl, hr1, hr2⟩ : ∃ room : Nat, x1 = room ∧ 1 ≤ room ∧ room ≤ 256 := ⟨x1.toNat, by omega, by omega, by omega⟩
  refine qnew_call hr1 hr2 fun w1 b g hq hb0 hg0 c1 => ⟨_, _, rfl, ?_⟩
  refine jn_rule (fun J => J false w1) ?h1 fun J hJ => ?h2
  case h2 =>
    rw [show decide ((room : Int) < 1) = false by simp; omega, br_false, show decide ((room : Int) > 256) = false by simp; omega]
    exact hJ
  rw [br_false, show ((0 : Int) != 0) = false from rfl, br_false]
  refine al_abs fun M w2 hM hMb c2 hs2 => stL_abs hMb (by simp) (by simp [Value.oneCell']) fun w3 hMb c3 => ?_
  obtain ⟨N, hN, hN1, hN2⟩ : ∃ N : Nat, (if (400 : Int) < (l : Int) then 400 else (l : Int)) = N ∧ N ≤ l ∧ N ≤ 400 := by
    by_cases h : (400 : Int) < (l : Int)
    · exact ⟨400, by rw [if_pos h]; rfl, by omega, by omega⟩
    · exact ⟨l, by rw [if_neg h], by omega, by omega⟩
  rw [hN]
  refine slc_rule 0 N c rfl rfl rfl (Nat.le_refl _) (by omega) (by omega) (fun h => by cases h) ?_
  have hp' : (if c = 0 then p else Option.map (fun x => x.add (0 * 7)) p) = p := by
    split
    · rfl
    · cases p <;> rfl
  rw [hp', Nat.sub_zero, Nat.sub_zero]
  have hCN := hC.prefix N hN1
  have hsz1 := c1.size
  have hbl := hq.lt
  have hT0 : TS w w3 b g M room none 0 0 false [] := ⟨(hq.chg c2 id id).chg c3 (by omega) (by omega), Own.nil _ _ _, hMb, fun t ht => (by cases ht), fun t ht => (by cases ht), List.Pairwise.nil, fun k ⟨o, ho⟩ => (by cases ho), ⟨hb0, hg0, by omega⟩, ⟨hr1, hr2⟩, c1.none.trans (c2.none.trans (c3.mono fun k _ hk => by omega))⟩
  refine ⟨fun m x wi => ∃ (i : Nat) (p0 : Option Addr) (l0 c0 : Nat) (flag : Bool) (A : List Itm), x = i ∧ i ≤ N ∧ m = N - i ∧ TS w wi b g M room p0 l0 c0 flag A, ⟨N, 0, none, 0, 0, false, [], rfl, by omega, rfl, hT0⟩, ?_⟩
  rintro m x wi ⟨i, p0, l0, c0, flag, A, rfl, hi, hm, h⟩
  unfold B3_0
  refine br_of (fun hlt => ?_) (fun hge => awake_call fun w2 c2 => ⟨_, rfl, hk w2 (h.chg.trans (c2.mono fun k _ hk => by have := h.chg.size; omega))⟩)
  have hlt : i < N := by have := of_decide_eq_true hlt; omega
  refine jn_rule (fun J => ∀ p l c flag A wi, TS w wi b g M room p l c flag A → J wi) (fun p l c flag A wi h => ?_) fun J224 hJ => ?_
  · rw [wrap64_id (by omega) (by omega)]
    exact ⟨N - (i + 1), by omega, i + 1, p, l, c, flag, A, by omega, by omega, rfl, h⟩
  have hCi := hCN.chg h.chg fun a _ ha => by omega
  obtain ⟨cs, a, _, hmem, _, hp, _, hcell⟩ := hCi.at_ hlt
  obtain ⟨what, r, rfl, hw0, hdle, D, hD, hDb⟩ := hb cs (List.mem_of_mem_take hmem)
  have hDi := hD.chg h.chg fun a _ ha => by omega
  rw [hp]
  refine ⟨by omega, by omega, what, by have := hcell 0 (by omega); rw [add_zero] at this; simpa using this, r.id, hcell 1 (by omega), r.ext, hcell 2 (by omega), r.rem, hcell 3 (by omega), r.dlc, hcell 4 (by omega), r.dp, r.dl, r.dc, hcell 5 (by omega), r.at_, hcell 6 (by omega), ?_⟩
  refine al_abs fun r33 w4 hr33 h33 c4 hs4 => stL_abs h33 (by simp) (by simp [Value.oneCell']) fun w5 h33 c5 => ?_
  have h33 : Blk w5 r33 (.int .u8 what :: r.cells) 38 := h33
  have cl5 : Chg (fun _ => False) wi w5 := (c4.none (F := fun k => wi.heap.size ≤ k) |>.trans (c5.mono fun k _ hk => by omega)).mono fun k hk h => by omega
  have h5 := h.still cl5
  have hD5 := hDi.chg cl5 fun _ _ _ => id
  clear hcell hDi c4 c5
  refine jn_rule (fun J => ∀ p l c flag A wi, TS w wi b g M room p l c flag A → J wi) (fun p l c flag A wi h => after h fun wj h => hJ _ _ _ _ _ wj h) fun J212 hJ2 => ?_
  refine ⟨what, h33.cell 0, ?_⟩
  refine jn_rule (fun J => ∀ bb, J bb w5) (fun bb => ?_) fun J36 hJ36 => br_of (fun _ => hJ36 _) (fun _ => hJ36 _)
  have hrm := h5.rm
  have hAle := h5.le
  have hll := h5.len
  have hge := h5.ge
  have hlt5 := h5.q.lt
  have hMlt := h5.hM.lt
  obtain ⟨⟨cbb, hbb⟩, ⟨cgg, hgg⟩⟩ := h5.q.blks
  have hpOld : ∀ k, inB p0 k → k < w5.heap.size := fun k hk => h5.own.lt hk
  have hdOld : ∀ t ∈ A, ∀ k, (inB t.1.dp k ∨ inB t.2.1.dp k) → k < w5.heap.size := fun t ht k hk => by
    obtain ⟨h1, h2, _⟩ := h5.dat t ht
    rcases hk with hk | hk
    · exact h1.lt hk
    · exact h2.lt hk
  refine br_of (fun _ => ?_) (fun _ => br_of (fun _ => ?_) (fun _ => ?_))
  · -- a frame comes
    refine ⟨_, h33.cell 1, _, h33.cell 2, _, h33.cell 3, _, h33.cell 4, _, _, _, h33.cell 5, _, h33.cell 6, ?_⟩
    refine al_abs fun r45 w6 hr45 h45 c6 hs6 => stL_abs h45 (by simp) (by simp [Value.oneCell']) fun w7 h45 c7 => al_abs fun r46 w8 hr46 h46 c8 hs8 => ?_
    have h45 : Blk w8 r45 r.cells 36 := c8.blk h45 id
    have hs7 := c7.size
    have cl8 : Chg (fun _ => False) w5 w8 := (c6.none (F := fun k => w5.heap.size ≤ k) |>.trans ((c7.mono fun k _ hk => by omega).trans c8.none)).mono fun k hk h => by omega
    have h33 := cl8.blk h33 id
    refine ⟨_, _, _, h33.cell 5, _, _, _, h33.cell 5, ?_⟩
    obtain ⟨k20, hk20, hk1, hk2⟩ : ∃ k : Nat, (if (20 : Int) < (r.dl : Int) then 20 else (r.dl : Int)) = k ∧ k ≤ r.dl ∧ k ≤ 20 := by
      by_cases h : (20 : Int) < (r.dl : Int)
      · exact ⟨20, by rw [if_pos h]; rfl, by omega, by omega⟩
      · exact ⟨r.dl, by rw [if_neg h], by omega, by omega⟩
    rw [hk20]
    refine slc_rule 0 k20 r.dc rfl rfl rfl (Nat.le_refl _) (by omega) (by omega) (fun h => by cases h) ?_
    have hpd : (if r.dc = 0 then r.dp else Option.map (fun x => x.add (0 * 1)) r.dp) = r.dp := by
      split
      · rfl
      · cases r.dp <;> rfl
    rw [hpd, Nat.sub_zero, Nat.sub_zero]
    obtain ⟨bs, rfl⟩ := bytes_of hDb
    have hD8 := Cam.prefix (hD5.chg cl8 fun _ _ _ => id) k20 hk1
    rw [← List.map_take] at hD8
    have hbl : (bs.take k20).length = k20 := by have := hD8.1; simpa using this
    generalize bs.take k20 = bs' at hD8 hbl
    refine appb h46 (src_of hD8 r.dc) (by omega) fun w9 p57 c59 hd9 hf9 c9 => ⟨_, _, _, rfl, ?_⟩
    have hs9 := c9.size
    have hp57 : ∀ k, inB p57 k → w5.heap.size ≤ k ∧ k < w9.heap.size ∧ k ≠ r45 := fun k hk => by
      have h1 := hd9.lt hk
      rcases hf9 k hk with h2 | h2 <;> exact ⟨by omega, h1, by omega⟩
    have h45 := c9.blk h45 (by omega)
    refine stL_abs h45 (by simp [Rec.cells]) (by simp [Value.oneCell']) fun w10 h45 c10 => ?_
    obtain ⟨y, hy⟩ : ∃ y : Rec, y = ⟨r.id, r.ext, r.rem, r.dlc, p57, k20, c59, r.at_⟩ := ⟨_, rfl⟩
    have h45 : Blk w10 r45 y.cells 36 := by rw [hy]; exact h45
    have hd10 : Own w10 1 5 p57 k20 c59 (byt bs') := hd9.chg c10 fun k hk => (hp57 k hk).2.2
    have hs10 := c10.size
    have cl10 : Chg (fun _ => False) w5 w10 := (cl8.none (F := fun k => w5.heap.size ≤ k) |>.trans ((c9.mono fun k _ hk => by omega).trans (c10.mono fun k _ hk => by omega))).mono fun k hk h => by omega
    have hyd : y.dp = p57 ∧ y.dl = k20 ∧ y.dc = c59 := by rw [hy]; exact ⟨rfl, rfl, rfl⟩
    have hyh : y.id = r.id ∧ y.ext = r.ext ∧ y.rem = r.rem ∧ y.dlc = r.dlc ∧ y.at_ = r.at_ := by rw [hy]; exact ⟨rfl, rfl, rfl, rfl, rfl⟩
    clear hy
    refine ⟨_, h45.cell 0, _, h45.cell 1, _, h45.cell 2, _, h45.cell 3, _, _, _, h45.cell 4, _, h45.cell 5, ?_⟩
    refine al_abs fun r68 w11 hr68 h68 c11 hs11 => stL_abs h68 (by simp) (by simp [Value.oneCell']) fun w12 h68 c12 => al_abs fun r69 w13 hr69 h69 c13 hs13 => ?_
    have h68 : Blk w13 r68 y.cells 36 := c13.blk h68 id
    have hs12 := c12.size
    have cl13 : Chg (fun _ => False) w10 w13 := (c11.none (F := fun k => w10.heap.size ≤ k) |>.trans ((c12.mono fun k _ hk => by omega).trans c13.none)).mono fun k hk h => by omega
    have h45 := cl13.blk h45 id
    refine ⟨_, _, _, h45.cell 4, ?_⟩
    have hd13 : Own w13 1 5 y.dp y.dl y.dc (byt bs') := by rw [hyd.1, hyd.2.1, hyd.2.2]; exact hd10.chg cl13 fun _ _ => id
    refine appb h69 (hd13.src und32) (by omega) fun w14 p74 c76 hd14 hf14 c14 => ⟨_, _, _, rfl, ?_⟩
    have hs14 := c14.size
    have hp74 : ∀ k, inB p74 k → w10.heap.size ≤ k ∧ k < w14.heap.size ∧ k ≠ r68 := fun k hk => by
      have h1 := hd14.lt hk
      rcases hf14 k hk with h2 | h2 <;> exact ⟨by omega, h1, by omega⟩
    have h68 := c14.blk h68 (by omega)
    refine stL_abs h68 (by simp [Rec.cells]) (by simp [Value.oneCell']) fun w15 h68 c15 => ?_
    obtain ⟨z, hz⟩ : ∃ z : Rec, z = ⟨y.id, y.ext, y.rem, y.dlc, p74, y.dl, c76, y.at_⟩ := ⟨_, rfl⟩
    have h68 : Blk w15 r68 z.cells 36 := by rw [hz]; exact h68
    have hd15 : Own w15 1 5 z.dp z.dl z.dc (byt bs') := by rw [hz]; exact hd14.chg c15 fun k hk => (hp74 k hk).2.2
    have hp74 : ∀ k, inB z.dp k → w10.heap.size ≤ k ∧ k < w14.heap.size := by rw [hz]; exact fun k hk => ⟨(hp74 k hk).1, (hp74 k hk).2.1⟩
    have hzh : z.id = y.id ∧ z.ext = y.ext ∧ z.rem = y.rem ∧ z.dlc = y.dlc ∧ z.at_ = y.at_ := by rw [hz]; exact ⟨rfl, rfl, rfl, rfl, rfl⟩
    clear hz
    have hs15 := c15.size
    have cl15 : Chg (fun _ => False) w10 w15 := (cl13.none (F := fun k => w10.heap.size ≤ k) |>.trans ((c14.mono fun k _ hk => by omega).trans (c15.mono fun k _ hk => by omega))).mono fun k hk h => by omega
    have h15 := (h5.still cl10).still cl15
    have h45 : Blk w15 r45 y.cells 36 := c15.blk (c14.blk h45 (by omega)) (by omega)
    have hdy : Own w15 1 5 y.dp y.dl y.dc (byt bs') := by rw [hyd.1, hyd.2.1, hyd.2.2]; exact hd10.chg cl15 fun _ _ => id
    have hpy : ∀ k, inB y.dp k → w5.heap.size ≤ k ∧ k < w10.heap.size := by rw [hyd.1]; exact fun k hk => ⟨(hp57 k hk).1, by have := (hp57 k hk).2.1; omega⟩
    have hydl : y.dl = k20 := hyd.2.1
    have h5s := h.chg.size
    have hw5 : w.heap.size ≤ w5.heap.size := h5.chg.size
    simp only [add_lit]
    refine ⟨_, _, _, h15.hM.cell 0, _, h15.hM.cell 1, _, h15.hM.cell 2, _, h68.cell 0, _, h68.cell 1, _, h68.cell 2, _, h68.cell 3, _, _, _, h68.cell 4, _, h68.cell 5, ?_⟩
    by_cases hfull : A.length = room
    · refine mpush_full (by omega) z fun w16 c16 => ⟨_, _, _, _, _, _, rfl, ?_⟩
      refine al_abs fun r97 w17 hr97 h97 c17 hs17 => stL_abs h97 (by simp) (by simp [Value.oneCell']) fun w18 h97 c18 => ?_
      refine ⟨_, _, _, h97.cell 0, _, h97.cell 1, _, h97.cell 2, ?_⟩
      have hs16 := c16.size
      have cl18 : Chg (fun _ => False) w15 w18 := (c16.none (F := fun k => w15.heap.size ≤ k) |>.trans (c17.none.trans (c18.mono fun k _ hk => by omega))).mono fun k hk h => by omega
      have h18 := h15.still cl18
      refine stL_abs h18.hM (by simp) (by simp [Value.oneCell']) fun w19 hM19 c19 => ?_
      have h45 := c19.blk (cl18.blk h45 id) (by omega)
      refine ⟨_, h45.cell 0, _, h45.cell 1, _, h45.cell 2, _, h45.cell 3, _, _, _, h45.cell 4, _, h45.cell 5, ?_⟩
      have hq19 : FQ w19 b g room flag (A.map (·.1)) := h18.q.chg c19 (fun e => by
        obtain ⟨⟨_, hb18⟩, _⟩ := h18.q.blks
        subst e; have hm := h18.hM; unfold Blk at hb18 hm; rw [hb18] at hm; simp at hm) (fun e => by
        obtain ⟨_, ⟨_, hg18⟩⟩ := h18.q.blks
        subst e; have hm := h18.hM; unfold Blk at hg18 hm; rw [hg18] at hm; simp at hm)
      have hbM : M ≠ b := fun e => by
        obtain ⟨⟨_, hb18⟩, _⟩ := h18.q.blks
        subst e; have hm := h18.hM; unfold Blk at hb18 hm; rw [hb18] at hm; simp at hm
      refine qpush_full hq19 (by simpa using hfull) y fun w20 hq20 c20 => ⟨_, rfl, ?_⟩
      rw [show ((5 : Int) != 5) = false from rfl, br_false]
      have h20 := h18.setM hq20 (c20.blk hM19 hbM) ((c19.mono fun k _ hk => .inr hk).trans (c20.mono fun k _ hk => .inl hk))
      have h45 := c20.blk h45 (by omega)
      have hdy20 := (((hdy.chg cl18 fun _ _ => id).chg c19 fun k hk => by have := hpy k hk; omega)).chg c20 fun k hk => by have := hpy k hk; omega
      refine ⟨_, _, _, h45.cell 4, up_loop _ _ r45 _ _ _ _ _ w20 y h45 hdy20 (by omega) fun w21 c21 => hJ2 p0 l0 c0 true A w21 ?_⟩
      refine h20.carry c21 (fun k _ hk => by have := hpy k hk; omega) (fun hk => by have := hpy _ hk; omega) (fun hk => by have := hpy _ hk; omega) (fun hk => by have := hpy _ hk; omega) (fun k hk hk2 => by have := hpy k hk2; have := hpOld k hk; omega) (fun t ht k hk hk2 => by have := hpy k hk2; have := hdOld t ht k hk; omega)
    · refine mpush_ok h15.own (by omega) (by omega) z fun w16 p16 c16' ho16 hp16 c16 => ⟨_, _, _, _, _, _, rfl, ?_⟩
      refine al_abs fun r97 w17 hr97 h97 c17 hs17 => stL_abs h97 (by simp) (by simp [Value.oneCell']) fun w18 h97 c18 => ?_
      refine ⟨_, _, _, h97.cell 0, _, h97.cell 1, _, h97.cell 2, ?_⟩
      have hs16 := c16.size
      have cl18 : Chg (fun _ => False) w15 w18 := (c16.none (F := fun k => w15.heap.size ≤ k) |>.trans (c17.none.trans (c18.mono fun k _ hk => by omega))).mono fun k hk h => by omega
      have h18 := h15.still cl18
      have hbM : M ≠ b := fun e => by
        obtain ⟨⟨_, hb18⟩, _⟩ := h18.q.blks
        subst e; have hm := h18.hM; unfold Blk at hb18 hm; rw [hb18] at hm; simp at hm
      have hgM : M ≠ g := fun e => by
        obtain ⟨_, ⟨_, hg18⟩⟩ := h18.q.blks
        subst e; have hm := h18.hM; unfold Blk at hg18 hm; rw [hg18] at hm; simp at hm
      have ho18 : Own w18 6 36 p16 (l0 + 1) c16' (rows (A.map (·.2.1) ++ [z])) := (ho16.chg c17 fun _ _ => id).chg c18 fun k hk => by have := ho16.lt hk; omega
      refine stL_abs h18.hM (by simp) (by simp [Value.oneCell']) fun w19 hM19 c19 => ?_
      have h45 := c19.blk (cl18.blk h45 id) (by omega)
      refine ⟨_, h45.cell 0, _, h45.cell 1, _, h45.cell 2, _, h45.cell 3, _, _, _, h45.cell 4, _, h45.cell 5, ?_⟩
      have hq19 : FQ w19 b g room flag (A.map (·.1)) := h18.q.chg c19 (fun e => hbM e.symm) (fun e => hgM e.symm)
      have hdy19 := (hdy.chg cl18 fun _ _ => id).chg c19 fun k hk => by have := hpy k hk; omega
      have hs19 := c19.size
      have hs18 := c18.size
      refine qpush_any hq19 (by simp; omega) y hdy19 (by omega) (fun k hk => by have := hpy k hk; omega) fun w20 p20 c20' hq20 hd20 hp20 c20 => ⟨_, rfl, ?_⟩
      rw [show ((0 : Int) != 0) = false from rfl, br_false]
      have h45 := c20.blk h45 (by omega)
      have hdy20 := hdy19.chg c20 fun k hk => by have := hpy k hk; omega
      have hs20 := c20.size
      have cM : Chg (fun k => k = b ∨ k = g ∨ k = M) w18 w20 := (c19.mono fun k _ hk => by omega).trans (c20.mono fun k _ hk => by omega)
      have hz20 : Own w20 1 5 z.dp z.dl z.dc (byt bs') := (hd15.chg cl18 fun _ _ => id).chg cM fun k hk => by have := hp74 k hk; omega
      have h20 : TS w w20 b g M room p16 (l0 + 1) c16' flag (A ++ [(y.wd p20 c20', z, bs')]) := by
        refine ⟨by simpa using hq20, by simpa using ho18.chg cM fun k hk => by have := hp16 k hk; omega, by simpa [lay] using c20.blk hM19 (by omega), fun t ht => ?_, fun t ht k hk => ?_, ?_, fun k hk => by have := hp16 k hk; omega, h18.ge, h18.rm, h18.chg.trans (cM.mono fun k _ hk => by omega)⟩
        · rcases List.mem_append.1 ht with ht | ht
          · obtain ⟨h1, h2, h3, h4⟩ := h18.dat t ht
            have hne : ∀ {p : Option Addr} {n c : Nat} {xs : List Value}, Own w18 1 5 p n c xs → ∀ k, inB p k → ¬ (k = b ∨ k = g ∨ k = M) := fun ho k hk hh => by
              obtain ⟨⟨_, hb18⟩, ⟨_, hg18⟩⟩ := h18.q.blks
              rcases hh with rfl | rfl | rfl
              · exact Own.ne_blk ho hb18 (by decide) hk
              · exact Own.ne_blk ho hg18 (by decide) hk
              · exact Own.ne_blk ho h18.hM (by decide) hk
            exact ⟨h1.chg cM (hne h1), h2.chg cM (hne h2), h3, h4⟩
          · simp at ht; subst ht
            exact ⟨hd20, hz20, ⟨hzh.1.symm, hzh.2.1.symm, hzh.2.2.1.symm, hzh.2.2.2.1.symm, hzh.2.2.2.2.symm⟩, by rw [hbl]; exact hk2⟩
        · rcases List.mem_append.1 ht with ht | ht
          · exact h18.far t ht k hk
          · simp at ht; subst ht
            have := hp20 k hk
            exact ⟨by omega, fun hk2 => by have := hp74 k hk2; omega⟩
        · refine List.pairwise_append.2 ⟨h18.sep, List.pairwise_singleton _ _, fun t ht u hu k hk => ?_⟩
          simp at hu; subst hu
          have := hdOld t ht k (Or.inl hk)
          exact ⟨fun hk2 => by have := hp20 k hk2; omega, fun hk2 => by have := hp74 k hk2; omega⟩
      refine ⟨_, _, _, h45.cell 4, up_loop _ _ r45 _ _ _ _ _ w20 y h45 hdy20 (by omega) fun w21 c21 => hJ2 p16 (l0 + 1) c16' flag (A ++ [(y.wd p20 c20', z, bs')]) w21 ?_⟩
      refine h20.carry c21 (fun k _ hk => by have := hpy k hk; omega) (fun hk => by have := hpy _ hk; omega) (fun hk => by have := hpy _ hk; omega) (fun hk => by have := hpy _ hk; omega) (fun k hk hk2 => by have := hpy k hk2; have := hp16 k hk; omega) (fun t ht k hk hk2 => ?_)
      have := hpy k hk2
      rcases List.mem_append.1 ht with ht | ht
      · have := hdOld t ht k hk; omega
      · simp at ht; subst ht
        rcases hk with hk | hk
        · have := hp20 k hk; omega
        · have := hp74 k hk; omega
  · -- one is taken
    refine ⟨_, _, _, h5.hM.cell 0, _, h5.hM.cell 1, _, h5.hM.cell 2, ?_⟩
    cases A with
    | nil =>
      have hl0 : l0 = 0 := by simpa using hll
      subst hl0
      refine mpop_none fun w6 c6 => ⟨_, _, _, _, _, _, _, _, _, _, _, _, _, _, rfl, ?_⟩
      refine al_abs fun r152 w7 hr152 h152 c7 hs7 => al_abs fun r153 w8 hr153 h153 c8 hs8 => stL_abs (c8.blk h152 id) (by simp) (by simp [Value.oneCell']) fun w9 h152 c9 => stL_abs (c9.blk h153 (by omega)) (by simp) (by simp [Value.oneCell']) fun w10 h153 c10 => ?_
      have h152 := c10.blk h152 (by omega)
      have hs6 := c6.size
      have cl10 : Chg (fun _ => False) w5 w10 := (c6.none (F := fun k => w5.heap.size ≤ k) |>.trans (c7.none.trans (c8.none.trans ((c9.mono fun k _ hk => by omega).trans (c10.mono fun k _ hk => by omega))))).mono fun k hk h => by omega
      have h10 := h5.still cl10
      refine ⟨_, _, _, h152.cell 0, _, h152.cell 1, _, h152.cell 2, ?_⟩
      refine stL_abs h10.hM (by simp) (by simp [Value.oneCell']) fun w11 hM11 c11 => ?_
      have hM11 : Blk w11 M [.slice p0 0 c0, .int .i64 room, .bool flag] 30 := hM11
      have hne : M ≠ b ∧ M ≠ g := by
        obtain ⟨⟨_, hb10⟩, ⟨_, hg10⟩⟩ := h10.q.blks
        have hm := h10.hM
        constructor <;> intro e <;> subst e <;> unfold Blk at hb10 hg10 hm
        · rw [hb10] at hm; simp at hm
        · rw [hg10] at hm; simp at hm
      have h11 := h10.setM (h10.q.chg c11 (fun e => hne.1 e.symm) (fun e => hne.2 e.symm)) hM11 (c11.mono fun k _ hk => .inr hk)
      have h153 := c11.blk h153 (by omega)
      refine qpop_none h11.q fun w12 c12 hq12 => ⟨_, _, _, _, _, _, _, _, _, rfl, al_abs fun r169 w13 hr169 h169 c13 hs13 => stL_abs h169 (by simp) (by simp [Value.oneCell']) fun w14 h169 c14 => ?_⟩
      have hs12 := c12.size
      have cl14 : Chg (fun _ => False) w11 w14 := (c12.none (F := fun k => w11.heap.size ≤ k) |>.trans (c13.none.trans (c14.mono fun k _ hk => by omega))).mono fun k hk h => by omega
      have h14 := h11.still cl14
      rw [show (!(false == false)) = false from rfl, br_false]
      have h153 := cl14.blk h153 id
      have h169 : Blk w14 r169 Rec.zero.cells 36 := h169
      have h153 : Blk w14 r153 Rec.zero.cells 36 := h153
      refine ⟨_, h169.cell 0, _, h169.cell 1, _, h169.cell 2, _, h169.cell 3, _, _, _, h169.cell 4, _, h169.cell 5, _, h153.cell 0, _, h153.cell 1, _, h153.cell 2, _, h153.cell 3, _, _, _, h153.cell 4, _, h153.cell 5, ?_⟩
      have hz0 : Own w14 1 5 Rec.zero.dp Rec.zero.dl Rec.zero.dc (byt []) := Own.nil _ _ _
      refine alike_call Rec.zero Rec.zero rfl rfl rfl rfl rfl hz0 hz0 (by simp) fun w15 c15 => ⟨_, rfl, ?_⟩
      rw [Bool.not_true, br_false]
      have h169 := c15.blk h169 id
      refine ⟨_, _, _, h169.cell 4, over_loop _ _ r169 _ _ _ _ _ w15 Rec.zero h169 (hz0.chg c15 fun _ _ => id) (by decide) fun w16 c16 => hJ2 p0 0 c0 flag [] w16 ?_⟩
      exact (h14.still c15).still (c16.mono fun k _ ⟨o, hk⟩ => by cases hk)
    | cons t A =>
      obtain ⟨t1, t2, bs⟩ := t
      refine mpop_some h5.own fun w6 p' hown6 hsub c6 => ⟨_, _, _, _, _, _, _, _, _, _, _, _, _, _, rfl, ?_⟩
      refine al_abs fun r152 w7 hr152 h152 c7 hs7 => al_abs fun r153 w8 hr153 h153 c8 hs8 => stL_abs (c8.blk h152 id) (by simp) (by simp [Value.oneCell']) fun w9 h152 c9 => stL_abs (c9.blk h153 (by omega)) (by simp) (by simp [Value.oneCell']) fun w10 h153 c10 => ?_
      have h152 := c10.blk h152 (by omega)
      have hs6 := c6.size
      have clb : Chg (fun _ => False) w6 w10 := (c7.none (F := fun k => w6.heap.size ≤ k) |>.trans (c8.none.trans ((c9.mono fun k _ hk => by omega).trans (c10.mono fun k _ hk => by omega)))).mono fun k hk h => by omega
      have cl10 : Chg (fun _ => False) w5 w10 := c6.trans clb
      have h10 := h5.still cl10
      have hown10 := hown6.chg clb fun _ _ => id
      refine ⟨_, _, _, h152.cell 0, _, h152.cell 1, _, h152.cell 2, ?_⟩
      refine stL_abs h10.hM (by simp) (by simp [Value.oneCell']) fun w11 hM11 c11 => ?_
      have hM11 : Blk w11 M [.slice p' (l0 - 1) (c0 - 1), .int .i64 room, .bool flag] 30 := hM11
      have hne : M ≠ b ∧ M ≠ g := by
        obtain ⟨⟨_, hb10⟩, ⟨_, hg10⟩⟩ := h10.q.blks
        have hm := h10.hM
        constructor <;> intro e <;> subst e <;> unfold Blk at hb10 hg10 hm
        · rw [hb10] at hm; simp at hm
        · rw [hg10] at hm; simp at hm
      have h153 := c11.blk h153 (by omega)
      refine qpop_some (h10.q.chg c11 (fun e => hne.1 e.symm) (fun e => hne.2 e.symm)) fun w12 hq12 c12 => ⟨_, _, _, _, _, _, _, _, _, rfl, al_abs fun r169 w13 hr169 h169 c13 hs13 => stL_abs h169 (by simp) (by simp [Value.oneCell']) fun w14 h169 c14 => ?_⟩
      have hs11 := c11.size
      have hs12 := c12.size
      have hs10 := cl10.size
      have cl14 : Chg (fun _ => False) w12 w14 := (c13.none (F := fun k => w12.heap.size ≤ k) |>.trans (c14.mono fun k _ hk => by omega)).mono fun k hk h => by omega
      have cM : Chg (fun k => k = b ∨ k = g ∨ k = M) w10 w14 := (c11.mono fun k _ hk => by omega).trans ((c12.mono fun k _ hk => by omega).trans cl14.none)
      have hneD : ∀ {p : Option Addr} {n c : Nat} {xs : List Value}, Own w10 1 5 p n c xs → ∀ k, inB p k → ¬ (k = b ∨ k = g ∨ k = M) := fun ho k hk hh => by
        obtain ⟨⟨_, hb18⟩, ⟨_, hg18⟩⟩ := h10.q.blks
        rcases hh with rfl | rfl | rfl
        · exact Own.ne_blk ho hb18 (by decide) hk
        · exact Own.ne_blk ho hg18 (by decide) hk
        · exact Own.ne_blk ho h10.hM (by decide) hk
      have hsep := List.pairwise_cons.1 h10.sep
      have h14 : TS w w14 b g M room p' (l0 - 1) (c0 - 1) flag A := by
        refine ⟨hq12.chg cl14 id id, hown10.chg cM fun k hk hh => ?_, cl14.blk (c12.blk hM11 (by omega)) id, fun t ht => ?_, fun t ht k hk => h10.far t (by simp [ht]) k hk, hsep.2, fun k hk => h10.pg k (hsub k hk), h10.ge, h10.rm, h10.chg.trans (cM.mono fun k _ hk => by omega)⟩
        · obtain ⟨⟨_, hb18⟩, _⟩ := h10.q.blks
          rcases hh with rfl | rfl | rfl
          · exact Own.ne_blk hown10 hb18 (by decide) hk
          · exact h10.pg _ (hsub _ hk) rfl
          · exact Own.ne_blk hown10 h10.hM (by decide) hk
        · obtain ⟨h1, h2, h3, h4⟩ := h10.dat t (by simp [ht])
          exact ⟨h1.chg cM (hneD h1), h2.chg cM (hneD h2), h3, h4⟩
      obtain ⟨hd1, hd2, ⟨e1, e2, e3, e4, e5⟩, hbsl⟩ := h10.dat (t1, t2, bs) (by simp)
      have hd1' := hd1.chg cM (hneD hd1)
      have hd2' := hd2.chg cM (hneD hd2)
      have hfar := h10.far (t1, t2, bs) (by simp)
      rw [show (!(true == true)) = false from rfl, br_false]
      have h153 : Blk w14 r153 t2.cells 36 := cM.blk (by exact (show Blk w10 r153 t2.cells 36 from by
        have := h153; have hx : Blk w11 r153 t2.cells 36 := this
        unfold Blk at hx ⊢; rw [← c11.block r153 (by have := c9.size; have := c10.size; omega) (by omega)]; exact hx)) (by omega)
      have h169 : Blk w14 r169 t1.cells 36 := h169
      refine ⟨_, h169.cell 0, _, h169.cell 1, _, h169.cell 2, _, h169.cell 3, _, _, _, h169.cell 4, _, h169.cell 5, _, h153.cell 0, _, h153.cell 1, _, h153.cell 2, _, h153.cell 3, _, _, _, h153.cell 4, _, h153.cell 5, ?_⟩
      have hbsl' : bs.length ≤ 20 := hbsl
      refine alike_call t1 t2 e1 e2 e3 e4 e5 hd1' hd2' (by omega) fun w15 c15 => ⟨_, rfl, ?_⟩
      rw [Bool.not_true, br_false]
      have h169 := c15.blk h169 id
      have hdl : t1.dl = bs.length := by have := hd1.len; simp [byt] at this; omega
      refine ⟨_, _, _, h169.cell 4, over_loop _ _ r169 _ _ _ _ _ w15 t1 h169 (hd1'.chg c15 fun _ _ => id) (by omega) fun w16 c16 => hJ2 p' (l0 - 1) (c0 - 1) flag A w16 ?_⟩
      have h15 := h14.still c15
      have hd15 := hd1'.chg c15 fun _ _ => id
      obtain ⟨⟨_, hb15⟩, ⟨_, hg15⟩⟩ := h15.q.blks
      refine h15.carry c16 (fun k _ hk => (hfar k hk).1) (fun hk => Own.ne_blk hd15 hb15 (by decide) hk) (fun hk => Own.ne_blk hd15 hg15 (by decide) hk) (fun hk => Own.ne_blk hd15 h15.hM (by decide) hk) (fun k hk hk2 => Own.ne_own hd15 h15.own (by decide) hk2 hk) (fun t ht k hk hk2 => ?_)
      have hs := hsep.1 t ht k hk2
      rcases hk with hk | hk
      · exact hs.1 hk
      · exact hs.2 hk
  · -- the flag is cleared
    refine jn_rule (fun J => ∀ wj, FQ wj b g room false (A.map (·.1)) → Chg (fun k => k = b) w5 wj → J wj) (fun wj hq c6 => ?_) fun J211 hJ3 => ?_
    · simp only [add_lit]
      have hbM : M ≠ b := fun e => by
        subst e; have hm := h5.hM; unfold Blk at hbb hm; rw [hbb] at hm; simp at hm
      have hgM : M ≠ g := fun e => by
        subst e; have hm := h5.hM; unfold Blk at hgg hm; rw [hgg] at hm; simp at hm
      refine stL_abs (c6.blk h5.hM hbM) (by simp) (by simp [Value.oneCell']) fun w7 hM7 c7 => hJ2 p0 l0 c0 false A w7 ?_
      refine h5.setM (flag' := false) (hq.chg c7 (fun e => hbM e.symm) (fun e => hgM e.symm)) hM7 ((c6.mono fun k _ hk => .inl hk).trans (c7.mono fun k _ hk => .inr hk))
    · refine dr_abs fun w6 _ c6 => ?_
      have h6 := h5.still c6
      simp only [add_lit]
      refine ⟨?_, ?_⟩
      · refine qclear_call h6.q fun w7 hq7 c7 => ⟨_, rfl, _, c7.blk h6.hM (fun e => by
          obtain ⟨⟨_, hb6⟩, _⟩ := h6.q.blks
          subst e; have hm := h6.hM; unfold Blk at hb6 hm; rw [hb6] at hm; simp at hm) |>.cell 2, ?_⟩
        rw [show (!(flag == flag)) = false by simp, br_false]
        exact hJ3 w7 hq7 (c6.none.trans c7)
      · refine ⟨_, h6.hM.cell 2, qclear_call h6.q fun w7 hq7 c7 => ⟨_, rfl, ?_⟩⟩
        rw [show (!(flag == flag)) = false by simp, br_false]
        exact hJ3 w7 hq7 (c6.none.trans c7)
end Go.Proofs.Ytiodaglceoodpaa
