/- FifoTells: what compares two frames; the loops that write data over. -/
import Derived.Test.YtiodaglceoodpaaF9
import Derived.Test.YtiodaglceoodpaaArg
namespace Go.Proofs.Ytiodaglceoodpaa
open Go Go.Sh

theorem same_call {w : World} (a b : Rec) (h1 : a.id = b.id) (h2 : a.ext = b.ext) (h3 : a.rem = b.rem) (h4 : a.dlc = b.dlc) {bs : List Int} (ha : Own w 1 5 a.dp a.dl a.dc (byt bs)) (hb : Own w 1 5 b.dp b.dl b.dc (byt bs)) (hbig : bs.length ≤ 1000000) {K : Value → World → Prop} (hk : ∀ w', Chg (fun _ => False) w w' → K (.bool true) w') :
    callV Try.prog 21 #[.agg #[.int .u32 a.id, .bool a.ext, .bool a.rem, .int .u8 a.dlc, .slice a.dp a.dl a.dc], .agg #[.int .u32 b.id, .bool b.ext, .bool b.rem, .int .u8 b.dlc, .slice b.dp b.dl b.dc]] w K := by
  have la : a.dl = bs.length := by have := ha.len; simp [byt] at this; omega
  have lb : b.dl = bs.length := by have := hb.len; simp [byt] at this; omega
  refine ok21 (al_abs fun r15 w1 hr15 h15 c1 hs1 => al_abs fun r16 w2 hr16 h16 c2 hs2 => ?_)
  have h15 := c2.blk h15 id
  have cc := c1.trans c2
  refine ⟨_, h15.cell 0, _, h16.cell 0, ?_⟩
  rw [show (a.id != b.id) = false by simp [h1], br_false]
  refine ⟨_, h15.cell 1, _, h16.cell 1, ?_⟩
  rw [show (!(a.ext == b.ext)) = false by simp [h2], br_false]
  refine ⟨_, h15.cell 2, _, h16.cell 2, ?_⟩
  rw [show (!(a.rem == b.rem)) = false by simp [h3], br_false]
  refine ⟨_, h15.cell 3, _, h16.cell 3, ?_⟩
  rw [show (a.dlc != b.dlc) = false by simp [h4], br_false]
  refine ⟨_, _, _, h15.cell 4, _, _, _, h16.cell 4, ?_⟩
  rw [show (((a.dl : Nat) : Int) != (b.dl : Int)) = false by rw [la, lb]; simp, br_false]
  refine ⟨fun m x wi => ∃ i : Nat, x = i ∧ i ≤ bs.length ∧ m = bs.length - i ∧ Chg (fun _ => False) w2 wi, ⟨_, 0, rfl, by omega, rfl, Chg.refl _ _⟩, ?_⟩
  rintro m x wi ⟨i, rfl, hi, hm, c3⟩
  unfold B21_0
  have h15 := c3.blk h15 id
  have h16 := c3.blk h16 id
  refine ⟨_, _, _, h15.cell 4, ?_⟩
  refine br_of (fun hlt => ?_) (fun hge => hk wi (cc.trans c3))
  have hlt : i < bs.length := by have := of_decide_eq_true hlt; omega
  refine dr_abs fun w4 _ c4 => ?_
  have h15 := c4.blk h15 id
  have h16 := c4.blk h16 id
  have call := cc.trans (c3.trans c4)
  obtain ⟨g1, o1, hp1, hc1⟩ := (ha.chg call fun _ _ => id).cell (by omega)
  obtain ⟨g2, o2, hp2, hc2⟩ := (hb.chg call fun _ _ => id).cell (by omega)
  have e : (byt bs)[i]? = some (.int .u8 bs[i]) := by simp [byt, hlt]
  refine ⟨_, _, _, h15.cell 4, ?_⟩
  rw [hp1]
  refine idx_rule (by omega) (by omega) ⟨bs[i], ?_, ?_⟩
  · rw [← e, ← hc1 i (by omega)]; congr 2; omega
  refine ⟨_, _, _, h16.cell 4, ?_⟩
  rw [hp2]
  refine idx_rule (by omega) (by omega) ⟨bs[i], ?_, ?_⟩
  · rw [← e, ← hc2 i (by omega)]; congr 2; omega
  rw [show (bs[i] != bs[i]) = false by simp, br_false, wrap64_id (by omega) (by omega)]
  exact ⟨bs.length - (i + 1), by omega, i + 1, by omega, by omega, rfl, c3.trans c4⟩

theorem alike_call {w : World} (a b : Rec) (h1 : a.id = b.id) (h2 : a.ext = b.ext) (h3 : a.rem = b.rem) (h4 : a.dlc = b.dlc) (h5 : a.at_ = b.at_) {bs : List Int} (ha : Own w 1 5 a.dp a.dl a.dc (byt bs)) (hb : Own w 1 5 b.dp b.dl b.dc (byt bs)) (hbig : bs.length ≤ 1000000) {K : Value → World → Prop} (hk : ∀ w', Chg (fun _ => False) w w' → K (.bool true) w') :
    callV Try.prog 13 #[a.val, b.val] w K := by
  refine ok13 (al_abs fun r17 w1 hr17 h17 c1 hs1 => al_abs fun r18 w2 hr18 h18 c2 hs2 => ?_)
  have h17 := c2.blk h17 id
  refine ⟨_, h17.cell 5, _, h18.cell 5, ?_⟩
  rw [show (a.at_ == b.at_) = true by simp [h5], br_true]
  refine ⟨_, h17.cell 0, _, h17.cell 1, _, h17.cell 2, _, h17.cell 3, _, _, _, h17.cell 4, _, h18.cell 0, _, h18.cell 1, _, h18.cell 2, _, h18.cell 3, _, _, _, h18.cell 4, ?_⟩
  have cc := c1.trans c2
  exact same_call a b h1 h2 h3 h4 (ha.chg cc fun _ _ => id) (hb.chg cc fun _ _ => id) hbig fun w' c => ⟨_, rfl, hk w' (cc.trans c)⟩

/-- A byte of a slice is written. -/
theorem store_own {w : World} {p : Option Addr} {n c : Nat} {bs : List Int} (h : Own w 1 5 p n c (byt bs)) {i : Nat} (hi : i < n) (v : Int) {K : World → Prop} (hk : ∀ w', Own w' 1 5 p n c (byt (bs.set i v)) → Chg (inB p) w w' → K w') : idx p n 1 (i : Int) fun a => stL w a 0 [.int .u8 v] K := by
  have hle := h.le
  have hlen := h.len
  rcases h.at_ with ⟨_, hc, _⟩ | ⟨g, o, cs, rfl, hb, hl, hx⟩
  · omega
  · refine idx_rule (by omega) (by omega) ?_
    refine stL_abs hb (by simp; omega) (by simp [Value.oneCell']) fun w' hb' c' => hk w' ⟨hle, Or.inr ⟨g, o, _, rfl, hb', by rw [lay_length]; exact hl, ?_⟩, byt1 _⟩ (c'.mono fun k _ hk => ⟨o, by rw [hk]⟩)
    have e0 : 0 + (i : Int).toNat * 1 = i := by simp
    have : lay cs (o + (i : Int).toNat * 1) [.int .u8 v] = cs.set (o + i) (.int .u8 v) := by
      show cs.set _ _ = _
      congr 1; simp
    rw [this]
    have e1 : byt (bs.set i v) = (byt bs).set i (.int .u8 v) := by simp [byt, List.map_set]
    rw [e1, hx]
    rw [List.drop_set, if_neg (by omega), List.take_set]
    congr 1; omega
theorem byte_cell {w : World} {p : Option Addr} {n c : Nat} {bs : List Int} (h : Own w 1 5 p n c (byt bs)) {i : Nat} (hi : i < n) {K : Addr → Prop} (hk : ∀ a v, w.cell? a = some (.int .u8 v) → K a) : idx p n 1 (i : Int) K := by
  have hlen := h.len
  obtain ⟨g, o, rfl, hc⟩ := h.cell (by omega)
  have hb : i < bs.length := by simp [byt] at hlen; omega
  refine idx_rule (by omega) (by omega) (hk _ bs[i] ?_)
  have := hc i (by omega)
  rw [show o + (i : Int).toNat * 1 = o + i by simp, this]
  simp [byt, hb]

/-- The loop that counts each byte up. -/
theorem up_loop (q : Option Addr) (M : Addr) (r : Nat) (sp : Option Addr) (sl sc : Nat) (n2 i2 : Int) (w : World) (x : Rec) (hx : Blk w r x.cells 36) {bs : List Int} (hd : Own w 1 5 x.dp x.dl x.dc (byt bs)) (hbig : x.dl ≤ 1000000) {X : World → Prop} {K : Value → World → Prop}
    (hk : ∀ w', Chg (inB x.dp) w w' → X w') : LS3_3 q M ⟨r, 0, none⟩ sp sl sc n2 i2 (x.dl : Int) 0 w X K := by
  have hrd : ∀ k, inB x.dp k → k ≠ r := fun k hk hkr => by
    subst hkr
    obtain ⟨o, ho⟩ := hk
    rcases hd.at_ with ⟨h0, _⟩ | ⟨g, o', cs, hp, hb, _⟩
    · rw [h0] at ho; cases ho
    · rw [hp] at ho; simp at ho
      have : g = k := ho.1
      subst this
      unfold Blk at hb hx
      rw [hb] at hx; simp at hx
  refine ⟨fun m y wi => ∃ i : Nat, y = i ∧ i ≤ x.dl ∧ m = x.dl - i ∧ (∃ bs', Own wi 1 5 x.dp x.dl x.dc (byt bs')) ∧ Blk wi r x.cells 36 ∧ Chg (inB x.dp) w wi, ⟨_, 0, rfl, by omega, rfl, ⟨bs, hd⟩, hx, Chg.refl _ _⟩, ?_⟩
  rintro m y wi ⟨i, rfl, hi, hm, ⟨bs', hd'⟩, hx', c⟩
  unfold B3_3
  refine br_of (fun hlt => ?_) (fun hge => hk wi c)
  have hlt : i < x.dl := by have := of_decide_eq_true hlt; omega
  simp only [add_lit]
  refine ⟨_, _, _, hx'.cell 4, byte_cell hd' hlt fun a v hv => ⟨v, hv, store_own hd' hlt _ fun w2 hd2 c2 => ?_⟩⟩
  rw [wrap64_id (by omega) (by omega)]
  exact ⟨x.dl - (i + 1), by omega, i + 1, by omega, by omega, rfl, ⟨_, hd2⟩, c2.blk hx' (fun h => hrd r h rfl), c.trans c2⟩

/-- The loop that writes 77 into each byte. -/
theorem over_loop (q : Option Addr) (M : Addr) (r : Nat) (sp : Option Addr) (sl sc : Nat) (n2 i2 : Int) (w : World) (x : Rec) (hx : Blk w r x.cells 36) {bs : List Int} (hd : Own w 1 5 x.dp x.dl x.dc (byt bs)) (hbig : x.dl ≤ 1000000) {X : World → Prop} {K : Value → World → Prop}
    (hk : ∀ w', Chg (inB x.dp) w w' → X w') : LS3_5 q M ⟨r, 0, none⟩ sp sl sc n2 i2 (x.dl : Int) 0 w X K := by
  have hrd : ∀ k, inB x.dp k → k ≠ r := fun k hk hkr => by
    subst hkr
    obtain ⟨o, ho⟩ := hk
    rcases hd.at_ with ⟨h0, _⟩ | ⟨g, o', cs, hp, hb, _⟩
    · rw [h0] at ho; cases ho
    · rw [hp] at ho; simp at ho
      have : g = k := ho.1
      subst this
      unfold Blk at hb hx
      rw [hb] at hx; simp at hx
  refine ⟨fun m y wi => ∃ i : Nat, y = i ∧ i ≤ x.dl ∧ m = x.dl - i ∧ (∃ bs', Own wi 1 5 x.dp x.dl x.dc (byt bs')) ∧ Blk wi r x.cells 36 ∧ Chg (inB x.dp) w wi, ⟨_, 0, rfl, by omega, rfl, ⟨bs, hd⟩, hx, Chg.refl _ _⟩, ?_⟩
  rintro m y wi ⟨i, rfl, hi, hm, ⟨bs', hd'⟩, hx', c⟩
  unfold B3_5
  refine br_of (fun hlt => ?_) (fun hge => hk wi c)
  have hlt : i < x.dl := by have := of_decide_eq_true hlt; omega
  simp only [add_lit]
  refine ⟨_, _, _, hx'.cell 4, store_own hd' hlt _ fun w2 hd2 c2 => ?_⟩
  rw [wrap64_id (by omega) (by omega)]
  exact ⟨x.dl - (i + 1), by omega, i + 1, by omega, by omega, rfl, ⟨_, hd2⟩, c2.blk hx' (fun h => hrd r h rfl), c.trans c2⟩
end Go.Proofs.Ytiodaglceoodpaa
