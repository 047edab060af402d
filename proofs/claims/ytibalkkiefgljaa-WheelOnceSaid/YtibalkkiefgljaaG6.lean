/- WheelOnce. -/
import Derived.Test.YtibalkkiefgljaaG4
import Derived.Test.YtibalkkiefgljaaD3
import Derived.Test.YtibalkkiefgljaaIt
import Derived.Test.YtibalkkiefgljaaF10
namespace Go.Proofs.Ytibalkkiefgljaa
open Go Go.Sh

theorem wrapU16_id {n : Int} (h0 : 0 ≤ n) (h1 : n < 65536) : IntKind.wrap .u16 n = n := by
  unfold IntKind.wrap IntKind.bits IntKind.signed
  simp
  omega
/-- The wheel beside the map, made behind W. -/
structure Onm (W w : World) (h : WH) (im N N' : Nat) (n : Int) (T D : List (Int × Int)) : Prop where
  H : Wh w h N 64 n T
  M : MI w im N' D
  nim : ¬ h.fp im
  lo : ∀ k, h.fp k ∨ k = im → W.heap.size ≤ k
  cc : Chg (fun _ => False) W w
/-- What both of them hold. -/
structure Onp (n : Int) (T D : List (Int × Int)) : Prop where
  eq : ∀ k, mget D k = mget T k
  ids : ∀ p ∈ T, 0 ≤ p.1 ∧ p.1 ≤ 63
  at_ : ∀ p ∈ T, p.2 ≤ 100
  ok : Ok 64 n T
section
variable {W w w' : World} {h : WH} {im N N' N2 : Nat} {n n2 : Int} {T T' D D' : List (Int × Int)}
theorem Onm.go (H : Onm W w h im N N' n T D) (c : Chg (fun _ => False) w w') : Onm W w' h im N N' n T D :=
  ⟨H.H.go c, H.M.chg c (fun h => h), H.nim, H.lo, H.cc.trans c⟩
theorem Onm.upH (H : Onm W w h im N N' n T D) (hA : Wh w' h N2 64 n2 T') (c : Chg h.fp w w') : Onm W w' h im N2 N' n2 T' D :=
  ⟨hA, H.M.chg c H.nim, H.nim, H.lo, (H.cc.none.trans (c.mono (F' := fun k => W.heap.size ≤ k) fun k _ hk => H.lo k (.inl hk))).mono fun k hk h => by omega⟩
theorem Onm.upM (H : Onm W w h im N N' n T D) (hM : MI w' im N2 D') (c : Chg (fun k => k = im) w w') : Onm W w' h im N N2 n T D' :=
  ⟨H.H.chg c fun k hk e => H.nim (e ▸ hk), hM, H.nim, H.lo, (H.cc.none.trans (c.mono (F' := fun k => W.heap.size ≤ k) fun k _ hk => H.lo k (.inr hk))).mono fun k hk h => by omega⟩
end
theorem Onp.set {n : Int} {T D : List (Int × Int)} (h : Onp n T D) {k : Nat} (hk : k ≤ 63) {d : Int} (hd : 1 ≤ d ∧ d ≤ 100) (hn : n = 0) : setF 64 n T k d = (0, mdel T k ++ [((k : Int), n + d)]) ∧ Onp n (mdel T k ++ [((k : Int), n + d)]) (mset D k d) := by
  have h1 := setF_in (n := n) h.ok.nd h.ids hk (d := d) (by omega)
  refine ⟨h1, fun x => ?_, fun p hp => ?_, fun p hp => ?_, ?_⟩
  · rw [mget_set, ← mset_none (mget_mdel_self T k), mget_set, mget_del, h.eq, hn, Int.zero_add]
    by_cases hx : x = k
    · rw [if_pos hx, if_pos hx]
    · rw [if_neg hx, if_neg hx, if_neg hx]
  · rcases List.mem_append.1 hp with hp | hp
    · exact h.ids p (mem_mdel.1 hp).1
    · obtain rfl := List.mem_singleton.1 hp; dsimp only; omega
  · rcases List.mem_append.1 hp with hp | hp
    · exact h.at_ p (mem_mdel.1 hp).1
    · obtain rfl := List.mem_singleton.1 hp; dsimp only; omega
  · have := h.ok.set (k : Int) d; rw [h1] at this; exact this
theorem Onp.del {n : Int} {T D : List (Int × Int)} (h : Onp n T D) (k : Int) : Onp n (mdel T k) (mdel D k) :=
  ⟨fun x => by rw [mget_del, mget_del, h.eq], fun p hp => h.ids p (mem_mdel.1 hp).1, fun p hp => h.at_ p (mem_mdel.1 hp).1, h.ok.del k⟩
theorem mget_fold : ∀ (ds : List Int) (D : List (Int × Int)) (x : Int), mget (ds.foldl mdel D) x = if x ∈ ds then none else mget D x
  | [], D, x => by simp
  | d :: ds, D, x => by
    rw [List.foldl_cons, mget_fold ds, mget_del]
    by_cases h1 : x ∈ ds
    · simp [h1]
    · by_cases h2 : x = d <;> simp [h1, h2]
theorem Onp.tick {n : Int} {T D : List (Int × Int)} (h : Onp n T D) {ds : List Int} (hd : Due T (n + 1) ds) : Onp (n + 1) (tickT T (n + 1)) (ds.foldl mdel D) := by
  refine ⟨fun x => ?_, fun p hp => h.ids p (List.mem_filter.1 hp).1, fun p hp => h.at_ p (List.mem_filter.1 hp).1, h.ok.tick⟩
  have hm := mget_filter h.ok.nd (fun v => decide (¬ v = n + 1)) x
  rw [mget_fold, h.eq]
  show _ = mget (tickT T (n + 1)) x
  unfold tickT
  rw [hm]
  by_cases hx : x ∈ ds
  · rw [if_pos hx, (hd.mem x).1 hx, Option.filter_some, decide_eq_false (by simp)]; rfl
  · rw [if_neg hx]
    cases hg : mget T x with
    | none => rfl
    | some v =>
      have : ¬ v = n + 1 := fun e => hx ((hd.mem x).2 (by rw [hg, e]))
      rw [Option.filter_some, decide_eq_true this]; rfl

set_option maxHeartbeats 1000000 in
set_option maxRecDepth 20000 in
theorem once_law {W : World} (x1 : Nat) {p : Option Addr} {l c : Nat} (hlc : l ≤ c) {C : List (List Value)} (hC : Cam W 1 p l C) (hb : ∀ cs ∈ C, ∃ n : Nat, cs = [.int .u16 n] ∧ n < 65536)
    {p2 : Option Addr} {l2 c2 : Nat} (hlc2 : l2 ≤ c2) {C2 : List (List Value)} (hC2 : Cam W 1 p2 l2 C2) (hb2 : ∀ cs ∈ C2, ∃ n : Nat, cs = [.int .u8 n] ∧ n < 256) {K : Value → World → Prop}
    (hk : ∀ w', Chg (fun _ => False) W w' → K (.bool true) w') : callV Try.prog 4 #[.int .u8 x1, .slice p l c, .slice p2 l2 c2] W K := by
  refine ok4 ?_
  unfold S4
  have e1 : IntKind.wrap .i64 (1 + IntKind.wrap .i64 (Int.tmod (x1 : Int) 40)) = ((1 + x1 % 40 : Nat) : Int) := by
    rw [Int.tmod_eq_emod_of_nonneg (by omega), wrap64_id (n := (x1 : Int) % 40) (by omega) (by omega), wrap64_id (by omega) (by omega)]; omega
  rw [e1]
  refine callQ_chg (new_call (S := 1 + x1 % 40) (m := 64) (by omega) (by omega) (by omega) (by omega) fun w1 h H hS hfp c1 => ⟨c1, _, _, rfl, ?_⟩)
  rw [show ((0 : Int) != 0) = false from rfl, br_false]
  refine make_rule (ek := iv) (ev := iv) fun w2 hm c2' hs2 => ⟨_, rfl, ?_⟩
  generalize him : w1.heap.size = im at *
  have hs1 := c1.size
  have onm : Onm W w2 h im 0 0 0 [] [] := ⟨H.go c2', hm, fun hf => by have := H.lt hf; omega, fun k hk => by
    rcases hk with hk | hk
    · exact hfp k hk
    · omega, c1.trans c2'⟩
  have onp : Onp 0 [] [] := ⟨fun _ => rfl, by simp, by simp, by simp, by simp, by simp⟩
  clear H hm c2' hs2 him hfp hS c1 hs1 e1
  obtain ⟨M, hM, hM1, hM2, _⟩ := min_nat 50 l
  have hM : (if (50 : Int) < (l : Int) then 50 else (l : Int)) = M := hM
  rw [hM]
  refine slc_pre hM1 hlc ?_
  have hCM := Cam.prefix hC M hM1
  -- set
  refine ⟨fun m x w' => ∃ (i : Nat) (N N' : Nat) (T D : List (Int × Int)), x = i ∧ i ≤ M ∧ m = M - i ∧ N ≤ i ∧ Onm W w' h im N N' 0 T D ∧ Onp 0 T D, ⟨M, 0, 0, 0, [], [], rfl, by omega, rfl, by omega, onm, onp⟩, ?_⟩
  clear onm onp
  rintro m x w3 ⟨i, N, N', T, D, rfl, hi, hm, hN, onm, onp⟩
  refine br_of (fun hlt => ?_) (fun hge => ?_)
  · have hlt : i < M := by have := of_decide_eq_true hlt; omega
    obtain ⟨cs, ad, _, hmem, _, hp, _, hcell⟩ := (hCM.chg onm.cc fun _ _ _ => id).at_ hlt
    obtain ⟨n, rfl, hn⟩ := hb cs (List.mem_of_mem_take hmem)
    subst hp
    refine ⟨by omega, by omega, ?_⟩
    rw [need_some, Int.toNat_natCast]
    refine ⟨_, by have := hcell 0 (by omega); rw [add_zero] at this; exact this, ?_⟩
    have e1 : IntKind.wrap .i64 (Int.tmod (n : Int) 64) = ((n % 64 : Nat) : Int) := by rw [Int.tmod_eq_emod_of_nonneg (by omega), wrap64_id (by omega) (by omega)]; omega
    obtain ⟨d, e2, hd1, hd2⟩ : ∃ d : Int, IntKind.wrap .i64 (1 + (Int.tmod (IntKind.wrap .i64 (IntKind.wrap .u16 (Int.tdiv (n : Int) 64))) 100)) = d ∧ 1 ≤ d ∧ d ≤ 100 := by
      rw [Int.tdiv_eq_ediv_of_nonneg (by omega), wrapU16_id (by omega) (by omega), wrap64_id (n := (n : Int) / 64) (by omega) (by omega), Int.tmod_eq_emod_of_nonneg (by omega), wrap64_id (by omega) (by omega)]
      exact ⟨_, rfl, by omega, by omega⟩
    rw [e1, e2]
    obtain ⟨hF, onp'⟩ := onp.set (k := n % 64) (by omega) ⟨hd1, hd2⟩ rfl
    refine setF_call onm.H (by omega) _ d fun w4 H4 c4 => ?_
    rw [hF] at H4 ⊢
    have onm4 := onm.upH H4 c4
    refine ⟨_, rfl, ?_⟩
    rw [show (((0 : Int), mdel T ((n % 64 : Nat) : Int) ++ [(((n % 64 : Nat) : Int), 0 + d)]).1 != 0) = false from rfl, br_false]
    refine update_rule und50 key3 onm4.M fun w5 h5 c5 => ?_
    exact ⟨M - (i + 1), by omega, i + 1, N + 1, _, _, _, by rw [wrap64_id (by omega) (by omega)]; omega, by omega, rfl, by omega, onm4.upM h5 c5, onp'⟩
  clear hCM hge hM hM1 hm
  obtain ⟨M2, hM, hM1, hM3, _⟩ := min_nat 50 l2
  have hM : (if (50 : Int) < (l2 : Int) then 50 else (l2 : Int)) = M2 := hM
  rw [hM]
  refine slc_pre hM1 hlc2 ?_
  have hCM := Cam.prefix hC2 M2 hM1
  -- cancel
  refine ⟨fun m x w' => ∃ (i : Nat) (T D : List (Int × Int)), x = i ∧ i ≤ M2 ∧ m = M2 - i ∧ Onm W w' h im N N' 0 T D ∧ Onp 0 T D, ⟨M2, 0, T, D, rfl, by omega, rfl, onm, onp⟩, ?_⟩
  clear onm onp T D w3
  rintro m x w3 ⟨i, T, D, rfl, hi2, hm, onm, onp⟩
  refine br_of (fun hlt => ?_) (fun hge => ?_)
  · have hlt : i < M2 := by have := of_decide_eq_true hlt; omega
    obtain ⟨cs, ad, _, hmem, _, hp, _, hcell⟩ := (hCM.chg onm.cc fun _ _ _ => id).at_ hlt
    obtain ⟨n, rfl, hn⟩ := hb2 cs (List.mem_of_mem_take hmem)
    subst hp
    refine ⟨by omega, by omega, ?_⟩
    rw [need_some, Int.toNat_natCast]
    refine ⟨_, by have := hcell 0 (by omega); rw [add_zero] at this; exact this, ?_⟩
    have e1 : IntKind.wrap .i64 (Int.tmod (n : Int) 64) = ((n % 64 : Nat) : Int) := by rw [Int.tmod_eq_emod_of_nonneg (by omega), wrap64_id (by omega) (by omega)]; omega
    rw [e1]
    refine lookup_rule und50 key3 zero3 onm.M ?_
    rw [if_pos rfl]
    refine ⟨_, _, rfl, cancel_call onm.H _ fun w4 H4 c4 => ⟨_, rfl, ?_⟩⟩
    rw [onp.eq, beq_self_eq_true, Bool.not_true, br_false]
    have onm4 := onm.upH H4 c4
    refine delete_rule und50 key3 onm4.M fun w5 h5 c5 => ⟨rfl, ?_⟩
    exact ⟨M2 - (i + 1), by omega, i + 1, _, _, by rw [wrap64_id (by omega) (by omega)]; omega, by omega, rfl, onm4.upM h5 c5, onp.del _⟩
  clear hCM hge hM hM1 hm
  -- ticks
  refine ⟨fun m x w' => ∃ (i : Nat) (T D : List (Int × Int)), x = ((i : Int) + 1) ∧ i ≤ 300 ∧ m = 300 - i ∧ Onm W w' h im N N' i T D ∧ Onp i T D, ⟨300, 0, T, D, by omega, by omega, by omega, onm, onp⟩, ?_⟩
  clear onm onp T D w3
  intro m x w3 hJ0
  obtain ⟨t, T, D, hx, ht, hm, onm, onp⟩ := hJ0
  subst hx
  unfold B4_4
  refine br_of (fun hlt => ?_) (fun hge => ?_)
  · have hlt : t < 300 := by have := of_decide_eq_true hlt; omega
    have hln := onp.ok.ln
    refine tickO_call onm.H onp.ok (by omega) (by omega) fun w4 p4 n4 ds hd4 o4 hf4 H4 c4 => ⟨_, _, _, rfl, ?_⟩
    have onm4 := onm.upH H4 c4
    have hl4 := o4.len
    have hl5 := hd4.len
    have hn4 : ∀ k, inB p4 k → k ≠ im := fun k hk e => by have := hf4 k hk; have := onm.M.lt; omega
    have hne0 : ∀ x ∈ ds, 0 ≤ x := fun x hx => by
      have := onp.ids _ (mget_some ((hd4.mem x).1 hx)); omega
    refine ⟨fun m y x w' => ∃ (i : Nat), x = i ∧ i ≤ n4 ∧ m = n4 - i ∧ (∀ z, ds[i]? = some z → y < z) ∧ Onm W w' h im N N' (t + 1) (tickT T (t + 1)) ((ds.take i).foldl mdel D) ∧ ON w' p4 n4 n4 ds, ⟨n4, 0, rfl, by omega, rfl, fun z hz => ?_, onm4, o4⟩, ?_⟩
    · have := hne0 z (List.mem_of_getElem? hz); omega
    rintro m y x w5 ⟨i, rfl, hi, hm, hy, onm5, o5⟩
    refine br_of (fun hlt => ?_) (fun hge => ?_)
    · have hlt : i < n4 := by have := of_decide_eq_true hlt; omega
      obtain ⟨z, g, o, hz, hp, hcell⟩ := OwnE.get o5 hlt
      subst hp
      have hzm := List.mem_of_getElem? hz
      have hnd : ds.Nodup := hd4.st.imp fun h => by omega
      have hnot : z ∉ ds.take i := fun hmem => by
        obtain ⟨j, hj⟩ := List.mem_iff_getElem?.1 hmem
        have hjl : j < (ds.take i).length := (List.getElem?_eq_some_iff.1 hj).1
        rw [List.length_take] at hjl
        rw [List.getElem?_take_of_lt (by omega)] at hj
        have := (List.getElem?_inj (by omega) hnd).1 (hj.trans hz.symm)
        omega
      have hg : mget ((ds.take i).foldl mdel D) z = some ((t : Int) + 1) := by
        rw [mget_fold, if_neg hnot, onp.eq]; exact (hd4.mem z).1 hzm
      refine idx_rule (by omega) (by omega) ⟨z, by rw [Int.toNat_natCast]; exact hcell, lookup_rule und50 key3 zero3 onm5.M ?_⟩
      rw [if_pos rfl, hg]
      refine ⟨_, _, rfl, ?_⟩
      rw [Option.isSome_some, Bool.not_true, br_false, Option.getD_some, bne_self_eq_false, br_false, decide_eq_false (by have := hy z hz; omega), br_false]
      refine delete_rule und50 key3 onm5.M fun w6 h6 c6 => ⟨rfl, ?_⟩
      refine ⟨n4 - (i + 1), by omega, i + 1, by rw [wrap64_id (by omega) (by omega)]; omega, by omega, rfl, fun z' hz' => ?_, ?_, Own.chg o5 c6 hn4⟩
      · have h1 := List.pairwise_iff_getElem.1 hd4.st i (i + 1) (by omega) ((List.getElem?_eq_some_iff.1 hz').1) (by omega)
        rw [(List.getElem?_eq_some_iff.1 hz').2, (List.getElem?_eq_some_iff.1 hz).2] at h1
        exact h1
      · rw [List.take_add_one, hz, Option.toList_some, List.foldl_append]
        exact onm5.upM h6 c6
    · have hge : i = n4 := by have := of_decide_eq_false hge; omega
      subst hge
      rw [List.take_of_length_le (by omega)] at onm5
      have onp5 := onp.tick hd4
      refine range_rule und50 onm5.M fun w6 cnt it6 c6 hs6 => ?_
      generalize hr : w5.heap.size = r at *
      have onm6 := onm5.go c6
      have hrf : ∀ k, h.fp k ∨ k = im → k ≠ r := fun k hk e => by
        rcases hk with hk | hk
        · have := onm5.H.lt hk; omega
        · have := onm5.M.lt; omega
      refine ⟨fun m w' => Itr iv iv w' r im N' m ((ds.foldl mdel D)) ∧ Onm W w' h im N N' (t + 1) (tickT T (t + 1)) (ds.foldl mdel D), ⟨cnt, it6, onm6⟩, ?_⟩
      rintro m w7 ⟨it7, onm7⟩
      refine jn_rule (fun J => (J false w7) ∧ ∀ (p : Int × Int) w' m', p ∈ ds.foldl mdel D → m' < m → Itr iv iv w' r im N' m' (ds.foldl mdel D) → Onm W w' h im N N' (t + 1) (tickT T (t + 1)) (ds.foldl mdel D) → (∀ Q : Value → World → Prop, Q (.tuple #[iv p.1, iv p.2]) w' → runV Try.prog (Instr.entry (.pointer (some ⟨r, 0, none⟩))) w' Q) → J true w') ⟨?_, fun p w' m' hp hm' it' onm' hent => ?_⟩ fun J79 hJ => ?_
      · rw [br_false]
        exact ⟨300 - (t + 1), by omega, t + 1, _, _, by rw [wrap64_id (by omega) (by omega)]; omega, by omega, rfl, onm7, onp5⟩
      · rw [br_true]
        refine hent _ ⟨_, _, rfl, ?_⟩
        have hget := mget_of_mem onm'.M.nodup hp
        rw [onp5.eq] at hget
        have := onp5.ok.ah _ (mget_some hget)
        rw [decide_eq_false (by dsimp only at this; omega), br_false]
        exact ⟨m', hm', it', onm'⟩
      · refine next_rule it7 (fun _ => hJ.1) fun run p w8 m' hp hm' it8 c8 hent hrun => ⟨_, _, w8, hrun, hJ.2 p w8 m' hp hm' it8 ?_ hent⟩
        exact ⟨onm7.H.chg c8 fun k hk e => hrf k (.inl hk) e, it8.map, onm7.nim, onm7.lo, (onm7.cc.none.trans (c8.mono (F' := fun k => W.heap.size ≤ k) fun k _ hk => by have := onm5.cc.size; omega)).mono fun k hk h => by omega⟩
  · have hge : t = 300 := by have := of_decide_eq_false hge; omega
    subst hge
    have hT : T = [] := by
      cases T with
      | nil => rfl
      | cons p T =>
        have h1 := onp.ok.ah p (by simp)
        have h2 := onp.at_ p (by simp)
        omega
    subst hT
    have hD : D = [] := by
      cases D with
      | nil => rfl
      | cons p D =>
        have := onp.eq p.1
        rw [mget_nil, mget_none] at this
        exact absurd (by simp) this
    subst hD
    refine callQ_chg (len_call onm.H ⟨Chg.refl _ _, _, rfl, ?_⟩)
    rw [show (((([] : List (Int × Int)).length : Int)) == 0) = true from rfl, br_true]
    refine len_rule und50 onm.M ⟨_, rfl, ?_⟩
    rw [show (((([] : List (Int × Int)).length : Int)) == 0) = true from rfl, br_true]
    refine callQ_chg (now_call onm.H ⟨Chg.refl _ _, _, rfl, ?_⟩)
    rw [show ((((300 : Nat) : Int)) == 300) = true from rfl, br_true]
    exact awake_call fun w4 c4 => ⟨_, rfl, hk w4 (onm.cc.trans c4)⟩
end Go.Proofs.Ytibalkkiefgljaa
