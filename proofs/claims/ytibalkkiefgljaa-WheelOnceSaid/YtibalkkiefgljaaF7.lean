/- Set and Tick as plain steps; two wheels. -/
import Derived.Test.YtibalkkiefgljaaF6
namespace Go.Proofs.Ytibalkkiefgljaa
open Go Go.Sh

def badA (id after : Int) : Prop := id < 0 ∨ id > 1023 ∨ after < 1 ∨ after > 1099511627776
instance (id after : Int) : Decidable (badA id after) := by unfold badA; infer_instance
/-- What Set answers, and which timers there are then. -/
def setF (most now : Int) (T : List (Int × Int)) (id after : Int) : Int × List (Int × Int) :=
  if badA id after then (2, T) else if mget T id = none ∧ most ≤ T.length then (5, T) else (0, mdel T id ++ [(id, now + after)])
theorem setF_call {w : World} {h : WH} {N : Nat} {most now : Int} {T : List (Int × Int)} (H : Wh w h N most now T) (hN : N < 9000000000000000000) (id after : Int) {K : Value → World → Prop}
    (hk : ∀ w', Wh w' h (N + 1) most now (setF most now T id after).2 → Chg h.fp w w' → K (iv (setF most now T id after).1) w') : callV Try.prog 12 #[ptr h.b, iv id, iv after] w K := by
  refine set_call H hN id after (fun hb => ?_) (fun hb hn hl w' c => ?_) (fun hb hr w' H' c => ?_)
  · have : setF most now T id after = (2, T) := by unfold setF; rw [if_pos (show badA id after from hb)]
    rw [this] at hk
    exact hk w (H.mono (Nat.le_succ N)) (Chg.refl _ _)
  · have : setF most now T id after = (5, T) := by unfold setF; rw [if_neg (show ¬ badA id after from hb), if_pos ⟨hn, hl⟩]
    rw [this] at hk
    exact hk w' ((H.go c).mono (Nat.le_succ N)) c.none
  · have : setF most now T id after = (0, mdel T id ++ [(id, now + after)]) := by
      unfold setF; rw [if_neg (show ¬ badA id after from hb), if_neg]
      rintro ⟨h1, h2⟩
      rcases hr with hr | hr
      · rw [h1] at hr; cases hr
      · omega
    rw [this] at hk
    exact hk w' H' c

/-- Timers are ahead; not more than there is room for. -/
structure Ok (most now : Int) (T : List (Int × Int)) : Prop where
  ah : ∀ p ∈ T, now < p.2
  ln : (T.length : Int) ≤ most
  nd : (T.map (·.1)).Nodup
theorem mdel_le (T : List (Int × Int)) (id : Int) : (mdel T id).length ≤ T.length := List.length_filter_le _ _
theorem Ok.del {most now : Int} {T : List (Int × Int)} (h : Ok most now T) (id : Int) : Ok most now (mdel T id) :=
  ⟨fun p hp => h.ah p (mem_mdel.1 hp).1, by have := mdel_le T id; have := h.ln; omega, mdel_nodup h.nd id⟩
theorem Ok.set {most now : Int} {T : List (Int × Int)} (h : Ok most now T) (id after : Int) : Ok most now (setF most now T id after).2 := by
  unfold setF
  split
  · exact h
  · rename_i hb
    split
    · exact h
    · rename_i hr
      have hl := mdel_len h.nd id
      refine ⟨fun p hp => ?_, ?_, ?_⟩
      · rcases List.mem_append.1 hp with hp | hp
        · exact (h.del id).ah p hp
        · simp at hp; subst hp; unfold badA at hb; dsimp only; omega
      · have := h.ln
        rw [List.length_append, List.length_singleton]
        cases hg : mget T id with
        | none =>
          rw [hg] at hl hr
          simp at hl hr
          omega
        | some d => rw [hg] at hl; simp at hl; omega
      · rw [List.map_append, List.nodup_append]
        refine ⟨(h.del id).nd, by simp, fun a ha b hb => ?_⟩
        simp at hb; subst hb
        intro e; subst e
        exact mget_none.1 (mget_mdel_self T a) ha
def tickT (T : List (Int × Int)) (n : Int) : List (Int × Int) := T.filter fun p => decide (¬ p.2 = n)
theorem Ok.tick {most now : Int} {T : List (Int × Int)} (h : Ok most now T) : Ok most (now + 1) (tickT T (now + 1)) := by
  refine ⟨fun p hp => ?_, ?_, h.nd.sublist (List.Sublist.map _ List.filter_sublist)⟩
  · obtain ⟨h1, h2⟩ := List.mem_filter.1 hp
    have := h.ah p h1
    simp at h2
    omega
  · have : (tickT T (now + 1)).length ≤ T.length := List.length_filter_le _ _
    have := h.ln; omega
/-- Which ones are due at n. -/
structure Due (T : List (Int × Int)) (n : Int) (ds : List Int) : Prop where
  st : ds.Pairwise (· < ·)
  mem : ∀ x, x ∈ ds ↔ mget T x = some n
theorem Due.eq {T : List (Int × Int)} {n : Int} {ds es : List Int} (h : Due T n ds) (k : Due T n es) : ds = es := strict_ext h.st k.st fun x => by rw [h.mem, k.mem]

theorem tickO_call {w : World} {h : WH} {N : Nat} {most now : Int} {T : List (Int × Int)} (H : Wh w h N most now T) (ok : Ok most now T) (hm : most ≤ 1024) (hn : now < 1000000000000000000) {K : Value → World → Prop}
    (hk : ∀ w' p n ds, Due T (now + 1) ds → ON w' p n n ds → (∀ k, inB p k → w.heap.size ≤ k) → Wh w' h N most (now + 1) (tickT T (now + 1)) → Chg h.fp w w' → K (.slice p n n) w') : callV Try.prog 17 #[ptr h.b] w K :=
  tick_call H ok.ah hn (by have := ok.ln; omega) fun w' p n ds h1 h2 h3 h4 h5 h6 => hk w' p n ds ⟨h1, h2⟩ h3 h4 h5 h6

/-- Two wheels, made behind W. -/
structure Two (W w : World) (a b : WH) (Na Nb : Nat) (ma mb na nb : Int) (S T : List (Int × Int)) : Prop where
  A : Wh w a Na ma na S
  B : Wh w b Nb mb nb T
  dis : ∀ k, a.fp k → ¬ b.fp k
  lo : ∀ k, a.fp k ∨ b.fp k → W.heap.size ≤ k
  cc : Chg (fun _ => False) W w
theorem Two.go {W w w' : World} {a b : WH} {Na Nb : Nat} {ma mb na nb : Int} {S T : List (Int × Int)} (h : Two W w a b Na Nb ma mb na nb S T) (c : Chg (fun _ => False) w w') : Two W w' a b Na Nb ma mb na nb S T :=
  ⟨h.A.go c, h.B.go c, h.dis, h.lo, h.cc.trans c⟩
theorem Two.upA {W w w' : World} {a b : WH} {Na Nb Na' : Nat} {ma mb na nb na' : Int} {S S' T : List (Int × Int)} (h : Two W w a b Na Nb ma mb na nb S T) (hA : Wh w' a Na' ma na' S') (c : Chg a.fp w w') : Two W w' a b Na' Nb ma mb na' nb S' T :=
  ⟨hA, h.B.chg c fun k hk hk2 => h.dis k hk2 hk, h.dis, h.lo, (h.cc.none.trans (c.mono (F' := fun k => W.heap.size ≤ k) fun k _ hk => h.lo k (.inl hk))).mono fun k hk h => by omega⟩
theorem Two.upB {W w w' : World} {a b : WH} {Na Nb Nb' : Nat} {ma mb na nb nb' : Int} {S T T' : List (Int × Int)} (h : Two W w a b Na Nb ma mb na nb S T) (hB : Wh w' b Nb' mb nb' T') (c : Chg b.fp w w') : Two W w' a b Na Nb' ma mb na nb' S T' :=
  ⟨h.A.chg c fun k hk hk2 => h.dis k hk hk2, hB, h.dis, h.lo, (h.cc.none.trans (c.mono (F' := fun k => W.heap.size ≤ k) fun k _ hk => h.lo k (.inr hk))).mono fun k hk h => by omega⟩
theorem Two.keep {W w w' : World} {a b : WH} {Na Nb : Nat} {ma mb na nb : Int} {S T : List (Int × Int)} (h : Two W w a b Na Nb ma mb na nb S T) {r : Nat} {cs : List Value} {ty : TypeId} (hr : Blk w r cs ty) (hnr : ¬ a.fp r ∧ ¬ b.fp r) {F : Nat → Prop} (c : Chg F w w') (hF : (∀ k, F k → a.fp k) ∨ (∀ k, F k → b.fp k)) : Blk w' r cs ty :=
  c.blk hr fun hf => hF.elim (fun g => hnr.1 (g _ hf)) (fun g => hnr.2 (g _ hf))

theorem two_new {W : World} {s1 s2 : Nat} {m1 m2 : Int} (h1 : 1 ≤ s1 ∧ s1 ≤ 1024) (h2 : 1 ≤ s2 ∧ s2 ≤ 1024) (h3 : 0 ≤ m1 ∧ m1 ≤ 1024) (h4 : 0 ≤ m2 ∧ m2 ≤ 1024) {K : WH → WH → World → Prop}
    (hk : ∀ w a b, Two W w a b 0 0 m1 m2 0 0 [] [] → K a b w) :
    callQ Try.prog 9 #[iv s1, iv m1] W fun v w => ∃ a : WH, v = .tuple #[ptr a.b, iv 0] ∧ callQ Try.prog 9 #[iv s2, iv m2] w fun v w => ∃ b : WH, v = .tuple #[ptr b.b, iv 0] ∧ K a b w :=
  callQ_chg (new_call h1.1 h1.2 h3.1 h3.2 fun w1 a HA _ hfa c1 => ⟨c1, a, rfl, callQ_chg (new_call h2.1 h2.2 h4.1 h4.2 fun w2 b HB _ hfb c2 => ⟨c2, b, rfl,
    hk w2 a b ⟨HA.go c2, HB, fun k hka hkb => by have := HA.lt hka; have := hfb k hkb; omega, fun k hk => by
      have := c1.size
      rcases hk with hk | hk
      · exact hfa k hk
      · have := hfb k hk; omega, c1.trans c2⟩⟩)⟩)
end Go.Proofs.Ytibalkkiefgljaa
