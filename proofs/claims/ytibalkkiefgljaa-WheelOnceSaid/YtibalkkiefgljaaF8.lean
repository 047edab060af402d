/- A slice of numbers one further; the even timers. -/
import Derived.Test.YtibalkkiefgljaaF7
namespace Go.Proofs.Ytibalkkiefgljaa
open Go Go.Sh

theorem app_int {w : World} {p : Option Addr} {n c : Nat} {xs : List Int} (h : ON w p n c xs) (x : Int) (hn : n < 1000000) {K : Value → World → Prop}
    (hk : ∀ w' p' c', ON w' p' (n + 1) c' (xs ++ [x]) → (∀ k, inB p' k → inB p k ∨ w.heap.size ≤ k) → Chg (inB p) w w' → K (.slice p' (n + 1) c') w') :
    al w (.cells #[iv x] 3) fun r w => runV Try.prog (Builtin.append_ #[39, 39] 39 #[.slice p n c, .slice (some ⟨r, 0, none⟩) 1 1]) w K := by
  refine al_abs fun r w1 hr hb c1 hs => ?_
  obtain ⟨i, hi, hs1, hby, hz⟩ := info3
  have hsrc : Own w1 1 3 (some ⟨r, 0, none⟩) 1 1 [iv x] := Own.of_blk hb rfl (by simp [Value.oneCell'])
  have h1 : Own w1 1 3 p n c (xs.map iv) := Own.chg h c1 fun _ _ => id
  refine append_own (P := Try.prog) und39 hi hz (by rw [hs1]; rfl) (by simp [Value.cells, Value.oneCell']) (by omega) (by rw [hs1]; exact h1) (by rw [hs1]; exact hsrc.src und39) (by rw [hby]; omega) (by omega) fun w2 p2 c2 ho hf cc => ?_
  rw [hs1] at ho
  refine hk w2 p2 c2 ?_ (fun k hk => (hf k hk).imp id fun h => by omega) (c1.none.trans cc)
  unfold ON OwnE
  rw [List.map_append]; exact ho

theorem nodup_le : ∀ {l m : List Int}, l.Pairwise (· ≠ ·) → (∀ x ∈ l, x ∈ m) → l.length ≤ m.length
  | [], _, _, _ => Nat.zero_le _
  | a :: l, m, h, hs => by
    have hm := hs a (by simp)
    have := nodup_le (l := l) (m := m.erase a) (List.pairwise_cons.1 h).2 fun x hx => (List.mem_erase_of_ne fun e => (List.pairwise_cons.1 h).1 x hx e.symm).2 (hs x (by simp [hx]))
    rw [List.length_erase_of_mem hm] at this
    have := List.length_pos_of_mem hm
    rw [List.length_cons]; omega
theorem Due.len {T : List (Int × Int)} {n : Int} {ds : List Int} (h : Due T n ds) : ds.length ≤ T.length := by
  have := nodup_le (m := T.map (·.1)) (h.st.imp fun h => by omega) fun x hx => List.mem_map.2 ⟨(x, _), mget_some ((h.mem x).1 hx), rfl⟩
  simpa using this

def evB (x : Int) : Bool := Int.tmod x 2 == 0
def evT (T : List (Int × Int)) : List (Int × Int) := T.filter fun p => evB p.1
theorem mget_evT (T : List (Int × Int)) (id : Int) : mget (evT T) id = if evB id then mget T id else none := by
  induction T with
  | nil => unfold evT; rw [List.filter_nil, mget_nil]; split <;> rfl
  | cons p T ih =>
    obtain ⟨a, v⟩ := p
    unfold evT at ih ⊢
    rw [List.filter_cons, mget_cons]
    dsimp only
    by_cases ha : evB a = true
    · rw [if_pos ha, mget_cons, ih]
      by_cases e : a = id
      · subst e; rw [if_pos rfl, if_pos rfl, if_pos ha]
      · rw [if_neg e, if_neg e]
    · rw [if_neg ha, ih]
      by_cases e : a = id
      · subst e; rw [if_neg ha, if_neg ha]
      · rw [if_neg e]
theorem evT_mdel (T : List (Int × Int)) (id : Int) : evT (mdel T id) = mdel (evT T) id := (mdel_filter T _ id).symm
theorem evT_mdel_odd (T : List (Int × Int)) {id : Int} (h : evB id = false) : evT (mdel T id) = evT T := by
  rw [evT_mdel, mdel_none]
  rw [mget_evT, h]; rfl
theorem evT_app (T : List (Int × Int)) (id d : Int) : evT (T ++ [(id, d)]) = evT T ++ if evB id then [(id, d)] else [] := by
  unfold evT
  rw [List.filter_append, List.filter_cons, List.filter_nil]
theorem evT_tick (T : List (Int × Int)) (n : Int) : evT (tickT T n) = tickT (evT T) n := by
  unfold evT tickT
  rw [List.filter_filter, List.filter_filter]
  congr 1; funext p; rw [Bool.and_comm]
theorem evT_len (T : List (Int × Int)) : (evT T).length ≤ T.length := List.length_filter_le _ _
theorem Ok.ev {most now : Int} {T : List (Int × Int)} (h : Ok most now T) : Ok most now (evT T) :=
  ⟨fun p hp => h.ah p (List.mem_filter.1 hp).1, by have := h.ln; have := evT_len T; omega, h.nd.sublist (List.Sublist.map _ List.filter_sublist)⟩
theorem Due.ev {T : List (Int × Int)} {n : Int} {ds : List Int} (h : Due T n ds) : Due (evT T) n (ds.filter evB) := by
  refine ⟨h.st.filter _, fun x => ?_⟩
  rw [List.mem_filter, mget_evT, h.mem]
  by_cases hx : evB x = true <;> simp [hx]

theorem and_le (a m : Int) (M : Nat) (h : (BitVec.ofInt 64 m).toNat = M) (hM : M < 4000000000000000000) : ∃ k : Nat, IntKind.wrap .i64 (((BitVec.ofInt 64 a &&& BitVec.ofInt 64 m).toNat : Nat) : Int) = k ∧ k ≤ M := by
  have h : (BitVec.ofInt 64 a &&& BitVec.ofInt 64 m).toNat ≤ M := by
    rw [BitVec.toNat_and, h]
    exact Nat.and_le_right
  exact ⟨_, wrap64_id (by omega) (by omega), h⟩
end Go.Proofs.Ytibalkkiefgljaa
