/- Maps, block by block: what a map holds, as a list of keys and values; looking up, setting, deleting. -/
import Derived.Test.YtibalkkiefgljaaMem
import Derived.MapKept
namespace Go.Sh
open Go Go.Rg

/-! Lists of keys and values. -/
section
variable {K V : Type} [DecidableEq K]
def mget (m : List (K × V)) (k : K) : Option V := (m.find? fun p => p.1 = k).map (·.2)
def mdel (m : List (K × V)) (k : K) : List (K × V) := m.filter fun p => ¬ p.1 = k
def mset (m : List (K × V)) (k : K) (v : V) : List (K × V) := if k ∈ m.map (·.1) then m.map fun p => if p.1 = k then (k, v) else p else m ++ [(k, v)]
theorem mget_nil (k : K) : mget ([] : List (K × V)) k = none := rfl
theorem mget_some {m : List (K × V)} {k : K} {v : V} (h : mget m k = some v) : (k, v) ∈ m := by
  unfold mget at h
  cases hf : m.find? fun p => p.1 = k with
  | none => rw [hf] at h; cases h
  | some p =>
    rw [hf] at h
    have h1 := List.find?_some hf
    have h2 := List.mem_of_find?_eq_some hf
    simp at h h1
    subst h1; subst h; exact h2
theorem mget_none {m : List (K × V)} {k : K} : mget m k = none ↔ k ∉ m.map (·.1) := by
  unfold mget
  rw [Option.map_eq_none_iff, List.find?_eq_none]
  constructor
  · intro h hm
    obtain ⟨p, hp, he⟩ := List.mem_map.1 hm
    exact h p hp (by simpa using he)
  · intro h p hp he
    exact h (List.mem_map.2 ⟨p, hp, by simpa using he⟩)
theorem mget_of_mem {m : List (K × V)} (hn : (m.map (·.1)).Nodup) {k : K} {v : V} (h : (k, v) ∈ m) : mget m k = some v := by
  induction m with
  | nil => cases h
  | cons p m ih =>
    rw [List.map_cons, List.nodup_cons] at hn
    unfold mget
    rw [List.find?_cons]
    by_cases hk : p.1 = k
    · rcases List.mem_cons.1 h with h1 | h1
      · subst h1; simp
      · exact absurd (List.mem_map.2 ⟨_, h1, hk.symm⟩) hn.1
    · simp only [hk, decide_false]
      rcases List.mem_cons.1 h with h1 | h1
      · subst h1; exact absurd rfl hk
      · exact ih hn.2 h1
theorem mget_set (m : List (K × V)) (k k' : K) (v : V) : mget (mset m k v) k' = if k' = k then some v else mget m k' := by
  unfold mset
  split
  · rename_i hk
    induction m with
    | nil => cases hk
    | cons p m ih =>
      have step : mget (List.map (fun p => if p.1 = k then (k, v) else p) (p :: m)) k' = if (if p.1 = k then (k, v) else p).1 = k' then some (if p.1 = k then (k, v) else p).2 else mget (List.map (fun p => if p.1 = k then (k, v) else p) m) k' := by
        unfold mget
        rw [List.map_cons, List.find?_cons]
        split <;> simp_all
      have step0 : mget (p :: m) k' = if p.1 = k' then some p.2 else mget m k' := by
        unfold mget
        rw [List.find?_cons]
        split <;> simp_all
      rw [step, step0]
      by_cases hpk : p.1 = k
      · simp only [hpk, if_true]
        by_cases hkk : k = k'
        · simp [hkk]
        · rw [if_neg hkk, if_neg (Ne.symm hkk)]
          by_cases hm : k ∈ m.map (·.1)
          · rw [ih hm, if_neg (Ne.symm hkk), if_neg hkk]
          · have : List.map (fun p => if p.1 = k then (k, v) else p) m = m := by
              conv => rhs; rw [← List.map_id m]
              exact List.map_congr_left fun q hq => by rw [if_neg (fun e => hm (List.mem_map.2 ⟨q, hq, e⟩))]; rfl
            rw [this, if_neg hkk]
      · simp only [hpk, if_false]
        have hm : k ∈ m.map (·.1) := by
          rw [List.map_cons] at hk
          rcases List.mem_cons.1 hk with h1 | h1
          · exact absurd h1.symm hpk
          · exact h1
        rw [ih hm]
        by_cases hp' : p.1 = k'
        · rw [if_pos hp', if_pos hp', if_neg]; intro e; exact hpk (hp'.trans e)
        · rw [if_neg hp', if_neg hp']
  · rename_i hk
    unfold mget
    rw [List.find?_append]
    by_cases hkk : k' = k
    · subst hkk
      have : m.find? (fun p => p.1 = k') = none := by
        rw [List.find?_eq_none]; intro p hp he; exact hk (List.mem_map.2 ⟨p, hp, by simpa using he⟩)
      simp [this]
    · rw [if_neg hkk]
      cases hf : m.find? fun p => p.1 = k' with
      | none => simp [Ne.symm hkk]
      | some p => simp
theorem mget_del (m : List (K × V)) (k k' : K) : mget (mdel m k) k' = if k' = k then none else mget m k' := by
  unfold mget mdel
  rw [List.find?_filter]
  by_cases hkk : k' = k
  · subst hkk
    rw [if_pos rfl, Option.map_eq_none_iff, List.find?_eq_none]
    intro p _; simp
  · rw [if_neg hkk]
    congr 2
    funext p
    by_cases hp : p.1 = k'
    · have : ¬ p.1 = k := by intro e; exact hkk (hp.symm.trans e)
      simp [hp, hkk]
    · simp [hp]
theorem mset_keys (m : List (K × V)) (k : K) (v : V) : (mset m k v).map (·.1) = if k ∈ m.map (·.1) then m.map (·.1) else m.map (·.1) ++ [k] := by
  unfold mset
  split
  · rw [List.map_map]
    refine List.map_congr_left fun p _ => ?_
    simp only [Function.comp]
    split
    · rename_i h; exact h.symm
    · rfl
  · simp
theorem mset_nodup {m : List (K × V)} (hn : (m.map (·.1)).Nodup) (k : K) (v : V) : ((mset m k v).map (·.1)).Nodup := by
  rw [mset_keys]
  split
  · exact hn
  · rename_i hk
    rw [List.nodup_append]
    refine ⟨hn, by simp, fun a ha b hb => ?_⟩
    simp at hb; subst hb; intro e; subst e; exact hk ha
theorem mdel_nodup {m : List (K × V)} (hn : (m.map (·.1)).Nodup) (k : K) : ((mdel m k).map (·.1)).Nodup := by
  unfold mdel
  exact hn.sublist (List.Sublist.map _ List.filter_sublist)
theorem mset_len (m : List (K × V)) (k : K) (v : V) : (mset m k v).length = m.length + (if (mget m k).isSome then 0 else 1) := by
  have h := congrArg List.length (mset_keys m k v)
  rw [List.length_map] at h
  rw [h]
  cases hg : mget m k with
  | none => rw [if_neg (mget_none.1 hg)]; simp
  | some x =>
    have : k ∈ m.map (·.1) := List.mem_map.2 ⟨_, mget_some hg, rfl⟩
    rw [if_pos this]; simp
theorem mdel_len {m : List (K × V)} (hn : (m.map (·.1)).Nodup) (k : K) : (mdel m k).length + (if (mget m k).isSome then 1 else 0) = m.length := by
  induction m with
  | nil => rfl
  | cons p m ih =>
    rw [List.map_cons, List.nodup_cons] at hn
    have step0 : mget (p :: m) k = if p.1 = k then some p.2 else mget m k := by
      unfold mget
      rw [List.find?_cons]
      split <;> simp_all
    have ih := ih hn.2
    rw [step0]
    unfold mdel at ih ⊢
    by_cases hp : p.1 = k
    · have : mget m k = none := mget_none.2 (by rw [← hp]; exact hn.1)
      rw [this] at ih
      simp [hp] at ih ⊢
      exact ih
    · simp [hp] at ih ⊢
      omega
theorem mem_mdel {m : List (K × V)} {k : K} {p : K × V} : p ∈ mdel m k ↔ p ∈ m ∧ p.1 ≠ k := by simp [mdel]
end

/-! A map in memory. -/
/-- What a key's type must grant: 'ek': the key's value. -/
structure KeyOk {K : Type} (P : Program) (kt : TypeId) (ek : K → Value) : Prop where
  inj : ∀ k k', ek k = ek k' → k = k'
  check : ∀ (e : Bool) (k : K) (w : World), Reads P (Instr.checkKey e 10000 kt (ek k)) w ()
  find : ∀ (es : List MapEntry) (k : K) (w : World), (∀ e ∈ es, ∃ k', e.key = ek k') → ∃ r, Reads P (Instr.findKey kt (ek k) es) w r ∧ ((r = none ∧ ∀ e ∈ es, e.key ≠ ek k) ∨ ∃ i e, r = some (i, e.val) ∧ es[i]? = some e ∧ e.key = ek k)
  bits : ∀ k, Instr.sameBits 10000 (ek k) (ek k) = true

section
variable {K V : Type} {P : Program} {kt et t : TypeId} {ek : K → Value} {ev : V → Value}

/-- The block b is a map that holds m; at most N entries were ever made in it. -/
structure MapB (ek : K → Value) (ev : V → Value) (w : World) (b N : Nat) (m : List (K × V)) : Prop where
  nodup : (m.map (·.1)).Nodup
  ex : ∃ (es : Array MapEntry) (clock : Nat), w.heap[b]? = some (.map es clock) ∧ es.toList.map (fun e => (e.key, e.val)) = m.map (fun p => (ek p.1, ev p.2)) ∧ (∀ x ∈ es.toList, x.born < clock) ∧ (es.toList.map (·.born)).Nodup ∧ clock ≤ N
theorem MapB.lt {w : World} {b N : Nat} {m : List (K × V)} (h : MapB ek ev w b N m) : b < w.heap.size := by
  obtain ⟨_, es, c, hb, _⟩ := h
  rcases Nat.lt_or_ge b w.heap.size with h' | h'
  · exact h'
  · rw [Array.getElem?_eq_none h'] at hb; cases hb
theorem MapB.chg {w w' : World} {b N : Nat} {m : List (K × V)} {F : Nat → Prop} (h : MapB ek ev w b N m) (hc : Chg F w w') (hF : ¬ F b) : MapB ek ev w' b N m := by
  have hlt := h.lt
  obtain ⟨hn, es, c, hb, h1⟩ := h
  exact ⟨hn, es, c, by rw [hc.block b hlt hF]; exact hb, h1⟩
theorem MapB.mono {w : World} {b N N' : Nat} {m : List (K × V)} (h : MapB ek ev w b N m) (hN : N ≤ N') : MapB ek ev w b N' m := by
  obtain ⟨hn, es, c, hb, h1, h2, h3, h4⟩ := h
  exact ⟨hn, es, c, hb, h1, h2, h3, Nat.le_trans h4 hN⟩
theorem MapB.ne_blk {w : World} {b g N : Nat} {m : List (K × V)} {cs : List Value} {ty : TypeId} (h : MapB ek ev w b N m) (hg : Blk w g cs ty) : b ≠ g := by
  obtain ⟨_, es, c, hb, _⟩ := h
  intro e
  subst e
  unfold Blk at hg
  rw [hb] at hg; cases hg
theorem MapB.ext (hi : ∀ k k', ek k = ek k' → k = k') (hv : ∀ v v', ev v = ev v' → v = v') {w : World} {b N N' : Nat} {m m' : List (K × V)} (h : MapB ek ev w b N m) (h' : MapB ek ev w b N' m') : m = m' := by
  obtain ⟨_, es, c, hb, h1, _⟩ := h
  obtain ⟨_, es', c', hb', h1', _⟩ := h'
  rw [hb] at hb'
  cases hb'
  rw [h1] at h1'
  exact (List.map_inj_right (fun p q hpq => by
    simp only [Prod.mk.injEq] at hpq
    exact Prod.ext (hi _ _ hpq.1) (hv _ _ hpq.2))).1 h1'

theorem getObj_reads {w : World} {b : Nat} {es : Array MapEntry} {c : Nat} (hb : w.heap[b]? = some (.map es c)) : Reads P (getObj b) w (.map es c) := .map hb (.pure _ _)
theorem keys_of {es : Array MapEntry} {m : List (K × V)} (h : es.toList.map (fun e => (e.key, e.val)) = m.map (fun p => (ek p.1, ev p.2))) : ∀ e ∈ es.toList, ∃ k', e.key = ek k' := fun e he => by
  have : (e.key, e.val) ∈ es.toList.map (fun e => (e.key, e.val)) := List.mem_map.2 ⟨e, he, rfl⟩
  rw [h] at this
  obtain ⟨p, _, hp⟩ := List.mem_map.1 this
  exact ⟨p.1, (congrArg (·.1) hp).symm⟩
theorem found [DecidableEq K] (hk : KeyOk P kt ek) {es : Array MapEntry} {m : List (K × V)} (hn : (m.map (·.1)).Nodup) (h : es.toList.map (fun e => (e.key, e.val)) = m.map (fun p => (ek p.1, ev p.2))) (k : K) (w : World) :
    ∃ r, Reads P (Instr.findKey kt (ek k) es.toList) w r ∧ ((r = none ∧ mget m k = none) ∨ ∃ i e v, r = some (i, ev v) ∧ es.toList[i]? = some e ∧ e.key = ek k ∧ e.val = ev v ∧ m[i]? = some (k, v) ∧ mget m k = some v) := by
  obtain ⟨r, hr, hr2⟩ := hk.find es.toList k w (keys_of h)
  refine ⟨r, hr, ?_⟩
  rcases hr2 with ⟨rfl, h0⟩ | ⟨i, e, rfl, hi, he⟩
  · refine .inl ⟨rfl, mget_none.2 fun hm => ?_⟩
    obtain ⟨p, hp, hpk⟩ := List.mem_map.1 hm
    have : (ek p.1, ev p.2) ∈ m.map (fun p => (ek p.1, ev p.2)) := List.mem_map.2 ⟨p, hp, rfl⟩
    rw [← h] at this
    obtain ⟨e, he, hep⟩ := List.mem_map.1 this
    exact h0 e he ((congrArg (·.1) hep).trans (by rw [hpk]))
  · have h1 := congrArg (fun l => l[i]?) h
    simp only [List.getElem?_map, hi, Option.map_some] at h1
    cases hm : m[i]? with
    | none => rw [hm] at h1; cases h1
    | some p =>
      rw [hm] at h1
      simp only [Option.map_some, Option.some.injEq, Prod.mk.injEq] at h1
      have hpk : p.1 = k := hk.inj _ _ (h1.1.symm.trans he)
      obtain ⟨p1, p2⟩ := p
      dsimp only at hpk h1
      subst hpk
      exact .inr ⟨i, e, p2, by rw [h1.2], hi, he, h1.2, hm, mget_of_mem hn (List.mem_of_getElem? hm)⟩

theorem zeroValue_reads {t : TypeId} {z : Value} (h : zeroOf P t = some z) (w : World) : Reads P (zeroValue t) w z := by
  obtain ⟨i, hi, hz⟩ := info_of_zero h
  unfold zeroValue
  refine Reads.bind (Reads.typeInfo hi w) ?_
  rw [hz]; exact .pure _ _

theorem lookup_rule [DecidableEq K] (ht : P.underlying t = some (.map kt et)) (hk : KeyOk P kt ek) {z : V} (hz : zeroOf P et = some (ev z)) {w : World} {b N : Nat} {m : List (K × V)} (h : MapB ek ev w b N m) {k : K} {ok : Bool} {Q : Value → Prop}
    (hq : Q (if ok then .tuple #[ev ((mget m k).getD z), .bool (mget m k).isSome] else ev ((mget m k).getD z))) : rdV P (Instr.lookup t (.map (some b)) (ek k) ok) w Q := by
  obtain ⟨hn, es, c, hb, h1, h2, h3, h4c⟩ := h
  obtain ⟨r, hr, hr2⟩ := found hk hn h1 k w
  refine ⟨_, ?_, hq⟩
  unfold Instr.lookup
  refine Reads.bind (Reads.underlying ht w) ?_
  refine Reads.bind (getObj_reads hb) ?_
  refine Reads.bind (Reads.pure' es w) ?_
  refine Reads.bind (hk.check _ _ _) ?_
  rcases hr2 with ⟨rfl, hg⟩ | ⟨i, e, v, rfl, _, _, _, _, hg⟩
  · rw [hg]
    exact Reads.bind hr (Reads.bind (zeroValue_reads hz w) (Reads.bind (a := (ev z, false)) (Reads.pure' _ _) (Reads.pure' _ _)))
  · rw [hg]
    exact Reads.bind hr (Reads.bind (a := (ev v, true)) (Reads.pure' _ _) (Reads.pure' _ _))
theorem lookup_nil [DecidableEq K] (ht : P.underlying t = some (.map kt et)) (hk : KeyOk P kt ek) {z : V} (hz : zeroOf P et = some (ev z)) {w : World} {k : K} {ok : Bool} {Q : Value → Prop}
    (hq : Q (if ok then .tuple #[ev z, .bool false] else ev z)) : rdV P (Instr.lookup t (.map none) (ek k) ok) w Q := by
  obtain ⟨r, hr, hr2⟩ := found hk (ev := ev) (es := #[]) (m := []) (by simp) rfl k w
  refine ⟨_, ?_, hq⟩
  unfold Instr.lookup
  refine Reads.bind (Reads.underlying ht w) ?_
  refine Reads.bind (a := (#[] : Array MapEntry)) (Reads.pure' _ _) ?_
  refine Reads.bind (hk.check _ _ _) ?_
  rcases hr2 with ⟨rfl, hg⟩ | ⟨i, e, v, rfl, h0, _⟩
  · exact Reads.bind hr (Reads.bind (zeroValue_reads hz w) (Reads.bind (a := (ev z, false)) (Reads.pure' _ _) (Reads.pure' _ _)))
  · simp at h0
theorem len_rule {rt : TypeId} (ht : P.underlying t = some (.map kt et)) {w : World} {b N : Nat} {m : List (K × V)} (h : MapB ek ev w b N m) {Q : Value → Prop} (hq : Q (.int .i64 (m.length : Int))) : rdV P (Builtin.len_ #[t] rt #[.map (some b)]) w Q := by
  obtain ⟨hn, es, c, hb, h1, h2, h3, h4c⟩ := h
  refine ⟨_, ?_, hq⟩
  have hl : es.size = m.length := by have := congrArg List.length h1; simpa using this
  unfold Builtin.len_
  refine Reads.bind (Reads.underlying ht w) ?_
  refine Reads.bind (getObj_reads hb) ?_
  rw [← hl]
  exact Reads.pure' _ _

theorem setObj_run {w : World} {b : Nat} {es : Array MapEntry} {c : Nat} {o' : Obj} (h : w.heap[b]? = some (.map es c)) : (setObj b o').run P w = .ok () (setBlk w b o') := by
  show Sem.run P (.setObj b o' (.pure ())) w = _
  simp only [Sem.run, h]
  rfl

theorem make_rule {w : World} {Q : Value → World → Prop} (hq : ∀ w', MapB ek ev w' w.heap.size 0 ([] : List (K × V)) → Chg (fun _ => False) w w' → w'.heap.size = w.heap.size + 1 → Q (.map (some w.heap.size)) w') : runV P (Instr.makeMap t none) w Q := by
  refine ⟨_, _, rfl, hq (pushW w (.map #[] 0)) ⟨by simp, #[], 0, pushW_new _ _, rfl, by simp, by simp, Nat.le_refl _⟩ (Chg.push _ _ _) (by simp)⟩

/-- Behind a step of 'm[k]': the entry's stamp. -/
def Stp (ek : K → Value) (w : World) (b : Nat) (k : K) (n : Int) : Prop := ∃ es c, w.heap[b]? = some (.map es c) ∧ ∃ e ∈ es.toList, e.key = ek k ∧ (e.born : Int) = n
theorem Stp.chg {w w' : World} {b : Nat} {k : K} {n : Int} {F : Nat → Prop} (h : Stp ek w b k n) (hc : Chg F w w') (hF : ¬ F b) : Stp ek w' b k n := by
  obtain ⟨es, c, hb, h1⟩ := h
  have hlt : b < w.heap.size := by
    rcases Nat.lt_or_ge b w.heap.size with h' | h'
    · exact h'
    · rw [Array.getElem?_eq_none h'] at hb; cases hb
  exact ⟨es, c, by rw [hc.block b hlt hF]; exact hb, h1⟩

theorem stays_run {a : Value} (h : Instr.sameBits 10000 a a = true) (w : World) : (Instr.keyThatStays a a).run P w = .ok a w := by
  unfold Instr.keyThatStays
  rw [if_pos h]; rfl

theorem map_modify {es : Array MapEntry} {i : Nat} {e : MapEntry} (he : es.toList[i]? = some e) (f : MapEntry → MapEntry) : (es.modify i f).toList = es.toList.set i (f e) := by
  apply List.ext_getElem?
  intro j
  rw [Array.getElem?_toList, Array.getElem?_modify, List.getElem?_set]
  have hlt := (List.getElem?_eq_some_iff.1 he).1
  by_cases hij : i = j
  · subst hij
    have : es[i]? = some e := by rw [← Array.getElem?_toList]; exact he
    simp [this] at hlt ⊢
    omega
  · simp [hij, Array.getElem?_toList]
theorem set_map {α β : Type} (f : α → β) (l : List α) (i : Nat) (x : α) : (l.set i x).map f = (l.map f).set i (f x) := by rw [List.map_set]
theorem mset_at [DecidableEq K] {m : List (K × V)} (hn : (m.map (·.1)).Nodup) {i : Nat} {k : K} {v0 v : V} (hi : m[i]? = some (k, v0)) : mset m k v = m.set i (k, v) := by
  have hk : k ∈ m.map (·.1) := List.mem_map.2 ⟨_, List.mem_of_getElem? hi, rfl⟩
  unfold mset
  rw [if_pos hk]
  apply List.ext_getElem?
  intro j
  rw [List.getElem?_map, List.getElem?_set]
  by_cases hij : i = j
  · subst hij
    rw [hi]
    simp [(List.getElem?_eq_some_iff.1 hi).1]
  · rw [if_neg hij]
    cases hj : m[j]? with
    | none => rfl
    | some p =>
      rw [Option.map_some, if_neg]
      intro e
      refine hij ((List.getElem?_inj (l := m.map (·.1)) (by rw [List.length_map]; exact (List.getElem?_eq_some_iff.1 hi).1) hn).1 ?_)
      rw [List.getElem?_map, List.getElem?_map, hi, hj]; simp [e]

theorem map_erase {α β : Type} (f : α → β) (l : List α) (i : Nat) : (l.eraseIdx i).map f = (l.map f).eraseIdx i := by
  rw [List.eraseIdx_eq_take_drop_succ, List.eraseIdx_eq_take_drop_succ, List.map_append, List.map_take, List.map_drop]
theorem Chg.setm (w : World) (b : Nat) (o : Obj) : Chg (fun k => k = b) w (setBlk w b o) := Chg.set _ _ _ _ rfl

theorem update_rule [DecidableEq K] (ht : P.underlying t = some (.map kt et)) (hk : KeyOk P kt ek) {w : World} {b N : Nat} {m : List (K × V)} (h : MapB ek ev w b N m) {k : K} {v : V} {Q : World → Prop}
    (hq : ∀ w', MapB ek ev w' b (N + 1) (mset m k v) → Chg (fun k => k = b) w w' → Q w') : runU P (Instr.mapUpdate t (.map (some b)) (ek k) (ev v)) w Q := by
  have hlt := h.lt
  obtain ⟨hn, es, c, hb, h1, h2, h3, h4c⟩ := h
  obtain ⟨r, hr, hr2⟩ := found hk hn h1 k w
  have hu : (underlying t).run P w = .ok (.map kt et) w := (Reads.underlying ht w).run
  have hg : (getObj b).run P w = .ok (.map es c) w := (getObj_reads (P := P) hb).run
  have hch := (hk.check false k w).run
  have hrr := hr.run
  rcases hr2 with ⟨rfl, hg0⟩ | ⟨i, e, v0, rfl, hi, he, hv0, hm, hg0⟩
  · refine ⟨setBlk w b (.map (es.push { key := ek k, val := ev v, born := c }) (c + 1)), ?_, hq _ ⟨mset_nodup hn _ _, _, _, setBlk_same hlt, ?_, ?_, ?_, by omega⟩ (Chg.setm _ _ _)⟩
    · unfold Instr.mapUpdate
      simp only [Sem.run_bind, hu, Result.andThen_ok, hg, hch, hrr, setObj_run hb]
    · unfold mset
      rw [if_neg (mget_none.1 hg0), Array.toList_push, List.map_append, List.map_append, h1]; rfl
    · intro x hx
      rw [Array.toList_push] at hx
      rcases List.mem_append.1 hx with hx | hx
      · have := h2 x hx; omega
      · simp at hx; subst hx; exact Nat.lt_succ_self c
    · rw [Array.toList_push, List.map_append, List.nodup_append]
      refine ⟨h3, by simp, fun a ha b hb2 => ?_⟩
      obtain ⟨x, hx, rfl⟩ := List.mem_map.1 ha
      simp at hb2
      have := h2 x hx
      omega
  · have hie : es[i]? = some e := by rw [← Array.getElem?_toList]; exact hi
    refine ⟨setBlk w b (.map (es.modify i fun x => { x with key := ek k, val := ev v }) c), ?_, hq _ ⟨mset_nodup hn _ _, _, _, setBlk_same hlt, ?_, ?_, ?_, by omega⟩ (Chg.setm _ _ _)⟩
    · have hs := stays_run (P := P) (hk.bits k) w
      unfold Instr.mapUpdate
      simp only [Sem.run_bind, hu, Result.andThen_ok, hg, hch, hrr, hie, Option.map_some, Option.getD_some, he, hs, setObj_run hb]
    · rw [map_modify hi, set_map, h1, mset_at hn hm, List.map_set]
    · intro x hx
      rw [map_modify hi] at hx
      rcases List.mem_or_eq_of_mem_set hx with hx | rfl
      · exact h2 x hx
      · exact h2 e (List.mem_of_getElem? hi)
    · rw [map_modify hi, set_map]
      have : (es.toList.map (·.born)).set i e.born = es.toList.map (·.born) := by
        apply List.ext_getElem?
        intro j
        rw [List.getElem?_set]
        by_cases hij : i = j
        · subst hij
          rw [if_pos rfl, if_pos (by rw [List.length_map]; exact (List.getElem?_eq_some_iff.1 hi).1), List.getElem?_map, hi]; rfl
        · rw [if_neg hij]
      dsimp only
      rw [this]; exact h3

/-- The two steps of 'm[k] op= v'. -/
theorem entry_rule [DecidableEq K] (ht : P.underlying t = some (.map kt et)) (hk : KeyOk P kt ek) {z : V} (hz : zeroOf P et = some (ev z)) {w : World} {b N : Nat} {m : List (K × V)} (h : MapB ek ev w b N m) {k : K} {Q : Value → World → Prop}
    (hq : ∀ w' n, MapB ek ev w' b (N + 1) (mset m k ((mget m k).getD z)) → Stp ek w' b k n → Chg (fun k => k = b) w w' → Q (.tuple #[ev ((mget m k).getD z), .int .i64 n]) w') : runV P (Instr.mapEntry t (.map (some b)) (ek k)) w Q := by
  have hlt := h.lt
  obtain ⟨hn, es, c, hb, h1, h2, h3, h4c⟩ := h
  obtain ⟨r, hr, hr2⟩ := found hk hn h1 k w
  have hu : (underlying t).run P w = .ok (.map kt et) w := (Reads.underlying ht w).run
  have hg : (getObj b).run P w = .ok (.map es c) w := (getObj_reads (P := P) hb).run
  have hch := (hk.check false k w).run
  have hrr := hr.run
  rcases hr2 with ⟨rfl, hg0⟩ | ⟨i, e, v0, rfl, hi, he, hv0, hm, hg0⟩
  · have hzr := (zeroValue_reads hz w).run
    rw [hg0] at hq
    have hb' : (setBlk w b (.map (es.push { key := ek k, val := ev z, born := c }) (c + 1))).heap[b]? = some (.map (es.push { key := ek k, val := ev z, born := c }) (c + 1)) := setBlk_same hlt
    refine ⟨_, setBlk w b (.map (es.push { key := ek k, val := ev z, born := c }) (c + 1)), ?_, hq _ c ⟨mset_nodup hn _ _, _, _, hb', ?_, ?_, ?_, by omega⟩ ⟨_, _, hb', _, by rw [Array.toList_push]; exact List.mem_append_right _ (List.mem_singleton.2 rfl), rfl, rfl⟩ (Chg.setm _ _ _)⟩
    · unfold Instr.mapEntry
      simp only [Sem.run_bind, hu, Result.andThen_ok, hg, hch, hrr, hzr, setObj_run hb, Sem.run_pure, goInt]
      rfl
    · unfold mset
      rw [if_neg (mget_none.1 hg0), Array.toList_push, List.map_append, List.map_append, h1]; rfl
    · intro x hx
      rw [Array.toList_push] at hx
      rcases List.mem_append.1 hx with hx | hx
      · have := h2 x hx; omega
      · simp at hx; subst hx; exact Nat.lt_succ_self c
    · rw [Array.toList_push, List.map_append, List.nodup_append]
      refine ⟨h3, by simp, fun a ha b hb2 => ?_⟩
      obtain ⟨x, hx, rfl⟩ := List.mem_map.1 ha
      simp at hb2
      have := h2 x hx
      omega
  · have hie : es[i]? = some e := by rw [← Array.getElem?_toList]; exact hi
    rw [hg0] at hq
    have hsame : (es.modify i fun x => { x with key := ek k }).toList = es.toList := by
      rw [map_modify hi]
      apply List.ext_getElem?
      intro j
      rw [List.getElem?_set]
      by_cases hij : i = j
      · subst hij
        rw [hi]
        have := (List.getElem?_eq_some_iff.1 hi).1
        rw [if_pos rfl, if_pos this, ← he]
      · rw [if_neg hij]
    have hb' : (setBlk w b (.map (es.modify i fun x => { x with key := ek k }) c)).heap[b]? = some (.map (es.modify i fun x => { x with key := ek k }) c) := setBlk_same hlt
    refine ⟨_, setBlk w b (.map (es.modify i fun x => { x with key := ek k }) c), ?_, hq _ e.born ⟨mset_nodup hn _ _, _, _, hb', ?_, ?_, ?_, by omega⟩ ⟨_, _, hb', e, by rw [hsame]; exact List.mem_of_getElem? hi, he, rfl⟩ (Chg.setm _ _ _)⟩
    · have hs := stays_run (P := P) (hk.bits k) w
      unfold Instr.mapEntry
      simp only [Sem.run_bind, hu, Result.andThen_ok, hg, hch, hrr, hie, Option.map_some, Option.getD_some, he, hs, setObj_run hb, Sem.run_pure, goInt]
    · rw [hsame, h1, mset_at hn hm]
      have : m.set i (k, (some v0).getD z) = m := by
        apply List.ext_getElem?
        intro j
        rw [List.getElem?_set]
        by_cases hij : i = j
        · subst hij
          rw [hm]
          have := (List.getElem?_eq_some_iff.1 hm).1
          rw [if_pos rfl, if_pos this]; rfl
        · rw [if_neg hij]
      rw [this]
    · rw [hsame]; exact h2
    · rw [hsame]; exact h3
theorem store_rule [DecidableEq K] (hk : KeyOk P kt ek) {w : World} {b N : Nat} {m : List (K × V)} (h : MapB ek ev w b N m) {k : K} {n : Int} (hs : Stp ek w b k n) {v : V} {Q : World → Prop}
    (hbig : N < 9223372036854775808)
    (hq : ∀ w', MapB ek ev w' b N (mset m k v) → Chg (fun k => k = b) w w' → Q w') : runU P (Instr.entryStore t (.map (some b)) (.int .i64 n) (ev v)) w Q := by
  have hlt := h.lt
  obtain ⟨hn, es, c, hb, h1, h2, h3, h4c⟩ := h
  obtain ⟨es', c', hb', e, hem, hek, hen⟩ := hs
  rw [hb] at hb'
  cases hb'
  obtain ⟨i, hi⟩ := List.mem_iff_getElem?.1 hem
  have hie : es[i]? = some e := by rw [← Array.getElem?_toList]; exact hi
  have hg : (getObj b).run P w = .ok (.map es c) w := (getObj_reads (P := P) hb).run
  have hfi : es.findIdx? (fun e => (e.born : Int) == n) = some i := by
    have hfl : es.findIdx? (fun e => (e.born : Int) == n) = es.toList.findIdx? (fun e => (e.born : Int) == n) := by cases es; simp
    rw [hfl, List.findIdx?_eq_some_iff_getElem]
    have hil := (List.getElem?_eq_some_iff.1 hi).1
    refine ⟨hil, ?_, fun j hj => ?_⟩
    · rw [(List.getElem?_eq_some_iff.1 hi).2]; simpa using hen
    · intro hc
      have hc : ((es.toList[j]).born : Int) = n := by simpa using hc
      refine absurd ((List.getElem?_inj (l := es.toList.map (·.born)) (i := j) (j := i) (by rw [List.length_map]; omega) h3).1 ?_) (by omega)
      rw [List.getElem?_map, List.getElem?_map, hi, List.getElem?_eq_getElem (by omega)]
      simp only [Option.map_some, Option.some.injEq]
      omega
  have hm : ∃ v0, m[i]? = some (k, v0) := by
    have h4 := congrArg (fun l => l[i]?) h1
    simp only [List.getElem?_map, hi, Option.map_some] at h4
    cases hm : m[i]? with
    | none => rw [hm] at h4; cases h4
    | some p =>
      rw [hm] at h4
      simp only [Option.map_some, Option.some.injEq, Prod.mk.injEq] at h4
      have : p.1 = k := hk.inj _ _ (h4.1.symm.trans hek)
      exact ⟨p.2, by rw [← this]⟩
  obtain ⟨v0, hm⟩ := hm
  have hlt2 := h2 e hem
  have hwrap : IntKind.wrap .i64 n = n := wrap64_id (by omega) (by omega)
  refine ⟨setBlk w b (.map (es.modify i fun x => { x with val := ev v }) c), ?_, hq _ ⟨mset_nodup hn _ _, _, _, setBlk_same hlt, ?_, ?_, ?_, by omega⟩ (Chg.setm _ _ _)⟩
  · unfold Instr.entryStore asInt asIntOf
    simp only [Sem.run_bind, hg, Result.andThen_ok, Sem.run_pure, hwrap, hfi, setObj_run hb]
  · rw [map_modify hi, set_map, h1, mset_at hn hm, List.map_set, hek]
  · intro x hx
    rw [map_modify hi] at hx
    rcases List.mem_or_eq_of_mem_set hx with hx | rfl
    · exact h2 x hx
    · exact hlt2
  · rw [map_modify hi, set_map]
    have : (es.toList.map (·.born)).set i e.born = es.toList.map (·.born) := by
      apply List.ext_getElem?
      intro j
      rw [List.getElem?_set]
      by_cases hij : i = j
      · subst hij
        rw [if_pos rfl, if_pos (by rw [List.length_map]; exact (List.getElem?_eq_some_iff.1 hi).1), List.getElem?_map, hi]; rfl
      · rw [if_neg hij]
    dsimp only
    rw [this]; exact h3
theorem delete_rule [DecidableEq K] (ht : P.underlying t = some (.map kt et)) (hk : KeyOk P kt ek) {kt' rt : TypeId} {w : World} {b N : Nat} {m : List (K × V)} (h : MapB ek ev w b N m) {k : K} {Q : Value → World → Prop}
    (hq : ∀ w', MapB ek ev w' b N (mdel m k) → Chg (fun k => k = b) w w' → Q (.tuple #[]) w') : runV P (Builtin.delete_ #[t, kt'] rt #[.map (some b), ek k]) w Q := by
  have hlt := h.lt
  obtain ⟨hn, es, c, hb, h1, h2, h3, h4c⟩ := h
  obtain ⟨r, hr, hr2⟩ := found hk hn h1 k w
  have hu : (underlying t).run P w = .ok (.map kt et) w := (Reads.underlying ht w).run
  have hg : (getObj b).run P w = .ok (.map es c) w := (getObj_reads (P := P) hb).run
  have hch := (hk.check es.isEmpty k w).run
  have hrr := hr.run
  rcases hr2 with ⟨rfl, hg0⟩ | ⟨i, e, v0, rfl, hi, he, hv0, hm, hg0⟩
  · have hd : mdel m k = m := by
      unfold mdel
      refine List.filter_eq_self.2 fun p hp => ?_
      have := mget_none.1 hg0
      simp only [decide_eq_true_eq]
      intro e; exact this (List.mem_map.2 ⟨p, hp, e⟩)
    rw [hd] at hq
    refine ⟨_, setBlk w b (.map es c), ?_, hq _ ⟨hn, _, _, setBlk_same hlt, h1, h2, h3, h4c⟩ (Chg.setm _ _ _)⟩
    unfold Builtin.delete_
    simp only [List.getElem?_toArray, List.getElem?_cons_succ, List.getElem?_cons_zero, Sem.run_bind, hu, Result.andThen_ok, hg, hch, hrr, setObj_run hb, Sem.run_pure]
  · have hd : mdel m k = m.eraseIdx i := by
      unfold mdel
      have hil := (List.getElem?_eq_some_iff.1 hm).1
      have e1 : m = m.take i ++ (k, v0) :: m.drop (i + 1) := by
        conv => lhs; rw [← List.take_append_drop i m]
        rw [List.drop_eq_getElem_cons hil, (List.getElem?_eq_some_iff.1 hm).2]
      rw [List.eraseIdx_eq_take_drop_succ]
      have hn2 := hn
      rw [e1, List.map_append, List.map_cons, List.nodup_append] at hn2
      obtain ⟨_, hb2, hdis⟩ := hn2
      rw [List.nodup_cons] at hb2
      conv => lhs; rw [e1]
      rw [List.filter_append, List.filter_cons_of_neg (by simp)]
      congr 1
      · refine List.filter_eq_self.2 fun p hp => ?_
        simp only [decide_eq_true_eq]
        intro e; exact hdis p.1 (List.mem_map.2 ⟨p, hp, rfl⟩) k (by simp) e
      · refine List.filter_eq_self.2 fun p hp => ?_
        simp only [decide_eq_true_eq]
        intro e; exact hb2.1 (List.mem_map.2 ⟨p, hp, e⟩)
    have hil : i < es.size := by have := (List.getElem?_eq_some_iff.1 hi).1; simpa using this
    have hel : (es.eraseIdxIfInBounds i).toList = es.toList.eraseIdx i := by
      rw [Array.eraseIdxIfInBounds, dif_pos hil, Array.toList_eraseIdx]
    refine ⟨_, setBlk w b (.map (es.eraseIdxIfInBounds i) c), ?_, hq _ ⟨mdel_nodup hn _, _, _, setBlk_same hlt, ?_, ?_, ?_, by omega⟩ (Chg.setm _ _ _)⟩
    · unfold Builtin.delete_
      simp only [List.getElem?_toArray, List.getElem?_cons_succ, List.getElem?_cons_zero, Sem.run_bind, hu, Result.andThen_ok, hg, hch, hrr, setObj_run hb, Sem.run_pure]
    · rw [hel, hd, map_erase, h1, ← map_erase]
    · intro x hx
      rw [hel] at hx
      exact h2 x (List.mem_of_mem_eraseIdx hx)
    · rw [hel, map_erase]
      exact h3.sublist (List.eraseIdx_sublist _ _)
end

/-! Numbers as keys. -/
theorem keyInt {P : Program} {kt : TypeId} {kd : IntKind} (hu : P.underlying kt = some (.int kd)) : KeyOk P kt (fun n : Int => Value.int kd n) where
  inj := fun k k' h => by simpa using h
  check := fun e k w => by
    unfold Instr.checkKey
    refine Reads.bind (Reads.underlying hu w) ?_
    exact Reads.pure' _ _
  find := fun es k w hes => by
    have key : ∀ (es : List MapEntry) (i : Nat), (∀ e ∈ es, ∃ k' : Int, e.key = Value.int kd k') → ∃ r, Instr.findNow (.int kd) (.int kd k) es i = some r ∧ ((r = none ∧ ∀ e ∈ es, e.key ≠ Value.int kd k) ∨ ∃ j e, r = some (i + j, e.val) ∧ es[j]? = some e ∧ e.key = Value.int kd k) := by
      intro es
      induction es with
      | nil => intro i _; exact ⟨none, rfl, .inl ⟨rfl, fun e h => by cases h⟩⟩
      | cons e es ih =>
        intro i hes
        obtain ⟨k', hk'⟩ := hes e (by simp)
        unfold Instr.findNow
        rw [hk']
        simp only [Instr.sameNow, if_true]
        by_cases hkk : k = k'
        · subst hkk
          simp only [beq_self_eq_true]
          exact ⟨_, rfl, .inr ⟨0, e, by simp, rfl, hk'⟩⟩
        · have : (k == k') = false := by simpa using hkk
          rw [this]
          obtain ⟨r, hr, h2⟩ := ih (i + 1) fun e he => hes e (by simp [he])
          refine ⟨r, hr, ?_⟩
          rcases h2 with ⟨rfl, h3⟩ | ⟨j, e', rfl, hj, he'⟩
          · refine .inl ⟨rfl, fun e2 he2 => ?_⟩
            rcases List.mem_cons.1 he2 with rfl | he2
            · rw [hk']; intro h; simp at h; exact hkk h.symm
            · exact h3 e2 he2
          · exact .inr ⟨j + 1, e', by rw [show i + 1 + j = i + (j + 1) by omega], by simpa using hj, he'⟩
    obtain ⟨r, hr, h2⟩ := key es 0 hes
    refine ⟨r, ?_, ?_⟩
    · unfold Instr.findKey
      refine Reads.bind (Reads.underlying hu w) ?_
      rw [hr]; exact Reads.pure' _ _
    · simpa using h2
  bits := fun k => by simp [Instr.sameBits]
end Go.Sh
