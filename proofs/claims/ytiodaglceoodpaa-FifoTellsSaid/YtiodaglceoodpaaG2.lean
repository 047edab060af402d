/- FifoTells: the state between two steps. -/
import Derived.Test.YtiodaglceoodpaaG1
import Derived.Test.YtiodaglceoodpaaF5
namespace Go.Proofs.Ytiodaglceoodpaa
open Go Go.Sh

theorem Own.ne_blk {w : World} {sz : Nat} {e : TypeId} {p : Option Addr} {n c : Nat} {xs : List Value} (h : Own w sz e p n c xs) {k : Nat} {cs : List Value} {t : TypeId} (hb : Blk w k cs t) (ht : t ≠ e) : ¬ inB p k := by
  rintro ⟨o, rfl⟩
  rcases h.at_ with ⟨h0, _⟩ | ⟨g, o', cs', hp, hb', _⟩
  · cases h0
  · simp at hp
    obtain rfl : k = g := hp.1
    unfold Blk at hb hb'
    rw [hb] at hb'
    simp at hb'
    exact ht hb'.2
theorem Own.ne_own {w : World} {sz sz' : Nat} {e e' : TypeId} {p p' : Option Addr} {n c n' c' : Nat} {xs xs' : List Value} (h : Own w sz e p n c xs) (h' : Own w sz' e' p' n' c' xs') (ht : e' ≠ e) {k : Nat} (hk : inB p k) : ¬ inB p' k := by
  intro hk'
  obtain ⟨o, rfl⟩ := hk'
  rcases h'.at_ with ⟨h0, _⟩ | ⟨g, o', cs', hp, hb', _⟩
  · cases h0
  · simp at hp
    obtain rfl : k = g := hp.1
    exact Own.ne_blk h hb' ht hk
theorem FQ.blks {w : World} {b g room lost L} (h : FQ w b g room lost L) : (∃ cs, Blk w b cs 56) ∧ ∃ cs, Blk w g cs 36 := by
  obtain ⟨fr, n, xs, hf, _⟩ := h
  exact ⟨⟨_, hf.hb⟩, ⟨_, hf.hg⟩⟩

def Like (x y : Rec) : Prop := x.id = y.id ∧ x.ext = y.ext ∧ x.rem = y.rem ∧ x.dlc = y.dlc ∧ x.at_ = y.at_
abbrev Itm := Rec × Rec × List Int

structure TS (w wi : World) (b g M room : Nat) (p : Option Addr) (l c : Nat) (flag : Bool) (A : List Itm) : Prop where
  q : FQ wi b g room flag (A.map (·.1))
  own : Own wi 6 36 p l c (rows (A.map (·.2.1)))
  hM : Blk wi M [.slice p l c, .int .i64 room, .bool flag] 30
  dat : ∀ t ∈ A, Own wi 1 5 t.1.dp t.1.dl t.1.dc (byt t.2.2) ∧ Own wi 1 5 t.2.1.dp t.2.1.dl t.2.1.dc (byt t.2.2) ∧ Like t.1 t.2.1 ∧ t.2.2.length ≤ 20
  far : ∀ t ∈ A, ∀ k, inB t.1.dp k → w.heap.size ≤ k ∧ ¬ inB t.2.1.dp k
  sep : A.Pairwise fun t u => ∀ k, inB t.1.dp k → ¬ inB u.1.dp k ∧ ¬ inB u.2.1.dp k
  pg : ∀ k, inB p k → k ≠ g
  ge : w.heap.size ≤ b ∧ w.heap.size ≤ g ∧ w.heap.size ≤ M
  rm : 1 ≤ room ∧ room ≤ 256
  chg : Chg (fun k => w.heap.size ≤ k) w wi

theorem TS.len {w wi : World} {b g M room : Nat} {p : Option Addr} {l c : Nat} {flag : Bool} {A : List Itm} (h : TS w wi b g M room p l c flag A) : l = A.length := by
  have := h.own.len
  rw [rows_length] at this
  simp at this; omega
theorem TS.le {w wi : World} {b g M room : Nat} {p : Option Addr} {l c : Nat} {flag : Bool} {A : List Itm} (h : TS w wi b g M room p l c flag A) : A.length ≤ room := by
  have := h.q.len
  simpa using this

theorem TS.carry {w wi wj : World} {b g M room : Nat} {p : Option Addr} {l c : Nat} {flag : Bool} {A : List Itm} {F : Nat → Prop} (h : TS w wi b g M room p l c flag A) (hc : Chg F wi wj) (hF : ∀ k, k < wi.heap.size → F k → w.heap.size ≤ k) (hb : ¬ F b) (hg : ¬ F g) (hM : ¬ F M) (hp : ∀ k, inB p k → ¬ F k)
    (hd : ∀ t ∈ A, ∀ k, (inB t.1.dp k ∨ inB t.2.1.dp k) → ¬ F k) : TS w wj b g M room p l c flag A :=
  ⟨h.q.chg hc hb hg, h.own.chg hc hp, hc.blk h.hM hM, fun t ht => by
    obtain ⟨h1, h2, h3, h4⟩ := h.dat t ht
    exact ⟨h1.chg hc fun k hk => hd t ht k (Or.inl hk), h2.chg hc fun k hk => hd t ht k (Or.inr hk), h3, h4⟩, h.far, h.sep, h.pg, h.ge, h.rm, h.chg.trans (hc.mono hF)⟩
theorem TS.still {w wi wj : World} {b g M room : Nat} {p : Option Addr} {l c : Nat} {flag : Bool} {A : List Itm} (h : TS w wi b g M room p l c flag A) (hc : Chg (fun _ => False) wi wj) : TS w wj b g M room p l c flag A :=
  h.carry hc (fun _ _ h => h.elim) id id id (fun _ _ => id) fun _ _ _ _ => id

/-- The model's variable is written anew: the flag alone. -/
theorem TS.setM {w wi wj : World} {b g M room : Nat} {p : Option Addr} {l c : Nat} {flag flag' : Bool} {A : List Itm} (h : TS w wi b g M room p l c flag A) (hq : FQ wj b g room flag' (A.map (·.1))) (hM : Blk wj M [.slice p l c, .int .i64 room, .bool flag'] 30) (hc : Chg (fun k => k = b ∨ k = M) wi wj) : TS w wj b g M room p l c flag' A := by
  obtain ⟨⟨cb, hbb⟩, ⟨cg, hgg⟩⟩ := h.q.blks
  have ne : ∀ {sz : Nat} {p : Option Addr} {n c : Nat} {xs : List Value}, Own wi sz 5 p n c xs → ∀ k, inB p k → ¬ (k = b ∨ k = M) := fun ho k hk hh => by
    rcases hh with rfl | rfl
    · exact Own.ne_blk ho hbb (by decide) hk
    · exact Own.ne_blk ho h.hM (by decide) hk
  refine ⟨hq, h.own.chg hc fun k hk hh => ?_, hM, fun t ht => ?_, h.far, h.sep, h.pg, h.ge, h.rm, h.chg.trans (hc.mono fun k _ hk => by have := h.ge; omega)⟩
  · rcases hh with rfl | rfl
    · exact Own.ne_blk h.own hbb (by decide) hk
    · exact Own.ne_blk h.own h.hM (by decide) hk
  · obtain ⟨h1, h2, h3, h4⟩ := h.dat t ht
    exact ⟨h1.chg hc (ne h1), h2.chg hc (ne h2), h3, h4⟩

/-- What is asked behind each step. -/
theorem after {w wi : World} {b g M room : Nat} {p : Option Addr} {l c : Nat} {flag : Bool} {A : List Itm} (h : TS w wi b g M room p l c flag A) {J : World → Prop} (hJ : ∀ wj, TS w wj b g M room p l c flag A → J wj) {K : Value → World → Prop} :
    dr wi fun w => callQ Try.prog 15 #[.pointer (some ⟨b, 0, none⟩)] w fun v213 w => ∃ n214 : Int, v213 = (.int .i64 n214) ∧ ∃ (p215 : Option Addr) (l216 c217 : Nat), w.cell? ⟨M, 0, none⟩ = some (.slice p215 l216 c217) ∧ br ((n214 : Int) != (l216 : Int))
      ((K (.bool false) w) ∧ (K (.bool false) w))
      ((callV Try.prog 16 #[.pointer (some ⟨b, 0, none⟩)] w fun v218 w => ∃ b219 : Bool, v218 = (.bool b219) ∧ ∃ b220 : Bool, w.cell? ((⟨M, 0, none⟩ : Addr).add 2) = some (.bool b220) ∧ br (!(b219 == b220)) (K (.bool false) w) (J w)) ∧
       (∃ b221 : Bool, w.cell? ((⟨M, 0, none⟩ : Addr).add 2) = some (.bool b221) ∧ callV Try.prog 16 #[.pointer (some ⟨b, 0, none⟩)] w fun v222 w => ∃ b223 : Bool, v222 = (.bool b223) ∧ br (!(b223 == b221)) (K (.bool false) w) (J w))) := by
  have hll := h.len
  refine dr_abs fun w1 _ c1 => ?_
  have h := h.still c1
  refine qlenq_call h.q fun w2 _ c2 _ => ⟨_, rfl, ?_⟩
  have h := h.still c2
  refine ⟨_, _, _, h.hM.cell 0, ?_⟩
  rw [show ((((A.map (·.1)).length : Nat) : Int) != (l : Int)) = false by simp [hll], br_false]
  simp only [add_lit]
  refine ⟨?_, ?_⟩
  · refine qover_call h.q ⟨_, rfl, _, h.hM.cell 2, ?_⟩
    rw [show (!(flag == flag)) = false by simp, br_false]
    exact hJ _ h
  · refine ⟨_, h.hM.cell 2, qover_call h.q ⟨_, rfl, ?_⟩⟩
    rw [show (!(flag == flag)) = false by simp, br_false]
    exact hJ _ h

/-- A slice of bytes that came in, as a source. -/
theorem bytes_of {C : List (List Value)} (h : ∀ cs ∈ C, ∃ m : Int, cs = [.int .u8 m]) : ∃ bs : List Int, C = bs.map fun m : Int => [.int .u8 m] := by
  induction C with
  | nil => exact ⟨[], rfl⟩
  | cons cs C ih =>
    obtain ⟨m, rfl⟩ := h cs (by simp)
    obtain ⟨bs, rfl⟩ := ih fun cs hcs => h cs (by simp [hcs])
    exact ⟨m :: bs, rfl⟩
theorem src_of {w : World} {p : Option Addr} {k : Nat} {bs : List Int} (h : Cam w 1 p k (bs.map fun m : Int => [.int .u8 m])) (c : Nat) : Src Try.prog 1 32 (.slice p k c) k (byt bs) w := by
  have hk : bs.length = k := by have := h.1; simpa using this
  cases p with
  | none =>
    have : bs = [] := by
      cases bs with
      | nil => rfl
      | cons m bs => obtain ⟨_, a, ha, _⟩ := h.2 0 [.int .u8 m] rfl; cases ha
    subst this
    simp at hk; subst hk
    exact Src.ofNil w und32 c
  | some a =>
    refine Src.ofSlice w und32 a k c (byt bs) (by simp [byt, hk]) (fun j u hj => ?_) (byt1 bs)
    have hjl : j < bs.length := by have := (List.getElem?_eq_some_iff.1 hj).1; simpa [byt] using this
    obtain ⟨_, a', ha, _, hcell⟩ := h.2 j [.int .u8 bs[j]] (by simp [hjl])
    simp at ha; subst ha
    have := hcell 0 (by omega)
    rw [Nat.mul_one, Nat.add_zero] at this
    rw [this]
    simp [byt, hjl] at hj
    simp [hj]
theorem appb {w : World} {r : Nat} (hr : Blk w r [] 5) {x : Value} {m : Nat} {bs : List Int} (hs : Src Try.prog 1 32 x m (byt bs) w) (hm : m ≤ 1000) {K : Value → World → Prop}
    (hk : ∀ w' p' c', Own w' 1 5 p' m c' (byt bs) → (∀ k, inB p' k → k = r ∨ w.heap.size ≤ k) → Chg (fun k => k = r) w w' → K (.slice p' m c') w') : runV Try.prog (Builtin.append_ #[32, 32] 32 #[.slice (some ⟨r, 0, none⟩) 0 0, x]) w K := by
  obtain ⟨i, hi, hs1, hby, hz⟩ := info5
  have h0 : Own w 1 5 (some ⟨r, 0, none⟩) 0 0 [] := Own.of_blk hr rfl (fun v hv => by cases hv)
  refine append_own (P := Try.prog) und32 hi hz (by rw [hs1]; rfl) (by simp [Value.cells, Value.oneCell']) (by omega) (by rw [hs1]; exact h0) (by rw [hs1]; exact hs) (by rw [hby]; omega) (by omega) fun w' p' c' ho hf cc => ?_
  rw [hs1, Nat.zero_add] at ho
  rw [Nat.zero_add]
  refine hk w' p' c' ho (fun k hk => ?_) (cc.mono fun k _ ⟨o, hk⟩ => by simp at hk; omega)
  rcases hf k hk with ⟨o, hk⟩ | hk
  · simp at hk; omega
  · exact Or.inr hk
end Go.Proofs.Ytiodaglceoodpaa
