/- The filters of identifiers; the examples. -/
import Derived.Test.YtcemgjikmdbjgaaF2
import Derived.Test.YtcemgjikmdbjgaaF4
namespace Go.Proofs.Ytcemgjikmdbjgaa
open Go Go.Sh Go.Flt

/-- The library's sort, of at most M numbers. -/
def SortOk (M : Nat) : Prop := ∀ {w : World} {p : Option Addr} {n c : Nat} {xs : List Int}, ON w p n c xs → n ≤ M → ∀ {K : Value → World → Prop}, (∀ w' ys, ON w' p n c ys → ys.Perm xs → ys.Pairwise (· ≤ ·) → Chg (inB p) w w' → K (.tuple #[]) w') → callV Try.prog 32 #[.slice p n c] w K
theorem sortOk12 : SortOk 12 := fun h h12 => fun hk => sort_small_on h h12 hk

theorem rising_call {M : Nat} (hM : SortOk M) {w : World} {p : Option Addr} {n c : Nat} {xs : List Int} (h : NL w p n xs) (hp : p = none → n = 0) (hn : n ≤ M) (hb : n ≤ 1000000) {K : Value → World → Prop}
    (hk : ∀ w' p' m c' ds, ON w' p' m c' ds → ds.Pairwise (· < ·) → (∀ x, x ∈ ds ↔ x ∈ xs) → m ≤ n → Chg (fun _ => False) w w' → K (.slice p' m c') w') : callV Try.prog 27 #[.slice p n c] w K := by
  refine ok27 (callQ_chg (clone_call h hp hb fun w1 p1 c1 h1 hf1 cc1 => ⟨cc1, _, _, _, rfl, ?_⟩))
  refine hM h1 hn fun w2 ys h2 hperm hs cc2 => ⟨rfl, ?_⟩
  refine compact_call h2 hb fun w3 m h3 cc3 => ⟨_, _, _, rfl, ?_⟩
  refine hk w3 p1 m c1 _ h3 (dd_strict ys hs) (fun x => ?_) (by have := dd_len ys; have := hperm.length_eq; have := h.len; have := h3.len; omega) ((cc1.none.trans ((cc2.mono (F' := fun k => w.heap.size ≤ k) fun k _ hk => hf1 k hk).trans (cc3.mono fun k _ hk => hf1 k hk))).mono fun k hk h => by omega)
  rw [dd_mem]; exact hperm.mem_iff

def mkF (e : Bool) (d : Int) : Flt := ⟨e, top e, BitVec.ofInt 32 d⟩
theorem info24 : ∃ i, Try.prog.info? 24 = some i ∧ i.size = 3 ∧ i.bytes = 12 ∧ i.zero = some (.agg #[.bool false, .int .u32 0, .int .u32 0]) := info_of (by kernel_rfl)
theorem und27 : Try.prog.underlying 27 = some (.slice 24) := by kernel_rfl
theorem flat_cells (L : List Flt) : (L.map cellsF).flatten = L.flatMap cellsF := by rw [List.flatMap_def]
theorem cellsF1 (x : Flt) : ∀ v ∈ cellsF x, v.oneCell' = true := by simp [cellsF, Value.oneCell']
theorem cellsFs1 (L : List Flt) : ∀ v ∈ L.flatMap cellsF, v.oneCell' = true := fun v hv => by obtain ⟨x, _, h⟩ := List.mem_flatMap.1 hv; exact cellsF1 x v h
/-- Filters in a slice of the call's own. -/
def OF (w : World) (p : Option Addr) (n c : Nat) (L : List Flt) : Prop := Own w 3 24 p n c (L.flatMap cellsF)
theorem OF.fl {w : World} {p : Option Addr} {n c : Nat} {L : List Flt} (h : OF w p n c L) : FL w p n L := by
  unfold OF at h
  rw [← flat_cells] at h
  exact Own.cam h (fun cs hc => by obtain ⟨x, _, rfl⟩ := List.mem_map.1 hc; rfl) (by omega)
theorem OF.chg {w w' : World} {p : Option Addr} {n c : Nat} {L : List Flt} (h : OF w p n c L) (cc : Chg (fun _ => False) w w') : OF w' p n c L := Own.chg h cc fun _ _ => id

/-- Which answer Only gives. -/
def OnlyR (w : World) (xs : List Int) (e : Bool) (p : Option Addr) (m c : Nat) (err : Int) : Prop := ∃ ds : List Int, ds.Pairwise (· < ·) ∧ (∀ x, x ∈ ds ↔ x ∈ xs) ∧
  ((err = 2 ∧ p = none ∧ m = 0 ∧ c = 0 ∧ ∃ d ∈ xs, (top e).toNat < d) ∨ (err = 5 ∧ p = none ∧ m = 0 ∧ c = 0 ∧ (∀ d ∈ xs, d ≤ (top e).toNat) ∧ 64 < ds.length) ∨ (err = 0 ∧ (∀ d ∈ xs, d ≤ (top e).toNat) ∧ ds.length ≤ 64 ∧ OF w p m c (ds.map (mkF e))))

theorem last_max {ds : List Int} (h : ds.Pairwise (· < ·)) {z : Int} (hz : ds.getLast? = some z) : ∀ d ∈ ds, d ≤ z := by
  obtain ⟨ys, rfl⟩ := List.getLast?_eq_some_iff.1 hz
  rw [List.pairwise_append] at h
  intro d hd
  rcases List.mem_append.1 hd with h1 | h1
  · have := h.2.2 d h1 z (by simp); omega
  · simp at h1; omega

theorem only_call {M : Nat} (hM : SortOk M) {w : World} {p : Option Addr} {n c : Nat} {xs : List Int} (h : NL w p n xs) (hx : ∀ x ∈ xs, 0 ≤ x ∧ x < 4294967296) (hp : p = none → n = 0) (hn : n ≤ M) (hb : n ≤ 1000000) {e : Bool} {K : Value → World → Prop}
    (hk : ∀ w' p' m c' err, OnlyR w' xs e p' m c' err → Chg (fun _ => False) w w' → K (.tuple #[.slice p' m c', .int .i64 err]) w') : callV Try.prog 15 #[.slice p n c, .bool e] w K := by
  refine ok15 (callQ_chg (most_call ⟨Chg.refl _ _, _, rfl, ?_⟩))
  refine callQ_chg (rising_call hM h hp hn hb fun w1 p1 m1 c1 ds h1 hs hmem hmn cc1 => ⟨cc1, _, _, _, rfl, ?_⟩)
  have hlen := h1.len
  have bad : ∀ z, ds.getLast? = some z → (((top e).toNat : Nat) : Int) < z → K (.tuple #[.slice none 0 0, .int .i64 2]) w1 := fun z hz hlt =>
    hk w1 none 0 0 2 ⟨ds, hs, hmem, .inl ⟨rfl, rfl, rfl, rfl, z, (hmem z).1 (List.mem_of_getLast? hz), hlt⟩⟩ cc1
  have good : (∀ d ∈ ds, d ≤ (((top e).toNat : Nat) : Int)) → (br (decide (((m1 : Int) : Int) > 64)) (K (.tuple #[(.slice none 0 0), (.int .i64 5)]) w1) (LS15_1 e (((top e).toNat : Nat) : Int) p1 m1 c1 (m1 : Int) none 0 0 0 w1 (fun x32 l33 c34 w => K (.tuple #[(.slice x32 l33 c34), (.int .i64 0)]) w) K)) := fun hle => by
    have hle' : ∀ d ∈ xs, d ≤ (((top e).toNat : Nat) : Int) := fun d hd => hle d ((hmem d).2 hd)
    refine br_of (fun h64 => ?_) (fun h64 => ?_)
    · have h64 : 64 < m1 := by have := of_decide_eq_true h64; omega
      exact hk w1 none 0 0 5 ⟨ds, hs, hmem, .inr (.inl ⟨rfl, rfl, rfl, rfl, hle', by omega⟩)⟩ cc1
    · have h64 : m1 ≤ 64 := by have := of_decide_eq_false h64; omega
      refine ⟨fun m p l c x w' => ∃ i : Nat, x = i ∧ i ≤ m1 ∧ m = m1 - i ∧ l = i ∧ OF w' p l c ((ds.take i).map (mkF e)) ∧ (∀ k, inB p k → w1.heap.size ≤ k) ∧ Chg (fun k => w1.heap.size ≤ k) w1 w', ⟨m1, 0, rfl, by omega, rfl, rfl, Own.nil _ _ _, fun k ⟨o, ho⟩ => (by cases ho), Chg.refl _ _⟩, ?_⟩
      rintro m p2 l2 c2 x w2 ⟨i, rfl, hi, hm, hl, h2, hf2, cc2⟩
      subst hl
      refine br_of (fun hlt => ?_) (fun hge => ?_)
      · have hlt : l2 < m1 := by have := of_decide_eq_true hlt; omega
        have h1' : ON w2 p1 m1 c1 ds := Own.chg h1 cc2 fun k hk h => by have := Own.lt h1 hk; omega
        rcases h1'.nums with ⟨_, h0, _⟩ | ⟨g, A, B, rfl, hN, _⟩
        · omega
        obtain ⟨d, hd⟩ : ∃ d, ds[l2]? = some d := ⟨ds[l2], List.getElem?_eq_getElem (by omega)⟩
        refine idx_rule (by omega) (by omega) ⟨d, by rw [Int.toNat_natCast]; exact hN.cell hd, ?_⟩
        have hdx := hx d ((hmem d).1 (List.mem_of_getElem? hd))
        refine al_abs fun r w3 hr hb3 c3 hs3 => ?_
        have hsz := cc2.size
        have hsrc : Own w3 3 24 (some ⟨r, 0, none⟩) 1 1 (cellsF (mkF e d)) := by
          have hv : cellsF (mkF e d) = [.bool e, .int .u32 ((top e).toNat : Int), .int .u32 d] := by
            unfold cellsF mkF u32
            simp only [BitVec.toNat_ofInt]
            congr 4; omega
          refine Own.of_blk ?_ (by rfl) (cellsF1 _)
          rw [hv]; exact hb3
        obtain ⟨ti, hi, hs1, hby, hz⟩ := info24
        have h3 : OF w3 p2 l2 c2 _ := h2.chg c3
        refine append_own (P := Try.prog) und27 hi hz (by rw [hs1]; rfl) (by simp [Value.cells, Value.oneCell']) (by omega) (by rw [hs1]; exact h3) (by rw [hs1]; exact hsrc.src und27) (by rw [hby]; omega) (by omega) fun w4 p4 c4 ho hf cc4 => ⟨_, _, _, rfl, ?_⟩
        rw [hs1] at ho
        refine ⟨m1 - (l2 + 1), by omega, l2 + 1, by rw [wrap64_id (by omega) (by omega)]; omega, by omega, rfl, rfl, ?_, fun k hk => ?_, cc2.trans (c3.none.trans (cc4.mono fun k hk hk2 => by
          have := hf2 k hk2; omega))⟩
        · unfold OF
          rw [List.take_add_one, hd, Option.toList_some, List.map_append, List.flatMap_append]
          simpa using ho
        · rcases hf k hk with h5 | h5
          · exact hf2 k h5
          · omega
      · have hge : l2 = m1 := by have := of_decide_eq_false hge; omega
        refine hk w2 p2 l2 c2 0 ⟨ds, hs, hmem, .inr (.inr ⟨rfl, hle', by omega, ?_⟩)⟩ (cc1.trans (cc2.mono fun k hk h => by omega))
        rw [List.take_of_length_le (by omega)] at h2
        exact h2
  refine jn_rule (fun J => (∀ z, ds.getLast? = some z → (((top e).toNat : Nat) : Int) < z → J true w1) ∧ ((∀ d ∈ ds, d ≤ (((top e).toNat : Nat) : Int)) → J false w1)) ⟨bad, good⟩ fun J hJ => ?_
  refine br_of (fun hpos => ?_) (fun hpos => ?_)
  · have hpos : 0 < m1 := by have := of_decide_eq_true hpos; omega
    rcases h1.nums with ⟨_, h0, _⟩ | ⟨g, A, B, rfl, hN, _⟩
    · omega
    have hle := h1.le
    obtain ⟨z, hz⟩ : ∃ z, ds[m1 - 1]? = some z := ⟨ds[m1 - 1], List.getElem?_eq_getElem (by omega)⟩
    rw [show IntKind.wrap .i64 ((m1 : Int) - 1) = ((m1 - 1 : Nat) : Int) from ?_]
    · refine idx_rule (by omega) (by omega) ⟨z, by rw [Int.toNat_natCast]; exact hN.cell hz, ?_⟩
      have hlast : ds.getLast? = some z := by rw [List.getLast?_eq_getElem?, hlen]; exact hz
      by_cases hlt : (((top e).toNat : Nat) : Int) < z
      · rw [show decide (z > (((top e).toNat : Nat) : Int)) = true by simpa using hlt]; exact hJ.1 z hlast hlt
      · rw [show decide (z > (((top e).toNat : Nat) : Int)) = false by simpa using hlt]
        exact hJ.2 fun d hd => Int.le_trans (last_max hs hlast d hd) (by omega)
    · rw [wrap64_id (by omega) (by omega)]; omega
  · have h0 : m1 = 0 := by have := of_decide_eq_false hpos; omega
    subst h0
    have := List.eq_nil_of_length_eq_zero hlen
    subst this
    exact hJ.2 fun d hd => by cases hd
end Go.Proofs.Ytcemgjikmdbjgaa
