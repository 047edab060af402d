/- A map's keys, sorted: by the library's contracts. -/
import Derived.Test.YtibalkkiefgljaaF2
import Derived.Test.YtibalkkiefgljaaLays
import Derived.Test.YtibalkkiefgljaaNm
namespace Go.Proofs.Ytibalkkiefgljaa
open Go Go.Sh Go.RowKit Go.Maps Go.Sort Go.Shelf Go.Proofs

theorem insert_perm {H : Type} (x : Lit × DataW H) : ∀ l : List (Lit × DataW H), (DataW.insert x l).Perm (x :: l)
  | [] => List.Perm.refl _
  | y :: r => by
    unfold DataW.insert
    split
    · exact List.Perm.refl _
    · exact ((insert_perm x r).cons y).trans (List.Perm.swap x y r)
theorem insert_all {H : Type} : ∀ l : List (Lit × DataW H), (l.foldr DataW.insert []).Perm l
  | [] => List.Perm.refl _
  | x :: r => by
    rw [List.foldr_cons]
    exact (insert_perm x _).trans ((insert_all r).cons x)
theorem keyOf3 {n : Int} (h : -9223372036854775808 ≤ n ∧ n ≤ 9223372036854775807) : keyOf Try.prog 3 (iv n) = some (.int .i64 n) := by
  have hu : Try.prog.underlying 3 = some (.int .i64) := Try.underlying3
  unfold keyOf
  rw [hu]
  unfold mapKey
  simp only [hu]
  have : (Lit.int .i64 n).wf = true := by
    simp [Lit.wf, IntKind.min, IntKind.max, IntKind.signed, IntKind.bits]; omega
  simp [this]

abbrev anyR : Value → Option (DataW Unit × List MemPlace) := fun _ => some (.nil, [])
theorem owns_of {w : World} {b N : Nat} {m : List (Int × Int)} (h : MI w b N m) (hk : ∀ p ∈ m, -9223372036854775808 ≤ p.1 ∧ p.1 ≤ 9223372036854775807) (hl : m.length ≤ 1000000) :
    ∃ D0 : DataW Unit, w.ownsMap Try.prog 3 anyR b m.length D0 ∧ (intKeys D0).Perm (m.map (·.1)) ∧ Maps.size D0 = m.length := by
  obtain ⟨hn, es, c, hb, h1, h2, h3, h4⟩ := h
  have hlen : es.toList.length = m.length := by have := congrArg List.length h1; simpa using this
  have hkeys : es.toList.map (·.key) = m.map fun p => iv p.1 := by
    have := congrArg (List.map (·.1)) h1
    simpa [List.map_map, Function.comp_def] using this
  have hread : ∀ x ∈ es.toList, ∃ n : Int, x.key = iv n ∧ (n ∈ m.map (·.1)) ∧ WideElems.rd Try.prog 3 anyR x = some (.int .i64 n, .nil) := fun x hx => by
    have : x.key ∈ es.toList.map (·.key) := List.mem_map.2 ⟨x, hx, rfl⟩
    rw [hkeys] at this
    obtain ⟨p, hp, he⟩ := List.mem_map.1 this
    refine ⟨p.1, he.symm, List.mem_map.2 ⟨p, hp, rfl⟩, ?_⟩
    unfold WideElems.rd
    rw [← he, keyOf3 (hk p hp)]; rfl
  have hrg : (es.toList.map (WideElems.rg Try.prog 3 anyR)).map (fun p => Go.intOf p.1) = m.map (·.1) := by
    have e1 : es.toList.map (fun x => Go.intOf (WideElems.rg Try.prog 3 anyR x).1) = es.toList.map fun x => match x.key with | .int _ a => a | _ => 0 :=
      List.map_congr_left fun x hx => by
        obtain ⟨n, h5, _, h6⟩ := hread x hx
        unfold WideElems.rg
        rw [h6, h5]; rfl
    have e2 : es.toList.map (fun x => match x.key with | .int _ a => a | _ => 0) = (es.toList.map (·.key)).map fun k => match k with | .int _ a => a | _ => 0 := by rw [List.map_map]; rfl
    rw [List.map_map]
    show es.toList.map (fun x => Go.intOf (WideElems.rg Try.prog 3 anyR x).1) = _
    rw [e1, e2, hkeys, List.map_map]; rfl
  refine ⟨.map ((es.toList.map (WideElems.rg Try.prog 3 anyR)).foldr DataW.insert []), ⟨es, c, hb, ⟨?_, ⟨h2, h3, ?_⟩, fun x hx => ?_⟩, ?_, rfl⟩, ?_, ?_⟩
  · have : es.size = m.length := by simpa using hlen
    rw [this]; exact Nat.le_trans hl (by decide)
  · rw [hkeys]
    rw [List.nodup_iff_pairwise_ne, List.pairwise_map] at hn ⊢
    exact hn.imp fun h e => h (by simpa using e)
  · obtain ⟨n, _, _, h6⟩ := hread x hx
    exact ⟨_, h6⟩
  · have : es.size = m.length := by simpa using hlen
    omega
  · have := (insert_all (es.toList.map (WideElems.rg Try.prog 3 anyR))).map (fun p => Go.intOf p.1)
    rw [hrg] at this
    exact this
  · show ((es.toList.map (WideElems.rg Try.prog 3 anyR)).foldr DataW.insert []).length = _
    rw [(insert_all _).length_eq, List.length_map, hlen]

theorem sorts (m : Nat) : AnyZI.SortsIn Try.prog Try.sortedA_ren Fence.wide m :=
  ⟨fun blk off cap ss W hH hblk hsz => callsIn_wide.2 (AnyM.slices_Sort_int Try.sortA blk off cap ss W hH hblk hsz),
   fun p cap W => callsIn_wide.2 (AnyM.slices_Sort_int_none Try.sortA p cap W)⟩

/-! Numbers in a slice of the call's own. -/
abbrev ON (w : World) (p : Option Addr) (n c : Nat) (xs : List Int) : Prop := OwnE iv 3 w p n c xs

theorem sorted_call {w : World} {r b N : Nat} {m : List (Int × Int)} {t : TypeId} (hr : Blk w r [.map (some b)] t) (h : MI w b N m) (hk : ∀ p ∈ m, -9223372036854775808 ≤ p.1 ∧ p.1 ≤ 9223372036854775807) (hl : m.length ≤ 1000000) {K : Value → World → Prop}
    (hq : ∀ w' p n c ss, ss.Perm (m.map (·.1)) → ss.Pairwise (· ≤ ·) → ON w' p n c ss → (∀ k, inB p k → w.heap.size ≤ k) → Chg (fun _ => False) w w' → K (.slice p n c) w') :
    callV Try.prog 26 #[.func (.func 32) #[] #[.pointer (some ⟨r, 0, none⟩)]] w K := by
  obtain ⟨D0, hown, hperm, hsize⟩ := owns_of h hk hl
  have hseq : SeqGives Fence.wide 2 Try.prog 32 #[.pointer (some ⟨r, 0, none⟩)] encZ (fun ss => ss.Perm (intKeys D0)) (Maps.size D0) w :=
    AnyZI.keys_gives (ρ := Try.keysA_ren) { Try.keysA with } Fence.wide _ trivial rfl (by omega) r b _ D0 _ hr.lt (by rw [hr.cell]; rfl) hown
  have cS := AnyZI.sorted_in Try.sortedA Fence.wide 5 trivial trivial trivial trivial rfl (by omega) (sorts _) (enters_of Try.func31 (by kernel_rfl) rfl) 32 #[.pointer (some ⟨r, 0, none⟩)] trivial (enters_of Try.func32 (by kernel_rfl) rfl) _ _ (by rw [hsize]; exact Nat.le_trans hl (by decide)) (by rw [hsize]; omega) _ hseq
  change CallsIn _ _ Try.prog 26 _ _ _ at cS
  refine (callsIn_wide.1 cS).mono fun e w' ⟨v, ss, he, hS, hrow, hnil, hb⟩ => ⟨v, he, ?_⟩
  have hc : Chg (fun _ => False) w w' := ⟨hb.os, hb.tape, hb.output, hb.size, fun k hk _ => hb.block k hk⟩
  have hS : ss.Perm (intKeys D0) := hS
  have hperm2 : (ss.mergeSort (fun x y => decide (x ≤ y))).Perm (m.map (·.1)) := (List.mergeSort_perm _ _).trans (hS.trans hperm)
  have hsorted : (ss.mergeSort (fun x y => decide (x ≤ y))).Pairwise (· ≤ ·) := by
    have := List.pairwise_mergeSort (le := fun x y : Int => decide (x ≤ y)) (fun a b c h1 h2 => by simp at *; omega) (fun a b => by simp; omega) ss
    exact this.imp fun h => by simpa using h
  have hlen : (ss.mergeSort (fun x y => decide (x ≤ y))).length = ss.length := List.length_mergeSort _
  obtain ⟨hl1, h1 | ⟨g, cap, cur, hv, hbase, hg, r1, r2, r3, r4⟩⟩ := hrow
  · rw [h1.1]
    have : ss = [] := List.eq_nil_of_length_eq_zero h1.2
    subst this
    have e : ([] : List Int).mergeSort (fun x y => decide (x ≤ y)) = [] := by simp
    rw [e] at hperm2 hsorted
    exact hq w' none 0 0 [] hperm2 hsorted (Own.nil _ _ _) (fun k ⟨o, ho⟩ => by cases ho) hc
  · rw [hv]
    refine hq w' (some ⟨g, 0, none⟩) ss.length cap _ hperm2 hsorted ⟨r1, .inr ⟨g, 0, cur.toList, rfl, ?_, ?_, ?_⟩, ?_⟩ (fun k ⟨o, ho⟩ => by simp at ho; omega) hc
    · unfold Blk; rw [Array.toArray_toList]; exact hg
    · simp; omega
    · rw [List.drop_zero, r4]
    · intro v hv
      obtain ⟨x, _, rfl⟩ := List.mem_map.1 hv
      rfl
end Go.Proofs.Ytibalkkiefgljaa
