/- Whether two structs of plain cells are the same. -/
import Derived.Test.YtcemgjikmdbjgaaMem
import Derived.Laws.StructEq
namespace Go.Sh
open Go Go.Rg

def cellEq : Value → Value → Bool
  | .int _ a, .int _ b => a == b
  | .bool a, .bool b => a == b
  | .string a, .string b => a.toList == b.toList
  | _, _ => false
def allEq : List Value → List Value → Bool
  | a :: xs, b :: ys => cellEq a b && allEq xs ys
  | _, _ => true
def primB (P : Program) (t : TypeId) (a b : Value) : Bool := match P.underlying t, a, b with
  | some (.int _), .int k _, .int k' _ => decide (k = k')
  | some .bool, .bool _, .bool _ => true
  | some .string, .string _, .string _ => true
  | _, _, _ => false
def primsB (P : Program) : List Field → List Value → List Value → Bool
  | [], [], [] => true
  | f :: fs, a :: xs, b :: ys => primB P f.type a b && primsB P fs xs ys
  | _, _, _ => false
def flatB (P : Program) : List Field → Nat → Bool
  | [], _ => true
  | f :: fs, i => decide (f.name ≠ "_") && Nat.beq f.offset i && (match isAggT P f.type with | some false => true | _ => false) && flatB P fs (i + 1)

section
variable {P : Program}
theorem prim_run {t : TypeId} {a b : Value} (h : primB P t a b = true) (d : Nat) (w : World) : (Op.equalIn (d + 1) t a b).run P w = .ok (cellEq a b) w := by
  unfold primB at h
  split at h
  · rename_i k hu
    have := of_decide_eq_true h
    subst this
    exact run_equalIn_int w d t _ _ _ _ hu
  · rename_i hu; exact run_equalIn_bool' w d t _ _ hu
  · rename_i hu; exact run_equalIn_string w d t _ _ hu
  · cases h
theorem part_run {t : TypeId} {cs : Array Value} {i : Nat} {v : Value} (h : isAggT P t = some false) (hv : cs[i]? = some v) (w : World) : (part t cs i).run P w = .ok v w := by
  unfold part
  simp only [Sem.run_bind, (Reads.isAgg h w).run, Result.andThen_ok, Bool.false_eq_true, if_false, hv, Sem.run_pure]
theorem eqFields_run {X Y : Array Value} {d : Nat} {w : World} : ∀ (fs : List Field) (i : Nat) (xs ys : List Value), flatB P fs i = true → primsB P fs xs ys = true → (∀ j v, xs[j]? = some v → X[i + j]? = some v) → (∀ j v, ys[j]? = some v → Y[i + j]? = some v) →
    (Op.eqFields (d + 1) X Y fs).run P w = .ok (allEq xs ys) w
  | [], i, xs, ys, _, hp, _, _ => by
    match xs, ys, hp with
    | [], [], _ => rfl
  | f :: fs, i, xs, ys, hf, hp, hX, hY => by
    match xs, ys, hp with
    | a :: xs, b :: ys, hp =>
      simp only [flatB, Bool.and_eq_true, decide_eq_true_eq] at hf
      obtain ⟨⟨⟨hn, ho⟩, hag⟩, hf⟩ := hf
      have ho := Nat.eq_of_beq_eq_true ho
      have hag : isAggT P f.type = some false := by
        split at hag
        · assumption
        · cases hag
      simp only [primsB, Bool.and_eq_true] at hp
      simp only [Op.eqFields]
      rw [if_pos hn]
      have ha : X[f.offset]? = some a := by rw [ho]; exact hX 0 a rfl
      have hb : Y[f.offset]? = some b := by rw [ho]; exact hY 0 b rfl
      simp only [Sem.run_bind, part_run hag ha w, part_run hag hb w, Result.andThen_ok, prim_run hp.1 d w, allEq]
      cases hc : cellEq a b with
      | false => simp only [Bool.not_false, if_true, Sem.run_pure, Bool.false_and]
      | true =>
        simp only [Bool.not_true, Bool.false_eq_true, if_false, Bool.true_and]
        exact eqFields_run fs (i + 1) xs ys hf hp.2 (fun j v hj => by have := hX (j + 1) v (by simpa using hj); rwa [show i + (j + 1) = i + 1 + j by omega] at this) (fun j v hj => by have := hY (j + 1) v (by simpa using hj); rwa [show i + (j + 1) = i + 1 + j by omega] at this)
structure FlatT (P : Program) (t : TypeId) : Prop where
  und : P.underlying t = some (.struct (P.fieldsOf t))
  hst : P.stoodInHeld t = false
  hg : P.eqGuardType P.depth t = false
  flat : flatB P (P.fieldsOf t).toList 0 = true
theorem equal_struct {t : TypeId} (hT : FlatT P t) {xs ys : List Value} (hp : primsB P (P.fieldsOf t).toList xs ys = true) (d : Nat) (w : World) : (Op.equalIn (d + 2) t (.agg xs.toArray) (.agg ys.toArray)).run P w = .ok (allEq xs ys) w := by
  rw [run_equalIn_struct w (d + 1) t _ _ hT.und hT.hst]
  exact eqFields_run _ 0 xs ys hT.flat hp (fun j v hj => by simpa using hj) (fun j v hj => by simpa using hj)
theorem eqK_eql {t : TypeId} (hT : FlatT P t) {xo yo : Operand} {xs ys : List Value} (hp : primsB P (P.fieldsOf t).toList xs ys = true) {k : Bool → Prop} (hk : k (allEq xs ys)) : eqK P .eql t xo yo (.agg xs.toArray) (.agg ys.toArray) k := by
  refine ⟨_, fun w => ?_, hk⟩
  have h1 := run_eqGuard_agg (P := P) w .eql t xo yo xs.toArray ys.toArray hT.hg
  have h2 := run_eql_struct (P := P) w t xs.toArray ys.toArray
  rw [equal_struct hT hp 9998 w] at h2
  simp only [Sem.run_bind, h1, Result.andThen_ok, h2]
theorem eqK_neq {t : TypeId} (hT : FlatT P t) {xo yo : Operand} {xs ys : List Value} (hp : primsB P (P.fieldsOf t).toList xs ys = true) {k : Bool → Prop} (hk : k (!allEq xs ys)) : eqK P .neq t xo yo (.agg xs.toArray) (.agg ys.toArray) k := by
  refine ⟨_, fun w => ?_, hk⟩
  have h1 := run_eqGuard_agg (P := P) w .neq t xo yo xs.toArray ys.toArray hT.hg
  have h2 := run_neq_struct (P := P) w t xs.toArray ys.toArray
  rw [equal_struct hT hp 9998 w] at h2
  simp only [Sem.run_bind, h1, Result.andThen_ok, h2]
end
end Go.Sh
