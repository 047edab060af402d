/- A region that draws its order, walked once in the order of the text: proved for every order that its edges allow. -/
import Derived.Orders
import Derived.Deep.Quiet
namespace Go.Rg
open Go

/-- The heap of w' holds all that w's holds. -/
def Ext (w w' : World) : Prop := ∀ (b : Nat) (o : Obj), w.heap[b]? = some o → w'.heap[b]? = some o

theorem Ext.refl (w : World) : Ext w w := fun _ _ h => h

theorem Ext.alloc (w : World) (o : Obj) : Ext w { w with heap := w.heap.push o } := by
  intro b o' h
  have hlt : b < w.heap.size := by
    rcases Nat.lt_or_ge b w.heap.size with h' | h'
    · exact h'
    · simp [Array.getElem?_eq_none h'] at h
  show (w.heap.push o)[b]? = _
  rw [Array.getElem?_push, if_neg (by omega)]; exact h

theorem Ext.of_heap {w w' : World} (h : w'.heap = w.heap) : Ext w w' := fun b o hb => by rw [h]; exact hb

theorem Ext.cell {w w' : World} (h : Ext w w') {a : Addr} {v : Value} (hc : w.cell? a = some v) : w'.cell? a = some v := by
  unfold World.cell? at *
  cases hb : w.heap[a.block]? with
  | none => simp [hb] at hc
  | some o => rw [h _ _ hb]; rw [hb] at hc; exact hc

/-- What a load does: reads alone, by cells that are there. -/
inductive Reads (P : Program) {α : Type} : Sem α → World → α → Prop
  | pure (a : α) (w : World) : Reads P (.pure a) w a
  | load {m : Mode} {a : Addr} {k : Value → Sem α} {w : World} {v : Value} {r : α} (hc : w.cell? a = some v) (h : Reads P (k v) w r) : Reads P (.load m a k) w r
  | program {k : Program → Sem α} {w : World} {r : α} (h : Reads P (k P) w r) : Reads P (.program k) w r
  | map {b : Nat} {k : Obj → Sem α} {w : World} {es : Array MapEntry} {c : Nat} {r : α} (hc : w.heap[b]? = some (.map es c)) (h : Reads P (k (.map es c)) w r) : Reads P (.getObj b k) w r

theorem Reads.run {P : Program} {α : Type} {s : Sem α} {w : World} {r : α} (h : Reads P s w r) : s.run P w = .ok r w := by
  induction h with
  | pure a w => rfl
  | load hc h ih => simp only [Sem.run, hc]; exact ih
  | program h ih => simp only [Sem.run]; exact ih
  | map hc h ih => simp only [Sem.run, hc]; exact ih

theorem Reads.ext {P : Program} {α : Type} {s : Sem α} {w w' : World} {r : α} (he : Ext w w') (h : Reads P s w r) : Reads P s w' r := by
  induction h with
  | pure a w => exact .pure a _
  | load hc h ih => exact .load (he.cell hc) (ih he)
  | program h ih => exact .program (ih he)
  | map hc h ih => exact .map (he _ _ hc) (ih he)

theorem getD_replicate_false' (m j : Nat) : (Array.replicate m false).getD j false = false := by
  rcases Nat.lt_or_ge j m with h | h
  · simp [h]
  · simp [h]

section
variable {P : Program} {qs : List Nat} {ops : Array Oper}

def isMapT (P : Program) (t : Option TypeId) : Bool :=
  match t with
  | some t => match P.underlying t with | some (.map _ _) => true | _ => false
  | none => false
def isIntT (P : Program) (t : TypeId) : Bool := match P.underlying t with | some (.int _) => true | _ => false

/-- What an operation may do, by its kind: 0: nothing to memory; 1: reads; 2: makes one block; 3: anything; 4: a call that is to leave all that was there as it is ('qs': of these functions). -/
def cls (P : Program) (qs : List Nat) (o : Oper) : Nat :=
  match o.op with
  | .move _ | .assign _ | .pick .. | .build .. | .nilCheck _ | .binOp .. | .unOp .. | .slice .. | .fieldAddr .. | .field .. | .indexAddr .. | .index .. | .extract .. | .makeInterface .. | .makeFunc .. => 0
  | .convert s d _ => if isIntT P s && isIntT P d then 0 else 3
  | .load .. | .lookup .. => 1
  | .alloc _ | .box .. => 2
  | .buildSlice .. => 2
  | .call { callee := .value (.func f), .. } => if qs.any (Nat.beq f) then 4 else 3
  | .call { callee := .builtin .len, argTypes, .. } => if isMapT P argTypes[0]? then 1 else 0
  | .call { callee := .builtin .cap, .. } | .call { callee := .builtin .min, .. } | .call { callee := .builtin .max, .. } => 0
  | _ => 3

/-- What is shown of one operation that runs: in the order of the text. -/
def one (P : Program) (qs : List Nat) (o : Oper) (a : Act) (w : World) (K : Act → World → Prop) : Prop :=
  match cls P qs o with
  | 0 => ∃ v, (∀ w', (execOp a.eval o).run P w' = .ok (.value v) w') ∧ K (a.put o.dst v) w
  | 1 => ∃ v, Reads P (execOp a.eval o) w (.value v) ∧ K (a.put o.dst v) w
  | 2 => ∃ v ob, (execOp a.eval o).run P w = .ok (.value v) { w with heap := w.heap.push ob } ∧ K (a.put o.dst v) { w with heap := w.heap.push ob }
  | 4 => ∃ f args, (∀ w', (execOp a.eval o).run P w' = .ok (.enter f args) w') ∧ Calls P f args w fun e w' => ∃ v, e = .returned v ∧ Ext w w' ∧ K (a.put o.dst v) w'
  | _ => o.wp P a w K (fun _ _ _ => False)

theorem one_mono {o : Oper} {a : Act} {w : World} {K K' : Act → World → Prop} (h : ∀ a w, K a w → K' a w) (hh : one P qs o a w K) : one P qs o a w K' := by
  unfold one at *
  split at hh
  · obtain ⟨v, h1, h2⟩ := hh; exact ⟨v, h1, h _ _ h2⟩
  · obtain ⟨v, h1, h2⟩ := hh; exact ⟨v, h1, h _ _ h2⟩
  · obtain ⟨v, ob, h1, h2⟩ := hh; exact ⟨v, ob, h1, h _ _ h2⟩
  · obtain ⟨f, args, h1, h2⟩ := hh; exact ⟨f, args, h1, h2.mono fun _ _ ⟨v, he, hh, hk⟩ => ⟨v, he, hh, h _ _ hk⟩⟩
  · exact Oper.wp_mono h hh

def tOp (P : Program) (qs : List Nat) (ops : Array Oper) (i : Nat) (K : Act → World → Prop) (a : Act) (w : World) : Prop :=
  match ops[i]? with
  | none => K a w
  | some o => if Region.wanted o (yielded ops a.tmps) then one P qs o a w K else K (a.put o.dst undef) w

theorem tOp_mono {i : Nat} {a : Act} {w : World} {K K' : Act → World → Prop} (h : ∀ a w, K a w → K' a w) (hh : tOp P qs ops i K a w) : tOp P qs ops i K' a w := by
  unfold tOp at *
  split
  · exact h _ _ (by simpa [*] using hh)
  · rename_i o ho
    simp only [ho] at hh
    split
    · rename_i hw; simp only [hw, if_true] at hh; exact one_mono h hh
    · rename_i hw; simp only [hw] at hh; exact h _ _ hh

theorem one_wp {Q : Exit → Act → World → Prop} {o : Oper} {a : Act} {w : World} {K : Act → World → Prop} (h : one P qs o a w K) : o.wp P a w K Q := by
  unfold one at h
  split at h
  · obtain ⟨v, h1, h2⟩ := h; simp only [Oper.wp, h1 w, Oper.upon]; exact h2
  · obtain ⟨v, h1, h2⟩ := h; simp only [Oper.wp, h1.run, Oper.upon]; exact h2
  · obtain ⟨v, ob, h1, h2⟩ := h; simp only [Oper.wp, h1, Oper.upon]; exact h2
  · obtain ⟨f, args, h1, h2⟩ := h
    simp only [Oper.wp, h1, Oper.upon]
    refine h2.mono fun e w'' ⟨v, he, _, hk⟩ => ?_
    subst he; exact hk
  · unfold Oper.wp at *
    generalize (execOp a.eval o).run P w = r at *
    cases r with
    | ok n w' =>
      cases n <;> simp only [Oper.upon] at h ⊢ <;> first | exact h | skip
      case enter f args =>
        refine Calls.mono h fun e w'' he => ?_
        cases e with
        | returned v => exact he
        | panicked c => exact he.elim
        | outgrown => obtain ⟨_, _, hf⟩ := he; exact hf.elim
    | halt x w' => cases x <;> simp only [Oper.upon] at h ⊢

theorem tOp_wpOp {Q : Exit → Act → World → Prop} {i : Nat} {a : Act} {w : World} {K : Act → World → Prop} (h : tOp P qs ops i K a w) : wpOp P ops Q i K a w := by
  unfold tOp at h
  unfold wpOp
  split
  · rename_i ho; simp only [ho] at h; exact h
  · rename_i o ho
    simp only [ho] at h
    split
    · rename_i hw; simp only [hw, if_true] at h; exact .inl (one_wp h)
    · rename_i hw; simp only [hw] at h; exact h

/-- That there is an outcome. -/
theorem Calls.some {f : FuncId} {args : Array Value} {w : World} {R : Ending → World → Prop} (h : Calls P f args w R) : ∃ e w', R e w' :=
  let ⟨e, w', _, r, _⟩ := h []; ⟨e, w', r⟩

theorem upon_some {o : Oper} {a : Act} {K : Act → World → Prop} {r : Result Next} (h : o.upon P a K (fun _ _ _ => False) r) : ∃ u w' ds, K ({ a with defers := ds }.put o.dst u) w' := by
  cases r with
  | ok n w' =>
    cases n <;> simp only [Oper.upon] at h
    case value v => exact ⟨v, w', a.defers, h⟩
    case skip => exact ⟨undef, w', a.defers, h⟩
    case defer d => exact ⟨undef, w', _, h⟩
    case enter f args =>
      obtain ⟨e, w'', he⟩ := Calls.some h
      cases e with
      | returned v => exact ⟨v, w'', a.defers, he⟩
      | panicked c => exact he.elim
      | outgrown => obtain ⟨_, _, hf⟩ := he; exact hf.elim
    case row row args =>
      have : ∃ v w'', K (a.put o.dst v) w'' := by
        obtain ⟨v, w'', h1, _⟩ := h default []
        exact ⟨v, w'', h1⟩
      obtain ⟨v, w'', h1⟩ := this
      exact ⟨v, w'', a.defers, h1⟩
  | halt x w' => cases x <;> simp only [Oper.upon] at h

def compat (P : Program) (qs : List Nat) (x y : Oper) : Bool :=
  match cls P qs x, cls P qs y with
  | 0, _ => true
  | _, 0 => true
  | 1, 1 => true
  | 1, 2 => true
  | 1, 4 => true
  | _, _ => false

/-- 'x' stands ahead of 'y' in the text; neither waits for the other; both run. -/
theorem one_swap {x y : Oper} (hap : x.apart ops y = true) (hsx : ∀ cs b, x.op ≠ .select cs b) (hsy : ∀ cs b, y.op ≠ .select cs b) (hc : compat P qs x y = true)
    {K : Act → World → Prop} {a : Act} {w : World} (h : one P qs x a w (fun a' w' => one P qs y a' w' K)) : one P qs y a w (fun a' w' => one P qs x a' w' K) := by
  obtain ⟨h1, h2, h3⟩ := Oper.apart_spec hap
  have ex : ∀ v, execOp (a.put x.dst v).eval y = execOp a.eval y := fun v => execOp_put y hsy a x.dst v h1
  have ey : ∀ v, execOp (a.put y.dst v).eval x = execOp a.eval x := fun v => execOp_put x hsx a y.dst v h3
  have hcm : ∀ v u, (a.put x.dst v).put y.dst u = (a.put y.dst u).put x.dst v := fun v u => Act.put_comm a v u h2
  by_cases hx0 : cls P qs x = 0
  · -- x yields in every world
    have hx : ∃ v, (∀ w', (execOp a.eval x).run P w' = .ok (.value v) w') ∧ one P qs y (a.put x.dst v) w K := by simpa [one, hx0] using h
    obtain ⟨v, hv, hy⟩ := hx
    have key : ∀ (a' : Act) (u : Value) (w' : World), execOp a'.eval x = execOp a.eval x → K (a'.put x.dst v) w' → one P qs x a' w' K := fun a' u w' he hk => by
      simp only [one, hx0]
      exact ⟨v, fun w'' => by rw [he]; exact hv w'', hk⟩
    unfold one at hy ⊢
    split at hy
    · obtain ⟨u, hu, hk⟩ := hy
      exact ⟨u, fun w' => by rw [← ex v]; exact hu w', key _ u _ (ey u) (by rw [← hcm]; exact hk)⟩
    · obtain ⟨u, hu, hk⟩ := hy
      exact ⟨u, by rw [← ex v]; exact hu, key _ u _ (ey u) (by rw [← hcm]; exact hk)⟩
    · obtain ⟨u, ob, hu, hk⟩ := hy
      exact ⟨u, ob, by rw [← ex v]; exact hu, key _ u _ (ey u) (by rw [← hcm]; exact hk)⟩
    · obtain ⟨f, args, hu, hk⟩ := hy
      exact ⟨f, args, fun w' => by rw [← ex v]; exact hu w', hk.mono fun e w' ⟨u, he, hh, hk⟩ => ⟨u, he, hh, key _ u _ (ey u) (by rw [← hcm]; exact hk)⟩⟩
    · unfold Oper.wp at hy ⊢
      rw [ex v] at hy
      generalize (execOp a.eval y).run P w = r at hy ⊢
      cases r with
      | ok n w' =>
        cases n <;> simp only [Oper.upon] at hy ⊢
        case value u => exact key _ u _ (ey u) (by rw [← hcm]; exact hy)
        case skip => exact key _ undef _ (ey undef) (by rw [← hcm]; exact hy)
        case defer d =>
          have e0 : ({ a.put x.dst v with defers := d :: (a.put x.dst v).defers } : Act) = ({ a with defers := d :: a.defers } : Act).put x.dst v := Act.put_defers a x.dst v d
          refine key _ undef _ ?_ ?_
          · exact (execOp_put x hsx ({ a with defers := d :: a.defers } : Act) y.dst undef h3).trans rfl
          · rw [← Act.put_comm _ v undef h2, ← e0]; exact hy
        case enter f args =>
          refine Calls.mono hy fun e w'' he => ?_
          cases e with
          | returned u => exact key _ u _ (ey u) (by rw [← hcm]; exact he)
          | panicked c => exact he
          | outgrown => exact he
        case row row args => exact Rows.mono hy fun u w'' he => key _ u _ (ey u) (by rw [← hcm]; exact he)
      | halt z w' => cases z <;> simp only [Oper.upon] at hy ⊢
  · by_cases hy0 : cls P qs y = 0
    · -- y yields in every world
      have hyv : ∃ u, ∀ w', (execOp a.eval y).run P w' = .ok (.value u) w' := by
        have : ∃ v w' ds, one P qs y ({ a with defers := ds }.put x.dst v) w' K := by
          rw [one] at h
          split at h
          · obtain ⟨v, _, hk⟩ := h; exact ⟨v, _, a.defers, hk⟩
          · obtain ⟨v, _, hk⟩ := h; exact ⟨v, _, a.defers, hk⟩
          · obtain ⟨v, ob, _, hk⟩ := h; exact ⟨v, _, a.defers, hk⟩
          · obtain ⟨f, args, _, hk⟩ := h
            obtain ⟨e, w', v, _, _, hk⟩ := Calls.some hk
            exact ⟨v, w', a.defers, hk⟩
          · exact upon_some h
        obtain ⟨v, w', ds, hk⟩ := this
        have hk' : ∃ u, (∀ w'', (execOp (({ a with defers := ds } : Act).put x.dst v).eval y).run P w'' = .ok (.value u) w'') ∧ K ((({ a with defers := ds } : Act).put x.dst v).put y.dst u) w' := by simpa [one, hy0] using hk
        obtain ⟨u, hu, _⟩ := hk'
        refine ⟨u, fun w'' => ?_⟩
        have e1 : execOp (({ a with defers := ds } : Act).put x.dst v).eval y = execOp a.eval y := (execOp_put y hsy ({ a with defers := ds } : Act) x.dst v h1).trans rfl
        rw [← e1]; exact hu w''
      obtain ⟨u, hu⟩ := hyv
      -- whatever x does, y's value is u
      have get : ∀ (a' : Act) (w' : World), execOp a'.eval y = execOp a.eval y → one P qs y a' w' K → K (a'.put y.dst u) w' := fun a' w' he hk => by
        have hk' : ∃ u', (∀ w'', (execOp a'.eval y).run P w'' = .ok (.value u') w'') ∧ K (a'.put y.dst u') w' := by simpa [one, hy0] using hk
        obtain ⟨u', hu', hk2⟩ := hk'
        have h4 := hu' w'
        rw [he, hu w'] at h4
        have huu : u = u' := by injection h4 with h5 _; injection h5
        rw [huu]; exact hk2
      have goal : one P qs x (a.put y.dst u) w K := by
        rw [one] at h ⊢
        rw [ey u]
        split at h
        · obtain ⟨v, hv, hk⟩ := h; exact ⟨v, hv, by rw [← hcm]; exact get _ _ (ex v) hk⟩
        · obtain ⟨v, hv, hk⟩ := h; exact ⟨v, hv, by rw [← hcm]; exact get _ _ (ex v) hk⟩
        · obtain ⟨v, ob, hv, hk⟩ := h; exact ⟨v, ob, hv, by rw [← hcm]; exact get _ _ (ex v) hk⟩
        · obtain ⟨f, args, hv, hk⟩ := h
          exact ⟨f, args, hv, hk.mono fun e w' ⟨v, he, hh, hk⟩ => ⟨v, he, hh, by rw [← hcm]; exact get _ _ (ex v) hk⟩⟩
        · unfold Oper.wp at h ⊢
          rw [ey u]
          generalize (execOp a.eval x).run P w = r at h ⊢
          cases r with
          | ok n w' =>
            cases n <;> simp only [Oper.upon] at h ⊢
            case value v => rw [← hcm]; exact get _ _ (ex v) h
            case skip => rw [← hcm]; exact get _ _ (ex undef) h
            case defer d =>
              rw [Act.put_defers, ← Act.put_comm _ undef u h2]
              refine get _ _ ((execOp_put y hsy ({ a with defers := d :: a.defers } : Act) x.dst undef h1).trans rfl) h
            case enter f args =>
              refine Calls.mono h fun e w'' he => ?_
              cases e with
              | returned v => show K _ _; rw [← hcm]; exact get _ _ (ex v) he
              | panicked c => exact he
              | outgrown => exact he
            case row row args => exact Rows.mono h fun v w'' he => by show K _ _; rw [← hcm]; exact get _ _ (ex v) he
          | halt z w' => cases z <;> simp only [Oper.upon] at h ⊢
      have : ∃ v, (∀ w', (execOp a.eval y).run P w' = .ok (.value v) w') ∧ one P qs x (a.put y.dst v) w K := ⟨u, hu, goal⟩
      simpa [one, hy0] using this
    · -- two that touch memory
      have hcase : cls P qs x = 1 ∧ (cls P qs y = 1 ∨ cls P qs y = 2 ∨ cls P qs y = 4) := by
        unfold compat at hc
        split at hc <;> simp_all
      obtain ⟨hx1, hy12⟩ := hcase
      · have hx : ∃ v, Reads P (execOp a.eval x) w (.value v) ∧ one P qs y (a.put x.dst v) w K := by simpa [one, hx1] using h
        obtain ⟨v, hv, hy⟩ := hx
        rcases hy12 with hy1 | hy2 | hy4
        · have hy' : ∃ u, Reads P (execOp (a.put x.dst v).eval y) w (.value u) ∧ K ((a.put x.dst v).put y.dst u) w := by simpa [one, hy1] using hy
          obtain ⟨u, hu, hk⟩ := hy'
          have g : one P qs x (a.put y.dst u) w K := by
            simp only [one, hx1]
            exact ⟨v, by rw [ey u]; exact hv, by rw [← hcm]; exact hk⟩
          simp only [one, hy1]
          exact ⟨u, by rw [← ex v]; exact hu, by simpa [one, hx1] using g⟩
        · have hy' : ∃ u ob, (execOp (a.put x.dst v).eval y).run P w = .ok (.value u) { w with heap := w.heap.push ob } ∧ K ((a.put x.dst v).put y.dst u) { w with heap := w.heap.push ob } := by simpa [one, hy2] using hy
          obtain ⟨u, ob, hu, hk⟩ := hy'
          have g : one P qs x (a.put y.dst u) { w with heap := w.heap.push ob } K := by
            simp only [one, hx1]
            exact ⟨v, by rw [ey u]; exact hv.ext (Ext.alloc w ob), by rw [← hcm]; exact hk⟩
          simp only [one, hy2]
          exact ⟨u, ob, by rw [← ex v]; exact hu, by simpa [one, hx1] using g⟩
        · have hy' : ∃ f args, (∀ w', (execOp (a.put x.dst v).eval y).run P w' = .ok (.enter f args) w') ∧ Calls P f args w fun e w' => ∃ u, e = .returned u ∧ Ext w w' ∧ K ((a.put x.dst v).put y.dst u) w' := by simpa [one, hy4] using hy
          obtain ⟨f, args, hu, hk⟩ := hy'
          have g : ∃ f args, (∀ w', (execOp a.eval y).run P w' = .ok (.enter f args) w') ∧ Calls P f args w fun e w' => ∃ u, e = .returned u ∧ Ext w w' ∧ one P qs x (a.put y.dst u) w' K :=
            ⟨f, args, fun w' => by rw [← ex v]; exact hu w', hk.mono fun e w' ⟨u, he, hh, hk⟩ => ⟨u, he, hh, by
              simp only [one, hx1]
              exact ⟨v, by rw [ey u]; exact hv.ext hh, by rw [← hcm]; exact hk⟩⟩⟩
          rw [one]
          simp only [hy4]
          exact g

/-- The operations that are left, in the order of the text. -/
def TR (P : Program) (qs : List Nat) (ops : Array Oper) (Q : Act → World → Prop) : List Nat → Act → World → Prop
  | [], a, w => Q a w
  | i :: rest, a, w => tOp P qs ops i (TR P qs ops Q rest) a w

theorem tOp_swap {i j : Nat} {x y : Oper} (hi : ops[i]? = some x) (hj : ops[j]? = some y) (hap : x.apart ops y = true) (hsx : ∀ cs b, x.op ≠ .select cs b) (hsy : ∀ cs b, y.op ≠ .select cs b)
    (hc : compat P qs x y = true) {K : Act → World → Prop} {a : Act} {w : World} (h : tOp P qs ops i (tOp P qs ops j K) a w) : tOp P qs ops j (tOp P qs ops i K) a w := by
  obtain ⟨h1, h2, h3⟩ := Oper.apart_spec hap
  have wy : ∀ (a : Act) v, Region.wanted y (yielded ops (a.put x.dst v).tmps) = Region.wanted y (yielded ops a.tmps) := fun a v => wanted_put y a x.dst v h1
  have wx : ∀ (a : Act) v, Region.wanted x (yielded ops (a.put y.dst v).tmps) = Region.wanted x (yielded ops a.tmps) := fun a v => wanted_put x a y.dst v h3
  have ex : ∀ v, execOp (a.put x.dst v).eval y = execOp a.eval y := fun v => execOp_put y hsy a x.dst v h1
  have ey : ∀ v, execOp (a.put y.dst v).eval x = execOp a.eval x := fun v => execOp_put x hsx a y.dst v h3
  have hcm : ∀ (a : Act) v u, (a.put x.dst v).put y.dst u = (a.put y.dst u).put x.dst v := fun a v u => Act.put_comm a v u h2
  by_cases hwx : Region.wanted x (yielded ops a.tmps) = true
  · by_cases hwy : Region.wanted y (yielded ops a.tmps) = true
    · -- both run
      have keepy : ∀ (a' : Act) (w' : World) (ds : List Deferred) v, a' = ({ a with defers := ds } : Act).put x.dst v → tOp P qs ops j K a' w' → one P qs y a' w' K := fun a' w' ds v he hk => by
        unfold tOp at hk
        simp only [hj] at hk
        have : Region.wanted y (yielded ops a'.tmps) = true := by rw [he]; exact (wy { a with defers := ds } v).trans hwy
        simpa only [this, if_true] using hk
      have keepx : ∀ (a' : Act) (w' : World) (ds : List Deferred) v, a' = ({ a with defers := ds } : Act).put y.dst v → one P qs x a' w' K → tOp P qs ops i K a' w' := fun a' w' ds v he hk => by
        unfold tOp
        simp only [hi]
        have : Region.wanted x (yielded ops a'.tmps) = true := by rw [he]; exact (wx { a with defers := ds } v).trans hwx
        simpa only [this, if_true] using hk
      have hx : one P qs x a w (fun a' w' => ∃ ds v, a' = ({ a with defers := ds } : Act).put x.dst v ∧ tOp P qs ops j K a' w') := by
        have hx0 : one P qs x a w (tOp P qs ops j K) := by
          rw [tOp] at h
          simpa only [hi, hwx, if_true] using h
        rw [one] at hx0 ⊢
        split at hx0
        · obtain ⟨v, hv, hk⟩ := hx0; exact ⟨v, hv, a.defers, v, rfl, hk⟩
        · obtain ⟨v, hv, hk⟩ := hx0; exact ⟨v, hv, a.defers, v, rfl, hk⟩
        · obtain ⟨v, ob, hv, hk⟩ := hx0; exact ⟨v, ob, hv, a.defers, v, rfl, hk⟩
        · obtain ⟨f, args, hv, hk⟩ := hx0; exact ⟨f, args, hv, hk.mono fun _ _ ⟨v, he, hh, hk⟩ => ⟨v, he, hh, a.defers, v, rfl, hk⟩⟩
        · unfold Oper.wp at hx0 ⊢
          generalize (execOp a.eval x).run P w = r at hx0 ⊢
          cases r with
          | ok n w' =>
            cases n <;> simp only [Oper.upon] at hx0 ⊢
            case value v => exact ⟨a.defers, v, rfl, hx0⟩
            case skip => exact ⟨a.defers, undef, rfl, hx0⟩
            case defer d => exact ⟨_, undef, rfl, hx0⟩
            case enter f args =>
              refine Calls.mono hx0 fun e w'' he => ?_
              cases e with
              | returned v => exact ⟨a.defers, v, rfl, he⟩
              | panicked c => exact he
              | outgrown => obtain ⟨_, _, hf⟩ := he; exact hf.elim
            case row row args => exact Rows.mono hx0 fun v w'' he => ⟨a.defers, v, rfl, he⟩
          | halt z w' => cases z <;> simp only [Oper.upon] at hx0 ⊢
      have hx' : one P qs x a w (fun a' w' => one P qs y a' w' K) := one_mono (fun a' w' ⟨ds, v, he, hk⟩ => keepy a' w' ds v he hk) hx
      have hs := one_swap hap hsx hsy hc hx'
      have hs2 : one P qs y a w (fun a' w' => ∃ ds v, a' = ({ a with defers := ds } : Act).put y.dst v ∧ one P qs x a' w' K) := by
        rw [one] at hs ⊢
        split at hs
        · obtain ⟨v, hv, hk⟩ := hs; exact ⟨v, hv, a.defers, v, rfl, hk⟩
        · obtain ⟨v, hv, hk⟩ := hs; exact ⟨v, hv, a.defers, v, rfl, hk⟩
        · obtain ⟨v, ob, hv, hk⟩ := hs; exact ⟨v, ob, hv, a.defers, v, rfl, hk⟩
        · obtain ⟨f, args, hv, hk⟩ := hs; exact ⟨f, args, hv, hk.mono fun _ _ ⟨v, he, hh, hk⟩ => ⟨v, he, hh, a.defers, v, rfl, hk⟩⟩
        · unfold Oper.wp at hs ⊢
          generalize (execOp a.eval y).run P w = r at hs ⊢
          cases r with
          | ok n w' =>
            cases n <;> simp only [Oper.upon] at hs ⊢
            case value v => exact ⟨a.defers, v, rfl, hs⟩
            case skip => exact ⟨a.defers, undef, rfl, hs⟩
            case defer d => exact ⟨_, undef, rfl, hs⟩
            case enter f args =>
              refine Calls.mono hs fun e w'' he => ?_
              cases e with
              | returned v => exact ⟨a.defers, v, rfl, he⟩
              | panicked c => exact he
              | outgrown => obtain ⟨_, _, hf⟩ := he; exact hf.elim
            case row row args => exact Rows.mono hs fun v w'' he => ⟨a.defers, v, rfl, he⟩
          | halt z w' => cases z <;> simp only [Oper.upon] at hs ⊢
      unfold tOp
      simp only [hj, hwy, if_true]
      exact one_mono (fun a' w' ⟨ds, v, he, hk⟩ => keepx a' w' ds v he hk) hs2
    · -- y is passed over
      have hx0 : one P qs x a w (tOp P qs ops j K) := by
        rw [tOp] at h
        simpa only [hi, hwx, if_true] using h
      have fin : ∀ (ds : List Deferred) (v : Value) (w' : World), tOp P qs ops j K (({ a with defers := ds } : Act).put x.dst v) w' → K ((({ a with defers := ds } : Act).put y.dst undef).put x.dst v) w' := fun ds v w' hk => by
        unfold tOp at hk
        simp only [hj] at hk
        rw [wy] at hk
        simp only [hwy] at hk
        rw [← hcm]; exact hk
      unfold tOp
      simp only [hj, hwy, hi]
      rw [wx]
      simp only [hwx, if_true]
      show one P qs x (a.put y.dst undef) w K
      rw [one] at hx0 ⊢
      rw [ey undef]
      have e0 : ∀ ds, ({ a with defers := ds } : Act).put y.dst undef = { a.put y.dst undef with defers := ds } := fun ds => by cases y.dst <;> rfl
      split at hx0
      · obtain ⟨v, hv, hk⟩ := hx0; exact ⟨v, hv, fin a.defers v _ hk⟩
      · obtain ⟨v, hv, hk⟩ := hx0; exact ⟨v, hv, fin a.defers v _ hk⟩
      · obtain ⟨v, ob, hv, hk⟩ := hx0; exact ⟨v, ob, hv, fin a.defers v _ hk⟩
      · obtain ⟨f, args, hv, hk⟩ := hx0; exact ⟨f, args, hv, hk.mono fun _ _ ⟨v, he, hh, hk⟩ => ⟨v, he, hh, fin a.defers v _ hk⟩⟩
      · unfold Oper.wp at hx0 ⊢
        rw [ey undef]
        generalize (execOp a.eval x).run P w = r at hx0 ⊢
        cases r with
        | ok n w' =>
          cases n <;> simp only [Oper.upon] at hx0 ⊢
          case value v => exact fin a.defers v _ hx0
          case skip => exact fin a.defers undef _ hx0
          case defer d =>
            have := fin (d :: a.defers) undef _ hx0
            rw [e0] at this
            have e1 : (a.put y.dst undef).defers = a.defers := by cases y.dst <;> rfl
            rw [e1]; exact this
          case enter f args =>
            refine Calls.mono hx0 fun e w'' he => ?_
            cases e with
            | returned v => exact fin a.defers v _ he
            | panicked c => exact he
            | outgrown => obtain ⟨_, _, hf⟩ := he; exact hf.elim
          case row row args => exact Rows.mono hx0 fun v w'' he => fin a.defers v _ he
        | halt z w' => cases z <;> simp only [Oper.upon] at hx0 ⊢
  · -- x is passed over
    have hk : tOp P qs ops j K (a.put x.dst undef) w := by
      unfold tOp at h
      simp only [hi, hwx] at h
      exact h
    unfold tOp at hk
    simp only [hj] at hk
    rw [wy] at hk
    unfold tOp
    simp only [hj]
    have fin : ∀ (ds : List Deferred) (v : Value) (w' : World), K ((({ a with defers := ds } : Act).put x.dst undef).put y.dst v) w' → tOp P qs ops i K (({ a with defers := ds } : Act).put y.dst v) w' := fun ds v w' hk => by
      unfold tOp
      simp only [hi]
      rw [wx]
      simp only [hwx]
      rw [← hcm]; exact hk
    by_cases hwy : Region.wanted y (yielded ops a.tmps) = true
    · simp only [hwy, if_true] at hk ⊢
      show one P qs y a w (tOp P qs ops i K)
      rw [one] at hk ⊢
      rw [ex undef] at hk
      split at hk
      · obtain ⟨v, hv, hk⟩ := hk; exact ⟨v, hv, fin a.defers v _ hk⟩
      · obtain ⟨v, hv, hk⟩ := hk; exact ⟨v, hv, fin a.defers v _ hk⟩
      · obtain ⟨v, ob, hv, hk⟩ := hk; exact ⟨v, ob, hv, fin a.defers v _ hk⟩
      · obtain ⟨f, args, hv, hk⟩ := hk; exact ⟨f, args, hv, hk.mono fun _ _ ⟨v, he, hh, hk⟩ => ⟨v, he, hh, fin a.defers v _ hk⟩⟩
      · unfold Oper.wp at hk ⊢
        rw [ex undef] at hk
        generalize (execOp a.eval y).run P w = r at hk ⊢
        cases r with
        | ok n w' =>
          cases n <;> simp only [Oper.upon] at hk ⊢
          case value v => exact fin a.defers v _ hk
          case skip => exact fin a.defers undef _ hk
          case defer d =>
            refine fin (d :: a.defers) undef _ ?_
            have e0 : ({ a with defers := d :: a.defers } : Act).put x.dst undef = { a.put x.dst undef with defers := d :: (a.put x.dst undef).defers } := by cases x.dst <;> rfl
            rw [e0]; exact hk
          case enter f args =>
            refine Calls.mono hk fun e w'' he => ?_
            cases e with
            | returned v => exact fin a.defers v _ he
            | panicked c => exact he
            | outgrown => obtain ⟨_, _, hf⟩ := he; exact hf.elim
          case row row args => exact Rows.mono hk fun v w'' he => fin a.defers v _ he
        | halt z w' => cases z <;> simp only [Oper.upon] at hk ⊢
    · simp only [hwy] at hk ⊢
      exact fin a.defers undef _ hk

def okPair (P : Program) (qs : List Nat) (ops : Array Oper) (i j : Nat) : Bool :=
  match ops[i]?, ops[j]? with
  | some x, some y => x.apart ops y && compat P qs x y
  | _, _ => false

theorem TR_pull {Q : Act → World → Prop} (hs : Region.noSelect ops = true) {j : Nat} {rest : List Nat} : ∀ (is : List Nat), (∀ i ∈ is, okPair P qs ops i j = true) → ∀ (a : Act) (w : World),
    TR P qs ops Q (is ++ j :: rest) a w → tOp P qs ops j (TR P qs ops Q (is ++ rest)) a w
  | [], _, _, _, h => h
  | i :: is, hi, a, w, h => by
    have h1 : tOp P qs ops i (tOp P qs ops j (TR P qs ops Q (is ++ rest))) a w := tOp_mono (fun a' w' h' => TR_pull hs is (fun k hk => hi k (by simp [hk])) a' w' h') h
    have h2 := hi i (by simp)
    unfold okPair at h2
    split at h2
    · rename_i x y hx hy
      simp only [Bool.and_eq_true] at h2
      exact tOp_swap hx hy h2.1 (fun cs b => Region.noSelect_spec hs i x cs b hx) (fun cs b => Region.noSelect_spec hs j y cs b hy) h2.2 h1
    · cases h2

/-- Which operations stand behind which, by all steps: as masks. -/
def masksOk (ops : Array Oper) (B : Array Nat) : Bool :=
  (List.range ops.size).all fun j => match ops[j]? with
    | none => true
    | some o => o.after.all (fun e => !Region.binds .any e || decide (e.on < j)) &&
      (List.range j).all fun i => !(B.getD j 0).testBit i || o.after.any fun e => Region.binds .any e && (e.on == i || (decide (i < e.on) && (B.getD e.on 0).testBit i))
def pairsOk (P : Program) (qs : List Nat) (ops : Array Oper) (B : Array Nat) : Bool :=
  (List.range ops.size).all fun j => (List.range j).all fun i => (B.getD j 0).testBit i || okPair P qs ops i j

def textOk (P : Program) (qs : List Nat) (ops : Array Oper) : Bool := Region.noSelect ops && masksOk ops (Region.before ops) && pairsOk P qs ops (Region.before ops)

structure Inv (ops : Array Oper) (B : Array Nat) (listed : Array Bool) : Prop where
  size : listed.size = ops.size
  closed : ∀ j, listed.getD j false = true → ∀ i, i < j → (B.getD j 0).testBit i = true → listed.getD i false = true

def left (ops : Array Oper) (listed : Array Bool) : List Nat := (List.range ops.size).filter fun i => !listed.getD i true

theorem ready_closed {B : Array Nat} {listed : Array Bool} (hm : masksOk ops B = true) (inv : Inv ops B listed) {j : Nat} (hj : j ∈ Region.ready .any ops listed) : ∀ i, i < j → (B.getD j 0).testBit i = true → listed.getD i false = true := by
  intro i hij hb
  obtain ⟨_, o, ho, hall⟩ := mem_ready.1 hj
  have hjs : j < ops.size := (Array.getElem?_eq_some_iff.1 ho).1
  have h1 := List.all_eq_true.1 hm j (List.mem_range.2 hjs)
  simp only [ho, Bool.and_eq_true] at h1
  have h2 := List.all_eq_true.1 h1.2 i (List.mem_range.2 hij)
  simp only [hb, Bool.not_true, Bool.false_or] at h2
  obtain ⟨e, he, hbe⟩ := Array.any_eq_true'.1 h2
  simp only [Bool.and_eq_true, Bool.or_eq_true, beq_iff_eq, decide_eq_true_eq] at hbe
  have hl := hall e he hbe.1
  rcases hbe.2 with h3 | ⟨hie, h3⟩
  · rw [← h3]; exact hl
  · exact inv.closed e.on hl i hie h3

theorem filter_split (p : Nat → Bool) : ∀ (n j : Nat), j < n → p j = true → (List.range n).filter p = (List.range j).filter p ++ j :: ((List.range' (j + 1) (n - (j + 1))).filter p) := by
  intro n j hj hp
  have h1 : List.range n = List.range j ++ j :: List.range' (j + 1) (n - (j + 1)) := by
    rw [List.range_eq_range', List.range_eq_range']
    obtain ⟨m, rfl⟩ : ∃ m, n = j + (m + 1) := ⟨n - (j + 1), by omega⟩
    rw [← List.range'_append_1, List.range'_succ]
    simp only [Nat.zero_add]
    rw [show j + (m + 1) - (j + 1) = m from by omega]
  rw [h1, List.filter_append, List.filter_cons, hp]
  simp

theorem mem_left {listed : Array Bool} {i : Nat} : i ∈ left ops listed ↔ i < ops.size ∧ listed.getD i true = false := by
  unfold left; simp

theorem left_set {listed : Array Bool} {j : Nat} (hj : j < ops.size) (hu : listed.getD j true = false) (hsz : listed.size = ops.size) :
    ∃ is rest, left ops listed = is ++ j :: rest ∧ left ops (listed.setIfInBounds j true) = is ++ rest ∧ ∀ i ∈ is, i < j ∧ listed.getD i true = false := by
  have h1 := filter_split (fun i => !listed.getD i true) ops.size j hj (by simp [hu])
  refine ⟨_, _, h1, ?_, fun i hi => ?_⟩
  · unfold left
    have hr : List.range ops.size = List.range j ++ j :: List.range' (j + 1) (ops.size - (j + 1)) := by
      rw [List.range_eq_range', List.range_eq_range']
      obtain ⟨m, hm⟩ : ∃ m, ops.size = j + (m + 1) := ⟨ops.size - (j + 1), by omega⟩
      rw [hm, ← List.range'_append_1, List.range'_succ]
      simp only [Nat.zero_add]
      rw [show j + (m + 1) - (j + 1) = m from by omega]
    rw [hr, List.filter_append, List.filter_cons]
    have hjt : (listed.setIfInBounds j true).getD j true = true := by
      simp [hsz, hj]
    rw [hjt]
    simp only [Bool.not_true, Bool.false_eq_true, if_false]
    congr 1
    · refine List.filter_congr fun i hi => ?_
      have : j ≠ i := by have := List.mem_range.1 hi; omega
      rw [getD_set_ne true this]
    · refine List.filter_congr fun i hi => ?_
      have : j ≠ i := by have := (List.mem_range'_1.1 hi).1; omega
      rw [getD_set_ne true this]
  · have := List.mem_filter.1 hi
    exact ⟨List.mem_range.1 this.1, by simpa using this.2⟩

theorem TR_any {Q : Exit → Act → World → Prop} (ht : textOk P qs ops = true) : ∀ (fuel : Nat) (listed : Array Bool) (a : Act) (w : World), Inv ops (Region.before ops) listed → (left ops listed).length ≤ fuel →
    TR P qs ops (Q .normal) (left ops listed) a w → wpAny P .any ops Q fuel listed a w := by
  have ht' := ht
  unfold textOk at ht'
  simp only [Bool.and_eq_true] at ht'
  obtain ⟨⟨hs, hm⟩, hp⟩ := ht'
  intro fuel
  induction fuel with
  | zero =>
    intro listed a w inv hl h
    have h0 : left ops listed = [] := List.eq_nil_of_length_eq_zero (by omega)
    rw [h0] at h
    refine ⟨?_, h⟩
    cases hr : Region.ready .any ops listed with
    | nil => rfl
    | cons i r =>
      have hi : i ∈ Region.ready .any ops listed := by rw [hr]; simp
      obtain ⟨hu, o, ho, _⟩ := mem_ready.1 hi
      have : i ∈ left ops listed := mem_left.2 ⟨(Array.getElem?_eq_some_iff.1 ho).1, hu⟩
      rw [h0] at this; cases this
  | succ fuel ih =>
    intro listed a w inv hl h
    refine ⟨fun hr => ?_, fun j hj => ?_⟩
    · -- none may come up: none is left
      have h0 : left ops listed = [] := by
        cases hle : left ops listed with
        | nil => rfl
        | cons i r =>
          exfalso
          -- the first one that is left may come up
          have hi : i ∈ left ops listed := by rw [hle]; simp
          obtain ⟨his, hiu⟩ := mem_left.1 hi
          have hfirst : ∀ k, k < i → listed.getD k true = true := fun k hk => by
            cases hkk : listed.getD k true
            · have hkl : k ∈ left ops listed := mem_left.2 ⟨by omega, hkk⟩
              obtain ⟨is, rest, e1, _, e3⟩ := left_set (ops := ops) his hiu inv.size
              rw [hle] at e1
              cases is with
              | nil =>
                simp only [List.nil_append, List.cons.injEq] at e1
                have hsort : (left ops listed).Pairwise (· < ·) := List.pairwise_lt_range.filter _
                rw [hle] at hsort hkl
                rcases List.mem_cons.1 hkl with h5 | h5
                · omega
                · have := (List.pairwise_cons.1 hsort).1 k h5; omega
              | cons x xs =>
                simp only [List.cons_append, List.cons.injEq] at e1
                have := (e3 x (by simp)).1
                omega
            · rfl
          have hir : i ∈ Region.ready .any ops listed := by
            refine mem_ready.2 ⟨hiu, ops[i], Array.getElem?_eq_getElem his, fun e he hb => ?_⟩
            have h1 := List.all_eq_true.1 hm i (List.mem_range.2 his)
            rw [Array.getElem?_eq_getElem his] at h1
            simp only [Bool.and_eq_true] at h1
            have h4 := Array.all_eq_true_iff_forall_mem.1 h1.1 e he
            simp only [hb, Bool.not_true, Bool.false_or, decide_eq_true_eq] at h4
            have h5 := hfirst e.on h4
            have : e.on < listed.size := by rw [inv.size]; omega
            simp [this] at h5 ⊢
            exact h5
          rw [hr] at hir; cases hir
      rw [h0] at h
      exact h
    · obtain ⟨hu, o, ho, hall⟩ := mem_ready.1 hj
      have hjs : j < ops.size := (Array.getElem?_eq_some_iff.1 ho).1
      obtain ⟨is, rest, e1, e2, e3⟩ := left_set (ops := ops) hjs hu inv.size
      rw [e1] at h
      have hcl := ready_closed hm inv hj
      have hpull := TR_pull hs is (fun i hi => by
        obtain ⟨hij, hiu⟩ := e3 i hi
        have h6 := List.all_eq_true.1 (List.all_eq_true.1 hp j (List.mem_range.2 hjs)) i (List.mem_range.2 hij)
        cases hb : ((Region.before ops).getD j 0).testBit i
        · simp only [hb, Bool.false_or] at h6; exact h6
        · have h7 := hcl i hij hb
          have : i < listed.size := by rw [inv.size]; omega
          simp [this] at h7 hiu
          rw [hiu] at h7; cases h7) a w h
      refine tOp_wpOp (tOp_mono (fun a' w' h' => ih (listed.setIfInBounds j true) a' w' ?_ ?_ (by rw [e2]; exact h')) hpull)
      · refine ⟨by simp [inv.size], fun k hk i hik hb => ?_⟩
        by_cases hjk : j = k
        · subst hjk; exact getD_set_true (hcl i hik hb)
        · rw [getD_set_ne false hjk] at hk
          exact getD_set_true (inv.closed k hk i hik hb)
      · rw [e2]
        rw [e1] at hl
        simp at hl ⊢
        omega

/-- **A REGION THAT DRAWS ITS ORDER, WALKED IN THE ORDER OF THE TEXT.** -/
theorem wp_text {id : Nat} {Q : Exit → Act → World → Prop} {a : Act} {w : World} (hm : P.follows .mixedOrders = true) (ht : textOk P qs ops = true)
    (h : TR P qs ops (Q .normal) (List.range ops.size) a { w with drawn := w.drawn + 1 }) : (Code.region id ops true).wp P Q a w := by
  refine wp_region_any hm (TR_any ht ops.size _ a _ ⟨by simp, fun j hj => ?_⟩ ?_ ?_)
  · rw [getD_replicate_false'] at hj; cases hj
  · exact Nat.le_trans (List.length_filter_le _ _) (by simp)
  · have : left ops (Array.replicate ops.size false) = List.range ops.size := by
      unfold left
      refine List.filter_eq_self.2 fun i hi => ?_
      have := List.mem_range.1 hi
      simp [this]
    rw [this]; exact h
end
end Go.Rg
