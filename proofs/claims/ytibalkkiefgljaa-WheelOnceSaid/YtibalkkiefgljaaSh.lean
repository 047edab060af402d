/- What a Go function's code comes to, said over typed values: 'G' reads a function's code as a formula; 'G_sound' shows that the formula suffices for the call. -/
import Derived.Test.YtibalkkiefgljaaRt
import Derived.LoopN
import Derived.Tactics
namespace Go.Sh
open Go Go.Rg

/-! The primitives of the formulas. -/
def br (b : Bool) (x y : Prop) : Prop := match b with | true => x | false => y
@[simp] theorem br_true (x y : Prop) : br true x y = x := rfl
@[simp] theorem br_false (x y : Prop) : br false x y = y := rfl
theorem br_of {b : Bool} {x y : Prop} (h1 : b = true → x) (h2 : b = false → y) : br b x y := by cases b; exact h2 rfl; exact h1 rfl

def callV (P : Program) (f : FuncId) (args : Array Value) (w : World) (k : Value → World → Prop) : Prop :=
  Calls P f args w fun e w' => ∃ v, e = .returned v ∧ k v w'
theorem callV_mono {P : Program} {f : FuncId} {args : Array Value} {w : World} {k k' : Value → World → Prop} (h : callV P f args w k) (hk : ∀ v w', k v w' → k' v w') : callV P f args w k' :=
  h.mono fun _ _ ⟨v, he, h⟩ => ⟨v, he, hk _ _ h⟩

/-- .. of a function that leaves all that was there as it is. -/
def callQ (P : Program) (f : FuncId) (args : Array Value) (w : World) (k : Value → World → Prop) : Prop :=
  Calls P f args w fun e w' => ∃ v, e = .returned v ∧ Ext w w' ∧ k v w'
theorem callQ_mono {P : Program} {f : FuncId} {args : Array Value} {w : World} {k k' : Value → World → Prop} (h : callQ P f args w k) (hk : ∀ v w', k v w' → k' v w') : callQ P f args w k' :=
  h.mono fun _ _ ⟨v, he, hh, h⟩ => ⟨v, he, hh, hk _ _ h⟩
theorem callQ_of {P : Program} {f : FuncId} {args : Array Value} {w : World} {k : Value → World → Prop} (h : callV P f args w fun v w' => Ext w w' ∧ k v w') : callQ P f args w k := h
/-- An operation of the model that is left as it stands. -/
def runK (P : Program) {α : Type} (s : Sem α) (w : World) (k : α → World → Prop) : Prop := ∃ v w', s.run P w = .ok v w' ∧ k v w'
/-- .. of one that has nothing to do with memory. -/
def pureK (P : Program) {α : Type} (s : Sem α) (k : α → Prop) : Prop := ∃ v, (∀ w, s.run P w = .ok v w) ∧ k v

/-- An operation of the model, left as it stands, that yields a value; that yields none; that only reads. -/
def runV (P : Program) (s : Sem Value) (w : World) (k : Value → World → Prop) : Prop := ∃ v w', s.run P w = .ok v w' ∧ k v w'
def runU (P : Program) (s : Sem Unit) (w : World) (k : World → Prop) : Prop := ∃ w', s.run P w = .ok () w' ∧ k w'
def rdV (P : Program) (s : Sem Value) (w : World) (k : Value → Prop) : Prop := ∃ v, Reads P s w v ∧ k v
def al (w : World) (o : Obj) (k : Nat → World → Prop) : Prop := k w.heap.size { w with heap := w.heap.push o }
def dr (w : World) (k : World → Prop) : Prop := k { w with drawn := w.drawn + 1 }
def st (w : World) (a : Addr) (v : Value) (k : World → Prop) : Prop := (∃ u, w.cell? a = some u) ∧ w.frozen? a = false ∧ v.oneCell' = true ∧ k (w.setCell a v)
def stL (w : World) (a : Addr) : Nat → List Value → (World → Prop) → Prop
  | _, [], k => k w
  | i, v :: vs, k => st w (a.add i) v fun w' => stL w' a (i + 1) vs k
def need (p : Option Addr) (k : Addr → Prop) : Prop := match p with | some a => k a | none => False
@[simp] theorem need_some (a : Addr) (k : Addr → Prop) : need (some a) k = k a := rfl
def idx (p : Option Addr) (n sz : Nat) (i : Int) (k : Addr → Prop) : Prop := 0 ≤ i ∧ i < n ∧ need p fun a => k (a.add (i.toNat * sz))
def slc (p : Option Addr) (len cap sz : Nat) (lo hi mx : Option Int) (k : Option Addr → Nat → Nat → Prop) : Prop :=
  let m := mx.getD cap
  let h := hi.getD len
  let l := lo.getD 0
  0 ≤ m ∧ m ≤ cap ∧ 0 ≤ h ∧ h ≤ m ∧ 0 ≤ l ∧ l ≤ h ∧ (mx.isSome = true → hi.isSome = true) ∧ k (if m.toNat = l.toNat then p else p.map (·.add (l.toNat * sz))) (h.toNat - l.toNat) (m.toNat - l.toNat)

/-- A value of the form of 'z'. -/
def exV1 (z : Value) (k : Value → Prop) : Prop :=
  match z with
  | .bool _ => ∃ b : Bool, k (.bool b)
  | .int kd _ => ∃ n : Int, k (.int kd n)
  | .string _ => ∃ s : ByteArray, k (.string s)
  | .pointer _ => ∃ p : Option Addr, k (.pointer p)
  | .slice _ _ _ => ∃ (p : Option Addr) (n c : Nat), k (.slice p n c)
  | .map _ => ∃ r : Option Nat, k (.map r)
  | _ => ∃ v : Value, k v
def exN : List Value → (List Value → Prop) → Prop
  | [], k => k []
  | z :: zs, k => exV1 z fun v => exN zs fun vs => k (v :: vs)
def exV2 (z : Value) (k : Value → Prop) : Prop :=
  match z with
  | .agg zs => exN zs.toList fun vs => k (.agg vs.toArray)
  | z => exV1 z k
def exN2 : List Value → (List Value → Prop) → Prop
  | [], k => k []
  | z :: zs, k => exV2 z fun v => exN2 zs fun vs => k (v :: vs)
def exV (z : Value) (k : Value → Prop) : Prop :=
  match z with
  | .tuple zs => exN2 zs.toList fun vs => k (.tuple vs.toArray)
  | z => exV2 z k

theorem exV1_get {z : Value} {k : Value → Prop} (h : exV1 z k) : ∃ v, k v := by
  cases z <;> simp only [exV1] at h <;> first | exact ⟨_, h.choose_spec⟩ | (obtain ⟨p, n, c, h⟩ := h; exact ⟨_, h⟩)
theorem exN_get : ∀ (zs : List Value) {k : List Value → Prop}, exN zs k → ∃ vs, vs.length = zs.length ∧ k vs
  | [], _, h => ⟨[], rfl, h⟩
  | z :: zs, k, h => by
    obtain ⟨v, hv⟩ := exV1_get h
    obtain ⟨vs, hl, hvs⟩ := exN_get zs hv
    exact ⟨v :: vs, by simp [hl], hvs⟩
theorem exV2_get {z : Value} {k : Value → Prop} (h : exV2 z k) : ∃ v, k v := by
  unfold exV2 at h
  split at h
  · obtain ⟨vs, _, h⟩ := exN_get _ h; exact ⟨_, h⟩
  · exact exV1_get h
theorem exN2_get : ∀ (zs : List Value) {k : List Value → Prop}, exN2 zs k → ∃ vs, k vs
  | [], _, h => ⟨[], h⟩
  | z :: zs, k, h => by
    obtain ⟨v, hv⟩ := exV2_get h
    obtain ⟨vs, hvs⟩ := exN2_get zs hv
    exact ⟨v :: vs, hvs⟩
theorem exV_get {z : Value} {k : Value → Prop} (h : exV z k) : ∃ v, k v := by
  unfold exV at h
  split at h
  · obtain ⟨vs, h⟩ := exN2_get _ h; exact ⟨_, h⟩
  · exact exV2_get h

/-- A cell is read; the cells of a row. -/
def ld (z : Value) (w : World) (a : Addr) (k : Value → Prop) : Prop := exV1 z fun v => w.cell? a = some v ∧ k v
def ldL (w : World) (a : Addr) : Nat → List Value → (List Value → Prop) → Prop
  | _, [], k => k []
  | i, z :: zs, k => ld z w (a.add i) fun v => ldL w a (i + 1) zs fun vs => k (v :: vs)
def zeroOf (P : Program) (t : TypeId) : Option Value := (P.info? t).bind (·.zero)
/-- The cells of a type's zero value, by name (where they are many); some of them written. -/
def zcells (P : Program) (t : TypeId) : Array Value := match zeroOf P t with | some z => z.cells | none => #[]
def zset (cs : Array Value) : List (Nat × Value) → Array Value
  | [] => cs
  | (i, v) :: r => zset (cs.setIfInBounds i v) r
def isAggT (P : Program) (t : TypeId) : Option Bool :=
  match P.underlying t with
  | some (.struct _) => some true
  | some (.array _ _) => some true
  | some _ => some false
  | none => none
def ldT (P : Program) (t : TypeId) (w : World) (a : Addr) (k : Value → Prop) : Prop :=
  match isAggT P t, zeroOf P t with
  | some true, some (.agg zs) => match Nat.beq zs.toList.length (P.cellsOf t) with | true => ldL w a 0 zs.toList fun vs => k (.agg vs.toArray) | false => False
  | some false, some z => ld z w a k
  | _, _ => False

/-! Trees that ask nothing of memory. -/
def reck (P : Program) {α : Type} : Sem α → Option α
  | .pure a => some a
  | .program k => reck P (k P)
  | _ => none
theorem reck_run {P : Program} {α : Type} : ∀ {s : Sem α} {a : α}, reck P s = some a → ∀ w, s.run P w = .ok a w := by
  intro s
  induction s with
  | pure b => intro a h w; simp only [reck, Option.some.injEq] at h; subst h; rfl
  | program k ih => intro a h w; simp only [Sem.run]; exact ih P h w
  | _ => intro a h; simp [reck] at h

/-! The environment: what is known of the slots. -/
abbrev Env := List (Nat × Value)
def look : Env → Nat → Option Value
  | [], _ => none
  | (s, v) :: r, t => match Nat.beq s t with | true => some v | false => look r t
def ins : Env → Nat → Value → Env
  | [], t, v => [(t, v)]
  | (s, u) :: r, t, v => match Nat.beq s t with
    | true => (t, v) :: r
    | false => match Nat.blt t s with | true => (t, v) :: (s, u) :: r | false => (s, u) :: ins r t v
def keep (L : List Nat) : Env → Env
  | [] => []
  | (s, v) :: r => match L.any (Nat.beq s) with | true => (s, v) :: keep L r | false => keep L r

theorem look_ins : ∀ (E : Env) (t : Nat) (v : Value) (s : Nat) (u : Value), look (ins E t v) s = some u → (s = t ∧ u = v) ∨ (s ≠ t ∧ look E s = some u)
  | [], t, v, s, u, h => by
    simp only [ins, look] at h
    split at h
    · rename_i hb; exact .inl ⟨(Nat.eq_of_beq_eq_true hb).symm, (Option.some.inj h).symm⟩
    · cases h
  | (r, x) :: E, t, v, s, u, h => by
    simp only [ins] at h
    split at h
    · rename_i hb
      have hrt := Nat.eq_of_beq_eq_true hb
      simp only [look] at h
      split at h
      · rename_i hb2; exact .inl ⟨(Nat.eq_of_beq_eq_true hb2).symm, (Option.some.inj h).symm⟩
      · rename_i hb2
        have := Nat.ne_of_beq_eq_false hb2
        refine .inr ⟨fun e => this e.symm, ?_⟩
        simp only [look]
        split
        · rename_i hb3; exact absurd (hrt.symm.trans (Nat.eq_of_beq_eq_true hb3)) this
        · exact h
    · rename_i hb
      have hrt := Nat.ne_of_beq_eq_false hb
      split at h
      · simp only [look] at h
        split at h
        · rename_i hb2; exact .inl ⟨(Nat.eq_of_beq_eq_true hb2).symm, (Option.some.inj h).symm⟩
        · rename_i hb2
          have := Nat.ne_of_beq_eq_false hb2
          exact .inr ⟨fun e => this e.symm, h⟩
      · simp only [look] at h
        split at h
        · rename_i hb2
          have h2 := Nat.eq_of_beq_eq_true hb2
          refine .inr ⟨fun e => hrt (h2.trans e), ?_⟩
          simp only [look]; rw [hb2]; exact h
        · rename_i hb2
          rcases look_ins E t v s u h with h3 | ⟨h3, h4⟩
          · exact .inl h3
          · refine .inr ⟨h3, ?_⟩
            simp only [look]; rw [hb2]; exact h4

theorem look_keep (L : List Nat) : ∀ (E : Env) (s : Nat) (u : Value), L.any (Nat.beq s) = true → look (keep L E) s = some u → look E s = some u
  | [], _, _, _, h => h
  | (r, x) :: E, s, u, hL, h => by
    simp only [keep] at h
    split at h
    · simp only [look] at h ⊢
      cases hb : Nat.beq r s
      · rw [hb] at h; exact look_keep L E s u hL h
      · rw [hb] at h; exact h
    · rename_i hr
      simp only [look]
      cases hb : Nat.beq r s
      · exact look_keep L E s u hL h
      · have := Nat.eq_of_beq_eq_true hb
        subst this
        rw [hL] at hr; cases hr
theorem look_keep_mem (L : List Nat) : ∀ (E : Env) (s : Nat) (u : Value), look (keep L E) s = some u → L.any (Nat.beq s) = true
  | [], _, _, h => by simp [keep, look] at h
  | (r, x) :: E, s, u, h => by
    simp only [keep] at h
    split at h
    · rename_i hr
      simp only [look] at h
      split at h
      · rename_i hb; rw [← Nat.eq_of_beq_eq_true hb]; exact hr
      · exact look_keep_mem L E s u h
    · exact look_keep_mem L E s u h

structure Sim (N : Nat) (E : Env) (a : Act) : Prop where
  defers : a.defers = []
  size : a.tmps.size = N
  vals : ∀ s v, look E s = some v → a.tmps[s]? = some v

theorem Sim.keep {N : Nat} {E : Env} {a : Act} (h : Sim N E a) (L : List Nat) : Sim N (keep L E) a :=
  ⟨h.defers, h.size, fun s v hv => h.vals s v (look_keep L E s v (look_keep_mem L E s v hv) hv)⟩
theorem Sim.put {N : Nat} {E : Env} {a : Act} (h : Sim N E a) {d : Nat} (hd : d < N) (v : Value) : Sim N (ins E d v) (a.put (some d) v) := by
  refine ⟨h.defers, by simp [Act.put, h.size], fun s u hu => ?_⟩
  simp only [Act.put]
  rcases look_ins E d v s u hu with ⟨rfl, rfl⟩ | ⟨hne, hu⟩
  · simp [h.size, hd]
  · rw [Array.getElem?_setIfInBounds_ne (Ne.symm hne)]; exact h.vals s u hu
theorem Sim.put_none {N : Nat} {E : Env} {a : Act} (h : Sim N E a) (v : Value) : Sim N E (a.put none v) := h

def val (E : Env) : Operand → Value
  | .tmp t => (look E t).getD undef
  | .const v => v
  | .global g => .pointer (some ⟨g, 0, none⟩)
  | .func f => .func (.func f) #[] #[]
def known (E : Env) : Operand → Bool
  | .tmp t => (look E t).isSome
  | _ => true
theorem Sim.eval {N : Nat} {E : Env} {a : Act} (h : Sim N E a) {x : Operand} (hx : known E x = true) : a.eval x = val E x := by
  cases x with
  | tmp t =>
    simp only [known] at hx
    obtain ⟨v, hv⟩ := Option.isSome_iff_exists.1 hx
    have := h.vals t v hv
    simp [Act.eval, val, hv, this]
  | _ => rfl

/-! Operations. -/
def sizeT (P : Program) (t : TypeId) : Nat := P.cellsOf t

/-- May a function be entered: it has a body, and is none of the model's own. -/
def entered (P : Program) (f : FuncId) : Bool :=
  match P.funcs[f]? with
  | some fn => !(fn.name == "runtime.NumGoroutine") && fn.body.isSome
  | none => false

/-- A value of the form of its type's zero value. -/
def asT (P : Program) (ty : TypeId) (v : Value) (k : Value → Prop) : Prop := match zeroOf P ty with | some z => exV z fun u => v = u ∧ k u | none => k v
theorem asT_get {P : Program} {ty : TypeId} {v : Value} {k : Value → Prop} (h : asT P ty v k) : k v := by
  unfold asT at h
  split at h
  · obtain ⟨u, rfl, h⟩ := exV_get h; exact h
  · exact h
/-! Maps: what an entry is, by its map's type; a step of an iteration. -/
/-- Hints (they lie in 'qs', too: 1000000 + 10000 * slot + type): of which type the map (or string) is whose iterator a slot holds. A hint asks nothing and grants nothing. -/
def hintOf (qs : List Nat) (x : Operand) : Option TypeId := match x with
  | .tmp s => (qs.find? fun q => Nat.ble 1000000 q && Nat.beq ((q - 1000000) / 10000) s).map (· % 10000)
  | _ => none
def kvForm (P : Program) (t : TypeId) : Option Value := match P.underlying t with
  | some (.map k e) => (match zeroOf P k, zeroOf P e with | some a, some b => some (.tuple #[a, b]) | _, _ => none)
  | some .string => some (.tuple #[.int .i64 0, .int .i32 0])
  | _ => none
def entryForm (P : Program) (t : TypeId) : Option Value := match P.underlying t with
  | some (.map _ e) => (match zeroOf P e with | some b => some (.tuple #[b, .int .i64 0]) | none => none)
  | _ => none
def partsOf (v : Value) : Array Value := match v with | .tuple cs => cs | _ => #[]
def formV (P : Program) (s : Sem Value) (w : World) (z : Option Value) (k : Value → World → Prop) : Prop := match z with
  | some z => runV P s w fun v w' => exV z fun u => v = u ∧ k u w'
  | none => False
theorem formV_run {P : Program} {s : Sem Value} {w : World} {z : Option Value} {k : Value → World → Prop} (h : formV P s w z k) : runV P s w k := by
  unfold formV at h
  split at h
  · obtain ⟨v, w', hr, h⟩ := h
    obtain ⟨u, rfl, hk⟩ := exV_get h
    exact ⟨_, w', hr, hk⟩
  · exact h.elim
/-- A step of an iteration: it is over; or there is one more. -/
def nextP (P : Program) (s : Sem Value) (w : World) (k0 : World → Prop) (k1 : (Value → World → Prop) → Prop) : Prop :=
  (∃ w', s.run P w = .ok (.tuple #[.bool false]) w' ∧ k0 w') ∨ k1 fun v w' => s.run P w = .ok v w'
def nextK (P : Program) (s : Sem Value) (w : World) (z : Option Value) (k : Value → World → Prop) : Prop := match z with
  | some z => nextP P s w (fun w' => k (.tuple #[.bool false]) w') fun run => exV z fun u => ∃ w', run (.tuple (#[.bool true] ++ partsOf u)) w' ∧ k (.tuple (#[.bool true] ++ partsOf u)) w'
  | none => False
theorem nextK_run {P : Program} {s : Sem Value} {w : World} {z : Option Value} {k : Value → World → Prop} (h : nextK P s w z k) : runV P s w k := by
  unfold nextK at h
  split at h
  · rcases h with ⟨w', hr, hk⟩ | h
    · exact ⟨_, w', hr, hk⟩
    · obtain ⟨u, w', hr, hk⟩ := exV_get h
      exact ⟨_, w', hr, hk⟩
  · exact h.elim
def rangeK (P : Program) (s : Sem Value) (w : World) (k : Nat → World → Prop) : Prop := ∃ r w', s.run P w = .ok (.pointer (some ⟨r, 0, none⟩)) w' ∧ k r w'
theorem rangeK_run {P : Program} {s : Sem Value} {w : World} {k : Value → World → Prop} (h : rangeK P s w fun r w' => k (.pointer (some ⟨r, 0, none⟩)) w') : runV P s w k := by
  obtain ⟨r, w', hr, hk⟩ := h
  exact ⟨_, w', hr, hk⟩

def eqK (P : Program) (op : BinOp) (t : TypeId) (xo yo : Operand) (x y : Value) (k : Bool → Prop) : Prop := ∃ b, (∀ w, (do eqGuard op t xo yo x y; binOp op t x y : Sem Value).run P w = .ok (.bool b) w) ∧ k b
def shlK (kd : IntKind) (x y : Int) (k : Int → Prop) : Prop := 0 ≤ y ∧ k (kd.wrap (x * 2 ^ (min y.toNat kd.bits)))
def shrK (kd : IntKind) (x y : Int) (k : Int → Prop) : Prop := 0 ≤ y ∧ k (x.fdiv (2 ^ (min y.toNat kd.bits)))
def quoK (kd : IntKind) (x y : Int) (k : Int → Prop) : Prop := y ≠ 0 ∧ k (kd.wrap (x.tdiv y))
def remK (_kd : IntKind) (x y : Int) (k : Int → Prop) : Prop := y ≠ 0 ∧ k (x.tmod y)
def idxStr (s : ByteArray) (i : Int) (k : Int → Prop) : Prop := 0 ≤ i ∧ ∃ c : UInt8, s[i.toNat]? = some c ∧ k c.toNat
def idxAgg (z : Value) (cs : Array Value) (n : Nat) (i : Int) (k : Value → Prop) : Prop := 0 ≤ i ∧ i < n ∧ exV1 z fun v => cs[i.toNat]? = some v ∧ k v

/-- A call of a function's value, whatever it is. -/
def callF (P : Program) (fv : Value) (args : Array Value) (w : World) (k : Value → World → Prop) : Prop :=
  match fv with
  | .func (.func f) first cap => match entered P f with
    | true => callV P f (first ++ args ++ cap) w k
    | false => False
  | _ => False
def callG (P : Program) (ty : TypeId) (fv : Value) (args : Array Value) (w : World) (k : Value → World → Prop) : Prop :=
  callF P fv args w fun v w' => asT P ty v fun u => k u w'

def callGQ (P : Program) (ty : TypeId) (fv : Value) (args : Array Value) (w : World) (k : Value → World → Prop) : Prop :=
  match fv with
  | .func (.func f) first cap => match entered P f with
    | true => callQ P f (first ++ args ++ cap) w fun v w' => asT P ty v fun u => k u w'
    | false => False
  | _ => False

def intOpt (o : Option Value) (k : Option Int → Prop) : Prop :=
  match o with
  | none => k none
  | some (.int _ n) => k (some n)
  | _ => False

def elemSize (P : Program) (t : TypeId) : Option Nat :=
  match P.underlying t with
  | some (.slice e) => (P.info? e).map (·.size)
  | some (.array _ e) => (P.info? e).map (·.size)
  | _ => none
def isSliceT (P : Program) (t : TypeId) : Bool := match P.underlying t with | some (.slice _) => true | _ => false
def arrayLen (P : Program) (t : TypeId) : Option Nat := match P.underlying t with | some (.array n _) => some n | _ => none

/-- The cells of a slice's literal. -/
def litCells (P : Program) (t : TypeId) (len : Nat) (parts : Array (Nat × Value)) : Option (TypeId × Array Value) :=
  match P.underlying t with
  | some (.slice e) => match P.info? e with
    | some i => match Nat.ble (len * i.size) 16777216 with
      | true => match Nat.beq (len * i.size) 0 with
        | true => (Instr.fill (fun j => some (j * i.size, i.size)) #[] parts.toList).map fun c => (e, c)
        | false => match i.zero with
          | some z => (Instr.fill (fun j => some (j * i.size, i.size)) ((Array.range (len * i.size)).map (z.cells[· % z.cells.size]!)) parts.toList).map fun c => (e, c)
          | none => none
      | false => none
    | none => none
  | _ => none

/-- One operation; 'ρ': what its operands hold. -/
def OG (P : Program) (qs : List Nat) (o : Oper) (ρ : Operand → Value) (w : World) (k : Value → World → Prop) : Prop :=
  match o.op with
  | .nilCheck x => match ρ x with
    | .pointer p => need p fun a => k (.pointer (some a)) w
    | _ => False
  | .load t x => match ρ x with
    | .pointer (some a) => ldT P t w a fun v => k v w
    | _ => False
  | .store t x y => match ρ x with
    | .pointer (some a) => match Nat.beq (ρ y).cells.size (sizeT P t), (P.info? t).isSome with
      | true, true => stL w a 0 (ρ y).cells.toList fun w' => k undef w'
      | _, _ => False
    | _ => False
  | .alloc t => match zeroOf P t with
    | some z => al w (.cells z.cells t) fun r w' => k (.pointer (some ⟨r, 0, none⟩)) w'
    | none => False
  | .box t x => al w (.cells (ρ x).cells t) fun r w' => k (.pointer (some ⟨r, 0, none⟩)) w'
  | .indexAddr t x i => match ρ x, ρ i, elemSize P t with
    | .slice p n _, .int _ j, some sz => match isSliceT P t with
      | true => idx p n sz j fun a => k (.pointer (some a)) w
      | false => False
    | .pointer (some a), .int _ j, some sz => match arrayLen P t with
      | some n => idx (some a) n sz j fun a => k (.pointer (some a)) w
      | none => False
    | _, _, _ => False
  | .slice t x lo hi mx => match ρ x, elemSize P t with
    | .slice p n c, some sz => match isSliceT P t with
      | true => intOpt (lo.map ρ) fun lo => intOpt (hi.map ρ) fun hi => intOpt (mx.map ρ) fun mx => slc p n c sz lo hi mx fun p n c => k (.slice p n c) w
      | false => False
    | _, _ => pureK P (execOp ρ o) fun n => match n with | .value v => k v w | _ => False
  | .binOp .eql t x (.const (.pointer none)) _ => match ρ x, P.underlying t with
    | .pointer p, some (.pointer _) => k (.bool p.isNone) w
    | _, _ => pureK P (execOp ρ o) fun n => match n with | .value v => k v w | _ => False
  | .binOp .neq t x (.const (.pointer none)) _ => match ρ x, P.underlying t with
    | .pointer p, some (.pointer _) => k (.bool !p.isNone) w
    | _, _ => pureK P (execOp ρ o) fun n => match n with | .value v => k v w | _ => False
  | .binOp .eql t x (.const (.slice none _ _)) _ => match ρ x, P.underlying t with
    | .slice p _ _, some (.slice _) => k (.bool p.isNone) w
    | _, _ => pureK P (execOp ρ o) fun n => match n with | .value v => k v w | _ => False
  | .binOp .neq t x (.const (.slice none _ _)) _ => match ρ x, P.underlying t with
    | .slice p _ _, some (.slice _) => k (.bool !p.isNone) w
    | _, _ => pureK P (execOp ρ o) fun n => match n with | .value v => k v w | _ => False
  | .binOp .eql t x y _ => match ρ x with
    | .int _ _ => (match reck P (execOp ρ o) with | some (.value v) => k v w | _ => False)
    | .bool _ => (match reck P (execOp ρ o) with | some (.value v) => k v w | _ => False)
    | .string _ => (match reck P (execOp ρ o) with | some (.value v) => k v w | _ => False)
    | vx => eqK P .eql t x y vx (ρ y) fun b => k (.bool b) w
  | .binOp .neq t x y _ => match ρ x with
    | .int _ _ => (match reck P (execOp ρ o) with | some (.value v) => k v w | _ => False)
    | .bool _ => (match reck P (execOp ρ o) with | some (.value v) => k v w | _ => False)
    | .string _ => (match reck P (execOp ρ o) with | some (.value v) => k v w | _ => False)
    | vx => eqK P .neq t x y vx (ρ y) fun b => k (.bool b) w
  | .index t x i => match ρ x, ρ i, P.underlying t with
    | .string s, .int _ j, some .string => idxStr s j fun c => k (.int .u8 c) w
    | .agg cs, .int _ j, some (.array n e) => match isAggT P e, P.info? e with
      | some false, some inf => match Nat.beq inf.size 1, inf.zero with
        | true, some z => idxAgg z cs n j fun v => k v w
        | _, _ => False
      | _, _ => False
    | _, _, _ => False
  | .binOp .quo _ _ (.const _) _ => (match reck P (execOp ρ o) with | some (.value v) => k v w | _ => False)
  | .binOp .rem _ _ (.const _) _ => (match reck P (execOp ρ o) with | some (.value v) => k v w | _ => False)
  | .binOp .shl _ _ (.const _) _ => (match reck P (execOp ρ o) with | some (.value v) => k v w | _ => False)
  | .binOp .shr _ _ (.const _) _ => (match reck P (execOp ρ o) with | some (.value v) => k v w | _ => False)
  | .binOp .quo _ x y _ => match ρ x, ρ y with
    | .int kd a, .int kd' b => match decide (kd = kd') with | true => quoK kd a b fun n => k (.int kd n) w | false => False
    | _, _ => False
  | .binOp .rem _ x y _ => match ρ x, ρ y with
    | .int kd a, .int kd' b => match decide (kd = kd') with | true => remK kd a b fun n => k (.int kd n) w | false => False
    | _, _ => False
  | .binOp .shl _ x y _ => match ρ x, ρ y with
    | .int kd a, .int _ b => shlK kd a b fun n => k (.int kd n) w
    | _, _ => False
  | .binOp .shr _ x y _ => match ρ x, ρ y with
    | .int kd a, .int _ b => shrK kd a b fun n => k (.int kd n) w
    | _, _ => False
  | .call { callee := .value f, args, argTypes := _ } => match cls P qs o with
    | 4 => callGQ P o.type (ρ f) (args.map ρ) w k
    | 3 => callG P o.type (ρ f) (args.map ρ) w k
    | _ => False
  | .buildSlice t n parts => match litCells P t n (parts.map fun (i, x) => (i, ρ x)) with
    | some (e, cells) => al w (.cells cells e) fun r w' => k (.slice (some ⟨r, 0, none⟩) n n) w'
    | none => False
  | .lookup t x i ok => rdV P (Instr.lookup t (ρ x) (ρ i) ok) w fun v => asT P o.type v fun u => k u w
  | .makeSlice t l c => runV P (Instr.makeSlice t (ρ l) (ρ c)) w fun v w' => asT P o.type v fun u => k u w'
  | .makeMap t r => runV P (Instr.makeMap t (r.map ρ)) w fun v w' => asT P o.type v fun u => k u w'
  | .mapUpdate t m x y => runU P (Instr.mapUpdate t (ρ m) (ρ x) (ρ y)) w fun w' => k undef w'
  | .insert t m x y => runU P (Instr.mapUpdate t (ρ m) (ρ x) (ρ y)) w fun w' => k undef w'
  | .mapEntry t m x => formV P (Instr.mapEntry t (ρ m) (ρ x)) w (entryForm P t) k
  | .entryStore t m x y => runU P (Instr.entryStore t (ρ m) (ρ x) (ρ y)) w fun w' => k undef w'
  | .range t x => rangeK P (Instr.range t (ρ x)) w fun r w' => k (.pointer (some ⟨r, 0, none⟩)) w'
  | .next x b => nextK P (Instr.next (ρ x) b o.type) w ((hintOf qs x).bind (kvForm P)) k
  | .entry x => formV P (Instr.entry (ρ x)) w ((hintOf qs x).bind (kvForm P)) k
  | .call { callee := .builtin .append, args, argTypes } => runV P (Builtin.append_ argTypes o.type (args.map ρ)) w fun v w' => asT P o.type v fun u => k u w'
  | .call { callee := .builtin .copy, args, argTypes } => runV P (Builtin.copy_ argTypes o.type (args.map ρ)) w fun v w' => asT P o.type v fun u => k u w'
  | .call { callee := .builtin .clear, args, argTypes } => runV P (Builtin.clear_ argTypes o.type (args.map ρ)) w fun v w' => asT P o.type v fun u => k u w'
  | .call { callee := .builtin .delete, args, argTypes } => runV P (Builtin.delete_ argTypes o.type (args.map ρ)) w fun v w' => asT P o.type v fun u => k u w'
  | .call { callee := .builtin .len, args, argTypes } => match isMapT P argTypes[0]? with
    | true => rdV P (Builtin.len_ argTypes o.type (args.map ρ)) w fun v => asT P o.type v fun u => k u w
    | false => (match reck P (execOp ρ o) with | some (.value v) => k v w | _ => False)
  | .convert s d x => match isIntT P s && isIntT P d with
    | true => (match reck P (execOp ρ o) with | some (.value v) => k v w | _ => False)
    | false => runV P (Go.convert s d (ρ x)) w fun v w' => asT P o.type v fun u => k u w'
  | _ => match cls P qs o with
    | 0 => (match reck P (execOp ρ o) with | some (.value v) => k v w | _ => False)
    | 3 => runK P (execOp ρ o) w fun n w' => match n with | .value v => k v w' | .skip => k undef w' | _ => False
    | _ => False

section
variable {P : Program} {qs : List Nat}

theorem run_bind' {α β : Type} (s : Sem α) (f : α → Sem β) (w : World) : (s >>= f).run P w = (s.run P w).andThen fun a w' => (f a).run P w' := by
  exact Sem.run_bind ..

theorem Reads.pure' {α : Type} (a : α) (w : World) : Reads P (Pure.pure a) w a := Reads.pure a w
theorem Reads.bind {α β : Type} {s : Sem α} {f : α → Sem β} {w : World} {a : α} {b : β} (h : Reads P s w a) (h' : Reads P (f a) w b) : Reads P (s >>= f) w b := by
  show Reads P (Sem.bind s f) w b
  induction h with
  | pure a w => exact h'
  | load hc h ih => exact .load hc (ih h')
  | program h ih => exact .program (ih h')
  | map hc h ih => exact .map hc (ih h')

theorem Reads.underlying {t : TypeId} {d : TypeDesc} (h : P.underlying t = some d) (w : World) : Reads P (underlying t) w d := by
  unfold Go.underlying Go.program
  show Reads P (Sem.bind (.program .pure) _) w d
  refine .program ?_
  show Reads P (match P.underlying t with | some d => pure d | none => stuck "no such type") w d
  rw [h]; exact .pure _ _
theorem Reads.typeInfo {t : TypeId} {i : TypeInfo} (h : P.info? t = some i) (w : World) : Reads P (typeInfo t) w i := by
  unfold Go.typeInfo Go.program
  show Reads P (Sem.bind (.program .pure) _) w i
  refine .program ?_
  show Reads P (match P.info? t with | some i => pure i | none => stuck "no such type") w i
  rw [h]; exact .pure _ _
theorem info_of_zero {t : TypeId} {z : Value} (h : zeroOf P t = some z) : ∃ i, P.info? t = some i ∧ i.zero = some z := by
  unfold zeroOf at h
  cases hi : P.info? t with
  | none => simp [hi] at h
  | some i => simp [hi] at h; exact ⟨i, rfl, h⟩
theorem Reads.isAgg {t : TypeId} {b : Bool} (h : isAggT P t = some b) (w : World) : Reads P (isAgg t) w b := by
  unfold isAggT at h
  unfold Go.isAgg
  cases hd : P.underlying t with
  | none => simp [hd] at h
  | some d =>
    refine Reads.bind (Reads.underlying hd w) ?_
    cases d <;> simp [hd] at h <;> subst h <;> exact .pure _ _
theorem Reads.loadCells {a : Addr} {w : World} : ∀ (vs : List Value) (i : Nat) (acc : Array Value), (∀ j v, vs[j]? = some v → w.cell? (a.add (i + j)) = some v) → Reads P (loadCellsFrom a i vs.length acc) w (acc ++ vs.toArray)
  | [], i, acc, _ => by simp [loadCellsFrom]; exact .pure _ _
  | v :: vs, i, acc, h => by
    simp only [List.length_cons, loadCellsFrom]
    have h0 : w.cell? (a.add i) = some v := by have := h 0 v rfl; simpa using this
    refine Reads.bind (a := v) ?_ ?_
    · unfold Go.load; exact .load h0 (.pure _ _)
    · have := Reads.loadCells vs (i + 1) (acc.push v) (fun j u hu => by have := h (j + 1) u (by simpa using hu); rwa [show i + (j + 1) = i + 1 + j by omega] at this)
      have e : acc ++ (v :: vs).toArray = acc.push v ++ vs.toArray := by simp
      rw [e]; exact this

theorem ldL_get {w : World} {a : Addr} : ∀ (zs : List Value) (i : Nat) {k : List Value → Prop}, ldL w a i zs k → ∃ vs, vs.length = zs.length ∧ (∀ j v, vs[j]? = some v → w.cell? (a.add (i + j)) = some v) ∧ k vs
  | [], _, _, h => ⟨[], rfl, by simp, h⟩
  | z :: zs, i, k, h => by
    have h' : exV1 z (fun v => w.cell? (a.add i) = some v ∧ ldL w a (i + 1) zs (fun vs => k (v :: vs))) := h
    obtain ⟨v, hv, h⟩ := exV1_get h'
    obtain ⟨vs, hl, hc, hk⟩ := ldL_get zs (i + 1) h
    refine ⟨v :: vs, by simp [hl], fun j u hu => ?_, hk⟩
    cases j with
    | zero => simp at hu; subst hu; simpa using hv
    | succ j => have := hc j u (by simpa using hu); rwa [show i + (j + 1) = i + 1 + j by omega]

theorem ldT_reads {t : TypeId} {w : World} {a : Addr} {k : Value → Prop} (h : ldT P t w a k) : ∃ v, Reads P (loadVar t a) w v ∧ k v := by
  unfold ldT at h
  split at h
  · rename_i zs hag hz
    split at h
    · rename_i hb
      obtain ⟨vs, hl, hc, hk⟩ := ldL_get _ 0 h
      refine ⟨_, ?_, hk⟩
      unfold loadVar
      refine Reads.bind (Reads.isAgg hag w) ?_
      simp only [if_true]
      obtain ⟨i, hi, _⟩ := info_of_zero hz
      have hsz : P.cellsOf t = i.size := by simp [Program.cellsOf, hi]
      have hlen : i.size = vs.length := by rw [hl, ← hsz]; exact (Nat.eq_of_beq_eq_true hb).symm
      refine Reads.bind (a := i.size) ?_ ?_
      · unfold sizeOf; exact Reads.bind (Reads.typeInfo hi w) (Reads.pure' _ _)
      · refine Reads.bind (a := vs.toArray) ?_ (Reads.pure' _ _)
        unfold Go.loadCells; rw [hlen]; simpa using Reads.loadCells (P := P) vs 0 #[] (by simpa using hc)
    · exact h.elim
  · rename_i z hag hz
    obtain ⟨v, hv, hk⟩ := exV1_get h
    refine ⟨v, ?_, hk⟩
    unfold loadVar
    refine Reads.bind (Reads.isAgg hag w) ?_
    simp only [Bool.false_eq_true, if_false]
    unfold Go.load; exact .load hv (.pure _ _)
  · exact h.elim

theorem stL_run {a : Addr} : ∀ (vs : List Value) (i : Nat) (w : World) {k : World → Prop}, stL w a i vs k → ∃ w', (storeCells a vs i).run P w = .ok () w' ∧ k w'
  | [], _, w, _, h => ⟨w, rfl, h⟩
  | v :: vs, i, w, k, h => by
    obtain ⟨⟨u, hu⟩, hf, h1, h⟩ := h
    obtain ⟨w', hr, hk⟩ := stL_run vs (i + 1) _ h
    refine ⟨w', ?_, hk⟩
    have hst : (store (a.add i) v).run P w = .ok () (w.setCell (a.add i) v) := by
      rw [run_store P w _ v _ h1]; simp [hu, hf]
    simp only [storeCells, Sem.run_bind, hst, Result.andThen_ok]
    exact hr

theorem run_info {t : TypeId} {i : TypeInfo} (h : P.info? t = some i) (w : World) : (typeInfo t).run P w = .ok i w := (Reads.typeInfo h w).run
theorem run_size {t : TypeId} {i : TypeInfo} (h : P.info? t = some i) (w : World) : (sizeOf t).run P w = .ok i.size w := by
  unfold sizeOf; simp only [Sem.run_bind, run_info h w, Result.andThen_ok]; rfl
theorem run_zero {t : TypeId} {z : Value} (h : zeroOf P t = some z) (w : World) : (zeroValue t).run P w = .ok z w := by
  obtain ⟨i, hi, hz⟩ := info_of_zero h
  unfold zeroValue
  refine (Reads.bind (Reads.typeInfo hi w) ?_).run
  rw [hz]; exact .pure _ _

theorem intOpt_get {o : Option Value} {k : Option Int → Prop} (h : intOpt o k) : (o = none ∧ k none) ∨ ∃ kd n, o = some (.int kd n) ∧ k (some n) := by
  unfold intOpt at h
  split at h
  · exact .inl ⟨rfl, h⟩
  · exact .inr ⟨_, _, rfl, h⟩
  · exact h.elim

theorem run_sliceBound {kd : IntKind} {n : Int} {y : Nat} {c : BoundsCode} (h0 : 0 ≤ n) (h1 : n ≤ y) (w : World) : (Instr.sliceBound (.int kd n) y c).run P w = .ok n.toNat w := by
  unfold Instr.sliceBound asIntOf
  simp only [Sem.run_bind, Sem.run_pure, Result.andThen_ok]
  rw [if_pos ⟨h0, h1⟩]; rfl

theorem slc_run {t e : TypeId} {i : TypeInfo} (ht : P.underlying t = some (.slice e)) (he : P.info? e = some i) {p : Option Addr} {n c : Nat} {lo hi mx : Option Value} {lo' hi' mx' : Option Int}
    (hlo : lo = none ∧ lo' = none ∨ ∃ kd x, lo = some (.int kd x) ∧ lo' = some x) (hhi : hi = none ∧ hi' = none ∨ ∃ kd x, hi = some (.int kd x) ∧ hi' = some x) (hmx : mx = none ∧ mx' = none ∨ ∃ kd x, mx = some (.int kd x) ∧ mx' = some x)
    {k : Option Addr → Nat → Nat → Prop} (h : slc p n c i.size lo' hi' mx' k) : ∃ p' n' c', (∀ w, (Instr.sliceAt t (.slice p n c) lo hi mx).run P w = .ok (.slice p' n' c') w) ∧ k p' n' c' := by
  obtain ⟨h1, h2, h3, h4, h5, h6, h7, hk⟩ := h
  refine ⟨_, _, _, fun w => ?_, hk⟩
  have hb : (Instr.sliceBounds true n c lo hi mx).run P w = .ok ((lo'.getD 0).toNat, (hi'.getD n).toNat, (mx'.getD c).toNat) w := by
    unfold Instr.sliceBounds
    rcases hmx with ⟨rfl, rfl⟩ | ⟨km, xm, rfl, rfl⟩
    · rcases hhi with ⟨rfl, rfl⟩ | ⟨kh, xh, rfl, rfl⟩
      · rcases hlo with ⟨rfl, rfl⟩ | ⟨kl, xl, rfl, rfl⟩
        · simp
        · simp only [Option.getD_some, Option.getD_none] at h1 h2 h3 h4 h5 h6
          simp [run_sliceBound (P := P) h5 h6 w]
      · simp only [Option.getD_some, Option.getD_none] at h1 h2 h3 h4 h5 h6
        rcases hlo with ⟨rfl, rfl⟩ | ⟨kl, xl, rfl, rfl⟩
        · simp [run_sliceBound (P := P) (y := c) h3 (by omega) w]
        · simp only [Option.getD_some] at h5 h6
          simp [run_sliceBound (P := P) (y := c) h3 (by omega) w, run_sliceBound (P := P) (y := xh.toNat) h5 (by omega) w]
    · rcases hhi with ⟨rfl, rfl⟩ | ⟨kh, xh, rfl, rfl⟩
      · simp at h7
      · simp only [Option.getD_some] at h1 h2 h3 h4 h5 h6
        rcases hlo with ⟨rfl, rfl⟩ | ⟨kl, xl, rfl, rfl⟩
        · simp [run_sliceBound (P := P) (y := c) h1 h2 w, run_sliceBound (P := P) (y := xm.toNat) h3 (by omega) w]
        · simp only [Option.getD_some] at h5 h6
          simp [run_sliceBound (P := P) (y := c) h1 h2 w, run_sliceBound (P := P) (y := xm.toNat) h3 (by omega) w, run_sliceBound (P := P) (y := xh.toNat) h5 (by omega) w]
  have hu : (underlying t).run P w = .ok (.slice e) w := (Reads.underlying ht w).run
  unfold Instr.sliceAt Instr.slice
  simp only [Sem.run_bind, hu, Result.andThen_ok, hb, run_size he w]
  rfl

theorem pureK_get {α : Type} {s : Sem α} {k : α → Prop} (h : pureK P s k) : ∃ v, (∀ w, s.run P w = .ok v w) ∧ k v := h

theorem value_of {n : Next} {w : World} {k : Value → World → Prop} (h : match n with | .value v => k v w | _ => False) : ∃ v, n = .value v ∧ k v w := by
  cases n <;> first | exact ⟨_, rfl, h⟩ | exact h.elim

theorem one0 {o : Oper} (hc : cls P qs o = 0) {a : Act} {ρ : Operand → Value} (he : execOp a.eval o = execOp ρ o) {w : World} {K : Act → World → Prop} {v : Value} (hv : ∀ w', (execOp ρ o).run P w' = .ok (.value v) w') (hk : K (a.put o.dst v) w) : one P qs o a w K := by
  simp only [one, hc]; exact ⟨v, fun w' => by rw [he]; exact hv w', hk⟩

theorem run_indexAt {t e : TypeId} {i : TypeInfo} (ht : P.underlying t = some (.slice e)) (he : P.info? e = some i) {a : Addr} {n c : Nat} {kd : IntKind} {j : Int} (h0 : 0 ≤ j) (h1 : j < n) (w : World) :
    (Instr.indexAt t (.slice (some a) n c) (.int kd j)).run P w = .ok (.pointer (some (a.add (j.toNat * i.size)))) w := by
  have hu : (underlying t).run P w = .ok (.slice e) w := (Reads.underlying ht w).run
  unfold Instr.indexAt asIntOf
  simp only [Sem.run_bind, Sem.run_pure, Result.andThen_ok, hu]
  rw [if_pos ⟨h0, h1⟩]
  simp only [Sem.run_bind, run_size he w, Result.andThen_ok]
  rfl
theorem run_indexAt_arr {t e : TypeId} {n : Nat} {i : TypeInfo} (ht : P.underlying t = some (.array n e)) (he : P.info? e = some i) {a : Addr} {kd : IntKind} {j : Int} (h0 : 0 ≤ j) (h1 : j < n) (w : World) :
    (Instr.indexAt t (.pointer (some a)) (.int kd j)).run P w = .ok (.pointer (some (a.add (j.toNat * i.size)))) w := by
  have hu : (underlying t).run P w = .ok (.array n e) w := (Reads.underlying ht w).run
  unfold Instr.indexAt asIntOf Instr.sureAddr
  simp only [Sem.run_bind, Sem.run_pure, Result.andThen_ok, hu]
  rw [if_pos ⟨h0, h1⟩]
  simp only [Sem.run_bind, run_size he w, Result.andThen_ok]
  rfl

theorem run_call {o : Oper} {ρ : Operand → Value} {f : Operand} {args : Array Operand} {ats : Array TypeId} (ho : o.op = .call { callee := .value f, args, argTypes := ats }) {fid : FuncId} {first cap : Array Value} (hf : ρ f = .func (.func fid) first cap) (hent : entered P fid = true) (w : World) :
    (execOp ρ o).run P w = .ok (.enter fid (first ++ args.map ρ ++ cap)) w := by
  unfold entered at hent
  split at hent
  · rename_i fn hfn
    simp only [Bool.and_eq_true, Bool.not_eq_true', beq_eq_false_iff_ne, ne_eq] at hent
    unfold execOp
    rw [ho]
    simp only [resolve, hf, Deferred.ofValue]
    show Sem.run P (Sem.bind (Pure.pure _) _) w = _
    simp only [Sem.bind, Pure.pure]
    simp only [invoke, callFunc, program]
    simp only [Sem.run_bind]
    show Result.andThen (Sem.run P (.program .pure) w) _ = _
    simp only [Sem.run, Result.andThen_ok, hfn]
    have hb : fn.body.isNone = false := by cases hb : fn.body with | none => simp [hb] at hent | some _ => rfl
    have hn : (fn.name == "runtime.NumGoroutine") = false := beq_eq_false_iff_ne.2 hent.1
    simp only [hn, hb, Bool.false_eq_true, if_false]
    rfl
  · cases hent

theorem callG_wp {o : Oper} {a : Act} {ρ : Operand → Value} {f : Operand} {args : Array Operand} {ats : Array TypeId} (ho : o.op = .call { callee := .value f, args, argTypes := ats }) (he : execOp a.eval o = execOp ρ o) {w : World} {k : Value → World → Prop}
    (h : callG P o.type (ρ f) (args.map ρ) w k) : o.wp P a w (fun a' w' => ∃ v, a' = a.put o.dst v ∧ k v w') (fun _ _ _ => False) := by
  unfold callG callF at h
  split at h
  · rename_i fid first cap hf
    split at h
    · rename_i hent
      unfold Oper.wp
      rw [he, run_call ho hf hent w]
      simp only [Oper.upon]
      refine Calls.mono h fun e w'' ⟨v, hev, hk⟩ => ?_
      subst hev
      exact ⟨_, rfl, asT_get hk⟩
    · exact h.elim
  · exact h.elim
theorem callGQ_one {o : Oper} {a : Act} {ρ : Operand → Value} {f : Operand} {args : Array Operand} {ats : Array TypeId} (ho : o.op = .call { callee := .value f, args, argTypes := ats }) (he : execOp a.eval o = execOp ρ o) (hc : cls P qs o = 4) {w : World} {k : Value → World → Prop}
    (h : callGQ P o.type (ρ f) (args.map ρ) w k) : one P qs o a w (fun a' w' => ∃ v, a' = a.put o.dst v ∧ k v w') := by
  unfold callGQ at h
  split at h
  · rename_i fid first cap hf
    split at h
    · rename_i hent
      simp only [one, hc]
      exact ⟨_, _, fun w' => by rw [he]; exact run_call ho hf hent w', Calls.mono h fun e w'' ⟨v, hev, hh, hk⟩ => ⟨v, hev, hh, _, rfl, asT_get hk⟩⟩
    · exact h.elim
  · exact h.elim

theorem run_eqIn_ptr (d : Nat) (t e : TypeId) (p : Option Addr) (h : P.underlying t = some (.pointer e)) (w : World) : (Op.equalIn (d + 1) t (.pointer p) (.pointer none)).run P w = .ok p.isNone w := by
  have hu : (underlying t).run P w = .ok (.pointer e) w := (Reads.underlying h w).run
  cases p <;> simp [Op.equalIn, hu]
theorem run_eqIn_slice (d : Nat) (t e : TypeId) (p : Option Addr) (n c n' c' : Nat) (h : P.underlying t = some (.slice e)) (w : World) : (Op.equalIn (d + 1) t (.slice p n c) (.slice none n' c')).run P w = .ok p.isNone w := by
  have hu : (underlying t).run P w = .ok (.slice e) w := (Reads.underlying h w).run
  cases p <;> simp [Op.equalIn, hu]
theorem run_eq_ptr (t e : TypeId) (p : Option Addr) (h : P.underlying t = some (.pointer e)) (w : World) : (Op.equal t (.pointer p) (.pointer none)).run P w = .ok p.isNone w := run_eqIn_ptr 9999 t e p h w
theorem run_eq_slice (t e : TypeId) (p : Option Addr) (n c n' c' : Nat) (h : P.underlying t = some (.slice e)) (w : World) : (Op.equal t (.slice p n c) (.slice none n' c')).run P w = .ok p.isNone w := run_eqIn_slice 9999 t e p n c n' c' h w
theorem run_eqlNil {o : Oper} {ρ : Operand → Value} (hρ : ∀ v, ρ (.const v) = v) {t ty : TypeId} {x : Operand} {z u : Value} {b : Bool} (ho : o.op = .binOp .eql t x (.const z) ty) (hx : ρ x = u) (hz : (∃ p, z = .pointer p ∧ ∃ q, u = .pointer q) ∨ (∃ p n c, z = .slice p n c ∧ ∃ q n' c', u = .slice q n' c'))
    (h : ∀ w, (Op.equal t u z).run P w = .ok b w) (w : World) : (execOp ρ o).run P w = .ok (.value (.bool b)) w := by
  simp only [execOp, ho, hρ, hx, Sem.run_bind]
  rcases hz with ⟨p, rfl, q, rfl⟩ | ⟨p, n, c, rfl, q, n', c', rfl⟩ <;>
  · simp only [eqGuard, binOp, Sem.run_bind, Bool.not_true, Bool.false_eq_true, if_false, Sem.run_pure, Result.andThen_ok, h w]
theorem run_neqNil {o : Oper} {ρ : Operand → Value} (hρ : ∀ v, ρ (.const v) = v) {t ty : TypeId} {x : Operand} {z u : Value} {b : Bool} (ho : o.op = .binOp .neq t x (.const z) ty) (hx : ρ x = u) (hz : (∃ p, z = .pointer p ∧ ∃ q, u = .pointer q) ∨ (∃ p n c, z = .slice p n c ∧ ∃ q n' c', u = .slice q n' c'))
    (h : ∀ w, (Op.equal t u z).run P w = .ok b w) (w : World) : (execOp ρ o).run P w = .ok (.value (.bool !b)) w := by
  simp only [execOp, ho, hρ, hx, Sem.run_bind]
  rcases hz with ⟨p, rfl, q, rfl⟩ | ⟨p, n, c, rfl, q, n', c', rfl⟩ <;>
  · simp only [eqGuard, binOp, Sem.run_bind, Bool.not_true, Bool.false_eq_true, if_false, Sem.run_pure, Result.andThen_ok, h w]

theorem run_buildSlice {t : TypeId} {n : Nat} {parts : Array (Nat × Value)} {e : TypeId} {cells : Array Value} (h : litCells P t n parts = some (e, cells)) (w : World) :
    (Instr.buildSlice t n parts).run P w = .ok (.slice (some ⟨w.heap.size, 0, none⟩) n n) { w with heap := w.heap.push (.cells cells e) } := by
  unfold litCells at h
  split at h
  · rename_i e' hte
    split at h
    · rename_i i hie
      split at h
      · rename_i hle
        have hu : (underlying t).run P w = .ok (.slice e') w := (Reads.underlying hte w).run
        have h24 : ¬ n * i.size > 2 ^ 24 := by have := Nat.le_of_ble_eq_true hle; omega
        unfold Instr.buildSlice
        simp only [Sem.run_bind, hu, Result.andThen_ok, run_size hie w]
        rw [if_neg h24]
        split at h
        · rename_i hz
          have hz := Nat.eq_of_beq_eq_true hz
          rw [if_pos hz]
          cases hf : Instr.fill (fun j => some (j * i.size, i.size)) #[] parts.toList with
          | none => simp [hf] at h
          | some c =>
            simp only [hf, Option.map_some, Option.some.injEq, Prod.mk.injEq] at h
            obtain ⟨rfl, rfl⟩ := h
            simp only [hz, Sem.run_bind, Sem.run_pure, Result.andThen_ok]
            have e0 : ∀ (f : Nat → Value), Array.map f (Array.range 0) = #[] := fun f => by simp
            rw [e0, hf]
            rfl
        · rename_i hz
          have hz := Nat.ne_of_beq_eq_false hz
          rw [if_neg hz]
          split at h
          · rename_i z hzz
            have hzv : (zeroValue e').run P w = .ok z w := run_zero (by simp [zeroOf, hie, hzz]) w
            cases hf : Instr.fill (fun j => some (j * i.size, i.size)) ((Array.range (n * i.size)).map (z.cells[· % z.cells.size]!)) parts.toList with
            | none => simp [hf] at h
            | some c =>
              simp only [hf, Option.map_some, Option.some.injEq, Prod.mk.injEq] at h
              obtain ⟨rfl, rfl⟩ := h
              simp only [Sem.run_bind, hzv, Result.andThen_ok, Sem.run_pure, hf]
              rfl
          · cases h
      · cases h
    · cases h
  · cases h

theorem OG_one {o : Oper} {a : Act} {ρ : Operand → Value} {w : World} {k : Value → World → Prop} (hρ : ∀ v, ρ (.const v) = v) (he : execOp a.eval o = execOp ρ o) (h : OG P qs o ρ w k) :
    one P qs o a w (fun a' w' => ∃ v, a' = a.put o.dst v ∧ k v w') := by
  have pk : ∀ (hc : cls P qs o = 0), pureK P (execOp ρ o) (fun n => match n with | .value v => k v w | _ => False) → one P qs o a w (fun a' w' => ∃ v, a' = a.put o.dst v ∧ k v w') := fun hc hp => by
    obtain ⟨n, hn, hk⟩ := hp
    obtain ⟨v, rfl, hk⟩ := value_of hk
    exact one0 hc he hn ⟨v, rfl, hk⟩
  have rk : ∀ (hc : cls P qs o = 0), (match reck P (execOp ρ o) with | some (.value v) => k v w | _ => False) → one P qs o a w (fun a' w' => ∃ v, a' = a.put o.dst v ∧ k v w') := fun hc hp => by
    split at hp
    · rename_i v hv; exact one0 hc he (reck_run hv) ⟨v, rfl, hp⟩
    · exact hp.elim
  have vv : ∀ (hc : cls P qs o = 3) (sm : Sem Value), (∀ w, (execOp ρ o).run P w = (do pure (.value (← sm)) : Sem Next).run P w) → runV P sm w k → one P qs o a w (fun a' w' => ∃ v, a' = a.put o.dst v ∧ k v w') := fun hc sm hsm hv => by
    obtain ⟨v, w', hr, hk⟩ := hv
    simp only [one, hc]
    unfold Oper.wp
    rw [he, hsm]
    simp only [Sem.run_bind, hr, Result.andThen_ok, Sem.run_pure, Oper.upon]
    exact ⟨v, rfl, hk⟩
  have uu : ∀ (hc : cls P qs o = 3) (sm : Sem Unit), (∀ w, (execOp ρ o).run P w = (do sm; pure .skip : Sem Next).run P w) → runU P sm w (fun w' => k undef w') → one P qs o a w (fun a' w' => ∃ v, a' = a.put o.dst v ∧ k v w') := fun hc sm hsm hv => by
    obtain ⟨w', hr, hk⟩ := hv
    simp only [one, hc]
    unfold Oper.wp
    rw [he, hsm]
    simp only [Sem.run_bind, hr, Result.andThen_ok, Sem.run_pure, Oper.upon]
    exact ⟨undef, rfl, hk⟩
  have vt : ∀ (hc : cls P qs o = 3) (sm : Sem Value), (∀ w, (execOp ρ o).run P w = (do pure (.value (← sm)) : Sem Next).run P w) → runV P sm w (fun v w' => asT P o.type v fun u => k u w') → one P qs o a w (fun a' w' => ∃ v, a' = a.put o.dst v ∧ k v w') := fun hc sm hsm hv =>
    let ⟨v, w', hr, hk⟩ := hv; vv hc sm hsm ⟨v, w', hr, asT_get hk⟩
  have eqk : ∀ (op : BinOp) (t ty : TypeId) (x y : Operand) (vx : Value), o.op = .binOp op t x y ty → ρ x = vx → eqK P op t x y vx (ρ y) (fun b => k (.bool b) w) → one P qs o a w (fun a' w' => ∃ v, a' = a.put o.dst v ∧ k v w') := fun op t ty x y vx ho hx ⟨b, hb, hk⟩ =>
    one0 (by simp [cls, ho]) he (v := .bool b) (fun w' => by
      have h1 := hb w'
      rw [← hx] at h1
      simp only [execOp, ho]
      rw [run_bind', h1]; rfl) ⟨_, rfl, hk⟩
  have gen : (match cls P qs o with
    | 0 => (match reck P (execOp ρ o) with | some (.value v) => k v w | _ => False)
    | 3 => runK P (execOp ρ o) w fun n w' => match n with | .value v => k v w' | .skip => k undef w' | _ => False
    | _ => False) → one P qs o a w (fun a' w' => ∃ v, a' = a.put o.dst v ∧ k v w') := fun hg => by
    split at hg
    · rename_i hc; exact rk hc hg
    · rename_i hc
      obtain ⟨n, w', hr, hk⟩ := hg
      simp only [one, hc]
      unfold Oper.wp
      rw [he, hr]
      cases n <;> simp only [Oper.upon] <;> first | exact ⟨_, rfl, hk⟩ | exact hk.elim
    · exact hg.elim
  unfold OG at h
  split at h
  · -- nilCheck
    rename_i x ho
    split at h
    · rename_i p hx
      cases p with
      | none => exact h.elim
      | some ad =>
        exact one0 (by simp [cls, ho]) he (v := .pointer (some ad)) (fun w' => by simp only [execOp, ho, hx]; rfl) ⟨_, rfl, h⟩
    · exact h.elim
  · -- load
    rename_i t x ho
    split at h
    · rename_i ad hx
      obtain ⟨v, hr, hk⟩ := ldT_reads h
      have hc : cls P qs o = 1 := by simp [cls, ho]
      simp only [one, hc]
      refine ⟨v, ?_, v, rfl, hk⟩
      rw [he]
      simp only [execOp, ho, hx, Instr.loadAt, Instr.sureAddr]
      exact Reads.bind (Reads.bind (Reads.pure' _ _) hr) (Reads.pure' _ _)
    · exact h.elim
  · -- store
    rename_i t x y ho
    split at h
    · rename_i ad hx
      split at h
      · rename_i hb hi
        obtain ⟨w', hr, hk⟩ := stL_run _ 0 w h
        have hc : cls P qs o = 3 := by simp [cls, ho]
        simp only [one, hc]
        unfold Oper.wp
        obtain ⟨i, hi⟩ := Option.isSome_iff_exists.1 hi
        have hsz : (ρ y).cells.size = i.size := by rw [Nat.eq_of_beq_eq_true hb]; simp [sizeT, Program.cellsOf, hi]
        have hrun : (execOp ρ o).run P w = .ok .skip w' := by
          simp only [execOp, ho, hx, Instr.storeAt, Instr.sureAddr, storeVar]
          simp only [Sem.run_bind, Sem.run_pure, Result.andThen_ok, run_size hi w]
          rw [if_neg (by simp [hsz])]
          rw [hr]
          rfl
        rw [he, hrun]
        exact ⟨undef, rfl, hk⟩
      · exact h.elim
    · exact h.elim
  · -- alloc
    rename_i t ho
    split at h
    · rename_i z hz
      have hc : cls P qs o = 2 := by simp [cls, ho]
      simp only [one, hc]
      refine ⟨_, .cells z.cells t, ?_, _, rfl, h⟩
      rw [he]
      simp only [execOp, ho, Instr.alloc]
      simp only [Sem.run_bind, run_zero hz w, Result.andThen_ok]
      rfl
    · exact h.elim
  · -- box
    rename_i t x ho
    have hc : cls P qs o = 2 := by simp [cls, ho]
    simp only [one, hc]
    refine ⟨_, .cells (ρ x).cells t, ?_, _, rfl, h⟩
    rw [he]
    simp only [execOp, ho, Instr.box]
    rfl
  · -- indexAddr
    rename_i t x ix ho
    have hc : cls P qs o = 0 := by simp [cls, ho]
    split at h
    · rename_i p n cp kd j sz hx hi hsz
      split at h
      · rename_i hsl
        obtain ⟨h0, h1, h2⟩ := h
        cases p with
        | none => exact h2.elim
        | some ad =>
          unfold isSliceT at hsl
          split at hsl
          · rename_i e hte
            simp only [elemSize, hte] at hsz
            cases hie : P.info? e with
            | none => simp [hie] at hsz
            | some i =>
              simp [hie] at hsz
              subst hsz
              exact one0 hc he (v := .pointer (some (ad.add (j.toNat * i.size)))) (fun w' => by
                simp only [execOp, ho, hx, hi, Sem.run_bind, run_indexAt hte hie h0 h1 w', Result.andThen_ok]; rfl) ⟨_, rfl, h2⟩
          · cases hsl
      · exact h.elim
    · rename_i ad kd j sz hx hi hsz
      split at h
      · rename_i n hal
        obtain ⟨h0, h1, h2⟩ := h
        unfold arrayLen at hal
        split at hal
        · rename_i m e hte
          simp only [Option.some.injEq] at hal
          subst hal
          simp only [elemSize, hte] at hsz
          cases hie : P.info? e with
          | none => simp [hie] at hsz
          | some i =>
            simp [hie] at hsz
            subst hsz
            exact one0 hc he (v := .pointer (some (ad.add (j.toNat * i.size)))) (fun w' => by
              simp only [execOp, ho, hx, hi, Sem.run_bind, run_indexAt_arr hte hie h0 h1 w', Result.andThen_ok]; rfl) ⟨_, rfl, h2⟩
        · cases hal
      · exact h.elim
    · exact h.elim
  · -- slice
    rename_i t x lo hi mx ho
    have hc : cls P qs o = 0 := by simp [cls, ho]
    split at h
    · rename_i p n cp sz hx hsz
      split at h
      · rename_i hsl
        unfold isSliceT at hsl
        split at hsl
        · rename_i e hte
          simp only [elemSize, hte] at hsz
          cases hie : P.info? e with
          | none => simp [hie] at hsz
          | some i =>
            simp [hie] at hsz
            subst hsz
            have gg : ∀ {o' : Option Value} {k : Option Int → Prop}, intOpt o' k → ∃ r, (o' = none ∧ r = none ∨ ∃ kd x, o' = some (.int kd x) ∧ r = some x) ∧ k r := fun hh => by
              rcases intOpt_get hh with ⟨h1, h2⟩ | ⟨kd, n, h1, h2⟩
              · exact ⟨none, .inl ⟨h1, rfl⟩, h2⟩
              · exact ⟨some n, .inr ⟨kd, n, h1, rfl⟩, h2⟩
            obtain ⟨lo', hlo, h⟩ := gg h
            obtain ⟨hi', hhi, h⟩ := gg h
            obtain ⟨mx', hmx, h⟩ := gg h
            obtain ⟨p', n', c', hr, hk⟩ := slc_run hte hie hlo hhi hmx h
            exact one0 hc he (v := .slice p' n' c') (fun w' => by
              simp only [execOp, ho, hx, Sem.run_bind, hr w', Result.andThen_ok]; rfl) ⟨_, rfl, hk⟩
        · cases hsl
      · exact h.elim
    · exact pk hc h
  · rename_i t x ty ho
    split at h
    · rename_i p e hx ht
      exact one0 (by simp [cls, ho]) he (v := .bool p.isNone) (fun w' => run_eqlNil hρ ho hx (.inl ⟨_, rfl, _, rfl⟩) (run_eq_ptr t e p ht) w') ⟨_, rfl, h⟩
    · exact pk (by simp [cls, ho]) h
  · rename_i t x ty ho
    split at h
    · rename_i p e hx ht
      exact one0 (by simp [cls, ho]) he (v := .bool !p.isNone) (fun w' => run_neqNil hρ ho hx (.inl ⟨_, rfl, _, rfl⟩) (run_eq_ptr t e p ht) w') ⟨_, rfl, h⟩
    · exact pk (by simp [cls, ho]) h
  · rename_i t x _ _ ty ho
    split at h
    · rename_i p n c e hx ht
      exact one0 (by simp [cls, ho]) he (v := .bool p.isNone) (fun w' => run_eqlNil hρ ho hx (.inr ⟨_, _, _, rfl, _, _, _, rfl⟩) (run_eq_slice t e p _ _ _ _ ht) w') ⟨_, rfl, h⟩
    · exact pk (by simp [cls, ho]) h
  · rename_i t x _ _ ty ho
    split at h
    · rename_i p n c e hx ht
      exact one0 (by simp [cls, ho]) he (v := .bool !p.isNone) (fun w' => run_neqNil hρ ho hx (.inr ⟨_, _, _, rfl, _, _, _, rfl⟩) (run_eq_slice t e p _ _ _ _ ht) w') ⟨_, rfl, h⟩
    · exact pk (by simp [cls, ho]) h
  · rename_i ho
    split at h
    · exact rk (by simp [cls, ho]) h
    · exact rk (by simp [cls, ho]) h
    · exact rk (by simp [cls, ho]) h
    · exact eqk _ _ _ _ _ _ ho rfl h
  · rename_i ho
    split at h
    · exact rk (by simp [cls, ho]) h
    · exact rk (by simp [cls, ho]) h
    · exact rk (by simp [cls, ho]) h
    · exact eqk _ _ _ _ _ _ ho rfl h
  · -- index
    rename_i t x i ho
    split at h
    · rename_i sb kd j hx hi ht
      obtain ⟨h0, c, hc, hk⟩ := h
      refine one0 (by simp [cls, ho]) he (v := .int .u8 c.toNat) (fun w' => ?_) ⟨_, rfl, hk⟩
      have hu : (underlying t).run P w' = .ok .string w' := (Reads.underlying ht w').run
      simp only [execOp, ho, hx, hi, Instr.index, asIntOf, Sem.run_bind, Sem.run_pure, Result.andThen_ok, hu, if_pos h0, hc]
    · rename_i cs kd j n e hx hi ht
      split at h
      · rename_i inf hag hinf
        split at h
        · rename_i z hb hz
          obtain ⟨h0, h1, h2⟩ := h
          obtain ⟨v, hv, hk⟩ := exV1_get h2
          refine one0 (by simp [cls, ho]) he (v := v) (fun w' => ?_) ⟨_, rfl, hk⟩
          have hu : (underlying t).run P w' = .ok (.array n e) w' := (Reads.underlying ht w').run
          have hag' : (isAgg e).run P w' = .ok false w' := (Reads.isAgg hag w').run
          have hs1 : inf.size = 1 := Nat.eq_of_beq_eq_true hb
          simp only [execOp, ho, hx, hi, Instr.index, asIntOf, Sem.run_bind, Sem.run_pure, Result.andThen_ok, hu]
          rw [if_pos ⟨h0, h1⟩]
          simp only [Sem.run_bind, run_size hinf w', Result.andThen_ok, hs1, Nat.mul_one, part, hag', Bool.false_eq_true, if_false, hv, Sem.run_pure]
        · exact h.elim
      · exact h.elim
    · exact h.elim
  · rename_i ho; exact rk (by simp [cls, ho]) h
  · rename_i ho; exact rk (by simp [cls, ho]) h
  · rename_i ho; exact rk (by simp [cls, ho]) h
  · rename_i ho; exact rk (by simp [cls, ho]) h
  · rename_i x y ty _ ho
    split at h
    · rename_i kd a1 kd' b1 hx hy
      split at h
      · rename_i hd
        have := of_decide_eq_true hd
        subst this
        obtain ⟨h0, hk⟩ := h
        exact one0 (by simp [cls, ho]) he (fun w' => by
          simp [execOp, ho, hx, hy, eqGuard, binOp, Op.intDiv, h0]) ⟨_, rfl, hk⟩
      · exact h.elim
    · exact h.elim
  · rename_i x y ty _ ho
    split at h
    · rename_i kd a1 kd' b1 hx hy
      split at h
      · rename_i hd
        have := of_decide_eq_true hd
        subst this
        obtain ⟨h0, hk⟩ := h
        exact one0 (by simp [cls, ho]) he (fun w' => by
          simp [execOp, ho, hx, hy, eqGuard, binOp, Op.intDiv, h0]) ⟨_, rfl, hk⟩
      · exact h.elim
    · exact h.elim
  · rename_i x y ty _ ho
    split at h
    · rename_i kd a1 kd' b1 hx hy
      obtain ⟨h0, hk⟩ := h
      exact one0 (by simp [cls, ho]) he (fun w' => by
        simp only [execOp, ho, hx, hy]
        simp only [eqGuard, binOp, Op.shift, if_neg (Int.not_lt.2 h0)]
        rfl) ⟨_, rfl, hk⟩
    · exact h.elim
  · rename_i x y ty _ ho
    split at h
    · rename_i kd a1 kd' b1 hx hy
      obtain ⟨h0, hk⟩ := h
      exact one0 (by simp [cls, ho]) he (fun w' => by
        simp only [execOp, ho, hx, hy]
        simp only [eqGuard, binOp, Op.shift, if_neg (Int.not_lt.2 h0)]
        rfl) ⟨_, rfl, hk⟩
    · exact h.elim
  · rename_i f args ats ho
    split at h
    · rename_i hc; exact callGQ_one ho he hc h
    · rename_i hc
      have := callG_wp ho he h
      simp only [one, hc]
      exact this
    · exact h.elim
  · -- buildSlice
    rename_i t n parts ho
    split at h
    · rename_i e cells hlc
      have hc : cls P qs o = 2 := by simp [cls, ho]
      simp only [one, hc]
      refine ⟨.slice (some ⟨w.heap.size, 0, none⟩) n n, .cells cells e, ?_, _, rfl, h⟩
      rw [he]
      simp only [execOp, ho, Sem.run_bind, run_buildSlice hlc w, Result.andThen_ok]
      rfl
    · exact h.elim
  · -- lookup
    rename_i ho
    obtain ⟨v, hr, hk⟩ := h
    have hk := asT_get hk
    have hc : cls P qs o = 1 := by simp [cls, ho]
    simp only [one, hc]
    refine ⟨v, ?_, v, rfl, hk⟩
    rw [he]
    simp only [execOp, ho]
    exact Reads.bind hr (Reads.pure' _ _)
  · rename_i ho; exact vt (by simp [cls, ho]) _ (fun w => by simp only [execOp, ho]) h
  · rename_i ho; exact vt (by simp [cls, ho]) _ (fun w => by simp only [execOp, ho]) h
  · rename_i ho; exact uu (by simp [cls, ho]) _ (fun w => by simp only [execOp, ho]) h
  · rename_i ho; exact uu (by simp [cls, ho]) _ (fun w => by simp only [execOp, ho]) h
  · rename_i ho; exact vv (by simp [cls, ho]) _ (fun w => by simp only [execOp, ho]) (formV_run h)
  · rename_i ho; exact uu (by simp [cls, ho]) _ (fun w => by simp only [execOp, ho]) h
  · rename_i ho; exact vv (by simp [cls, ho]) _ (fun w => by simp only [execOp, ho]) (rangeK_run h)
  · rename_i ho; exact vv (by simp [cls, ho]) _ (fun w => by simp only [execOp, ho]) (nextK_run h)
  · rename_i ho; exact vv (by simp [cls, ho]) _ (fun w => by simp only [execOp, ho]) (formV_run h)
  · rename_i ho; exact vt (by simp [cls, ho]) _ (fun w => by simp only [execOp, ho, resolve, Sem.run_bind, Sem.run_pure, Result.andThen_ok, invoke, builtin]) h
  · rename_i ho; exact vt (by simp [cls, ho]) _ (fun w => by simp only [execOp, ho, resolve, Sem.run_bind, Sem.run_pure, Result.andThen_ok, invoke, builtin]) h
  · rename_i ho; exact vt (by simp [cls, ho]) _ (fun w => by simp only [execOp, ho, resolve, Sem.run_bind, Sem.run_pure, Result.andThen_ok, invoke, builtin]) h
  · rename_i ho; exact vt (by simp [cls, ho]) _ (fun w => by simp only [execOp, ho, resolve, Sem.run_bind, Sem.run_pure, Result.andThen_ok, invoke, builtin]) h
  · -- len
    rename_i args ats ho
    split at h
    · rename_i hmp
      obtain ⟨v, hr, hk⟩ := h
      have hk := asT_get hk
      have hc : cls P qs o = 1 := by simp [cls, ho, hmp]
      simp only [one, hc]
      refine ⟨v, ?_, v, rfl, hk⟩
      rw [he]
      simp only [execOp, ho, resolve, invoke, builtin]
      exact Reads.bind (Reads.pure' _ _) (Reads.bind hr (Reads.pure' _ _))
    · rename_i hmp
      exact rk (by simp [cls, ho, hmp]) h
  · -- convert
    rename_i ho
    split at h
    · rename_i hii
      exact rk (by simp only [cls, ho]; rw [if_pos hii]) h
    · rename_i hii
      exact vt (by simp only [cls, ho]; rw [if_neg (by rw [hii]; simp)]) _ (fun w => by simp only [execOp, ho]) h
  · exact gen h

/-! Regions. -/
/-- Does a guard look at what this operation yields? -/
def guards (ops : Array Oper) (o : Oper) : Bool :=
  ops.toList.any fun p => match p.guard, o.dst with
    | some (j, _), some d => match (ops[j]?).bind (·.dst) with | some t => Nat.beq t d | none => false
    | _, _ => false
def wantE (ops : Array Oper) (E : Env) (o : Oper) : Option Bool :=
  match o.guard with
  | none => some true
  | some (j, want) => match (ops[j]?).bind (·.dst) with
    | none => some false
    | some t => match look E t with
      | some (.bool b) => some (match b, want with | true, true => true | false, false => true | _, _ => false)
      | some (.tuple _) => some false
      | _ => none
def putG (ops : Array Oper) (N : Nat) (o : Oper) (E : Env) (v : Value) (k : Env → Prop) : Prop :=
  match o.dst with
  | none => k E
  | some d => match Nat.blt d N with
    | false => False
    | true => match guards ops o, v with
      | true, .bool b => br b (k (ins E d (.bool true))) (k (ins E d (.bool false)))
      | _, v => k (ins E d v)
def RG (P : Program) (qs : List Nat) (N : Nat) (ops : Array Oper) (K : Env → World → Prop) : List Oper → Env → World → Prop
  | [], E, w => K E w
  | o :: rest, E, w => match wantE ops E o with
    | some true => match o.op.operands.toList.all (known E) with
      | true => OG P qs o (val E) w fun v w' => putG ops N o E v fun E' => RG P qs N ops K rest E' w'
      | false => False
    | some false => putG ops N o E undef fun E' => RG P qs N ops K rest E' w
    | none => False

theorem putG_get {ops : Array Oper} {N : Nat} {o : Oper} {E : Env} {v : Value} {k : Env → Prop} (h : putG ops N o E v k) {a : Act} (hs : Sim N E a) : ∃ E', Sim N E' (a.put o.dst v) ∧ k E' := by
  unfold putG at h
  split at h
  · rename_i hd; rw [hd]; exact ⟨E, hs, h⟩
  · rename_i d hd
    rw [hd]
    split at h
    · exact h.elim
    · rename_i hb
      have hlt : d < N := by simpa [Nat.blt_eq] using hb
      split at h
      · rename_i b _
        cases b
        · exact ⟨_, hs.put hlt _, h⟩
        · exact ⟨_, hs.put hlt _, h⟩
      · exact ⟨_, hs.put hlt _, h⟩

theorem wantE_get {ops : Array Oper} {N : Nat} {E : Env} {o : Oper} {a : Act} {b : Bool} (hs : Sim N E a) (h : wantE ops E o = some b) : Region.wanted o (yielded ops a.tmps) = b := by
  unfold wantE at h
  unfold Region.wanted
  cases hg : o.guard with
  | none => simp [hg] at h; simp [h]
  | some g =>
    obtain ⟨j, want⟩ := g
    simp only [hg] at h
    unfold yielded
    cases hj : (ops[j]?).bind (·.dst) with
    | none => simp [hj] at h ⊢; simp [← h]
    | some t =>
      simp only [hj] at h
      simp only []
      rw [hj]
      simp only [Option.bind_some]
      split at h
      · rename_i b' hl
        rw [hs.vals t _ hl]
        simp only [Option.some.injEq] at h
        subst h
        cases b' <;> cases want <;> rfl
      · rename_i vs hl
        rw [hs.vals t _ hl]
        simp only [Option.some.injEq] at h
        subst h
        cases want <;> rfl
      · cases h

def wrO (s : Nat) (o : Oper) : Bool := match o.dst with | some d => Nat.beq d s | none => false
def Fr (W : Nat → Bool) (a a' : Act) : Prop := ∀ s, W s = false → a'.tmps[s]? = a.tmps[s]?
theorem Fr.refl (W : Nat → Bool) (a : Act) : Fr W a a := fun _ _ => rfl
theorem Fr.trans {W W1 W2 : Nat → Bool} {a b c : Act} (h1 : Fr W1 a b) (h2 : Fr W2 b c) (hw : ∀ s, W s = false → W1 s = false ∧ W2 s = false) : Fr W a c :=
  fun s hs => (h2 s (hw s hs).2).trans (h1 s (hw s hs).1)
theorem Fr.mono {W W1 : Nat → Bool} {a b : Act} (h1 : Fr W1 a b) (hw : ∀ s, W s = false → W1 s = false) : Fr W a b := fun s hs => h1 s (hw s hs)
theorem Fr.put {o : Oper} {a : Act} {v : Value} : Fr (fun s => wrO s o) a (a.put o.dst v) := by
  intro s hs
  unfold wrO at hs
  cases hd : o.dst with
  | none => rfl
  | some d =>
    simp only [hd] at hs
    simp only [Act.put]
    rw [Array.getElem?_setIfInBounds_ne (Nat.ne_of_beq_eq_false hs)]

theorem RG_TR {N : Nat} {ops : Array Oper} (hsel : Region.noSelect ops = true) {K : Env → World → Prop} {Q : Act → World → Prop} (a0 : Act) (W : Nat → Bool) (hq : ∀ E a w, Sim N E a → Fr W a0 a → K E w → Q a w) :
    ∀ (l : List Oper) (k : Nat), (∀ j, l[j]? = ops[k + j]?) → (∀ s, W s = false → l.any (wrO s) = false) → ∀ (E : Env) (a : Act) (w : World), Sim N E a → Fr W a0 a → RG P qs N ops K l E w → TR P qs ops Q (List.range' k l.length) a w
  | [], _, _, _, E, a, w, hs, hf, h => hq E a w hs hf h
  | o :: l, k, hl, hW, E, a, w, hs, hf, h => by
    have h0 : ops[k]? = some o := by simpa using (hl 0).symm
    have hW1 : ∀ s, W s = false → wrO s o = false ∧ l.any (wrO s) = false := fun s hs => by
      have := hW s hs
      simpa only [List.any_cons, Bool.or_eq_false_iff] using this
    have ih := RG_TR hsel a0 W hq l (k + 1) (fun j => by have := hl (j + 1); simpa [Nat.add_assoc, Nat.add_comm 1 j] using this) (fun s hs => (hW1 s hs).2)
    have hf' : ∀ v, Fr W a0 (a.put o.dst v) := fun v => hf.trans Fr.put (fun s hs => ⟨hs, (hW1 s hs).1⟩)
    simp only [List.length_cons, List.range'_succ, TR]
    unfold tOp
    simp only [h0]
    simp only [RG] at h
    split at h
    · rename_i hw
      rw [if_pos (wantE_get hs hw)]
      split at h
      · rename_i hkn
        have he : execOp a.eval o = execOp (val E) o := execOp_congr o (fun cs b => Region.noSelect_spec hsel k o cs b h0) fun x hx => hs.eval (List.all_eq_true.1 hkn x (by simpa using hx))
        refine one_mono (fun a' w' ⟨v, ha, hk⟩ => ?_) (OG_one (fun _ => rfl) he h)
        subst ha
        obtain ⟨E', hs', hk⟩ := putG_get hk hs
        exact ih E' _ _ hs' (hf' v) hk
      · exact h.elim
    · rename_i hw
      rw [if_neg (by rw [wantE_get hs hw]; simp)]
      obtain ⟨E', hs', hk⟩ := putG_get h hs
      exact ih E' _ _ hs' (hf' undef) hk
    · exact h.elim

def GO (P : Program) (qs : List Nat) (N : Nat) (ops : Array Oper) (o : Oper) (E : Env) (w : World) (k : Env → World → Prop) : Prop := match wantE ops E o with
  | some true => match o.op.operands.toList.all (known E) with
    | true => OG P qs o (val E) w fun v w' => putG ops N o E v fun E' => k E' w'
    | false => False
  | some false => putG ops N o E undef fun E' => k E' w
  | none => False
def allG : List Nat → (Nat → Prop) → Prop
  | [], _ => True
  | i :: r, p => match r with
    | [] => p i
    | _ :: _ => p i ∧ allG r p
theorem allG_get {p : Nat → Prop} : ∀ (l : List Nat), allG l p → ∀ i ∈ l, p i
  | [], _, i, hi => by cases hi
  | [j], h, i, hi => by simp at hi; subst hi; exact h
  | j :: k :: r, h, i, hi => by
    rcases List.mem_cons.1 hi with rfl | hi
    · exact h.1
    · exact allG_get (k :: r) h.2 i hi
/-- The tree of orders, over the slots that are known. -/
def GT (P : Program) (qs : List Nat) (N : Nat) (ops : Array Oper) (B : Array Nat) (K : Env → World → Prop) : Nat → Array Bool → Env → World → Prop
  | 0, _, E, w => K E w
  | f + 1, listed, E, w => match (Region.ready .any ops listed).find? (free P qs ops B listed) with
    | some i => match ops[i]? with
      | some o => GO P qs N ops o E w (GT P qs N ops B K f (listed.setIfInBounds i true))
      | none => False
    | none => allG (Region.ready .any ops listed) fun i => match ops[i]? with
      | some o => GO P qs N ops o E w (GT P qs N ops B K f (listed.setIfInBounds i true))
      | none => False

theorem GT_TT {N : Nat} {ops : Array Oper} {B : Array Nat} (hsel : Region.noSelect ops = true) {K : Env → World → Prop} {Q : Act → World → Prop} (a0 : Act) (W : Nat → Bool) (hq : ∀ E a w, Sim N E a → Fr W a0 a → K E w → Q a w)
    (hW : ∀ s, W s = false → ops.toList.any (wrO s) = false) :
    ∀ (f : Nat) (listed : Array Bool) (E : Env) (a : Act) (w : World), Sim N E a → Fr W a0 a → GT P qs N ops B K f listed E w → TT P qs ops B Q f listed a w
  | 0, _, E, a, w, hs, hf, h => hq E a w hs hf h
  | f + 1, listed, E, a, w, hs, hf, h => by
    have step : ∀ i, (match ops[i]? with | some o => GO P qs N ops o E w (GT P qs N ops B K f (listed.setIfInBounds i true)) | none => False) → tOp P qs ops i (TT P qs ops B Q f (listed.setIfInBounds i true)) a w := fun i h => by
      cases h0 : ops[i]? with
      | none => rw [h0] at h; exact h.elim
      | some o =>
        simp only [h0] at h
        have hW1 : ∀ s, W s = false → wrO s o = false := fun s hs => by
          have := hW s hs
          rw [List.any_eq_false] at this
          have hm : o ∈ ops.toList := by rw [Array.mem_toList_iff]; exact Array.mem_of_getElem? h0
          simpa using this o hm
        have hf' : ∀ v, Fr W a0 (a.put o.dst v) := fun v => hf.trans Fr.put (fun s hs => ⟨hs, hW1 s hs⟩)
        unfold tOp
        simp only [h0]
        unfold GO at h
        split at h
        · rename_i hw
          rw [if_pos (wantE_get hs hw)]
          split at h
          · rename_i hkn
            have he : execOp a.eval o = execOp (val E) o := execOp_congr o (fun cs b => Region.noSelect_spec hsel i o cs b h0) fun x hx => hs.eval (List.all_eq_true.1 hkn x (by simpa using hx))
            refine one_mono (fun a' w' ⟨v, ha, hk⟩ => ?_) (OG_one (fun _ => rfl) he h)
            subst ha
            obtain ⟨E', hs', hk⟩ := putG_get hk hs
            exact GT_TT hsel a0 W hq hW f _ E' _ _ hs' (hf' v) hk
          · exact h.elim
        · rename_i hw
          rw [if_neg (by rw [wantE_get hs hw]; simp)]
          obtain ⟨E', hs', hk⟩ := putG_get h hs
          exact GT_TT hsel a0 W hq hW f _ E' _ _ hs' (hf' undef) hk
        · exact h.elim
    simp only [GT] at h
    simp only [TT]
    split at h
    · rename_i i hp
      rw [hp]
      exact step i h
    · rename_i hp
      rw [hp]
      exact fun i hi => step i (allG_get _ h i hi)

theorem TR_wpOps {ops : Array Oper} {Q : Exit → Act → World → Prop} : ∀ (l : List Nat) (a : Act) (w : World), TR P qs ops (Q .normal) l a w → wpOps P ops Q l a w
  | [], _, _, h => h
  | i :: l, a, w, h => by
    rw [wpOps_cons]
    exact tOp_wpOp (tOp_mono (fun a w h => TR_wpOps l a w h) h)

/-! Code. -/
/-- The first region of a code: its number. -/
def firstId : Code → Option Nat
  | .region id _ _ => some id
  | .seq x y => match firstId x with | some i => some i | none => firstId y
  | .cond _ t f => match firstId t with | some i => some i | none => firstId f
  | .block _ c => firstId c
  | .loop c => firstId c
  | _ => none
/-- Hints, too: 500000000 + i: where the second part of a sequence begins with region i, the sequence has a formula of its own. -/
def cutOf (qs : List Nat) (y : Code) : Option Nat := match firstId y with
  | some i => match qs.any (Nat.beq (500000000 + i)) with | true => some (500000000 + i) | false => none
  | none => none
abbrev Kont := Exit → Env → World → Prop
def G (P : Program) (qs : List Nat) (N : Nat) (L : List Nat) (H : Nat → Kont → Env → World → Prop) : Nat → Code → Kont → Env → World → Prop
  | _, .skip, K, E, w => K .normal E w
  | b, .seq x y, K, E, w => match cutOf qs y with
    | some j => H j K E w
    | none => G P qs N L H b x (fun e E w => match e with | .normal => G P qs N L H b y K E w | e => K e E w) E w
  | b, .cond c t f, K, E, w => match known E c, val E c with
    | true, .bool v => br v (G P qs N L H b t K E w) (G P qs N L H b f K E w)
    | _, _ => False
  | _, .block id c, K, E, w => G P qs N L H id c (fun e E w => match e with
      | .exit j => match Nat.beq j id with | true => K .normal E w | false => K (.exit j) E w
      | e => K e E w) E w
  | _, .exit id, K, E, w => K (.exit id) E w
  | _, .ret, K, E, w => K .ret E w
  | b, .loop _, K, E, w => H b K E w
  | _, .region _ ops draw, K, E, w => match Region.noSelect ops, draw with
    | true, true => match textOk P qs ops with
      | true => dr w fun w => RG P qs N ops (fun E w => K .normal (keep L E) w) ops.toList E w
      | false => match masksOk ops (Region.before ops) with
        | true => dr w fun w => GT P qs N ops (Region.before ops) (fun E w => K .normal (keep L E) w) ops.size (Array.replicate ops.size false) E w
        | false => False
    | true, false => RG P qs N ops (fun E w => K .normal (keep L E) w) ops.toList E w
    | false, _ => False
  | _, _, _, _, _ => False

/-- The loops of a code, by the block round each, and its cuts; none within a loop or a cut. -/
def loops (qs : List Nat) : Nat → Code → List (Nat × Code)
  | b, .seq x y => match cutOf qs y with
    | some j => [(j, .seq x y)]
    | none => loops qs b x ++ loops qs b y
  | b, .cond _ t f => loops qs b t ++ loops qs b f
  | _, .block id c => loops qs id c
  | b, .loop c => [(b, .loop c)]
  | _, _ => []

/-- The slots that a code writes. -/
def wr : Code → Nat → Bool
  | .seq x y, s => wr x s || wr y s
  | .cond _ t f, s => wr t s || wr f s
  | .block _ c, s => wr c s
  | .loop c, s => wr c s
  | .region _ ops _, s => ops.toList.any (wrO s)
  | _, _ => false

def resG (P : Program) (E : Env) (w : World) : List ResultVar → (List Value → Prop) → Prop
  | [], k => k []
  | .tmp t :: r, k => match look E t with | some v => resG P E w r fun vs => k (v :: vs) | none => False
  | .cell s t :: r, k => match look E s with
    | some (.pointer (some a)) => ldT P t w a fun v => resG P E w r fun vs => k (v :: vs)
    | _ => False
def retG (P : Program) (rs : List ResultVar) (K : Value → World → Prop) : Kont := fun e E w => match e with
  | .normal => resG P E w rs fun vs => match vs with | [v] => K v w | vs => K (.tuple vs.toArray) w
  | .ret => resG P E w rs fun vs => match vs with | [v] => K v w | vs => K (.tuple vs.toArray) w
  | _ => False
/-- A continuation that hands a return on. -/
def RetOk (P : Program) (rs : List ResultVar) (F : Value → World → Prop) (K : Kont) : Prop := ∀ E w, retG P rs F .ret E w → K .ret E w

/-- What is asked of the formula for a loop. -/
def LoopOk (P : Program) (N : Nat) (rs : List ResultVar) (F : Value → World → Prop) (H : Nat → Kont → Env → World → Prop) (b : Nat) (c : Code) : Prop :=
  ∀ (K : Kont) (E : Env) (a : Act) (w : World) (Q : Exit → Act → World → Prop), RetOk P rs F K → H b K E w → Sim N E a → (∀ e E' a' w', Sim N E' a' → Fr (wr c) a a' → K e E' w' → Q e a' w') → c.wp P Q a w

theorem G_sound (hm : P.follows .mixedOrders = true) {N : Nat} {L : List Nat} {rs : List ResultVar} {F : Value → World → Prop} {H : Nat → Kont → Env → World → Prop} : ∀ (c : Code) (b : Nat), (∀ p ∈ loops qs b c, LoopOk P N rs F H p.1 p.2) →
    ∀ (K : Kont) (E : Env) (a : Act) (w : World) (Q : Exit → Act → World → Prop), RetOk P rs F K → G P qs N L H b c K E w → Sim N E a → (∀ e E' a' w', Sim N E' a' → Fr (wr c) a a' → K e E' w' → Q e a' w') → c.wp P Q a w
  | .skip, _, _, K, E, a, w, Q, _, h, hs, hq => wp_skip (hq _ _ _ _ hs (Fr.refl _ _) h)
  | .seq x y, b, hl, K, E, a, w, Q, hr, h, hs, hq => by
    simp only [G] at h
    split at h
    · rename_i j hj
      exact hl (j, .seq x y) (by simp [loops, hj]) K E a w Q hr h hs hq
    rename_i hj
    have hw : ∀ s, wr (.seq x y) s = false → wr x s = false ∧ wr y s = false := fun s h => by simpa only [wr, Bool.or_eq_false_iff] using h
    refine wp_seq (G_sound hm x b (fun p hp => hl p (by simp [loops, hj, hp])) (fun e E w => match e with | .normal => G P qs N L H b y K E w | e => K e E w) E a w _ (fun E w h => hr E w h) h hs fun e E' a' w' hs' hf hk => ?_)
    cases e <;> first
      | exact G_sound hm y b (fun p hp => hl p (by simp [loops, hj, hp])) K E' a' w' Q hr hk hs' (fun e E2 a2 w2 hs2 hf2 hk2 => hq e E2 a2 w2 hs2 (hf.trans hf2 hw) hk2)
      | exact hq _ _ _ _ hs' (hf.mono fun s h => (hw s h).1) hk
  | .cond c t f, b, hl, K, E, a, w, Q, hr, h, hs, hq => by
    have hw : ∀ s, wr (.cond c t f) s = false → wr t s = false ∧ wr f s = false := fun s h => by simpa only [wr, Bool.or_eq_false_iff] using h
    simp only [G] at h
    split at h
    · rename_i v hk hv
      have hc : a.eval c = .bool v := by rw [hs.eval hk, hv]
      refine wp_cond hc ?_
      cases v
      · exact G_sound hm f b (fun p hp => hl p (by simp [loops, hp])) K E a w Q hr h hs (fun e E2 a2 w2 hs2 hf2 hk2 => hq e E2 a2 w2 hs2 (hf2.mono fun s h => (hw s h).2) hk2)
      · exact G_sound hm t b (fun p hp => hl p (by simp [loops, hp])) K E a w Q hr h hs (fun e E2 a2 w2 hs2 hf2 hk2 => hq e E2 a2 w2 hs2 (hf2.mono fun s h => (hw s h).1) hk2)
    · exact h.elim
  | .block id c, b, hl, K, E, a, w, Q, hr, h, hs, hq => by
    refine wp_block (G_sound hm c id (fun p hp => hl p hp) (fun e E w => match e with
      | .exit j => match Nat.beq j id with | true => K .normal E w | false => K (.exit j) E w
      | e => K e E w) E a w _ (fun E w h => hr E w h) h hs fun e E' a' w' hs' hf hk => ?_)
    have hf' : Fr (wr (.block id c)) a a' := hf
    cases e <;> simp only [Exit.inBlock]
    case exit j =>
      have hk' : (match Nat.beq j id with | true => K .normal E' w' | false => K (.exit j) E' w') := hk
      clear hk
      cases hb : Nat.beq j id <;> rw [hb] at hk'
      · rw [if_neg (Nat.ne_of_beq_eq_false hb)]; exact hq _ _ _ _ hs' hf' hk'
      · rw [Nat.eq_of_beq_eq_true hb]; simp only [if_true]; exact hq _ _ _ _ hs' hf' hk'
    all_goals exact hq _ _ _ _ hs' hf' hk
  | .exit id, _, _, K, E, a, w, Q, _, h, hs, hq => wp_exit (hq _ _ _ _ hs (Fr.refl _ _) h)
  | .ret, _, _, K, E, a, w, Q, _, h, hs, hq => wp_ret (hq _ _ _ _ hs (Fr.refl _ _) h)
  | .loop c, b, hl, K, E, a, w, Q, hr, h, hs, hq => hl (b, .loop c) (by simp [loops]) K E a w Q hr h hs hq
  | .region id ops draw, _, _, K, E, a, w, Q, _, h, hs, hq => by
    have hW : ∀ s, wr (.region id ops draw) s = false → ops.toList.any (wrO s) = false := fun s h => h
    cases hsel : Region.noSelect ops <;> cases draw <;> simp only [G, hsel] at h
    · refine wp_region (TR_wpOps (qs := qs) _ a w ?_)
      have := RG_TR hsel (Q := Q .normal) a (wr (.region id ops false)) (fun E a w hs hf hk => hq _ _ _ _ (hs.keep L) hf hk) ops.toList 0 (by simp) hW E a w hs (Fr.refl _ _) h
      rw [List.range_eq_range', ← Array.length_toList]; exact this
    · split at h
      · rename_i ht
        refine wp_text hm ht ?_
        have := RG_TR hsel (Q := Q .normal) a (wr (.region id ops true)) (fun E a w hs hf hk => hq _ _ _ _ (hs.keep L) hf hk) ops.toList 0 (by simp) hW E a _ hs (Fr.refl _ _) h
        rw [List.range_eq_range', ← Array.length_toList]; exact this
      · split at h
        · rename_i hmk
          exact wp_tree hm hsel hmk (GT_TT hsel (Q := Q .normal) a (wr (.region id ops true)) (fun E a w hs hf hk => hq _ _ _ _ (hs.keep L) hf hk) hW ops.size _ E a _ hs (Fr.refl _ _) h)
        · exact h.elim
  | .rangeFunc .., _, _, _, _, _, _, _, _, h, _, _ => h.elim
  | .scope _, _, _, _, _, _, _, _, _, h, _, _ => h.elim
  | .label _, _, _, _, _, _, _, _, _, h, _, _ => h.elim
  | .goto _, _, _, _, _, _, _, _, _, h, _, _ => h.elim
  | .refuse _, _, _, _, _, _, _, _, _, h, _, _ => h.elim

/-! A whole function. -/
theorem rounds_mono {c : Code} {Q : Exit → Act → World → Prop} : ∀ (n : Nat) (a : Act) (w : World), Code.rounds P c Q n a w → Code.rounds P c Q (n + 1) a w
  | 0, _, _, h => h.elim
  | n + 1, a, w, h => by
    rw [rounds_succ] at h ⊢
    refine Code.wp_mono (fun e a w hq => ?_) h
    cases e <;> simp only [Exit.then] at hq ⊢ <;> first | exact rounds_mono n a w hq | exact hq
theorem rounds_more {c : Code} {Q : Exit → Act → World → Prop} {n : Nat} {a : Act} {w : World} (h : Code.rounds P c Q n a w) : ∀ d, Code.rounds P c Q (n + d) a w
  | 0 => h
  | d + 1 => rounds_mono _ a w (rounds_more h d)

def env0 : Nat → List Value → Env
  | _, [] => []
  | i, v :: vs => (i, v) :: env0 (i + 1) vs

theorem look_env0 : ∀ (vs : List Value) (i s : Nat) (v : Value), look (env0 i vs) s = some v → ∃ j, s = i + j ∧ vs[j]? = some v
  | [], _, _, _, h => by simp [env0, look] at h
  | u :: vs, i, s, v, h => by
    simp only [env0, look] at h
    split at h
    · rename_i hb; exact ⟨0, (Nat.eq_of_beq_eq_true hb).symm, by simpa using h⟩
    · obtain ⟨j, hj, hv⟩ := look_env0 vs (i + 1) s v h
      exact ⟨j + 1, by omega, by simpa using hv⟩

theorem resG_run {N : Nat} {E : Env} {a : Act} {w : World} (hs : Sim N E a) : ∀ (rs : List ResultVar) {k : List Value → Prop}, resG P E w rs k →
    ∃ vs, k vs ∧ (rs.mapM (fun | .tmp t => pure (a.tmps.getD t undef) | .cell s t => do loadVar t (← asAddr (a.tmps.getD s undef))) : Sem (List Value)).run P w = .ok vs w
  | [], _, h => ⟨[], h, rfl⟩
  | .tmp t :: r, k, h => by
    simp only [resG] at h
    split at h
    · rename_i v hv
      obtain ⟨vs, hk, hr⟩ := resG_run hs r h
      refine ⟨v :: vs, hk, ?_⟩
      have : a.tmps.getD t undef = v := by simp [hs.vals t v hv]
      simp only [List.mapM_cons, this, Sem.run_bind, Sem.run_pure, Result.andThen_ok, hr]
    · exact h.elim
  | .cell s t :: r, k, h => by
    simp only [resG] at h
    split at h
    · rename_i ad hv
      obtain ⟨v, hrd, h⟩ := ldT_reads h
      obtain ⟨vs, hk, hr⟩ := resG_run hs r h
      refine ⟨v :: vs, hk, ?_⟩
      have : a.tmps.getD s undef = .pointer (some ad) := by simp [hs.vals s _ hv]
      have e : (do loadVar t (← asAddr (a.tmps.getD s undef)) : Sem Value).run P w = .ok v w := by rw [this]; exact hrd.run
      simp only [List.mapM_cons, Sem.run_bind]
      rw [← Sem.run_bind, e]
      simp only [Result.andThen_ok, hr, Sem.run_pure]
    · exact h.elim

theorem results_run {fn : Func} {N : Nat} {E : Env} {a : Act} {w : World} (hs : Sim N E a) {K : Value → World → Prop} (h : resG P E w fn.results.toList fun vs => match vs with | [v] => K v w | vs => K (.tuple vs.toArray) w) :
    ∃ v, (results fn a.tmps).run P w = .ok v w ∧ K v w := by
  obtain ⟨vs, hk, hr⟩ := resG_run hs _ h
  unfold results
  rw [Array.mapM_eq_mapM_toList]
  simp only [map_eq_pure_bind, Sem.run_bind]
  generalize hg : (fn.results.toList.mapM _ : Sem (List Value)) = m
  have e : m.run P w = .ok vs w := by rw [← hg]; exact hr
  rw [e]
  simp only [Result.andThen_ok, Sem.run_pure]
  match vs, hk with
  | [], hk => exact ⟨_, by simp, hk⟩
  | [v], hk => exact ⟨v, by simp, hk⟩
  | u :: v :: vs, hk => exact ⟨_, by simp, hk⟩

theorem retG_post {fn : Func} {N : Nat} {K : Value → World → Prop} {e : Exit} {E : Env} {a : Act} {w : World} (hs : Sim N E a) (h : retG P fn.results.toList K e E w) : bodyPost P fn (fun e w' => ∃ v, e = .returned v ∧ K v w') e a w := by
  cases e <;> simp only [retG] at h
  · obtain ⟨v, hr, hk⟩ := results_run hs h
    exact ⟨hs.defers, v, hr, v, rfl, hk⟩
  · obtain ⟨v, hr, hk⟩ := results_run hs h
    exact ⟨hs.defers, v, hr, v, rfl, hk⟩

theorem sim0 {args : List Value} {N : Nat} (hl : args.length ≤ N) : Sim N (env0 0 args) { tmps := args.toArray ++ Array.replicate (N - args.toArray.size) undef, defers := [] } := by
  refine ⟨rfl, by simp; omega, fun s v h => ?_⟩
  obtain ⟨j, hj, hv⟩ := look_env0 args 0 s v h
  have hlt : j < args.length := (List.getElem?_eq_some_iff.1 hv).1
  have hsj : s = j := by omega
  subst hsj
  rw [Array.getElem?_append_left (by simpa using hlt)]
  simpa using hv

/-- **A CALL, BY ITS FUNCTION's FORMULA.** -/
theorem call_sound (hm : P.follows .mixedOrders = true) {f : FuncId} {fn : Func} {c : Code} (hf : P.funcs[f]? = some fn) (hb : fn.body = some c) {L : List Nat} {H : Nat → Kont → Env → World → Prop} {args : List Value} {w : World} {K : Value → World → Prop}
    (hn : Nat.ble args.length fn.ntmps = true) (hl : ∀ p ∈ loops qs 0 c, LoopOk P fn.ntmps fn.results.toList K H p.1 p.2) (h : G P qs fn.ntmps L H 0 c (retG P fn.results.toList K) (env0 0 args) w) : callV P f args.toArray w K :=
  calls_of_wp hf hb (G_sound hm c 0 hl _ _ _ w _ (fun _ _ h => h) h (sim0 (Nat.le_of_ble_eq_true hn)) fun _ _ _ _ hs _ hk => retG_post hs hk)

/-- What a round leaves of an environment: a slot that it does not write, or one that is known behind it. -/
def Cov (c : Code) (E E' : Env) : Env → Prop
  | [] => True
  | (s, v) :: r => ((wr c s = false ∧ look E s = some v) ∨ look E' s = some v) ∧ Cov c E E' r
theorem Cov.look {c : Code} {E E' : Env} : ∀ {E2 : Env}, Cov c E E' E2 → ∀ s v, Sh.look E2 s = some v → (wr c s = false ∧ Sh.look E s = some v) ∨ Sh.look E' s = some v
  | [], _, s, v, h => by simp [Sh.look] at h
  | (t, u) :: r, ⟨h1, h2⟩, s, v, h => by
    simp only [Sh.look] at h
    split at h
    · rename_i hb
      have := Nat.eq_of_beq_eq_true hb
      subst this
      simp only [Option.some.injEq] at h
      subst h
      exact h1
    · exact Cov.look h2 s v h
theorem Sim.next {N : Nat} {c : Code} {E E' E2 : Env} {a a' : Act} (hs : Sim N E a) (hf : Fr (wr c) a a') (hs' : Sim N E' a') (hc : Cov c E E' E2) : Sim N E2 a' :=
  ⟨hs'.defers, hs'.size, fun s v h => by
    rcases hc.look s v h with ⟨h1, h2⟩ | h1
    · rw [hf s h1]; exact hs.vals s v h2
    · exact hs'.vals s v h1⟩

/-- A loop: 'env': what its head knows, by its state; 'J': what holds there, with a number that goes down; 'Kt': what its round is read with. -/
theorem loop_typed (hm : P.follows .mixedOrders = true) {N : Nat} {L : List Nat} {rs : List ResultVar} {F : Value → World → Prop} {H : Nat → Kont → Env → World → Prop} {b : Nat} {c : Code} (hl : ∀ p ∈ loops qs b c, LoopOk P N rs F H p.1 p.2)
    {Q : Exit → Act → World → Prop} {σ : Type} (env : σ → Env) (J : Nat → σ → World → Prop) (Kt : Nat → Kont) (hr : ∀ n, RetOk P rs F (Kt n))
    (round : ∀ n s w, J n s w → G P qs N L H b c (Kt n) (env s) w)
    (next : ∀ n s E' w', Kt n .normal E' w' → ∃ m s', m < n ∧ J m s' w' ∧ Cov c (env s) E' (env s'))
    (a0 : Act) (out : ∀ n s a e E' a' w', e ≠ .normal → Sim N (env s) a → Fr (wr c) a0 a' → Fr (wr c) a a' → Sim N E' a' → Kt n e E' w' → Q e a' w') :
    ∀ n s a w, J n s w → Fr (wr c) a0 a → Sim N (env s) a → (Code.loop c).wp P Q a w := by
  intro n s a w hJ hf hs
  refine wp_loop_rounds (n + 1) ?_
  have key : ∀ n s a w, J n s w → Fr (wr c) a0 a → Sim N (env s) a → Code.rounds P c Q (n + 1) a w := by
    intro n
    induction n using Nat.strongRecOn with
    | _ n ih =>
      intro s a w hJ hf hs
      rw [rounds_succ]
      refine G_sound hm c b hl _ (env s) a w _ (hr n) (round n s w hJ) hs fun e E' a' w' hs' hf' hk => ?_
      have hfr : Fr (wr c) a0 a' := hf.trans hf' fun s h => ⟨h, h⟩
      by_cases he : e = .normal
      · subst he
        obtain ⟨m, s', hmn, hJ', hc⟩ := next n s E' w' hk
        have h1 := ih m hmn s' a' w' hJ' hfr (hs.next hf' hs' hc)
        simp only [Exit.then]
        obtain ⟨d, rfl⟩ : ∃ d, n = m + 1 + d := ⟨n - (m + 1), by omega⟩
        exact rounds_more h1 d
      · have := out n s a e E' a' w' he hs hfr hf' hs' hk
        cases e <;> simp only [Exit.then] <;> first | exact this | exact (he rfl).elim
  exact key n s a w hJ hf hs

/-- A cut: 'J': what holds where the second part begins; 'Kx', 'Ky': what the parts are read with. -/
theorem cut_typed (hm : P.follows .mixedOrders = true) {N : Nat} {L : List Nat} {rs : List ResultVar} {F : Value → World → Prop} {H : Nat → Kont → Env → World → Prop} {b : Nat} {x y : Code} (hlx : ∀ p ∈ loops qs b x, LoopOk P N rs F H p.1 p.2) (hly : ∀ p ∈ loops qs b y, LoopOk P N rs F H p.1 p.2)
    {Q : Exit → Act → World → Prop} {σ : Type} (E0 : Env) (env : σ → Env) (J : σ → World → Prop) (Kx Ky : Kont) (hrx : RetOk P rs F Kx) (hry : RetOk P rs F Ky) {w : World}
    (hx : G P qs N L H b x Kx E0 w) (hy : ∀ s w, J s w → G P qs N L H b y Ky (env s) w)
    (mid : ∀ E' w', Kx .normal E' w' → ∃ s, J s w' ∧ Cov x E0 E' (env s))
    {a : Act} (hs : Sim N E0 a)
    (outx : ∀ e E' a' w', e ≠ .normal → Fr (wr (.seq x y)) a a' → Sim N E' a' → Kx e E' w' → Q e a' w')
    (outy : ∀ s a1 e E' a' w', Sim N (env s) a1 → Fr (wr (.seq x y)) a a1 → Fr (wr y) a1 a' → Fr (wr (.seq x y)) a a' → Sim N E' a' → Ky e E' w' → Q e a' w') : (Code.seq x y).wp P Q a w := by
  have hw : ∀ s, wr (.seq x y) s = false → wr x s = false ∧ wr y s = false := fun s h => by simpa only [wr, Bool.or_eq_false_iff] using h
  refine wp_seq (G_sound hm x b hlx _ E0 a w _ hrx hx hs fun e E' a' w' hs' hf hk => ?_)
  have hfx : Fr (wr (.seq x y)) a a' := hf.mono fun s h => (hw s h).1
  by_cases he : e = .normal
  · subst he
    obtain ⟨s, hJ, hc⟩ := mid E' w' hk
    have h1 := hs.next hf hs' hc
    exact G_sound hm y b hly Ky (env s) a' w' Q hry (hy s w' hJ) h1 fun e2 E2 a2 w2 hs2 hf2 hk2 => outy s a' e2 E2 a2 w2 h1 hfx hf2 (hf.trans hf2 hw) hs2 hk2
  · have := outx e E' a' w' he hfx hs' hk
    cases e <;> first | exact this | exact (he rfl).elim

def bodyOf (fn : Func) : Code := fn.body.getD .skip
/-- The sequence whose second part begins with region 'i'. -/
def seqIn (i : Nat) : Code → Option (Code × Code)
  | .seq x y => match (match firstId y with | some j => Nat.beq j i | none => false) with
    | true => some (x, y)
    | false => match seqIn i x with | some c => some c | none => seqIn i y
  | .cond _ t f => match seqIn i t with | some c => some c | none => seqIn i f
  | .block _ c => seqIn i c
  | .loop c => seqIn i c
  | _ => none
def seqX (i : Nat) (fn : Func) : Code := match seqIn i (bodyOf fn) with | some (x, _) => x | none => .skip
def seqY (i : Nat) (fn : Func) : Code := match seqIn i (bodyOf fn) with | some (_, y) => y | none => .skip
/-- The body of the loop in block 'b'. -/
def loopIn (b : Nat) : Nat → Code → Option Code
  | o, .seq x y => match loopIn b o x with | some c => some c | none => loopIn b o y
  | o, .cond _ t f => match loopIn b o t with | some c => some c | none => loopIn b o f
  | _, .block id c => loopIn b id c
  | o, .loop c => match Nat.beq o b with | true => some c | false => loopIn b o c
  | _, _ => none
def loopOf (b : Nat) (fn : Func) : Code := (loopIn b 0 (bodyOf fn)).getD .skip

def AllL (φ : Nat × Code → Prop) : List (Nat × Code) → Prop
  | [] => True
  | p :: r => φ p ∧ AllL φ r
theorem allL {φ : Nat × Code → Prop} : ∀ {l l' : List (Nat × Code)}, l = l' → AllL φ l' → ∀ p ∈ l, φ p
  | _, [], rfl, _ => fun p hp => by cases hp
  | _, q :: r, rfl, ⟨h1, h2⟩ => fun p hp => by
    cases hp with
    | head => exact h1
    | tail _ h => exact allL rfl h2 p h

def jn {α : Type} (f : α) (k : α → Prop) : Prop := k f

/-! What a slot is known to hold. -/
def gV (E : Env) (s : Nat) (k : Value → Prop) : Prop := match look E s with | some v => k v | none => False
def gI (kd : IntKind) (E : Env) (s : Nat) (k : Int → Prop) : Prop := match look E s with | some (.int kd' n) => (match decide (kd' = kd) with | true => k n | false => False) | _ => False
def gB (E : Env) (s : Nat) (k : Bool → Prop) : Prop := match look E s with | some (.bool b) => k b | _ => False
def gP (E : Env) (s : Nat) (k : Option Addr → Prop) : Prop := match look E s with | some (.pointer p) => k p | _ => False
def gA (E : Env) (s : Nat) (k : Addr → Prop) : Prop := match look E s with | some (.pointer (some a)) => k a | _ => False
def gS (E : Env) (s : Nat) (k : Option Addr → Nat → Nat → Prop) : Prop := match look E s with | some (.slice p n c) => k p n c | _ => False
def gT (E : Env) (s : Nat) (k : ByteArray → Prop) : Prop := match look E s with | some (.string x) => k x | _ => False
def gM (E : Env) (s : Nat) (k : Option Nat → Prop) : Prop := match look E s with | some (.map r) => k r | _ => False
theorem gV_get {E : Env} {s : Nat} {k : Value → Prop} (h : gV E s k) : ∃ v, look E s = some v ∧ k v := by
  unfold gV at h; split at h; exact ⟨_, by assumption, h⟩; exact h.elim
theorem gI_get {kd : IntKind} {E : Env} {s : Nat} {k : Int → Prop} (h : gI kd E s k) : ∃ n, look E s = some (.int kd n) ∧ k n := by
  unfold gI at h
  split at h
  · rename_i kd' n hl
    split at h
    · rename_i hd; have := of_decide_eq_true hd; subst this; exact ⟨n, hl, h⟩
    · exact h.elim
  · exact h.elim
theorem gB_get {E : Env} {s : Nat} {k : Bool → Prop} (h : gB E s k) : ∃ b, look E s = some (.bool b) ∧ k b := by
  unfold gB at h; split at h; exact ⟨_, by assumption, h⟩; exact h.elim
theorem gP_get {E : Env} {s : Nat} {k : Option Addr → Prop} (h : gP E s k) : ∃ p, look E s = some (.pointer p) ∧ k p := by
  unfold gP at h; split at h; exact ⟨_, by assumption, h⟩; exact h.elim
theorem gA_get {E : Env} {s : Nat} {k : Addr → Prop} (h : gA E s k) : ∃ a, look E s = some (.pointer (some a)) ∧ k a := by
  unfold gA at h; split at h; exact ⟨_, by assumption, h⟩; exact h.elim
theorem gS_get {E : Env} {s : Nat} {k : Option Addr → Nat → Nat → Prop} (h : gS E s k) : ∃ p n c, look E s = some (.slice p n c) ∧ k p n c := by
  unfold gS at h; split at h; exact ⟨_, _, _, by assumption, h⟩; exact h.elim
theorem gT_get {E : Env} {s : Nat} {k : ByteArray → Prop} (h : gT E s k) : ∃ x, look E s = some (.string x) ∧ k x := by
  unfold gT at h; split at h; exact ⟨_, by assumption, h⟩; exact h.elim
theorem gM_get {E : Env} {s : Nat} {k : Option Nat → Prop} (h : gM E s k) : ∃ r, look E s = some (.map r) ∧ k r := by
  unfold gM at h; split at h; exact ⟨_, by assumption, h⟩; exact h.elim
end
end Go.Sh
