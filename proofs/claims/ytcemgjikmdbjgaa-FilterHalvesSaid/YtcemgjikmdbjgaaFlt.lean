/- Filters in plain Lean: what is let in, what covers what. -/
namespace Go.Flt

structure Flt where
  ext : Bool
  mask : BitVec 32
  mat : BitVec 32
deriving DecidableEq
def top (e : Bool) : BitVec 32 := if e then 536870911#32 else 2047#32
def wid (e : Bool) : Nat := if e then 29 else 11
def right (x : Flt) : Bool := decide (x.mask.toNat ≤ (top x.ext).toNat) && (x.mat &&& ~~~x.mask == 0#32)
def lets (id : BitVec 32) (ext : Bool) (x : Flt) : Bool := right x && (x.ext == ext) && (id &&& x.mask == x.mat)
def covers (a b : Flt) : Bool := right a && right b && (a.ext == b.ext) && (a.mask &&& ~~~b.mask == 0#32) && (b.mat &&& a.mask == a.mat)

def bt (x : BitVec 32) (i : Nat) : Bool := x.getLsbD i
theorem bt_and (x y : BitVec 32) (i : Nat) : bt (x &&& y) i = (bt x i && bt y i) := BitVec.getLsbD_and
theorem bt_or (x y : BitVec 32) (i : Nat) : bt (x ||| y) i = (bt x i || bt y i) := BitVec.getLsbD_or
theorem bt_xor (x y : BitVec 32) (i : Nat) : bt (x ^^^ y) i = (bt x i ^^ bt y i) := BitVec.getLsbD_xor
theorem bt_not (x : BitVec 32) (i : Nat) : bt (~~~x) i = (decide (i < 32) && !bt x i) := BitVec.getLsbD_not
theorem bt_zero (i : Nat) : bt 0#32 i = false := BitVec.getLsbD_zero
theorem bt_lt {x : BitVec 32} {i : Nat} (h : bt x i = true) : i < 32 := BitVec.lt_of_getLsbD h
theorem bits_eq {x y : BitVec 32} (h : ∀ i, bt x i = bt y i) : x = y := BitVec.eq_of_getLsbD_eq fun i _ => h i
theorem eq_bits {x y : BitVec 32} (h : x = y) (i : Nat) : bt x i = bt y i := by rw [h]
theorem top_bits (e : Bool) (i : Nat) : bt (top e) i = decide (i < wid e) := by
  have : top e = BitVec.ofNat 32 (2 ^ wid e - 1) := by cases e <;> rfl
  have hw : wid e ≤ 32 := by cases e <;> decide
  rw [this, bt, BitVec.getLsbD_ofNat, Nat.testBit_two_pow_sub_one]
  by_cases h : i < wid e
  · simp [h]; omega
  · simp [h]
theorem top_nat (e : Bool) : (top e).toNat = 2 ^ wid e - 1 := by cases e <;> rfl
theorem le_top {x : BitVec 32} {e : Bool} : x.toNat ≤ (top e).toNat ↔ ∀ i, bt x i = true → i < wid e := by
  rw [top_nat]
  have hp : 0 < 2 ^ wid e := Nat.two_pow_pos _
  constructor
  · intro h i hi
    rcases Nat.lt_or_ge i (wid e) with h1 | h1
    · exact h1
    · have := Nat.testBit_lt_two_pow (x := x.toNat) (i := i) (Nat.lt_of_lt_of_le (by omega) (Nat.pow_le_pow_right (by decide) h1))
      rw [bt, BitVec.getLsbD] at hi
      rw [hi] at this; cases this
  · intro h
    have : x.toNat < 2 ^ wid e := by
      apply Nat.lt_pow_two_of_testBit
      intro i hi
      cases hb : x.toNat.testBit i with
      | false => rfl
      | true => exact absurd (h i hb) (by omega)
    omega
theorem sub_iff {a b : BitVec 32} : (a &&& ~~~b == 0#32) = true ↔ ∀ i, bt a i = true → bt b i = true := by
  rw [beq_iff_eq]
  refine ⟨fun h i hi => ?_, fun h => bits_eq fun i => ?_⟩
  · have := eq_bits h i
    rw [bt_and, bt_not, bt_zero, hi] at this
    simpa [bt_lt hi] using this
  · have := h i
    rw [bt_and, bt_not, bt_zero]
    cases hm : bt a i <;> simp_all
theorem right_iff {x : Flt} : right x = true ↔ (∀ i, bt x.mask i = true → i < wid x.ext) ∧ ∀ i, bt x.mat i = true → bt x.mask i = true := by
  unfold right
  rw [Bool.and_eq_true, decide_eq_true_eq, le_top, sub_iff]
theorem and_iff {a b c : BitVec 32} : (a &&& b == c) = true ↔ ∀ i, (bt a i && bt b i) = bt c i := by
  rw [beq_iff_eq]
  refine ⟨fun h i => ?_, fun h => bits_eq fun i => ?_⟩
  · have := eq_bits h i; rwa [bt_and] at this
  · rw [bt_and]; exact h i
theorem lets_iff {id : BitVec 32} {ext : Bool} {x : Flt} : lets id ext x = true ↔ right x = true ∧ x.ext = ext ∧ ∀ i, (bt id i && bt x.mask i) = bt x.mat i := by
  unfold lets
  rw [Bool.and_eq_true, Bool.and_eq_true, beq_iff_eq, and_iff, and_assoc]
theorem covers_iff {a b : Flt} : covers a b = true ↔ right a = true ∧ right b = true ∧ a.ext = b.ext ∧ (∀ i, bt a.mask i = true → bt b.mask i = true) ∧ ∀ i, (bt b.mat i && bt a.mask i) = bt a.mat i := by
  unfold covers
  rw [Bool.and_eq_true, Bool.and_eq_true, Bool.and_eq_true, Bool.and_eq_true, beq_iff_eq, sub_iff, and_iff]
  simp only [and_assoc]

/-- A filter made right. -/
def mend (x : Flt) : Flt := ⟨x.ext, x.mask &&& top x.ext, x.mat &&& (x.mask &&& top x.ext)⟩
theorem mend_right (x : Flt) : right (mend x) = true := by
  rw [right_iff]
  refine ⟨fun i hi => ?_, fun i hi => ?_⟩
  · simp [mend, bt_and, top_bits] at hi; exact hi.2
  · simp [mend, bt_and, top_bits] at hi ⊢; exact hi.2
theorem lets_self {b : Flt} (hb : right b = true) (id : BitVec 32) : lets ((b.mat ||| (id &&& ~~~b.mask)) &&& top b.ext) b.ext b = true := by
  rw [lets_iff]
  refine ⟨hb, rfl, fun i => ?_⟩
  obtain ⟨h1, h2⟩ := right_iff.1 hb
  have h1 := h1 i; have h2 := h2 i
  rw [bt_and, bt_or, bt_and, bt_not, top_bits]
  cases hm : bt b.mat i <;> cases hk : bt b.mask i <;> simp_all
theorem lets_covered {a b : Flt} (h : covers a b = true) {id : BitVec 32} {e : Bool} (hl : lets id e b = true) : lets id e a = true := by
  obtain ⟨ha, hb, he, h1, h2⟩ := covers_iff.1 h
  obtain ⟨_, he2, h3⟩ := lets_iff.1 hl
  rw [lets_iff]
  refine ⟨ha, he.trans he2, fun i => ?_⟩
  have h1 := h1 i; have h2 := h2 i; have h3 := h3 i
  cases hm : bt a.mask i <;> cases hk : bt b.mask i <;> simp_all
theorem covers_refl {a : Flt} (h : right a = true) : covers a a = true := by
  rw [covers_iff]
  refine ⟨h, h, rfl, fun _ h => h, fun i => ?_⟩
  have := (right_iff.1 h).2 i
  cases hm : bt a.mat i <;> simp_all
theorem covers_trans {a b c : Flt} (h : covers a b = true) (k : covers b c = true) : covers a c = true := by
  obtain ⟨ha, hb, he, h1, h2⟩ := covers_iff.1 h
  obtain ⟨_, hc, he2, h3, h4⟩ := covers_iff.1 k
  rw [covers_iff]
  refine ⟨ha, hc, he.trans he2, fun i hi => h3 i (h1 i hi), fun i => ?_⟩
  have h1 := h1 i; have h2 := h2 i; have h3 := h3 i; have h4 := h4 i
  cases hm : bt a.mask i <;> cases hk : bt b.mask i <;> simp_all
theorem covers_anti {a b : Flt} (h : covers a b = true) (k : covers b a = true) : a = b := by
  obtain ⟨ha, hb, he, h1, h2⟩ := covers_iff.1 h
  obtain ⟨_, _, _, h3, h4⟩ := covers_iff.1 k
  obtain ⟨ea, ma, ta⟩ := a
  obtain ⟨eb, mb, tb⟩ := b
  dsimp only at *
  subst he
  have hm : ma = mb := bits_eq fun i => by
    have h1 := h1 i; have h3 := h3 i
    cases hx : bt ma i <;> cases hy : bt mb i <;> simp_all
  subst hm
  have ht : ta = tb := bits_eq fun i => by
    have h2 := h2 i; have h4 := h4 i
    have h5 := (right_iff.1 hb).2 i
    dsimp only at h5
    cases hx : bt ma i <;> cases hy : bt tb i <;> simp_all
  subst ht
  rfl
theorem not_covers {a b : Flt} (ha : right a = true) (hb : right b = true) (he : a.ext = b.ext) (h : covers a b = false) : lets b.mat b.ext a = false ∨ ∃ i, i < 29 ∧ bt a.mask i = true ∧ bt b.mask i = false := by
  by_cases h1 : ∀ i, bt a.mask i = true → bt b.mask i = true
  · left
    cases hl : lets b.mat b.ext a with
    | false => rfl
    | true =>
      obtain ⟨_, _, h3⟩ := lets_iff.1 hl
      rw [covers_iff.2 ⟨ha, hb, he, h1, h3⟩] at h; cases h
  · right
    apply Classical.byContradiction
    intro h2
    refine h1 fun i hi => ?_
    cases hm : bt b.mask i with
    | true => rfl
    | false =>
      have := (right_iff.1 ha).1 i hi
      have : wid a.ext ≤ 29 := by cases a.ext <;> decide
      exact absurd ⟨i, by omega, hi, hm⟩ h2
theorem bt_bit (k i : Nat) : bt (1#32 <<< k) i = (decide (i < 32) && decide (i = k)) := by
  rw [bt, BitVec.getLsbD_shiftLeft, BitVec.getLsbD_one, Bool.eq_iff_iff]
  simp only [Bool.and_eq_true, decide_eq_true_eq, Bool.not_eq_true', decide_eq_false_iff_not]
  omega
theorem xor_lets {a : Flt} {k : Nat} (hk : bt a.mask k = true) {id : BitVec 32} {e : Bool} (h : lets id e a = true) : lets (id ^^^ (1#32 <<< k)) e a = false := by
  cases hl : lets (id ^^^ (1#32 <<< k)) e a with
  | false => rfl
  | true =>
    have h1 := (lets_iff.1 h).2.2 k
    have h2 := (lets_iff.1 hl).2.2 k
    rw [bt_xor, bt_bit] at h2
    rw [hk, Bool.and_true] at h1 h2
    rw [h1, decide_eq_true (bt_lt hk), decide_eq_true rfl] at h2
    cases hx : bt a.mat k <;> rw [hx] at h2 <;> cases h2
theorem top_zero_bits {e : Bool} {k : Nat} (hk : k < wid e) : k < 32 := by cases e <;> simp [wid] at hk <;> omega
/-- FilterHalves: the filter that asks one bit more, either way. -/
def half (x : Flt) (k : Nat) (v : Bool) : Flt := ⟨x.ext, x.mask ||| (1#32 <<< k), if v then x.mat ||| (1#32 <<< k) else x.mat⟩
theorem half_right {x : Flt} (h : right x = true) {k : Nat} (hk : k < wid x.ext) (v : Bool) : right (half x k v) = true := by
  obtain ⟨h1, h2⟩ := right_iff.1 h
  rw [right_iff]
  refine ⟨fun i hi => ?_, fun i hi => ?_⟩
  · simp [half, bt_or, bt_bit] at hi
    rcases hi with hi | ⟨_, rfl⟩
    · exact h1 i hi
    · exact hk
  · cases v <;> simp [half, bt_or, bt_bit] at hi ⊢
    · exact .inl (h2 i hi)
    · rcases hi with hi | hi
      · exact .inl (h2 i hi)
      · exact .inr hi
theorem half_lets {x : Flt} (h : right x = true) {k : Nat} (hk : k < wid x.ext) (hm : bt x.mask k = false) (v : Bool) (id : BitVec 32) : lets id x.ext (half x k v) = (lets id x.ext x && (bt id k == v)) := by
  obtain ⟨h1, h2⟩ := right_iff.1 h
  have hr := half_right h hk v
  have h32 := top_zero_bits hk
  have ht : bt x.mat k = false := by cases hx : bt x.mat k; rfl; rw [h2 k hx] at hm; cases hm
  rw [Bool.eq_iff_iff, Bool.and_eq_true, lets_iff, lets_iff, beq_iff_eq]
  constructor
  · rintro ⟨_, _, h3⟩
    refine ⟨⟨h, rfl, fun i => ?_⟩, ?_⟩
    · have h4 := h3 i
      by_cases hik : i = k
      · subst hik; rw [hm, ht]; simp
      · cases v <;> simp [half, bt_or, bt_bit, hik] at h4 <;> exact h4
    · have h4 := h3 k
      cases v <;> simp [half, bt_or, bt_bit, h32, ht] at h4 <;> exact h4
  · rintro ⟨⟨_, _, h3⟩, h4⟩
    refine ⟨hr, rfl, fun i => ?_⟩
    have h5 := h3 i
    by_cases hik : i = k
    · subst hik; cases v <;> simp [half, bt_or, bt_bit, h32, ht] <;> exact h4
    · cases v <;> simp [half, bt_or, bt_bit, hik] <;> exact h5
theorem half_covers {x : Flt} (h : right x = true) {k : Nat} (hk : k < wid x.ext) (hm : bt x.mask k = false) (v : Bool) : covers x (half x k v) = true ∧ covers (half x k v) x = false := by
  obtain ⟨h1, h2⟩ := right_iff.1 h
  have hr := half_right h hk v
  have h32 := top_zero_bits hk
  constructor
  · rw [covers_iff]
    refine ⟨h, hr, rfl, fun i hi => by simp [half, bt_or, hi], fun i => ?_⟩
    have h3 := h2 i
    cases v
    · simp [half]; cases hx : bt x.mat i <;> simp_all
    · by_cases hik : i = k
      · subst hik
        rw [hm]; simp
        cases hx : bt x.mat i <;> simp_all
      · simp [half, bt_or, bt_bit, hik]; cases hx : bt x.mat i <;> simp_all
  · cases hc : covers (half x k v) x with
    | false => rfl
    | true =>
      have := (covers_iff.1 hc).2.2.2.1 k (by simp [half, bt_or, bt_bit, h32])
      rw [hm] at this; cases this
theorem halves_apart {x : Flt} {k : Nat} (hk : k < wid x.ext) (hr : right x = true) (hm : bt x.mask k = false) : covers (half x k false) (half x k true) = false := by
  have h32 := top_zero_bits hk
  have ht : bt x.mat k = false := by cases hx : bt x.mat k; rfl; rw [(right_iff.1 hr).2 k hx] at hm; cases hm
  cases hc : covers (half x k false) (half x k true) with
  | false => rfl
  | true =>
    have := (covers_iff.1 hc).2.2.2.2 k
    simp [half, bt_or, bt_bit, h32, ht] at this
end Go.Flt
