/- Plain lists of bytes: numbers as bytes, the tape as the document says it. No program in sight. -/
namespace Go.Proofs.Ytabdpebokpjljaa

/-- The lowest k bytes of n, the highest one first. -/
def enc : Nat → Nat → List UInt8
  | 0, _ => []
  | k + 1, n => UInt8.ofNat (n / 256 ^ k) :: enc k n

/-- The number of bytes, the highest one first. -/
def be (l : List UInt8) : Nat := l.foldl (fun a b => 256 * a + b.toNat) 0

theorem enc_length : ∀ k n, (enc k n).length = k
  | 0, _ => rfl
  | k + 1, n => by simp [enc, enc_length k n]

theorem foldl_be (l : List UInt8) : ∀ a, l.foldl (fun a b => 256 * a + b.toNat) a = a * 256 ^ l.length + be l := by
  unfold be
  induction l with
  | nil => intro a; simp
  | cons b l ih =>
    intro a
    simp only [List.foldl_cons, List.length_cons, Nat.mul_zero, Nat.zero_add]
    rw [ih, ih b.toNat, Nat.pow_succ, Nat.add_mul]
    have : 256 * a * 256 ^ l.length = a * (256 ^ l.length * 256) := by
      rw [Nat.mul_comm 256 a, Nat.mul_assoc, Nat.mul_comm 256]
    omega

theorem be_nil : be [] = 0 := rfl
theorem be_cons (b : UInt8) (l : List UInt8) : be (b :: l) = b.toNat * 256 ^ l.length + be l := by
  have := foldl_be l b.toNat
  simpa [be] using this
theorem be_snoc (l : List UInt8) (b : UInt8) : be (l ++ [b]) = 256 * be l + b.toNat := by
  simp [be]
theorem be_lt (l : List UInt8) : be l < 256 ^ l.length := by
  induction l with
  | nil => simp [be_nil]
  | cons b l ih =>
    rw [be_cons, List.length_cons, Nat.pow_succ]
    have hb := b.toNat_lt
    have h2 : (b.toNat + 1) * 256 ^ l.length ≤ 256 * 256 ^ l.length := Nat.mul_le_mul_right _ (by omega)
    rw [Nat.add_mul] at h2
    omega

theorem be_enc : ∀ k n, be (enc k n) = n % 256 ^ k
  | 0, n => by simp [enc, be_nil, Nat.mod_one]
  | k + 1, n => by
    rw [enc, be_cons, enc_length, be_enc k n, UInt8.toNat_ofNat']
    have h := Nat.mod_mul (x := n) (a := 256 ^ k) (b := 256)
    have h2 : (256 : Nat) ^ (k + 1) = 256 ^ k * 256 := Nat.pow_succ 256 k
    rw [h2, h]
    have : (2 : Nat) ^ 8 = 256 := by decide
    rw [this, Nat.mul_comm]
    omega

theorem enc_mod : ∀ k n, enc k (n % 256 ^ k) = enc k n := by
  have key : ∀ k j n, k ≤ j → enc k (n % 256 ^ j) = enc k n := by
    intro k
    induction k with
    | zero => intros; rfl
    | succ k ih =>
      intro j n hj
      rw [enc, enc, ih j n (by omega)]
      congr 1
      apply UInt8.toNat_inj.1
      rw [UInt8.toNat_ofNat', UInt8.toNat_ofNat']
      have h : 256 ^ j = 256 ^ k * (256 * 256 ^ (j - k - 1)) := by
        rw [← Nat.pow_succ', ← Nat.pow_add]; congr 1; omega
      rw [h, Nat.mod_mul_right_div_self]
      exact Nat.mod_mod_of_dvd _ ⟨256 ^ (j - k - 1), rfl⟩
  intro k n
  exact key k k n (Nat.le_refl _)

theorem enc_be : ∀ l : List UInt8, enc l.length (be l) = l
  | [] => rfl
  | b :: l => by
    rw [List.length_cons, enc]
    have hl := be_lt l
    have hp : 0 < 256 ^ l.length := Nat.pow_pos (by decide)
    have h1 : be (b :: l) / 256 ^ l.length = b.toNat := by
      rw [be_cons, Nat.mul_comm, Nat.mul_add_div hp, Nat.div_eq_of_lt hl, Nat.add_zero]
    have h2 : be (b :: l) % 256 ^ l.length = be l := by
      rw [be_cons, Nat.mul_comm, Nat.mul_add_mod, Nat.mod_eq_of_lt hl]
    rw [h1, ← enc_mod l.length (be (b :: l)), h2, enc_be l]
    simp

/-- The last byte of a number's bytes, and those ahead of it. -/
theorem enc_snoc : ∀ k n, enc (k + 1) n = enc k (n / 256) ++ [UInt8.ofNat n]
  | 0, n => by simp [enc]
  | k + 1, n => by
    rw [enc, enc_snoc k n, enc, List.cons_append, Nat.pow_succ', ← Nat.div_div_eq_div_mul]

theorem enc_take_succ (wd k n : Nat) (h : k < wd) : (enc wd n).take (k + 1) = (enc wd n).take k ++ [UInt8.ofNat (n / 256 ^ (wd - 1 - k))] := by
  induction wd generalizing k with
  | zero => omega
  | succ wd ih =>
    cases k with
    | zero => simp [enc]
    | succ k =>
      rw [enc, List.take_succ_cons, List.take_succ_cons, ih k (by omega), List.cons_append, show wd + 1 - 1 - (k + 1) = wd - 1 - k from by omega]

theorem enc_take_all (wd n : Nat) : (enc wd n).take wd = enc wd n := List.take_of_length_le (by rw [enc_length]; exact Nat.le_refl _)

/-- may a number have that width? -/
def mayW (wd : Int) : Prop := wd = 1 ∨ wd = 2 ∨ wd = 4 ∨ wd = 8
instance (wd : Int) : Decidable (mayW wd) := by unfold mayW; infer_instance

/-- The bytes of a number of a width: none of another width. -/
def encW (wd : Int) (n : Nat) : List UInt8 := if mayW wd then enc wd.toNat n else []

/-! ### the tape: what is left, and is it torn? -/
abbrev St := List UInt8 × Bool

def numS (s : St) (wd : Int) : Nat × St :=
  if s.2 = false ∧ mayW wd ∧ wd.toNat ≤ s.1.length then (be (s.1.take wd.toNat), (s.1.drop wd.toNat, false)) else (0, (s.1, true))

def belowS (s : St) (wd : Int) (most : Nat) : Nat × St :=
  if s.2 = false ∧ mayW wd ∧ wd.toNat ≤ s.1.length ∧ be (s.1.take wd.toNat) ≤ most ∧ be (s.1.take wd.toNat) ≤ 4611686018427387904
  then (be (s.1.take wd.toNat), (s.1.drop wd.toNat, false)) else (0, (s.1, true))

def textS (s : St) (most : Int) : List UInt8 × St :=
  if s.2 = false ∧ 0 ≤ most ∧ 2 ≤ s.1.length ∧ (be (s.1.take 2) : Int) ≤ most ∧ 2 + be (s.1.take 2) ≤ s.1.length
  then ((s.1.drop 2).take (be (s.1.take 2)), (s.1.drop (2 + be (s.1.take 2)), false)) else ([], (s.1, true))

def bytesS (s : St) (n : Int) : List UInt8 × St :=
  if s.2 = false ∧ 0 ≤ n ∧ n ≤ s.1.length then (s.1.take n.toNat, (s.1.drop n.toNat, false)) else ([], (s.1, true))

def endS (s : St) : Int × St := if s.2 = false ∧ s.1 = [] then (0, s) else (4, (s.1, true))

def errS (s : St) : Int := if s.2 then 4 else 0

end Go.Proofs.Ytabdpebokpjljaa
