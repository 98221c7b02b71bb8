/- octet, plain: numbers out of bytes. No Go here. -/
namespace Go.Proofs.Ytdjamijbhaplgaa

/-- A number out of bytes: the error, the number, how many bytes it took. -/
def rdVar : List UInt8 → Nat → Nat → Int × Nat × Nat
  | [], _, _ => (3, 0, 0)
  | c :: l, i, acc =>
    if 9 ≤ i ∧ 1 < c.toNat then (10, 0, 0)
    else if c.toNat = 0 ∧ 0 < i then (11, 0, 0)
    else if c.toNat < 128 then (0, acc + (c.toNat % 128) * 2 ^ (7 * i), i + 1)
    else rdVar l (i + 1) (acc + (c.toNat % 128) * 2 ^ (7 * i))

/-- A reader's state. -/
structure RSt where
  p : List UInt8
  pos : Nat
  err : Int
  spot : Nat

def RSt.num (s : RSt) : Nat × RSt :=
  if s.err = 0 then
    match rdVar (s.p.drop s.pos) 0 0 with
    | (e, n, k) => if e = 0 then (n, { s with pos := s.pos + k }) else (0, { s with err := e, spot := s.pos })
  else (0, s)

def RSt.stop (s : RSt) (e : Int) (at_ : Nat) : RSt := { s with err := e, spot := at_, pos := at_ }
def RSt.fail (s : RSt) (e : Int) : RSt := if s.err = 0 ∧ e ≠ 0 then s.stop e s.pos else s
def RSt.byte (s : RSt) : UInt8 × RSt :=
  if s.err = 0 then
    match s.p.drop s.pos with
    | [] => (0, s.stop 3 s.pos)
    | c :: _ => (c, { s with pos := s.pos + 1 })
  else (0, s)
def RSt.count (s : RSt) (most : Int) : Nat × RSt :=
  if s.num.2.err = 0 ∧ (most < 0 ∨ most < (s.num.1 : Int)) then (0, s.num.2.stop 1 s.pos) else s.num
def RSt.text (s : RSt) (most : Int) : List UInt8 × RSt :=
  if (s.count most).2.err = 0 then
    if s.p.length - (s.count most).2.pos < (s.count most).1 then ([], (s.count most).2.stop 3 s.pos)
    else ((s.p.drop (s.count most).2.pos).take (s.count most).1, { (s.count most).2 with pos := (s.count most).2.pos + (s.count most).1 })
  else ([], (s.count most).2)
def zag (n : Nat) : Int := if n % 2 = 1 then -((n / 2 : Nat) : Int) - 1 else ((n / 2 : Nat) : Int)
def RSt.done (s : RSt) : Int := if s.err = 0 ∧ s.pos < s.p.length then 4 else s.err
theorem RSt.num_err_ne (s : RSt) (h : s.err ≠ 0) : s.num = (0, s) := by simp [RSt.num, h]
theorem RSt.num_p (s : RSt) : s.num.2.p = s.p := by
  unfold RSt.num
  split
  · split; split <;> rfl
  · rfl
theorem rdVar_lt : ∀ (l : List UInt8) (i acc : Nat), acc < 2 ^ (7 * i) → i ≤ 9 → (rdVar l i acc).2.1 < 2 ^ 64
  | [], _, _, _, _ => by simp [rdVar]
  | c :: l, i, acc, ha, hi => by
    unfold rdVar
    split
    · simp
    rename_i h1
    split
    · simp
    have hpow : 2 ^ (7 * (i + 1)) = 128 * 2 ^ (7 * i) := by rw [Nat.mul_add, Nat.pow_add, Nat.mul_comm]
    have hm : (c.toNat % 128) * 2 ^ (7 * i) ≤ 127 * 2 ^ (7 * i) := Nat.mul_le_mul_right _ (by omega)
    split
    · by_cases h9 : i = 9
      · subst h9
        have : (c.toNat % 128) * 2 ^ (7 * 9) ≤ 1 * 2 ^ (7 * 9) := Nat.mul_le_mul_right _ (by omega)
        simp only
        omega
      · have : 2 ^ (7 * i) ≤ 2 ^ 56 := Nat.pow_le_pow_right (by decide) (by omega)
        simp only
        omega
    · rename_i h3
      refine rdVar_lt l (i + 1) _ (by omega) ?_
      have := c.toNat_lt
      omega
theorem RSt.num_lt (s : RSt) : s.num.1 < 2 ^ 64 := by
  unfold RSt.num
  split
  · have := rdVar_lt (s.p.drop s.pos) 0 0 (by decide) (by decide)
    split
    rename_i e n k h
    rw [h] at this
    split
    · exact this
    · exact Nat.two_pow_pos 64
  · exact Nat.two_pow_pos 64
/-- A number's bytes. -/
def put1 (n : Nat) : List UInt8 := if n < 128 then [UInt8.ofNat n] else UInt8.ofNat (n % 128 + 128) :: put1 (n / 128)
termination_by n
decreasing_by omega
def putL (l : List Nat) : List UInt8 := l.flatMap put1
theorem put1_lt (n : Nat) (h : n < 128) : put1 n = [UInt8.ofNat n] := by unfold put1; rw [if_pos h]
theorem put1_ge (n : Nat) (h : ¬ n < 128) : put1 n = UInt8.ofNat (n % 128 + 128) :: put1 (n / 128) := by rw [put1, if_neg h]
theorem put1_len : ∀ (k n : Nat), n < 128 ^ (k + 1) → (put1 n).length ≤ k + 1
  | 0, n, h => by rw [put1_lt n (by simpa using h)]; simp
  | k + 1, n, h => by
    by_cases hn : n < 128
    · rw [put1_lt n hn]; simp
    · rw [put1_ge n hn]
      have := put1_len k (n / 128) (by rw [Nat.pow_succ] at h; omega)
      simp only [List.length_cons]; omega
theorem put1_len10 (n : Nat) (h : n < 18446744073709551616) : (put1 n).length ≤ 10 := put1_len 9 n (by omega)
theorem put1_pos (n : Nat) : 1 ≤ (put1 n).length := by
  by_cases h : n < 128
  · rw [put1_lt n h]; simp
  · rw [put1_ge n h]; simp
theorem put1_sum {ys zs : List UInt8} {n m : Nat} (h : ys ++ put1 n = zs ++ put1 m) (hn : n < 18446744073709551616) : zs.length + 1 ≤ ys.length + 10 := by
  have h1 := congrArg List.length h
  simp only [List.length_append] at h1
  have := put1_len10 n hn
  have := put1_pos m
  omega
theorem putL_snoc (l : List Nat) (n : Nat) : putL (l ++ [n]) = putL l ++ put1 n := by simp [putL]
theorem putL_len : ∀ (l : List Nat), (∀ n ∈ l, n < 18446744073709551616) → (putL l).length ≤ 10 * l.length
  | [], _ => by simp [putL]
  | n :: l, h => by
    have h1 := put1_len10 n (h n (by simp))
    have h2 := putL_len l (fun m hm => h m (by simp [hm]))
    simp only [putL, List.flatMap_cons, List.length_append, List.length_cons] at *
    omega
/-- A number with a sign as one without. -/
def zig (n : Int) : Nat := if n < 0 then 2 * (-(n + 1)).toNat + 1 else 2 * n.toNat
def putI (l : List Int) : List UInt8 := putL (l.map zig)
def put1T (s : List UInt8) : List UInt8 := put1 s.length ++ s
def putT (l : List (List UInt8)) : List UInt8 := l.flatMap put1T
theorem putI_snoc (l : List Int) (n : Int) : putI (l ++ [n]) = putI l ++ put1 (zig n) := by simp [putI, putL]
theorem putT_snoc (l : List (List UInt8)) (s : List UInt8) : putT (l ++ [s]) = putT l ++ (put1 s.length ++ s) := by simp [putT, put1T]
theorem zig_lt (n : Int) (h0 : -9223372036854775808 ≤ n) (h1 : n ≤ 9223372036854775807) : zig n < 18446744073709551616 := by
  unfold zig
  split <;> omega
end Go.Proofs.Ytdjamijbhaplgaa
