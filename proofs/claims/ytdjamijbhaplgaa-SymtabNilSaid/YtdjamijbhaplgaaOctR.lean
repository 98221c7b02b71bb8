/- octet, plain: what was put is read back; what is read is what would be put. No Go here. -/
import Derived.Test.YtdjamijbhaplgaaBits
import Derived.Test.YtdjamijbhaplgaaOctP
namespace Go.Proofs.Ytdjamijbhaplgaa

theorem pow7 (i : Nat) : 2 ^ (7 * (i + 1)) = 128 * 2 ^ (7 * i) := by rw [Nat.mul_add, Nat.pow_add, Nat.mul_comm]
theorem ofNat_lo (n : Nat) (h : n < 256) : (UInt8.ofNat n).toNat = n := by simp; omega
/-- What was put is read. -/
theorem rdVar_put (n : Nat) (rest : List UInt8) (i acc : Nat) (hi : i ≤ 9) (hn : n * 2 ^ (7 * i) < 2 ^ 64) (h0 : 0 < i → 0 < n) :
    rdVar (put1 n ++ rest) i acc = (0, acc + n * 2 ^ (7 * i), i + (put1 n).length) := by
  induction n using Nat.strongRecOn generalizing i acc with
  | _ n ih =>
  have h9 : 9 ≤ i → n < 2 := fun h => by
    have : i = 9 := by omega
    subst this
    omega
  by_cases h : n < 128
  · rw [put1_lt n h]
    simp only [List.cons_append, List.nil_append, rdVar, ofNat_lo n (by omega)]
    rw [if_neg (by omega), if_neg (by omega), if_pos h, Nat.mod_eq_of_lt h]
    rfl
  · rw [put1_ge n h]
    have h8 : i ≤ 8 := by
      by_cases h' : 9 ≤ i
      · have := h9 h'; omega
      · omega
    have hp := pow7 i
    simp only [List.cons_append, rdVar, ofNat_lo (n % 128 + 128) (by omega)]
    rw [if_neg (by omega), if_neg (by omega), if_neg (by omega)]
    have e1 : (n % 128 + 128) % 128 = n % 128 := by omega
    have e2 : n / 128 * 2 ^ (7 * (i + 1)) = (128 * (n / 128)) * 2 ^ (7 * i) := by rw [hp, ← Nat.mul_assoc, Nat.mul_comm (n / 128) 128]
    have e3 : 128 * (n / 128) + n % 128 = n := Nat.div_add_mod n 128
    have e4 : n % 128 * 2 ^ (7 * i) + 128 * (n / 128) * 2 ^ (7 * i) = n * 2 ^ (7 * i) := by rw [← Nat.add_mul, Nat.add_comm, e3]
    rw [ih (n / 128) (by omega) (i + 1) _ (by omega) (by rw [e2]; omega) (by omega), e1, e2]
    simp only [List.length_cons, Prod.mk.injEq, true_and]
    omega
/-- What is read is what would be put. -/
theorem rdVar_back : ∀ (l : List UInt8) (i acc : Nat), (rdVar l i acc).1 = 0 → ∃ n j, (rdVar l i acc).2.1 = acc + n * 2 ^ (7 * i) ∧ (rdVar l i acc).2.2 = i + j ∧ j ≤ l.length ∧ put1 n = l.take j ∧ (0 < i → 0 < n)
  | [], i, acc, h => by simp [rdVar] at h
  | c :: l, i, acc, h => by
    unfold rdVar at h ⊢
    by_cases h1 : 9 ≤ i ∧ 1 < c.toNat
    · rw [if_pos h1] at h; simp at h
    rw [if_neg h1] at h ⊢
    by_cases h2 : c.toNat = 0 ∧ 0 < i
    · rw [if_pos h2] at h; simp at h
    rw [if_neg h2] at h ⊢
    by_cases h3 : c.toNat < 128
    · rw [if_pos h3]
      refine ⟨c.toNat, 1, by rw [Nat.mod_eq_of_lt h3], rfl, by simp, ?_, by omega⟩
      rw [put1_lt _ h3]
      simp
    · rw [if_neg h3] at h ⊢
      obtain ⟨n, j, e1, e2, e3, e4, e5⟩ := rdVar_back l (i + 1) _ h
      have hc := c.toNat_lt
      have hn := e5 (by omega)
      refine ⟨c.toNat % 128 + 128 * n, j + 1, ?_, by rw [e2]; omega, by simp; omega, ?_, by omega⟩
      · rw [e1, pow7, Nat.add_mul, Nat.add_assoc]
        congr 2
        rw [← Nat.mul_assoc, Nat.mul_comm n 128]
      · rw [put1_ge _ (by omega), show (c.toNat % 128 + 128 * n) / 128 = n by omega, e4, show (c.toNat % 128 + 128 * n) % 128 + 128 = c.toNat by omega]
        simp
theorem RSt.num_put {s : RSt} {pre post : List UInt8} {n : Nat} (hp : s.p = pre ++ (put1 n ++ post)) (hpos : s.pos = pre.length) (he : s.err = 0) (hn : n < 18446744073709551616) :
    s.num = (n, { s with pos := pre.length + (put1 n).length }) := by
  unfold RSt.num
  rw [if_pos he, hp, hpos, List.drop_left, rdVar_put n post 0 0 (by omega) (by omega) (by omega)]
  simp
theorem zag_zig (n : Int) : zag (zig n) = n := by
  unfold zag zig
  by_cases h : n < 0
  · rw [if_pos h, if_pos (by omega)]; omega
  · rw [if_neg h, if_neg (by omega)]; omega
theorem RSt.text_put {s : RSt} {pre post t : List UInt8} (hp : s.p = pre ++ ((put1 t.length ++ t) ++ post)) (hpos : s.pos = pre.length) (he : s.err = 0) (hn : t.length < 18446744073709551616) :
    s.text t.length = (t, { s with pos := pre.length + (put1 t.length ++ t).length }) := by
  have h1 := RSt.num_put (s := s) (pre := pre) (post := t ++ post) (n := t.length) (by rw [hp, List.append_assoc]) hpos he hn
  have hc : s.count t.length = (t.length, { s with pos := pre.length + (put1 t.length).length }) := by
    unfold RSt.count
    rw [h1, if_neg (by simp)]
  unfold RSt.text
  rw [hc]
  simp only [he, if_true]
  rw [if_neg (by rw [hp]; simp only [List.length_append]; omega)]
  have hd : List.drop (pre.length + (put1 t.length).length) s.p = t ++ post := by
    rw [hp, ← List.append_assoc, ← List.append_assoc, List.append_assoc _ t post, ← List.length_append, List.drop_left]
  rw [hd, List.take_left]
  simp [Nat.add_assoc]
theorem RSt.num_back (p : List UInt8) (h : (RSt.num ⟨p, 0, 0, 0⟩).2.err = 0) : putL [(RSt.num ⟨p, 0, 0, 0⟩).1] = p.take (RSt.num ⟨p, 0, 0, 0⟩).2.pos ∧ (RSt.num ⟨p, 0, 0, 0⟩).2.pos ≤ p.length := by
  unfold RSt.num at h ⊢
  simp only [if_true, List.drop_zero] at h ⊢
  generalize hr : rdVar p 0 0 = r at h ⊢
  obtain ⟨e, n, k⟩ := r
  by_cases he : e = 0
  · subst he
    obtain ⟨m, j, e1, e2, e3, e4, _⟩ := rdVar_back p 0 0 (by rw [hr])
    rw [hr] at e1 e2
    simp at e1 e2
    subst e1 e2
    simp [putL, e4, e3]
  · simp [he] at h
theorem putI_len (l : List Int) (h : ∀ m ∈ l, -9223372036854775808 ≤ m ∧ m ≤ 9223372036854775807) : (putI l).length ≤ 10 * l.length := by
  have := putL_len (l.map zig) (fun n hn => by
    obtain ⟨m, hm, rfl⟩ := List.mem_map.1 hn
    exact zig_lt m (h m hm).1 (h m hm).2)
  rw [List.length_map] at this
  exact this
end Go.Proofs.Ytdjamijbhaplgaa
