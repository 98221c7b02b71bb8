/- octet, plain: frames. No Go here. -/
import Derived.Test.YtdjamijbhaplgaaCrcP
namespace Go.Proofs.Ytdjamijbhaplgaa

def four (n : Nat) : List UInt8 := [UInt8.ofNat (n / 16777216), UInt8.ofNat (n / 65536), UInt8.ofNat (n / 256), UInt8.ofNat n]
def turned (n : Nat) : List UInt8 := [UInt8.ofNat n, UInt8.ofNat (n / 256), UInt8.ofNat (n / 65536), UInt8.ofNat (n / 16777216)]
def sealL (p : List UInt8) : List UInt8 := (four p.length ++ p) ++ turned (crc (four p.length ++ p))
/-- Four bytes as a number. -/
def be (p : List UInt8) : Nat := (p.getD 0 0).toNat * 16777216 + (p.getD 1 0).toNat * 65536 + (p.getD 2 0).toNat * 256 + (p.getD 3 0).toNat
/-- The frame in front: its load, its length, an error. -/
def openL (p : List UInt8) : List UInt8 × Nat × Int :=
  if p.length < 4 then ([], 0, 3)
  else if 1048576 < be p then ([], 0, 1)
  else if p.length < be p + 8 then ([], 0, 3)
  else if (p.drop (4 + be p)).take 4 = turned (crc (p.take (4 + be p))) then ((p.drop 4).take (be p), be p + 8, 0)
  else ([], 0, 12)
/-- The frames from a place on. -/
def framesGo : Nat → List UInt8 → Nat → List (List UInt8) → List (List UInt8) × Nat × Int
  | 0, _, at_, acc => (acc, at_, 0)
  | n + 1, p, at_, acc =>
    if at_ < p.length then
      if (openL (p.drop at_)).2.2 = 0 then framesGo n p (at_ + (openL (p.drop at_)).2.1) (acc ++ [(openL (p.drop at_)).1])
      else (acc, at_, (openL (p.drop at_)).2.2)
    else (acc, at_, 0)
def framesL (p : List UInt8) : List (List UInt8) × Nat × Int := framesGo (p.length + 1) p 0 []
theorem turned_len (n : Nat) : (turned n).length = 4 := rfl
theorem turned_at (n k : Nat) (hk : k < 4) : ((turned n)[k]'(by rw [turned_len]; exact hk)).toNat = n / 2 ^ (8 * k) % 256 := by
  match k, hk with
  | 0, _ => simp [turned]
  | 1, _ => simp [turned]
  | 2, _ => simp [turned]
  | 3, _ => simp [turned]
theorem take_snoc {α : Type} (l m : List α) (k : Nat) (hl : k < l.length) (hm : k < m.length) (h : l.take k = m.take k) (he : l[k] = m[k]) : l.take (k + 1) = m.take (k + 1) := by
  rw [List.take_succ_eq_append_getElem hl, List.take_succ_eq_append_getElem hm, h, he]
theorem ne_of_at {α : Type} (l m : List α) (k n : Nat) (hl : k < l.length) (hm : k < m.length) (hn : k < n) (hne : ¬ l[k] = m[k]) : ¬ l.take n = m := by
  intro e
  apply hne
  have h1 : (l.take n)[k]'(by simp; omega) = l[k] := by simp
  rw [← h1]
  simp only [e]
theorem openL_ok (p : List UInt8) (h : (openL p).2.2 = 0) : 8 ≤ (openL p).2.1 ∧ (openL p).2.1 ≤ p.length ∧ (openL p).1.length + 8 = (openL p).2.1 := by
  unfold openL at *
  split at h
  · simp at h
  rename_i h1
  rw [if_neg h1]
  split at h
  · simp at h
  rename_i h2
  rw [if_neg h2]
  split at h
  · simp at h
  rename_i h3
  rw [if_neg h3]
  split at h
  · rename_i h4
    rw [if_pos h4]
    simp
    omega
  · simp at h
end Go.Proofs.Ytdjamijbhaplgaa
