/- The sum of bytes, plain. No Go here. -/
namespace Go.Proofs.Ytdjamijbhaplgaa

def poly : Nat := 2197175160
def crcStep (c : Nat) : Nat := if c % 2 = 1 then (c / 2) ^^^ poly else c / 2
def crcIt : Nat → Nat → Nat
  | 0, c => c
  | n + 1, c => crcIt n (crcStep c)
def crcByte (c : Nat) (x : UInt8) : Nat := crcIt 8 (c ^^^ x.toNat)
def crcL (c : Nat) (l : List UInt8) : Nat := l.foldl crcByte c
def crc (l : List UInt8) : Nat := 4294967295 - crcL 4294967295 l
theorem crcStep_lt (c : Nat) (h : c < 4294967296) : crcStep c < 4294967296 := by
  unfold crcStep
  split
  · exact Nat.xor_lt_two_pow (n := 32) (by omega) (by decide)
  · omega
theorem crcIt_lt : ∀ (n c : Nat), c < 4294967296 → crcIt n c < 4294967296
  | 0, _, h => h
  | n + 1, c, h => crcIt_lt n _ (crcStep_lt c h)
theorem crcXor_lt (c : Nat) (x : UInt8) (h : c < 4294967296) : c ^^^ x.toNat < 4294967296 :=
  Nat.xor_lt_two_pow (n := 32) (by omega) (by have := x.toNat_lt; omega)
theorem crcByte_lt (c : Nat) (x : UInt8) (h : c < 4294967296) : crcByte c x < 4294967296 := crcIt_lt _ _ (crcXor_lt c x h)
theorem crcL_lt : ∀ (l : List UInt8) (c : Nat), c < 4294967296 → crcL c l < 4294967296
  | [], _, h => h
  | x :: l, c, h => crcL_lt l _ (crcByte_lt c x h)
theorem crcL_append (c : Nat) (l m : List UInt8) : crcL c (l ++ m) = crcL (crcL c l) m := by simp [crcL]
theorem crcL_take (c : Nat) (l : List UInt8) (k : Nat) (h : k < l.length) : crcL c (l.take (k + 1)) = crcByte (crcL c (l.take k)) l[k] := by
  rw [List.take_succ_eq_append_getElem h, crcL_append]; rfl
theorem flatten_take (ls : List (List UInt8)) (k : Nat) (h : k < ls.length) : (ls.take (k + 1)).flatten = (ls.take k).flatten ++ ls[k] := by
  rw [List.take_succ_eq_append_getElem h, List.flatten_append, List.flatten_cons, List.flatten_nil, List.append_nil]
theorem crcIt_snoc : ∀ (n c : Nat), crcIt (n + 1) c = crcStep (crcIt n c)
  | 0, _ => rfl
  | n + 1, c => by rw [crcIt, crcIt_snoc n, ← crcIt]
theorem crc_lt (l : List UInt8) : crc l < 4294967296 := by unfold crc; omega
end Go.Proofs.Ytdjamijbhaplgaa
