/- the reference: four, turned, Seal. -/
import Derived.Test.YtdjamijbhaplgaaOctL
namespace Go.Proofs.Ytdjamijbhaplgaa
open Go.RowKit

theorem four32_vals (s : Nat) (hs : s < 4294967296) : [Value.int .u8 ((s : Int) / 16777216), .int .u8 ((s : Int) / 65536 % 256), .int .u8 ((s : Int) / 256 % 256), .int .u8 ((s : Int) % 256)] = bvs (four s) := by
  have e1 := u8v_of (s / 16777216) (s / 16777216) (by omega)
  have e2 := u8v_of (s / 65536) (s / 65536 % 256) rfl
  have e3 := u8v_of (s / 256) (s / 256 % 256) rfl
  have e4 := u8v_of s (s % 256) rfl
  show _ = [u8v _, u8v _, u8v _, u8v _]
  rw [← e1, ← e2, ← e3, ← e4]
  simp
theorem own4 (w : World) (xs : List UInt8) (vs : List Value) (h : vs = bvs xs) (hl : xs.length = 4) : OwnV (w.alloc (.cells vs.toArray 5)) 5 (.slice (some ⟨w.heap.size, 0, none⟩) xs.length 4) (bvs xs) := by
  subst h
  have := own_lit w 5 (bvs xs) (by rw [bvs_length]; omega)
  rw [bvs_length, hl] at this
  rw [hl]
  exact this
theorem four_len (n : Nat) : (four n).length = 4 := rfl

end Go.Proofs.Ytdjamijbhaplgaa
