/- octet: Crc; the reference's Crc. -/
import Derived.Test.YtdjamijbhaplgaaOctH
namespace Go.Proofs.Ytdjamijbhaplgaa
open Go.RowKit

/-- Lists of bytes, read from A on. -/
def LRd (w : World) (A : Option Addr) (ls : List (List UInt8)) : Prop := ∃ vs : List Value, vs.length = ls.length ∧ VRd w A vs ∧ ∀ i (h : i < vs.length) (h' : i < ls.length), Bts w vs[i] ls[i]
theorem LRd.at_ {w : World} {A : Option Addr} {ls : List (List UInt8)} (h : LRd w A ls) (i : Nat) (hi : i < ls.length) :
    ∃ b o A1 c1, A = some ⟨b, o, none⟩ ∧ w.cell? ⟨b, o + i, none⟩ = some (.slice A1 ls[i].length c1) ∧ Bts w (.slice A1 ls[i].length c1) ls[i] := by
  obtain ⟨vs, hl, hv, hb⟩ := h
  obtain ⟨b, o, rfl, hc⟩ := hv i (by omega)
  have hb' := hb i (by omega) hi
  have hb2 := hb'
  obtain ⟨A1, c1, e, _⟩ := hb2
  refine ⟨b, o, A1, c1, rfl, by rw [hc, e], by rw [← e]; exact hb'⟩

set_option maxHeartbeats 4000000 in
set_option maxRecDepth 100000 in
theorem crc_any (w : World) (A : Option Addr) (c : Nat) (ls : List (List UInt8)) (hr : LRd w A ls) (hl : ls.length ≤ 140737488355328) :
    Calls Try.prog 57 #[.slice A ls.length c] w fun e w' => e = .returned (.int .u32 (crc ls.flatten)) ∧ w = w' := by
  have HR := Sd.mk hr
  clear hr
  go_enter Try.func57, Try.ntmps57
  go_wp2_with fail
  go_loopg [3, 10] ls.length (fun gk v i wr => ∃ (k : Nat) (s : Nat), gk + k = ls.length ∧ i = .int .i64 k ∧ v = .int .u32 s ∧ s < 4294967296 ∧ Sd (s = crcL 4294967295 (ls.take k).flatten) ∧ Sd (w = wr))
  case atStart => exact ⟨0, 4294967295, rfl, rfl, rfl, by decide, ⟨rfl⟩, ⟨rfl⟩⟩
  case round =>
    obtain ⟨k, s, hk, rfl, rfl, hs, hcs, ⟨rfl⟩⟩ := hrel
    by_cases hlt : k < ls.length
    · have hq : (k : Int) < (ls.length : Int) := by omega
      obtain ⟨b1, o1, A1, c1, rfl, hc, hb⟩ := HR.o.at_ k hlt
      have htk : Sd ((ls.take (k + 1)).flatten = (ls.take k).flatten ++ ls[k]) := ⟨flatten_take ls k hlt⟩
      generalize ls[k] = l0 at *
      have HB := Sd.mk hb.rd.2.2.2.2.2
      have hl0 : l0.length ≤ 9223372036854775807 := by have := hb.rd; unfold maxLen at this; omega
      clear hb
      obtain ⟨gk1, hgk1⟩ : ∃ g, g = gk := ⟨_, rfl⟩
      subst hgk1
      go_wp2_with fail
      go_loopg [3, 16] l0.length (fun gk v i wr => ∃ (k2 : Nat) (s2 : Nat), gk + k2 = l0.length ∧ i = .int .i64 k2 ∧ v = .int .u32 s2 ∧ s2 < 4294967296 ∧ Sd (s2 = crcL s (l0.take k2)) ∧ Sd (w = wr))
      case atStart => exact ⟨0, s, rfl, rfl, rfl, hs, ⟨rfl⟩, ⟨rfl⟩⟩
      case round =>
        obtain ⟨k2, s2, hk2, rfl, rfl, hs2, hcs2, ⟨rfl⟩⟩ := hrel
        by_cases hlt2 : k2 < l0.length
        · have hq2 : (k2 : Int) < (l0.length : Int) := by omega
          obtain ⟨b2, o2, rfl, hc2⟩ := HB.o k2 hlt2
          have hc2' : w.cell? ⟨b2, o2 + k2, none⟩ = some (.int .u8 (l0[k2].toNat : Int)) := hc2
          have htk2 : Sd (crcL s (l0.take (k2 + 1)) = crcByte (crcL s (l0.take k2)) l0[k2]) := ⟨crcL_take s l0 k2 hlt2⟩
          clear hc2
          generalize l0[k2] = x at *
          obtain ⟨gk2, hgk2⟩ : ∃ g, g = gk := ⟨_, rfl⟩
          subst hgk2
          have hx : x.toNat < 256 := x.toNat_lt
          have hxx : Sd (bits .xor .u32 (s2 : Int) (x.toNat : Int) = ((s2 ^^^ x.toNat : Nat) : Int)) := ⟨xor_u32 _ _ (by omega) (by omega)⟩
          have hsx := crcXor_lt s2 x hs2
          go_wp2_with fail
          go_loopg [3, 24] 8 (fun gk v i wr => ∃ (k3 : Nat) (s3 : Nat), gk + k3 = 8 ∧ i = .int .i64 k3 ∧ v = .int .u32 s3 ∧ s3 < 4294967296 ∧ Sd (s3 = crcIt k3 (s2 ^^^ x.toNat)) ∧ Sd (w = wr))
          case atStart => exact ⟨0, s2 ^^^ x.toNat, rfl, rfl, by rw [← hxx.o], hsx, ⟨rfl⟩, ⟨rfl⟩⟩
          case round =>
            obtain ⟨k3, s3, hk3, rfl, rfl, hs3, hcs3, ⟨rfl⟩⟩ := hrel
            by_cases hlt3 : k3 < 8
            · have hq3 : (k3 : Int) < 8 := by omega
              go_wp2
              go_roundg (gk - 1)
              case measure => omega
              case rel => exact ⟨k3 + 1, crcStep s3, by omega, by go_num, by rw [crc_prog s3 hs3], crcStep_lt _ hs3, ⟨by rw [crcIt_snoc, ← hcs3.o]⟩, ⟨rfl⟩⟩
            · have hq3 : ¬ (k3 : Int) < 8 := by omega
              have he3 : Sd (k3 = 8) := ⟨by omega⟩
              go_wp2
              go_roundg (gk2 - 1)
              case measure => omega
              case rel => exact ⟨k2 + 1, s3, by omega, by go_num, rfl, hs3, ⟨by rw [htk2.o, hcs3.o, he3.o, ← hcs2.o]; rfl⟩, ⟨rfl⟩⟩
        · have hq2 : ¬ (k2 : Int) < (l0.length : Int) := by omega
          have he2 : Sd (l0.take k2 = l0) := ⟨List.take_of_length_le (by omega)⟩
          go_wp2
          go_roundg (gk1 - 1)
          case measure => omega
          case rel => exact ⟨k + 1, s2, by omega, by go_num, rfl, hs2, ⟨by rw [htk.o, crcL_append, ← hcs.o, hcs2.o, he2.o]⟩, ⟨rfl⟩⟩
    · have hq : ¬ (k : Int) < (ls.length : Int) := by omega
      have he : Sd (ls.take k = ls) := ⟨List.take_of_length_le (by omega)⟩
      go_wp2
      go_ret
      refine ⟨ret_int ?_, rfl⟩
      have hf : s = crcL 4294967295 ls.flatten := by rw [hcs.o, he.o]
      refine (crc_not s hs).trans ?_
      rw [hf]; rfl

end Go.Proofs.Ytdjamijbhaplgaa
