/- The document's CheckName, and SimfsNames' walk. -/
import Derived.Test.YtlhhcoijkjcneaaGreatSimZ
namespace Go.Proofs.YtlhhcoijkjcneaaGreat
open Go.RowKit

theorem nameChar_of {c : UInt8} {z : Int} (hz : (c.toNat : Int) = z) : nameChar c = ((decide (97 ≤ z) && decide (z ≤ 122)) || (decide (48 ≤ z) && decide (z ≤ 57)) || z == 46 || z == 45 || z == 95 || z == 47) := by
  subst hz
  have : ∀ n : Fin 256, nameChar (UInt8.ofNat n.val) = ((decide ((97 : Int) ≤ ((UInt8.ofNat n.val).toNat : Int)) && decide (((UInt8.ofNat n.val).toNat : Int) ≤ 122)) || (decide ((48 : Int) ≤ ((UInt8.ofNat n.val).toNat : Int)) && decide (((UInt8.ofNat n.val).toNat : Int) ≤ 57)) || ((UInt8.ofNat n.val).toNat : Int) == 46 || ((UInt8.ofNat n.val).toNat : Int) == 45 || ((UInt8.ofNat n.val).toNat : Int) == 95 || ((UInt8.ofNat n.val).toNat : Int) == 47) := by decide +kernel
  have h := this ⟨c.toNat, c.toNat_lt⟩
  simpa using h
set_option maxHeartbeats 2000000 in
theorem rcname_any (S : ByteArray) (hS : S.size ≤ 9223372036854775807) (w : World) : Calls Tryz.prog 78 #[.string S] w fun e w' => e = .returned (.int .i64 (nameE S.data.toList)) ∧ w = w' := by
  have hsz : S.data.toList.length = S.size := by rw [Array.length_toList]; rfl
  by_cases h0 : (S.size : Int) < 1
  · have hE : nameE S.data.toList = 20 := by
      unfold nameE nameOk
      rw [hsz, show decide (1 ≤ S.size) = false from decide_eq_false (by omega)]
      simp
    rw [hE]
    go_enter Tryz.func78, Tryz.ntmps78
    go_wp2
    all_goals (go_ret; exact ⟨rfl, rfl⟩)
  by_cases h1 : (64 : Int) < S.size
  · have hE : nameE S.data.toList = 20 := by
      unfold nameE nameOk
      rw [hsz, show decide (S.size ≤ 64) = false by simp; omega]
      simp
    rw [hE]
    go_enter Tryz.func78, Tryz.ntmps78
    go_wp2
    all_goals (go_ret; exact ⟨rfl, rfl⟩)
  have hmid : nameE S.data.toList = if S.data.toList.all nameChar then 0 else 20 := by
    unfold nameE nameOk
    rw [hsz, show decide (S.size ≤ 64) = true by simp; omega, show decide (1 ≤ S.size) = true by simp; omega]
    simp
  have HM := Sd.mk hmid
  clear hmid
  go_enter Tryz.func78, Tryz.ntmps78
  go_wp2_with fail
  go_loopg [3] S.size (fun gk i wr => ∃ (j : Nat), gk + j = S.size ∧ i = .int .i64 j ∧ Sd ((S.data.toList.take j).all nameChar = true) ∧ Sd (w = wr))
  case atStart => exact ⟨0, by omega, rfl, ⟨by simp⟩, ⟨rfl⟩⟩
  case round =>
    obtain ⟨j, hj, rfl, hno, ⟨rfl⟩⟩ := hrel
    by_cases hlt : j < S.size
    · have hq : (j : Int) < (S.size : Int) := by omega
      have hjl : j < S.data.toList.length := by omega
      have hget : S.data.toList[j] = S[j]'hlt := by rw [Array.getElem_toList]; rfl
      have hbad : Sd (nameChar (S[j]'hlt) = false → nameE S.data.toList = 20) := ⟨fun h => by
        rw [HM.o, if_neg]
        simp only [List.all_eq_true, Classical.not_forall]
        exact ⟨_, List.getElem_mem hjl, by rw [hget, h]; simp⟩⟩
      have hgood : Sd (nameChar (S[j]'hlt) = true → (S.data.toList.take (j + 1)).all nameChar = true) := ⟨fun h => by
        rw [List.take_succ_eq_append_getElem hjl, List.all_append, hno.o, hget]
        simp [h]⟩
      clear hget
      have hz2 : Sd ((((S[j]'hlt).toNat : Nat) : Int) = (((S[j]'hlt).toNat : Nat) : Int)) := ⟨rfl⟩
      generalize hc : ((((S[j]'hlt).toNat : Nat) : Int)) = z
      have HC := Sd.mk (nameChar_of hc)
      clear hz2
      go_wp2_with fail
      all_goals first
        | (go_ret
           exact ⟨by rw [hbad.o (by rw [HC.o]; clear HC hgood hbad hno HM; simp at *; omega)]; rfl, rfl⟩)
        | (go_roundg (gk - 1)
           case measure => omega
           case rel => exact ⟨j + 1, by omega, by go_num, ⟨hgood.o (by rw [HC.o]; clear HC hgood hbad hno HM; simp at *; omega)⟩, ⟨rfl⟩⟩)
    · have hq : ¬ (j : Int) < (S.size : Int) := by omega
      have hm : Sd (nameE S.data.toList = 0) := ⟨by
        have h := hno.o
        rw [List.take_of_length_le (by omega)] at h
        rw [HM.o, if_pos h]⟩
      go_wp2_with fail
      go_ret
      exact ⟨by rw [hm.o]; rfl, rfl⟩
end Go.Proofs.YtlhhcoijkjcneaaGreat
