/- simfs: which names may be. -/
import Derived.Test.YtplnneicmdlahaaSimP
import Derived.Test.YtplnneicmdlahaaOctA
import Derived.Test.YtplnneicmdlahaaRow
import Derived.Lib.Bytealg
import Derived.Lib.Walk
namespace Go.Proofs.Ytplnneicmdlahaa
open Go.RowKit

theorem ixb_any (s : ByteArray) (c : Int) (w : World) :
    Calls Try.prog 50 #[.string s, .int .u8 c] w fun e w' => e = .returned (.int .i64 (Lib.indexByte s.data.toList c.toNat.toUInt8)) ∧ w = w' := by
  go_enter Try.func50, Try.ntmps50
  go_wp2
  rw [run_callFunc_extern Try.func54 (by kernel_rfl) (by kernel_rfl) (by kernel_rfl) (e := Extern.BytealgIndexByte.indexByte) (by kernel_rfl), Lib.run_indexByteString]
  simp only [Result.andThen]
  rw [Oper.upon_value]
  go_wp2
  go_ret
  exact ⟨rfl, rfl⟩
theorem indexByte_neg (l : List UInt8) (c : UInt8) : decide (Lib.indexByte l c < 0) = !l.contains c := by
  induction l with
  | nil => rfl
  | cons b l ih =>
    have hg := Lib.indexByte_ge l c
    unfold Lib.indexByte
    by_cases hb : b = c
    · subst hb; simp
    · rw [if_neg (by simpa using hb)]
      have h2 : (b :: l).contains c = l.contains c := by simp [Ne.symm hb]
      rw [h2, ← ih]
      by_cases hn : Lib.indexByte l c = -1
      · simp [hn]
      · rw [if_neg (by simpa using hn)]
        simp
        omega
theorem indexByte_pos (l : List UInt8) (c : UInt8) : decide (0 ≤ Lib.indexByte l c) = l.contains c := by
  have h := indexByte_neg l c
  cases hc : l.contains c
  · rw [hc] at h
    have : Lib.indexByte l c < 0 := by simpa using h
    simp; omega
  · rw [hc] at h
    have : ¬ Lib.indexByte l c < 0 := by simpa using h
    simp; omega
set_option maxHeartbeats 1000000 in
theorem slx_one (s : ByteArray) (c : UInt8) (w : World) :
    Calls Try.prog 49 #[.string s, .string ⟨#[c]⟩] w fun e w' => e = .returned (.int .i64 (Lib.indexByte s.data.toList c)) ∧ w = w' := by
  go_enter Try.func49, Try.ntmps49
  go_wp2_with (go_at_call 50; refine (ixb_any s (c.toNat : Int) w).mono ?_; rintro e w' ⟨rfl, rfl⟩)
  · rename_i h
    go_ret
    refine ⟨?_, rfl⟩
    have h2 : s.data.toList = [c] := by rw [ByteArray.toList_eq] at h; exact (eq_of_beq h).symm
    rw [h2]
    simp [Lib.indexByte]
  · go_ret
    exact ⟨rfl, rfl⟩
theorem sidx_one (s : ByteArray) (c : UInt8) (w : World) :
    Calls Try.prog 48 #[.string s, .string ⟨#[c]⟩] w fun e w' => e = .returned (.int .i64 (Lib.indexByte s.data.toList c)) ∧ w = w' := by
  go_enter Try.func48, Try.ntmps48
  go_wp2_with (go_at_call 49; refine (slx_one s c w).mono ?_; rintro e w' ⟨rfl, rfl⟩)
  go_ret
  exact ⟨rfl, rfl⟩
theorem scon_one (s : ByteArray) (c : UInt8) (w : World) :
    Calls Try.prog 43 #[.string s, .string ⟨#[c]⟩] w fun e w' => e = .returned (.bool (s.data.toList.contains c)) ∧ w = w' := by
  have h := indexByte_pos s.data.toList c
  go_enter Try.func43, Try.ntmps43
  go_wp2_with (go_at_call 48; refine (sidx_one s c w).mono ?_; rintro e w' ⟨rfl, rfl⟩)
  go_ret
  exact ⟨by simp, rfl⟩

def alphaL : List UInt8 := [97, 98, 99, 100, 101, 102, 103, 104, 105, 106, 107, 108, 109, 110, 111, 112, 113, 114, 115, 116, 117, 118, 119, 120, 121, 122, 48, 49, 50, 51, 52, 53, 54, 55, 56, 57, 46, 45, 95, 47]
theorem alpha_fin : ∀ n : Fin 256, alphaL.contains (UInt8.ofNat n.val) = nameChar (UInt8.ofNat n.val) := by decide +kernel
theorem alpha_has (c : UInt8) : alphaL.contains c = nameChar c := by
  have := alpha_fin ⟨c.toNat, c.toNat_lt⟩
  simpa using this
/-- The string of one byte. -/
theorem extract_one (s : ByteArray) (k : Nat) (hk : k < s.data.toList.length) : s.extract k (k + 1) = ⟨#[s.data.toList[k]]⟩ := by
  have hk' : k < s.data.size := by simpa using hk
  apply ByteArray.ext
  apply Array.ext'
  simp [ByteArray.data_extract]
  rw [List.take_one]
  simp
set_option maxHeartbeats 2000000 in
theorem cname_any (s : ByteArray) (hs : s.size ≤ 9223372036854775807) (w : World) : Calls Try.prog 26 #[.string s] w fun e w' => e = .returned (.int .i64 (nameE s.data.toList)) ∧ w = w' := by
  have hsz : s.data.toList.length = s.size := by rw [Array.length_toList]; rfl
  by_cases h0 : s.size = 0
  · have hz : s = ⟨#[]⟩ := by
      apply ByteArray.ext
      exact Array.eq_empty_of_size_eq_zero h0
    subst hz
    go_enter Try.func26, Try.ntmps26
    go_wp2
    go_ret
    exact ⟨rfl, rfl⟩
  have hne : (s.toList == []) = false := by
    rw [ByteArray.toList_eq]
    cases hd : s.data.toList with
    | nil => rw [hd] at hsz; exact absurd hsz.symm h0
    | cons a l => rfl
  by_cases h1 : 64 < s.size
  · have hq : decide ((64 : Int) < (s.size : Int)) = true := by simp; omega
    have hE : nameE s.data.toList = 20 := by
      unfold nameE nameOk
      rw [hsz, show decide (s.size ≤ 64) = false by simp; omega]
      simp
    rw [hE]
    go_enter Try.func26, Try.ntmps26
    go_wp2
    all_goals (go_ret; exact ⟨rfl, rfl⟩)
  have hq : decide ((64 : Int) < (s.size : Int)) = false := by simp; omega
  have hmid : nameOk s.data.toList = s.data.toList.all nameChar := by
    unfold nameOk
    rw [hsz, show decide (s.size ≤ 64) = true by simp; omega, show decide (1 ≤ s.size) = true by simp; omega]
    simp
  have HM := Sd.mk hmid
  clear hmid h0 h1
  go_enter Try.func26, Try.ntmps26
  go_wp2_with fail
  go_loopg [13] s.size (fun gk i wr => ∃ (j : Nat), gk + j = s.size ∧ i = .int .i64 j ∧ Sd ((s.data.toList.take j).all nameChar = true) ∧ Sd (w = wr))
  case atStart => exact ⟨0, by omega, rfl, ⟨by simp⟩, ⟨rfl⟩⟩
  case round =>
    obtain ⟨j, hj, rfl, hno, ⟨rfl⟩⟩ := hrel
    by_cases hlt : j < s.size
    · have hq : (j : Int) < (s.size : Int) := by omega
      have hjl : j < s.data.toList.length := by omega
      have hx := extract_one s j hjl
      have hin : s.data.toList[j] ∈ s.data.toList := List.getElem_mem hjl
      have htk : s.data.toList.take (j + 1) = s.data.toList.take j ++ [s.data.toList[j]] := List.take_succ_eq_append_getElem hjl
      generalize s.data.toList[j] = c at *
      have hal : alphaL.contains c = nameChar c := alpha_has c
      have HC : Sd (Calls Try.prog 43 #[.string ⟨alphaL.toArray⟩, .string ⟨#[c]⟩] w fun e w' => e = .returned (.bool (nameChar c)) ∧ w = w') := ⟨by
        have := scon_one ⟨alphaL.toArray⟩ c w
        rwa [show (⟨alphaL.toArray⟩ : ByteArray).data.toList = alphaL from rfl, hal] at this⟩
      have hsl : (Instr.slice 9 (.string s) (some (.int .i64 (j : Int))) (some (.int .i64 ((j : Int) + 1))) none).run Try.prog w = .ok (.string ⟨#[c]⟩) w := by
        rw [← hx]
        have := run_slice_string (P := Try.prog) w 9 s .i64 .i64 (j : Int) ((j : Int) + 1) Try.underlying9 (by omega) (by omega) (by omega)
        rw [this]
        simp
      have HX := Sd.mk hx
      have HIN := Sd.mk hin
      have HTK := Sd.mk htk
      clear hx hin htk hal hjl hsz
      cases hb : nameChar c with
      | false =>
        have hE : Sd (nameE s.data.toList = 20) := ⟨by
          unfold nameE
          rw [HM.o, if_neg]
          intro h
          have := List.all_eq_true.1 h c HIN.o
          rw [hb] at this; cases this⟩
        go_wp2_with fail
        refine HC.o.mono ?_
        rintro e w' ⟨rfl, rfl⟩
        rw [hb]
        go_wp2
        go_ret
        exact ⟨by rw [hE.o]; rfl, rfl⟩
      | true =>
        go_wp2_with fail
        refine HC.o.mono ?_
        rintro e w' ⟨rfl, rfl⟩
        rw [hb]
        go_wp2
        go_roundg (gk - 1)
        case measure => omega
        case rel => exact ⟨j + 1, by omega, by go_num, ⟨by rw [HTK.o, List.all_append, hno.o]; simp [hb]⟩, ⟨rfl⟩⟩
    · have hq : ¬ (j : Int) < (s.size : Int) := by omega
      have hE : Sd (nameE s.data.toList = 0) := ⟨by
        have h := hno.o
        rw [List.take_of_length_le (by omega)] at h
        unfold nameE
        rw [HM.o, if_pos h]⟩
      go_wp2_with fail
      go_ret
      exact ⟨by rw [hE.o]; rfl, rfl⟩
end Go.Proofs.Ytplnneicmdlahaa
