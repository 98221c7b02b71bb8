/- symtab: the test of symbols (a function value); what Intern's map of new symbols is. -/
import Derived.Test.YtdjamijbhaplgaaSymE
namespace Go.Proofs.Ytdjamijbhaplgaa
open Go.RowKit Go.Maps

set_option maxHeartbeats 1000000 in
theorem clos_any (S : ByteArray) (w : World) : Calls Try.prog 22 #[.string S] w fun e w' => e = .returned (.bool (!mayL S.data.toList)) ∧ w = w' := by
  go_enter Try.func22, Try.ntmps22
  go_wp2_with (go_at_call 23; refine (may_any _ _).mono ?_; rintro e w' ⟨rfl, rfl⟩)
  go_ret
  exact ⟨rfl, rfl⟩
/-- A place, or a number below 0 where all are symbols. -/
def IxPost (ss : List (List UInt8)) (w : World) (e : Ending) (w' : World) : Prop := ∃ r : Int, e = .returned (.int .i64 r) ∧ w = w' ∧ -1 ≤ r ∧ r ≤ 9223372036854775807 ∧ (r < 0 ↔ ∀ s ∈ ss, mayL s = true)
set_option maxHeartbeats 2000000 in
theorem ixf_any (w : World) (A : Option Addr) (c : Nat) (ss : List (List UInt8)) (h : VRd w A (strs ss)) (hl : ss.length ≤ 9223372036854775807) :
    Calls Try.prog 38 #[.slice A ss.length c, .func (.func 22) #[] #[]] w (IxPost ss w) := by
  have H := Sd.mk h
  clear h
  go_enter Try.func38, Try.ntmps38
  go_wp2_with fail
  go_loopg [8] ss.length (fun gk i wr => ∃ k : Nat, gk + k = ss.length ∧ i = .int .i64 k ∧ Sd (∀ s ∈ ss.take k, mayL s = true) ∧ Sd (w = wr))
  case atStart => exact ⟨0, by omega, rfl, ⟨by simp⟩, ⟨rfl⟩⟩
  case round =>
    obtain ⟨k, hk, rfl, hall, ⟨rfl⟩⟩ := hrel
    by_cases hlt : k < ss.length
    · have hq : (k : Int) < (ss.length : Int) := by omega
      obtain ⟨b1, o1, rfl, hc⟩ := H.o k (by rw [strs_len]; exact hlt)
      have hc2 : w.cell? ⟨b1, o1 + k, none⟩ = some (.string (sOf ss[k])) := by rw [hc]; simp [strs]
      have htk : Sd (ss.take (k + 1) = ss.take k ++ [ss[k]]) := ⟨List.take_succ_eq_append_getElem hlt⟩
      have hmem : Sd (ss[k] ∈ ss) := ⟨List.getElem_mem hlt⟩
      clear hc
      generalize ss[k] = s at *
      have HC := Sd.mk (clos_any (sOf s) w)
      rw [show (sOf s).data.toList = s from rfl] at HC
      obtain ⟨S0, hS0⟩ : ∃ S0, S0 = sOf s := ⟨_, rfl⟩
      rw [← hS0] at HC hc2
      clear hS0
      cases hm : mayL s with
      | true =>
        rw [hm] at HC
        have HM := Sd.mk hm
        clear hm
        go_wp2_with (go_at_call 22; refine HC.o.mono ?_; rintro e w' ⟨rfl, rfl⟩)
        go_roundg (gk - 1)
        case measure => omega
        case rel => exact ⟨k + 1, by omega, by go_num, ⟨fun x hx => by
          rw [htk.o] at hx
          rcases List.mem_append.1 hx with hx | hx
          · exact hall.o x hx
          · simp at hx; subst hx; exact HM.o⟩, ⟨rfl⟩⟩
      | false =>
        rw [hm] at HC
        have HM := Sd.mk hm
        clear hm
        go_wp2_with (go_at_call 22; refine HC.o.mono ?_; rintro e w' ⟨rfl, rfl⟩)
        go_ret
        exact ⟨k, rfl, rfl, by omega, by omega, ⟨fun h => by omega, fun h => by have := h s hmem.o; rw [HM.o] at this; cases this⟩⟩
    · have hq : ¬ (k : Int) < (ss.length : Int) := by omega
      have hfin : Sd (∀ s ∈ ss, mayL s = true) := ⟨by have := hall.o; rwa [List.take_of_length_le (by omega)] at this⟩
      go_wp2
      go_ret
      exact ⟨-1, rfl, rfl, by decide, by decide, ⟨fun _ => hfin.o, fun _ => by decide⟩⟩
def CfPost (ss : List (List UInt8)) (w : World) (e : Ending) (w' : World) : Prop := ∃ b : Bool, e = .returned (.bool b) ∧ w = w' ∧ (b = false ↔ ∀ s ∈ ss, mayL s = true)
set_option maxHeartbeats 1000000 in
theorem cff_any (w : World) (A : Option Addr) (c : Nat) (ss : List (List UInt8)) (h : VRd w A (strs ss)) (hl : ss.length ≤ 9223372036854775807) :
    Calls Try.prog 21 #[.slice A ss.length c, .func (.func 22) #[] #[]] w (CfPost ss w) := by
  have HC := Sd.mk (ixf_any w A c ss h hl)
  clear h
  go_enter Try.func21, Try.ntmps21
  go_wp2_with fail
  refine HC.o.mono ?_
  clear HC
  rintro e w' ⟨r, rfl, rfl, h1, h2, h3⟩
  have H3 := Sd.mk h3
  clear h3
  by_cases hr : 0 ≤ r
  · have hq : decide (0 ≤ r) = true := by simpa using hr
    go_wp2
    go_ret
    exact ⟨true, rfl, rfl, ⟨(fun h => by cases h), (fun h => by have := H3.o.2 h; omega)⟩⟩
  · have hq : decide (0 ≤ r) = false := by simpa using hr
    go_wp2
    go_ret
    exact ⟨false, rfl, rfl, ⟨fun _ => H3.o.1 (by omega), fun _ => rfl⟩⟩
end Go.Proofs.Ytdjamijbhaplgaa
