/- SimfsNil: what a nil file system answers. -/
import Derived.Test.YtkggmdiieakdaaaSimZ
namespace Go.Proofs.Ytkggmdiieakdaaa
open Go.RowKit Go.Maps Go.Lib

theorem size_nil (w : World) (n : Int) : Calls Try.prog 12 #[.pointer none, .int .i64 n] w fun e w' => e = .returned (.tuple #[.int .i64 0, .int .i64 7]) ∧ Keeps NoB w w' := by
  go_enter Try.func12, Try.ntmps12
  go_wp2_with (go_at_call 36; refine (there_nil w n).mono ?_; rintro e w' ⟨rfl, rfl⟩)
  go_ret2
  exact ⟨rfl, Keeps.refl _ _⟩
theorem setcap_nil (w : World) (n : Int) : Calls Try.prog 23 #[.pointer none, .int .i64 n] w fun e w' => e = .returned (.int .i64 7) ∧ Keeps NoB w w' := by
  go_enter Try.func23, Try.ntmps23
  go_wp2
  go_ret
  exact ⟨rfl, Keeps.refl _ _⟩
theorem list_nil (w : World) : Calls Try.prog 24 #[.pointer none] w fun e w' => e = .returned (.slice none 0 0) ∧ Keeps NoB w w' := by
  go_enter Try.func24, Try.ntmps24
  go_wp2
  go_ret
  exact ⟨rfl, Keeps.refl _ _⟩
theorem ops_nil (w : World) : Calls Try.prog 26 #[.pointer none] w fun e w' => e = .returned (.int .i64 0) ∧ Keeps NoB w w' := by
  go_enter Try.func26, Try.ntmps26
  go_wp2
  go_ret
  exact ⟨rfl, Keeps.refl _ _⟩
theorem used_nil (w : World) : Calls Try.prog 27 #[.pointer none] w fun e w' => e = .returned (.int .i64 0) ∧ Keeps NoB w w' := by
  go_enter Try.func27, Try.ntmps27
  go_wp2
  go_ret
  exact ⟨rfl, Keeps.refl _ _⟩
theorem capacity_nil (w : World) : Calls Try.prog 28 #[.pointer none] w fun e w' => e = .returned (.int .i64 0) ∧ Keeps NoB w w' := by
  go_enter Try.func28, Try.ntmps28
  go_wp2
  go_ret
  exact ⟨rfl, Keeps.refl _ _⟩
theorem waiting_nil (w : World) (n : Int) : Calls Try.prog 29 #[.pointer none, .int .i64 n] w fun e w' => e = .returned (.int .i64 0) ∧ Keeps NoB w w' := by
  go_enter Try.func29, Try.ntmps29
  go_wp2
  go_ret
  exact ⟨rfl, Keeps.refl _ _⟩
theorem waitdir_nil (w : World) : Calls Try.prog 30 #[.pointer none] w fun e w' => e = .returned (.int .i64 0) ∧ Keeps NoB w w' := by
  go_enter Try.func30, Try.ntmps30
  go_wp2
  go_ret
  exact ⟨rfl, Keeps.refl _ _⟩
set_option maxRecDepth 100000 in
theorem copy_nil (w : World) : Calls Try.prog 31 #[.pointer none] w fun e w' => e = .returned (.pointer none) ∧ Keeps NoB w w' := by
  go_enter Try.func31, Try.ntmps31
  go_wp2
  go_ret
  exact ⟨rfl, Keeps.refl _ _⟩
set_option maxRecDepth 100000 in
theorem same_nn (w : World) : Calls Try.prog 32 #[.pointer none, .pointer none] w fun e w' => e = .returned (.bool true) ∧ Keeps NoB w w' := by
  go_enter Try.func32, Try.ntmps32
  go_wp2
  go_ret
  exact ⟨rfl, Keeps.refl _ _⟩
set_option maxRecDepth 100000 in
theorem same_xn (w : World) (b : Nat) : Calls Try.prog 32 #[.pointer (some ⟨b, 0, none⟩), .pointer none] w fun e w' => e = .returned (.bool false) ∧ Keeps NoB w w' := by
  go_enter Try.func32, Try.ntmps32
  go_wp2
  go_ret
  exact ⟨rfl, Keeps.refl _ _⟩
theorem eql_np (w : World) (b : Nat) : (binOp .eql 28 (.pointer none) (.pointer (some ⟨b, 0, none⟩))).run Try.prog w = .ok (.bool false) w := by kernel_rfl
set_option maxRecDepth 100000 in
theorem same_nx (w : World) (b : Nat) : Calls Try.prog 32 #[.pointer none, .pointer (some ⟨b, 0, none⟩)] w fun e w' => e = .returned (.bool false) ∧ Keeps NoB w w' := by
  have hnp := eql_np w b
  go_enter Try.func32, Try.ntmps32
  go_wp2
  go_ret
  exact ⟨rfl, Keeps.refl _ _⟩
set_option maxHeartbeats 8000000 in
set_option maxRecDepth 100000 in
theorem nil_walk (w : World) : Calls Try.prog 4 #[] w fun e w' => e = .returned (.bool true) ∧ Keeps NoB w w' := by
  go_enter Try.func4, Try.ntmps4
  go_wp2_with (go_at_call 9; refine (create_nil _ _).mono ?_)
  rintro e w1 ⟨rfl, h1⟩
  go_wp2_with (go_at_call 10; refine (open_nil _ _).mono ?_)
  rintro e w2 ⟨rfl, h2⟩
  go_wp2_with (first | (go_at_call 11; refine (read_nil _ _ _ _).mono ?_; rintro e w' ⟨rfl, rfl⟩) | (go_at_call 12; refine (size_nil _ _).mono ?_))
  rintro e w3 ⟨rfl, h3⟩
  go_wp2_with (go_at_call 13; refine (crash_nil _ _).mono ?_)
  rintro e w4 ⟨rfl, h4⟩
  go_wp2_with (first | (go_at_call 14; refine (arm_nil _ _).mono ?_; rintro e w' ⟨rfl, rfl⟩) | (go_at_call 15; refine (new_any _ 1 (by decide) (by decide)).mono ?_))
  rintro e w5 ⟨m, rfl, _, _, h5⟩
  have HK : Sd (Keeps NoB w w5) := ⟨(((h1.then h2).then h3).then h4).then h5⟩
  clear h1 h2 h3 h4 h5
  generalize m.b = b
  go_upto_region 10 with fail
  simp only [List.append]
  go_wp2_with (first | (go_at_call 5; refine (num_law2 _ _).mono ?_; rintro e w' ⟨rfl, rfl⟩) | (go_at_call 8; refine (flive_any _).mono ?_; rintro e w' ⟨rfl, hk⟩; replace HK := Sd.mk (HK.o.then hk); clear hk) | (go_at_call 16; refine (write_nil _ _ _ _).mono ?_; rintro e w' ⟨rfl, rfl⟩) | (go_at_call 17; refine (append_nil _ _ _).mono ?_; rintro e w' ⟨rfl, rfl⟩) | (go_at_call 18; refine (cut_nil _ _ _).mono ?_; rintro e w' ⟨rfl, rfl⟩) | (go_at_call 19; refine (sync_nil _ _).mono ?_; rintro e w' ⟨rfl, rfl⟩) | (go_at_call 22; refine (syncdir_nil _).mono ?_; rintro e w' ⟨rfl, rfl⟩) | (go_at_call 25; refine (dead_nil _).mono ?_; rintro e w' ⟨rfl, rfl⟩) | (go_at_call 20; refine (rename_nil _ _ _).mono ?_; rintro e w' ⟨rfl, hk⟩; replace HK := Sd.mk (HK.o.then hk); clear hk) | (go_at_call 21; refine (remove_nil _ _).mono ?_; rintro e w' ⟨rfl, hk⟩; replace HK := Sd.mk (HK.o.then hk); clear hk) | (go_at_call 23; refine (setcap_nil _ _).mono ?_; rintro e w' ⟨rfl, hk⟩; replace HK := Sd.mk (HK.o.then hk); clear hk) | (go_at_call 24; refine (list_nil _).mono ?_; rintro e w' ⟨rfl, hk⟩; replace HK := Sd.mk (HK.o.then hk); clear hk) | (go_at_call 26; refine (ops_nil _).mono ?_; rintro e w' ⟨rfl, hk⟩; replace HK := Sd.mk (HK.o.then hk); clear hk) | (go_at_call 27; refine (used_nil _).mono ?_; rintro e w' ⟨rfl, hk⟩; replace HK := Sd.mk (HK.o.then hk); clear hk) | (go_at_call 28; refine (capacity_nil _).mono ?_; rintro e w' ⟨rfl, hk⟩; replace HK := Sd.mk (HK.o.then hk); clear hk) | (go_at_call 29; refine (waiting_nil _ _).mono ?_; rintro e w' ⟨rfl, hk⟩; replace HK := Sd.mk (HK.o.then hk); clear hk) | (go_at_call 30; refine (waitdir_nil _).mono ?_; rintro e w' ⟨rfl, hk⟩; replace HK := Sd.mk (HK.o.then hk); clear hk) | (go_at_call 31; refine (copy_nil _).mono ?_; rintro e w' ⟨rfl, hk⟩; replace HK := Sd.mk (HK.o.then hk); clear hk) | (go_at_call 32; first | (with_reducible refine (same_nn _).mono ?_; rintro e w' ⟨rfl, hk⟩; replace HK := Sd.mk (HK.o.then hk); clear hk) | (with_reducible refine (same_xn _ _).mono ?_; rintro e w' ⟨rfl, hk⟩; replace HK := Sd.mk (HK.o.then hk); clear hk) | (with_reducible refine (same_nx _ _).mono ?_; rintro e w' ⟨rfl, hk⟩; replace HK := Sd.mk (HK.o.then hk); clear hk)))
  go_ret
  exact ⟨rfl, HK.o⟩
end Go.Proofs.Ytkggmdiieakdaaa
