/- octet: the reader's Int, Byte, Count, Text, Done; New. -/
import Derived.Test.YtdjamijbhaplgaaOctC
import Derived.Test.YtdjamijbhaplgaaConv
namespace Go.Proofs.Ytdjamijbhaplgaa
open Go.RowKit

set_option maxHeartbeats 1000000 in
theorem num_nil (w : World) : Calls Try.prog 65 #[.pointer none] w fun e w' => e = .returned (.int .u64 0) ∧ w = w' := by
  go_enter Try.func65, Try.ntmps65
  go_wp2_with fail
  go_step3
  go_wp2_with (go_at_call 53; refine (sound_nil _).mono ?_; rintro e w' ⟨rfl, rfl⟩)
  rw [Exit.noGoto_ret]
  go_ret
  exact ⟨rfl, rfl⟩
set_option maxHeartbeats 1000000 in
theorem count_nil (w : World) (m : Int) : Calls Try.prog 52 #[.pointer none, .int .i64 m] w fun e w' => e = .returned (.int .i64 0) ∧ w = w' := by
  go_enter Try.func52, Try.ntmps52
  go_wp2_with (first | (go_at_call 51; refine (at_nil _).mono ?_; rintro e w' ⟨rfl, rfl⟩) | (go_at_call 65; refine (num_nil _).mono ?_; rintro e w' ⟨rfl, rfl⟩) | (go_at_call 53; refine (sound_nil _).mono ?_; rintro e w' ⟨rfl, rfl⟩))
  go_ret
  exact ⟨rfl, rfl⟩
set_option maxHeartbeats 1000000 in
theorem text_nil (w : World) (m : Int) : Calls Try.prog 36 #[.pointer none, .int .i64 m] w fun e w' => e = .returned (.string ⟨#[]⟩) ∧ w = w' := by
  go_enter Try.func36, Try.ntmps36
  go_wp2_with (first | (go_at_call 51; refine (at_nil _).mono ?_; rintro e w' ⟨rfl, rfl⟩) | (go_at_call 52; refine (count_nil _ _).mono ?_; rintro e w' ⟨rfl, rfl⟩) | (go_at_call 53; refine (sound_nil _).mono ?_; rintro e w' ⟨rfl, rfl⟩))
  go_ret
  exact ⟨rfl, rfl⟩
set_option maxHeartbeats 1000000 in
theorem done_nil (w : World) : Calls Try.prog 37 #[.pointer none] w fun e w' => e = .returned (.int .i64 0) ∧ ∃ n, w' = w.drewN n := by
  go_enter Try.func37, Try.ntmps37
  go_wp2_with fail
  go_quiet ((go_at_call 53; exact Calls.quiet_same (sound_nil _)))
  go_wp2_with (go_at_call 55; refine (why_nil _).mono ?_; rintro e w' ⟨rfl, rfl⟩)
  go_ret
  exact ⟨rfl, _, rfl⟩
theorem zero_lt_num (s : RSt) (h : s.num.2.err ≠ 0) : s.num.1 = 0 := by
  unfold RSt.num at *
  split at h
  · rename_i h0
    rw [if_pos h0]
    split at h
    rename_i e n k hh
    split at h
    · exact absurd h0 h
    · rename_i he
      rw [if_neg he]
  · rename_i h0
    rw [if_neg h0]
set_option maxHeartbeats 2000000 in
theorem count_some (w : World) (b : Nat) (s : RSt) (A : Option Addr) (c : Nat) (h : IsRd w b s A c) (m : Int) (hm0 : -9223372036854775808 ≤ m) (hm1 : m ≤ 9223372036854775807) :
    Calls Try.prog 52 #[.pointer (some ⟨b, 0, none⟩), .int .i64 m] w fun e' w' => e' = .returned (.int .i64 (s.count m).1) ∧ IsRd w' b (s.count m).2 A c ∧ Keeps (OneB b) w w' := by
  have hlt := s.num_lt
  have HN := Sd.mk (num_some w b s A c h)
  have H := Sd.mk h
  clear h
  go_enter Try.func52, Try.ntmps52
  go_wp2_with (first | (go_at_call 51; refine (at_some _ b s A c H.o).mono ?_; rintro e w' ⟨rfl, rfl⟩))
  refine HN.o.mono ?_
  rintro e w1 ⟨rfl, hr, hk⟩
  have h2 : w1.cell? ⟨b, 2, none⟩ = some (.int .i64 s.num.2.err) := blk_cell hr.blk 2
  have HR := Sd.mk hr
  have HK := Sd.mk hk
  clear hr hk HN
  by_cases he : s.num.2.err = 0
  · rw [he] at h2
    by_cases hmn : m < 0
    · have hf : Sd (s.count m = (0, s.num.2.stop 1 s.pos)) := ⟨by simp [RSt.count, he, hmn]⟩
      clear he
      go_wp2_with (first | (go_at_call 53; refine (sound_some _ b _ h2).mono ?_; rintro e w' ⟨rfl, rfl⟩) | (go_at_call 54; refine (stops_some _ b _ _ _ _ _ _ (by exact HR.o.blk)).mono ?_; rintro e w' ⟨rfl, HK2, HB⟩))
      go_ret
      rw [hf.o]
      exact ⟨rfl, HR.o.stop HK2 1 s.pos (by rw [s.num_p]; exact H.o.pos) HB (by decide) (by decide), HK.o.trans HK2 (fun _ _ f => f) (fun _ _ f => f)⟩
    · have e1 : IntKind.u64.wrap m = m := by rw [IntKind.wrap_u64]; omega
      by_cases hmm : m < (s.num.1 : Int)
      · have hf : Sd (s.count m = (0, s.num.2.stop 1 s.pos)) := ⟨by simp [RSt.count, he, hmm]⟩
        clear he
        go_wp2_with (first | (go_at_call 53; refine (sound_some _ b _ h2).mono ?_; rintro e w' ⟨rfl, rfl⟩) | (go_at_call 54; refine (stops_some _ b _ _ _ _ _ _ (by exact HR.o.blk)).mono ?_; rintro e w' ⟨rfl, HK2, HB⟩))
        go_ret
        rw [hf.o]
        exact ⟨rfl, HR.o.stop HK2 1 s.pos (by rw [s.num_p]; exact H.o.pos) HB (by decide) (by decide), HK.o.trans HK2 (fun _ _ f => f) (fun _ _ f => f)⟩
      · have hf : Sd (s.count m = s.num) := ⟨by simp [RSt.count, hmm, hmn]⟩
        clear he
        go_wp2_with (first | (go_at_call 53; refine (sound_some _ b _ h2).mono ?_; rintro e w' ⟨rfl, rfl⟩))
        go_ret
        rw [hf.o]
        exact ⟨rfl, HR.o, HK.o⟩
  · have hb : (s.num.2.err == 0) = false := by simp [he]
    have hf : Sd (s.count m = s.num) := ⟨by simp [RSt.count, he]⟩
    have h0 := Sd.mk (zero_lt_num s he)
    clear he
    go_wp2_with (first | (go_at_call 53; refine (sound_some _ b _ h2).mono ?_; rintro e w' ⟨rfl, rfl⟩))
    go_ret
    rw [hf.o]
    exact ⟨ret_int (by show wrap64 _ = _; rw [h0.o]; unfold wrap64; omega), HR.o, HK.o⟩
end Go.Proofs.Ytdjamijbhaplgaa
