/- octet: the reader's Int, Byte, Count, Text, Done; New. -/
import Derived.Test.YtlnmjeiiagkipaaOctC
import Derived.Test.YtlnmjeiiagkipaaConv
namespace Go.Proofs.Ytlnmjeiiagkipaa
open Go.RowKit

set_option maxHeartbeats 1000000 in
theorem num_nil (w : World) : Calls Try.prog 21 #[.pointer none] w fun e w' => e = .returned (.int .u64 0) ∧ w = w' := by
  go_enter Try.func21, Try.ntmps21
  go_wp2_with fail
  go_step3
  go_wp2_with (go_at_call 48; refine (sound_nil _).mono ?_; rintro e w' ⟨rfl, rfl⟩)
  rw [Exit.noGoto_ret]
  go_ret
  exact ⟨rfl, rfl⟩
set_option maxHeartbeats 1000000 in
theorem int_nil (w : World) : Calls Try.prog 22 #[.pointer none] w fun e w' => e = .returned (.int .i64 0) ∧ w = w' := by
  have h0 : bits .xor .i64 0 0 = 0 := by decide
  have h1 : bits .and .u64 0 1 = 0 := by decide
  go_enter Try.func22, Try.ntmps22
  go_wp2_with (go_at_call 21; refine (num_nil _).mono ?_; rintro e w' ⟨rfl, rfl⟩)
  go_ret
  exact ⟨rfl, rfl⟩
set_option maxHeartbeats 1000000 in
theorem int_some (w : World) (b : Nat) (s : RSt) (A : Option Addr) (c : Nat) (h : IsRd w b s A c) :
    Calls Try.prog 22 #[.pointer (some ⟨b, 0, none⟩)] w fun e' w' => e' = .returned (.int .i64 (zag s.num.1)) ∧ IsRd w' b s.num.2 A c ∧ Keeps (OneB b) w w' := by
  go_enter Try.func22, Try.ntmps22
  go_wp2_with (go_at_call 21; refine (num_some _ b s A c h).mono ?_; rintro e w' ⟨rfl, hr, hk⟩)
  go_ret
  refine ⟨ret_int ?_, hr, hk⟩
  exact zag_bits _ s.num_lt
set_option maxHeartbeats 1000000 in
theorem byte_nil (w : World) : Calls Try.prog 38 #[.pointer none] w fun e w' => e = .returned (.int .u8 0) ∧ w = w' := by
  go_enter Try.func38, Try.ntmps38
  go_wp2_with (go_at_call 48; refine (sound_nil _).mono ?_; rintro e w' ⟨rfl, rfl⟩)
  go_ret
  exact ⟨rfl, rfl⟩
set_option maxHeartbeats 1000000 in
theorem byte_some (w : World) (b : Nat) (s : RSt) (A : Option Addr) (c : Nat) (h : IsRd w b s A c) :
    Calls Try.prog 38 #[.pointer (some ⟨b, 0, none⟩)] w fun e' w' => e' = .returned (u8v s.byte.1) ∧ IsRd w' b s.byte.2 A c ∧ Keeps (OneB b) w w' := by
  have h0 : w.cell? ⟨b, 0, none⟩ = some (.slice A s.p.length c) := blk_cell h.blk 0
  have h1 : w.cell? ⟨b, 1, none⟩ = some (.int .i64 s.pos) := blk_cell h.blk 1
  have h2 : w.cell? ⟨b, 2, none⟩ = some (.int .i64 s.err) := blk_cell h.blk 2
  have f1 := blk_frozen h.blk 1
  have hm := h.len
  have hl := h.pos
  have H := Sd.mk h
  clear h
  by_cases hs : s.err = 0
  · have HS := Sd.mk hs
    rw [hs] at h2
    clear hs
    by_cases he : s.pos = s.p.length
    · have hq : ((s.pos : Int) == (s.p.length : Int)) = true := by simp; omega
      have hf : Sd (s.byte = (0, s.stop 3 s.pos)) := ⟨by unfold RSt.byte; rw [if_pos HS.o, List.drop_of_length_le (by omega)]⟩
      clear he
      go_enter Try.func38, Try.ntmps38
      go_wp2_with (go_at_call 48; refine (sound_some _ _ _ h2).mono ?_; rintro e w' ⟨rfl, rfl⟩)
      go_quiet (fail)
      go_wp2_with (go_at_call 49; refine (stops_some _ b _ _ _ _ _ _ (by exact H.o.blk)).mono ?_; rintro e w' ⟨rfl, HK, HB⟩)
      go_ret
      rw [hf.o]
      exact ⟨rfl, (H.o.drewN _).stop HK 3 s.pos H.o.pos HB (by decide) (by decide), HK.undrew⟩
    · have hlt : s.pos < s.p.length := by omega
      have hq : ((s.pos : Int) == (s.p.length : Int)) = false := by simp; omega
      obtain ⟨bp, op, rfl, hc⟩ := H.o.bts.rd.2.2.2.2.2 s.pos hlt
      have hne : bp ≠ b := fun e => H.o.off bp rfl e
      have hc' : w.cell? ⟨bp, op + s.pos, none⟩ = some (.int .u8 (s.p[s.pos].toNat : Int)) := hc
      have hne' : ¬ b = bp := fun e => hne e.symm
      have hf : Sd (s.byte = (s.p[s.pos], { s with pos := s.pos + 1 })) := ⟨by unfold RSt.byte; rw [if_pos HS.o, List.drop_eq_getElem_cons hlt]⟩
      have hi1 : (s.pos : Int) < (s.p.length : Int) := by omega
      have e2 : IntKind.i64.wrap (s.pos : Int) = (s.pos : Int) := IntWalk.i64_in _ (by omega)
      clear he hc
      generalize s.p[s.pos] = cc at *
      go_enter Try.func38, Try.ntmps38
      go_wp2_with (go_at_call 48; refine (sound_some _ _ _ h2).mono ?_; rintro e w' ⟨rfl, rfl⟩)
      go_quiet (fail)
      go_wp2_with fail
      go_quiet (fail)
      go_wp2
      go_ret
      rw [hf.o]
      exact ⟨rfl, ((by refine H.o.move (w.drewN _) ?_ _ ?_ _ ?_; rfl; omega; omega : IsRd _ b _ _ c)).drewN _, (((Keeps.refl (OneB b) w).drewN _).setCell ⟨b, 1, none⟩ _ (fun _ => rfl)).drewN _⟩
  · have hb : (s.err == 0) = false := by simp [hs]
    have hf : Sd (s.byte = (0, s)) := ⟨by simp [RSt.byte, hs]⟩
    clear hs
    go_enter Try.func38, Try.ntmps38
    go_wp2_with (go_at_call 48; refine (sound_some _ _ _ h2).mono ?_; rintro e w' ⟨rfl, rfl⟩)
    go_ret
    rw [hf.o]
    exact ⟨rfl, H.o, Keeps.refl _ _⟩

set_option maxHeartbeats 1000000 in
theorem count_nil (w : World) (m : Int) : Calls Try.prog 41 #[.pointer none, .int .i64 m] w fun e w' => e = .returned (.int .i64 0) ∧ w = w' := by
  go_enter Try.func41, Try.ntmps41
  go_wp2_with (first | (go_at_call 25; refine (at_nil _).mono ?_; rintro e w' ⟨rfl, rfl⟩) | (go_at_call 21; refine (num_nil _).mono ?_; rintro e w' ⟨rfl, rfl⟩) | (go_at_call 48; refine (sound_nil _).mono ?_; rintro e w' ⟨rfl, rfl⟩))
  go_ret
  exact ⟨rfl, rfl⟩
set_option maxHeartbeats 1000000 in
theorem text_nil (w : World) (m : Int) : Calls Try.prog 23 #[.pointer none, .int .i64 m] w fun e w' => e = .returned (.string ⟨#[]⟩) ∧ w = w' := by
  go_enter Try.func23, Try.ntmps23
  go_wp2_with (first | (go_at_call 25; refine (at_nil _).mono ?_; rintro e w' ⟨rfl, rfl⟩) | (go_at_call 41; refine (count_nil _ _).mono ?_; rintro e w' ⟨rfl, rfl⟩) | (go_at_call 48; refine (sound_nil _).mono ?_; rintro e w' ⟨rfl, rfl⟩))
  go_ret
  exact ⟨rfl, rfl⟩
set_option maxHeartbeats 1000000 in
theorem done_nil (w : World) : Calls Try.prog 26 #[.pointer none] w fun e w' => e = .returned (.int .i64 0) ∧ ∃ n, w' = w.drewN n := by
  go_enter Try.func26, Try.ntmps26
  go_wp2_with fail
  go_quiet ((go_at_call 48; exact Calls.quiet_same (sound_nil _)))
  go_wp2_with (go_at_call 24; refine (why_nil _).mono ?_; rintro e w' ⟨rfl, rfl⟩)
  go_ret
  exact ⟨rfl, _, rfl⟩
theorem zero_lt_num (s : RSt) (h : s.num.2.err ≠ 0) : s.num.1 = 0 := by
  unfold RSt.num at *
  split at h
  · rename_i h0
    rw [if_pos h0]
    split at h
    rename_i e n k hh
    split at h
    · exact absurd h0 h
    · rename_i he
      rw [if_neg he]
  · rename_i h0
    rw [if_neg h0]
set_option maxHeartbeats 2000000 in
theorem count_some (w : World) (b : Nat) (s : RSt) (A : Option Addr) (c : Nat) (h : IsRd w b s A c) (m : Int) (hm0 : -9223372036854775808 ≤ m) (hm1 : m ≤ 9223372036854775807) :
    Calls Try.prog 41 #[.pointer (some ⟨b, 0, none⟩), .int .i64 m] w fun e' w' => e' = .returned (.int .i64 (s.count m).1) ∧ IsRd w' b (s.count m).2 A c ∧ Keeps (OneB b) w w' := by
  have hlt := s.num_lt
  have HN := Sd.mk (num_some w b s A c h)
  have H := Sd.mk h
  clear h
  go_enter Try.func41, Try.ntmps41
  go_wp2_with (first | (go_at_call 25; refine (at_some _ b s A c H.o).mono ?_; rintro e w' ⟨rfl, rfl⟩))
  refine HN.o.mono ?_
  rintro e w1 ⟨rfl, hr, hk⟩
  have h2 : w1.cell? ⟨b, 2, none⟩ = some (.int .i64 s.num.2.err) := blk_cell hr.blk 2
  have HR := Sd.mk hr
  have HK := Sd.mk hk
  clear hr hk HN
  by_cases he : s.num.2.err = 0
  · rw [he] at h2
    by_cases hmn : m < 0
    · have hf : Sd (s.count m = (0, s.num.2.stop 1 s.pos)) := ⟨by simp [RSt.count, he, hmn]⟩
      clear he
      go_wp2_with (first | (go_at_call 48; refine (sound_some _ b _ h2).mono ?_; rintro e w' ⟨rfl, rfl⟩) | (go_at_call 49; refine (stops_some _ b _ _ _ _ _ _ (by exact HR.o.blk)).mono ?_; rintro e w' ⟨rfl, HK2, HB⟩))
      go_ret
      rw [hf.o]
      exact ⟨rfl, HR.o.stop HK2 1 s.pos (by rw [s.num_p]; exact H.o.pos) HB (by decide) (by decide), HK.o.trans HK2 (fun _ _ f => f) (fun _ _ f => f)⟩
    · have e1 : IntKind.u64.wrap m = m := by rw [IntKind.wrap_u64]; omega
      by_cases hmm : m < (s.num.1 : Int)
      · have hf : Sd (s.count m = (0, s.num.2.stop 1 s.pos)) := ⟨by simp [RSt.count, he, hmm]⟩
        clear he
        go_wp2_with (first | (go_at_call 48; refine (sound_some _ b _ h2).mono ?_; rintro e w' ⟨rfl, rfl⟩) | (go_at_call 49; refine (stops_some _ b _ _ _ _ _ _ (by exact HR.o.blk)).mono ?_; rintro e w' ⟨rfl, HK2, HB⟩))
        go_ret
        rw [hf.o]
        exact ⟨rfl, HR.o.stop HK2 1 s.pos (by rw [s.num_p]; exact H.o.pos) HB (by decide) (by decide), HK.o.trans HK2 (fun _ _ f => f) (fun _ _ f => f)⟩
      · have hf : Sd (s.count m = s.num) := ⟨by simp [RSt.count, hmm, hmn]⟩
        clear he
        go_wp2_with (first | (go_at_call 48; refine (sound_some _ b _ h2).mono ?_; rintro e w' ⟨rfl, rfl⟩))
        go_ret
        rw [hf.o]
        exact ⟨rfl, HR.o, HK.o⟩
  · have hb : (s.num.2.err == 0) = false := by simp [he]
    have hf : Sd (s.count m = s.num) := ⟨by simp [RSt.count, he]⟩
    have h0 := Sd.mk (zero_lt_num s he)
    clear he
    go_wp2_with (first | (go_at_call 48; refine (sound_some _ b _ h2).mono ?_; rintro e w' ⟨rfl, rfl⟩))
    go_ret
    rw [hf.o]
    exact ⟨ret_int (by show wrap64 _ = _; rw [h0.o]; unfold wrap64; omega), HR.o, HK.o⟩
end Go.Proofs.Ytlnmjeiiagkipaa
