/- octet: the reader's Int, Byte, Count, Text, Done; New. -/
import Derived.Test.YtdjamijbhaplgaaGreatGkab
namespace Go.Proofs.YtdjamijbhaplgaaGreat
open Go.RowKit

set_option maxHeartbeats 1000000 in
theorem num_nil (w : World) : Calls Tryz.prog 116 #[.pointer none] w fun e w' => e = .returned (.int .u64 0) ∧ w = w' := by
  go_enter Tryz.func116, Tryz.ntmps116
  go_wp2_with fail
  go_step3
  go_wp2_with (go_at_call 103; refine (sound_nil _).mono ?_; rintro e w' ⟨rfl, rfl⟩)
  rw [Exit.noGoto_ret]
  go_ret
  exact ⟨rfl, rfl⟩
set_option maxHeartbeats 1000000 in
theorem count_nil (w : World) (m : Int) : Calls Tryz.prog 102 #[.pointer none, .int .i64 m] w fun e w' => e = .returned (.int .i64 0) ∧ w = w' := by
  go_enter Tryz.func102, Tryz.ntmps102
  go_wp2_with (first | (go_at_call 101; refine (at_nil _).mono ?_; rintro e w' ⟨rfl, rfl⟩) | (go_at_call 116; refine (num_nil _).mono ?_; rintro e w' ⟨rfl, rfl⟩) | (go_at_call 103; refine (sound_nil _).mono ?_; rintro e w' ⟨rfl, rfl⟩))
  go_ret
  exact ⟨rfl, rfl⟩
set_option maxHeartbeats 1000000 in
theorem text_nil (w : World) (m : Int) : Calls Tryz.prog 71 #[.pointer none, .int .i64 m] w fun e w' => e = .returned (.string ⟨#[]⟩) ∧ w = w' := by
  go_enter Tryz.func71, Tryz.ntmps71
  go_wp2_with (first | (go_at_call 101; refine (at_nil _).mono ?_; rintro e w' ⟨rfl, rfl⟩) | (go_at_call 102; refine (count_nil _ _).mono ?_; rintro e w' ⟨rfl, rfl⟩) | (go_at_call 103; refine (sound_nil _).mono ?_; rintro e w' ⟨rfl, rfl⟩))
  go_ret
  exact ⟨rfl, rfl⟩
set_option maxHeartbeats 1000000 in
theorem done_nil (w : World) : Calls Tryz.prog 72 #[.pointer none] w fun e w' => e = .returned (.int .i64 0) ∧ ∃ n, w' = w.drewN n := by
  go_enter Tryz.func72, Tryz.ntmps72
  go_wp2_with fail
  go_quiet ((go_at_call 103; exact Calls.quiet_same (sound_nil _)))
  go_wp2_with (go_at_call 105; refine (why_nil _).mono ?_; rintro e w' ⟨rfl, rfl⟩)
  go_ret
  exact ⟨rfl, _, rfl⟩
theorem zero_lt_num (s : RSt) (h : s.num.2.err ≠ 0) : s.num.1 = 0 := by
  unfold RSt.num at *
  split at h
  · rename_i h0
    rw [if_pos h0]
    split at h
    rename_i e n k hh
    split at h
    · exact absurd h0 h
    · rename_i he
      rw [if_neg he]
  · rename_i h0
    rw [if_neg h0]
set_option maxHeartbeats 2000000 in
theorem count_some (w : World) (b : Nat) (s : RSt) (A : Option Addr) (c : Nat) (h : IsRd w b s A c) (m : Int) (hm0 : -9223372036854775808 ≤ m) (hm1 : m ≤ 9223372036854775807) :
    Calls Tryz.prog 102 #[.pointer (some ⟨b, 0, none⟩), .int .i64 m] w fun e' w' => e' = .returned (.int .i64 (s.count m).1) ∧ IsRd w' b (s.count m).2 A c ∧ Keeps (OneB b) w w' := by
  have hlt := s.num_lt
  have HN := Sd.mk (num_some w b s A c h)
  have H := Sd.mk h
  clear h
  go_enter Tryz.func102, Tryz.ntmps102
  go_wp2_with (first | (go_at_call 101; refine (at_some _ b s A c H.o).mono ?_; rintro e w' ⟨rfl, rfl⟩))
  refine HN.o.mono ?_
  rintro e w1 ⟨rfl, hr, hk⟩
  have h2 : w1.cell? ⟨b, 2, none⟩ = some (.int .i64 s.num.2.err) := blk_cell hr.blk 2
  have HR := Sd.mk hr
  have HK := Sd.mk hk
  clear hr hk HN
  by_cases he : s.num.2.err = 0
  · rw [he] at h2
    by_cases hmn : m < 0
    · have hf : Sd (s.count m = (0, s.num.2.stop 1 s.pos)) := ⟨by simp [RSt.count, he, hmn]⟩
      clear he
      go_wp2_with (first | (go_at_call 103; refine (sound_some _ b _ h2).mono ?_; rintro e w' ⟨rfl, rfl⟩) | (go_at_call 104; refine (stops_some _ b _ _ _ _ _ _ (by exact HR.o.blk)).mono ?_; rintro e w' ⟨rfl, HK2, HB⟩))
      go_ret
      rw [hf.o]
      exact ⟨rfl, HR.o.stop HK2 1 s.pos (by rw [s.num_p]; exact H.o.pos) HB (by decide) (by decide), HK.o.trans HK2 (fun _ _ f => f) (fun _ _ f => f)⟩
    · have e1 : IntKind.u64.wrap m = m := by rw [IntKind.wrap_u64]; omega
      by_cases hmm : m < (s.num.1 : Int)
      · have hf : Sd (s.count m = (0, s.num.2.stop 1 s.pos)) := ⟨by simp [RSt.count, he, hmm]⟩
        clear he
        go_wp2_with (first | (go_at_call 103; refine (sound_some _ b _ h2).mono ?_; rintro e w' ⟨rfl, rfl⟩) | (go_at_call 104; refine (stops_some _ b _ _ _ _ _ _ (by exact HR.o.blk)).mono ?_; rintro e w' ⟨rfl, HK2, HB⟩))
        go_ret
        rw [hf.o]
        exact ⟨rfl, HR.o.stop HK2 1 s.pos (by rw [s.num_p]; exact H.o.pos) HB (by decide) (by decide), HK.o.trans HK2 (fun _ _ f => f) (fun _ _ f => f)⟩
      · have hf : Sd (s.count m = s.num) := ⟨by simp [RSt.count, hmm, hmn]⟩
        clear he
        go_wp2_with (first | (go_at_call 103; refine (sound_some _ b _ h2).mono ?_; rintro e w' ⟨rfl, rfl⟩))
        go_ret
        rw [hf.o]
        exact ⟨rfl, HR.o, HK.o⟩
  · have hb : (s.num.2.err == 0) = false := by simp [he]
    have hf : Sd (s.count m = s.num) := ⟨by simp [RSt.count, he]⟩
    have h0 := Sd.mk (zero_lt_num s he)
    clear he
    go_wp2_with (first | (go_at_call 103; refine (sound_some _ b _ h2).mono ?_; rintro e w' ⟨rfl, rfl⟩))
    go_ret
    rw [hf.o]
    exact ⟨ret_int (by show wrap64 _ = _; rw [h0.o]; unfold wrap64; omega), HR.o, HK.o⟩
end Go.Proofs.YtdjamijbhaplgaaGreat
namespace Go.Proofs.YtdjamijbhaplgaaGreat
open Go.RowKit

theorem RSt.count_p (s : RSt) (m : Int) : (s.count m).2.p = s.p := by
  unfold RSt.count
  split
  · exact s.num_p
  · exact s.num_p

set_option maxHeartbeats 2000000 in
set_option maxRecDepth 100000 in
theorem text_some (w : World) (b : Nat) (s : RSt) (A : Option Addr) (c : Nat) (h : IsRd w b s A c) (m : Int) (hm0 : -9223372036854775808 ≤ m) (hm1 : m ≤ 9223372036854775807) :
    Calls Tryz.prog 71 #[.pointer (some ⟨b, 0, none⟩), .int .i64 m] w fun e' w' => e' = .returned (.string (sOf (s.text m).1)) ∧ IsRd w' b (s.text m).2 A c ∧ Keeps (OneB b) w w' := by
  have HN := Sd.mk (count_some w b s A c h m hm0 hm1)
  have hpp := s.count_p m
  have ht : Sd (s.text m = if (s.count m).2.err = 0 then
    if s.p.length - (s.count m).2.pos < (s.count m).1 then ([], (s.count m).2.stop 3 s.pos)
    else ((s.p.drop (s.count m).2.pos).take (s.count m).1, { (s.count m).2 with pos := (s.count m).2.pos + (s.count m).1 })
  else ([], (s.count m).2)) := ⟨rfl⟩
  have H := Sd.mk h
  clear h
  generalize hN : (s.count m).1 = N at *
  generalize hS : (s.count m).2 = t at *
  obtain ⟨p, pos, err, spot⟩ := s
  obtain ⟨tp, tpos, terr, tspot⟩ := t
  dsimp only at *
  subst hpp
  clear hN hS
  go_enter Tryz.func71, Tryz.ntmps71
  go_wp2_with (first | (go_at_call 101; refine (at_some _ b _ A c H.o).mono ?_; rintro e w' ⟨rfl, rfl⟩))
  refine HN.o.mono ?_
  rintro e w1 ⟨rfl, hr, hk⟩
  have h2 : w1.cell? ⟨b, 2, none⟩ = some (.int .i64 terr) := blk_cell hr.blk 2
  have h1 : w1.cell? ⟨b, 1, none⟩ = some (.int .i64 tpos) := blk_cell hr.blk 1
  have h0 : w1.cell? ⟨b, 0, none⟩ = some (.slice A tp.length c) := blk_cell hr.blk 0
  have f1 := blk_frozen hr.blk 1
  have hl := hr.pos
  have hlen := hr.len
  dsimp only at hl hlen
  have HR := Sd.mk hr
  have HK := Sd.mk hk
  clear hr hk HN
  by_cases he : terr = 0
  · rw [if_pos he] at ht
    subst he
    by_cases hn : tp.length - tpos < N
    · rw [if_pos hn] at ht
      have hq : (tp.length : Int) - (tpos : Int) < (N : Int) := by omega
      have hw : IntKind.i64.wrap ((tp.length : Int) - (tpos : Int)) = (tp.length : Int) - (tpos : Int) := IntWalk.i64_in _ (by omega)
      clear hn
      go_wp2_with (first | (go_at_call 103; refine (sound_some _ b _ h2).mono ?_; rintro e w' ⟨rfl, rfl⟩))
      go_quiet (fail)
      clear hw
      go_wp2_with (go_at_call 104; refine (stops_some _ b _ _ _ _ _ _ (by exact HR.o.blk)).mono ?_; rintro e w' ⟨rfl, HK2, HB⟩)
      go_ret
      rw [ht.o]
      exact ⟨rfl, (HR.o.drewN _).stop HK2 3 pos H.o.pos HB (by decide) (by decide), HK.o.trans HK2.undrew (fun _ _ f => f) (fun _ _ f => f)⟩
    · rw [if_neg hn] at ht
      have hq : ¬ (tp.length : Int) - (tpos : Int) < (N : Int) := by omega
      have hle : tpos + N ≤ tp.length := by omega
      have hw : IntKind.i64.wrap ((tp.length : Int) - (tpos : Int)) = (tp.length : Int) - (tpos : Int) := IntWalk.i64_in _ (by omega)
      clear hn
      go_wp2_with (first | (go_at_call 103; refine (sound_some _ b _ h2).mono ?_; rintro e w' ⟨rfl, rfl⟩))
      go_quiet (fail)
      clear hw
      obtain ⟨i0, hi, hz0, hz1, hz2⟩ := info_parts infoU8
      have hcut : ∀ W : World, (Instr.slice 49 (.slice A tp.length c) (some (.int .i64 ((tpos : Int)))) (some (.int .i64 ((tpos : Int) + (N : Int)))) none).run Tryz.prog W = .ok (.slice (cutA A c tpos) N (c - tpos)) W := fun W => by
        have := slice_run 49 5 .i64 .i64 Tryz.underlying49 hi hz1 A tp.length c tpos (tpos + N) (by omega) (by have := HR.o.bts.rd; dsimp only at this; omega) W tpos ((tpos : Int) + (N : Int)) rfl (by omega)
        rw [this]; congr 2; omega
      have hbts := HR.o.bts.cut tpos (tpos + N) (by omega) (by exact hle)
      have e3 : tpos + N - tpos = N := by omega
      rw [e3] at hbts
      have hkk : Keeps (OneB b) w1 (w1.setCell ⟨b, 1, none⟩ (.int .i64 ((tpos : Int) + (N : Int)))) := (Keeps.refl (OneB b) w1).setCell ⟨b, 1, none⟩ _ (fun _ => rfl)
      have hb2 := hbts.keeps hkk HR.o.off.cut.r
      have hconv : ∀ n1 n2, (convert 49 9 (.slice (cutA A c tpos) N (c - tpos))).run Tryz.prog (((w1.drewN n1).setCell ⟨b, 1, none⟩ (.int .i64 ((tpos : Int) + (N : Int)))).drewN n2) = .ok (.string (sOf ((tp.drop tpos).take N))) (((w1.drewN n1).setCell ⟨b, 1, none⟩ (.int .i64 ((tpos : Int) + (N : Int)))).drewN n2) := fun n1 n2 => by
        have e4 : ((tp.drop tpos).take N).length = N := by simp; omega
        have hrd : Rd (((w1.drewN n1).setCell ⟨b, 1, none⟩ (.int .i64 ((tpos : Int) + (N : Int)))).drewN n2) (cutA A c tpos) ((tp.drop tpos).take N) := hb2.rd.2.2.2.2.2
        have := conv_rd (P := Tryz.prog) (((w1.drewN n1).setCell ⟨b, 1, none⟩ (.int .i64 ((tpos : Int) + (N : Int)))).drewN n2) 49 5 9 Tryz.underlying49 Tryz.underlying5 Tryz.underlying9 (cutA A c tpos) _ (c - tpos) hrd
        rwa [e4] at this
      have e5 : IntKind.i64.wrap ((tpos : Int) + (N : Int) - (N : Int)) = (tpos : Int) := by rw [IntWalk.i64_in _ (by omega)]; omega
      have e6 : IntKind.i64.wrap (tpos : Int) = (tpos : Int) := IntWalk.i64_in _ (by omega)
      clear hbts hkk hb2 e3 hi hz0 hz1 hz2
      go_wp2_with fail
      go_quiet (fail)
      go_wp2
      go_ret
      rw [ht.o]
      exact ⟨rfl, ((by refine HR.o.move (w1.drewN _) ?_ _ ?_ _ ?_; rfl; exact hle; omega : IsRd _ b _ _ c)).drewN _, HK.o.trans ((((Keeps.refl (OneB b) w1).drewN _).setCell ⟨b, 1, none⟩ _ (fun _ => rfl)).drewN _) (fun _ _ f => f) (fun _ _ f => f)⟩
  · rw [if_neg he] at ht
    have hb : (terr == 0) = false := by simp [he]
    clear he
    go_wp2_with (first | (go_at_call 103; refine (sound_some _ b _ h2).mono ?_; rintro e w' ⟨rfl, rfl⟩))
    go_ret
    rw [ht.o]
    exact ⟨rfl, HR.o, HK.o⟩

set_option maxHeartbeats 2000000 in
theorem done_some (w : World) (b : Nat) (s : RSt) (A : Option Addr) (c : Nat) (h : IsRd w b s A c) : Calls Tryz.prog 72 #[.pointer (some ⟨b, 0, none⟩)] w fun e w' => e = .returned (.int .i64 s.done) ∧ ∃ n, w' = w.drewN n := by
  have h0 : w.cell? ⟨b, 0, none⟩ = some (.slice A s.p.length c) := blk_cell h.blk 0
  have h1 : w.cell? ⟨b, 1, none⟩ = some (.int .i64 s.pos) := blk_cell h.blk 1
  have h2 : w.cell? ⟨b, 2, none⟩ = some (.int .i64 s.err) := blk_cell h.blk 2
  have hm := h.len
  have H := Sd.mk h
  clear h
  by_cases he : s.err = 0
  · have HE := Sd.mk he
    rw [he] at h2
    by_cases hl : s.pos < s.p.length
    · have hq : (s.pos : Int) < (s.p.length : Int) := by omega
      have hf : Sd (s.done = 4) := ⟨by simp [RSt.done, he, hl]⟩
      clear he hl
      go_enter Tryz.func72, Tryz.ntmps72
      go_wp2_with fail
      go_quiet ((go_at_call 103; exact Calls.quiet_same (sound_some _ b _ (by exact h2))))
      go_wp2
      go_ret
      exact ⟨by rw [hf.o]; rfl, _, rfl⟩
    · have hq : decide (s.pos < s.p.length) = false := by simp; omega
      have hf : Sd (s.done = s.err) := ⟨by simp [RSt.done, hl]⟩
      clear he hl
      go_enter Tryz.func72, Tryz.ntmps72
      go_wp2_with fail
      go_quiet ((go_at_call 103; exact Calls.quiet_same (sound_some _ b _ (by exact h2))))
      go_wp2_with (go_at_call 105; refine (why_some _ b s A c (H.o.drewN _)).mono ?_; rintro e w' ⟨rfl, n, rfl⟩)
      go_ret
      exact ⟨by rw [hf.o]; rfl, _, rfl⟩
  · have hb : (s.err == 0) = false := by simp [he]
    have hf : Sd (s.done = s.err) := ⟨by simp [RSt.done, he]⟩
    clear he
    go_enter Tryz.func72, Tryz.ntmps72
    go_wp2_with fail
    go_quiet ((go_at_call 103; exact Calls.quiet_same (by have := sound_some (w.drewN ‹_›) b _ h2; rwa [hb] at this)))
    go_wp2_with (go_at_call 105; refine (why_some _ b s A c (H.o.drewN _)).mono ?_; rintro e w' ⟨rfl, n, rfl⟩)
    go_ret
    exact ⟨by rw [hf.o]; rfl, _, rfl⟩

/-- Clone of any bytes. -/
theorem clone_any (w : World) (A : Option Addr) (n c : Nat) (xs : List UInt8) (h : Bts w (.slice A n c) xs) (hl : xs.length ≤ 140737488355328) :
    Calls Tryz.prog 75 #[.slice A n c] w fun e w' => ∃ A' c', e = .returned (.slice A' xs.length c') ∧ Own w' w.heap.size (.slice A' xs.length c') xs ∧ Below w.heap.size w w' := by
  obtain ⟨rfl, h1, h2, h3, h4, h5⟩ := h.rd
  cases A with
  | none =>
    have hc := h3 rfl
    subst hc
    have hx : xs = [] := List.eq_nil_of_length_eq_zero (by omega)
    subst hx
    refine (clone_nil w _ _).mono ?_
    rintro e w' ⟨rfl, rfl⟩
    exact ⟨none, 0, rfl, Own.nil w _, Below.refl _ _⟩
  | some a =>
    have hn : ∀ j u, (bvs xs)[j]? = some u → w.cell? (a.add j) = some u := by
      cases xs with
      | nil => intro j u hj; simp [bvs] at hj
      | cons x l =>
        obtain ⟨b, o, e, _⟩ := h5 0 (by simp)
        cases e
        exact h5.news
    refine (clone_some w a c xs hl hn).mono ?_
    rintro e w' ⟨v, rfl, hv, _, hb⟩
    obtain ⟨A', c', rfl⟩ : ∃ A' c', v = .slice A' xs.length c' := by
      rcases hv.2 with ⟨rfl, hn⟩ | ⟨g, cap, cur, rfl, _⟩
      · exact ⟨none, 0, by rw [hn]⟩
      · exact ⟨_, _, rfl⟩
    exact ⟨A', c', rfl, hv, hb⟩

set_option maxHeartbeats 1000000 in
theorem new_any (w : World) (A : Option Addr) (n c : Nat) (xs : List UInt8) (h : Bts w (.slice A n c) xs) (hl : xs.length ≤ 140737488355328) :
    Calls Tryz.prog 70 #[.slice A n c] w fun e w' => ∃ b A' c', e = .returned (.pointer (some ⟨b, 0, none⟩)) ∧ IsRd w' b ⟨xs, 0, 0, 0⟩ A' c' ∧ Below w.heap.size w w' ∧ w.heap.size ≤ b ∧ (∀ k, (Value.slice A' xs.length c').ownBlock = some k → w.heap.size ≤ k) := by
  have H := Sd.mk (clone_any w A n c xs h hl)
  clear h
  go_enter Tryz.func70, Tryz.ntmps70
  go_wp2_with fail
  refine H.o.mono ?_
  clear H
  rintro e w' ⟨A', c', rfl, ho, hb⟩
  have HO := Sd.mk ho
  have HB := Sd.mk hb
  clear ho hb
  go_wp2
  go_ret
  have hk : Keeps NoB w' (w'.alloc (.cells #[.slice A' xs.length c', .int .i64 0, .int .i64 0, .int .i64 0] 175)) := (Keeps.refl NoB w').alloc _
  refine ⟨_, A', c', rfl, ⟨heap_alloc_new _ _, (HO.o.keeps hk (fun _ _ f => f)).bts, ?_, Nat.zero_le _, Nat.zero_le _, (by show (-9223372036854775808 : Int) ≤ 0; decide), (by show (0 : Int) ≤ 9223372036854775807; decide)⟩, HB.o.alloc HB.o.size _, HB.o.size, fun k hk => (World.ownsRow.lt HO.o k hk).1⟩
  intro k hk2 e
  have := (World.ownsRow.lt HO.o k hk2).2
  cases e
  omega
end Go.Proofs.YtdjamijbhaplgaaGreat
