/- the reference's reader: Count, Text. -/
import Derived.Test.YthelafgdegkkkaaOctW
namespace Go.Proofs.Ythelafgdegkkkaa
open Go.RowKit

theorem RSt.count_small (s : RSt) (m : Int) (h1 : m ≤ 9223372036854775807) : ((s.count m).1 : Int) ≤ 9223372036854775807 := by
  unfold RSt.count
  split
  · simp
  · rename_i h
    by_cases he : s.num.2.err = 0
    · have : ¬ (m < 0 ∨ m < (s.num.1 : Int)) := fun h2 => h ⟨he, h2⟩
      omega
    · rw [zero_lt_num s he]; simp

set_option maxHeartbeats 4000000 in
set_option maxRecDepth 100000 in
theorem rtext_some (w : World) (b : Nat) (s : RSt) (A : Option Addr) (c : Nat) (h : IsRR w b s A c) (m : Int) (hm0 : -9223372036854775808 ≤ m) (hm1 : m ≤ 9223372036854775807) :
    Calls Try.prog 27 #[.pointer (some ⟨b, 0, none⟩), .int .i64 m] w fun e' w' => e' = .returned (.string (sOf (s.text m).1)) ∧ IsRR w' b (s.text m).2 A c ∧ Keeps (OneB b) w w' := by
  have hlt := s.num_lt
  have h1' : w.cell? ⟨b, 1, none⟩ = some (.int .i64 s.pos) := blk_cell h.blk 1
  have HN := Sd.mk (rnum_some w b s A c h)
  have hpp := s.num_p
  have hz := zero_lt_num s
  have ht : Sd (s.text m = if s.num.2.err = 0 then (if m < 0 ∨ m < (s.num.1 : Int) then ([], s.num.2.stop 1 s.pos)
    else if s.p.length - s.num.2.pos < s.num.1 then ([], s.num.2.stop 3 s.pos)
      else ((s.p.drop s.num.2.pos).take s.num.1, { s.num.2 with pos := s.num.2.pos + s.num.1 }))
    else ([], s.num.2)) := ⟨by
    unfold RSt.text RSt.count
    by_cases he : s.num.2.err = 0
    · by_cases hmm : m < 0 ∨ m < (s.num.1 : Int)
      · simp [he, hmm, RSt.stop]
      · simp [he, hmm]
    · simp [he]⟩
  have H := Sd.mk h
  clear h
  generalize hN : s.num.1 = N at *
  generalize hS : s.num.2 = t at *
  obtain ⟨p, pos, err, spot⟩ := s
  obtain ⟨tp, tpos, terr, tspot⟩ := t
  dsimp only at *
  subst hpp
  clear hN hS
  go_enter Try.func27, Try.ntmps27
  go_wp2_with fail
  refine HN.o.mono ?_
  rintro e w1 ⟨rfl, hr, hk⟩
  have h2 : w1.cell? ⟨b, 2, none⟩ = some (.int .i64 terr) := blk_cell hr.blk 2
  have h1 : w1.cell? ⟨b, 1, none⟩ = some (.int .i64 tpos) := blk_cell hr.blk 1
  have h0 : w1.cell? ⟨b, 0, none⟩ = some (.slice A tp.length c) := blk_cell hr.blk 0
  have f1 := blk_frozen hr.blk 1
  have hl := hr.pos
  have hlen := hr.len
  dsimp only at hl hlen
  have HR := Sd.mk hr
  have HK := Sd.mk hk
  clear hr hk HN h1'
  by_cases he : terr = 0
  · rw [if_pos he] at ht
    subst he
    have hblk := Sd.mk HR.o.blk
    have hpos := Sd.mk H.o.pos
    clear hz
    by_cases hmn : m < 0
    · rw [if_pos (.inl hmn)] at ht
      have hq : decide (m < 0) = true := by simpa using hmn
      go_wp2_with (go_at_call 47; refine (rfail_stop _ b _ _ _ _ _ (by exact hblk.o) (by decide)).mono ?_; rintro e w' ⟨rfl, HK2, HB⟩)
      go_ret
      rw [ht.o]
      exact ⟨rfl, HR.o.stop HK2 1 pos hpos.o HB (by decide) (by decide), HK.o.trans HK2 (fun _ _ f => f) (fun _ _ f => f)⟩
    have e1 : IntKind.u64.wrap m = m := by rw [IntKind.wrap_u64]; omega
    have hq : decide (m < 0) = false := by simpa using hmn
    by_cases hmm : m < (N : Int)
    · rw [if_pos (.inr hmm)] at ht
      have hq2 : decide (m < (N : Int)) = true := by simpa using hmm
      go_wp2_with (go_at_call 47; refine (rfail_stop _ b _ _ _ _ _ (by exact hblk.o) (by decide)).mono ?_; rintro e w' ⟨rfl, HK2, HB⟩)
      go_ret
      rw [ht.o]
      exact ⟨rfl, HR.o.stop HK2 1 pos hpos.o HB (by decide) (by decide), HK.o.trans HK2 (fun _ _ f => f) (fun _ _ f => f)⟩
    rw [if_neg (by omega)] at ht
    have hq2 : decide (m < (N : Int)) = false := by simpa using hmm
    have hNs : N ≤ 9223372036854775807 := by omega
    by_cases hn : tp.length - tpos < N
    · rw [if_pos hn] at ht
      have hq3 : (tp.length : Int) - (tpos : Int) < (N : Int) := by omega
      have hw : IntKind.i64.wrap ((tp.length : Int) - (tpos : Int)) = (tp.length : Int) - (tpos : Int) := IntWalk.i64_in _ (by omega)
      have hw2 : IntKind.u64.wrap ((tp.length : Int) - (tpos : Int)) = (tp.length : Int) - (tpos : Int) := by rw [IntKind.wrap_u64]; omega
      clear hn hmm hmn
      go_wp2_with fail
      go_quiet (fail)
      clear hw hw2 e1
      go_wp2_with (go_at_call 47; refine (rfail_stop _ b _ _ _ _ _ (by exact hblk.o) (by decide)).mono ?_; rintro e w' ⟨rfl, HK2, HB⟩)
      go_ret
      rw [ht.o]
      exact ⟨rfl, (HR.o.drewN _).stop HK2 3 pos hpos.o HB (by decide) (by decide), HK.o.trans HK2.undrew (fun _ _ f => f) (fun _ _ f => f)⟩
    · rw [if_neg hn] at ht
      have hq3 : ¬ (tp.length : Int) - (tpos : Int) < (N : Int) := by omega
      have hle : tpos + N ≤ tp.length := by omega
      have hw : IntKind.i64.wrap ((tp.length : Int) - (tpos : Int)) = (tp.length : Int) - (tpos : Int) := IntWalk.i64_in _ (by omega)
      have hw2 : IntKind.u64.wrap ((tp.length : Int) - (tpos : Int)) = (tp.length : Int) - (tpos : Int) := by rw [IntKind.wrap_u64]; omega
      clear hn hmm hmn
      go_wp2_with fail
      go_quiet (fail)
      clear hw hw2 e1
      obtain ⟨i0, hi, hz0, hz1, hz2⟩ := info_parts infoU8
      have hcut : ∀ W : World, (Instr.slice 22 (.slice A tp.length c) (some (.int .i64 ((tpos : Int)))) (some (.int .i64 ((tpos : Int) + (N : Int)))) none).run Try.prog W = .ok (.slice (cutA A c tpos) N (c - tpos)) W := fun W => by
        have := slice_run 22 5 .i64 .i64 Try.underlying22 hi hz1 A tp.length c tpos (tpos + N) (by omega) (by have := HR.o.bts.rd; dsimp only at this; omega) W tpos ((tpos : Int) + (N : Int)) rfl (by omega)
        rw [this]; congr 2; omega
      have hbts := HR.o.bts.cut tpos (tpos + N) (by omega) (by exact hle)
      have e3 : tpos + N - tpos = N := by omega
      rw [e3] at hbts
      have hkk : Keeps (OneB b) w1 (w1.setCell ⟨b, 1, none⟩ (.int .i64 ((tpos : Int) + (N : Int)))) := (Keeps.refl (OneB b) w1).setCell ⟨b, 1, none⟩ _ (fun _ => rfl)
      have hb2 := hbts.keeps hkk HR.o.off.cut.r
      have hconv : ∀ n1 n2, (convert 22 9 (.slice (cutA A c tpos) N (c - tpos))).run Try.prog (((w1.drewN n1).setCell ⟨b, 1, none⟩ (.int .i64 ((tpos : Int) + (N : Int)))).drewN n2) = .ok (.string (sOf ((tp.drop tpos).take N))) (((w1.drewN n1).setCell ⟨b, 1, none⟩ (.int .i64 ((tpos : Int) + (N : Int)))).drewN n2) := fun n1 n2 => by
        have e4 : ((tp.drop tpos).take N).length = N := by simp; omega
        have hrd : Rd (((w1.drewN n1).setCell ⟨b, 1, none⟩ (.int .i64 ((tpos : Int) + (N : Int)))).drewN n2) (cutA A c tpos) ((tp.drop tpos).take N) := hb2.rd.2.2.2.2.2
        have := conv_rd (P := Try.prog) (((w1.drewN n1).setCell ⟨b, 1, none⟩ (.int .i64 ((tpos : Int) + (N : Int)))).drewN n2) 22 5 9 Try.underlying22 Try.underlying5 Try.underlying9 (cutA A c tpos) _ (c - tpos) hrd
        rwa [e4] at this
      have e5 : IntKind.i64.wrap ((tpos : Int) + (N : Int) - (N : Int)) = (tpos : Int) := by rw [IntWalk.i64_in _ (by omega)]; omega
      have e6 : IntKind.i64.wrap (tpos : Int) = (tpos : Int) := IntWalk.i64_in _ (by omega)
      clear hbts hkk hb2 e3 hi hz0 hz1 hz2
      have hNle : (N : Int) ≤ 9223372036854775807 := by omega
      have e7 : IntKind.i64.wrap (N : Int) = (N : Int) := IntWalk.i64_in _ (by omega)
      go_wp2_with fail
      go_quiet (fail)
      go_wp2
      go_ret
      rw [ht.o]
      exact ⟨rfl, ((by refine HR.o.move (w1.drewN _) ?_ _ ?_ _ ?_; rfl; exact hle; omega : IsRR _ b _ _ c)).drewN _, HK.o.trans ((((Keeps.refl (OneB b) w1).drewN _).setCell ⟨b, 1, none⟩ _ (fun _ => rfl)).drewN _) (fun _ _ f => f) (fun _ _ f => f)⟩
  · rw [if_neg he] at ht
    have hb : (terr != 0) = true := by simp [he]
    clear he
    go_wp2_with fail
    go_ret
    rw [ht.o]
    exact ⟨rfl, HR.o, HK.o⟩
end Go.Proofs.Ythelafgdegkkkaa
