/- the reference's reader: New, Int, Byte, Count, Text, Done. -/
import Derived.Test.YtlnmjeiiagkipaaOctV
import Derived.Test.YtlnmjeiiagkipaaApp
namespace Go.Proofs.Ytlnmjeiiagkipaa
open Go.RowKit

theorem below_none {w w' : World} {n c : Nat} (k : Keeps (ownB (.slice none n c)) w w') : Keeps NoB w w' := k.mono (fun i _ f => by simp [ownB, Value.ownBlock] at f)
set_option maxHeartbeats 1000000 in
theorem rnew_any (w : World) (A : Option Addr) (n c : Nat) (xs : List UInt8) (h : Bts w (.slice A n c) xs) (hl : xs.length ≤ 140737488355328) :
    Calls Try.prog 35 #[.slice A n c] w fun e w' => ∃ b A' c', e = .returned (.pointer (some ⟨b, 0, none⟩)) ∧ IsRR w' b ⟨xs, 0, 0, 0⟩ A' c' ∧ Keeps NoB w w' ∧ w.heap.size ≤ b ∧ (∀ k, (Value.slice A' xs.length c').ownBlock = some k → w.heap.size ≤ k) := by
  have H := Sd.mk h
  have e := h.rd.1
  subst e
  clear h
  go_enter Try.func35, Try.ntmps35
  go_wp2_with (at_builtin; go_must (refine app_lit0 rfl _ _ 22 5 (.int .u8 0) 1 rfl Try.underlying22 infoU8' rfl w.heap.size rfl rfl A xs.length c (bvs xs) rfl (bvs_length xs) (rd_vrd H.o.rd.2.2.2.2.2) (bvs_one xs) (by omega) (by omega) ?_); intro A4 c4 w4 HO4 HK4 HF4; have HP4 := Sd.mk (And.intro HO4 (And.intro HK4 HF4)); clear HO4 HK4 HF4)
  go_ret
  obtain ⟨HO, HK, HF⟩ := HP4.o
  have hk : Keeps NoB w4 (w4.alloc (.cells #[.slice A4 xs.length c4, .int .i64 0, .int .i64 0, .int .i64 0] 80)) := (Keeps.refl NoB w4).alloc _
  refine ⟨_, A4, c4, rfl, ⟨heap_alloc_new _ _, (HO.keeps hk (fun _ _ f => f)).bts, ?_, Nat.zero_le _, Nat.zero_le _, (by show (-9223372036854775808 : Int) ≤ 0; decide), (by show (0 : Int) ≤ 9223372036854775807; decide)⟩, HK.then hk, HK.size, HF⟩
  intro k hk2 e
  have := HO.lt k hk2
  cases e
  omega

set_option maxHeartbeats 1000000 in
theorem rint_some (w : World) (b : Nat) (s : RSt) (A : Option Addr) (c : Nat) (h : IsRR w b s A c) :
    Calls Try.prog 37 #[.pointer (some ⟨b, 0, none⟩)] w fun e' w' => e' = .returned (.int .i64 (zag s.num.1)) ∧ IsRR w' b s.num.2 A c ∧ Keeps (OneB b) w w' := by
  have hlt := s.num_lt
  have HN := Sd.mk (rnum_some w b s A c h)
  clear h
  obtain ⟨n, t⟩ : ∃ n, n = s.num.1 := ⟨_, rfl⟩
  rw [← t] at HN hlt ⊢
  clear t
  generalize s.num.2 = t at *
  by_cases hb : n % 2 = 1
  · have hq : ((n : Int) % 2 == 1) = true := by simp; omega
    have hz : Sd (zag n = -((n / 2 : Nat) : Int) - 1) := ⟨by unfold zag; rw [if_pos hb]⟩
    have hn2 : n / 2 < 9223372036854775808 := by omega
    clear hb
    go_enter Try.func37, Try.ntmps37
    go_wp2_with (go_at_call 36; refine HN.o.mono ?_; rintro e w' ⟨rfl, hr, hk⟩)
    go_ret
    refine ⟨ret_int ?_, hr, hk⟩
    rw [hz.o]
    first | rfl | (unfold wrap64; omega) | (show IntKind.i64.wrap _ = _; rw [IntKind.wrap_i64]; omega) | omega
  · have hq : ((n : Int) % 2 == 1) = false := by simp; omega
    have hz : Sd (zag n = ((n / 2 : Nat) : Int)) := ⟨by unfold zag; rw [if_neg hb]⟩
    have hn2 : n / 2 < 9223372036854775808 := by omega
    clear hb
    go_enter Try.func37, Try.ntmps37
    go_wp2_with (go_at_call 36; refine HN.o.mono ?_; rintro e w' ⟨rfl, hr, hk⟩)
    go_ret
    refine ⟨ret_int ?_, hr, hk⟩
    rw [hz.o]
    first | rfl | (unfold wrap64; omega) | (show IntKind.i64.wrap _ = _; rw [IntKind.wrap_i64]; omega) | omega

set_option maxHeartbeats 2000000 in
theorem rbyte_some (w : World) (b : Nat) (s : RSt) (A : Option Addr) (c : Nat) (h : IsRR w b s A c) :
    Calls Try.prog 39 #[.pointer (some ⟨b, 0, none⟩)] w fun e' w' => e' = .returned (u8v s.byte.1) ∧ IsRR w' b s.byte.2 A c ∧ Keeps (OneB b) w w' := by
  have h0 : w.cell? ⟨b, 0, none⟩ = some (.slice A s.p.length c) := blk_cell h.blk 0
  have h1 : w.cell? ⟨b, 1, none⟩ = some (.int .i64 s.pos) := blk_cell h.blk 1
  have h2 : w.cell? ⟨b, 2, none⟩ = some (.int .i64 s.err) := blk_cell h.blk 2
  have f1 := blk_frozen h.blk 1
  have hm := h.len
  have hl := h.pos
  have H := Sd.mk h
  clear h
  by_cases hs : s.err = 0
  · have HS := Sd.mk hs
    rw [hs] at h2
    clear hs
    by_cases he : s.pos = s.p.length
    · have hq : (s.p.length : Int) ≤ (s.pos : Int) := by omega
      have hf : Sd (s.byte = (0, s.stop 3 s.pos)) := ⟨by unfold RSt.byte; rw [if_pos HS.o, List.drop_of_length_le (by omega)]⟩
      have hblk := Sd.mk (by have := H.o.blk; rw [HS.o] at this; exact this)
      clear he
      go_enter Try.func39, Try.ntmps39
      go_wp2_with fail
      go_quiet (fail)
      go_wp2_with (go_at_call 44; refine (rfail_stop _ b _ _ _ _ _ (by exact hblk.o) (by decide)).mono ?_; rintro e w' ⟨rfl, HK, HB⟩)
      go_ret
      rw [hf.o]
      exact ⟨rfl, (H.o.drewN _).stop HK 3 s.pos H.o.pos HB (by decide) (by decide), HK.undrew⟩
    · have hlt : s.pos < s.p.length := by omega
      have hq : ¬ (s.p.length : Int) ≤ (s.pos : Int) := by omega
      obtain ⟨bp, op, rfl, hc⟩ := H.o.bts.rd.2.2.2.2.2 s.pos hlt
      have hne : bp ≠ b := fun e => H.o.off bp rfl e
      have hc' : w.cell? ⟨bp, op + s.pos, none⟩ = some (.int .u8 (s.p[s.pos].toNat : Int)) := hc
      have hne' : ¬ b = bp := fun e => hne e.symm
      have hf : Sd (s.byte = (s.p[s.pos], { s with pos := s.pos + 1 })) := ⟨by unfold RSt.byte; rw [if_pos HS.o, List.drop_eq_getElem_cons hlt]⟩
      have hi1 : (s.pos : Int) < (s.p.length : Int) := by omega
      have e2 : IntKind.i64.wrap (s.pos : Int) = (s.pos : Int) := IntWalk.i64_in _ (by omega)
      clear he hc
      generalize s.p[s.pos] = cc at *
      go_enter Try.func39, Try.ntmps39
      go_wp2_with fail
      go_quiet (fail)
      go_wp2_with fail
      go_quiet (fail)
      go_wp2
      go_ret
      rw [hf.o]
      exact ⟨rfl, ((by refine H.o.move (w.drewN _) ?_ _ ?_ _ ?_; rfl; omega; omega : IsRR _ b _ _ c)).drewN _, (((Keeps.refl (OneB b) w).drewN _).setCell ⟨b, 1, none⟩ _ (fun _ => rfl)).drewN _⟩
  · have hb : (s.err != 0) = true := by simp [hs]
    have hf : Sd (s.byte = (0, s)) := ⟨by simp [RSt.byte, hs]⟩
    clear hs
    go_enter Try.func39, Try.ntmps39
    go_wp2_with fail
    go_ret
    rw [hf.o]
    exact ⟨rfl, H.o, Keeps.refl _ _⟩

set_option maxHeartbeats 2000000 in
theorem rdone_some (w : World) (b : Nat) (s : RSt) (A : Option Addr) (c : Nat) (h : IsRR w b s A c) : Calls Try.prog 46 #[.pointer (some ⟨b, 0, none⟩)] w fun e w' => e = .returned (.int .i64 s.done) ∧ ∃ n, w' = w.drewN n := by
  have h0 : w.cell? ⟨b, 0, none⟩ = some (.slice A s.p.length c) := blk_cell h.blk 0
  have h1 : w.cell? ⟨b, 1, none⟩ = some (.int .i64 s.pos) := blk_cell h.blk 1
  have h2 : w.cell? ⟨b, 2, none⟩ = some (.int .i64 s.err) := blk_cell h.blk 2
  have hm := h.len
  clear h
  by_cases he : s.err = 0
  · have HE := Sd.mk he
    rw [he] at h2
    by_cases hl : s.pos < s.p.length
    · have hq : decide (s.pos < s.p.length) = true := by simpa using hl
      have hf : Sd (s.done = 4) := ⟨by simp [RSt.done, he, hl]⟩
      clear he
      go_enter Try.func46, Try.ntmps46
      go_wp2_with fail
      go_quiet (fail)
      go_wp2
      go_ret
      exact ⟨by rw [hf.o]; rfl, _, rfl⟩
    · have hq : decide (s.pos < s.p.length) = false := by simp; omega
      have hf : Sd (s.done = 0) := ⟨by simp [RSt.done, he, hl]⟩
      clear he hl
      go_enter Try.func46, Try.ntmps46
      go_wp2_with fail
      go_quiet (fail)
      go_wp2
      go_ret
      exact ⟨by rw [hf.o]; rfl, _, rfl⟩
  · have hb : (s.err == 0) = false := by simp [he]
    have hf : Sd (s.done = s.err) := ⟨by simp [RSt.done, he]⟩
    clear he
    go_enter Try.func46, Try.ntmps46
    go_wp2_with fail
    go_quiet (fail)
    go_wp2
    go_ret
    exact ⟨by rw [hf.o]; rfl, _, rfl⟩
end Go.Proofs.Ytlnmjeiiagkipaa
