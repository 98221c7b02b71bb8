/- the reference's reader: New, Int, Byte, Count, Text, Done. -/
import Derived.Test.YthelafgdegkkkaaOctV
import Derived.Test.YthelafgdegkkkaaApp
namespace Go.Proofs.Ythelafgdegkkkaa
open Go.RowKit

theorem below_none {w w' : World} {n c : Nat} (k : Keeps (ownB (.slice none n c)) w w') : Keeps NoB w w' := k.mono (fun i _ f => by simp [ownB, Value.ownBlock] at f)
set_option maxHeartbeats 1000000 in
theorem rnew_any (w : World) (A : Option Addr) (n c : Nat) (xs : List UInt8) (h : Bts w (.slice A n c) xs) (hl : xs.length ≤ 140737488355328) :
    Calls Try.prog 26 #[.slice A n c] w fun e w' => ∃ b A' c', e = .returned (.pointer (some ⟨b, 0, none⟩)) ∧ IsRR w' b ⟨xs, 0, 0, 0⟩ A' c' ∧ Keeps NoB w w' ∧ w.heap.size ≤ b ∧ (∀ k, (Value.slice A' xs.length c').ownBlock = some k → w.heap.size ≤ k) := by
  have H := Sd.mk h
  have e := h.rd.1
  subst e
  clear h
  go_enter Try.func26, Try.ntmps26
  go_wp2_with (at_builtin; go_must (refine app_lit0 rfl _ _ 22 5 (.int .u8 0) 1 rfl Try.underlying22 infoU8' rfl w.heap.size rfl rfl A xs.length c (bvs xs) rfl (bvs_length xs) (rd_vrd H.o.rd.2.2.2.2.2) (bvs_one xs) (by omega) (by omega) ?_); intro A4 c4 w4 HO4 HK4 HF4; have HP4 := Sd.mk (And.intro HO4 (And.intro HK4 HF4)); clear HO4 HK4 HF4)
  go_ret
  obtain ⟨HO, HK, HF⟩ := HP4.o
  have hk : Keeps NoB w4 (w4.alloc (.cells #[.slice A4 xs.length c4, .int .i64 0, .int .i64 0, .int .i64 0] 86)) := (Keeps.refl NoB w4).alloc _
  refine ⟨_, A4, c4, rfl, ⟨heap_alloc_new _ _, (HO.keeps hk (fun _ _ f => f)).bts, ?_, Nat.zero_le _, Nat.zero_le _, (by show (-9223372036854775808 : Int) ≤ 0; decide), (by show (0 : Int) ≤ 9223372036854775807; decide)⟩, HK.then hk, HK.size, HF⟩
  intro k hk2 e
  have := HO.lt k hk2
  cases e
  omega

set_option maxHeartbeats 2000000 in
theorem rdone_some (w : World) (b : Nat) (s : RSt) (A : Option Addr) (c : Nat) (h : IsRR w b s A c) : Calls Try.prog 28 #[.pointer (some ⟨b, 0, none⟩)] w fun e w' => e = .returned (.int .i64 s.done) ∧ ∃ n, w' = w.drewN n := by
  have h0 : w.cell? ⟨b, 0, none⟩ = some (.slice A s.p.length c) := blk_cell h.blk 0
  have h1 : w.cell? ⟨b, 1, none⟩ = some (.int .i64 s.pos) := blk_cell h.blk 1
  have h2 : w.cell? ⟨b, 2, none⟩ = some (.int .i64 s.err) := blk_cell h.blk 2
  have hm := h.len
  clear h
  by_cases he : s.err = 0
  · have HE := Sd.mk he
    rw [he] at h2
    by_cases hl : s.pos < s.p.length
    · have hq : decide (s.pos < s.p.length) = true := by simpa using hl
      have hf : Sd (s.done = 4) := ⟨by simp [RSt.done, he, hl]⟩
      clear he
      go_enter Try.func28, Try.ntmps28
      go_wp2_with fail
      go_quiet (fail)
      go_wp2
      go_ret
      exact ⟨by rw [hf.o]; rfl, _, rfl⟩
    · have hq : decide (s.pos < s.p.length) = false := by simp; omega
      have hf : Sd (s.done = 0) := ⟨by simp [RSt.done, he, hl]⟩
      clear he hl
      go_enter Try.func28, Try.ntmps28
      go_wp2_with fail
      go_quiet (fail)
      go_wp2
      go_ret
      exact ⟨by rw [hf.o]; rfl, _, rfl⟩
  · have hb : (s.err == 0) = false := by simp [he]
    have hf : Sd (s.done = s.err) := ⟨by simp [RSt.done, he]⟩
    clear he
    go_enter Try.func28, Try.ntmps28
    go_wp2_with fail
    go_quiet (fail)
    go_wp2
    go_ret
    exact ⟨by rw [hf.o]; rfl, _, rfl⟩
end Go.Proofs.Ythelafgdegkkkaa
