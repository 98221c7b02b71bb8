/- octet: Clone of bytes, New and the reader's methods: what each call does. -/
import Derived.Test.YtplnneicmdlahaaRows
import Derived.Test.YtplnneicmdlahaaBase
namespace Go.Proofs.Ytplnneicmdlahaa
open Go.RowKit

theorem infoU8 : (Try.prog.info? 5).map (fun i => (i.zero, i.size, i.bytes)) = some (some (.int .u8 0), 1, 1) := by kernel_rfl

theorem eqlBytes (w : World) (a : Option Addr) (n c n' c' : Nat) : (binOp .eql 22 (.slice a n c) (.slice none n' c')).run Try.prog w = .ok (.bool a.isNone) w :=
  Lib.run_eql_slice_nil w _ _ a n c n' c' Try.underlying22

set_option maxHeartbeats 1000000 in
theorem clone_nil (w : World) (n c : Nat) :
    Calls Try.prog 30 #[.slice none n c] w fun e w' => e = .returned (.slice none 0 0) ∧ w = w' := by
  have q := eqlBytes
  go_enter Try.func30, Try.ntmps30
  go_wp2
  go_ret
  exact ⟨rfl, rfl⟩

set_option maxHeartbeats 1000000 in
theorem clone_some (w : World) (ad : Addr) (c : Nat) (xs : List UInt8) (hl : xs.length ≤ 140737488355328) (hr : ∀ j u, (bvs xs)[j]? = some u → w.cell? (ad.add j) = some u) :
    Calls Try.prog 30 #[.slice (some ad) xs.length c] w fun e w' => ∃ v, e = .returned v ∧ Own w' w.heap.size v xs ∧ v ≠ .slice none 0 0 ∧ Below w.heap.size w w' := by
  have q := eqlBytes
  obtain ⟨i0, hi, hz0, hz1, hz2⟩ := info_parts infoU8
  have A := Sd.mk hr
  clear hr
  go_enter Try.func30, Try.ntmps30
  go_wp2_with (at_builtin; refine wpList_append_own _ rfl _ _ 22 rfl w.heap.size 5 i0 (.int .u8 0) 1 1 Try.underlying22 hi hz0 hz1 hz2 rfl (by decide) _ _ _ rfl (World.ownsRow_made w #[] 0 (Nat.le_refl _) (Nat.zero_le _) rfl) ad xs.length c (bvs xs) rfl ?qc1 ?qc2 ?qc3 ?qc4 ?qc5 ?qc6 ?_)
  case qc1 => simp [bvs]
  case qc2 => intro j u hj; exact Lib.cell?_alloc_some _ (A.o j u hj)
  case qc3 => exact bvs_one xs
  case qc4 => unfold maxLen; omega
  case qc5 => omega
  case qc6 => simp
  intro v' w1 hown hgrow hnil
  go_wp2
  go_ret
  refine ⟨v', rfl, ?_, ?_, ?_⟩
  · unfold Own; simpa using hown
  · exact hnil
  · exact ((Below.refl _ w).alloc (Nat.le_refl _) _).grown hgrow (by simp) (by intro k hk; simp [Value.ownBlock] at hk; omega)
end Go.Proofs.Ytplnneicmdlahaa
