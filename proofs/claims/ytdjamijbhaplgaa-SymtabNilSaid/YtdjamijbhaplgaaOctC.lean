/- octet: the reader's other methods. -/
import Derived.Test.YtdjamijbhaplgaaOctB
namespace Go.Proofs.Ytdjamijbhaplgaa
open Go.RowKit

theorem Calls.quiet_same {P : Program} {f : FuncId} {args : Array Value} {w : World} {n : Nat} {v : Value}
    (h : Calls P f args (w.drewN n) fun e w' => e = .returned v ∧ w.drewN n = w') : Calls P f args (w.drewN n) fun e w'' => e = .returned v ∧ ∃ m, w'' = w.drewN m :=
  h.mono fun _ _ ⟨he, hm⟩ => ⟨he, n, hm.symm⟩

theorem IsRd.keeps {F : Nat → Prop} {w w' : World} {b : Nat} {s : RSt} {A : Option Addr} {c : Nat} (h : IsRd w b s A c) (k : Keeps F w w') (hb : ¬ F b) (ho : OffR F (.slice A s.p.length c)) : IsRd w' b s A c :=
  ⟨k.obj h.blk hb, h.bts.keeps k ho, h.off, h.pos, h.spot, h.lo, h.hi⟩
theorem IsRd.drewN {w : World} {b : Nat} {s : RSt} {A : Option Addr} {c : Nat} (h : IsRd w b s A c) (n : Nat) : IsRd (w.drewN n) b s A c := ⟨h.blk, h.bts, h.off, h.pos, h.spot, h.lo, h.hi⟩
theorem IsRd.stop {w w' : World} {b : Nat} {s : RSt} {A : Option Addr} {c : Nat} (h : IsRd w b s A c) (k : Keeps (OneB b) w w') (e : Int) (at_ : Nat) (ha : at_ ≤ s.p.length)
    (hb : w'.heap[b]? = some (.cells #[.slice A s.p.length c, .int .i64 at_, .int .i64 e, .int .i64 at_] 106 (0, 0))) (h0 : -9223372036854775808 ≤ e) (h1 : e ≤ 9223372036854775807) : IsRd w' b (s.stop e at_) A c :=
  ⟨hb, h.bts.keeps k h.off.r, h.off, ha, ha, h0, h1⟩
theorem IsRd.move {w : World} {b : Nat} {s : RSt} {A : Option Addr} {c : Nat} (h : IsRd w b s A c) (w' : World) (hw : w'.heap = w.heap) (k : Nat) (hl : k ≤ s.p.length) (v : Int) (hv : v = (k : Int)) :
    IsRd (w'.setCell ⟨b, 1, none⟩ (.int .i64 v)) b { s with pos := k } A c := by
  subst hv
  have hk : Keeps (OneB b) w' (w'.setCell ⟨b, 1, none⟩ (.int .i64 ((k : Nat) : Int))) := (Keeps.refl (OneB b) w').setCell ⟨b, 1, none⟩ _ (fun _ => rfl)
  have hbt : Bts w' (.slice A s.p.length c) s.p := by
    obtain ⟨A', c', e, h1, h2, h3, h4, h5⟩ := h.bts
    exact ⟨A', c', e, h1, h2, h3, (by rw [hw]; exact h4), fun i hi => by obtain ⟨b', o', e', hc⟩ := h5 i hi; exact ⟨b', o', e', by rw [← hc]; simp [World.cell?, hw]⟩⟩
  exact ⟨blk_set (by rw [hw]; exact h.blk) 1 _, hbt.keeps hk h.off.r, h.off, hl, h.spot, h.lo, h.hi⟩

set_option maxHeartbeats 1000000 in
theorem at_nil (w : World) : Calls Try.prog 51 #[.pointer none] w fun e w' => e = .returned (.int .i64 0) ∧ w = w' := by
  go_enter Try.func51, Try.ntmps51
  go_wp2
  go_ret
  exact ⟨rfl, rfl⟩
set_option maxHeartbeats 1000000 in
theorem at_some (w : World) (b : Nat) (s : RSt) (A : Option Addr) (c : Nat) (h : IsRd w b s A c) : Calls Try.prog 51 #[.pointer (some ⟨b, 0, none⟩)] w fun e w' => e = .returned (.int .i64 s.pos) ∧ w = w' := by
  have h1 : w.cell? ⟨b, 1, none⟩ = some (.int .i64 s.pos) := blk_cell h.blk 1
  clear h
  go_enter Try.func51, Try.ntmps51
  go_wp2
  go_ret
  exact ⟨rfl, rfl⟩
set_option maxHeartbeats 1000000 in
theorem why_nil (w : World) : Calls Try.prog 55 #[.pointer none] w fun e w' => e = .returned (.tuple #[.int .i64 0, .int .i64 0]) ∧ w = w' := by
  go_enter Try.func55, Try.ntmps55
  go_wp2
  go_ret2
  exact ⟨rfl, rfl⟩
set_option maxHeartbeats 1000000 in
theorem why_some (w : World) (b : Nat) (s : RSt) (A : Option Addr) (c : Nat) (h : IsRd w b s A c) : Calls Try.prog 55 #[.pointer (some ⟨b, 0, none⟩)] w fun e w' => e = .returned (.tuple #[.int .i64 s.err, .int .i64 s.spot]) ∧ ∃ n, w' = w.drewN n := by
  have h2 : w.cell? ⟨b, 2, none⟩ = some (.int .i64 s.err) := blk_cell h.blk 2
  have h3 : w.cell? ⟨b, 3, none⟩ = some (.int .i64 s.spot) := blk_cell h.blk 3
  clear h
  go_enter Try.func55, Try.ntmps55
  go_wp2_with fail
  go_region
  all_goals
    go_wp2
    go_ret2
    exact ⟨rfl, 1, rfl⟩
end Go.Proofs.Ytdjamijbhaplgaa
