/- the statements' num, huge, Ints, live. -/
import Derived.Test.YtdjamijbhaplgaaSymG
namespace Go.Proofs.Ytdjamijbhaplgaa
open Go.RowKit Go.Maps

set_option maxHeartbeats 400000 in
theorem num_law (w : World) (a : Int) : Calls Try.prog 12 #[.int .i64 a] w fun e w' => e = .returned (.int .i64 a) ∧ w = w' := by
  go_enter Try.func12, Try.ntmps12
  go_wp2
  go_ret
  exact ⟨rfl, rfl⟩
theorem many_vrd {w : World} {vs : List Value} {e : TypeId} {g : Nat} (hg : g = w.heap.size) : VRd (w.alloc (.cells vs.toArray e)) (some ⟨g, 0, none⟩) vs := fun i hi => by
  subst hg
  exact ⟨w.heap.size, 0, rfl, by rw [blk_cell (heap_alloc_new w _)]; simp [hi]⟩

set_option maxHeartbeats 4000000 in
theorem rints_any (w : World) (A B : Option Addr) (c d : Nat) (xs ys : List Nat) (hx : VRd w A (ints xs)) (hy : VRd w B (ints ys)) (hxl : xs.length ≤ 140737488355328) (hyl : ys.length ≤ 140737488355328) :
    Calls Try.prog 20 #[.slice A xs.length c, .slice B ys.length d] w fun e w' => e = .returned (.bool (decide (xs = ys))) ∧ ∃ n, w' = w.drewN n := by
  have HX := Sd.mk hx
  have HY := Sd.mk hy
  clear hx hy
  by_cases hlen : xs.length = ys.length
  case neg =>
    have hq : ((xs.length : Int) != (ys.length : Int)) = true := by simp; omega
    have hf : Sd (decide (xs = ys) = false) := ⟨decide_eq_false (fun e => hlen (by rw [e]))⟩
    clear hlen
    go_enter Try.func20, Try.ntmps20
    go_wp2
    go_ret
    exact ⟨by rw [hf.o]; rfl, 0, rfl⟩
  have hq : ((xs.length : Int) != (ys.length : Int)) = false := by simp; omega
  have HLEN := Sd.mk hlen
  clear hlen
  go_enter Try.func20, Try.ntmps20
  go_wp2_with fail
  go_loopg [5] xs.length (fun gk i wr => ∃ (k m : Nat), gk + k = xs.length ∧ i = .int .i64 k ∧ k ≤ xs.length ∧ Sd (xs.take k = ys.take k) ∧ Sd (wr = w.drewN m))
  case atStart => exact ⟨0, 0, by omega, rfl, by omega, ⟨by simp⟩, ⟨rfl⟩⟩
  case round =>
    obtain ⟨k, m, hk, rfl, hk1, hT, ⟨rfl⟩⟩ := hrel
    by_cases hlt : k < xs.length
    · have hq1 : (k : Int) < (xs.length : Int) := by omega
      have hq2 : (k : Int) < (ys.length : Int) := by have := HLEN.o; omega
      have hq0 : (0 : Int) ≤ (k : Int) := by omega
      have hlt2 : k < ys.length := by have := HLEN.o; omega
      obtain ⟨b1, o1, rfl, g1⟩ := HX.o k (by rw [ints_len]; exact hlt)
      obtain ⟨b2, o2, rfl, g2⟩ := HY.o k (by rw [ints_len]; exact hlt2)
      have g1' : w.cell? ⟨b1, o1 + k, none⟩ = some (.int .i64 (xs[k] : Nat)) := by rw [g1]; simp [ints]
      have g2' : w.cell? ⟨b2, o2 + k, none⟩ = some (.int .i64 (ys[k] : Nat)) := by rw [g2]; simp [ints]
      clear g1 g2
      by_cases he : xs[k] = ys[k]
      · have hst : Sd (xs.take (k + 1) = ys.take (k + 1)) := ⟨take_snoc _ _ k hlt hlt2 hT.o he⟩
        have heq : ((xs[k] : Int) != (ys[k] : Int)) = false := by rw [he]; simp
        clear he
        generalize xs[k] = x at *
        generalize ys[k] = y at *
        go_wp2_with fail
        go_quiet (fail)
        clear g1' g2' heq
        go_wp2_with fail
        go_roundg (gk - 1)
        case measure => omega
        case rel => exact ⟨k + 1, _, by omega, by go_num, by omega, hst, ⟨rfl⟩⟩
      · have hno : Sd (decide (xs = ys) = false) := ⟨decide_eq_false (fun e => he (by simp only [e]))⟩
        have heq : ((xs[k] : Int) != (ys[k] : Int)) = true := by simp; omega
        clear he
        generalize xs[k] = x at *
        generalize ys[k] = y at *
        go_wp2_with fail
        go_quiet (fail)
        clear g1' g2' heq
        go_wp2_with fail
        go_ret
        exact ⟨by rw [hno.o]; rfl, _, World.drewN_drewN _ _ _⟩
    · have hq1 : ¬ (k : Int) < (xs.length : Int) := by omega
      have hyes : Sd (decide (xs = ys) = true) := ⟨decide_eq_true (by
        have := hT.o
        rw [List.take_of_length_le (by omega), List.take_of_length_le (by have := HLEN.o; omega)] at this
        exact this)⟩
      go_wp2_with fail
      go_ret
      exact ⟨by rw [hyes.o]; rfl, _, rfl⟩

def HugePost (ls : List (List UInt8)) (w : World) (e : Ending) (w' : World) : Prop := ∃ bb : Bool, e = .returned (.bool bb) ∧ w = w' ∧ (bb = false → ls.length ≤ 300 ∧ ls.flatten.length ≤ 20000)
/-! ### live -/
def liveS : List (List UInt8) := [[97], [], [98], [97]]
theorem live_in : internL liveS [[]] = [[], [97], [98]] := by decide
theorem live_out : outL liveS [[]] = [1, 0, 2, 1] := by decide
theorem live_add : addedL liveS [[]] = [[97], [98]] := by decide
theorem live_fr (x : UInt8) : frameL [x] = sealL [1, x] := by
  unfold frameL put1T
  rw [show ([x] : List UInt8).length = 1 from rfl, put1_lt 1 (by decide)]
  rfl
theorem live_all : ∃ X : List UInt8, (addedL liveS [[]]).flatMap frameL = X ∧ X.length = 20 ∧ (X.take 19).length = 19 ∧ loadL (X.take 19) = some [[], [97]] ∧ (framesL (X.take 19)).2.1 = 10 := by
  rw [live_add]
  simp only [List.flatMap_cons, List.flatMap_nil, List.append_nil, live_fr]
  exact ⟨_, rfl, by decide +kernel, by decide +kernel, by decide +kernel, by decide +kernel⟩
end Go.Proofs.Ytdjamijbhaplgaa
