/- simfs: arguments, opened: slices of torn files, wrecks, changes. -/
import Derived.Deep.SlicePairs
import Derived.Test.YtlhhcoijkjcneaaGreatGh
import Derived.Test.YtlhhcoijkjcneaaGreatSimV
namespace Go.Proofs.YtlhhcoijkjcneaaGreat
open Go.RowKit Go.ChangeShapes Go.WideShapes Go.ChangeAt

theorem cellsTorn : Tryz.prog.cellsOf 54 = 3 := by kernel_rfl
theorem cellsIntA : Tryz.prog.cellsOf 3 = 1 := by kernel_rfl
section
variable {H : Type} {enc : TypeId × Value → H} {w : World} {held : Bool} {fuel : Nat}
set_option maxRecDepth 20000 in
theorem op_torns {A : Option Addr} {n c : Nat} {x : DataW H × List MemPlace} (h : DataW.trod enc Tryz.prog w 0 (fun _ => true) held fuel 23 [.slice A n c] = some x) :
    ∃ l : List TornS, l.length = n ∧ TRd w A l ∧ (∀ t ∈ l, (-9223372036854775808 ≤ t.writes ∧ t.writes ≤ 9223372036854775807) ∧ (-9223372036854775808 ≤ t.bytes ∧ t.bytes ≤ 9223372036854775807)) ∧ n ≤ maxLen := by
  rcases Go.Deep.open_slice Tryz.underlying23 h with ⟨hcs, _⟩ | ⟨a, len, cap, m, k, D, Pl, hcs, _, hl, hm, hmm, _, hx⟩
  · simp at hcs
    obtain ⟨rfl, rfl, rfl⟩ := hcs
    exact ⟨[], rfl, (fun i hi => by simp at hi), by simp, Nat.zero_le _⟩
  · simp at hcs
    obtain ⟨rfl, rfl, rfl⟩ := hcs
    simp only [if_true] at hmm
    subst hmm
    have each : ∀ r : Fin n, ∃ y : TornS, w.cell? (a.add (r.val * 3)) = some (.int .i64 y.file) ∧ w.cell? (a.add (r.val * 3 + 1)) = some (.int .i64 y.writes) ∧ w.cell? (a.add (r.val * 3 + 2)) = some (.int .i64 y.bytes) ∧
        (Lit.int .i64 y.writes).wf = true ∧ (Lit.int .i64 y.bytes).wf = true := fun r => by
      obtain ⟨cs', h1, h2⟩ := hx r.val (by have := r.isLt; omega)
      rw [cellsTorn] at h1
      obtain ⟨_, hlen, hcell⟩ := World.cells?_some h1
      obtain ⟨xs, k', _, _, _, hxl, hf⟩ := DataW.trod_struct Tryz.underlying54 h2
      match xs, hxl, cs', hlen with
      | [y0, y1, y2], _, [v0, v1, v2], _ =>
        have g0 := hf 0 _ rfl
        have g1 := hf 1 _ rfl
        have g2 := hf 2 _ rfl
        simp [cellsIntA] at g0 g1 g2
        have e0 := hcell 0 (by omega)
        have e1 := hcell 1 (by omega)
        have e2 := hcell 2 (by omega)
        rw [Go.Deep.add_add] at e0 e1 e2
        simp at e0 e1 e2
        obtain ⟨x0, hx0, _, _⟩ := DataW.trod_int Tryz.underlying3 g0
        obtain ⟨x1, hx1, _, w1⟩ := DataW.trod_int Tryz.underlying3 g1
        obtain ⟨x2, hx2, _, w2⟩ := DataW.trod_int Tryz.underlying3 g2
        simp at hx0 hx1 hx2
        subst hx0 hx1 hx2
        exact ⟨⟨x0, x1, x2⟩, e0, e1, e2, w1, w2⟩
    obtain ⟨Y, hY⟩ : ∃ Y : Fin n → TornS, ∀ r, w.cell? (a.add (r.val * 3)) = some (.int .i64 (Y r).file) ∧ w.cell? (a.add (r.val * 3 + 1)) = some (.int .i64 (Y r).writes) ∧ w.cell? (a.add (r.val * 3 + 2)) = some (.int .i64 (Y r).bytes) ∧
        (Lit.int .i64 (Y r).writes).wf = true ∧ (Lit.int .i64 (Y r).bytes).wf = true := ⟨fun r => (each r).choose, fun r => (each r).choose_spec⟩
    clear each
    refine ⟨(List.finRange n).map Y, by simp, fun i hi => ?_, fun y hy => ?_, by omega⟩
    · have hin : i < n := by simpa using hi
      have h0 := (hY ⟨0, by omega⟩).1
      have h0' : w.cell? (a.add 0) = some (.int .i64 (Y ⟨0, by omega⟩).file) := by simpa using h0
      rw [add_zero] at h0'
      have hs := spot_of_cell h0'
      obtain ⟨b, o, s⟩ := a
      have hs' : s = none := hs.1
      subst hs'
      obtain ⟨g0, g1, g2, _, _⟩ := hY ⟨i, hin⟩
      rw [add_lit] at g0 g1 g2
      refine ⟨b, o, rfl, ?_, ?_, ?_⟩
      · rw [g0]; simp
      · rw [Nat.add_assoc, g1]; simp
      · rw [Nat.add_assoc, g2]; simp
    · obtain ⟨r, _, rfl⟩ := List.mem_map.1 hy
      obtain ⟨_, _, _, h1, h2⟩ := hY r
      have h1 := bounds_i64 h1
      have h2 := bounds_i64 h2
      omega
theorem slice_shape {t e : TypeId} (ht : Tryz.prog.underlying t = some (.slice e)) {v : Value} {x : DataW H × List MemPlace} (h : DataW.trod enc Tryz.prog w 0 (fun _ => true) held fuel t [v] = some x) : ∃ A n c, v = .slice A n c := by
  rcases DataW.trod_slice ht h with ⟨hcs, _⟩ | ⟨a, len, cap, _, _, _, _, hcs, _⟩
  · simp at hcs
    exact ⟨none, 0, 0, hcs⟩
  · simp at hcs
    exact ⟨some a, len, cap, hcs⟩
theorem op_int {v : Value} {x : DataW H × List MemPlace} (h : DataW.trod enc Tryz.prog w 0 (fun _ => true) held fuel 3 [v] = some x) : ∃ n : Int, v = .int .i64 n ∧ -9223372036854775808 ≤ n ∧ n ≤ 9223372036854775807 := by
  obtain ⟨n, hn, _, wn⟩ := DataW.trod_int Tryz.underlying3 h
  have hb := bounds_i64 wn
  exact ⟨n, by simpa using hn, hb.1, hb.2⟩
theorem cellsWreck : Tryz.prog.cellsOf 25 = 2 := by kernel_rfl
theorem cellsByS : Tryz.prog.cellsOf 38 = 1 := by kernel_rfl
theorem cellsToS : Tryz.prog.cellsOf 23 = 1 := by kernel_rfl
set_option maxRecDepth 20000 in
/-- A wreck of two cells. -/
theorem op_wreck {v0 v1 : Value} {x : DataW H × List MemPlace} (h : DataW.trod enc Tryz.prog w 0 (fun _ => true) held fuel 25 [v0, v1] = some x) :
    ∃ (dir : Int) (A : Option Addr) (c : Nat) (l : List TornS), v0 = .int .i64 dir ∧ v1 = .slice A l.length c ∧ (-9223372036854775808 ≤ dir ∧ dir ≤ 9223372036854775807) ∧ TRd w A l ∧
      (∀ t ∈ l, (-9223372036854775808 ≤ t.writes ∧ t.writes ≤ 9223372036854775807) ∧ (-9223372036854775808 ≤ t.bytes ∧ t.bytes ≤ 9223372036854775807)) ∧ l.length ≤ maxLen := by
  obtain ⟨xs, n, _, _, _, hxl, hf⟩ := DataW.trod_struct Tryz.underlying25 h
  match xs, hxl with
  | [y0, y1], _ =>
    have g0 := hf 0 _ rfl
    have g1 := hf 1 _ rfl
    simp [cellsIntA, cellsToS] at g0 g1
    obtain ⟨dir, rfl, hd⟩ := op_int g0
    obtain ⟨A, k, c, rfl⟩ := slice_shape Tryz.underlying23 g1
    obtain ⟨l, rfl, h1, h2, h3⟩ := op_torns g1
    exact ⟨dir, A, c, l, rfl, rfl, hd, h1, h2, h3⟩
end
end Go.Proofs.YtlhhcoijkjcneaaGreat
