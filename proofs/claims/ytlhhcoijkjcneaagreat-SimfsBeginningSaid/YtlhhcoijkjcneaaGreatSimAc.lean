/- simfs: acts, opened. -/
import Derived.Test.YtlhhcoijkjcneaaGreatSimAr
namespace Go.Proofs.YtlhhcoijkjcneaaGreat
open Go.RowKit Go.ChangeShapes Go.WideShapes Go.ChangeAt

/-- An act where it lies. -/
structure ActM where
  kind : Int
  a : ByteArray
  b : ByteArray
  file : Int
  at_ : Int
  n : Int
  Ad : Option Addr
  cd : Nat
  data : List UInt8
  dir : Int
  At : Option Addr
  ct : Nat
  L : List TornS
def ActM.cells (y : ActM) : List Value := [.int .i64 y.kind, .string y.a, .string y.b, .int .i64 y.file, .int .i64 y.at_, .int .i64 y.n, .slice y.Ad y.data.length y.cd, .int .i64 y.dir, .slice y.At y.L.length y.ct]
def Is64 (x : Int) : Prop := -9223372036854775808 ≤ x ∧ x ≤ 9223372036854775807
structure ActM.Good (w : World) (y : ActM) : Prop where
  la : y.a.size ≤ 140737488351232
  lb : y.b.size ≤ 140737488351232
  ld : y.data.length ≤ 140737488351232
  lt : y.L.length ≤ 140737488351232
  kk : Is64 y.kind
  kf : Is64 y.file
  ka : Is64 y.at_
  kn : Is64 y.n
  kd : Is64 y.dir
  dat : Bts w (.slice y.Ad y.data.length y.cd) y.data
  torn : TRd w y.At y.L
  tb : ∀ t ∈ y.L, Is64 t.writes ∧ Is64 t.bytes
def ARd (w : World) (A : Option Addr) (l : List ActM) : Prop := ∀ i (h : i < l.length), ∃ g o, A = some ⟨g, o, none⟩ ∧ ∀ j u, (l[i]).cells[j]? = some u → w.cell? ⟨g, o + i * 9 + j, none⟩ = some u
theorem ARd.kept {w w' : World} {A : Option Addr} {l : List ActM} (h : ARd w A l) (k : Keeps NoB w w') : ARd w' A l := fun i hi => by
  obtain ⟨g, o, e, hc⟩ := h i hi
  exact ⟨g, o, e, fun j u hj => k.cell (hc j u hj) (fun f => f)⟩
theorem ActM.Good.kept {w w' : World} {y : ActM} (h : y.Good w) (k : Keeps NoB w w') : y.Good w' :=
  { h with dat := h.dat.keeps k (fun _ _ _ _ _ f => f), torn := h.torn.kept k }
theorem ARd.at_ {w : World} {A : Option Addr} {l : List ActM} (h : ARd w A l) (i : Nat) (hi : i < l.length) : ∃ g o, A = some ⟨g, o, none⟩ ∧ w.cell? ⟨g, o + i * 9, none⟩ = some (.int .i64 (l[i]).kind) ∧ w.cell? ⟨g, o + i * 9 + 1, none⟩ = some (.string (l[i]).a) ∧
    w.cell? ⟨g, o + i * 9 + 2, none⟩ = some (.string (l[i]).b) ∧ w.cell? ⟨g, o + i * 9 + 3, none⟩ = some (.int .i64 (l[i]).file) ∧ w.cell? ⟨g, o + i * 9 + 4, none⟩ = some (.int .i64 (l[i]).at_) ∧ w.cell? ⟨g, o + i * 9 + 5, none⟩ = some (.int .i64 (l[i]).n) ∧
    w.cell? ⟨g, o + i * 9 + 6, none⟩ = some (.slice (l[i]).Ad (l[i]).data.length (l[i]).cd) ∧ w.cell? ⟨g, o + i * 9 + 7, none⟩ = some (.int .i64 (l[i]).dir) ∧ w.cell? ⟨g, o + i * 9 + 8, none⟩ = some (.slice (l[i]).At (l[i]).L.length (l[i]).ct) := by
  obtain ⟨g, o, e, hc⟩ := h i hi
  exact ⟨g, o, e, hc 0 _ rfl, hc 1 _ rfl, hc 2 _ rfl, hc 3 _ rfl, hc 4 _ rfl, hc 5 _ rfl, hc 6 _ rfl, hc 7 _ rfl, hc 8 _ rfl⟩
theorem cellsAct : Tryz.prog.cellsOf 64 = 9 := by kernel_rfl
theorem cellsStrA : Tryz.prog.cellsOf 9 = 1 := by kernel_rfl
theorem bytesTorn : Tryz.prog.bytesOf 54 = 24 := by kernel_rfl
theorem bytesU8a : Tryz.prog.bytesOf 5 = 1 := by kernel_rfl
section
variable {H : Type} {enc : TypeId × Value → H} {w : World} {held : Bool} {fuel : Nat}
theorem torns_len {A : Option Addr} {n c : Nat} {x : DataW H × List MemPlace} (h : DataW.trod enc Tryz.prog w 0 (fun _ => true) held fuel 23 [.slice A n c] = some x) (hw : ∀ m ∈ x.1.weights Tryz.prog 23, m ≤ reachBytes) : n ≤ 140737488351232 := by
  rcases Go.Deep.open_slice Tryz.underlying23 h with ⟨hcs, _⟩ | ⟨a, len, cap, m, k, D, Pl, hcs, _, hl, hm, hmm, rfl, hx⟩
  · simp at hcs
    obtain ⟨rfl, rfl, rfl⟩ := hcs
    exact Nat.zero_le _
  · simp at hcs
    obtain ⟨rfl, rfl, rfl⟩ := hcs
    have := hw (((List.range n).map D).length + ((List.range (m - n)).map fun j => D (n + j)).length |> (· * 24)) (by
      simp only [DataW.weights, Tryz.underlying23, bytesTorn]
      exact List.mem_cons_self)
    simp at this
    have hr : reachBytes = 140737488351232 := rfl
    omega
theorem bytes_len {A : Option Addr} {n c : Nat} {x : DataW H × List MemPlace} (h : DataW.trod enc Tryz.prog w 0 (fun _ => true) held fuel 38 [.slice A n c] = some x) (hw : ∀ m ∈ x.1.weights Tryz.prog 38, m ≤ reachBytes) : n ≤ 140737488351232 := by
  obtain ⟨⟨xs, hl, hb⟩, hx⟩ := op_bytes h
  have hnc := hb.rd.2.1
  have hr : reachBytes = 140737488351232 := rfl
  rcases hx with rfl | ⟨el, sp, e, hc⟩
  · omega
  · have := hw ((el.length + sp.length) * 1) (by
      rw [e]
      simp only [DataW.weights, Tryz.underlying38, bytesU8a]
      exact List.mem_cons_self)
    omega
theorem op_string {v : Value} {x : DataW H × List MemPlace} (h : DataW.trod enc Tryz.prog w 0 (fun _ => true) held fuel 9 [v] = some x) (hw : ∀ m ∈ x.1.weights Tryz.prog 9, m ≤ reachBytes) : ∃ s : ByteArray, v = .string s ∧ s.size ≤ 140737488351232 := by
  obtain ⟨s, hs, rfl, _⟩ := DataW.trod_string Tryz.underlying9 h
  refine ⟨s, by simpa using hs, ?_⟩
  have := hw s.data.toList.length (by simp [DataW.weights])
  simpa [reachBytes] using this
set_option maxRecDepth 20000 in
theorem op_wreck2 {v0 v1 : Value} {x : DataW H × List MemPlace} (h : DataW.trod enc Tryz.prog w 0 (fun _ => true) held fuel 25 [v0, v1] = some x) (hw : ∀ m ∈ x.1.weights Tryz.prog 25, m ≤ reachBytes) :
    ∃ (dir : Int) (A : Option Addr) (c : Nat) (l : List TornS), v0 = .int .i64 dir ∧ v1 = .slice A l.length c ∧ Is64 dir ∧ TRd w A l ∧ (∀ t ∈ l, Is64 t.writes ∧ Is64 t.bytes) ∧ l.length ≤ 140737488351232 := by
  obtain ⟨xs, n, _, hx, _, hxl, hf⟩ := DataW.trod_struct Tryz.underlying25 h
  match xs, hxl with
  | [y0, y1], _ =>
    have g0 := hf 0 _ rfl
    have g1 := hf 1 _ rfl
    simp [cellsIntA, cellsToS] at g0 g1
    obtain ⟨dir, rfl, hd⟩ := op_int g0
    obtain ⟨A, k, c, rfl⟩ := slice_shape Tryz.underlying23 g1
    obtain ⟨l, rfl, h1, h2, h3⟩ := op_torns g1
    refine ⟨dir, A, c, l, rfl, rfl, hd, h1, h2, torns_len g1 fun m hm => hw m ?_⟩
    rw [hx]
    simp only [DataW.weights, Tryz.underlying25]
    exact DataW.weights_mem_each (j := 1) rfl rfl m hm
set_option maxRecDepth 20000 in
theorem op_act {cs : List Value} {x : DataW H × List MemPlace} (hl : cs.length = 9) (h : DataW.trod enc Tryz.prog w 0 (fun _ => true) held fuel 64 cs = some x) (hw : ∀ m ∈ x.1.weights Tryz.prog 64, m ≤ reachBytes) :
    ∃ y : ActM, cs = y.cells ∧ y.Good w := by
  obtain ⟨xs, n, _, hx, _, hxl, hf⟩ := DataW.trod_struct Tryz.underlying64 h
  match xs, hxl, cs, hl with
  | [y0, y1, y2, y3, y4, y5, y6, y7], _, [v0, v1, v2, v3, v4, v5, v6, v7, v8], _ =>
    have g0 := hf 0 _ rfl
    have g1 := hf 1 _ rfl
    have g2 := hf 2 _ rfl
    have g3 := hf 3 _ rfl
    have g4 := hf 4 _ rfl
    have g5 := hf 5 _ rfl
    have g6 := hf 6 _ rfl
    have g7 := hf 7 _ rfl
    simp [cellsIntA, cellsByS, cellsWreck, cellsStrA] at g0 g1 g2 g3 g4 g5 g6 g7
    have hW : ∀ m ∈ DataW.weightsEach Tryz.prog [3, 9, 9, 3, 3, 3, 38, 25] [y0.1, y1.1, y2.1, y3.1, y4.1, y5.1, y6.1, y7.1], m ≤ reachBytes := fun m hm => hw m (by
      rw [hx]
      simp only [DataW.weights, Tryz.underlying64]
      exact hm)
    obtain ⟨k0, rfl, q0⟩ := op_int g0
    obtain ⟨s1, rfl, q1⟩ := op_string g1 (fun m hm => hW m (DataW.weights_mem_each (j := 1) rfl rfl m hm))
    obtain ⟨s2, rfl, q2⟩ := op_string g2 (fun m hm => hW m (DataW.weights_mem_each (j := 2) rfl rfl m hm))
    obtain ⟨k3, rfl, q3⟩ := op_int g3
    obtain ⟨k4, rfl, q4⟩ := op_int g4
    obtain ⟨k5, rfl, q5⟩ := op_int g5
    obtain ⟨A6, n6, c6, rfl⟩ := slice_shape Tryz.underlying38 g6
    have hl6 := bytes_len g6 (fun m hm => hW m (DataW.weights_mem_each (j := 6) rfl rfl m hm))
    obtain ⟨⟨data, rfl, hb6⟩, _⟩ := op_bytes g6
    obtain ⟨dir, At, ct, L, rfl, rfl, hd, h1, h2, h3⟩ := op_wreck2 g7 (fun m hm => hW m (DataW.weights_mem_each (j := 7) rfl rfl m hm))
    exact ⟨⟨k0, s1, s2, k3, k4, k5, A6, c6, data, dir, At, ct, L⟩, rfl, q1, q2, hl6, h3, q0, q3, q4, q5, hd, hb6, h1, h2⟩
set_option maxRecDepth 20000 in
theorem op_acts {A : Option Addr} {n c : Nat} {x : DataW H × List MemPlace} (h : DataW.trod enc Tryz.prog w 0 (fun _ => true) held fuel 22 [.slice A n c] = some x) (hw : ∀ m ∈ x.1.weights Tryz.prog 22, m ≤ reachBytes) :
    ∃ l : List ActM, l.length = n ∧ ARd w A l ∧ (∀ y ∈ l, y.Good w) ∧ n ≤ maxLen := by
  rcases Go.Deep.open_slice Tryz.underlying22 h with ⟨hcs, _⟩ | ⟨a, len, cap, m, k, D, Pl, hcs, _, hl, hm, hmm, rfl, hx⟩
  · simp at hcs
    obtain ⟨rfl, rfl, rfl⟩ := hcs
    exact ⟨[], rfl, (fun i hi => by simp at hi), by simp, Nat.zero_le _⟩
  · simp at hcs
    obtain ⟨rfl, rfl, rfl⟩ := hcs
    have hmn : n ≤ m := by rw [hmm]; split <;> omega
    have each : ∀ r : Fin n, ∃ y : ActM, (∀ j u, y.cells[j]? = some u → w.cell? ((a.add (r.val * 9)).add j) = some u) ∧ y.Good w := fun r => by
      obtain ⟨cs', h1, h2⟩ := hx r.val (by have := r.isLt; omega)
      rw [cellsAct] at h1
      obtain ⟨_, hlen, hcell⟩ := World.cells?_some h1
      obtain ⟨y, rfl, hy⟩ := op_act hlen h2 (fun q hq => hw q (by
        simp only [DataW.weights, Tryz.underlying22]
        exact List.mem_cons_of_mem _ (List.mem_append.2 (.inl (weights_all (List.mem_map.2 ⟨r.val, List.mem_range.2 r.isLt, rfl⟩) hq)))))
      refine ⟨y, fun j u hj => ?_, hy⟩
      obtain ⟨hlt, e⟩ := List.getElem?_eq_some_iff.1 hj
      rw [hcell j (by omega), hj]
    obtain ⟨Y, hY⟩ : ∃ Y : Fin n → ActM, ∀ r, (∀ j u, (Y r).cells[j]? = some u → w.cell? ((a.add (r.val * 9)).add j) = some u) ∧ (Y r).Good w := ⟨fun r => (each r).choose, fun r => (each r).choose_spec⟩
    clear each
    refine ⟨(List.finRange n).map Y, by simp, fun i hi => ?_, fun y hy => ?_, by omega⟩
    · have hin : i < n := by simpa using hi
      have h0 := (hY ⟨0, by omega⟩).1 0 _ rfl
      have h0' : w.cell? a = some (.int .i64 (Y ⟨0, by omega⟩).kind) := by
        have e : (a.add (0 * 9)).add 0 = a := by rw [Nat.zero_mul, add_zero, add_zero]
        rw [← e]; exact h0
      have hs := spot_of_cell h0'
      obtain ⟨b, o, s⟩ := a
      have hs' : s = none := hs.1
      subst hs'
      refine ⟨b, o, rfl, fun j u hj => ?_⟩
      have hj' : (Y ⟨i, hin⟩).cells[j]? = some u := by simpa using hj
      have := (hY ⟨i, hin⟩).1 j u hj'
      rw [add_lit, add_lit] at this
      exact this
    · obtain ⟨r, _, rfl⟩ := List.mem_map.1 hy
      exact (hY r).2
end
end Go.Proofs.YtlhhcoijkjcneaaGreat
