/- simfs: acts, opened. -/
import Derived.Test.YtdjamijbhaplgaaGreatGkaq
import Derived.Test.YtdjamijbhaplgaaGreatGkao
import Derived.Test.YtdjamijbhaplgaaGreatGkar
import Derived.Test.YtdjamijbhaplgaaGreatSimV
namespace Go.Proofs.YtdjamijbhaplgaaGreat
open Go.RowKit Go.ChangeShapes Go.WideShapes Go.ChangeAt

/-- An act where it lies. -/
structure ActM where
  kind : Int
  a : ByteArray
  b : ByteArray
  file : Int
  at_ : Int
  n : Int
  Ad : Option Addr
  cd : Nat
  data : List UInt8
  dir : Int
  At : Option Addr
  ct : Nat
  L : List TornS
def ActM.cells (y : ActM) : List Value := [.int .i64 y.kind, .string y.a, .string y.b, .int .i64 y.file, .int .i64 y.at_, .int .i64 y.n, .slice y.Ad y.data.length y.cd, .int .i64 y.dir, .slice y.At y.L.length y.ct]
def Is64 (x : Int) : Prop := -9223372036854775808 ≤ x ∧ x ≤ 9223372036854775807
structure ActM.Good (w : World) (y : ActM) : Prop where
  la : y.a.size ≤ 140737488351232
  lb : y.b.size ≤ 140737488351232
  ld : y.data.length ≤ 140737488351232
  lt : y.L.length ≤ 140737488351232
  kk : Is64 y.kind
  kf : Is64 y.file
  ka : Is64 y.at_
  kn : Is64 y.n
  kd : Is64 y.dir
  dat : Bts w (.slice y.Ad y.data.length y.cd) y.data
  torn : TRd w y.At y.L
  tb : ∀ t ∈ y.L, Is64 t.writes ∧ Is64 t.bytes
def ARd (w : World) (A : Option Addr) (l : List ActM) : Prop := ∀ i (h : i < l.length), ∃ g o, A = some ⟨g, o, none⟩ ∧ ∀ j u, (l[i]).cells[j]? = some u → w.cell? ⟨g, o + i * 9 + j, none⟩ = some u
theorem ARd.kept {w w' : World} {A : Option Addr} {l : List ActM} (h : ARd w A l) (k : Keeps NoB w w') : ARd w' A l := fun i hi => by
  obtain ⟨g, o, e, hc⟩ := h i hi
  exact ⟨g, o, e, fun j u hj => k.cell (hc j u hj) (fun f => f)⟩
theorem ActM.Good.kept {w w' : World} {y : ActM} (h : y.Good w) (k : Keeps NoB w w') : y.Good w' :=
  { h with dat := h.dat.keeps k (fun _ _ _ _ _ f => f), torn := h.torn.kept k }
theorem ARd.at_ {w : World} {A : Option Addr} {l : List ActM} (h : ARd w A l) (i : Nat) (hi : i < l.length) : ∃ g o, A = some ⟨g, o, none⟩ ∧ w.cell? ⟨g, o + i * 9, none⟩ = some (.int .i64 (l[i]).kind) ∧ w.cell? ⟨g, o + i * 9 + 1, none⟩ = some (.string (l[i]).a) ∧
    w.cell? ⟨g, o + i * 9 + 2, none⟩ = some (.string (l[i]).b) ∧ w.cell? ⟨g, o + i * 9 + 3, none⟩ = some (.int .i64 (l[i]).file) ∧ w.cell? ⟨g, o + i * 9 + 4, none⟩ = some (.int .i64 (l[i]).at_) ∧ w.cell? ⟨g, o + i * 9 + 5, none⟩ = some (.int .i64 (l[i]).n) ∧
    w.cell? ⟨g, o + i * 9 + 6, none⟩ = some (.slice (l[i]).Ad (l[i]).data.length (l[i]).cd) ∧ w.cell? ⟨g, o + i * 9 + 7, none⟩ = some (.int .i64 (l[i]).dir) ∧ w.cell? ⟨g, o + i * 9 + 8, none⟩ = some (.slice (l[i]).At (l[i]).L.length (l[i]).ct) := by
  obtain ⟨g, o, e, hc⟩ := h i hi
  exact ⟨g, o, e, hc 0 _ rfl, hc 1 _ rfl, hc 2 _ rfl, hc 3 _ rfl, hc 4 _ rfl, hc 5 _ rfl, hc 6 _ rfl, hc 7 _ rfl, hc 8 _ rfl⟩
theorem cellsStrA : Tryz.prog.cellsOf 9 = 1 := by kernel_rfl
theorem bytesTorn : Tryz.prog.bytesOf 94 = 24 := by kernel_rfl
theorem bytesU8a : Tryz.prog.bytesOf 5 = 1 := by kernel_rfl
section
variable {H : Type} {enc : TypeId × Value → H} {w : World} {held : Bool} {fuel : Nat}
theorem torns_len {A : Option Addr} {n c : Nat} {x : DataW H × List MemPlace} (h : DataW.trod enc Tryz.prog w 0 (fun _ => true) held fuel 34 [.slice A n c] = some x) (hw : ∀ m ∈ x.1.weights Tryz.prog 34, m ≤ reachBytes) : n ≤ 140737488351232 := by
  rcases Go.Deep.open_slice Tryz.underlying34 h with ⟨hcs, _⟩ | ⟨a, len, cap, m, k, D, Pl, hcs, _, hl, hm, hmm, rfl, hx⟩
  · simp at hcs
    obtain ⟨rfl, rfl, rfl⟩ := hcs
    exact Nat.zero_le _
  · simp at hcs
    obtain ⟨rfl, rfl, rfl⟩ := hcs
    have := hw (((List.range n).map D).length + ((List.range (m - n)).map fun j => D (n + j)).length |> (· * 24)) (by
      simp only [DataW.weights, Tryz.underlying34, bytesTorn]
      exact List.mem_cons_self)
    simp at this
    have hr : reachBytes = 140737488351232 := rfl
    omega
theorem bytes_len {A : Option Addr} {n c : Nat} {x : DataW H × List MemPlace} (h : DataW.trod enc Tryz.prog w 0 (fun _ => true) held fuel 49 [.slice A n c] = some x) (hw : ∀ m ∈ x.1.weights Tryz.prog 49, m ≤ reachBytes) : n ≤ 140737488351232 := by
  obtain ⟨⟨xs, hl, hb⟩, hx⟩ := op_bytes h
  have hnc := hb.rd.2.1
  have hr : reachBytes = 140737488351232 := rfl
  rcases hx with rfl | ⟨el, sp, e, hc⟩
  · omega
  · have := hw ((el.length + sp.length) * 1) (by
      rw [e]
      simp only [DataW.weights, Tryz.underlying49, bytesU8a]
      exact List.mem_cons_self)
    omega
theorem op_string {v : Value} {x : DataW H × List MemPlace} (h : DataW.trod enc Tryz.prog w 0 (fun _ => true) held fuel 9 [v] = some x) (hw : ∀ m ∈ x.1.weights Tryz.prog 9, m ≤ reachBytes) : ∃ s : ByteArray, v = .string s ∧ s.size ≤ 140737488351232 := by
  obtain ⟨s, hs, rfl, _⟩ := DataW.trod_string Tryz.underlying9 h
  refine ⟨s, by simpa using hs, ?_⟩
  have := hw s.data.toList.length (by simp [DataW.weights])
  simpa [reachBytes] using this
set_option maxRecDepth 20000 in
theorem op_wreck2 {v0 v1 : Value} {x : DataW H × List MemPlace} (h : DataW.trod enc Tryz.prog w 0 (fun _ => true) held fuel 36 [v0, v1] = some x) (hw : ∀ m ∈ x.1.weights Tryz.prog 36, m ≤ reachBytes) :
    ∃ (dir : Int) (A : Option Addr) (c : Nat) (l : List TornS), v0 = .int .i64 dir ∧ v1 = .slice A l.length c ∧ Is64 dir ∧ TRd w A l ∧ (∀ t ∈ l, Is64 t.writes ∧ Is64 t.bytes) ∧ l.length ≤ 140737488351232 := by
  obtain ⟨xs, n, _, hx, _, hxl, hf⟩ := DataW.trod_struct Tryz.underlying36 h
  match xs, hxl with
  | [y0, y1], _ =>
    have g0 := hf 0 _ rfl
    have g1 := hf 1 _ rfl
    simp [cellsIntA, cellsToS] at g0 g1
    obtain ⟨dir, rfl, hd⟩ := op_int g0
    obtain ⟨A, k, c, rfl⟩ := slice_shape Tryz.underlying34 g1
    obtain ⟨l, rfl, h1, h2, h3⟩ := op_torns g1
    refine ⟨dir, A, c, l, rfl, rfl, hd, h1, h2, torns_len g1 fun m hm => hw m ?_⟩
    rw [hx]
    simp only [DataW.weights, Tryz.underlying36]
    exact DataW.weights_mem_each (j := 1) rfl rfl m hm
end
end Go.Proofs.YtdjamijbhaplgaaGreat
namespace Go.Proofs.YtdjamijbhaplgaaGreat
open Go.RowKit

def ActM.weight (y : ActM) : Nat := y.data.length + y.a.size + y.b.size + y.L.length
def weightL (l : List ActM) : Nat := ((l.take 61).map ActM.weight).sum
def longL (l : List ActM) : Bool := decide (60 < l.length) || decide (20000 < weightL l)
theorem weight_take (l : List ActM) (k : Nat) (hk : k < l.length) : ((l.take (k + 1)).map ActM.weight).sum = ((l.take k).map ActM.weight).sum + (l[k]).weight := by
  rw [List.take_succ_eq_append_getElem hk, List.map_append, List.sum_append]; simp
theorem weight_le {w : World} {l : List ActM} (h : ∀ y ∈ l, y.Good w) (k : Nat) : ((l.take k).map ActM.weight).sum ≤ k * 562949953404928 := by
  induction k with
  | zero => simp
  | succ k ih =>
    by_cases hk : k < l.length
    · rw [weight_take l k hk]
      have g := h _ (List.getElem_mem hk)
      have := g.la; have := g.lb; have := g.ld; have := g.lt
      have : (l[k]).weight ≤ 562949953404928 := by unfold ActM.weight; omega
      omega
    · have e : l.take (k + 1) = l.take k := by rw [List.take_of_length_le (Nat.le_of_not_lt (fun h => hk (by omega))), List.take_of_length_le (Nat.le_of_not_lt hk)]
      rw [e]
      exact Nat.le_trans ih (Nat.mul_le_mul_right _ (Nat.le_succ k))
theorem longL_no {l : List ActM} (h : longL l = false) : l.length ≤ 60 ∧ ∀ y ∈ l, y.weight ≤ 20000 := by
  unfold longL at h
  rw [Bool.or_eq_false_iff] at h
  have h1 : ¬ 60 < l.length := of_decide_eq_false h.1
  have h2 : ¬ 20000 < weightL l := of_decide_eq_false h.2
  refine ⟨by omega, fun y hy => ?_⟩
  unfold weightL at h2
  rw [List.take_of_length_le (by omega)] at h2
  have := sum_ge (List.mem_map.2 ⟨y, hy, rfl⟩ : y.weight ∈ l.map ActM.weight)
  omega
end Go.Proofs.YtdjamijbhaplgaaGreat
namespace Go.Proofs.YtdjamijbhaplgaaGreat
open Go.RowKit Go.Maps Go.Lib

def mSame (x y : MoveS) : Bool := decide (x.kind = y.kind) && decide (x.a = y.a) && decide (x.b = y.b)
def mNone : MoveS := ⟨0, [], [], 0⟩
def mAll (xs ys : List MoveS) : Bool := decide (xs.length = ys.length) && (List.range xs.length).all fun i => mSame (xs.getD i mNone) (ys.getD i mNone)
theorem mSame_refl (x : MoveS) : mSame x x = true := by simp [mSame]
theorem mAll_refl (xs : List MoveS) : mAll xs xs = true := by simp [mAll, mSame_refl]
theorem getD_at {α : Type} {xs : List α} {d : α} {k : Nat} (h : k < xs.length) : xs.getD k d = xs[k] := by rw [List.getD_eq_getElem?_getD, List.getElem?_eq_getElem h]; rfl
end Go.Proofs.YtdjamijbhaplgaaGreat
