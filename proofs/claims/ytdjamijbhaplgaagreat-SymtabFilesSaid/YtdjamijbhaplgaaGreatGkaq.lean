/- simfs: arguments, opened: slices of torn files, wrecks, changes. -/
import Derived.Deep.SlicePairs
import Derived.Lib.Walk
import Derived.Test.YtdjamijbhaplgaaGreatGkag
import Derived.Test.YtdjamijbhaplgaaGreatSimV
import Derived.Test.YtdjamijbhaplgaaGreatGkaf
import Derived.Test.YtdjamijbhaplgaaGreatGkad
import Derived.Test.YtdjamijbhaplgaaGreatGkab
import Derived.Test.YtdjamijbhaplgaaGreatGkao
import Derived.Test.YtdjamijbhaplgaaGreatGkap
namespace Go.Proofs.YtdjamijbhaplgaaGreat
open Go.RowKit Go.ChangeShapes Go.WideShapes Go.ChangeAt

theorem cellsTorn : Tryz.prog.cellsOf 94 = 3 := by kernel_rfl
theorem cellsIntA : Tryz.prog.cellsOf 3 = 1 := by kernel_rfl
section
variable {H : Type} {enc : TypeId × Value → H} {w : World} {held : Bool} {fuel : Nat}
set_option maxRecDepth 20000 in
theorem op_torns {A : Option Addr} {n c : Nat} {x : DataW H × List MemPlace} (h : DataW.trod enc Tryz.prog w 0 (fun _ => true) held fuel 34 [.slice A n c] = some x) :
    ∃ l : List TornS, l.length = n ∧ TRd w A l ∧ (∀ t ∈ l, (-9223372036854775808 ≤ t.writes ∧ t.writes ≤ 9223372036854775807) ∧ (-9223372036854775808 ≤ t.bytes ∧ t.bytes ≤ 9223372036854775807)) ∧ n ≤ maxLen := by
  rcases Go.Deep.open_slice Tryz.underlying34 h with ⟨hcs, _⟩ | ⟨a, len, cap, m, k, D, Pl, hcs, _, hl, hm, hmm, _, hx⟩
  · simp at hcs
    obtain ⟨rfl, rfl, rfl⟩ := hcs
    exact ⟨[], rfl, (fun i hi => by simp at hi), by simp, Nat.zero_le _⟩
  · simp at hcs
    obtain ⟨rfl, rfl, rfl⟩ := hcs
    simp only [if_true] at hmm
    subst hmm
    have each : ∀ r : Fin n, ∃ y : TornS, w.cell? (a.add (r.val * 3)) = some (.int .i64 y.file) ∧ w.cell? (a.add (r.val * 3 + 1)) = some (.int .i64 y.writes) ∧ w.cell? (a.add (r.val * 3 + 2)) = some (.int .i64 y.bytes) ∧
        (Lit.int .i64 y.writes).wf = true ∧ (Lit.int .i64 y.bytes).wf = true := fun r => by
      obtain ⟨cs', h1, h2⟩ := hx r.val (by have := r.isLt; omega)
      rw [cellsTorn] at h1
      obtain ⟨_, hlen, hcell⟩ := World.cells?_some h1
      obtain ⟨xs, k', _, _, _, hxl, hf⟩ := DataW.trod_struct Tryz.underlying94 h2
      match xs, hxl, cs', hlen with
      | [y0, y1, y2], _, [v0, v1, v2], _ =>
        have g0 := hf 0 _ rfl
        have g1 := hf 1 _ rfl
        have g2 := hf 2 _ rfl
        simp [cellsIntA] at g0 g1 g2
        have e0 := hcell 0 (by omega)
        have e1 := hcell 1 (by omega)
        have e2 := hcell 2 (by omega)
        rw [Go.Deep.add_add] at e0 e1 e2
        simp at e0 e1 e2
        obtain ⟨x0, hx0, _, _⟩ := DataW.trod_int Tryz.underlying3 g0
        obtain ⟨x1, hx1, _, w1⟩ := DataW.trod_int Tryz.underlying3 g1
        obtain ⟨x2, hx2, _, w2⟩ := DataW.trod_int Tryz.underlying3 g2
        simp at hx0 hx1 hx2
        subst hx0 hx1 hx2
        exact ⟨⟨x0, x1, x2⟩, e0, e1, e2, w1, w2⟩
    obtain ⟨Y, hY⟩ : ∃ Y : Fin n → TornS, ∀ r, w.cell? (a.add (r.val * 3)) = some (.int .i64 (Y r).file) ∧ w.cell? (a.add (r.val * 3 + 1)) = some (.int .i64 (Y r).writes) ∧ w.cell? (a.add (r.val * 3 + 2)) = some (.int .i64 (Y r).bytes) ∧
        (Lit.int .i64 (Y r).writes).wf = true ∧ (Lit.int .i64 (Y r).bytes).wf = true := ⟨fun r => (each r).choose, fun r => (each r).choose_spec⟩
    clear each
    refine ⟨(List.finRange n).map Y, by simp, fun i hi => ?_, fun y hy => ?_, by omega⟩
    · have hin : i < n := by simpa using hi
      have h0 := (hY ⟨0, by omega⟩).1
      have h0' : w.cell? (a.add 0) = some (.int .i64 (Y ⟨0, by omega⟩).file) := by simpa using h0
      rw [add_zero] at h0'
      have hs := spot_of_cell h0'
      obtain ⟨b, o, s⟩ := a
      have hs' : s = none := hs.1
      subst hs'
      obtain ⟨g0, g1, g2, _, _⟩ := hY ⟨i, hin⟩
      rw [add_lit] at g0 g1 g2
      refine ⟨b, o, rfl, ?_, ?_, ?_⟩
      · rw [g0]; simp
      · rw [Nat.add_assoc, g1]; simp
      · rw [Nat.add_assoc, g2]; simp
    · obtain ⟨r, _, rfl⟩ := List.mem_map.1 hy
      obtain ⟨_, _, _, h1, h2⟩ := hY r
      have h1 := bounds_i64 h1
      have h2 := bounds_i64 h2
      omega
theorem slice_shape {t e : TypeId} (ht : Tryz.prog.underlying t = some (.slice e)) {v : Value} {x : DataW H × List MemPlace} (h : DataW.trod enc Tryz.prog w 0 (fun _ => true) held fuel t [v] = some x) : ∃ A n c, v = .slice A n c := by
  rcases DataW.trod_slice ht h with ⟨hcs, _⟩ | ⟨a, len, cap, _, _, _, _, hcs, _⟩
  · simp at hcs
    exact ⟨none, 0, 0, hcs⟩
  · simp at hcs
    exact ⟨some a, len, cap, hcs⟩
theorem op_int {v : Value} {x : DataW H × List MemPlace} (h : DataW.trod enc Tryz.prog w 0 (fun _ => true) held fuel 3 [v] = some x) : ∃ n : Int, v = .int .i64 n ∧ -9223372036854775808 ≤ n ∧ n ≤ 9223372036854775807 := by
  obtain ⟨n, hn, _, wn⟩ := DataW.trod_int Tryz.underlying3 h
  have hb := bounds_i64 wn
  exact ⟨n, by simpa using hn, hb.1, hb.2⟩
theorem cellsWreck : Tryz.prog.cellsOf 36 = 2 := by kernel_rfl
theorem cellsByS : Tryz.prog.cellsOf 49 = 1 := by kernel_rfl
theorem cellsToS : Tryz.prog.cellsOf 34 = 1 := by kernel_rfl
set_option maxRecDepth 20000 in
/-- A wreck of two cells. -/
theorem op_wreck {v0 v1 : Value} {x : DataW H × List MemPlace} (h : DataW.trod enc Tryz.prog w 0 (fun _ => true) held fuel 36 [v0, v1] = some x) :
    ∃ (dir : Int) (A : Option Addr) (c : Nat) (l : List TornS), v0 = .int .i64 dir ∧ v1 = .slice A l.length c ∧ (-9223372036854775808 ≤ dir ∧ dir ≤ 9223372036854775807) ∧ TRd w A l ∧
      (∀ t ∈ l, (-9223372036854775808 ≤ t.writes ∧ t.writes ≤ 9223372036854775807) ∧ (-9223372036854775808 ≤ t.bytes ∧ t.bytes ≤ 9223372036854775807)) ∧ l.length ≤ maxLen := by
  obtain ⟨xs, n, _, _, _, hxl, hf⟩ := DataW.trod_struct Tryz.underlying36 h
  match xs, hxl with
  | [y0, y1], _ =>
    have g0 := hf 0 _ rfl
    have g1 := hf 1 _ rfl
    simp [cellsIntA, cellsToS] at g0 g1
    obtain ⟨dir, rfl, hd⟩ := op_int g0
    obtain ⟨A, k, c, rfl⟩ := slice_shape Tryz.underlying34 g1
    obtain ⟨l, rfl, h1, h2, h3⟩ := op_torns g1
    exact ⟨dir, A, c, l, rfl, rfl, hd, h1, h2, h3⟩
end
end Go.Proofs.YtdjamijbhaplgaaGreat
namespace Go.Proofs.YtdjamijbhaplgaaGreat
open Go.RowKit Go.Lib
section
variable {P : Program} {w : World} {ops : Array Oper} {rest : List Oper} {o : Oper} {a : Act} {Q : Exit → Act → World → Prop}
/-- append([]byte{}, x...): a copy. -/
theorem app_lit0 (hgd : o.guard = none) (s x : Operand) (t e : TypeId) (z : Value) (bytes : Nat) (ho : o.op = .call { callee := .builtin .append, args := #[s, x], argTypes := #[t, t] })
    (ht : P.underlying t = some (.slice e)) (hi : (P.info? e).map (fun i => (i.zero, i.size, i.bytes)) = some (some z, 1, bytes)) (hzs : z.cells.size = 1)
    (g : Nat) (hg : g = w.heap.size) (hs : a.eval s = .slice (some ⟨g, 0, none⟩) 0 0)
    (B : Option Addr) (m c : Nat) (news : List Value) (hx : a.eval x = .slice B m c) (hl : news.length = m) (hnews : VRd w B news) (h1 : ∀ u ∈ news, u.oneCell' = true)
    (h63 : m ≤ 9223372036854775807) (hbytes : m * bytes ≤ 140737488355328)
    (h : ∀ A' c' w', OwnV w' e (.slice A' m c') news → Keeps NoB w w' → Fresh w (.slice A' m c') → wpList P ops Q rest (a.put o.dst (.slice A' m c')) w') : wpList P ops Q (o :: rest) a (w.alloc (.cells #[] e)) := by
  subst hg
  refine app_any hgd s x t e z bytes ho ht hi hzs _ [] hs (own_lit w e [] (by simp)) B m c news hx hl ((hnews.keeps ((Keeps.refl NoB w).alloc _) (fun _ _ _ _ f => f))) h1 (by simpa using h63) (by simpa using hbytes) ?_
  intro A' c' w' hO hK hG
  simp only [List.length_nil, Nat.zero_add, List.nil_append] at hO hK hG ⊢
  exact h A' c' w' hO (((Keeps.refl NoB w).alloc _).fresh (fresh_lit w _ _) hK) ((fresh_lit w 0 0).grew (w1 := w.alloc (.cells #[] e)) (by simp) hG)
end
end Go.Proofs.YtdjamijbhaplgaaGreat
namespace Go.Proofs.YtdjamijbhaplgaaGreat
open Go.RowKit Go.Maps Go.Lib

theorem tornFlat {l : List TornS} {j : Nat} (hj : j < l.length) (i : Nat) (hi : i < 3) : (l.flatMap tornCells)[j * 3 + i]? = (tornCells l[j])[i]? := by
  induction l generalizing j with
  | nil => simp at hj
  | cons d l ih =>
    rw [List.flatMap_cons]
    have hl : (tornCells d).length = 3 := rfl
    cases j with
    | zero => rw [List.getElem?_append_left (by omega)]; simp
    | succ j =>
      simp only [List.length_cons] at hj
      rw [List.getElem?_append_right (by omega), show (j + 1) * 3 + i - (tornCells d).length = j * 3 + i by omega]
      simpa using ih (by omega)
theorem tornFlat_len (l : List TornS) : (l.flatMap tornCells).length = l.length * 3 := by
  induction l with
  | nil => rfl
  | cons d l ih => rw [List.flatMap_cons, List.length_append, ih, show (tornCells d).length = 3 from rfl, List.length_cons]; omega
theorem infoTorn : (Tryz.prog.info? 94).map (fun i => (i.zero, i.size, i.bytes)) = some (some (.agg #[.int .i64 0, .int .i64 0, .int .i64 0]), 3, 24) := by kernel_rfl
/-- append([]api.Torn{}, l...): a copy. -/
theorem torn_copy (w : World) (A : Option Addr) (c : Nat) (l : List TornS) (hT : TRd w A l) (hn : l.length ≤ 4000000) :
    ∃ w' A' c', (Builtin.append_ #[34, 34] 34 #[.slice (some ⟨w.heap.size, 0, none⟩) 0 0, .slice A l.length c]).run Tryz.prog (w.alloc (.cells #[] 94)) = .ok (.slice A' l.length c') w' ∧ TRd w' A' l ∧ Keeps NoB w w' ∧
      ∀ g o sp, A' = some ⟨g, o, sp⟩ → w.heap.size ≤ g := by
  have hka : Keeps NoB w (w.alloc (.cells #[] 94)) := (Keeps.refl NoB w).alloc _
  have hown : OwnW (w.alloc (.cells #[] 94)) 94 3 (.slice (some ⟨w.heap.size, 0, none⟩) 0 0) 0 [] := ⟨by simp, .inr ⟨w.heap.size, 0, #[], rfl, Nat.zero_le _, heap_alloc_new w _, Nat.le_refl _, Nat.zero_le _, by simp, by simp⟩⟩
  obtain ⟨i0, hi', hz0, hz1, hz2⟩ := info_parts infoTorn
  cases A with
  | none =>
    have hl : l = [] := by
      cases l with
      | nil => rfl
      | cons t l => obtain ⟨b, o, e, _⟩ := hT 0 (by simp); cases e
    subst hl
    exact ⟨_, _, _, run_append_none _ _ _ _ i0 Tryz.underlying34 hi' _ 0 0 c (Nat.le_refl _), (fun i hi => by simp at hi), hka, fun g o sp e => by cases e; exact Nat.le_refl _⟩
  | some ad =>
    have hnews : ∀ j u, (l.flatMap tornCells)[j]? = some u → (w.alloc (.cells #[] 94)).cell? (ad.add j) = some u := fun j u hj => by
      have hlt : j < l.length * 3 := by rw [← tornFlat_len]; exact (List.getElem?_eq_some_iff.1 hj).1
      have hj3 : j / 3 < l.length := by omega
      have hji : j / 3 * 3 + j % 3 = j := by omega
      rw [← hji, tornFlat hj3 (j % 3) (Nat.mod_lt _ (by decide))] at hj
      obtain ⟨b, o, e, h0, h1, h2⟩ := hT.kept hka (j / 3) hj3
      cases e
      rw [add_lit, ← hji]
      have hm : j % 3 < 3 := Nat.mod_lt _ (by decide)
      generalize j % 3 = r at *
      match r, hm with
      | 0, _ => cases hj; exact h0
      | 1, _ => cases hj; exact h1
      | 2, _ => cases hj; exact h2
    obtain ⟨v', w', hr, h2, h3, _, h5⟩ := run_append_own_at (P := Tryz.prog) (w.alloc (.cells #[] 94)) 0 34 34 94 i0 _ 3 24 Tryz.underlying34 hi' hz0 hz1 hz2 rfl (by decide) _ 0 [] hown ad l.length c (l.flatMap tornCells) (tornFlat_len l) hnews
      (fun u hu => by
        obtain ⟨t, _, hu⟩ := List.mem_flatMap.1 hu
        simp only [tornCells, List.mem_cons, List.not_mem_nil, or_false] at hu
        rcases hu with rfl | rfl | rfl <;> rfl) (by unfold maxLen; omega) (by omega) (Nat.zero_le _)
    have h2' : OwnW w' 94 3 v' l.length (l.flatMap tornCells) := by
      rw [Nat.zero_add, List.nil_append] at h2
      exact h2
    obtain ⟨A', c', rfl, _⟩ := OwnW.slice h2'
    refine ⟨w', A', c', hr, fun i hi => ?_, (hka.trans (Keeps.of_grown h3 (fun b hb _ => hb)) (fun _ _ f => f) (fun i hi f => ?_)), fun g o sp e => ?_⟩
    · rcases h2'.2 with ⟨e, hn⟩ | ⟨g, cap, cur, e, hb, hg, r⟩
      · omega
      · cases e
        have hc := World.ownsRow.cells h2' (g := g) rfl
        have hcell : ∀ r u, r < 3 → (tornCells l[i])[r]? = some u → w'.cell? ⟨g, i * 3 + r, none⟩ = some u := fun r u hr hu => by
          have := hc (i * 3 + r) u (by rw [tornFlat hi r hr]; exact hu)
          rwa [add_lit, Nat.zero_add] at this
        refine ⟨g, 0, rfl, ?_, ?_, ?_⟩
        · have := hcell 0 _ (by decide) rfl
          simpa using this
        · have := hcell 1 _ (by decide) rfl
          simpa using this
        · have := hcell 2 _ (by decide) rfl
          simpa using this
    · have : i = w.heap.size := by simpa [ownB, Value.ownBlock] using f.symm
      omega
    · have hb : (Value.slice A' l.length c').ownBlock = some g ∨ A' = none := by
        subst e
        exact .inl rfl
      rcases h5 with h5 | h5
      · subst e
        simp [Value.ownBlock] at h5
        omega
      · subst e
        simp [Value.ownBlock] at h5
        have : (w.alloc (.cells #[] 94)).heap.size = w.heap.size + 1 := by
          show (w.heap.push _).size = _
          simp
        omega
section
variable {w0 w : World} {b N : Nat} {s : FSt}
theorem la_open (h : LiveAt w0 b s w) (S : ByteArray) (hS : S.size ≤ 9223372036854775807) :
    Calls Tryz.prog 41 #[.pointer (some ⟨b, 0, none⟩), .string S] w fun e w' => e = .returned (.tuple #[.int .i64 (s.opened S.data.toList).1, .int .i64 (s.opened S.data.toList).2]) ∧ Keeps NoB w w' := by
  obtain ⟨m, rfl, hi, ho, hk⟩ := h
  exact open_fs w m s hi S hS
/-- A crash, where the list of what is torn is newer than wx and the file system is not. -/
theorem la_crash2 {wx : World} (h : LiveAt w0 b s wx) (inv : Inv N s) (hN : N ≤ 900000000) (k : Keeps NoB wx w) (dir : Int) (hd0 : -9223372036854775808 ≤ dir) (hd1 : dir ≤ 9223372036854775807) (A : Option Addr) (c : Nat) (l : List TornS) (hl : l.length ≤ 4611686018427387904) (hT : TRd w A l)
    (hA : ∀ g o sp, A = some ⟨g, o, sp⟩ → wx.heap.size ≤ g) (hbd : ∀ t ∈ l, (-9223372036854775808 ≤ t.writes ∧ t.writes ≤ 9223372036854775807) ∧ (-9223372036854775808 ≤ t.bytes ∧ t.bytes ≤ 9223372036854775807)) :
    Calls Tryz.prog 8 #[.pointer (some ⟨b, 0, none⟩), .agg #[.int .i64 dir, .slice A l.length c]] w fun e w' => e = .returned (.tuple #[]) ∧ LiveAt w0 b (s.crash dir l) w' ∧ KeepU w w' := by
  obtain ⟨m, rfl, hi, ho, hk⟩ := h
  refine (crash_fs w m s N (hi.kept k) inv hN dir hd0 hd1 A c l hl hT (fun g o sp e _ hm => ?_) hbd).mono fun e w' ⟨he, hf⟩ => ⟨he, LiveAt.to (hi.kept k) ho (hk.then k) hf⟩
  have := FsMem.lt hi g hm
  have := hA g o sp e
  omega
end
end Go.Proofs.YtdjamijbhaplgaaGreat
namespace Go.Proofs.YtdjamijbhaplgaaGreat
open Go.RowKit Go.Maps Go.Lib
section
variable {P : Program} {w : World} {ops : Array Oper} {rest : List Oper} {o : Oper} {a : Act} {Q : Exit → Act → World → Prop}
/-- append([]T{}, x...) of structs: a copy. -/
theorem appw_lit0 (hgd : o.guard = none) (s x : Operand) (t e : TypeId) (z : Value) (size bytes : Nat) (ho : o.op = .call { callee := .builtin .append, args := #[s, x], argTypes := #[t, t] })
    (ht : P.underlying t = some (.slice e)) (hi : (P.info? e).map (fun i => (i.zero, i.size, i.bytes)) = some (some z, size, bytes)) (hzs : z.cells.size = size) (hsz : 0 < size)
    (g : Nat) (hg : g = w.heap.size) (hs : a.eval s = .slice (some ⟨g, 0, none⟩) 0 0)
    (ad : Addr) (m c : Nat) (news : List Value) (hx : a.eval x = .slice (some ad) m c) (hl : news.length = m * size) (hnews : ∀ j u, news[j]? = some u → w.cell? (ad.add j) = some u) (h1 : ∀ u ∈ news, u.oneCell' = true)
    (h63 : m ≤ 9223372036854775807) (hbytes : m * bytes ≤ 140737488355328)
    (h : ∀ A' c' w', OwnW w' e size (.slice A' m c') m news → Keeps NoB w w' → Fresh w (.slice A' m c') → wpList P ops Q rest (a.put o.dst (.slice A' m c')) w') : wpList P ops Q (o :: rest) a (w.alloc (.cells #[] e)) := by
  subst hg
  have hown : OwnW (w.alloc (.cells #[] e)) e size (.slice (some ⟨w.heap.size, 0, none⟩) 0 0) 0 [] := ⟨by simp, .inr ⟨w.heap.size, 0, #[], rfl, Nat.zero_le _, heap_alloc_new w _, Nat.le_refl _, Nat.zero_le _, by simp, by simp⟩⟩
  have hka : Keeps NoB w (w.alloc (.cells #[] e)) := (Keeps.refl NoB w).alloc _
  refine wpList_plain hgd fun K hK => ?_
  refine wp_app_w s x t e z size bytes ho ht hi hzs hsz _ 0 [] hs hown ad m c news hx hl (fun j u hj => hka.cell (hnews j u hj) (fun f => f)) h1 (by omega) (by simpa using hbytes) ?_
  intro A' c' w' hO hk hG
  rw [Nat.zero_add] at hO hG ⊢
  rw [List.nil_append] at hO
  exact hK _ _ (h A' c' w' hO (hka.fresh (fresh_lit w _ _) hk) ((fresh_lit w 0 0).grew (w1 := w.alloc (.cells #[] e)) hka.size hG))
end
theorem doneFlat_len (l : List DoneS) : (l.flatMap doneCells).length = l.length * 3 := by
  induction l with
  | nil => rfl
  | cons d l ih => rw [List.flatMap_cons, List.length_append, ih, show (doneCells d).length = 3 from rfl, List.length_cons]; omega
theorem moveFlat_len (l : List MoveS) : (l.flatMap moveCells).length = l.length * 4 := by
  induction l with
  | nil => rfl
  | cons d l ih => rw [List.flatMap_cons, List.length_append, ih, show (moveCells d).length = 4 from rfl, List.length_cons]; omega
theorem doneFlat_one (l : List DoneS) : ∀ u ∈ l.flatMap doneCells, u.oneCell' = true := fun u hu => by
  obtain ⟨t, _, hu⟩ := List.mem_flatMap.1 hu
  simp only [doneCells, List.mem_cons, List.not_mem_nil, or_false] at hu
  rcases hu with rfl | rfl | rfl <;> rfl
theorem moveFlat_one (l : List MoveS) : ∀ u ∈ l.flatMap moveCells, u.oneCell' = true := fun u hu => by
  obtain ⟨t, _, hu⟩ := List.mem_flatMap.1 hu
  simp only [moveCells, List.mem_cons, List.not_mem_nil, or_false] at hu
  rcases hu with rfl | rfl | rfl | rfl <;> rfl
end Go.Proofs.YtdjamijbhaplgaaGreat
namespace Go.Proofs.YtdjamijbhaplgaaGreat
open Go.RowKit Go.Maps Go.Lib

theorem flat_len {α : Type} {cells : α → List Value} {size : Nat} (hc : ∀ x, (cells x).length = size) (l : List α) : (l.flatMap cells).length = l.length * size := by
  induction l with
  | nil => simp
  | cons d l ih => rw [List.flatMap_cons, List.length_append, ih, hc, List.length_cons, Nat.add_mul]; omega
theorem flat_at {α : Type} {cells : α → List Value} {size : Nat} (hc : ∀ x, (cells x).length = size) {l : List α} {j : Nat} (hj : j < l.length) (i : Nat) (hi : i < size) : (l.flatMap cells)[j * size + i]? = (cells l[j])[i]? := by
  induction l generalizing j with
  | nil => simp at hj
  | cons d l ih =>
    rw [List.flatMap_cons]
    have hl := hc d
    cases j with
    | zero => rw [List.getElem?_append_left (by omega)]; simp
    | succ j =>
      simp only [List.length_cons] at hj
      have e : (j + 1) * size = j * size + size := Nat.succ_mul j size
      rw [List.getElem?_append_right (by omega), show (j + 1) * size + i - (cells d).length = j * size + i by omega]
      simpa using ih (by omega)
/-- The cells of an element of an owned row. -/
theorem OwnW.at_ {α : Type} {cells : α → List Value} {w : World} {e : TypeId} {size : Nat} {v : Value} {l : List α} (hc : ∀ x, (cells x).length = size) (h : OwnW w e size v l.length (l.flatMap cells)) {j : Nat} (hj : j < l.length) :
    ∃ g c, v = .slice (some ⟨g, 0, none⟩) l.length c ∧ ∀ i u, i < size → (cells l[j])[i]? = some u → w.cell? ⟨g, j * size + i, none⟩ = some u := by
  rcases h.2 with ⟨_, hn⟩ | ⟨g, cap, cur, rfl, hb, hg, r⟩
  · omega
  · have hcl := World.ownsRow.cells h (g := g) rfl
    refine ⟨g, cap, rfl, fun i u hi hu => ?_⟩
    have := hcl (j * size + i) u (by rw [flat_at hc hj i hi]; exact hu)
    rwa [add_lit, Nat.zero_add] at this
def entCells (e : List UInt8 × Nat) : List Value := [.string (sOf e.1), .int .i64 (e.2 : Nat)]
def ptrCells (f : Nat) : List Value := [.pointer (some ⟨f, 0, none⟩)]
def EntV (w : World) (v : Value) (d : Dir) : Prop := OwnW w 157 2 v d.length (d.flatMap entCells)
def RLogV (w : World) (v : Value) (l : List DoneS) : Prop := OwnW w 105 3 v l.length (l.flatMap doneCells)
def RMovV (w : World) (v : Value) (l : List MoveS) : Prop := OwnW w 98 4 v l.length (l.flatMap moveCells)
def PtrV (w : World) (v : Value) (l : List Nat) : Prop := OwnW w 99 1 v l.length (l.flatMap ptrCells)
theorem entV_nil (w : World) : EntV w (.slice none 0 0) [] := World.ownsRow_nil w 0 _ 2
theorem rlogV_nil (w : World) : RLogV w (.slice none 0 0) [] := World.ownsRow_nil w 0 _ 3
theorem rmovV_nil (w : World) : RMovV w (.slice none 0 0) [] := World.ownsRow_nil w 0 _ 4
theorem ptrV_nil (w : World) : PtrV w (.slice none 0 0) [] := World.ownsRow_nil w 0 _ 1
section
variable {w : World} {v : Value} {j : Nat}
theorem EntV.get {d : Dir} (h : EntV w v d) (hj : j < d.length) : ∃ g c, v = .slice (some ⟨g, 0, none⟩) d.length c ∧ w.cell? ⟨g, j * 2, none⟩ = some (.string (sOf (d[j]).1)) ∧ w.cell? ⟨g, j * 2 + 1, none⟩ = some (.int .i64 ((d[j]).2 : Nat)) := by
  obtain ⟨g, c, e, hc⟩ := OwnW.at_ (cells := entCells) (size := 2) (fun _ => rfl) h hj
  exact ⟨g, c, e, hc 0 _ (by decide) rfl, hc 1 _ (by decide) rfl⟩
theorem RLogV.get {l : List DoneS} (h : RLogV w v l) (hj : j < l.length) : ∃ g c, v = .slice (some ⟨g, 0, none⟩) l.length c ∧ w.cell? ⟨g, j * 3, none⟩ = some (.bool (l[j]).cut) ∧ w.cell? ⟨g, j * 3 + 1, none⟩ = some (.int .i64 ((l[j]).pos : Nat)) ∧ w.cell? ⟨g, j * 3 + 2, none⟩ = some (.string (sOf (l[j]).p)) := by
  obtain ⟨g, c, e, hc⟩ := OwnW.at_ (cells := doneCells) (size := 3) (fun _ => rfl) h hj
  exact ⟨g, c, e, hc 0 _ (by decide) rfl, hc 1 _ (by decide) rfl, hc 2 _ (by decide) rfl⟩
theorem RMovV.get {l : List MoveS} (h : RMovV w v l) (hj : j < l.length) : ∃ g c, v = .slice (some ⟨g, 0, none⟩) l.length c ∧ w.cell? ⟨g, j * 4, none⟩ = some (.int .u8 ((l[j]).kind : Nat)) ∧ w.cell? ⟨g, j * 4 + 1, none⟩ = some (.string (sOf (l[j]).a)) ∧
    w.cell? ⟨g, j * 4 + 2, none⟩ = some (.string (sOf (l[j]).b)) ∧ w.cell? ⟨g, j * 4 + 3, none⟩ = some (.int .i64 ((l[j]).n : Nat)) := by
  obtain ⟨g, c, e, hc⟩ := OwnW.at_ (cells := moveCells) (size := 4) (fun _ => rfl) h hj
  exact ⟨g, c, e, hc 0 _ (by decide) rfl, hc 1 _ (by decide) rfl, hc 2 _ (by decide) rfl, hc 3 _ (by decide) rfl⟩
theorem PtrV.get {l : List Nat} (h : PtrV w v l) (hj : j < l.length) : ∃ g c, v = .slice (some ⟨g, 0, none⟩) l.length c ∧ w.cell? ⟨g, j, none⟩ = some (.pointer (some ⟨l[j], 0, none⟩)) := by
  obtain ⟨g, c, e, hc⟩ := OwnW.at_ (cells := ptrCells) (size := 1) (fun _ => rfl) h hj
  have := hc 0 _ (by decide) rfl
  exact ⟨g, c, e, by simpa using this⟩
end
/-- Where a file of the document lies. -/
structure RF where
  fb : Nat
  lv : Value
def RF.O (f : RF) : Nat → Prop := fun k => k = f.fb ∨ f.lv.ownBlock = some k
structure IsRF (w : World) (f : RF) (n : Nat) (x : FileS) : Prop where
  blk : w.heap[f.fb]? = some (.cells #[.int .i64 (n : Nat), .string (sOf x.safe), f.lv, .string (sOf x.data)] 102 (0, 0))
  log : RLogV w f.lv x.log
theorem IsRF.keeps {F : Nat → Prop} {w w' : World} {f : RF} {n : Nat} {x : FileS} (h : IsRF w f n x) (k : Keeps F w w') (hF : ∀ i, f.O i → ¬ F i) : IsRF w' f n x :=
  ⟨k.obj h.blk (hF _ (.inl rfl)), OwnW.keeps h.log k (fun i hi => hF i (.inr hi))⟩
theorem IsRF.lt {w : World} {f : RF} {n : Nat} {x : FileS} (h : IsRF w f n x) : ∀ i, f.O i → i < w.heap.size := fun i hi => by
  rcases hi with rfl | hi
  · exact (Array.getElem?_eq_some_iff.1 h.blk).1
  · exact OwnW.lt h.log hi
/-- Where a file system of the document lies. -/
structure RMem where
  b : Nat
  fs : List RF
  fv : Value
  dv : Value
  sv : Value
  mv : Value
def RMem.O (m : RMem) : Nat → Prop := fun k => k = m.b ∨ m.fv.ownBlock = some k ∨ m.dv.ownBlock = some k ∨ m.sv.ownBlock = some k ∨ m.mv.ownBlock = some k ∨ ∃ f ∈ m.fs, f.O k
def rsCells (m : RMem) (s : FSt) : Array Value := #[m.fv, m.dv, m.sv, m.mv, .int .i64 s.cap, .int .i64 (s.ops : Nat), .int .i64 s.left, .bool s.off, .int .i64 0]
structure IsRS (w : World) (m : RMem) (s : FSt) : Prop where
  blk : w.heap[m.b]? = some (.cells (rsCells m s) 86 (0, 0))
  len : m.fs.length = s.F.length
  ptrs : PtrV w m.fv (m.fs.map (·.fb))
  file : ∀ i (h : i < m.fs.length), IsRF w m.fs[i] (i + 1) (s.F.getD i noFile)
  names : EntV w m.dv s.D
  safe : EntV w m.sv s.S
  moves : RMovV w m.mv s.M
  apart : ∀ i j (hi : i < m.fs.length) (hj : j < m.fs.length), i ≠ j → ∀ k, (m.fs[i]).O k → ¬ (m.fs[j]).O k
  dirs : ∀ k, m.dv.ownBlock = some k → m.sv.ownBlock ≠ some k
theorem IsRS.keeps {F : Nat → Prop} {w w' : World} {m : RMem} {s : FSt} (h : IsRS w m s) (k : Keeps F w w') (hF : ∀ i, m.O i → ¬ F i) : IsRS w' m s :=
  ⟨k.obj h.blk (hF _ (.inl rfl)), h.len, OwnW.keeps h.ptrs k (fun i hi => hF i (.inr (.inl hi))), fun i hi => (h.file i hi).keeps k (fun j hj => hF j (.inr (.inr (.inr (.inr (.inr ⟨_, List.getElem_mem hi, hj⟩)))))),
    OwnW.keeps h.names k (fun i hi => hF i (.inr (.inr (.inl hi)))), OwnW.keeps h.safe k (fun i hi => hF i (.inr (.inr (.inr (.inl hi))))), OwnW.keeps h.moves k (fun i hi => hF i (.inr (.inr (.inr (.inr (.inl hi)))))), h.apart, h.dirs⟩
theorem IsRS.kept {w w' : World} {m : RMem} {s : FSt} (h : IsRS w m s) (k : Keeps NoB w w') : IsRS w' m s := h.keeps k (fun _ _ f => f)
theorem RMem.lt {w : World} {m : RMem} {s : FSt} (h : IsRS w m s) : ∀ i, m.O i → i < w.heap.size := fun i hi => by
  rcases hi with rfl | hi | hi | hi | hi | ⟨f, hf, hi⟩
  · exact (Array.getElem?_eq_some_iff.1 h.blk).1
  · exact OwnW.lt h.ptrs hi
  · exact OwnW.lt h.names hi
  · exact OwnW.lt h.safe hi
  · exact OwnW.lt h.moves hi
  · obtain ⟨j, hj, rfl⟩ := List.getElem_of_mem hf
    exact (h.file j hj).lt i hi
theorem IsRF.kinds {w : World} {f : RF} {n : Nat} {x : FileS} (h : IsRF w f n x) : knd w f.fb = 102 + 1 ∧ ∀ i, f.lv.ownBlock = some i → knd w i = 105 + 1 := ⟨knd_cells h.blk, fun _ hi => OwnW.knd h.log hi⟩
theorem IsRS.kinds {w : World} {m : RMem} {s : FSt} (h : IsRS w m s) : knd w m.b = 86 + 1 ∧ (∀ i, m.fv.ownBlock = some i → knd w i = 99 + 1) ∧ (∀ i, m.dv.ownBlock = some i → knd w i = 157 + 1) ∧
    (∀ i, m.sv.ownBlock = some i → knd w i = 157 + 1) ∧ (∀ i, m.mv.ownBlock = some i → knd w i = 98 + 1) ∧ ∀ f ∈ m.fs, knd w f.fb = 102 + 1 ∧ ∀ i, f.lv.ownBlock = some i → knd w i = 105 + 1 :=
  ⟨knd_cells h.blk, fun _ hi => OwnW.knd h.ptrs hi, fun _ hi => OwnW.knd h.names hi, fun _ hi => OwnW.knd h.safe hi, fun _ hi => OwnW.knd h.moves hi, fun f hf => by
    obtain ⟨j, hj, rfl⟩ := List.getElem_of_mem hf
    exact (h.file j hj).kinds⟩
theorem RMem.notU8 {w : World} {m : RMem} {s : FSt} (h : IsRS w m s) : NotU8 w m.O := notU8_knd fun i hi => by
  obtain ⟨k0, k1, k2, k3, k4, k5⟩ := h.kinds
  rcases hi with rfl | hi | hi | hi | hi | ⟨f, hf, hi⟩
  · rw [k0]; decide
  · rw [k1 i hi]; decide
  · rw [k2 i hi]; decide
  · rw [k3 i hi]; decide
  · rw [k4 i hi]; decide
  · obtain ⟨a, b⟩ := k5 f hf
    rcases hi with rfl | hi
    · rw [a]; decide
    · rw [b i hi]; decide
theorem IsRS.c {w : World} {m : RMem} {s : FSt} (h : IsRS w m s) : w.cell? ⟨m.b, 0, none⟩ = some m.fv ∧ w.cell? ⟨m.b, 1, none⟩ = some m.dv ∧ w.cell? ⟨m.b, 2, none⟩ = some m.sv ∧ w.cell? ⟨m.b, 3, none⟩ = some m.mv ∧ w.cell? ⟨m.b, 4, none⟩ = some (.int .i64 s.cap) ∧
    w.cell? ⟨m.b, 5, none⟩ = some (.int .i64 (s.ops : Nat)) ∧ w.cell? ⟨m.b, 6, none⟩ = some (.int .i64 s.left) ∧ w.cell? ⟨m.b, 7, none⟩ = some (.bool s.off) ∧ w.cell? ⟨m.b, 8, none⟩ = some (.int .i64 0) :=
  ⟨blk_cell h.blk 0, blk_cell h.blk 1, blk_cell h.blk 2, blk_cell h.blk 3, blk_cell h.blk 4, blk_cell h.blk 5, blk_cell h.blk 6, blk_cell h.blk 7, blk_cell h.blk 8⟩
theorem IsRF.c {w : World} {f : RF} {n : Nat} {x : FileS} (h : IsRF w f n x) : w.cell? ⟨f.fb, 0, none⟩ = some (.int .i64 (n : Nat)) ∧ w.cell? ⟨f.fb, 1, none⟩ = some (.string (sOf x.safe)) ∧ w.cell? ⟨f.fb, 2, none⟩ = some f.lv ∧ w.cell? ⟨f.fb, 3, none⟩ = some (.string (sOf x.data)) :=
  ⟨blk_cell h.blk 0, blk_cell h.blk 1, blk_cell h.blk 2, blk_cell h.blk 3⟩
def RGrows (w : World) (m m' : RMem) : Prop := ∀ k, m'.O k → m.O k ∨ w.heap.size ≤ k
theorem RGrows.refl (w : World) (m : RMem) : RGrows w m m := fun _ h => .inl h
theorem RGrows.trans {w w' : World} {a b c : RMem} (h : RGrows w a b) (k : RGrows w' b c) (hs : w.heap.size ≤ w'.heap.size) : RGrows w a c := fun i hi => by
  rcases k i hi with h1 | h1
  · exact h i h1
  · exact .inr (Nat.le_trans hs h1)
/-- The file system of the document has become s'. -/
def RsTo (w : World) (m : RMem) (s' : FSt) (w' : World) : Prop := ∃ m', m'.b = m.b ∧ IsRS w' m' s' ∧ RGrows w m m' ∧ Keeps m.O w w'
theorem RsTo.same {w w' : World} {m : RMem} {s : FSt} (h : IsRS w m s) (k : Keeps NoB w w') : RsTo w m s w' := ⟨m, rfl, h.kept k, RGrows.refl w m, k.mono (fun _ _ f => f.elim)⟩
theorem RsTo.trans {w w1 w2 : World} {m m1 : RMem} {s2 : FSt} (hb : m1.b = m.b) (hg : RGrows w m m1) (hk : Keeps m.O w w1) (h : RsTo w1 m1 s2 w2) : RsTo w m s2 w2 := by
  obtain ⟨m2, hb2, hi, hg2, hk2⟩ := h
  exact ⟨m2, hb2.trans hb, hi, hg.trans hg2 hk.size, hk.trans hk2 (fun _ _ e => e) (fun i hi e => (hg i e).resolve_right (by omega))⟩
end Go.Proofs.YtdjamijbhaplgaaGreat
