/- The document's file system, plainly: places of names. -/
import Derived.Deep.RegionHeld3
import Derived.Deep.RegionLaw
import Derived.Deep.DeepCutAuto
import Derived.Laws.BitsLemmas
import Derived.Test.YtlhhcoijkjcneaaGreatSimX
import Derived.Test.YtlhhcoijkjcneaaGreatSimSb
import Derived.Test.YtlhhcoijkjcneaaGreatSimCl
import Derived.Test.YtlhhcoijkjcneaaGreatGc
import Derived.Test.YtlhhcoijkjcneaaGreatSimT
import Derived.Test.YtlhhcoijkjcneaaGreatGi
namespace Go.Proofs.YtlhhcoijkjcneaaGreat
open Go.RowKit

/-- The place of a name. -/
def atN (d : Dir) (a : List UInt8) : Option Nat := d.findIdx? (fun e => e.1 == a)
def atI (d : Dir) (a : List UInt8) : Int := match atN d a with
  | some i => (i : Int)
  | none => -1
theorem atN_cons (e : List UInt8 × Nat) (d : Dir) (a : List UInt8) : atN (e :: d) a = if e.1 = a then some 0 else (atN d a).map (· + 1) := by
  unfold atN
  rw [List.findIdx?_cons]
  by_cases h : e.1 = a
  · simp [h]
  · simp [h]
theorem atN_none {d : Dir} {a : List UInt8} (h : atN d a = none) : d.lookup a = none ∧ d.less a = d := by
  induction d with
  | nil => exact ⟨rfl, rfl⟩
  | cons e d ih =>
    rw [atN_cons] at h
    obtain ⟨k, n⟩ := e
    by_cases hk : k = a
    · rw [if_pos hk] at h; cases h
    · rw [if_neg hk] at h
      obtain ⟨h1, h2⟩ := ih (by simpa using h)
      refine ⟨?_, ?_⟩
      · rw [List.lookup_cons]
        have : (a == k) = false := by simp; exact fun e => hk e.symm
        rw [this]; exact h1
      · unfold Dir.less at *
        rw [List.filter_cons_of_pos (by simp [hk]), h2]
theorem atN_some {d : Dir} {a : List UInt8} {i : Nat} (h : atN d a = some i) : ∃ hi : i < d.length, (d[i]).1 = a ∧ d.lookup a = some (d[i]).2 := by
  induction d generalizing i with
  | nil => cases h
  | cons e d ih =>
    rw [atN_cons] at h
    obtain ⟨k, n⟩ := e
    by_cases hk : k = a
    · rw [if_pos hk] at h
      cases h
      subst hk
      exact ⟨by simp, rfl, by rw [List.lookup_cons]; simp⟩
    · rw [if_neg hk] at h
      obtain ⟨j, hj, rfl⟩ := Option.map_eq_some_iff.1 h
      obtain ⟨hi, h1, h2⟩ := ih hj
      refine ⟨by simp; exact hi, h1, ?_⟩
      rw [List.lookup_cons]
      have : (a == k) = false := by simp; exact fun e => hk e.symm
      rw [this]; exact h2
theorem atN_less {d : Dir} {a : List UInt8} {i : Nat} (h : atN d a = some i) (hd : (d.map (·.1)).Nodup) : d.less a = d.take i ++ d.drop (i + 1) := by
  induction d generalizing i with
  | nil => cases h
  | cons e d ih =>
    rw [atN_cons] at h
    obtain ⟨k, n⟩ := e
    simp only [List.map_cons, List.nodup_cons] at hd
    by_cases hk : k = a
    · rw [if_pos hk] at h
      cases h
      subst hk
      have hn : Dir.less d k = d := by
        unfold Dir.less
        rw [List.filter_eq_self]
        intro e he
        simp only [bne_iff_ne, ne_eq]
        exact fun h => hd.1 (List.mem_map.2 ⟨e, he, h⟩)
      have h0 : Dir.less ((k, n) :: d) k = Dir.less d k := by
        unfold Dir.less
        rw [List.filter_cons_of_neg (by simp)]
      rw [h0, hn]
      simp
    · rw [if_neg hk] at h
      obtain ⟨j, hj, rfl⟩ := Option.map_eq_some_iff.1 h
      have h0 : Dir.less ((k, n) :: d) a = (k, n) :: Dir.less d a := by
        unfold Dir.less
        rw [List.filter_cons_of_pos (by simp [hk])]
      rw [h0, ih hj hd.2]
      simp
theorem atN_iff {d : Dir} {a : List UInt8} : (atN d a).isSome = (d.lookup a).isSome := by
  cases h : atN d a with
  | none => rw [(atN_none h).1]
  | some i => obtain ⟨_, _, h2⟩ := atN_some h; rw [h2]; rfl
theorem atN_of {d : Dir} {a : List UInt8} {k : Nat} (hk : k < d.length) (he : (d[k]).1 = a) (hlt : ∀ j (hj : j < k), (d[j]'(by omega)).1 ≠ a) : atN d a = some k := by
  unfold atN
  rw [List.findIdx?_eq_some_iff_getElem]
  exact ⟨hk, by simp [he], fun j hj => by simp; exact hlt j hj⟩
theorem atN_no {d : Dir} {a : List UInt8} (h : ∀ j (hj : j < d.length), (d[j]).1 ≠ a) : atN d a = none := by
  unfold atN
  rw [List.findIdx?_eq_none_iff]
  intro e he
  obtain ⟨j, hj, rfl⟩ := List.getElem_of_mem he
  simpa using h j hj
theorem atI_some {d : Dir} {a : List UInt8} {i : Nat} (h : atN d a = some i) : atI d a = (i : Int) := by unfold atI; rw [h]
theorem atI_none {d : Dir} {a : List UInt8} (h : atN d a = none) : atI d a = -1 := by unfold atI; rw [h]
end Go.Proofs.YtlhhcoijkjcneaaGreat
namespace Go.Proofs.YtlhhcoijkjcneaaGreat
open Go.RowKit Go.Maps Go.Lib

theorem flat_len {α : Type} {cells : α → List Value} {size : Nat} (hc : ∀ x, (cells x).length = size) (l : List α) : (l.flatMap cells).length = l.length * size := by
  induction l with
  | nil => simp
  | cons d l ih => rw [List.flatMap_cons, List.length_append, ih, hc, List.length_cons, Nat.add_mul]; omega
theorem flat_at {α : Type} {cells : α → List Value} {size : Nat} (hc : ∀ x, (cells x).length = size) {l : List α} {j : Nat} (hj : j < l.length) (i : Nat) (hi : i < size) : (l.flatMap cells)[j * size + i]? = (cells l[j])[i]? := by
  induction l generalizing j with
  | nil => simp at hj
  | cons d l ih =>
    rw [List.flatMap_cons]
    have hl := hc d
    cases j with
    | zero => rw [List.getElem?_append_left (by omega)]; simp
    | succ j =>
      simp only [List.length_cons] at hj
      have e : (j + 1) * size = j * size + size := Nat.succ_mul j size
      rw [List.getElem?_append_right (by omega), show (j + 1) * size + i - (cells d).length = j * size + i by omega]
      simpa using ih (by omega)
/-- The cells of an element of an owned row. -/
theorem OwnW.at_ {α : Type} {cells : α → List Value} {w : World} {e : TypeId} {size : Nat} {v : Value} {l : List α} (hc : ∀ x, (cells x).length = size) (h : OwnW w e size v l.length (l.flatMap cells)) {j : Nat} (hj : j < l.length) :
    ∃ g c, v = .slice (some ⟨g, 0, none⟩) l.length c ∧ ∀ i u, i < size → (cells l[j])[i]? = some u → w.cell? ⟨g, j * size + i, none⟩ = some u := by
  rcases h.2 with ⟨_, hn⟩ | ⟨g, cap, cur, rfl, hb, hg, r⟩
  · omega
  · have hcl := World.ownsRow.cells h (g := g) rfl
    refine ⟨g, cap, rfl, fun i u hi hu => ?_⟩
    have := hcl (j * size + i) u (by rw [flat_at hc hj i hi]; exact hu)
    rwa [add_lit, Nat.zero_add] at this
def entCells (e : List UInt8 × Nat) : List Value := [.string (sOf e.1), .int .i64 (e.2 : Nat)]
def ptrCells (f : Nat) : List Value := [.pointer (some ⟨f, 0, none⟩)]
def EntV (w : World) (v : Value) (d : Dir) : Prop := OwnW w 101 2 v d.length (d.flatMap entCells)
def RLogV (w : World) (v : Value) (l : List DoneS) : Prop := OwnW w 94 3 v l.length (l.flatMap doneCells)
def RMovV (w : World) (v : Value) (l : List MoveS) : Prop := OwnW w 132 4 v l.length (l.flatMap moveCells)
def PtrV (w : World) (v : Value) (l : List Nat) : Prop := OwnW w 47 1 v l.length (l.flatMap ptrCells)
theorem entV_nil (w : World) : EntV w (.slice none 0 0) [] := World.ownsRow_nil w 0 _ 2
theorem rlogV_nil (w : World) : RLogV w (.slice none 0 0) [] := World.ownsRow_nil w 0 _ 3
theorem rmovV_nil (w : World) : RMovV w (.slice none 0 0) [] := World.ownsRow_nil w 0 _ 4
theorem ptrV_nil (w : World) : PtrV w (.slice none 0 0) [] := World.ownsRow_nil w 0 _ 1
section
variable {w : World} {v : Value} {j : Nat}
theorem EntV.get {d : Dir} (h : EntV w v d) (hj : j < d.length) : ∃ g c, v = .slice (some ⟨g, 0, none⟩) d.length c ∧ w.cell? ⟨g, j * 2, none⟩ = some (.string (sOf (d[j]).1)) ∧ w.cell? ⟨g, j * 2 + 1, none⟩ = some (.int .i64 ((d[j]).2 : Nat)) := by
  obtain ⟨g, c, e, hc⟩ := OwnW.at_ (cells := entCells) (size := 2) (fun _ => rfl) h hj
  exact ⟨g, c, e, hc 0 _ (by decide) rfl, hc 1 _ (by decide) rfl⟩
theorem RLogV.get {l : List DoneS} (h : RLogV w v l) (hj : j < l.length) : ∃ g c, v = .slice (some ⟨g, 0, none⟩) l.length c ∧ w.cell? ⟨g, j * 3, none⟩ = some (.bool (l[j]).cut) ∧ w.cell? ⟨g, j * 3 + 1, none⟩ = some (.int .i64 ((l[j]).pos : Nat)) ∧ w.cell? ⟨g, j * 3 + 2, none⟩ = some (.string (sOf (l[j]).p)) := by
  obtain ⟨g, c, e, hc⟩ := OwnW.at_ (cells := doneCells) (size := 3) (fun _ => rfl) h hj
  exact ⟨g, c, e, hc 0 _ (by decide) rfl, hc 1 _ (by decide) rfl, hc 2 _ (by decide) rfl⟩
theorem RMovV.get {l : List MoveS} (h : RMovV w v l) (hj : j < l.length) : ∃ g c, v = .slice (some ⟨g, 0, none⟩) l.length c ∧ w.cell? ⟨g, j * 4, none⟩ = some (.int .u8 ((l[j]).kind : Nat)) ∧ w.cell? ⟨g, j * 4 + 1, none⟩ = some (.string (sOf (l[j]).a)) ∧
    w.cell? ⟨g, j * 4 + 2, none⟩ = some (.string (sOf (l[j]).b)) ∧ w.cell? ⟨g, j * 4 + 3, none⟩ = some (.int .i64 ((l[j]).n : Nat)) := by
  obtain ⟨g, c, e, hc⟩ := OwnW.at_ (cells := moveCells) (size := 4) (fun _ => rfl) h hj
  exact ⟨g, c, e, hc 0 _ (by decide) rfl, hc 1 _ (by decide) rfl, hc 2 _ (by decide) rfl, hc 3 _ (by decide) rfl⟩
theorem PtrV.get {l : List Nat} (h : PtrV w v l) (hj : j < l.length) : ∃ g c, v = .slice (some ⟨g, 0, none⟩) l.length c ∧ w.cell? ⟨g, j, none⟩ = some (.pointer (some ⟨l[j], 0, none⟩)) := by
  obtain ⟨g, c, e, hc⟩ := OwnW.at_ (cells := ptrCells) (size := 1) (fun _ => rfl) h hj
  have := hc 0 _ (by decide) rfl
  exact ⟨g, c, e, by simpa using this⟩
end
/-- Where a file of the document lies. -/
structure RF where
  fb : Nat
  lv : Value
def RF.O (f : RF) : Nat → Prop := fun k => k = f.fb ∨ f.lv.ownBlock = some k
structure IsRF (w : World) (f : RF) (n : Nat) (x : FileS) : Prop where
  blk : w.heap[f.fb]? = some (.cells #[.int .i64 (n : Nat), .string (sOf x.safe), f.lv, .string (sOf x.data)] 46 (0, 0))
  log : RLogV w f.lv x.log
theorem IsRF.keeps {F : Nat → Prop} {w w' : World} {f : RF} {n : Nat} {x : FileS} (h : IsRF w f n x) (k : Keeps F w w') (hF : ∀ i, f.O i → ¬ F i) : IsRF w' f n x :=
  ⟨k.obj h.blk (hF _ (.inl rfl)), OwnW.keeps h.log k (fun i hi => hF i (.inr hi))⟩
theorem IsRF.lt {w : World} {f : RF} {n : Nat} {x : FileS} (h : IsRF w f n x) : ∀ i, f.O i → i < w.heap.size := fun i hi => by
  rcases hi with rfl | hi
  · exact (Array.getElem?_eq_some_iff.1 h.blk).1
  · exact OwnW.lt h.log hi
/-- Where a file system of the document lies. -/
structure RMem where
  b : Nat
  fs : List RF
  fv : Value
  dv : Value
  sv : Value
  mv : Value
def RMem.O (m : RMem) : Nat → Prop := fun k => k = m.b ∨ m.fv.ownBlock = some k ∨ m.dv.ownBlock = some k ∨ m.sv.ownBlock = some k ∨ m.mv.ownBlock = some k ∨ ∃ f ∈ m.fs, f.O k
def rsCells (m : RMem) (s : FSt) : Array Value := #[m.fv, m.dv, m.sv, m.mv, .int .i64 s.cap, .int .i64 (s.ops : Nat), .int .i64 s.left, .bool s.off, .int .i64 0]
structure IsRS (w : World) (m : RMem) (s : FSt) : Prop where
  blk : w.heap[m.b]? = some (.cells (rsCells m s) 37 (0, 0))
  len : m.fs.length = s.F.length
  ptrs : PtrV w m.fv (m.fs.map (·.fb))
  file : ∀ i (h : i < m.fs.length), IsRF w m.fs[i] (i + 1) (s.F.getD i noFile)
  names : EntV w m.dv s.D
  safe : EntV w m.sv s.S
  moves : RMovV w m.mv s.M
  apart : ∀ i j (hi : i < m.fs.length) (hj : j < m.fs.length), i ≠ j → ∀ k, (m.fs[i]).O k → ¬ (m.fs[j]).O k
  dirs : ∀ k, m.dv.ownBlock = some k → m.sv.ownBlock ≠ some k
theorem IsRS.keeps {F : Nat → Prop} {w w' : World} {m : RMem} {s : FSt} (h : IsRS w m s) (k : Keeps F w w') (hF : ∀ i, m.O i → ¬ F i) : IsRS w' m s :=
  ⟨k.obj h.blk (hF _ (.inl rfl)), h.len, OwnW.keeps h.ptrs k (fun i hi => hF i (.inr (.inl hi))), fun i hi => (h.file i hi).keeps k (fun j hj => hF j (.inr (.inr (.inr (.inr (.inr ⟨_, List.getElem_mem hi, hj⟩)))))),
    OwnW.keeps h.names k (fun i hi => hF i (.inr (.inr (.inl hi)))), OwnW.keeps h.safe k (fun i hi => hF i (.inr (.inr (.inr (.inl hi))))), OwnW.keeps h.moves k (fun i hi => hF i (.inr (.inr (.inr (.inr (.inl hi)))))), h.apart, h.dirs⟩
theorem IsRS.kept {w w' : World} {m : RMem} {s : FSt} (h : IsRS w m s) (k : Keeps NoB w w') : IsRS w' m s := h.keeps k (fun _ _ f => f)
theorem RMem.lt {w : World} {m : RMem} {s : FSt} (h : IsRS w m s) : ∀ i, m.O i → i < w.heap.size := fun i hi => by
  rcases hi with rfl | hi | hi | hi | hi | ⟨f, hf, hi⟩
  · exact (Array.getElem?_eq_some_iff.1 h.blk).1
  · exact OwnW.lt h.ptrs hi
  · exact OwnW.lt h.names hi
  · exact OwnW.lt h.safe hi
  · exact OwnW.lt h.moves hi
  · obtain ⟨j, hj, rfl⟩ := List.getElem_of_mem hf
    exact (h.file j hj).lt i hi
theorem IsRF.kinds {w : World} {f : RF} {n : Nat} {x : FileS} (h : IsRF w f n x) : knd w f.fb = 46 + 1 ∧ ∀ i, f.lv.ownBlock = some i → knd w i = 94 + 1 := ⟨knd_cells h.blk, fun _ hi => OwnW.knd h.log hi⟩
theorem IsRS.kinds {w : World} {m : RMem} {s : FSt} (h : IsRS w m s) : knd w m.b = 37 + 1 ∧ (∀ i, m.fv.ownBlock = some i → knd w i = 47 + 1) ∧ (∀ i, m.dv.ownBlock = some i → knd w i = 101 + 1) ∧
    (∀ i, m.sv.ownBlock = some i → knd w i = 101 + 1) ∧ (∀ i, m.mv.ownBlock = some i → knd w i = 132 + 1) ∧ ∀ f ∈ m.fs, knd w f.fb = 46 + 1 ∧ ∀ i, f.lv.ownBlock = some i → knd w i = 94 + 1 :=
  ⟨knd_cells h.blk, fun _ hi => OwnW.knd h.ptrs hi, fun _ hi => OwnW.knd h.names hi, fun _ hi => OwnW.knd h.safe hi, fun _ hi => OwnW.knd h.moves hi, fun f hf => by
    obtain ⟨j, hj, rfl⟩ := List.getElem_of_mem hf
    exact (h.file j hj).kinds⟩
theorem RMem.notU8 {w : World} {m : RMem} {s : FSt} (h : IsRS w m s) : NotU8 w m.O := notU8_knd fun i hi => by
  obtain ⟨k0, k1, k2, k3, k4, k5⟩ := h.kinds
  rcases hi with rfl | hi | hi | hi | hi | ⟨f, hf, hi⟩
  · rw [k0]; decide
  · rw [k1 i hi]; decide
  · rw [k2 i hi]; decide
  · rw [k3 i hi]; decide
  · rw [k4 i hi]; decide
  · obtain ⟨a, b⟩ := k5 f hf
    rcases hi with rfl | hi
    · rw [a]; decide
    · rw [b i hi]; decide
theorem IsRS.c {w : World} {m : RMem} {s : FSt} (h : IsRS w m s) : w.cell? ⟨m.b, 0, none⟩ = some m.fv ∧ w.cell? ⟨m.b, 1, none⟩ = some m.dv ∧ w.cell? ⟨m.b, 2, none⟩ = some m.sv ∧ w.cell? ⟨m.b, 3, none⟩ = some m.mv ∧ w.cell? ⟨m.b, 4, none⟩ = some (.int .i64 s.cap) ∧
    w.cell? ⟨m.b, 5, none⟩ = some (.int .i64 (s.ops : Nat)) ∧ w.cell? ⟨m.b, 6, none⟩ = some (.int .i64 s.left) ∧ w.cell? ⟨m.b, 7, none⟩ = some (.bool s.off) ∧ w.cell? ⟨m.b, 8, none⟩ = some (.int .i64 0) :=
  ⟨blk_cell h.blk 0, blk_cell h.blk 1, blk_cell h.blk 2, blk_cell h.blk 3, blk_cell h.blk 4, blk_cell h.blk 5, blk_cell h.blk 6, blk_cell h.blk 7, blk_cell h.blk 8⟩
theorem IsRF.c {w : World} {f : RF} {n : Nat} {x : FileS} (h : IsRF w f n x) : w.cell? ⟨f.fb, 0, none⟩ = some (.int .i64 (n : Nat)) ∧ w.cell? ⟨f.fb, 1, none⟩ = some (.string (sOf x.safe)) ∧ w.cell? ⟨f.fb, 2, none⟩ = some f.lv ∧ w.cell? ⟨f.fb, 3, none⟩ = some (.string (sOf x.data)) :=
  ⟨blk_cell h.blk 0, blk_cell h.blk 1, blk_cell h.blk 2, blk_cell h.blk 3⟩
def RGrows (w : World) (m m' : RMem) : Prop := ∀ k, m'.O k → m.O k ∨ w.heap.size ≤ k
theorem RGrows.refl (w : World) (m : RMem) : RGrows w m m := fun _ h => .inl h
theorem RGrows.trans {w w' : World} {a b c : RMem} (h : RGrows w a b) (k : RGrows w' b c) (hs : w.heap.size ≤ w'.heap.size) : RGrows w a c := fun i hi => by
  rcases k i hi with h1 | h1
  · exact h i h1
  · exact .inr (Nat.le_trans hs h1)
/-- The file system of the document has become s'. -/
def RsTo (w : World) (m : RMem) (s' : FSt) (w' : World) : Prop := ∃ m', m'.b = m.b ∧ IsRS w' m' s' ∧ RGrows w m m' ∧ Keeps m.O w w'
theorem RsTo.same {w w' : World} {m : RMem} {s : FSt} (h : IsRS w m s) (k : Keeps NoB w w') : RsTo w m s w' := ⟨m, rfl, h.kept k, RGrows.refl w m, k.mono (fun _ _ f => f.elim)⟩
theorem RsTo.trans {w w1 w2 : World} {m m1 : RMem} {s2 : FSt} (hb : m1.b = m.b) (hg : RGrows w m m1) (hk : Keeps m.O w w1) (h : RsTo w1 m1 s2 w2) : RsTo w m s2 w2 := by
  obtain ⟨m2, hb2, hi, hg2, hk2⟩ := h
  exact ⟨m2, hb2.trans hb, hi, hg.trans hg2 hk.size, hk.trans hk2 (fun _ _ e => e) (fun i hi e => (hg i e).resolve_right (by omega))⟩
end Go.Proofs.YtlhhcoijkjcneaaGreat
namespace Go.Proofs.YtlhhcoijkjcneaaGreat
open Go.RowKit Go.Maps Go.Lib

theorem ba_toList (S : ByteArray) : S.toList = S.data.toList := ByteArray.toList_eq S
set_option maxHeartbeats 1000000 in
set_option maxRecDepth 100000 in
theorem rat_any (w : World) (v : Value) (d : Dir) (h : EntV w v d) (hl : d.length ≤ 9223372036854775807) (S : ByteArray) :
    Calls Tryz.prog 79 #[v, .string S] w fun e w' => e = .returned (.int .i64 (atI d S.data.toList)) ∧ Keeps NoB w w' := by
  have H := Sd.mk h
  obtain ⟨A, c, hv, _, _⟩ := OwnW.slice h
  subst hv
  clear h
  go_enter Tryz.func79, Tryz.ntmps79
  go_wp2_with fail
  go_loopg [5] d.length (fun gk i wr => ∃ (k : Nat), gk + k = d.length ∧ i = .int .i64 k ∧ Sd (∀ j (hj : j < k) (hd : j < d.length), (d[j]).1 ≠ S.data.toList) ∧ Sd (Keeps NoB w wr))
  case atStart => exact ⟨0, by omega, rfl, ⟨fun j hj => by omega⟩, ⟨Keeps.refl _ _⟩⟩
  case round =>
    obtain ⟨k, hk, rfl, HN, HK⟩ := hrel
    by_cases hlt : k < d.length
    · have hq1 : (k : Int) < (d.length : Int) := by omega
      have hq0 : (0 : Int) ≤ (k : Int) := by omega
      obtain ⟨g, cc, e, c0, c1⟩ := EntV.get (OwnW.keeps H.o HK.o (fun _ _ f => f)) hlt
      cases e
      by_cases he : (d[k]).1 = S.data.toList
      · have HA : Sd (atI d S.data.toList = (k : Int)) := ⟨atI_some (atN_of hlt he (fun j hj => HN.o j hj (by omega)))⟩
        have hb : ((sOf (d[k]).1).toList == S.toList) = true := by rw [sOf_toL, ba_toList, he]; simp
        clear he
        go_wp2
        go_ret
        exact ⟨by rw [HA.o]; rfl, HK.o⟩
      · have hb : ((sOf (d[k]).1).toList == S.toList) = false := by rw [sOf_toL, ba_toList]; simpa using he
        have HN2 : Sd (∀ j (hj : j < k + 1) (hd : j < d.length), (d[j]).1 ≠ S.data.toList) := ⟨fun j hj hd => by
          by_cases hjk : j < k
          · exact HN.o j hjk hd
          · have : j = k := by omega
            subst this
            exact he⟩
        clear he
        go_wp2
        go_roundg (gk - 1)
        case measure => omega
        case rel => exact ⟨k + 1, by omega, by go_num, HN2, HK⟩
    · have hq1 : ¬ (k : Int) < (d.length : Int) := by omega
      have HA : Sd (atI d S.data.toList = -1) := ⟨atI_none (atN_no fun j hj => HN.o j (by omega) hj)⟩
      go_wp2
      go_ret
      exact ⟨by rw [HA.o]; rfl, HK.o⟩
theorem sOf_drop (p : List UInt8) (k n : Nat) (hn : p.length ≤ n) : (sOf p).extract k n = sOf (p.drop k) := by
  apply ByteArray.ext
  apply Array.ext'
  simp only [sOf, ByteArray.data_extract, Array.toList_extract]
  rw [List.extract_eq_take_drop, List.take_of_length_le (by rw [List.length_drop]; simp; omega)]
theorem sOf_append (p q : List UInt8) : sOf p ++ sOf q = sOf (p ++ q) := by
  apply ByteArray.ext
  simp [sOf]
set_option maxHeartbeats 1000000 in
set_option maxRecDepth 100000 in
theorem rdone_any (w : World) (p : List UInt8) (x : DoneS) (n : Nat) (hp : p.length ≤ 70368744177664) (hx : x.p.length ≤ 70368744177664) (hpos : x.pos ≤ p.length) (hn : n ≤ x.p.length) :
    Calls Tryz.prog 84 #[.string (sOf p), .agg #[.bool x.cut, .int .i64 (x.pos : Nat), .string (sOf x.p)], .int .i64 (n : Nat)] w fun e w' => e = .returned (.string (sOf (doneOn p { x with p := x.p.take n }))) ∧ Keeps NoB w w' := by
  obtain ⟨cut, pos, q⟩ := x
  dsimp only at *
  have s1 := sOf_size p
  have s2 := sOf_size q
  have f2 : (w.alloc (.cells #[.bool cut, .int .i64 (pos : Nat), .string (sOf q)] 94)).heap.size = w.heap.size + 1 := by show (w.heap.push _).size = _; simp
  have HK : Sd (Keeps NoB w (w.alloc (.cells #[.bool cut, .int .i64 (pos : Nat), .string (sOf q)] 94))) := ⟨(Keeps.refl NoB w).alloc _⟩
  have e1 : (sOf p).extract 0 pos = sOf (p.take pos) := sOf_take p pos
  have e2 : (sOf q).extract 0 n = sOf (q.take n) := sOf_take q n
  have s3 : (sOf (q.take n)).size = n := by rw [sOf_size, List.length_take]; omega
  have e3 : sOf (p.take pos) ++ sOf (q.take n) = sOf (p.take pos ++ q.take n) := sOf_append _ _
  have s4 : (sOf (p.take pos)).size = pos := by rw [sOf_size, List.length_take]; omega
  have s5 : (sOf (p.take pos ++ q.take n)).size = pos + n := by rw [sOf_size, List.length_append, List.length_take, List.length_take]; omega
  have s6 : (sOf (p.drop (pos + n))).size = p.length - (pos + n) := by rw [sOf_size, List.length_drop]
  have e5 : (sOf p).extract (pos + n) p.length = sOf (p.drop (pos + n)) := sOf_drop p (pos + n) p.length (Nat.le_refl _)
  have e6 : sOf (p.take pos ++ q.take n) ++ sOf (p.drop (pos + n)) = sOf (p.take pos ++ q.take n ++ p.drop (pos + n)) := sOf_append _ _
  cases cut with
  | true =>
    go_enter Tryz.func84, Tryz.ntmps84
    go_wp2
    go_ret
    exact ⟨rfl, HK.o⟩
  | false =>
    by_cases hc : p.length ≤ pos + n
    · have HR : Sd (sOf (p.take pos ++ q.take n) = sOf (doneOn p ⟨false, pos, q.take n⟩)) := ⟨by
        unfold doneOn
        simp only [Bool.false_eq_true, if_false]
        rw [List.drop_of_length_le (by rw [List.length_take]; omega), List.append_nil]⟩
      have hq1 : (p.length : Int) ≤ (pos : Int) + (n : Int) := by omega
      go_enter Tryz.func84, Tryz.ntmps84
      go_wp2
      go_ret
      exact ⟨by rw [← HR.o]; rfl, HK.o⟩
    · have hq1 : ¬ (p.length : Int) ≤ (pos : Int) + (n : Int) := by omega
      have HR : Sd (sOf (p.take pos ++ q.take n ++ p.drop (pos + n)) = sOf (doneOn p ⟨false, pos, q.take n⟩)) := ⟨by
        unfold doneOn
        simp only [Bool.false_eq_true, if_false]
        rw [show (q.take n).length = n by rw [List.length_take]; omega]⟩
      have hq2 : (pos : Int) + (n : Int) ≤ (p.length : Int) := by omega
      have hq3 : (0 : Int) ≤ (pos : Int) + (n : Int) := by omega
      have hq4 : ((pos : Int) + (n : Int)).toNat = pos + n := by omega
      go_enter Tryz.func84, Tryz.ntmps84
      go_wp2_with fail
      go_region
      go_wp2
      go_ret
      exact ⟨by rw [← HR.o, List.append_assoc]; rfl, HK.o.drew⟩
end Go.Proofs.YtlhhcoijkjcneaaGreat
namespace Go.Proofs.YtlhhcoijkjcneaaGreat
open Go.RowKit Go.Maps Go.Lib

theorem flowAt_append {P : Program} {R : World → World → Prop} {o : Oper} {a : Act} {w w' : World} {out : Value → World → Prop} (s x : Operand) (t : TypeId) (ho : o.op = .call { callee := .builtin .append, args := #[s, x], argTypes := #[t, t] })
    {vs vx v' : Value} (hs : a.eval s = vs) (hx : a.eval x = vx) (hr : (Builtin.append_ #[t, t] o.type #[vs, vx]).run P w = .ok v' w') (h : R w w' ∧ out v' w') : flowAt P o a R w out := by
  unfold flowAt execOp
  simp only [ho, resolve, invoke, builtin, Sem.run_bind, Sem.run_pure, Result.andThen_ok, List.map_toArray, List.map_cons, List.map_nil, hs, hx, hr]
  exact h
/-- append of structs onto an owned row, as an equation. -/
theorem appw_run {P : Program} {w : World} (t e ty : TypeId) (z : Value) (size bytes : Nat) (ht : P.underlying t = some (.slice e)) (hi : (P.info? e).map (fun i => (i.zero, i.size, i.bytes)) = some (some z, size, bytes)) (hzs : z.cells.size = size) (hsz : 0 < size)
    (v : Value) (n : Nat) (xs : List Value) (hown : OwnW w e size v n xs) (B : Option Addr) (m c : Nat) (news : List Value) (hl : news.length = m * size) (hnews : ∀ j u, news[j]? = some u → ∃ ad, B = some ad ∧ w.cell? (ad.add j) = some u) (h1 : ∀ u ∈ news, u.oneCell' = true)
    (h63 : n + m ≤ 9223372036854775807) (hbytes : (n + m) * bytes ≤ 140737488355328) :
    ∃ A' c' w', (Builtin.append_ #[t, t] ty #[v, .slice B m c]).run P w = .ok (.slice A' (n + m) c') w' ∧ OwnW w' e size (.slice A' (n + m) c') (n + m) (xs ++ news) ∧ Keeps (ownB v) w w' ∧ Grew w v (.slice A' (n + m) c') := by
  obtain ⟨i0, hi', hz0, hz1, hz2⟩ := info_parts hi
  cases B with
  | some ad =>
    obtain ⟨v', w', hr, h2, h3, _, h5⟩ := run_append_own_at (P := P) w 0 t ty e i0 z size bytes ht hi' hz0 hz1 hz2 hzs hsz v n xs hown ad m c news hl (fun j u hj => by obtain ⟨ad', e, hc⟩ := hnews j u hj; cases e; exact hc) h1 (by unfold maxLen; omega) hbytes (Nat.zero_le _)
    obtain ⟨A', c', rfl, _⟩ := OwnW.slice h2
    refine ⟨A', c', w', hr, h2, Keeps.of_grown h3 (fun b hb _ => hb), fun k hk => ?_⟩
    rcases h5 with h5 | h5
    · rw [h5] at hk; exact .inl hk
    · rw [h5] at hk; cases hk; exact .inr (Nat.le_refl _)
  | none =>
    have hm : news = [] := by
      cases news with
      | nil => rfl
      | cons u l => obtain ⟨ad, e, _⟩ := hnews 0 u rfl; cases e
    subst hm
    have hm0 : m = 0 := by
      rcases Nat.eq_zero_or_pos m with h | h
      · exact h
      · have := Nat.mul_pos h hsz
        simp at hl
        omega
    subst hm0
    obtain ⟨A, cc, rfl, hnc, _⟩ := OwnW.slice hown
    exact ⟨A, cc, w, run_append_none (P := P) w t ty e i0 ht hi' A n cc c hnc, by simpa using hown, Keeps.refl _ _, Grew.refl _ _⟩
theorem slice_to {P : Program} {t e : TypeId} {i : TypeInfo} (ht : P.underlying t = some (.slice e)) (hi : P.info? e = some i) (g n c k : Nat) (hk : k ≤ c) (W : World) : (Instr.slice t (.slice (some ⟨g, 0, none⟩) n c) none (some (.int .i64 (k : Int))) none).run P W = .ok (.slice (some ⟨g, 0, none⟩) k c) W := by
  have hel : P.elem t = e := by simp [Program.elem, ht]
  have hu : P.underlying t = some (.slice (P.elem t)) := by rw [hel]; exact ht
  rw [run_slice_h W t (some ⟨g, 0, none⟩) n c hu .i64 ((k : Nat) : Int) (by omega) (by omega), hel]
  simp [sizeOf, typeInfo, hi, sliced, Result.andThen, add_lit]
theorem slice_from {P : Program} {t e : TypeId} {i : TypeInfo} {size : Nat} (ht : P.underlying t = some (.slice e)) (hi : P.info? e = some i) (hs : i.size = size) (g n c k : Nat) (hk : k ≤ n) (W : World) : (Instr.slice t (.slice (some ⟨g, 0, none⟩) n c) (some (.int .i64 (k : Int))) none none).run P W = .ok (.slice (if c = k then some ⟨g, 0, none⟩ else some ⟨g, k * size, none⟩) (n - k) (c - k)) W := by
  have hel : P.elem t = e := by simp [Program.elem, ht]
  have hu : P.underlying t = some (.slice (P.elem t)) := by rw [hel]; exact ht
  rw [run_slice_l W t (some ⟨g, 0, none⟩) n c hu .i64 ((k : Nat) : Int) (by omega) (by omega), hel]
  simp [sizeOf, typeInfo, hi, sliced, Result.andThen, add_lit, hs]
theorem infoEntry : (Tryz.prog.info? 101).map (fun i => (i.zero, i.size, i.bytes)) = some (some (.agg #[.string ⟨#[]⟩, .int .i64 0]), 2, 24) := by kernel_rfl
theorem entFlat_one (l : Dir) : ∀ u ∈ l.flatMap entCells, u.oneCell' = true := fun u hu => by
  obtain ⟨t, _, hu⟩ := List.mem_flatMap.1 hu
  simp only [entCells, List.mem_cons, List.not_mem_nil, or_false] at hu
  rcases hu with rfl | rfl <;> rfl
theorem entFlat_len (l : Dir) : (l.flatMap entCells).length = l.length * 2 := flat_len (size := 2) (fun _ => rfl) l
/-- A row made anew by append([]T{}, ..). -/
theorem ownW_lit (w : World) (e : TypeId) (size : Nat) : OwnW (w.alloc (.cells #[] e)) e size (.slice (some ⟨w.heap.size, 0, none⟩) 0 0) 0 [] :=
  ⟨by simp, .inr ⟨w.heap.size, 0, #[], rfl, Nat.zero_le _, heap_alloc_new w _, Nat.le_refl _, Nat.zero_le _, by simp, by simp⟩⟩
def rwJ (W0 W1 W2 W3 : World) : Nat → World → Prop
  | 0, w => w = W0
  | 1, w => w = W1
  | 2, w => w = W2
  | _, w => w = W3
set_option maxHeartbeats 2000000 in
set_option maxRecDepth 100000 in
theorem rwithout_any (w : World) (v : Value) (d : Dir) (h : EntV w v d) (hl : d.length ≤ 100000000) (i : Nat) (hi : i < d.length) :
    Calls Tryz.prog 97 #[v, .int .i64 (i : Nat)] w fun e w' => ∃ v', e = .returned v' ∧ EntV w' v' (d.take i ++ d.drop (i + 1)) ∧ Fresh w v' ∧ Keeps NoB w w' := by
  obtain ⟨g, c, rfl, _⟩ := OwnW.at_ (cells := entCells) (size := 2) (fun _ => rfl) h hi
  have hcl := World.ownsRow.cells h (g := g) rfl
  obtain ⟨A', c', hv, hnc, _⟩ := OwnW.slice h
  cases hv
  obtain ⟨i0, hi', hz0, hz1, hz2⟩ := info_parts infoEntry
  have hs1 := fun W => slice_to (P := Tryz.prog) Tryz.underlying34 hi' g d.length c i (by omega) W
  have hs2 := fun W => slice_from (P := Tryz.prog) Tryz.underlying34 hi' hz1 g d.length c (i + 1) (by omega) W
  rw [show ((i + 1 : Nat) : Int) = (i : Int) + 1 from rfl] at hs2
  obtain ⟨B, hB⟩ : ∃ B : Option Addr, B = if c = i + 1 then some ⟨g, 0, none⟩ else some ⟨g, (i + 1) * 2, none⟩ := ⟨_, rfl⟩
  rw [← hB] at hs2
  have hwr : IntKind.i64.wrap ((i : Int) + 1) = (i : Int) + 1 := by rw [IntKind.wrap_i64]; omega
  obtain ⟨W0, hW0⟩ : ∃ W0, W0 = w.drew := ⟨_, rfl⟩
  have hk0 : Keeps NoB w W0 := by rw [hW0]; exact (Keeps.refl NoB w).drew
  have hk1 : Keeps NoB W0 (W0.alloc (.cells #[] 101)) := (Keeps.refl NoB W0).alloc _
  have hfl : ∀ j u, (d.flatMap entCells)[j]? = some u → w.cell? ⟨g, j, none⟩ = some u := fun j u hj => by
    have := hcl j u hj
    rwa [add_lit, Nat.zero_add] at this
  obtain ⟨A2, c2, W2, hr2, ho2, hk2, hg2⟩ := appw_run (P := Tryz.prog) (w := W0.alloc (.cells #[] 101)) 34 101 34 _ 2 24 Tryz.underlying34 infoEntry rfl (by decide) _ 0 [] (ownW_lit W0 _ 2)
    (some ⟨g, 0, none⟩) i c ((d.take i).flatMap entCells) (by rw [entFlat_len, List.length_take]; omega) (fun j u hj => ⟨_, rfl, by
      have hj2 : j < (d.take i).length * 2 := by
        rw [← entFlat_len]; exact (List.getElem?_eq_some_iff.1 hj).1
      rw [add_lit, Nat.zero_add]
      refine hk1.cell (hk0.cell (hfl j u ?_) (fun f => f)) (fun f => f)
      have e : d.flatMap entCells = (d.take i).flatMap entCells ++ (d.drop i).flatMap entCells := by rw [← List.flatMap_append, List.take_append_drop]
      rw [e, List.getElem?_append_left (by rw [entFlat_len]; exact hj2)]
      exact hj⟩) (entFlat_one _) (by omega) (by omega)
  rw [Nat.zero_add] at hr2 ho2 hg2
  rw [List.nil_append] at ho2
  have hk02 : Keeps NoB W0 W2 := hk1.fresh (fresh_lit W0 _ _) hk2
  obtain ⟨A3, c3, W3, hr3, ho3, hk3, hg3⟩ := appw_run (P := Tryz.prog) (w := W2) 34 101 34 _ 2 24 Tryz.underlying34 infoEntry rfl (by decide) _ i _ ho2
    B (d.length - (i + 1)) (c - (i + 1)) ((d.drop (i + 1)).flatMap entCells) (by rw [entFlat_len, List.length_drop]) (fun j u hj => by
      have hj2 : j < (d.drop (i + 1)).length * 2 := by
        rw [← entFlat_len]; exact (List.getElem?_eq_some_iff.1 hj).1
      rw [List.length_drop] at hj2
      rw [hB, if_neg (by omega)]
      refine ⟨_, rfl, ?_⟩
      rw [add_lit]
      refine hk02.cell (hk0.cell (hfl _ u ?_) (fun f => f)) (fun f => f)
      have e : d.flatMap entCells = (d.take (i + 1)).flatMap entCells ++ (d.drop (i + 1)).flatMap entCells := by rw [← List.flatMap_append, List.take_append_drop]
      have hl1 : ((d.take (i + 1)).flatMap entCells).length = (i + 1) * 2 := by rw [entFlat_len, List.length_take]; omega
      rw [e, List.getElem?_append_right (by omega), hl1, show (i + 1) * 2 + j - (i + 1) * 2 = j by omega]
      exact hj) (entFlat_one _) (by omega) (by omega)
  have hf2 : Fresh W0 (.slice A2 i c2) := (fresh_lit W0 0 0).grew (w1 := W0.alloc (.cells #[] 101)) hk1.size hg2
  have hk03 : Keeps NoB W0 W3 := hk02.fresh hf2 hk3
  have hf3 : Fresh W0 (.slice A3 (i + (d.length - (i + 1))) c3) := hf2.grew hk02.size hg3
  have HO : Sd (EntV W3 (.slice A3 (i + (d.length - (i + 1))) c3) (d.take i ++ d.drop (i + 1))) := ⟨by
    unfold EntV
    rw [List.flatMap_append, List.length_append, List.length_take, List.length_drop, Nat.min_eq_left (by omega)]
    exact ho3⟩
  have HK : Sd (Keeps NoB w W3) := ⟨hk0.then hk03⟩
  have HF : Sd (Fresh w (.slice A3 (i + (d.length - (i + 1))) c3)) := ⟨fun k hk => Nat.le_trans hk0.size (hf3 k hk)⟩
  have HW0 := Sd.mk hW0
  have hil : (i : Int) ≤ (d.length : Int) := by omega
  clear h hcl hfl hk0 hk1 hk2 hk3 hg2 hg3 ho2 ho3 hk02 hf2 hk03 hf3 hi' hz0 hz1 hz2 hW0 hB
  go_enter Tryz.func97, Tryz.ntmps97
  go_upto_region 1 with fail
  refine wp_region_chain (J := rwJ W0 (W0.alloc (.cells #[] 101)) W2 W3) (R := fun _ _ => True) [0, 4, 9] (fun _ => trivial) (by kernel_rfl) (by kernel_rfl) (by kernel_rfl) HW0.o.symm ?_
  apply chain_step 0 (.slice (some ⟨W0.heap.size, 0, none⟩) 0 0)
  · intro _; kernel_rfl
  · rfl
  · intro ss wx hJ hF
    clear hF
    have hJ' : wx = W0 := hJ
    subst hJ'
    unfold flowAt
    go_simp
    exact ⟨trivial, rfl, rfl⟩
  intro K hK
  go_simp
  refine hK _ ?_
  clear hK K
  apply chain_const
  · intro _; kernel_rfl
  · rfl
  · intro ss wx n hJ hF
    clear hF
    unfold flowAt
    go_simp
    exact ⟨trivial, rfl, hJ⟩
  intro K hK
  go_simp
  refine hK _ ?_
  clear hK K
  apply chain_const
  · intro _; kernel_rfl
  · rfl
  · intro ss wx n hJ hF
    clear hF
    unfold flowAt
    go_simp
    exact ⟨trivial, rfl, hJ⟩
  intro K hK
  go_simp
  refine hK _ ?_
  clear hK K
  apply chain_const
  · intro _; kernel_rfl
  · rfl
  · intro ss wx n hJ hF
    clear hF
    unfold flowAt
    go_simp
    exact ⟨trivial, rfl, hJ⟩
  intro K hK
  go_simp
  refine hK _ ?_
  clear hK K
  apply chain_step 1 (.slice A2 i c2)
  · intro _; kernel_rfl
  · rfl
  · intro ss wx hJ hF
    clear hF
    have hJ' : wx = W0.alloc (.cells #[] 101) := hJ
    subst hJ'
    exact flowAt_append _ _ 34 rfl rfl rfl hr2 ⟨trivial, rfl, rfl⟩
  intro K hK
  go_simp
  refine hK _ ?_
  clear hK K
  apply chain_const
  · intro _; kernel_rfl
  · rfl
  · intro ss wx n hJ hF
    clear hF
    unfold flowAt
    go_simp
    exact ⟨trivial, rfl, hJ⟩
  intro K hK
  go_simp
  refine hK _ ?_
  clear hK K
  apply chain_const
  · intro _; kernel_rfl
  · rfl
  · intro ss wx n hJ hF
    clear hF
    unfold flowAt
    go_simp
    exact ⟨trivial, rfl, hJ⟩
  intro K hK
  go_simp
  refine hK _ ?_
  clear hK K
  apply chain_const
  · intro _; kernel_rfl
  · rfl
  · intro ss wx n hJ hF
    clear hF
    unfold flowAt
    go_simp
    exact ⟨trivial, rfl, hJ⟩
  intro K hK
  go_simp
  refine hK _ ?_
  clear hK K
  apply chain_const
  · intro _; kernel_rfl
  · rfl
  · intro ss wx n hJ hF
    clear hF
    unfold flowAt
    go_simp
    exact ⟨trivial, rfl, hJ⟩
  intro K hK
  go_simp
  refine hK _ ?_
  clear hK K
  apply chain_step 2 (.slice A3 (i + (d.length - (i + 1))) c3)
  · intro _; kernel_rfl
  · rfl
  · intro ss wx hJ hF
    clear hF
    have hJ' : wx = W2 := hJ
    subst hJ'
    exact flowAt_append _ _ 34 rfl rfl rfl hr3 ⟨trivial, rfl, rfl⟩
  intro K hK
  go_simp
  refine hK _ ?_
  clear hK K
  apply chain_const
  · intro _; kernel_rfl
  · rfl
  · intro ss wx n hJ hF
    clear hF
    unfold flowAt
    go_simp
    exact ⟨trivial, rfl, hJ⟩
  intro K hK
  go_simp
  refine hK _ ?_
  clear hK K
  apply chain_nil
  intro s2 w6 hJ6 hF
  have hJ' : w6 = W3 := hJ6
  subst hJ'
  clear hF hJ6
  go_simp
  go_wp2
  go_ret
  exact ⟨_, rfl, HO.o, HF.o, HK.o⟩
end Go.Proofs.YtlhhcoijkjcneaaGreat
