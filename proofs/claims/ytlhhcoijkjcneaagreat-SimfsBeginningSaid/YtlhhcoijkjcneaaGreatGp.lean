/- simfs: a file system in memory. -/
import Derived.Test.YtlhhcoijkjcneaaGreatGb
namespace Go.Proofs.YtlhhcoijkjcneaaGreat
open Go.RowKit Go.Maps

/-- Bytes that lie in a row of bytes. -/
def RowU (w : World) (v : Value) (xs : List UInt8) : Prop := Bts w v xs ∧ ∀ a n c, v = .slice (some a) n c → 0 < c → ∃ cur h, w.heap[a.block]? = some (.cells cur 5 h)
/-- No block of F is a row of bytes. -/
def NotU8 (w : World) (F : Nat → Prop) : Prop := ∀ k, F k → ∀ cur h, w.heap[k]? ≠ some (.cells cur 5 h)
theorem NotU8.noB (w : World) : NotU8 w NoB := fun _ f => f.elim
theorem RowU.keeps {F : Nat → Prop} {w w' : World} {v : Value} {xs : List UInt8} (h : RowU w v xs) (k : Keeps F w w') (hF : NotU8 w F) : RowU w' v xs := by
  have hn : ∀ a n c, v = .slice (some a) n c → 0 < c → ¬ F a.block := fun a n c e hc f => by
    obtain ⟨cur, q, hb⟩ := h.2 a n c e hc
    exact hF _ f _ _ hb
  refine ⟨h.1.keeps k (fun a n c e hc => hn a n c e hc), fun a n c e hc => ?_⟩
  obtain ⟨cur, q, hb⟩ := h.2 a n c e hc
  exact ⟨cur, q, k.obj hb (hn a n c e hc)⟩
theorem RowU.nil (w : World) : RowU w (.slice none 0 0) [] := ⟨⟨none, 0, rfl, Nat.le_refl _, Nat.zero_le _, fun _ => rfl, fun h => absurd h (by decide), fun i hi => by simp at hi⟩, fun a n c e _ => by cases e⟩

def doneCells (d : DoneS) : List Value := [.bool d.cut, .int .i64 d.pos, .string (sOf d.p)]
def moveCells (m : MoveS) : List Value := [.int .u8 m.kind, .string (sOf m.a), .string (sOf m.b), .int .i64 m.n]
/-- An owned row of values of more cells. -/
def OwnW (w : World) (e : TypeId) (size : Nat) (v : Value) (n : Nat) (xs : List Value) : Prop := w.ownsRow 0 e size v n xs
theorem OwnW.keeps {F : Nat → Prop} {w w' : World} {e : TypeId} {size n : Nat} {v : Value} {xs : List Value} (h : OwnW w e size v n xs) (k : Keeps F w w') (hF : Off F v) : OwnW w' e size v n xs := by
  obtain ⟨h1, h2⟩ := h
  refine ⟨h1, ?_⟩
  rcases h2 with h2 | ⟨g, cap, cur, rfl, hb, hg, r⟩
  · exact .inl h2
  · exact .inr ⟨g, cap, cur, rfl, hb, k.obj hg (hF g rfl), r⟩
theorem OwnW.blk {w : World} {e : TypeId} {size n : Nat} {v : Value} {xs : List Value} (h : OwnW w e size v n xs) {k : Nat} (hk : v.ownBlock = some k) : ∃ cur, w.heap[k]? = some (.cells cur e (0, 0)) := by
  rcases h.2 with ⟨rfl, _⟩ | ⟨g, cap, cur, rfl, hb, hg, r⟩
  · simp [Value.ownBlock] at hk
  · simp [Value.ownBlock] at hk
    subst hk
    exact ⟨cur, hg⟩
theorem OwnW.lt {w : World} {e : TypeId} {size n : Nat} {v : Value} {xs : List Value} (h : OwnW w e size v n xs) {k : Nat} (hk : v.ownBlock = some k) : k < w.heap.size := by
  obtain ⟨cur, hb⟩ := h.blk hk
  exact (Array.getElem?_eq_some_iff.1 hb).1
theorem OwnW.slice {w : World} {e : TypeId} {size n : Nat} {v : Value} {xs : List Value} (h : OwnW w e size v n xs) : ∃ A c, v = .slice A n c ∧ n ≤ c ∧ c ≤ maxLen := by
  rcases h.2 with ⟨rfl, rfl⟩ | ⟨g, cap, cur, rfl, hb, hg, h1, h2, r⟩
  · exact ⟨none, 0, rfl, Nat.le_refl _, Nat.zero_le _⟩
  · exact ⟨_, _, rfl, h1, h2⟩
def LogV (w : World) (v : Value) (l : List DoneS) : Prop := OwnW w 104 3 v l.length (l.flatMap doneCells)
def MovesV (w : World) (v : Value) (l : List MoveS) : Prop := OwnW w 81 4 v l.length (l.flatMap moveCells)
theorem logV_nil (w : World) : LogV w (.slice none 0 0) [] := World.ownsRow_nil w 0 _ 3
theorem movesV_nil (w : World) : MovesV w (.slice none 0 0) [] := World.ownsRow_nil w 0 _ 4

/-- Where a file lies: its block, its three slices. -/
structure FMem where
  fb : Nat
  dv : Value
  sv : Value
  lv : Value
def FMem.O (f : FMem) : Nat → Prop := fun k => k = f.fb ∨ f.lv.ownBlock = some k
structure IsFile (w : World) (f : FMem) (x : FileS) : Prop where
  blk : w.heap[f.fb]? = some (.cells #[f.dv, f.sv, f.lv] 91 (0, 0))
  dat : RowU w f.dv x.data
  saf : RowU w f.sv x.safe
  log : LogV w f.lv x.log
theorem IsFile.keeps {F : Nat → Prop} {w w' : World} {f : FMem} {x : FileS} (h : IsFile w f x) (k : Keeps F w w') (hF : ∀ i, f.O i → ¬ F i) (hu : NotU8 w F) : IsFile w' f x :=
  ⟨k.obj h.blk (hF _ (.inl rfl)), h.dat.keeps k hu, h.saf.keeps k hu, h.log.keeps k (fun i hi => hF i (.inr hi))⟩
theorem IsFile.lt {w : World} {f : FMem} {x : FileS} (h : IsFile w f x) : ∀ i, f.O i → i < w.heap.size := fun i hi => by
  rcases hi with rfl | hi
  · exact (Array.getElem?_eq_some_iff.1 h.blk).1
  · exact h.log.lt hi
/-- Where a file system lies. -/
structure FsMem where
  b : Nat
  mf : Nat
  mn : Nat
  ms : Nat
  g : Nat → Option FMem
  mv : Value
def FsMem.O (m : FsMem) : Nat → Prop := fun k => k = m.b ∨ k = m.mf ∨ k = m.mn ∨ k = m.ms ∨ m.mv.ownBlock = some k ∨ ∃ n f, m.g n = some f ∧ f.O k
def fsCells (m : FsMem) (s : FSt) : Array Value := #[.map (some m.mf), .int .i64 (s.F.length : Nat), .map (some m.mn), .map (some m.ms), m.mv, .int .i64 s.cap, .int .i64 (s.ops : Nat), .int .i64 s.left, .bool s.off]
structure IsFS (w : World) (m : FsMem) (s : FSt) : Prop where
  blk : w.heap[m.b]? = some (.cells (fsCells m s) 79 (0, 0))
  files : MapF w m.mf (s.F.length + 4096) (fun n => (m.g n).map (·.fb))
  names : MapN w m.mn s.D
  safe : MapN w m.ms s.S
  moves : MovesV w m.mv s.M
  file : ∀ n f, m.g n = some f → 1 ≤ n ∧ n ≤ s.F.length ∧ IsFile w f (s.file n)
  apart : ∀ n n' f f', m.g n = some f → m.g n' = some f' → n ≠ n' → ∀ i, f.O i → ¬ f'.O i
  maps : m.mn ≠ m.ms ∧ m.mf ≠ m.mn ∧ m.mf ≠ m.ms
  has : (∀ e ∈ s.D, (m.g e.2).isSome) ∧ (∀ e ∈ s.S, (m.g e.2).isSome) ∧ ∀ x ∈ s.M, x.kind = 99 → (m.g x.n).isSome
/-- What holds of every file system. -/
structure FsOk (s : FSt) : Prop where
  dirD : GoodDir s.F.length s.D
  dirS : GoodDir s.F.length s.S
  path : PathOk s.F.length s.S s.M
  cur : s.D = movedAll s.S s.M
  cap : 0 ≤ s.cap ∧ s.cap ≤ 67108864
  left : -1 ≤ s.left ∧ s.left ≤ 9223372036854775807
  len : s.D.length ≤ 4096
  lens : ∀ k, (movedAll s.S (s.M.take k)).length ≤ 4096
/-- The bounds that grow by one with each operation. -/
structure FsLim (N : Nat) (s : FSt) : Prop where
  ops : s.ops ≤ N
  files : s.F.length ≤ N
  moves : s.M.length ≤ N
  log : ∀ n, (s.file n).log.length ≤ N
  strs : ∀ x ∈ s.M, x.a.length ≤ 9223372036854775807 ∧ x.b.length ≤ 9223372036854775807
  dat : ∀ n, ∀ d ∈ (s.file n).log, d.p.length ≤ 70368744177664
/-- Bytes are few, and every write and cut lies within them. -/
def LogOk : List UInt8 → List DoneS → Prop
  | p, [] => p.length ≤ 67108864
  | p, d :: l => p.length ≤ 67108864 ∧ d.pos ≤ p.length ∧ LogOk (doneOn p d) l
def FilesOk (s : FSt) : Prop := ∀ n, LogOk (s.file n).safe (s.file n).log ∧ (s.file n).data = doneAll (s.file n).safe (s.file n).log
theorem LogOk.small : ∀ {l : List DoneS} {p : List UInt8}, LogOk p l → p.length ≤ 67108864
  | [], _, h => h
  | _ :: _, _, h => h.1
theorem LogOk.all : ∀ {l : List DoneS} {p : List UInt8}, LogOk p l → (doneAll p l).length ≤ 67108864
  | [], _, h => h
  | d :: l, p, h => LogOk.all (l := l) (p := doneOn p d) h.2.2
theorem LogOk.snoc : ∀ {l : List DoneS} {p : List UInt8} {d : DoneS}, LogOk p l → d.pos ≤ (doneAll p l).length → (doneOn (doneAll p l) d).length ≤ 67108864 → LogOk p (l ++ [d])
  | [], _, _, h, h1, h2 => ⟨h, h1, h2⟩
  | e :: l, p, d, h, h1, h2 => ⟨h.1, h.2.1, LogOk.snoc (l := l) (p := doneOn p e) h.2.2 h1 h2⟩
theorem LogOk.take : ∀ {l : List DoneS} {p : List UInt8} (k : Nat), LogOk p l → LogOk p (l.take k)
  | [], _, k, h => by simpa using h
  | _ :: _, _, 0, h => h.1
  | d :: l, p, k + 1, h => ⟨h.1, h.2.1, LogOk.take (l := l) (p := doneOn p d) k h.2.2⟩
theorem LogOk.at_ : ∀ {l : List DoneS} {p : List UInt8} (k : Nat) (hk : k < l.length), LogOk p l → (l[k]).pos ≤ (doneAll p (l.take k)).length
  | d :: l, p, 0, _, h => h.2.1
  | d :: l, p, k + 1, hk, h => by
    simp only [List.length_cons] at hk
    simpa [doneAll] using LogOk.at_ (l := l) (p := doneOn p d) k (by omega) h.2.2
theorem LogOk.next : ∀ {l : List DoneS} {p : List UInt8} (k : Nat) (hk : k < l.length), LogOk p l → (doneOn (doneAll p (l.take k)) l[k]).length ≤ 67108864
  | d :: l, p, 0, _, h => LogOk.small h.2.2
  | d :: l, p, k + 1, hk, h => by
    simp only [List.length_cons] at hk
    simpa [doneAll] using LogOk.next (l := l) (p := doneOn p d) k (by omega) h.2.2
theorem FilesOk.small {s : FSt} (h : FilesOk s) (n : Nat) : (s.file n).data.length ≤ 67108864 := by rw [(h n).2]; exact (h n).1.all

/-! ### what is kept -/
theorem FsMem.lt {w : World} {m : FsMem} {s : FSt} (h : IsFS w m s) : ∀ i, m.O i → i < w.heap.size := fun i hi => by
  rcases hi with rfl | rfl | rfl | rfl | hi | ⟨n, f, hg, hi⟩
  · exact (Array.getElem?_eq_some_iff.1 h.blk).1
  · exact h.files.lt
  · exact h.names.lt
  · exact h.safe.lt
  · exact h.moves.lt hi
  · exact (h.file n f hg).2.2.lt i hi
theorem FMem.notU8 {w : World} {f : FMem} {x : FileS} (h : IsFile w f x) : NotU8 w f.O := fun k hk cur q hb => by
  rcases hk with rfl | hk
  · rw [h.blk] at hb; cases hb
  · obtain ⟨cur', hb'⟩ := h.log.blk hk
    rw [hb'] at hb; cases hb
theorem FsMem.notU8 {w : World} {m : FsMem} {s : FSt} (h : IsFS w m s) : NotU8 w m.O := fun k hk cur q hb => by
  rcases hk with rfl | rfl | rfl | rfl | hk | ⟨n, f, hg, hk⟩
  · rw [h.blk] at hb; cases hb
  · obtain ⟨es, c, hb'⟩ := h.files.isMap; rw [hb'] at hb; cases hb
  · obtain ⟨es, c, hb'⟩ := h.names.isMap; rw [hb'] at hb; cases hb
  · obtain ⟨es, c, hb'⟩ := h.safe.isMap; rw [hb'] at hb; cases hb
  · obtain ⟨cur', hb'⟩ := h.moves.blk hk; rw [hb'] at hb; cases hb
  · exact FMem.notU8 (h.file n f hg).2.2 k hk _ _ hb
theorem IsFS.keeps {F : Nat → Prop} {w w' : World} {m : FsMem} {s : FSt} (h : IsFS w m s) (k : Keeps F w w') (hF : ∀ i, m.O i → ¬ F i) (hu : NotU8 w F) : IsFS w' m s :=
  ⟨k.obj h.blk (hF _ (.inl rfl)), h.files.keeps k (hF _ (.inr (.inl rfl))), h.names.keeps k (hF _ (.inr (.inr (.inl rfl)))), h.safe.keeps k (hF _ (.inr (.inr (.inr (.inl rfl))))),
   h.moves.keeps k (fun i hi => hF i (.inr (.inr (.inr (.inr (.inl hi)))))), fun n f hg => ⟨(h.file n f hg).1, (h.file n f hg).2.1, (h.file n f hg).2.2.keeps k (fun i hi => hF i (.inr (.inr (.inr (.inr (.inr ⟨n, f, hg, hi⟩)))))) hu⟩, h.apart, h.maps, h.has⟩
theorem IsFS.kept {w w' : World} {m : FsMem} {s : FSt} (h : IsFS w m s) (k : Keeps NoB w w') : IsFS w' m s := h.keeps k (fun _ _ f => f) (NotU8.noB w)
/-- The block of a slice. -/
def datB (v : Value) : Option Nat := match v with
  | .slice a _ c => if c = 0 then none else a.map (·.block)
  | _ => none
/-- A slice in the same block, or in a new one. -/
def DGrew (w : World) (v v' : Value) : Prop := ∀ k, datB v' = some k → datB v = some k ∨ w.heap.size ≤ k
theorem DGrew.refl (w : World) (v : Value) : DGrew w v v := fun _ h => .inl h
theorem DGrew.older {w w1 : World} {v v' : Value} (h : DGrew w1 v v') (hs : w.heap.size ≤ w1.heap.size) : DGrew w v v' := fun k hk => (h k hk).imp id (fun h => Nat.le_trans hs h)
theorem DGrew.nil (w : World) (v : Value) : DGrew w v (.slice none 0 0) := fun k hk => by cases hk
/-- Bytes that are read lie in a block that is there. -/
theorem RowU.datLt {w : World} {v : Value} {xs : List UInt8} (h : RowU w v xs) {k : Nat} (hk : datB v = some k) : k < w.heap.size := by
  cases v <;> simp only [datB, reduceCtorEq] at hk
  rename_i a n c
  split at hk
  · cases hk
  · rename_i hc
    cases a with
    | none => cases hk
    | some ad =>
      cases hk
      obtain ⟨cur, q, hb⟩ := h.2 ad n c rfl (by omega)
      exact (Array.getElem?_eq_some_iff.1 hb).1
/-- The blocks in which files' bytes lie. -/
def FsMem.DB (m : FsMem) (k : Nat) : Prop := ∃ n f, m.g n = some f ∧ (datB f.dv = some k ∨ datB f.sv = some k)
/-- m' owns what m owned, and blocks that came later; its bytes lie where m's lay, or in blocks that came later. -/
def Grows (w : World) (m m' : FsMem) : Prop := (∀ k, m'.O k → m.O k ∨ w.heap.size ≤ k) ∧ ∀ k, m'.DB k → m.DB k ∨ w.heap.size ≤ k
theorem Grows.refl (w : World) (m : FsMem) : Grows w m m := ⟨fun _ h => .inl h, fun _ h => .inl h⟩
theorem Grows.trans {w w' : World} {a b c : FsMem} (h : Grows w a b) (k : Grows w' b c) (hs : w.heap.size ≤ w'.heap.size) : Grows w a c := by
  refine ⟨fun i hi => ?_, fun i hi => ?_⟩
  · rcases k.1 i hi with h1 | h1
    · exact h.1 i h1
    · exact .inr (Nat.le_trans hs h1)
  · rcases k.2 i hi with h1 | h1
    · exact h.2 i h1
    · exact .inr (Nat.le_trans hs h1)
/-- An operation has turned s into s'. -/
def FsTo (w : World) (m : FsMem) (s' : FSt) (w' : World) : Prop := ∃ m', m'.b = m.b ∧ IsFS w' m' s' ∧ Grows w m m' ∧ Keeps m.O w w'
theorem FsTo.same {w w' : World} {m : FsMem} {s : FSt} (h : IsFS w m s) (k : Keeps NoB w w') : FsTo w m s w' := ⟨m, rfl, h.kept k, Grows.refl w m, k.mono (fun _ _ f => f.elim)⟩
theorem FsTo.trans {w w1 w2 : World} {m m1 : FsMem} {s1 s2 : FSt} (hb : m1.b = m.b) (hg : Grows w m m1) (hk : Keeps m.O w w1) (h : FsTo w1 m1 s2 w2) : FsTo w m s2 w2 := by
  obtain ⟨m2, hb2, hi, hg2, hk2⟩ := h
  refine ⟨m2, hb2.trans hb, hi, hg.trans hg2 hk.size, hk.trans hk2 (fun _ _ f => f) (fun i hi f => ?_)⟩
  rcases hg.1 i f with h1 | h1
  · exact h1
  · omega
end Go.Proofs.YtlhhcoijkjcneaaGreat
namespace Go.Proofs.YtlhhcoijkjcneaaGreat
open Go.RowKit Go.Maps

theorem on_nil (w : World) : Calls Tryz.prog 69 #[.pointer none] w fun e w' => e = .returned (.int .i64 7) ∧ w = w' := by
  go_enter Tryz.func69, Tryz.ntmps69
  go_wp2
  go_ret
  exact ⟨rfl, rfl⟩
theorem on_some (w : World) (b : Nat) (off : Bool) (h : w.cell? ⟨b, 8, none⟩ = some (.bool off)) :
    Calls Tryz.prog 69 #[.pointer (some ⟨b, 0, none⟩)] w fun e w' => e = .returned (.int .i64 (if off then 21 else 0)) ∧ w = w' := by
  cases off with
  | true =>
    go_enter Tryz.func69, Tryz.ntmps69
    go_wp2
    go_ret
    exact ⟨rfl, rfl⟩
  | false =>
    go_enter Tryz.func69, Tryz.ntmps69
    go_wp2
    go_ret
    exact ⟨rfl, rfl⟩
/-- An operation is counted. -/
theorem counts_any (w : World) (b : Nat) (c0 c1 c2 c3 c4 c5 : Value) (ops : Nat) (left : Int) (off : Bool) (h : w.heap[b]? = some (.cells #[c0, c1, c2, c3, c4, c5, .int .i64 (ops : Nat), .int .i64 left, .bool off] 79 (0, 0)))
    (ho : ops ≤ 4611686018427387904) (hl : -1 ≤ left ∧ left ≤ 9223372036854775807) :
    Calls Tryz.prog 68 #[.pointer (some ⟨b, 0, none⟩)] w fun e w' => e = .returned (.int .i64 0) ∧
      w'.heap[b]? = some (.cells #[c0, c1, c2, c3, c4, c5, .int .i64 ((ops + 1 : Nat) : Int), .int .i64 (if 0 < left then left - 1 else left), .bool (if 0 < left then decide (left = 1) else off)] 79 (0, 0)) ∧ Keeps (OneB b) w w' := by
  have h6 : w.cell? ⟨b, 6, none⟩ = some (.int .i64 (ops : Nat)) := blk_cell h 6
  have h7 : w.cell? ⟨b, 7, none⟩ = some (.int .i64 left) := blk_cell h 7
  have h8 : w.cell? ⟨b, 8, none⟩ = some (.bool off) := blk_cell h 8
  have f6 := blk_frozen h 6
  have f7 := blk_frozen h 7
  have f8 := blk_frozen h 8
  have H := Sd.mk h
  obtain ⟨hl1, hl2⟩ := hl
  clear h
  by_cases hp : 0 < left
  · rw [if_pos hp, if_pos hp]
    go_enter Tryz.func68, Tryz.ntmps68
    go_wp2
    go_ret
    refine ⟨rfl, ?_, ?_⟩
    · refine (blk_set (blk_set (blk_set H.o 6 _) 7 _) 8 _).trans ?_
      have e1 : (left - 1 == 0) = decide (left = 1) := by
        by_cases hz : left = 1
        · subst hz; rfl
        · rw [decide_eq_false hz]; simp; omega
      rw [e1]
      rfl
    · exact (((Keeps.refl (OneB b) w).setCell ⟨b, 6, none⟩ _ (fun _ => rfl)).setCell ⟨b, 7, none⟩ _ (fun _ => rfl)).setCell ⟨b, 8, none⟩ _ (fun _ => rfl)
  · rw [if_neg hp, if_neg hp]
    go_enter Tryz.func68, Tryz.ntmps68
    go_wp2
    go_ret
    refine ⟨rfl, (blk_set H.o 6 _).trans ?_, (Keeps.refl (OneB b) w).setCell ⟨b, 6, none⟩ _ (fun _ => rfl)⟩
    rfl
theorem named_nil (w : World) (v : Value) : Calls Tryz.prog 65 #[.pointer none, v] w fun e w' => e = .returned (.int .i64 7) ∧ w = w' := by
  go_enter Tryz.func65, Tryz.ntmps65
  go_wp2_with (go_at_call 69; refine (on_nil w).mono ?_; rintro e w' ⟨rfl, rfl⟩)
  go_ret
  exact ⟨rfl, rfl⟩
def namesE (l : List ByteArray) : Int := if l.all (fun S => nameOk S.data.toList) then 0 else 20
theorem namesE_not {l : List ByteArray} {S : ByteArray} (hm : S ∈ l) (h : nameOk S.data.toList = false) : namesE l = 20 := by
  unfold namesE
  rw [if_neg]
  intro ha
  have := List.all_eq_true.1 ha S hm
  rw [h] at this; cases this
set_option maxHeartbeats 2000000 in
theorem named_some (w : World) (b : Nat) (off : Bool) (h : w.cell? ⟨b, 8, none⟩ = some (.bool off)) (A : Option Addr) (c : Nat) (l : List ByteArray) (hl : l.length ≤ 1000) (hsz : ∀ S ∈ l, S.size ≤ 9223372036854775807) (hv : VRd w A (l.map Value.string)) :
    Calls Tryz.prog 65 #[.pointer (some ⟨b, 0, none⟩), .slice A l.length c] w fun e w' => e = .returned (.int .i64 (if off then 21 else namesE l)) ∧ w = w' := by
  have HON := Sd.mk (on_some w b off h)
  have HV := Sd.mk hv
  have HSZ := Sd.mk hsz
  clear h hv hsz
  cases off with
  | true =>
    go_enter Tryz.func65, Tryz.ntmps65
    go_wp2_with (go_at_call 69; refine HON.o.mono ?_; rintro e w' ⟨rfl, rfl⟩)
    go_ret
    exact ⟨rfl, rfl⟩
  | false =>
    go_enter Tryz.func65, Tryz.ntmps65
    go_wp2_with (go_at_call 69; refine HON.o.mono ?_; rintro e w' ⟨rfl, rfl⟩)
    clear HON
    go_loopg [16] l.length (fun gk i wr => ∃ j : Nat, gk + j = l.length ∧ i = .int .i64 j ∧ Sd ((l.take j).all (fun S => nameOk S.data.toList) = true) ∧ Sd (w = wr))
    case atStart => exact ⟨0, by omega, rfl, ⟨by simp⟩, ⟨rfl⟩⟩
    case round =>
      obtain ⟨j, hj, rfl, hno, ⟨rfl⟩⟩ := hrel
      by_cases hlt : j < l.length
      · have hq : (j : Int) < (l.length : Int) := by omega
        obtain ⟨b1, o1, rfl, hc⟩ := HV.o j (by simpa using hlt)
        rw [List.getElem_map] at hc
        have hin : l[j] ∈ l := List.getElem_mem hlt
        have htk : l.take (j + 1) = l.take j ++ [l[j]] := List.take_succ_eq_append_getElem hlt
        have hs := HSZ.o _ hin
        generalize l[j] = S at *
        have HC := Sd.mk (cname_any S hs w)
        have HIN := Sd.mk hin
        have HTK := Sd.mk htk
        clear hin htk
        cases hb : nameOk S.data.toList with
        | true =>
          have he : nameE S.data.toList = 0 := by unfold nameE; rw [hb]; rfl
          rw [he] at HC
          go_wp2_with (go_at_call 29; refine HC.o.mono ?_; rintro e w' ⟨rfl, rfl⟩)
          go_roundg (gk - 1)
          case measure => omega
          case rel => exact ⟨j + 1, by omega, by go_num, ⟨by rw [HTK.o, List.all_append, hno.o]; simp [hb]⟩, ⟨rfl⟩⟩
        | false =>
          have he : nameE S.data.toList = 20 := by unfold nameE; rw [hb]; rfl
          rw [he] at HC
          have hE : Sd (namesE l = 20) := ⟨namesE_not HIN.o hb⟩
          go_wp2_with (go_at_call 29; refine HC.o.mono ?_; rintro e w' ⟨rfl, rfl⟩)
          go_ret
          exact ⟨by rw [hE.o]; rfl, rfl⟩
      · have hq : ¬ (j : Int) < (l.length : Int) := by omega
        have hE : Sd (namesE l = 0) := ⟨by
          have h := hno.o
          rw [List.take_of_length_le (by omega)] at h
          unfold namesE
          rw [if_pos h]⟩
        go_wp2_with fail
        go_ret
        exact ⟨by rw [hE.o]; rfl, rfl⟩
end Go.Proofs.YtlhhcoijkjcneaaGreat
