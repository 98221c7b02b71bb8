/- The file system, plainly: what the document says. -/
import Derived.Maps.OwnSet
import Derived.Maps.OwnOps
import Derived.Maps.RangeWalk
import Derived.StringKeys
import Derived.Test.YtdjamijbhaplgaaGreatGkaa
import Derived.Test.YtdjamijbhaplgaaGreatGkad
namespace Go.Proofs.YtdjamijbhaplgaaGreat
open Go.RowKit

structure DoneS where
  cut : Bool
  pos : Nat
  p : List UInt8
structure FileS where
  safe : List UInt8
  log : List DoneS
  data : List UInt8
structure MoveS where
  kind : Nat
  a : List UInt8
  b : List UInt8
  n : Nat
abbrev Dir := List (List UInt8 × Nat)
structure FSt where
  F : List FileS
  D : Dir
  S : Dir
  M : List MoveS
  cap : Int
  ops : Nat
  left : Int
  off : Bool
structure TornS where
  file : Int
  writes : Int
  bytes : Int

def nameChar (c : UInt8) : Bool := (decide (97 ≤ c.toNat) && decide (c.toNat ≤ 122)) || (decide (48 ≤ c.toNat) && decide (c.toNat ≤ 57)) || c.toNat == 46 || c.toNat == 45 || c.toNat == 95 || c.toNat == 47
def nameOk (s : List UInt8) : Bool := decide (1 ≤ s.length) && decide (s.length ≤ 64) && s.all nameChar
def nameE (s : List UInt8) : Int := if nameOk s then 0 else 20

def noFile : FileS := ⟨[], [], []⟩
def Dir.less (d : Dir) (s : List UInt8) : Dir := d.filter fun e => e.1 != s
def Dir.at_ (d : Dir) (s : List UInt8) : Option Nat := d.lookup s
def moved (d : Dir) (m : MoveS) : Dir :=
  if m.kind = 99 then d ++ [(m.a, m.n)]
  else if m.kind = 100 then d.less m.a
  else match d.at_ m.a with
    | none => d
    | some n => if m.a = m.b then d else (d.less m.a).less m.b ++ [(m.b, n)]
def doneOn (p : List UInt8) (x : DoneS) : List UInt8 := if x.cut then p.take x.pos else p.take x.pos ++ x.p ++ p.drop (x.pos + x.p.length)
def doneAll (p : List UInt8) (l : List DoneS) : List UInt8 := l.foldl doneOn p
def movedAll (d : Dir) (l : List MoveS) : Dir := l.foldl moved d

namespace FSt
def fresh (cap : Int) : FSt := ⟨[], [], [], [], cap, 0, -1, false⟩
def file (s : FSt) (n : Nat) : FileS := s.F.getD (n - 1) noFile
def on (s : FSt) : Int := if s.off then 21 else 0
def named1 (s : FSt) (a : List UInt8) : Int := if s.off then 21 else nameE a
def there (s : FSt) (n : Int) : Int := if s.off then 21 else if s.D.any (fun e => ((e.2 : Nat) : Int) == n) then 0 else 7
def used (s : FSt) : Nat := (s.D.map fun e => (s.file e.2).data.length).sum
def counts (s : FSt) : FSt := { s with ops := s.ops + 1, left := if 0 < s.left then s.left - 1 else s.left, off := if 0 < s.left then decide (s.left = 1) else s.off }
def change (s : FSt) (m : MoveS) : FSt := counts { s with D := moved s.D m, M := s.M ++ [m] }
def setFile (s : FSt) (n : Nat) (x : FileS) : FSt := { s with F := s.F.set (n - 1) x }
def does (s : FSt) (n : Nat) (d : DoneS) : FSt := counts (s.setFile n { s.file n with log := (s.file n).log ++ [d], data := doneOn (s.file n).data d })
def create (s : FSt) (a : List UInt8) : Int × Int × FSt :=
  if s.named1 a ≠ 0 then (0, s.named1 a, s)
  else if (s.D.at_ a).isSome then (0, 8, s)
  else if 4096 ≤ s.D.length then (0, 6, s)
  else (s.F.length + 1, 0, change { s with F := s.F ++ [noFile] } ⟨99, a, [], s.F.length + 1⟩)
def opened (s : FSt) (a : List UInt8) : Int × Int :=
  if s.named1 a ≠ 0 then (0, s.named1 a)
  else match s.D.at_ a with
    | none => (0, 7)
    | some n => (n, 0)
def write (s : FSt) (n : Int) (pos : Int) (p : List UInt8) : Int × FSt :=
  if s.there n ≠ 0 then (s.there n, s)
  else if pos < 0 ∨ ((s.file n.toNat).data.length : Int) < pos then (2, s)
  else if 0 < pos + p.length - ((s.file n.toNat).data.length : Int) ∧ s.cap - s.used < pos + p.length - ((s.file n.toNat).data.length : Int) then (5, s)
  else (0, s.does n.toNat ⟨false, pos.toNat, p⟩)
def append (s : FSt) (n : Int) (p : List UInt8) : Int × FSt :=
  if s.there n ≠ 0 then (s.there n, s) else s.write n ((s.file n.toNat).data.length : Nat) p
def cutAt (s : FSt) (n : Int) (size : Int) : Int × FSt :=
  if s.there n ≠ 0 then (s.there n, s)
  else if size < 0 ∨ ((s.file n.toNat).data.length : Int) < size then (2, s)
  else (0, s.does n.toNat ⟨true, size.toNat, []⟩)
def read (s : FSt) (n pos most : Int) : List UInt8 × Int :=
  if s.there n ≠ 0 then ([], s.there n)
  else if pos < 0 ∨ ((s.file n.toNat).data.length : Int) < pos ∨ most < 0 then ([], 2)
  else (((s.file n.toNat).data.drop pos.toNat).take most.toNat, 0)
def size (s : FSt) (n : Int) : Int × Int := if s.there n ≠ 0 then (0, s.there n) else ((s.file n.toNat).data.length, 0)
def sync (s : FSt) (n : Int) : Int × FSt :=
  if s.there n ≠ 0 then (s.there n, s)
  else (0, counts (s.setFile n.toNat { s.file n.toNat with safe := (s.file n.toNat).data, log := [] }))
def named2 (s : FSt) (a b : List UInt8) : Int := if s.off then 21 else if nameE a ≠ 0 then 20 else nameE b
def rename (s : FSt) (a b : List UInt8) : Int × FSt :=
  if s.named2 a b ≠ 0 then (s.named2 a b, s)
  else if (s.D.at_ a).isNone then (7, s)
  else (0, s.change ⟨114, a, b, 0⟩)
def remove (s : FSt) (a : List UInt8) : Int × FSt :=
  if s.named1 a ≠ 0 then (s.named1 a, s)
  else if (s.D.at_ a).isNone then (7, s)
  else (0, s.change ⟨100, a, [], 0⟩)
def syncDir (s : FSt) : Int × FSt := if s.off then (21, s) else (0, counts { s with S := s.D, M := [] })
def waiting (s : FSt) (n : Int) : Nat := if s.D.any (fun e => ((e.2 : Nat) : Int) == n) then (s.file n.toNat).log.length else 0
def arm (s : FSt) (n : Int) : FSt := if s.off then s else { s with left := max n (-1), off := decide (n = 0) }
end FSt

def tornOf (l : List TornS) (n : Int) : TornS := (l.find? fun t => t.file == n).getD ⟨0, 0, 0⟩
def FileS.crash (x : FileS) (t : TornS) : FileS :=
  let k := min t.writes.toNat x.log.length
  let p := doneAll x.safe (x.log.take k)
  let q := match x.log[k]? with
    | some d => if d.cut then p else doneOn p { d with p := d.p.take t.bytes.toNat }
    | none => p
  ⟨q, [], q⟩
def FSt.crash (s : FSt) (dir : Int) (l : List TornS) : FSt :=
  { s with F := s.F.mapIdx (fun i x => x.crash (tornOf l ((i + 1 : Nat) : Int))), D := movedAll s.S (s.M.take dir.toNat), S := movedAll s.S (s.M.take dir.toNat), M := [], left := -1, off := false }
end Go.Proofs.YtdjamijbhaplgaaGreat
namespace Go.Proofs.YtdjamijbhaplgaaGreat
open Go.RowKit

theorem lookup_less (d : Dir) (s x : List UInt8) : (d.less s).lookup x = if x = s then none else d.lookup x := by
  unfold Dir.less
  induction d with
  | nil => simp
  | cons e d ih =>
    obtain ⟨a, n⟩ := e
    by_cases ha : a = s
    · subst ha
      rw [List.filter_cons_of_neg (by simp), ih, List.lookup_cons]
      by_cases hx : x = a
      · simp [hx]
      · have : (x == a) = false := by simpa using hx
        rw [if_neg hx, if_neg hx, this]
    · rw [List.filter_cons_of_pos (by simpa using ha), List.lookup_cons, List.lookup_cons]
      by_cases hx : x = a
      · subst hx; simp [ha]
      · have : (x == a) = false := by simpa using hx
        rw [this]
        exact ih
theorem less_of_none {d : Dir} {s : List UInt8} (h : d.lookup s = none) : d.less s = d := by
  unfold Dir.less
  rw [List.filter_eq_self]
  intro e he
  have := List.lookup_eq_none_iff.1 h e he
  refine bne_iff_ne.2 (fun h2 => ?_)
  rw [h2] at this
  simp at this
theorem less_len (d : Dir) (s : List UInt8) (h : (d.map (·.1)).Nodup) : (d.less s).length + (if (d.lookup s).isSome then 1 else 0) = d.length := by
  induction d with
  | nil => simp [Dir.less]
  | cons e d ih =>
    obtain ⟨a, n⟩ := e
    simp only [List.map_cons, List.nodup_cons] at h
    have ih := ih h.2
    unfold Dir.less at ih ⊢
    by_cases ha : a = s
    · subst ha
      have hn : d.lookup a = none := List.lookup_eq_none_iff.2 fun p hp => by
        exact bne_iff_ne.2 (fun e => h.1 (List.mem_map.2 ⟨p, hp, e.symm⟩))
      rw [hn] at ih
      rw [List.filter_cons_of_neg (by simp), List.lookup_cons_self]
      simp at ih ⊢
      exact ih
    · rw [List.filter_cons_of_pos (by simpa using ha), List.lookup_cons]
      have : (s == a) = false := beq_eq_false_iff_ne.2 (fun e => ha e.symm)
      rw [this]
      simp only [List.length_cons]
      omega
theorem lookup_mem {d : Dir} {s : List UInt8} {n : Nat} (h : d.lookup s = some n) : (s, n) ∈ d := by
  induction d with
  | nil => simp at h
  | cons e d ih =>
    obtain ⟨a, m⟩ := e
    rw [List.lookup_cons] at h
    by_cases ha : s = a
    · subst ha; simp at h; simp [h]
    · have : (s == a) = false := by simpa using ha
      rw [this] at h
      exact List.mem_cons_of_mem _ (ih h)
theorem mem_lookup {d : Dir} (hd : (d.map (·.1)).Nodup) {s : List UInt8} {n : Nat} (h : (s, n) ∈ d) : d.lookup s = some n := by
  induction d with
  | nil => cases h
  | cons e d ih =>
    obtain ⟨a, m⟩ := e
    simp only [List.map_cons, List.nodup_cons] at hd
    rcases List.mem_cons.1 h with h | h
    · cases h; simp
    · have hne : s ≠ a := fun e => hd.1 (List.mem_map.2 ⟨(s, n), h, e⟩)
      have : (s == a) = false := by simpa using hne
      rw [List.lookup_cons, this]
      exact ih hd.2 h
theorem mem_less {d : Dir} {s : List UInt8} {e : List UInt8 × Nat} (h : e ∈ d.less s) : e ∈ d := (List.mem_filter.1 h).1
theorem less_sub (d : Dir) (s : List UInt8) : (d.less s).Sublist d := List.filter_sublist
theorem mem_less_ne {d : Dir} {s : List UInt8} {e : List UInt8 × Nat} (h : e ∈ d.less s) : e.1 ≠ s := by simpa using (List.mem_filter.1 h).2

/-- Names once, numbers once, each number at most N. -/
structure GoodDir (N : Nat) (d : Dir) : Prop where
  names : (d.map (·.1)).Nodup
  nums : (d.map (·.2)).Nodup
  low : ∀ e ∈ d, 1 ≤ e.2 ∧ e.2 ≤ N
theorem GoodDir.nil (N : Nat) : GoodDir N [] := ⟨by simp, by simp, by simp⟩
theorem GoodDir.mono {N N' : Nat} {d : Dir} (h : GoodDir N d) (hN : N ≤ N') : GoodDir N' d := ⟨h.names, h.nums, fun e he => ⟨(h.low e he).1, Nat.le_trans (h.low e he).2 hN⟩⟩
theorem GoodDir.less {N : Nat} {d : Dir} (h : GoodDir N d) (s : List UInt8) : GoodDir N (d.less s) :=
  ⟨((less_sub d s).map _).nodup h.names, ((less_sub d s).map _).nodup h.nums, fun e he => h.low e (mem_less he)⟩
theorem GoodDir.snoc {N : Nat} {d : Dir} (h : GoodDir N d) {s : List UInt8} {n : Nat} (hs : ∀ e ∈ d, e.1 ≠ s) (hn : ∀ e ∈ d, e.2 ≠ n) (h1 : 1 ≤ n) (h2 : n ≤ N) : GoodDir N (d ++ [(s, n)]) := by
  refine ⟨?_, ?_, ?_⟩
  · rw [List.map_append, List.nodup_append]
    refine ⟨h.names, by simp, ?_⟩
    intro a ha b hb
    simp at hb
    subst hb
    obtain ⟨e, he, rfl⟩ := List.mem_map.1 ha
    exact hs e he
  · rw [List.map_append, List.nodup_append]
    refine ⟨h.nums, by simp, ?_⟩
    intro a ha b hb
    simp at hb
    subst hb
    obtain ⟨e, he, rfl⟩ := List.mem_map.1 ha
    exact hn e he
  · intro e he
    rcases List.mem_append.1 he with he | he
    · exact h.low e he
    · simp at he; subst he; exact ⟨h1, h2⟩
/-- A number's name is one. -/
theorem GoodDir.one {N : Nat} {d : Dir} (h : GoodDir N d) {e e' : List UInt8 × Nat} (he : e ∈ d) (he' : e' ∈ d) (hn : e.2 = e'.2) : e = e' := by
  have h2 := h.nums
  clear h
  induction d with
  | nil => cases he
  | cons x d ih =>
    simp only [List.map_cons, List.nodup_cons] at h2
    rcases List.mem_cons.1 he with h3 | h3 <;> rcases List.mem_cons.1 he' with h4 | h4
    · rw [h3, h4]
    · exact absurd (List.mem_map.2 ⟨e', h4, by rw [← hn, h3]⟩) h2.1
    · exact absurd (List.mem_map.2 ⟨e, h3, by rw [hn, h4]⟩) h2.1
    · exact ih h3 h4 h2.2
theorem lookup_none_mem {d : Dir} {s : List UInt8} (h : d.lookup s = none) : ∀ e ∈ d, e.1 ≠ s := fun e he => by
  have := List.lookup_eq_none_iff.1 h e he
  exact fun h2 => by rw [h2] at this; simp at this

/-- A change that may be. -/
def MoveOk (N : Nat) (d : Dir) (m : MoveS) : Prop := (m.kind = 99 ∧ d.lookup m.a = none ∧ (∀ e ∈ d, e.2 ≠ m.n) ∧ 1 ≤ m.n ∧ m.n ≤ N) ∨ m.kind = 100 ∨ m.kind = 114
theorem MoveOk.mono {N N' : Nat} {d : Dir} {m : MoveS} (h : MoveOk N d m) (hN : N ≤ N') : MoveOk N' d m := h.imp (fun ⟨a, b, c, e, f⟩ => ⟨a, b, c, e, Nat.le_trans f hN⟩) id
theorem moved_good {N : Nat} {d : Dir} {m : MoveS} (h : GoodDir N d) (hm : MoveOk N d m) : GoodDir N (moved d m) := by
  unfold moved
  rcases hm with ⟨hk, hl, hn, h1, h2⟩ | hk | hk
  · rw [if_pos hk]
    exact h.snoc (lookup_none_mem hl) hn h1 h2
  · rw [if_neg (by omega), if_pos hk]
    exact h.less _
  · rw [if_neg (by omega), if_neg (by omega)]
    cases ha : d.at_ m.a with
    | none => exact h
    | some n =>
      dsimp only
      by_cases hab : m.a = m.b
      · rw [if_pos hab]; exact h
      · rw [if_neg hab]
        have hmem := lookup_mem (show d.lookup m.a = some n from ha)
        refine ((h.less _).less _).snoc (fun e he => mem_less_ne he) (fun e he hn => ?_) (h.low _ hmem).1 (h.low _ hmem).2
        have he1 := mem_less he
        have := h.one (mem_less he1) hmem hn
        subst this
        exact mem_less_ne he1 rfl
/-- A path of changes that may be. -/
def PathOk (N : Nat) : Dir → List MoveS → Prop
  | _, [] => True
  | d, m :: l => MoveOk N d m ∧ PathOk N (moved d m) l
theorem PathOk.mono {N N' : Nat} (hN : N ≤ N') : ∀ {l : List MoveS} {d : Dir}, PathOk N d l → PathOk N' d l
  | [], _, _ => trivial
  | _ :: _, _, h => ⟨h.1.mono hN, PathOk.mono hN h.2⟩
theorem PathOk.snoc {N : Nat} : ∀ {l : List MoveS} {d : Dir} {m : MoveS}, PathOk N d l → MoveOk N (movedAll d l) m → PathOk N d (l ++ [m])
  | [], _, _, _, h => ⟨h, trivial⟩
  | _ :: _, _, _, h, h2 => ⟨h.1, PathOk.snoc h.2 h2⟩
theorem PathOk.take {N : Nat} : ∀ {l : List MoveS} {d : Dir} (k : Nat), PathOk N d l → PathOk N d (l.take k)
  | [], _, k, _ => by simp [PathOk]
  | _ :: _, _, 0, _ => trivial
  | _ :: _, _, _ + 1, h => ⟨h.1, PathOk.take _ h.2⟩
theorem PathOk.good {N : Nat} : ∀ {l : List MoveS} {d : Dir}, GoodDir N d → PathOk N d l → GoodDir N (movedAll d l)
  | [], _, h, _ => h
  | m :: l, d, h, hp => PathOk.good (l := l) (d := moved d m) (moved_good h hp.1) hp.2
theorem movedAll_snoc (d : Dir) (l : List MoveS) (m : MoveS) : movedAll d (l ++ [m]) = moved (movedAll d l) m := by simp [movedAll]
theorem movedAll_succ (d : Dir) (l : List MoveS) (k : Nat) (hk : k < l.length) : movedAll d (l.take (k + 1)) = moved (movedAll d (l.take k)) l[k] := by
  rw [List.take_succ_eq_append_getElem hk, movedAll_snoc]
theorem PathOk.at_ {N : Nat} : ∀ {l : List MoveS} {d : Dir} (k : Nat) (hk : k < l.length), PathOk N d l → MoveOk N (movedAll d (l.take k)) l[k]
  | m :: l, d, 0, _, h => h.1
  | m :: l, d, k + 1, hk, h => by
    simp only [List.length_cons] at hk
    simpa [movedAll] using PathOk.at_ k (by omega) h.2
/-- Who is in a directory behind changes was in it, or was made. -/
theorem moved_mem {d : Dir} {m : MoveS} {e : List UInt8 × Nat} (h : e ∈ moved d m) : (∃ e' ∈ d, e'.2 = e.2) ∨ (m.kind = 99 ∧ e.2 = m.n) := by
  unfold moved at h
  split at h
  · rename_i hk
    rcases List.mem_append.1 h with h | h
    · exact .inl ⟨e, h, rfl⟩
    · simp at h; subst h; exact .inr ⟨hk, rfl⟩
  · split at h
    · exact .inl ⟨e, mem_less h, rfl⟩
    · cases ha : d.at_ m.a with
      | none => rw [ha] at h; exact .inl ⟨e, h, rfl⟩
      | some n =>
        rw [ha] at h
        dsimp only at h
        split at h
        · exact .inl ⟨e, h, rfl⟩
        · rcases List.mem_append.1 h with h | h
          · exact .inl ⟨e, mem_less (mem_less h), rfl⟩
          · simp at h; subst h; exact .inl ⟨_, lookup_mem (show d.lookup m.a = some n from ha), rfl⟩
theorem movedAll_mem : ∀ {l : List MoveS} {d : Dir} {e : List UInt8 × Nat}, e ∈ movedAll d l → (∃ e' ∈ d, e'.2 = e.2) ∨ ∃ m ∈ l, m.kind = 99 ∧ e.2 = m.n
  | [], _, e, h => .inl ⟨e, h, rfl⟩
  | m :: l, d, e, h => by
    rcases movedAll_mem (l := l) (d := moved d m) h with ⟨e', he', hn⟩ | ⟨m', hm', h2⟩
    · rcases moved_mem he' with ⟨e2, he2, h3⟩ | ⟨hk, h3⟩
      · exact .inl ⟨e2, he2, h3.trans hn⟩
      · exact .inr ⟨m, by simp, hk, hn ▸ h3⟩
    · exact .inr ⟨m', List.mem_cons_of_mem _ hm', h2⟩
end Go.Proofs.YtdjamijbhaplgaaGreat
namespace Go.Proofs.YtdjamijbhaplgaaGreat
open Go.RowKit Go.Maps

theorem keyS : Keyed Tryz.prog 9 := string_keyed Tryz.underlying9
theorem keyI : Keyed Tryz.prog 3 := int_keyed Tryz.underlying3
theorem zeroInt (w : World) : (zeroValue 3).run Tryz.prog w = .ok (.int .i64 0) w := by kernel_rfl
theorem zeroPtr (w : World) : (zeroValue 91).run Tryz.prog w = .ok (.pointer none) w := by kernel_rfl
theorem wf_small {n : Nat} (h : n < 9223372036854775808) : (Lit.int .i64 (n : Int)).wf = true := WalkArith.wf_i64 (by omega)
def zd0 : DataW Unit := .lit (.int .i64 0)
theorem zd0_int : (plainElem (H := Unit) Tryz.prog 3) (.int .i64 0) = some (zd0, []) := plainElem_int Tryz.underlying3 (by decide)
/-- How a pointer to a file reads. -/
def ptrR : Value → Option (DataW Unit × List MemPlace)
  | .pointer (some ⟨k, 0, none⟩) => some (.lit (.int .u64 k), [])
  | .pointer none => some (.nil, [])
  | _ => none
theorem ptrR_inv {v : Value} {y : DataW Unit × List MemPlace} (h : ptrR v = some y) : (v = .pointer none ∧ y = (.nil, [])) ∨ ∃ k : Nat, v = .pointer (some ⟨k, 0, none⟩) ∧ y = (.lit (.int .u64 k), []) := by
  unfold ptrR at h
  split at h
  · exact .inr ⟨_, rfl, (Option.some.inj h).symm⟩
  · exact .inl ⟨rfl, (Option.some.inj h).symm⟩
  · cases h

theorem tight {P : Program} {k : TypeId} {R : Value → Option (DataW Unit × List MemPlace)} {w : World} {b n : Nat} {D : DataW Unit} (h : w.ownsMap P k R b n D) : w.ownsMap P k R b (Maps.size D) D := by
  obtain ⟨es, clock, hb, F, hs, rfl⟩ := h
  refine ⟨es, clock, hb, F, ?_, rfl⟩
  simp [Maps.size, length_sorted]
theorem ownsMap_keeps {P : Program} {k : TypeId} {R : Value → Option (DataW Unit × List MemPlace)} {F : Nat → Prop} {w w' : World} {b n : Nat} {D : DataW Unit} (h : w.ownsMap P k R b n D) (q : Keeps F w w') (hF : ¬ F b) : w'.ownsMap P k R b n D := by
  obtain ⟨es, clock, hb, r⟩ := h
  exact ⟨es, clock, q.obj hb hF, r⟩
theorem ownsMap_tidy {P : Program} {k : TypeId} {R : Value → Option (DataW Unit × List MemPlace)} {w : World} {b n : Nat} {D : DataW Unit} (K : Keyed P k) (h : w.ownsMap P k R b n D) : Tidy D := by
  obtain ⟨es, e, hp, _⟩ := h.entries K
  exact ⟨es, e, hp⟩

/-! ### names -/
structure NamesR (D : DataW Unit) (d : Dir) : Prop where
  size : Maps.size D = d.length
  at_ : ∀ s, Maps.has D (.string s) = (d.lookup s).isSome ∧ D.atKey (.string s) zd0 = .lit (.int .i64 ((d.lookup s).getD 0 : Nat))
/-- Block b is a map that holds the directory d. -/
def MapN (w : World) (b : Nat) (d : Dir) : Prop := ∃ D, w.ownsMap Tryz.prog 9 (plainElem (H := Unit) Tryz.prog 3) b d.length D ∧ NamesR D d
theorem MapN.congr {w : World} {b : Nat} {d d' : Dir} (h : MapN w b d) (hl : d'.length = d.length) (hk : ∀ s, d'.lookup s = d.lookup s) : MapN w b d' := by
  obtain ⟨D, ho, hs, ha⟩ := h
  exact ⟨D, by rw [hl]; exact ho, by rw [hl]; exact hs, fun s => by rw [hk]; exact ha s⟩
theorem MapN.keeps {F : Nat → Prop} {w w' : World} {b : Nat} {d : Dir} (h : MapN w b d) (k : Keeps F w w') (hF : ¬ F b) : MapN w' b d := by
  obtain ⟨D, ho, hr⟩ := h
  exact ⟨D, ownsMap_keeps ho k hF, hr⟩
theorem MapN.lt {w : World} {b : Nat} {d : Dir} (h : MapN w b d) : b < w.heap.size := by obtain ⟨D, ho, _⟩ := h; exact ho.lt
theorem MapN.isMap {w : World} {b : Nat} {d : Dir} (h : MapN w b d) : ∃ es c, w.heap[b]? = some (.map es c) := by obtain ⟨D, ⟨es, c, hb, _⟩, _⟩ := h; exact ⟨es, c, hb⟩
theorem MapN.made (w : World) : MapN (w.alloc (.map #[] 0)) w.heap.size [] :=
  ⟨.map [], World.ownsMap_made _ _ _ _, rfl, fun s => ⟨by simp [Maps.has], by simp [DataW.atKey, zd0]⟩⟩
theorem key_str (S : ByteArray) (hS : S.size ≤ 9223372036854775807) : keyOf Tryz.prog 9 (.string S) = some (.string S.data.toList) :=
  Go.WideMaps.keyOf_string_mk (P := Tryz.prog) Tryz.underlying9 (s := S) (by unfold maxLen; exact hS)
theorem MapN.look {w : World} {b : Nat} {d : Dir} (h : MapN w b d) (S : ByteArray) (hS : S.size ≤ 9223372036854775807) :
    (Instr.lookup 78 (.map (some b)) (.string S) true).run Tryz.prog w = .ok (.tuple #[.int .i64 ((d.lookup S.data.toList).getD 0 : Nat), .bool (d.lookup S.data.toList).isSome]) w := by
  obtain ⟨D, hown, hr⟩ := h
  obtain ⟨v, ps, hrun, hR⟩ := hown.look_ok keyS Tryz.underlying78 (zeroInt w) zd0_int (key_str S hS)
  obtain ⟨c, rfl, hc, _⟩ := plainElem_int_inv Tryz.underlying3 hR
  rw [(hr.at_ S.data.toList).2] at hc
  simp at hc
  rw [hrun, (hr.at_ S.data.toList).1, hc.1]
theorem MapN.len {w : World} {b : Nat} {d : Dir} (h : MapN w b d) (ty : TypeId) : (Builtin.len_ #[78] ty #[.map (some b)]).run Tryz.prog w = .ok (.int .i64 (d.length : Nat)) w := by
  obtain ⟨D, hown, hr⟩ := h
  rw [hown.len Tryz.underlying78 ty, hr.size]
theorem MapN.put {w : World} {b : Nat} {d : Dir} (h : MapN w b d) (hd : (d.map (·.1)).Nodup) (S : ByteArray) (hS : S.size ≤ 9223372036854775807) (n : Nat) (hn : n ≤ 4611686018427387904) (hl : d.length ≤ 4611686018427387904) :
    ∃ w', (Instr.mapUpdate 78 (.map (some b)) (.string S) (.int .i64 (n : Nat))).run Tryz.prog w = .ok () w' ∧ MapN w' b (d.less S.data.toList ++ [(S.data.toList, n)]) ∧ Keeps (OneB b) w w' := by
  obtain ⟨D, hown, hr⟩ := h
  have hv : (plainElem (H := Unit) Tryz.prog 3) (.int .i64 (n : Nat)) = some (.lit (.int .i64 (n : Nat)), []) := plainElem_int Tryz.underlying3 (wf_small (by omega))
  obtain ⟨w', hrun, hown', hg⟩ := hown.update keyS Tryz.underlying78 (by unfold maxLen; omega) (key_str S hS) hv
  have hm := ownsMap_tidy keyS hown
  have hll := less_len d S.data.toList hd
  have hsz : Maps.size (D.put (.string S.data.toList) (.lit (.int .i64 (n : Nat)))) = (d.less S.data.toList ++ [(S.data.toList, n)]).length := by
    rw [size_put hm, hr.size, (hr.at_ _).1, List.length_append]
    simp only [List.length_cons, List.length_nil]
    split <;> simp_all <;> omega
  refine ⟨w', hrun, ⟨_, hsz ▸ tight hown', hsz, fun x => ?_⟩, Keeps.of_grown hg (fun b' hb _ => by cases hb; rfl)⟩
  rw [List.lookup_append, lookup_less]
  by_cases hx : x = S.data.toList
  · subst hx
    rw [has_put_same hm.isMap (by simp [WideAt.IsKeyLit]), atKey_put_same hm.isMap (by simp [WideAt.IsKeyLit]), if_pos rfl]
    simp
  · have hne : Lit.string x ≠ Lit.string S.data.toList := fun e => hx (by injection e)
    have hb : (x == S.data.toList) = false := by simpa using hx
    rw [has_put_other hne, atKey_put_other hne, if_neg hx, (hr.at_ x).1, (hr.at_ x).2]
    simp [List.lookup_cons, hb]
theorem MapN.del {w : World} {b : Nat} {d : Dir} (h : MapN w b d) (hd : (d.map (·.1)).Nodup) (S : ByteArray) (hS : S.size ≤ 9223372036854775807) (ty : TypeId) :
    ∃ w', (Builtin.delete_ #[78, 9] ty #[.map (some b), .string S]).run Tryz.prog w = .ok (.tuple #[]) w' ∧ MapN w' b (d.less S.data.toList) ∧ Keeps (OneB b) w w' := by
  obtain ⟨D, hown, hr⟩ := h
  obtain ⟨w', hrun, hown', hg⟩ := hown.drop keyS Tryz.underlying78 (key_str S hS) ty
  have hm := ownsMap_tidy keyS hown
  have hll := less_len d S.data.toList hd
  have hsd := size_del (k := .string S.data.toList) hm
  have hsz : Maps.size (D.del (.string S.data.toList)) = (d.less S.data.toList).length := by
    rw [hr.size, (hr.at_ _).1] at hsd
    omega
  refine ⟨w', hrun, ⟨_, hsz ▸ tight hown', hsz, fun x => ?_⟩, Keeps.of_grown hg.grown (fun b' hb _ => by cases hb; rfl)⟩
  rw [lookup_less]
  by_cases hx : x = S.data.toList
  · subst hx
    rw [has_del_same, atKey_del_same, if_pos rfl]
    exact ⟨rfl, rfl⟩
  · have hne : Lit.string x ≠ Lit.string S.data.toList := fun e => hx (by injection e)
    rw [has_del_other hne, atKey_del_other hne, if_neg hx]
    exact hr.at_ x

/-! ### a range over names -/
/-- The range over the map b that holds d, by the iterator r: left tells which names are still to come. -/
def RangeN (w : World) (b r : Nat) (d : Dir) (left : List UInt8 → Bool) : Prop :=
  ∃ D lf cnt, w.ranges Tryz.prog 9 (plainElem (H := Unit) Tryz.prog 3) b r d.length D lf cnt ∧ NamesR D d ∧ ∀ s, left s = lf (.string s)
theorem RangeN.keeps {F : Nat → Prop} {w w' : World} {b r : Nat} {d : Dir} {left : List UInt8 → Bool} (h : RangeN w b r d left) (k : Keeps F w w') (hb : ¬ F b) (hr : ¬ F r) : RangeN w' b r d left := by
  obtain ⟨D, lf, cnt, ⟨es, clock, since, seen, c0, h1, h2, h3, h4, h5, h6⟩, h7, h8⟩ := h
  exact ⟨D, lf, cnt, ⟨es, clock, since, seen, c0, k.obj h1 hb, h2, h3, h4, k.obj h5 hr, h6⟩, h7, h8⟩
theorem RangeN.map {w : World} {b r : Nat} {d : Dir} {left : List UInt8 → Bool} (h : RangeN w b r d left) : MapN w b d := by
  obtain ⟨D, lf, cnt, h1, h2, _⟩ := h
  exact ⟨D, h1.owns, h2⟩
theorem str_inv (key : Value) (kl : Lit) (h : keyOf Tryz.prog 9 key = some kl) : ∃ S : ByteArray, key = .string S ∧ kl = .string S.data.toList ∧ S.size ≤ 9223372036854775807 := by
  cases key <;> simp [keyOf, Tryz.underlying9, mapKey] at h
  rename_i s
  exact ⟨s, rfl, h.2.symm, h.1⟩
section
variable {w : World} {ops : Array Oper} {rest : List Oper} {o : Oper} {a : Act} {Q : Exit → Act → World → Prop}
theorem wpList_range_names (hg : o.guard = none) (m : Operand) (hop : o.op = Op.range 78 m) {b : Nat} {d : Dir} (hm : a.eval m = .map (some b)) (h : MapN w b d)
    (hK : ∀ w', RangeN w' b w.heap.size d (fun s => (d.lookup s).isSome) → Keeps NoB w w' → w'.heap.size = w.heap.size + 1 → wpList Tryz.prog ops Q rest (a.put o.dst (.pointer (some ⟨w.heap.size, 0, none⟩))) w') :
    wpList Tryz.prog ops Q (o :: rest) a w := by
  obtain ⟨D, hown, hr⟩ := h
  refine wpList_range_own w hg m _ hop _ _ keyS Tryz.underlying78 (plainElem (H := Unit) Tryz.prog 3) b _ D hm hown fun w' h1 h2 h3 => hK w' ⟨D, _, _, h1, hr, fun s => (hr.at_ s).1.symm⟩ (Keeps.of_grown h2 (fun _ e => by cases e)) h3
theorem wpList_next_names (hg : o.guard = none) (it : Operand) (hop : o.op = Op.next it false) {b r : Nat} {d : Dir} {left : List UInt8 → Bool} (hit : a.eval it = .pointer (some ⟨r, 0, none⟩)) (h : RangeN w b r d left)
    (hDone : (∀ s, left s = false) → wpList Tryz.prog ops Q rest (a.put o.dst (.tuple #[.bool false])) w)
    (hMore : ∀ (S : ByteArray) (n : Nat) (w' : World), S.size ≤ 9223372036854775807 → d.lookup S.data.toList = some n → left S.data.toList = true → RangeN w' b r d (fun s => left s && s != S.data.toList) →
      Keeps (OneB r) w w' → w'.rangeLeft b r < w.rangeLeft b r → (Instr.entry (.pointer (some ⟨r, 0, none⟩))).run Tryz.prog w' = .ok (.tuple #[.string S, .int .i64 (n : Nat)]) w' → wpList Tryz.prog ops Q rest (a.put o.dst (.tuple #[.bool true, .string S, .int .i64 (n : Nat)])) w') :
    wpList Tryz.prog ops Q (o :: rest) a w := by
  obtain ⟨D, lf, cnt, hrg, hr, hl⟩ := h
  refine wpList_next_ranges w hg it hop _ keyS (plainElem (H := Unit) Tryz.prog 3) Value.string (Value.int .i64) (fun key kl hk => by obtain ⟨S, rfl, _⟩ := str_inv key kl hk; exact ⟨S, rfl⟩) (fun v y hv => by obtain ⟨c, rfl, _⟩ := plainElem_int_inv Tryz.underlying3 hv; exact ⟨c, rfl⟩)
    b r _ D lf cnt hit hrg (fun _ h0 => hDone fun s => by rw [hl, h0]) (fun S c kl y w' cnt' hk hlk hv hat hrg' hlt hgr hsz hen => ?_)
  obtain ⟨S', e, rfl, hS⟩ := str_inv _ _ hk
  cases e
  obtain ⟨c', e, rfl, _⟩ := plainElem_int_inv Tryz.underlying3 hv
  cases e
  have hhas := has_true_of_atKey hat
  have h1 := hat zd0
  rw [(hr.at_ S.data.toList).2] at h1
  rw [(hr.at_ S.data.toList).1] at hhas
  obtain ⟨n, hn⟩ := Option.isSome_iff_exists.1 hhas
  rw [hn] at h1
  simp at h1
  subst h1
  refine hMore S n w' hS hn (by rw [hl]; exact hlk) ⟨D, _, _, hrg', hr, fun s => ?_⟩ (Keeps.of_grown hgr (fun b' hb _ => by cases hb; rfl)) (by rw [hrg'.left_eq, hrg.left_eq]; exact hlt) hen
  show (left s && s != S.data.toList) = _
  rw [hl]
  congr 1
end

/-! ### files -/
/-- Block b is a map from numbers to the blocks g. -/
def MapF (w : World) (b : Nat) (N : Nat) (g : Nat → Option Nat) : Prop := ∃ D n, w.ownsMap Tryz.prog 3 ptrR b n D ∧ n ≤ N ∧ (∀ k : Nat, D.atKey (.int .i64 k) .nil = match g k with | some fb => .lit (.int .u64 (fb : Nat)) | none => .nil) ∧
  (∀ kl, Maps.has D kl = true → ∃ k : Nat, kl = .int .i64 k ∧ (g k).isSome ∧ k ≤ 4611686018427387904) ∧ ∀ k : Nat, (g k).isSome → Maps.has D (.int .i64 k) = true
theorem MapF.keeps {F : Nat → Prop} {w w' : World} {b N : Nat} {g : Nat → Option Nat} (h : MapF w b N g) (k : Keeps F w w') (hF : ¬ F b) : MapF w' b N g := by
  obtain ⟨D, n, ho, hr⟩ := h
  exact ⟨D, n, ownsMap_keeps ho k hF, hr⟩
theorem MapF.lt {w : World} {b N : Nat} {g : Nat → Option Nat} (h : MapF w b N g) : b < w.heap.size := by obtain ⟨D, n, ho, _⟩ := h; exact ho.lt
theorem MapF.isMap {w : World} {b N : Nat} {g : Nat → Option Nat} (h : MapF w b N g) : ∃ es c, w.heap[b]? = some (.map es c) := by obtain ⟨D, n, ⟨es, c, hb, _⟩, _⟩ := h; exact ⟨es, c, hb⟩
theorem MapF.mono {w : World} {b N N' : Nat} {g : Nat → Option Nat} (h : MapF w b N g) (hN : N ≤ N') : MapF w b N' g := by
  obtain ⟨D, n, ho, hn, hr⟩ := h
  exact ⟨D, n, ho, Nat.le_trans hn hN, hr⟩
theorem MapF.congr {w : World} {b N : Nat} {g g' : Nat → Option Nat} (h : MapF w b N g) (hg : ∀ k, g' k = g k) : MapF w b N g' := by
  have : g' = g := funext hg
  rw [this]; exact h
theorem MapF.made (w : World) : MapF (w.alloc (.map #[] 0)) w.heap.size 0 (fun _ => none) :=
  ⟨.map [], 0, World.ownsMap_made _ _ _ _, Nat.le_refl _, fun s => by simp [DataW.atKey], fun kl h => by simp [Maps.has] at h, fun k h => by cases h⟩
theorem key_int (k : Nat) (hk : k ≤ 4611686018427387904) : keyOf Tryz.prog 3 (.int .i64 (k : Nat)) = some (.int .i64 k) := Go.Maps.keyOf_int_mk (P := Tryz.prog) Tryz.underlying3 (wf_small (by omega))
theorem MapF.look {w : World} {b N : Nat} {g : Nat → Option Nat} (h : MapF w b N g) (k : Nat) (hk : k ≤ 4611686018427387904) :
    (Instr.lookup 77 (.map (some b)) (.int .i64 (k : Nat)) false).run Tryz.prog w = .ok (.pointer ((g k).map fun fb => ⟨fb, 0, none⟩)) w := by
  obtain ⟨D, n, hown, hn, hr, _⟩ := h
  obtain ⟨v, ps, hrun, hR⟩ := hown.lookup keyI Tryz.underlying77 (zeroPtr w) (show ptrR (.pointer none) = some (.nil, []) from rfl) (key_int k hk)
  rw [hr k] at hR
  rcases ptrR_inv hR with ⟨rfl, h1⟩ | ⟨fb, rfl, h1⟩
  · cases hg : g k with
    | none => rw [hrun]; rfl
    | some fb => rw [hg] at h1; simp at h1
  · cases hg : g k with
    | none => rw [hg] at h1; simp at h1
    | some fb' =>
      rw [hg] at h1
      simp at h1
      have : fb' = fb := by omega
      subst this
      rw [hrun]; rfl
theorem MapF.put {w : World} {b N : Nat} {g : Nat → Option Nat} (h : MapF w b N g) (k fb : Nat) (hk : k ≤ 4611686018427387904) (hN : N ≤ 4611686018427387904) :
    ∃ w', (Instr.mapUpdate 77 (.map (some b)) (.int .i64 (k : Nat)) (.pointer (some ⟨fb, 0, none⟩))).run Tryz.prog w = .ok () w' ∧ MapF w' b (N + 1) (fun j => if j = k then some fb else g j) ∧ Keeps (OneB b) w w' := by
  obtain ⟨D, n, hown, hn, hr, hs1, hs2⟩ := h
  obtain ⟨w', hrun, hown', hg⟩ := hown.update keyI Tryz.underlying77 (by unfold maxLen; omega) (key_int k hk) (show ptrR (.pointer (some ⟨fb, 0, none⟩)) = some (.lit (.int .u64 (fb : Nat)), []) from rfl)
  have hm := ownsMap_tidy keyI hown
  have hkey : WideAt.IsKeyLit (.int .i64 (k : Int)) := trivial
  have hne : ∀ j : Nat, j ≠ k → Lit.int .i64 (j : Int) ≠ Lit.int .i64 (k : Int) := fun j hj e => hj (Int.ofNat.inj (Lit.int.inj e).2)
  refine ⟨w', hrun, ⟨_, n + 1, hown', by omega, fun j => ?_, fun kl hkl => ?_, fun j hj => ?_⟩, Keeps.of_grown hg (fun b' hb _ => by cases hb; rfl)⟩
  · by_cases hj : j = k
    · subst hj; rw [atKey_put_same hm.isMap hkey]; simp
    · rw [atKey_put_other (hne j hj)]; simp only [if_neg hj]; exact hr j
  · by_cases hj : kl = .int .i64 (k : Int)
    · subst hj; exact ⟨k, rfl, by simp, hk⟩
    · rw [has_put_other hj] at hkl
      obtain ⟨j, rfl, h1, h2⟩ := hs1 kl hkl
      exact ⟨j, rfl, by simp only [if_neg (fun e : j = k => hj (by rw [e]))]; exact h1, h2⟩
  · by_cases hj' : j = k
    · subst hj'; exact has_put_same hm.isMap hkey _
    · simp only [if_neg hj'] at hj
      rw [has_put_other (hne j hj')]; exact hs2 j hj
end Go.Proofs.YtdjamijbhaplgaaGreat
