/- The file system, plainly: what the document says. -/
import Derived.Test.YtplnneicmdlahaaBase
namespace Go.Proofs.Ytplnneicmdlahaa
open Go.RowKit

structure DoneS where
  cut : Bool
  pos : Nat
  p : List UInt8
structure FileS where
  safe : List UInt8
  log : List DoneS
  data : List UInt8
structure MoveS where
  kind : Nat
  a : List UInt8
  b : List UInt8
  n : Nat
abbrev Dir := List (List UInt8 × Nat)
structure FSt where
  F : List FileS
  D : Dir
  S : Dir
  M : List MoveS
  cap : Int
  ops : Nat
  left : Int
  off : Bool
structure TornS where
  file : Int
  writes : Int
  bytes : Int

def nameChar (c : UInt8) : Bool := (decide (97 ≤ c.toNat) && decide (c.toNat ≤ 122)) || (decide (48 ≤ c.toNat) && decide (c.toNat ≤ 57)) || c.toNat == 46 || c.toNat == 45 || c.toNat == 95 || c.toNat == 47
def nameOk (s : List UInt8) : Bool := decide (1 ≤ s.length) && decide (s.length ≤ 64) && s.all nameChar
def nameE (s : List UInt8) : Int := if nameOk s then 0 else 20

def noFile : FileS := ⟨[], [], []⟩
def Dir.less (d : Dir) (s : List UInt8) : Dir := d.filter fun e => e.1 != s
def Dir.at_ (d : Dir) (s : List UInt8) : Option Nat := d.lookup s
def moved (d : Dir) (m : MoveS) : Dir :=
  if m.kind = 99 then d ++ [(m.a, m.n)]
  else if m.kind = 100 then d.less m.a
  else match d.at_ m.a with
    | none => d
    | some n => if m.a = m.b then d else (d.less m.a).less m.b ++ [(m.b, n)]
def doneOn (p : List UInt8) (x : DoneS) : List UInt8 := if x.cut then p.take x.pos else p.take x.pos ++ x.p ++ p.drop (x.pos + x.p.length)
def doneAll (p : List UInt8) (l : List DoneS) : List UInt8 := l.foldl doneOn p
def movedAll (d : Dir) (l : List MoveS) : Dir := l.foldl moved d

namespace FSt
def fresh (cap : Int) : FSt := ⟨[], [], [], [], cap, 0, -1, false⟩
def file (s : FSt) (n : Nat) : FileS := s.F.getD (n - 1) noFile
def on (s : FSt) : Int := if s.off then 21 else 0
def named1 (s : FSt) (a : List UInt8) : Int := if s.off then 21 else nameE a
def there (s : FSt) (n : Int) : Int := if s.off then 21 else if s.D.any (fun e => ((e.2 : Nat) : Int) == n) then 0 else 7
def used (s : FSt) : Nat := (s.D.map fun e => (s.file e.2).data.length).sum
def counts (s : FSt) : FSt := { s with ops := s.ops + 1, left := if 0 < s.left then s.left - 1 else s.left, off := if 0 < s.left then decide (s.left = 1) else s.off }
def change (s : FSt) (m : MoveS) : FSt := counts { s with D := moved s.D m, M := s.M ++ [m] }
def setFile (s : FSt) (n : Nat) (x : FileS) : FSt := { s with F := s.F.set (n - 1) x }
def does (s : FSt) (n : Nat) (d : DoneS) : FSt := counts (s.setFile n { s.file n with log := (s.file n).log ++ [d], data := doneOn (s.file n).data d })
def create (s : FSt) (a : List UInt8) : Int × Int × FSt :=
  if s.named1 a ≠ 0 then (0, s.named1 a, s)
  else if (s.D.at_ a).isSome then (0, 8, s)
  else if 4096 ≤ s.D.length then (0, 6, s)
  else (s.F.length + 1, 0, change { s with F := s.F ++ [noFile] } ⟨99, a, [], s.F.length + 1⟩)
def opened (s : FSt) (a : List UInt8) : Int × Int :=
  if s.named1 a ≠ 0 then (0, s.named1 a)
  else match s.D.at_ a with
    | none => (0, 7)
    | some n => (n, 0)
def write (s : FSt) (n : Int) (pos : Int) (p : List UInt8) : Int × FSt :=
  if s.there n ≠ 0 then (s.there n, s)
  else if pos < 0 ∨ ((s.file n.toNat).data.length : Int) < pos then (2, s)
  else if 0 < pos + p.length - ((s.file n.toNat).data.length : Int) ∧ s.cap - s.used < pos + p.length - ((s.file n.toNat).data.length : Int) then (5, s)
  else (0, s.does n.toNat ⟨false, pos.toNat, p⟩)
def append (s : FSt) (n : Int) (p : List UInt8) : Int × FSt :=
  if s.there n ≠ 0 then (s.there n, s) else s.write n ((s.file n.toNat).data.length : Nat) p
def cutAt (s : FSt) (n : Int) (size : Int) : Int × FSt :=
  if s.there n ≠ 0 then (s.there n, s)
  else if size < 0 ∨ ((s.file n.toNat).data.length : Int) < size then (2, s)
  else (0, s.does n.toNat ⟨true, size.toNat, []⟩)
def read (s : FSt) (n pos most : Int) : List UInt8 × Int :=
  if s.there n ≠ 0 then ([], s.there n)
  else if pos < 0 ∨ ((s.file n.toNat).data.length : Int) < pos ∨ most < 0 then ([], 2)
  else (((s.file n.toNat).data.drop pos.toNat).take most.toNat, 0)
def size (s : FSt) (n : Int) : Int × Int := if s.there n ≠ 0 then (0, s.there n) else ((s.file n.toNat).data.length, 0)
def sync (s : FSt) (n : Int) : Int × FSt :=
  if s.there n ≠ 0 then (s.there n, s)
  else (0, counts (s.setFile n.toNat { s.file n.toNat with safe := (s.file n.toNat).data, log := [] }))
def named2 (s : FSt) (a b : List UInt8) : Int := if s.off then 21 else if nameE a ≠ 0 then 20 else nameE b
def rename (s : FSt) (a b : List UInt8) : Int × FSt :=
  if s.named2 a b ≠ 0 then (s.named2 a b, s)
  else if (s.D.at_ a).isNone then (7, s)
  else (0, s.change ⟨114, a, b, 0⟩)
def remove (s : FSt) (a : List UInt8) : Int × FSt :=
  if s.named1 a ≠ 0 then (s.named1 a, s)
  else if (s.D.at_ a).isNone then (7, s)
  else (0, s.change ⟨100, a, [], 0⟩)
def syncDir (s : FSt) : Int × FSt := if s.off then (21, s) else (0, counts { s with S := s.D, M := [] })
def waiting (s : FSt) (n : Int) : Nat := if s.D.any (fun e => ((e.2 : Nat) : Int) == n) then (s.file n.toNat).log.length else 0
def arm (s : FSt) (n : Int) : FSt := if s.off then s else { s with left := max n (-1), off := decide (n = 0) }
end FSt

def tornOf (l : List TornS) (n : Int) : TornS := (l.find? fun t => t.file == n).getD ⟨0, 0, 0⟩
def FileS.crash (x : FileS) (t : TornS) : FileS :=
  let k := min t.writes.toNat x.log.length
  let p := doneAll x.safe (x.log.take k)
  let q := match x.log[k]? with
    | some d => if d.cut then p else doneOn p { d with p := d.p.take t.bytes.toNat }
    | none => p
  ⟨q, [], q⟩
def FSt.crash (s : FSt) (dir : Int) (l : List TornS) : FSt :=
  { s with F := s.F.mapIdx (fun i x => x.crash (tornOf l ((i + 1 : Nat) : Int))), D := movedAll s.S (s.M.take dir.toNat), S := movedAll s.S (s.M.take dir.toNat), M := [], left := -1, off := false }
end Go.Proofs.Ytplnneicmdlahaa
