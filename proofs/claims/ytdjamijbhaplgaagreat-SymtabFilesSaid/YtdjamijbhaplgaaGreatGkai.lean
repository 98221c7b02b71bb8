/- simfs: which names may be. -/
import Derived.Lib.Bytealg
import Derived.Lib.Walk
import Derived.Test.YtdjamijbhaplgaaGreatGkah
import Derived.Test.YtdjamijbhaplgaaGreatGkaa
import Derived.Test.YtdjamijbhaplgaaGreatGkad
namespace Go.Proofs.YtdjamijbhaplgaaGreat
open Go.RowKit

set_option maxRecDepth 100000 in
theorem ixb_any (s : ByteArray) (c : Int) (w : World) :
    Calls Tryz.prog 113 #[.string s, .int .u8 c] w fun e w' => e = .returned (.int .i64 (Lib.indexByte s.data.toList c.toNat.toUInt8)) ∧ w = w' := by
  go_enter Tryz.func113, Tryz.ntmps113
  go_wp2
  rw [run_callFunc_extern Tryz.func122 (by kernel_rfl) (by kernel_rfl) (by kernel_rfl) (e := Extern.BytealgIndexByte.indexByte) (by kernel_rfl), Lib.run_indexByteString]
  simp only [Result.andThen]
  rw [Oper.upon_value]
  go_wp2
  go_ret
  exact ⟨rfl, rfl⟩
theorem indexByte_neg (l : List UInt8) (c : UInt8) : decide (Lib.indexByte l c < 0) = !l.contains c := by
  induction l with
  | nil => rfl
  | cons b l ih =>
    have hg := Lib.indexByte_ge l c
    unfold Lib.indexByte
    by_cases hb : b = c
    · subst hb; simp
    · rw [if_neg (by simpa using hb)]
      have h2 : (b :: l).contains c = l.contains c := by simp [Ne.symm hb]
      rw [h2, ← ih]
      by_cases hn : Lib.indexByte l c = -1
      · simp [hn]
      · rw [if_neg (by simpa using hn)]
        simp
        omega
theorem indexByte_pos (l : List UInt8) (c : UInt8) : decide (0 ≤ Lib.indexByte l c) = l.contains c := by
  have h := indexByte_neg l c
  cases hc : l.contains c
  · rw [hc] at h
    have : Lib.indexByte l c < 0 := by simpa using h
    simp; omega
  · rw [hc] at h
    have : ¬ Lib.indexByte l c < 0 := by simpa using h
    simp; omega
set_option maxHeartbeats 1000000 in
theorem slx_one (s : ByteArray) (c : UInt8) (w : World) :
    Calls Tryz.prog 124 #[.string s, .string ⟨#[c]⟩] w fun e w' => e = .returned (.int .i64 (Lib.indexByte s.data.toList c)) ∧ w = w' := by
  go_enter Tryz.func124, Tryz.ntmps124
  go_wp2_with (go_at_call 113; refine (ixb_any s (c.toNat : Int) w).mono ?_; rintro e w' ⟨rfl, rfl⟩)
  · rename_i h
    go_ret
    refine ⟨?_, rfl⟩
    have h2 : s.data.toList = [c] := by rw [ByteArray.toList_eq] at h; exact (eq_of_beq h).symm
    rw [h2]
    simp [Lib.indexByte]
  · go_ret
    exact ⟨rfl, rfl⟩
theorem sidx_one (s : ByteArray) (c : UInt8) (w : World) :
    Calls Tryz.prog 123 #[.string s, .string ⟨#[c]⟩] w fun e w' => e = .returned (.int .i64 (Lib.indexByte s.data.toList c)) ∧ w = w' := by
  go_enter Tryz.func123, Tryz.ntmps123
  go_wp2_with (go_at_call 124; refine (slx_one s c w).mono ?_; rintro e w' ⟨rfl, rfl⟩)
  go_ret
  exact ⟨rfl, rfl⟩
theorem scon_one (s : ByteArray) (c : UInt8) (w : World) :
    Calls Tryz.prog 117 #[.string s, .string ⟨#[c]⟩] w fun e w' => e = .returned (.bool (s.data.toList.contains c)) ∧ w = w' := by
  have h := indexByte_pos s.data.toList c
  go_enter Tryz.func117, Tryz.ntmps117
  go_wp2_with (go_at_call 123; refine (sidx_one s c w).mono ?_; rintro e w' ⟨rfl, rfl⟩)
  go_ret
  exact ⟨by simp, rfl⟩

def alphaL : List UInt8 := [97, 98, 99, 100, 101, 102, 103, 104, 105, 106, 107, 108, 109, 110, 111, 112, 113, 114, 115, 116, 117, 118, 119, 120, 121, 122, 48, 49, 50, 51, 52, 53, 54, 55, 56, 57, 46, 45, 95, 47]
theorem alpha_fin : ∀ n : Fin 256, alphaL.contains (UInt8.ofNat n.val) = nameChar (UInt8.ofNat n.val) := by decide +kernel
theorem alpha_has (c : UInt8) : alphaL.contains c = nameChar c := by
  have := alpha_fin ⟨c.toNat, c.toNat_lt⟩
  simpa using this
/-- The string of one byte. -/
theorem extract_one (s : ByteArray) (k : Nat) (hk : k < s.data.toList.length) : s.extract k (k + 1) = ⟨#[s.data.toList[k]]⟩ := by
  have hk' : k < s.data.size := by simpa using hk
  apply ByteArray.ext
  apply Array.ext'
  simp [ByteArray.data_extract]
  rw [List.take_one]
  simp
set_option maxHeartbeats 2000000 in
theorem cname_any (s : ByteArray) (hs : s.size ≤ 9223372036854775807) (w : World) : Calls Tryz.prog 106 #[.string s] w fun e w' => e = .returned (.int .i64 (nameE s.data.toList)) ∧ w = w' := by
  have hsz : s.data.toList.length = s.size := by rw [Array.length_toList]; rfl
  by_cases h0 : s.size = 0
  · have hz : s = ⟨#[]⟩ := by
      apply ByteArray.ext
      exact Array.eq_empty_of_size_eq_zero h0
    subst hz
    go_enter Tryz.func106, Tryz.ntmps106
    go_wp2
    go_ret
    exact ⟨rfl, rfl⟩
  have hne : (s.toList == []) = false := by
    rw [ByteArray.toList_eq]
    cases hd : s.data.toList with
    | nil => rw [hd] at hsz; exact absurd hsz.symm h0
    | cons a l => rfl
  by_cases h1 : 64 < s.size
  · have hq : decide ((64 : Int) < (s.size : Int)) = true := by simp; omega
    have hE : nameE s.data.toList = 20 := by
      unfold nameE nameOk
      rw [hsz, show decide (s.size ≤ 64) = false by simp; omega]
      simp
    rw [hE]
    go_enter Tryz.func106, Tryz.ntmps106
    go_wp2
    all_goals (go_ret; exact ⟨rfl, rfl⟩)
  have hq : decide ((64 : Int) < (s.size : Int)) = false := by simp; omega
  have hmid : nameOk s.data.toList = s.data.toList.all nameChar := by
    unfold nameOk
    rw [hsz, show decide (s.size ≤ 64) = true by simp; omega, show decide (1 ≤ s.size) = true by simp; omega]
    simp
  have HM := Sd.mk hmid
  clear hmid h0 h1
  go_enter Tryz.func106, Tryz.ntmps106
  go_wp2_with fail
  go_loopg [13] s.size (fun gk i wr => ∃ (j : Nat), gk + j = s.size ∧ i = .int .i64 j ∧ Sd ((s.data.toList.take j).all nameChar = true) ∧ Sd (w = wr))
  case atStart => exact ⟨0, by omega, rfl, ⟨by simp⟩, ⟨rfl⟩⟩
  case round =>
    obtain ⟨j, hj, rfl, hno, ⟨rfl⟩⟩ := hrel
    by_cases hlt : j < s.size
    · have hq : (j : Int) < (s.size : Int) := by omega
      have hjl : j < s.data.toList.length := by omega
      have hx := extract_one s j hjl
      have hin : s.data.toList[j] ∈ s.data.toList := List.getElem_mem hjl
      have htk : s.data.toList.take (j + 1) = s.data.toList.take j ++ [s.data.toList[j]] := List.take_succ_eq_append_getElem hjl
      generalize s.data.toList[j] = c at *
      have hal : alphaL.contains c = nameChar c := alpha_has c
      have HC : Sd (Calls Tryz.prog 117 #[.string ⟨alphaL.toArray⟩, .string ⟨#[c]⟩] w fun e w' => e = .returned (.bool (nameChar c)) ∧ w = w') := ⟨by
        have := scon_one ⟨alphaL.toArray⟩ c w
        rwa [show (⟨alphaL.toArray⟩ : ByteArray).data.toList = alphaL from rfl, hal] at this⟩
      have hsl : (Instr.slice 9 (.string s) (some (.int .i64 (j : Int))) (some (.int .i64 ((j : Int) + 1))) none).run Tryz.prog w = .ok (.string ⟨#[c]⟩) w := by
        rw [← hx]
        have := run_slice_string (P := Tryz.prog) w 9 s .i64 .i64 (j : Int) ((j : Int) + 1) Tryz.underlying9 (by omega) (by omega) (by omega)
        rw [this]
        simp
      have HX := Sd.mk hx
      have HIN := Sd.mk hin
      have HTK := Sd.mk htk
      clear hx hin htk hal hjl hsz
      cases hb : nameChar c with
      | false =>
        have hE : Sd (nameE s.data.toList = 20) := ⟨by
          unfold nameE
          rw [HM.o, if_neg]
          intro h
          have := List.all_eq_true.1 h c HIN.o
          rw [hb] at this; cases this⟩
        go_wp2_with fail
        refine HC.o.mono ?_
        rintro e w' ⟨rfl, rfl⟩
        rw [hb]
        go_wp2
        go_ret
        exact ⟨by rw [hE.o]; rfl, rfl⟩
      | true =>
        go_wp2_with fail
        refine HC.o.mono ?_
        rintro e w' ⟨rfl, rfl⟩
        rw [hb]
        go_wp2
        go_roundg (gk - 1)
        case measure => omega
        case rel => exact ⟨j + 1, by omega, by go_num, ⟨by rw [HTK.o, List.all_append, hno.o]; simp [hb]⟩, ⟨rfl⟩⟩
    · have hq : ¬ (j : Int) < (s.size : Int) := by omega
      have hE : Sd (nameE s.data.toList = 0) := ⟨by
        have h := hno.o
        rw [List.take_of_length_le (by omega)] at h
        unfold nameE
        rw [HM.o, if_pos h]⟩
      go_wp2_with fail
      go_ret
      exact ⟨by rw [hE.o]; rfl, rfl⟩
end Go.Proofs.YtdjamijbhaplgaaGreat
namespace Go.Proofs.YtdjamijbhaplgaaGreat
open Go.RowKit Go.Maps

/-- Bytes that lie in a row of bytes. -/
def RowU (w : World) (v : Value) (xs : List UInt8) : Prop := Bts w v xs ∧ ∀ a n c, v = .slice (some a) n c → 0 < c → ∃ cur h, w.heap[a.block]? = some (.cells cur 5 h)
/-- No block of F is a row of bytes. -/
def NotU8 (w : World) (F : Nat → Prop) : Prop := ∀ k, F k → ∀ cur h, w.heap[k]? ≠ some (.cells cur 5 h)
theorem NotU8.noB (w : World) : NotU8 w NoB := fun _ f => f.elim
theorem RowU.keeps {F : Nat → Prop} {w w' : World} {v : Value} {xs : List UInt8} (h : RowU w v xs) (k : Keeps F w w') (hF : NotU8 w F) : RowU w' v xs := by
  have hn : ∀ a n c, v = .slice (some a) n c → 0 < c → ¬ F a.block := fun a n c e hc f => by
    obtain ⟨cur, q, hb⟩ := h.2 a n c e hc
    exact hF _ f _ _ hb
  refine ⟨h.1.keeps k (fun a n c e hc => hn a n c e hc), fun a n c e hc => ?_⟩
  obtain ⟨cur, q, hb⟩ := h.2 a n c e hc
  exact ⟨cur, q, k.obj hb (hn a n c e hc)⟩
theorem RowU.nil (w : World) : RowU w (.slice none 0 0) [] := ⟨⟨none, 0, rfl, Nat.le_refl _, Nat.zero_le _, fun _ => rfl, fun h => absurd h (by decide), fun i hi => by simp at hi⟩, fun a n c e _ => by cases e⟩

def doneCells (d : DoneS) : List Value := [.bool d.cut, .int .i64 d.pos, .string (sOf d.p)]
def moveCells (m : MoveS) : List Value := [.int .u8 m.kind, .string (sOf m.a), .string (sOf m.b), .int .i64 m.n]
/-- An owned row of values of more cells. -/
def OwnW (w : World) (e : TypeId) (size : Nat) (v : Value) (n : Nat) (xs : List Value) : Prop := w.ownsRow 0 e size v n xs
theorem OwnW.keeps {F : Nat → Prop} {w w' : World} {e : TypeId} {size n : Nat} {v : Value} {xs : List Value} (h : OwnW w e size v n xs) (k : Keeps F w w') (hF : Off F v) : OwnW w' e size v n xs := by
  obtain ⟨h1, h2⟩ := h
  refine ⟨h1, ?_⟩
  rcases h2 with h2 | ⟨g, cap, cur, rfl, hb, hg, r⟩
  · exact .inl h2
  · exact .inr ⟨g, cap, cur, rfl, hb, k.obj hg (hF g rfl), r⟩
theorem OwnW.blk {w : World} {e : TypeId} {size n : Nat} {v : Value} {xs : List Value} (h : OwnW w e size v n xs) {k : Nat} (hk : v.ownBlock = some k) : ∃ cur, w.heap[k]? = some (.cells cur e (0, 0)) := by
  rcases h.2 with ⟨rfl, _⟩ | ⟨g, cap, cur, rfl, hb, hg, r⟩
  · simp [Value.ownBlock] at hk
  · simp [Value.ownBlock] at hk
    subst hk
    exact ⟨cur, hg⟩
theorem OwnW.lt {w : World} {e : TypeId} {size n : Nat} {v : Value} {xs : List Value} (h : OwnW w e size v n xs) {k : Nat} (hk : v.ownBlock = some k) : k < w.heap.size := by
  obtain ⟨cur, hb⟩ := h.blk hk
  exact (Array.getElem?_eq_some_iff.1 hb).1
theorem OwnW.slice {w : World} {e : TypeId} {size n : Nat} {v : Value} {xs : List Value} (h : OwnW w e size v n xs) : ∃ A c, v = .slice A n c ∧ n ≤ c ∧ c ≤ maxLen := by
  rcases h.2 with ⟨rfl, rfl⟩ | ⟨g, cap, cur, rfl, hb, hg, h1, h2, r⟩
  · exact ⟨none, 0, rfl, Nat.le_refl _, Nat.zero_le _⟩
  · exact ⟨_, _, rfl, h1, h2⟩
def LogV (w : World) (v : Value) (l : List DoneS) : Prop := OwnW w 153 3 v l.length (l.flatMap doneCells)
def MovesV (w : World) (v : Value) (l : List MoveS) : Prop := OwnW w 88 4 v l.length (l.flatMap moveCells)
theorem logV_nil (w : World) : LogV w (.slice none 0 0) [] := World.ownsRow_nil w 0 _ 3
theorem movesV_nil (w : World) : MovesV w (.slice none 0 0) [] := World.ownsRow_nil w 0 _ 4

/-- Where a file lies: its block, its three slices. -/
structure FMem where
  fb : Nat
  dv : Value
  sv : Value
  lv : Value
def FMem.O (f : FMem) : Nat → Prop := fun k => k = f.fb ∨ f.lv.ownBlock = some k
structure IsFile (w : World) (f : FMem) (x : FileS) : Prop where
  blk : w.heap[f.fb]? = some (.cells #[f.dv, f.sv, f.lv] 111 (0, 0))
  dat : RowU w f.dv x.data
  saf : RowU w f.sv x.safe
  log : LogV w f.lv x.log
theorem IsFile.keeps {F : Nat → Prop} {w w' : World} {f : FMem} {x : FileS} (h : IsFile w f x) (k : Keeps F w w') (hF : ∀ i, f.O i → ¬ F i) (hu : NotU8 w F) : IsFile w' f x :=
  ⟨k.obj h.blk (hF _ (.inl rfl)), h.dat.keeps k hu, h.saf.keeps k hu, h.log.keeps k (fun i hi => hF i (.inr hi))⟩
theorem IsFile.lt {w : World} {f : FMem} {x : FileS} (h : IsFile w f x) : ∀ i, f.O i → i < w.heap.size := fun i hi => by
  rcases hi with rfl | hi
  · exact (Array.getElem?_eq_some_iff.1 h.blk).1
  · exact h.log.lt hi
/-- Where a file system lies. -/
structure FsMem where
  b : Nat
  mf : Nat
  mn : Nat
  ms : Nat
  g : Nat → Option FMem
  mv : Value
def FsMem.O (m : FsMem) : Nat → Prop := fun k => k = m.b ∨ k = m.mf ∨ k = m.mn ∨ k = m.ms ∨ m.mv.ownBlock = some k ∨ ∃ n f, m.g n = some f ∧ f.O k
def fsCells (m : FsMem) (s : FSt) : Array Value := #[.map (some m.mf), .int .i64 (s.F.length : Nat), .map (some m.mn), .map (some m.ms), m.mv, .int .i64 s.cap, .int .i64 (s.ops : Nat), .int .i64 s.left, .bool s.off]
structure IsFS (w : World) (m : FsMem) (s : FSt) : Prop where
  blk : w.heap[m.b]? = some (.cells (fsCells m s) 81 (0, 0))
  files : MapF w m.mf (s.F.length + 4096) (fun n => (m.g n).map (·.fb))
  names : MapN w m.mn s.D
  safe : MapN w m.ms s.S
  moves : MovesV w m.mv s.M
  file : ∀ n f, m.g n = some f → 1 ≤ n ∧ n ≤ s.F.length ∧ IsFile w f (s.file n)
  apart : ∀ n n' f f', m.g n = some f → m.g n' = some f' → n ≠ n' → ∀ i, f.O i → ¬ f'.O i
  maps : m.mn ≠ m.ms ∧ m.mf ≠ m.mn ∧ m.mf ≠ m.ms
  has : (∀ e ∈ s.D, (m.g e.2).isSome) ∧ (∀ e ∈ s.S, (m.g e.2).isSome) ∧ ∀ x ∈ s.M, x.kind = 99 → (m.g x.n).isSome
/-- What holds of every file system. -/
structure FsOk (s : FSt) : Prop where
  dirD : GoodDir s.F.length s.D
  dirS : GoodDir s.F.length s.S
  path : PathOk s.F.length s.S s.M
  cur : s.D = movedAll s.S s.M
  cap : 0 ≤ s.cap ∧ s.cap ≤ 67108864
  left : -1 ≤ s.left ∧ s.left ≤ 9223372036854775807
  len : s.D.length ≤ 4096
  lens : ∀ k, (movedAll s.S (s.M.take k)).length ≤ 4096
/-- The bounds that grow by one with each operation. -/
structure FsLim (N : Nat) (s : FSt) : Prop where
  ops : s.ops ≤ N
  files : s.F.length ≤ N
  moves : s.M.length ≤ N
  log : ∀ n, (s.file n).log.length ≤ N
  strs : ∀ x ∈ s.M, x.a.length ≤ 9223372036854775807 ∧ x.b.length ≤ 9223372036854775807
  dat : ∀ n, ∀ d ∈ (s.file n).log, d.p.length ≤ 70368744177664
/-- Bytes are few, and every write and cut lies within them. -/
def LogOk : List UInt8 → List DoneS → Prop
  | p, [] => p.length ≤ 67108864
  | p, d :: l => p.length ≤ 67108864 ∧ d.pos ≤ p.length ∧ LogOk (doneOn p d) l
def FilesOk (s : FSt) : Prop := ∀ n, LogOk (s.file n).safe (s.file n).log ∧ (s.file n).data = doneAll (s.file n).safe (s.file n).log
theorem LogOk.small : ∀ {l : List DoneS} {p : List UInt8}, LogOk p l → p.length ≤ 67108864
  | [], _, h => h
  | _ :: _, _, h => h.1
theorem LogOk.all : ∀ {l : List DoneS} {p : List UInt8}, LogOk p l → (doneAll p l).length ≤ 67108864
  | [], _, h => h
  | d :: l, p, h => LogOk.all (l := l) (p := doneOn p d) h.2.2
theorem LogOk.snoc : ∀ {l : List DoneS} {p : List UInt8} {d : DoneS}, LogOk p l → d.pos ≤ (doneAll p l).length → (doneOn (doneAll p l) d).length ≤ 67108864 → LogOk p (l ++ [d])
  | [], _, _, h, h1, h2 => ⟨h, h1, h2⟩
  | e :: l, p, d, h, h1, h2 => ⟨h.1, h.2.1, LogOk.snoc (l := l) (p := doneOn p e) h.2.2 h1 h2⟩
theorem LogOk.take : ∀ {l : List DoneS} {p : List UInt8} (k : Nat), LogOk p l → LogOk p (l.take k)
  | [], _, k, h => by simpa using h
  | _ :: _, _, 0, h => h.1
  | d :: l, p, k + 1, h => ⟨h.1, h.2.1, LogOk.take (l := l) (p := doneOn p d) k h.2.2⟩
theorem LogOk.at_ : ∀ {l : List DoneS} {p : List UInt8} (k : Nat) (hk : k < l.length), LogOk p l → (l[k]).pos ≤ (doneAll p (l.take k)).length
  | d :: l, p, 0, _, h => h.2.1
  | d :: l, p, k + 1, hk, h => by
    simp only [List.length_cons] at hk
    simpa [doneAll] using LogOk.at_ (l := l) (p := doneOn p d) k (by omega) h.2.2
theorem LogOk.next : ∀ {l : List DoneS} {p : List UInt8} (k : Nat) (hk : k < l.length), LogOk p l → (doneOn (doneAll p (l.take k)) l[k]).length ≤ 67108864
  | d :: l, p, 0, _, h => LogOk.small h.2.2
  | d :: l, p, k + 1, hk, h => by
    simp only [List.length_cons] at hk
    simpa [doneAll] using LogOk.next (l := l) (p := doneOn p d) k (by omega) h.2.2
theorem FilesOk.small {s : FSt} (h : FilesOk s) (n : Nat) : (s.file n).data.length ≤ 67108864 := by rw [(h n).2]; exact (h n).1.all

/-! ### what is kept -/
theorem FsMem.lt {w : World} {m : FsMem} {s : FSt} (h : IsFS w m s) : ∀ i, m.O i → i < w.heap.size := fun i hi => by
  rcases hi with rfl | rfl | rfl | rfl | hi | ⟨n, f, hg, hi⟩
  · exact (Array.getElem?_eq_some_iff.1 h.blk).1
  · exact h.files.lt
  · exact h.names.lt
  · exact h.safe.lt
  · exact h.moves.lt hi
  · exact (h.file n f hg).2.2.lt i hi
theorem FMem.notU8 {w : World} {f : FMem} {x : FileS} (h : IsFile w f x) : NotU8 w f.O := fun k hk cur q hb => by
  rcases hk with rfl | hk
  · rw [h.blk] at hb; cases hb
  · obtain ⟨cur', hb'⟩ := h.log.blk hk
    rw [hb'] at hb; cases hb
theorem FsMem.notU8 {w : World} {m : FsMem} {s : FSt} (h : IsFS w m s) : NotU8 w m.O := fun k hk cur q hb => by
  rcases hk with rfl | rfl | rfl | rfl | hk | ⟨n, f, hg, hk⟩
  · rw [h.blk] at hb; cases hb
  · obtain ⟨es, c, hb'⟩ := h.files.isMap; rw [hb'] at hb; cases hb
  · obtain ⟨es, c, hb'⟩ := h.names.isMap; rw [hb'] at hb; cases hb
  · obtain ⟨es, c, hb'⟩ := h.safe.isMap; rw [hb'] at hb; cases hb
  · obtain ⟨cur', hb'⟩ := h.moves.blk hk; rw [hb'] at hb; cases hb
  · exact FMem.notU8 (h.file n f hg).2.2 k hk _ _ hb
theorem IsFS.keeps {F : Nat → Prop} {w w' : World} {m : FsMem} {s : FSt} (h : IsFS w m s) (k : Keeps F w w') (hF : ∀ i, m.O i → ¬ F i) (hu : NotU8 w F) : IsFS w' m s :=
  ⟨k.obj h.blk (hF _ (.inl rfl)), h.files.keeps k (hF _ (.inr (.inl rfl))), h.names.keeps k (hF _ (.inr (.inr (.inl rfl)))), h.safe.keeps k (hF _ (.inr (.inr (.inr (.inl rfl))))),
   h.moves.keeps k (fun i hi => hF i (.inr (.inr (.inr (.inr (.inl hi)))))), fun n f hg => ⟨(h.file n f hg).1, (h.file n f hg).2.1, (h.file n f hg).2.2.keeps k (fun i hi => hF i (.inr (.inr (.inr (.inr (.inr ⟨n, f, hg, hi⟩)))))) hu⟩, h.apart, h.maps, h.has⟩
theorem IsFS.kept {w w' : World} {m : FsMem} {s : FSt} (h : IsFS w m s) (k : Keeps NoB w w') : IsFS w' m s := h.keeps k (fun _ _ f => f) (NotU8.noB w)
/-- The block of a slice. -/
def datB (v : Value) : Option Nat := match v with
  | .slice a _ c => if c = 0 then none else a.map (·.block)
  | _ => none
/-- A slice in the same block, or in a new one. -/
def DGrew (w : World) (v v' : Value) : Prop := ∀ k, datB v' = some k → datB v = some k ∨ w.heap.size ≤ k
theorem DGrew.refl (w : World) (v : Value) : DGrew w v v := fun _ h => .inl h
theorem DGrew.older {w w1 : World} {v v' : Value} (h : DGrew w1 v v') (hs : w.heap.size ≤ w1.heap.size) : DGrew w v v' := fun k hk => (h k hk).imp id (fun h => Nat.le_trans hs h)
theorem DGrew.nil (w : World) (v : Value) : DGrew w v (.slice none 0 0) := fun k hk => by cases hk
/-- Bytes that are read lie in a block that is there. -/
theorem RowU.datLt {w : World} {v : Value} {xs : List UInt8} (h : RowU w v xs) {k : Nat} (hk : datB v = some k) : k < w.heap.size := by
  cases v <;> simp only [datB, reduceCtorEq] at hk
  rename_i a n c
  split at hk
  · cases hk
  · rename_i hc
    cases a with
    | none => cases hk
    | some ad =>
      cases hk
      obtain ⟨cur, q, hb⟩ := h.2 ad n c rfl (by omega)
      exact (Array.getElem?_eq_some_iff.1 hb).1
/-- The blocks in which files' bytes lie. -/
def FsMem.DB (m : FsMem) (k : Nat) : Prop := ∃ n f, m.g n = some f ∧ (datB f.dv = some k ∨ datB f.sv = some k)
/-- m' owns what m owned, and blocks that came later; its bytes lie where m's lay, or in blocks that came later. -/
def Grows (w : World) (m m' : FsMem) : Prop := (∀ k, m'.O k → m.O k ∨ w.heap.size ≤ k) ∧ ∀ k, m'.DB k → m.DB k ∨ w.heap.size ≤ k
theorem Grows.refl (w : World) (m : FsMem) : Grows w m m := ⟨fun _ h => .inl h, fun _ h => .inl h⟩
theorem Grows.trans {w w' : World} {a b c : FsMem} (h : Grows w a b) (k : Grows w' b c) (hs : w.heap.size ≤ w'.heap.size) : Grows w a c := by
  refine ⟨fun i hi => ?_, fun i hi => ?_⟩
  · rcases k.1 i hi with h1 | h1
    · exact h.1 i h1
    · exact .inr (Nat.le_trans hs h1)
  · rcases k.2 i hi with h1 | h1
    · exact h.2 i h1
    · exact .inr (Nat.le_trans hs h1)
/-- An operation has turned s into s'. -/
def FsTo (w : World) (m : FsMem) (s' : FSt) (w' : World) : Prop := ∃ m', m'.b = m.b ∧ IsFS w' m' s' ∧ Grows w m m' ∧ Keeps m.O w w'
theorem FsTo.same {w w' : World} {m : FsMem} {s : FSt} (h : IsFS w m s) (k : Keeps NoB w w') : FsTo w m s w' := ⟨m, rfl, h.kept k, Grows.refl w m, k.mono (fun _ _ f => f.elim)⟩
theorem FsTo.trans {w w1 w2 : World} {m m1 : FsMem} {s1 s2 : FSt} (hb : m1.b = m.b) (hg : Grows w m m1) (hk : Keeps m.O w w1) (h : FsTo w1 m1 s2 w2) : FsTo w m s2 w2 := by
  obtain ⟨m2, hb2, hi, hg2, hk2⟩ := h
  refine ⟨m2, hb2.trans hb, hi, hg.trans hg2 hk.size, hk.trans hk2 (fun _ _ f => f) (fun i hi f => ?_)⟩
  rcases hg.1 i f with h1 | h1
  · exact h1
  · omega
end Go.Proofs.YtdjamijbhaplgaaGreat
namespace Go.Proofs.YtdjamijbhaplgaaGreat
open Go.RowKit Go.Maps

theorem on_nil (w : World) : Calls Tryz.prog 78 #[.pointer none] w fun e w' => e = .returned (.int .i64 7) ∧ w = w' := by
  go_enter Tryz.func78, Tryz.ntmps78
  go_wp2
  go_ret
  exact ⟨rfl, rfl⟩
theorem on_some (w : World) (b : Nat) (off : Bool) (h : w.cell? ⟨b, 8, none⟩ = some (.bool off)) :
    Calls Tryz.prog 78 #[.pointer (some ⟨b, 0, none⟩)] w fun e w' => e = .returned (.int .i64 (if off then 21 else 0)) ∧ w = w' := by
  cases off with
  | true =>
    go_enter Tryz.func78, Tryz.ntmps78
    go_wp2
    go_ret
    exact ⟨rfl, rfl⟩
  | false =>
    go_enter Tryz.func78, Tryz.ntmps78
    go_wp2
    go_ret
    exact ⟨rfl, rfl⟩
/-- An operation is counted. -/
theorem counts_any (w : World) (b : Nat) (c0 c1 c2 c3 c4 c5 : Value) (ops : Nat) (left : Int) (off : Bool) (h : w.heap[b]? = some (.cells #[c0, c1, c2, c3, c4, c5, .int .i64 (ops : Nat), .int .i64 left, .bool off] 81 (0, 0)))
    (ho : ops ≤ 4611686018427387904) (hl : -1 ≤ left ∧ left ≤ 9223372036854775807) :
    Calls Tryz.prog 86 #[.pointer (some ⟨b, 0, none⟩)] w fun e w' => e = .returned (.int .i64 0) ∧
      w'.heap[b]? = some (.cells #[c0, c1, c2, c3, c4, c5, .int .i64 ((ops + 1 : Nat) : Int), .int .i64 (if 0 < left then left - 1 else left), .bool (if 0 < left then decide (left = 1) else off)] 81 (0, 0)) ∧ Keeps (OneB b) w w' := by
  have h6 : w.cell? ⟨b, 6, none⟩ = some (.int .i64 (ops : Nat)) := blk_cell h 6
  have h7 : w.cell? ⟨b, 7, none⟩ = some (.int .i64 left) := blk_cell h 7
  have h8 : w.cell? ⟨b, 8, none⟩ = some (.bool off) := blk_cell h 8
  have f6 := blk_frozen h 6
  have f7 := blk_frozen h 7
  have f8 := blk_frozen h 8
  have H := Sd.mk h
  obtain ⟨hl1, hl2⟩ := hl
  clear h
  by_cases hp : 0 < left
  · rw [if_pos hp, if_pos hp]
    go_enter Tryz.func86, Tryz.ntmps86
    go_wp2
    go_ret
    refine ⟨rfl, ?_, ?_⟩
    · refine (blk_set (blk_set (blk_set H.o 6 _) 7 _) 8 _).trans ?_
      have e1 : (left - 1 == 0) = decide (left = 1) := by
        by_cases hz : left = 1
        · subst hz; rfl
        · rw [decide_eq_false hz]; simp; omega
      rw [e1]
      rfl
    · exact (((Keeps.refl (OneB b) w).setCell ⟨b, 6, none⟩ _ (fun _ => rfl)).setCell ⟨b, 7, none⟩ _ (fun _ => rfl)).setCell ⟨b, 8, none⟩ _ (fun _ => rfl)
  · rw [if_neg hp, if_neg hp]
    go_enter Tryz.func86, Tryz.ntmps86
    go_wp2
    go_ret
    refine ⟨rfl, (blk_set H.o 6 _).trans ?_, (Keeps.refl (OneB b) w).setCell ⟨b, 6, none⟩ _ (fun _ => rfl)⟩
    rfl
theorem named_nil (w : World) (v : Value) : Calls Tryz.prog 83 #[.pointer none, v] w fun e w' => e = .returned (.int .i64 7) ∧ w = w' := by
  go_enter Tryz.func83, Tryz.ntmps83
  go_wp2_with (go_at_call 78; refine (on_nil w).mono ?_; rintro e w' ⟨rfl, rfl⟩)
  go_ret
  exact ⟨rfl, rfl⟩
def namesE (l : List ByteArray) : Int := if l.all (fun S => nameOk S.data.toList) then 0 else 20
theorem namesE_not {l : List ByteArray} {S : ByteArray} (hm : S ∈ l) (h : nameOk S.data.toList = false) : namesE l = 20 := by
  unfold namesE
  rw [if_neg]
  intro ha
  have := List.all_eq_true.1 ha S hm
  rw [h] at this; cases this
set_option maxHeartbeats 2000000 in
theorem named_some (w : World) (b : Nat) (off : Bool) (h : w.cell? ⟨b, 8, none⟩ = some (.bool off)) (A : Option Addr) (c : Nat) (l : List ByteArray) (hl : l.length ≤ 1000) (hsz : ∀ S ∈ l, S.size ≤ 9223372036854775807) (hv : VRd w A (l.map Value.string)) :
    Calls Tryz.prog 83 #[.pointer (some ⟨b, 0, none⟩), .slice A l.length c] w fun e w' => e = .returned (.int .i64 (if off then 21 else namesE l)) ∧ w = w' := by
  have HON := Sd.mk (on_some w b off h)
  have HV := Sd.mk hv
  have HSZ := Sd.mk hsz
  clear h hv hsz
  cases off with
  | true =>
    go_enter Tryz.func83, Tryz.ntmps83
    go_wp2_with (go_at_call 78; refine HON.o.mono ?_; rintro e w' ⟨rfl, rfl⟩)
    go_ret
    exact ⟨rfl, rfl⟩
  | false =>
    go_enter Tryz.func83, Tryz.ntmps83
    go_wp2_with (go_at_call 78; refine HON.o.mono ?_; rintro e w' ⟨rfl, rfl⟩)
    clear HON
    go_loopg [16] l.length (fun gk i wr => ∃ j : Nat, gk + j = l.length ∧ i = .int .i64 j ∧ Sd ((l.take j).all (fun S => nameOk S.data.toList) = true) ∧ Sd (w = wr))
    case atStart => exact ⟨0, by omega, rfl, ⟨by simp⟩, ⟨rfl⟩⟩
    case round =>
      obtain ⟨j, hj, rfl, hno, ⟨rfl⟩⟩ := hrel
      by_cases hlt : j < l.length
      · have hq : (j : Int) < (l.length : Int) := by omega
        obtain ⟨b1, o1, rfl, hc⟩ := HV.o j (by simpa using hlt)
        rw [List.getElem_map] at hc
        have hin : l[j] ∈ l := List.getElem_mem hlt
        have htk : l.take (j + 1) = l.take j ++ [l[j]] := List.take_succ_eq_append_getElem hlt
        have hs := HSZ.o _ hin
        generalize l[j] = S at *
        have HC := Sd.mk (cname_any S hs w)
        have HIN := Sd.mk hin
        have HTK := Sd.mk htk
        clear hin htk
        cases hb : nameOk S.data.toList with
        | true =>
          have he : nameE S.data.toList = 0 := by unfold nameE; rw [hb]; rfl
          rw [he] at HC
          go_wp2_with (go_at_call 106; refine HC.o.mono ?_; rintro e w' ⟨rfl, rfl⟩)
          go_roundg (gk - 1)
          case measure => omega
          case rel => exact ⟨j + 1, by omega, by go_num, ⟨by rw [HTK.o, List.all_append, hno.o]; simp [hb]⟩, ⟨rfl⟩⟩
        | false =>
          have he : nameE S.data.toList = 20 := by unfold nameE; rw [hb]; rfl
          rw [he] at HC
          have hE : Sd (namesE l = 20) := ⟨namesE_not HIN.o hb⟩
          go_wp2_with (go_at_call 106; refine HC.o.mono ?_; rintro e w' ⟨rfl, rfl⟩)
          go_ret
          exact ⟨by rw [hE.o]; rfl, rfl⟩
      · have hq : ¬ (j : Int) < (l.length : Int) := by omega
        have hE : Sd (namesE l = 0) := ⟨by
          have h := hno.o
          rw [List.take_of_length_le (by omega)] at h
          unfold namesE
          rw [if_pos h]⟩
        go_wp2_with fail
        go_ret
        exact ⟨by rw [hE.o]; rfl, rfl⟩
end Go.Proofs.YtdjamijbhaplgaaGreat
