/- simfs: a file system at work in a walk. -/
import Derived.Lib.SlBytesConst
import Derived.Deep.RegionHeld3
import Derived.Deep.RegionLaw
import Derived.Deep.DeepCutAuto
import Derived.Test.YtdjamijbhaplgaaGreatGkao
import Derived.Test.YtdjamijbhaplgaaGreatChain
namespace Go.Proofs.YtdjamijbhaplgaaGreat
open Go.RowKit Go.Maps Go.Lib

/-- Rows of bytes keep their cells. -/
def KeepU (w w' : World) : Prop := w.heap.size ≤ w'.heap.size ∧ ∀ (k : Nat) (cur : Array Value) (h : Nat × Nat), w.heap[k]? = some (Obj.cells cur 5 h) → ∃ h', w'.heap[k]? = some (Obj.cells cur 5 h')
theorem KeepU.refl (w : World) : KeepU w w := ⟨Nat.le_refl _, fun _ _ h e => ⟨h, e⟩⟩
theorem KeepU.trans {a b c : World} (h : KeepU a b) (k : KeepU b c) : KeepU a c := ⟨Nat.le_trans h.1 k.1, fun i cur q hi => by
  obtain ⟨q', h'⟩ := h.2 i cur q hi
  exact k.2 i cur q' h'⟩
theorem Keeps.keepU {F : Nat → Prop} {w w' : World} (k : Keeps F w w') (h : NotU8 w F) : KeepU w w' :=
  ⟨k.size, fun i cur q hi => ⟨q, (k.block i (Array.getElem?_eq_some_iff.1 hi).1 (fun f => h i f cur q hi)).trans hi⟩⟩
theorem KeepU.ofNo {w w' : World} (k : Keeps NoB w w') : KeepU w w' := k.keepU (NotU8.noB w)
theorem RowU.keepU {w w' : World} {v : Value} {xs : List UInt8} (h : RowU w v xs) (k : KeepU w w') : RowU w' v xs := by
  obtain ⟨⟨A, c, e, h1, h2, h3, h4, h5⟩, hu⟩ := h
  refine ⟨⟨A, c, e, h1, h2, h3, fun hc a ha => ⟨(h4 hc a ha).1, Nat.lt_of_lt_of_le (h4 hc a ha).2 k.1⟩, fun i hi => ?_⟩, fun a n c0 e0 hc => ?_⟩
  · obtain ⟨b, o, ea, hcell⟩ := h5 i hi
    obtain ⟨cur, q, hb⟩ := hu ⟨b, o, none⟩ xs.length c (by rw [e, ea]) (by omega)
    obtain ⟨q', hb'⟩ := k.2 b cur q hb
    refine ⟨b, o, ea, ?_⟩
    rw [← hcell]
    simp only [World.cell?, hb, hb']
  · obtain ⟨cur, q, hb⟩ := hu a n c0 e0 hc
    obtain ⟨q', hb'⟩ := k.2 a.block cur q hb
    exact ⟨cur, q', hb'⟩
/-- A row of bytes at g is marked; all else stays. -/
structure Marks (g : Nat) (w w' : World) : Prop where
  keeps : Keeps (OneB g) w w'
  u : KeepU w w'
  row : ∃ (cur : Array Value) (h : Nat × Nat), w.heap[g]? = some (Obj.cells cur 5 h)
theorem Marks.isFS {g : Nat} {w w' : World} {m : FsMem} {s : FSt} (k : Marks g w w') (h : IsFS w m s) : IsFS w' m s := by
  obtain ⟨cur, q, hg⟩ := k.row
  have hn : ∀ i, m.O i → ¬ OneB g i := fun i hi e => FsMem.notU8 h i hi cur q (by rw [show i = g from e]; exact hg)
  have hn2 : ∀ n f, m.g n = some f → ∀ i, f.O i → ¬ OneB g i := fun n f hf i hi => hn i (.inr (.inr (.inr (.inr (.inr ⟨n, f, hf, hi⟩)))))
  exact ⟨k.keeps.obj h.blk (hn _ (.inl rfl)), h.files.keeps k.keeps (hn _ (.inr (.inl rfl))), h.names.keeps k.keeps (hn _ (.inr (.inr (.inl rfl)))), h.safe.keeps k.keeps (hn _ (.inr (.inr (.inr (.inl rfl))))),
    h.moves.keeps k.keeps (fun i hi => hn i (.inr (.inr (.inr (.inr (.inl hi)))))),
    fun n f hg => ⟨(h.file n f hg).1, (h.file n f hg).2.1, k.keeps.obj (h.file n f hg).2.2.blk (hn2 n f hg _ (.inl rfl)), (h.file n f hg).2.2.dat.keepU k.u, (h.file n f hg).2.2.saf.keepU k.u, (h.file n f hg).2.2.log.keeps k.keeps (fun i hi => hn2 n f hg i (.inr hi))⟩, h.apart, h.maps, h.has⟩
theorem World.freeze_marks (w : World) (g n : Nat) (cur : Array Value) (h : Nat × Nat) (hg : w.heap[g]? = some (Obj.cells cur 5 h)) : Marks g w (w.freeze ⟨g, n, none⟩ 1) := by
  have hlt := (Array.getElem?_eq_some_iff.1 hg).1
  have hw : w.freeze ⟨g, n, none⟩ 1 = { w with heap := w.heap.modify g fun
      | .cells c elem (lo, hi) => .cells c elem (if lo == hi then (n, n + 1) else (min lo n, max hi (n + 1)))
      | o => o } := by
    unfold World.freeze
    rw [if_neg (by decide)]
    rfl
  have hother : ∀ i, i ≠ g → (w.freeze ⟨g, n, none⟩ 1).heap[i]? = w.heap[i]? := fun i hi => by
    rw [hw]
    simp only [Array.getElem?_modify]
    rw [if_neg (fun e => hi e.symm)]
  have hself : ∃ h', (w.freeze ⟨g, n, none⟩ 1).heap[g]? = some (Obj.cells cur 5 h') := by
    obtain ⟨lo, hi⟩ := h
    refine ⟨if lo == hi then (n, n + 1) else (min lo n, max hi (n + 1)), ?_⟩
    rw [hw]
    simp only [Array.getElem?_modify, hg, if_true, Option.map_some]
  have hsz : (w.freeze ⟨g, n, none⟩ 1).heap.size = w.heap.size := by rw [hw]; simp
  refine ⟨⟨by rw [hw], by rw [hw], by rw [hw], by rw [hsz]; exact Nat.le_refl _, fun k _ hk => hother k hk⟩, ⟨by rw [hsz]; exact Nat.le_refl _, fun k c q hk => ?_⟩, ⟨cur, h, hg⟩⟩
  by_cases e : k = g
  · subst e
    rw [hg] at hk
    cases hk
    exact hself
  · exact ⟨q, (hother k e).trans hk⟩
/-- The conversion behind a literal of bytes. -/
theorem conv_mark (w : World) (g o n c : Nat) (cur : Array Value) (h : Nat × Nat) (hg : w.heap[g]? = some (Obj.cells cur 5 h)) : ∃ w', (convert 49 49 (.slice (some ⟨g, o, none⟩) n c)).run Tryz.prog w = .ok (.slice (some ⟨g, o, none⟩) n c) w' ∧ Marks g w w' := by
  refine ⟨w.freeze ⟨g, cur.size, none⟩ 1, ?_, World.freeze_marks w g _ cur h hg⟩
  have hsh : w.shape? g = some (5, cur.size) := by
    unfold World.shape?
    rw [hg]
  simp [convert, run_underlying Tryz.underlying49, run_underlying Tryz.underlying5, markStringish, hsh]
/-- A file system s lies at b, in memory that is newer than w0. -/
def LiveAt (w0 : World) (b : Nat) (s : FSt) (w : World) : Prop := ∃ m, m.b = b ∧ IsFS w m s ∧ (∀ k, m.O k → w0.heap.size ≤ k) ∧ Keeps NoB w0 w
theorem LiveAt.kept {w0 w w' : World} {b : Nat} {s : FSt} (h : LiveAt w0 b s w) (k : Keeps NoB w w') : LiveAt w0 b s w' := by
  obtain ⟨m, hb, hi, ho, hk⟩ := h
  exact ⟨m, hb, hi.kept k, ho, hk.then k⟩
theorem LiveAt.to {w0 w w' : World} {s s' : FSt} {m : FsMem} (hi : IsFS w m s) (ho : ∀ k, m.O k → w0.heap.size ≤ k) (hk : Keeps NoB w0 w) (h : FsTo w m s' w') : LiveAt w0 m.b s' w' ∧ KeepU w w' := by
  obtain ⟨m', hb, hi', hg, hk'⟩ := h
  refine ⟨⟨m', hb, hi', fun k hkk => ?_, hk.trans hk' (fun _ _ e => e) (fun i hi e => absurd (ho i e) (by omega))⟩, hk'.keepU (FsMem.notU8 hi)⟩
  rcases hg.1 k hkk with h1 | h1
  · exact ho k h1
  · exact Nat.le_trans hk.size h1
section
variable {w0 w : World} {b N : Nat} {s : FSt}
theorem la_create (h : LiveAt w0 b s w) (inv : Inv N s) (hN : N ≤ 900000000) (S : ByteArray) (hS : S.size ≤ 9223372036854775807) :
    Calls Tryz.prog 84 #[.pointer (some ⟨b, 0, none⟩), .string S] w fun e w' => e = .returned (.tuple #[.int .i64 (s.create S.data.toList).1, .int .i64 (s.create S.data.toList).2.1]) ∧ LiveAt w0 b (s.create S.data.toList).2.2 w' ∧ KeepU w w' := by
  obtain ⟨m, rfl, hi, ho, hk⟩ := h
  exact (create_fs w m s N hi inv hN S hS).mono fun e w' ⟨he, hf⟩ => ⟨he, LiveAt.to hi ho hk hf⟩
theorem la_append (h : LiveAt w0 b s w) (inv : Inv N s) (hN : N ≤ 900000000) (n : Int) (A : Option Addr) (c : Nat) (q : List UInt8) (hq : RowU w (.slice A q.length c) q) (hql : q.length ≤ 70368744177664) :
    Calls Tryz.prog 15 #[.pointer (some ⟨b, 0, none⟩), .int .i64 n, .slice A q.length c] w fun e w' => e = .returned (.int .i64 (s.append n q).1) ∧ LiveAt w0 b (s.append n q).2 w' ∧ KeepU w w' := by
  obtain ⟨m, rfl, hi, ho, hk⟩ := h
  exact (append_fs w m s N hi inv (by omega) n A c q hq.1 hql).mono fun e w' ⟨he, hf⟩ => ⟨he, LiveAt.to hi ho hk hf⟩
theorem la_sync (h : LiveAt w0 b s w) (inv : Inv N s) (hN : N ≤ 900000000) (n : Int) :
    Calls Tryz.prog 46 #[.pointer (some ⟨b, 0, none⟩), .int .i64 n] w fun e w' => e = .returned (.int .i64 (s.sync n).1) ∧ LiveAt w0 b (s.sync n).2 w' ∧ KeepU w w' := by
  obtain ⟨m, rfl, hi, ho, hk⟩ := h
  exact (sync_fs w m s N hi inv (by omega) n).mono fun e w' ⟨he, hf⟩ => ⟨he, LiveAt.to hi ho hk hf⟩
theorem la_syncdir (h : LiveAt w0 b s w) (inv : Inv N s) (hN : N ≤ 900000000) :
    Calls Tryz.prog 85 #[.pointer (some ⟨b, 0, none⟩)] w fun e w' => e = .returned (.int .i64 s.syncDir.1) ∧ LiveAt w0 b s.syncDir.2 w' ∧ KeepU w w' := by
  obtain ⟨m, rfl, hi, ho, hk⟩ := h
  exact (syncdir_fs w m s N hi inv (by omega)).mono fun e w' ⟨he, hf⟩ => ⟨he, LiveAt.to hi ho hk hf⟩
theorem la_crash (h : LiveAt w0 b s w) (inv : Inv N s) (hN : N ≤ 900000000) (dir : Int) (hd0 : -9223372036854775808 ≤ dir) (hd1 : dir ≤ 9223372036854775807) (A : Option Addr) (c : Nat) (l : List TornS) (hl : l.length ≤ 4611686018427387904) (hT : TRd w A l)
    (hA : ∀ g o sp, A = some ⟨g, o, sp⟩ → 0 < l.length → knd w g = 94 + 1 ∨ g < w0.heap.size) (hbd : ∀ t ∈ l, (-9223372036854775808 ≤ t.writes ∧ t.writes ≤ 9223372036854775807) ∧ (-9223372036854775808 ≤ t.bytes ∧ t.bytes ≤ 9223372036854775807)) :
    Calls Tryz.prog 8 #[.pointer (some ⟨b, 0, none⟩), .agg #[.int .i64 dir, .slice A l.length c]] w fun e w' => e = .returned (.tuple #[]) ∧ LiveAt w0 b (s.crash dir l) w' ∧ KeepU w w' := by
  obtain ⟨m, rfl, hi, ho, hk⟩ := h
  refine (crash_fs w m s N hi inv hN dir hd0 hd1 A c l hl hT (fun g o sp e h0 hm => ?_) hbd).mono fun e w' ⟨he, hf⟩ => ⟨he, LiveAt.to hi ho hk hf⟩
  rcases hA g o sp e h0 with h1 | h1
  · have kd := hi.kinds
    rcases hm with rfl | rfl | rfl | rfl | hm | ⟨n, f, hg, hm⟩
    · rw [kd.1] at h1; exact absurd h1 (by decide)
    · rw [kd.2.1] at h1; exact absurd h1 (by decide)
    · rw [kd.2.2.1] at h1; exact absurd h1 (by decide)
    · rw [kd.2.2.2.1] at h1; exact absurd h1 (by decide)
    · rw [kd.2.2.2.2 _ hm] at h1; exact absurd h1 (by decide)
    · rcases (hi.file n f hg).2.2.okinds _ hm with h2 | h2 <;> rw [h2] at h1 <;> exact absurd h1 (by decide)
  · have := ho g hm; omega
theorem la_read (h : LiveAt w0 b s w) (inv : Inv N s) (hN : N ≤ 900000000) (n pos most : Int) (hp0 : -9223372036854775808 ≤ pos) (hp1 : pos ≤ 9223372036854775807) (hm0 : -9223372036854775808 ≤ most) (hm1 : most ≤ 9223372036854775807) :
    Calls Tryz.prog 44 #[.pointer (some ⟨b, 0, none⟩), .int .i64 n, .int .i64 pos, .int .i64 most] w fun e w' => ∃ A' c', e = .returned (.tuple #[.slice A' (s.read n pos most).1.length c', .int .i64 (s.read n pos most).2]) ∧
      OwnV w' 5 (.slice A' (s.read n pos most).1.length c') (bvs (s.read n pos most).1) ∧ Fresh w (.slice A' (s.read n pos most).1.length c') ∧ Keeps NoB w w' := by
  obtain ⟨m, rfl, hi, ho, hk⟩ := h
  exact read_fs w m s N hi inv (by omega) n pos most hp0 hp1 hm0 hm1
theorem la_arm (h : LiveAt w0 b s w) (n : Int) :
    Calls Tryz.prog 10 #[.pointer (some ⟨b, 0, none⟩), .int .i64 n] w fun e w' => e = .returned (.tuple #[]) ∧ LiveAt w0 b (s.arm n) w' ∧ KeepU w w' := by
  obtain ⟨m, rfl, hi, ho, hk⟩ := h
  exact (arm_fs w m s hi n).mono fun e w' ⟨he, hf, hk'⟩ => ⟨he, LiveAt.to hi ho hk ⟨m, rfl, hf, Grows.refl w m, hk'.mono (fun i _ e => .inl e)⟩⟩
end
theorem LiveAt.marks {w0 w w' : World} {b g : Nat} {s : FSt} (h : LiveAt w0 b s w) (k : Marks g w w') (hg : w0.heap.size ≤ g) : LiveAt w0 b s w' := by
  obtain ⟨m, hb, hi, ho, hk⟩ := h
  exact ⟨m, hb, k.isFS hi, ho, hk.trans k.keeps (fun _ _ e => e) (fun i hi e => absurd hg (by rw [← show i = g from e]; omega))⟩
/-- Bytes that are laid out lie in new memory. -/
theorem lit_rowU (w : World) (xs : List UInt8) (hn : xs.length ≤ 9223372036854775807) : RowU (w.alloc (.cells (bvs xs).toArray 5)) (.slice (some ⟨w.heap.size, 0, none⟩) xs.length xs.length) xs := by
  have := own_lit w 5 (bvs xs) (by rw [bvs_length]; exact hn)
  rw [bvs_length] at this
  exact OwnV.rowU this
theorem lit_rowM (w : World) (xs : List UInt8) (q : Nat × Nat) (hn : xs.length ≤ 9223372036854775807) : RowU (w.alloc (.cells (bvs xs).toArray 5 q)) (.slice (some ⟨w.heap.size, 0, none⟩) xs.length xs.length) xs := by
  refine (lit_rowU w xs hn).keepU ⟨?_, fun k cur h hk => ?_⟩
  · show (w.heap.push _).size ≤ (w.heap.push _).size
    simp
  by_cases e : k = w.heap.size
  · subst e
    rw [heap_alloc_new] at hk
    cases hk
    exact ⟨q, heap_alloc_new _ _⟩
  · refine ⟨h, ?_⟩
    have h1 : (w.heap.push (Obj.cells (bvs xs).toArray 5))[k]? = some (Obj.cells cur 5 h) := hk
    show (w.heap.push _)[k]? = _
    rw [Array.getElem?_push, if_neg e] at h1 ⊢
    exact h1
end Go.Proofs.YtdjamijbhaplgaaGreat
namespace Go.Proofs.YtdjamijbhaplgaaGreat
open Go.RowKit Go.Maps Go.Lib

theorem LiveAt.to_n {w0 w w' : World} {b : Nat} {s : FSt} (h : LiveAt w0 b s w) (k : Keeps NoB w w') : LiveAt w0 b s w' := h.kept k
section
variable {w0 w : World} {b : Nat}
theorem lc1 (h : LiveAt w0 b L0 w) : Calls Tryz.prog 84 #[.pointer (some ⟨b, 0, none⟩), .string ⟨#[97]⟩] w fun e w' => e = .returned (.tuple #[.int .i64 1, .int .i64 0]) ∧ LiveAt w0 b L1 w' ∧ KeepU w w' := by
  have := la_create h inv0 (by decide) ⟨#[97]⟩ (by decide)
  rw [show (⟨#[97]⟩ : ByteArray).data.toList = [97] from rfl, live_facts.1, live_facts.2.1] at this
  exact this
theorem lc2 (h : LiveAt w0 b L1 w) (A : Option Addr) (c : Nat) (hq : RowU w (.slice A 3 c) [97, 98, 99]) : Calls Tryz.prog 15 #[.pointer (some ⟨b, 0, none⟩), .int .i64 1, .slice A 3 c] w fun e w' => e = .returned (.int .i64 0) ∧ LiveAt w0 b L2 w' ∧ KeepU w w' := by
  have := la_append h inv1 (by decide) 1 A c [97, 98, 99] hq (by decide)
  rw [live_facts.2.2.1] at this
  exact this
theorem lc3 (h : LiveAt w0 b L2 w) : Calls Tryz.prog 46 #[.pointer (some ⟨b, 0, none⟩), .int .i64 1] w fun e w' => e = .returned (.int .i64 0) ∧ LiveAt w0 b L3 w' ∧ KeepU w w' := by
  have := la_sync h inv2 (by decide) 1
  rw [live_facts.2.2.2.1] at this
  exact this
theorem lc4 (h : LiveAt w0 b L3 w) : Calls Tryz.prog 85 #[.pointer (some ⟨b, 0, none⟩)] w fun e w' => e = .returned (.int .i64 0) ∧ LiveAt w0 b L4 w' ∧ KeepU w w' := by
  have := la_syncdir h inv3 (by decide)
  rw [live_facts.2.2.2.2.1] at this
  exact this
theorem lc5 (h : LiveAt w0 b L4 w) (A : Option Addr) (c : Nat) (hq : RowU w (.slice A 2 c) [100, 101]) : Calls Tryz.prog 15 #[.pointer (some ⟨b, 0, none⟩), .int .i64 1, .slice A 2 c] w fun e w' => e = .returned (.int .i64 0) ∧ LiveAt w0 b L5 w' ∧ KeepU w w' := by
  have := la_append h inv4 (by decide) 1 A c [100, 101] hq (by decide)
  rw [live_facts.2.2.2.2.2.1] at this
  exact this
theorem lc6 (h : LiveAt w0 b L5 w) (A : Option Addr) (c : Nat) (hq : RowU w (.slice A 1 c) [102]) : Calls Tryz.prog 15 #[.pointer (some ⟨b, 0, none⟩), .int .i64 1, .slice A 1 c] w fun e w' => e = .returned (.int .i64 0) ∧ LiveAt w0 b L6 w' ∧ KeepU w w' := by
  have := la_append h inv5 (by decide) 1 A c [102] hq (by decide)
  rw [live_facts.2.2.2.2.2.2.1] at this
  exact this
theorem lc7 (h : LiveAt w0 b L6 w) (A : Option Addr) (c : Nat) (hq : RowU w (.slice A 8 c) [0, 0, 0, 0, 0, 0, 0, 0]) : Calls Tryz.prog 15 #[.pointer (some ⟨b, 0, none⟩), .int .i64 1, .slice A 8 c] w fun e w' => e = .returned (.int .i64 5) ∧ LiveAt w0 b L7 w' ∧ KeepU w w' := by
  have := la_append h inv6 (by decide) 1 A c [0, 0, 0, 0, 0, 0, 0, 0] hq (by decide)
  rw [live_facts.2.2.2.2.2.2.2.1] at this
  exact this
theorem lc8 (h : LiveAt w0 b L7 w) (g : Nat) (hg : g = w.heap.size) : Calls Tryz.prog 8 #[.pointer (some ⟨b, 0, none⟩), .agg #[.int .i64 0, .slice (some ⟨g, 0, none⟩) 1 1]] (w.alloc (.cells #[.int .i64 1, .int .i64 0, .int .i64 1] 94)) fun e w' => e = .returned (.tuple #[]) ∧ LiveAt w0 b L8 w' := by
  subst hg
  have hk : Keeps NoB w (w.alloc (.cells #[.int .i64 1, .int .i64 0, .int .i64 1] 94)) := (Keeps.refl NoB w).alloc _
  have hb : (w.alloc (.cells #[.int .i64 1, .int .i64 0, .int .i64 1] 94)).heap[w.heap.size]? = some (.cells #[.int .i64 1, .int .i64 0, .int .i64 1] 94) := heap_alloc_new w _
  refine (la_crash (h.kept hk) inv7 (by decide) 0 (by decide) (by decide) _ 1 [⟨1, 0, 1⟩] (by decide) (fun i hi => ?_) (fun g o sp e _ => ?_) (by simp)).mono fun e w' h => ⟨h.1, h.2.1⟩
  · have hi0 : i = 0 := by simpa using hi
    subst hi0
    exact ⟨_, _, rfl, blk_cell hb 0, blk_cell hb 1, blk_cell hb 2⟩
  · cases e
    exact .inl (knd_cells hb)
theorem lc9 (h : LiveAt w0 b L8 w) : Calls Tryz.prog 44 #[.pointer (some ⟨b, 0, none⟩), .int .i64 1, .int .i64 0, .int .i64 99] w fun e w' => ∃ A' c', e = .returned (.tuple #[.slice A' 4 c', .int .i64 0]) ∧ Bts w' (.slice A' 4 c') [97, 98, 99, 100] ∧ RowU w' (.slice A' 4 c') [97, 98, 99, 100] ∧ LiveAt w0 b L8 w' := by
  have := la_read h inv8 (by decide) 1 0 99 (by decide) (by decide) (by decide) (by decide)
  rw [live_facts.2.2.2.2.2.2.2.2.2.1, live_facts.2.2.2.2.2.2.2.2.2.2.1] at this
  refine this.mono ?_
  rintro e w' ⟨A', c', he, ho, _, hk⟩
  exact ⟨A', c', he, (OwnV.rowU ho).1, OwnV.rowU ho, h.kept hk⟩
theorem lc10 (h : LiveAt w0 b L8 w) : Calls Tryz.prog 10 #[.pointer (some ⟨b, 0, none⟩), .int .i64 1] w fun e w' => e = .returned (.tuple #[]) ∧ LiveAt w0 b L9 w' ∧ KeepU w w' := la_arm h 1
theorem lc11 (h : LiveAt w0 b L9 w) (A : Option Addr) (c : Nat) (hq : RowU w (.slice A 1 c) [120]) : Calls Tryz.prog 15 #[.pointer (some ⟨b, 0, none⟩), .int .i64 1, .slice A 1 c] w fun e w' => e = .returned (.int .i64 0) ∧ LiveAt w0 b L10 w' ∧ KeepU w w' := by
  have := la_append h inv9 (by decide) 1 A c [120] hq (by decide)
  rw [live_facts.2.2.2.2.2.2.2.2.2.2.2.1] at this
  exact this
theorem lc12 (h : LiveAt w0 b L10 w) (A : Option Addr) (c : Nat) (hq : RowU w (.slice A 1 c) [121]) : Calls Tryz.prog 15 #[.pointer (some ⟨b, 0, none⟩), .int .i64 1, .slice A 1 c] w fun e w' => e = .returned (.int .i64 21) ∧ LiveAt w0 b L11 w' ∧ KeepU w w' := by
  have := la_append h inv10 (by decide) 1 A c [121] hq (by decide)
  rw [live_facts.2.2.2.2.2.2.2.2.2.2.2.2.1] at this
  exact this
end
theorem LiveAt.keeps {w0 w : World} {b : Nat} {s : FSt} (h : LiveAt w0 b s w) : Keeps NoB w0 w := by
  obtain ⟨m, _, _, _, hk⟩ := h
  exact hk

/-- A literal of bytes in a region that draws. -/
def litP (w0 : World) (n : Nat) (xs : List UInt8) (v : Value) (wx : World) : Prop := ∃ g, v = .slice (some ⟨g, 0, none⟩) n n ∧ w0.heap.size ≤ g ∧ RowU wx v xs
theorem litP.mono {w0 : World} {n : Nat} {xs : List UInt8} {v : Value} {wx wy : World} (k : KeepU wx wy) (h : litP w0 n xs v wx) : litP w0 n xs v wy := by
  obtain ⟨g, e, hg, hr⟩ := h
  exact ⟨g, e, hg, hr.keepU k⟩
theorem lit_step {w0 wx : World} {b : Nat} {s : FSt} (xs : List UInt8) (hn : xs.length ≤ 9223372036854775807) (hJ : LiveAt w0 b s wx) : KeepU wx (wx.alloc (.cells (bvs xs).toArray 5)) ∧ litP w0 xs.length xs (.slice (some ⟨wx.heap.size, 0, none⟩) xs.length xs.length) (wx.alloc (.cells (bvs xs).toArray 5)) ∧ LiveAt w0 b s (wx.alloc (.cells (bvs xs).toArray 5)) :=
  ⟨KeepU.ofNo ((Keeps.refl NoB wx).alloc _), ⟨_, rfl, hJ.keeps.size, lit_rowU wx xs hn⟩, hJ.kept ((Keeps.refl NoB wx).alloc _)⟩
theorem lit_conv {w0 wx : World} {b n : Nat} {s : FSt} {xs : List UInt8} {v : Value} (hn : 0 < n) (h : litP w0 n xs v wx) (hJ : LiveAt w0 b s wx) : ∃ g w', v = .slice (some ⟨g, 0, none⟩) n n ∧ (convert 49 49 (.slice (some ⟨g, 0, none⟩) n n)).run Tryz.prog wx = .ok (.slice (some ⟨g, 0, none⟩) n n) w' ∧ KeepU wx w' ∧ litP w0 n xs (.slice (some ⟨g, 0, none⟩) n n) w' ∧ LiveAt w0 b s w' := by
  obtain ⟨g, rfl, hg, hr⟩ := h
  obtain ⟨cur, q, hb⟩ := hr.2 _ _ _ rfl hn
  obtain ⟨w', hc, hm⟩ := conv_mark wx g 0 n n cur q hb
  exact ⟨g, w', rfl, hc, hm.u, ⟨g, rfl, hg, hr.keepU hm.u⟩, hJ.marks hm hg⟩
def lsOf : Nat → FSt
  | 0 => L4
  | 1 => L5
  | 2 => L6
  | _ => L7

theorem make8 (w : World) : (Instr.makeSlice 49 (.int .i64 8) (.int .i64 8)).run Tryz.prog w = .ok (.slice (some ⟨w.heap.size, 0, none⟩) 8 8) (w.alloc (.cells #[.int .u8 0, .int .u8 0, .int .u8 0, .int .u8 0, .int .u8 0, .int .u8 0, .int .u8 0, .int .u8 0] 5)) := by kernel_rfl
end Go.Proofs.YtdjamijbhaplgaaGreat
