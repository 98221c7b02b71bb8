/- A file system and the document's, side by side: their operations. -/
import Derived.Test.YtdjamijbhaplgaaGreatGkbc
import Derived.Test.YtdjamijbhaplgaaGreatGkax
import Derived.Test.YtdjamijbhaplgaaGreatGkaw
import Derived.Test.YtdjamijbhaplgaaGreatRfQ
import Derived.Test.YtdjamijbhaplgaaGreatSimV
namespace Go.Proofs.YtdjamijbhaplgaaGreat
open Go.RowKit Go.Maps Go.Lib

set_option maxHeartbeats 1000000 in
set_option maxRecDepth 100000 in
theorem setcap_fs (w : World) (m : FsMem) (s : FSt) (h : IsFS w m s) (n : Int) : Calls Tryz.prog 13 #[.pointer (some ⟨m.b, 0, none⟩), .int .i64 n] w fun e w' => e = .returned (.int .i64 (s.setCap n).1) ∧ FsTo w m (s.setCap n).2 w' := by
  have c5 := h.c.2.2.2.2.2.1
  have f5 := blk_frozen h.blk 5
  have H := Sd.mk h
  clear h
  by_cases h0 : n < 0
  · have HR : Sd (s.setCap n = (2, s)) := ⟨if_pos (.inl h0)⟩
    go_enter Tryz.func13, Tryz.ntmps13
    go_wp2
    go_ret
    exact ⟨by rw [HR.o]; rfl, by rw [HR.o]; exact FsTo.same H.o (Keeps.refl NoB w)⟩
  by_cases h1 : 67108864 < n
  · have HR : Sd (s.setCap n = (2, s)) := ⟨if_pos (.inr h1)⟩
    go_enter Tryz.func13, Tryz.ntmps13
    go_wp2
    go_ret
    exact ⟨by rw [HR.o]; rfl, by rw [HR.o]; exact FsTo.same H.o (Keeps.refl NoB w)⟩
  have HR : Sd (s.setCap n = (0, { s with cap := n })) := ⟨if_neg (by omega)⟩
  go_enter Tryz.func13, Tryz.ntmps13
  go_wp2
  go_ret
  refine ⟨by rw [HR.o]; rfl, ?_⟩
  rw [HR.o]
  have hk : Keeps (OneB m.b) w (w.setCell ⟨m.b, 5, none⟩ (.int .i64 n)) := (Keeps.refl (OneB m.b) w).setCell ⟨m.b, 5, none⟩ _ (fun _ => rfl)
  obtain ⟨n1, n2, n3, n4⟩ := H.o.names_keep hk (fun i hi => hi)
  have kd := H.o.kinds
  refine ⟨m, rfl, ⟨(blk_set H.o.blk 5 _).trans rfl, n2, n1 _ H.o.names, n3, OwnW.keeps H.o.moves hk (fun i hi e => ?_), n4, H.o.apart, H.o.maps, H.o.has⟩, Grows.refl w m, hk.mono (fun i _ e => .inl e)⟩
  have e2 : i = m.b := e
  have := kd.2.2.2.2 i hi
  rw [e2, kd.1] at this
  exact absurd this (by decide)
theorem cell_lt {w : World} {g o : Nat} {v : Value} (h : w.cell? ⟨g, o, none⟩ = some v) : g < w.heap.size := by
  by_cases hg : g < w.heap.size
  · exact hg
  · exfalso
    have e : w.heap[g]? = none := Array.getElem?_eq_none (by omega)
    simp [World.cell?, e] at h
section
variable {w0 w : World} {X : Nat → Option Obj} {b rb N : Nat} {s t : FSt}
theorem ha_create (h : HalfAt w0 X b rb s t w) (inv : Inv N s) (hN : N ≤ 900000000) (S : ByteArray) (hS : S.size ≤ 9223372036854775807) :
    Calls Tryz.prog 84 #[.pointer (some ⟨b, 0, none⟩), .string S] w fun e w' => e = .returned (.tuple #[.int .i64 (s.create S.data.toList).1, .int .i64 (s.create S.data.toList).2.1]) ∧ HalfAt w0 X b rb (s.create S.data.toList).2.2 t w' :=
  h.op1 fun m hb hi _ => by rw [← hb]; exact create_fs w m s N hi inv hN S hS
theorem hr_create (h : HalfAt w0 X b rb s t w) (inv : Inv N t) (hN : N ≤ 900000000) (S : ByteArray) (hS : S.size ≤ 9223372036854775807) :
    Calls Tryz.prog 48 #[.pointer (some ⟨rb, 0, none⟩), .string S] w fun e w' => e = .returned (.tuple #[.int .i64 (t.create S.data.toList).1, .int .i64 (t.create S.data.toList).2.1]) ∧ HalfAt w0 X b rb s (t.create S.data.toList).2.2 w' :=
  h.op2 fun m hb hi _ => by rw [← hb]; exact rcreate_fs w m t N hi inv hN S hS
theorem ha_open (h : HalfAt w0 X b rb s t w) (S : ByteArray) (hS : S.size ≤ 9223372036854775807) :
    Calls Tryz.prog 41 #[.pointer (some ⟨b, 0, none⟩), .string S] w fun e w' => e = .returned (.tuple #[.int .i64 (s.opened S.data.toList).1, .int .i64 (s.opened S.data.toList).2]) ∧ HalfAt w0 X b rb s t w' := by
  obtain ⟨m, hb, hi⟩ := h.fs
  rw [← hb]
  exact (open_fs w m s hi S hS).mono fun e w' ⟨he, hk⟩ => ⟨he, hb ▸ h.kept hk⟩
theorem hr_open (h : HalfAt w0 X b rb s t w) (inv : Inv N t) (S : ByteArray) (hS : S.size ≤ 9223372036854775807) :
    Calls Tryz.prog 47 #[.pointer (some ⟨rb, 0, none⟩), .string S] w fun e w' => e = .returned (.tuple #[.int .i64 (t.opened S.data.toList).1, .int .i64 (t.opened S.data.toList).2]) ∧ HalfAt w0 X b rb s t w' := by
  obtain ⟨m, hb, hi⟩ := h.rs
  rw [← hb]
  exact (ropen_fs w m t hi (by have := inv.ok.len; omega) S hS).mono fun e w' ⟨he, hk⟩ => ⟨he, hb ▸ h.kept hk⟩
theorem ha_syncdir (h : HalfAt w0 X b rb s t w) (inv : Inv N s) (hN : N ≤ 900000000) :
    Calls Tryz.prog 85 #[.pointer (some ⟨b, 0, none⟩)] w fun e w' => e = .returned (.int .i64 s.syncDir.1) ∧ HalfAt w0 X b rb s.syncDir.2 t w' :=
  h.op1 fun m hb hi _ => by rw [← hb]; exact syncdir_fs w m s N hi inv (by omega)
theorem hr_syncdir (h : HalfAt w0 X b rb s t w) (inv : Inv N t) (hN : N ≤ 900000000) :
    Calls Tryz.prog 49 #[.pointer (some ⟨rb, 0, none⟩)] w fun e w' => e = .returned (.int .i64 t.syncDir.1) ∧ HalfAt w0 X b rb s t.syncDir.2 w' :=
  h.op2 fun m hb hi _ => by rw [← hb]; exact rsyncdir_fs w m t N hi inv hN
theorem ha_arm (h : HalfAt w0 X b rb s t w) (n : Int) :
    Calls Tryz.prog 10 #[.pointer (some ⟨b, 0, none⟩), .int .i64 n] w fun e w' => e = .returned (.tuple #[]) ∧ HalfAt w0 X b rb (s.arm n) t w' :=
  h.op1 fun m hb hi _ => by rw [← hb]; exact (arm_fs w m s hi n).mono fun e w' ⟨he, hf, hk⟩ => ⟨he, m, rfl, hf, Grows.refl w m, hk.mono (fun i _ e => .inl e)⟩
theorem hr_arm (h : HalfAt w0 X b rb s t w) (n : Int) (hn : Is64 n) :
    Calls Tryz.prog 11 #[.pointer (some ⟨rb, 0, none⟩), .int .i64 n] w fun e w' => e = .returned (.tuple #[]) ∧ HalfAt w0 X b rb s (t.arm n) w' :=
  h.op2 fun m hb hi _ => by rw [← hb]; exact rarm_fs w m t hi n hn
theorem ha_setcap (h : HalfAt w0 X b rb s t w) (n : Int) :
    Calls Tryz.prog 13 #[.pointer (some ⟨b, 0, none⟩), .int .i64 n] w fun e w' => e = .returned (.int .i64 (s.setCap n).1) ∧ HalfAt w0 X b rb (s.setCap n).2 t w' :=
  h.op1 fun m hb hi _ => by rw [← hb]; exact setcap_fs w m s hi n
theorem hr_setcap (h : HalfAt w0 X b rb s t w) (n : Int) :
    Calls Tryz.prog 14 #[.pointer (some ⟨rb, 0, none⟩), .int .i64 n] w fun e w' => e = .returned (.int .i64 (t.setCap n).1) ∧ HalfAt w0 X b rb s (t.setCap n).2 w' :=
  h.op2 fun m hb hi _ => by rw [← hb]; exact rsetcap_fs w m t hi n
theorem ha_write (h : HalfAt w0 X b rb s t w) (inv : Inv N s) (hN : N ≤ 900000000) (n pos : Int) (hp : Is64 pos) (A : Option Addr) (cc : Nat) (q : List UInt8) (hq : Bts w (.slice A q.length cc) q) (hql : q.length ≤ 70368744177664) :
    Calls Tryz.prog 38 #[.pointer (some ⟨b, 0, none⟩), .int .i64 n, .int .i64 pos, .slice A q.length cc] w fun e w' => e = .returned (.int .i64 (s.write n pos q).1) ∧ HalfAt w0 X b rb (s.write n pos q).2 t w' :=
  h.op1 fun m hb hi _ => by rw [← hb]; exact write_fs w m s N hi inv (by omega) n pos hp.1 hp.2 A cc q hq hql
theorem hr_write (h : HalfAt w0 X b rb s t w) (inv : Inv N t) (hN : N ≤ 900000000) (n pos : Int) (hp : Is64 pos) (q : List UInt8) (hql : q.length ≤ 70368744177664) :
    Calls Tryz.prog 40 #[.pointer (some ⟨rb, 0, none⟩), .int .i64 n, .int .i64 pos, .string (sOf q)] w fun e w' => e = .returned (.int .i64 (t.write n pos q).1) ∧ HalfAt w0 X b rb s (t.write n pos q).2 w' :=
  h.op2 fun m hb hi _ => by rw [← hb]; exact rwrite_fs w m t N hi inv hN n pos hp.1 hp.2 q hql
theorem ha_append (h : HalfAt w0 X b rb s t w) (inv : Inv N s) (hN : N ≤ 900000000) (n : Int) (A : Option Addr) (cc : Nat) (q : List UInt8) (hq : Bts w (.slice A q.length cc) q) (hql : q.length ≤ 70368744177664) :
    Calls Tryz.prog 15 #[.pointer (some ⟨b, 0, none⟩), .int .i64 n, .slice A q.length cc] w fun e w' => e = .returned (.int .i64 (s.append n q).1) ∧ HalfAt w0 X b rb (s.append n q).2 t w' :=
  h.op1 fun m hb hi _ => by rw [← hb]; exact append_fs w m s N hi inv (by omega) n A cc q hq hql
theorem hr_append (h : HalfAt w0 X b rb s t w) (inv : Inv N t) (hN : N ≤ 900000000) (n : Int) (q : List UInt8) (hql : q.length ≤ 70368744177664) :
    Calls Tryz.prog 16 #[.pointer (some ⟨rb, 0, none⟩), .int .i64 n, .string (sOf q)] w fun e w' => e = .returned (.int .i64 (t.append n q).1) ∧ HalfAt w0 X b rb s (t.append n q).2 w' :=
  h.op2 fun m hb hi _ => by rw [← hb]; exact rappend_fs w m t N hi inv hN n q hql
theorem ha_cut (h : HalfAt w0 X b rb s t w) (inv : Inv N s) (hN : N ≤ 900000000) (n size : Int) (hp : Is64 size) :
    Calls Tryz.prog 45 #[.pointer (some ⟨b, 0, none⟩), .int .i64 n, .int .i64 size] w fun e w' => e = .returned (.int .i64 (s.cutAt n size).1) ∧ HalfAt w0 X b rb (s.cutAt n size).2 t w' :=
  h.op1 fun m hb hi _ => by rw [← hb]; exact cut_fs w m s N hi inv (by omega) n size hp.1 hp.2
theorem hr_cut (h : HalfAt w0 X b rb s t w) (inv : Inv N t) (hN : N ≤ 900000000) (n size : Int) (hp : Is64 size) :
    Calls Tryz.prog 54 #[.pointer (some ⟨rb, 0, none⟩), .int .i64 n, .int .i64 size] w fun e w' => e = .returned (.int .i64 (t.cutAt n size).1) ∧ HalfAt w0 X b rb s (t.cutAt n size).2 w' :=
  h.op2 fun m hb hi _ => by rw [← hb]; exact rcut_fs w m t N hi inv hN n size hp.1 hp.2
theorem ha_sync (h : HalfAt w0 X b rb s t w) (inv : Inv N s) (hN : N ≤ 900000000) (n : Int) :
    Calls Tryz.prog 46 #[.pointer (some ⟨b, 0, none⟩), .int .i64 n] w fun e w' => e = .returned (.int .i64 (s.sync n).1) ∧ HalfAt w0 X b rb (s.sync n).2 t w' :=
  h.op1 fun m hb hi _ => by rw [← hb]; exact sync_fs w m s N hi inv (by omega) n
theorem hr_sync (h : HalfAt w0 X b rb s t w) (inv : Inv N t) (hN : N ≤ 900000000) (n : Int) :
    Calls Tryz.prog 23 #[.pointer (some ⟨rb, 0, none⟩), .int .i64 n] w fun e w' => e = .returned (.int .i64 (t.sync n).1) ∧ HalfAt w0 X b rb s (t.sync n).2 w' :=
  h.op2 fun m hb hi _ => by rw [← hb]; exact rsync_fs w m t N hi inv hN n
theorem ha_read (h : HalfAt w0 X b rb s t w) (inv : Inv N s) (hN : N ≤ 900000000) (n pos most : Int) (hp : Is64 pos) (hm : Is64 most) :
    Calls Tryz.prog 44 #[.pointer (some ⟨b, 0, none⟩), .int .i64 n, .int .i64 pos, .int .i64 most] w fun e w' => ∃ A' c', e = .returned (.tuple #[.slice A' (s.read n pos most).1.length c', .int .i64 (s.read n pos most).2]) ∧
      OwnV w' 5 (.slice A' (s.read n pos most).1.length c') (bvs (s.read n pos most).1) ∧ Fresh w (.slice A' (s.read n pos most).1.length c') ∧ Keeps NoB w w' := by
  obtain ⟨m, hb, hi⟩ := h.fs
  rw [← hb]
  exact read_fs w m s N hi inv (by omega) n pos most hp.1 hp.2 hm.1 hm.2
theorem hr_read (h : HalfAt w0 X b rb s t w) (inv : Inv N t) (hN : N ≤ 900000000) (n pos most : Int) (hp : Is64 pos) (hm : Is64 most) :
    Calls Tryz.prog 52 #[.pointer (some ⟨rb, 0, none⟩), .int .i64 n, .int .i64 pos, .int .i64 most] w fun e w' => e = .returned (.tuple #[.string (sOf (t.read n pos most).1), .int .i64 (t.read n pos most).2]) ∧ Keeps NoB w w' := by
  obtain ⟨m, hb, hi⟩ := h.rs
  rw [← hb]
  exact rread_fs w m t N hi inv hN n pos most hp.1 hp.2 hm.1 hm.2
theorem ha_crash {w1 : World} (h : HalfAt w0 X b rb s t w1) (inv : Inv N s) (hN : N ≤ 900000000) (k : Keeps NoB w1 w) (dir : Int) (hd : Is64 dir) (A : Option Addr) (c : Nat) (l : List TornS) (hl : l.length ≤ 4611686018427387904) (hT : TRd w A l)
    (hA : ∀ g o sp, A = some ⟨g, o, sp⟩ → w1.heap.size ≤ g) (hbd : ∀ t ∈ l, Is64 t.writes ∧ Is64 t.bytes) :
    Calls Tryz.prog 8 #[.pointer (some ⟨b, 0, none⟩), .agg #[.int .i64 dir, .slice A l.length c]] w fun e w' => e = .returned (.tuple #[]) ∧ HalfAt w0 X b rb (s.crash dir l) t w' :=
  h.op1k k fun m hb hi ho => by
    rw [← hb]
    exact crash_fs w m s N hi inv hN dir hd.1 hd.2 A c l hl hT (fun g o sp e _ hm => by have := hA g o sp e; have := ho g hm; omega) hbd
theorem hr_crash (h : HalfAt w0 X b rb s t w) (inv : Inv N t) (hN : N ≤ 900000000) (dir : Int) (hd : Is64 dir) (A : Option Addr) (c : Nat) (l : List TornS) (hl : l.length ≤ 4611686018427387904) (hT : TRd w0 A l) (hbd : ∀ t ∈ l, Is64 t.writes ∧ Is64 t.bytes) :
    Calls Tryz.prog 9 #[.pointer (some ⟨rb, 0, none⟩), .agg #[.int .i64 dir, .slice A l.length c]] w fun e w' => e = .returned (.tuple #[]) ∧ HalfAt w0 X b rb s (t.crash dir l) w' :=
  h.op2 fun m hb hi ho => by
    rw [← hb]
    refine rcrash_fs w m t N hi inv hN dir hd.1 hd.2 A c l hl (hT.kept h.keeps) (fun g o sp e h0 hm => ?_) hbd
    obtain ⟨g', o', e', hc, _⟩ := hT 0 h0
    have h1 := ho g hm
    rw [e] at e'
    cases e'
    have hlt : g < w0.heap.size := cell_lt hc
    omega
end
end Go.Proofs.YtdjamijbhaplgaaGreat
namespace Go.Proofs.YtdjamijbhaplgaaGreat
open Go.RowKit Go.Maps Go.Lib

/-- A file system s at b and the document's t at rb; the blocks of T are others'. -/
def HalfT (w0 : World) (T : Nat → Prop) (b rb : Nat) (s t : FSt) (w : World) : Prop :=
  ∃ (m : FsMem) (rm : RMem), m.b = b ∧ rm.b = rb ∧ IsFS w m s ∧ IsRS w rm t ∧ (∀ k, m.O k → ¬ rm.O k) ∧ (∀ k, m.O k ∨ m.DB k ∨ rm.O k → ¬ T k) ∧ (∀ k, m.O k ∨ rm.O k → w0.heap.size ≤ k) ∧ Keeps NoB w0 w ∧ ∀ k, T k → k < w.heap.size
/-- The blocks that an operation may change. -/
def offT (w0 : World) (T : Nat → Prop) : Nat → Prop := fun k => ¬ T k ∧ w0.heap.size ≤ k
section
variable {w0 w w' : World} {T : Nat → Prop} {b rb N : Nat} {s s' t t' : FSt}
theorem HalfT.keeps (h : HalfT w0 T b rb s t w) : Keeps NoB w0 w := by
  obtain ⟨m, rm, _, _, _, _, _, _, _, hk, _⟩ := h
  exact hk
theorem HalfT.lt (h : HalfT w0 T b rb s t w) {k : Nat} (hk : T k) : k < w.heap.size := by
  obtain ⟨m, rm, _, _, _, _, _, _, _, _, hl⟩ := h
  exact hl k hk
theorem HalfT.fs (h : HalfT w0 T b rb s t w) : ∃ m : FsMem, m.b = b ∧ IsFS w m s := by
  obtain ⟨m, rm, e1, e2, hi, _⟩ := h
  exact ⟨m, e1, hi⟩
theorem HalfT.rs (h : HalfT w0 T b rb s t w) : ∃ m : RMem, m.b = rb ∧ IsRS w m t := by
  obtain ⟨m, rm, e1, e2, hi, hr, _⟩ := h
  exact ⟨rm, e2, hr⟩
theorem HalfT.kept (h : HalfT w0 T b rb s t w) (k : Keeps NoB w w') : HalfT w0 T b rb s t w' := by
  obtain ⟨m, rm, e1, e2, hi, hr, ha, hx, ho, hk, hl⟩ := h
  exact ⟨m, rm, e1, e2, hi.kept k, hr.kept k, ha, hx, ho, hk.then k, fun i hi => Nat.lt_of_lt_of_le (hl i hi) k.size⟩
/-- Others' blocks change, and there are more of them, or fewer. -/
theorem HalfT.other (h : HalfT w0 T b rb s t w) {F T' : Nat → Prop} (k : Keeps F w w') (hF : ∀ i, F i → T i ∧ w0.heap.size ≤ i) (hT : ∀ i, T' i → (T i ∨ w.heap.size ≤ i) ∧ i < w'.heap.size) : HalfT w0 T' b rb s t w' := by
  obtain ⟨m, rm, e1, e2, hi, hr, ha, hx, ho, hk, hl⟩ := h
  refine ⟨m, rm, e1, e2, hi.keepsD k (fun i h1 h2 => hx i (.inl h1) (hF i h2).1) (fun i h1 h2 => hx i (.inr (.inl h1)) (hF i h2).1), hr.keeps k (fun i h1 h2 => hx i (.inr (.inr h1)) (hF i h2).1), ha, fun i h1 h2 => ?_, ho, hk.trans k (fun _ _ f => f) (fun i hi f => absurd (hF i f).2 (by omega)), fun i h1 => (hT i h1).2⟩
  rcases (hT i h2).1 with h3 | h3
  · exact hx i h1 h3
  · rcases h1 with h1 | h1 | h1
    · have := FsMem.lt hi i h1; omega
    · have := hi.datLt h1; omega
    · have := RMem.lt hr i h1; omega
theorem HalfT.op1 {P : Program} {f : FuncId} {args : Array Value} {r : Ending → Prop} (h : HalfT w0 T b rb s t w) (hc : ∀ m : FsMem, m.b = b → IsFS w m s → (∀ k, m.O k → w0.heap.size ≤ k ∧ ¬ T k) → Calls P f args w fun e w' => r e ∧ FsTo w m s' w') :
    Calls P f args w fun e w' => r e ∧ HalfT w0 T b rb s' t w' ∧ Keeps (offT w0 T) w w' := by
  obtain ⟨m, rm, e1, e2, hi, hr, ha, hx, ho, hk, hl⟩ := h
  refine (hc m e1 hi (fun k hk => ⟨ho k (.inl hk), hx k (.inl hk)⟩)).mono fun e w' ⟨he, m', hb, hi', hg, hk'⟩ => ⟨he, ⟨m', rm, hb.trans e1, e2, hi', hr.keeps hk' (fun i h1 h2 => ha i h2 h1), fun k h1 h2 => ?_, fun k h1 h2 => ?_, fun k h1 => ?_, hk.trans hk' (fun _ _ f => f) (fun i hi f => absurd (ho i (.inl f)) (by omega)), fun i h1 => Nat.lt_of_lt_of_le (hl i h1) hk'.size⟩, hk'.mono (fun i _ h1 => ⟨hx i (.inl h1), ho i (.inl h1)⟩)⟩
  · rcases hg.1 k h1 with h3 | h3
    · exact ha k h3 h2
    · have := RMem.lt hr k h2; omega
  · have hlt := hl k h2
    rcases h1 with h1 | h1 | h1
    · rcases hg.1 k h1 with h3 | h3
      · exact hx k (.inl h3) h2
      · omega
    · rcases hg.2 k h1 with h3 | h3
      · exact hx k (.inr (.inl h3)) h2
      · omega
    · exact hx k (.inr (.inr h1)) h2
  · rcases h1 with h1 | h1
    · rcases hg.1 k h1 with h3 | h3
      · exact ho k (.inl h3)
      · exact Nat.le_trans hk.size h3
    · exact ho k (.inr h1)
theorem HalfT.op2 {P : Program} {f : FuncId} {args : Array Value} {r : Ending → Prop} (h : HalfT w0 T b rb s t w) (hc : ∀ m : RMem, m.b = rb → IsRS w m t → (∀ k, m.O k → w0.heap.size ≤ k ∧ ¬ T k) → Calls P f args w fun e w' => r e ∧ RsTo w m t' w') :
    Calls P f args w fun e w' => r e ∧ HalfT w0 T b rb s t' w' ∧ Keeps (offT w0 T) w w' := by
  obtain ⟨m, rm, e1, e2, hi, hr, ha, hx, ho, hk, hl⟩ := h
  refine (hc rm e2 hr (fun k hk => ⟨ho k (.inr hk), hx k (.inr (.inr hk))⟩)).mono fun e w' ⟨he, rm', hb, hr', hg, hk'⟩ => ⟨he, ⟨m, rm', e1, hb.trans e2, hi.keeps hk' (fun i h1 h2 => ha i h1 h2) (RMem.notU8 hr), hr', fun k h1 h2 => ?_, fun k h1 h2 => ?_, fun k h1 => ?_, hk.trans hk' (fun _ _ f => f) (fun i hi f => absurd (ho i (.inr f)) (by omega)), fun i h1 => Nat.lt_of_lt_of_le (hl i h1) hk'.size⟩, hk'.mono (fun i _ h1 => ⟨hx i (.inr (.inr h1)), ho i (.inr h1)⟩)⟩
  · rcases hg k h2 with h3 | h3
    · exact ha k h1 h3
    · have := FsMem.lt hi k h1; omega
  · have hlt := hl k h2
    rcases h1 with h1 | h1 | h1
    · exact hx k (.inl h1) h2
    · exact hx k (.inr (.inl h1)) h2
    · rcases hg k h1 with h3 | h3
      · exact hx k (.inr (.inr h3)) h2
      · omega
  · rcases h1 with h1 | h1
    · exact ho k (.inl h1)
    · rcases hg k h1 with h3 | h3
      · exact ho k (.inr h3)
      · exact Nat.le_trans hk.size h3
/-- Both are made. -/
theorem HalfT.mk' {w1 w2 : World} {m : FsMem} {rm : RMem} (k0 : Keeps NoB w0 w) (hi : IsFS w1 m s) (ho : ∀ k, m.O k → w.heap.size ≤ k) (k1 : Keeps NoB w w1) (hr : IsRS w2 rm t) (ho2 : ∀ k, rm.O k → w1.heap.size ≤ k) (k2 : Keeps NoB w1 w2) : HalfT w0 NoB m.b rm.b s t w2 :=
  ⟨m, rm, rfl, rfl, hi.kept k2, hr, fun k h1 h2 => by
    have := FsMem.lt hi k h1
    have := ho2 k h2
    omega, fun _ _ f => f, fun k hk => by
    have h1 := k0.size
    have h2 := k1.size
    rcases hk with hk | hk
    · have := ho k hk; omega
    · have := ho2 k hk; omega, (k0.then k1).then k2, fun i f => f.elim⟩
theorem xa_create (h : HalfT w0 T b rb s t w) (inv : Inv N s) (hN : N ≤ 900000000) (S : ByteArray) (hS : S.size ≤ 9223372036854775807) :
    Calls Tryz.prog 84 #[.pointer (some ⟨b, 0, none⟩), .string S] w fun e w' => e = .returned (.tuple #[.int .i64 (s.create S.data.toList).1, .int .i64 (s.create S.data.toList).2.1]) ∧ HalfT w0 T b rb (s.create S.data.toList).2.2 t w' ∧ Keeps (offT w0 T) w w' :=
  h.op1 fun m hb hi _ => by rw [← hb]; exact create_fs w m s N hi inv hN S hS
theorem xr_create (h : HalfT w0 T b rb s t w) (inv : Inv N t) (hN : N ≤ 900000000) (S : ByteArray) (hS : S.size ≤ 9223372036854775807) :
    Calls Tryz.prog 48 #[.pointer (some ⟨rb, 0, none⟩), .string S] w fun e w' => e = .returned (.tuple #[.int .i64 (t.create S.data.toList).1, .int .i64 (t.create S.data.toList).2.1]) ∧ HalfT w0 T b rb s (t.create S.data.toList).2.2 w' ∧ Keeps (offT w0 T) w w' :=
  h.op2 fun m hb hi _ => by rw [← hb]; exact rcreate_fs w m t N hi inv hN S hS
theorem xa_syncdir (h : HalfT w0 T b rb s t w) (inv : Inv N s) (hN : N ≤ 900000000) :
    Calls Tryz.prog 85 #[.pointer (some ⟨b, 0, none⟩)] w fun e w' => e = .returned (.int .i64 s.syncDir.1) ∧ HalfT w0 T b rb s.syncDir.2 t w' ∧ Keeps (offT w0 T) w w' :=
  h.op1 fun m hb hi _ => by rw [← hb]; exact syncdir_fs w m s N hi inv (by omega)
theorem xr_syncdir (h : HalfT w0 T b rb s t w) (inv : Inv N t) (hN : N ≤ 900000000) :
    Calls Tryz.prog 49 #[.pointer (some ⟨rb, 0, none⟩)] w fun e w' => e = .returned (.int .i64 t.syncDir.1) ∧ HalfT w0 T b rb s t.syncDir.2 w' ∧ Keeps (offT w0 T) w w' :=
  h.op2 fun m hb hi _ => by rw [← hb]; exact rsyncdir_fs w m t N hi inv hN
theorem xa_arm (h : HalfT w0 T b rb s t w) (n : Int) :
    Calls Tryz.prog 10 #[.pointer (some ⟨b, 0, none⟩), .int .i64 n] w fun e w' => e = .returned (.tuple #[]) ∧ HalfT w0 T b rb (s.arm n) t w' ∧ Keeps (offT w0 T) w w' :=
  h.op1 fun m hb hi _ => by rw [← hb]; exact (arm_fs w m s hi n).mono fun e w' ⟨he, hf, hk⟩ => ⟨he, m, rfl, hf, Grows.refl w m, hk.mono (fun i _ e => .inl e)⟩
theorem xr_arm (h : HalfT w0 T b rb s t w) (n : Int) (hn : Is64 n) :
    Calls Tryz.prog 11 #[.pointer (some ⟨rb, 0, none⟩), .int .i64 n] w fun e w' => e = .returned (.tuple #[]) ∧ HalfT w0 T b rb s (t.arm n) w' ∧ Keeps (offT w0 T) w w' :=
  h.op2 fun m hb hi _ => by rw [← hb]; exact rarm_fs w m t hi n hn
theorem xa_setcap (h : HalfT w0 T b rb s t w) (n : Int) :
    Calls Tryz.prog 13 #[.pointer (some ⟨b, 0, none⟩), .int .i64 n] w fun e w' => e = .returned (.int .i64 (s.setCap n).1) ∧ HalfT w0 T b rb (s.setCap n).2 t w' ∧ Keeps (offT w0 T) w w' :=
  h.op1 fun m hb hi _ => by rw [← hb]; exact setcap_fs w m s hi n
theorem xr_setcap (h : HalfT w0 T b rb s t w) (n : Int) :
    Calls Tryz.prog 14 #[.pointer (some ⟨rb, 0, none⟩), .int .i64 n] w fun e w' => e = .returned (.int .i64 (t.setCap n).1) ∧ HalfT w0 T b rb s (t.setCap n).2 w' ∧ Keeps (offT w0 T) w w' :=
  h.op2 fun m hb hi _ => by rw [← hb]; exact rsetcap_fs w m t hi n
theorem xa_append (h : HalfT w0 T b rb s t w) (inv : Inv N s) (hN : N ≤ 900000000) (n : Int) (A : Option Addr) (cc : Nat) (q : List UInt8) (hq : Bts w (.slice A q.length cc) q) (hql : q.length ≤ 70368744177664) :
    Calls Tryz.prog 15 #[.pointer (some ⟨b, 0, none⟩), .int .i64 n, .slice A q.length cc] w fun e w' => e = .returned (.int .i64 (s.append n q).1) ∧ HalfT w0 T b rb (s.append n q).2 t w' ∧ Keeps (offT w0 T) w w' :=
  h.op1 fun m hb hi _ => by rw [← hb]; exact append_fs w m s N hi inv (by omega) n A cc q hq hql
theorem xr_append (h : HalfT w0 T b rb s t w) (inv : Inv N t) (hN : N ≤ 900000000) (n : Int) (q : List UInt8) (hql : q.length ≤ 70368744177664) :
    Calls Tryz.prog 16 #[.pointer (some ⟨rb, 0, none⟩), .int .i64 n, .string (sOf q)] w fun e w' => e = .returned (.int .i64 (t.append n q).1) ∧ HalfT w0 T b rb s (t.append n q).2 w' ∧ Keeps (offT w0 T) w w' :=
  h.op2 fun m hb hi _ => by rw [← hb]; exact rappend_fs w m t N hi inv hN n q hql
theorem xa_cut (h : HalfT w0 T b rb s t w) (inv : Inv N s) (hN : N ≤ 900000000) (n size : Int) (hp : Is64 size) :
    Calls Tryz.prog 45 #[.pointer (some ⟨b, 0, none⟩), .int .i64 n, .int .i64 size] w fun e w' => e = .returned (.int .i64 (s.cutAt n size).1) ∧ HalfT w0 T b rb (s.cutAt n size).2 t w' ∧ Keeps (offT w0 T) w w' :=
  h.op1 fun m hb hi _ => by rw [← hb]; exact cut_fs w m s N hi inv (by omega) n size hp.1 hp.2
theorem xr_cut (h : HalfT w0 T b rb s t w) (inv : Inv N t) (hN : N ≤ 900000000) (n size : Int) (hp : Is64 size) :
    Calls Tryz.prog 54 #[.pointer (some ⟨rb, 0, none⟩), .int .i64 n, .int .i64 size] w fun e w' => e = .returned (.int .i64 (t.cutAt n size).1) ∧ HalfT w0 T b rb s (t.cutAt n size).2 w' ∧ Keeps (offT w0 T) w w' :=
  h.op2 fun m hb hi _ => by rw [← hb]; exact rcut_fs w m t N hi inv hN n size hp.1 hp.2
theorem xa_sync (h : HalfT w0 T b rb s t w) (inv : Inv N s) (hN : N ≤ 900000000) (n : Int) :
    Calls Tryz.prog 46 #[.pointer (some ⟨b, 0, none⟩), .int .i64 n] w fun e w' => e = .returned (.int .i64 (s.sync n).1) ∧ HalfT w0 T b rb (s.sync n).2 t w' ∧ Keeps (offT w0 T) w w' :=
  h.op1 fun m hb hi _ => by rw [← hb]; exact sync_fs w m s N hi inv (by omega) n
theorem xr_sync (h : HalfT w0 T b rb s t w) (inv : Inv N t) (hN : N ≤ 900000000) (n : Int) :
    Calls Tryz.prog 23 #[.pointer (some ⟨rb, 0, none⟩), .int .i64 n] w fun e w' => e = .returned (.int .i64 (t.sync n).1) ∧ HalfT w0 T b rb s (t.sync n).2 w' ∧ Keeps (offT w0 T) w w' :=
  h.op2 fun m hb hi _ => by rw [← hb]; exact rsync_fs w m t N hi inv hN n
theorem xa_read (h : HalfT w0 T b rb s t w) (inv : Inv N s) (hN : N ≤ 900000000) (n pos most : Int) (hp : Is64 pos) (hm : Is64 most) :
    Calls Tryz.prog 44 #[.pointer (some ⟨b, 0, none⟩), .int .i64 n, .int .i64 pos, .int .i64 most] w fun e w' => ∃ A' c', e = .returned (.tuple #[.slice A' (s.read n pos most).1.length c', .int .i64 (s.read n pos most).2]) ∧
      OwnV w' 5 (.slice A' (s.read n pos most).1.length c') (bvs (s.read n pos most).1) ∧ Fresh w (.slice A' (s.read n pos most).1.length c') ∧ Keeps NoB w w' := by
  obtain ⟨m, hb, hi⟩ := h.fs
  rw [← hb]
  exact read_fs w m s N hi inv (by omega) n pos most hp.1 hp.2 hm.1 hm.2
theorem xr_read (h : HalfT w0 T b rb s t w) (inv : Inv N t) (hN : N ≤ 900000000) (n pos most : Int) (hp : Is64 pos) (hm : Is64 most) :
    Calls Tryz.prog 52 #[.pointer (some ⟨rb, 0, none⟩), .int .i64 n, .int .i64 pos, .int .i64 most] w fun e w' => e = .returned (.tuple #[.string (sOf (t.read n pos most).1), .int .i64 (t.read n pos most).2]) ∧ Keeps NoB w w' := by
  obtain ⟨m, hb, hi⟩ := h.rs
  rw [← hb]
  exact rread_fs w m t N hi inv hN n pos most hp.1 hp.2 hm.1 hm.2
theorem xa_open (h : HalfT w0 T b rb s t w) (S : ByteArray) (hS : S.size ≤ 9223372036854775807) :
    Calls Tryz.prog 41 #[.pointer (some ⟨b, 0, none⟩), .string S] w fun e w' => e = .returned (.tuple #[.int .i64 (s.opened S.data.toList).1, .int .i64 (s.opened S.data.toList).2]) ∧ Keeps NoB w w' := by
  obtain ⟨m, hb, hi⟩ := h.fs
  rw [← hb]
  exact open_fs w m s hi S hS
theorem xr_open (h : HalfT w0 T b rb s t w) (inv : Inv N t) (S : ByteArray) (hS : S.size ≤ 9223372036854775807) :
    Calls Tryz.prog 47 #[.pointer (some ⟨rb, 0, none⟩), .string S] w fun e w' => e = .returned (.tuple #[.int .i64 (t.opened S.data.toList).1, .int .i64 (t.opened S.data.toList).2]) ∧ Keeps NoB w w' := by
  obtain ⟨m, hb, hi⟩ := h.rs
  rw [← hb]
  exact ropen_fs w m t hi (by have := inv.ok.len; omega) S hS
theorem xa_size (h : HalfT w0 T b rb s t w) (inv : Inv N s) (hN : N ≤ 900000000) (n : Int) :
    Calls Tryz.prog 43 #[.pointer (some ⟨b, 0, none⟩), .int .i64 n] w fun e w' => e = .returned (.tuple #[.int .i64 (s.size n).1, .int .i64 (s.size n).2]) ∧ Keeps NoB w w' := by
  obtain ⟨m, hb, hi⟩ := h.fs
  rw [← hb]
  exact size_fs w m s N hi inv (by omega) n
theorem xr_size (h : HalfT w0 T b rb s t w) (inv : Inv N t) (hN : N ≤ 900000000) (n : Int) :
    Calls Tryz.prog 51 #[.pointer (some ⟨rb, 0, none⟩), .int .i64 n] w fun e w' => e = .returned (.tuple #[.int .i64 (t.size n).1, .int .i64 (t.size n).2]) ∧ Keeps NoB w w' := by
  obtain ⟨m, hb, hi⟩ := h.rs
  rw [← hb]
  exact rsize_fs w m t N hi inv hN n
theorem xa_crash (h : HalfT w0 T b rb s t w) (inv : Inv N s) (hN : N ≤ 900000000) (dir : Int) (hd : Is64 dir) (A : Option Addr) (c : Nat) (l : List TornS) (hl : l.length ≤ 4611686018427387904) (hT : TRd w0 A l)
    (hbd : ∀ t ∈ l, Is64 t.writes ∧ Is64 t.bytes) :
    Calls Tryz.prog 8 #[.pointer (some ⟨b, 0, none⟩), .agg #[.int .i64 dir, .slice A l.length c]] w fun e w' => e = .returned (.tuple #[]) ∧ HalfT w0 T b rb (s.crash dir l) t w' ∧ Keeps (offT w0 T) w w' :=
  h.op1 fun m hb hi ho => by
    rw [← hb]
    refine crash_fs w m s N hi inv hN dir hd.1 hd.2 A c l hl (hT.kept h.keeps) (fun g o sp e h0 hm => ?_) hbd
    obtain ⟨b1, o1, e1, hc, _⟩ := hT 0 h0
    rw [e] at e1
    cases e1
    have := World.block_lt_of_cell? w0 _ hc
    have := (ho g hm).1
    simp at *
    omega
theorem xr_crash (h : HalfT w0 T b rb s t w) (inv : Inv N t) (hN : N ≤ 900000000) (dir : Int) (hd : Is64 dir) (A : Option Addr) (c : Nat) (l : List TornS) (hl : l.length ≤ 4611686018427387904) (hT : TRd w0 A l) (hbd : ∀ t ∈ l, Is64 t.writes ∧ Is64 t.bytes) :
    Calls Tryz.prog 9 #[.pointer (some ⟨rb, 0, none⟩), .agg #[.int .i64 dir, .slice A l.length c]] w fun e w' => e = .returned (.tuple #[]) ∧ HalfT w0 T b rb s (t.crash dir l) w' ∧ Keeps (offT w0 T) w w' :=
  h.op2 fun m hb hi ho => by
    rw [← hb]
    refine rcrash_fs w m t N hi inv hN dir hd.1 hd.2 A c l hl (hT.kept h.keeps) (fun g o sp e h0 hm => ?_) hbd
    obtain ⟨b1, o1, e1, hc, _⟩ := hT 0 h0
    rw [e] at e1
    cases e1
    have := World.block_lt_of_cell? w0 _ hc
    have := (ho g hm).1
    simp at *
    omega
end
end Go.Proofs.YtdjamijbhaplgaaGreat
