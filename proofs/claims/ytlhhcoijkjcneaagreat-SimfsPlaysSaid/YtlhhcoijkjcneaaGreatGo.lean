/- The law's played: file systems on which acts were done. -/
import Derived.Test.YtlhhcoijkjcneaaGreatSimAct
import Derived.Test.YtlhhcoijkjcneaaGreatGe
import Derived.Test.YtlhhcoijkjcneaaGreatSimW
import Derived.Test.YtlhhcoijkjcneaaGreatGn
import Derived.Test.YtlhhcoijkjcneaaGreatSimEs
import Derived.Test.YtlhhcoijkjcneaaGreatGm
import Derived.Test.YtlhhcoijkjcneaaGreatSimLo
import Derived.Test.YtlhhcoijkjcneaaGreatSimZ
namespace Go.Proofs.YtlhhcoijkjcneaaGreat
open Go.RowKit Go.Maps Go.Lib

def FSt.actP (s : FSt) (y : ActM) : FSt := if y.kind = 14 then s else s.act y
def playedL (cap : Int) (l : List ActM) : FSt := l.foldl FSt.actP (FSt.fresh cap)
theorem playedL_take (cap : Int) (l : List ActM) (k : Nat) (hk : k < l.length) : playedL cap (l.take (k + 1)) = (playedL cap (l.take k)).actP l[k] := by
  unfold playedL
  rw [List.take_succ_eq_append_getElem hk, List.foldl_append]
  rfl
set_option maxHeartbeats 8000000 in
set_option maxRecDepth 100000 in
theorem played_any (w : World) (cap : Int) (hc0 : 0 ≤ cap) (hc1 : cap ≤ 67108864) (A : Option Addr) (c : Nat) (l : List ActM) (hA : ARd w A l) (hG : ∀ y ∈ l, y.Good w) (hl : l.length ≤ 60) (hw : ∀ y ∈ l, y.weight ≤ 20000) :
    Calls Tryz.prog 7 #[.int .i64 cap, .slice A l.length c] w fun e w' => ∃ b rb, e = .returned (.tuple #[.pointer (some ⟨b, 0, none⟩), .pointer (some ⟨rb, 0, none⟩)]) ∧ BothAt w noX b rb (playedL cap l) w' ∧ Inv (2 * l.length) (playedL cap l) := by
  have HA := Sd.mk hA
  have HG := Sd.mk hG
  have HW := Sd.mk hw
  clear hA hG hw
  go_enter Tryz.func7, Tryz.ntmps7
  go_upto_region 5 with (first | (go_at_call 19; refine (new_any _ cap hc0 hc1).mono ?_; rintro e w2 ⟨m, rfl, hi, ho, hk⟩; have HN := Sd.mk (And.intro hi (And.intro ho hk)); clear hi ho hk) | (go_at_call 20; refine (rnew_any _ cap hc0 hc1).mono ?_; rintro e w3 ⟨rm, rfl, hi, ho, hk⟩; have HR := Sd.mk (And.intro hi (And.intro ho hk)); clear hi ho hk) | (go_at_call 10; refine (num_law2 _ _).mono ?_; rintro e w' ⟨rfl, rfl⟩))
  have H0 : Sd (BothAt w noX m.b rm.b (FSt.fresh cap) w3) := ⟨HalfAt.mk' (Keeps.refl NoB w) HN.o.1 HN.o.2.1 HN.o.2.2 HR.o.1 HR.o.2.1 HR.o.2.2⟩
  have I0 : Sd (Inv 0 (FSt.fresh cap)) := ⟨Inv.fresh (by omega) (by omega)⟩
  generalize m.b = b at *
  generalize rm.b = rb at *
  clear HN HR
  go_wp2_with fail
  go_loopg [10] l.length (fun gk i wr => ∃ (k : Nat) (s : FSt), gk + k = l.length ∧ i = .int .i64 k ∧ Sd (BothAt w noX b rb s wr) ∧ Sd (Inv (2 * k) s) ∧ Sd (s = playedL cap (l.take k)))
  case atStart => exact ⟨0, _, by omega, rfl, H0, I0, ⟨rfl⟩⟩
  case round =>
    obtain ⟨k, s, hk, rfl, H, I, HS⟩ := hrel
    by_cases hlt : k < l.length
    case neg =>
      have hq1 : ¬ (k : Int) < (l.length : Int) := by omega
      have hkl : k = l.length := by omega
      subst hkl
      rw [List.take_of_length_le (Nat.le_refl _)] at HS
      go_wp2_with fail
      go_ret2
      exact ⟨b, rb, rfl, by rw [← HS.o]; exact H.o, by rw [← HS.o]; exact I.o⟩
    have hq1 : (k : Int) < (l.length : Int) := by omega
    have hq0 : (0 : Int) ≤ (k : Int) := by omega
    obtain ⟨g, o, e, c0, c1, c2, c3, c4, c5, c6, c7, c8⟩ := (HA.o.kept (HalfAt.keeps H.o)).at_ k hlt
    subst e
    have GY := Sd.mk (HG.o _ (List.getElem_mem hlt))
    have WY := Sd.mk (HW.o _ (List.getElem_mem hlt))
    have HT := Sd.mk (playedL_take cap l k hlt)
    generalize l[k] = y at *
    by_cases h14 : y.kind = 14
    · have hq : (y.kind == 14) = true := by simp [h14]
      have HX : Sd (s.actP y = s) := ⟨by unfold FSt.actP; rw [if_pos h14]⟩
      clear h14
      go_wp2_with fail
      go_roundg (gk - 1)
      case measure => omega
      case rel => exact ⟨k + 1, s, by omega, by go_num, H, ⟨I.o.mono (by omega)⟩, ⟨by rw [HT.o, ← HS.o]; exact HX.o.symm⟩⟩
    · have hq : (y.kind == 14) = false := by simp [h14]
      have HX : Sd (s.actP y = s.act y) := ⟨by unfold FSt.actP; rw [if_neg h14]⟩
      have h1 := WY.o
      unfold ActM.weight at h1
      have HC : Sd (∀ wx, wx = wr → Calls Tryz.prog 21 #[.pointer (some ⟨b, 0, none⟩), .pointer (some ⟨rb, 0, none⟩), .agg #[.int .i64 y.kind, .string y.a, .string y.b, .int .i64 y.file, .int .i64 y.at_, .int .i64 y.n, .slice y.Ad y.data.length y.cd, .int .i64 y.dir, .slice y.At y.L.length y.ct]] wx fun e w' => e = .returned (.tuple #[.pointer (some ⟨b, 0, none⟩), .bool true]) ∧ BothAt w noX b rb (s.act y) w') :=
        ⟨fun wx e => by rw [e]; exact act_any w wr noX b rb (2 * k) s H.o I.o (by omega) y GY.o (by omega) (by omega) h14⟩
      have HI : Sd (Inv (2 * (k + 1)) (s.act y)) := ⟨(I.o.act y (by omega) GY.o.kn).mono (by omega)⟩
      clear h14 h1
      go_wp2_with (go_at_call 21; refine (HC.o _ rfl).mono ?_; rintro e w5 ⟨rfl, h⟩; have H5 := Sd.mk h; clear h)
      go_roundg (gk - 1)
      case measure => omega
      case rel => exact ⟨k + 1, s.act y, by omega, by go_num, H5, HI, ⟨by rw [HT.o, ← HS.o]; exact HX.o.symm⟩⟩
set_option maxHeartbeats 1000000 in
theorem played_bad (w : World) (cap : Int) (h : cap < 0 ∨ 67108864 < cap) (v : Value) :
    Calls Tryz.prog 7 #[.int .i64 cap, v] w fun e w' => e = .returned (.tuple #[.pointer none, .pointer none]) ∧ Keeps NoB w w' := by
  go_enter Tryz.func7, Tryz.ntmps7
  go_wp2_with (first | (go_at_call 19; refine (new_bad _ cap h).mono ?_; rintro e w' ⟨rfl, rfl⟩) | (go_at_call 20; refine (rnew_bad _ cap h).mono ?_; rintro e w3 ⟨rfl, hk⟩; have HK := Sd.mk hk; clear hk) | (go_at_call 10; refine (num_law2 _ _).mono ?_; rintro e w' ⟨rfl, rfl⟩))
  go_ret2
  exact ⟨rfl, HK.o⟩
end Go.Proofs.YtlhhcoijkjcneaaGreat
namespace Go.Proofs.YtlhhcoijkjcneaaGreat
open Go.RowKit Go.Maps Go.Lib

/-- A file system s at b that is let go, its copy t at c, the document's t at rb. -/
def ThreeAt (w0 : World) (X : Nat → Option Obj) (b c rb : Nat) (s t : FSt) (w : World) : Prop :=
  ∃ m : FsMem, m.b = b ∧ IsFS w m s ∧ (∀ k, m.O k → w0.heap.size ≤ k ∧ X k = none) ∧ ∃ (m2 : FsMem) (rm : RMem), m2.b = c ∧ rm.b = rb ∧ IsFS w m2 t ∧ IsRS w rm t ∧ (∀ k, m2.O k → ¬ rm.O k) ∧ (∀ k, m2.O k ∨ m2.DB k ∨ rm.O k → X k = none) ∧ (∀ k, m2.O k ∨ rm.O k → w0.heap.size ≤ k) ∧
    Keeps NoB w0 w ∧ (∀ k o, X k = some o → w.heap[k]? = some o) ∧ ∀ k, m.O k → ¬ m2.O k ∧ ¬ rm.O k
section
variable {w0 w w' : World} {X : Nat → Option Obj} {b c rb N : Nat} {s s' t : FSt}
theorem ThreeAt.half (h : ThreeAt w0 X b c rb s t w) : HalfAt w0 X c rb t t w := by
  obtain ⟨m, e1, hi, ho, m2, rm, e2, e3, hi2, hr, a1, a2, a3, hk, hl, ap⟩ := h
  exact ⟨m2, rm, e2, e3, hi2, hr, a1, a2, a3, hk, hl⟩
theorem ThreeAt.blk (h : ThreeAt w0 X b c rb s t w) {g : Nat} {o : Obj} (hg : X g = some o) : w.heap[g]? = some o := h.half.blk hg
theorem ThreeAt.kept (h : ThreeAt w0 X b c rb s t w) (k : Keeps NoB w w') : ThreeAt w0 X b c rb s t w' := by
  obtain ⟨m, e1, hi, ho, m2, rm, e2, e3, hi2, hr, a1, a2, a3, hk, hl, ap⟩ := h
  exact ⟨m, e1, hi.kept k, ho, m2, rm, e2, e3, hi2.kept k, hr.kept k, a1, a2, a3, hk.then k, fun i o hX => k.obj (hl i o hX) (fun f => f), ap⟩
theorem ThreeAt.op {P : Program} {f : FuncId} {args : Array Value} {r : Ending → Prop} (h : ThreeAt w0 X b c rb s t w) (hc : ∀ m : FsMem, m.b = b → IsFS w m s → Calls P f args w fun e w' => r e ∧ FsTo w m s' w') :
    Calls P f args w fun e w' => r e ∧ ThreeAt w0 X b c rb s' t w' := by
  obtain ⟨m, e1, hi, ho, m2, rm, e2, e3, hi2, hr, a1, a2, a3, hk, hl, ap⟩ := h
  refine (hc m e1 hi).mono fun e w' ⟨he, m', hb, hi', hg, hk'⟩ => ⟨he, m', hb.trans e1, hi', fun k h1 => ?_, m2, rm, e2, e3, hi2.keeps hk' (fun i h1 h2 => (ap i h2).1 h1) (FsMem.notU8 hi), hr.keeps hk' (fun i h1 h2 => (ap i h2).2 h1), a1, a2, a3,
    hk.trans hk' (fun _ _ f => f) (fun i hi f => absurd (ho i f).1 (by omega)), fun i o hX => hk'.obj (hl i o hX) (fun f => by
      rw [(ho i f).2] at hX
      cases hX), fun k h1 => ?_⟩
  · rcases hg.1 k h1 with h3 | h3
    · exact ho k h3
    · refine ⟨Nat.le_trans hk.size h3, ?_⟩
      cases hX : X k with
      | none => rfl
      | some o =>
        have := (Array.getElem?_eq_some_iff.1 (hl k o hX)).1
        omega
  · rcases hg.1 k h1 with h3 | h3
    · exact ap k h3
    · exact ⟨fun h2 => by have := FsMem.lt hi2 k h2; omega, fun h2 => by have := RMem.lt hr k h2; omega⟩
theorem th_copy (h : BothAt w0 X b rb s w) (inv : Inv N s) (hN : N ≤ 900000000) :
    Calls Tryz.prog 17 #[.pointer (some ⟨b, 0, none⟩)] w fun e w' => ∃ c, e = .returned (.pointer (some ⟨c, 0, none⟩)) ∧ ThreeAt w0 X b c rb s s w' := by
  obtain ⟨m, rm, e1, e2, hi, hr, ha, hx, ho, hk, hl⟩ := h
  subst e1
  refine (copy_fs w m s N hi inv hN).mono fun e w' ⟨m2, he, hi2, o2, d2, hk'⟩ => ⟨m2.b, he, m, rfl, hi.kept hk', fun k h1 => ⟨ho k (.inl h1), hx k (.inl h1)⟩, m2, rm, rfl, e2, hi2, hr.kept hk', fun k h1 h2 => ?_, fun k h1 => ?_, fun k h1 => ?_, hk.then hk', fun i o hX => hk'.obj (hl i o hX) (fun f => f), fun k h1 => ⟨fun h2 => ?_, ha k h1⟩⟩
  · have := o2 k h1
    have := RMem.lt hr k h2
    omega
  · have fresh : w.heap.size ≤ k → X k = none := fun h3 => by
      cases hX : X k with
      | none => rfl
      | some o =>
        have := (Array.getElem?_eq_some_iff.1 (hl k o hX)).1
        omega
    rcases h1 with h1 | h1 | h1
    · exact fresh (o2 k h1)
    · exact fresh (d2 k h1)
    · exact hx k (.inr (.inr h1))
  · rcases h1 with h1 | h1
    · exact Nat.le_trans hk.size (o2 k h1)
    · exact ho k (.inr h1)
  · have := o2 k h2
    have := FsMem.lt hi k h1
    omega
theorem th_same (h : ThreeAt w0 X b c rb s s w) (inv : Inv N s) (hN : N ≤ 900000000) :
    Calls Tryz.prog 18 #[.pointer (some ⟨b, 0, none⟩), .pointer (some ⟨c, 0, none⟩)] w fun e w' => e = .returned (.bool true) ∧ ThreeAt w0 X b c rb s s w' := by
  have h' := h
  obtain ⟨m, rfl, hi, ho, m2, rm, rfl, e3, hi2, hr, a1, a2, a3, hk, hl, ap⟩ := h
  refine (same_any w m m2 s s hi hi2 inv.ok inv.ok (by have := inv.lim.files; omega) (by have := inv.lim.files; omega)).mono fun e w' ⟨he, hk⟩ => ⟨?_, h'.kept hk⟩
  rw [he, FSt.same_refl _ inv.ok]
theorem th_remove (h : ThreeAt w0 X b c rb s t w) (inv : Inv N s) (hN : N ≤ 900000000) (S : ByteArray) (hS : S.size ≤ 9223372036854775807) :
    Calls Tryz.prog 49 #[.pointer (some ⟨b, 0, none⟩), .string S] w fun e w' => e = .returned (.int .i64 (s.remove S.data.toList).1) ∧ ThreeAt w0 X b c rb (s.remove S.data.toList).2 t w' :=
  h.op fun m hb hi => by rw [← hb]; exact remove_fs w m s N hi inv hN S hS
theorem th_syncdir (h : ThreeAt w0 X b c rb s t w) (inv : Inv N s) (hN : N ≤ 900000000) :
    Calls Tryz.prog 26 #[.pointer (some ⟨b, 0, none⟩)] w fun e w' => e = .returned (.int .i64 s.syncDir.1) ∧ ThreeAt w0 X b c rb s.syncDir.2 t w' :=
  h.op fun m hb hi => by rw [← hb]; exact syncdir_fs w m s N hi inv (by omega)
theorem th_arm (h : ThreeAt w0 X b c rb s t w) (n : Int) :
    Calls Tryz.prog 28 #[.pointer (some ⟨b, 0, none⟩), .int .i64 n] w fun e w' => e = .returned (.tuple #[]) ∧ ThreeAt w0 X b c rb (s.arm n) t w' :=
  h.op fun m hb hi => by rw [← hb]; exact (arm_fs w m s hi n).mono fun e w' ⟨he, hf, hk⟩ => ⟨he, m, rfl, hf, Grows.refl w m, hk.mono (fun i _ e => .inl e)⟩
theorem th_append (h : ThreeAt w0 X b c rb s t w) (inv : Inv N s) (hN : N ≤ 900000000) (n : Int) (A : Option Addr) (cc : Nat) (q : List UInt8) (hq : Bts w (.slice A q.length cc) q) (hql : q.length ≤ 70368744177664) :
    Calls Tryz.prog 24 #[.pointer (some ⟨b, 0, none⟩), .int .i64 n, .slice A q.length cc] w fun e w' => e = .returned (.int .i64 (s.append n q).1) ∧ ThreeAt w0 X b c rb (s.append n q).2 t w' :=
  h.op fun m hb hi => by rw [← hb]; exact append_fs w m s N hi inv (by omega) n A cc q hq hql
end
set_option maxHeartbeats 8000000 in
set_option maxRecDepth 100000 in
theorem act_copy (w0 w : World) (X : Nat → Option Obj) (b rb N : Nat) (s : FSt) (h : BothAt w0 X b rb s w) (hinv : Inv N s) (hN : N ≤ 800000000) (y : ActM) (hy : y.Good w0) (h14 : y.kind = 14) :
    Calls Tryz.prog 21 #[.pointer (some ⟨b, 0, none⟩), .pointer (some ⟨rb, 0, none⟩), .agg #[.int .i64 y.kind, .string y.a, .string y.b, .int .i64 y.file, .int .i64 y.at_, .int .i64 y.n, .slice y.Ad y.data.length y.cd, .int .i64 y.dir, .slice y.At y.L.length y.ct]] w fun e w' => ∃ c, e = .returned (.tuple #[.pointer (some ⟨c, 0, none⟩), .bool true]) ∧ BothAt w0 X c rb s w' := by
  have hcv := fun (w : World) (C : Array Value) (n c : Nat) => run_convert_bytes_const (P := Tryz.prog) w 38 5 C n c Tryz.underlying38 Tryz.underlying5
  obtain ⟨oa, hoa⟩ : ∃ oa : Obj, oa = (.cells #[.int .i64 y.kind, .string y.a, .string y.b, .int .i64 y.file, .int .i64 y.at_, .int .i64 y.n, .slice y.Ad y.data.length y.cd, .int .i64 y.dir, .slice y.At y.L.length y.ct] 64) := ⟨_, rfl⟩
  have HOA := Sd.mk hoa
  have inv := Sd.mk hinv
  have hla : y.a.size ≤ 9223372036854775807 := by have := hy.la; omega
  have H : Sd (HalfAt w0 X b rb s s w) := ⟨h⟩
  have H14 := Sd.mk h14
  clear h hinv hy hoa h14
  go_enter Tryz.func21, Tryz.ntmps21
  go_upto_region 1 with fail
  rw [← HOA.o]
  have hXg : X w.heap.size = none := by
    cases hX : X w.heap.size with
    | none => rfl
    | some o =>
      have := (Array.getElem?_eq_some_iff.1 (H.o.blk hX)).1
      omega
  obtain ⟨w1, hw1⟩ : ∃ w1, w1 = w.alloc oa := ⟨_, rfl⟩
  have H1 : Sd (HalfAt w0 (addB X w.heap.size oa) b rb s s w1) := ⟨by rw [hw1]; exact HalfAt.more H.o (Nat.le_refl _) ((Keeps.refl NoB w).alloc oa) (by have := heap_alloc_new w oa; exact this)⟩
  have HX1 : Sd (∀ i o, X i = some o → (addB X w.heap.size oa) i = some o) := ⟨fun i o hi => by
    unfold addB
    rw [if_neg (fun e => by rw [e, hXg] at hi; cases hi)]
    exact hi⟩
  have HXA1 : Sd ((addB X w.heap.size oa) w.heap.size = some oa) := ⟨if_pos rfl⟩
  rw [← hw1]
  generalize addB X w.heap.size oa = X1 at *
  generalize w.heap.size = ga at *
  have hb1 := H1.o.blk HXA1.o
  rw [HOA.o] at hb1
  have d0 := blk_cell hb1 0
  have d1 := blk_cell hb1 1
  have d3 := blk_cell hb1 3
  clear hw1 hXg H hb1
  rw [H14.o] at d0
  go_upto_block 0 with fail
  obtain ⟨q1, hq1⟩ : ∃ q1, q1 = (s.remove y.a.data.toList).2 := ⟨_, rfl⟩
  have I1 : Sd (Inv (N + 1) q1) := ⟨by rw [hq1]; exact inv.o.remove _⟩
  obtain ⟨q2, hq2⟩ : ∃ q2, q2 = (q1.append y.file [63]).2 := ⟨_, rfl⟩
  have I2 : Sd (Inv (N + 2) q2) := ⟨by rw [hq2]; exact I1.o.append _ _ (by simp)⟩
  have HQ1 := Sd.mk hq1
  have HQ2 := Sd.mk hq2
  clear hq1 hq2
  go_wp2_with (first
    | (go_at_call 17; refine (th_copy H1.o inv.o (by omega)).mono ?_; rintro e w2 ⟨c, rfl, h2⟩; have H2 := Sd.mk h2; clear h2)
    | (go_at_call 18; refine (th_same H2.o inv.o (by omega)).mono ?_; rintro e w3 ⟨rfl, h3⟩; have H3 := Sd.mk h3; clear h3; have hb3 := H3.o.blk HXA1.o; rw [HOA.o] at hb3; have e1 := blk_cell hb3 1; clear hb3)
    | (go_at_call 49; refine (th_remove H3.o inv.o (by omega) y.a hla).mono ?_; rintro e w4 ⟨rfl, h4⟩; rw [← HQ1.o] at h4; have H4 := Sd.mk h4; clear h4; have hb4 := H4.o.blk HXA1.o; rw [HOA.o] at hb4; have f3 := blk_cell hb4 3; clear hb4)
    | (go_at_call 24; refine (th_append (H4.o.kept ((Keeps.refl NoB w4).alloc _)) I1.o (by omega) y.file (some ⟨w4.heap.size, 0, none⟩) 1 [63] (lit_rowM w4 [63] (1, 2) (by decide)).1 (by simp)).mono ?_; rintro e w5 ⟨rfl, h5⟩; rw [← HQ2.o] at h5; have H5 := Sd.mk h5; clear h5)
    | (go_at_call 26; refine (th_syncdir H5.o I2.o (by omega)).mono ?_; rintro e w6 ⟨rfl, h6⟩; have H6 := Sd.mk h6; clear h6)
    | (go_at_call 28; refine (th_arm H6.o 0).mono ?_; rintro e w7 ⟨rfl, h7⟩; have H7 := Sd.mk h7; clear h7))
  go_ret2
  exact ⟨_, rfl, H7.o.half.less HX1.o⟩
end Go.Proofs.YtlhhcoijkjcneaaGreat
namespace Go.Proofs.YtlhhcoijkjcneaaGreat
open Go.RowKit Go.Maps Go.Lib

theorem tells_both {w0 w : World} {X : Nat → Option Obj} {b rb N : Nat} {s : FSt} (h : BothAt w0 X b rb s w) (inv : Inv N s) (hN : N ≤ 900000000) :
    Calls Tryz.prog 22 #[.pointer (some ⟨b, 0, none⟩), .pointer (some ⟨rb, 0, none⟩)] w fun e w' => e = .returned (.bool true) ∧ BothAt w0 X b rb s w' := by
  obtain ⟨m, rfl, hm⟩ := HalfAt.fs h
  obtain ⟨rm, rfl, hrm⟩ := HalfAt.rs h
  exact (tells_any w m rm s N hm hrm inv hN).mono fun e w' ⟨he, hk⟩ => ⟨he, HalfAt.kept h hk⟩
/-- Any act on both. -/
theorem act_all (w0 w : World) (X : Nat → Option Obj) (b rb N : Nat) (s : FSt) (h : BothAt w0 X b rb s w) (inv : Inv N s) (hN : N ≤ 800000000) (y : ActM) (hy : y.Good w0) (hdl : y.data.length ≤ 20000) (hwl : y.L.length ≤ 20000) :
    Calls Tryz.prog 21 #[.pointer (some ⟨b, 0, none⟩), .pointer (some ⟨rb, 0, none⟩), .agg #[.int .i64 y.kind, .string y.a, .string y.b, .int .i64 y.file, .int .i64 y.at_, .int .i64 y.n, .slice y.Ad y.data.length y.cd, .int .i64 y.dir, .slice y.At y.L.length y.ct]] w fun e w' => ∃ c, e = .returned (.tuple #[.pointer (some ⟨c, 0, none⟩), .bool true]) ∧ BothAt w0 X c rb (s.actP y) w' := by
  by_cases h14 : y.kind = 14
  · refine (act_copy w0 w X b rb N s h inv hN y hy h14).mono fun e w' ⟨c, he, hb⟩ => ⟨c, he, ?_⟩
    unfold FSt.actP
    rw [if_pos h14]
    exact hb
  · refine (act_any w0 w X b rb N s h inv (by omega) y hy hdl hwl h14).mono fun e w' ⟨he, hb⟩ => ⟨b, he, ?_⟩
    unfold FSt.actP
    rw [if_neg h14]
    exact hb
theorem Inv.actP {N : Nat} {s : FSt} (h : Inv N s) (y : ActM) (hd : y.data.length ≤ 70368744177664) (hn : Is64 y.n) : Inv (N + 2) (s.actP y) := by
  unfold FSt.actP
  split
  · exact h.mono (by omega)
  · exact h.act y hd hn
set_option maxHeartbeats 8000000 in
set_option maxRecDepth 100000 in
theorem plays_walk (W : World) (cap : Int) (A : Option Addr) (c : Nat) (l : List ActM) (hA : ARd W A l) (hG : ∀ y ∈ l, y.Good W) (hl : l.length ≤ 9223372036854775807) :
    Calls Tryz.prog 4 #[.int .i64 cap, .slice A l.length c] W fun e W' => e = .returned (.bool true) ∧ Keeps NoB W W' := by
  have HA := Sd.mk hA
  have HG := Sd.mk hG
  clear hA hG
  go_enter Tryz.func4, Tryz.ntmps4
  cases hlong : longL l with
  | true =>
    have HLG := Sd.mk hlong
    clear hlong
    go_wp2_with (first | (go_at_call 5; refine (long_any W A c l HA.o HG.o hl).mono ?_; rw [HLG.o]; rintro e w1 ⟨rfl, hk⟩; have HK := Sd.mk hk; clear hk) | (go_at_call 6; refine (flive_any _).mono ?_; rintro e w2 ⟨rfl, hk2⟩; have HK2 := Sd.mk hk2; clear hk2))
    go_ret
    exact ⟨rfl, HK.o.then HK2.o⟩
  | false =>
  have HLG := Sd.mk hlong
  have HL60 := Sd.mk (longL_no hlong)
  clear hlong
  have C1 := Sd.mk (long_any W A c l HA.o HG.o hl)
  rw [HLG.o] at C1
  clear HLG
  by_cases hcap : cap < 0 ∨ 67108864 < cap
  · have CB := Sd.mk hcap
    clear hcap
    go_upto_region 7 with (first
      | (go_at_call 5; refine C1.o.mono ?_; rintro e w1 ⟨rfl, hk⟩; have HK1 := Sd.mk hk; clear hk)
      | (go_at_call 19; refine (new_bad _ cap CB.o).mono ?_; rintro e w' ⟨rfl, rfl⟩)
      | (go_at_call 20; refine (rnew_bad _ cap CB.o).mono ?_; rintro e w3 ⟨rfl, hk⟩; have HK3 := Sd.mk hk; clear hk)
      | (go_at_call 10; refine (num_law2 _ _).mono ?_; rintro e w' ⟨rfl, rfl⟩)
      | (go_at_call 6; refine (flive_any _).mono ?_; rintro e w5 ⟨rfl, hk2⟩; have HK5 := Sd.mk hk2; clear hk2))
    have HK6 : Sd (Keeps NoB W w5) := ⟨(HK1.o.then HK3.o).then HK5.o⟩
    go_wp2_with fail
    go_loopg [5, 9] 0 (fun gk f i wr => f = .pointer none ∧ i = .int .i64 0 ∧ Sd (Keeps NoB W wr))
    case atStart => exact ⟨rfl, rfl, HK6⟩
    case round =>
      clear HK6 HK5
      obtain ⟨rfl, rfl, HK⟩ := hrel
      go_wp2_with fail
      go_ret
      exact ⟨rfl, HK.o⟩
  have hc0 : 0 ≤ cap := by omega
  have hc1 : cap ≤ 67108864 := by omega
  clear hcap
  go_upto_region 5 with (first | (go_at_call 5; refine C1.o.mono ?_; rintro e w1 ⟨rfl, hk⟩; have HK1 := Sd.mk hk; clear hk) | (go_at_call 19; refine (new_any _ cap hc0 hc1).mono ?_; rintro e w2 ⟨m, rfl, hi, ho, hk⟩; have HN := Sd.mk (And.intro hi (And.intro ho hk)); clear hi ho hk) | (go_at_call 20; refine (rnew_any _ cap hc0 hc1).mono ?_; rintro e w3 ⟨rm, rfl, hi, ho, hk⟩; have HR := Sd.mk (And.intro hi (And.intro ho hk)); clear hi ho hk) | (go_at_call 10; refine (num_law2 _ _).mono ?_; rintro e w' ⟨rfl, rfl⟩))
  have H0 : Sd (BothAt W noX m.b rm.b (FSt.fresh cap) w3) := ⟨HalfAt.mk' HK1.o HN.o.1 HN.o.2.1 HN.o.2.2 HR.o.1 HR.o.2.1 HR.o.2.2⟩
  have I0 : Sd (Inv 0 (FSt.fresh cap)) := ⟨Inv.fresh (by omega) (by omega)⟩
  generalize m.b = b0 at *
  generalize rm.b = rb at *
  clear HN HR
  go_upto_region 7 with (first | (go_at_call 10; refine (num_law2 _ _).mono ?_; rintro e w' ⟨rfl, rfl⟩) | (go_at_call 6; refine (flive_any _).mono ?_; rintro e w5 ⟨rfl, hk2⟩; have HK5 := Sd.mk hk2; clear hk2))
  have H5 : Sd (BothAt W noX b0 rb (FSt.fresh cap) w5) := ⟨HalfAt.kept H0.o HK5.o⟩
  clear H0
  go_wp2_with fail
  go_loopg [5, 9] l.length (fun gk f i wr => ∃ (k : Nat) (b : Nat) (s : FSt), gk + k = l.length ∧ f = .pointer (some ⟨b, 0, none⟩) ∧ i = .int .i64 k ∧ Sd (BothAt W noX b rb s wr) ∧ Sd (Inv (2 * k) s))
  case atStart => exact ⟨0, b0, _, by omega, rfl, rfl, H5, I0⟩
  case round =>
    clear H5 I0 HK5
    obtain ⟨k, b, s, hk, rfl, rfl, H, I⟩ := hrel
    by_cases hlt : k < l.length
    case neg =>
      have hq1 : ¬ (k : Int) < (l.length : Int) := by omega
      go_wp2_with fail
      go_ret
      exact ⟨rfl, HalfAt.keeps H.o⟩
    have hq1 : (k : Int) < (l.length : Int) := by omega
    have hq0 : (0 : Int) ≤ (k : Int) := by omega
    obtain ⟨g, o, e, c0, c1, c2, c3, c4, c5, c6, c7, c8⟩ := (HA.o.kept (HalfAt.keeps H.o)).at_ k hlt
    subst e
    have GY := Sd.mk (HG.o _ (List.getElem_mem hlt))
    have WY := Sd.mk (HL60.o.2 _ (List.getElem_mem hlt))
    generalize l[k] = y at *
    have h60 := HL60.o.1
    have h1 := WY.o
    unfold ActM.weight at h1
    have HC : Sd (∀ wx, wx = wr → Calls Tryz.prog 21 #[.pointer (some ⟨b, 0, none⟩), .pointer (some ⟨rb, 0, none⟩), .agg #[.int .i64 y.kind, .string y.a, .string y.b, .int .i64 y.file, .int .i64 y.at_, .int .i64 y.n, .slice y.Ad y.data.length y.cd, .int .i64 y.dir, .slice y.At y.L.length y.ct]] wx fun e w' => ∃ c, e = .returned (.tuple #[.pointer (some ⟨c, 0, none⟩), .bool true]) ∧ BothAt W noX c rb (s.actP y) w') :=
      ⟨fun wx e => by rw [e]; exact act_all W wr noX b rb (2 * k) s H.o I.o (by omega) y GY.o (by omega) (by omega)⟩
    have HI : Sd (Inv (2 * (k + 1)) (s.actP y)) := ⟨(I.o.actP y (by omega) GY.o.kn).mono (by omega)⟩
    have hkk : 2 * (k + 1) ≤ 900000000 := by omega
    clear h1 h60
    go_wp2_with (first
      | (go_at_call 21; refine (HC.o _ rfl).mono ?_; rintro e w6 ⟨b2, rfl, h⟩; have H6 := Sd.mk h; clear h)
      | (go_at_call 22; refine (tells_both H6.o HI.o hkk).mono ?_; rintro e w7 ⟨rfl, h⟩; have H7 := Sd.mk h; clear h))
    go_roundg (gk - 1)
    case measure => omega
    case rel => exact ⟨k + 1, b2, s.actP y, by omega, rfl, by go_num, H7, HI⟩
end Go.Proofs.YtlhhcoijkjcneaaGreat
