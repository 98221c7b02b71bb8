/- The law's played: file systems on which acts were done. -/
import Derived.Test.YtlhhcoijkjcneaaGreatSimAct
import Derived.Test.YtlhhcoijkjcneaaGreatGe
import Derived.Test.YtlhhcoijkjcneaaGreatSimW
import Derived.Test.YtlhhcoijkjcneaaGreatGd
import Derived.Test.YtlhhcoijkjcneaaGreatGl
import Derived.Test.YtlhhcoijkjcneaaGreatGi
import Derived.Test.YtlhhcoijkjcneaaGreatSimL
import Derived.Test.YtlhhcoijkjcneaaGreatGm
import Derived.Test.YtlhhcoijkjcneaaGreatGn
import Derived.Test.YtlhhcoijkjcneaaGreatSimEs
import Derived.Test.YtlhhcoijkjcneaaGreatSimLo
import Derived.Test.YtlhhcoijkjcneaaGreatSimZ
namespace Go.Proofs.YtlhhcoijkjcneaaGreat
open Go.RowKit Go.Maps Go.Lib

def FSt.actP (s : FSt) (y : ActM) : FSt := if y.kind = 14 then s else s.act y
def playedL (cap : Int) (l : List ActM) : FSt := l.foldl FSt.actP (FSt.fresh cap)
theorem playedL_take (cap : Int) (l : List ActM) (k : Nat) (hk : k < l.length) : playedL cap (l.take (k + 1)) = (playedL cap (l.take k)).actP l[k] := by
  unfold playedL
  rw [List.take_succ_eq_append_getElem hk, List.foldl_append]
  rfl
set_option maxHeartbeats 8000000 in
set_option maxRecDepth 100000 in
theorem played_any (w : World) (cap : Int) (hc0 : 0 ≤ cap) (hc1 : cap ≤ 67108864) (A : Option Addr) (c : Nat) (l : List ActM) (hA : ARd w A l) (hG : ∀ y ∈ l, y.Good w) (hl : l.length ≤ 60) (hw : ∀ y ∈ l, y.weight ≤ 20000) :
    Calls Tryz.prog 7 #[.int .i64 cap, .slice A l.length c] w fun e w' => ∃ b rb, e = .returned (.tuple #[.pointer (some ⟨b, 0, none⟩), .pointer (some ⟨rb, 0, none⟩)]) ∧ BothAt w noX b rb (playedL cap l) w' ∧ Inv (2 * l.length) (playedL cap l) := by
  have HA := Sd.mk hA
  have HG := Sd.mk hG
  have HW := Sd.mk hw
  clear hA hG hw
  go_enter Tryz.func7, Tryz.ntmps7
  go_upto_region 5 with (first | (go_at_call 19; refine (new_any _ cap hc0 hc1).mono ?_; rintro e w2 ⟨m, rfl, hi, ho, hk⟩; have HN := Sd.mk (And.intro hi (And.intro ho hk)); clear hi ho hk) | (go_at_call 20; refine (rnew_any _ cap hc0 hc1).mono ?_; rintro e w3 ⟨rm, rfl, hi, ho, hk⟩; have HR := Sd.mk (And.intro hi (And.intro ho hk)); clear hi ho hk) | (go_at_call 10; refine (num_law2 _ _).mono ?_; rintro e w' ⟨rfl, rfl⟩))
  have H0 : Sd (BothAt w noX m.b rm.b (FSt.fresh cap) w3) := ⟨HalfAt.mk' (Keeps.refl NoB w) HN.o.1 HN.o.2.1 HN.o.2.2 HR.o.1 HR.o.2.1 HR.o.2.2⟩
  have I0 : Sd (Inv 0 (FSt.fresh cap)) := ⟨Inv.fresh (by omega) (by omega)⟩
  generalize m.b = b at *
  generalize rm.b = rb at *
  clear HN HR
  go_wp2_with fail
  go_loopg [10] l.length (fun gk i wr => ∃ (k : Nat) (s : FSt), gk + k = l.length ∧ i = .int .i64 k ∧ Sd (BothAt w noX b rb s wr) ∧ Sd (Inv (2 * k) s) ∧ Sd (s = playedL cap (l.take k)))
  case atStart => exact ⟨0, _, by omega, rfl, H0, I0, ⟨rfl⟩⟩
  case round =>
    obtain ⟨k, s, hk, rfl, H, I, HS⟩ := hrel
    by_cases hlt : k < l.length
    case neg =>
      have hq1 : ¬ (k : Int) < (l.length : Int) := by omega
      have hkl : k = l.length := by omega
      subst hkl
      rw [List.take_of_length_le (Nat.le_refl _)] at HS
      go_wp2_with fail
      go_ret2
      exact ⟨b, rb, rfl, by rw [← HS.o]; exact H.o, by rw [← HS.o]; exact I.o⟩
    have hq1 : (k : Int) < (l.length : Int) := by omega
    have hq0 : (0 : Int) ≤ (k : Int) := by omega
    obtain ⟨g, o, e, c0, c1, c2, c3, c4, c5, c6, c7, c8⟩ := (HA.o.kept (HalfAt.keeps H.o)).at_ k hlt
    subst e
    have GY := Sd.mk (HG.o _ (List.getElem_mem hlt))
    have WY := Sd.mk (HW.o _ (List.getElem_mem hlt))
    have HT := Sd.mk (playedL_take cap l k hlt)
    generalize l[k] = y at *
    by_cases h14 : y.kind = 14
    · have hq : (y.kind == 14) = true := by simp [h14]
      have HX : Sd (s.actP y = s) := ⟨by unfold FSt.actP; rw [if_pos h14]⟩
      clear h14
      go_wp2_with fail
      go_roundg (gk - 1)
      case measure => omega
      case rel => exact ⟨k + 1, s, by omega, by go_num, H, ⟨I.o.mono (by omega)⟩, ⟨by rw [HT.o, ← HS.o]; exact HX.o.symm⟩⟩
    · have hq : (y.kind == 14) = false := by simp [h14]
      have HX : Sd (s.actP y = s.act y) := ⟨by unfold FSt.actP; rw [if_neg h14]⟩
      have h1 := WY.o
      unfold ActM.weight at h1
      have HC : Sd (∀ wx, wx = wr → Calls Tryz.prog 21 #[.pointer (some ⟨b, 0, none⟩), .pointer (some ⟨rb, 0, none⟩), .agg #[.int .i64 y.kind, .string y.a, .string y.b, .int .i64 y.file, .int .i64 y.at_, .int .i64 y.n, .slice y.Ad y.data.length y.cd, .int .i64 y.dir, .slice y.At y.L.length y.ct]] wx fun e w' => e = .returned (.tuple #[.pointer (some ⟨b, 0, none⟩), .bool true]) ∧ BothAt w noX b rb (s.act y) w') :=
        ⟨fun wx e => by rw [e]; exact act_any w wr noX b rb (2 * k) s H.o I.o (by omega) y GY.o (by omega) (by omega) h14⟩
      have HI : Sd (Inv (2 * (k + 1)) (s.act y)) := ⟨(I.o.act y (by omega) GY.o.kn).mono (by omega)⟩
      clear h14 h1
      go_wp2_with (go_at_call 21; refine (HC.o _ rfl).mono ?_; rintro e w5 ⟨rfl, h⟩; have H5 := Sd.mk h; clear h)
      go_roundg (gk - 1)
      case measure => omega
      case rel => exact ⟨k + 1, s.act y, by omega, by go_num, H5, HI, ⟨by rw [HT.o, ← HS.o]; exact HX.o.symm⟩⟩
set_option maxHeartbeats 1000000 in
theorem played_bad (w : World) (cap : Int) (h : cap < 0 ∨ 67108864 < cap) (v : Value) :
    Calls Tryz.prog 7 #[.int .i64 cap, v] w fun e w' => e = .returned (.tuple #[.pointer none, .pointer none]) ∧ Keeps NoB w w' := by
  go_enter Tryz.func7, Tryz.ntmps7
  go_wp2_with (first | (go_at_call 19; refine (new_bad _ cap h).mono ?_; rintro e w' ⟨rfl, rfl⟩) | (go_at_call 20; refine (rnew_bad _ cap h).mono ?_; rintro e w3 ⟨rfl, hk⟩; have HK := Sd.mk hk; clear hk) | (go_at_call 10; refine (num_law2 _ _).mono ?_; rintro e w' ⟨rfl, rfl⟩))
  go_ret2
  exact ⟨rfl, HK.o⟩
end Go.Proofs.YtlhhcoijkjcneaaGreat
namespace Go.Proofs.YtlhhcoijkjcneaaGreat
open Go.RowKit Go.Maps Go.Lib

set_option maxHeartbeats 1000000 in
set_option maxRecDepth 100000 in
theorem lwrite_any (w : World) (p q : List UInt8) (pos : Nat) (hp : p.length ≤ 70368744177664) (hq : q.length ≤ 70368744177664) (hpos : pos ≤ p.length) :
    Calls Tryz.prog 36 #[.string (sOf p), .int .i64 (pos : Nat), .string (sOf q)] w fun e w' => e = .returned (.string (sOf (doneOn p ⟨false, pos, q⟩))) ∧ Keeps NoB w w' := by
  have s1 := sOf_size p
  have s2 := sOf_size q
  have e1 : (sOf p).extract 0 pos = sOf (p.take pos) := sOf_take p pos
  have e3 : sOf (p.take pos) ++ sOf q = sOf (p.take pos ++ q) := sOf_append _ _
  have s4 : (sOf (p.take pos)).size = pos := by rw [sOf_size, List.length_take]; omega
  have s5 : (sOf (p.take pos ++ q)).size = pos + q.length := by rw [sOf_size, List.length_append, List.length_take]; omega
  have s6 : (sOf (p.drop (pos + q.length))).size = p.length - (pos + q.length) := by rw [sOf_size, List.length_drop]
  have e5 : (sOf p).extract (pos + q.length) p.length = sOf (p.drop (pos + q.length)) := sOf_drop p (pos + q.length) p.length (Nat.le_refl _)
  have e6 : sOf (p.take pos ++ q) ++ sOf (p.drop (pos + q.length)) = sOf (p.take pos ++ q ++ p.drop (pos + q.length)) := sOf_append _ _
  by_cases hc : p.length ≤ pos + q.length
  · have HR : Sd (sOf (p.take pos ++ q) = sOf (doneOn p ⟨false, pos, q⟩)) := ⟨by
      unfold doneOn
      simp only [Bool.false_eq_true, if_false]
      rw [List.drop_of_length_le (by omega), List.append_nil]⟩
    have hq1 : (p.length : Int) ≤ (pos : Int) + (q.length : Int) := by omega
    go_enter Tryz.func36, Tryz.ntmps36
    go_wp2
    go_ret
    exact ⟨by rw [← HR.o]; rfl, Keeps.refl _ _⟩
  · have hq1 : ¬ (p.length : Int) ≤ (pos : Int) + (q.length : Int) := by omega
    have HR : Sd (sOf (p.take pos ++ q ++ p.drop (pos + q.length)) = sOf (doneOn p ⟨false, pos, q⟩)) := ⟨by
      unfold doneOn
      simp only [Bool.false_eq_true, if_false]⟩
    have hq2 : (pos : Int) + (q.length : Int) ≤ (p.length : Int) := by omega
    have hq3 : (0 : Int) ≤ (pos : Int) + (q.length : Int) := by omega
    have hq4 : ((pos : Int) + (q.length : Int)).toNat = pos + q.length := by omega
    go_enter Tryz.func36, Tryz.ntmps36
    go_wp2_with fail
    go_region
    go_wp2
    go_ret
    exact ⟨by rw [← HR.o, List.append_assoc]; rfl, (Keeps.refl NoB w).drew⟩
/-- got is what a beginning of the writes left of safe, the last one perhaps cut. -/
def Begins (safe : List UInt8) (l : List DoneS) (got : List UInt8) (k : Nat) : Prop :=
  k ≤ l.length ∧ (got = doneAll safe (l.take k) ∨ ∃ (h : k < l.length) (n : Nat), (l[k]).cut = false ∧ n < (l[k]).p.length ∧ got = doneOn (doneAll safe (l.take k)) ⟨false, (l[k]).pos, (l[k]).p.take n⟩)
theorem doneAll_take {p : List UInt8} {l : List DoneS} {k : Nat} (h : k < l.length) : doneAll p (l.take (k + 1)) = doneOn (doneAll p (l.take k)) l[k] := by
  unfold doneAll
  rw [List.take_succ_eq_append_getElem h, List.foldl_append]
  rfl
theorem crash_begins (x : FileS) (t : TornS) : ∃ k, Begins x.safe x.log (x.crash t).data k := by
  obtain ⟨k, hk⟩ : ∃ k, k = min t.writes.toNat x.log.length := ⟨_, rfl⟩
  have hkl : k ≤ x.log.length := by omega
  by_cases h : k < x.log.length
  · have hg : x.log[k]? = some x.log[k] := List.getElem?_eq_getElem h
    have hc : (x.crash t).data = if (x.log[k]).cut then doneAll x.safe (x.log.take k) else doneOn (doneAll x.safe (x.log.take k)) { x.log[k] with p := (x.log[k]).p.take t.bytes.toNat } := by
      unfold FileS.crash
      simp only [← hk, hg]
    rw [hc]
    cases hcut : (x.log[k]).cut with
    | true => exact ⟨k, hkl, .inl rfl⟩
    | false =>
      simp only [Bool.false_eq_true, if_false]
      by_cases hn : t.bytes.toNat < (x.log[k]).p.length
      · exact ⟨k, hkl, .inr ⟨h, t.bytes.toNat, hcut, hn, by rw [hcut]⟩⟩
      · refine ⟨k + 1, h, .inl ?_⟩
        rw [doneAll_take h, List.take_of_length_le (l := (x.log[k]).p) (by omega)]
  · have hg : x.log[k]? = none := List.getElem?_eq_none (by omega)
    refine ⟨k, hkl, .inl ?_⟩
    unfold FileS.crash
    simp only [← hk, hg]
theorem begins_lt {safe got : List UInt8} {l : List DoneS} {k : Nat} (h : Begins safe l got k) (hne : ¬ doneAll safe (l.take k) = got) : k < l.length := by
  rcases h.2 with h | ⟨h, _⟩
  · exact absurd h.symm hne
  · exact h
set_option maxHeartbeats 4000000 in
set_option maxRecDepth 100000 in
theorem lbeg_any (w : World) (A : Option Addr) (c : Nat) (safe got : List UInt8) (l : List DoneS) (h : RLogV w (.slice A l.length c) l) (ok : LogOk safe l) (hdat : ∀ d ∈ l, d.p.length ≤ 70368744177664) (hl : l.length ≤ 900000000) (k0 : Nat) (hb : Begins safe l got k0) :
    Calls Tryz.prog 11 #[.string (sOf safe), .slice A l.length c, .string (sOf got)] w fun e w' => e = .returned (.bool true) ∧ Keeps NoB w w' := by
  have H := Sd.mk h
  have HOK := Sd.mk ok
  have HD := Sd.mk hdat
  have HB := Sd.mk hb
  clear h ok hdat hb
  go_enter Tryz.func11, Tryz.ntmps11
  go_wp2_with fail
  go_loopg [7, 8] (l.length + 1) (fun gk p i wr => ∃ k : Nat, gk + k = l.length + 1 ∧ k ≤ k0 ∧ p = .string (sOf (doneAll safe (l.take k))) ∧ i = .int .i64 k ∧ Sd (Keeps NoB w wr))
  case atStart => exact ⟨0, by omega, Nat.zero_le _, by simp [doneAll], rfl, ⟨Keeps.refl _ _⟩⟩
  case round =>
    obtain ⟨k, hk, hk0, rfl, rfl, HK⟩ := hrel
    have hkl : k ≤ l.length := Nat.le_trans hk0 HB.o.1
    have hq1 : (k : Int) ≤ (l.length : Int) := by omega
    obtain ⟨P, hP⟩ : ∃ P, P = doneAll safe (l.take k) := ⟨_, rfl⟩
    have HP := Sd.mk hP
    rw [← hP]
    by_cases hpg : P = got
    · have heq : ((sOf P).toList == (sOf got).toList) = true := by rw [hpg]; simp
      clear hpg hP
      generalize sOf P = S1 at *
      generalize sOf got = S2 at *
      go_wp2_with fail
      go_ret
      exact ⟨rfl, HK.o⟩
    have heq : ((sOf P).toList == (sOf got).toList) = false := by rw [sOf_lst, sOf_lst]; simpa using hpg
    have hlt : k < l.length := by
      by_cases e : k = k0
      · subst e
        exact begins_lt HB.o (fun e => hpg (hP.trans e))
      · have := HB.o.1
        omega
    have hq2 : ((k : Int) == (l.length : Int)) = false := by simp; omega
    have hq3 : (0 : Int) ≤ (k : Int) := by omega
    have hq4 : (k : Int) < (l.length : Int) := by omega
    have hPl : P.length ≤ 67108864 := by rw [hP]; exact (HOK.o.take k).all
    have hpos : (l[k]).pos ≤ P.length := by rw [hP]; exact HOK.o.at_ k hlt
    have hdl := HD.o l[k] (List.getElem_mem hlt)
    have hnext : Sd (doneAll safe (l.take (k + 1)) = doneOn P l[k]) := ⟨by rw [doneAll_take hlt, ← hP]⟩
    have hstop : Sd (k = k0 → ∃ n, (l[k]).cut = false ∧ n < (l[k]).p.length ∧ got = doneOn P ⟨false, (l[k]).pos, (l[k]).p.take n⟩) := ⟨fun e => by
      subst e
      rcases HB.o.2 with h | ⟨_, n, h1, h2, h3⟩
      · exact absurd (hP.trans h.symm) hpg
      · exact ⟨n, h1, h2, by rw [hP]; exact h3⟩⟩
    obtain ⟨g, c', e, d0, d1, d2⟩ := RLogV.get (OwnW.keeps H.o HK.o (fun _ _ f => f)) hlt
    cases e
    generalize l[k] = d at *
    obtain ⟨cut, pos, q⟩ := d
    dsimp only at *
    have sP := sOf_size P
    have sQ := sOf_size q
    have e1 : (sOf P).extract 0 pos = sOf (P.take pos) := sOf_take P pos
    have HNE := Sd.mk hpg
    clear hpg hP
    cases cut with
    | true =>
      have hlt0 : k ≠ k0 := fun e => by
        obtain ⟨n, h1, _⟩ := hstop.o e
        cases h1
      have hdn : Sd (sOf (P.take pos) = sOf (doneAll safe (l.take (k + 1)))) := ⟨by rw [hnext.o]; rfl⟩
      have hps : (pos : Int) ≤ (P.length : Int) := by omega
      go_wp2_with fail
      go_roundg (gk - 1)
      case measure => omega
      case rel => exact ⟨k + 1, by omega, by omega, by rw [← hdn.o], by go_num, ⟨HK.o.alloc _⟩⟩
    | false =>
      have hdn : Sd (sOf (doneOn P ⟨false, pos, q⟩) = sOf (doneAll safe (l.take (k + 1)))) := ⟨by rw [hnext.o]⟩
      clear e1 hnext
      go_upto_region 11 with fail
      obtain ⟨w1, hw1⟩ : ∃ w1, w1 = wr.alloc (.cells #[.bool false, .int .i64 (pos : Nat), .string (sOf q)] 94) := ⟨_, rfl⟩
      have HX : Sd (w1.heap[wr.heap.size]? = some (.cells #[.bool false, .int .i64 (pos : Nat), .string (sOf q)] 94 (0, 0))) := ⟨by rw [hw1]; exact heap_alloc_new wr _⟩
      have HK1 : Sd (Keeps NoB w w1) := ⟨by rw [hw1]; exact HK.o.alloc _⟩
      rw [← hw1]
      generalize wr.heap.size = gx at *
      clear hw1 heq d0 d1 d2 hq2 HK
      go_wp2_with fail
      go_loopg [10] q.length (fun gk2 i2 wr2 => ∃ n : Nat, gk2 + n = q.length ∧ i2 = .int .i64 n ∧ Sd (∀ n' < n, doneOn P ⟨false, pos, q.take n'⟩ ≠ got) ∧ Sd (Keeps NoB w1 wr2))
      case atStart => exact ⟨0, by omega, rfl, ⟨fun n' h => by omega⟩, ⟨Keeps.refl _ _⟩⟩
      case round =>
        obtain ⟨n, hn, rfl, HN, HK2⟩ := hrel
        have hbx := HK2.o.obj HX.o (fun f => f)
        have x1 := blk_cell hbx 1
        have x2 := blk_cell hbx 2
        by_cases hnl : n < q.length
        case neg =>
          have hq5 : ¬ (n : Int) < (q.length : Int) := by omega
          have hlt0 : k ≠ k0 := fun e => by
            obtain ⟨n', _, h2, h3⟩ := hstop.o e
            exact HN.o n' (by omega) h3.symm
          clear hbx
          go_wp2_with (go_at_call 36; refine (lwrite_any _ P q pos (by omega) hdl hpos).mono ?_; rintro e w3 ⟨rfl, hk3⟩; have HK3 := Sd.mk hk3; clear hk3)
          go_roundg (l.length - k)
          case measure => omega
          case rel => exact ⟨k + 1, by omega, by omega, by rw [← hdn.o], by go_num, ⟨(HK1.o.then HK2.o).then HK3.o⟩⟩
        have hq5 : (n : Int) < (q.length : Int) := by omega
        have hq6 : (0 : Int) ≤ (n : Int) := by omega
        have e2 : (sOf q).extract 0 n = sOf (q.take n) := sOf_take q n
        have hq7 : (n : Int) ≤ (q.length : Int) := by omega
        have hql : (q.take n).length ≤ 70368744177664 := by rw [List.length_take]; omega
        obtain ⟨Z, hZ⟩ : ∃ Z, Z = doneOn P ⟨false, pos, q.take n⟩ := ⟨_, rfl⟩
        have HZ := Sd.mk hZ
        clear hbx hZ
        have HG : Sd (∀ b, ((sOf Z).toList == (sOf got).toList) = b → b = decide (Z = got)) := ⟨fun b e => by
          rw [sOf_lst, sOf_lst] at e
          rw [← e]
          by_cases h : Z = got
          · simp [h]
          · simp [h]⟩
        obtain ⟨bz, hbz⟩ : ∃ bz, ((sOf Z).toList == (sOf got).toList) = bz := ⟨_, rfl⟩
        have HBZ := Sd.mk (HG.o bz hbz)
        clear HG
        go_upto_region 14 with fail
        clear x1 x2
        refine wp_region_flow_lit (R := Keeps NoB) (w0 := wr) (fun w => Keeps.refl _ w) (fun _ _ _ h k => h.then k) (by kernel_rfl) (by kernel_rfl) (by first | exact (Keeps.refl _ _).drew | exact ((Keeps.refl _ _).drewN _).drew) ?_
        repeat (apply flow_const
                · intro _; kernel_rfl
                · intro ss wx hR hF
                  have hbx := (HK2.o.then hR).obj HX.o (fun f => f)
                  have x1 := blk_cell hbx 1
                  have x2 := blk_cell hbx 2
                  clear hF hbx
                  unfold flowAt
                  go_simp
                  first
                    | exact ⟨Keeps.refl _ _, rfl⟩
                    | (simp only [flowUpon]
                       go_at_call 36
                       refine (lwrite_any _ P (q.take n) pos (by omega) hql hpos).mono ?_
                       rintro e w' ⟨rfl, hk⟩
                       rw [← HZ.o]
                       exact ⟨_, rfl, hk, rfl⟩)
                intro K hK
                go_simp
                refine hK _ ?_
                clear hK K)
        refine flow_nil ?_
        intro ss w3 hk3 hF
        clear hF
        have HK3 := Sd.mk (HK2.o.then hk3)
        clear hk3
        cases bz with
        | true =>
          go_wp2_with fail
          go_ret
          exact ⟨rfl, HK1.o.then HK3.o⟩
        | false =>
          go_wp2_with fail
          go_roundg (gk - 1)
          case measure => omega
          case rel =>
            refine ⟨n + 1, by omega, by go_num, ⟨fun n' hn' => ?_⟩, HK3⟩
            by_cases e : n' = n
            · subst e
              have h1 := HBZ.o
              rw [HZ.o] at h1
              exact of_decide_eq_false h1.symm
            · exact HN.o n' (by omega)
end Go.Proofs.YtlhhcoijkjcneaaGreat
namespace Go.Proofs.YtlhhcoijkjcneaaGreat
open Go.RowKit Go.Maps Go.Lib

theorem crash_list (s : FSt) (ok : FsOk s) (dir : Int) (l : List TornS) (h : (s.M.length : Int) ≤ dir) : (s.crash dir l).list = s.list := by
  have hd : (s.crash dir l).D = s.D := by
    unfold FSt.crash
    dsimp only
    rw [List.take_of_length_le (by omega), ← ok.cur]
  unfold FSt.list
  rw [hd]
theorem crash_again (x : FileS) (t t2 : TornS) : (x.crash t).crash t2 = x.crash t := by
  have h : ∀ q : List UInt8, FileS.crash ⟨q, [], q⟩ t2 = ⟨q, [], q⟩ := fun q => by
    unfold FileS.crash
    simp [doneAll]
  exact h _
theorem crash_twice (s : FSt) (dir dir2 : Int) (l l2 : List TornS) : (s.crash dir l).crash dir2 l2 = s.crash dir l := by
  unfold FSt.crash
  dsimp only
  congr 1
  · apply List.ext_getElem?
    intro i
    simp only [List.getElem?_mapIdx, Option.map_map]
    cases s.F[i]? with
    | none => rfl
    | some x =>
      simp only [Option.map_some, Function.comp_apply]
      rw [crash_again]
  · simp [movedAll]
  · simp [movedAll]
theorem crash_read (s : FSt) (dir : Int) (l : List TornS) (fo : FilesOk (s.crash dir l)) (k : Nat) (h : ((s.crash dir l).read k 0 67108864).2 = 0) : ∃ j, Begins (s.file k).safe (s.file k).log ((s.crash dir l).read k 0 67108864).1 j := by
  obtain ⟨t, ht⟩ := crash_file0 s dir l k
  obtain ⟨j, hj⟩ := crash_begins (s.file k) t
  rw [← ht] at hj
  refine ⟨j, ?_⟩
  have hsm := fo.small k
  have e : ((s.crash dir l).read k 0 67108864).1 = ((s.crash dir l).file k).data := by
    unfold FSt.read at h ⊢
    by_cases h0 : (s.crash dir l).there k ≠ 0
    · rw [if_pos h0] at h
      exact absurd h h0
    · rw [if_neg h0] at h ⊢
      by_cases h1 : (0 : Int) < 0 ∨ (((s.crash dir l).file (k : Int).toNat).data.length : Int) < 0 ∨ (67108864 : Int) < 0
      · omega
      · rw [if_neg h1]
        simp only [Int.toNat_natCast, Int.toNat_zero, List.drop_zero]
        exact List.take_of_length_le (by simpa using hsm)
  rw [e]
  exact hj
set_option maxHeartbeats 8000000 in
set_option maxRecDepth 100000 in
theorem begin_walk (W : World) (cap : Int) (A : Option Addr) (c : Nat) (l : List ActM) (hA : ARd W A l) (hG : ∀ y ∈ l, y.Good W) (hl : l.length ≤ 9223372036854775807)
    (dir : Int) (hd : Is64 dir) (T : Option Addr) (tc : Nat) (tl : List TornS) (hT : TRd W T tl) (hTb : ∀ t ∈ tl, Is64 t.writes ∧ Is64 t.bytes) :
    Calls Tryz.prog 3 #[.int .i64 cap, .slice A l.length c, .agg #[.int .i64 dir, .slice T tl.length tc]] W fun e W' => e = .returned (.bool true) ∧ Keeps NoB W W' := by
  have HA := Sd.mk hA
  have HG := Sd.mk hG
  have HTT := Sd.mk hT
  have HTB := Sd.mk hTb
  clear hA hG hT hTb
  go_enter Tryz.func3, Tryz.ntmps3
  go_upto_region 1 with fail
  obtain ⟨w0, hw0⟩ : ∃ w0, w0 = W.alloc (.cells #[.int .i64 dir, .slice T tl.length tc] 25) := ⟨_, rfl⟩
  have HK0 : Sd (Keeps NoB W w0) := ⟨by rw [hw0]; exact (Keeps.refl NoB W).alloc _⟩
  have HX : Sd (w0.heap[W.heap.size]? = some (.cells #[.int .i64 dir, .slice T tl.length tc] 25 (0, 0))) := ⟨by rw [hw0]; exact heap_alloc_new W _⟩
  rw [← hw0]
  generalize W.heap.size = gb at *
  clear hw0
  have C1 := Sd.mk (long_any w0 A c l (HA.o.kept HK0.o) (fun y hy => (HG.o y hy).kept HK0.o) hl)
  cases hlong : longL l with
  | true =>
    rw [hlong] at C1
    clear hlong
    go_wp2_with (first
      | (go_at_call 5; refine C1.o.mono ?_; rintro e w1 ⟨rfl, hk⟩; have HK1 := Sd.mk (HK0.o.then hk); clear hk)
      | (go_at_call 6; refine (flive_any _).mono ?_; rintro e w2 ⟨rfl, hk2⟩; have HK2 := Sd.mk hk2; clear hk2))
    go_ret
    exact ⟨rfl, HK1.o.then HK2.o⟩
  | false =>
  have HL60 := Sd.mk (longL_no hlong)
  rw [hlong] at C1
  clear hlong
  by_cases h200 : (200 : Int) < (tl.length : Int)
  · go_wp2_with (first
      | (go_at_call 5; refine C1.o.mono ?_; rintro e w1 ⟨rfl, hk⟩; have x1 := blk_cell (hk.obj HX.o (fun f => f)) 1; have HK1 := Sd.mk (HK0.o.then hk); clear hk)
      | (go_at_call 6; refine (flive_any _).mono ?_; rintro e w2 ⟨rfl, hk2⟩; have HK2 := Sd.mk hk2; clear hk2))
    go_ret
    exact ⟨rfl, HK1.o.then HK2.o⟩
  by_cases hcap : cap < 0 ∨ 67108864 < cap
  · have CB := Sd.mk (fun wx v => played_bad wx cap hcap v)
    clear hcap
    go_wp2_with (first
      | (go_at_call 5; refine C1.o.mono ?_; rintro e w1 ⟨rfl, hk⟩; have x1 := blk_cell (hk.obj HX.o (fun f => f)) 1; have HK1 := Sd.mk (HK0.o.then hk); clear hk)
      | (go_at_call 7; refine (CB.o _ _).mono ?_; rintro e w3 ⟨rfl, hk⟩; have HK3 := Sd.mk hk; clear hk)
      | (go_at_call 6; refine (flive_any _).mono ?_; rintro e w2 ⟨rfl, hk2⟩; have HK2 := Sd.mk hk2; clear hk2))
    go_ret
    exact ⟨rfl, (HK1.o.then HK3.o).then HK2.o⟩
  have hc0 : 0 ≤ cap := by omega
  have hc1 : cap ≤ 67108864 := by omega
  clear hcap
  go_upto_region 3 with (go_at_call 5; refine C1.o.mono ?_; rintro e w1 ⟨rfl, hk⟩; have x1 := blk_cell (hk.obj HX.o (fun f => f)) 1; have HX1 := Sd.mk (hk.obj HX.o (fun f => f)); have HK1 := Sd.mk (HK0.o.then hk); clear hk)
  clear x1 C1 HX HK0
  have P1 := Sd.mk (played_any w1 cap hc0 hc1 A c l (HA.o.kept HK1.o) (fun y hy => (HG.o y hy).kept HK1.o) HL60.o.1 HL60.o.2)
  have h60 := HL60.o.1
  generalize playedL cap l = s at *
  clear HA HG HL60
  go_upto_region 6 with (go_at_call 7; refine P1.o.mono ?_; rintro e w3 ⟨b, rb, rfl, h, hi⟩; have H3 := Sd.mk h; have I3 : Sd (Inv 200 s) := ⟨hi.mono (by omega)⟩; clear h hi)
  clear P1
  have hN : 200 ≤ 900000000 := by decide
  obtain ⟨W0, hW0⟩ : ∃ W0, W0 = w3.drew := ⟨_, rfl⟩
  have HT0 : Sd (HalfAt w1 noX b rb s s W0) := ⟨by rw [hW0]; exact HalfAt.kept H3.o (Keeps.refl NoB w3).drew⟩
  obtain ⟨W2, A', c', hr, htc, hkc, hac⟩ := torn_copy W0 T tc tl (HTT.o.kept (HK1.o.then HT0.o.keeps)) (by omega)
  have HTC := Sd.mk htc
  have HKC := Sd.mk hkc
  have HAC := Sd.mk hac
  have HW0 := Sd.mk hW0
  have HJC : Sd (∀ n wx, crJ W0 W2 (fun w => HalfAt w1 noX b rb (s.crash dir tl) s w) n wx → wx.cell? ⟨gb, 0, none⟩ = some (.int .i64 dir) ∧ wx.cell? ⟨gb, 1, none⟩ = some (.slice T tl.length tc)) := ⟨fun n wx hJ => by
    have hk : Keeps NoB w1 wx := by
      match n, hJ with
      | 0, hJ => exact (show wx = W0 from hJ) ▸ HT0.o.keeps
      | 1, hJ => exact (show wx = W0.alloc (.cells #[] 54) from hJ) ▸ HT0.o.keeps.alloc _
      | 2, hJ => exact (show wx = W2 from hJ) ▸ HT0.o.keeps.then hkc
      | 3, hJ => exact (show wx = W2 from hJ) ▸ HT0.o.keeps.then hkc
      | n + 4, hJ => exact HalfAt.keeps (show HalfAt w1 noX b rb (s.crash dir tl) s wx from hJ)
    have hb := hk.obj HX1.o (fun f => f)
    exact ⟨blk_cell hb 0, blk_cell hb 1⟩⟩
  clear htc hkc hac hW0
  refine wp_region_chain (J := crJ W0 W2 (fun w => HalfAt w1 noX b rb (s.crash dir tl) s w)) (R := fun _ _ => True) [3, 6, 7, 8] (fun _ => trivial) (by kernel_rfl) (by kernel_rfl) (by kernel_rfl) HW0.o.symm ?_
  apply chain_const
  · intro _; kernel_rfl
  · rfl
  · intro ss wx n hJ hF
    obtain ⟨k7, k8⟩ := HJC.o n wx hJ
    clear hF
    unfold flowAt
    go_simp
    exact ⟨trivial, rfl, hJ⟩
  intro K hK
  go_simp
  refine hK _ ?_
  clear hK K
  apply chain_const
  · intro _; kernel_rfl
  · rfl
  · intro ss wx n hJ hF
    obtain ⟨k7, k8⟩ := HJC.o n wx hJ
    clear hF
    unfold flowAt
    go_simp
    exact ⟨trivial, rfl, hJ⟩
  intro K hK
  go_simp
  refine hK _ ?_
  clear hK K
  apply chain_const
  · intro _; kernel_rfl
  · rfl
  · intro ss wx n hJ hF
    obtain ⟨k7, k8⟩ := HJC.o n wx hJ
    clear hF
    unfold flowAt
    go_simp
    exact ⟨trivial, rfl, hJ⟩
  intro K hK
  go_simp
  refine hK _ ?_
  clear hK K
  apply chain_step 0 ((.slice (some ⟨W0.heap.size, 0, none⟩) 0 0))
  · intro _; kernel_rfl
  · rfl
  · intro ss wx hJ hF
    clear hF
    have hJ' : wx = W0 := hJ
    subst hJ'
    unfold flowAt
    go_simp
    exact ⟨trivial, rfl, rfl⟩
  intro K hK
  go_simp
  refine hK _ ?_
  clear hK K
  apply chain_const
  · intro _; kernel_rfl
  · rfl
  · intro ss wx n hJ hF
    obtain ⟨k7, k8⟩ := HJC.o n wx hJ
    clear hF
    unfold flowAt
    go_simp
    exact ⟨trivial, rfl, hJ⟩
  intro K hK
  go_simp
  refine hK _ ?_
  clear hK K
  apply chain_const
  · intro _; kernel_rfl
  · rfl
  · intro ss wx n hJ hF
    obtain ⟨k7, k8⟩ := HJC.o n wx hJ
    clear hF
    unfold flowAt
    go_simp
    exact ⟨trivial, rfl, hJ⟩
  intro K hK
  go_simp
  refine hK _ ?_
  clear hK K
  apply chain_step 1 ((.slice A' tl.length c'))
  · intro _; kernel_rfl
  · rfl
  · intro ss wx hJ hF
    clear hF
    have hJ' : wx = W0.alloc (.cells #[] 54) := hJ
    subst hJ'
    exact flowAt_append _ _ 23 rfl rfl rfl hr ⟨trivial, rfl, rfl⟩
  intro K hK
  go_simp
  refine hK _ ?_
  clear hK K
  apply chain_step 2 ((.agg #[.int .i64 dir, .slice A' tl.length c']))
  · intro _; kernel_rfl
  · rfl
  · intro ss wx hJ hF
    clear hF
    unfold flowAt
    go_simp
    exact ⟨trivial, rfl, hJ⟩
  intro K hK
  go_simp
  refine hK _ ?_
  clear hK K
  apply chain_step 3 ((.tuple #[]))
  · intro _; kernel_rfl
  · rfl
  · intro ss wx hJ hF
    clear hF
    have hJ' : wx = W2 := hJ
    subst hJ'
    unfold flowAt
    go_simp
    simp only [flowUpon]
    go_at_call 8
    refine (ha_crash HT0.o I3.o hN HKC.o dir hd A' c' tl (by omega) HTC.o HAC.o HTB.o).mono ?_
    rintro e w' ⟨rfl, h⟩
    exact ⟨_, rfl, trivial, rfl, h⟩
  intro K hK
  go_simp
  refine hK _ ?_
  clear hK K
  apply chain_nil
  intro s2 w6 hJ6 hF
  have H6 : Sd (HalfAt w1 noX b rb (s.crash dir tl) s w6) := ⟨hJ6⟩
  clear hF hJ6 HJC hr HTC HAC HKC HT0
  go_simp

  have I6 : Sd (Inv 200 (s.crash dir tl)) := ⟨I3.o.crash dir tl⟩
  have HBG := Sd.mk (fun k => crash_read s dir tl I6.o.files k)
  have HLS := Sd.mk (crash_list s I3.o.ok dir tl)
  have HOFF : Sd ((s.crash dir tl).off = false) := ⟨rfl⟩
  have HMV : Sd ((s.crash dir tl).M.length = 0) := ⟨rfl⟩
  have HTW := Sd.mk (fun l2 => crash_twice s dir 99 tl l2)
  generalize s.crash dir tl = u at *
  obtain ⟨m, rfl, hm⟩ := HalfAt.fs H6.o
  obtain ⟨rm, rfl, hrm⟩ := HalfAt.rs H6.o
  have HM := Sd.mk hm
  have HR := Sd.mk hrm
  have HK6 : Sd (Keeps NoB W w6) := ⟨HK1.o.then (HalfAt.keeps H6.o)⟩
  have HX6 := Sd.mk ((HalfAt.keeps H6.o).obj HX1.o (fun f => f))
  obtain ⟨Af, cf, hfv, _, _⟩ := OwnW.slice hrm.ptrs
  rw [List.length_map, hrm.len] at hfv
  obtain ⟨Am, cm, hmv, _, _⟩ := OwnW.slice hrm.moves
  have hFl := I3.o.lim.files
  have HC0 : Sd (∀ wx, Keeps NoB w6 wx → wx.cell? ⟨rm.b, 0, none⟩ = some (.slice Af s.F.length cf)) := ⟨fun wx hk => by
    have c0 := (hrm.kept hk).c.1
    rw [hfv] at c0
    exact c0⟩
  have HC3 : Sd (∀ wx, Keeps NoB w6 wx → wx.cell? ⟨rm.b, 3, none⟩ = some (.slice Am s.M.length cm)) := ⟨fun wx hk => by
    have c0 := (hrm.kept hk).c.2.2.2.1
    rw [hmv] at c0
    exact c0⟩
  have HFV := Sd.mk hfv
  clear H6 H3 HX1 HK1 hm hrm hfv hmv HTT
  go_wp2_with fail
  go_loopg [9] s.F.length (fun gk i wr => ∃ j : Nat, gk + j = s.F.length ∧ i = .int .i64 ((j : Int) + 1) ∧ Sd (Keeps NoB w6 wr))
  case atStart => exact ⟨0, by omega, rfl, ⟨Keeps.refl _ _⟩⟩
  case round =>
    obtain ⟨j, hj, rfl, HK⟩ := hrel
    have c0 := HC0.o wr HK.o
    by_cases hlt : j < s.F.length
    case neg =>
      have hq1 : ¬ (j : Int) + 1 ≤ (s.F.length : Int) := by omega
      go_upto_region 15 with (first
        | (go_at_call 12; refine (dead_fs wr m u (HM.o.kept HK.o)).mono ?_; rw [HOFF.o]; rintro e w7 ⟨rfl, rfl⟩)
        | (go_at_call 13; refine (waitdir_fs wr m u (HM.o.kept HK.o)).mono ?_; rw [HMV.o]; rintro e w7 ⟨rfl, rfl⟩))
      have HCX : Sd (∀ wx, Keeps NoB wr wx → wx.cell? ⟨gb, 0, none⟩ = some (.int .i64 dir) ∧ wx.cell? ⟨rm.b, 3, none⟩ = some (.slice Am s.M.length cm)) := ⟨fun wx hk => ⟨blk_cell ((HK.o.then hk).obj HX6.o (fun f => f)) 0, HC3.o wx (HK.o.then hk)⟩⟩
      have hDl := I3.o.ok.len
      have hDl6 := I6.o.ok.len
      have HDN := Sd.mk I6.o.ok.dirD.names
      have hLl : Sd (s.list.length = s.D.length) := ⟨by unfold FSt.list; rw [(sortL_perm _).length_eq, List.length_map]⟩
      have hgo : Sd (∀ w9, Keeps NoB w6 w9 → True) := ⟨fun _ _ => trivial⟩
      clear c0 hgo
      by_cases hdir : (s.M.length : Int) ≤ dir
      · have hls := HLS.o hdir
        have HLL := Sd.mk hls
        clear hls
        refine wp_region_flow_lit (R := Keeps NoB) (w0 := wr) (fun w => Keeps.refl _ w) (fun _ _ _ h k => h.then k) (by kernel_rfl) (by kernel_rfl) (by first | exact (Keeps.refl _ _).drew | exact ((Keeps.refl _ _).drewN _).drew) ?_
        repeat (first
          | (apply flow_const
             · intro _; rfl
             · intro ss wx hR hF
               obtain ⟨g1, g2⟩ := HCX.o wx hR
               clear hF
               unfold flowAt
               go_simp
               exact ⟨Keeps.refl _ _, rfl⟩
             intro K hK
             go_simp
             refine hK _ ?_
             clear hK K)
          | (apply flow_any (p := SlAs s.list)
             · intro _; rfl
             · rintro v wx wy _ hk ⟨A', c', e, ho⟩
               exact ⟨A', c', e, ho.keeps hk (fun _ _ f => f)⟩
             · intro ss wx hR hF
               clear hF
               unfold flowAt
               go_simp
               simp only [flowUpon]
               first
                 | (go_at_call 15
                    refine (list_fs wx m u (HM.o.kept (HK.o.then hR)) HDN.o hDl6).mono ?_
                    rw [HLL.o]
                    rintro e w' ⟨A', c', rfl, ho, _, hk⟩
                    exact ⟨_, rfl, hk, A', c', rfl, ho⟩)
                 | (go_at_call 16
                    refine (rlist_fs wx rm s (HR.o.kept (HK.o.then hR)) hDl).mono ?_
                    rintro e w' ⟨A', c', rfl, ho, _, hk⟩
                    exact ⟨_, rfl, hk, A', c', rfl, ho⟩)
             intro K hK
             go_simp
             refine hK _ ?_
             clear hK K)
          | (apply flow_const
             · intro _; rfl
             · intro ss wx hR hF
               obtain ⟨A1, c1, e1, ho1⟩ : SlAs s.list (ss 10) wx := hF 10 (by kernel_rfl)
               obtain ⟨A2, c2, e2, ho2⟩ : SlAs s.list (ss 12) wx := hF 12 (by kernel_rfl)
               clear hF
               unfold flowAt
               go_simp
               simp only [flowUpon]
               go_at_call 14
               refine (rtexts_any wx A1 A2 c1 c2 s.list s.list ho1.vrd.2.2.2.2.2 ho2.vrd.2.2.2.2.2 (by have := hLl.o; omega) (by have := hLl.o; omega)).mono ?_
               rintro e w' ⟨rfl, k, rfl⟩
               refine ⟨_, rfl, (Keeps.refl _ _).drewN k, ?_⟩
               rw [decide_eq_true rfl]
             intro K hK
             go_simp
             refine hK _ ?_
             clear hK K))
        refine flow_nil ?_
        intro ss w8 hk8 hF
        clear hF
        have HK8 := Sd.mk (HK.o.then hk8)
        clear hk8 HCX
        have CPY := Sd.mk (copy_fs w8 m u 200 (HM.o.kept HK8.o) I6.o (by omega))
        go_upto_region 20 with (go_at_call 17; refine CPY.o.mono ?_; rintro e w9 ⟨m2, rfl, hi2, ho2, _, hk9⟩; have HI2 := Sd.mk hi2; have HO2 := Sd.mk ho2; have HK9 := Sd.mk hk9; clear hi2 ho2 hk9)
        have HKA : Sd (Keeps NoB w9 (w9.alloc (.cells #[.int .i64 1, .int .i64 99, .int .i64 0] 54))) := ⟨(Keeps.refl NoB w9).alloc _⟩
        have HBA : Sd ((w9.alloc (.cells #[.int .i64 1, .int .i64 99, .int .i64 0] 54)).heap[w9.heap.size]? = some (.cells #[.int .i64 1, .int .i64 99, .int .i64 0] 54 (0, 0))) := ⟨heap_alloc_new w9 _⟩
        have HMA : Sd (IsFS (w9.alloc (.cells #[.int .i64 1, .int .i64 99, .int .i64 0] 54)) m u) := ⟨HM.o.kept ((HK8.o.then HK9.o).then HKA.o)⟩
        have CR := Sd.mk (crash_fs (w9.alloc (.cells #[.int .i64 1, .int .i64 99, .int .i64 0] 54)) m2 u 200 (HI2.o.kept HKA.o) I6.o (by omega) 99 (by decide) (by decide) (some ⟨w9.heap.size, 0, none⟩) 1 [⟨1, 99, 0⟩] (by decide)
          (fun i hi => by
            have hi0 : i = 0 := by simpa using hi
            subst hi0
            exact ⟨_, _, rfl, blk_cell HBA.o 0, blk_cell HBA.o 1, blk_cell HBA.o 2⟩)
          (fun g o sp e _ hm => by
            cases e
            have := FsMem.lt HI2.o _ hm
            omega) (by simp))
        rw [HTW.o] at CR
        generalize hwa : w9.alloc (.cells #[.int .i64 1, .int .i64 99, .int .i64 0] 54) = wa at *
        have HLM : Sd (∀ i, m.O i → i < w8.heap.size) := ⟨FsMem.lt (HM.o.kept HK8.o)⟩
        have HNU : Sd (NotU8 wa m2.O) := ⟨FsMem.notU8 (HI2.o.kept HKA.o)⟩
        have HLX := Sd.mk (flive_any)
        have HWA := Sd.mk hwa
        clear hwa HBA
        go_wp2_with (first
          | (go_at_call 8; rw [HWA.o]; refine CR.o.mono ?_; rintro e w10 ⟨rfl, m3, hb3, hi3, _, hk10⟩; have SM := Sd.mk (same_any w10 m m3 u u (HMA.o.keeps hk10 (fun i h1 h2 => by have := HLM.o i h1; have := HO2.o i h2; omega) HNU.o) hi3 I6.o.ok I6.o.ok (by have := I6.o.lim.files; omega) (by have := I6.o.lim.files; omega)); rw [hb3, FSt.same_refl u I6.o.ok] at SM; have HK10 := Sd.mk hk10; clear hb3 hi3 hk10)
          | (go_at_call 18; refine SM.o.mono ?_; rintro e w11 ⟨rfl, hk⟩; have HK11 := Sd.mk hk; clear hk)
          | (go_at_call 6; refine (HLX.o _).mono ?_; rintro e w12 ⟨rfl, hk⟩; have HK12 := Sd.mk hk; clear hk))
        go_ret
        have hka := ((HK6.o.then HK8.o).then HK9.o).then HKA.o
        have hs8 := (HK6.o.then HK8.o).size
        exact ⟨rfl, ((hka.trans HK10.o (fun _ _ f => f) (fun i hi f => absurd (HO2.o i f) (by omega))).then HK11.o).then HK12.o⟩
      refine wp_region_flow_lit (R := Keeps NoB) (w0 := wr) (fun w => Keeps.refl _ w) (fun _ _ _ h k => h.then k) (by kernel_rfl) (by kernel_rfl) (by first | exact (Keeps.refl _ _).drew | exact ((Keeps.refl _ _).drewN _).drew) ?_
      repeat (first
        | (apply flow_skip
           · intro _; rfl
           intro K hK
           go_simp
           refine hK _ ?_
           clear hK K)
        | (apply flow_const
           · intro _; rfl
           · intro ss wx hR hF
             obtain ⟨g1, g2⟩ := HCX.o wx hR
             clear hF
             unfold flowAt
             go_simp
             exact ⟨Keeps.refl _ _, rfl⟩
           intro K hK
           go_simp
           refine hK _ ?_
           clear hK K))
      refine flow_nil ?_
      intro ss w8 hk8 hF
      clear hF
      have HK8 := Sd.mk (HK.o.then hk8)
      clear hk8 HCX
      have CPY := Sd.mk (copy_fs w8 m u 200 (HM.o.kept HK8.o) I6.o (by omega))
      go_upto_region 20 with (go_at_call 17; refine CPY.o.mono ?_; rintro e w9 ⟨m2, rfl, hi2, ho2, _, hk9⟩; have HI2 := Sd.mk hi2; have HO2 := Sd.mk ho2; have HK9 := Sd.mk hk9; clear hi2 ho2 hk9)
      have HKA : Sd (Keeps NoB w9 (w9.alloc (.cells #[.int .i64 1, .int .i64 99, .int .i64 0] 54))) := ⟨(Keeps.refl NoB w9).alloc _⟩
      have HBA : Sd ((w9.alloc (.cells #[.int .i64 1, .int .i64 99, .int .i64 0] 54)).heap[w9.heap.size]? = some (.cells #[.int .i64 1, .int .i64 99, .int .i64 0] 54 (0, 0))) := ⟨heap_alloc_new w9 _⟩
      have HMA : Sd (IsFS (w9.alloc (.cells #[.int .i64 1, .int .i64 99, .int .i64 0] 54)) m u) := ⟨HM.o.kept ((HK8.o.then HK9.o).then HKA.o)⟩
      have CR := Sd.mk (crash_fs (w9.alloc (.cells #[.int .i64 1, .int .i64 99, .int .i64 0] 54)) m2 u 200 (HI2.o.kept HKA.o) I6.o (by omega) 99 (by decide) (by decide) (some ⟨w9.heap.size, 0, none⟩) 1 [⟨1, 99, 0⟩] (by decide)
        (fun i hi => by
          have hi0 : i = 0 := by simpa using hi
          subst hi0
          exact ⟨_, _, rfl, blk_cell HBA.o 0, blk_cell HBA.o 1, blk_cell HBA.o 2⟩)
        (fun g o sp e _ hm => by
          cases e
          have := FsMem.lt HI2.o _ hm
          omega) (by simp))
      rw [HTW.o] at CR
      generalize hwa : w9.alloc (.cells #[.int .i64 1, .int .i64 99, .int .i64 0] 54) = wa at *
      have HLM : Sd (∀ i, m.O i → i < w8.heap.size) := ⟨FsMem.lt (HM.o.kept HK8.o)⟩
      have HNU : Sd (NotU8 wa m2.O) := ⟨FsMem.notU8 (HI2.o.kept HKA.o)⟩
      have HLX := Sd.mk (flive_any)
      have HWA := Sd.mk hwa
      clear hwa HBA
      go_wp2_with (first
        | (go_at_call 8; rw [HWA.o]; refine CR.o.mono ?_; rintro e w10 ⟨rfl, m3, hb3, hi3, _, hk10⟩; have SM := Sd.mk (same_any w10 m m3 u u (HMA.o.keeps hk10 (fun i h1 h2 => by have := HLM.o i h1; have := HO2.o i h2; omega) HNU.o) hi3 I6.o.ok I6.o.ok (by have := I6.o.lim.files; omega) (by have := I6.o.lim.files; omega)); rw [hb3, FSt.same_refl u I6.o.ok] at SM; have HK10 := Sd.mk hk10; clear hb3 hi3 hk10)
        | (go_at_call 18; refine SM.o.mono ?_; rintro e w11 ⟨rfl, hk⟩; have HK11 := Sd.mk hk; clear hk)
        | (go_at_call 6; refine (HLX.o _).mono ?_; rintro e w12 ⟨rfl, hk⟩; have HK12 := Sd.mk hk; clear hk))
      go_ret
      have hka := ((HK6.o.then HK8.o).then HK9.o).then HKA.o
      have hs8 := (HK6.o.then HK8.o).size
      exact ⟨rfl, ((hka.trans HK10.o (fun _ _ f => f) (fun i hi f => absurd (HO2.o i f) (by omega))).then HK11.o).then HK12.o⟩
    have hq1 : (j : Int) + 1 ≤ (s.F.length : Int) := by omega
    obtain ⟨Q, hQ⟩ : ∃ Q, Q = u.read ((j : Int) + 1) 0 67108864 := ⟨_, rfl⟩
    have HQ := Sd.mk hQ
    clear hQ
    go_upto_region 11 with (go_at_call 9; refine (read_fs wr m u 200 (HM.o.kept HK.o) I6.o (by omega) ((j : Int) + 1) 0 67108864 (by omega) (by omega) (by omega) (by omega)).mono ?_; rintro e w7 ⟨A7, c7, rfl, ho, _, hk⟩; rw [← HQ.o] at ho; rw [← HQ.o]; have HO7 := Sd.mk ho; have HK7 := Sd.mk (HK.o.then hk); clear hk ho)
    have hjl : j < rm.fs.length := by rw [HR.o.len]; exact hlt
    obtain ⟨gF, cF, efv, hcj⟩ := HR.o.ptrs.get (j := j) (by rw [List.length_map]; exact hjl)
    rw [HFV.o] at efv
    have hAf : Af = some ⟨gF, 0, none⟩ := (Value.slice.inj efv).1
    have hfile := HR.o.file j hjl
    have hsf : s.F.getD j noFile = s.file (j + 1) := rfl
    rw [hsf] at hfile
    obtain ⟨Al, cl, hlv, _, _⟩ := OwnW.slice hfile.log
    have hf1 := hfile.c.2.1
    have hf2 := hfile.c.2.2.1
    have hlg := hfile.log
    rw [hlv] at hf2 hlg
    rw [List.getElem_map] at hcj
    subst hAf
    generalize (rm.fs[j]).fb = fb at *
    have HCF : Sd (∀ wx, Keeps NoB w6 wx → wx.cell? ⟨gF, j, none⟩ = some (.pointer (some ⟨fb, 0, none⟩)) ∧ wx.cell? ⟨fb, 1, none⟩ = some (.string (sOf (s.file (j + 1)).safe)) ∧ wx.cell? ⟨fb, 2, none⟩ = some (.slice Al (s.file (j + 1)).log.length cl) ∧ wx.cell? ⟨rm.b, 0, none⟩ = some (.slice (some ⟨gF, 0, none⟩) s.F.length cf)) :=
      ⟨fun wx hk => ⟨hk.cell hcj (fun f => f), hk.cell hf1 (fun f => f), hk.cell hf2 (fun f => f), HC0.o wx hk⟩⟩
    have HLG := Sd.mk hlg
    have hlok := (I3.o.files (j + 1)).1
    have hldat := I3.o.lim.dat (j + 1)
    have hllen := I3.o.lim.log (j + 1)
    have HBJ := HBG.o (j + 1)
    rw [show ((j + 1 : Nat) : Int) = (j : Int) + 1 from rfl, ← HQ.o] at HBJ
    have HFL := Sd.mk (And.intro hlok (And.intro hldat hllen))
    have hq0 : (0 : Int) ≤ (j : Int) := by omega
    have hq2 : (j : Int) < (s.F.length : Int) := by omega
    have hwr : IntKind.i64.wrap (j : Int) = (j : Int) := IntWalk.i64_in _ (by omega)
    clear hfile hsf hlv hf1 hf2 hlg hcj efv hlok hldat hllen c0 hjl
    generalize s.file (j + 1) = x at *
    by_cases hE : Q.2 = 0
    case neg =>
      have hE2 : (Q.2 == 0) = false := by simpa using hE
      clear hE HBJ
      refine wp_region_flow_lit (R := Keeps NoB) (w0 := w7) (fun w => Keeps.refl _ w) (fun _ _ _ h k => h.then k) (by kernel_rfl) (by kernel_rfl) (by first | exact (Keeps.refl _ _).drew | exact ((Keeps.refl _ _).drewN _).drew) ?_
      repeat (first
        | (apply flow_skip
           · intro _; rfl
           intro K hK
           go_simp
           refine hK _ ?_
           clear hK K)
        | (apply flow_const
           · intro _; kernel_rfl
           · intro ss wx hR hF
             clear hF
             unfold flowAt
             go_simp
             first
               | exact ⟨Keeps.refl _ _, rfl⟩
               | (simp only [flowUpon]
                  go_at_call 10
                  refine (num_law2 wx _).mono ?_
                  rintro e w' ⟨rfl, rfl⟩
                  exact ⟨_, rfl, Keeps.refl _ _, rfl⟩)
           intro K hK
           go_simp
           refine hK _ ?_
           clear hK K))
      refine flow_nil ?_
      intro ss w8 hk8 hF
      clear hF
      have HK8 := Sd.mk (HK7.o.then hk8)
      clear hk8
      go_wp2_with fail
      go_roundg (gk - 1)
      case measure => omega
      case rel => exact ⟨j + 1, by omega, by first | rfl | go_num, HK8⟩
    have hE2 : (Q.2 == 0) = true := by simpa using hE
    obtain ⟨k0, hk0⟩ := HBJ hE
    have HB0 := Sd.mk hk0
    clear hE HBJ hk0
    refine wp_region_flow_lit (R := Keeps NoB) (w0 := w7) (fun w => Keeps.refl _ w) (fun _ _ _ h k => h.then k) (by kernel_rfl) (by kernel_rfl) (by first | exact (Keeps.refl _ _).drew | exact ((Keeps.refl _ _).drewN _).drew) ?_
    repeat (apply flow_const
            · intro _; rfl
            · intro ss wx hR hF
              obtain ⟨g1, g2, g3, g4⟩ := HCF.o wx (HK7.o.then hR)
              have hcv := cv_own (HO7.o.keeps hR (fun _ _ f => f))
              clear hF
              unfold flowAt
              go_simp
              first
                | exact ⟨Keeps.refl _ _, rfl⟩
                | (simp only [flowUpon]
                   first
                     | (go_at_call 10
                        refine (num_law2 wx _).mono ?_
                        rintro e w' ⟨rfl, rfl⟩
                        exact ⟨_, rfl, Keeps.refl _ _, rfl⟩)
                     | (go_at_call 11
                        refine (lbeg_any wx Al cl x.safe Q.1 x.log (OwnW.keeps HLG.o (HK7.o.then hR) (fun _ _ f => f)) HFL.o.1 HFL.o.2.1 (by have := HFL.o.2.2; omega) k0 HB0.o).mono ?_
                        rintro e w' ⟨rfl, hk⟩
                        exact ⟨_, rfl, hk, rfl⟩))
            intro K hK
            go_simp
            refine hK _ ?_
            clear hK K)
    refine flow_nil ?_
    intro ss w8 hk8 hF
    clear hF
    have HK8 := Sd.mk (HK7.o.then hk8)
    clear hk8
    go_wp2_with fail
    go_roundg (gk - 1)
    case measure => omega
    case rel => exact ⟨j + 1, by omega, by first | rfl | go_num, HK8⟩
end Go.Proofs.YtlhhcoijkjcneaaGreat
