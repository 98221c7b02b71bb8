/- The document's comparison of two lists of strings. -/
import Derived.BigRegion
import Derived.BigQuiet
import Derived.Deep.QuietTactic
import Derived.Test.YtlhhcoijkjcneaaGreatGa
import Derived.Test.YtlhhcoijkjcneaaGreatRfM
import Derived.Test.YtlhhcoijkjcneaaGreatGe
import Derived.Test.YtlhhcoijkjcneaaGreatSimW
namespace Go.Proofs.YtlhhcoijkjcneaaGreat
open Go.RowKit
theorem sOf_lst (l : List UInt8) : (sOf l).toList = l := by rw [ByteArray.toList_eq]; rfl
theorem take_snoc3 {α : Type} (l m : List α) (k : Nat) (hl : k < l.length) (hm : k < m.length) (h : l.take k = m.take k) (he : l[k] = m[k]) : l.take (k + 1) = m.take (k + 1) := by
  rw [List.take_succ_eq_append_getElem hl, List.take_succ_eq_append_getElem hm, h, he]
set_option maxHeartbeats 4000000 in
theorem rtexts_any (w : World) (A B : Option Addr) (c d : Nat) (xs ys : List (List UInt8)) (hx : VRd w A (strs xs)) (hy : VRd w B (strs ys)) (hxl : xs.length ≤ 140737488355328) (hyl : ys.length ≤ 140737488355328) :
    Calls Tryz.prog 14 #[.slice A xs.length c, .slice B ys.length d] w fun e w' => e = .returned (.bool (decide (xs = ys))) ∧ ∃ n, w' = w.drewN n := by
  have HX := Sd.mk hx
  have HY := Sd.mk hy
  clear hx hy
  by_cases hlen : xs.length = ys.length
  case neg =>
    have hq : ((xs.length : Int) != (ys.length : Int)) = true := by simp; omega
    have hf : Sd (decide (xs = ys) = false) := ⟨decide_eq_false (fun e => hlen (by rw [e]))⟩
    clear hlen
    go_enter Tryz.func14, Tryz.ntmps14
    go_wp2
    go_ret
    exact ⟨by rw [hf.o]; rfl, 0, rfl⟩
  have hq : ((xs.length : Int) != (ys.length : Int)) = false := by simp; omega
  have HLEN := Sd.mk hlen
  clear hlen
  go_enter Tryz.func14, Tryz.ntmps14
  go_wp2_with fail
  go_loopg [5] xs.length (fun gk i wr => ∃ (k m : Nat), gk + k = xs.length ∧ i = .int .i64 k ∧ k ≤ xs.length ∧ Sd (xs.take k = ys.take k) ∧ Sd (wr = w.drewN m))
  case atStart => exact ⟨0, 0, by omega, rfl, by omega, ⟨by simp⟩, ⟨rfl⟩⟩
  case round =>
    obtain ⟨k, m, hk, rfl, hk1, hT, ⟨rfl⟩⟩ := hrel
    by_cases hlt : k < xs.length
    · have hq1 : (k : Int) < (xs.length : Int) := by omega
      have hq2 : (k : Int) < (ys.length : Int) := by have := HLEN.o; omega
      have hq0 : (0 : Int) ≤ (k : Int) := by omega
      have hlt2 : k < ys.length := by have := HLEN.o; omega
      obtain ⟨b1, o1, rfl, g1⟩ := HX.o k (by rw [strs_len]; exact hlt)
      obtain ⟨b2, o2, rfl, g2⟩ := HY.o k (by rw [strs_len]; exact hlt2)
      have g1' : w.cell? ⟨b1, o1 + k, none⟩ = some (.string (sOf xs[k])) := by rw [g1]; simp [strs]
      have g2' : w.cell? ⟨b2, o2 + k, none⟩ = some (.string (sOf ys[k])) := by rw [g2]; simp [strs]
      clear g1 g2
      by_cases he : xs[k] = ys[k]
      · have hst : Sd (xs.take (k + 1) = ys.take (k + 1)) := ⟨take_snoc3 _ _ k hlt hlt2 hT.o he⟩
        have heq : ((sOf xs[k]).toList == (sOf ys[k]).toList) = true := by rw [he]; simp
        clear he
        generalize sOf xs[k] = x at *
        generalize sOf ys[k] = y at *
        go_wp2_with fail
        go_quiet (fail)
        clear g1' g2' heq
        go_wp2_with fail
        go_roundg (gk - 1)
        case measure => omega
        case rel => exact ⟨k + 1, _, by omega, by go_num, by omega, hst, ⟨rfl⟩⟩
      · have hno : Sd (decide (xs = ys) = false) := ⟨decide_eq_false (fun e => he (by simp only [e]))⟩
        have heq : ((sOf xs[k]).toList == (sOf ys[k]).toList) = false := by rw [sOf_lst, sOf_lst]; simpa using he
        clear he
        generalize sOf xs[k] = x at *
        generalize sOf ys[k] = y at *
        go_wp2_with fail
        go_quiet (fail)
        clear g1' g2' heq
        go_wp2_with fail
        go_ret
        exact ⟨by rw [hno.o]; rfl, _, World.drewN_drewN _ _ _⟩
    · have hq1 : ¬ (k : Int) < (xs.length : Int) := by omega
      have hyes : Sd (decide (xs = ys) = true) := ⟨decide_eq_true (by
        have := hT.o
        rw [List.take_of_length_le (by omega), List.take_of_length_le (by have := HLEN.o; omega)] at this
        exact this)⟩
      go_wp2_with fail
      go_ret
      exact ⟨by rw [hyes.o]; rfl, _, rfl⟩

end Go.Proofs.YtlhhcoijkjcneaaGreat
namespace Go.Proofs.YtlhhcoijkjcneaaGreat
open Go.RowKit Go.Maps Go.Lib

set_option maxHeartbeats 1000000 in
set_option maxRecDepth 100000 in
theorem rsize_fs (w : World) (m : RMem) (s : FSt) (N : Nat) (h : IsRS w m s) (inv : Inv N s) (hN : N ≤ 900000000) (n : Int) :
    Calls Tryz.prog 62 #[.pointer (some ⟨m.b, 0, none⟩), .int .i64 n] w fun e w' => e = .returned (.tuple #[.int .i64 (s.size n).1, .int .i64 (s.size n).2]) ∧ Keeps NoB w w' := by
  have hDl := inv.ok.len
  have hFl := inv.lim.files
  have H := Sd.mk h
  by_cases ht : s.there n = 0
  case neg =>
    have hb : (s.there n != 0) = true := by simpa using ht
    have HFIN : Sd (s.size n = (0, s.there n)) := ⟨by unfold FSt.size; rw [if_pos ht]⟩
    have HTH := Sd.mk (rthere_no w m s h (by omega) n ht)
    generalize s.size n = R at *
    generalize s.there n = t at *
    clear h inv ht
    go_enter Tryz.func62, Tryz.ntmps62
    go_wp2_with (go_at_call 90; refine HTH.o.mono ?_; rintro e w1 ⟨rfl, hk⟩; have HK1 := Sd.mk hk; clear hk)
    go_ret2
    exact ⟨by rw [HFIN.o]; rfl, HK1.o⟩
  obtain ⟨k, hk, rfl, hx⟩ := h.fileAt inv.ok (there_any ht).2
  rw [show ((k : Int) + 1).toNat = k + 1 by omega] at hx
  have HX := Sd.mk hx
  have hkF : k < s.F.length := by rw [← h.len]; exact hk
  have HTH := Sd.mk (rthere_ok w m s h (by omega) k hk (by omega) ht)
  have hsm := inv.files.small (k + 1)
  obtain ⟨P, hP⟩ : ∃ P, P = (s.file (k + 1)).data := ⟨_, rfl⟩
  have HFIN : Sd (s.size ((k : Int) + 1) = ((P.length : Int), 0)) := ⟨by
    unfold FSt.size
    rw [if_neg (fun e => e ht), show ((k : Int) + 1).toNat = k + 1 by omega, ← hP]⟩
  have hLEN := sOf_size P
  rw [← hP] at hsm
  have HP := Sd.mk hP
  generalize s.size ((k : Int) + 1) = R at *
  clear h inv ht hx hP
  go_enter Tryz.func62, Tryz.ntmps62
  go_upto_region 4 with (go_at_call 90; refine HTH.o.mono ?_; rintro e w1 ⟨rfl, hk⟩; have HK1 := Sd.mk hk; clear hk)
  have hfile := (H.o.kept HK1.o).file k hk
  rw [HX.o] at hfile
  have cd := hfile.c.2.2.2
  rw [← HP.o] at cd
  clear hfile HTH
  go_wp2_with fail
  go_ret2
  exact ⟨by rw [HFIN.o]; rfl, HK1.o⟩
set_option maxHeartbeats 1000000 in
set_option maxRecDepth 100000 in
theorem rwaiting_fs (w : World) (m : RMem) (s : FSt) (N : Nat) (h : IsRS w m s) (inv : Inv N s) (hN : N ≤ 900000000) (n : Int) :
    Calls Tryz.prog 64 #[.pointer (some ⟨m.b, 0, none⟩), .int .i64 n] w fun e w' => e = .returned (.int .i64 (s.waiting n : Nat)) ∧ Keeps NoB w w' := by
  have hDl := inv.ok.len
  have hFl := inv.lim.files
  have H := Sd.mk h
  cases ht : s.D.any (fun e => ((e.2 : Nat) : Int) == n) with
  | false =>
    have HFIN : Sd (s.waiting n = 0) := ⟨by unfold FSt.waiting; rw [ht]; rfl⟩
    have HTH := Sd.mk (rfile_none w m s h (by omega) n ht)
    generalize s.waiting n = R at *
    clear h inv ht
    go_enter Tryz.func64, Tryz.ntmps64
    go_wp2_with (go_at_call 91; refine HTH.o.mono ?_; rintro e w1 ⟨rfl, hk⟩; have HK1 := Sd.mk hk; clear hk)
    go_ret
    exact ⟨by rw [HFIN.o]; rfl, HK1.o⟩
  | true =>
  obtain ⟨k, hk, rfl, hx⟩ := h.fileAt inv.ok ht
  rw [show ((k : Int) + 1).toNat = k + 1 by omega] at hx
  have HX := Sd.mk hx
  have hkF : k < s.F.length := by rw [← h.len]; exact hk
  have HTH := Sd.mk (rfile_some w m s h (by omega) k hk (by omega) ht)
  have hlg := inv.lim.log (k + 1)
  obtain ⟨P, hP⟩ : ∃ P, P = (s.file (k + 1)).log := ⟨_, rfl⟩
  have HFIN : Sd (s.waiting ((k : Int) + 1) = P.length) := ⟨by
    unfold FSt.waiting
    rw [ht, show ((k : Int) + 1).toNat = k + 1 by omega, ← hP]
    rfl⟩
  rw [← hP] at hlg
  have HP := Sd.mk hP
  generalize s.waiting ((k : Int) + 1) = R at *
  clear h inv ht hx hP
  go_enter Tryz.func64, Tryz.ntmps64
  go_upto_region 4 with (go_at_call 91; refine HTH.o.mono ?_; rintro e w1 ⟨rfl, hk⟩; have HK1 := Sd.mk hk; clear hk)
  have hfile := (H.o.kept HK1.o).file k hk
  rw [HX.o] at hfile
  have cd := hfile.c.2.2.1
  have hlog := hfile.log
  rw [← HP.o] at hlog
  obtain ⟨A, c, hv, _, _⟩ := OwnW.slice hlog
  rw [hv] at cd
  clear hfile HTH hlog hv
  go_wp2_with fail
  go_ret
  exact ⟨by rw [HFIN.o]; rfl, HK1.o⟩
end Go.Proofs.YtlhhcoijkjcneaaGreat
namespace Go.Proofs.YtlhhcoijkjcneaaGreat
open Go.RowKit Go.Maps Go.Lib

set_option maxHeartbeats 1000000 in
theorem opsn_fs (w : World) (m : FsMem) (s : FSt) (h : IsFS w m s) : Calls Tryz.prog 57 #[.pointer (some ⟨m.b, 0, none⟩)] w fun e w' => e = .returned (.int .i64 (s.ops : Nat)) ∧ w = w' := by
  obtain ⟨c0, c1, c2, c3, c4, c5, c6, c7, c8⟩ := h.c
  clear h
  go_enter Tryz.func57, Tryz.ntmps57
  go_wp2
  go_ret
  exact ⟨rfl, rfl⟩
set_option maxHeartbeats 1000000 in
theorem capacity_fs (w : World) (m : FsMem) (s : FSt) (h : IsFS w m s) : Calls Tryz.prog 60 #[.pointer (some ⟨m.b, 0, none⟩)] w fun e w' => e = .returned (.int .i64 s.cap) ∧ w = w' := by
  obtain ⟨c0, c1, c2, c3, c4, c5, c6, c7, c8⟩ := h.c
  clear h
  go_enter Tryz.func60, Tryz.ntmps60
  go_wp2
  go_ret
  exact ⟨rfl, rfl⟩
set_option maxHeartbeats 1000000 in
theorem waitdir_fs (w : World) (m : FsMem) (s : FSt) (h : IsFS w m s) : Calls Tryz.prog 13 #[.pointer (some ⟨m.b, 0, none⟩)] w fun e w' => e = .returned (.int .i64 (s.M.length : Nat)) ∧ w = w' := by
  obtain ⟨c0, c1, c2, c3, c4, c5, c6, c7, c8⟩ := h.c
  obtain ⟨Am, cm, hmv, _, _⟩ := OwnW.slice h.moves
  rw [hmv] at c4
  clear h hmv
  go_enter Tryz.func13, Tryz.ntmps13
  go_wp2
  go_ret
  exact ⟨rfl, rfl⟩
set_option maxHeartbeats 1000000 in
set_option maxRecDepth 100000 in
theorem size_fs (w : World) (m : FsMem) (s : FSt) (N : Nat) (h : IsFS w m s) (inv : Inv N s) (hN : N ≤ 1000000000) (n : Int) :
    Calls Tryz.prog 61 #[.pointer (some ⟨m.b, 0, none⟩), .int .i64 n] w fun e w' => e = .returned (.tuple #[.int .i64 (s.size n).1, .int .i64 (s.size n).2]) ∧ Keeps NoB w w' := by
  have hFN : s.F.length ≤ 4611686018427387904 := by have := inv.lim.files; omega
  have HTH := Sd.mk (there_fs w m s h inv.ok hFN n)
  have H := Sd.mk h
  have HI := Sd.mk inv
  obtain ⟨R, hR⟩ : ∃ R, R = s.size n := ⟨_, rfl⟩
  rw [← hR]
  have HR := Sd.mk hR
  obtain ⟨t, ht⟩ : ∃ t, t = s.there n := ⟨_, rfl⟩
  rw [← ht] at HTH
  have HT := Sd.mk ht
  clear h inv hR ht
  go_enter Tryz.func61, Tryz.ntmps61
  go_wp2_with fail
  refine HTH.o.mono ?_
  clear HTH
  rintro e w1 ⟨pp, rfl, hk1, hne, heq⟩
  have HK1 := Sd.mk hk1
  clear hk1
  by_cases ht0 : t = 0
  case neg =>
    have hb : (t != 0) = true := by simpa using ht0
    have hfin : Sd (R = (0, t)) := ⟨by rw [HR.o]; unfold FSt.size; rw [← HT.o, if_pos ht0]⟩
    obtain rfl := hne ht0
    clear hne heq ht0
    go_wp2_with fail
    go_ret2
    exact ⟨by rw [hfin.o]; rfl, HK1.o⟩
  subst ht0
  obtain ⟨hoff, k, f, rfl, hkF, hg, rfl⟩ := heq rfl
  have h1 := H.o.kept HK1.o
  have hfile := h1.file k f hg
  have cd := hfile.2.2.c.1
  obtain ⟨Ad, cc, hdv⟩ := hfile.2.2.dat.slice
  rw [hdv] at cd
  obtain ⟨P, hP⟩ : ∃ P, P = (s.file k).data := ⟨_, rfl⟩
  rw [← hP] at cd
  have hfin : Sd (R = ((P.length : Int), 0)) := ⟨by
    rw [HR.o]
    unfold FSt.size
    rw [← HT.o, if_neg (fun e => e rfl), Int.toNat_natCast, ← hP]⟩
  clear hne heq hoff hg h1 hfile hdv HT HR hP
  go_wp2_with fail
  go_ret2
  exact ⟨by rw [hfin.o]; rfl, HK1.o⟩
end Go.Proofs.YtlhhcoijkjcneaaGreat
namespace Go.Proofs.YtlhhcoijkjcneaaGreat
open Go.RowKit Go.Maps Go.Lib

theorem bless : ∀ (x y : List UInt8), Op.bytesLess x y = decide (x < y)
  | [], [] => by simp [Op.bytesLess]
  | _ :: _, [] => by simp [Op.bytesLess]
  | [], _ :: _ => by simp [Op.bytesLess]
  | a :: x, b :: y => by
    rw [Op.bytesLess, bless x y]
    simp only [List.cons_lt_cons_iff]
    by_cases h1 : a < b <;> by_cases h2 : a = b <;> by_cases h3 : x < y <;> simp [h1, h2, h3]
/-- A list of names, sorted. -/
def sortL (l : List (List UInt8)) : List (List UInt8) := l.mergeSort (fun x y => decide (x ≤ y))
theorem sortL_perm (l : List (List UInt8)) : (sortL l).Perm l := List.mergeSort_perm _ _
theorem sortL_sorted (l : List (List UInt8)) : (sortL l).Pairwise (· ≤ ·) := by
  have := List.pairwise_mergeSort (le := fun x y : List UInt8 => decide (x ≤ y)) (fun a b c h1 h2 => by simp only [decide_eq_true_eq] at *; exact List.le_trans h1 h2) (fun a b => by simp only [Bool.or_eq_true, decide_eq_true_eq]; exact List.le_total a b) l
  exact this.imp fun h => of_decide_eq_true h
theorem sortL_unique {l m : List (List UInt8)} (hp : m.Perm l) (hs : m.Pairwise (· ≤ ·)) : m = sortL l :=
  List.Perm.eq_of_pairwise (le := (· ≤ ·)) (fun _ _ _ _ h1 h2 => List.le_antisymm h1 h2) hs (sortL_sorted l) (hp.trans (sortL_perm l).symm)
theorem sortL_congr {l m : List (List UInt8)} (hp : m.Perm l) : sortL m = sortL l := sortL_unique ((sortL_perm m).trans hp) (sortL_sorted m)
theorem ins_swap {a b : List (List UInt8)} {x y : List UInt8} (h : ((a ++ [y]) ++ b).Pairwise (· ≤ ·)) (hx : ∀ z ∈ b, x ≤ z) (hxy : x < y) : (a ++ (y :: b)).Pairwise (· ≤ ·) ∧ ∀ z ∈ y :: b, x ≤ z := by
  refine ⟨by simpa using h, fun z hz => ?_⟩
  rcases List.mem_cons.1 hz with rfl | hz
  · exact List.le_of_lt hxy
  · exact hx z hz
theorem ins_stop {a b : List (List UInt8)} {x y : List UInt8} (h : ((a ++ [y]) ++ b).Pairwise (· ≤ ·)) (hx : ∀ z ∈ b, x ≤ z) (hxy : ¬ x < y) : ((a ++ [y]) ++ x :: b).Pairwise (· ≤ ·) := by
  have hyx : y ≤ x := List.not_lt.1 hxy
  rw [List.pairwise_append] at h ⊢
  obtain ⟨h1, h2, h3⟩ := h
  refine ⟨h1, List.pairwise_cons.2 ⟨hx, h2⟩, fun p hp q hq => ?_⟩
  rcases List.mem_cons.1 hq with rfl | hq
  · rcases List.mem_append.1 hp with hp | hp
    · have h4 := List.pairwise_append.1 h1
      exact List.le_trans (h4.2.2 p hp y (by simp)) hyx
    · simp at hp
      rw [hp]; exact hyx
  · exact h3 p hp q hq
theorem ins_perm {a b : List (List UInt8)} {x y : List UInt8} {base : List (List UInt8)} (h : ((a ++ [y]) ++ x :: b).Perm base) : (a ++ x :: (y :: b)).Perm base := by
  refine List.Perm.trans ?_ h
  rw [List.append_assoc]
  exact List.Perm.append_left a (List.Perm.swap _ _ _)
theorem infoStrR : (Tryz.prog.info? 9).map (fun i => (i.zero, i.size, i.bytes)) = some (some (.string ⟨#[]⟩), 1, 16) := by kernel_rfl
theorem OwnV.swap {w : World} {e : TypeId} {g n c : Nat} {vs : List Value} (h : OwnV w e (.slice (some ⟨g, 0, none⟩) n c) vs) (i j : Nat) (x y : Value) : OwnV ((w.setCell ⟨g, i, none⟩ x).setCell ⟨g, j, none⟩ y) e (.slice (some ⟨g, 0, none⟩) n c) ((vs.set i x).set j y) := by
  obtain ⟨h1, h2⟩ := h
  rcases h2 with ⟨h2, _⟩ | ⟨g', cap, cur, hv, hb, hg, hn, hc, hs, ht⟩
  · cases h2
  · cases hv
    refine ⟨by simp, .inr ⟨g, c, (cur.setIfInBounds i x).setIfInBounds j y, by simp, Nat.zero_le _, blk_set (blk_set hg i _) j _, by simp; exact hn, hc, by simp [hs], ?_⟩⟩
    simp only [List.length_set, Array.toList_setIfInBounds, List.take_set] at *
    rw [ht]
theorem OwnV.notFrozen {w : World} {e : TypeId} {g n c : Nat} {vs : List Value} (h : OwnV w e (.slice (some ⟨g, 0, none⟩) n c) vs) (i : Nat) : w.frozen? ⟨g, i, none⟩ = false := by
  obtain ⟨h1, h2⟩ := h
  rcases h2 with ⟨h2, _⟩ | ⟨g', cap, cur, hv, hb, hg, _⟩
  · cases h2
  · cases hv
    exact blk_frozen hg i
theorem OwnV.addr {w : World} {e : TypeId} {A : Option Addr} {n c : Nat} {vs : List Value} (h : OwnV w e (.slice A n c) vs) (hn : 0 < vs.length) : ∃ g, A = some ⟨g, 0, none⟩ := by
  obtain ⟨h1, h2⟩ := h
  rcases h2 with ⟨_, h2⟩ | ⟨g', cap, cur, hv, _⟩
  · omega
  · cases hv
    exact ⟨g', rfl⟩
theorem strs_swap (a b : List (List UInt8)) (x y : List UInt8) : ((strs ((a ++ [y]) ++ x :: b)).set a.length (.string (sOf x))).set (a.length + 1) (.string (sOf y)) = strs (a ++ x :: (y :: b)) := by
  unfold strs
  simp
theorem strs_at0 (a b : List (List UInt8)) (x : List UInt8) : (strs (a ++ x :: b))[a.length]? = some (.string (sOf x)) := by simp [strs]
/-- The names of a file system, sorted. -/
def FSt.list (s : FSt) : List (List UInt8) := sortL (s.D.map (·.1))

set_option maxHeartbeats 4000000 in
set_option maxRecDepth 1000000 in
theorem rlist_fs (w : World) (m : RMem) (s : FSt) (h : IsRS w m s) (hD : s.D.length ≤ 4096) :
    Calls Tryz.prog 16 #[.pointer (some ⟨m.b, 0, none⟩)] w fun e w' => ∃ A c, e = .returned (.slice A s.list.length c) ∧ OwnV w' 9 (.slice A s.list.length c) (strs s.list) ∧ Fresh w (.slice A s.list.length c) ∧ Keeps NoB w w' := by
  have H := Sd.mk h
  obtain ⟨R, hR⟩ : ∃ R, R = s.list := ⟨_, rfl⟩
  rw [← hR]
  obtain ⟨nm, hnm⟩ : ∃ nm, nm = s.D.map (·.1) := ⟨_, rfl⟩
  have hFIN : Sd (∀ l : List (List UInt8), l.Perm nm → l.Pairwise (· ≤ ·) → l = R) := ⟨fun l hp hs => by rw [hR]; unfold FSt.list; rw [← hnm]; exact sortL_unique hp hs⟩
  have HNM := Sd.mk hnm
  clear h hR hnm
  go_enter Tryz.func16, Tryz.ntmps16
  go_wp2_with fail
  go_loopg [3, 4] s.D.length (fun gk v i wr => ∃ (k : Nat) (l : List (List UInt8)) (A : Option Addr) (c : Nat), gk + k = s.D.length ∧ i = .int .i64 k ∧ v = .slice A l.length c ∧ l.length = k ∧ Sd (l.Perm (nm.take k)) ∧ Sd (l.Pairwise (· ≤ ·)) ∧ Sd (OwnV wr 9 (.slice A l.length c) (strs l)) ∧ Sd (Fresh w (.slice A l.length c)) ∧ Sd (Keeps NoB w wr))
  case atStart =>
    exact ⟨0, [], none, 0, by omega, rfl, rfl, rfl, ⟨by simp⟩, ⟨List.Pairwise.nil⟩, ⟨World.ownsRow_nil _ _ _ _⟩, ⟨fun k hk => by cases hk⟩, ⟨by first | exact Keeps.refl _ _ | exact (Keeps.refl _ _).drewN _⟩⟩
  case round =>
    obtain ⟨k, l, A, c, hk, rfl, rfl, hlk, HP, HS, HO, HF, HK⟩ := hrel
    have hr := H.o.kept HK.o
    obtain ⟨c0, q1, c2, c3, c4, c5, c6, c7, c8⟩ := hr.c
    obtain ⟨Ad, cd, hdv, hcd1, hcd2⟩ := OwnW.slice hr.names
    rw [hdv] at q1
    by_cases hlt : k < s.D.length
    case neg =>
      have hq1 : ¬ (k : Int) < (s.D.length : Int) := by omega
      have hfin : Sd (l = R) := ⟨hFIN.o l (by have := HP.o; rwa [List.take_of_length_le (by rw [HNM.o, List.length_map]; omega)] at this) HS.o⟩
      clear c0 c2 c3 c4 c5 c6 c7 c8 hr
      go_wp2_with fail
      go_ret
      obtain ⟨rfl⟩ := hfin
      exact ⟨_, _, by rw [hlk]; rfl, HO.o, HF.o, HK.o⟩
    have hq1 : (k : Int) < (s.D.length : Int) := by omega
    have hq0 : (0 : Int) ≤ (k : Int) := by omega
    obtain ⟨gd, cdd, hdv2, hn1, hn2⟩ := hr.names.get hlt
    rw [hdv] at hdv2
    cases hdv2
    have hx : Sd (nm.take (k + 1) = nm.take k ++ [s.D[k].1]) := ⟨by
      have h1 : k < nm.length := by rw [HNM.o, List.length_map]; exact hlt
      rw [List.take_succ_eq_append_getElem h1]
      simp [HNM.o]⟩
    obtain ⟨x, hxe⟩ : ∃ x, x = s.D[k].1 := ⟨_, rfl⟩
    rw [← hxe] at hn1 hx
    obtain ⟨S, hS⟩ : ∃ S, S = sOf x := ⟨_, rfl⟩
    rw [← hS] at hn1
    have HSX := Sd.mk hS
    clear hr hdv hn2 c0 c2 c3 c4 c5 c6 c7 c8 hxe hS
    go_wp2_with (at_builtin; go_must (refine app_row rfl _ _ 50 9 (.string ⟨#[]⟩) 16 rfl Tryz.underlying50 infoStrR rfl (.slice A l.length c) (strs l) rfl (HO.o.keeps ((Keeps.refl NoB _).alloc _) (fun _ _ f => f)) ⟨_, 0, none⟩ 1 1 [.string S] rfl rfl (fun _ _ hj => new_one hj) (fun u hu => by simp at hu; subst hu; rfl) (by rw [strs_len]; omega) (by rw [strs_len]; omega) ?_; intro A1 c1 w1 ho1 hk1 hg1; rw [strs_len] at ho1 hg1; rw [strs_len]; have HO1 := Sd.mk ho1; have HK1 := Sd.mk hk1; have HG1 := Sd.mk hg1; clear ho1 hk1 hg1))
    obtain ⟨g, rfl⟩ : ∃ g, A1 = some ⟨g, 0, none⟩ := OwnV.addr HO1.o (by simp [strs])
    have HKW : Sd (Keeps NoB w w1) := ⟨HK.o.fresh HF.o HK1.o.undoalloc⟩
    have HFW : Sd (Fresh w (.slice (some ⟨g, 0, none⟩) (l.length + 1) c1)) := ⟨HF.o.grew HK.o.size HG1.o.undoalloc⟩
    have hgw : Sd (w.heap.size ≤ g) := ⟨HFW.o g rfl⟩
    have HO2 : Sd (OwnV w1 9 (.slice (some ⟨g, 0, none⟩) (l.length + 1) c1) (strs (l ++ x :: []))) := ⟨by
      have := HO1.o
      rw [HSX.o] at this
      unfold strs at this ⊢
      rw [List.map_append]
      exact this⟩
    have hc1 : l.length + 1 ≤ c1 ∧ c1 ≤ maxLen := ⟨HO2.o.vrd.2.1, HO2.o.vrd.2.2.1⟩
    rw [hlk] at HO2 HFW hc1
    clear HK1 HG1 HO1
    clear q1 hn1 H
    have hkk : (l ++ [x]).length = k + 1 := by simp [hlk]
    go_loopg [5] k (fun gk2 i2 wr2 => ∃ (a b : List (List UInt8)), gk2 = a.length ∧ i2 = .int .i64 (a.length : Nat) ∧ a.length + b.length = k ∧ Sd ((a ++ x :: b).Perm (nm.take (k + 1))) ∧ Sd ((a ++ b).Pairwise (· ≤ ·)) ∧ Sd (∀ z ∈ b, x ≤ z) ∧
      Sd (OwnV wr2 9 (.slice (some ⟨g, 0, none⟩) (k + 1) c1) (strs (a ++ x :: b))) ∧ Sd (Keeps NoB w wr2))
    case atStart =>
      exact ⟨l, [], hlk.symm, by rw [hlk], by rw [hlk]; rfl, ⟨by rw [hx.o]; exact HP.o.append_right _⟩, ⟨by rw [List.append_nil]; exact HS.o⟩, ⟨fun z hz => by cases hz⟩, HO2, HKW⟩
    case round =>
      clear HO2 HKW HP HS HO HF HK hkk hlk
      obtain ⟨a, b, rfl, rfl, hab, HP, HS, HB, HO, HK⟩ := hrel
      -- the loop ends
      have hend : Sd ((a ++ x :: b).Pairwise (· ≤ ·)) → Sd (∃ l' : List (List UInt8), l'.length = k + 1 ∧ Sd (l'.Perm (nm.take (k + 1))) ∧ Sd (l'.Pairwise (· ≤ ·)) ∧ Sd (OwnV wr 9 (.slice (some ⟨g, 0, none⟩) l'.length c1) (strs l'))) := fun h => ⟨a ++ x :: b, by simp; omega, HP, h, ⟨by
        have e : (a ++ x :: b).length = k + 1 := by simp; omega
        rw [e]
        exact HO.o⟩⟩
      rcases List.eq_nil_or_concat a with rfl | ⟨a', y, rfl⟩
      · have hq7 : decide ((0 : Int) < (([] : List (List UInt8)).length : Int)) = false := by simp
        obtain ⟨l', hl', HP', HS', HO'⟩ := (hend ⟨List.pairwise_cons.2 ⟨HB.o, HS.o⟩⟩).o
        clear HP HS HB HO hend
        go_wp2_with fail
        go_quiet (fail)
        go_wp2_with fail
        go_roundg (gk - 1)
        case measure => omega
        case rel =>
          exact ⟨k + 1, l', some ⟨g, 0, none⟩, c1, by omega, by go_num, by rw [hl'], hl', HP', HS', HO', by rw [hl']; exact HFW, ⟨HK.o.drewN _⟩⟩
      · simp only [List.concat_eq_append] at *
        have hla : (a' ++ [y]).length = a'.length + 1 := by simp
        rw [hla] at hab
        have e0 := strs_at0 a' (x :: b) y
        have e1 := strs_at0 (a' ++ [y]) b x
        rw [List.append_assoc, hla] at e1
        have hv := HO.o.vrd.2.2.2.2.2
        have hg0 : wr.cell? ⟨g, a'.length, none⟩ = some (.string (sOf y)) := by
          obtain ⟨b', o', e, hc⟩ := hv a'.length (by rw [strs_len]; simp)
          cases e
          rw [Nat.zero_add] at hc
          rw [hc]
          have e2 := (List.getElem?_eq_some_iff.1 e0).2
          simp only [List.append_assoc, List.singleton_append]
          exact congrArg some e2
        have hg1 : wr.cell? ⟨g, a'.length + 1, none⟩ = some (.string (sOf x)) := by
          obtain ⟨b', o', e, hc⟩ := hv (a'.length + 1) (by rw [strs_len]; simp)
          cases e
          rw [Nat.zero_add] at hc
          rw [hc]
          have e2 := (List.getElem?_eq_some_iff.1 e1).2
          simp only [List.append_assoc, List.singleton_append] at e2 ⊢
          exact congrArg some e2
        have hf0 := HO.o.notFrozen a'.length
        have hf1 := HO.o.notFrozen (a'.length + 1)
        rw [hla]
        obtain ⟨p, hp⟩ : ∃ p, p = a'.length := ⟨_, rfl⟩
        rw [← hp] at hg0 hg1 hf0 hf1 hab ⊢
        have HPL := Sd.mk hp
        clear hp e0 e1 hv hla
        obtain ⟨K1, hK1⟩ : ∃ K1 : Int, K1 = ((p + 1 : Nat) : Int) := ⟨_, rfl⟩
        rw [← hK1]
        have hd : decide ((0 : Int) < K1) = true := decide_eq_true (by omega)
        have b0 : (0 : Int) < K1 := by omega
        have b1 : (0 : Int) ≤ K1 - 1 := by omega
        have b2 : K1 - 1 < (k : Int) + 1 := by omega
        have b3 : (K1 - 1).toNat = p := by omega
        have b4 : (0 : Int) ≤ K1 := by omega
        have b5 : K1 < (k : Int) + 1 := by omega
        have b6 : K1.toNat = p + 1 := by omega
        have b7 : K1 ≤ 4096 := by omega
        have HK1 := Sd.mk hK1
        clear hK1 hd
        obtain ⟨Sy, hSy⟩ : ∃ Sy, Sy = sOf y := ⟨_, rfl⟩
        obtain ⟨Sx, hSx⟩ : ∃ Sx, Sx = sOf x := ⟨_, rfl⟩
        rw [← hSy] at hg0
        rw [← hSx] at hg1
        by_cases hxy : x < y
        case neg =>
          have hgt : (!(Op.bytesLess Sy.toList Sx.toList || Sy.toList == Sx.toList)) = false := by
            rw [hSy, hSx, sOf_lst, sOf_lst, bless]
            rcases List.le_iff_lt_or_eq.1 (List.not_lt.1 hxy) with h | h
            · simp [h]
            · simp [h]
          obtain ⟨l', hl', HP', HS', HO'⟩ := (hend ⟨ins_stop HS.o HB.o hxy⟩).o
          clear HP HS HB HO hend hSy hSx hf0 hf1
          go_wp2_with fail
          go_quiet (fail)
          go_wp2_with fail
          go_roundg (gk - 1)
          case measure => omega
          case rel =>
            exact ⟨k + 1, l', some ⟨g, 0, none⟩, c1, by omega, by go_num, by rw [hl'], hl', HP', HS', HO', by rw [hl']; exact HFW, ⟨HK.o.drewN _⟩⟩
        have hgt : (!(Op.bytesLess Sy.toList Sx.toList || Sy.toList == Sx.toList)) = true := by
          rw [hSy, hSx, sOf_lst, sOf_lst, bless]
          have h1 : ¬ y < x := List.not_lt.2 (List.le_of_lt hxy)
          have h2 : ¬ y = x := fun e => by subst e; exact List.lt_irrefl _ hxy
          simp [h1, h2]
        have HIN := Sd.mk (ins_swap HS.o HB.o hxy)
        have HPM := Sd.mk (ins_perm HP.o)
        clear hend HP HS HB
        have HSW := Sd.mk (HO.o.swap a'.length (a'.length + 1) (.string (sOf x)) (.string (sOf y)))
        rw [strs_swap, ← HPL.o, ← hSy, ← hSx] at HSW
        clear hSy hSx hxy HO
        go_wp2_with fail
        go_quiet (fail)
        clear hgt
        go_wp2_with fail
        go_region
        go_wp2_with fail
        go_roundg a'.length
        case measure => simp
        case rel =>
          refine ⟨a', y :: b, rfl, ?_, by have := HPL.o; simp; omega, HPM, ⟨HIN.o.1⟩, ⟨HIN.o.2⟩, ⟨HSW.o⟩, ⟨?_⟩⟩
          · have h1 := HPL.o
            have h2 := HK1.o
            exact congrArg _ (by omega)
          · exact ((HK.o.setF g p _ hgw.o).setF g (p + 1) _ hgw.o).drewN _
end Go.Proofs.YtlhhcoijkjcneaaGreat
