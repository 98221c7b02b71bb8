/- The document's file system: Same. -/
import Derived.Test.YtlhhcoijkjcneaaRfS
namespace Go.Proofs.Ytlhhcoijkjcneaa
open Go.RowKit Go.Maps Go.Lib

theorem mAll_no {xs ys : List MoveS} {k : Nat} (hk : k < xs.length) (h : mSame (xs.getD k mNone) (ys.getD k mNone) = false) : mAll xs ys = false := by
  unfold mAll
  rw [Bool.and_eq_false_iff]
  right
  rw [List.all_eq_false]
  exact ⟨k, by simpa using hk, by rw [h]; simp⟩
theorem mAll_yes {xs ys : List MoveS} (hl : xs.length = ys.length) (h : ∀ k, k < xs.length → mSame (xs.getD k mNone) (ys.getD k mNone) = true) : mAll xs ys = true := by
  unfold mAll
  rw [decide_eq_true hl, Bool.true_and, List.all_eq_true]
  intro k hk
  exact h k (by simpa using hk)
set_option maxHeartbeats 8000000 in
set_option maxRecDepth 100000 in
theorem rsame_fs (w : World) (m1 m2 : RMem) (s1 s2 : FSt) (N : Nat) (h1 : IsRS w m1 s1) (h2 : IsRS w m2 s2) (i1 : Inv N s1) (i2 : Inv N s2) (hN : N ≤ 900000000) :
    Calls Try.prog 8 #[.pointer (some ⟨m1.b, 0, none⟩), .pointer (some ⟨m2.b, 0, none⟩)] w fun e w' => e = .returned (.bool (s1.same s2)) ∧ Keeps NoB w w' := by
  have hf1 := i1.lim.files
  have hf2 := i2.lim.files
  have hd1 := i1.ok.len
  have hd2 := i2.ok.len
  have hs1 : s1.S.length ≤ 4096 := by have := i1.ok.lens 0; simpa [movedAll] using this
  have hs2 : s2.S.length ≤ 4096 := by have := i2.ok.lens 0; simpa [movedAll] using this
  have hc1 := fun x : After w => rsameNames_any x.w m1 m2 s1 s2 (h1.kept x.k) (h2.kept x.k) m1.dv m2.dv s1.D s2.D (h1.kept x.k).names (h2.kept x.k).names i1.ok.dirD.names i1.ok.dirD.low i2.ok.dirD.low (by omega) (by omega) (by omega) (by omega) true
  have hc2 := fun x : After w => rsameNames_any x.w m1 m2 s1 s2 (h1.kept x.k) (h2.kept x.k) m1.sv m2.sv s1.S s2.S (h1.kept x.k).safe (h2.kept x.k).safe i1.ok.dirS.names i1.ok.dirS.low i2.ok.dirS.low (by omega) (by omega) (by omega) (by omega) false
  obtain ⟨Am1, cm1, hm1, _, _⟩ := OwnW.slice h1.moves
  obtain ⟨Am2, cm2, hm2, _, _⟩ := OwnW.slice h2.moves
  obtain ⟨Ad1, cd1, hv1, _, _⟩ := OwnW.slice h1.names
  obtain ⟨Ad2, cd2, hv2, _, _⟩ := OwnW.slice h2.names
  obtain ⟨As1, cs1, hw1, _, _⟩ := OwnW.slice h1.safe
  obtain ⟨As2, cs2, hw2, _, _⟩ := OwnW.slice h2.safe
  have a1 := h1.c.2.1
  have a2 := h1.c.2.2.1
  have a3 := h1.c.2.2.2.1
  have b1 := h2.c.2.1
  have b2 := h2.c.2.2.1
  have b3 := h2.c.2.2.2.1
  rw [hv1] at a1 hc1
  rw [hw1] at a2 hc2
  rw [hm1] at a3
  rw [hv2] at b1 hc1
  rw [hw2] at b2 hc2
  rw [hm2] at b3
  have hM1 := h1.moves
  have hM2 := h2.moves
  rw [hm1] at hM1
  rw [hm2] at hM2
  have HM1 := Sd.mk hM1
  have HM2 := Sd.mk hM2
  have a1x : ∀ x : After w, x.w.cell? ⟨m1.b, 1, none⟩ = some (.slice Ad1 s1.D.length cd1) := fun x => x.cell a1
  have a2x : ∀ x : After w, x.w.cell? ⟨m1.b, 2, none⟩ = some (.slice As1 s1.S.length cs1) := fun x => x.cell a2
  have a3x : ∀ x : After w, x.w.cell? ⟨m1.b, 3, none⟩ = some (.slice Am1 s1.M.length cm1) := fun x => x.cell a3
  have b1x : ∀ x : After w, x.w.cell? ⟨m2.b, 1, none⟩ = some (.slice Ad2 s2.D.length cd2) := fun x => x.cell b1
  have b2x : ∀ x : After w, x.w.cell? ⟨m2.b, 2, none⟩ = some (.slice As2 s2.S.length cs2) := fun x => x.cell b2
  have b3x : ∀ x : After w, x.w.cell? ⟨m2.b, 3, none⟩ = some (.slice Am2 s2.M.length cm2) := fun x => x.cell b3
  have hml1 : s1.M.length ≤ 900000000 := Nat.le_trans i1.lim.moves hN
  have hml2 : s2.M.length ≤ 900000000 := Nat.le_trans i2.lim.moves hN
  obtain ⟨R, hR⟩ : ∃ R, R = s1.same s2 := ⟨_, rfl⟩
  rw [← hR]
  unfold FSt.same at hR
  have HR0 := Sd.mk hR
  clear hR h1 h2 i1 i2 hM1 hM2 hm1 hm2 hv1 hv2 hw1 hw2 hf1 hf2 hd1 hd2 hs1 hs2
  generalize alikeS s1 s1.D s2 s2.D true = BD at *
  generalize alikeS s1 s1.S s2 s2.S false = BS at *
  by_cases hlen : s1.M.length = s2.M.length
  case neg =>
    have hq : ((s1.M.length : Int) != (s2.M.length : Int)) = true := by simp; omega
    have HR : Sd (R = false) := ⟨by rw [HR0.o]; unfold mAll; rw [decide_eq_false hlen]; simp⟩
    have HC1 := Sd.mk hc1
    have HC2 := Sd.mk hc2
    clear hlen hc1 hc2
    go_enter Try.func8, Try.ntmps8
    go_upto_region 1 with fail
    refine wp_region_after w (Keeps.refl _ _) (by kernel_rfl) (by kernel_rfl) ?_
    repeat (go_big_quiet_step (first | (go_at_call 26; with_reducible exact Calls.after (HC1.o _)) | (go_at_call 26; with_reducible exact Calls.after (HC2.o _))))
    refine wpQuiet_nil ?_
    rintro _ ⟨x, rfl⟩
    go_wp2_with fail
    go_ret
    exact ⟨by rw [HR.o]; rfl, x.k⟩
  have hq : ((s1.M.length : Int) != (s2.M.length : Int)) = false := by simp; omega
  have HLEN := Sd.mk hlen
  clear hlen
  cases BD with
  | false =>
    have HR : Sd (R = false) := ⟨by rw [HR0.o]; simp⟩
    have HC1 := Sd.mk hc1
    have HC2 := Sd.mk hc2
    clear hc1 hc2
    go_enter Try.func8, Try.ntmps8
    go_upto_region 1 with fail
    refine wp_region_after w (Keeps.refl _ _) (by kernel_rfl) (by kernel_rfl) ?_
    repeat (go_big_quiet_step (first | (go_at_call 26; with_reducible exact Calls.after (HC1.o _)) | (go_at_call 26; with_reducible exact Calls.after (HC2.o _))))
    refine wpQuiet_nil ?_
    rintro _ ⟨x, rfl⟩
    go_wp2_with fail
    go_ret
    exact ⟨by rw [HR.o]; rfl, x.k⟩
  | true =>
  cases BS with
  | false =>
    have HR : Sd (R = false) := ⟨by rw [HR0.o]; simp⟩
    have HC1 := Sd.mk hc1
    have HC2 := Sd.mk hc2
    clear hc1 hc2
    go_enter Try.func8, Try.ntmps8
    go_upto_region 1 with fail
    refine wp_region_after w (Keeps.refl _ _) (by kernel_rfl) (by kernel_rfl) ?_
    repeat (go_big_quiet_step (first | (go_at_call 26; with_reducible exact Calls.after (HC1.o _)) | (go_at_call 26; with_reducible exact Calls.after (HC2.o _))))
    refine wpQuiet_nil ?_
    rintro _ ⟨x, rfl⟩
    go_wp2_with fail
    go_ret
    exact ⟨by rw [HR.o]; rfl, x.k⟩
  | true =>
    have HRM : Sd (R = mAll s1.M s2.M) := ⟨by rw [HR0.o]; simp⟩
    have HC1 := Sd.mk hc1
    have HC2 := Sd.mk hc2
    clear hc1 hc2 HR0
    go_enter Try.func8, Try.ntmps8
    go_upto_region 1 with fail
    refine wp_region_after w (Keeps.refl _ _) (by kernel_rfl) (by kernel_rfl) ?_
    repeat (go_big_quiet_step (first | (go_at_call 26; with_reducible exact Calls.after (HC1.o _)) | (go_at_call 26; with_reducible exact Calls.after (HC2.o _))))
    refine wpQuiet_nil ?_
    rintro _ ⟨x, rfl⟩
    go_wp2_with fail
    go_loopg [5] s1.M.length (fun gk i wr => ∃ (k : Nat), gk + k = s1.M.length ∧ i = .int .i64 k ∧ Sd (∀ j, j < k → mSame (s1.M.getD j mNone) (s2.M.getD j mNone) = true) ∧ Sd (Keeps NoB w wr))
    case atStart => exact ⟨0, by omega, rfl, ⟨fun j hj => by omega⟩, ⟨x.k⟩⟩
    case round =>
      obtain ⟨k, hk, rfl, HT, HK⟩ := hrel
      have e3 := HK.o.cell a3 (fun f => f)
      have f3 := HK.o.cell b3 (fun f => f)
      by_cases hlt : k < s1.M.length
      case neg =>
        have hq1 : ¬ (k : Int) < (s1.M.length : Int) := by omega
        have HR : Sd (R = true) := ⟨by rw [HRM.o]; exact mAll_yes HLEN.o (fun j hj => HT.o j (by omega))⟩
        go_wp2_with fail
        go_ret
        exact ⟨by rw [HR.o]; rfl, HK.o⟩
      have hlt2 : k < s2.M.length := by have := HLEN.o; omega
      have hq1 : (k : Int) < (s1.M.length : Int) := by omega
      have hq2 : (k : Int) < (s2.M.length : Int) := by omega
      have hq0 : (0 : Int) ≤ (k : Int) := by omega
      obtain ⟨g1, cc1, e1, p0, p1, p2, p3⟩ := RMovV.get (OwnW.keeps HM1.o HK.o (fun _ _ f => f)) hlt
      obtain ⟨g2, cc2, e2, r0, r1, r2, r3⟩ := RMovV.get (OwnW.keeps HM2.o HK.o (fun _ _ f => f)) hlt2
      cases e1
      cases e2
      have hg1 := getD_at (d := mNone) hlt
      have hg2 := getD_at (d := mNone) hlt2
      have HTK : Sd (mSame s1.M[k] s2.M[k] = true → ∀ j, j < k + 1 → mSame (s1.M.getD j mNone) (s2.M.getD j mNone) = true) := ⟨fun he j hj => by
        by_cases hjk : j < k
        · exact HT.o j hjk
        · have : j = k := by omega
          subst this
          rw [hg1, hg2]
          exact he⟩
      have HNO : Sd (mSame s1.M[k] s2.M[k] = false → R = false) := ⟨fun he => by
        rw [HRM.o]
        exact mAll_no hlt (by rw [hg1, hg2]; exact he)⟩
      clear hg1 hg2 HT
      generalize s1.M[k] = X1 at *
      generalize s2.M[k] = X2 at *
      have p0x : ∀ x : After wr, x.w.cell? ⟨g1, k * 4, none⟩ = some (.int .u8 (X1.kind : Nat)) := fun x => x.cell p0
      have p1x : ∀ x : After wr, x.w.cell? ⟨g1, k * 4 + 1, none⟩ = some (.string (sOf X1.a)) := fun x => x.cell p1
      have p2x : ∀ x : After wr, x.w.cell? ⟨g1, k * 4 + 2, none⟩ = some (.string (sOf X1.b)) := fun x => x.cell p2
      have r0x : ∀ x : After wr, x.w.cell? ⟨g2, k * 4, none⟩ = some (.int .u8 (X2.kind : Nat)) := fun x => x.cell r0
      have r1x : ∀ x : After wr, x.w.cell? ⟨g2, k * 4 + 1, none⟩ = some (.string (sOf X2.a)) := fun x => x.cell r1
      have r2x : ∀ x : After wr, x.w.cell? ⟨g2, k * 4 + 2, none⟩ = some (.string (sOf X2.b)) := fun x => x.cell r2
      have e3x : ∀ x : After wr, x.w.cell? ⟨m1.b, 3, none⟩ = some (.slice (some ⟨g1, 0, none⟩) s1.M.length cm1) := fun x => x.cell e3
      have f3x : ∀ x : After wr, x.w.cell? ⟨m2.b, 3, none⟩ = some (.slice (some ⟨g2, 0, none⟩) s2.M.length cm2) := fun x => x.cell f3
      clear p0 p1 p2 p3 r0 r1 r2 r3 HM1 HM2
      by_cases hK : X1.kind = X2.kind
      case neg =>
        have hb : ((X1.kind : Int) != (X2.kind : Int)) = true := by simp; omega
        have hb' : ((X1.kind : Int) == (X2.kind : Int)) = false := by simp; omega
        have HR : Sd (R = false) := ⟨HNO.o (by unfold mSame; simp [hK])⟩
        clear HNO HTK
        clear hK
        go_upto_region 6 with fail
        refine wp_region_after wr (Keeps.refl _ _) (by kernel_rfl) (by kernel_rfl) ?_
        repeat (go_big_quiet_step (fail))
        refine wpQuiet_nil ?_
        rintro _ ⟨x, rfl⟩
        go_wp2_with fail
        go_ret
        exact ⟨by rw [HR.o]; rfl, HK.o.then x.k⟩
      have hb : ((X1.kind : Int) != (X2.kind : Int)) = false := by simp; omega
      have hb' : ((X1.kind : Int) == (X2.kind : Int)) = true := by simp; omega
      by_cases hA : X1.a = X2.a
      case neg =>
        have ha : ((sOf X1.a).toList == (sOf X2.a).toList) = false := by rw [sOf_toL, sOf_toL]; simpa using hA
        have HR : Sd (R = false) := ⟨HNO.o (by unfold mSame; simp [hA])⟩
        clear HNO HTK
        clear hK hA
        go_upto_region 6 with fail
        refine wp_region_after wr (Keeps.refl _ _) (by kernel_rfl) (by kernel_rfl) ?_
        repeat (go_big_quiet_step (fail))
        refine wpQuiet_nil ?_
        rintro _ ⟨x, rfl⟩
        go_wp2_with fail
        go_ret
        exact ⟨by rw [HR.o]; rfl, HK.o.then x.k⟩
      have ha : ((sOf X1.a).toList == (sOf X2.a).toList) = true := by rw [sOf_toL, sOf_toL, hA]; simp
      by_cases hB : X1.b = X2.b
      case neg =>
        have hbb : ((sOf X1.b).toList == (sOf X2.b).toList) = false := by rw [sOf_toL, sOf_toL]; simpa using hB
        have HR : Sd (R = false) := ⟨HNO.o (by unfold mSame; simp [hB])⟩
        clear HNO HTK
        clear hK hA hB
        go_upto_region 6 with fail
        refine wp_region_after wr (Keeps.refl _ _) (by kernel_rfl) (by kernel_rfl) ?_
        repeat (go_big_quiet_step (fail))
        refine wpQuiet_nil ?_
        rintro _ ⟨x, rfl⟩
        go_wp2_with fail
        go_ret
        exact ⟨by rw [HR.o]; rfl, HK.o.then x.k⟩
      case pos =>
        have hbb : ((sOf X1.b).toList == (sOf X2.b).toList) = true := by rw [sOf_toL, sOf_toL, hB]; simp
        have HT2 := Sd.mk (HTK.o (by unfold mSame; simp [hK, hA, hB]))
        clear HNO HTK hK hA hB
        go_upto_region 6 with fail
        refine wp_region_after wr (Keeps.refl _ _) (by kernel_rfl) (by kernel_rfl) ?_
        repeat (go_big_quiet_step (fail))
        refine wpQuiet_nil ?_
        rintro _ ⟨x, rfl⟩
        go_wp2_with fail
        go_roundg (gk - 1)
        case measure => omega
        case rel => exact ⟨k + 1, by omega, by go_num, HT2, ⟨HK.o.then x.k⟩⟩
end Go.Proofs.Ytlhhcoijkjcneaa
