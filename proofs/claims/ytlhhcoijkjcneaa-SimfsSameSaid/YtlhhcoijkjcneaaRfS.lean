/- The document's file system: sameDone, sameNames. -/
import Derived.Test.YtlhhcoijkjcneaaRfQ
import Derived.Test.YtlhhcoijkjcneaaSimEs
namespace Go.Proofs.Ytlhhcoijkjcneaa
open Go.RowKit Go.Maps Go.Lib

theorem rdone_guard : Try.prog.eqGuardType Try.prog.depth 120 = false := by kernel_rfl
theorem rdone_held : Try.prog.stoodInHeld 120 = false := by kernel_rfl
theorem rdone_und : Try.prog.underlying 120 = some (.struct (Try.prog.fieldsOf 120)) := by kernel_rfl
set_option maxRecDepth 100000 in
theorem rdone_neq (w : World) (x y : DoneS) : (binOp .neq 120 (.agg #[.bool x.cut, .int .i64 x.pos, .string (sOf x.p)]) (.agg #[.bool y.cut, .int .i64 y.pos, .string (sOf y.p)])).run Try.prog w = .ok (.bool (!decide (x = y))) w := by
  have hf : ∃ f0 f1 f2, Try.prog.fieldsOf 120 = #[f0, f1, f2] ∧ f0.name ≠ "_" ∧ f1.name ≠ "_" ∧ f2.name ≠ "_" ∧ f0.type = 4 ∧ f1.type = 3 ∧ f2.type = 9 ∧ f0.offset = 0 ∧ f1.offset = 1 ∧ f2.offset = 2 := ⟨_, _, _, rfl, by decide, by decide, by decide, rfl, rfl, rfl, rfl, rfl, rfl⟩
  obtain ⟨f0, f1, f2, hf, n0, n1, n2, t0, t1, t2, o0, o1, o2⟩ := hf
  have hp0 : ∀ (a b c : Value), (part 4 #[a, b, c] 0).run Try.prog w = .ok a w := fun a b c => by kernel_rfl
  have hp1 : ∀ (a b c : Value), (part 3 #[a, b, c] 1).run Try.prog w = .ok b w := fun a b c => by kernel_rfl
  have hp2 : ∀ (a b c : Value), (part 9 #[a, b, c] 2).run Try.prog w = .ok c w := fun a b c => by kernel_rfl
  rw [run_neq_struct, show (10000 : Nat) = 9998 + 1 + 1 from rfl, run_equalIn_struct _ _ _ _ _ rdone_und rdone_held, hf]
  have e0 := run_equalIn_bool' (P := Try.prog) w 9998 4 x.cut y.cut Try.underlying4
  have e1 := run_equalIn_int (P := Try.prog) w 9998 3 .i64 .i64 (x.pos : Int) (y.pos : Int) Try.underlying3
  have e2 := run_equalIn_string (P := Try.prog) w 9998 9 (sOf x.p) (sOf y.p) Try.underlying9
  simp only [Op.eqFields, n0, n1, n2, t0, t1, t2, o0, o1, o2, ne_eq, not_false_eq_true, if_true, Sem.run_bind, hp0, hp1, hp2, Result.andThen_ok, e0, e1, e2, sOf_toL, Sem.run_ite, Sem.run_pure]
  by_cases hc : x.cut = y.cut
  · by_cases hn : x.pos = y.pos
    · by_cases hq : x.p = y.p
      · have : x = y := by cases x; cases y; simp_all
        subst this
        simp
      · have : x ≠ y := fun e => hq (by rw [e])
        simp [hc, hn, hq, this]
    · have : x ≠ y := fun e => hn (by rw [e])
      have hn' : ((x.pos : Int) == (y.pos : Int)) = false := by simp; omega
      simp [hc, this, hn']
  · have : x ≠ y := fun e => hc (by rw [e])
    have hc' : (x.cut == y.cut) = false := by simpa using hc
    simp [this, hc']
theorem rsameDone_any (w : World) (v u : Value) (xs ys : List DoneS) (hx : RLogV w v xs) (hy : RLogV w u ys) :
    Calls Try.prog 56 #[v, u] w fun e w' => e = .returned (.bool (decide (xs = ys))) ∧ ∃ n, w' = w.drewN n := by
  have hmax : maxLen = 9223372036854775807 := rfl
  obtain ⟨A, c, hv, hc1, hc2⟩ := OwnW.slice hx
  obtain ⟨B, d, hu, hd1, hd2⟩ := OwnW.slice hy
  subst hv hu
  have hxl : xs.length ≤ 9223372036854775807 := by omega
  have hyl : ys.length ≤ 9223372036854775807 := by omega
  have HX := Sd.mk hx
  have HY := Sd.mk hy
  clear hx hy hmax hc1 hc2 hd1 hd2
  by_cases hlen : xs.length = ys.length
  case neg =>
    have hq : ((xs.length : Int) != (ys.length : Int)) = true := by simp; omega
    have hf : Sd (decide (xs = ys) = false) := ⟨decide_eq_false (fun e => hlen (by rw [e]))⟩
    clear hlen
    go_enter Try.func56, Try.ntmps56
    go_wp2
    go_ret
    exact ⟨by rw [hf.o]; rfl, 0, rfl⟩
  have hq : ((xs.length : Int) != (ys.length : Int)) = false := by simp; omega
  have HLEN := Sd.mk hlen
  clear hlen
  go_enter Try.func56, Try.ntmps56
  go_wp2_with fail
  go_loopg [5] xs.length (fun gk i wr => ∃ (k m : Nat), gk + k = xs.length ∧ i = .int .i64 k ∧ k ≤ xs.length ∧ Sd (xs.take k = ys.take k) ∧ Sd (wr = w.drewN m))
  case atStart => exact ⟨0, 0, by omega, rfl, by omega, ⟨by simp⟩, ⟨rfl⟩⟩
  case round =>
    obtain ⟨k, m, hk, rfl, hk1, hT, ⟨rfl⟩⟩ := hrel
    by_cases hlt : k < xs.length
    · have hq1 : (k : Int) < (xs.length : Int) := by omega
      have hq2 : (k : Int) < (ys.length : Int) := by have := HLEN.o; omega
      have hq0 : (0 : Int) ≤ (k : Int) := by omega
      have hlt2 : k < ys.length := by have := HLEN.o; omega
      obtain ⟨g1, c1, e1, p0, p1, p2⟩ := RLogV.get HX.o hlt
      obtain ⟨g2, c2, e2, r0, r1, r2⟩ := RLogV.get HY.o hlt2
      cases e1
      cases e2
      have hst := Sd.mk (fun he : xs[k] = ys[k] => take_snoc2 _ _ k hlt hlt2 hT.o he)
      have hno : Sd (xs[k] ≠ ys[k] → decide (xs = ys) = false) := ⟨fun he => decide_eq_false (fun e => he (by simp only [e]))⟩
      generalize xs[k] = x at *
      generalize ys[k] = y at *
      have hne := fun W => rdone_neq W x y
      have hgu := rdone_guard
      by_cases he : x = y
      · rw [decide_eq_true he] at hne
        have hst2 := Sd.mk (hst.o he)
        clear he hst hno
        go_wp2_with fail
        go_quiet (fail)
        clear p0 p1 p2 r0 r1 r2 hne
        go_wp2_with fail
        go_roundg (gk - 1)
        case measure => omega
        case rel => exact ⟨k + 1, _, by omega, by go_num, by omega, hst2, ⟨rfl⟩⟩
      · rw [decide_eq_false he] at hne
        have hno2 := Sd.mk (hno.o he)
        clear he hst hno
        go_wp2_with fail
        go_quiet (fail)
        clear p0 p1 p2 r0 r1 r2 hne
        go_wp2_with fail
        go_ret
        exact ⟨by rw [hno2.o]; rfl, _, World.drewN_drewN _ _ _⟩
    · have hq1 : ¬ (k : Int) < (xs.length : Int) := by omega
      have hyes : Sd (decide (xs = ys) = true) := ⟨decide_eq_true (by
        have := hT.o
        rw [List.take_of_length_le (by omega), List.take_of_length_le (by have := HLEN.o; omega)] at this
        exact this)⟩
      go_wp2_with fail
      go_ret
      exact ⟨by rw [hyes.o]; rfl, _, rfl⟩
/-- The file that an entry names. -/
theorem IsRS.entry {w : World} {m : RMem} {s : FSt} (h : IsRS w m s) {n : Nat} (h1 : 1 ≤ n) (h2 : n ≤ s.F.length) : ∃ (j : Nat) (hj : j < m.fs.length), n = j + 1 ∧ IsRF w m.fs[j] (j + 1) (s.file n) := by
  obtain ⟨j, rfl⟩ : ∃ j, n = j + 1 := ⟨n - 1, by omega⟩
  have hj : j < m.fs.length := by rw [h.len]; omega
  exact ⟨j, hj, rfl, h.file j hj⟩
set_option maxHeartbeats 4000000 in
set_option maxRecDepth 100000 in
theorem rsameNames_any (w : World) (m1 m2 : RMem) (s1 s2 : FSt) (h1 : IsRS w m1 s1) (h2 : IsRS w m2 s2) (v1 v2 : Value) (d1 d2 : Dir) (hv1 : EntV w v1 d1) (hv2 : EntV w v2 d2) (hd : (d1.map (·.1)).Nodup)
    (hn1 : ∀ e ∈ d1, 1 ≤ e.2 ∧ e.2 ≤ s1.F.length) (hn2 : ∀ e ∈ d2, 1 ≤ e.2 ∧ e.2 ≤ s2.F.length) (hl1 : d1.length ≤ 1000000) (hl2 : d2.length ≤ 1000000) (hf1 : s1.F.length ≤ 1000000000) (hf2 : s2.F.length ≤ 1000000000) (now : Bool) :
    Calls Try.prog 26 #[.pointer (some ⟨m1.b, 0, none⟩), v1, .pointer (some ⟨m2.b, 0, none⟩), v2, .bool now] w fun e w' => e = .returned (.bool (alikeS s1 d1 s2 d2 now)) ∧ Keeps NoB w w' := by
  obtain ⟨A1, q1, e1, _, _⟩ := OwnW.slice hv1
  obtain ⟨A2, q2, e2, _, _⟩ := OwnW.slice hv2
  subst e1 e2
  obtain ⟨B1, r1, e1, _, _⟩ := OwnW.slice h1.ptrs
  obtain ⟨B2, r2, e2, _, _⟩ := OwnW.slice h2.ptrs
  have hL1 : (m1.fs.map (·.fb)).length = s1.F.length := by rw [List.length_map, h1.len]
  have hL2 : (m2.fs.map (·.fb)).length = s2.F.length := by rw [List.length_map, h2.len]
  rw [hL1] at e1
  rw [hL2] at e2
  have c1 := h1.c.1
  have c2 := h2.c.1
  rw [e1] at c1
  rw [e2] at c2
  have H1 := Sd.mk h1
  have H2 := Sd.mk h2
  have HV1 := Sd.mk hv1
  have HV2 := Sd.mk hv2
  have HE1 := Sd.mk (And.intro e1 hL1)
  have HE2 := Sd.mk (And.intro e2 hL2)
  have HD := Sd.mk hd
  have HN1 := Sd.mk hn1
  have HN2 := Sd.mk hn2
  clear h1 h2 hv1 hv2 e1 e2 hL1 hL2 hd hn1 hn2
  by_cases hlen : d1.length = d2.length
  case neg =>
    have hq : ((d1.length : Int) != (d2.length : Int)) = true := by simp; omega
    have HR : Sd (alikeS s1 d1 s2 d2 now = false) := ⟨by unfold alikeS; rw [decide_eq_false hlen]; rfl⟩
    clear hlen
    go_enter Try.func26, Try.ntmps26
    go_wp2
    go_ret
    exact ⟨by rw [HR.o]; rfl, Keeps.refl _ _⟩
  have hq : ((d1.length : Int) != (d2.length : Int)) = false := by simp; omega
  have HLEN := Sd.mk hlen
  clear hlen
  go_enter Try.func26, Try.ntmps26
  go_wp2_with fail
  go_loopg [11, 12, 13, 14] d1.length (fun gk i _ _ _ wr => ∃ (k : Nat), gk + k = d1.length ∧ i = .int .i64 k ∧ Sd (∀ j (hj : j < k) (hd : j < d1.length), alikeE s1 s2 d2 now d1[j] = true) ∧ Sd (Keeps NoB w wr))
  case atStart => exact ⟨0, by omega, rfl, ⟨fun j hj => by omega⟩, ⟨Keeps.refl _ _⟩⟩
  case round =>
    obtain ⟨k, hk, rfl, HT, HK⟩ := hrel
    by_cases hlt : k < d1.length
    case neg =>
      have hq1 : ¬ (k : Int) < (d1.length : Int) := by omega
      have HR : Sd (alikeS s1 d1 s2 d2 now = true) := ⟨by
        unfold alikeS
        rw [decide_eq_true HLEN.o, Bool.true_and, List.all_eq_true]
        intro e he
        obtain ⟨j, hj, rfl⟩ := List.getElem_of_mem he
        exact HT.o j (by omega) hj⟩
      go_wp2
      go_ret
      exact ⟨by rw [HR.o]; rfl, HK.o⟩
    have hq1 : (k : Int) < (d1.length : Int) := by omega
    have hq0 : (0 : Int) ≤ (k : Int) := by omega
    obtain ⟨g1, cc1, e1, p0, p1⟩ := EntV.get (OwnW.keeps HV1.o HK.o (fun _ _ f => f)) hlt
    cases e1
    have hent := HN1.o _ (List.getElem_mem hlt)
    have HTK : Sd (alikeE s1 s2 d2 now d1[k] = true → ∀ j (hj : j < k + 1) (hd : j < d1.length), alikeE s1 s2 d2 now d1[j] = true) := ⟨fun he j hj hd => by
      by_cases hjk : j < k
      · exact HT.o j hjk hd
      · have : j = k := by omega
        subst this
        exact he⟩
    have HNO : Sd (alikeE s1 s2 d2 now d1[k] = false → alikeS s1 d1 s2 d2 now = false) := ⟨fun he => by
      unfold alikeS
      rw [Bool.and_eq_false_iff]
      right
      rw [List.all_eq_false]
      exact ⟨d1[k], List.getElem_mem hlt, by rw [he]; simp⟩⟩
    have HRA := Sd.mk (fun wx (kx : Keeps NoB w wx) => rat_any wx _ d2 (OwnW.keeps HV2.o kx (fun _ _ f => f)) (by omega) (sOf (d1[k]).1))
    generalize d1[k] = ent at *
    obtain ⟨en, em⟩ := ent
    dsimp only at *
    rw [sOf_data] at HRA
    clear HT
    cases hat : atN d2 en with
    | none =>
      rw [atI_none hat] at HRA
      have HR : Sd (alikeS s1 d1 s2 d2 now = false) := ⟨HNO.o (by unfold alikeE; rw [(atN_none hat).1])⟩
      clear hat HNO HTK
      go_wp2_with (go_at_call 55; refine (HRA.o _ HK.o).mono ?_; rintro e w2 ⟨rfl, hk2⟩; have HK2 := Sd.mk (HK.o.then hk2); clear hk2)
      go_ret
      exact ⟨by rw [HR.o]; rfl, HK2.o⟩
    | some i =>
      rw [atI_some hat] at HRA
      obtain ⟨hi, -, hi2⟩ := atN_some hat
      have hent2 := HN2.o _ (List.getElem_mem hi)
      have hi3 : ¬ (i : Int) < 0 := by omega
      have hi0 : (0 : Int) ≤ (i : Int) := by omega
      have hil : (i : Int) < (d2.length : Int) := by omega
      have HAE : Sd (alikeE s1 s2 d2 now (en, em) = alikeF (s1.file em) (s2.file (d2[i]).2) now) := ⟨by unfold alikeE; rw [hi2]⟩
      clear hat hi2
      go_upto_region 9 with (go_at_call 55; refine (HRA.o _ HK.o).mono ?_; rintro e w2 ⟨rfl, hk2⟩; have d0 := hk2.cell p0 (fun f => f); have d1' := hk2.cell p1 (fun f => f); have HK2 := Sd.mk (HK.o.then hk2); clear hk2)
      have cA := HK2.o.cell c1 (fun f => f)
      have cB := HK2.o.cell c2 (fun f => f)
      have HA := Sd.mk (H1.o.kept HK2.o)
      have HB := Sd.mk (H2.o.kept HK2.o)
      obtain ⟨g2, cc2, e2, r0', r1'⟩ := EntV.get (OwnW.keeps HV2.o HK2.o (fun _ _ f => f)) hi
      cases e2
      obtain ⟨j1, hj1, he1, hF1⟩ := HA.o.entry hent.1 hent.2
      obtain ⟨j2, hj2, he2, hF2⟩ := HB.o.entry hent2.1 hent2.2
      have hp1 := HA.o.ptrs
      have hp2 := HB.o.ptrs
      rw [HE1.o.1] at hp1
      rw [HE2.o.1] at hp2
      obtain ⟨gf1, cf1, e1, x1⟩ := PtrV.get hp1 (j := j1) (by simpa using hj1)
      obtain ⟨gf2, cf2, e2, x2⟩ := PtrV.get hp2 (j := j2) (by simpa using hj2)
      rw [HE1.o.2] at e1
      rw [HE2.o.2] at e2
      cases e1
      cases e2
      have y1 : w2.cell? ⟨gf1, j1, none⟩ = some (.pointer (some ⟨(m1.fs[j1]).fb, 0, none⟩)) := by simpa using x1
      have y2 : w2.cell? ⟨gf2, j2, none⟩ = some (.pointer (some ⟨(m2.fs[j2]).fb, 0, none⟩)) := by simpa using x2
      have hjb1 : (j1 : Int) < (s1.F.length : Int) := by omega
      have hjb2 : (j2 : Int) < (s2.F.length : Int) := by omega
      have hj10 : (0 : Int) ≤ (j1 : Int) := by omega
      have hj20 : (0 : Int) ≤ (j2 : Int) := by omega
      have hj19 : j1 ≤ 1000000000 := by omega
      have hj29 : j2 ≤ 1000000000 := by omega
      have z1 : w2.cell? ⟨g1, k * 2 + 1, none⟩ = some (.int .i64 ((j1 : Int) + 1)) := by rw [d1', he1]; rfl
      have z2 : w2.cell? ⟨g2, i * 2 + 1, none⟩ = some (.int .i64 ((j2 : Int) + 1)) := by rw [r1', he2]; rfl
      have hlg1 := hF1.log
      have hlg2 := hF2.log
      obtain ⟨L1, l1, hlv1, -, -⟩ := OwnW.slice hlg1
      obtain ⟨L2, l2, hlv2, -, -⟩ := OwnW.slice hlg2
      have a1 := hF1.c.2.1
      have a2 := hF1.c.2.2.1
      have a3 := hF1.c.2.2.2
      have b1 := hF2.c.2.1
      have b2 := hF2.c.2.2.1
      have b3 := hF2.c.2.2.2
      rw [hlv1] at a2 hlg1
      rw [hlv2] at b2 hlg2
      have HLG1 := Sd.mk hlg1
      have HLG2 := Sd.mk hlg2
      generalize (m1.fs[j1]).fb = fb1 at *
      generalize (m2.fs[j2]).fb = fb2 at *
      generalize s1.file em = X1 at *
      generalize s2.file (d2[i]).2 = X2 at *
      clear hp1 hp2 x1 x2 hF1 hF2 he1 he2 hlv1 hlv2 hlg1 hlg2 d1' r1' hent hent2 p0 p1 r0' d0 HA HB c1 c2 hj1 hj2
      go_region
      obtain ⟨w3, hw3⟩ : ∃ w3, w3 = w2.drew := ⟨_, rfl⟩
      have HK3 : Sd (Keeps NoB w w3) := ⟨by rw [hw3]; exact HK2.o.drew⟩
      have k23 : Keeps NoB w2 w3 := by rw [hw3]; exact (Keeps.refl NoB w2).drew
      rw [← hw3]
      have HSD0 := fun x : After w3 => (rsameDone_any x.w _ _ X1.log X2.log (OwnW.keeps HLG1.o (k23.then x.k) (fun _ _ f => f)) (OwnW.keeps HLG2.o (k23.then x.k) (fun _ _ f => f))).mono fun e w' ⟨he, n, hn⟩ => (⟨he, by rw [hn]; exact (Keeps.refl NoB x.w).drewN n⟩ : e = Ending.returned (.bool (decide (X1.log = X2.log))) ∧ Keeps NoB x.w w')
      have a1x : ∀ x : After w3, x.w.cell? ⟨fb1, 1, none⟩ = some (.string (sOf X1.safe)) := fun x => x.cell (k23.cell a1 (fun f => f))
      have a2x : ∀ x : After w3, x.w.cell? ⟨fb1, 2, none⟩ = some (.slice L1 X1.log.length l1) := fun x => x.cell (k23.cell a2 (fun f => f))
      have a3x : ∀ x : After w3, x.w.cell? ⟨fb1, 3, none⟩ = some (.string (sOf X1.data)) := fun x => x.cell (k23.cell a3 (fun f => f))
      have b1x : ∀ x : After w3, x.w.cell? ⟨fb2, 1, none⟩ = some (.string (sOf X2.safe)) := fun x => x.cell (k23.cell b1 (fun f => f))
      have b2x : ∀ x : After w3, x.w.cell? ⟨fb2, 2, none⟩ = some (.slice L2 X2.log.length l2) := fun x => x.cell (k23.cell b2 (fun f => f))
      have b3x : ∀ x : After w3, x.w.cell? ⟨fb2, 3, none⟩ = some (.string (sOf X2.data)) := fun x => x.cell (k23.cell b3 (fun f => f))
      clear hw3 k23 y1 y2 z1 z2 a1 a2 a3 b1 b2 b3 cA cB HLG1 HLG2
      by_cases hS : X1.safe = X2.safe
      case neg =>
        have hb : ((sOf X1.safe).toList == (sOf X2.safe).toList) = false := by rw [sOf_toL, sOf_toL]; simpa using hS
        have HR : Sd (alikeS s1 d1 s2 d2 now = false) := ⟨HNO.o (by rw [HAE.o]; unfold alikeF; simp [hS])⟩
        clear HNO HTK
        have HSD := Sd.mk HSD0
        clear HSD0
        go_upto_region 10 with fail
        refine wp_region_after w3 (Keeps.refl _ _) (by kernel_rfl) (by kernel_rfl) ?_
        repeat (go_big_quiet_step (first | (go_at_call 56; exact Calls.after (HSD.o _))))
        refine wpQuiet_nil ?_
        rintro _ ⟨x, rfl⟩
        go_wp2_with fail
        go_ret
        exact ⟨by rw [HR.o]; rfl, HK3.o.then x.k⟩
      have hb : ((sOf X1.safe).toList == (sOf X2.safe).toList) = true := by rw [sOf_toL, sOf_toL, hS]; simp
      by_cases hL : X1.log = X2.log
      case neg =>
        rw [decide_eq_false hL] at HSD0
        have HSD := Sd.mk HSD0
        clear HSD0
        have HR : Sd (alikeS s1 d1 s2 d2 now = false) := ⟨HNO.o (by rw [HAE.o]; unfold alikeF; simp [hL])⟩
        clear HNO HTK
        clear hS hL
        go_upto_region 10 with fail
        refine wp_region_after w3 (Keeps.refl _ _) (by kernel_rfl) (by kernel_rfl) ?_
        repeat (go_big_quiet_step (first | (go_at_call 56; exact Calls.after (HSD.o _))))
        refine wpQuiet_nil ?_
        rintro _ ⟨x, rfl⟩
        go_wp2_with fail
        go_ret
        exact ⟨by rw [HR.o]; rfl, HK3.o.then x.k⟩
      rw [decide_eq_true hL] at HSD0
      have HSD := Sd.mk HSD0
      clear HSD0
      cases now with
      | false =>
        have HT2 := Sd.mk (HTK.o (by rw [HAE.o]; unfold alikeF; simp [hS, hL]))
        clear HNO HTK
        clear hS hL
        go_upto_region 10 with fail
        refine wp_region_after w3 (Keeps.refl _ _) (by kernel_rfl) (by kernel_rfl) ?_
        repeat (go_big_quiet_step (first | (go_at_call 56; exact Calls.after (HSD.o _))))
        refine wpQuiet_nil ?_
        rintro _ ⟨x, rfl⟩
        go_wp2_with fail
        go_roundg (gk - 1)
        case measure => omega
        case rel => exact ⟨k + 1, by omega, by go_num, HT2, ⟨HK3.o.then x.k⟩⟩
      | true =>
      by_cases hDt : X1.data = X2.data
      case neg =>
        have hb3 : ((sOf X1.data).toList == (sOf X2.data).toList) = false := by rw [sOf_toL, sOf_toL]; simpa using hDt
        have HR : Sd (alikeS s1 d1 s2 d2 true = false) := ⟨HNO.o (by rw [HAE.o]; unfold alikeF; simp [hDt])⟩
        clear HNO HTK
        clear hS hL hDt
        go_upto_region 10 with fail
        refine wp_region_after w3 (Keeps.refl _ _) (by kernel_rfl) (by kernel_rfl) ?_
        repeat (go_big_quiet_step (first | (go_at_call 56; exact Calls.after (HSD.o _))))
        refine wpQuiet_nil ?_
        rintro _ ⟨x, rfl⟩
        go_wp2_with fail
        go_ret
        exact ⟨by rw [HR.o]; rfl, HK3.o.then x.k⟩
      case pos =>
        have hb3 : ((sOf X1.data).toList == (sOf X2.data).toList) = true := by rw [sOf_toL, sOf_toL, hDt]; simp
        have HT2 := Sd.mk (HTK.o (by rw [HAE.o]; unfold alikeF; simp [hS, hL, hDt]))
        clear HNO HTK
        clear hS hL hDt
        go_upto_region 10 with fail
        refine wp_region_after w3 (Keeps.refl _ _) (by kernel_rfl) (by kernel_rfl) ?_
        repeat (go_big_quiet_step (first | (go_at_call 56; exact Calls.after (HSD.o _))))
        refine wpQuiet_nil ?_
        rintro _ ⟨x, rfl⟩
        go_wp2_with fail
        go_roundg (gk - 1)
        case measure => omega
        case rel => exact ⟨k + 1, by omega, by go_num, HT2, ⟨HK3.o.then x.k⟩⟩
end Go.Proofs.Ytlhhcoijkjcneaa
