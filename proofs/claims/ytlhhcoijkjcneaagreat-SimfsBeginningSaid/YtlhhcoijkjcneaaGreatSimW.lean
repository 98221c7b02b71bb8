/- simfs: New, Read, Arm, Dead. -/
import Derived.Test.YtlhhcoijkjcneaaGreatSimV
namespace Go.Proofs.YtlhhcoijkjcneaaGreat
open Go.RowKit Go.Maps Go.Lib

theorem Inv.fresh {cap : Int} (h0 : 0 ≤ cap) (h1 : cap ≤ 67108864) : Inv 0 (FSt.fresh cap) := by
  have hf : ∀ n, (FSt.fresh cap).file n = noFile := fun n => by simp [FSt.file, FSt.fresh]
  refine ⟨⟨GoodDir.nil _, GoodDir.nil _, trivial, rfl, ⟨h0, h1⟩, ⟨Int.le_refl (-1), by show (-1 : Int) ≤ 9223372036854775807; decide⟩, by simp [FSt.fresh], fun k => by simp [FSt.fresh, movedAll]⟩, fun n => ?_, ⟨Nat.le_refl _, Nat.le_refl _, Nat.le_refl _, fun n => ?_, (fun x hx => by cases hx), fun n d hd => ?_⟩⟩
  · rw [hf]; exact ⟨by simp [noFile, LogOk], rfl⟩
  · rw [hf]; simp [noFile]
  · rw [hf] at hd; cases hd
set_option maxHeartbeats 4000000 in
set_option maxRecDepth 100000 in
theorem new_bad (w : World) (cap : Int) (h : cap < 0 ∨ 67108864 < cap) : Calls Tryz.prog 19 #[.int .i64 cap] w fun e w' => e = .returned (.tuple #[.pointer none, .int .i64 2]) ∧ w = w' := by
  by_cases h0 : cap < 0
  · go_enter Tryz.func19, Tryz.ntmps19
    go_wp2
    go_ret2
    exact ⟨rfl, rfl⟩
  · have h1 : 67108864 < cap := h.resolve_left h0
    clear h
    go_enter Tryz.func19, Tryz.ntmps19
    go_wp2
    go_ret2
    exact ⟨rfl, rfl⟩
set_option maxHeartbeats 4000000 in
set_option maxRecDepth 100000 in
theorem new_any (w : World) (cap : Int) (h0 : 0 ≤ cap) (h1 : cap ≤ 67108864) : Calls Tryz.prog 19 #[.int .i64 cap] w fun e w' => ∃ m, e = .returned (.tuple #[.pointer (some ⟨m.b, 0, none⟩), .int .i64 0]) ∧ IsFS w' m (FSt.fresh cap) ∧ (∀ k, m.O k → w.heap.size ≤ k) ∧ Keeps NoB w w' := by
  have hmm := @run_makeMap Tryz.prog
  have e0 : ¬ cap < 0 := by omega
  have e1 : ¬ 67108864 < cap := by omega
  go_enter Tryz.func19, Tryz.ntmps19
  go_wp2
  go_ret2
  obtain ⟨w1, hw1⟩ : ∃ w1, w1 = w.alloc (.map #[] 0) := ⟨_, rfl⟩
  obtain ⟨w2, hw2⟩ : ∃ w2, w2 = w1.alloc (.map #[] 0) := ⟨_, rfl⟩
  obtain ⟨w3, hw3⟩ : ∃ w3, w3 = w2.alloc (.map #[] 0) := ⟨_, rfl⟩
  have s1 : w1.heap.size = w.heap.size + 1 := by rw [hw1]; simp
  have s2 : w2.heap.size = w.heap.size + 2 := by rw [hw2]; simp [s1]
  have s3 : w3.heap.size = w.heap.size + 3 := by rw [hw3]; simp [s2]
  have k1 : Keeps NoB w w1 := by rw [hw1]; exact (Keeps.refl NoB w).alloc _
  have k2 : Keeps NoB w1 w2 := by rw [hw2]; exact (Keeps.refl NoB w1).alloc _
  have k3 : Keeps NoB w2 w3 := by rw [hw3]; exact (Keeps.refl NoB w2).alloc _
  rw [← hw1, ← hw2, ← hw3]
  have k4 : Keeps NoB w3 (w3.alloc (.cells #[.map (some w.heap.size), .int .i64 0, .map (some (w.heap.size + 1)), .map (some (w.heap.size + 1 + 1)), .slice none 0 0, .int .i64 cap, .int .i64 0, .int .i64 (-1), .bool false] 79)) := (Keeps.refl NoB w3).alloc _
  refine ⟨⟨w.heap.size + 1 + 1 + 1, w.heap.size, w.heap.size + 1, w.heap.size + 1 + 1, fun _ => none, .slice none 0 0⟩, rfl, ?_, ?_, ((k1.then k2).then k3).then k4⟩
  · have hb := heap_alloc_new w3 (.cells #[.map (some w.heap.size), .int .i64 0, .map (some (w.heap.size + 1)), .map (some (w.heap.size + 1 + 1)), .slice none 0 0, .int .i64 cap, .int .i64 0, .int .i64 (-1), .bool false] 79)
    rw [s3] at hb
    have m1 : MapF w1 w.heap.size 0 (fun _ => none) := hw1 ▸ MapF.made w
    have m2 : MapN w2 (w.heap.size + 1) [] := by
      have := MapN.made w1
      rw [← hw2, s1] at this
      exact this
    have m3 : MapN w3 (w.heap.size + 1 + 1) [] := by
      have := MapN.made w2
      rw [← hw3, s2] at this
      exact this
    refine ⟨hb, ((((m1.keeps k2 (fun e => e)).keeps k3 (fun e => e)).keeps k4 (fun e => e)).mono (Nat.zero_le _)), ((m2.keeps k3 (fun e => e)).keeps k4 (fun e => e)), m3.keeps k4 (fun e => e), movesV_nil _, (fun n f hg => by cases hg), (fun n n' f f' hg => by cases hg), ⟨?_, ?_, ?_⟩, (fun e he => by cases he), (fun e he => by cases he), fun x hx => by cases hx⟩
    · dsimp only; omega
    · dsimp only; omega
    · dsimp only; omega
  · intro k hk
    rcases hk with hk | hk | hk | hk | hk | ⟨n, f, hg, _⟩
    · dsimp only at hk; omega
    · dsimp only at hk; omega
    · dsimp only at hk; omega
    · dsimp only at hk; omega
    · simp [Value.ownBlock] at hk
    · cases hg
theorem dead_nil (w : World) : Calls Tryz.prog 12 #[.pointer none] w fun e w' => e = .returned (.bool false) ∧ w = w' := by
  go_enter Tryz.func12, Tryz.ntmps12
  go_wp2
  go_ret
  exact ⟨rfl, rfl⟩
theorem dead_fs (w : World) (m : FsMem) (s : FSt) (h : IsFS w m s) : Calls Tryz.prog 12 #[.pointer (some ⟨m.b, 0, none⟩)] w fun e w' => e = .returned (.bool s.off) ∧ w = w' := by
  have c8 := h.c.2.2.2.2.2.2.2.2
  clear h
  go_enter Tryz.func12, Tryz.ntmps12
  go_wp2
  go_ret
  exact ⟨rfl, rfl⟩
theorem arm_nil (w : World) (n : Int) : Calls Tryz.prog 28 #[.pointer none, .int .i64 n] w fun e w' => e = .returned (.tuple #[]) ∧ w = w' := by
  go_enter Tryz.func28, Tryz.ntmps28
  go_wp2
  refine bodyPost_ret (results_none rfl _ _ _) rfl ?_
  exact ⟨rfl, rfl⟩
theorem Inv.arm {N : Nat} {s : FSt} (h : Inv N s) (n : Int) (hn : n ≤ 9223372036854775807) : Inv N (s.arm n) := by
  unfold FSt.arm
  split
  · exact h
  · exact ⟨⟨h.ok.dirD, h.ok.dirS, h.ok.path, h.ok.cur, h.ok.cap, ⟨by show -1 ≤ max n (-1); omega, by show max n (-1) ≤ _; omega⟩, h.ok.len, h.ok.lens⟩, h.files, ⟨h.lim.ops, h.lim.files, h.lim.moves, h.lim.log, h.lim.strs, h.lim.dat⟩⟩
set_option maxHeartbeats 4000000 in
theorem arm_fs (w : World) (m : FsMem) (s : FSt) (h : IsFS w m s) (n : Int) : Calls Tryz.prog 28 #[.pointer (some ⟨m.b, 0, none⟩), .int .i64 n] w fun e w' => e = .returned (.tuple #[]) ∧ IsFS w' m (s.arm n) ∧ Keeps (OneB m.b) w w' := by
  have c8 := h.c.2.2.2.2.2.2.2.2
  have c7 := h.c.2.2.2.2.2.2.2.1
  have f7 := blk_frozen h.blk 7
  have f8 := blk_frozen h.blk 8
  have H := Sd.mk h
  clear h
  cases hoff : s.off with
  | true =>
    have hs : s.arm n = s := by unfold FSt.arm; rw [if_pos hoff]
    rw [hoff] at c8
    rw [hs]
    go_enter Tryz.func28, Tryz.ntmps28
    go_wp2
    refine bodyPost_ret (results_none rfl _ _ _) rfl ?_
    exact ⟨rfl, H.o, Keeps.refl _ _⟩
  | false =>
    have hs : Sd (s.arm n = { s with left := max n (-1), off := decide (n = 0) }) := ⟨by unfold FSt.arm; rw [if_neg (by rw [hoff]; simp)]⟩
    rw [hoff] at c8
    go_enter Tryz.func28, Tryz.ntmps28
    go_wp2
    go_end0
    have hk : Keeps (OneB m.b) w ((w.setCell ⟨m.b, 7, none⟩ (.int .i64 (max n (-1)))).setCell ⟨m.b, 8, none⟩ (.bool (n == 0))) := ((Keeps.refl (OneB m.b) w).setCell ⟨m.b, 7, none⟩ _ (fun _ => rfl)).setCell ⟨m.b, 8, none⟩ _ (fun _ => rfl)
    obtain ⟨n1, n2, n3, n4⟩ := H.o.names_keep hk (fun i hi => hi)
    have kd := H.o.kinds
    refine ⟨rfl, ?_, hk⟩
    rw [hs.o]
    refine ⟨?_, n2, n1 _ H.o.names, n3, OwnW.keeps H.o.moves hk (fun i hi e => ?_), n4, H.o.apart, H.o.maps, H.o.has⟩
    · refine (blk_set (blk_set H.o.blk 7 _) 8 _).trans ?_
      have e1 : (n == 0) = decide (n = 0) := by by_cases h0 : n = 0 <;> simp [h0]
      rw [e1]
      rfl
    · have e2 : i = m.b := e
      have := kd.2.2.2.2 i hi
      rw [e2, kd.1] at this
      exact absurd this (by decide)
theorem read_nil (w : World) (n a b : Int) : Calls Tryz.prog 9 #[.pointer none, .int .i64 n, .int .i64 a, .int .i64 b] w fun e w' => e = .returned (.tuple #[.slice none 0 0, .int .i64 7]) ∧ w = w' := by
  go_enter Tryz.func9, Tryz.ntmps9
  go_wp2_with (go_at_call 34; refine (there_nil w n).mono ?_; rintro e w' ⟨rfl, rfl⟩)
  go_ret2
  exact ⟨rfl, rfl⟩
set_option maxHeartbeats 8000000 in
set_option maxRecDepth 100000 in
theorem read_fs (w : World) (m : FsMem) (s : FSt) (N : Nat) (h : IsFS w m s) (inv : Inv N s) (hN : N ≤ 1000000000) (n pos most : Int) (hp0 : -9223372036854775808 ≤ pos) (hp1 : pos ≤ 9223372036854775807) (hm0 : -9223372036854775808 ≤ most) (hm1 : most ≤ 9223372036854775807) :
    Calls Tryz.prog 9 #[.pointer (some ⟨m.b, 0, none⟩), .int .i64 n, .int .i64 pos, .int .i64 most] w fun e w' => ∃ A' c', e = .returned (.tuple #[.slice A' (s.read n pos most).1.length c', .int .i64 (s.read n pos most).2]) ∧
      OwnV w' 5 (.slice A' (s.read n pos most).1.length c') (bvs (s.read n pos most).1) ∧ Fresh w (.slice A' (s.read n pos most).1.length c') ∧ Keeps NoB w w' := by
  have hFN : s.F.length ≤ 4611686018427387904 := by have := inv.lim.files; omega
  have HTH := Sd.mk (there_fs w m s h inv.ok hFN n)
  have H := Sd.mk h
  have HI := Sd.mk inv
  obtain ⟨R, hR⟩ : ∃ R, R = s.read n pos most := ⟨_, rfl⟩
  rw [← hR]
  have HR := Sd.mk hR
  obtain ⟨t, ht⟩ : ∃ t, t = s.there n := ⟨_, rfl⟩
  rw [← ht] at HTH
  have HT := Sd.mk ht
  have FAIL : Sd (∀ (er : Int) w', R = ([], er) → Keeps NoB w w' → ∃ A' c', Ending.returned (.tuple #[.slice none 0 0, .int .i64 er]) = .returned (.tuple #[.slice A' R.1.length c', .int .i64 R.2]) ∧ OwnV w' 5 (.slice A' R.1.length c') (bvs R.1) ∧ Fresh w (.slice A' R.1.length c') ∧ Keeps NoB w w') := ⟨fun er w' e hk => by
    rw [e]
    exact ⟨none, 0, rfl, (Own.nil w' 0).v, fun k hk => by simp [Value.ownBlock] at hk, hk⟩⟩
  clear h inv hR ht
  go_enter Tryz.func9, Tryz.ntmps9
  go_wp2_with fail
  refine HTH.o.mono ?_
  clear HTH
  rintro e w1 ⟨pp, rfl, hk1, hne, heq⟩
  have HK1 := Sd.mk hk1
  clear hk1
  by_cases ht0 : t = 0
  case neg =>
    have hb : (t != 0) = true := by simpa using ht0
    have hfin : Sd (R = ([], t)) := ⟨by rw [HR.o]; unfold FSt.read; rw [← HT.o, if_pos ht0]⟩
    obtain rfl := hne ht0
    clear hne heq ht0
    go_wp2_with fail
    go_ret2
    exact FAIL.o t _ hfin.o HK1.o
  subst ht0
  obtain ⟨hoff, k, f, rfl, hkF, hg, rfl⟩ := heq rfl
  have h1 := H.o.kept HK1.o
  have hfile := h1.file k f hg
  have cd := hfile.2.2.c.1
  obtain ⟨Ad, cc, hdv⟩ := hfile.2.2.dat.slice
  rw [hdv] at cd
  have hsm := HI.o.files.small k
  have HDAT : Sd (RowU w1 (.slice Ad (s.file k).data.length cc) (s.file k).data) := ⟨hdv ▸ hfile.2.2.dat⟩
  have hcap := HDAT.o.1.rd.2.1
  obtain ⟨P, hP⟩ : ∃ P, P = (s.file k).data := ⟨_, rfl⟩
  rw [← hP] at cd hsm HDAT hcap
  have HW : Sd (R = if pos < 0 ∨ (P.length : Int) < pos ∨ most < 0 then ([], 2) else ((P.drop pos.toNat).take most.toNat, 0)) := ⟨by
    rw [HR.o]
    unfold FSt.read
    rw [← HT.o, if_neg (by decide), Int.toNat_natCast, ← hP]⟩
  clear hne heq hoff hg h1 hfile hdv HT HR hP
  by_cases hneg : pos < 0
  · have hfin : Sd (R = ([], 2)) := ⟨by rw [HW.o, if_pos (.inl hneg)]⟩
    go_wp2_with fail
    go_ret2
    exact FAIL.o 2 _ hfin.o HK1.o
  obtain ⟨pn, rfl⟩ := Int.eq_ofNat_of_zero_le (Int.not_lt.1 hneg)
  by_cases hbig : (P.length : Int) < pn
  · have hfin : Sd (R = ([], 2)) := ⟨by rw [HW.o, if_pos (.inr (.inl hbig))]⟩
    go_wp2_with fail
    go_ret2
    exact FAIL.o 2 _ hfin.o HK1.o
  have hbn : ¬ P.length < pn := by omega
  by_cases hmneg : most < 0
  · have hfin : Sd (R = ([], 2)) := ⟨by rw [HW.o, if_pos (.inr (.inr hmneg))]⟩
    go_wp2_with fail
    go_ret2
    exact FAIL.o 2 _ hfin.o HK1.o
  obtain ⟨mn, rfl⟩ := Int.eq_ofNat_of_zero_le (Int.not_lt.1 hmneg)
  obtain ⟨q, hq⟩ : ∃ q, q = min mn (P.length - pn) := ⟨_, rfl⟩
  have hmin : min (mn : Int) ((P.length : Int) - (pn : Int)) = (q : Int) := by omega
  have hpq : pn + q ≤ P.length := by omega
  have hfin : Sd (R = ((P.drop pn).take q, 0)) := ⟨by
    rw [HW.o, if_neg (by omega), Int.toNat_natCast, Int.toNat_natCast, hq]
    congr 1
    rw [List.take_eq_take_iff, List.length_drop]
    omega⟩
  obtain ⟨i0, hi, hz0, hz1, hz2⟩ := info_parts infoU8
  have hsl : ∀ W : World, (Instr.slice 38 (.slice Ad P.length cc) (some (.int .i64 (pn : Int))) (some (.int .i64 ((pn : Int) + (q : Int)))) none).run Tryz.prog W = .ok (.slice (cutA Ad cc pn) q (cc - pn)) W := fun W => by
    have := slice_run 38 5 .i64 .i64 Tryz.underlying38 hi hz1 Ad P.length cc pn (pn + q) (by omega) (by omega) W (pn : Int) ((pn : Int) + (q : Int)) rfl (by omega)
    rw [show pn + q - pn = q by omega] at this
    exact this
  have HC : Sd (∀ wx, Keeps NoB w1 wx → Calls Tryz.prog 35 #[.slice (cutA Ad cc pn) q (cc - pn)] wx fun e w' => ∃ A' c', e = .returned (.slice A' q c') ∧ OwnV w' 5 (.slice A' q c') (bvs ((P.drop pn).take q)) ∧ Fresh w (.slice A' q c') ∧ Keeps NoB w w') := ⟨fun wx hk => by
    have hb := HDAT.o.1.cut pn (pn + q) (by omega) hpq
    rw [show pn + q - pn = q by omega] at hb
    have hl : ((P.drop pn).take q).length = q := by simp; omega
    have := cloneB_any wx (cutA Ad cc pn) q (cc - pn) ((P.drop pn).take q) (hb.keeps hk (fun _ _ _ _ _ f => f)) (by rw [hl]; omega)
    rw [hl] at this
    exact this.mono fun e w' ⟨A', c', he, ho, hf, hk'⟩ => ⟨A', c', he, ho, fun i hi => Nat.le_trans (HK1.o.then hk).size (hf i hi), (HK1.o.then hk).then hk'⟩⟩
  have hHL : Sd (((P.drop pn).take q).length = q) := ⟨by simp; omega⟩
  clear hi hz0 hz1 hz2 hq HW hneg hmneg hbig
  go_upto_region 6 with fail
  have ew1 : IntKind.i64.wrap ((P.length : Int) - (pn : Int)) = (P.length : Int) - (pn : Int) := by unfold IntKind.wrap; simp [IntKind.bits, IntKind.signed]; omega
  have ew2 : IntKind.i64.wrap ((pn : Int) + (q : Int)) = (pn : Int) + (q : Int) := by unfold IntKind.wrap; simp [IntKind.bits, IntKind.signed]; omega
  go_cut [8, 9] (fun sx sy wx => ∃ A' c', sx = .slice A' q c' ∧ sy = .int .i64 0 ∧ Sd (OwnV wx 5 (.slice A' q c') (bvs ((P.drop pn).take q))) ∧ Sd (Fresh w (.slice A' q c')) ∧ Sd (Keeps NoB w wx))
  case first =>
    go_region_law
      (go_simp; go_at_call 35
       refine (HC.o _ (Keeps.drewN (Keeps.refl NoB w1) 1)).mono ?_
       rintro e w2 ⟨A2, c2, rfl, ho2, hf2, hk2⟩
       have HO2 := Sd.mk ho2
       have HF2 := Sd.mk hf2
       have HK2 := Sd.mk hk2
       clear ho2 hf2 hk2)
    all_goals (go_wp2_with fail; go_meet; exact ⟨A2, c2, rfl, rfl, HO2, HF2, HK2⟩)
  obtain ⟨A2, c2, rfl, rfl, HO2, HF2, HK2⟩ := hcut
  go_wp2_with fail
  go_ret2
  rw [hfin.o]
  dsimp only
  rw [hHL.o]
  exact ⟨A2, c2, rfl, HO2.o, HF2.o, HK2.o⟩
end Go.Proofs.YtlhhcoijkjcneaaGreat
