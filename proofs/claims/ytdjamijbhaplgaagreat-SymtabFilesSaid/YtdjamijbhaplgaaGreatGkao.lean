/- simfs: New, Read, Arm, Dead. -/
import Derived.Test.YtdjamijbhaplgaaGreatSimV
namespace Go.Proofs.YtdjamijbhaplgaaGreat
open Go.RowKit Go.Maps Go.Lib

theorem Inv.fresh {cap : Int} (h0 : 0 ≤ cap) (h1 : cap ≤ 67108864) : Inv 0 (FSt.fresh cap) := by
  have hf : ∀ n, (FSt.fresh cap).file n = noFile := fun n => by simp [FSt.file, FSt.fresh]
  refine ⟨⟨GoodDir.nil _, GoodDir.nil _, trivial, rfl, ⟨h0, h1⟩, ⟨Int.le_refl (-1), by show (-1 : Int) ≤ 9223372036854775807; decide⟩, by simp [FSt.fresh], fun k => by simp [FSt.fresh, movedAll]⟩, fun n => ?_, ⟨Nat.le_refl _, Nat.le_refl _, Nat.le_refl _, fun n => ?_, (fun x hx => by cases hx), fun n d hd => ?_⟩⟩
  · rw [hf]; exact ⟨by simp [noFile, LogOk], rfl⟩
  · rw [hf]; simp [noFile]
  · rw [hf] at hd; cases hd
set_option maxHeartbeats 4000000 in
set_option maxRecDepth 100000 in
theorem fsnew_bad (w : World) (cap : Int) (h : cap < 0 ∨ 67108864 < cap) : Calls Tryz.prog 5 #[.int .i64 cap] w fun e w' => e = .returned (.tuple #[.pointer none, .int .i64 2]) ∧ w = w' := by
  by_cases h0 : cap < 0
  · go_enter Tryz.func5, Tryz.ntmps5
    go_wp2
    go_ret2
    exact ⟨rfl, rfl⟩
  · have h1 : 67108864 < cap := h.resolve_left h0
    clear h
    go_enter Tryz.func5, Tryz.ntmps5
    go_wp2
    go_ret2
    exact ⟨rfl, rfl⟩
set_option maxHeartbeats 4000000 in
set_option maxRecDepth 100000 in
theorem fsnew_any (w : World) (cap : Int) (h0 : 0 ≤ cap) (h1 : cap ≤ 67108864) : Calls Tryz.prog 5 #[.int .i64 cap] w fun e w' => ∃ m, e = .returned (.tuple #[.pointer (some ⟨m.b, 0, none⟩), .int .i64 0]) ∧ IsFS w' m (FSt.fresh cap) ∧ (∀ k, m.O k → w.heap.size ≤ k) ∧ Keeps NoB w w' := by
  have hmm := @run_makeMap Tryz.prog
  have e0 : ¬ cap < 0 := by omega
  have e1 : ¬ 67108864 < cap := by omega
  go_enter Tryz.func5, Tryz.ntmps5
  go_wp2
  go_ret2
  obtain ⟨w1, hw1⟩ : ∃ w1, w1 = w.alloc (.map #[] 0) := ⟨_, rfl⟩
  obtain ⟨w2, hw2⟩ : ∃ w2, w2 = w1.alloc (.map #[] 0) := ⟨_, rfl⟩
  obtain ⟨w3, hw3⟩ : ∃ w3, w3 = w2.alloc (.map #[] 0) := ⟨_, rfl⟩
  have s1 : w1.heap.size = w.heap.size + 1 := by rw [hw1]; simp
  have s2 : w2.heap.size = w.heap.size + 2 := by rw [hw2]; simp [s1]
  have s3 : w3.heap.size = w.heap.size + 3 := by rw [hw3]; simp [s2]
  have k1 : Keeps NoB w w1 := by rw [hw1]; exact (Keeps.refl NoB w).alloc _
  have k2 : Keeps NoB w1 w2 := by rw [hw2]; exact (Keeps.refl NoB w1).alloc _
  have k3 : Keeps NoB w2 w3 := by rw [hw3]; exact (Keeps.refl NoB w2).alloc _
  rw [← hw1, ← hw2, ← hw3]
  have k4 : Keeps NoB w3 (w3.alloc (.cells #[.map (some w.heap.size), .int .i64 0, .map (some (w.heap.size + 1)), .map (some (w.heap.size + 1 + 1)), .slice none 0 0, .int .i64 cap, .int .i64 0, .int .i64 (-1), .bool false] 81)) := (Keeps.refl NoB w3).alloc _
  refine ⟨⟨w.heap.size + 1 + 1 + 1, w.heap.size, w.heap.size + 1, w.heap.size + 1 + 1, fun _ => none, .slice none 0 0⟩, rfl, ?_, ?_, ((k1.then k2).then k3).then k4⟩
  · have hb := heap_alloc_new w3 (.cells #[.map (some w.heap.size), .int .i64 0, .map (some (w.heap.size + 1)), .map (some (w.heap.size + 1 + 1)), .slice none 0 0, .int .i64 cap, .int .i64 0, .int .i64 (-1), .bool false] 81)
    rw [s3] at hb
    have m1 : MapF w1 w.heap.size 0 (fun _ => none) := hw1 ▸ MapF.made w
    have m2 : MapN w2 (w.heap.size + 1) [] := by
      have := MapN.made w1
      rw [← hw2, s1] at this
      exact this
    have m3 : MapN w3 (w.heap.size + 1 + 1) [] := by
      have := MapN.made w2
      rw [← hw3, s2] at this
      exact this
    refine ⟨hb, ((((m1.keeps k2 (fun e => e)).keeps k3 (fun e => e)).keeps k4 (fun e => e)).mono (Nat.zero_le _)), ((m2.keeps k3 (fun e => e)).keeps k4 (fun e => e)), m3.keeps k4 (fun e => e), movesV_nil _, (fun n f hg => by cases hg), (fun n n' f f' hg => by cases hg), ⟨?_, ?_, ?_⟩, (fun e he => by cases he), (fun e he => by cases he), fun x hx => by cases hx⟩
    · dsimp only; omega
    · dsimp only; omega
    · dsimp only; omega
  · intro k hk
    rcases hk with hk | hk | hk | hk | hk | ⟨n, f, hg, _⟩
    · dsimp only at hk; omega
    · dsimp only at hk; omega
    · dsimp only at hk; omega
    · dsimp only at hk; omega
    · simp [Value.ownBlock] at hk
    · cases hg
theorem arm_nil (w : World) (n : Int) : Calls Tryz.prog 10 #[.pointer none, .int .i64 n] w fun e w' => e = .returned (.tuple #[]) ∧ w = w' := by
  go_enter Tryz.func10, Tryz.ntmps10
  go_wp2
  refine bodyPost_ret (results_none rfl _ _ _) rfl ?_
  exact ⟨rfl, rfl⟩
theorem Inv.arm {N : Nat} {s : FSt} (h : Inv N s) (n : Int) (hn : n ≤ 9223372036854775807) : Inv N (s.arm n) := by
  unfold FSt.arm
  split
  · exact h
  · exact ⟨⟨h.ok.dirD, h.ok.dirS, h.ok.path, h.ok.cur, h.ok.cap, ⟨by show -1 ≤ max n (-1); omega, by show max n (-1) ≤ _; omega⟩, h.ok.len, h.ok.lens⟩, h.files, ⟨h.lim.ops, h.lim.files, h.lim.moves, h.lim.log, h.lim.strs, h.lim.dat⟩⟩
set_option maxHeartbeats 4000000 in
theorem arm_fs (w : World) (m : FsMem) (s : FSt) (h : IsFS w m s) (n : Int) : Calls Tryz.prog 10 #[.pointer (some ⟨m.b, 0, none⟩), .int .i64 n] w fun e w' => e = .returned (.tuple #[]) ∧ IsFS w' m (s.arm n) ∧ Keeps (OneB m.b) w w' := by
  have c8 := h.c.2.2.2.2.2.2.2.2
  have c7 := h.c.2.2.2.2.2.2.2.1
  have f7 := blk_frozen h.blk 7
  have f8 := blk_frozen h.blk 8
  have H := Sd.mk h
  clear h
  cases hoff : s.off with
  | true =>
    have hs : s.arm n = s := by unfold FSt.arm; rw [if_pos hoff]
    rw [hoff] at c8
    rw [hs]
    go_enter Tryz.func10, Tryz.ntmps10
    go_wp2
    refine bodyPost_ret (results_none rfl _ _ _) rfl ?_
    exact ⟨rfl, H.o, Keeps.refl _ _⟩
  | false =>
    have hs : Sd (s.arm n = { s with left := max n (-1), off := decide (n = 0) }) := ⟨by unfold FSt.arm; rw [if_neg (by rw [hoff]; simp)]⟩
    rw [hoff] at c8
    go_enter Tryz.func10, Tryz.ntmps10
    go_wp2
    go_end0
    have hk : Keeps (OneB m.b) w ((w.setCell ⟨m.b, 7, none⟩ (.int .i64 (max n (-1)))).setCell ⟨m.b, 8, none⟩ (.bool (n == 0))) := ((Keeps.refl (OneB m.b) w).setCell ⟨m.b, 7, none⟩ _ (fun _ => rfl)).setCell ⟨m.b, 8, none⟩ _ (fun _ => rfl)
    obtain ⟨n1, n2, n3, n4⟩ := H.o.names_keep hk (fun i hi => hi)
    have kd := H.o.kinds
    refine ⟨rfl, ?_, hk⟩
    rw [hs.o]
    refine ⟨?_, n2, n1 _ H.o.names, n3, OwnW.keeps H.o.moves hk (fun i hi e => ?_), n4, H.o.apart, H.o.maps, H.o.has⟩
    · refine (blk_set (blk_set H.o.blk 7 _) 8 _).trans ?_
      have e1 : (n == 0) = decide (n = 0) := by by_cases h0 : n = 0 <;> simp [h0]
      rw [e1]
      rfl
    · have e2 : i = m.b := e
      have := kd.2.2.2.2 i hi
      rw [e2, kd.1] at this
      exact absurd this (by decide)
theorem read_nil (w : World) (n a b : Int) : Calls Tryz.prog 44 #[.pointer none, .int .i64 n, .int .i64 a, .int .i64 b] w fun e w' => e = .returned (.tuple #[.slice none 0 0, .int .i64 7]) ∧ w = w' := by
  go_enter Tryz.func44, Tryz.ntmps44
  go_wp2_with (go_at_call 37; refine (there_nil w n).mono ?_; rintro e w' ⟨rfl, rfl⟩)
  go_ret2
  exact ⟨rfl, rfl⟩
set_option maxHeartbeats 8000000 in
set_option maxRecDepth 100000 in
theorem read_fs (w : World) (m : FsMem) (s : FSt) (N : Nat) (h : IsFS w m s) (inv : Inv N s) (hN : N ≤ 1000000000) (n pos most : Int) (hp0 : -9223372036854775808 ≤ pos) (hp1 : pos ≤ 9223372036854775807) (hm0 : -9223372036854775808 ≤ most) (hm1 : most ≤ 9223372036854775807) :
    Calls Tryz.prog 44 #[.pointer (some ⟨m.b, 0, none⟩), .int .i64 n, .int .i64 pos, .int .i64 most] w fun e w' => ∃ A' c', e = .returned (.tuple #[.slice A' (s.read n pos most).1.length c', .int .i64 (s.read n pos most).2]) ∧
      OwnV w' 5 (.slice A' (s.read n pos most).1.length c') (bvs (s.read n pos most).1) ∧ Fresh w (.slice A' (s.read n pos most).1.length c') ∧ Keeps NoB w w' := by
  have hFN : s.F.length ≤ 4611686018427387904 := by have := inv.lim.files; omega
  have HTH := Sd.mk (there_fs w m s h inv.ok hFN n)
  have H := Sd.mk h
  have HI := Sd.mk inv
  obtain ⟨R, hR⟩ : ∃ R, R = s.read n pos most := ⟨_, rfl⟩
  rw [← hR]
  have HR := Sd.mk hR
  obtain ⟨t, ht⟩ : ∃ t, t = s.there n := ⟨_, rfl⟩
  rw [← ht] at HTH
  have HT := Sd.mk ht
  have FAIL : Sd (∀ (er : Int) w', R = ([], er) → Keeps NoB w w' → ∃ A' c', Ending.returned (.tuple #[.slice none 0 0, .int .i64 er]) = .returned (.tuple #[.slice A' R.1.length c', .int .i64 R.2]) ∧ OwnV w' 5 (.slice A' R.1.length c') (bvs R.1) ∧ Fresh w (.slice A' R.1.length c') ∧ Keeps NoB w w') := ⟨fun er w' e hk => by
    rw [e]
    exact ⟨none, 0, rfl, (Own.nil w' 0).v, fun k hk => by simp [Value.ownBlock] at hk, hk⟩⟩
  clear h inv hR ht
  go_enter Tryz.func44, Tryz.ntmps44
  go_wp2_with fail
  refine HTH.o.mono ?_
  clear HTH
  rintro e w1 ⟨pp, rfl, hk1, hne, heq⟩
  have HK1 := Sd.mk hk1
  clear hk1
  by_cases ht0 : t = 0
  case neg =>
    have hb : (t != 0) = true := by simpa using ht0
    have hfin : Sd (R = ([], t)) := ⟨by rw [HR.o]; unfold FSt.read; rw [← HT.o, if_pos ht0]⟩
    obtain rfl := hne ht0
    clear hne heq ht0
    go_wp2_with fail
    go_ret2
    exact FAIL.o t _ hfin.o HK1.o
  subst ht0
  obtain ⟨hoff, k, f, rfl, hkF, hg, rfl⟩ := heq rfl
  have h1 := H.o.kept HK1.o
  have hfile := h1.file k f hg
  have cd := hfile.2.2.c.1
  obtain ⟨Ad, cc, hdv⟩ := hfile.2.2.dat.slice
  rw [hdv] at cd
  have hsm := HI.o.files.small k
  have HDAT : Sd (RowU w1 (.slice Ad (s.file k).data.length cc) (s.file k).data) := ⟨hdv ▸ hfile.2.2.dat⟩
  have hcap := HDAT.o.1.rd.2.1
  obtain ⟨P, hP⟩ : ∃ P, P = (s.file k).data := ⟨_, rfl⟩
  rw [← hP] at cd hsm HDAT hcap
  have HW : Sd (R = if pos < 0 ∨ (P.length : Int) < pos ∨ most < 0 then ([], 2) else ((P.drop pos.toNat).take most.toNat, 0)) := ⟨by
    rw [HR.o]
    unfold FSt.read
    rw [← HT.o, if_neg (by decide), Int.toNat_natCast, ← hP]⟩
  clear hne heq hoff hg h1 hfile hdv HT HR hP
  by_cases hneg : pos < 0
  · have hfin : Sd (R = ([], 2)) := ⟨by rw [HW.o, if_pos (.inl hneg)]⟩
    go_wp2_with fail
    go_ret2
    exact FAIL.o 2 _ hfin.o HK1.o
  obtain ⟨pn, rfl⟩ := Int.eq_ofNat_of_zero_le (Int.not_lt.1 hneg)
  by_cases hbig : (P.length : Int) < pn
  · have hfin : Sd (R = ([], 2)) := ⟨by rw [HW.o, if_pos (.inr (.inl hbig))]⟩
    go_wp2_with fail
    go_ret2
    exact FAIL.o 2 _ hfin.o HK1.o
  have hbn : ¬ P.length < pn := by omega
  by_cases hmneg : most < 0
  · have hfin : Sd (R = ([], 2)) := ⟨by rw [HW.o, if_pos (.inr (.inr hmneg))]⟩
    go_wp2_with fail
    go_ret2
    exact FAIL.o 2 _ hfin.o HK1.o
  obtain ⟨mn, rfl⟩ := Int.eq_ofNat_of_zero_le (Int.not_lt.1 hmneg)
  obtain ⟨q, hq⟩ : ∃ q, q = min mn (P.length - pn) := ⟨_, rfl⟩
  have hmin : min (mn : Int) ((P.length : Int) - (pn : Int)) = (q : Int) := by omega
  have hpq : pn + q ≤ P.length := by omega
  have hfin : Sd (R = ((P.drop pn).take q, 0)) := ⟨by
    rw [HW.o, if_neg (by omega), Int.toNat_natCast, Int.toNat_natCast, hq]
    congr 1
    rw [List.take_eq_take_iff, List.length_drop]
    omega⟩
  obtain ⟨i0, hi, hz0, hz1, hz2⟩ := info_parts infoU8
  have hsl : ∀ W : World, (Instr.slice 49 (.slice Ad P.length cc) (some (.int .i64 (pn : Int))) (some (.int .i64 ((pn : Int) + (q : Int)))) none).run Tryz.prog W = .ok (.slice (cutA Ad cc pn) q (cc - pn)) W := fun W => by
    have := slice_run 49 5 .i64 .i64 Tryz.underlying49 hi hz1 Ad P.length cc pn (pn + q) (by omega) (by omega) W (pn : Int) ((pn : Int) + (q : Int)) rfl (by omega)
    rw [show pn + q - pn = q by omega] at this
    exact this
  have HC : Sd (∀ wx, Keeps NoB w1 wx → Calls Tryz.prog 75 #[.slice (cutA Ad cc pn) q (cc - pn)] wx fun e w' => ∃ A' c', e = .returned (.slice A' q c') ∧ OwnV w' 5 (.slice A' q c') (bvs ((P.drop pn).take q)) ∧ Fresh w (.slice A' q c') ∧ Keeps NoB w w') := ⟨fun wx hk => by
    have hb := HDAT.o.1.cut pn (pn + q) (by omega) hpq
    rw [show pn + q - pn = q by omega] at hb
    have hl : ((P.drop pn).take q).length = q := by simp; omega
    have := cloneB_any wx (cutA Ad cc pn) q (cc - pn) ((P.drop pn).take q) (hb.keeps hk (fun _ _ _ _ _ f => f)) (by rw [hl]; omega)
    rw [hl] at this
    exact this.mono fun e w' ⟨A', c', he, ho, hf, hk'⟩ => ⟨A', c', he, ho, fun i hi => Nat.le_trans (HK1.o.then hk).size (hf i hi), (HK1.o.then hk).then hk'⟩⟩
  have hHL : Sd (((P.drop pn).take q).length = q) := ⟨by simp; omega⟩
  clear hi hz0 hz1 hz2 hq HW hneg hmneg hbig
  go_upto_region 6 with fail
  have ew1 : IntKind.i64.wrap ((P.length : Int) - (pn : Int)) = (P.length : Int) - (pn : Int) := by unfold IntKind.wrap; simp [IntKind.bits, IntKind.signed]; omega
  have ew2 : IntKind.i64.wrap ((pn : Int) + (q : Int)) = (pn : Int) + (q : Int) := by unfold IntKind.wrap; simp [IntKind.bits, IntKind.signed]; omega
  go_cut [8, 9] (fun sx sy wx => ∃ A' c', sx = .slice A' q c' ∧ sy = .int .i64 0 ∧ Sd (OwnV wx 5 (.slice A' q c') (bvs ((P.drop pn).take q))) ∧ Sd (Fresh w (.slice A' q c')) ∧ Sd (Keeps NoB w wx))
  case first =>
    go_region_law
      (go_simp; go_at_call 75
       refine (HC.o _ (Keeps.drewN (Keeps.refl NoB w1) 1)).mono ?_
       rintro e w2 ⟨A2, c2, rfl, ho2, hf2, hk2⟩
       have HO2 := Sd.mk ho2
       have HF2 := Sd.mk hf2
       have HK2 := Sd.mk hk2
       clear ho2 hf2 hk2)
    all_goals (go_wp2_with fail; go_meet; exact ⟨A2, c2, rfl, rfl, HO2, HF2, HK2⟩)
  obtain ⟨A2, c2, rfl, rfl, HO2, HF2, HK2⟩ := hcut
  go_wp2_with fail
  go_ret2
  rw [hfin.o]
  dsimp only
  rw [hHL.o]
  exact ⟨A2, c2, rfl, HO2.o, HF2.o, HK2.o⟩
end Go.Proofs.YtdjamijbhaplgaaGreat
namespace Go.Proofs.YtdjamijbhaplgaaGreat
open Go.RowKit Go.Maps Go.Lib

theorem sum_ge {l : List Nat} {x : Nat} (h : x ∈ l) : x ≤ l.sum := by
  induction l with
  | nil => cases h
  | cons a l ih =>
    rw [List.sum_cons]
    rcases List.mem_cons.1 h with rfl | h
    · omega
    · have := ih h; omega
theorem there_mem {s : FSt} {n : Int} (h : s.there n = 0) : s.off = false ∧ ∃ e ∈ s.D, (e.2 : Int) = n := by
  unfold FSt.there at h
  split at h
  · cases h
  · rename_i ho
    split at h
    · rename_i ha
      obtain ⟨e, he, hn⟩ := List.any_eq_true.1 ha
      exact ⟨by simpa using ho, e, he, by simpa using hn⟩
    · cases h
theorem used_ge {s : FSt} {n : Int} (h : s.there n = 0) : (s.file n.toNat).data.length ≤ s.used ∧ n.toNat - 1 < s.F.length ∨ ∀ N, ¬ GoodDir N s.D ∨ N < s.F.length ∨ s.F.length < N := by
  obtain ⟨_, e, he, hn⟩ := there_mem h
  by_cases hg : GoodDir s.F.length s.D
  · left
    have h1 := hg.low e he
    have h2 : n.toNat = e.2 := by omega
    rw [h2]
    exact ⟨sum_ge (List.mem_map.2 ⟨e, he, rfl⟩), by omega⟩
  · right
    intro N
    by_cases hN : N = s.F.length
    · subst hN; exact .inl hg
    · omega
theorem Inv.at_ {N : Nat} {s : FSt} (h : Inv N s) {n : Int} (ht : s.there n = 0) : (s.file n.toNat).data.length ≤ s.used ∧ n.toNat - 1 < s.F.length := by
  rcases used_ge ht with h1 | h1
  · exact h1
  · rcases h1 s.F.length with h2 | h2 | h2
    · exact absurd h.ok.dirD h2
    · omega
    · omega
theorem Inv.write {N : Nat} {s : FSt} (h : Inv N s) (n pos : Int) (p : List UInt8) (hp : p.length ≤ 70368744177664) : Inv (N + 1) (s.write n pos p).2 := by
  unfold FSt.write
  split
  · exact h.mono (by omega)
  · rename_i ht
    split
    · exact h.mono (by omega)
    · rename_i hpos
      split
      · exact h.mono (by omega)
      · rename_i hg
        obtain ⟨h1, h2⟩ := h.at_ (n := n) (by simpa using ht)
        have hcap := h.ok.cap
        have hsm := h.files.small n.toNat
        have hpn : pos.toNat ≤ (s.file n.toNat).data.length := by omega
        refine h.does n.toNat ⟨false, pos.toNat, p⟩ h2 hpn ?_ hp
        rw [doneOn_write_len _ _ _ hpn]
        omega
theorem Inv.append {N : Nat} {s : FSt} (h : Inv N s) (n : Int) (p : List UInt8) (hp : p.length ≤ 70368744177664) : Inv (N + 1) (s.append n p).2 := by
  unfold FSt.append
  split
  · exact h.mono (by omega)
  · exact h.write n _ p hp
theorem Inv.cutAt {N : Nat} {s : FSt} (h : Inv N s) (n size : Int) : Inv (N + 1) (s.cutAt n size).2 := by
  unfold FSt.cutAt
  split
  · exact h.mono (by omega)
  · rename_i ht
    split
    · exact h.mono (by omega)
    · rename_i hpos
      obtain ⟨h1, h2⟩ := h.at_ (n := n) (by simpa using ht)
      have hsm := h.files.small n.toNat
      refine h.does n.toNat ⟨true, size.toNat, []⟩ h2 (by dsimp only; omega) ?_ (by simp)
      show ((s.file n.toNat).data.take size.toNat).length ≤ 67108864
      rw [List.length_take]; omega
theorem Inv.sync {N : Nat} {s : FSt} (h : Inv N s) (n : Int) : Inv (N + 1) (s.sync n).2 := by
  unfold FSt.sync
  split
  · exact h.mono (by omega)
  · rename_i ht
    exact h.setSync n.toNat (h.at_ (n := n) (by simpa using ht)).2
theorem Inv.syncDir {N : Nat} {s : FSt} (h : Inv N s) : Inv (N + 1) s.syncDir.2 := by
  unfold FSt.syncDir
  split
  · exact h.mono (by omega)
  · exact h.syncD
theorem nameE_len {a : List UInt8} (h : nameE a = 0) : a.length ≤ 64 := by
  unfold nameE at h
  split at h
  · rename_i hn
    unfold nameOk at hn
    simp only [Bool.and_eq_true, decide_eq_true_eq] at hn
    exact hn.1.2
  · cases h
theorem named1_len {s : FSt} {a : List UInt8} (h : s.named1 a = 0) : a.length ≤ 64 := by
  unfold FSt.named1 at h
  split at h
  · cases h
  · exact nameE_len h
theorem Inv.create {N : Nat} {s : FSt} (h : Inv N s) (a : List UInt8) : Inv (N + 2) (s.create a).2.2 := by
  unfold FSt.create
  split
  · exact h.mono (by omega)
  · rename_i hn
    split
    · exact h.mono (by omega)
    · rename_i hl
      split
      · exact h.mono (by omega)
      · rename_i hm
        have hln := named1_len (s := s) (a := a) (by simpa using hn)
        have hnone : s.D.lookup a = none := by
          have : (s.D.at_ a).isSome = false := by simpa using hl
          exact Option.isNone_iff_eq_none.1 (by simpa [Dir.at_] using this)
        refine h.newFile.change ⟨99, a, [], s.F.length + 1⟩ (.inl ⟨rfl, hnone, fun e he => ?_, by dsimp only; omega, by simp⟩) ?_ ?_ ⟨by dsimp only; omega, by simp⟩
        · have := (h.ok.dirD.low e he).2
          dsimp only; omega
        · show (moved s.D ⟨99, a, [], s.F.length + 1⟩).length ≤ 4096
          unfold moved
          rw [if_pos rfl]
          simp
          omega
        · have := h.lim.moves
          show s.M.length + 1 ≤ N + 1 + 1
          omega
theorem Inv.remove {N : Nat} {s : FSt} (h : Inv N s) (a : List UInt8) : Inv (N + 1) (s.remove a).2 := by
  unfold FSt.remove
  split
  · exact h.mono (by omega)
  · rename_i hn
    split
    · exact h.mono (by omega)
    · have hln := named1_len (s := s) (a := a) (by simpa using hn)
      refine h.change ⟨100, a, [], 0⟩ (.inr (.inl rfl)) (Nat.le_trans (moved_len _ h.ok.dirD.names _ (by simp)) h.ok.len) (by have := h.lim.moves; omega) ⟨by dsimp only; omega, by simp⟩
theorem Inv.rename {N : Nat} {s : FSt} (h : Inv N s) (a b : List UInt8) : Inv (N + 1) (s.rename a b).2 := by
  unfold FSt.rename
  split
  · exact h.mono (by omega)
  · rename_i hn
    split
    · exact h.mono (by omega)
    · have h2 : nameE a = 0 ∧ nameE b = 0 := by
        have hn2 : s.named2 a b = 0 := by simpa using hn
        unfold FSt.named2 at hn2
        split at hn2
        · cases hn2
        · split at hn2
          · cases hn2
          · rename_i ha
            exact ⟨by simpa using ha, hn2⟩
      have h3 := nameE_len h2.1
      have h4 := nameE_len h2.2
      refine h.change ⟨114, a, b, 0⟩ (.inr (.inr rfl)) (Nat.le_trans (moved_len _ h.ok.dirD.names _ (by simp)) h.ok.len) (by have := h.lim.moves; omega) ⟨by dsimp only; omega, by dsimp only; omega⟩

/-! ### the file system that shows that the program lives -/
def L0 : FSt := FSt.fresh 10
def L1 : FSt := (L0.create [97]).2.2
def L2 : FSt := (L1.append 1 [97, 98, 99]).2
def L3 : FSt := (L2.sync 1).2
def L4 : FSt := L3.syncDir.2
def L5 : FSt := (L4.append 1 [100, 101]).2
def L6 : FSt := (L5.append 1 [102]).2
def L7 : FSt := (L6.append 1 [0, 0, 0, 0, 0, 0, 0, 0]).2
def L8 : FSt := L7.crash 0 [⟨1, 0, 1⟩]
def L9 : FSt := L8.arm 1
def L10 : FSt := (L9.append 1 [120]).2
def L11 : FSt := (L10.append 1 [121]).2
theorem live_facts : (L0.create [97]).1 = 1 ∧ (L0.create [97]).2.1 = 0 ∧ (L1.append 1 [97, 98, 99]).1 = 0 ∧ (L2.sync 1).1 = 0 ∧ L3.syncDir.1 = 0 ∧ (L4.append 1 [100, 101]).1 = 0 ∧ (L5.append 1 [102]).1 = 0 ∧ (L6.append 1 [0, 0, 0, 0, 0, 0, 0, 0]).1 = 5 ∧ L7.waiting 1 = 2 ∧
    (L8.read 1 0 99).1 = [97, 98, 99, 100] ∧ (L8.read 1 0 99).2 = 0 ∧ (L9.append 1 [120]).1 = 0 ∧ (L10.append 1 [121]).1 = 21 ∧ L11.off = true := by decide +kernel
theorem inv0 : Inv 0 L0 := Inv.fresh (by decide) (by decide)
theorem inv1 : Inv 2 L1 := inv0.create _
theorem inv2 : Inv 3 L2 := inv1.append _ _ (by decide)
theorem inv3 : Inv 4 L3 := inv2.sync _
theorem inv4 : Inv 5 L4 := inv3.syncDir
theorem inv5 : Inv 6 L5 := inv4.append _ _ (by decide)
theorem inv6 : Inv 7 L6 := inv5.append _ _ (by decide)
theorem inv7 : Inv 8 L7 := inv6.append _ _ (by decide)
theorem inv8 : Inv 8 L8 := inv7.crash _ _
theorem inv9 : Inv 8 L9 := inv8.arm _ (by decide)
theorem inv10 : Inv 9 L10 := inv9.append _ _ (by decide)
theorem inv11 : Inv 10 L11 := inv10.append _ _ (by decide)
end Go.Proofs.YtdjamijbhaplgaaGreat
namespace Go.Proofs.YtdjamijbhaplgaaGreat
open Go.RowKit

def itL : List UInt8 := [105, 116]
def newL : List UInt8 := [105, 116, 46, 110, 101, 119]
theorem it_name : nameE itL = 0 := by decide +kernel
theorem new_name : nameE newL = 0 := by decide +kernel
theorem it_ne : (newL == itL) = false := by decide +kernel
theorem new_ne : (itL == newL) = false := by decide +kernel
def swF (old : List UInt8) : FileS := ⟨old, [], old⟩
/-- What is there ahead of the change. -/
def swS (old : List UInt8) (ops : Nat) (left : Int) (off : Bool) : FSt := ⟨[swF old], [(itL, 1)], [(itL, 1)], [], 67108864, ops, left, off⟩
theorem sw_start (old : List UInt8) (ho : old.length ≤ 20000) : ((FSt.fresh 67108864).create itL).1 = 1 ∧
    ((((((FSt.fresh 67108864).create itL).2.2.append 1 old).2.sync 1).2.syncDir).2) = swS old 4 (-1) false := by
  have e1 : (FSt.fresh 67108864).create itL = (1, 0, ⟨[noFile], [(itL, 1)], [], [⟨99, itL, [], 1⟩], 67108864, 1, -1, false⟩) := by
    simp [FSt.create, FSt.fresh, FSt.named1, it_name, Dir.at_, FSt.change, FSt.counts, moved]
  have e2 : (⟨[noFile], [(itL, 1)], [], [⟨99, itL, [], 1⟩], 67108864, 1, -1, false⟩ : FSt).append 1 old = (0, ⟨[⟨[], [⟨false, 0, old⟩], old⟩], [(itL, 1)], [], [⟨99, itL, [], 1⟩], 67108864, 2, -1, false⟩) := by
    have h : ¬ (67108864 : Int) < old.length := by omega
    simp [FSt.append, FSt.there, FSt.write, FSt.file, noFile, FSt.used, FSt.does, FSt.setFile, FSt.counts, doneOn, h]
  refine ⟨by rw [e1], ?_⟩
  rw [e1]
  dsimp only
  rw [e2]
  simp [FSt.sync, FSt.there, FSt.file, FSt.setFile, FSt.counts, FSt.syncDir, swS, swF]
def leftN (left : Int) : Int := if 0 < left then left - 1 else left
def offN (left : Int) (off : Bool) : Bool := if 0 < left then decide (left = 1) else off
theorem counts_eq (F : List FileS) (D S : Dir) (M : List MoveS) (c : Int) (ops : Nat) (left : Int) (off : Bool) : FSt.counts ⟨F, D, S, M, c, ops, left, off⟩ = ⟨F, D, S, M, c, ops + 1, leftN left, offN left off⟩ := rfl
/-- The steps of the change, where the power is on. -/
theorem sw1 (old : List UInt8) (ops : Nat) (left : Int) : (swS old ops left false).create newL = (2, 0, ⟨[swF old, noFile], [(itL, 1), (newL, 2)], [(itL, 1)], [⟨99, newL, [], 2⟩], 67108864, ops + 1, leftN left, offN left false⟩) := by
  simp [FSt.create, swS, FSt.named1, new_name, Dir.at_, List.lookup, it_ne, FSt.change, counts_eq, moved]
theorem sw2 (old fresh : List UInt8) (ho : old.length ≤ 20000) (hf : fresh.length ≤ 20000) (ops : Nat) (left : Int) : (⟨[swF old, noFile], [(itL, 1), (newL, 2)], [(itL, 1)], [⟨99, newL, [], 2⟩], 67108864, ops, left, false⟩ : FSt).append 2 fresh =
    (0, ⟨[swF old, ⟨[], [⟨false, 0, fresh⟩], fresh⟩], [(itL, 1), (newL, 2)], [(itL, 1)], [⟨99, newL, [], 2⟩], 67108864, ops + 1, leftN left, offN left false⟩) := by
  have h : ¬ (67108864 : Int) - old.length < fresh.length := by omega
  simp [FSt.append, FSt.there, FSt.write, FSt.file, noFile, FSt.used, FSt.does, FSt.setFile, counts_eq, doneOn, swF, h]
theorem sw3 (old fresh : List UInt8) (ops : Nat) (left : Int) : (⟨[swF old, ⟨[], [⟨false, 0, fresh⟩], fresh⟩], [(itL, 1), (newL, 2)], [(itL, 1)], [⟨99, newL, [], 2⟩], 67108864, ops, left, false⟩ : FSt).sync 2 =
    (0, ⟨[swF old, swF fresh], [(itL, 1), (newL, 2)], [(itL, 1)], [⟨99, newL, [], 2⟩], 67108864, ops + 1, leftN left, offN left false⟩) := by
  simp [FSt.sync, FSt.there, FSt.file, FSt.setFile, counts_eq, swF]
theorem sw4 (old fresh : List UInt8) (ops : Nat) (left : Int) : (⟨[swF old, swF fresh], [(itL, 1), (newL, 2)], [(itL, 1)], [⟨99, newL, [], 2⟩], 67108864, ops, left, false⟩ : FSt).rename newL itL =
    (0, ⟨[swF old, swF fresh], [(itL, 2)], [(itL, 1)], [⟨99, newL, [], 2⟩, ⟨114, newL, itL, 0⟩], 67108864, ops + 1, leftN left, offN left false⟩) := by
  have h2 : (newL = itL) = False := by simp [newL, itL]
  have h3 : (itL = newL) = False := by simp [newL, itL]
  simp [FSt.rename, FSt.named2, it_name, new_name, Dir.at_, List.lookup, it_ne, FSt.change, counts_eq, moved, Dir.less, h2, h3]
theorem sw5 (old fresh : List UInt8) (ops : Nat) (left : Int) : (⟨[swF old, swF fresh], [(itL, 2)], [(itL, 1)], [⟨99, newL, [], 2⟩, ⟨114, newL, itL, 0⟩], 67108864, ops, left, false⟩ : FSt).syncDir =
    (0, ⟨[swF old, swF fresh], [(itL, 2)], [(itL, 2)], [], 67108864, ops + 1, leftN left, offN left false⟩) := by
  simp [FSt.syncDir, counts_eq]
/-- Where the power is off, nothing turns. -/
theorem off_create {s : FSt} (h : s.off = true) (a : List UInt8) : (s.create a).1 = 0 ∧ (s.create a).2.2 = s := by simp [FSt.create, FSt.named1, h]
theorem off_append {s : FSt} (h : s.off = true) (n : Int) (p : List UInt8) : (s.append n p).2 = s := by simp [FSt.append, FSt.there, h]
theorem off_sync {s : FSt} (h : s.off = true) (n : Int) : (s.sync n).2 = s := by simp [FSt.sync, FSt.there, h]
theorem off_rename {s : FSt} (h : s.off = true) (a b : List UInt8) : (s.rename a b).2 = s := by simp [FSt.rename, FSt.named2, h]
theorem off_syncDir {s : FSt} (h : s.off = true) : s.syncDir.2 = s := by simp [FSt.syncDir, h]
theorem crash_swF (old : List UInt8) (t : TornS) : (swF old).crash t = swF old := by
  simp [FileS.crash, swF, doneAll]
/-- What is seen behind the crash: P. -/
def Seen (s : FSt) (old fresh : List UInt8) (dir : Int) (l : List TornS) : Prop :=
  ((s.crash dir l).opened itL).2 = 0 ∧ ((s.crash dir l).read ((s.crash dir l).opened itL).1 0 67108864).2 = 0 ∧
  ((s.off = true ∧ ((s.crash dir l).read ((s.crash dir l).opened itL).1 0 67108864).1 = old) ∨ ((s.crash dir l).read ((s.crash dir l).opened itL).1 0 67108864).1 = fresh)
theorem seen_old (F : List FileS) (S D : Dir) (M : List MoveS) (ops : Nat) (left : Int) (old fresh : List UInt8) (ho : old.length ≤ 20000) (dir : Int) (l : List TornS) (h : (movedAll S (M.take dir.toNat)).at_ itL = some 1) (h2 : (movedAll S (M.take dir.toNat)).any (fun e => ((e.2 : Nat) : Int) == 1) = true) :
    Seen ⟨swF old :: F, D, S, M, 67108864, ops, left, true⟩ old fresh dir l := by
  have hop : ((⟨swF old :: F, D, S, M, 67108864, ops, left, true⟩ : FSt).crash dir l).opened itL = (1, 0) := by
    simp [FSt.opened, FSt.crash, FSt.named1, it_name, h]
  have hrd : ((⟨swF old :: F, D, S, M, 67108864, ops, left, true⟩ : FSt).crash dir l).read 1 0 67108864 = (old, 0) := by
    have hth : ((⟨swF old :: F, D, S, M, 67108864, ops, left, true⟩ : FSt).crash dir l).there 1 = 0 := by
      simp only [FSt.there, FSt.crash, h2]; rfl
    have hfl : ((⟨swF old :: F, D, S, M, 67108864, ops, left, true⟩ : FSt).crash dir l).file 1 = swF old := by
      simp [FSt.file, FSt.crash, crash_swF]
    unfold FSt.read
    have e1 : ¬ ((0 : Int) < 0 ∨ ((swF old).data.length : Int) < 0 ∨ (67108864 : Int) < 0) := by omega
    rw [hth, show (1 : Int).toNat = 1 from rfl, hfl, if_neg (by simp), if_neg e1]
    show (List.take (Int.toNat 67108864) (List.drop (Int.toNat 0) old), (0 : Int)) = _
    simp only [Int.toNat_zero, List.drop_zero]
    rw [List.take_of_length_le (by show old.length ≤ 67108864; omega)]
  unfold Seen
  rw [hop, hrd]
  exact ⟨rfl, rfl, .inl ⟨rfl, rfl⟩⟩
theorem seen_new (F1 : FileS) (S D : Dir) (M : List MoveS) (ops : Nat) (left : Int) (off : Bool) (old fresh : List UInt8) (hf : fresh.length ≤ 20000) (dir : Int) (l : List TornS) (h : (movedAll S (M.take dir.toNat)).at_ itL = some 2) (h2 : (movedAll S (M.take dir.toNat)).any (fun e => ((e.2 : Nat) : Int) == 2) = true) :
    Seen ⟨[F1, swF fresh], D, S, M, 67108864, ops, left, off⟩ old fresh dir l := by
  have hop : ((⟨[F1, swF fresh], D, S, M, 67108864, ops, left, off⟩ : FSt).crash dir l).opened itL = (2, 0) := by
    simp [FSt.opened, FSt.crash, FSt.named1, it_name, h]
  have hrd : ((⟨[F1, swF fresh], D, S, M, 67108864, ops, left, off⟩ : FSt).crash dir l).read 2 0 67108864 = (fresh, 0) := by
    have hth : ((⟨[F1, swF fresh], D, S, M, 67108864, ops, left, off⟩ : FSt).crash dir l).there 2 = 0 := by
      simp only [FSt.there, FSt.crash, h2]; rfl
    have hfl : ((⟨[F1, swF fresh], D, S, M, 67108864, ops, left, off⟩ : FSt).crash dir l).file 2 = swF fresh := by
      simp [FSt.file, FSt.crash, crash_swF]
    unfold FSt.read
    have e1 : ¬ ((0 : Int) < 0 ∨ ((swF fresh).data.length : Int) < 0 ∨ (67108864 : Int) < 0) := by omega
    rw [hth, show (2 : Int).toNat = 2 from rfl, hfl, if_neg (by simp), if_neg e1]
    show (List.take (Int.toNat 67108864) (List.drop (Int.toNat 0) fresh), (0 : Int)) = _
    simp only [Int.toNat_zero, List.drop_zero]
    rw [List.take_of_length_le (by show fresh.length ≤ 67108864; omega)]
  unfold Seen
  rw [hop, hrd]
  exact ⟨rfl, rfl, .inr rfl⟩
theorem take_cases {α : Type} (l : List α) (n : Nat) (h : l.length = 2) : l.take n = [] ∨ l.take n = l.take 1 ∨ l.take n = l := by
  rcases n with _ | _ | n
  · exact .inl rfl
  · exact .inr (.inl rfl)
  · exact .inr (.inr (List.take_of_length_le (by omega)))
theorem take_one_cases {α : Type} (x : α) (n : Nat) : [x].take n = [] ∨ [x].take n = [x] := by
  rcases n with _ | n
  · exact .inl rfl
  · exact .inr (by simp)
/-- The whole change. -/
def swEnd (s : FSt) (fresh : List UInt8) : FSt := ((((((s.create newL).2.2.append (s.create newL).1 fresh).2).sync (s.create newL).1).2.rename newL itL).2.syncDir).2
theorem off_end {s : FSt} (h : s.off = true) (fresh : List UInt8) : swEnd s fresh = s := by
  unfold swEnd
  rw [(off_create h _).2, off_append h, off_sync h, off_rename h, off_syncDir h]
theorem switch_plain (old fresh : List UInt8) (ho : old.length ≤ 20000) (hf : fresh.length ≤ 20000) (ops : Nat) (left : Int) (off : Bool) (dir : Int) (l : List TornS) : Seen (swEnd (swS old ops left off) fresh) old fresh dir l := by
  have hA : movedAll [(itL, 1)] [⟨99, newL, [], 2⟩] = [(itL, 1), (newL, 2)] := by simp [movedAll, moved]
  have h2 : (newL = itL) = False := by simp [newL, itL]
  have hB : movedAll [(itL, 1)] [⟨99, newL, [], 2⟩, ⟨114, newL, itL, 0⟩] = [(itL, 2)] := by
    have h3 : (itL = newL) = False := by simp [newL, itL]
    simp [movedAll, moved, Dir.at_, List.lookup, it_ne, Dir.less, h2, h3]
  have l1 : Dir.at_ [(itL, 1)] itL = some 1 := by simp [Dir.at_, List.lookup]
  have l2 : Dir.at_ [(itL, 1), (newL, 2)] itL = some 1 := by simp [Dir.at_, List.lookup]
  have l3 : Dir.at_ [(itL, 2)] itL = some 2 := by simp [Dir.at_, List.lookup]
  cases off with
  | true =>
    rw [off_end rfl]
    exact seen_old [] _ _ _ _ _ old fresh ho dir l (by rw [List.take_nil]; exact l1) (by rw [List.take_nil]; simp [movedAll])
  | false =>
    unfold swEnd
    rw [sw1]
    dsimp only
    cases h1 : offN left false with
    | true =>
      rw [off_append rfl, off_sync rfl, off_rename rfl, off_syncDir rfl]
      refine seen_old _ _ _ _ _ _ old fresh ho dir l ?_ ?_
      all_goals (rcases take_one_cases (⟨99, newL, [], 2⟩ : MoveS) dir.toNat with e | e <;> rw [e])
      · exact l1
      · rw [hA]; exact l2
      · simp [movedAll]
      · rw [hA]; simp
    | false =>
      rw [sw2 _ _ ho hf]
      dsimp only
      cases h1 : offN (leftN left) false with
      | true =>
        rw [off_sync rfl, off_rename rfl, off_syncDir rfl]
        refine seen_old _ _ _ _ _ _ old fresh ho dir l ?_ ?_
        all_goals (rcases take_one_cases (⟨99, newL, [], 2⟩ : MoveS) dir.toNat with e | e <;> rw [e])
        · exact l1
        · rw [hA]; exact l2
        · simp [movedAll]
        · rw [hA]; simp
      | false =>
        rw [sw3]
        dsimp only
        cases h1 : offN (leftN (leftN left)) false with
        | true =>
          rw [off_rename rfl, off_syncDir rfl]
          refine seen_old _ _ _ _ _ _ old fresh ho dir l ?_ ?_
          all_goals (rcases take_one_cases (⟨99, newL, [], 2⟩ : MoveS) dir.toNat with e | e <;> rw [e])
          · exact l1
          · rw [hA]; exact l2
          · simp [movedAll]
          · rw [hA]; simp
        | false =>
          rw [sw4]
          dsimp only
          cases h1 : offN (leftN (leftN (leftN left))) false with
          | true =>
            rw [off_syncDir rfl]
            rcases take_cases ([⟨99, newL, [], 2⟩, ⟨114, newL, itL, 0⟩] : List MoveS) dir.toNat rfl with e | e | e
            · exact seen_old _ _ _ _ _ _ old fresh ho dir l (by rw [e]; exact l1) (by rw [e]; simp [movedAll])
            · exact seen_old _ _ _ _ _ _ old fresh ho dir l (by rw [e]; show Dir.at_ (movedAll [(itL, 1)] [⟨99, newL, [], 2⟩]) itL = some 1; rw [hA]; exact l2) (by rw [e]; show List.any (movedAll [(itL, 1)] [⟨99, newL, [], 2⟩]) _ = true; rw [hA]; simp)
            · exact seen_new _ _ _ _ _ _ _ old fresh hf dir l (by rw [e, hB]; exact l3) (by rw [e, hB]; simp)
          | false =>
            rw [sw5]
            exact seen_new _ _ _ _ _ _ _ old fresh hf dir l (by rw [List.take_nil]; exact l3) (by rw [List.take_nil]; simp [movedAll])
end Go.Proofs.YtdjamijbhaplgaaGreat
