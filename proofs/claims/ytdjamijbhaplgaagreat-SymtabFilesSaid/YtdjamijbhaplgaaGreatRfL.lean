/- The document's file system: Write. -/
import Derived.Test.YtdjamijbhaplgaaGreatGkau
import Derived.Test.YtdjamijbhaplgaaGreatGkal
namespace Go.Proofs.YtdjamijbhaplgaaGreat
open Go.RowKit Go.Maps Go.Lib

theorem infoRDone : (Tryz.prog.info? 105).map (fun i => (i.zero, i.size, i.bytes)) = some (some (.agg #[.bool false, .int .i64 0, .string ⟨#[]⟩]), 3, 32) := by kernel_rfl
theorem used_le (s : FSt) (N : Nat) (inv : Inv N s) : s.used ≤ 274877906944 := by
  have h2 := sumOff_le s.D (fun _ => false) (fun n => (s.file n).data.length) 67108864 inv.files.small
  rw [sumOff_none _ _ _ (fun _ => rfl)] at h2
  have h3 := inv.ok.len
  have h4 : s.used = (s.D.map fun e => (s.file e.2).data.length).sum := rfl
  omega
set_option maxHeartbeats 8000000 in
set_option maxRecDepth 100000 in
theorem rwrite_fs (w : World) (m : RMem) (s : FSt) (N : Nat) (h : IsRS w m s) (inv : Inv N s) (hN : N ≤ 900000000) (n pos : Int) (hp0 : -9223372036854775808 ≤ pos) (hp1 : pos ≤ 9223372036854775807) (q : List UInt8) (hql : q.length ≤ 70368744177664) :
    Calls Tryz.prog 40 #[.pointer (some ⟨m.b, 0, none⟩), .int .i64 n, .int .i64 pos, .string (sOf q)] w fun e w' => e = .returned (.int .i64 (s.write n pos q).1) ∧ RsTo w m (s.write n pos q).2 w' := by
  have hDl := inv.ok.len
  have hol := inv.lim.ops
  have hFl := inv.lim.files
  have HI := Sd.mk inv
  have H := Sd.mk h
  have sq := sOf_size q
  obtain ⟨R, hR⟩ : ∃ R, R = s.write n pos q := ⟨_, rfl⟩
  rw [← hR]
  have HR := Sd.mk hR
  clear hR
  by_cases ht : s.there n = 0
  case neg =>
    have hb : (s.there n != 0) = true := by simpa using ht
    have HFIN : Sd (R = (s.there n, s)) := ⟨by rw [HR.o]; unfold FSt.write; rw [if_pos ht]⟩
    have HTH := Sd.mk (rthere_no w m s h (by omega) n ht)
    generalize s.there n = t at *
    clear h inv ht HR
    go_enter Tryz.func40, Tryz.ntmps40
    go_wp2_with (go_at_call 39; refine HTH.o.mono ?_; rintro e w1 ⟨rfl, hk⟩; have HK1 := Sd.mk hk; clear hk)
    go_ret
    exact ⟨by rw [HFIN.o]; rfl, by rw [HFIN.o]; exact RsTo.same H.o HK1.o⟩
  obtain ⟨k, hk, rfl, hx⟩ := h.fileAt inv.ok (there_any ht).2
  rw [show ((k : Int) + 1).toNat = k + 1 by omega] at hx
  have HX := Sd.mk hx
  have hkF : k < s.F.length := by rw [← h.len]; exact hk
  have HTH := Sd.mk (rthere_ok w m s h (by omega) k hk (by omega) ht)
  have HLB : Sd ((s.file (k + 1)).log.length ≤ 900000000) := ⟨Nat.le_trans (inv.lim.log (k + 1)) hN⟩
  have hsm := inv.files.small (k + 1)
  have hcap := inv.ok.cap
  have hus := used_le s N inv
  have HOL : Sd (s.ops ≤ 4611686018427387904) := ⟨by omega⟩
  have HLF := Sd.mk inv.ok.left
  obtain ⟨len, hlen⟩ : ∃ len, len = (s.file (k + 1)).data.length := ⟨_, rfl⟩
  have HW : Sd (R = if pos < 0 ∨ (len : Int) < pos then (2, s) else if 0 < pos + q.length - (len : Int) ∧ s.cap - s.used < pos + q.length - (len : Int) then (5, s) else (0, s.does (k + 1) ⟨false, pos.toNat, q⟩)) := ⟨by
    rw [HR.o]
    unfold FSt.write
    rw [if_neg (by rw [ht]; decide), show ((k : Int) + 1).toNat = k + 1 by omega, ← hlen]⟩
  have hLEN : (sOf (s.file (k + 1)).data).size = len := by rw [sOf_size, hlen]
  rw [← hlen] at hsm
  have HLEN := Sd.mk hlen
  clear h inv ht HR hx hlen
  go_enter Tryz.func40, Tryz.ntmps40
  go_upto_region 4 with (go_at_call 39; refine HTH.o.mono ?_; rintro e w1 ⟨rfl, hk⟩; have HK1 := Sd.mk hk; clear hk)
  have H1 := Sd.mk (H.o.kept HK1.o)
  have hfile := H1.o.file k hk
  rw [HX.o] at hfile
  have cd := hfile.c.2.2.2
  clear hfile HTH
  by_cases hneg : pos < 0
  · have HFIN : Sd (R = (2, s)) := ⟨by rw [HW.o, if_pos (.inl hneg)]⟩
    go_wp2_with fail
    go_ret
    exact ⟨by rw [HFIN.o]; rfl, by rw [HFIN.o]; exact RsTo.same H.o HK1.o⟩
  obtain ⟨pn, rfl⟩ := Int.eq_ofNat_of_zero_le (Int.not_lt.1 hneg)
  by_cases hbig : (len : Int) < pn
  · have HFIN : Sd (R = (2, s)) := ⟨by rw [HW.o, if_pos (.inr hbig)]⟩
    go_wp2_with fail
    go_ret
    exact ⟨by rw [HFIN.o]; rfl, by rw [HFIN.o]; exact RsTo.same H.o HK1.o⟩
  have HW2 : Sd (R = if 0 < (pn : Int) + q.length - (len : Int) ∧ s.cap - s.used < (pn : Int) + q.length - (len : Int) then (5, s) else (0, s.does (k + 1) ⟨false, pn, q⟩)) := ⟨by
    rw [HW.o, if_neg (by omega), Int.toNat_natCast]⟩
  obtain ⟨gr, hgr⟩ : ∃ gr : Int, gr = max ((pn : Int) + (q.length : Int) - (len : Int)) 0 := ⟨_, rfl⟩
  have HGR := Sd.mk hgr
  have HU : Sd (∀ x : After w1, Calls Tryz.prog 82 #[.pointer (some ⟨m.b, 0, none⟩)] x.w fun e w' => e = .returned (.int .i64 (s.used : Nat)) ∧ Keeps NoB x.w w') := ⟨fun x => rused_fs x.w m s (H1.o.kept x.k) HI.o.ok HI.o.files (by omega)⟩
  have hpl : pn ≤ len := by omega
  obtain ⟨D0, hD0⟩ : ∃ D0 : DoneS, D0 = ⟨false, pn, q⟩ := ⟨_, rfl⟩
  have HD0 := Sd.mk hD0
  have HDN : Sd (∀ (X : FileS) (_ : X = s.file (k + 1)) (wx : World), Calls Tryz.prog 36 #[.string (sOf X.data), .agg #[.bool false, .int .i64 (pn : Nat), .string (sOf q)], .int .i64 (q.length : Nat)] wx fun e w' => e = .returned (.string (sOf (doneOn X.data D0))) ∧ Keeps NoB wx w') := ⟨fun X hX wx => by
    have h9 : X.data.length = len := by rw [hX, HLEN.o]
    have := rdone_any wx X.data ⟨false, pn, q⟩ q.length (by rw [h9]; omega) hql (by rw [h9]; exact hpl) (Nat.le_refl _)
    dsimp only at this
    rw [List.take_length] at this
    rw [hD0]
    exact this⟩
  have c4 := H1.o.c.2.2.2.2.1
  have c4x : ∀ x : After w1, x.w.cell? ⟨m.b, 4, none⟩ = some (.int .i64 s.cap) := fun x => x.cell c4
  have hgl : 0 ≤ gr ∧ gr ≤ 140737488355328 := by omega
  have HLQ : Sd (q.length ≤ 70368744177664) := ⟨hql⟩
  clear hgr hD0 HW hneg hbig
  go_upto_region 6 with fail
  go_cut [11] (fun sx wx => sx = .int .i64 gr ∧ Sd (w1 = wx))
  case first =>
    go_wp2_with fail
    go_meet
    exact ⟨by rw [HGR.o], ⟨rfl⟩⟩
  obtain ⟨rfl, ⟨rfl⟩⟩ := hcut
  have hgl0 := hgl.1
  by_cases g1 : 0 < gr
  case neg =>
    have hb1 : decide (0 < gr) = false := by simpa using g1
    have HFIN : Sd (R = (0, s.does (k + 1) D0)) := ⟨by
      rw [HW2.o, if_neg (fun h => by have := HGR.o; omega), HD0.o]⟩
    clear HW2
    go_upto_region 7 with fail
    refine wp_region_after w1 (Keeps.refl _ _) (by kernel_rfl) (by kernel_rfl) ?_
    repeat (go_big_quiet_step (fail))
    refine wpQuiet_nil ?_
    rintro _ ⟨x, rfl⟩
    go_upto_region 10 with fail
    obtain ⟨W9, hW9⟩ : ∃ W9, W9 = x.w.alloc (.cells #[.bool false, .int .i64 (pn : Nat), .string (sOf q)] 105) := ⟨_, rfl⟩
    rw [← hW9]
    have hsz9 : W9.heap.size = x.w.heap.size + 1 := by rw [hW9]; exact heap_size_alloc _ _
    have hgd : W9.heap[x.w.heap.size]? = some (.cells #[.bool false, .int .i64 (pn : Nat), .string (sOf q)] 105 (0, 0)) := by rw [hW9]; exact heap_alloc_new _ _
    have HK9 : Sd (Keeps NoB w1 W9) := ⟨by rw [hW9]; exact x.k.alloc _⟩
    have H9 := Sd.mk (H1.o.kept HK9.o)
    have hf9 := H9.o.file k hk
    rw [HX.o] at hf9
    have HF9 := Sd.mk hf9
    have hlv9 := hf9.log
    obtain ⟨gd, hgd2⟩ : ∃ gd, gd = x.w.heap.size := ⟨_, rfl⟩
    rw [← hgd2] at hgd hsz9 ⊢
    have HGD := Sd.mk hgd
    have p2 : W9.cell? ⟨(m.fs[k]).fb, 2, none⟩ = some (m.fs[k]).lv := blk_cell hf9.blk 2
    have f2 := blk_frozen hf9.blk 2
    have q0 : W9.cell? ⟨gd, 0, none⟩ = some (.bool false) := blk_cell hgd 0
    have q1 : W9.cell? ⟨gd, 1, none⟩ = some (.int .i64 (pn : Nat)) := blk_cell hgd 1
    have q2 : W9.cell? ⟨gd, 2, none⟩ = some (.string (sOf q)) := blk_cell hgd 2
    have HLL : Sd ((s.file (k + 1)).log.length ≤ 900000000) := ⟨HLB.o⟩
    have hll := HLL.o
    have hgf : (m.fs[k]).fb ≠ gd := fun e => by
      have h1 := knd_cells hf9.blk
      rw [e, knd_cells hgd] at h1
      exact absurd h1 (by decide)
    have hlvb : ∀ i, (m.fs[k]).lv.ownBlock = some i → i ≠ (m.fs[k]).fb ∧ i ≠ gd := fun i hi => by
      have h1 := OwnW.knd hlv9 hi
      have h9 : i < x.w.heap.size := ((H1.o.kept x.k).file k hk).lt i (.inr hi)
      refine ⟨fun e => ?_, fun e => by omega⟩
      rw [e, knd_cells hf9.blk] at h1
      exact absurd h1 (by decide)
    have hfb9 : (m.fs[k]).fb < W9.heap.size := (Array.getElem?_eq_some_iff.1 hf9.blk).1
    have HLV := Sd.mk hlvb
    have HGF := Sd.mk hgf
    have HFN : Sd ((m.fs[k]).O = (m.fs[k]).O) := ⟨rfl⟩
    clear hf9 hlv9 hgd hlvb hgf hW9 hgd2 hsz9
    obtain ⟨fb, hfb⟩ : ∃ fb, fb = (m.fs[k]).fb := ⟨_, rfl⟩
    obtain ⟨lv, hlv⟩ : ∃ lv, lv = (m.fs[k]).lv := ⟨_, rfl⟩
    have HEQ := Sd.mk (And.intro hfb hlv)
    have hfbk := HF9.o.blk
    have hlgk := HF9.o.log
    rw [← hlv, ← hfb] at hfbk
    rw [← hlv] at hlgk
    have HFB := Sd.mk hfbk
    have HLG := Sd.mk hlgk
    have HLV2 : Sd (∀ i, lv.ownBlock = some i → i ≠ fb ∧ i ≠ gd) := ⟨by rw [hfb, hlv]; exact HLV.o⟩
    have hgf2 : fb ≠ gd := by rw [hfb]; exact HGF.o
    rw [← hfb, ← hlv] at p2
    rw [← hfb] at f2 hfb9
    rw [← hfb]
    clear hfb hlv hfbk hlgk HLV HGF
    obtain ⟨X, hX⟩ : ∃ X, X = s.file (k + 1) := ⟨_, rfl⟩
    have HXE := Sd.mk hX
    rw [← hX] at HFB HLG hll hLEN
    clear hX
    go_upto_region 10 with fail
    go_cut [67] (fun sx wx => ∃ A' c', sx = .slice A' (X.log.length + 1) c' ∧ Sd (wx.heap[fb]? = some (.cells #[.int .i64 ((k + 1 : Nat) : Int), .string (sOf X.safe), .slice A' (X.log.length + 1) c', .string (sOf X.data)] 102 (0, 0))) ∧
      Sd (RLogV wx (.slice A' (X.log.length + 1) c') (X.log ++ [D0])) ∧ Sd (Grew W9 lv (.slice A' (X.log.length + 1) c')) ∧ Sd (Keeps (fun i => i = fb ∨ lv.ownBlock = some i) W9 wx))
    case first =>
      have p2' : (W9.alloc (.cells #[.bool false, .int .i64 (pn : Nat), .string (sOf q)] 105)).cell? ⟨fb, 2, none⟩ = some lv := ((Keeps.refl NoB W9).alloc _).cell p2 (fun f => f)
      go_region_law
        (refine step_app_w rfl _ _ 100 105 _ 3 32 rfl Tryz.underlying100 infoRDone rfl (by decide) lv X.log.length (X.log.flatMap doneCells) rfl (OwnW.keeps HLG.o ((Keeps.refl NoB W9).drew.alloc _) (fun _ _ f => f)) ⟨W9.heap.size, 0, none⟩ 1 1 [.bool false, .int .i64 (pn : Nat), .string (sOf q)] rfl rfl (cells_new W9.drew _ _) (by intro u hu; simp at hu; rcases hu with rfl | rfl | rfl <;> rfl) (by omega) (by omega) ?_
         intro A6 c6 w6 hO6 hK6 hG6
         have HO6 := Sd.mk hO6
         have HK6 : Sd (Keeps (ownB lv) W9 w6) := ⟨((Keeps.refl (ownB lv) W9).drew.alloc _).trans hK6 (fun _ _ f => f) (fun _ _ f => f)⟩
         have HG6 : Sd (Grew W9 lv (.slice A6 (X.log.length + 1) c6)) := ⟨fun i hi => (hG6 i hi).imp id (fun h => by simp at h; omega)⟩
         have hb6 : w6.heap[fb]? = _ := HK6.o.obj HFB.o (fun f => (HLV2.o _ f).1 rfl)
         have f26 := blk_frozen hb6 2
         have p26 : w6.cell? ⟨fb, 2, none⟩ = some lv := blk_cell hb6 2
         have HB6 := Sd.mk hb6
         have kbb := knd_cells hb6
         clear hO6 hK6 hG6 hb6)
      all_goals (
        go_wp2_with fail
        go_meet
        refine ⟨A6, c6, rfl, ⟨blk_set HB6.o 2 _⟩, ⟨?_⟩, HG6, ⟨?_⟩⟩
        · have e1 : (X.log ++ [D0]).flatMap doneCells = X.log.flatMap doneCells ++ [.bool false, .int .i64 (pn : Nat), .string (sOf q)] := by rw [List.flatMap_append, HD0.o]; simp [doneCells]
          have e2 : (X.log ++ [D0]).length = X.log.length + 1 := by simp
          unfold RLogV
          rw [e1, e2]
          refine OwnW.keeps (F := OneB fb) HO6.o ((Keeps.refl (OneB fb) w6).setCell ⟨fb, 2, none⟩ _ (fun _ => rfl)) (fun i hi f => ?_)
          cases f
          rw [OwnW.knd HO6.o hi] at kbb
          cases kbb
        · exact HK6.o.trans ((Keeps.refl (OneB fb) w6).setCell ⟨fb, 2, none⟩ _ (fun _ => rfl)) (fun _ _ f => .inr f) (fun _ _ f => .inl f))
    obtain ⟨A6, c6, rfl, HB7, HO7, HG7, HK7⟩ := hcut
    obtain ⟨w7, hw7⟩ : ∃ w7, w7 = wc := ⟨_, rfl⟩
    subst hw7
    have hgm7 : w7.heap[gd]? = _ := HK7.o.obj HGD.o (fun f => by
      rcases f with f | f
      · exact hgf2 f.symm
      · exact (HLV2.o _ f).2 rfl)
    clear q0 q1 q2 p2 f2
    have q0 : w7.cell? ⟨gd, 0, none⟩ = some (.bool false) := blk_cell hgm7 0
    have q1 : w7.cell? ⟨gd, 1, none⟩ = some (.int .i64 (pn : Nat)) := blk_cell hgm7 1
    have q2 : w7.cell? ⟨gd, 2, none⟩ = some (.string (sOf q)) := blk_cell hgm7 2
    have p3 : w7.cell? ⟨fb, 3, none⟩ = some (.string (sOf X.data)) := blk_cell HB7.o 3
    have f3 := blk_frozen HB7.o 3
    clear hgm7
    have hfb7 : fb < w7.heap.size := Nat.lt_of_lt_of_le hfb9 HK7.o.size
    go_upto_region 11 with fail
    go_cut [78] (fun sx wx => sx = .string (sOf (doneOn X.data D0)) ∧ Sd (wx.heap[fb]? = some (.cells #[.int .i64 ((k + 1 : Nat) : Int), .string (sOf X.safe), .slice A6 (X.log.length + 1) c6, .string (sOf (doneOn X.data D0))] 102 (0, 0))) ∧ Sd (Keeps (OneB fb) w7 wx))
    case first =>
      go_region_law
        (go_simp; go_at_call 36
         refine (HDN.o X HXE.o _).mono ?_
         rintro e w8 ⟨rfl, hk8⟩
         have HK8 : Sd (Keeps NoB w7 w8) := ⟨hk8.undrew⟩
         have hb8 : w8.heap[fb]? = _ := HK8.o.obj HB7.o (fun f => f)
         have f38 := blk_frozen hb8 3
         have p38 : w8.cell? ⟨fb, 3, none⟩ = some (.string (sOf X.data)) := blk_cell hb8 3
         have HB8 := Sd.mk hb8
         clear hk8 hb8)
      all_goals (
        go_wp2_with fail
        go_meet
        exact ⟨rfl, ⟨blk_set HB8.o 3 _⟩, ⟨(HK8.o.mono (fun _ _ f => f.elim)).setCell ⟨fb, 3, none⟩ _ (fun _ => rfl)⟩⟩)
    obtain ⟨rfl, HB9, HK99⟩ := hcut
    obtain ⟨w9, hw9⟩ : ∃ w9, w9 = wc := ⟨_, rfl⟩
    subst hw9
    clear q0 q1 q2 p3 f3
    have hlog9 : RLogV w9 (.slice A6 (X.log.length + 1) c6) (X.log ++ [D0]) := OwnW.keeps HO7.o HK99.o (fun i hi f => by
      have h1 := OwnW.knd HO7.o hi
      have h2 : i = fb := f
      rw [h2, knd_cells HB7.o] at h1
      exact absurd h1 (by decide))
    have HRS : Sd (RsTo w m (s.setFile (k + 1) { s.file (k + 1) with log := (s.file (k + 1)).log ++ [D0], data := doneOn (s.file (k + 1)).data D0 }) w9) := ⟨RsTo.after (HK1.o.then HK9.o) (rs_setfile H9.o hk (lv' := .slice A6 (X.log.length + 1) c6) ⟨by
        rw [← HEQ.o.1, ← HXE.o]; exact HB9.o, by rw [← HXE.o]; exact hlog9⟩ (by
        rw [← HEQ.o.1, ← HEQ.o.2]; exact HK7.o.trans HK99.o (fun _ _ f => f) (fun _ _ f => .inl f)) (by rw [← HEQ.o.2]; exact HG7.o))⟩
    clear hlog9
    go_wp2_with (go_at_call 57; refine (rcounts_to w _ m _ HRS.o HOL.o HLF.o).mono ?_; rintro e w10 ⟨rfl, hr⟩; have HR10 := Sd.mk hr; clear hr)
    go_ret
    exact ⟨by rw [HFIN.o]; rfl, by rw [HFIN.o]; exact HR10.o⟩
  have hb1 : decide (0 < gr) = true := by simpa using g1
  by_cases g2 : s.cap < (s.used : Int) + gr
  · have hb2 : decide (s.cap < (s.used : Int) + gr) = true := by simpa using g2
    have HFIN : Sd (R = (5, s)) := ⟨by rw [HW2.o, if_pos ⟨by have := HGR.o; omega, by have := HGR.o; omega⟩]⟩
    go_upto_region 7 with fail
    refine wp_region_after w1 (Keeps.refl _ _) (by kernel_rfl) (by kernel_rfl) ?_
    repeat (go_big_quiet_step (first | (go_at_call 82; exact Calls.after (HU.o _))))
    refine wpQuiet_nil ?_
    rintro _ ⟨x, rfl⟩
    go_wp2_with fail
    go_ret
    exact ⟨by rw [HFIN.o]; rfl, by rw [HFIN.o]; exact RsTo.same H.o (HK1.o.then x.k)⟩
  · have hb2 : decide (s.cap < (s.used : Int) + gr) = false := by simpa using g2
    have HFIN : Sd (R = (0, s.does (k + 1) D0)) := ⟨by
      rw [HW2.o, if_neg (fun h => by have := HGR.o; omega), HD0.o]⟩
    clear HW2
    go_upto_region 7 with fail
    refine wp_region_after w1 (Keeps.refl _ _) (by kernel_rfl) (by kernel_rfl) ?_
    repeat (go_big_quiet_step (first | (go_at_call 82; exact Calls.after (HU.o _))))
    refine wpQuiet_nil ?_
    rintro _ ⟨x, rfl⟩
    go_upto_region 10 with fail
    obtain ⟨W9, hW9⟩ : ∃ W9, W9 = x.w.alloc (.cells #[.bool false, .int .i64 (pn : Nat), .string (sOf q)] 105) := ⟨_, rfl⟩
    rw [← hW9]
    have hsz9 : W9.heap.size = x.w.heap.size + 1 := by rw [hW9]; exact heap_size_alloc _ _
    have hgd : W9.heap[x.w.heap.size]? = some (.cells #[.bool false, .int .i64 (pn : Nat), .string (sOf q)] 105 (0, 0)) := by rw [hW9]; exact heap_alloc_new _ _
    have HK9 : Sd (Keeps NoB w1 W9) := ⟨by rw [hW9]; exact x.k.alloc _⟩
    have H9 := Sd.mk (H1.o.kept HK9.o)
    have hf9 := H9.o.file k hk
    rw [HX.o] at hf9
    have HF9 := Sd.mk hf9
    have hlv9 := hf9.log
    obtain ⟨gd, hgd2⟩ : ∃ gd, gd = x.w.heap.size := ⟨_, rfl⟩
    rw [← hgd2] at hgd hsz9 ⊢
    have HGD := Sd.mk hgd
    have p2 : W9.cell? ⟨(m.fs[k]).fb, 2, none⟩ = some (m.fs[k]).lv := blk_cell hf9.blk 2
    have f2 := blk_frozen hf9.blk 2
    have q0 : W9.cell? ⟨gd, 0, none⟩ = some (.bool false) := blk_cell hgd 0
    have q1 : W9.cell? ⟨gd, 1, none⟩ = some (.int .i64 (pn : Nat)) := blk_cell hgd 1
    have q2 : W9.cell? ⟨gd, 2, none⟩ = some (.string (sOf q)) := blk_cell hgd 2
    have HLL : Sd ((s.file (k + 1)).log.length ≤ 900000000) := ⟨HLB.o⟩
    have hll := HLL.o
    have hgf : (m.fs[k]).fb ≠ gd := fun e => by
      have h1 := knd_cells hf9.blk
      rw [e, knd_cells hgd] at h1
      exact absurd h1 (by decide)
    have hlvb : ∀ i, (m.fs[k]).lv.ownBlock = some i → i ≠ (m.fs[k]).fb ∧ i ≠ gd := fun i hi => by
      have h1 := OwnW.knd hlv9 hi
      have h9 : i < x.w.heap.size := ((H1.o.kept x.k).file k hk).lt i (.inr hi)
      refine ⟨fun e => ?_, fun e => by omega⟩
      rw [e, knd_cells hf9.blk] at h1
      exact absurd h1 (by decide)
    have hfb9 : (m.fs[k]).fb < W9.heap.size := (Array.getElem?_eq_some_iff.1 hf9.blk).1
    have HLV := Sd.mk hlvb
    have HGF := Sd.mk hgf
    have HFN : Sd ((m.fs[k]).O = (m.fs[k]).O) := ⟨rfl⟩
    clear hf9 hlv9 hgd hlvb hgf hW9 hgd2 hsz9
    obtain ⟨fb, hfb⟩ : ∃ fb, fb = (m.fs[k]).fb := ⟨_, rfl⟩
    obtain ⟨lv, hlv⟩ : ∃ lv, lv = (m.fs[k]).lv := ⟨_, rfl⟩
    have HEQ := Sd.mk (And.intro hfb hlv)
    have hfbk := HF9.o.blk
    have hlgk := HF9.o.log
    rw [← hlv, ← hfb] at hfbk
    rw [← hlv] at hlgk
    have HFB := Sd.mk hfbk
    have HLG := Sd.mk hlgk
    have HLV2 : Sd (∀ i, lv.ownBlock = some i → i ≠ fb ∧ i ≠ gd) := ⟨by rw [hfb, hlv]; exact HLV.o⟩
    have hgf2 : fb ≠ gd := by rw [hfb]; exact HGF.o
    rw [← hfb, ← hlv] at p2
    rw [← hfb] at f2 hfb9
    rw [← hfb]
    clear hfb hlv hfbk hlgk HLV HGF
    obtain ⟨X, hX⟩ : ∃ X, X = s.file (k + 1) := ⟨_, rfl⟩
    have HXE := Sd.mk hX
    rw [← hX] at HFB HLG hll hLEN
    clear hX
    go_upto_region 10 with fail
    go_cut [67] (fun sx wx => ∃ A' c', sx = .slice A' (X.log.length + 1) c' ∧ Sd (wx.heap[fb]? = some (.cells #[.int .i64 ((k + 1 : Nat) : Int), .string (sOf X.safe), .slice A' (X.log.length + 1) c', .string (sOf X.data)] 102 (0, 0))) ∧
      Sd (RLogV wx (.slice A' (X.log.length + 1) c') (X.log ++ [D0])) ∧ Sd (Grew W9 lv (.slice A' (X.log.length + 1) c')) ∧ Sd (Keeps (fun i => i = fb ∨ lv.ownBlock = some i) W9 wx))
    case first =>
      have p2' : (W9.alloc (.cells #[.bool false, .int .i64 (pn : Nat), .string (sOf q)] 105)).cell? ⟨fb, 2, none⟩ = some lv := ((Keeps.refl NoB W9).alloc _).cell p2 (fun f => f)
      go_region_law
        (refine step_app_w rfl _ _ 100 105 _ 3 32 rfl Tryz.underlying100 infoRDone rfl (by decide) lv X.log.length (X.log.flatMap doneCells) rfl (OwnW.keeps HLG.o ((Keeps.refl NoB W9).drew.alloc _) (fun _ _ f => f)) ⟨W9.heap.size, 0, none⟩ 1 1 [.bool false, .int .i64 (pn : Nat), .string (sOf q)] rfl rfl (cells_new W9.drew _ _) (by intro u hu; simp at hu; rcases hu with rfl | rfl | rfl <;> rfl) (by omega) (by omega) ?_
         intro A6 c6 w6 hO6 hK6 hG6
         have HO6 := Sd.mk hO6
         have HK6 : Sd (Keeps (ownB lv) W9 w6) := ⟨((Keeps.refl (ownB lv) W9).drew.alloc _).trans hK6 (fun _ _ f => f) (fun _ _ f => f)⟩
         have HG6 : Sd (Grew W9 lv (.slice A6 (X.log.length + 1) c6)) := ⟨fun i hi => (hG6 i hi).imp id (fun h => by simp at h; omega)⟩
         have hb6 : w6.heap[fb]? = _ := HK6.o.obj HFB.o (fun f => (HLV2.o _ f).1 rfl)
         have f26 := blk_frozen hb6 2
         have p26 : w6.cell? ⟨fb, 2, none⟩ = some lv := blk_cell hb6 2
         have HB6 := Sd.mk hb6
         have kbb := knd_cells hb6
         clear hO6 hK6 hG6 hb6)
      all_goals (
        go_wp2_with fail
        go_meet
        refine ⟨A6, c6, rfl, ⟨blk_set HB6.o 2 _⟩, ⟨?_⟩, HG6, ⟨?_⟩⟩
        · have e1 : (X.log ++ [D0]).flatMap doneCells = X.log.flatMap doneCells ++ [.bool false, .int .i64 (pn : Nat), .string (sOf q)] := by rw [List.flatMap_append, HD0.o]; simp [doneCells]
          have e2 : (X.log ++ [D0]).length = X.log.length + 1 := by simp
          unfold RLogV
          rw [e1, e2]
          refine OwnW.keeps (F := OneB fb) HO6.o ((Keeps.refl (OneB fb) w6).setCell ⟨fb, 2, none⟩ _ (fun _ => rfl)) (fun i hi f => ?_)
          cases f
          rw [OwnW.knd HO6.o hi] at kbb
          cases kbb
        · exact HK6.o.trans ((Keeps.refl (OneB fb) w6).setCell ⟨fb, 2, none⟩ _ (fun _ => rfl)) (fun _ _ f => .inr f) (fun _ _ f => .inl f))
    obtain ⟨A6, c6, rfl, HB7, HO7, HG7, HK7⟩ := hcut
    obtain ⟨w7, hw7⟩ : ∃ w7, w7 = wc := ⟨_, rfl⟩
    subst hw7
    have hgm7 : w7.heap[gd]? = _ := HK7.o.obj HGD.o (fun f => by
      rcases f with f | f
      · exact hgf2 f.symm
      · exact (HLV2.o _ f).2 rfl)
    clear q0 q1 q2 p2 f2
    have q0 : w7.cell? ⟨gd, 0, none⟩ = some (.bool false) := blk_cell hgm7 0
    have q1 : w7.cell? ⟨gd, 1, none⟩ = some (.int .i64 (pn : Nat)) := blk_cell hgm7 1
    have q2 : w7.cell? ⟨gd, 2, none⟩ = some (.string (sOf q)) := blk_cell hgm7 2
    have p3 : w7.cell? ⟨fb, 3, none⟩ = some (.string (sOf X.data)) := blk_cell HB7.o 3
    have f3 := blk_frozen HB7.o 3
    clear hgm7
    have hfb7 : fb < w7.heap.size := Nat.lt_of_lt_of_le hfb9 HK7.o.size
    go_upto_region 11 with fail
    go_cut [78] (fun sx wx => sx = .string (sOf (doneOn X.data D0)) ∧ Sd (wx.heap[fb]? = some (.cells #[.int .i64 ((k + 1 : Nat) : Int), .string (sOf X.safe), .slice A6 (X.log.length + 1) c6, .string (sOf (doneOn X.data D0))] 102 (0, 0))) ∧ Sd (Keeps (OneB fb) w7 wx))
    case first =>
      go_region_law
        (go_simp; go_at_call 36
         refine (HDN.o X HXE.o _).mono ?_
         rintro e w8 ⟨rfl, hk8⟩
         have HK8 : Sd (Keeps NoB w7 w8) := ⟨hk8.undrew⟩
         have hb8 : w8.heap[fb]? = _ := HK8.o.obj HB7.o (fun f => f)
         have f38 := blk_frozen hb8 3
         have p38 : w8.cell? ⟨fb, 3, none⟩ = some (.string (sOf X.data)) := blk_cell hb8 3
         have HB8 := Sd.mk hb8
         clear hk8 hb8)
      all_goals (
        go_wp2_with fail
        go_meet
        exact ⟨rfl, ⟨blk_set HB8.o 3 _⟩, ⟨(HK8.o.mono (fun _ _ f => f.elim)).setCell ⟨fb, 3, none⟩ _ (fun _ => rfl)⟩⟩)
    obtain ⟨rfl, HB9, HK99⟩ := hcut
    obtain ⟨w9, hw9⟩ : ∃ w9, w9 = wc := ⟨_, rfl⟩
    subst hw9
    clear q0 q1 q2 p3 f3
    have hlog9 : RLogV w9 (.slice A6 (X.log.length + 1) c6) (X.log ++ [D0]) := OwnW.keeps HO7.o HK99.o (fun i hi f => by
      have h1 := OwnW.knd HO7.o hi
      have h2 : i = fb := f
      rw [h2, knd_cells HB7.o] at h1
      exact absurd h1 (by decide))
    have HRS : Sd (RsTo w m (s.setFile (k + 1) { s.file (k + 1) with log := (s.file (k + 1)).log ++ [D0], data := doneOn (s.file (k + 1)).data D0 }) w9) := ⟨RsTo.after (HK1.o.then HK9.o) (rs_setfile H9.o hk (lv' := .slice A6 (X.log.length + 1) c6) ⟨by
        rw [← HEQ.o.1, ← HXE.o]; exact HB9.o, by rw [← HXE.o]; exact hlog9⟩ (by
        rw [← HEQ.o.1, ← HEQ.o.2]; exact HK7.o.trans HK99.o (fun _ _ f => f) (fun _ _ f => .inl f)) (by rw [← HEQ.o.2]; exact HG7.o))⟩
    clear hlog9
    go_wp2_with (go_at_call 57; refine (rcounts_to w _ m _ HRS.o HOL.o HLF.o).mono ?_; rintro e w10 ⟨rfl, hr⟩; have HR10 := Sd.mk hr; clear hr)
    go_ret
    exact ⟨by rw [HFIN.o]; rfl, by rw [HFIN.o]; exact HR10.o⟩
end Go.Proofs.YtdjamijbhaplgaaGreat
