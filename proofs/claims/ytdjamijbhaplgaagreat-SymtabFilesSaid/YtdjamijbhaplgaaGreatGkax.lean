/- The document's file system: Cut, Append, Read, Sync, SyncDir. -/
import Derived.Test.YtdjamijbhaplgaaGreatRfL
import Derived.Test.YtdjamijbhaplgaaGreatGkas
import Derived.Test.YtdjamijbhaplgaaGreatGkao
namespace Go.Proofs.YtdjamijbhaplgaaGreat
open Go.RowKit Go.Maps Go.Lib

theorem rs_syncdir {w w2 : World} {m : RMem} {s : FSt} {A2 : Option Addr} {q2 : Nat} (h : IsRS w m s) (hO : OwnW w2 157 2 (.slice A2 s.D.length q2) s.D.length (s.D.flatMap entCells)) (hk : Keeps NoB w w2) (hf : Fresh w (.slice A2 s.D.length q2)) :
    RsTo w m { s with S := s.D, M := [] } ((w2.setCell ⟨m.b, 2, none⟩ (.slice A2 s.D.length q2)).setCell ⟨m.b, 3, none⟩ (.slice none 0 0)) := by
  have k6 : Keeps (OneB m.b) w2 ((w2.setCell ⟨m.b, 2, none⟩ (.slice A2 s.D.length q2)).setCell ⟨m.b, 3, none⟩ (.slice none 0 0)) := ((Keeps.refl (OneB m.b) w2).setCell ⟨m.b, 2, none⟩ _ (fun _ => rfl)).setCell ⟨m.b, 3, none⟩ _ (fun _ => rfl)
  have h2 := h.kept hk
  have hbl := RMem.lt h _ (.inl rfl)
  obtain ⟨p1, p2, p3, p4⟩ := h2.keepsK k6 (fun i f => .inl (by have : i = m.b := f; rw [this]; exact h2.kinds.1))
  refine ⟨⟨m.b, m.fs, m.fv, m.dv, .slice A2 s.D.length q2, .slice none 0 0⟩, rfl, ⟨(blk_set (blk_set h2.blk 2 _) 3 _).trans rfl, h.len, p1, p2, p3, ?_, rmovV_nil _, h.apart, fun k hk1 hk2 => ?_⟩, fun i hi => ?_, (hk.trans k6 (fun _ _ f => f.elim) (fun i _ f => .inl f))⟩
  · exact OwnW.keeps hO k6 (fun i hi f => by
      have := hf i hi
      have : i = m.b := f
      omega)
  · have := hf k hk2
    have := OwnW.lt h.names hk1
    omega
  · rcases hi with h1 | h1 | h1 | h1 | h1 | h1
    · exact .inl (.inl h1)
    · exact .inl (.inr (.inl h1))
    · exact .inl (.inr (.inr (.inl h1)))
    · exact .inr (hf i h1)
    · simp [Value.ownBlock] at h1
    · exact .inl (.inr (.inr (.inr (.inr (.inr h1)))))
set_option maxHeartbeats 8000000 in
set_option maxRecDepth 100000 in
theorem rcut_fs (w : World) (m : RMem) (s : FSt) (N : Nat) (h : IsRS w m s) (inv : Inv N s) (hN : N ≤ 900000000) (n size : Int) (hp0 : -9223372036854775808 ≤ size) (hp1 : size ≤ 9223372036854775807) :
    Calls Tryz.prog 54 #[.pointer (some ⟨m.b, 0, none⟩), .int .i64 n, .int .i64 size] w fun e w' => e = .returned (.int .i64 (s.cutAt n size).1) ∧ RsTo w m (s.cutAt n size).2 w' := by
  have hDl := inv.ok.len
  have hol := inv.lim.ops
  have hFl := inv.lim.files
  have H := Sd.mk h
  obtain ⟨R, hR⟩ : ∃ R, R = s.cutAt n size := ⟨_, rfl⟩
  rw [← hR]
  have HR := Sd.mk hR
  clear hR
  by_cases ht : s.there n = 0
  case neg =>
    have hb : (s.there n != 0) = true := by simpa using ht
    have HFIN : Sd (R = (s.there n, s)) := ⟨by rw [HR.o]; unfold FSt.cutAt; rw [if_pos ht]⟩
    have HTH := Sd.mk (rthere_no w m s h (by omega) n ht)
    generalize s.there n = t at *
    clear h inv ht HR
    go_enter Tryz.func54, Tryz.ntmps54
    go_wp2_with (go_at_call 39; refine HTH.o.mono ?_; rintro e w1 ⟨rfl, hk⟩; have HK1 := Sd.mk hk; clear hk)
    go_ret
    exact ⟨by rw [HFIN.o]; rfl, by rw [HFIN.o]; exact RsTo.same H.o HK1.o⟩
  obtain ⟨k, hk, rfl, hx⟩ := h.fileAt inv.ok (there_any ht).2
  rw [show ((k : Int) + 1).toNat = k + 1 by omega] at hx
  have HX := Sd.mk hx
  have hkF : k < s.F.length := by rw [← h.len]; exact hk
  have HTH := Sd.mk (rthere_ok w m s h (by omega) k hk (by omega) ht)
  have HLB : Sd ((s.file (k + 1)).log.length ≤ 900000000) := ⟨Nat.le_trans (inv.lim.log (k + 1)) hN⟩
  have hsm := inv.files.small (k + 1)
  have HOL : Sd (s.ops ≤ 4611686018427387904) := ⟨by omega⟩
  have HLF := Sd.mk inv.ok.left
  obtain ⟨len, hlen⟩ : ∃ len, len = (s.file (k + 1)).data.length := ⟨_, rfl⟩
  have HW : Sd (R = if size < 0 ∨ (len : Int) < size then (2, s) else (0, s.does (k + 1) ⟨true, size.toNat, []⟩)) := ⟨by
    rw [HR.o]
    unfold FSt.cutAt
    rw [if_neg (by rw [ht]; decide), show ((k : Int) + 1).toNat = k + 1 by omega, ← hlen]⟩
  have hLEN : (sOf (s.file (k + 1)).data).size = len := by rw [sOf_size, hlen]
  rw [← hlen] at hsm
  have HLEN := Sd.mk hlen
  clear h inv ht HR hx hlen
  go_enter Tryz.func54, Tryz.ntmps54
  go_upto_region 4 with (go_at_call 39; refine HTH.o.mono ?_; rintro e w1 ⟨rfl, hk⟩; have HK1 := Sd.mk hk; clear hk)
  have H1 := Sd.mk (H.o.kept HK1.o)
  have hfile := H1.o.file k hk
  rw [HX.o] at hfile
  have cd := hfile.c.2.2.2
  clear hfile HTH
  by_cases hneg : size < 0
  · have HFIN : Sd (R = (2, s)) := ⟨by rw [HW.o, if_pos (.inl hneg)]⟩
    go_wp2_with fail
    go_ret
    exact ⟨by rw [HFIN.o]; rfl, by rw [HFIN.o]; exact RsTo.same H.o HK1.o⟩
  obtain ⟨zn, rfl⟩ := Int.eq_ofNat_of_zero_le (Int.not_lt.1 hneg)
  by_cases hbig : (len : Int) < zn
  · have HFIN : Sd (R = (2, s)) := ⟨by rw [HW.o, if_pos (.inr hbig)]⟩
    go_wp2_with fail
    go_ret
    exact ⟨by rw [HFIN.o]; rfl, by rw [HFIN.o]; exact RsTo.same H.o HK1.o⟩
  have hpl : zn ≤ len := by omega
  obtain ⟨D0, hD0⟩ : ∃ D0 : DoneS, D0 = ⟨true, zn, []⟩ := ⟨_, rfl⟩
  have HD0 := Sd.mk hD0
  have HFIN : Sd (R = (0, s.does (k + 1) D0)) := ⟨by
    rw [HW.o, if_neg (by omega), Int.toNat_natCast, HD0.o]⟩
  have HDN : Sd (∀ (X : FileS) (_ : X = s.file (k + 1)) (wx : World), Calls Tryz.prog 36 #[.string (sOf X.data), .agg #[.bool true, .int .i64 (zn : Nat), .string ⟨#[]⟩], .int .i64 0] wx fun e w' => e = .returned (.string (sOf (doneOn X.data D0))) ∧ Keeps NoB wx w') := ⟨fun X hX wx => by
    have h9 : X.data.length = len := by rw [hX, HLEN.o]
    have := rdone_any wx X.data ⟨true, zn, []⟩ 0 (by rw [h9]; omega) (by simp) (by rw [h9]; exact hpl) (Nat.zero_le _)
    dsimp only at this
    rw [hD0]
    exact this⟩
  clear hD0 HW hneg hbig
  go_upto_region 7 with fail
  obtain ⟨W9, hW9⟩ : ∃ W9, W9 = w1.alloc (.cells #[.bool true, .int .i64 (zn : Nat), .string ⟨#[]⟩] 105) := ⟨_, rfl⟩
  rw [← hW9]
  have hsz9 : W9.heap.size = w1.heap.size + 1 := by rw [hW9]; exact heap_size_alloc _ _
  have hgd : W9.heap[w1.heap.size]? = some (.cells #[.bool true, .int .i64 (zn : Nat), .string ⟨#[]⟩] 105 (0, 0)) := by rw [hW9]; exact heap_alloc_new _ _
  have HK9 : Sd (Keeps NoB w1 W9) := ⟨by rw [hW9]; exact (Keeps.refl NoB w1).alloc _⟩
  have H9 := Sd.mk (H1.o.kept HK9.o)
  have hf9 := H9.o.file k hk
  rw [HX.o] at hf9
  have HF9 := Sd.mk hf9
  have hlv9 := hf9.log
  obtain ⟨gd, hgd2⟩ : ∃ gd, gd = w1.heap.size := ⟨_, rfl⟩
  rw [← hgd2] at hgd hsz9 ⊢
  have HGD := Sd.mk hgd
  have p2 : W9.cell? ⟨(m.fs[k]).fb, 2, none⟩ = some (m.fs[k]).lv := blk_cell hf9.blk 2
  have f2 := blk_frozen hf9.blk 2
  have q0 : W9.cell? ⟨gd, 0, none⟩ = some (.bool true) := blk_cell hgd 0
  have q1 : W9.cell? ⟨gd, 1, none⟩ = some (.int .i64 (zn : Nat)) := blk_cell hgd 1
  have q2 : W9.cell? ⟨gd, 2, none⟩ = some (.string ⟨#[]⟩) := blk_cell hgd 2
  have HLL : Sd ((s.file (k + 1)).log.length ≤ 900000000) := ⟨HLB.o⟩
  have hll := HLL.o
  have hgf : (m.fs[k]).fb ≠ gd := fun e => by
    have h1 := knd_cells hf9.blk
    rw [e, knd_cells hgd] at h1
    exact absurd h1 (by decide)
  have hlvb : ∀ i, (m.fs[k]).lv.ownBlock = some i → i ≠ (m.fs[k]).fb ∧ i ≠ gd := fun i hi => by
    have h1 := OwnW.knd hlv9 hi
    have h9 : i < w1.heap.size := ((H1.o.kept (Keeps.refl NoB w1)).file k hk).lt i (.inr hi)
    refine ⟨fun e => ?_, fun e => by omega⟩
    rw [e, knd_cells hf9.blk] at h1
    exact absurd h1 (by decide)
  have hfb9 : (m.fs[k]).fb < W9.heap.size := (Array.getElem?_eq_some_iff.1 hf9.blk).1
  have HLV := Sd.mk hlvb
  have HGF := Sd.mk hgf
  have HFN : Sd ((m.fs[k]).O = (m.fs[k]).O) := ⟨rfl⟩
  clear hf9 hlv9 hgd hlvb hgf hW9 hgd2 hsz9
  obtain ⟨fb, hfb⟩ : ∃ fb, fb = (m.fs[k]).fb := ⟨_, rfl⟩
  obtain ⟨lv, hlv⟩ : ∃ lv, lv = (m.fs[k]).lv := ⟨_, rfl⟩
  have HEQ := Sd.mk (And.intro hfb hlv)
  have hfbk := HF9.o.blk
  have hlgk := HF9.o.log
  rw [← hlv, ← hfb] at hfbk
  rw [← hlv] at hlgk
  have HFB := Sd.mk hfbk
  have HLG := Sd.mk hlgk
  have HLV2 : Sd (∀ i, lv.ownBlock = some i → i ≠ fb ∧ i ≠ gd) := ⟨by rw [hfb, hlv]; exact HLV.o⟩
  have hgf2 : fb ≠ gd := by rw [hfb]; exact HGF.o
  rw [← hfb, ← hlv] at p2
  rw [← hfb] at f2 hfb9
  rw [← hfb]
  clear hfb hlv hfbk hlgk HLV HGF
  obtain ⟨X, hX⟩ : ∃ X, X = s.file (k + 1) := ⟨_, rfl⟩
  have HXE := Sd.mk hX
  rw [← hX] at HFB HLG hll hLEN
  clear hX
  go_upto_region 7 with fail
  go_cut [39] (fun sx wx => ∃ A' c', sx = .slice A' (X.log.length + 1) c' ∧ Sd (wx.heap[fb]? = some (.cells #[.int .i64 ((k + 1 : Nat) : Int), .string (sOf X.safe), .slice A' (X.log.length + 1) c', .string (sOf X.data)] 102 (0, 0))) ∧
    Sd (RLogV wx (.slice A' (X.log.length + 1) c') (X.log ++ [D0])) ∧ Sd (Grew W9 lv (.slice A' (X.log.length + 1) c')) ∧ Sd (Keeps (fun i => i = fb ∨ lv.ownBlock = some i) W9 wx))
  case first =>
    have p2' : (W9.alloc (.cells #[.bool true, .int .i64 (zn : Nat), .string ⟨#[]⟩] 105)).cell? ⟨fb, 2, none⟩ = some lv := ((Keeps.refl NoB W9).alloc _).cell p2 (fun f => f)
    go_region_law
      (refine step_app_w rfl _ _ 100 105 _ 3 32 rfl Tryz.underlying100 infoRDone rfl (by decide) lv X.log.length (X.log.flatMap doneCells) rfl (OwnW.keeps HLG.o ((Keeps.refl NoB W9).drew.alloc _) (fun _ _ f => f)) ⟨W9.heap.size, 0, none⟩ 1 1 [.bool true, .int .i64 (zn : Nat), .string ⟨#[]⟩] rfl rfl (cells_new W9.drew _ _) (by intro u hu; simp at hu; rcases hu with rfl | rfl | rfl <;> rfl) (by omega) (by omega) ?_
       intro A6 c6 w6 hO6 hK6 hG6
       have HO6 := Sd.mk hO6
       have HK6 : Sd (Keeps (ownB lv) W9 w6) := ⟨((Keeps.refl (ownB lv) W9).drew.alloc _).trans hK6 (fun _ _ f => f) (fun _ _ f => f)⟩
       have HG6 : Sd (Grew W9 lv (.slice A6 (X.log.length + 1) c6)) := ⟨fun i hi => (hG6 i hi).imp id (fun h => by simp at h; omega)⟩
       have hb6 : w6.heap[fb]? = _ := HK6.o.obj HFB.o (fun f => (HLV2.o _ f).1 rfl)
       have f26 := blk_frozen hb6 2
       have p26 : w6.cell? ⟨fb, 2, none⟩ = some lv := blk_cell hb6 2
       have HB6 := Sd.mk hb6
       have kbb := knd_cells hb6
       clear hO6 hK6 hG6 hb6)
    all_goals (
      go_wp2_with fail
      go_meet
      refine ⟨A6, c6, rfl, ⟨blk_set HB6.o 2 _⟩, ⟨?_⟩, HG6, ⟨?_⟩⟩
      · have e1 : (X.log ++ [D0]).flatMap doneCells = X.log.flatMap doneCells ++ [.bool true, .int .i64 (zn : Nat), .string ⟨#[]⟩] := by rw [List.flatMap_append, HD0.o]; rfl
        have e2 : (X.log ++ [D0]).length = X.log.length + 1 := by simp
        unfold RLogV
        rw [e1, e2]
        refine OwnW.keeps (F := OneB fb) HO6.o ((Keeps.refl (OneB fb) w6).setCell ⟨fb, 2, none⟩ _ (fun _ => rfl)) (fun i hi f => ?_)
        cases f
        rw [OwnW.knd HO6.o hi] at kbb
        cases kbb
      · exact HK6.o.trans ((Keeps.refl (OneB fb) w6).setCell ⟨fb, 2, none⟩ _ (fun _ => rfl)) (fun _ _ f => .inr f) (fun _ _ f => .inl f))
  obtain ⟨A6, c6, rfl, HB7, HO7, HG7, HK7⟩ := hcut
  obtain ⟨w7, hw7⟩ : ∃ w7, w7 = wc := ⟨_, rfl⟩
  subst hw7
  have hgm7 : w7.heap[gd]? = _ := HK7.o.obj HGD.o (fun f => by
    rcases f with f | f
    · exact hgf2 f.symm
    · exact (HLV2.o _ f).2 rfl)
  clear q0 q1 q2 p2 f2
  have q0 : w7.cell? ⟨gd, 0, none⟩ = some (.bool true) := blk_cell hgm7 0
  have q1 : w7.cell? ⟨gd, 1, none⟩ = some (.int .i64 (zn : Nat)) := blk_cell hgm7 1
  have q2 : w7.cell? ⟨gd, 2, none⟩ = some (.string ⟨#[]⟩) := blk_cell hgm7 2
  have p3 : w7.cell? ⟨fb, 3, none⟩ = some (.string (sOf X.data)) := blk_cell HB7.o 3
  have f3 := blk_frozen HB7.o 3
  clear hgm7
  have hfb7 : fb < w7.heap.size := Nat.lt_of_lt_of_le hfb9 HK7.o.size
  go_upto_region 8 with fail
  go_cut [48] (fun sx wx => sx = .string (sOf (doneOn X.data D0)) ∧ Sd (wx.heap[fb]? = some (.cells #[.int .i64 ((k + 1 : Nat) : Int), .string (sOf X.safe), .slice A6 (X.log.length + 1) c6, .string (sOf (doneOn X.data D0))] 102 (0, 0))) ∧ Sd (Keeps (OneB fb) w7 wx))
  case first =>
    go_region_law
      (go_simp; go_at_call 36
       refine (HDN.o X HXE.o _).mono ?_
       rintro e w8 ⟨rfl, hk8⟩
       have HK8 : Sd (Keeps NoB w7 w8) := ⟨hk8.undrew⟩
       have hb8 : w8.heap[fb]? = _ := HK8.o.obj HB7.o (fun f => f)
       have f38 := blk_frozen hb8 3
       have p38 : w8.cell? ⟨fb, 3, none⟩ = some (.string (sOf X.data)) := blk_cell hb8 3
       have HB8 := Sd.mk hb8
       clear hk8 hb8)
    all_goals (
      go_wp2_with fail
      go_meet
      exact ⟨rfl, ⟨blk_set HB8.o 3 _⟩, ⟨(HK8.o.mono (fun _ _ f => f.elim)).setCell ⟨fb, 3, none⟩ _ (fun _ => rfl)⟩⟩)
  obtain ⟨rfl, HB9, HK99⟩ := hcut
  obtain ⟨w9, hw9⟩ : ∃ w9, w9 = wc := ⟨_, rfl⟩
  subst hw9
  clear q0 q1 q2 p3 f3
  have hlog9 : RLogV w9 (.slice A6 (X.log.length + 1) c6) (X.log ++ [D0]) := OwnW.keeps HO7.o HK99.o (fun i hi f => by
    have h1 := OwnW.knd HO7.o hi
    have h2 : i = fb := f
    rw [h2, knd_cells HB7.o] at h1
    exact absurd h1 (by decide))
  have HRS : Sd (RsTo w m (s.setFile (k + 1) { s.file (k + 1) with log := (s.file (k + 1)).log ++ [D0], data := doneOn (s.file (k + 1)).data D0 }) w9) := ⟨RsTo.after (HK1.o.then HK9.o) (rs_setfile H9.o hk (lv' := .slice A6 (X.log.length + 1) c6) ⟨by
      rw [← HEQ.o.1, ← HXE.o]; exact HB9.o, by rw [← HXE.o]; exact hlog9⟩ (by
      rw [← HEQ.o.1, ← HEQ.o.2]; exact HK7.o.trans HK99.o (fun _ _ f => f) (fun _ _ f => .inl f)) (by rw [← HEQ.o.2]; exact HG7.o))⟩
  clear hlog9
  go_wp2_with (go_at_call 57; refine (rcounts_to w _ m _ HRS.o HOL.o HLF.o).mono ?_; rintro e w10 ⟨rfl, hr⟩; have HR10 := Sd.mk hr; clear hr)
  go_ret
  exact ⟨by rw [HFIN.o]; rfl, by rw [HFIN.o]; exact HR10.o⟩
set_option maxHeartbeats 1000000 in
set_option maxRecDepth 100000 in
theorem rappend_fs (w : World) (m : RMem) (s : FSt) (N : Nat) (h : IsRS w m s) (inv : Inv N s) (hN : N ≤ 900000000) (n : Int) (q : List UInt8) (hql : q.length ≤ 70368744177664) :
    Calls Tryz.prog 16 #[.pointer (some ⟨m.b, 0, none⟩), .int .i64 n, .string (sOf q)] w fun e w' => e = .returned (.int .i64 (s.append n q).1) ∧ RsTo w m (s.append n q).2 w' := by
  have hDl := inv.ok.len
  have hFl := inv.lim.files
  have H := Sd.mk h
  obtain ⟨R, hR⟩ : ∃ R, R = s.append n q := ⟨_, rfl⟩
  rw [← hR]
  have HR := Sd.mk hR
  clear hR
  by_cases ht : s.there n = 0
  case neg =>
    have hb : (s.there n != 0) = true := by simpa using ht
    have HFIN : Sd (R = (s.there n, s)) := ⟨by rw [HR.o]; unfold FSt.append; rw [if_pos ht]⟩
    have HTH := Sd.mk (rthere_no w m s h (by omega) n ht)
    generalize s.there n = t at *
    clear h inv ht HR
    go_enter Tryz.func16, Tryz.ntmps16
    go_wp2_with (go_at_call 39; refine HTH.o.mono ?_; rintro e w1 ⟨rfl, hk⟩; have HK1 := Sd.mk hk; clear hk)
    go_ret
    exact ⟨by rw [HFIN.o]; rfl, by rw [HFIN.o]; exact RsTo.same H.o HK1.o⟩
  obtain ⟨k, hk, rfl, hx⟩ := h.fileAt inv.ok (there_any ht).2
  rw [show ((k : Int) + 1).toNat = k + 1 by omega] at hx
  have HX := Sd.mk hx
  have hkF : k < s.F.length := by rw [← h.len]; exact hk
  have HTH := Sd.mk (rthere_ok w m s h (by omega) k hk (by omega) ht)
  have hsm := inv.files.small (k + 1)
  obtain ⟨len, hlen⟩ : ∃ len, len = (s.file (k + 1)).data.length := ⟨_, rfl⟩
  have HFIN : Sd (R = s.write ((k : Int) + 1) (len : Nat) q) := ⟨by
    rw [HR.o]
    unfold FSt.append
    rw [if_neg (by rw [ht]; decide), show ((k : Int) + 1).toNat = k + 1 by omega, ← hlen]⟩
  have hLEN : (sOf (s.file (k + 1)).data).size = len := by rw [sOf_size, hlen]
  rw [← hlen] at hsm
  have HWR : Sd (∀ wx, Keeps NoB w wx → Calls Tryz.prog 40 #[.pointer (some ⟨m.b, 0, none⟩), .int .i64 ((k : Int) + 1), .int .i64 (len : Nat), .string (sOf q)] wx fun e w' => e = .returned (.int .i64 R.1) ∧ RsTo w m R.2 w') := ⟨fun wx kx => by
    rw [HFIN.o]
    exact (rwrite_fs wx m s N (h.kept kx) inv hN _ (len : Nat) (by omega) (by omega) q hql).mono fun e w' ⟨he, hr⟩ => ⟨he, RsTo.after kx hr⟩⟩
  clear h inv ht HR hx hlen HFIN
  go_enter Tryz.func16, Tryz.ntmps16
  go_upto_region 4 with (go_at_call 39; refine HTH.o.mono ?_; rintro e w1 ⟨rfl, hk⟩; have HK1 := Sd.mk hk; clear hk)
  have hfile := (H.o.kept HK1.o).file k hk
  rw [HX.o] at hfile
  have cd := hfile.c.2.2.2
  clear hfile HTH
  go_wp2_with (go_at_call 40; refine (HWR.o _ HK1.o).mono ?_; rintro e w2 ⟨rfl, hr⟩; have HR2 := Sd.mk hr; clear hr)
  go_ret
  exact ⟨rfl, HR2.o⟩
set_option maxHeartbeats 1000000 in
set_option maxRecDepth 100000 in
theorem rread_fs (w : World) (m : RMem) (s : FSt) (N : Nat) (h : IsRS w m s) (inv : Inv N s) (hN : N ≤ 900000000) (n pos most : Int) (hp0 : -9223372036854775808 ≤ pos) (hp1 : pos ≤ 9223372036854775807) (hm0 : -9223372036854775808 ≤ most) (hm1 : most ≤ 9223372036854775807) :
    Calls Tryz.prog 52 #[.pointer (some ⟨m.b, 0, none⟩), .int .i64 n, .int .i64 pos, .int .i64 most] w fun e w' => e = .returned (.tuple #[.string (sOf (s.read n pos most).1), .int .i64 (s.read n pos most).2]) ∧ Keeps NoB w w' := by
  have hDl := inv.ok.len
  have hFl := inv.lim.files
  have H := Sd.mk h
  obtain ⟨R, hR⟩ : ∃ R, R = s.read n pos most := ⟨_, rfl⟩
  rw [← hR]
  have HR := Sd.mk hR
  clear hR
  by_cases ht : s.there n = 0
  case neg =>
    have hb : (s.there n != 0) = true := by simpa using ht
    have HFIN : Sd (R = ([], s.there n)) := ⟨by rw [HR.o]; unfold FSt.read; rw [if_pos ht]⟩
    have HTH := Sd.mk (rthere_no w m s h (by omega) n ht)
    generalize s.there n = t at *
    clear h inv ht HR
    go_enter Tryz.func52, Tryz.ntmps52
    go_wp2_with (go_at_call 39; refine HTH.o.mono ?_; rintro e w1 ⟨rfl, hk⟩; have HK1 := Sd.mk hk; clear hk)
    go_ret2
    exact ⟨by rw [HFIN.o]; rfl, HK1.o⟩
  obtain ⟨k, hk, rfl, hx⟩ := h.fileAt inv.ok (there_any ht).2
  rw [show ((k : Int) + 1).toNat = k + 1 by omega] at hx
  have HX := Sd.mk hx
  have hkF : k < s.F.length := by rw [← h.len]; exact hk
  have HTH := Sd.mk (rthere_ok w m s h (by omega) k hk (by omega) ht)
  have hsm := inv.files.small (k + 1)
  obtain ⟨P, hP⟩ : ∃ P, P = (s.file (k + 1)).data := ⟨_, rfl⟩
  have HW : Sd (R = if pos < 0 ∨ (P.length : Int) < pos ∨ most < 0 then ([], 2) else ((P.drop pos.toNat).take most.toNat, 0)) := ⟨by
    rw [HR.o]
    unfold FSt.read
    rw [if_neg (by rw [ht]; decide), show ((k : Int) + 1).toNat = k + 1 by omega, ← hP]⟩
  have hLEN := sOf_size P
  rw [← hP] at hsm
  have HP := Sd.mk hP
  clear h inv ht HR hx hP
  go_enter Tryz.func52, Tryz.ntmps52
  go_upto_region 4 with (go_at_call 39; refine HTH.o.mono ?_; rintro e w1 ⟨rfl, hk⟩; have HK1 := Sd.mk hk; clear hk)
  have hfile := (H.o.kept HK1.o).file k hk
  rw [HX.o] at hfile
  have cd := hfile.c.2.2.2
  rw [← HP.o] at cd
  clear hfile HTH
  by_cases hneg : pos < 0
  · have HFIN : Sd (R = ([], 2)) := ⟨by rw [HW.o, if_pos (.inl hneg)]⟩
    go_wp2_with fail
    go_ret2
    exact ⟨by rw [HFIN.o]; rfl, HK1.o⟩
  obtain ⟨pn, rfl⟩ := Int.eq_ofNat_of_zero_le (Int.not_lt.1 hneg)
  by_cases hbig : (P.length : Int) < pn
  · have HFIN : Sd (R = ([], 2)) := ⟨by rw [HW.o, if_pos (.inr (.inl hbig))]⟩
    go_wp2_with fail
    go_ret2
    exact ⟨by rw [HFIN.o]; rfl, HK1.o⟩
  by_cases hmn : most < 0
  · have HFIN : Sd (R = ([], 2)) := ⟨by rw [HW.o, if_pos (.inr (.inr hmn))]⟩
    go_wp2_with fail
    go_ret2
    exact ⟨by rw [HFIN.o]; rfl, HK1.o⟩
  obtain ⟨mn, rfl⟩ := Int.eq_ofNat_of_zero_le (Int.not_lt.1 hmn)
  have hpl : pn ≤ P.length := by omega
  obtain ⟨t, ht⟩ : ∃ t : Nat, t = min mn (P.length - pn) := ⟨_, rfl⟩
  have htl : pn + t ≤ P.length := by omega
  have hti : min (mn : Int) ((P.length : Int) - (pn : Int)) = (t : Int) := by omega
  have HFIN : Sd (R = ((P.drop pn).take t, 0)) := ⟨by
    rw [HW.o, if_neg (by omega), Int.toNat_natCast, Int.toNat_natCast, ht]
    congr 1
    rw [List.take_eq_take_iff, List.length_drop]
    omega⟩
  have hq1 : (pn : Int) + (t : Int) ≤ (P.length : Int) := by omega
  have hq3 : ((pn : Int) + (t : Int)).toNat = pn + t := by omega
  have HEX : Sd ((sOf P).extract pn (pn + t) = sOf ((P.drop pn).take t)) := ⟨by
    apply ByteArray.ext
    apply Array.ext'
    simp only [sOf, ByteArray.data_extract, Array.toList_extract]
    rw [List.extract_eq_take_drop]
    simp⟩
  clear ht HW hneg hbig hmn
  go_wp2_with fail
  go_region
  go_wp2
  go_ret2
  refine ⟨?_, HK1.o.drew⟩
  rw [HFIN.o]
  dsimp only
  rw [← HEX.o]
  rfl
set_option maxHeartbeats 1000000 in
set_option maxRecDepth 100000 in
theorem rsync_fs (w : World) (m : RMem) (s : FSt) (N : Nat) (h : IsRS w m s) (inv : Inv N s) (hN : N ≤ 900000000) (n : Int) :
    Calls Tryz.prog 23 #[.pointer (some ⟨m.b, 0, none⟩), .int .i64 n] w fun e w' => e = .returned (.int .i64 (s.sync n).1) ∧ RsTo w m (s.sync n).2 w' := by
  have hDl := inv.ok.len
  have hol := inv.lim.ops
  have hFl := inv.lim.files
  have H := Sd.mk h
  obtain ⟨R, hR⟩ : ∃ R, R = s.sync n := ⟨_, rfl⟩
  rw [← hR]
  have HR := Sd.mk hR
  clear hR
  by_cases ht : s.there n = 0
  case neg =>
    have hb : (s.there n != 0) = true := by simpa using ht
    have HFIN : Sd (R = (s.there n, s)) := ⟨by rw [HR.o]; unfold FSt.sync; rw [if_pos ht]⟩
    have HTH := Sd.mk (rthere_no w m s h (by omega) n ht)
    generalize s.there n = t at *
    clear h inv ht HR
    go_enter Tryz.func23, Tryz.ntmps23
    go_wp2_with (go_at_call 39; refine HTH.o.mono ?_; rintro e w1 ⟨rfl, hk⟩; have HK1 := Sd.mk hk; clear hk)
    go_ret
    exact ⟨by rw [HFIN.o]; rfl, by rw [HFIN.o]; exact RsTo.same H.o HK1.o⟩
  obtain ⟨k, hk, rfl, hx⟩ := h.fileAt inv.ok (there_any ht).2
  rw [show ((k : Int) + 1).toNat = k + 1 by omega] at hx
  have HX := Sd.mk hx
  have hkF : k < s.F.length := by rw [← h.len]; exact hk
  have HTH := Sd.mk (rthere_ok w m s h (by omega) k hk (by omega) ht)
  have HOL : Sd (s.ops ≤ 4611686018427387904) := ⟨by omega⟩
  have HLF := Sd.mk inv.ok.left
  have HFIN : Sd (R = (0, FSt.counts (s.setFile (k + 1) { s.file (k + 1) with safe := (s.file (k + 1)).data, log := [] }))) := ⟨by
    rw [HR.o]
    unfold FSt.sync
    rw [if_neg (by rw [ht]; decide), show ((k : Int) + 1).toNat = k + 1 by omega]⟩
  clear h inv ht HR hx
  go_enter Tryz.func23, Tryz.ntmps23
  go_upto_region 4 with (go_at_call 39; refine HTH.o.mono ?_; rintro e w1 ⟨rfl, hk⟩; have HK1 := Sd.mk hk; clear hk)
  have H1 := Sd.mk (H.o.kept HK1.o)
  have hfile := H1.o.file k hk
  rw [HX.o] at hfile
  have cd := hfile.c.2.2.2
  have c1 := hfile.c.2.1
  have c2 := hfile.c.2.2.1
  have f1 := blk_frozen hfile.blk 1
  have f2 := blk_frozen hfile.blk 2
  have HF1 := Sd.mk hfile
  clear hfile HTH
  go_upto_region 6 with fail
  have HRS : Sd (RsTo w m (s.setFile (k + 1) { s.file (k + 1) with safe := (s.file (k + 1)).data, log := [] }) ((w1.setCell ⟨(m.fs[k]).fb, 1, none⟩ (.string (sOf (s.file (k + 1)).data))).setCell ⟨(m.fs[k]).fb, 2, none⟩ (.slice none 0 0))) := ⟨RsTo.after HK1.o (rs_setfile H1.o hk (lv' := .slice none 0 0)
    ⟨blk_set (blk_set HF1.o.blk 1 _) 2 _, rlogV_nil _⟩ (((Keeps.refl _ w1).setCell ⟨(m.fs[k]).fb, 1, none⟩ _ (fun _ => .inl rfl)).setCell ⟨(m.fs[k]).fb, 2, none⟩ _ (fun _ => .inl rfl)) (fun i hi => by simp [Value.ownBlock] at hi))⟩
  go_wp2_with (go_at_call 57; refine (rcounts_to w _ m _ HRS.o HOL.o HLF.o).mono ?_; rintro e w10 ⟨rfl, hr⟩; have HR10 := Sd.mk hr; clear hr)
  go_ret
  exact ⟨by rw [HFIN.o]; rfl, by rw [HFIN.o]; exact HR10.o⟩
set_option maxHeartbeats 1000000 in
set_option maxRecDepth 100000 in
theorem rsyncdir_fs (w : World) (m : RMem) (s : FSt) (N : Nat) (h : IsRS w m s) (inv : Inv N s) (hN : N ≤ 900000000) :
    Calls Tryz.prog 49 #[.pointer (some ⟨m.b, 0, none⟩)] w fun e w' => e = .returned (.int .i64 s.syncDir.1) ∧ RsTo w m s.syncDir.2 w' := by
  have hDl := inv.ok.len
  have hol := inv.lim.ops
  have c7 := h.c.2.2.2.2.2.2.2.1
  have c1 := h.c.2.1
  obtain ⟨A, c, hv, _, _⟩ := OwnW.slice h.names
  obtain ⟨As, cs, hsv, _, _⟩ := OwnW.slice h.safe
  obtain ⟨Am, cm, hmv, _, _⟩ := OwnW.slice h.moves
  have c2 := h.c.2.2.1
  have c3 := h.c.2.2.2.1
  rw [hv] at c1
  have H := Sd.mk h
  have HOL : Sd (s.ops ≤ 4611686018427387904) := ⟨by omega⟩
  have HLF := Sd.mk inv.ok.left
  have hN1 := h.names
  rw [hv] at hN1
  have HN := Sd.mk hN1
  clear h inv hv hsv hmv hN1
  obtain ⟨R, hR⟩ : ∃ R, R = s.syncDir := ⟨_, rfl⟩
  rw [← hR]
  unfold FSt.syncDir at hR
  have HR := Sd.mk hR
  clear hR
  cases hoff : s.off with
  | true =>
    rw [hoff] at c7
    have HR2 : Sd (R = (21, s)) := ⟨by rw [HR.o, hoff]; rfl⟩
    clear HR hoff
    go_enter Tryz.func49, Tryz.ntmps49
    go_wp2
    go_ret
    exact ⟨by rw [HR2.o]; rfl, by rw [HR2.o]; exact RsTo.same H.o (Keeps.refl NoB w)⟩
  | false =>
    rw [hoff] at c7
    have HR2 : Sd (R = (0, FSt.counts { s with S := s.D, M := [] })) := ⟨by rw [HR.o, hoff]; rfl⟩
    have c1a : (w.alloc (.cells #[] 157)).cell? ⟨m.b, 1, none⟩ = some (.slice A s.D.length c) := ((Keeps.refl NoB w).alloc _).cell c1 (fun f => f)
    clear HR hoff
    go_enter Tryz.func49, Tryz.ntmps49
    go_wp2_with (first
      | (at_builtin; go_must (refine appw_lit rfl _ _ 83 157 _ 2 24 rfl Tryz.underlying83 infoEntry rfl (by decide) _ rfl rfl A s.D.length c (s.D.flatMap entCells) rfl (entFlat_len s.D) (OwnW.news HN.o) (entFlat_one s.D) (by omega) (by omega) ?_)
         intro A2 q2 w2 HO HK HF
         have hb2 := HK.obj H.o.blk (fun f => f)
         have f22 := blk_frozen hb2 2
         have f23 := blk_frozen hb2 3
         have e22 : w2.cell? ⟨m.b, 2, none⟩ = some m.sv := blk_cell hb2 2
         have e23 : w2.cell? ⟨m.b, 3, none⟩ = some m.mv := blk_cell hb2 3
         have HP := Sd.mk (And.intro HO (And.intro HK HF))
         clear HO HK HF hb2)
      | (go_at_call 57; refine (rcounts_to w _ m { s with S := s.D, M := [] } (rs_syncdir H.o HP.o.1 HP.o.2.1 HP.o.2.2) HOL.o HLF.o).mono ?_; rintro e w10 ⟨rfl, hr⟩; have HR10 := Sd.mk hr; clear hr))
    go_ret
    exact ⟨by rw [HR2.o]; rfl, by rw [HR2.o]; exact HR10.o⟩
end Go.Proofs.YtdjamijbhaplgaaGreat
namespace Go.Proofs.YtdjamijbhaplgaaGreat
open Go.RowKit Go.Maps Go.Lib

set_option maxHeartbeats 1000000 in
set_option maxRecDepth 100000 in
theorem rsize_fs (w : World) (m : RMem) (s : FSt) (N : Nat) (h : IsRS w m s) (inv : Inv N s) (hN : N ≤ 900000000) (n : Int) :
    Calls Tryz.prog 51 #[.pointer (some ⟨m.b, 0, none⟩), .int .i64 n] w fun e w' => e = .returned (.tuple #[.int .i64 (s.size n).1, .int .i64 (s.size n).2]) ∧ Keeps NoB w w' := by
  have hDl := inv.ok.len
  have hFl := inv.lim.files
  have H := Sd.mk h
  by_cases ht : s.there n = 0
  case neg =>
    have hb : (s.there n != 0) = true := by simpa using ht
    have HFIN : Sd (s.size n = (0, s.there n)) := ⟨by unfold FSt.size; rw [if_pos ht]⟩
    have HTH := Sd.mk (rthere_no w m s h (by omega) n ht)
    generalize s.size n = R at *
    generalize s.there n = t at *
    clear h inv ht
    go_enter Tryz.func51, Tryz.ntmps51
    go_wp2_with (go_at_call 39; refine HTH.o.mono ?_; rintro e w1 ⟨rfl, hk⟩; have HK1 := Sd.mk hk; clear hk)
    go_ret2
    exact ⟨by rw [HFIN.o]; rfl, HK1.o⟩
  obtain ⟨k, hk, rfl, hx⟩ := h.fileAt inv.ok (there_any ht).2
  rw [show ((k : Int) + 1).toNat = k + 1 by omega] at hx
  have HX := Sd.mk hx
  have hkF : k < s.F.length := by rw [← h.len]; exact hk
  have HTH := Sd.mk (rthere_ok w m s h (by omega) k hk (by omega) ht)
  have hsm := inv.files.small (k + 1)
  obtain ⟨P, hP⟩ : ∃ P, P = (s.file (k + 1)).data := ⟨_, rfl⟩
  have HFIN : Sd (s.size ((k : Int) + 1) = ((P.length : Int), 0)) := ⟨by
    unfold FSt.size
    rw [if_neg (fun e => e ht), show ((k : Int) + 1).toNat = k + 1 by omega, ← hP]⟩
  have hLEN := sOf_size P
  rw [← hP] at hsm
  have HP := Sd.mk hP
  generalize s.size ((k : Int) + 1) = R at *
  clear h inv ht hx hP
  go_enter Tryz.func51, Tryz.ntmps51
  go_upto_region 4 with (go_at_call 39; refine HTH.o.mono ?_; rintro e w1 ⟨rfl, hk⟩; have HK1 := Sd.mk hk; clear hk)
  have hfile := (H.o.kept HK1.o).file k hk
  rw [HX.o] at hfile
  have cd := hfile.c.2.2.2
  rw [← HP.o] at cd
  clear hfile HTH
  go_wp2_with fail
  go_ret2
  exact ⟨by rw [HFIN.o]; rfl, HK1.o⟩
end Go.Proofs.YtdjamijbhaplgaaGreat
namespace Go.Proofs.YtdjamijbhaplgaaGreat
open Go.RowKit Go.Maps Go.Lib

set_option maxHeartbeats 1000000 in
set_option maxRecDepth 100000 in
theorem size_fs (w : World) (m : FsMem) (s : FSt) (N : Nat) (h : IsFS w m s) (inv : Inv N s) (hN : N ≤ 1000000000) (n : Int) :
    Calls Tryz.prog 43 #[.pointer (some ⟨m.b, 0, none⟩), .int .i64 n] w fun e w' => e = .returned (.tuple #[.int .i64 (s.size n).1, .int .i64 (s.size n).2]) ∧ Keeps NoB w w' := by
  have hFN : s.F.length ≤ 4611686018427387904 := by have := inv.lim.files; omega
  have HTH := Sd.mk (there_fs w m s h inv.ok hFN n)
  have H := Sd.mk h
  have HI := Sd.mk inv
  obtain ⟨R, hR⟩ : ∃ R, R = s.size n := ⟨_, rfl⟩
  rw [← hR]
  have HR := Sd.mk hR
  obtain ⟨t, ht⟩ : ∃ t, t = s.there n := ⟨_, rfl⟩
  rw [← ht] at HTH
  have HT := Sd.mk ht
  clear h inv hR ht
  go_enter Tryz.func43, Tryz.ntmps43
  go_wp2_with fail
  refine HTH.o.mono ?_
  clear HTH
  rintro e w1 ⟨pp, rfl, hk1, hne, heq⟩
  have HK1 := Sd.mk hk1
  clear hk1
  by_cases ht0 : t = 0
  case neg =>
    have hb : (t != 0) = true := by simpa using ht0
    have hfin : Sd (R = (0, t)) := ⟨by rw [HR.o]; unfold FSt.size; rw [← HT.o, if_pos ht0]⟩
    obtain rfl := hne ht0
    clear hne heq ht0
    go_wp2_with fail
    go_ret2
    exact ⟨by rw [hfin.o]; rfl, HK1.o⟩
  subst ht0
  obtain ⟨hoff, k, f, rfl, hkF, hg, rfl⟩ := heq rfl
  have h1 := H.o.kept HK1.o
  have hfile := h1.file k f hg
  have cd := hfile.2.2.c.1
  obtain ⟨Ad, cc, hdv⟩ := hfile.2.2.dat.slice
  rw [hdv] at cd
  obtain ⟨P, hP⟩ : ∃ P, P = (s.file k).data := ⟨_, rfl⟩
  rw [← hP] at cd
  have hfin : Sd (R = ((P.length : Int), 0)) := ⟨by
    rw [HR.o]
    unfold FSt.size
    rw [← HT.o, if_neg (fun e => e rfl), Int.toNat_natCast, ← hP]⟩
  clear hne heq hoff hg h1 hfile hdv HT HR hP
  go_wp2_with fail
  go_ret2
  exact ⟨by rw [hfin.o]; rfl, HK1.o⟩
end Go.Proofs.YtdjamijbhaplgaaGreat
