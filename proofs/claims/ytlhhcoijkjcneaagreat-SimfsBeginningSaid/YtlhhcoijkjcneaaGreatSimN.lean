/- simfs: Write, Append. -/
import Derived.Test.YtlhhcoijkjcneaaGreatSimL
import Derived.Test.YtlhhcoijkjcneaaGreatGa
namespace Go.Proofs.YtlhhcoijkjcneaaGreat
open Go.RowKit Go.Maps Go.Lib

theorem FsTo.after {w w1 w2 : World} {m : FsMem} {s : FSt} (k : Keeps NoB w w1) (h : FsTo w1 m s w2) : FsTo w m s w2 :=
  FsTo.trans (s1 := s) rfl (Grows.refl w m) (k.mono (fun _ _ f => f.elim)) h
theorem conv_bts {w : World} {A : Option Addr} {n c : Nat} {xs : List UInt8} (h : Bts w (.slice A n c) xs) : (convert 38 9 (.slice A n c)).run Tryz.prog w = .ok (.string (sOf xs)) w := by
  have e := h.rd.1
  subst e
  exact conv_rd (P := Tryz.prog) w 38 5 9 Tryz.underlying38 Tryz.underlying5 Tryz.underlying9 A xs c h.rd.2.2.2.2.2
theorem write_nil (w : World) (n pos : Int) (v : Value) : Calls Tryz.prog 67 #[.pointer none, .int .i64 n, .int .i64 pos, v] w fun e w' => e = .returned (.int .i64 7) ∧ w = w' := by
  go_enter Tryz.func67, Tryz.ntmps67
  go_wp2_with (go_at_call 34; refine (there_nil w n).mono ?_; rintro e w' ⟨rfl, rfl⟩)
  go_ret
  exact ⟨rfl, rfl⟩
set_option maxHeartbeats 8000000 in
set_option maxRecDepth 100000 in
theorem write_fs (w : World) (m : FsMem) (s : FSt) (N : Nat) (h : IsFS w m s) (inv : Inv N s) (hN : N ≤ 1000000000) (n pos : Int) (hp0 : -9223372036854775808 ≤ pos) (hp1 : pos ≤ 9223372036854775807)
    (A : Option Addr) (c : Nat) (q : List UInt8) (hq : Bts w (.slice A q.length c) q) (hql : q.length ≤ 70368744177664) :
    Calls Tryz.prog 67 #[.pointer (some ⟨m.b, 0, none⟩), .int .i64 n, .int .i64 pos, .slice A q.length c] w fun e w' => e = .returned (.int .i64 (s.write n pos q).1) ∧ FsTo w m (s.write n pos q).2 w' := by
  have hFN : s.F.length ≤ 4611686018427387904 := by have := inv.lim.files; omega
  have HTH := Sd.mk (there_fs w m s h inv.ok hFN n)
  have HQ : Sd (∀ wx, Keeps NoB w wx → (convert 38 9 (.slice A q.length c)).run Tryz.prog wx = .ok (.string (sOf q)) wx) := ⟨fun wx k => conv_bts (hq.keeps k (fun _ _ _ _ _ f => f))⟩
  have H := Sd.mk h
  have HI := Sd.mk inv
  obtain ⟨R, hR⟩ : ∃ R, R = s.write n pos q := ⟨_, rfl⟩
  rw [← hR]
  have HR := Sd.mk hR
  obtain ⟨t, ht⟩ : ∃ t, t = s.there n := ⟨_, rfl⟩
  rw [← ht] at HTH
  have HT := Sd.mk ht
  clear h inv hq hR ht
  go_enter Tryz.func67, Tryz.ntmps67
  go_wp2_with fail
  refine HTH.o.mono ?_
  clear HTH
  rintro e w1 ⟨pp, rfl, hk1, hne, heq⟩
  have HK1 := Sd.mk hk1
  clear hk1
  by_cases ht0 : t = 0
  case neg =>
    have hb : (t != 0) = true := by simpa using ht0
    have hfin : Sd (R = (t, s)) := ⟨by rw [HR.o]; unfold FSt.write; rw [← HT.o, if_pos ht0]⟩
    obtain rfl := hne ht0
    clear hne heq ht0
    go_wp2_with fail
    go_ret
    rw [hfin.o]
    exact ⟨rfl, FsTo.same H.o HK1.o⟩
  subst ht0
  obtain ⟨hoff, k, f, rfl, hkF, hg, rfl⟩ := heq rfl
  have h1 := H.o.kept HK1.o
  have hfile := h1.file k f hg
  have cd := hfile.2.2.c.1
  obtain ⟨Ad, cc, hdv⟩ := hfile.2.2.dat.slice
  rw [hdv] at cd
  have hsm := HI.o.files.small k
  have c5 := h1.c.2.2.2.2.2.1
  have HG := Sd.mk hg
  have H1 := Sd.mk h1
  obtain ⟨len, hlen⟩ : ∃ len, len = (s.file k).data.length := ⟨_, rfl⟩
  rw [← hlen] at cd hsm
  have HLEN := Sd.mk hlen
  have hcap := HI.o.ok.cap
  have HW : Sd (R = if pos < 0 ∨ (len : Int) < pos then (2, s) else if 0 < pos + q.length - (len : Int) ∧ s.cap - s.used < pos + q.length - (len : Int) then (5, s) else (0, s.does k ⟨false, pos.toNat, q⟩)) := ⟨by
    rw [HR.o]
    unfold FSt.write
    rw [← HT.o, if_neg (by decide), Int.toNat_natCast, ← HLEN.o]⟩
  clear hne heq hoff hg h1 hfile hdv hlen HT HR
  by_cases hneg : pos < 0
  · have hfin : Sd (R = (2, s)) := ⟨by rw [HW.o, if_pos (.inl hneg)]⟩
    go_wp2_with fail
    go_ret
    rw [hfin.o]
    exact ⟨rfl, FsTo.same H.o HK1.o⟩
  obtain ⟨pn, rfl⟩ := Int.eq_ofNat_of_zero_le (Int.not_lt.1 hneg)
  by_cases hbig : (len : Int) < pn
  · have hfin : Sd (R = (2, s)) := ⟨by rw [HW.o, if_pos (.inr hbig)]⟩
    go_wp2_with fail
    go_ret
    rw [hfin.o]
    exact ⟨rfl, FsTo.same H.o HK1.o⟩
  have hW2 : Sd (R = if 0 < (pn : Int) + q.length - (len : Int) ∧ s.cap - s.used < (pn : Int) + q.length - (len : Int) then (5, s) else (0, s.does k ⟨false, pn, q⟩)) := ⟨by
    rw [HW.o, if_neg (by omega), Int.toNat_natCast]⟩
  obtain ⟨gr, hgr⟩ : ∃ gr : Int, gr = (q.length : Int) - ((len : Int) - pn) := ⟨_, rfl⟩
  have HU : Sd (∀ x : After w1, Calls Tryz.prog 58 #[.pointer (some ⟨m.b, 0, none⟩)] x.w fun e w' => e = .returned (.int .i64 (s.used : Nat)) ∧ Keeps NoB x.w w') := ⟨fun x => used_fs x.w m s (H1.o.kept x.k) HI.o.ok HI.o.files hFN⟩
  have hused : s.used ≤ 274877906944 := by
    have h2 := sumOff_le s.D (fun _ => false) (fun n => (s.file n).data.length) 67108864 HI.o.files.small
    rw [sumOff_none _ _ _ (fun _ => rfl)] at h2
    have h3 := HI.o.ok.len
    have h4 : s.used = (s.D.map fun e => (s.file e.2).data.length).sum := rfl
    omega
  have hDO : Sd (∀ wx, Keeps NoB w1 wx → (s.does k ⟨false, pn, q⟩ = R.2) → pn ≤ len → Calls Tryz.prog 92 #[.pointer (some ⟨m.b, 0, none⟩), .pointer (some ⟨f.fb, 0, none⟩), .agg #[.bool false, .int .i64 pn, .string (sOf q)]] wx fun e w' => e = .returned (.int .i64 0) ∧ FsTo w m R.2 w') := ⟨fun wx hk hR2 hpl => by
    rw [← hR2]
    refine (does_fs wx m s N (H1.o.kept hk) HI.o hN k f HG.o ⟨false, pn, q⟩ (by rw [← HLEN.o]; exact hpl) hql).mono fun e w' ⟨he, hf⟩ => ⟨he, FsTo.after (HK1.o.then hk) hf⟩⟩
  obtain ⟨r1, r2⟩ := R
  dsimp only at hDO HW hW2
  dsimp only
  have hpl : pn ≤ len := by omega
  have hbn : ¬ len < pn := by omega
  have c5x : ∀ x : After w1, x.w.cell? ⟨m.b, 5, none⟩ = some (.int .i64 s.cap) := fun x => x.cell c5
  have fin : ∀ (w2 : World), Keeps NoB w1 w2 → (convert 38 9 (.slice A q.length c)).run Tryz.prog w2 = .ok (.string (sOf q)) w2 := fun w2 hk => HQ.o w2 (HK1.o.then hk)
  have FIN := Sd.mk fin
  clear fin hbig hneg
  have HGR := Sd.mk hgr
  clear hgr
  go_upto_region 6 with fail
  go_cut [11] (fun sx wx => sx = .int .i64 gr ∧ Sd (w1 = wx))
  case first =>
    go_wp2_with fail
    go_meet
    exact ⟨by rw [HGR.o], ⟨rfl⟩⟩
  obtain ⟨rfl, ⟨rfl⟩⟩ := hcut
  have hgl : -67108864 ≤ gr ∧ gr ≤ 140737488355328 := by have := HGR.o; omega
  by_cases g1 : 0 < gr
  case neg =>
    have hb1 : decide (0 < gr) = false := by simpa using g1
    have hR : Sd (r1 = 0 ∧ s.does k ⟨false, pn, q⟩ = r2) := ⟨by
      have := hW2.o
      rw [if_neg (fun h => by have := HGR.o; omega)] at this
      exact ⟨congrArg Prod.fst this, (congrArg Prod.snd this).symm⟩⟩
    go_upto_region 7 with fail
    refine wp_region_after w1 (Keeps.refl _ _) (by kernel_rfl) (by kernel_rfl) ?_
    repeat (go_big_quiet_step (fail))
    refine wpQuiet_nil ?_
    rintro _ ⟨x, rfl⟩
    have hcv := FIN.o x.w x.k
    go_wp2_with (go_at_call 92; refine (hDO.o x.w x.k hR.o.2 hpl).mono ?_; rintro e w3 ⟨rfl, hf⟩; have HFT := Sd.mk hf; clear hf)
    go_ret
    rw [hR.o.1]
    exact ⟨rfl, HFT.o⟩
  have hb1 : decide (0 < gr) = true := by simpa using g1
  by_cases g2 : s.cap - (s.used : Int) < gr
  · have hb2 : decide (s.cap - (s.used : Int) < gr) = true := by simpa using g2
    have hR : Sd ((r1, r2) = (5, s)) := ⟨by rw [hW2.o, if_pos ⟨by have := HGR.o; omega, by have := HGR.o; omega⟩]⟩
    go_upto_region 7 with fail
    refine wp_region_after w1 (Keeps.refl _ _) (by kernel_rfl) (by kernel_rfl) ?_
    repeat (go_big_quiet_step (first | (go_at_call 58; exact Calls.after (HU.o _))))
    refine wpQuiet_nil ?_
    rintro _ ⟨x, rfl⟩
    go_wp2_with fail
    go_ret
    obtain ⟨e1, e2⟩ := Prod.mk.inj hR.o
    rw [e1, e2]
    exact ⟨rfl, FsTo.same H.o (HK1.o.then x.k)⟩
  · have hb2 : decide (s.cap - (s.used : Int) < gr) = false := by simpa using g2
    have hR : Sd (r1 = 0 ∧ s.does k ⟨false, pn, q⟩ = r2) := ⟨by
      have := hW2.o
      rw [if_neg (fun h => by have := HGR.o; omega)] at this
      exact ⟨congrArg Prod.fst this, (congrArg Prod.snd this).symm⟩⟩
    go_upto_region 7 with fail
    refine wp_region_after w1 (Keeps.refl _ _) (by kernel_rfl) (by kernel_rfl) ?_
    repeat (go_big_quiet_step (first | (go_at_call 58; exact Calls.after (HU.o _))))
    refine wpQuiet_nil ?_
    rintro _ ⟨x, rfl⟩
    have hcv := FIN.o x.w x.k
    go_wp2_with (go_at_call 92; refine (hDO.o x.w x.k hR.o.2 hpl).mono ?_; rintro e w3 ⟨rfl, hf⟩; have HFT := Sd.mk hf; clear hf)
    go_ret
    rw [hR.o.1]
    exact ⟨rfl, HFT.o⟩
theorem append_nil (w : World) (n : Int) (v : Value) : Calls Tryz.prog 24 #[.pointer none, .int .i64 n, v] w fun e w' => e = .returned (.int .i64 7) ∧ w = w' := by
  go_enter Tryz.func24, Tryz.ntmps24
  go_wp2_with (go_at_call 34; refine (there_nil w n).mono ?_; rintro e w' ⟨rfl, rfl⟩)
  go_ret
  exact ⟨rfl, rfl⟩
set_option maxHeartbeats 4000000 in
set_option maxRecDepth 100000 in
theorem append_fs (w : World) (m : FsMem) (s : FSt) (N : Nat) (h : IsFS w m s) (inv : Inv N s) (hN : N ≤ 1000000000) (n : Int)
    (A : Option Addr) (c : Nat) (q : List UInt8) (hq : Bts w (.slice A q.length c) q) (hql : q.length ≤ 70368744177664) :
    Calls Tryz.prog 24 #[.pointer (some ⟨m.b, 0, none⟩), .int .i64 n, .slice A q.length c] w fun e w' => e = .returned (.int .i64 (s.append n q).1) ∧ FsTo w m (s.append n q).2 w' := by
  have hFN : s.F.length ≤ 4611686018427387904 := by have := inv.lim.files; omega
  have HTH := Sd.mk (there_fs w m s h inv.ok hFN n)
  obtain ⟨R, hR⟩ : ∃ R, R = s.append n q := ⟨_, rfl⟩
  rw [← hR]
  obtain ⟨t, ht⟩ : ∃ t, t = s.there n := ⟨_, rfl⟩
  rw [← ht] at HTH
  have HR : Sd (R = if t ≠ 0 then (t, s) else s.write n ((s.file n.toNat).data.length : Nat) q) := ⟨by rw [hR, ht]; rfl⟩
  have H := Sd.mk h
  have HWR : Sd (∀ wx (k : Nat), Keeps NoB w wx → n = k → t = 0 → Calls Tryz.prog 67 #[.pointer (some ⟨m.b, 0, none⟩), .int .i64 n, .int .i64 ((s.file k).data.length : Nat), .slice A q.length c] wx fun e w' => e = .returned (.int .i64 R.1) ∧ FsTo w m R.2 w') := ⟨fun wx k hk hnk h0 => by
    have hsm := inv.files.small k
    have e1 : R = s.write n ((s.file k).data.length : Nat) q := by rw [HR.o, if_neg (fun hh => hh h0), hnk, Int.toNat_natCast]
    rw [e1]
    exact (write_fs wx m s N (h.kept hk) inv hN n _ (by omega) (by omega) A c q (hq.keeps hk (fun _ _ _ _ _ f => f)) hql).mono fun e w' ⟨he, hf⟩ => ⟨he, FsTo.after hk hf⟩⟩
  clear h inv hq hR ht
  obtain ⟨r1, r2⟩ := R
  dsimp only at HWR
  dsimp only
  go_enter Tryz.func24, Tryz.ntmps24
  go_wp2_with fail
  refine HTH.o.mono ?_
  clear HTH
  rintro e w1 ⟨pp, rfl, hk1, hne, heq⟩
  have HK1 := Sd.mk hk1
  clear hk1
  by_cases ht0 : t = 0
  case neg =>
    have hb : (t != 0) = true := by simpa using ht0
    have hfin : Sd ((r1, r2) = (t, s)) := ⟨by rw [HR.o, if_pos ht0]⟩
    obtain rfl := hne ht0
    clear hne heq ht0
    go_wp2_with fail
    go_ret
    obtain ⟨e1, e2⟩ := Prod.mk.inj hfin.o
    rw [e1, e2]
    exact ⟨rfl, FsTo.same H.o HK1.o⟩
  subst ht0
  obtain ⟨hoff, k, f, hnk, hkF, hg, rfl⟩ := heq rfl
  have h1 := H.o.kept HK1.o
  have hfile := h1.file k f hg
  have cd := hfile.2.2.c.1
  obtain ⟨Ad, cc, hdv⟩ := hfile.2.2.dat.slice
  rw [hdv] at cd
  have HW := Sd.mk (HWR.o w1 k HK1.o hnk rfl)
  clear hne heq hoff hg h1 hfile hdv HWR hnk
  go_wp2_with (go_at_call 67; refine HW.o.mono ?_; rintro e w3 ⟨rfl, hf⟩; have HFT := Sd.mk hf; clear hf)
  go_ret
  exact ⟨rfl, HFT.o⟩
theorem cut_nil (w : World) (n size : Int) : Calls Tryz.prog 87 #[.pointer none, .int .i64 n, .int .i64 size] w fun e w' => e = .returned (.int .i64 7) ∧ w = w' := by
  go_enter Tryz.func87, Tryz.ntmps87
  go_wp2_with (go_at_call 34; refine (there_nil w n).mono ?_; rintro e w' ⟨rfl, rfl⟩)
  go_ret
  exact ⟨rfl, rfl⟩
set_option maxHeartbeats 4000000 in
set_option maxRecDepth 100000 in
theorem cut_fs (w : World) (m : FsMem) (s : FSt) (N : Nat) (h : IsFS w m s) (inv : Inv N s) (hN : N ≤ 1000000000) (n size : Int) (hp0 : -9223372036854775808 ≤ size) (hp1 : size ≤ 9223372036854775807) :
    Calls Tryz.prog 87 #[.pointer (some ⟨m.b, 0, none⟩), .int .i64 n, .int .i64 size] w fun e w' => e = .returned (.int .i64 (s.cutAt n size).1) ∧ FsTo w m (s.cutAt n size).2 w' := by
  have hFN : s.F.length ≤ 4611686018427387904 := by have := inv.lim.files; omega
  have HTH := Sd.mk (there_fs w m s h inv.ok hFN n)
  have H := Sd.mk h
  have HI := Sd.mk inv
  obtain ⟨R, hR⟩ : ∃ R, R = s.cutAt n size := ⟨_, rfl⟩
  rw [← hR]
  have HR := Sd.mk hR
  obtain ⟨t, ht⟩ : ∃ t, t = s.there n := ⟨_, rfl⟩
  rw [← ht] at HTH
  have HT := Sd.mk ht
  clear h inv hR ht
  go_enter Tryz.func87, Tryz.ntmps87
  go_wp2_with fail
  refine HTH.o.mono ?_
  clear HTH
  rintro e w1 ⟨pp, rfl, hk1, hne, heq⟩
  have HK1 := Sd.mk hk1
  clear hk1
  by_cases ht0 : t = 0
  case neg =>
    have hb : (t != 0) = true := by simpa using ht0
    have hfin : Sd (R = (t, s)) := ⟨by rw [HR.o]; unfold FSt.cutAt; rw [← HT.o, if_pos ht0]⟩
    obtain rfl := hne ht0
    clear hne heq ht0
    go_wp2_with fail
    go_ret
    rw [hfin.o]
    exact ⟨rfl, FsTo.same H.o HK1.o⟩
  subst ht0
  obtain ⟨hoff, k, f, rfl, hkF, hg, rfl⟩ := heq rfl
  have h1 := H.o.kept HK1.o
  have hfile := h1.file k f hg
  have cd := hfile.2.2.c.1
  obtain ⟨Ad, cc, hdv⟩ := hfile.2.2.dat.slice
  rw [hdv] at cd
  have hsm := HI.o.files.small k
  have HG := Sd.mk hg
  have H1 := Sd.mk h1
  obtain ⟨len, hlen⟩ : ∃ len, len = (s.file k).data.length := ⟨_, rfl⟩
  rw [← hlen] at cd hsm
  have HLEN := Sd.mk hlen
  have HW : Sd (R = if size < 0 ∨ (len : Int) < size then (2, s) else (0, s.does k ⟨true, size.toNat, []⟩)) := ⟨by
    rw [HR.o]
    unfold FSt.cutAt
    rw [← HT.o, if_neg (by decide), Int.toNat_natCast, ← HLEN.o]⟩
  clear hne heq hoff hg h1 hfile hdv hlen HT HR
  by_cases hneg : size < 0
  · have hfin : Sd (R = (2, s)) := ⟨by rw [HW.o, if_pos (.inl hneg)]⟩
    go_wp2_with fail
    go_ret
    rw [hfin.o]
    exact ⟨rfl, FsTo.same H.o HK1.o⟩
  obtain ⟨pn, rfl⟩ := Int.eq_ofNat_of_zero_le (Int.not_lt.1 hneg)
  by_cases hbig : (len : Int) < pn
  · have hfin : Sd (R = (2, s)) := ⟨by rw [HW.o, if_pos (.inr hbig)]⟩
    go_wp2_with fail
    go_ret
    rw [hfin.o]
    exact ⟨rfl, FsTo.same H.o HK1.o⟩
  have hpl : pn ≤ len := by omega
  have hbn : ¬ len < pn := by omega
  have hW2 : Sd (R = (0, s.does k ⟨true, pn, []⟩)) := ⟨by rw [HW.o, if_neg (by omega), Int.toNat_natCast]⟩
  have hDO : Sd (Calls Tryz.prog 92 #[.pointer (some ⟨m.b, 0, none⟩), .pointer (some ⟨f.fb, 0, none⟩), .agg #[.bool true, .int .i64 pn, .string ⟨#[]⟩]] w1 fun e w' => e = .returned (.int .i64 0) ∧ FsTo w m R.2 w') := ⟨by
    rw [hW2.o]
    refine (does_fs w1 m s N H1.o HI.o hN k f HG.o ⟨true, pn, []⟩ (by rw [← HLEN.o]; exact hpl) (by simp)).mono fun e w' ⟨he, hf⟩ => ⟨he, FsTo.after HK1.o hf⟩⟩
  clear hbig hneg HW
  go_wp2_with (go_at_call 92; refine hDO.o.mono ?_; rintro e w3 ⟨rfl, hf⟩; have HFT := Sd.mk hf; clear hf)
  go_ret
  refine ⟨?_, HFT.o⟩
  rw [hW2.o]
  rfl
end Go.Proofs.YtlhhcoijkjcneaaGreat
