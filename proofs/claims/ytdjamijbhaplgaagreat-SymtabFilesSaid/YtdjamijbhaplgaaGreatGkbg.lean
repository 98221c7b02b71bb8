/- the reference's reader: Count, Text. -/
import Derived.Test.YtdjamijbhaplgaaGreatGkbf
import Derived.Test.YtdjamijbhaplgaaGreatGkaz
namespace Go.Proofs.YtdjamijbhaplgaaGreat
open Go.RowKit

theorem RSt.count_small (s : RSt) (m : Int) (h1 : m ≤ 9223372036854775807) : ((s.count m).1 : Int) ≤ 9223372036854775807 := by
  unfold RSt.count
  split
  · simp
  · rename_i h
    by_cases he : s.num.2.err = 0
    · have : ¬ (m < 0 ∨ m < (s.num.1 : Int)) := fun h2 => h ⟨he, h2⟩
      omega
    · rw [zero_lt_num s he]; simp

set_option maxHeartbeats 4000000 in
set_option maxRecDepth 100000 in
theorem rtext_some (w : World) (b : Nat) (s : RSt) (A : Option Addr) (c : Nat) (h : IsRR w b s A c) (m : Int) (hm0 : -9223372036854775808 ≤ m) (hm1 : m ≤ 9223372036854775807) :
    Calls Tryz.prog 91 #[.pointer (some ⟨b, 0, none⟩), .int .i64 m] w fun e' w' => e' = .returned (.string (sOf (s.text m).1)) ∧ IsRR w' b (s.text m).2 A c ∧ Keeps (OneB b) w w' := by
  have hlt := s.num_lt
  have h1' : w.cell? ⟨b, 1, none⟩ = some (.int .i64 s.pos) := blk_cell h.blk 1
  have HN := Sd.mk (rnum_some w b s A c h)
  have hpp := s.num_p
  have hz := zero_lt_num s
  have ht : Sd (s.text m = if s.num.2.err = 0 then (if m < 0 ∨ m < (s.num.1 : Int) then ([], s.num.2.stop 1 s.pos)
    else if s.p.length - s.num.2.pos < s.num.1 then ([], s.num.2.stop 3 s.pos)
      else ((s.p.drop s.num.2.pos).take s.num.1, { s.num.2 with pos := s.num.2.pos + s.num.1 }))
    else ([], s.num.2)) := ⟨by
    unfold RSt.text RSt.count
    by_cases he : s.num.2.err = 0
    · by_cases hmm : m < 0 ∨ m < (s.num.1 : Int)
      · simp [he, hmm, RSt.stop]
      · simp [he, hmm]
    · simp [he]⟩
  have H := Sd.mk h
  clear h
  generalize hN : s.num.1 = N at *
  generalize hS : s.num.2 = t at *
  obtain ⟨p, pos, err, spot⟩ := s
  obtain ⟨tp, tpos, terr, tspot⟩ := t
  dsimp only at *
  subst hpp
  clear hN hS
  go_enter Tryz.func91, Tryz.ntmps91
  go_wp2_with fail
  refine HN.o.mono ?_
  rintro e w1 ⟨rfl, hr, hk⟩
  have h2 : w1.cell? ⟨b, 2, none⟩ = some (.int .i64 terr) := blk_cell hr.blk 2
  have h1 : w1.cell? ⟨b, 1, none⟩ = some (.int .i64 tpos) := blk_cell hr.blk 1
  have h0 : w1.cell? ⟨b, 0, none⟩ = some (.slice A tp.length c) := blk_cell hr.blk 0
  have f1 := blk_frozen hr.blk 1
  have hl := hr.pos
  have hlen := hr.len
  dsimp only at hl hlen
  have HR := Sd.mk hr
  have HK := Sd.mk hk
  clear hr hk HN h1'
  by_cases he : terr = 0
  · rw [if_pos he] at ht
    subst he
    have hblk := Sd.mk HR.o.blk
    have hpos := Sd.mk H.o.pos
    clear hz
    by_cases hmn : m < 0
    · rw [if_pos (.inl hmn)] at ht
      have hq : decide (m < 0) = true := by simpa using hmn
      go_wp2_with (go_at_call 110; refine (rfail_stop _ b _ _ _ _ _ (by exact hblk.o) (by decide)).mono ?_; rintro e w' ⟨rfl, HK2, HB⟩)
      go_ret
      rw [ht.o]
      exact ⟨rfl, HR.o.stop HK2 1 pos hpos.o HB (by decide) (by decide), HK.o.trans HK2 (fun _ _ f => f) (fun _ _ f => f)⟩
    have e1 : IntKind.u64.wrap m = m := by rw [IntKind.wrap_u64]; omega
    have hq : decide (m < 0) = false := by simpa using hmn
    by_cases hmm : m < (N : Int)
    · rw [if_pos (.inr hmm)] at ht
      have hq2 : decide (m < (N : Int)) = true := by simpa using hmm
      go_wp2_with (go_at_call 110; refine (rfail_stop _ b _ _ _ _ _ (by exact hblk.o) (by decide)).mono ?_; rintro e w' ⟨rfl, HK2, HB⟩)
      go_ret
      rw [ht.o]
      exact ⟨rfl, HR.o.stop HK2 1 pos hpos.o HB (by decide) (by decide), HK.o.trans HK2 (fun _ _ f => f) (fun _ _ f => f)⟩
    rw [if_neg (by omega)] at ht
    have hq2 : decide (m < (N : Int)) = false := by simpa using hmm
    have hNs : N ≤ 9223372036854775807 := by omega
    by_cases hn : tp.length - tpos < N
    · rw [if_pos hn] at ht
      have hq3 : (tp.length : Int) - (tpos : Int) < (N : Int) := by omega
      have hw : IntKind.i64.wrap ((tp.length : Int) - (tpos : Int)) = (tp.length : Int) - (tpos : Int) := IntWalk.i64_in _ (by omega)
      have hw2 : IntKind.u64.wrap ((tp.length : Int) - (tpos : Int)) = (tp.length : Int) - (tpos : Int) := by rw [IntKind.wrap_u64]; omega
      clear hn hmm hmn
      go_wp2_with fail
      go_quiet (fail)
      clear hw hw2 e1
      go_wp2_with (go_at_call 110; refine (rfail_stop _ b _ _ _ _ _ (by exact hblk.o) (by decide)).mono ?_; rintro e w' ⟨rfl, HK2, HB⟩)
      go_ret
      rw [ht.o]
      exact ⟨rfl, (HR.o.drewN _).stop HK2 3 pos hpos.o HB (by decide) (by decide), HK.o.trans HK2.undrew (fun _ _ f => f) (fun _ _ f => f)⟩
    · rw [if_neg hn] at ht
      have hq3 : ¬ (tp.length : Int) - (tpos : Int) < (N : Int) := by omega
      have hle : tpos + N ≤ tp.length := by omega
      have hw : IntKind.i64.wrap ((tp.length : Int) - (tpos : Int)) = (tp.length : Int) - (tpos : Int) := IntWalk.i64_in _ (by omega)
      have hw2 : IntKind.u64.wrap ((tp.length : Int) - (tpos : Int)) = (tp.length : Int) - (tpos : Int) := by rw [IntKind.wrap_u64]; omega
      clear hn hmm hmn
      go_wp2_with fail
      go_quiet (fail)
      clear hw hw2 e1
      obtain ⟨i0, hi, hz0, hz1, hz2⟩ := info_parts infoU8
      have hcut : ∀ W : World, (Instr.slice 49 (.slice A tp.length c) (some (.int .i64 ((tpos : Int)))) (some (.int .i64 ((tpos : Int) + (N : Int)))) none).run Tryz.prog W = .ok (.slice (cutA A c tpos) N (c - tpos)) W := fun W => by
        have := slice_run 49 5 .i64 .i64 Tryz.underlying49 hi hz1 A tp.length c tpos (tpos + N) (by omega) (by have := HR.o.bts.rd; dsimp only at this; omega) W tpos ((tpos : Int) + (N : Int)) rfl (by omega)
        rw [this]; congr 2; omega
      have hbts := HR.o.bts.cut tpos (tpos + N) (by omega) (by exact hle)
      have e3 : tpos + N - tpos = N := by omega
      rw [e3] at hbts
      have hkk : Keeps (OneB b) w1 (w1.setCell ⟨b, 1, none⟩ (.int .i64 ((tpos : Int) + (N : Int)))) := (Keeps.refl (OneB b) w1).setCell ⟨b, 1, none⟩ _ (fun _ => rfl)
      have hb2 := hbts.keeps hkk HR.o.off.cut.r
      have hconv : ∀ n1 n2, (convert 49 9 (.slice (cutA A c tpos) N (c - tpos))).run Tryz.prog (((w1.drewN n1).setCell ⟨b, 1, none⟩ (.int .i64 ((tpos : Int) + (N : Int)))).drewN n2) = .ok (.string (sOf ((tp.drop tpos).take N))) (((w1.drewN n1).setCell ⟨b, 1, none⟩ (.int .i64 ((tpos : Int) + (N : Int)))).drewN n2) := fun n1 n2 => by
        have e4 : ((tp.drop tpos).take N).length = N := by simp; omega
        have hrd : Rd (((w1.drewN n1).setCell ⟨b, 1, none⟩ (.int .i64 ((tpos : Int) + (N : Int)))).drewN n2) (cutA A c tpos) ((tp.drop tpos).take N) := hb2.rd.2.2.2.2.2
        have := conv_rd (P := Tryz.prog) (((w1.drewN n1).setCell ⟨b, 1, none⟩ (.int .i64 ((tpos : Int) + (N : Int)))).drewN n2) 49 5 9 Tryz.underlying49 Tryz.underlying5 Tryz.underlying9 (cutA A c tpos) _ (c - tpos) hrd
        rwa [e4] at this
      have e5 : IntKind.i64.wrap ((tpos : Int) + (N : Int) - (N : Int)) = (tpos : Int) := by rw [IntWalk.i64_in _ (by omega)]; omega
      have e6 : IntKind.i64.wrap (tpos : Int) = (tpos : Int) := IntWalk.i64_in _ (by omega)
      clear hbts hkk hb2 e3 hi hz0 hz1 hz2
      have hNle : (N : Int) ≤ 9223372036854775807 := by omega
      have e7 : IntKind.i64.wrap (N : Int) = (N : Int) := IntWalk.i64_in _ (by omega)
      go_wp2_with fail
      go_quiet (fail)
      go_wp2
      go_ret
      rw [ht.o]
      exact ⟨rfl, ((by refine HR.o.move (w1.drewN _) ?_ _ ?_ _ ?_; rfl; exact hle; omega : IsRR _ b _ _ c)).drewN _, HK.o.trans ((((Keeps.refl (OneB b) w1).drewN _).setCell ⟨b, 1, none⟩ _ (fun _ => rfl)).drewN _) (fun _ _ f => f) (fun _ _ f => f)⟩
  · rw [if_neg he] at ht
    have hb : (terr != 0) = true := by simp [he]
    clear he
    go_wp2_with fail
    go_ret
    rw [ht.o]
    exact ⟨rfl, HR.o, HK.o⟩
end Go.Proofs.YtdjamijbhaplgaaGreat
namespace Go.Proofs.YtdjamijbhaplgaaGreat
open Go.RowKit Go.Maps
def RLoadPost (w : World) (p : List UInt8) (e : Ending) (w' : World) : Prop :=
  Keeps NoB w w' ∧ ((loadL p = none ∧ e = .returned (.tuple #[.pointer none, .int .i64 0, .int .i64 51])) ∨
    (∃ l b A c, loadL p = some l ∧ e = .returned (.tuple #[.pointer (some ⟨b, 0, none⟩), .int .i64 ((framesL p).2.1 : Nat), .int .i64 0]) ∧ IsR w' w.heap.size b A c l))
set_option maxHeartbeats 8000000 in
set_option maxRecDepth 100000 in
theorem trload_any (w : World) (A : Option Addr) (c : Nat) (p : List UInt8) (hb : Bts w (.slice A p.length c) p) (hl : p.length ≤ 67108864) :
    Calls Tryz.prog 53 #[.slice A p.length c] w (RLoadPost w p) := by
  have hfs := framesL_small p
  have hfn := framesL_len p
  have HFR := Sd.mk (rframes_any w A c p hb (by omega))
  have HLD : Sd (loadL p = loadGo (framesL p).1 [[]]) := ⟨rfl⟩
  obtain ⟨F, hF⟩ : ∃ F, F = framesL p := ⟨_, rfl⟩
  rw [← hF] at hfs hfn HFR HLD
  obtain ⟨fs, at_, er⟩ := F
  dsimp only at hfs hfn HFR HLD
  have HAT : Sd ((framesL p).2.1 = at_) := ⟨by rw [← hF]⟩
  have HFS := Sd.mk hfs
  have hfl : fs.length ≤ 67108864 := by omega
  clear hb hF hfs hfn
  go_enter Tryz.func53, Tryz.ntmps53
  go_wp2_with fail
  refine HFR.o.mono ?_
  clear HFR
  rintro e w2 ⟨A2, c2, rfl, hO, _, hK⟩
  have HL2 := Sd.mk hO.lrd.2
  have HK2 := Sd.mk hK
  clear hO hK
  go_wp2_with fail
  refine (trnew_any w2).mono ?_
  rintro e w3 ⟨b, A3, c3, rfl, hT, hK⟩
  have HT3 := Sd.mk hT
  have HK3 := Sd.mk hK
  clear hT hK
  go_wp2_with fail
  go_loopg [9] fs.length (fun gk i wr => ∃ (k c : Nat) (acc : List (List UInt8)) (A : Option Addr), gk + k = fs.length ∧ i = .int .i64 k ∧ acc.length ≤ 65536 ∧ Sd (loadL p = loadGo (fs.drop k) acc) ∧ Sd (IsR wr w2.heap.size b A c acc) ∧ Sd (Keeps NoB w2 wr))
  case atStart => exact ⟨0, c3, [[]], A3, by omega, rfl, by decide, HLD, HT3, HK3⟩
  case round =>
    clear HT3 HK3 HLD
    obtain ⟨k, c4, acc, A4, hk, rfl, hac, HLD, HT, HK⟩ := hrel
    by_cases hlt : k < fs.length
    · have hq1 : (k : Int) < (fs.length : Int) := by omega
      obtain ⟨b1, o1, A5, c5, rfl, hc, hb⟩ := (HL2.o.kept HK.o).at_ k hlt
      have hdrop : fs.drop k = fs[k] :: fs.drop (k + 1) := List.drop_eq_getElem_cons hlt
      have hgo : Sd (loadL p = if (symOf fs[k]).2 = 0 ∧ mayL (symOf fs[k]).1 = true ∧ (symOf fs[k]).1 ∉ acc ∧ acc.length < 65536 then loadGo (fs.drop (k + 1)) (acc ++ [(symOf fs[k]).1]) else none) := ⟨by rw [HLD.o, hdrop, loadGo]⟩
      have hsm := HFS.o _ (List.getElem_mem hlt)
      have HB := Sd.mk hb
      clear hb hdrop
      generalize fs[k] = f0 at *
      have HN := Sd.mk (rnew_any wr A5 _ c5 f0 HB.o (by omega))
      have htl := text_len ⟨f0, 0, 0, 0⟩ 64
      dsimp only at htl
      obtain ⟨s, hs⟩ : ∃ s, s = (RSt.text ⟨f0, 0, 0, 0⟩ 64).1 := ⟨_, rfl⟩
      obtain ⟨r1, hr1⟩ : ∃ r1, r1 = (RSt.text ⟨f0, 0, 0, 0⟩ 64).2 := ⟨_, rfl⟩
      have hsym : Sd (symOf f0 = (s, r1.done)) := ⟨by rw [hs, hr1]; rfl⟩
      have HTX : Sd (∀ w' b' A' c', IsRR w' b' ⟨f0, 0, 0, 0⟩ A' c' → Calls Tryz.prog 91 #[.pointer (some ⟨b', 0, none⟩), .int .i64 64] w' fun e' w'' => e' = .returned (.string (sOf s)) ∧ IsRR w'' b' r1 A' c' ∧ Keeps (OneB b') w' w'') := ⟨fun w' b' A' c' h => by
        have := rtext_some w' b' ⟨f0, 0, 0, 0⟩ A' c' h 64 (by decide) (by decide)
        rwa [← hs, ← hr1] at this⟩
      rw [← hs] at htl
      clear hs hr1
      go_wp2_with fail
      refine HN.o.mono ?_
      clear HN hc
      rintro e w5 ⟨b5, A6, c6, rfl, hI, hB, hb5, _⟩
      have HI := Sd.mk hI
      have HK5 := Sd.mk hB
      have HF5 := Sd.mk hb5
      clear hI hB hb5
      go_wp2_with fail
      refine (HTX.o w5 b5 A6 c6 HI.o).mono ?_
      clear HTX HI
      rintro e w6 ⟨rfl, hI, hK⟩
      have HI6 := Sd.mk hI
      have hK6 : Keeps NoB wr w6 := HK5.o.trans hK (fun _ _ f => f) (fun i hi f => by cases f; have := HF5.o; omega)
      have HK6 := Sd.mk hK6
      have HT6 := Sd.mk (HT.o.kept hK6)
      obtain ⟨S0, hS0⟩ : ∃ S0, S0 = sOf s := ⟨_, rfl⟩
      have hSd : Sd (S0.data.toList = s) := ⟨by rw [hS0]; rfl⟩
      have hSz : S0.size = s.length := by rw [hS0, sOf_size]
      have hSl : S0.size ≤ 67108864 := by omega
      rw [← hS0]
      have HDN := Sd.mk (rdone_some w6 b5 r1 A6 c6 HI6.o)
      have HMY := Sd.mk (fun w' => trsymbol_any w' S0 (by omega))
      rw [hSd.o] at HMY
      have HSZ := Sd.mk hSz
      rw [hsym.o] at hgo
      dsimp only at hgo
      have hfin : ∀ w', Keeps NoB w6 w' → ¬ (r1.done = 0 ∧ mayL s = true ∧ s ∉ acc ∧ acc.length < 65536) → RLoadPost w p (.returned (.tuple #[.pointer none, .int .i64 0, .int .i64 51])) w' := fun w' hk hn =>
        ⟨HK2.o.then ((HK.o.then HK6.o).then hk), .inl ⟨by rw [hgo.o, if_neg hn], rfl⟩⟩
      have HFIN := Sd.mk hfin
      obtain ⟨nr, hnr⟩ : ∃ nr, nr = numR acc s := ⟨_, rfl⟩
      have hS0l : S0.toList = s := by rw [hS0, sOf_toList]
      have HNU : Sd (∀ m, Calls Tryz.prog 59 #[.pointer (some ⟨b, 0, none⟩), .string S0] (w6.drewN m) fun e w' => e = .returned (.int .i64 nr) ∧ ∃ n3, w' = (w6.drewN m).drewN n3) := ⟨fun m => by
        have := trnumber_any (w6.drewN m) _ b A4 c4 acc (HT6.o.kept ((Keeps.refl NoB w6).drewN m)) (by omega) S0
        rwa [hS0l, ← hnr] at this⟩
      have HNR := Sd.mk hnr
      clear hK hI hK6 hS0 hSz hfin htl hnr hS0l
      by_cases hd : r1.done = 0
      case neg =>
        have hb : (r1.done != 0) = true := by simp [hd]
        have hno : Sd (¬ (r1.done = 0 ∧ mayL s = true ∧ s ∉ acc ∧ acc.length < 65536)) := ⟨fun h => hd h.1⟩
        clear hd
        go_wp2_with (go_at_call 92; refine HDN.o.mono ?_; rintro e w' ⟨rfl, n, rfl⟩)
        go_ret3
        exact HFIN.o _ ((Keeps.refl NoB w6).drewN n) hno.o
      have hb : (r1.done != 0) = false := by simp [hd]
      have HD := Sd.mk hd
      clear hd
      cases hmy : mayL s with
      | false =>
        have hno : Sd (¬ (r1.done = 0 ∧ mayL s = true ∧ s ∉ acc ∧ acc.length < 65536)) := ⟨fun h => by rw [hmy] at h; exact absurd h.2.1 (by decide)⟩
        rw [hmy] at HMY
        clear hmy
        go_wp2_with (first
          | (go_at_call 92; refine HDN.o.mono ?_; rintro e w' ⟨rfl, n, rfl⟩)
          | (go_at_call 93; refine (HMY.o _).mono ?_; rintro e w' ⟨rfl, n2, rfl⟩))
        go_ret3
        exact HFIN.o _ ((Keeps.refl NoB w6).drewN _) hno.o
      | true =>
      rw [hmy] at HMY
      have HMM := Sd.mk hmy
      clear hmy
      by_cases hkn : s ∈ acc
      · have hno : Sd (¬ (r1.done = 0 ∧ mayL s = true ∧ s ∉ acc ∧ acc.length < 65536)) := ⟨fun h => h.2.2.1 hkn⟩
        have hq4 : decide ((0 : Int) ≤ nr) = true := by have := HNR.o; unfold numR at this; rw [if_pos hkn] at this; simp; omega
        clear hkn
        go_wp2_with (first
          | (go_at_call 92; refine HDN.o.mono ?_; rintro e w' ⟨rfl, n, rfl⟩)
          | (go_at_call 93; refine (HMY.o _).mono ?_; rintro e w' ⟨rfl, n2, rfl⟩)
          | (go_at_call 59; refine (HNU.o _).mono ?_; rintro e w7 ⟨rfl, hW⟩; have HK7 : Sd (Keeps NoB w6 w7) := ⟨by obtain ⟨n3, rfl⟩ := hW; exact ((Keeps.refl NoB w6).drewN _).drewN n3⟩; have h0 : w7.cell? ⟨b, 0, none⟩ = some (.slice A4 acc.length c4) := blk_cell (HT6.o.kept HK7.o).blk 0; have f0 := blk_frozen (HT6.o.kept HK7.o).blk 0; have HO7 := Sd.mk (HT6.o.kept HK7.o).own; have HB7 := Sd.mk (HT6.o.kept HK7.o).blk; clear hW))
        go_ret3
        exact HFIN.o _ HK7.o hno.o
      have hnr1 : nr = -1 := by have := HNR.o; unfold numR at this; rwa [if_neg hkn] at this
      clear HNR
      subst hnr1
      have HKN := Sd.mk hkn
      clear hkn
      by_cases hle : 65536 ≤ acc.length
      · have hno : Sd (¬ (r1.done = 0 ∧ mayL s = true ∧ s ∉ acc ∧ acc.length < 65536)) := ⟨fun h => by omega⟩
        have hq3 : decide ((65536 : Int) ≤ (acc.length : Int)) = true := by simp; omega
        go_wp2_with (first
          | (go_at_call 92; refine HDN.o.mono ?_; rintro e w' ⟨rfl, n, rfl⟩)
          | (go_at_call 93; refine (HMY.o _).mono ?_; rintro e w' ⟨rfl, n2, rfl⟩)
          | (go_at_call 59; refine (HNU.o _).mono ?_; rintro e w7 ⟨rfl, hW⟩; have HK7 : Sd (Keeps NoB w6 w7) := ⟨by obtain ⟨n3, rfl⟩ := hW; exact ((Keeps.refl NoB w6).drewN _).drewN n3⟩; have h0 : w7.cell? ⟨b, 0, none⟩ = some (.slice A4 acc.length c4) := blk_cell (HT6.o.kept HK7.o).blk 0; have f0 := blk_frozen (HT6.o.kept HK7.o).blk 0; have HO7 := Sd.mk (HT6.o.kept HK7.o).own; have HB7 := Sd.mk (HT6.o.kept HK7.o).blk; clear hW))
        go_ret3
        exact HFIN.o _ HK7.o hno.o
      have hq3 : decide ((65536 : Int) ≤ (acc.length : Int)) = false := by simp; omega
      have hac2 : acc.length < 65536 := by omega
      have hst : Sd (loadL p = loadGo (fs.drop (k + 1)) (acc ++ [s])) := ⟨by rw [hgo.o, if_pos ⟨HD.o, HMM.o, HKN.o, hac2⟩]⟩
      have HLL : Sd ((strs acc).length = acc.length) := ⟨strs_len acc⟩
      clear hle
      go_wp2_with (first
          | (go_at_call 92; refine HDN.o.mono ?_; rintro e w' ⟨rfl, n, rfl⟩)
          | (go_at_call 93; refine (HMY.o _).mono ?_; rintro e w' ⟨rfl, n2, rfl⟩)
          | (go_at_call 59; refine (HNU.o _).mono ?_; rintro e w7 ⟨rfl, hW⟩; have HK7 : Sd (Keeps NoB w6 w7) := ⟨by obtain ⟨n3, rfl⟩ := hW; exact ((Keeps.refl NoB w6).drewN _).drewN n3⟩; have h0 : w7.cell? ⟨b, 0, none⟩ = some (.slice A4 acc.length c4) := blk_cell (HT6.o.kept HK7.o).blk 0; have f0 := blk_frozen (HT6.o.kept HK7.o).blk 0; have HO7 := Sd.mk (HT6.o.kept HK7.o).own; have HB7 := Sd.mk (HT6.o.kept HK7.o).blk; clear hW)
          | (at_builtin; go_must (refine app_row rfl _ _ 33 9 (.string ⟨#[]⟩) 16 rfl Tryz.underlying33 infoStr rfl (.slice A4 acc.length c4) (strs acc) rfl (HO7.o.kept ((Keeps.refl NoB w7).alloc _)) ⟨w7.heap.size, 0, none⟩ 1 1 [.string S0] rfl rfl (fun _ _ hj => new_one hj) (fun u hu => by simp at hu; subst hu; rfl) (by rw [HLL.o]; omega) (by rw [HLL.o]; omega) ?_); intro A9 c9 w9 HO9 HK9 HG9; rw [HLL.o] at HO9 HG9 ⊢; have hK9 : Keeps (ownB (.slice A4 acc.length c4)) w7 w9 := HK9.undoalloc; have hb9 := hK9.obj HB7.o (HO7.o.ne_blk HB7.o (by decide)); have h9 : w9.cell? ⟨b, 0, none⟩ = some (.slice A4 acc.length c4) := blk_cell hb9 0; have f9 := blk_frozen hb9 0; have HP := Sd.mk (And.intro HO9 (And.intro hK9 (And.intro HG9 hb9))); clear HO9 HK9 HG9 hK9 hb9))
      go_roundg (gk - 1)
      case measure => omega
      case rel =>
        obtain ⟨HO9, hK9, HG9, hb9⟩ := HP.o
        have e1 : strs acc ++ [Value.string S0] = strs (acc ++ [s]) := by rw [← hSd.o, strs, strs, List.map_append]; simp [sOf_eq]
        have e2 : acc.length + 1 = (acc ++ [s]).length := by simp
        rw [e1] at HO9
        rw [e2] at HO9 HG9 ⊢
        have hF3 : Keeps (OneB b) w9 (w9.setCell ⟨b, 0, none⟩ (.slice A9 (acc ++ [s]).length c9)) := (Keeps.refl (OneB b) w9).setCell ⟨b, 0, none⟩ _ (fun _ => rfl)
        have hk7 : Keeps NoB w2 w7 := (HK.o.then HK6.o).then HK7.o
        have hT7 := HT6.o.kept HK7.o
        have hk9 : Keeps NoB w2 w9 := hk7.trans hK9 (fun _ _ f => f) (fun i hi f => by have := hT7.a0 i f; omega)
        exact ⟨k + 1, c9, acc ++ [s], A9, by omega, by go_num, by simp; omega, hst, ⟨blk_set hb9 0 _, HO9.keeps hF3 (fun k hk e => by
            have e' : k = b := e
            subst e'
            exact HO9.ne_blk hb9 (by decide) hk), hT7.b0, fun k hk => by
            rcases HG9 k hk with h | h
            · exact hT7.a0 k h
            · simp at h
              have := hk7.size
              omega⟩, ⟨hk9.trans hF3 (fun _ _ f => f) (fun i hi f => by cases f; have := hT7.b0; omega)⟩⟩
    · have hq1 : ¬ (k : Int) < (fs.length : Int) := by omega
      have hfin : Sd (loadL p = some acc) := ⟨by rw [HLD.o, List.drop_of_length_le (by omega)]; rfl⟩
      go_wp2
      go_ret3
      have hsz := HK2.o.size
      have hT := HT.o
      exact ⟨HK2.o.then HK.o, .inr ⟨acc, b, A4, c4, hfin.o, by rw [HAT.o]; rfl, ⟨hT.blk, hT.own, Nat.le_trans hsz hT.b0, fun k hk => Nat.le_trans hsz (hT.a0 k hk)⟩⟩⟩
end Go.Proofs.YtdjamijbhaplgaaGreat
