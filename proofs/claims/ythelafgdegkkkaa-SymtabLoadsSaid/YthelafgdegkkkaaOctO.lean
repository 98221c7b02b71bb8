/- the reference: Open. -/
import Derived.Test.YthelafgdegkkkaaOctN
import Derived.Test.YthelafgdegkkkaaApp
import Derived.Deep.RegionLaw
import Derived.Deep.DeepCutAuto
namespace Go.Proofs.Ythelafgdegkkkaa
open Go.RowKit

theorem sOf_toList (l : List UInt8) : (sOf l).toList = l := by rw [ByteArray.toList_eq]; rfl

set_option maxHeartbeats 4000000 in
set_option maxRecDepth 100000 in
theorem ropen_any (w : World) (A : Option Addr) (c : Nat) (p : List UInt8) (hb : Bts w (.slice A p.length c) p) (hl : p.length ≤ 140737488355328) :
    Calls Try.prog 45 #[.slice A p.length c] w fun e w' => ∃ A' c', e = .returned (.tuple #[.slice A' (openL p).1.length c', .int .i64 (openL p).2.1, .int .i64 (openL p).2.2]) ∧ OwnV w' 5 (.slice A' (openL p).1.length c') (bvs (openL p).1) ∧ Fresh w (.slice A' (openL p).1.length c') ∧ Keeps NoB w w' := by
  have HB := Sd.mk hb
  clear hb
  by_cases h4 : p.length < 4
  · have hq : (p.length : Int) < 4 := by omega
    have hf : Sd (openL p = ([], 0, 3)) := ⟨by unfold openL; rw [if_pos h4]⟩
    clear h4
    go_enter Try.func45, Try.ntmps45
    go_wp2
    go_ret3
    rw [hf.o]
    exact ⟨none, 0, rfl, (Own.nil _ 0).v, (fun k hk => by simp [Value.ownBlock] at hk), Keeps.refl _ _⟩
  · have hf : Sd (openL p = if 1048576 < be p then ([], 0, 1)
      else if p.length < be p + 8 then ([], 0, 3)
      else if (p.drop (4 + be p)).take 4 = turned (crc (p.take (4 + be p))) then ((p.drop 4).take (be p), be p + 8, 0)
      else ([], 0, 12)) := ⟨by unfold openL; rw [if_neg h4]⟩
    have hq : ¬ (p.length : Int) < 4 := by omega
    obtain ⟨b, o, rfl, g0⟩ := HB.o.rd.2.2.2.2.2 0 (by omega)
    have k0 : w.cell? ⟨b, o, none⟩ = some (.int .u8 (p[0].toNat : Int)) := g0
    have k1 : w.cell? ⟨b, o + 1, none⟩ = some (.int .u8 (p[1].toNat : Int)) := by obtain ⟨b', o', e, g⟩ := HB.o.rd.2.2.2.2.2 1 (by omega); cases e; exact g
    have k2 : w.cell? ⟨b, o + 2, none⟩ = some (.int .u8 (p[2].toNat : Int)) := by obtain ⟨b', o', e, g⟩ := HB.o.rd.2.2.2.2.2 2 (by omega); cases e; exact g
    have k3 : w.cell? ⟨b, o + 3, none⟩ = some (.int .u8 (p[3].toNat : Int)) := by obtain ⟨b', o', e, g⟩ := HB.o.rd.2.2.2.2.2 3 (by omega); cases e; exact g
    have hbe : Sd (be p = p[0].toNat * 16777216 + p[1].toNat * 65536 + p[2].toNat * 256 + p[3].toNat) := ⟨by
      unfold be; rw [getD_eq (by omega), getD_eq (by omega), getD_eq (by omega), getD_eq (by omega)]⟩
    have hi0 : 0 < p.length := by omega
    have hi1 : (1 : Int) < (p.length : Int) := by omega
    have hi2 : (2 : Int) < (p.length : Int) := by omega
    have hi3 : (3 : Int) < (p.length : Int) := by omega
    generalize p[0] = x0 at *
    generalize p[1] = x1 at *
    generalize p[2] = x2 at *
    generalize p[3] = x3 at *
    clear g0 h4
    have l0 : x0.toNat < 256 := x0.toNat_lt
    have l1 : x1.toNat < 256 := x1.toNat_lt
    have l2 : x2.toNat < 256 := x2.toNat_lt
    have l3 : x3.toNat < 256 := x3.toNat_lt
    go_enter Try.func45, Try.ntmps45
    have hor := or4_i64 _ _ _ _ l0 l1 l2 l3
    rw [← hbe.o] at hor
    have HOR := Sd.mk hor
    have hN32 : be p < 4294967296 := by rw [hbe.o]; omega
    clear hor
    go_wp2_with fail
    go_quiet (fail)
    rw [HOR.o]
    clear HOR hbe k0 k1 k2 k3 l0 l1 l2 l3 hi0 hi1 hi2 hi3
    generalize be p = N at *
    by_cases hN : 1048576 < N
    · have hq2 : (1048576 : Int) < (N : Int) := by omega
      rw [if_pos hN] at hf
      clear hN
      go_wp2
      go_ret3
      rw [hf.o]
      exact ⟨none, 0, rfl, (Own.nil _ 0).v, (fun k hk => by simp [Value.ownBlock] at hk), (Keeps.refl _ _).drewN _⟩
    · rw [if_neg hN] at hf
      have hq2 : ¬ (1048576 : Int) < (N : Int) := by omega
      have hN2 : N ≤ 1048576 := by omega
      by_cases hs : p.length < N + 8
      · have hq3 : (p.length : Int) < (N : Int) + 8 := by omega
        rw [if_pos hs] at hf
        clear hs hN
        go_wp2
        go_ret3
        rw [hf.o]
        exact ⟨none, 0, rfl, (Own.nil _ 0).v, (fun k hk => by simp [Value.ownBlock] at hk), (Keeps.refl _ _).drewN _⟩
      · have hq3 : ¬ (p.length : Int) < (N : Int) + 8 := by omega
        have hlen : N + 8 ≤ p.length := by omega
        rw [if_neg hs] at hf
        clear hs hN
        obtain ⟨i0, hi, hz0, hz1, hz2⟩ := info_parts infoU8
        have hcap := HB.o.rd.2.1
        have hsl : ∀ W : World, (Instr.slice 22 (.slice (some ⟨b, o, none⟩) p.length c) none (some (.int .i64 (4 + (N : Int)))) none).run Try.prog W = .ok (.slice (some ⟨b, o, none⟩) (4 + N) c) W := fun W =>
          slice_run_h 22 5 .i64 Try.underlying22 hi hz1 _ p.length c (4 + N) (fun _ a ha => by cases ha; rfl) (by omega) W _ (by omega)
        have hsl2 : ∀ W : World, (Instr.slice 22 (.slice (some ⟨b, o, none⟩) p.length c) (some (.int .i64 4)) (some (.int .i64 (4 + (N : Int)))) none).run Try.prog W = .ok (.slice (cutA (some ⟨b, o, none⟩) c 4) N (c - 4)) W := fun W => by
          have := slice_run 22 5 .i64 .i64 Try.underlying22 hi hz1 (some ⟨b, o, none⟩) p.length c 4 (4 + N) (by omega) (by omega) W 4 (4 + (N : Int)) rfl (by omega)
          rw [this, show 4 + N - 4 = N by omega]
        have hsl3 : ∀ W : World, (Instr.slice 22 (.slice (some ⟨b, o, none⟩) p.length c) (some (.int .i64 (4 + (N : Int)))) (some (.int .i64 (8 + (N : Int)))) none).run Try.prog W = .ok (.slice (cutA (some ⟨b, o, none⟩) c (4 + N)) 4 (c - (4 + N))) W := fun W => by
          have := slice_run 22 5 .i64 .i64 Try.underlying22 hi hz1 (some ⟨b, o, none⟩) p.length c (4 + N) (8 + N) (by omega) (by omega) W (4 + (N : Int)) (8 + (N : Int)) (by omega) (by omega)
          rw [this, show 8 + N - (4 + N) = 4 by omega]
        have hl4 : (p.take (4 + N)).length = 4 + N := by simp; omega
        have hl5 : ((p.drop (4 + N)).take 4).length = 4 := by simp; omega
        have hl6 : ((p.drop 4).take N).length = N := by simp; omega
        have HT := Sd.mk (HB.o.take (4 + N) (by omega))
        have hcut := HB.o.cut 4 (4 + N) (by omega) (by omega)
        rw [show 4 + N - 4 = N by omega] at hcut
        have HCut := Sd.mk hcut
        have hcut2 := HB.o.cut (4 + N) (8 + N) (by omega) (by omega)
        rw [show 8 + N - (4 + N) = 4 by omega] at hcut2
        have HC : Sd (∀ w', Keeps NoB w w' → (convert 22 9 (.slice (cutA (some ⟨b, o, none⟩) c (4 + N)) 4 (c - (4 + N)))).run Try.prog w' = .ok (.string (sOf ((p.drop (4 + N)).take 4))) w') := ⟨fun w' h => by
          have := conv_rd (P := Try.prog) w' 22 5 9 Try.underlying22 Try.underlying5 Try.underlying9 (cutA (some ⟨b, o, none⟩) c (4 + N)) _ (c - (4 + N)) (hcut2.keeps h (fun _ _ _ _ _ f => f)).rd.2.2.2.2.2
          rwa [hl5] at this⟩
        have hcl := crc_lt (p.take (4 + N))
        have HCR : Sd (∀ w', Keeps NoB w w' → Calls Try.prog 57 #[.slice (some ⟨b, o, none⟩) (4 + N) c] w' fun e w'' => e = .returned (.int .u32 (crc (p.take (4 + N)))) ∧ w' = w'') := ⟨fun w' h => by
          have := rcrc_any w' (some ⟨b, o, none⟩) c (p.take (4 + N)) (by rw [hl4]; exact HT.o.keeps h (fun _ _ _ _ _ f => f))
          rwa [hl4] at this⟩
        clear hi hz0 hz1 hz2 hcut hcut2 hl4
        generalize hXX : (p.drop (4 + N)).take 4 = X at *
        generalize crc (p.take (4 + N)) = C at *
        clear hXX
        obtain ⟨bb, hbb⟩ : ∃ bb, bb = ((sOf (turned C)).toList == (sOf X).toList) := ⟨_, rfl⟩
        have hcmp := hbb.symm
        have hs4 : IntKind.i64.wrap (4 + (N : Int)) = 4 + (N : Int) := IntWalk.i64_in _ (by omega)
        have hs8 : IntKind.i64.wrap (8 + (N : Int)) = 8 + (N : Int) := IntWalk.i64_in _ (by omega)
        have HBB := Sd.mk hbb
        clear hbb
        go_upto_region 8 with fail
        obtain ⟨w0, hw0⟩ : ∃ w0, w0 = w.drewN nq := ⟨_, rfl⟩
        rw [← hw0]
        have HK0 : Sd (Keeps NoB w w0) := ⟨by rw [hw0]; exact (Keeps.refl NoB w).drewN nq⟩
        clear hw0
        go_cut [52] (fun sx wx => sx = .bool (!bb) ∧ Sd (Keeps NoB w wx))
        case first =>
          have hq0 := HC.o w0.drew HK0.o.drew
          go_region_law
            (first
              | (go_simp; go_at_call 57
                 refine (HCR.o w0.drew HK0.o.drew).mono ?_
                 rintro e w' ⟨rfl, rfl⟩)
              | (go_simp; go_at_call 56
                 refine (rturned_any w0.drew C hcl).mono ?_
                 rintro e w3 ⟨A3, c3, rfl, hO3, hF3, hK3⟩
                 have hcv3 := conv_rd (P := Try.prog) w3 22 5 9 Try.underlying22 Try.underlying5 Try.underlying9 A3 (turned C) c3 hO3.bts.rd.2.2.2.2.2
                 have hq3 := HC.o w3 (HK0.o.drew.then hK3)
                 replace hK3 := Sd.mk (HK0.o.drew.then hK3)
                 clear hO3 hF3))
          all_goals (go_wp2_with fail; go_meet; exact ⟨rfl, hK3⟩)
        obtain ⟨rfl, HK1⟩ := hcut
        clear HK0 hcmp hsl hsl3 HC HCR HT hs4 hs8
        cases bb with
        | false =>
          have hno : ¬ X = turned C := fun e => by
            have := HBB.o
            rw [e] at this
            simp at this
          rw [if_neg hno] at hf
          clear hno
          go_wp2_with fail
          go_ret3
          rw [hf.o]
          exact ⟨none, 0, rfl, (Own.nil _ 0).v, (fun k hk => by simp [Value.ownBlock] at hk), HK1.o⟩
        | true =>
          have hyes : X = turned C := by
            have := HBB.o.symm
            rw [sOf_toList, sOf_toList] at this
            exact (eq_of_beq this).symm
          rw [if_pos hyes] at hf
          clear hyes
          have HL6 := Sd.mk hl6
          clear hl6 hl5
          generalize (p.drop 4).take N = Y at *
          go_wp2_with (at_builtin; go_must (refine app_lit0 rfl _ _ 22 5 (.int .u8 0) 1 rfl Try.underlying22 infoU8' rfl wc.heap.size rfl rfl (cutA (some ⟨b, o, none⟩) c 4) N (c - 4) (bvs Y) rfl (by rw [bvs_length]; exact HL6.o) (rd_vrd (HCut.o.keeps HK1.o (fun _ _ _ _ _ f => f)).rd.2.2.2.2.2) (bvs_one Y) (by omega) (by omega) ?_); intro A4 c4 w4 HO4 HK4 HF4; have HP4 := Sd.mk (And.intro HO4 (And.intro HK4 HF4)); clear HO4 HK4 HF4)
          go_ret3
          rw [hf.o]
          obtain ⟨HO4, HK4, HF4⟩ := HP4.o
          refine ⟨A4, c4, ?_, by rw [HL6.o]; exact HO4, by rw [HL6.o]; exact fun k hk => Nat.le_trans HK1.o.size (HF4 k hk), HK1.o.then HK4⟩
          rw [HL6.o]
          go_num
end Go.Proofs.Ythelafgdegkkkaa
