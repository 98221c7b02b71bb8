/- octet: Open. -/
import Derived.Test.YtdjamijbhaplgaaOctJ
namespace Go.Proofs.Ytdjamijbhaplgaa
open Go.RowKit

theorem getD_eq {p : List UInt8} {i : Nat} (h : i < p.length) : p.getD i 0 = p[i] := by simp [List.getD, h]
set_option maxHeartbeats 4000000 in
set_option maxRecDepth 100000 in
theorem open_any (w : World) (A : Option Addr) (c : Nat) (p : List UInt8) (hb : Bts w (.slice A p.length c) p) (hl : p.length ≤ 140737488355328) :
    Calls Try.prog 50 #[.slice A p.length c] w fun e w' => ∃ A' c', e = .returned (.tuple #[.slice A' (openL p).1.length c', .int .i64 (openL p).2.1, .int .i64 (openL p).2.2]) ∧ OwnV w' 5 (.slice A' (openL p).1.length c') (bvs (openL p).1) ∧ Fresh w (.slice A' (openL p).1.length c') ∧ Keeps NoB w w' := by
  have HB := Sd.mk hb
  clear hb
  by_cases h4 : p.length < 4
  · have hq : (p.length : Int) < 4 := by omega
    have hf : Sd (openL p = ([], 0, 3)) := ⟨by unfold openL; rw [if_pos h4]⟩
    clear h4
    go_enter Try.func50, Try.ntmps50
    go_wp2
    go_ret3
    rw [hf.o]
    exact ⟨none, 0, rfl, (Own.nil _ 0).v, (fun k hk => by simp [Value.ownBlock] at hk), Keeps.refl _ _⟩
  · have hf : Sd (openL p = if 1048576 < be p then ([], 0, 1)
      else if p.length < be p + 8 then ([], 0, 3)
      else if (p.drop (4 + be p)).take 4 = turned (crc (p.take (4 + be p))) then ((p.drop 4).take (be p), be p + 8, 0)
      else ([], 0, 12)) := ⟨by unfold openL; rw [if_neg h4]⟩
    have hq : ¬ (p.length : Int) < 4 := by omega
    obtain ⟨b, o, rfl, g0⟩ := HB.o.rd.2.2.2.2.2 0 (by omega)
    have k0 : w.cell? ⟨b, o, none⟩ = some (.int .u8 (p[0].toNat : Int)) := g0
    have k1 : w.cell? ⟨b, o + 1, none⟩ = some (.int .u8 (p[1].toNat : Int)) := by obtain ⟨b', o', e, g⟩ := HB.o.rd.2.2.2.2.2 1 (by omega); cases e; exact g
    have k2 : w.cell? ⟨b, o + 2, none⟩ = some (.int .u8 (p[2].toNat : Int)) := by obtain ⟨b', o', e, g⟩ := HB.o.rd.2.2.2.2.2 2 (by omega); cases e; exact g
    have k3 : w.cell? ⟨b, o + 3, none⟩ = some (.int .u8 (p[3].toNat : Int)) := by obtain ⟨b', o', e, g⟩ := HB.o.rd.2.2.2.2.2 3 (by omega); cases e; exact g
    have hbe : Sd (be p = p[0].toNat * 16777216 + p[1].toNat * 65536 + p[2].toNat * 256 + p[3].toNat) := ⟨by
      unfold be; rw [getD_eq (by omega), getD_eq (by omega), getD_eq (by omega), getD_eq (by omega)]⟩
    have hi0 : 0 < p.length := by omega
    have hi1 : (1 : Int) < (p.length : Int) := by omega
    have hi2 : (2 : Int) < (p.length : Int) := by omega
    have hi3 : (3 : Int) < (p.length : Int) := by omega
    generalize p[0] = x0 at *
    generalize p[1] = x1 at *
    generalize p[2] = x2 at *
    generalize p[3] = x3 at *
    clear g0 h4
    have l0 : x0.toNat < 256 := x0.toNat_lt
    have l1 : x1.toNat < 256 := x1.toNat_lt
    have l2 : x2.toNat < 256 := x2.toNat_lt
    have l3 : x3.toNat < 256 := x3.toNat_lt
    go_enter Try.func50, Try.ntmps50
    have hor := or4_i64 _ _ _ _ l0 l1 l2 l3
    rw [← hbe.o] at hor
    have HOR := Sd.mk hor
    have hN32 : be p < 4294967296 := by rw [hbe.o]; omega
    clear hor
    go_wp2_with fail
    go_quiet (fail)
    rw [HOR.o]
    clear HOR hbe k0 k1 k2 k3 l0 l1 l2 l3 hi0 hi1 hi2 hi3
    generalize be p = N at *
    by_cases hN : 1048576 < N
    · have hq2 : (1048576 : Int) < (N : Int) := by omega
      rw [if_pos hN] at hf
      clear hN
      go_wp2
      go_ret3
      rw [hf.o]
      exact ⟨none, 0, rfl, (Own.nil _ 0).v, (fun k hk => by simp [Value.ownBlock] at hk), (Keeps.refl _ _).drewN _⟩
    · rw [if_neg hN] at hf
      have hq2 : ¬ (1048576 : Int) < (N : Int) := by omega
      have hN2 : N ≤ 1048576 := by omega
      by_cases hs : p.length < N + 8
      · have hq3 : (p.length : Int) < 4 + (N : Int) + 4 := by omega
        rw [if_pos hs] at hf
        clear hs hN
        go_wp2
        go_ret3
        rw [hf.o]
        exact ⟨none, 0, rfl, (Own.nil _ 0).v, (fun k hk => by simp [Value.ownBlock] at hk), (Keeps.refl _ _).drewN _⟩
      · have hq3 : ¬ (p.length : Int) < 4 + (N : Int) + 4 := by omega
        have hlen : N + 8 ≤ p.length := by omega
        rw [if_neg hs] at hf
        clear hs hN
        obtain ⟨i0, hi, hz0, hz1, hz2⟩ := info_parts infoU8
        have hcap := HB.o.rd.2.1
        have hsl : ∀ W : World, (Instr.slice 26 (.slice (some ⟨b, o, none⟩) p.length c) none (some (.int .i64 (4 + (N : Int)))) none).run Try.prog W = .ok (.slice (some ⟨b, o, none⟩) (4 + N) c) W := fun W =>
          slice_run_h 26 5 .i64 Try.underlying26 hi hz1 _ p.length c (4 + N) (fun _ a ha => by cases ha; rfl) (by omega) W _ (by omega)
        have hsl2 : ∀ W : World, (Instr.slice 26 (.slice (some ⟨b, o, none⟩) p.length c) (some (.int .i64 4)) (some (.int .i64 (4 + (N : Int)))) none).run Try.prog W = .ok (.slice (cutA (some ⟨b, o, none⟩) c 4) N (c - 4)) W := fun W => by
          have := slice_run 26 5 .i64 .i64 Try.underlying26 hi hz1 (some ⟨b, o, none⟩) p.length c 4 (4 + N) (by omega) (by omega) W 4 (4 + (N : Int)) rfl (by omega)
          rw [this, show 4 + N - 4 = N by omega]
        have hl4 : (p.take (4 + N)).length = 4 + N := by simp; omega
        have HT := Sd.mk (HB.o.take (4 + N) (by omega))
        have HCut := Sd.mk (HB.o.cut 4 (4 + N) (by omega) (by omega))
        clear hi hz0 hz1 hz2
        go_wp2_with fail
        have HC := crc_any ((w.drewN nq).alloc (.cells #[.slice (some ⟨b, o, none⟩) (4 + N) c] 26)) (some ⟨w.heap.size, 0, none⟩) 1 [p.take (4 + N)] (by
          have := LRd.one (w := w.drewN nq) (A := some ⟨b, o, none⟩) (c := c) (xs := p.take (4 + N)) (by rw [hl4]; exact HT.o) 26
          rw [hl4] at this
          exact this) (by simp)
        refine HC.mono ?_
        clear HC
        rintro e w2 ⟨rfl, rfl⟩
        have ef : [p.take (4 + N)].flatten = p.take (4 + N) := by simp
        rw [ef]
        clear ef
        have hcl := crc_lt (p.take (4 + N))
        generalize crc (p.take (4 + N)) = C at *
        clear hsl
        have HB1 : Sd (Bts ((w.drewN nq).alloc (.cells #[.slice (some ⟨b, o, none⟩) (4 + N) c] 26)) (.slice (some ⟨b, o, none⟩) p.length c) p) := ⟨HB.o.keeps (((Keeps.refl NoB w).drewN nq).alloc _) (fun _ _ _ _ _ f => f)⟩
        have HK1 : Sd (Keeps NoB w ((w.drewN nq).alloc (.cells #[.slice (some ⟨b, o, none⟩) (4 + N) c] 26))) := ⟨((Keeps.refl NoB w).drewN nq).alloc _⟩
        clear HT
        go_wp2_with fail
        generalize (w.drewN nq).alloc (.cells #[.slice (some ⟨b, o, none⟩) (4 + N) c] 26) = w1 at *
        go_loopg [48] 4 (fun gk i wr => ∃ (k m : Nat), gk + k = 4 ∧ i = .int .i64 k ∧ k ≤ 4 ∧ Sd ((p.drop (4 + N)).take k = (turned C).take k) ∧ Sd (wr = w1.drewN m))
        case atStart => exact ⟨0, 0, rfl, rfl, by omega, ⟨by simp⟩, ⟨rfl⟩⟩
        case round =>
          obtain ⟨k, m, hk, rfl, hk4, hpre, ⟨rfl⟩⟩ := hrel
          by_cases hlt : k < 4
          · have hq4 : (k : Int) < 4 := by omega
            have hpl : 4 + N + k < p.length := by omega
            obtain ⟨b', o', e', hc⟩ := HB1.o.rd.2.2.2.2.2 (4 + N + k) hpl
            cases e'
            have hc' : w1.cell? ⟨b, o + (4 + N + k), none⟩ = some (.int .u8 (p[4 + N + k].toNat : Int)) := hc
            have hdl : k < (p.drop (4 + N)).length := by simp; omega
            have hdg : (p.drop (4 + N))[k] = p[4 + N + k] := by simp
            have ht := turned_at C k hlt
            have htl : k < (turned C).length := hlt
            have h1 : IntKind.i64.wrap (4 + (N : Int) + (k : Int)) = 4 + (N : Int) + (k : Int) := IntWalk.i64_in _ (by omega)
            have h2 : 4 + (N : Int) + (k : Int) < (p.length : Int) := by omega
            have h3 : 0 ≤ 4 + (N : Int) + (k : Int) := by omega
            have h4 : (4 + (N : Int) + (k : Int)).toNat = 4 + N + k := by omega
            have h5 : IntKind.i64.wrap (8 * (k : Int)) = 8 * (k : Int) := IntWalk.i64_in _ (by omega)
            have h6 : 0 ≤ 8 * (k : Int) := by omega
            have h7 : 8 * (k : Int) ≤ 32 := by omega
            have h8 : (8 * (k : Int)).toNat = 8 * k := by omega
            have hpow : ((C : Int) / 2 ^ (8 * k) % 256) = ((C / 2 ^ (8 * k) % 256 : Nat) : Int) := by push_cast; rfl
            by_cases he : p[4 + N + k] = (turned C)[k]
            · have hst : Sd ((p.drop (4 + N)).take (k + 1) = (turned C).take (k + 1)) := ⟨take_snoc _ _ k hdl htl hpre.o (by rw [hdg]; exact he)⟩
              have hval : ((p[4 + N + k].toNat : Int) != (C : Int) / 2 ^ (8 * k) % 256) = false := by rw [hpow, he, ht]; simp
              clear hc hdg ht he hdl htl hpow
              generalize p[4 + N + k] = cc at *
              go_wp2_with fail
              go_quiet (fail)
              clear h1 h2 h3 h4 h5 h6 h7 h8
              go_wp2_with fail
              go_roundg (gk - 1)
              case measure => omega
              case rel => exact ⟨k + 1, _, by omega, by go_num, by omega, hst, ⟨rfl⟩⟩
            · have hval : ((p[4 + N + k].toNat : Int) != (C : Int) / 2 ^ (8 * k) % 256) = true := by
                rw [hpow, ← ht]
                simp only [bne_iff_ne, ne_eq]
                intro e
                exact he (UInt8.toNat_inj.1 (by omega))
              have hno : ¬ (p.drop (4 + N)).take 4 = turned C := ne_of_at _ _ k 4 hdl htl hlt (by rw [hdg]; exact he)
              rw [if_neg hno] at hf
              clear hc hdg ht he hdl htl hpow hno
              generalize p[4 + N + k] = cc at *
              go_wp2_with fail
              go_quiet (fail)
              clear h1 h2 h3 h4 h5 h6 h7 h8
              go_wp2_with fail
              go_ret3
              rw [hf.o]
              exact ⟨none, 0, rfl, (Own.nil _ 0).v, (fun k hk => by simp [Value.ownBlock] at hk), (HK1.o.drewN _).drewN _⟩
          · have hq4 : ¬ (k : Int) < 4 := by omega
            have he4 : k = 4 := by omega
            have hyes : (p.drop (4 + N)).take 4 = turned C := by
              have := hpre.o
              rw [he4] at this
              rw [this]; exact List.take_of_length_le (by rw [turned_len]; omega)
            rw [if_pos hyes] at hf
            clear he4 hyes
            have HCl := Sd.mk (clone_any (w1.drewN m) (cutA (some ⟨b, o, none⟩) c 4) N (c - 4) ((p.drop 4).take N) (by
              have := (HCut.o.keeps HK1.o (fun _ _ _ _ _ f => f))
              rw [show 4 + N - 4 = N by omega] at this
              exact this) (by simp; omega))
            go_wp2_with fail
            refine HCl.o.mono ?_
            clear HCl
            rintro e w2 ⟨A', c', rfl, hO, hBl⟩
            have HP := Sd.mk (And.intro hO hBl)
            clear hO hBl
            go_wp2
            go_ret3
            rw [hf.o]
            refine ⟨A', c', by go_num, HP.o.1.v, fun k hk => Nat.le_trans HK1.o.size (World.ownsRow.lt HP.o.1 k hk).1, HK1.o.then (Keeps.undrew (Keeps.of_below HP.o.2 _))⟩
end Go.Proofs.Ytdjamijbhaplgaa
