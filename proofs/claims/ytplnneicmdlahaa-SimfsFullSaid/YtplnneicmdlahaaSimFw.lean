/- SimfsFull: its walk. -/
import Derived.Test.YtplnneicmdlahaaSimTw
import Derived.Test.YtplnneicmdlahaaSimSc
import Derived.Deep.RegionHeld3
import Derived.Deep.RegionLaw
import Derived.Deep.DeepCutAuto
import Derived.Deep.CutBlock
namespace Go.Proofs.Ytplnneicmdlahaa
open Go.RowKit Go.Maps Go.Lib

/-- The worlds of a statement that writes. -/
def fwJ (W0 W1 W2 : World) (P : World → Prop) : Nat → World → Prop
  | 0, w => w = W0
  | 1, w => w = W1
  | 2, w => w = W2
  | _, w => P w
theorem fwJ.blk {w0 W0 W2 wx : World} {b c ga n : Nat} {o o' : Obj} {s t s' : FSt} (h : TwoAt w0 b c ga o s t W0) (k : Keeps NoB W0 W2) (hJ : fwJ W0 (W0.alloc o') W2 (fun w => TwoAt w0 b c ga o s' t w) n wx) : wx.heap[ga]? = some o := by
  match n, hJ with
  | 0, hJ => exact (show wx = W0 from hJ) ▸ h.blk
  | 1, hJ => exact (show wx = W0.alloc o' from hJ) ▸ ((Keeps.refl NoB W0).alloc o').obj h.blk (fun f => f)
  | 2, hJ => exact (show wx = W2 from hJ) ▸ k.obj h.blk (fun f => f)
  | n + 3, hJ => exact (show TwoAt w0 b c ga o s' t wx from hJ).blk
set_option maxHeartbeats 4000000 in
set_option maxRecDepth 100000 in
theorem full_walk (W : World) (cap : Int) (hcap : Is64 cap) (A : Option Addr) (c : Nat) (l : List ActM) (hA : ARd W A l) (hG : ∀ y ∈ l, y.Good W) (hl : l.length ≤ 9223372036854775807) :
    Calls Try.prog 4 #[.int .i64 cap, .slice A l.length c] W fun e W' => e = .returned (.bool true) ∧ Keeps NoB W W' := by
  have HA := Sd.mk hA
  have HG := Sd.mk hG
  obtain ⟨hcap0, hcap1⟩ := hcap
  clear hA hG
  go_enter Try.func4, Try.ntmps4
  cases hlong : longL l with
  | true =>
    have HLG := Sd.mk hlong
    clear hlong
    go_wp2_with (first | (go_at_call 18; refine (long_any W A c l HA.o HG.o hl).mono ?_; rw [HLG.o]; rintro e w1 ⟨rfl, hk⟩; have HK := Sd.mk hk; clear hk) | (go_at_call 5; refine (flive_any _).mono ?_; rintro e w2 ⟨rfl, hk2⟩; have HK2 := Sd.mk hk2; clear hk2))
    go_ret
    exact ⟨rfl, HK.o.then HK2.o⟩
  | false =>
  have HLG := Sd.mk hlong
  have HL60 := Sd.mk (longL_no hlong)
  clear hlong
  by_cases hc0 : cap < 0
  · go_wp2_with (first | (go_at_call 18; refine (long_any W A c l HA.o HG.o hl).mono ?_; rw [HLG.o]; rintro e w1 ⟨rfl, hk⟩; have HK := Sd.mk hk; clear hk) | (go_at_call 5; refine (flive_any _).mono ?_; rintro e w2 ⟨rfl, hk2⟩; have HK2 := Sd.mk hk2; clear hk2))
    go_ret
    exact ⟨rfl, HK.o.then HK2.o⟩
  by_cases hc1 : 10000 < cap
  · go_wp2_with (first | (go_at_call 18; refine (long_any W A c l HA.o HG.o hl).mono ?_; rw [HLG.o]; rintro e w1 ⟨rfl, hk⟩; have HK := Sd.mk hk; clear hk) | (go_at_call 5; refine (flive_any _).mono ?_; rintro e w2 ⟨rfl, hk2⟩; have HK2 := Sd.mk hk2; clear hk2))
    go_ret
    exact ⟨rfl, HK.o.then HK2.o⟩
  go_wp2_with (first | (go_at_call 18; refine (long_any W A c l HA.o HG.o hl).mono ?_; rw [HLG.o]; rintro e w1 ⟨rfl, hk⟩; have HK1 := Sd.mk hk; clear hk) | (go_at_call 6; refine (new_any _ cap (by omega) (by omega)).mono ?_; rintro e w2 ⟨m, rfl, hi, ho, hk⟩; have HN := Sd.mk (And.intro hi (And.intro ho hk)); clear hi ho hk) | (go_at_call 7; refine (num_law2 _ _).mono ?_; rintro e w' ⟨rfl, rfl⟩))
  have H0 : Sd (LiveAt W m.b (FSt.fresh cap) w2) := ⟨⟨m, rfl, HN.o.1, fun k hk => Nat.le_trans HK1.o.size (HN.o.2.1 k hk), HK1.o.then HN.o.2.2⟩⟩
  have I0 : Sd (Inv 0 (FSt.fresh cap)) := ⟨Inv.fresh (by omega) (by omega)⟩
  have R0 : Sd (Room (FSt.fresh cap)) := ⟨Room.fresh (by omega)⟩
  generalize m.b = b at *
  clear HN
  go_loopg [7, 8, 9, 10] l.length (fun gk i _ _ _ wr => ∃ (k : Nat) (s : FSt), gk + k = l.length ∧ i = .int .i64 k ∧ Sd (LiveAt W b s wr) ∧ Sd (Inv (2 * k) s) ∧ Sd (Room s) ∧ Sd (s.cap = cap))
  case atStart => exact ⟨0, _, by omega, rfl, H0, I0, R0, ⟨rfl⟩⟩
  case round =>
    obtain ⟨k, s, hk, rfl, H, I, R, HC⟩ := hrel
    have hl60 := HL60.o.1
    by_cases hlt : k < l.length
    case neg =>
      have hq1 : ¬ (k : Int) < (l.length : Int) := by omega
      go_wp2_with (go_at_call 5; refine (flive_any _).mono ?_; rintro e w3 ⟨rfl, hk3⟩; have HK3 := Sd.mk hk3; clear hk3)
      go_ret
      exact ⟨rfl, H.o.keeps.then HK3.o⟩
    have hq1 : (k : Int) < (l.length : Int) := by omega
    have hq0 : (0 : Int) ≤ (k : Int) := by omega
    obtain ⟨g, o, e, c0, c1, c2, c3, c4, c5, c6, c7, c8⟩ := (HA.o.kept H.o.keeps).at_ k hlt
    subst e
    have GY := Sd.mk (HG.o _ (List.getElem_mem hlt))
    have WY := Sd.mk (HL60.o.2 _ (List.getElem_mem hlt))
    generalize l[k] = y at *
    go_upto_region 10 with fail
    clear c0 c1 c2 c3 c4 c5 c6 c7 c8
    obtain ⟨ob, hob⟩ : ∃ ob : Obj, ob = (.cells #[.int .i64 y.kind, .string y.a, .string y.b, .int .i64 y.file, .int .i64 y.at_, .int .i64 y.n, .slice y.Ad y.data.length y.cd, .int .i64 y.dir, .slice y.At y.L.length y.ct] 48) := ⟨_, rfl⟩
    have HOB := Sd.mk hob
    go_upto_region 14 with (go_at_call 19; rw [← hob]; refine (ta_copy H.o I.o (by omega) ob).mono ?_; rintro e w5 ⟨cc, rfl, h⟩; have HT := Sd.mk h; clear h)
    have hb5 := HT.o.blk
    rw [hob] at hb5
    have d0 := blk_cell hb5 0
    generalize wr.heap.size = ga at *
    clear hb5 H hob
    go_upto_block 2 with fail
    clear d0
    go_cut [10] from 50 to 101 (fun gv wx => ∃ (s' : FSt) (gi : Int), gv = .int .i64 gi ∧ Sd (TwoAt W b cc ga ob s' s wx) ∧ Sd (Inv (2 * k + 2) s') ∧ Sd (Room s') ∧ Sd (s'.cap = cap) ∧ Sd (gi = 5 → s' = s ∧ y.data ≠ []))
    case first =>
      have hb5 := HT.o.blk
      rw [HOB.o] at hb5
      have d1 := blk_cell hb5 1
      have d2 := blk_cell hb5 2
      have d3 := blk_cell hb5 3
      have d4 := blk_cell hb5 4
      have d5 := blk_cell hb5 5
      have d6 := blk_cell hb5 6
      have hla : y.a.size ≤ 9223372036854775807 := by have := GY.o.la; omega
      have hlb : y.b.size ≤ 9223372036854775807 := by have := GY.o.lb; omega
      clear hb5
      by_cases h1 : y.kind = 1
      · have hq : (y.kind == 1) = true := by simp [h1]
        have HF := Sd.mk (R.o.create I.o y.a.data.toList)
        have HI := Sd.mk (I.o.create y.a.data.toList)
        clear h1
        go_wp2_with (go_at_call 8; refine (ta_create HT.o I.o (by omega) y.a hla).mono ?_; rintro e w6 ⟨rfl, h⟩; have HT6 := Sd.mk h; clear h)
        go_meet
        exact ⟨_, 0, rfl, HT6, HI, ⟨HF.o.1⟩, ⟨HF.o.2.trans HC.o⟩, ⟨fun e => absurd e (by decide)⟩⟩
      have hq1 : (y.kind == 1) = false := by simp [h1]
      by_cases h3 : y.kind = 3
      · have hq : (y.kind == 3) = true := by simp [h3]
        clear h1 h3
        go_wp2_with fail
        have HF := Sd.mk (R.o.write I.o y.file y.at_ y.data)
        have hyd : y.data.length ≤ 70368744177664 := by have h1 := WY.o; unfold ActM.weight at h1; omega
        have HI := Sd.mk ((I.o.write y.file y.at_ y.data hyd).mono (show 2 * k + 1 ≤ 2 * k + 2 by omega))
        obtain ⟨W0, hW0⟩ : ∃ W0, W0 = w5.drew := ⟨_, rfl⟩
        have HT0 : Sd (TwoAt W b cc ga ob s s W0) := ⟨by rw [hW0]; exact HT.o.kept (Keeps.refl NoB w5).drew⟩
        obtain ⟨A', c', W2, hr, hrow, hk2⟩ := bytes_copy W0 y.Ad y.cd y.data (GY.o.dat.keeps HT0.o.keeps (fun _ _ _ _ _ f => f)) (by omega)
        have HT2 := Sd.mk (HT0.o.kept hk2)
        have HROW := Sd.mk hrow
        have HJC : Sd (∀ n wx, fwJ W0 (W0.alloc (.cells #[] 5)) W2 (fun w => TwoAt W b cc ga ob (s.write y.file y.at_ y.data).2 s w) n wx → wx.cell? ⟨ga, 3, none⟩ = some (.int .i64 y.file) ∧ wx.cell? ⟨ga, 4, none⟩ = some (.int .i64 y.at_) ∧ wx.cell? ⟨ga, 6, none⟩ = some (.slice y.Ad y.data.length y.cd)) := ⟨fun n wx hJ => by
          have hb : wx.heap[ga]? = some ob := fwJ.blk HT0.o hk2 hJ
          rw [HOB.o] at hb
          exact ⟨blk_cell hb 3, blk_cell hb 4, blk_cell hb 6⟩⟩
        have HW0 := Sd.mk hW0
        clear hrow hk2 d1 d2 d3 d4 d5 d6 hW0
        refine wp_region_chain (J := fwJ W0 (W0.alloc (.cells #[] 5)) W2 (fun w => TwoAt W b cc ga ob (s.write y.file y.at_ y.data).2 s w)) (R := fun _ _ => True) [5, 8, 9] (fun _ => trivial) (by kernel_rfl) (by kernel_rfl) (by kernel_rfl) HW0.o.symm ?_
        apply chain_const
        · intro _; kernel_rfl
        · rfl
        · intro ss wx n hJ hF
          obtain ⟨k3, k4, k6⟩ := HJC.o n wx hJ
          clear hF
          unfold flowAt
          go_simp
          exact ⟨trivial, rfl, hJ⟩
        intro K hK
        go_simp
        refine hK _ ?_
        clear hK K
        apply chain_const
        · intro _; kernel_rfl
        · rfl
        · intro ss wx n hJ hF
          obtain ⟨k3, k4, k6⟩ := HJC.o n wx hJ
          clear hF
          unfold flowAt
          go_simp
          exact ⟨trivial, rfl, hJ⟩
        intro K hK
        go_simp
        refine hK _ ?_
        clear hK K
        apply chain_const
        · intro _; kernel_rfl
        · rfl
        · intro ss wx n hJ hF
          obtain ⟨k3, k4, k6⟩ := HJC.o n wx hJ
          clear hF
          unfold flowAt
          go_simp
          exact ⟨trivial, rfl, hJ⟩
        intro K hK
        go_simp
        refine hK _ ?_
        clear hK K
        apply chain_const
        · intro _; kernel_rfl
        · rfl
        · intro ss wx n hJ hF
          obtain ⟨k3, k4, k6⟩ := HJC.o n wx hJ
          clear hF
          unfold flowAt
          go_simp
          exact ⟨trivial, rfl, hJ⟩
        intro K hK
        go_simp
        refine hK _ ?_
        clear hK K
        apply chain_const
        · intro _; kernel_rfl
        · rfl
        · intro ss wx n hJ hF
          obtain ⟨k3, k4, k6⟩ := HJC.o n wx hJ
          clear hF
          unfold flowAt
          go_simp
          exact ⟨trivial, rfl, hJ⟩
        intro K hK
        go_simp
        refine hK _ ?_
        clear hK K
        apply chain_step 0 (.slice (some ⟨W0.heap.size, 0, none⟩) 0 0)
        · intro _; kernel_rfl
        · rfl
        · intro ss wx hJ hF
          clear hF
          have hJ' : wx = W0 := hJ
          subst hJ'
          unfold flowAt
          go_simp
          exact ⟨trivial, rfl, rfl⟩
        intro K hK
        go_simp
        refine hK _ ?_
        clear hK K
        apply chain_const
        · intro _; kernel_rfl
        · rfl
        · intro ss wx n hJ hF
          obtain ⟨k3, k4, k6⟩ := HJC.o n wx hJ
          clear hF
          unfold flowAt
          go_simp
          exact ⟨trivial, rfl, hJ⟩
        intro K hK
        go_simp
        refine hK _ ?_
        clear hK K
        apply chain_const
        · intro _; kernel_rfl
        · rfl
        · intro ss wx n hJ hF
          obtain ⟨k3, k4, k6⟩ := HJC.o n wx hJ
          clear hF
          unfold flowAt
          go_simp
          exact ⟨trivial, rfl, hJ⟩
        intro K hK
        go_simp
        refine hK _ ?_
        clear hK K
        apply chain_step 1 (.slice A' y.data.length c')
        · intro _; kernel_rfl
        · rfl
        · intro ss wx hJ hF
          clear hF
          have hJ' : wx = W0.alloc (.cells #[] 5) := hJ
          subst hJ'
          exact flowAt_append _ _ 22 rfl rfl rfl hr ⟨trivial, rfl, rfl⟩
        intro K hK
        go_simp
        refine hK _ ?_
        clear hK K
        apply chain_step 2 (.int .i64 (s.write y.file y.at_ y.data).1)
        · intro _; kernel_rfl
        · rfl
        · intro ss wx hJ hF
          clear hF
          have hJ' : wx = W2 := hJ
          subst hJ'
          unfold flowAt
          go_simp
          simp only [flowUpon]
          go_at_call 20
          refine (ta_write HT2.o I.o (by omega) y.file y.at_ GY.o.ka A' c' y.data HROW.o hyd).mono ?_
          rintro e w' ⟨rfl, h⟩
          exact ⟨_, rfl, trivial, rfl, h⟩
        intro K hK
        go_simp
        refine hK _ ?_
        clear hK K
        apply chain_const
        · intro _; kernel_rfl
        · rfl
        · intro ss wx n hJ hF
          have HJ := Sd.mk hJ
          clear hF hJ
          unfold flowAt
          go_simp
          simp only [flowUpon]
          go_at_call 7
          refine (num_law2 _ _).mono ?_
          rintro e w' ⟨rfl, rfl⟩
          exact ⟨_, rfl, trivial, rfl, HJ.o⟩
        intro K hK
        go_simp
        refine hK _ ?_
        clear hK K
        apply chain_const
        · intro _; kernel_rfl
        · rfl
        · intro ss wx n hJ hF
          obtain ⟨k3, k4, k6⟩ := HJC.o n wx hJ
          clear hF
          unfold flowAt
          go_simp
          exact ⟨trivial, rfl, hJ⟩
        intro K hK
        go_simp
        refine hK _ ?_
        clear hK K
        apply chain_nil
        intro s2 w6 hJ6 hF
        have HT6 : Sd (TwoAt W b cc ga ob (s.write y.file y.at_ y.data).2 s w6) := ⟨hJ6⟩
        clear hF hJ6 HJC
        go_simp
        go_wp2_with fail
        go_meet
        exact ⟨_, _, rfl, HT6, HI, ⟨HF.o.1⟩, ⟨HF.o.2.1.trans HC.o⟩, ⟨HF.o.2.2⟩⟩
      have hq3 : (y.kind == 3) = false := by simp [h3]
      by_cases h4 : y.kind = 4
      · have hq : (y.kind == 4) = true := by simp [h4]
        clear h1 h3 h4
        go_wp2_with fail
        have HF := Sd.mk (R.o.append I.o y.file y.data)
        have hyd : y.data.length ≤ 70368744177664 := by have h1 := WY.o; unfold ActM.weight at h1; omega
        have HI := Sd.mk ((I.o.append y.file y.data hyd).mono (show 2 * k + 1 ≤ 2 * k + 2 by omega))
        obtain ⟨W0, hW0⟩ : ∃ W0, W0 = w5.drew := ⟨_, rfl⟩
        have HT0 : Sd (TwoAt W b cc ga ob s s W0) := ⟨by rw [hW0]; exact HT.o.kept (Keeps.refl NoB w5).drew⟩
        obtain ⟨A', c', W2, hr, hrow, hk2⟩ := bytes_copy W0 y.Ad y.cd y.data (GY.o.dat.keeps HT0.o.keeps (fun _ _ _ _ _ f => f)) (by omega)
        have HT2 := Sd.mk (HT0.o.kept hk2)
        have HROW := Sd.mk hrow
        have HJC : Sd (∀ n wx, fwJ W0 (W0.alloc (.cells #[] 5)) W2 (fun w => TwoAt W b cc ga ob (s.append y.file y.data).2 s w) n wx → wx.cell? ⟨ga, 3, none⟩ = some (.int .i64 y.file) ∧ wx.cell? ⟨ga, 4, none⟩ = some (.int .i64 y.at_) ∧ wx.cell? ⟨ga, 6, none⟩ = some (.slice y.Ad y.data.length y.cd)) := ⟨fun n wx hJ => by
          have hb : wx.heap[ga]? = some ob := fwJ.blk HT0.o hk2 hJ
          rw [HOB.o] at hb
          exact ⟨blk_cell hb 3, blk_cell hb 4, blk_cell hb 6⟩⟩
        have HW0 := Sd.mk hW0
        clear hrow hk2 d1 d2 d3 d4 d5 d6 hW0
        refine wp_region_chain (J := fwJ W0 (W0.alloc (.cells #[] 5)) W2 (fun w => TwoAt W b cc ga ob (s.append y.file y.data).2 s w)) (R := fun _ _ => True) [3, 6, 7] (fun _ => trivial) (by kernel_rfl) (by kernel_rfl) (by kernel_rfl) HW0.o.symm ?_
        apply chain_const
        · intro _; kernel_rfl
        · rfl
        · intro ss wx n hJ hF
          obtain ⟨k3, k4, k6⟩ := HJC.o n wx hJ
          clear hF
          unfold flowAt
          go_simp
          exact ⟨trivial, rfl, hJ⟩
        intro K hK
        go_simp
        refine hK _ ?_
        clear hK K
        apply chain_const
        · intro _; kernel_rfl
        · rfl
        · intro ss wx n hJ hF
          obtain ⟨k3, k4, k6⟩ := HJC.o n wx hJ
          clear hF
          unfold flowAt
          go_simp
          exact ⟨trivial, rfl, hJ⟩
        intro K hK
        go_simp
        refine hK _ ?_
        clear hK K
        apply chain_const
        · intro _; kernel_rfl
        · rfl
        · intro ss wx n hJ hF
          obtain ⟨k3, k4, k6⟩ := HJC.o n wx hJ
          clear hF
          unfold flowAt
          go_simp
          exact ⟨trivial, rfl, hJ⟩
        intro K hK
        go_simp
        refine hK _ ?_
        clear hK K
        apply chain_step 0 (.slice (some ⟨W0.heap.size, 0, none⟩) 0 0)
        · intro _; kernel_rfl
        · rfl
        · intro ss wx hJ hF
          clear hF
          have hJ' : wx = W0 := hJ
          subst hJ'
          unfold flowAt
          go_simp
          exact ⟨trivial, rfl, rfl⟩
        intro K hK
        go_simp
        refine hK _ ?_
        clear hK K
        apply chain_const
        · intro _; kernel_rfl
        · rfl
        · intro ss wx n hJ hF
          obtain ⟨k3, k4, k6⟩ := HJC.o n wx hJ
          clear hF
          unfold flowAt
          go_simp
          exact ⟨trivial, rfl, hJ⟩
        intro K hK
        go_simp
        refine hK _ ?_
        clear hK K
        apply chain_const
        · intro _; kernel_rfl
        · rfl
        · intro ss wx n hJ hF
          obtain ⟨k3, k4, k6⟩ := HJC.o n wx hJ
          clear hF
          unfold flowAt
          go_simp
          exact ⟨trivial, rfl, hJ⟩
        intro K hK
        go_simp
        refine hK _ ?_
        clear hK K
        apply chain_step 1 (.slice A' y.data.length c')
        · intro _; kernel_rfl
        · rfl
        · intro ss wx hJ hF
          clear hF
          have hJ' : wx = W0.alloc (.cells #[] 5) := hJ
          subst hJ'
          exact flowAt_append _ _ 22 rfl rfl rfl hr ⟨trivial, rfl, rfl⟩
        intro K hK
        go_simp
        refine hK _ ?_
        clear hK K
        apply chain_step 2 (.int .i64 (s.append y.file y.data).1)
        · intro _; kernel_rfl
        · rfl
        · intro ss wx hJ hF
          clear hF
          have hJ' : wx = W2 := hJ
          subst hJ'
          unfold flowAt
          go_simp
          simp only [flowUpon]
          go_at_call 9
          refine (ta_append HT2.o I.o (by omega) y.file A' c' y.data HROW.o hyd).mono ?_
          rintro e w' ⟨rfl, h⟩
          exact ⟨_, rfl, trivial, rfl, h⟩
        intro K hK
        go_simp
        refine hK _ ?_
        clear hK K
        apply chain_const
        · intro _; kernel_rfl
        · rfl
        · intro ss wx n hJ hF
          have HJ := Sd.mk hJ
          clear hF hJ
          unfold flowAt
          go_simp
          simp only [flowUpon]
          go_at_call 7
          refine (num_law2 _ _).mono ?_
          rintro e w' ⟨rfl, rfl⟩
          exact ⟨_, rfl, trivial, rfl, HJ.o⟩
        intro K hK
        go_simp
        refine hK _ ?_
        clear hK K
        apply chain_const
        · intro _; kernel_rfl
        · rfl
        · intro ss wx n hJ hF
          obtain ⟨k3, k4, k6⟩ := HJC.o n wx hJ
          clear hF
          unfold flowAt
          go_simp
          exact ⟨trivial, rfl, hJ⟩
        intro K hK
        go_simp
        refine hK _ ?_
        clear hK K
        apply chain_nil
        intro s2 w6 hJ6 hF
        have HT6 : Sd (TwoAt W b cc ga ob (s.append y.file y.data).2 s w6) := ⟨hJ6⟩
        clear hF hJ6 HJC
        go_simp
        go_wp2_with fail
        go_meet
        exact ⟨_, _, rfl, HT6, HI, ⟨HF.o.1⟩, ⟨HF.o.2.1.trans HC.o⟩, ⟨HF.o.2.2⟩⟩
      have hq4 : (y.kind == 4) = false := by simp [h4]
      by_cases h5 : y.kind = 5
      · have hq : (y.kind == 5) = true := by simp [h5]
        have HF := Sd.mk (R.o.cutAt I.o y.file y.n)
        have HI := Sd.mk ((I.o.cutAt y.file y.n).mono (show 2 * k + 1 ≤ 2 * k + 2 by omega))
        clear h1 h3 h4 h5
        go_wp2_with (go_at_call 21; refine (ta_cut HT.o I.o (by omega) y.file y.n GY.o.kn).mono ?_; rintro e w6 ⟨rfl, h⟩; have HT6 := Sd.mk h; clear h)
        go_meet
        exact ⟨_, 0, rfl, HT6, HI, ⟨HF.o.1⟩, ⟨HF.o.2.trans HC.o⟩, ⟨fun e => absurd e (by decide)⟩⟩
      have hq5 : (y.kind == 5) = false := by simp [h5]
      by_cases h8 : y.kind = 8
      · have hq : (y.kind == 8) = true := by simp [h8]
        have HF := Sd.mk (R.o.rename y.a.data.toList y.b.data.toList)
        have HI := Sd.mk ((I.o.rename y.a.data.toList y.b.data.toList).mono (show 2 * k + 1 ≤ 2 * k + 2 by omega))
        clear h1 h3 h4 h5 h8
        go_wp2_with (go_at_call 13; refine (ta_rename HT.o I.o (by omega) y.a y.b hla hlb).mono ?_; rintro e w6 ⟨rfl, h⟩; have HT6 := Sd.mk h; clear h)
        go_meet
        exact ⟨_, 0, rfl, HT6, HI, ⟨HF.o.1⟩, ⟨HF.o.2.trans HC.o⟩, ⟨fun e => absurd e (by decide)⟩⟩
      have hq8 : (y.kind == 8) = false := by simp [h8]
      by_cases h9 : y.kind = 9
      · have hq : (y.kind == 9) = true := by simp [h9]
        have HF := Sd.mk (R.o.remove y.a.data.toList)
        have HI := Sd.mk ((I.o.remove y.a.data.toList).mono (show 2 * k + 1 ≤ 2 * k + 2 by omega))
        clear h1 h3 h4 h5 h8 h9
        go_wp2_with (go_at_call 22; refine (ta_remove HT.o I.o (by omega) y.a hla).mono ?_; rintro e w6 ⟨rfl, h⟩; have HT6 := Sd.mk h; clear h)
        go_meet
        exact ⟨_, 0, rfl, HT6, HI, ⟨HF.o.1⟩, ⟨HF.o.2.trans HC.o⟩, ⟨fun e => absurd e (by decide)⟩⟩
      have hq9 : (y.kind == 9) = false := by simp [h9]
      clear h1 h3 h4 h5 h8 h9
      go_wp2_with fail
      go_meet
      exact ⟨s, 0, rfl, HT, ⟨I.o.mono (by omega)⟩, R, HC, ⟨fun e => absurd e (by decide)⟩⟩
    case rest =>
      obtain ⟨s', gi, rfl, HT6, I6, R6, HC6, H5⟩ := hcut
      have hroom : ¬ cap < (s'.used : Int) := by
        have h1 : (s'.used : Int) ≤ s'.cap := R6.o
        rw [HC6.o] at h1
        omega
      clear HT
      by_cases h5 : gi = 5
      · subst h5
        obtain ⟨hs', hne⟩ := H5.o rfl
        subst hs'
        have hn : ((y.data.length : Nat) : Int) ≠ 0 := fun e => hne (List.eq_nil_of_length_eq_zero (by omega))
        have hnb : (((y.data.length : Nat) : Int) == 0) = false := by simpa using hne
        clear H5 hne
        go_wp2_with (first | (go_at_call 23; refine (ta_used HT6.o I6.o (by omega)).mono ?_; rintro e w7 ⟨rfl, hk⟩; have HT7 := Sd.mk (HT6.o.kept hk); clear hk) | (go_at_call 24; refine (ta_same HT7.o I6.o (by omega)).mono ?_; rintro e w8 ⟨rfl, hk⟩; have HT8 := Sd.mk (HT7.o.kept hk); have hb8 := HT8.o.blk; rw [HOB.o] at hb8; have d6 := blk_cell hb8 6; clear hb8 hk))
        go_roundg (gk - 1)
        case measure => omega
        case rel => exact ⟨k + 1, _, by omega, by go_num, ⟨HT8.o.live⟩, I6, R6, HC6⟩
      · have hq : (gi == 5) = false := by simp [h5]
        clear H5 h5
        go_wp2_with (go_at_call 23; refine (ta_used HT6.o I6.o (by omega)).mono ?_; rintro e w7 ⟨rfl, hk⟩; have HT7 := Sd.mk (HT6.o.kept hk); clear hk)
        go_roundg (gk - 1)
        case measure => omega
        case rel => exact ⟨k + 1, _, by omega, by go_num, ⟨HT7.o.live⟩, I6, R6, HC6⟩
end Go.Proofs.Ytplnneicmdlahaa
