/- OctetTorn: the walk. -/
import Derived.Test.YtlnmjeiiagkipaaWFrames
import Derived.Test.YtlnmjeiiagkipaaOctT
import Derived.Test.YtlnmjeiiagkipaaAfter
import Derived.Deep.RegionLaw
import Derived.Deep.DeepCutAuto
namespace Go.Proofs.Ytlnmjeiiagkipaa
open Go.RowKit
theorem infoInt : (Try.prog.info? 3).map (fun i => (i.zero, i.size, i.bytes)) = some (some (.int .i64 0), 1, 8) := by kernel_rfl
theorem LRd.take {w : World} {A : Option Addr} {ls : List (List UInt8)} (h : LRd w A ls) (k : Nat) : LRd w A (ls.take k) := by
  obtain ⟨vs, hl, hv, hb⟩ := h
  refine ⟨vs.take k, by simp [hl], fun i hi => ?_, fun i hi hi' => ?_⟩
  · rw [List.length_take] at hi
    obtain ⟨b, o, e, hc⟩ := hv i (by omega)
    exact ⟨b, o, e, by rw [hc]; simp⟩
  · rw [List.length_take] at hi
    simp only [List.getElem_take]
    exact hb i (by omega) (by omega)
/-- The ends of frames. -/
def endsV (ls : List (List UInt8)) (n : Nat) : List Value := (List.range n).map fun j => Value.int .i64 ((flatS (ls.take j)).length : Nat)
theorem endsV_len (ls : List (List UInt8)) (n : Nat) : (endsV ls n).length = n := by simp [endsV]
theorem endsV_snoc (ls : List (List UInt8)) (n : Nat) : endsV ls (n + 1) = endsV ls n ++ [Value.int .i64 ((flatS (ls.take n)).length : Nat)] := by simp [endsV, List.range_succ]
theorem endsV_at (ls : List (List UInt8)) (n j : Nat) (h : j < (endsV ls n).length) : (endsV ls n)[j] = Value.int .i64 ((flatS (ls.take j)).length : Nat) := by simp [endsV]
theorem flatS_take_le (ls : List (List UInt8)) (k : Nat) : (flatS (ls.take k)).length ≤ (flatS ls).length := by
  have e : ls = ls.take k ++ ls.drop k := (List.take_append_drop k ls).symm
  have e2 : flatS ls = flatS (ls.take k) ++ flatS (ls.drop k) := (congrArg flatS e).trans (flatS_app _ _)
  rw [e2, List.length_append]; omega
end Go.Proofs.Ytlnmjeiiagkipaa
namespace Go.Proofs.Ytlnmjeiiagkipaa.octetTorn
open Go.RowKit
set_option maxHeartbeats 16000000 in
set_option maxRecDepth 100000 in
theorem walk (w : World) (A0 : Option Addr) (c0 : Nat) (ls : List (List UInt8)) (h0 : LRd w A0 ls) (hls : ∀ s ∈ ls, s.length ≤ 140737488351232) (cut : Int) (hc0 : -9223372036854775808 ≤ cut) (hc1 : cut ≤ 9223372036854775807)
    (l0 : ls.length ≤ c0) (l1 : c0 ≤ 9223372036854775807) (hsp : 0 < c0 → ∀ a, A0 = some a → a.spot = none) :
    Calls Try.prog 7 #[.slice A0 ls.length c0, .int .i64 cut] w fun e w' => e = .returned (.bool true) ∧ Keeps NoB w w' := by
  have H0 := Sd.mk h0
  have HL := Sd.mk hls
  have HSP := Sd.mk hsp
  clear h0 hls hsp
  go_enter Try.func7, Try.ntmps7
  go_wp2_with fail
  refine (huge_any w A0 c0 ls H0.o HL.o (by omega)).mono ?_
  rintro e w' ⟨bb, rfl, rfl, hbb⟩
  cases bb with
  | true =>
    clear hbb
    go_wp2_with (go_at_call 12; refine (live_any _).mono ?_; rintro e w' ⟨rfl, hk'⟩)
    go_ret
    exact ⟨rfl, hk'⟩
  | false =>
  obtain ⟨hl60, hfl⟩ := hbb rfl
  clear hbb
  have HFL := Sd.mk hfl
  have hflat := flatS_len ls
  have hPl : (flatS ls).length ≤ 20480 := by omega
  have HPL := Sd.mk hPl
  clear hfl hflat hPl
  have HLS : Sd (∀ m ∈ ls, m.length ≤ 1048576) := ⟨fun m hm => by
    have := List.sublist_flatten_of_mem hm
    have := this.length_le
    have := HFL.o
    omega⟩
  have HSEAL : Sd (∀ (w' : World) (A : Option Addr) (c : Nat) (l : List UInt8), Bts w' (.slice A l.length c) l → l.length ≤ 1048576 → Calls Try.prog 10 #[.slice (some ⟨w'.heap.size, 0, none⟩) 1 1] (w'.alloc (.cells #[.slice A l.length c] 22)) (fun e w'' => ∃ A c, e = .returned (.tuple #[.slice A (sealL l).length c, .int .i64 0]) ∧ Bts w'' (.slice A (sealL l).length c) (sealL l) ∧ Keeps NoB w' w'')) := ⟨fun w' A c l hb hl => (seal_any _ _ 1 [l] (LRd.one hb 22) (by simp)).mono fun e w'' hh => by
    have ef : [l].flatten = l := by simp
    rw [ef] at hh
    rcases hh with ⟨hb, _⟩ | ⟨_, A, c, he, hO, _, hK⟩
    · omega
    · exact ⟨A, c, he, hO.bts, hK.undoalloc⟩⟩
  go_wp2_with fail
  go_loopg [5, 6, 7] ls.length (fun gk v u i wr => ∃ (k c d : Nat) (ys : List UInt8) (A B : Option Addr), gk + k = ls.length ∧ i = .int .i64 k ∧ v = .slice A ys.length c ∧ u = .slice B (k + 1) d ∧ ys.length ≤ 20480 ∧ Sd (ys = flatS (ls.take k)) ∧ Sd (OwnV wr 5 (.slice A ys.length c) (bvs ys)) ∧ Sd (OwnV wr 3 (.slice B (k + 1) d) (endsV ls (k + 1))) ∧ Sd (Keeps NoB w wr) ∧ Sd (Fresh w (.slice A ys.length c)) ∧ Sd (Fresh w (.slice B (k + 1) d)))
  case atStart =>
    refine ⟨0, 0, 1, [], none, _, by omega, rfl, rfl, rfl, by simp, ⟨by simp [flatS]⟩, ⟨(Own.nil w 0).v.kept ((Keeps.refl NoB w).alloc _)⟩, ⟨?_⟩, ⟨(Keeps.refl NoB w).alloc _⟩, ⟨fun k hk => by simp [Value.ownBlock] at hk⟩, ⟨fresh_lit w 1 1⟩⟩
    exact own_lit w 3 [.int .i64 0] (by decide)
  case round =>
    obtain ⟨k, c, d, ys, A, B, hk, rfl, rfl, rfl, hyl, HY, HO, HE, HK, HF, HG⟩ := hrel
    by_cases hlt : k < ls.length
    · have hq1 : (k : Int) < (ls.length : Int) := by omega
      obtain ⟨b1, o1, A2, c2, rfl, hc, hb⟩ := (H0.o.kept HK.o).at_ k hlt
      have htk : Sd (flatS (ls.take (k + 1)) = ys ++ sealL ls[k]) := ⟨by rw [List.take_succ_eq_append_getElem hlt, flatS_snoc, HY.o]⟩
      have hll : ys.length + (sealL ls[k]).length ≤ 20480 := by
        have h1 := flatS_take_le ls (k + 1)
        have h2 := HPL.o
        rw [htk.o, List.length_append] at h1
        omega
      have HS := Sd.mk (HSEAL.o wr A2 c2 ls[k] hb (HLS.o _ (List.getElem_mem hlt)))
      clear hb
      generalize ls[k] = l0 at *
      go_wp2_with fail
      refine HS.o.mono ?_
      clear HS hc
      rintro e w2 ⟨A3, c3, rfl, hb3, hk3⟩
      generalize sealL l0 = S at *
      have HB3 := Sd.mk hb3
      have HK3 := Sd.mk hk3
      clear hb3 hk3
      have hel := endsV_len ls (k + 1)
      have HEL := Sd.mk hel
      clear hel
      go_wp2_with (first
        | (go_at_call 11; refine (num_law _ _).mono ?_; rintro e w' ⟨rfl, rfl⟩)
        | (at_builtin
           refine app_any (o := ⟨some 38, _, _, _, _, _⟩) rfl _ _ 22 5 (.int .u8 0) 1 rfl Try.underlying22 infoU8' rfl (.slice A ys.length c) (bvs ys) rfl (HO.o.kept HK3.o) A3 S.length c3 (bvs S) rfl (bvs_length S) (rd_vrd HB3.o.rd.2.2.2.2.2) (bvs_one S) (by rw [bvs_length]; omega) (by rw [bvs_length]; omega) ?_
           intro A4 c4 w4 HO4 HK4 HG4
           obtain ⟨zs, hzs⟩ : ∃ zs, zs = ys ++ S := ⟨_, rfl⟩
           rw [show (bvs ys).length + S.length = zs.length by rw [bvs_length, hzs, List.length_append]] at HO4 HG4 ⊢
           rw [← bvs_append, ← hzs] at HO4
           have hzl : zs.length ≤ 20480 := by rw [hzs, List.length_append]; omega
           have HZ := Sd.mk hzs
           have HE4 : Sd (OwnV w4 3 (.slice B (k + 1) d) (endsV ls (k + 1))) := ⟨(HE.o.kept HK3.o).keeps HK4 ((HO.o.kept HK3.o).ne (HE.o.kept HK3.o) (by decide))⟩
           have HP := Sd.mk (And.intro HO4 (And.intro HK4 HG4))
           clear HO4 HK4 HG4 hzs)
        | (at_builtin
           refine app_row (o := ⟨some 43, _, _, _, _, _⟩) rfl _ _ 68 3 (.int .i64 0) 8 rfl Try.underlying68 infoInt rfl (.slice B (k + 1) d) (endsV ls (k + 1)) rfl (HE4.o.kept ((Keeps.refl NoB w4).alloc _)) ⟨_, 0, none⟩ 1 1 [.int .i64 (zs.length : Nat)] rfl rfl (fun _ _ hj => new_one hj) one1 (by rw [HEL.o]; omega) (by rw [HEL.o]; omega) ?_
           intro A5 c5 w5 HO5 HK5 HG5
           rw [HEL.o] at HO5 HG5 ⊢
           have HQ := Sd.mk (And.intro HO5 (And.intro HK5 HG5))
           clear HO5 HK5 HG5))
      go_roundg (gk - 1)
      case measure => omega
      case rel =>
        obtain ⟨HO4, HK4, HG4⟩ := HP.o
        obtain ⟨HO5, HK5, HG5⟩ := HQ.o
        have hK5' : Keeps (ownB (.slice B (k + 1) d)) w4 w5 := HK5.undoalloc
        have hz : zs = flatS (ls.take (k + 1)) := by rw [HZ.o, htk.o]
        have hK3 : Keeps NoB w w2 := HK.o.then HK3.o
        have hK4 : Keeps NoB w w4 := hK3.fresh HF.o HK4
        refine ⟨k + 1, c4, c5, zs, A4, A5, by omega, by go_num, rfl, rfl, hzl, ⟨hz⟩, ⟨HO4.keeps hK5' (HE4.o.ne HO4 (by decide))⟩, ⟨?_⟩, ⟨hK4.fresh HG.o hK5'⟩, ⟨HF.o.grew hK3.size HG4⟩, ⟨HG.o.grew hK4.size HG5.undoalloc⟩⟩
        rw [endsV_snoc, ← hz]
        exact HO5
    · have hq1 : ¬ (k : Int) < (ls.length : Int) := by omega
      have hke : k = ls.length := by omega
      subst hke
      have hy : ys = flatS ls := by rw [HY.o, List.take_length]
      have HY2 := Sd.mk hy
      clear HY hlt hk hy
      by_cases g1 : cut < 0
      · have hq2 : decide (cut < 0) = true := by simpa using g1
        go_wp2_with (go_at_call 12; refine (live_any _).mono ?_; rintro e w' ⟨rfl, hk'⟩)
        go_ret
        exact ⟨rfl, HK.o.then hk'⟩
      obtain ⟨cn, rfl⟩ : ∃ cn : Nat, cut = cn := ⟨cut.toNat, by omega⟩
      have hq2 : decide ((cn : Int) < 0) = false := by simp
      by_cases g2 : ys.length < cn
      · have hq3 : decide (ys.length < cn) = true := by simpa using g2
        go_wp2_with (go_at_call 12; refine (live_any _).mono ?_; rintro e w' ⟨rfl, hk'⟩)
        go_ret
        exact ⟨rfl, HK.o.then hk'⟩
      have hq3 : decide (ys.length < cn) = false := by simpa using g2
      have hcl : cn ≤ ys.length := by omega
      clear g1 g2 hc0 hc1
      have hev := HE.o.vrd
      have HEV := Sd.mk hev.2.2.2.2.2
      clear hev
      obtain ⟨w1, hw1⟩ : ∃ w1, w1 = wr := ⟨_, rfl⟩
      subst hw1
      go_wp2_with fail
      go_loopg [10] (ls.length + 1) (fun gk i wr => ∃ (j : Nat), gk + j = ls.length + 1 ∧ i = .int .i64 j ∧ j ≤ ls.length ∧ Sd ((flatS (ls.take j)).length ≤ cn) ∧ Sd (wr = w1))
      case atStart => exact ⟨0, by omega, rfl, by omega, ⟨by simp [flatS]⟩, ⟨rfl⟩⟩
      case round =>
        obtain ⟨j, hj, rfl, hj1, hcut, ⟨rfl⟩⟩ := hrel
        by_cases hgo : j < ls.length ∧ (flatS (ls.take (j + 1))).length ≤ cn
        · obtain ⟨hlt, hle0⟩ := hgo
          have hr1 : decide ((j : Int) + 1 < (ls.length : Int) + 1) = true := by simp; omega
          obtain ⟨b1, o1, rfl, hc⟩ := HEV.o (j + 1) (by have := endsV_len ls (ls.length + 1); omega)
          rw [endsV_at] at hc
          obtain ⟨E, hE⟩ : ∃ E, E = (flatS (ls.take (j + 1))).length := ⟨_, rfl⟩
          rw [← hE] at hc hle0
          have HEE := Sd.mk hE
          clear hE
          have hEl : E ≤ 20480 := by rw [HEE.o]; have := flatS_take_le ls (j + 1); have := HPL.o; omega
          have i0 : (0 : Int) ≤ (j : Int) + 1 := by omega
          have i1 : (j : Int) + 1 < (ls.length : Int) + 1 := by omega
          have i2 : ((j : Int) + 1).toNat = j + 1 := by omega
          have hr3 : decide (E ≤ cn) = true := by simpa using hle0
          go_wp2_with fail
          go_roundg (gk - 1)
          case measure => omega
          case rel => exact ⟨j + 1, by omega, by go_num, by omega, ⟨by rw [← HEE.o]; exact hle0⟩, ⟨rfl⟩⟩
        · have hfr := framesL_torn ls j cn HLS.o hj1 hcut.o (by rw [← HY2.o]; exact hcl) (fun h => by
            by_cases h2 : cn < (flatS (ls.take (j + 1))).length
            · exact h2
            · exact absurd ⟨h, by omega⟩ hgo)
          rw [← HY2.o] at hfr
          have hcap := HO.o.vrd.2.1
          have hspp := HO.o.vrd.2.2.2.2.1
          obtain ⟨i0, hi, hz0, hz1, hz2⟩ := info_parts infoU8
          obtain ⟨i9, hi9, hz09, hz19, hz29⟩ := info_parts infoBs
          have hslp : ∀ W : World, (Instr.slice 22 (.slice A ys.length c) none (some (.int .i64 (cn : Int))) none).run Try.prog W = .ok (.slice A cn c) W := fun W =>
            slice_run_h 22 5 .i64 Try.underlying22 hi hz1 A ys.length c cn (fun _ a ha => (hspp a ha).1) (by omega) W _ rfl
          have hsll : ∀ W : World, (Instr.slice 54 (.slice A0 ls.length c0) none (some (.int .i64 (j : Int))) none).run Try.prog W = .ok (.slice A0 j c0) W := fun W =>
            slice_run_h 54 22 .i64 Try.underlying54 hi9 hz19 A0 ls.length c0 j HSP.o (by omega) W _ rfl
          have htl : (ys.take cn).length = cn := by rw [List.length_take]; omega
          have hjl : (ls.take j).length = j := by rw [List.length_take]; omega
          have HFR := Sd.mk (frames_any wr A c (ys.take cn) (by rw [htl]; exact HO.o.bts.take cn hcl) (by rw [htl]; omega))
          rw [hfr, htl] at HFR
          dsimp only at HFR
          rw [hjl] at HFR
          obtain ⟨b1, o1, rfl, hce⟩ := HEV.o j (by have := endsV_len ls (ls.length + 1); omega)
          rw [endsV_at] at hce
          have HLT := Sd.mk (H0.o.take j)
          obtain ⟨ms, hms⟩ : ∃ ms, ms = ls.take j := ⟨_, rfl⟩
          rw [← hms] at HFR hjl HLT hce hcut
          have HJL := Sd.mk hjl
          have hcut2 := hcut.o
          clear hi hz0 hz1 hz2 hi9 hz09 hz19 hz29 htl hfr hcap hspp hms hjl hcut
          generalize (flatS ms).length = E0 at *
          have j0 : (0 : Int) ≤ (j : Int) := by omega
          have j1 : (j : Int) < (ls.length : Int) + 1 := by omega
          obtain ⟨bq, er, hbe⟩ : ∃ (bq : Bool) (er : Int), ((cn : Int) == (E0 : Int)) = bq ∧ (er == 0) = bq ∧ (if cn = E0 then (0 : Int) else 3) = er := by
            by_cases h : cn = E0
            · exact ⟨true, 0, by simp [h], rfl, by simp [h]⟩
            · exact ⟨false, 3, by simp; omega, rfl, by simp [h]⟩
          obtain ⟨hbq, hbe, her⟩ := hbe
          rw [her] at HFR
          clear her
          have HSM : Sd (∀ (w' : World) (A' : Option Addr) (c' : Nat), LRd w' A' ms → Keeps NoB w w' → Calls Try.prog 34 #[.slice A' j c', .slice A0 j c0] w' fun e w'' => e = .returned (.bool true) ∧ ∃ n, w'' = w'.drewN n) := ⟨fun w' A' c' hl hk => by
            have h := rsame_any w' A' A0 c' c0 ms ms hl (HLT.o.kept hk) (by rw [HJL.o]; omega) (by rw [HJL.o]; omega)
            rw [HJL.o, show decide (ms = ms) = true by simp] at h
            exact h⟩
          have hsplit : (j < ls.length ∧ ∃ E : Nat, E ≤ 20480 ∧ decide (E ≤ cn) = false ∧ wr.cell? ⟨b1, o1 + (j + 1), none⟩ = some (.int .i64 (E : Nat))) ∨ j = ls.length := by
            by_cases hlt : j < ls.length
            · left
              obtain ⟨b1', o1', e', hc⟩ := HEV.o (j + 1) (by have := endsV_len ls (ls.length + 1); omega)
              cases e'
              rw [endsV_at] at hc
              refine ⟨hlt, _, ?_, ?_, hc⟩
              · have := flatS_take_le ls (j + 1); have := HPL.o; omega
              · simp; by_cases h2 : cn < (flatS (ls.take (j + 1))).length
                · exact h2
                · exact absurd ⟨hlt, by omega⟩ hgo
            · right; omega
          have HGO := Sd.mk hgo
          clear hgo
          rcases hsplit with ⟨hlt, E, hEl, hr3, hc⟩ | hje
          · have hr1 : decide ((j : Int) + 1 < (ls.length : Int) + 1) = true := by simp; omega
            have i0 : (0 : Int) ≤ (j : Int) + 1 := by omega
            have i1 : (j : Int) + 1 < (ls.length : Int) + 1 := by omega
            have i2 : ((j : Int) + 1).toNat = j + 1 := by omega
            go_wp2_with fail
            refine HFR.o.mono ?_
            clear HFR hslp
            rintro e w2 ⟨A2, c2, rfl, hL2, _, hK2⟩
            have HL2 := Sd.mk hL2.lrd.2
            have hce2 : w2.cell? ⟨b1, o1 + j, none⟩ = some (.int .i64 (E0 : Nat)) := hK2.cell hce (fun f => f)
            have HK2 := Sd.mk (HK.o.then hK2)
            have HSM2 := Sd.mk (fun x : After w2 => HSM.o x.w A2 c2 (HL2.o.kept x.k) (HK2.o.then x.k))
            have hce3 : ∀ x : After w2, x.w.cell? ⟨b1, o1 + j, none⟩ = some (.int .i64 (E0 : Nat)) := fun x => x.cell hce2
            clear hL2 hK2 hce HSM hce2
            go_wp2_with fail
            refine wp_region_after w2 (Keeps.refl _ _) (by kernel_rfl) (by kernel_rfl) ?_
            repeat (go_big_quiet_step (first
              | (go_at_call 34; exact Calls.after_drew (HSM2.o _))
              | (go_at_call 11; exact Calls.after_same (num_law _ _))
              | (go_at_call 12; exact Calls.after (live_any _))))
            refine wpQuiet_nil ?_
            rintro _ ⟨x, rfl⟩
            go_wp2_with fail
            go_ret
            exact ⟨rfl, HK2.o.then x.k⟩
          · have hr1 : decide ((j : Int) + 1 < (ls.length : Int) + 1) = false := by simp; omega
            have hr4 : decide (j < ls.length) = false := by simp; omega
            have HJE := Sd.mk hje
            clear hje
            go_wp2_with fail
            refine HFR.o.mono ?_
            clear HFR hslp
            rintro e w2 ⟨A2, c2, rfl, hL2, _, hK2⟩
            have HL2 := Sd.mk hL2.lrd.2
            have hce2 : w2.cell? ⟨b1, o1 + j, none⟩ = some (.int .i64 (E0 : Nat)) := hK2.cell hce (fun f => f)
            have HK2 := Sd.mk (HK.o.then hK2)
            have HSM2 := Sd.mk (fun x : After w2 => HSM.o x.w A2 c2 (HL2.o.kept x.k) (HK2.o.then x.k))
            have hce3 : ∀ x : After w2, x.w.cell? ⟨b1, o1 + j, none⟩ = some (.int .i64 (E0 : Nat)) := fun x => x.cell hce2
            clear hL2 hK2 hce HSM hce2
            go_wp2_with fail
            refine wp_region_after w2 (Keeps.refl _ _) (by kernel_rfl) (by kernel_rfl) ?_
            repeat (go_big_quiet_step (first
              | (go_at_call 34; exact Calls.after_drew (HSM2.o _))
              | (go_at_call 11; exact Calls.after_same (num_law _ _))
              | (go_at_call 12; exact Calls.after (live_any _))))
            refine wpQuiet_nil ?_
            rintro _ ⟨x, rfl⟩
            go_wp2_with fail
            go_ret
            exact ⟨rfl, HK2.o.then x.k⟩
end Go.Proofs.Ytlnmjeiiagkipaa.octetTorn
