/- The statements' tells: does a table tell what the document's does? -/
import Derived.Test.YthelafgdegkkkaaSymN
import Derived.Test.YthelafgdegkkkaaAfter
import Derived.Test.YthelafgdegkkkaaFlow
namespace Go.Proofs.Ythelafgdegkkkaa
open Go.RowKit Go.Maps

set_option maxHeartbeats 4000000 in
set_option maxRecDepth 100000 in
theorem tells_any (w : World) (base b mb : Nat) (A : Option Addr) (c : Nat) (l : List (List UInt8)) (ht : IsT w base b mb A c l) (base2 b2 : Nat) (A2 : Option Addr) (c2 : Nat) (hr : IsR w base2 b2 A2 c2 l) (hl : l.length ≤ 65536)
    (S : ByteArray) (hS : S.size ≤ 20000) (n : Int) (hn0 : -9223372036854775808 ≤ n) (hn1 : n ≤ 9223372036854775807) :
    Calls Try.prog 9 #[.pointer (some ⟨b, 0, none⟩), .pointer (some ⟨b2, 0, none⟩), .string S, .int .i64 n] w fun e w' => e = .returned (.bool true) ∧ Keeps NoB w w' := by
  have h0 : w.cell? ⟨b2, 0, none⟩ = some (.slice A2 l.length c2) := blk_cell hr.blk 0
  have HT := Sd.mk ht
  have HR := Sd.mk hr
  have HV := Sd.mk hr.own.vrd.2.2.2.2.2
  have HN1 := tnumber_any w base b mb A c l ht S (by omega)
  have HN2 := trnumber_any w base2 b2 A2 c2 l hr (by omega) S
  have hSl : S.toList = S.data.toList := by rw [ByteArray.toList_eq]
  rw [hSl] at HN2
  obtain ⟨x, hx⟩ : ∃ x, x = symAt l n := ⟨_, rfl⟩
  have HSA := tsymbol_any w base b mb A c l ht n
  rw [← hx] at HSA
  obtain ⟨X, f⟩ := x
  dsimp only at HSA
  obtain ⟨n1, hn1'⟩ : ∃ n1, n1 = numL l S.data.toList := ⟨_, rfl⟩
  obtain ⟨n2, hn2'⟩ : ∃ n2, n2 = numR l S.data.toList := ⟨_, rfl⟩
  obtain ⟨b1, hb1⟩ : ∃ b1, b1 = decide (S.data.toList ∈ l) := ⟨_, rfl⟩
  rw [← hn1', ← hb1] at HN1
  rw [← hn2'] at HN2
  have HNN : Sd (b1 = decide (0 ≤ n2) ∧ (n1 : Int) = max n2 0) := ⟨by
    unfold numL at hn1'
    unfold numR at hn2'
    by_cases h : S.data.toList ∈ l
    · rw [if_pos h] at hn1' hn2'
      rw [hb1, hn2', hn1', decide_eq_true h]
      exact ⟨(decide_eq_true (by omega)).symm, by omega⟩
    · rw [if_neg h] at hn1' hn2'
      rw [hb1, hn2', hn1', decide_eq_false h]
      exact ⟨by decide, by decide⟩⟩
  have HX := Sd.mk hx
  have HSAs := Sd.mk HSA
  have HN1s := Sd.mk HN1
  have HN2s := Sd.mk HN2
  clear ht hr HN1 HN2 hSl hx HSA hn1' hn2' hb1
  go_enter Try.func9, Try.ntmps9
  go_upto_region 6 with (first | (go_at_call 16; refine HN1s.o.mono ?_; rintro e w' ⟨rfl, rfl⟩) | (go_at_call 15; refine HSAs.o.mono ?_; rintro e w' ⟨rfl, rfl⟩) | (go_at_call 30; refine HN2s.o.mono ?_; rintro e w' ⟨rfl, m, rfl⟩))
  obtain ⟨bq, hbq⟩ : ∃ bq, bq = decide (0 ≤ n ∧ n < (l.length : Int)) := ⟨_, rfl⟩
  have HBQ := Sd.mk hbq
  clear hbq
  go_cut [41] from 31 to 41 (fun sx wx => sx = .bool bq ∧ Sd (wx = w.drewN m))
  case first =>
    by_cases hng : 0 ≤ n
    · by_cases hlt : n < (l.length : Int)
      · have hb : Sd (bq = true) := ⟨by rw [HBQ.o]; exact decide_eq_true ⟨hng, hlt⟩⟩
        go_wp2_with fail
        go_meet
        exact ⟨by rw [hb.o], ⟨rfl⟩⟩
      · have hb : Sd (bq = false) := ⟨by rw [HBQ.o]; exact decide_eq_false (fun h => hlt h.2)⟩
        go_wp2_with fail
        go_meet
        exact ⟨by rw [hb.o], ⟨rfl⟩⟩
    · have hb : Sd (bq = false) := ⟨by rw [HBQ.o]; exact decide_eq_false (fun h => hng h.1)⟩
      go_wp2_with fail
      go_meet
      exact ⟨by rw [hb.o], ⟨rfl⟩⟩
  obtain ⟨rfl, ⟨rfl⟩⟩ := hcut
  go_upto_if 41 with fail
  go_cut [14, 15] from 42 to 48 (fun sx sf wx => sx = .string (sOf X) ∧ sf = .int .i64 f ∧ Sd (wx = w.drewN m))
  case first =>
    cases hbq : bq with
    | true =>
      have hin : 0 ≤ n ∧ n < (l.length : Int) := of_decide_eq_true (HBQ.o.symm.trans hbq)
      obtain ⟨j, rfl⟩ := Int.eq_ofNat_of_zero_le hin.1
      have hlt : j < l.length := by omega
      obtain ⟨bb, o1, rfl, hc⟩ := HV.o j (by rw [strs_len]; exact hlt)
      have hXe : X = l[j] ∧ f = 0 := by
        have := HX.o
        unfold symAt at this
        rw [if_pos hin, Int.toNat_natCast, List.getD_eq_getElem?_getD, List.getElem?_eq_getElem hlt] at this
        simpa using this
      have hc2 : w.cell? ⟨bb, o1 + j, none⟩ = some (.string (sOf X)) := by rw [hc, hXe.1]; simp [strs]
      have hf := hXe.2
      subst hf
      have hq : (j : Int) < (l.length : Int) := by omega
      clear hc hXe hin
      subst hbq
      go_wp2_with fail
      go_meet
      exact ⟨rfl, rfl, ⟨rfl⟩⟩
    | false =>
      have hin : ¬ (0 ≤ n ∧ n < (l.length : Int)) := of_decide_eq_false (HBQ.o.symm.trans hbq)
      have hXe : X = [] ∧ f = 50 := by
        have := HX.o
        unfold symAt at this
        rw [if_neg hin] at this
        simpa using this
      obtain ⟨rfl, rfl⟩ := hXe
      clear hin
      subst hbq
      go_wp2_with fail
      go_meet
      exact ⟨rfl, rfl, ⟨rfl⟩⟩
  obtain ⟨rfl, rfl, ⟨rfl⟩⟩ := hcut
  go_upto_region 9 with fail
  have hlw : ∀ wx, Keeps NoB w wx → wx.cell? ⟨b2, 0, none⟩ = some (.slice A2 l.length c2) := fun wx hk => hk.cell h0 (fun f => f)
  have hqb : (b1 == decide (0 ≤ n2)) = true := by rw [HNN.o.1]; simp
  have hmx : ((n1 : Int) == max n2 0) = true := by rw [HNN.o.2]; simp
  refine wp_region_flow_lit (R := Keeps NoB) (w0 := w) (fun w => Keeps.refl _ w) (fun _ _ _ h k => h.then k) (by kernel_rfl) (by kernel_rfl) ((Keeps.refl _ _).drewN m).drew ?_
  repeat (first
    | (apply flow_skip
       · intro _; rfl
       intro K hK
       go_simp
       refine hK _ ?_
       clear hK K)
    | (apply flow_const
       · intro _; kernel_rfl
       · intro s wx hR hF
         have hc := hlw wx hR
         clear hF
         unfold flowAt
         go_simp
         first
           | exact ⟨Keeps.refl _ _, rfl⟩
           | (simp only [flowUpon]
              first
                | (go_at_call 14
                   refine (tlen_any wx base b mb A c l (HT.o.kept hR)).mono ?_
                   rintro e w' ⟨rfl, rfl⟩
                   exact ⟨_, rfl, Keeps.refl _ _, rfl⟩)
                | (go_at_call 8
                   refine (num_law wx f).mono ?_
                   rintro e w' ⟨rfl, rfl⟩
                   exact ⟨_, rfl, Keeps.refl _ _, rfl⟩))
       intro K hK
       go_simp
       refine hK _ ?_
       clear hK K)
    | (apply flow_any (p := fun v wx => ∃ A' c', v = .slice A' l.length c' ∧ OwnV wx 9 (.slice A' l.length c') (strs l))
       · intro _; kernel_rfl
       · rintro v wx wy _ hk ⟨A', c', e, ho⟩
         exact ⟨A', c', e, ho.kept hk⟩
       · intro s wx hR hF
         clear hF
         unfold flowAt
         go_simp
         simp only [flowUpon]
         go_at_call 32
         refine (tall_any wx base b mb A c l (HT.o.kept hR) (by omega)).mono ?_
         rintro e w' ⟨A', c', rfl, ho, _, hk⟩
         exact ⟨_, rfl, hk, A', c', rfl, ho⟩
       intro K hK
       go_simp
       refine hK _ ?_
       clear hK K)
    | (apply flow_const
       · intro _; kernel_rfl
       · intro s wx hR hF
         have hc := hlw wx hR
         obtain ⟨A', c', e9, ho⟩ : ∃ A' c', s 10 = .slice A' l.length c' ∧ OwnV wx 9 (.slice A' l.length c') (strs l) := hF 10 (by kernel_rfl)
         clear hF
         unfold flowAt
         go_simp
         simp only [flowUpon]
         go_at_call 31
         refine (rtexts_any wx A' A2 c' c2 l l ho.vrd.2.2.2.2.2 (HR.o.kept hR).own.vrd.2.2.2.2.2 (by omega) (by omega)).mono ?_
         rintro e w' ⟨rfl, k, rfl⟩
         refine ⟨_, rfl, (Keeps.refl _ _).drewN k, ?_⟩
         rw [decide_eq_true rfl]
       intro K hK
       go_simp
       refine hK _ ?_
       clear hK K)
    | (apply flow_any (p := fun v wx => ∃ A' c', v = .slice A' (bytesL l).length c' ∧ OwnV wx 5 (.slice A' (bytesL l).length c') (bvs (bytesL l)))
       · intro _; kernel_rfl
       · rintro v wx wy _ hk ⟨A', c', e, ho⟩
         exact ⟨A', c', e, ho.kept hk⟩
       · intro s wx hR hF
         clear hF
         unfold flowAt
         go_simp
         simp only [flowUpon]
         first
           | (go_at_call 13
              refine (tbytes_any wx base b mb A c l (HT.o.kept hR) (by omega)).mono ?_
              rintro e w' ⟨A', c', rfl, ho, _, hk⟩
              exact ⟨_, rfl, hk, A', c', rfl, ho⟩)
           | (go_at_call 33
              refine (trbytes_any wx base2 b2 A2 c2 l (HR.o.kept hR) (by omega) HT.o.sz (List.length_pos_iff.2 HT.o.ne)).mono ?_
              rintro e w' ⟨A', c', rfl, ho, _, hk⟩
              exact ⟨_, rfl, hk, A', c', rfl, ho⟩)
       intro K hK
       go_simp
       refine hK _ ?_
       clear hK K)
    | (apply flow_const
       · intro _; kernel_rfl
       · intro s wx hR hF
         first
           | (obtain ⟨A', c', e9, ho⟩ : ∃ A' c', s 19 = .slice A' (bytesL l).length c' ∧ OwnV wx 5 (.slice A' (bytesL l).length c') (bvs (bytesL l)) := hF 19 (by kernel_rfl)
              have hcv := cv_bts ho.bts
              clear hF
              unfold flowAt
              go_simp
              exact ⟨Keeps.refl _ _, rfl⟩)
           | (obtain ⟨A', c', e9, ho⟩ : ∃ A' c', s 22 = .slice A' (bytesL l).length c' ∧ OwnV wx 5 (.slice A' (bytesL l).length c') (bvs (bytesL l)) := hF 22 (by kernel_rfl)
              have hcv := cv_bts ho.bts
              clear hF
              unfold flowAt
              go_simp
              exact ⟨Keeps.refl _ _, rfl⟩)
       intro K hK
       go_simp
       refine hK _ ?_
       clear hK K))
  refine flow_nil ?_
  intro s wy hkw hF
  clear hF
  go_wp2
  go_ret
  exact ⟨rfl, hkw⟩
end Go.Proofs.Ythelafgdegkkkaa
