/- The document's frame and Bytes. -/
import Derived.Test.YthelafgdegkkkaaSymL
namespace Go.Proofs.Ythelafgdegkkkaa
open Go.RowKit Go.Maps

set_option maxHeartbeats 4000000 in
theorem trframe_any (w : World) (S : ByteArray) (hS : S.size ≤ 1000000) : Calls Try.prog 49 #[.string S] w fun e w' => ∃ A c, e = .returned (.slice A (frameL S.data.toList).length c) ∧ OwnV w' 5 (.slice A (frameL S.data.toList).length c) (bvs (frameL S.data.toList)) ∧ Fresh w (.slice A (frameL S.data.toList).length c) ∧ Keeps NoB w w' := by
  have hsz : S.data.toList.length = S.size := by rw [Array.length_toList]; rfl
  have hp10 := put1_len10 S.size (by omega)
  have hpt : put1 S.size ++ S.data.toList = put1T S.data.toList := by unfold put1T; rw [hsz]
  have hpl : (put1T S.data.toList).length ≤ 1000010 := by unfold put1T; rw [List.length_append, hsz]; omega
  have HPT := Sd.mk (rputtext_any w none 0 [] (Own.nil _ 0).v S (by simp; omega))
  rw [List.nil_append, hpt] at HPT
  obtain ⟨X, hX⟩ : ∃ X, X = put1T S.data.toList := ⟨_, rfl⟩
  have hfr : frameL S.data.toList = sealL X := by rw [hX]; rfl
  rw [← hX] at HPT hpl
  rw [hfr]
  clear hX hfr hpt hp10 hsz
  go_enter Try.func49, Try.ntmps49
  go_wp2_with fail
  refine HPT.o.mono ?_
  clear HPT
  rintro e w1 ⟨A1, c1, rfl, hO1, hK1, hG1⟩
  have HK1 : Sd (Keeps NoB w w1) := ⟨hK1.mono (fun i _ f => by simp [ownB, Value.ownBlock] at f)⟩
  have HC := Sd.mk (rseal_any w1 A1 c1 X hO1.bts)
  clear hO1 hK1 hG1
  go_wp2_with fail
  refine HC.o.mono ?_
  clear HC
  rintro e w2 (⟨hb, _⟩ | ⟨_, A2, c2, rfl, hO, hF, hK⟩)
  · omega
  obtain ⟨Y, hY⟩ : ∃ Y, Y = sealL X := ⟨_, rfl⟩
  have HY := Sd.mk hY
  rw [← hY] at hO hF ⊢
  clear hY
  have HP : Sd (OwnV w2 5 (.slice A2 Y.length c2) (bvs Y) ∧ Fresh w (.slice A2 Y.length c2) ∧ Keeps NoB w w2) := ⟨hO, fun k hk => by have := hF k hk; have := HK1.o.size; omega, HK1.o.then hK⟩
  clear hO hF hK
  go_wp2
  go_ret
  rw [← HY.o]
  exact ⟨A2, c2, rfl, HP.o⟩
set_option maxHeartbeats 4000000 in
set_option maxRecDepth 100000 in
theorem trbytes_any (w : World) (base b : Nat) (A : Option Addr) (c : Nat) (l : List (List UInt8)) (h : IsR w base b A c l) (hl : l.length ≤ 70000) (h64 : ∀ s ∈ l, s.length ≤ 64) (hne : 1 ≤ l.length) :
    Calls Try.prog 33 #[.pointer (some ⟨b, 0, none⟩)] w fun e w' => ∃ A' c', e = .returned (.slice A' (bytesL l).length c') ∧ OwnV w' 5 (.slice A' (bytesL l).length c') (bvs (bytesL l)) ∧ Fresh w (.slice A' (bytesL l).length c') ∧ Keeps NoB w w' := by
  have h0 : w.cell? ⟨b, 0, none⟩ = some (.slice A l.length c) := blk_cell h.blk 0
  have HV := Sd.mk h.own.vrd.2.2.2.2.2
  have HSZ := Sd.mk h64
  have HBY : Sd (bytesL l = (l.drop 1).flatMap frameL) := ⟨rfl⟩
  clear h h64
  go_enter Try.func33, Try.ntmps33
  go_wp2_with fail
  go_loopg [3, 4] l.length (fun gk v i wr => ∃ (k c : Nat) (ys : List UInt8) (A : Option Addr), gk + k = l.length + 1 ∧ 1 ≤ k ∧ i = .int .i64 k ∧ v = .slice A ys.length c ∧ ys.length ≤ 73 * k ∧ Sd (ys = ((l.drop 1).take (k - 1)).flatMap frameL) ∧ Sd (OwnV wr 5 (.slice A ys.length c) (bvs ys)) ∧ Sd (Keeps NoB w wr) ∧ Sd (Fresh w (.slice A ys.length c)))
  case atStart => exact ⟨1, 0, [], none, by omega, by omega, rfl, rfl, by simp, ⟨by simp⟩, ⟨(Own.nil _ 0).v⟩, ⟨Keeps.refl _ _⟩, ⟨fun k hk => by simp [Value.ownBlock] at hk⟩⟩
  case round =>
    obtain ⟨k, c0, ys, A3, hk, hk1, rfl, rfl, hyl, HY, HO, HKK, HF⟩ := hrel
    have h0' : wr.cell? ⟨b, 0, none⟩ = some (.slice A l.length c) := HKK.o.cell h0 (fun f => f)
    by_cases hlt : k < l.length
    · have hq1 : (k : Int) < (l.length : Int) := by omega
      obtain ⟨b1, o1, rfl, hc⟩ := HV.o k (by rw [strs_len]; exact hlt)
      have hc2 : wr.cell? ⟨b1, o1 + k, none⟩ = some (.string (sOf l[k])) := by rw [HKK.o.cell hc (fun f => f)]; simp [strs]
      have htk : Sd (((l.drop 1).take k).flatMap frameL = ys ++ frameL l[k]) := ⟨by
        obtain ⟨m, rfl⟩ : ∃ m, k = m + 1 := ⟨k - 1, by omega⟩
        have hm : m < (l.drop 1).length := by rw [List.length_drop]; omega
        rw [List.take_succ_eq_append_getElem hm, flatMap_snoc, HY.o]
        simp⟩
      have hs64 := HSZ.o _ (List.getElem_mem hlt)
      have hfl := frameL_len _ hs64
      clear hc
      generalize l[k] = s0 at *
      have HC := trframe_any wr (sOf s0) (by rw [sOf_size]; omega)
      rw [show (sOf s0).data.toList = s0 from rfl] at HC
      have HC2 := Sd.mk HC
      obtain ⟨S0, hS0⟩ : ∃ S0, S0 = sOf s0 := ⟨_, rfl⟩
      rw [← hS0] at HC2 hc2
      obtain ⟨X, hX⟩ : ∃ X, X = frameL s0 := ⟨_, rfl⟩
      rw [← hX] at HC2 hfl htk
      clear HC hS0 hX
      go_wp2_with fail
      refine HC2.o.mono ?_
      clear HC2
      rintro e w4 ⟨A4, c4, rfl, hO4, hF4, hK4⟩
      have HO4 := Sd.mk hO4
      have HK4 := Sd.mk hK4
      clear hO4 hF4 hK4
      go_wp2_with (at_builtin; go_must (refine app_any rfl _ _ 22 5 (.int .u8 0) 1 rfl Try.underlying22 infoU8' rfl (.slice A3 ys.length c0) (bvs ys) rfl (HO.o.kept HK4.o) A4 X.length c4 (bvs X) rfl (bvs_length X) (rd_vrd HO4.o.bts.rd.2.2.2.2.2) (bvs_one X) (by rw [bvs_length]; omega) (by rw [bvs_length]; omega) ?_); intro A6 c6 w6 HO6 HK6 HG6; have HP := Sd.mk (And.intro HO6 (And.intro HK6 HG6)); clear HO6 HK6 HG6)
      go_roundg (gk - 1)
      case measure => omega
      case rel =>
        obtain ⟨HO6, HK6, HG6⟩ := HP.o
        have e1 : (bvs ys).length + X.length = (ys ++ X).length := by rw [bvs_length, List.length_append]
        rw [e1] at HO6 HG6 ⊢
        rw [← bvs_append] at HO6
        have hk4 := HKK.o.then HK4.o
        exact ⟨k + 1, c6, ys ++ X, A6, by omega, by omega, by go_num, rfl, by rw [List.length_append]; omega, ⟨htk.o.symm⟩, ⟨HO6⟩, ⟨hk4.fresh HF.o HK6⟩, ⟨HF.o.grew hk4.size HG6⟩⟩
    · have hq1 : ¬ (k : Int) < (l.length : Int) := by omega
      have hfin : Sd (ys = bytesL l) := ⟨by rw [HY.o, HBY.o, List.take_of_length_le (by rw [List.length_drop]; omega)]⟩
      go_wp2
      go_ret
      rw [← hfin.o]
      exact ⟨A3, c0, rfl, HO.o, HF.o, HKK.o⟩
end Go.Proofs.Ythelafgdegkkkaa
