/- symtab: Bytes, Load. -/
import Derived.Test.YtdjamijbhaplgaaSymC
namespace Go.Proofs.Ytdjamijbhaplgaa
open Go.RowKit Go.Maps

theorem VRd.drop {w : World} {A : Option Addr} {vs : List Value} (h : VRd w A vs) (c lo : Nat) (hc : vs.length ≤ c) : VRd w (cutA A c lo) (vs.drop lo) := by
  intro i hi
  rw [List.length_drop] at hi
  obtain ⟨b, o, rfl, hcell⟩ := h (lo + i) (by omega)
  have hne : c ≠ lo := by omega
  refine ⟨b, o + lo, by simp [cutA, hne, add_lit], ?_⟩
  rw [show o + lo + i = o + (lo + i) by omega, hcell]
  simp
theorem strs_drop (l : List (List UInt8)) (n : Nat) : (strs l).drop n = strs (l.drop n) := by simp [strs, List.map_drop]
theorem frameL_len (s : List UInt8) (h : s.length ≤ 64) : (frameL s).length ≤ 73 := by
  unfold frameL
  rw [sealL_len]
  unfold put1T
  rw [put1_lt _ (by omega)]
  simp; omega
theorem flatMap_snoc {α β : Type} (f : α → List β) (l : List α) (x : α) : (l ++ [x]).flatMap f = l.flatMap f ++ f x := by simp

set_option maxHeartbeats 4000000 in
set_option maxRecDepth 100000 in
theorem tbytes_any (w : World) (base b mb : Nat) (A : Option Addr) (c : Nat) (l : List (List UInt8)) (h : IsT w base b mb A c l) (hl : l.length ≤ 70000) :
    Calls Try.prog 15 #[.pointer (some ⟨b, 0, none⟩)] w fun e w' => ∃ A' c', e = .returned (.slice A' (bytesL l).length c') ∧ OwnV w' 5 (.slice A' (bytesL l).length c') (bvs (bytesL l)) ∧ Fresh w (.slice A' (bytesL l).length c') ∧ Keeps NoB w w' := by
  have H := Sd.mk h
  have hne : 1 ≤ l.length := List.length_pos_iff.2 h.ne
  have hmin : min (1 : Int) (l.length : Int) = 1 := by omega
  have HC := Sd.mk (tall_any w base b mb A c l h (by omega))
  clear h
  obtain ⟨i0, hi, hz0, hz1, hz2⟩ := info_parts infoStr
  go_enter Try.func15, Try.ntmps15
  go_wp2_with fail
  refine HC.o.mono ?_
  clear HC
  rintro e w2 ⟨A2, c2, rfl, hO, hF, hK⟩
  have hcap : l.length ≤ c2 := by have := hO.vrd; omega
  have hsl : ∀ W : World, (Instr.slice 37 (.slice A2 l.length c2) (some (.int .i64 1)) none none).run Try.prog W = .ok (.slice (cutA A2 c2 1) (l.length - 1) (c2 - 1)) W := fun W =>
    slice_run_l 37 9 .i64 Try.underlying37 hi hz1 A2 l.length c2 1 (by omega) W _ rfl
  obtain ⟨ss, hss⟩ : ∃ ss, ss = l.drop 1 := ⟨_, rfl⟩
  have hsn : l.length - 1 = ss.length := by rw [hss, List.length_drop]
  rw [hsn] at hsl
  have HV : Sd (VRd w2 (cutA A2 c2 1) (strs ss)) := ⟨by
    have := hO.vrd.2.2.2.2.2.drop c2 1 (by rw [strs_len]; exact hcap)
    rwa [strs_drop, ← hss] at this⟩
  have HSZ : Sd (∀ s ∈ ss, s.length ≤ 64) := ⟨fun s hs => H.o.sz s (List.mem_of_mem_drop (hss ▸ hs))⟩
  have HBY : Sd (bytesL l = ss.flatMap frameL) := ⟨by rw [hss]; rfl⟩
  have HK2 := Sd.mk hK
  have HT2 := Sd.mk (H.o.kept hK)
  have hsl2 : ss.length ≤ 70000 := by omega
  clear hO hF hK hss hi hz0 hz1 hz2 hsn hcap
  go_wp2_with (go_at_call 13; refine (tlen_any _ _ _ _ _ _ _ HT2.o).mono ?_; rintro e w' ⟨rfl, rfl⟩)
  generalize cutA A2 c2 1 = A5 at *
  go_loopg [2, 12] ss.length (fun gk v i wr => ∃ (k c : Nat) (ys : List UInt8) (A : Option Addr), gk + k = ss.length ∧ i = .int .i64 k ∧ v = .slice A ys.length c ∧ ys.length ≤ 73 * k ∧ Sd (ys = (ss.take k).flatMap frameL) ∧ Sd (OwnV wr 5 (.slice A ys.length c) (bvs ys)) ∧ Sd (Keeps NoB w2 wr) ∧ Sd (Fresh w2 (.slice A ys.length c)))
  case atStart => exact ⟨0, 0, [], none, by omega, rfl, rfl, by simp, ⟨by simp⟩, ⟨(Own.nil _ 0).v⟩, ⟨Keeps.refl _ _⟩, ⟨fun k hk => by simp [Value.ownBlock] at hk⟩⟩
  case round =>
    obtain ⟨k, c, ys, A3, hk, rfl, rfl, hyl, HY, HO, HKK, HF⟩ := hrel
    by_cases hlt : k < ss.length
    · have hq1 : (k : Int) < (ss.length : Int) := by omega
      obtain ⟨b1, o1, rfl, hc⟩ := HV.o k (by rw [strs_len]; exact hlt)
      have hc2 : wr.cell? ⟨b1, o1 + k, none⟩ = some (.string (sOf ss[k])) := by rw [HKK.o.cell hc (fun f => f)]; simp [strs]
      have htk : Sd ((ss.take (k + 1)).flatMap frameL = ys ++ frameL ss[k]) := ⟨by rw [List.take_succ_eq_append_getElem hlt, flatMap_snoc, HY.o]⟩
      have hs64 := HSZ.o _ (List.getElem_mem hlt)
      have hfl := frameL_len _ hs64
      clear hc
      generalize ss[k] = s0 at *
      have HC := tframe_any wr (sOf s0) (by rw [sOf_size]; omega)
      rw [show (sOf s0).data.toList = s0 from rfl] at HC
      have HC2 := Sd.mk HC
      obtain ⟨S0, hS0⟩ : ∃ S0, S0 = sOf s0 := ⟨_, rfl⟩
      rw [← hS0] at HC2 hc2
      obtain ⟨X, hX⟩ : ∃ X, X = frameL s0 := ⟨_, rfl⟩
      rw [← hX] at HC2 hfl htk
      clear HC hS0 hX
      go_wp2_with fail
      refine HC2.o.mono ?_
      clear HC2
      rintro e w4 ⟨A4, c4, rfl, hO4, hF4, hK4⟩
      have HO4 := Sd.mk hO4
      have HK4 := Sd.mk hK4
      clear hO4 hF4 hK4
      go_wp2_with (at_builtin; go_must (refine app_any rfl _ _ 26 5 (.int .u8 0) 1 rfl Try.underlying26 infoU8' rfl (.slice A3 ys.length c) (bvs ys) rfl (HO.o.kept HK4.o) A4 X.length c4 (bvs X) rfl (bvs_length X) (rd_vrd HO4.o.bts.rd.2.2.2.2.2) (bvs_one X) (by rw [bvs_length]; omega) (by rw [bvs_length]; omega) ?_); intro A6 c6 w6 HO6 HK6 HG6; have HP := Sd.mk (And.intro HO6 (And.intro HK6 HG6)); clear HO6 HK6 HG6)
      go_roundg (gk - 1)
      case measure => omega
      case rel =>
        obtain ⟨HO6, HK6, HG6⟩ := HP.o
        have e1 : (bvs ys).length + X.length = (ys ++ X).length := by rw [bvs_length, List.length_append]
        rw [e1] at HO6 HG6 ⊢
        rw [← bvs_append] at HO6
        have hk4 := HKK.o.then HK4.o
        exact ⟨k + 1, c6, ys ++ X, A6, by omega, by go_num, rfl, by rw [List.length_append]; omega, ⟨htk.o.symm⟩, ⟨HO6⟩, ⟨hk4.fresh HF.o HK6⟩, ⟨HF.o.grew hk4.size HG6⟩⟩
    · have hq1 : ¬ (k : Int) < (ss.length : Int) := by omega
      have hfin : Sd (ys = bytesL l) := ⟨by rw [HY.o, HBY.o, List.take_of_length_le (by omega)]⟩
      go_wp2
      go_ret
      rw [← hfin.o]
      exact ⟨A3, c, rfl, HO.o, (fun k hk => Nat.le_trans HK2.o.size (HF.o k hk)), HK2.o.then HKK.o⟩
end Go.Proofs.Ytdjamijbhaplgaa
