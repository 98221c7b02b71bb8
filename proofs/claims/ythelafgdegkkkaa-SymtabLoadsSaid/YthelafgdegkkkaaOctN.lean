/- the reference: four, turned, Seal. -/
import Derived.Test.YthelafgdegkkkaaOctL
namespace Go.Proofs.Ythelafgdegkkkaa
open Go.RowKit

theorem four32_vals (s : Nat) (hs : s < 4294967296) : [Value.int .u8 ((s : Int) / 16777216), .int .u8 ((s : Int) / 65536 % 256), .int .u8 ((s : Int) / 256 % 256), .int .u8 ((s : Int) % 256)] = bvs (four s) := by
  have e1 := u8v_of (s / 16777216) (s / 16777216) (by omega)
  have e2 := u8v_of (s / 65536) (s / 65536 % 256) rfl
  have e3 := u8v_of (s / 256) (s / 256 % 256) rfl
  have e4 := u8v_of s (s % 256) rfl
  show _ = [u8v _, u8v _, u8v _, u8v _]
  rw [← e1, ← e2, ← e3, ← e4]
  simp
theorem own4 (w : World) (xs : List UInt8) (vs : List Value) (h : vs = bvs xs) (hl : xs.length = 4) : OwnV (w.alloc (.cells vs.toArray 5)) 5 (.slice (some ⟨w.heap.size, 0, none⟩) xs.length 4) (bvs xs) := by
  subst h
  have := own_lit w 5 (bvs xs) (by rw [bvs_length]; omega)
  rw [bvs_length, hl] at this
  rw [hl]
  exact this
theorem four_len (n : Nat) : (four n).length = 4 := rfl

set_option maxHeartbeats 1000000 in
theorem rfour_any (w : World) (n : Nat) (hn : n < 4294967296) : Calls Try.prog 62 #[.int .u32 (n : Int)] w fun e w' => ∃ A c, e = .returned (.slice A (four n).length c) ∧ OwnV w' 5 (.slice A (four n).length c) (bvs (four n)) ∧ Fresh w (.slice A (four n).length c) ∧ Keeps NoB w w' := by
  have hv := Sd.mk (four32_vals n hn)
  go_enter Try.func62, Try.ntmps62
  go_wp2
  go_ret
  exact ⟨_, 4, rfl, own4 w (four n) _ hv.o rfl, fresh_lit w _ _, (Keeps.refl NoB w).alloc _⟩
set_option maxHeartbeats 1000000 in
theorem rturned_any (w : World) (n : Nat) (hn : n < 4294967296) : Calls Try.prog 56 #[.int .u32 (n : Int)] w fun e w' => ∃ A c, e = .returned (.slice A (turned n).length c) ∧ OwnV w' 5 (.slice A (turned n).length c) (bvs (turned n)) ∧ Fresh w (.slice A (turned n).length c) ∧ Keeps NoB w w' := by
  have hv := Sd.mk (turned_vals n hn)
  go_enter Try.func56, Try.ntmps56
  go_wp2
  go_ret
  exact ⟨_, 4, rfl, own4 w (turned n) _ hv.o rfl, fresh_lit w _ _, (Keeps.refl NoB w).alloc _⟩

set_option maxHeartbeats 4000000 in
set_option maxRecDepth 100000 in
theorem rseal_any (w : World) (A : Option Addr) (c : Nat) (l : List UInt8) (hb : Bts w (.slice A l.length c) l) :
    Calls Try.prog 58 #[.slice A l.length c] w fun e w' => (1048576 < l.length ∧ e = .returned (.tuple #[.slice none 0 0, .int .i64 1]) ∧ w = w') ∨
      (l.length ≤ 1048576 ∧ ∃ A' c', e = .returned (.tuple #[.slice A' (sealL l).length c', .int .i64 0]) ∧ OwnV w' 5 (.slice A' (sealL l).length c') (bvs (sealL l)) ∧ Fresh w (.slice A' (sealL l).length c') ∧ Keeps NoB w w') := by
  have HB := Sd.mk hb
  have hm : l.length ≤ 9223372036854775807 := by have := hb.rd; unfold maxLen at this; omega
  clear hb
  by_cases hbig : 1048576 < l.length
  · have hq : (1048576 : Int) < (l.length : Int) := by omega
    have hfin : Sd (1048576 < l.length) := ⟨hbig⟩
    clear hbig
    go_enter Try.func58, Try.ntmps58
    go_wp2
    go_ret2
    exact .inl ⟨hfin.o, rfl, rfl⟩
  · have hq : ¬ (1048576 : Int) < (l.length : Int) := by omega
    have hle : l.length ≤ 1048576 := by omega
    clear hbig
    go_enter Try.func58, Try.ntmps58
    go_wp2_with fail
    refine (rfour_any _ l.length (by omega)).mono ?_
    rintro e w1 ⟨A1, c1, rfl, hO1, hF1, hK1⟩
    have HO1 := Sd.mk hO1
    have HF1 := Sd.mk hF1
    have HK1 := Sd.mk hK1
    clear hO1 hF1 hK1
    go_wp2_with (at_builtin; go_must (refine app_any rfl _ _ 22 5 (.int .u8 0) 1 rfl Try.underlying22 infoU8' rfl (.slice A1 (four l.length).length c1) (bvs (four l.length)) rfl HO1.o A l.length c (bvs l) rfl (bvs_length l) (rd_vrd (HB.o.keeps HK1.o (fun _ _ _ _ _ f => f)).rd.2.2.2.2.2) (bvs_one l) (by rw [bvs_length, four_len]; omega) (by rw [bvs_length, four_len]; omega) ?_))
    intro A2 c2 w2 HO2 HK2 HG2
    have e1 : (bvs (four l.length)).length + l.length = (four l.length ++ l).length := by rw [bvs_length, List.length_append]
    rw [e1] at HO2 HG2 ⊢
    rw [← bvs_append] at HO2
    obtain ⟨ys, hy⟩ : ∃ ys, ys = four l.length ++ l := ⟨_, rfl⟩
    rw [← hy] at HO2 HG2 ⊢
    have hyl : ys.length ≤ 1048580 := by rw [hy, List.length_append, four_len]; omega
    have HY := Sd.mk hy
    have HO2' := Sd.mk HO2
    have HK2' : Sd (Keeps NoB w w2) := ⟨HK1.o.fresh HF1.o HK2⟩
    have HF2' : Sd (Fresh w (.slice A2 ys.length c2)) := ⟨HF1.o.grew HK1.o.size HG2⟩
    clear HO2 HK2 HG2 e1 hy HO1 HF1 HK1
    go_wp2_with (go_at_call 57; go_must (refine (rcrc_any _ A2 c2 ys HO2'.o.bts).mono ?_); rintro e w' ⟨rfl, rfl⟩)
    have hcl := crc_lt ys
    have hyy : Sd (sealL l = ys ++ turned (crc ys)) := ⟨by unfold sealL; rw [← HY.o]⟩
    generalize crc ys = C at *
    go_wp2_with fail
    refine (rturned_any _ C hcl).mono ?_
    rintro e w3 ⟨A3, c3, rfl, hO3, hF3, hK3⟩
    have HO3 := Sd.mk hO3
    have HK3 := Sd.mk hK3
    clear hO3 hF3 hK3
    go_wp2_with (at_builtin; go_must (refine app_any rfl _ _ 22 5 (.int .u8 0) 1 rfl Try.underlying22 infoU8' rfl (.slice A2 ys.length c2) (bvs ys) rfl (HO2'.o.keeps HK3.o (fun _ _ f => f)) A3 (turned C).length c3 (bvs (turned C)) rfl (bvs_length _) (rd_vrd HO3.o.bts.rd.2.2.2.2.2) (bvs_one _) (by rw [bvs_length, turned_len]; omega) (by rw [bvs_length, turned_len]; omega) ?_))
    intro A4 c4 w4 HO4 HK4 HG4
    have HO4' := Sd.mk HO4
    have HK4' := Sd.mk HK4
    have HG4' := Sd.mk HG4
    clear HO4 HK4 HG4
    go_wp2
    go_ret2
    have e1 : (bvs ys).length + (turned C).length = (ys ++ turned C).length := by rw [bvs_length, List.length_append]
    rw [e1] at HO4' HG4'
    rw [← bvs_append] at HO4'
    rw [hyy.o]
    exact .inr ⟨hle, A4, c4, by rw [← e1]; rfl, HO4'.o, HF2'.o.grew (HK2'.o.then HK3.o).size HG4'.o, (HK2'.o.then HK3.o).fresh HF2'.o HK4'.o⟩
end Go.Proofs.Ythelafgdegkkkaa
