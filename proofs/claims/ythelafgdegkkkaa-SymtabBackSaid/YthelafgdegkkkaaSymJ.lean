/- SymtabBack: the walk. -/
import Derived.Test.YthelafgdegkkkaaSymI
namespace Go.Proofs.Ythelafgdegkkkaa.symtabBack
open Go.RowKit Go.Maps

def BackPost (w : World) (base b mb : Nat) (e : Ending) (w' : World) : Prop :=
  ∃ (er : Int) (A2 : Option Addr) (c2 : Nat) (Ao : Option Addr) (no co : Nat) (Ab : Option Addr) (nb cb : Nat) (L : List (List UInt8)), e = .returned (.tuple #[.slice Ao no co, .slice Ab nb cb, .int .i64 er]) ∧ IsT w' base b mb A2 c2 ([] :: L) ∧ Keeps (FromB base) w w' ∧
    L.length ≤ 300 ∧ (∀ s ∈ L, mayL s = true) ∧ ([] :: L).Nodup
theorem intern_back (w : World) (base b mb : Nat) (A : Option Addr) (c : Nat) (h : IsT w base b mb A c [[]]) (hbase : base ≤ w.heap.size) (A0 : Option Addr) (c0 : Nat) (ls : List (List UInt8)) (hv : VRd w A0 (strs ls))
    (hv0 : 0 < ls.length → ∀ b1 o1 s1, A0 = some ⟨b1, o1, s1⟩ → b1 < base) (hsz : ∀ s ∈ ls, s.length ≤ 140737488351232) (hl : ls.length ≤ 300) :
    Calls Try.prog 12 #[.pointer (some ⟨b, 0, none⟩), .slice A0 ls.length c0] w (BackPost w base b mb) := by
  have hc := intern_any w base b mb A c [[]] h hbase A0 c0 ls hv (fun hp b1 o1 s1 e f => by
    have h1 := hv0 hp b1 o1 s1 e
    have h2 := h.from _ f
    omega) (fun s hs => by have := hsz s hs; omega) (by simp; omega)
  refine hc.mono ?_
  rintro e w' ⟨hK, h1 | h1⟩
  · obtain ⟨_, rfl, rfl⟩ := h1
    exact ⟨50, A, c, none, 0, 0, none, 0, 0, [], rfl, h, Keeps.refl _ _, by simp, by simp, by simp⟩
  · obtain ⟨hm, A', c', Ao, co, Ab, cb, rfl, hT', _⟩ := h1
    have hi : internL ls [[]] = [] :: addedL ls [[]] := by rw [internL_eq]; rfl
    have hn := internL_nodup ls [[]] (by simp)
    rw [hi] at hT' hn
    exact ⟨0, A', c', Ao, _, co, Ab, _, cb, addedL ls [[]], rfl, hT', hK.mono (fun i _ f => h.from i f), by have := addedL_len ls [[]]; omega, addedL_may ls [[]] hm, hn⟩
theorem bytes_small : ∀ (l : List (List UInt8)), (∀ s ∈ l, mayL s = true) → (l.flatMap frameL).length ≤ 73 * l.length
  | [], _ => by simp
  | s :: l, h => by
    have h1 := frameL_len s (mayL_len (h s (by simp)))
    have h2 := bytes_small l (fun t ht => h t (by simp [ht]))
    rw [List.flatMap_cons, List.length_append, List.length_cons]
    omega
theorem idx_at : ∀ (l : List (List UInt8)) (i : Nat) (h : i < l.length), l.Nodup → l.idxOf l[i] = i := fun _ i h hn => hn.idxOf_getElem i h
theorem sym_facts (L : List (List UInt8)) (k : Nat) (hn : ([] :: L).Nodup) (i : Nat) (hi : i < ([] :: L.take k).length) :
    ∃ x : List UInt8, symAt ([] :: L.take k) i = (x, 0) ∧ symAt ([] :: L) i = (x, 0) ∧ numL ([] :: L) x = i ∧ decide (x ∈ [] :: L) = true := by
  have e : [] :: L.take k = ([] :: L).take (k + 1) := rfl
  have h2 : ([] :: L.take k).length ≤ ([] :: L).length := by rw [e, List.length_take]; omega
  have hm : ([] :: L)[i]'(by omega) ∈ [] :: L := List.getElem_mem _
  refine ⟨([] :: L)[i]'(by omega), ?_, ?_, ?_, decide_eq_true hm⟩
  · unfold symAt
    rw [if_pos (by omega), Int.toNat_natCast]
    rw [List.getD_eq_getElem?_getD, List.getElem?_eq_getElem hi]
    simp only [e, List.getElem_take, Option.getD_some]
  · unfold symAt
    rw [if_pos (by omega), Int.toNat_natCast]
    rw [List.getD_eq_getElem?_getD, List.getElem?_eq_getElem (by omega)]
    rfl
  · unfold numL
    rw [if_pos hm, idx_at _ _ _ hn]
set_option maxHeartbeats 8000000 in
set_option maxRecDepth 100000 in
theorem walk (w : World) (A0 : Option Addr) (c0 : Nat) (ls : List (List UInt8)) (h0 : VRd w A0 (strs ls)) (hls : ∀ s ∈ ls, s.length ≤ 140737488351232) (a1 : Int) (ha1 : -9223372036854775808 ≤ a1) (ha2 : a1 ≤ 9223372036854775807) (hl0 : ls.length ≤ 9223372036854775807) :
    Calls Try.prog 4 #[.slice A0 ls.length c0, .int .i64 a1] w fun e w' => e = .returned (.bool true) ∧ Keeps NoB w w' := by
  have H0 := Sd.mk h0
  have HL := Sd.mk hls
  clear h0 hls
  go_enter Try.func4, Try.ntmps4
  go_wp2_with (go_at_call 10; refine (tnew_any _).mono ?_)
  rintro e w1 ⟨b, mb, A, c, rfl, hT, hK⟩
  have HT := Sd.mk hT
  have HK := Sd.mk hK
  have H1 : Sd (VRd w1 A0 (strs ls)) := ⟨H0.o.keeps hK (fun _ _ _ _ f => f)⟩
  have HH := Sd.mk (shuge_any w1 A0 c0 ls H1.o (fun s hs => HL.o s hs) hl0)
  clear hT hK
  go_wp2_with (go_at_call 11; refine HH.o.mono ?_)
  rintro e w' ⟨bb, rfl, rfl, hbb⟩
  have HBB := Sd.mk hbb
  clear hbb HH
  cases bb with
  | true =>
    go_wp2_with (go_at_call 5; refine (slive_any _).mono ?_; rintro e w' ⟨rfl, hk'⟩)
    go_ret
    exact ⟨rfl, HK.o.then hk'⟩
  | false =>
  have hl3 := (HBB.o rfl).1
  have HIN := Sd.mk (intern_back w1 _ b mb A c HT.o HK.o.size A0 c0 ls H1.o (fun hp b1 o1 s1 e => by
    obtain ⟨b2, o2, e2, hc⟩ := H0.o 0 (by rw [strs_len]; exact hp)
    rw [e] at e2
    cases e2
    have := World.block_lt_of_cell? w _ hc
    simpa using this) HL.o hl3)
  clear hl3 HBB
  go_wp2_with (go_at_call 12; refine HIN.o.mono ?_)
  rintro e w2 ⟨er, A2, c2, Ao, no, co, Ab, nb, cb, L, rfl, hT2, hK2, hL, hm, hn⟩
  have HT2 := Sd.mk hT2
  have HK2 : Sd (Keeps NoB w w2) := ⟨HK.o.trans hK2 (fun _ _ f => f) (fun i hi f => absurd hi (Nat.not_lt.2 f))⟩
  have HM := Sd.mk hm
  have HN := Sd.mk hn
  have HBY := Sd.mk (tbytes_any w2 _ b mb A2 c2 ([] :: L) hT2 (by simp; omega))
  have hPl : (bytesL ([] :: L)).length ≤ 73 * L.length := bytes_small L hm
  clear hT2 hK2 hm hn HIN HT HK H1
  go_wp2_with (go_at_call 13; refine HBY.o.mono ?_)
  rintro e w3 ⟨A3, c3, rfl, hO3, hF3, hK3⟩
  have HO3 := Sd.mk hO3
  have HK3 : Sd (Keeps NoB w w3) := ⟨HK2.o.then hK3⟩
  have HT3 := Sd.mk (HT2.o.kept hK3)
  clear hO3 hF3 hK3 HK2 HT2 HBY
  have HLB := Sd.mk (fun cn h => load_back L cn HM.o HN.o (by omega) h)
  obtain ⟨P, hP⟩ : ∃ P, P = bytesL ([] :: L) := ⟨_, rfl⟩
  rw [← hP] at HO3 HLB hPl ⊢
  clear hP
  by_cases g1 : er = 0
  case neg =>
    go_wp2_with (first | (go_at_call 8; refine (num_law _ _).mono ?_; rintro e w' ⟨rfl, rfl⟩) | (go_at_call 5; refine (slive_any _).mono ?_; rintro e w' ⟨rfl, hk'⟩))
    go_ret
    exact ⟨rfl, HK3.o.then hk'⟩
  subst g1
  by_cases g2 : a1 < 0
  · go_wp2_with (first | (go_at_call 8; refine (num_law _ _).mono ?_; rintro e w' ⟨rfl, rfl⟩) | (go_at_call 5; refine (slive_any _).mono ?_; rintro e w' ⟨rfl, hk'⟩))
    go_ret
    exact ⟨rfl, HK3.o.then hk'⟩
  by_cases g3 : (P.length : Int) < a1
  · go_wp2_with (first | (go_at_call 8; refine (num_law _ _).mono ?_; rintro e w' ⟨rfl, rfl⟩) | (go_at_call 5; refine (slive_any _).mono ?_; rintro e w' ⟨rfl, hk'⟩))
    go_ret
    exact ⟨rfl, HK3.o.then hk'⟩
  obtain ⟨cn, rfl⟩ := Int.eq_ofNat_of_zero_le (Int.not_lt.1 g2)
  have hcl : cn ≤ P.length := by omega
  obtain ⟨k, hk, hld, hfr, htk, hle, hall⟩ := HLB.o cn hcl
  clear HLB
  obtain ⟨Y, hY⟩ : ∃ Y, Y = bytesL ([] :: L.take k) := ⟨_, rfl⟩
  rw [← hY] at hfr htk hle
  obtain ⟨i0, hi, hz0, hz1, hz2⟩ := info_parts infoU8
  have hov := HO3.o.vrd
  have hcap := hov.2.1
  have hsp := hov.2.2.2.2.1
  have hsl : ∀ W : World, ∀ j : Nat, j ≤ P.length → (Instr.slice 22 (.slice A3 P.length c3) none (some (.int .i64 (j : Int))) none).run Try.prog W = .ok (.slice A3 j c3) W := fun W j hj =>
    slice_run_h 22 5 .i64 Try.underlying22 hi hz1 A3 P.length c3 j (fun _ a ha => (hsp a ha).1) (by omega) W _ rfl
  have htl : (P.take cn).length = cn := by rw [List.length_take]; omega
  have HLO := tload_any w3 A3 c3 (P.take cn) (by rw [htl]; exact HO3.o.bts.take cn hcl) (by rw [htl]; omega)
  rw [htl] at HLO
  have HLOs := Sd.mk HLO
  have HSL := Sd.mk hsl
  have hsl1 := HSL.o w3 cn hcl
  have HLD := Sd.mk hld
  have HFR := Sd.mk hfr
  have HTK := Sd.mk htk
  have HY := Sd.mk hY
  have HALL := Sd.mk hall
  have HHI := Sd.mk hcap
  clear hi hz0 hz1 hz2 hov hcap hsp hsl htl HLO hld hfr htk hY hall
  go_wp2_with (first | (go_at_call 8; refine (num_law _ _).mono ?_; rintro e w' ⟨rfl, rfl⟩) | (go_at_call 6; refine HLOs.o.mono ?_))
  rintro e w4 ⟨hK4, h1 | h1⟩
  · rw [HLD.o] at h1; exact absurd h1.1 (by simp)
  obtain ⟨l4, b4, mb4, A4, c4, hl4, rfl, hT4⟩ := h1
  rw [HLD.o] at hl4
  cases hl4
  rw [HFR.o]
  have HT4 := Sd.mk hT4
  have HT5 := Sd.mk (HT3.o.kept hK4)
  have HK4 : Sd (Keeps NoB w w4) := ⟨HK3.o.then hK4⟩
  have HO4 : Sd (OwnV w4 5 (.slice A3 P.length c3) (bvs P)) := ⟨HO3.o.keeps hK4 (fun _ _ f => f)⟩
  have HLN : Sd (([] :: L.take k).length = k + 1) := ⟨by rw [List.length_cons, List.length_take]; omega⟩
  have HLN2 : Sd (([] :: L).length = L.length + 1) := ⟨rfl⟩
  clear hT4 hK4 HT3 HK3 HO3 HLOs HLD HFR hsl1
  have HSY := Sd.mk (fun i hi => sym_facts L k HN.o i hi)
  have HYB : Sd (bytesL ([] :: L.take k) = Y) := ⟨HY.o.symm⟩
  have HBU := Sd.mk (tbytes_any w4.drew _ b4 mb4 A4 c4 ([] :: L.take k) (HT4.o.kept (Keeps.drew (Keeps.refl NoB _))) (by rw [HLN.o]; omega))
  rw [HYB.o] at HBU
  have HLU := tlen_any w4 _ b4 mb4 A4 c4 _ HT4.o
  have HLT := tlen_any w4 _ b mb A2 c2 _ HT5.o
  obtain ⟨U, hU⟩ : ∃ U, U = [] :: L.take k := ⟨_, rfl⟩
  obtain ⟨T, hT⟩ : ∃ T, T = [] :: L := ⟨_, rfl⟩
  rw [← hU] at HLU HT4 HLN HSY
  rw [← hT] at HLT HT5 HLN2 HSY
  have hMN : U.length ≤ T.length := by rw [HLN.o, HLN2.o]; omega
  have hMl : U.length ≤ 301 := by rw [HLN.o]; omega
  have hlast : Sd (cn = P.length → U.length = T.length) := ⟨fun h => by rw [HLN.o, HLN2.o, HALL.o h]⟩
  clear hU hT HYB HY HN HM
  have HLUs := Sd.mk HLU
  have HLTs := Sd.mk HLT
  clear HLU HLT
  go_upto_region 9 with fail
  go_cut [94] from 63 to 94 (fun sx wx => sx = .bool false ∧ Sd (w4 = wx))
  case first =>
    have n2 : ¬ T.length < U.length := by omega
    by_cases hce : cn = P.length
    · have h2 := hlast.o hce
      subst hce
      have n1 : ¬ P.length < Y.length := by omega
      go_wp2_with (first | (go_at_call 8; refine (num_law _ _).mono ?_; rintro e w' ⟨rfl, rfl⟩) | (go_at_call 14; first | (with_reducible refine HLUs.o.mono ?_; rintro e w' ⟨rfl, rfl⟩) | (with_reducible refine HLTs.o.mono ?_; rintro e w' ⟨rfl, rfl⟩)))
      go_meet
      exact ⟨rfl, ⟨rfl⟩⟩
    · have n1 : ¬ cn < Y.length := by omega
      go_wp2_with (first | (go_at_call 8; refine (num_law _ _).mono ?_; rintro e w' ⟨rfl, rfl⟩) | (go_at_call 14; first | (with_reducible refine HLUs.o.mono ?_; rintro e w' ⟨rfl, rfl⟩) | (with_reducible refine HLTs.o.mono ?_; rintro e w' ⟨rfl, rfl⟩)))
      go_meet
      exact ⟨rfl, ⟨rfl⟩⟩
  obtain ⟨rfl, ⟨rfl⟩⟩ := hcut
  clear hlast HLTs
  go_wp2_with fail
  go_loopg [13] U.length (fun gk i wr => ∃ j : Nat, gk + j = U.length ∧ i = .int .i64 j ∧ Sd (w4 = wr))
  case atStart => exact ⟨0, by omega, rfl, ⟨rfl⟩⟩
  case round =>
    obtain ⟨j, hj, rfl, ⟨rfl⟩⟩ := hrel
    by_cases hlt : j < U.length
    · obtain ⟨x, s1, s2, s3, s4⟩ := HSY.o j hlt
      have hx : (sOf x).size ≤ 9223372036854775807 := by
        have := HT5.o.sz x (of_decide_eq_true s4)
        rw [sOf_size]; omega
      have HS1 := tsymbol_any w4 _ b4 mb4 A4 c4 U HT4.o (j : Int)
      have HS2 := tsymbol_any w4 _ b mb A2 c2 T HT5.o (j : Int)
      have HN := tnumber_any w4 _ b mb A2 c2 T HT5.o (sOf x) hx
      rw [s1] at HS1
      rw [s2] at HS2
      rw [show (sOf x).data.toList = x from by simp [sOf], s3, s4] at HN
      dsimp only at HS1 HS2
      have HS1s := Sd.mk HS1
      have HS2s := Sd.mk HS2
      have HNs := Sd.mk HN
      clear HS1 HS2 HN s1 s2 s3 s4 hx
      generalize sOf x = S0 at *
      have hq : (j : Int) < (U.length : Int) := by omega
      go_wp2_with (first | (go_at_call 8; refine (num_law _ _).mono ?_; rintro e w' ⟨rfl, rfl⟩) | (go_at_call 14; refine HLUs.o.mono ?_; rintro e w' ⟨rfl, rfl⟩) | (go_at_call 15; first | (with_reducible refine HS1s.o.mono ?_; rintro e w' ⟨rfl, rfl⟩) | (with_reducible refine HS2s.o.mono ?_; rintro e w' ⟨rfl, rfl⟩)) | (go_at_call 16; refine HNs.o.mono ?_; rintro e w' ⟨rfl, rfl⟩))
      go_roundg (gk - 1)
      case measure => omega
      case rel => exact ⟨j + 1, by omega, by go_num, ⟨rfl⟩⟩
    · have hq : ¬ (j : Int) < (U.length : Int) := by omega
      have hyl : Y.length ≤ P.length := by omega
      have hslY := fun W => HSL.o W Y.length hyl
      have HC : Sd (∀ w', Keeps NoB w4 w' → (convert 22 9 (.slice A3 Y.length c3)).run Try.prog w' = .ok (.string (sOf Y)) w') := ⟨fun w' h => by
        have := conv_rd (P := Try.prog) w' 22 5 9 Try.underlying22 Try.underlying5 Try.underlying9 A3 (P.take Y.length) c3 ((HO4.o.bts.keeps h (fun _ _ _ _ _ f => f)).take Y.length hyl).rd.2.2.2.2.2
        rw [HTK.o] at this
        exact this⟩
      have HBY2 : Sd (Calls Try.prog 13 #[.pointer (some ⟨b4, 0, none⟩)] w4.drew fun e w8 => ∃ A8 c8, e = .returned (.slice A8 Y.length c8) ∧ (convert 22 9 (.slice A8 Y.length c8)).run Try.prog w8 = .ok (.string (sOf Y)) w8 ∧ Keeps NoB w4 w8) := ⟨by
        refine HBU.o.mono ?_
        rintro e w8 ⟨A8, c8, rfl, hO8, _, hK8⟩
        exact ⟨A8, c8, rfl, conv_rd (P := Try.prog) w8 22 5 9 Try.underlying22 Try.underlying5 Try.underlying9 A8 Y c8 hO8.own.bts.rd.2.2.2.2.2, (Keeps.refl NoB w4).drew.trans hK8 (fun _ _ f => f) (fun _ _ f => f)⟩⟩
      have hq0 := HC.o w4.drew (Keeps.refl NoB w4).drew
      clear HBU HSY HT4 HT5 HTK HALL
      go_upto_region 19 with (go_at_call 14; refine HLUs.o.mono ?_; rintro e w' ⟨rfl, rfl⟩)
      go_region_law
        (first
          | (go_simp; go_at_call 13
             refine HBY2.o.mono ?_
             rintro e w8 ⟨A8, c8, rfl, hcv8, hk8⟩
             have hq8 := HC.o w8 hk8
             replace hk8 := Sd.mk hk8)
          | (go_simp; go_at_call 5
             refine (slive_any _).mono ?_
             rintro e w9 ⟨rfl, hk9⟩
             replace hk9 := Sd.mk hk9))
      all_goals (go_wp2_with fail; (try go_simp); go_ret; exact ⟨rfl, (HK4.o.then hk8.o).then hk9.o⟩)
end Go.Proofs.Ythelafgdegkkkaa.symtabBack
