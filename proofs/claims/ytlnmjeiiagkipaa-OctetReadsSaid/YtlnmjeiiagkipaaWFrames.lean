/- OctetFrames: the walk. -/
import Derived.Test.YtlnmjeiiagkipaaArgs
import Derived.Test.YtlnmjeiiagkipaaOctM
import Derived.Test.YtlnmjeiiagkipaaOctS
namespace Go.Proofs.Ytlnmjeiiagkipaa
open Go.RowKit
theorem cv_bts {w : World} {A : Option Addr} {n c : Nat} {xs : List UInt8} (h : Bts w (.slice A n c) xs) : (convert 22 9 (.slice A n c)).run Try.prog w = .ok (.string (sOf xs)) w := by
  have e := h.rd.1
  subst e
  exact conv_rd (P := Try.prog) w 22 5 9 Try.underlying22 Try.underlying5 Try.underlying9 A xs c h.rd.2.2.2.2.2
theorem Bts.kept {w w' : World} {v : Value} {xs : List UInt8} (h : Bts w v xs) (k : Keeps NoB w w') : Bts w' v xs := h.keeps k (fun _ _ _ _ _ f => f)
theorem OwnV.kept {w w' : World} {e : TypeId} {v : Value} {vs : List Value} (h : OwnV w e v vs) (k : Keeps NoB w w') : OwnV w' e v vs := h.keeps k (fun _ _ f => f)
theorem LRd.kept {w w' : World} {A : Option Addr} {ls : List (List UInt8)} (h : LRd w A ls) (k : Keeps NoB w w') : LRd w' A ls := h.keeps k (fun _ _ f => f)
theorem LOwn.kept {w w' : World} {v : Value} {ls : List (List UInt8)} (h : LOwn w v ls) (k : Keeps NoB w w') : LOwn w' v ls := by
  obtain ⟨vs, hl, ho, hb⟩ := h
  exact ⟨vs, hl, ho.kept k, fun i hi hi' => (hb i hi hi').kept k⟩
theorem flat_take_le (ls : List (List UInt8)) (k : Nat) : (ls.take k).flatten.length ≤ ls.flatten.length := by
  have e2 : ls.flatten = (ls.take k).flatten ++ (ls.drop k).flatten := by rw [← List.flatten_append, List.take_append_drop]
  rw [e2, List.length_append]; omega
theorem framesGo_len : ∀ (n : Nat) (p : List UInt8) (k : Nat) (acc : List (List UInt8)), acc.length ≤ k → k ≤ p.length → (framesGo n p k acc).1.length ≤ p.length
  | 0, p, k, acc, h, h2 => by simp [framesGo]; omega
  | n + 1, p, k, acc, h, h2 => by
    unfold framesGo
    split
    · split
      · rename_i h3 h4
        have := openL_ok (p.drop k) h4
        rw [List.length_drop] at this
        exact framesGo_len n p _ _ (by simp; omega) (by omega)
      · simp; omega
    · simp; omega
theorem framesL_len (p : List UInt8) : (framesL p).1.length ≤ p.length := framesGo_len _ p 0 [] (by simp) (by omega)
end Go.Proofs.Ytlnmjeiiagkipaa
namespace Go.Proofs.Ytlnmjeiiagkipaa.octetFrames
open Go.RowKit
set_option maxHeartbeats 4000000 in
set_option maxRecDepth 100000 in
theorem walk (w : World) (A0 : Option Addr) (c0 : Nat) (ls : List (List UInt8)) (h0 : LRd w A0 ls) (hls : ∀ s ∈ ls, s.length ≤ 140737488351232) (A1 : Option Addr) (c1 : Nat) (p : List UInt8) (h1 : Bts w (.slice A1 p.length c1) p)
    (l0 : ls.length ≤ 9223372036854775807) (l1 : p.length ≤ 140737488351232) :
    Calls Try.prog 6 #[.slice A0 ls.length c0, .slice A1 p.length c1] w fun e w' => e = .returned (.bool true) ∧ Keeps NoB w w' := by
  have H0 := Sd.mk h0
  have HL := Sd.mk hls
  have H1 := Sd.mk h1
  clear h0 hls h1
  go_enter Try.func6, Try.ntmps6
  go_wp2_with fail
  refine (huge_any w A0 c0 ls H0.o HL.o l0).mono ?_
  rintro e w' ⟨bb, rfl, rfl, hbb⟩
  cases bb with
  | true =>
    clear hbb
    go_wp2_with (go_at_call 12; refine (live_any _).mono ?_; rintro e w' ⟨rfl, hk'⟩)
    go_ret
    exact ⟨rfl, hk'⟩
  | false =>
  obtain ⟨hl60, hfl⟩ := hbb rfl
  clear hbb
  by_cases g1 : 20000 < p.length
  · have hq : decide ((20000 : Int) < (p.length : Int)) = true := by simp; omega
    go_wp2_with (go_at_call 12; refine (live_any _).mono ?_; rintro e w' ⟨rfl, hk'⟩)
    go_ret
    exact ⟨rfl, hk'⟩
  have hq : decide ((20000 : Int) < (p.length : Int)) = false := by simp; omega
  have hpl : p.length ≤ 20000 := by omega
  clear g1
  have HFL := Sd.mk hfl
  clear hfl
  obtain ⟨S, hS⟩ : ∃ S, S = sealL ls.flatten := ⟨_, rfl⟩
  have HSEAL : Sd (∀ w', Keeps NoB w w' → Calls Try.prog 10 #[.slice A0 ls.length c0] w' (fun e w'' => ∃ A c, e = .returned (.tuple #[.slice A S.length c, .int .i64 0]) ∧ Bts w'' (.slice A S.length c) S ∧ Keeps NoB w' w'')) := ⟨fun w' h => (seal_any w' A0 c0 ls (H0.o.kept h) (by omega)).mono fun e w'' hh => by
    rw [← hS] at hh
    rcases hh with ⟨hb, _⟩ | ⟨_, A, c, he, hO, _, hK⟩
    · have := HFL.o; omega
    · exact ⟨A, c, he, hO.bts, hK⟩⟩
  have HRSEAL : Sd (∀ w' A c, Bts w' (.slice A ls.flatten.length c) ls.flatten → Calls Try.prog 28 #[.slice A ls.flatten.length c] w' (fun e w'' => ∃ A c, e = .returned (.tuple #[.slice A S.length c, .int .i64 0]) ∧ Bts w'' (.slice A S.length c) S ∧ Keeps NoB w' w'')) := ⟨fun w' A c h => (rseal_any w' A c ls.flatten h).mono fun e w'' hh => by
    rw [← hS] at hh
    rcases hh with ⟨hb, _⟩ | ⟨_, A, c, he, hO, _, hK⟩
    · have := HFL.o; omega
    · exact ⟨A, c, he, hO.bts, hK⟩⟩
  obtain ⟨Q, hQ⟩ : ∃ Q, Q = openL p := ⟨_, rfl⟩
  have HOPEN : Sd (∀ w', Keeps NoB w w' → Calls Try.prog 13 #[.slice A1 p.length c1] w' (fun e w'' => ∃ A c, e = .returned (.tuple #[.slice A Q.1.length c, .int .i64 Q.2.1, .int .i64 Q.2.2]) ∧ Bts w'' (.slice A Q.1.length c) Q.1 ∧ Keeps NoB w' w'')) := ⟨fun w' h => (open_any w' A1 c1 p (H1.o.kept h) (by omega)).mono fun e w'' hh => by
    rw [← hQ] at hh
    obtain ⟨A, c, he, hO, _, hK⟩ := hh
    exact ⟨A, c, he, hO.bts, hK⟩⟩
  have HROPEN : Sd (∀ w', Keeps NoB w w' → Calls Try.prog 29 #[.slice A1 p.length c1] w' (fun e w'' => ∃ A c, e = .returned (.tuple #[.slice A Q.1.length c, .int .i64 Q.2.1, .int .i64 Q.2.2]) ∧ Bts w'' (.slice A Q.1.length c) Q.1 ∧ Keeps NoB w' w'')) := ⟨fun w' h => (ropen_any w' A1 c1 p (H1.o.kept h) (by omega)).mono fun e w'' hh => by
    rw [← hQ] at hh
    obtain ⟨A, c, he, hO, _, hK⟩ := hh
    exact ⟨A, c, he, hO.bts, hK⟩⟩
  have hfn := framesL_len p
  obtain ⟨F, hF⟩ : ∃ F, F = framesL p := ⟨_, rfl⟩
  rw [← hF] at hfn
  have HFRAMES : Sd (∀ w', Keeps NoB w w' → Calls Try.prog 30 #[.slice A1 p.length c1] w' (fun e w'' => ∃ A c, e = .returned (.tuple #[.slice A F.1.length c, .int .i64 F.2.1, .int .i64 F.2.2]) ∧ LRd w'' A F.1 ∧ Keeps NoB w' w'')) := ⟨fun w' h => (frames_any w' A1 c1 p (H1.o.kept h) (by omega)).mono fun e w'' hh => by
    rw [← hF] at hh
    obtain ⟨A, c, he, hO, _, hK⟩ := hh
    exact ⟨A, c, he, hO.lrd.2, hK⟩⟩
  have HRFRAMES : Sd (∀ w', Keeps NoB w w' → Calls Try.prog 31 #[.slice A1 p.length c1] w' (fun e w'' => ∃ A c, e = .returned (.tuple #[.slice A F.1.length c, .int .i64 F.2.1, .int .i64 F.2.2]) ∧ LRd w'' A F.1 ∧ Keeps NoB w' w'')) := ⟨fun w' h => (rframes_any w' A1 c1 p (H1.o.kept h) (by omega)).mono fun e w'' hh => by
    rw [← hF] at hh
    obtain ⟨A, c, he, hO, _, hK⟩ := hh
    exact ⟨A, c, he, hO.lrd.2, hK⟩⟩
  clear hS hQ hF
  obtain ⟨q1, q2, q3⟩ := Q
  obtain ⟨f1, f2, f3⟩ := F
  dsimp only at HOPEN HROPEN HFRAMES HRFRAMES hfn
  have hf1 : f1.length ≤ 20000 := by omega
  clear hfn
  have hb1 : ((sOf S).toList == (sOf S).toList) = true := by simp
  have hb2 : ((sOf q1).toList == (sOf q1).toList) = true := by simp
  have HB1 := Sd.mk hb1
  have HB2 := Sd.mk hb2
  clear hb1 hb2
  go_wp2_with fail
  go_loopg [5, 6] ls.length (fun gk v i wr => ∃ (k c : Nat) (ys : List UInt8) (A : Option Addr), gk + k = ls.length ∧ i = .int .i64 k ∧ v = .slice A ys.length c ∧ ys.length ≤ 20000 ∧ Sd (ys = (ls.take k).flatten) ∧ Sd (OwnV wr 5 (.slice A ys.length c) (bvs ys)) ∧ Sd (Keeps NoB w wr) ∧ Sd (Fresh w (.slice A ys.length c)))
  case atStart => exact ⟨0, 0, [], none, by omega, rfl, rfl, by simp, ⟨by simp⟩, ⟨(Own.nil w 0).v⟩, ⟨Keeps.refl _ _⟩, ⟨fun k hk => by simp [Value.ownBlock] at hk⟩⟩
  case round =>
    obtain ⟨k, c, ys, A, hk, rfl, rfl, hyl, HY, HO, HK, HF⟩ := hrel
    by_cases hlt : k < ls.length
    · have hq1 : (k : Int) < (ls.length : Int) := by omega
      obtain ⟨b1, o1, A2, c2, rfl, hc, hb⟩ := (H0.o.kept HK.o).at_ k hlt
      have htk : Sd ((ls.take (k + 1)).flatten = ys ++ ls[k]) := ⟨by rw [flatten_take ls k hlt, HY.o]⟩
      have hll : ys.length + ls[k].length ≤ 20000 := by
        have h1 := flat_take_le ls (k + 1)
        have h2 := HFL.o
        rw [htk.o, List.length_append] at h1
        omega
      generalize ls[k] = l0 at *
      have HB := Sd.mk hb
      clear hb
      go_wp2_with (at_builtin; go_must (refine app_any rfl _ _ 22 5 (.int .u8 0) 1 rfl Try.underlying22 infoU8' rfl (.slice A ys.length c) (bvs ys) rfl HO.o A2 l0.length c2 (bvs l0) rfl (bvs_length l0) (rd_vrd HB.o.rd.2.2.2.2.2) (bvs_one l0) (by rw [bvs_length]; omega) (by rw [bvs_length]; omega) ?_); intro A3 c3 w3 HO3 HK3 HG3; have HP := Sd.mk (And.intro HO3 (And.intro HK3 HG3)); clear HO3 HK3 HG3)
      go_roundg (gk - 1)
      case measure => omega
      case rel =>
        obtain ⟨HO3, HK3, HG3⟩ := HP.o
        have e1 : (bvs ys).length + l0.length = (ys ++ l0).length := by rw [bvs_length, List.length_append]
        rw [e1] at HO3 HG3 ⊢
        rw [← bvs_append] at HO3
        exact ⟨k + 1, c3, ys ++ l0, A3, by omega, by go_num, rfl, by rw [List.length_append]; omega, ⟨htk.o.symm⟩, ⟨HO3⟩, ⟨HK.o.fresh HF.o HK3⟩, ⟨HF.o.grew HK.o.size HG3⟩⟩
    · have hq1 : ¬ (k : Int) < (ls.length : Int) := by omega
      have hy : ys = ls.flatten := by rw [HY.o, List.take_of_length_le (by omega)]
      clear HY hlt
      subst hy
      have HCRC : Sd (∀ w', Keeps NoB w w' → Calls Try.prog 32 #[.slice A0 ls.length c0] w' (fun e w'' => e = .returned (.int .u32 (crc ls.flatten)) ∧ w' = w'')) := ⟨fun w' h => crc_any w' A0 c0 ls (H0.o.kept h) (by omega)⟩
      have HBA := Sd.mk HO.o.bts
      clear HO HF
      generalize ls.flatten = ys at *
      go_wp2_with fail
      refine (HSEAL.o _ HK.o).mono ?_
      clear HSEAL
      rintro e w1 ⟨A1', c1', rfl, hb1, hk1⟩
      have HS1 := Sd.mk hb1
      have HK1 := Sd.mk (HK.o.then hk1)
      have HBA1 := Sd.mk (HBA.o.kept hk1)
      clear hb1 hk1 HBA HK
      go_wp2_with fail
      refine (HRSEAL.o _ _ _ HBA1.o).mono ?_
      clear HRSEAL
      rintro e w2 ⟨A2', c2', rfl, hb2, hk2⟩
      have HS2 := Sd.mk hb2
      have HS1' := Sd.mk (HS1.o.kept hk2)
      have HK2 := Sd.mk (HK1.o.then hk2)
      have HBA2 := Sd.mk (HBA1.o.kept hk2)
      clear hb2 hk2 HBA1 HK1 HS1
      go_wp2_with fail
      refine (HOPEN.o _ HK2.o).mono ?_
      clear HOPEN
      rintro e w3 ⟨A3', c3', rfl, hb3, hk3⟩
      have HX3 := Sd.mk hb3
      have HS3 := Sd.mk (And.intro (HS1'.o.kept hk3) (And.intro (HS2.o.kept hk3) (HBA2.o.kept hk3)))
      have HK3 := Sd.mk (HK2.o.then hk3)
      clear hb3 hk3 HBA2 HK2 HS1' HS2
      go_wp2_with fail
      refine (HROPEN.o _ HK3.o).mono ?_
      clear HROPEN
      rintro e w4 ⟨A4', c4', rfl, hb4, hk4⟩
      have HS4 := Sd.mk (And.intro (HS3.o.1.kept hk4) (And.intro (HS3.o.2.1.kept hk4) (And.intro (HS3.o.2.2.kept hk4) (And.intro (HX3.o.kept hk4) hb4))))
      have HK4 := Sd.mk (HK3.o.then hk4)
      clear hb4 hk4 HX3 HK3 HS3
      go_wp2_with fail
      refine (HFRAMES.o _ HK4.o).mono ?_
      clear HFRAMES
      rintro e w5 ⟨A5', c5', rfl, hb5, hk5⟩
      have HF5 := Sd.mk hb5
      have HS5 := Sd.mk (And.intro (HS4.o.1.kept hk5) (And.intro (HS4.o.2.1.kept hk5) (And.intro (HS4.o.2.2.1.kept hk5) (And.intro (HS4.o.2.2.2.1.kept hk5) (HS4.o.2.2.2.2.kept hk5)))))
      have HK5 := Sd.mk (HK4.o.then hk5)
      clear hb5 hk5 HK4 HS4
      go_wp2_with fail
      refine (HRFRAMES.o _ HK5.o).mono ?_
      clear HRFRAMES
      rintro e w6 ⟨A6', c6', rfl, hb6, hk6⟩
      have HF6 := Sd.mk hb6
      have HF5' := Sd.mk (HF5.o.kept hk6)
      have HK6 := Sd.mk (HK5.o.then hk6)
      have HA6 := Sd.mk (HS5.o.2.2.1.kept hk6)
      have hv1 := cv_bts (HS5.o.1.kept hk6)
      have hv2 := cv_bts (HS5.o.2.1.kept hk6)
      have hv3 := cv_bts (HS5.o.2.2.2.1.kept hk6)
      have hv4 := cv_bts (HS5.o.2.2.2.2.kept hk6)
      clear hb6 hk6 HK5 HS5 HF5
      go_wp2_with fail
      refine (HCRC.o _ HK6.o).mono ?_
      clear HCRC
      rintro e w' ⟨rfl, rfl⟩
      go_wp2_with fail
      refine (rcrc_any _ _ _ _ HA6.o).mono ?_
      rintro e w' ⟨rfl, rfl⟩
      generalize crc ys = C at *
      have HSM := Sd.mk (rsame_any w6 A5' A6' c5' c6' f1 f1 HF5'.o HF6.o (by omega) (by omega))
      have hdf : decide (f1 = f1) = true := by simp
      rw [hdf] at HSM
      clear hdf
      go_wp2_with (first
        | (go_at_call 11; refine (num_law _ _).mono ?_; rintro e w' ⟨rfl, rfl⟩)
        | (go_at_call 34; refine HSM.o.mono ?_; rintro e w' ⟨rfl, n7, rfl⟩)
        | (go_at_call 12; refine (live_any _).mono ?_; rintro e w' ⟨rfl, hk'⟩))
      go_ret
      exact ⟨rfl, (HK6.o.drewN _).then hk'⟩
end Go.Proofs.Ytlnmjeiiagkipaa.octetFrames
