/- The document's Load. -/
import Derived.Test.YthelafgdegkkkaaSymM
import Derived.Test.YthelafgdegkkkaaOctS
import Derived.Test.YthelafgdegkkkaaOctX
namespace Go.Proofs.Ythelafgdegkkkaa
open Go.RowKit Go.Maps
def RLoadPost (w : World) (p : List UInt8) (e : Ending) (w' : World) : Prop :=
  Keeps NoB w w' ∧ ((loadL p = none ∧ e = .returned (.tuple #[.pointer none, .int .i64 0, .int .i64 51])) ∨
    (∃ l b A c, loadL p = some l ∧ e = .returned (.tuple #[.pointer (some ⟨b, 0, none⟩), .int .i64 ((framesL p).2.1 : Nat), .int .i64 0]) ∧ IsR w' w.heap.size b A c l))
set_option maxHeartbeats 8000000 in
set_option maxRecDepth 100000 in
theorem trload_any (w : World) (A : Option Addr) (c : Nat) (p : List UInt8) (hb : Bts w (.slice A p.length c) p) (hl : p.length ≤ 1000000) :
    Calls Try.prog 7 #[.slice A p.length c] w (RLoadPost w p) := by
  have hfs := framesL_small p
  have hfn := framesL_len p
  have HFR := Sd.mk (rframes_any w A c p hb (by omega))
  have HLD : Sd (loadL p = loadGo (framesL p).1 [[]]) := ⟨rfl⟩
  obtain ⟨F, hF⟩ : ∃ F, F = framesL p := ⟨_, rfl⟩
  rw [← hF] at hfs hfn HFR HLD
  obtain ⟨fs, at_, er⟩ := F
  dsimp only at hfs hfn HFR HLD
  have HAT : Sd ((framesL p).2.1 = at_) := ⟨by rw [← hF]⟩
  have HFS := Sd.mk hfs
  have hfl : fs.length ≤ 1000000 := by omega
  clear hb hF hfs hfn
  go_enter Try.func7, Try.ntmps7
  go_wp2_with fail
  refine HFR.o.mono ?_
  clear HFR
  rintro e w2 ⟨A2, c2, rfl, hO, _, hK⟩
  have HL2 := Sd.mk hO.lrd.2
  have HK2 := Sd.mk hK
  clear hO hK
  go_wp2_with fail
  refine (trnew_any w2).mono ?_
  rintro e w3 ⟨b, A3, c3, rfl, hT, hK⟩
  have HT3 := Sd.mk hT
  have HK3 := Sd.mk hK
  clear hT hK
  go_wp2_with fail
  go_loopg [9] fs.length (fun gk i wr => ∃ (k c : Nat) (acc : List (List UInt8)) (A : Option Addr), gk + k = fs.length ∧ i = .int .i64 k ∧ acc.length ≤ 65536 ∧ Sd (loadL p = loadGo (fs.drop k) acc) ∧ Sd (IsR wr w2.heap.size b A c acc) ∧ Sd (Keeps NoB w2 wr))
  case atStart => exact ⟨0, c3, [[]], A3, by omega, rfl, by decide, HLD, HT3, HK3⟩
  case round =>
    clear HT3 HK3 HLD
    obtain ⟨k, c4, acc, A4, hk, rfl, hac, HLD, HT, HK⟩ := hrel
    by_cases hlt : k < fs.length
    · have hq1 : (k : Int) < (fs.length : Int) := by omega
      obtain ⟨b1, o1, A5, c5, rfl, hc, hb⟩ := (HL2.o.kept HK.o).at_ k hlt
      have hdrop : fs.drop k = fs[k] :: fs.drop (k + 1) := List.drop_eq_getElem_cons hlt
      have hgo : Sd (loadL p = if (symOf fs[k]).2 = 0 ∧ mayL (symOf fs[k]).1 = true ∧ (symOf fs[k]).1 ∉ acc ∧ acc.length < 65536 then loadGo (fs.drop (k + 1)) (acc ++ [(symOf fs[k]).1]) else none) := ⟨by rw [HLD.o, hdrop, loadGo]⟩
      have hsm := HFS.o _ (List.getElem_mem hlt)
      have HB := Sd.mk hb
      clear hb hdrop
      generalize fs[k] = f0 at *
      have HN := Sd.mk (rnew_any wr A5 _ c5 f0 HB.o (by omega))
      have htl := text_len ⟨f0, 0, 0, 0⟩ 64
      dsimp only at htl
      obtain ⟨s, hs⟩ : ∃ s, s = (RSt.text ⟨f0, 0, 0, 0⟩ 64).1 := ⟨_, rfl⟩
      obtain ⟨r1, hr1⟩ : ∃ r1, r1 = (RSt.text ⟨f0, 0, 0, 0⟩ 64).2 := ⟨_, rfl⟩
      have hsym : Sd (symOf f0 = (s, r1.done)) := ⟨by rw [hs, hr1]; rfl⟩
      have HTX : Sd (∀ w' b' A' c', IsRR w' b' ⟨f0, 0, 0, 0⟩ A' c' → Calls Try.prog 27 #[.pointer (some ⟨b', 0, none⟩), .int .i64 64] w' fun e' w'' => e' = .returned (.string (sOf s)) ∧ IsRR w'' b' r1 A' c' ∧ Keeps (OneB b') w' w'') := ⟨fun w' b' A' c' h => by
        have := rtext_some w' b' ⟨f0, 0, 0, 0⟩ A' c' h 64 (by decide) (by decide)
        rwa [← hs, ← hr1] at this⟩
      rw [← hs] at htl
      clear hs hr1
      go_wp2_with fail
      refine HN.o.mono ?_
      clear HN hc
      rintro e w5 ⟨b5, A6, c6, rfl, hI, hB, hb5, _⟩
      have HI := Sd.mk hI
      have HK5 := Sd.mk hB
      have HF5 := Sd.mk hb5
      clear hI hB hb5
      go_wp2_with fail
      refine (HTX.o w5 b5 A6 c6 HI.o).mono ?_
      clear HTX HI
      rintro e w6 ⟨rfl, hI, hK⟩
      have HI6 := Sd.mk hI
      have hK6 : Keeps NoB wr w6 := HK5.o.trans hK (fun _ _ f => f) (fun i hi f => by cases f; have := HF5.o; omega)
      have HK6 := Sd.mk hK6
      have HT6 := Sd.mk (HT.o.kept hK6)
      obtain ⟨S0, hS0⟩ : ∃ S0, S0 = sOf s := ⟨_, rfl⟩
      have hSd : Sd (S0.data.toList = s) := ⟨by rw [hS0]; rfl⟩
      have hSz : S0.size = s.length := by rw [hS0, sOf_size]
      have hSl : S0.size ≤ 1000000 := by omega
      rw [← hS0]
      have HDN := Sd.mk (rdone_some w6 b5 r1 A6 c6 HI6.o)
      have HMY := Sd.mk (fun w' => trsymbol_any w' S0 (by omega))
      rw [hSd.o] at HMY
      have HSZ := Sd.mk hSz
      rw [hsym.o] at hgo
      dsimp only at hgo
      have hfin : ∀ w', Keeps NoB w6 w' → ¬ (r1.done = 0 ∧ mayL s = true ∧ s ∉ acc ∧ acc.length < 65536) → RLoadPost w p (.returned (.tuple #[.pointer none, .int .i64 0, .int .i64 51])) w' := fun w' hk hn =>
        ⟨HK2.o.then ((HK.o.then HK6.o).then hk), .inl ⟨by rw [hgo.o, if_neg hn], rfl⟩⟩
      have HFIN := Sd.mk hfin
      obtain ⟨nr, hnr⟩ : ∃ nr, nr = numR acc s := ⟨_, rfl⟩
      have hS0l : S0.toList = s := by rw [hS0, sOf_toList]
      have HNU : Sd (∀ m, Calls Try.prog 30 #[.pointer (some ⟨b, 0, none⟩), .string S0] (w6.drewN m) fun e w' => e = .returned (.int .i64 nr) ∧ ∃ n3, w' = (w6.drewN m).drewN n3) := ⟨fun m => by
        have := trnumber_any (w6.drewN m) _ b A4 c4 acc (HT6.o.kept ((Keeps.refl NoB w6).drewN m)) (by omega) S0
        rwa [hS0l, ← hnr] at this⟩
      have HNR := Sd.mk hnr
      clear hK hI hK6 hS0 hSz hfin htl hnr hS0l
      by_cases hd : r1.done = 0
      case neg =>
        have hb : (r1.done != 0) = true := by simp [hd]
        have hno : Sd (¬ (r1.done = 0 ∧ mayL s = true ∧ s ∉ acc ∧ acc.length < 65536)) := ⟨fun h => hd h.1⟩
        clear hd
        go_wp2_with (go_at_call 28; refine HDN.o.mono ?_; rintro e w' ⟨rfl, n, rfl⟩)
        go_ret3
        exact HFIN.o _ ((Keeps.refl NoB w6).drewN n) hno.o
      have hb : (r1.done != 0) = false := by simp [hd]
      have HD := Sd.mk hd
      clear hd
      cases hmy : mayL s with
      | false =>
        have hno : Sd (¬ (r1.done = 0 ∧ mayL s = true ∧ s ∉ acc ∧ acc.length < 65536)) := ⟨fun h => by rw [hmy] at h; exact absurd h.2.1 (by decide)⟩
        rw [hmy] at HMY
        clear hmy
        go_wp2_with (first
          | (go_at_call 28; refine HDN.o.mono ?_; rintro e w' ⟨rfl, n, rfl⟩)
          | (go_at_call 29; refine (HMY.o _).mono ?_; rintro e w' ⟨rfl, n2, rfl⟩))
        go_ret3
        exact HFIN.o _ ((Keeps.refl NoB w6).drewN _) hno.o
      | true =>
      rw [hmy] at HMY
      have HMM := Sd.mk hmy
      clear hmy
      by_cases hkn : s ∈ acc
      · have hno : Sd (¬ (r1.done = 0 ∧ mayL s = true ∧ s ∉ acc ∧ acc.length < 65536)) := ⟨fun h => h.2.2.1 hkn⟩
        have hq4 : decide ((0 : Int) ≤ nr) = true := by have := HNR.o; unfold numR at this; rw [if_pos hkn] at this; simp; omega
        clear hkn
        go_wp2_with (first
          | (go_at_call 28; refine HDN.o.mono ?_; rintro e w' ⟨rfl, n, rfl⟩)
          | (go_at_call 29; refine (HMY.o _).mono ?_; rintro e w' ⟨rfl, n2, rfl⟩)
          | (go_at_call 30; refine (HNU.o _).mono ?_; rintro e w7 ⟨rfl, hW⟩; have HK7 : Sd (Keeps NoB w6 w7) := ⟨by obtain ⟨n3, rfl⟩ := hW; exact ((Keeps.refl NoB w6).drewN _).drewN n3⟩; have h0 : w7.cell? ⟨b, 0, none⟩ = some (.slice A4 acc.length c4) := blk_cell (HT6.o.kept HK7.o).blk 0; have f0 := blk_frozen (HT6.o.kept HK7.o).blk 0; have HO7 := Sd.mk (HT6.o.kept HK7.o).own; have HB7 := Sd.mk (HT6.o.kept HK7.o).blk; clear hW))
        go_ret3
        exact HFIN.o _ HK7.o hno.o
      have hnr1 : nr = -1 := by have := HNR.o; unfold numR at this; rwa [if_neg hkn] at this
      clear HNR
      subst hnr1
      have HKN := Sd.mk hkn
      clear hkn
      by_cases hle : 65536 ≤ acc.length
      · have hno : Sd (¬ (r1.done = 0 ∧ mayL s = true ∧ s ∉ acc ∧ acc.length < 65536)) := ⟨fun h => by omega⟩
        have hq3 : decide ((65536 : Int) ≤ (acc.length : Int)) = true := by simp; omega
        go_wp2_with (first
          | (go_at_call 28; refine HDN.o.mono ?_; rintro e w' ⟨rfl, n, rfl⟩)
          | (go_at_call 29; refine (HMY.o _).mono ?_; rintro e w' ⟨rfl, n2, rfl⟩)
          | (go_at_call 30; refine (HNU.o _).mono ?_; rintro e w7 ⟨rfl, hW⟩; have HK7 : Sd (Keeps NoB w6 w7) := ⟨by obtain ⟨n3, rfl⟩ := hW; exact ((Keeps.refl NoB w6).drewN _).drewN n3⟩; have h0 : w7.cell? ⟨b, 0, none⟩ = some (.slice A4 acc.length c4) := blk_cell (HT6.o.kept HK7.o).blk 0; have f0 := blk_frozen (HT6.o.kept HK7.o).blk 0; have HO7 := Sd.mk (HT6.o.kept HK7.o).own; have HB7 := Sd.mk (HT6.o.kept HK7.o).blk; clear hW))
        go_ret3
        exact HFIN.o _ HK7.o hno.o
      have hq3 : decide ((65536 : Int) ≤ (acc.length : Int)) = false := by simp; omega
      have hac2 : acc.length < 65536 := by omega
      have hst : Sd (loadL p = loadGo (fs.drop (k + 1)) (acc ++ [s])) := ⟨by rw [hgo.o, if_pos ⟨HD.o, HMM.o, HKN.o, hac2⟩]⟩
      have HLL : Sd ((strs acc).length = acc.length) := ⟨strs_len acc⟩
      clear hle
      go_wp2_with (first
          | (go_at_call 28; refine HDN.o.mono ?_; rintro e w' ⟨rfl, n, rfl⟩)
          | (go_at_call 29; refine (HMY.o _).mono ?_; rintro e w' ⟨rfl, n2, rfl⟩)
          | (go_at_call 30; refine (HNU.o _).mono ?_; rintro e w7 ⟨rfl, hW⟩; have HK7 : Sd (Keeps NoB w6 w7) := ⟨by obtain ⟨n3, rfl⟩ := hW; exact ((Keeps.refl NoB w6).drewN _).drewN n3⟩; have h0 : w7.cell? ⟨b, 0, none⟩ = some (.slice A4 acc.length c4) := blk_cell (HT6.o.kept HK7.o).blk 0; have f0 := blk_frozen (HT6.o.kept HK7.o).blk 0; have HO7 := Sd.mk (HT6.o.kept HK7.o).own; have HB7 := Sd.mk (HT6.o.kept HK7.o).blk; clear hW)
          | (at_builtin; go_must (refine app_row rfl _ _ 34 9 (.string ⟨#[]⟩) 16 rfl Try.underlying34 infoStr rfl (.slice A4 acc.length c4) (strs acc) rfl (HO7.o.kept ((Keeps.refl NoB w7).alloc _)) ⟨w7.heap.size, 0, none⟩ 1 1 [.string S0] rfl rfl (fun _ _ hj => new_one hj) (fun u hu => by simp at hu; subst hu; rfl) (by rw [HLL.o]; omega) (by rw [HLL.o]; omega) ?_); intro A9 c9 w9 HO9 HK9 HG9; rw [HLL.o] at HO9 HG9 ⊢; have hK9 : Keeps (ownB (.slice A4 acc.length c4)) w7 w9 := HK9.undoalloc; have hb9 := hK9.obj HB7.o (HO7.o.ne_blk HB7.o (by decide)); have h9 : w9.cell? ⟨b, 0, none⟩ = some (.slice A4 acc.length c4) := blk_cell hb9 0; have f9 := blk_frozen hb9 0; have HP := Sd.mk (And.intro HO9 (And.intro hK9 (And.intro HG9 hb9))); clear HO9 HK9 HG9 hK9 hb9))
      go_roundg (gk - 1)
      case measure => omega
      case rel =>
        obtain ⟨HO9, hK9, HG9, hb9⟩ := HP.o
        have e1 : strs acc ++ [Value.string S0] = strs (acc ++ [s]) := by rw [← hSd.o, strs, strs, List.map_append]; simp [sOf_eq]
        have e2 : acc.length + 1 = (acc ++ [s]).length := by simp
        rw [e1] at HO9
        rw [e2] at HO9 HG9 ⊢
        have hF3 : Keeps (OneB b) w9 (w9.setCell ⟨b, 0, none⟩ (.slice A9 (acc ++ [s]).length c9)) := (Keeps.refl (OneB b) w9).setCell ⟨b, 0, none⟩ _ (fun _ => rfl)
        have hk7 : Keeps NoB w2 w7 := (HK.o.then HK6.o).then HK7.o
        have hT7 := HT6.o.kept HK7.o
        have hk9 : Keeps NoB w2 w9 := hk7.trans hK9 (fun _ _ f => f) (fun i hi f => by have := hT7.a0 i f; omega)
        exact ⟨k + 1, c9, acc ++ [s], A9, by omega, by go_num, by simp; omega, hst, ⟨blk_set hb9 0 _, HO9.keeps hF3 (fun k hk e => by
            have e' : k = b := e
            subst e'
            exact HO9.ne_blk hb9 (by decide) hk), hT7.b0, fun k hk => by
            rcases HG9 k hk with h | h
            · exact hT7.a0 k h
            · simp at h
              have := hk7.size
              omega⟩, ⟨hk9.trans hF3 (fun _ _ f => f) (fun i hi f => by cases f; have := hT7.b0; omega)⟩⟩
    · have hq1 : ¬ (k : Int) < (fs.length : Int) := by omega
      have hfin : Sd (loadL p = some acc) := ⟨by rw [HLD.o, List.drop_of_length_le (by omega)]; rfl⟩
      go_wp2
      go_ret3
      have hsz := HK2.o.size
      have hT := HT.o
      exact ⟨HK2.o.then HK.o, .inr ⟨acc, b, A4, c4, hfin.o, by rw [HAT.o]; rfl, ⟨hT.blk, hT.own, Nat.le_trans hsz hT.b0, fun k hk => Nat.le_trans hsz (hT.a0 k hk)⟩⟩⟩
end Go.Proofs.Ythelafgdegkkkaa
