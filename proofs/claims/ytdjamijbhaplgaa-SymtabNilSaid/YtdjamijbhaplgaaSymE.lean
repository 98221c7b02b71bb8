/- symtab: Load. -/
import Derived.Test.YtdjamijbhaplgaaSymD
namespace Go.Proofs.Ytdjamijbhaplgaa
open Go.RowKit Go.Maps

/-- What Load leaves. -/
def LoadPost (w : World) (p : List UInt8) (e : Ending) (w' : World) : Prop :=
  Keeps NoB w w' ∧ ((loadL p = none ∧ e = .returned (.tuple #[.pointer none, .int .i64 0, .int .i64 51])) ∨
    (∃ l b mb A c, loadL p = some l ∧ e = .returned (.tuple #[.pointer (some ⟨b, 0, none⟩), .int .i64 ((framesL p).2.1 : Nat), .int .i64 0]) ∧ IsT w' w.heap.size b mb A c l))
theorem text_len (s : RSt) (m : Int) : (s.text m).1.length ≤ s.p.length := by
  unfold RSt.text
  split
  · split
    · simp
    · simp only [List.length_take, List.length_drop]; omega
  · simp
theorem framesGo_small : ∀ (n : Nat) (p : List UInt8) (k : Nat) (acc : List (List UInt8)), (∀ x ∈ acc, x.length ≤ p.length) → ∀ x ∈ (framesGo n p k acc).1, x.length ≤ p.length
  | 0, p, k, acc, h, x, hx => h x hx
  | n + 1, p, k, acc, h, x, hx => by
    unfold framesGo at hx
    split at hx
    · split at hx
      · rename_i h3 h4
        have := openL_ok (p.drop k) h4
        rw [List.length_drop] at this
        refine framesGo_small n p _ _ (fun y hy => ?_) x hx
        rcases List.mem_append.1 hy with hy | hy
        · exact h y hy
        · simp at hy; subst hy; omega
      · exact h x hx
    · exact h x hx
theorem framesL_small (p : List UInt8) : ∀ x ∈ (framesL p).1, x.length ≤ p.length := framesGo_small _ p 0 [] (by simp)
theorem loadGo_len : ∀ (fs acc l : List (List UInt8)), loadGo fs acc = some l → acc.length ≤ 65536 → l.length ≤ 65536
  | [], acc, l, h, ha => by simp [loadGo] at h; subst h; exact ha
  | b :: fs, acc, l, h, ha => by
    unfold loadGo at h
    split at h
    · rename_i hc; exact loadGo_len fs _ l h (by simp; omega)
    · cases h

set_option maxHeartbeats 8000000 in
set_option maxRecDepth 100000 in
theorem tload_any (w : World) (A : Option Addr) (c : Nat) (p : List UInt8) (hb : Bts w (.slice A p.length c) p) (hl : p.length ≤ 1000000) :
    Calls Try.prog 19 #[.slice A p.length c] w (LoadPost w p) := by
  have hfs := framesL_small p
  have hfn := framesL_len p
  have HFR := Sd.mk (frames_any w A c p hb (by omega))
  have HLD : Sd (loadL p = loadGo (framesL p).1 [[]]) := ⟨rfl⟩
  obtain ⟨F, hF⟩ : ∃ F, F = framesL p := ⟨_, rfl⟩
  rw [← hF] at hfs hfn HFR HLD
  obtain ⟨fs, at_, er⟩ := F
  dsimp only at hfs hfn HFR HLD
  have HAT : Sd ((framesL p).2.1 = at_) := ⟨by rw [← hF]⟩
  have HFS := Sd.mk hfs
  have hfl : fs.length ≤ 1000000 := by omega
  clear hb hF hfs hfn
  go_enter Try.func19, Try.ntmps19
  go_wp2_with fail
  refine HFR.o.mono ?_
  clear HFR
  rintro e w2 ⟨A2, c2, rfl, hO, _, hK⟩
  have HL2 := Sd.mk hO.lrd.2
  have HK2 := Sd.mk hK
  clear hO hK
  go_wp2_with fail
  refine (tnew_any w2).mono ?_
  rintro e w3 ⟨b, mb, A3, c3, rfl, hT, hK⟩
  have HT3 := Sd.mk hT
  have HK3 := Sd.mk hK
  clear hT hK
  go_wp2_with fail
  go_loopg [24] fs.length (fun gk i wr => ∃ (k c : Nat) (acc : List (List UInt8)) (A : Option Addr), gk + k = fs.length ∧ i = .int .i64 k ∧ acc.length ≤ 65536 ∧ Sd (loadL p = loadGo (fs.drop k) acc) ∧ Sd (IsT wr w2.heap.size b mb A c acc) ∧ Sd (Keeps NoB w2 wr))
  case atStart => exact ⟨0, c3, [[]], A3, by omega, rfl, by decide, HLD, HT3, HK3⟩
  case round =>
    clear HT3 HK3 HLD
    obtain ⟨k, c4, acc, A4, hk, rfl, hac, HLD, HT, HK⟩ := hrel
    by_cases hlt : k < fs.length
    · have hq1 : (k : Int) < (fs.length : Int) := by omega
      obtain ⟨b1, o1, A5, c5, rfl, hc, hb⟩ := (HL2.o.kept HK.o).at_ k hlt
      have hdrop : fs.drop k = fs[k] :: fs.drop (k + 1) := List.drop_eq_getElem_cons hlt
      have hgo : Sd (loadL p = if (symOf fs[k]).2 = 0 ∧ mayL (symOf fs[k]).1 = true ∧ (symOf fs[k]).1 ∉ acc ∧ acc.length < 65536 then loadGo (fs.drop (k + 1)) (acc ++ [(symOf fs[k]).1]) else none) := ⟨by rw [HLD.o, hdrop, loadGo]⟩
      have hsm := HFS.o _ (List.getElem_mem hlt)
      have HB := Sd.mk hb
      clear hb hdrop
      generalize fs[k] = f0 at *
      have HN := Sd.mk (new_any wr A5 _ c5 f0 HB.o (by omega))
      have htl := text_len ⟨f0, 0, 0, 0⟩ 64
      dsimp only at htl
      obtain ⟨s, hs⟩ : ∃ s, s = (RSt.text ⟨f0, 0, 0, 0⟩ 64).1 := ⟨_, rfl⟩
      obtain ⟨r1, hr1⟩ : ∃ r1, r1 = (RSt.text ⟨f0, 0, 0, 0⟩ 64).2 := ⟨_, rfl⟩
      have hsym : Sd (symOf f0 = (s, r1.done)) := ⟨by rw [hs, hr1]; rfl⟩
      have HTX : Sd (∀ w' b' A' c', IsRd w' b' ⟨f0, 0, 0, 0⟩ A' c' → Calls Try.prog 36 #[.pointer (some ⟨b', 0, none⟩), .int .i64 64] w' fun e' w'' => e' = .returned (.string (sOf s)) ∧ IsRd w'' b' r1 A' c' ∧ Keeps (OneB b') w' w'') := ⟨fun w' b' A' c' h => by
        have := text_some w' b' ⟨f0, 0, 0, 0⟩ A' c' h 64 (by decide) (by decide)
        rwa [← hs, ← hr1] at this⟩
      rw [← hs] at htl
      clear hs hr1
      go_wp2_with fail
      refine HN.o.mono ?_
      clear HN hc
      rintro e w5 ⟨b5, A6, c6, rfl, hI, hB, hb5, _⟩
      have HI := Sd.mk hI
      have HK5 := Sd.mk (Keeps.of_below hB NoB)
      have HF5 := Sd.mk hb5
      clear hI hB hb5
      go_wp2_with fail
      refine (HTX.o w5 b5 A6 c6 HI.o).mono ?_
      clear HTX HI
      rintro e w6 ⟨rfl, hI, hK⟩
      have HI6 := Sd.mk hI
      have hK6 : Keeps NoB wr w6 := HK5.o.trans hK (fun _ _ f => f) (fun i hi f => by cases f; have := HF5.o; omega)
      have HK6 := Sd.mk hK6
      have HT6 := Sd.mk (HT.o.kept hK6)
      have h1 : w6.cell? ⟨b, 1, none⟩ = some (.map (some mb)) := blk_cell HT6.o.blk 1
      have h0 : ∀ n, (w6.drewN n).cell? ⟨b, 0, none⟩ = some (.slice A4 acc.length c4) := fun n => blk_cell HT6.o.blk 0
      obtain ⟨S0, hS0⟩ : ∃ S0, S0 = sOf s := ⟨_, rfl⟩
      have hSd : Sd (S0.data.toList = s) := ⟨by rw [hS0]; rfl⟩
      have hSz : S0.size = s.length := by rw [hS0, sOf_size]
      have hSl : S0.size ≤ 1000000 := by omega
      rw [← hS0]
      have hlook := HT6.o.map.look S0 (by omega)
      rw [hSd.o] at hlook
      have HDN := Sd.mk (done_some w6 b5 r1 A6 c6 HI6.o)
      have HMY := Sd.mk (fun w' => may_any S0 w')
      rw [hSd.o] at HMY
      have HSZ := Sd.mk hSz
      rw [hsym.o] at hgo
      dsimp only at hgo
      have hfin : ∀ w', Keeps NoB w6 w' → ¬ (r1.done = 0 ∧ mayL s = true ∧ s ∉ acc ∧ acc.length < 65536) → LoadPost w p (.returned (.tuple #[.pointer none, .int .i64 0, .int .i64 51])) w' := fun w' hk hn =>
        ⟨HK2.o.then ((HK.o.then HK6.o).then hk), .inl ⟨by rw [hgo.o, if_neg hn], rfl⟩⟩
      have HFIN := Sd.mk hfin
      have HNUM := Sd.mk (numL_lt (l := acc) s HT.o.ne)
      clear hK hI hK6 hS0 hSz hfin htl
      generalize numL acc s = nn at *
      by_cases hd : r1.done = 0
      case neg =>
        have hb : (r1.done != 0) = true := by simp [hd]
        have hno : Sd (¬ (r1.done = 0 ∧ mayL s = true ∧ s ∉ acc ∧ acc.length < 65536)) := ⟨fun h => hd h.1⟩
        clear hd
        go_wp2_with (go_at_call 37; refine HDN.o.mono ?_; rintro e w' ⟨rfl, n, rfl⟩)
        go_ret3
        exact HFIN.o _ ((Keeps.refl NoB w6).drewN n) hno.o
      have hb : (r1.done != 0) = false := by simp [hd]
      have HD := Sd.mk hd
      clear hd
      cases hmy : mayL s with
      | false =>
        have hno : Sd (¬ (r1.done = 0 ∧ mayL s = true ∧ s ∉ acc ∧ acc.length < 65536)) := ⟨fun h => by rw [hmy] at h; exact absurd h.2.1 (by decide)⟩
        rw [hmy] at HMY
        clear hmy
        go_wp2_with (first
          | (go_at_call 37; refine HDN.o.mono ?_; rintro e w' ⟨rfl, n, rfl⟩)
          | (go_at_call 23; refine (HMY.o _).mono ?_; rintro e w' ⟨rfl, rfl⟩))
        go_ret3
        exact HFIN.o _ ((Keeps.refl NoB w6).drewN n) hno.o
      | true =>
      rw [hmy] at HMY
      have HMM := Sd.mk hmy
      clear hmy
      by_cases hkn : s ∈ acc
      · have hno : Sd (¬ (r1.done = 0 ∧ mayL s = true ∧ s ∉ acc ∧ acc.length < 65536)) := ⟨fun h => h.2.2.1 hkn⟩
        rw [decide_eq_true hkn] at hlook
        clear hkn
        go_wp2_with (first
          | (go_at_call 37; refine HDN.o.mono ?_; rintro e w' ⟨rfl, n, rfl⟩)
          | (go_at_call 23; refine (HMY.o _).mono ?_; rintro e w' ⟨rfl, rfl⟩))
        go_ret3
        exact HFIN.o _ ((Keeps.refl NoB w6).drewN n) hno.o
      rw [decide_eq_false hkn] at hlook
      have HKN := Sd.mk hkn
      clear hkn
      by_cases hle : 65536 ≤ acc.length
      · have hno : Sd (¬ (r1.done = 0 ∧ mayL s = true ∧ s ∉ acc ∧ acc.length < 65536)) := ⟨fun h => by omega⟩
        have hq3 : decide ((65536 : Int) ≤ (acc.length : Int)) = true := by simp; omega
        go_wp2_with (first
          | (go_at_call 37; refine HDN.o.mono ?_; rintro e w' ⟨rfl, n, rfl⟩)
          | (go_at_call 23; refine (HMY.o _).mono ?_; rintro e w' ⟨rfl, rfl⟩))
        go_ret3
        exact HFIN.o _ ((Keeps.refl NoB w6).drewN n) hno.o
      have hq3 : decide ((65536 : Int) ≤ (acc.length : Int)) = false := by simp; omega
      have hac2 : acc.length < 65536 := by omega
      have hst : Sd (loadL p = loadGo (fs.drop (k + 1)) (acc ++ [s])) := ⟨by rw [hgo.o, if_pos ⟨HD.o, HMM.o, HKN.o, hac2⟩]⟩
      have HAD : Sd (∀ n, Calls Try.prog 24 #[.pointer (some ⟨b, 0, none⟩), .string S0] (w6.drewN n) fun e w' => e = .returned (.tuple #[]) ∧ (∃ A' c', IsT w' w2.heap.size b mb A' c' (acc ++ [s])) ∧ Keeps (FromB w2.heap.size) (w6.drewN n) w') := ⟨fun n => by
        have := tadd_any (w6.drewN n) w2.heap.size b mb A4 c4 acc (HT6.o.kept ((Keeps.refl NoB w6).drewN n)) S0 (by rw [HSZ.o]; exact mayL_len HMM.o) (by rw [hSd.o]; exact HKN.o) (by omega) (Nat.le_trans HK.o.size HK6.o.size)
        rwa [hSd.o] at this⟩
      clear hle
      go_wp2_with (first
        | (go_at_call 37; refine HDN.o.mono ?_; rintro e w' ⟨rfl, n, rfl⟩)
        | (go_at_call 23; refine (HMY.o _).mono ?_; rintro e w' ⟨rfl, rfl⟩)
        | (go_at_call 24; refine (HAD.o _).mono ?_; rintro e w' ⟨rfl, hT, hK⟩; have HT9 := Sd.mk hT; have HK9 := Sd.mk hK; clear hT hK))
      go_roundg (gk - 1)
      case measure => omega
      case rel =>
        obtain ⟨A9, c9, hT9⟩ := HT9.o
        exact ⟨k + 1, c9, acc ++ [s], A9, by omega, by go_num, by simp; omega, hst, ⟨hT9⟩, ⟨((HK.o.then HK6.o).drewN n).trans HK9.o (fun _ _ f => f) (fun i hi f => by have f' : w2.heap.size ≤ i := f; omega)⟩⟩
    · have hq1 : ¬ (k : Int) < (fs.length : Int) := by omega
      have hfin : Sd (loadL p = some acc) := ⟨by rw [HLD.o, List.drop_of_length_le (by omega)]; rfl⟩
      go_wp2
      go_ret3
      have hsz := HK2.o.size
      have hT := HT.o
      exact ⟨HK2.o.then HK.o, .inr ⟨acc, b, mb, A4, c4, hfin.o, by rw [HAT.o]; rfl, ⟨hT.blk, hT.own, hT.map, hT.ne, hT.sz, Nat.le_trans hsz hT.b0, Nat.le_trans hsz hT.m0, fun k hk => Nat.le_trans hsz (hT.a0 k hk)⟩⟩⟩
end Go.Proofs.Ytdjamijbhaplgaa
