/- the reference: Frames, Same; the law's huge. -/
import Derived.Test.YtlnmjeiiagkipaaOctO
namespace Go.Proofs.Ytlnmjeiiagkipaa
open Go.RowKit

set_option maxHeartbeats 4000000 in
set_option maxRecDepth 100000 in
theorem rframes_any (w : World) (A : Option Addr) (c : Nat) (p : List UInt8) (hb : Bts w (.slice A p.length c) p) (hl : p.length ≤ 1099511627776) :
    Calls Try.prog 31 #[.slice A p.length c] w fun e w' => ∃ A' c', e = .returned (.tuple #[.slice A' (framesL p).1.length c', .int .i64 (framesL p).2.1, .int .i64 (framesL p).2.2]) ∧ LOwn w' (.slice A' (framesL p).1.length c') (framesL p).1 ∧ Fresh w (.slice A' (framesL p).1.length c') ∧ Keeps NoB w w' := by
  have HB := Sd.mk hb
  clear hb
  obtain ⟨R, hR⟩ : ∃ R, R = framesL p := ⟨_, rfl⟩
  rw [← hR]
  have HRR : Sd (framesGo (p.length + 1) p 0 [] = R) := ⟨hR.symm⟩
  clear hR
  obtain ⟨i0, hi, hz0, hz1, hz2⟩ := info_parts infoU8
  go_enter Try.func31, Try.ntmps31
  go_wp2_with fail
  go_loopg [5, 6] (p.length + 1) (fun gk l i wr => ∃ (k : Nat) (acc : List (List UInt8)) (A1 : Option Addr) (c1 : Nat), p.length < gk + k ∧ i = .int .i64 k ∧ k ≤ p.length ∧ l = .slice A1 acc.length c1 ∧ acc.length ≤ k ∧ Sd (framesGo gk p k acc = R) ∧ Sd (LOwn wr (.slice A1 acc.length c1) acc) ∧ Sd (Fresh w (.slice A1 acc.length c1)) ∧ Sd (Keeps NoB w wr))
  case atStart => exact ⟨0, [], none, 0, by omega, rfl, by omega, rfl, by simp, HRR, ⟨LOwn.nil _⟩, ⟨fun k hk => by simp [Value.ownBlock] at hk⟩, ⟨Keeps.refl _ _⟩⟩
  case round =>
    clear HRR
    obtain ⟨k, acc, A1, c1, hk, rfl, hkl, rfl, hacl, HRR, HO, HF, HK⟩ := hrel
    by_cases hlt : k < p.length
    · have hq : (k : Int) < (p.length : Int) := by omega
      obtain ⟨g, rfl⟩ : ∃ g, gk = g + 1 := ⟨gk - 1, by omega⟩
      have hsl : ∀ W : World, (Instr.slice 22 (.slice A p.length c) (some (.int .i64 (k : Int))) none none).run Try.prog W = .ok (.slice (cutA A c k) (p.length - k) (c - k)) W := fun W =>
        slice_run_l 22 5 .i64 Try.underlying22 hi hz1 A p.length c k (by omega) W _ rfl
      have hdl : (p.drop k).length = p.length - k := by simp
      have HOp := Sd.mk (ropen_any wr (cutA A c k) (c - k) (p.drop k) (by rw [hdl]; exact (HB.o.drop k (by omega)).keeps HK.o (fun _ _ _ _ _ f => f)) (by omega))
      rw [hdl] at HOp
      have hgo : Sd (framesGo (g + 1) p k acc = if (openL (p.drop k)).2.2 = 0 then framesGo g p (k + (openL (p.drop k)).2.1) (acc ++ [(openL (p.drop k)).1]) else (acc, k, (openL (p.drop k)).2.2)) := ⟨by rw [framesGo, if_pos hlt]⟩
      have hok := Sd.mk (openL_ok (p.drop k))
      rw [hdl] at hok
      generalize openL (p.drop k) = Q at *
      obtain ⟨q, n, er⟩ := Q
      dsimp only at *
      clear hdl
      go_wp2_with fail
      refine HOp.o.mono ?_
      clear HOp hsl
      rintro e w2 ⟨A2, c2, rfl, hO2, hF2, hK2⟩
      have HO2 := Sd.mk hO2
      have HF2 := Sd.mk hF2
      have HK2 := Sd.mk hK2
      clear hO2 hF2 hK2
      by_cases he : er = 0
      · have hb : (er != 0) = false := by simp [he]
        have hgo2 := hgo.o
        rw [if_pos he, HRR.o] at hgo2
        have HG := Sd.mk hgo2
        have hok2 := hok.o he
        clear hgo2 he hok
        have HV : Sd (OwnV w2 22 (.slice A1 acc.length c1) (HO.o.choose)) := ⟨(HO.o.choose_spec.2.1).keeps HK2.o (fun _ _ f => f)⟩
        have hvl := HO.o.choose_spec.1
        have hve := HO.o.choose_spec.2.2
        generalize HO.o.choose = vs at *
        have HVE := Sd.mk hve
        have HVL := Sd.mk hvl
        clear hve hvl
        have hOV : Sd (OwnV (w2.alloc (.cells #[.slice A2 q.length c2] 22)) 22 (.slice A1 acc.length c1) vs) := ⟨HV.o.keeps ((Keeps.refl NoB _).alloc _) (fun _ _ f => f)⟩
        go_wp2_with (at_builtin; go_must (refine app_row rfl _ _ 54 22 (.slice none 0 0) 24 rfl Try.underlying54 infoBs rfl (.slice A1 acc.length c1) vs rfl hOV.o ⟨_, 0, none⟩ 1 1 [.slice A2 q.length c2] rfl rfl (fun _ _ hj => new_one hj) (fun u hu => by simp at hu; subst hu; rfl) (by rw [HVL.o]; omega) (by rw [HVL.o]; omega) ?_))
        intro A3 c3 w3 HO3 HK3 HG3
        have HO3' := Sd.mk HO3
        have HK3' := Sd.mk HK3
        have HG3' := Sd.mk HG3
        clear HO3 HK3 HG3
        go_wp2
        go_roundg g
        case measure => omega
        case rel =>
          have hvl := HVL.o
          have e1 : vs.length + 1 = (acc ++ [q]).length := by simp; omega
          rw [e1] at HO3' HG3' ⊢
          refine ⟨k + n, acc ++ [q], A3, c3, by omega, by go_num, by omega, rfl, by simp; omega, ⟨HG.o.symm⟩, ⟨vs ++ [.slice A2 q.length c2], by simp; omega, HO3'.o, fun i hi hi' => ?_⟩, ⟨HF.o.grew (Nat.le_trans HK.o.size HK2.o.size) HG3'.o.undoalloc⟩, ⟨(HK.o.then HK2.o).fresh HF.o HK3'.o.undoalloc⟩⟩
          have hne : ∀ u us, OwnV w2 5 u us → OwnV w3 5 u us := fun u us hu => hu.keeps HK3'.o.undoalloc (HV.o.ne hu (by decide))
          by_cases hil : i < vs.length
          · have h1 := HVE.o i hil (by omega)
            rw [List.getElem_append_left hil, List.getElem_append_left (by omega)]
            exact hne _ _ (h1.keeps HK2.o (fun _ _ f => f))
          · have h2 : i = vs.length := by simp at hi; omega
            subst h2
            rw [List.getElem_append_right (by omega), List.getElem_append_right (by omega)]
            simp only [hvl, Nat.sub_self, List.getElem_cons_zero]
            exact hne _ _ HO2.o
      · have hb : (er != 0) = true := by simp [he]
        have hgo2 := hgo.o
        rw [if_neg he, HRR.o] at hgo2
        have HG := Sd.mk hgo2
        clear hgo2 he hok
        go_wp2
        go_ret3
        rw [HG.o]
        obtain ⟨vs, hvl, hv, hve⟩ := HO.o
        exact ⟨A1, c1, rfl, ⟨vs, hvl, hv.keeps HK2.o (fun _ _ f => f), fun i hi hi' => (hve i hi hi').keeps HK2.o (fun _ _ f => f)⟩, HF.o, HK.o.then HK2.o⟩
    · have hq : ¬ (k : Int) < (p.length : Int) := by omega
      have hR : R = (acc, k, 0) := by
        rw [← HRR.o]
        cases gk with
        | zero => rfl
        | succ g => rw [framesGo, if_neg hlt]
      have HR := Sd.mk hR
      clear hR
      go_wp2
      go_ret3
      rw [HR.o]
      exact ⟨A1, c1, rfl, HO.o, HF.o, HK.o⟩

set_option maxHeartbeats 4000000 in
set_option maxRecDepth 100000 in
theorem rsame_any (w : World) (A B : Option Addr) (c d : Nat) (xs ys : List (List UInt8)) (hx : LRd w A xs) (hy : LRd w B ys) (hxl : xs.length ≤ 140737488355328) (hyl : ys.length ≤ 140737488355328) :
    Calls Try.prog 34 #[.slice A xs.length c, .slice B ys.length d] w fun e w' => e = .returned (.bool (decide (xs = ys))) ∧ ∃ n, w' = w.drewN n := by
  have HX := Sd.mk hx
  have HY := Sd.mk hy
  clear hx hy
  by_cases hlen : xs.length = ys.length
  case neg =>
    have hq : ((xs.length : Int) != (ys.length : Int)) = true := by simp; omega
    have hf : Sd (decide (xs = ys) = false) := ⟨decide_eq_false (fun e => hlen (by rw [e]))⟩
    clear hlen
    go_enter Try.func34, Try.ntmps34
    go_wp2
    go_ret
    exact ⟨by rw [hf.o]; rfl, 0, rfl⟩
  have hq : ((xs.length : Int) != (ys.length : Int)) = false := by simp; omega
  have HLEN := Sd.mk hlen
  clear hlen
  go_enter Try.func34, Try.ntmps34
  go_wp2_with fail
  go_loopg [5] xs.length (fun gk i wr => ∃ (k m : Nat), gk + k = xs.length ∧ i = .int .i64 k ∧ k ≤ xs.length ∧ Sd (xs.take k = ys.take k) ∧ Sd (wr = w.drewN m))
  case atStart => exact ⟨0, 0, by omega, rfl, by omega, ⟨by simp⟩, ⟨rfl⟩⟩
  case round =>
    obtain ⟨k, m, hk, rfl, hk1, hT, ⟨rfl⟩⟩ := hrel
    by_cases hlt : k < xs.length
    · have hq1 : (k : Int) < (xs.length : Int) := by omega
      have hq2 : (k : Int) < (ys.length : Int) := by have := HLEN.o; omega
      have hq0 : (0 : Int) ≤ (k : Int) := by omega
      have hlt2 : k < ys.length := by have := HLEN.o; omega
      obtain ⟨b1, o1, A1, c1, rfl, g1, hb1⟩ := HX.o.at_ k hlt
      obtain ⟨b2, o2, A2, c2, rfl, g2, hb2⟩ := HY.o.at_ k hlt2
      have hc1 : ∀ n, (convert 22 9 (.slice A1 xs[k].length c1)).run Try.prog (w.drewN n) = .ok (.string (sOf xs[k])) (w.drewN n) := fun n =>
        conv_rd (P := Try.prog) (w.drewN n) 22 5 9 Try.underlying22 Try.underlying5 Try.underlying9 A1 xs[k] c1 (hb1.drewN n).rd.2.2.2.2.2
      have hc2 : ∀ n, (convert 22 9 (.slice A2 ys[k].length c2)).run Try.prog (w.drewN n) = .ok (.string (sOf ys[k])) (w.drewN n) := fun n =>
        conv_rd (P := Try.prog) (w.drewN n) 22 5 9 Try.underlying22 Try.underlying5 Try.underlying9 A2 ys[k] c2 (hb2.drewN n).rd.2.2.2.2.2
      by_cases he : xs[k] = ys[k]
      · have hst : Sd (xs.take (k + 1) = ys.take (k + 1)) := ⟨take_snoc _ _ k hlt hlt2 hT.o he⟩
        have heq : ((sOf xs[k]).toList == (sOf ys[k]).toList) = true := by rw [sOf_toList, sOf_toList, he]; simp
        clear hb1 hb2 he
        generalize xs[k] = x at *
        generalize ys[k] = y at *
        go_wp2_with fail
        go_quiet (fail)
        clear hc1 hc2 g1 g2 heq
        go_wp2_with fail
        go_roundg (gk - 1)
        case measure => omega
        case rel => exact ⟨k + 1, _, by omega, by go_num, by omega, hst, ⟨rfl⟩⟩
      · have hno : Sd (decide (xs = ys) = false) := ⟨decide_eq_false (fun e => he (by simp only [e]))⟩
        have heq : ((sOf xs[k]).toList == (sOf ys[k]).toList) = false := by rw [sOf_toList, sOf_toList]; simpa using he
        clear hb1 hb2 he
        generalize xs[k] = x at *
        generalize ys[k] = y at *
        go_wp2_with fail
        go_quiet (fail)
        clear hc1 hc2 g1 g2 heq
        go_wp2_with fail
        go_ret
        exact ⟨by rw [hno.o]; rfl, _, World.drewN_drewN _ _ _⟩
    · have hq1 : ¬ (k : Int) < (xs.length : Int) := by omega
      have hyes : Sd (decide (xs = ys) = true) := ⟨decide_eq_true (by
        have := hT.o
        rw [List.take_of_length_le (by omega), List.take_of_length_le (by have := HLEN.o; omega)] at this
        exact this)⟩
      go_wp2_with fail
      go_ret
      exact ⟨by rw [hyes.o]; rfl, _, rfl⟩

set_option maxHeartbeats 4000000 in
set_option maxRecDepth 100000 in
theorem huge_any (w : World) (A : Option Addr) (c : Nat) (ls : List (List UInt8)) (hx : LRd w A ls) (hls : ∀ s ∈ ls, s.length ≤ 140737488351232) (hl : ls.length ≤ 9223372036854775807) :
    Calls Try.prog 27 #[.slice A ls.length c] w fun e w' => ∃ bb : Bool, e = .returned (.bool bb) ∧ w = w' ∧ (bb = false → ls.length ≤ 60 ∧ ls.flatten.length ≤ 20000) := by
  have HX := Sd.mk hx
  have HL := Sd.mk hls
  clear hx hls
  go_enter Try.func27, Try.ntmps27
  go_wp2_with fail
  go_loopg [3, 4] 62 (fun gk n i wr => ∃ (k s : Nat), gk + k = 62 ∧ i = .int .i64 k ∧ k ≤ 61 ∧ k ≤ ls.length ∧ n = .int .i64 s ∧ s ≤ k * 140737488351232 ∧ Sd (s = (ls.take k).flatten.length) ∧ Sd (w = wr))
  case atStart => exact ⟨0, 0, rfl, rfl, by omega, by omega, rfl, by omega, ⟨rfl⟩, ⟨rfl⟩⟩
  case round =>
    obtain ⟨k, s, hk, rfl, hk1, hkl, rfl, hs, hsum, ⟨rfl⟩⟩ := hrel
    by_cases hlt : k < ls.length ∧ k ≤ 60
    · obtain ⟨hlt, hle⟩ := hlt
      have hq : decide (k < ls.length) = true := by simpa using hlt
      have hq2 : decide ((k : Int) ≤ 60) = true := by simp; omega
      obtain ⟨b1, o1, A1, c1, rfl, hc, _⟩ := HX.o.at_ k hlt
      have hsz := HL.o _ (List.getElem_mem hlt)
      have htk : Sd ((ls.take (k + 1)).flatten.length = (ls.take k).flatten.length + ls[k].length) := ⟨by rw [flatten_take ls k hlt, List.length_append]⟩
      generalize ls[k] = l0 at *
      go_wp2
      go_roundg (gk - 1)
      case measure => omega
      case rel => exact ⟨k + 1, s + l0.length, by omega, by go_num, by omega, by omega, by go_num, by omega, ⟨by rw [htk.o, ← hsum.o]⟩, ⟨rfl⟩⟩
    · have hfin : Sd (ls.length ≤ 60 → s = ls.flatten.length) := ⟨fun h => by rw [hsum.o, List.take_of_length_le (by omega)]⟩
      by_cases hk2 : k < ls.length
      · have hq : decide (k < ls.length) = true := by simpa using hk2
        have hq2 : decide ((k : Int) ≤ 60) = false := by simp; omega
        have hbig : decide ((60 : Int) < (ls.length : Int)) = true := by simp; omega
        clear hlt
        go_wp2
        go_ret
        exact ⟨_, rfl, rfl, fun h => by cases h⟩
      · have hq : decide (k < ls.length) = false := by simpa using hk2
        clear hlt
        by_cases g1 : 60 < ls.length
        · have hb1 : decide ((60 : Int) < (ls.length : Int)) = true := by simp; omega
          go_wp2
          go_ret
          exact ⟨_, rfl, rfl, fun h => by cases h⟩
        · have hb1 : decide ((60 : Int) < (ls.length : Int)) = false := by simp; omega
          have hsl : Sd (s = ls.flatten.length) := ⟨hfin.o (by omega)⟩
          have hl60 : Sd (ls.length ≤ 60) := ⟨by omega⟩
          clear g1
          by_cases g2 : 20000 < s
          · have hb2 : decide ((20000 : Int) < (s : Int)) = true := by simp; omega
            go_wp2
            go_ret
            exact ⟨_, rfl, rfl, fun h => by cases h⟩
          · have hb2 : decide ((20000 : Int) < (s : Int)) = false := by simp; omega
            have hs20 : Sd (s ≤ 20000) := ⟨by omega⟩
            clear g2
            go_wp2
            go_ret
            exact ⟨_, rfl, rfl, fun _ => ⟨hl60.o, by rw [← hsl.o]; exact hs20.o⟩⟩
end Go.Proofs.Ytlnmjeiiagkipaa
