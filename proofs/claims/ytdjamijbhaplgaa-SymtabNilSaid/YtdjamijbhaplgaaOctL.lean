/- octet: Frames. -/
import Derived.Test.YtdjamijbhaplgaaOctK
namespace Go.Proofs.Ytdjamijbhaplgaa
open Go.RowKit

theorem infoBs : (Try.prog.info? 26).map (fun i => (i.zero, i.size, i.bytes)) = some (some (.slice none 0 0), 1, 24) := by kernel_rfl
/-- An owned row of owned rows of bytes. -/
def LOwn (w : World) (v : Value) (ls : List (List UInt8)) : Prop :=
  ∃ vs : List Value, vs.length = ls.length ∧ OwnV w 26 v vs ∧ ∀ i (h : i < vs.length) (h' : i < ls.length), OwnV w 5 vs[i] (bvs ls[i])
theorem OwnV.ne {w : World} {e e' : TypeId} {v v' : Value} {vs vs' : List Value} (h : OwnV w e v vs) (h' : OwnV w e' v' vs') (hne : e ≠ e') : Off (ownB v) v' := by
  intro k hk hk'
  rcases h.2 with ⟨rfl, _⟩ | ⟨g, cap, cur, rfl, hb, hg, r⟩
  · simp [ownB, Value.ownBlock] at hk'
  rcases h'.2 with ⟨rfl, _⟩ | ⟨g', cap', cur', rfl, hb', hg', r'⟩
  · simp [Value.ownBlock] at hk
  · simp [Value.ownBlock] at hk
    simp [ownB, Value.ownBlock] at hk'
    subst hk hk'
    rw [hg] at hg'
    simp at hg'
    exact hne hg'.2
theorem LOwn.nil (w : World) : LOwn w (.slice none 0 0) [] := ⟨[], rfl, ⟨by simp, .inl ⟨rfl, rfl⟩⟩, fun i h => by simp at h⟩
theorem LOwn.lrd {w : World} {A : Option Addr} {n c : Nat} {ls : List (List UInt8)} (h : LOwn w (.slice A n c) ls) : n = ls.length ∧ LRd w A ls := by
  obtain ⟨vs, hl, ho, hb⟩ := h
  have := ho.vrd
  exact ⟨by omega, vs, hl, this.2.2.2.2.2, fun i hi hi' => (hb i hi hi').bts⟩

set_option maxHeartbeats 4000000 in
set_option maxRecDepth 100000 in
theorem frames_any (w : World) (A : Option Addr) (c : Nat) (p : List UInt8) (hb : Bts w (.slice A p.length c) p) (hl : p.length ≤ 1099511627776) :
    Calls Try.prog 34 #[.slice A p.length c] w fun e w' => ∃ A' c', e = .returned (.tuple #[.slice A' (framesL p).1.length c', .int .i64 (framesL p).2.1, .int .i64 (framesL p).2.2]) ∧ LOwn w' (.slice A' (framesL p).1.length c') (framesL p).1 ∧ Fresh w (.slice A' (framesL p).1.length c') ∧ Keeps NoB w w' := by
  have HB := Sd.mk hb
  clear hb
  obtain ⟨R, hR⟩ : ∃ R, R = framesL p := ⟨_, rfl⟩
  rw [← hR]
  have HRR : Sd (framesGo (p.length + 1) p 0 [] = R) := ⟨hR.symm⟩
  clear hR
  obtain ⟨i0, hi, hz0, hz1, hz2⟩ := info_parts infoU8
  go_enter Try.func34, Try.ntmps34
  go_wp2_with fail
  go_loopg [5, 6] (p.length + 1) (fun gk l i wr => ∃ (k : Nat) (acc : List (List UInt8)) (A1 : Option Addr) (c1 : Nat), p.length < gk + k ∧ i = .int .i64 k ∧ k ≤ p.length ∧ l = .slice A1 acc.length c1 ∧ acc.length ≤ k ∧ Sd (framesGo gk p k acc = R) ∧ Sd (LOwn wr (.slice A1 acc.length c1) acc) ∧ Sd (Fresh w (.slice A1 acc.length c1)) ∧ Sd (Keeps NoB w wr))
  case atStart => exact ⟨0, [], none, 0, by omega, rfl, by omega, rfl, by simp, HRR, ⟨LOwn.nil _⟩, ⟨fun k hk => by simp [Value.ownBlock] at hk⟩, ⟨Keeps.refl _ _⟩⟩
  case round =>
    clear HRR
    obtain ⟨k, acc, A1, c1, hk, rfl, hkl, rfl, hacl, HRR, HO, HF, HK⟩ := hrel
    by_cases hlt : k < p.length
    · have hq : (k : Int) < (p.length : Int) := by omega
      obtain ⟨g, rfl⟩ : ∃ g, gk = g + 1 := ⟨gk - 1, by omega⟩
      have hsl : ∀ W : World, (Instr.slice 26 (.slice A p.length c) (some (.int .i64 (k : Int))) none none).run Try.prog W = .ok (.slice (cutA A c k) (p.length - k) (c - k)) W := fun W =>
        slice_run_l 26 5 .i64 Try.underlying26 hi hz1 A p.length c k (by omega) W _ rfl
      have hdl : (p.drop k).length = p.length - k := by simp
      have HOp := Sd.mk (open_any wr (cutA A c k) (c - k) (p.drop k) (by rw [hdl]; exact (HB.o.drop k (by omega)).keeps HK.o (fun _ _ _ _ _ f => f)) (by omega))
      rw [hdl] at HOp
      have hgo : Sd (framesGo (g + 1) p k acc = if (openL (p.drop k)).2.2 = 0 then framesGo g p (k + (openL (p.drop k)).2.1) (acc ++ [(openL (p.drop k)).1]) else (acc, k, (openL (p.drop k)).2.2)) := ⟨by rw [framesGo, if_pos hlt]⟩
      have hok := Sd.mk (openL_ok (p.drop k))
      rw [hdl] at hok
      generalize openL (p.drop k) = Q at *
      obtain ⟨q, n, er⟩ := Q
      dsimp only at *
      clear hdl
      go_wp2_with fail
      refine HOp.o.mono ?_
      clear HOp hsl
      rintro e w2 ⟨A2, c2, rfl, hO2, hF2, hK2⟩
      have HO2 := Sd.mk hO2
      have HF2 := Sd.mk hF2
      have HK2 := Sd.mk hK2
      clear hO2 hF2 hK2
      by_cases he : er = 0
      · have hb : (er != 0) = false := by simp [he]
        have hgo2 := hgo.o
        rw [if_pos he, HRR.o] at hgo2
        have HG := Sd.mk hgo2
        have hok2 := hok.o he
        clear hgo2 he hok
        have HV : Sd (OwnV w2 26 (.slice A1 acc.length c1) (HO.o.choose)) := ⟨(HO.o.choose_spec.2.1).keeps HK2.o (fun _ _ f => f)⟩
        have hvl := HO.o.choose_spec.1
        have hve := HO.o.choose_spec.2.2
        generalize HO.o.choose = vs at *
        have HVE := Sd.mk hve
        have HVL := Sd.mk hvl
        clear hve hvl
        have hOV : Sd (OwnV (w2.alloc (.cells #[.slice A2 q.length c2] 26)) 26 (.slice A1 acc.length c1) vs) := ⟨HV.o.keeps ((Keeps.refl NoB _).alloc _) (fun _ _ f => f)⟩
        go_wp2_with (at_builtin; go_must (refine app_row rfl _ _ 77 26 (.slice none 0 0) 24 rfl Try.underlying77 infoBs rfl (.slice A1 acc.length c1) vs rfl hOV.o ⟨_, 0, none⟩ 1 1 [.slice A2 q.length c2] rfl rfl (fun _ _ hj => new_one hj) (fun u hu => by simp at hu; subst hu; rfl) (by rw [HVL.o]; omega) (by rw [HVL.o]; omega) ?_))
        intro A3 c3 w3 HO3 HK3 HG3
        have HO3' := Sd.mk HO3
        have HK3' := Sd.mk HK3
        have HG3' := Sd.mk HG3
        clear HO3 HK3 HG3
        go_wp2
        go_roundg g
        case measure => omega
        case rel =>
          have hvl := HVL.o
          have e1 : vs.length + 1 = (acc ++ [q]).length := by simp; omega
          rw [e1] at HO3' HG3' ⊢
          refine ⟨k + n, acc ++ [q], A3, c3, by omega, by go_num, by omega, rfl, by simp; omega, ⟨HG.o.symm⟩, ⟨vs ++ [.slice A2 q.length c2], by simp; omega, HO3'.o, fun i hi hi' => ?_⟩, ⟨HF.o.grew (Nat.le_trans HK.o.size HK2.o.size) HG3'.o.undoalloc⟩, ⟨(HK.o.then HK2.o).fresh HF.o HK3'.o.undoalloc⟩⟩
          have hne : ∀ u us, OwnV w2 5 u us → OwnV w3 5 u us := fun u us hu => hu.keeps HK3'.o.undoalloc (HV.o.ne hu (by decide))
          by_cases hil : i < vs.length
          · have h1 := HVE.o i hil (by omega)
            rw [List.getElem_append_left hil, List.getElem_append_left (by omega)]
            exact hne _ _ (h1.keeps HK2.o (fun _ _ f => f))
          · have h2 : i = vs.length := by simp at hi; omega
            subst h2
            rw [List.getElem_append_right (by omega), List.getElem_append_right (by omega)]
            simp only [hvl, Nat.sub_self, List.getElem_cons_zero]
            exact hne _ _ HO2.o
      · have hb : (er != 0) = true := by simp [he]
        have hgo2 := hgo.o
        rw [if_neg he, HRR.o] at hgo2
        have HG := Sd.mk hgo2
        clear hgo2 he hok
        go_wp2
        go_ret3
        rw [HG.o]
        obtain ⟨vs, hvl, hv, hve⟩ := HO.o
        exact ⟨A1, c1, rfl, ⟨vs, hvl, hv.keeps HK2.o (fun _ _ f => f), fun i hi hi' => (hve i hi hi').keeps HK2.o (fun _ _ f => f)⟩, HF.o, HK.o.then HK2.o⟩
    · have hq : ¬ (k : Int) < (p.length : Int) := by omega
      have hR : R = (acc, k, 0) := by
        rw [← HRR.o]
        cases gk with
        | zero => rfl
        | succ g => rw [framesGo, if_neg hlt]
      have HR := Sd.mk hR
      clear hR
      go_wp2
      go_ret3
      rw [HR.o]
      exact ⟨A1, c1, rfl, HO.o, HF.o, HK.o⟩
end Go.Proofs.Ytdjamijbhaplgaa
