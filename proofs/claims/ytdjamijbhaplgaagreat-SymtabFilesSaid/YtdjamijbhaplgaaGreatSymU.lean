/- symtab: the document's Intern. -/
import Derived.Test.YtdjamijbhaplgaaGreatGkay
import Derived.Test.YtdjamijbhaplgaaGreatGkbf
import Derived.Test.YtdjamijbhaplgaaGreatGkbc
namespace Go.Proofs.YtdjamijbhaplgaaGreat
open Go.RowKit Go.Maps

def RInternPost (w : World) (base b : Nat) (ss l : List (List UInt8)) (e : Ending) (w' : World) : Prop :=
  (internE ss l ≠ 0 ∧ e = .returned (.tuple #[.slice none 0 0, .slice none 0 0, .int .i64 (internE ss l)]) ∧ Keeps NoB w w') ∨
  (internE ss l = 0 ∧ ∃ A' c' Ao co Ab cb, e = .returned (.tuple #[.slice Ao ss.length co, .slice Ab ((addedL ss l).flatMap frameL).length cb, .int .i64 0]) ∧ IsR w' base b A' c' (internL ss l) ∧
    OwnV w' 3 (.slice Ao ss.length co) (ints (outL ss l)) ∧ OwnV w' 5 (.slice Ab ((addedL ss l).flatMap frameL).length cb) (bvs ((addedL ss l).flatMap frameL)) ∧ Fresh w (.slice Ao ss.length co) ∧ Fresh w (.slice Ab ((addedL ss l).flatMap frameL).length cb) ∧
    Fresh w (.slice A' (internL ss l).length c') ∧ Keeps (OneB b) w w')
theorem Keeps.late {w w1 w2 : World} {F : Nat → Prop} (h : Keeps NoB w w1) (k : Keeps F w1 w2) (hF : ∀ i, F i → w.heap.size ≤ i) : Keeps NoB w w2 :=
  h.trans k (fun _ _ f => f) (fun i hi f => absurd (hF i f) (by omega))
theorem vrd_one (w : World) (u : Value) (e : TypeId) : VRd (w.alloc (.cells #[u] e)) (some ⟨w.heap.size, 0, none⟩) [u] := fun i hi => by
  have h0 : i = 0 := by simpa using hi
  subst h0
  exact ⟨_, _, rfl, blk_cell (heap_alloc_new w _) 0⟩
theorem IsR.keepsRow {w w' : World} {base b : Nat} {A : Option Addr} {c : Nat} {l : List (List UInt8)} (h : IsR w base b A c l) {e : TypeId} {v : Value} {vs : List Value} (ho : OwnV w e v vs) (k : Keeps (ownB v) w w') (he : e ≠ 9) (he2 : e ≠ 68) : IsR w' base b A c l :=
  ⟨k.obj h.blk (ho.ne_blk h.blk he2), h.own.keeps k (ho.ne h.own he), h.b0, h.a0⟩
set_option maxHeartbeats 8000000 in
set_option maxRecDepth 100000 in
theorem trintern_any (w : World) (base b : Nat) (A : Option Addr) (c : Nat) (l : List (List UInt8)) (h : IsR w base b A c l) (hbase : base ≤ w.heap.size) (A1 : Option Addr) (c1 : Nat) (ss : List (List UInt8)) (hv : VRd w A1 (strs ss))
    (hsz : ∀ s ∈ ss, s.length ≤ 140737488355328) (hl : l.length ≤ 65536) (hsl : ss.length ≤ 65536) :
    Calls Tryz.prog 56 #[.pointer (some ⟨b, 0, none⟩), .slice A1 ss.length c1] w (RInternPost w base b ss l) := by
  have H := Sd.mk h
  have HV := Sd.mk hv
  have HSZ := Sd.mk hsz
  have HBD := Sd.mk (internL_take_len ss l)
  have HADD := Sd.mk (addedL_len ss l)
  clear h hv hsz
  go_enter Tryz.func56, Tryz.ntmps56
  go_wp2_with fail
  go_loopg [7] ss.length (fun gk i wr => ∃ k : Nat, gk + k = ss.length ∧ i = .int .i64 k ∧ Sd (∀ s ∈ ss.take k, mayL s = true) ∧ Sd (Keeps NoB w wr))
  case atStart => exact ⟨0, by omega, rfl, ⟨by simp⟩, ⟨Keeps.refl _ _⟩⟩
  case round =>
    obtain ⟨k, hk, rfl, HM, HK⟩ := hrel
    by_cases hlt : k < ss.length
    · have hq : (k : Int) < (ss.length : Int) := by omega
      have hq0 : (0 : Int) ≤ (k : Int) := by omega
      obtain ⟨b1, o1, rfl, hc⟩ := HV.o k (by rw [strs_len]; exact hlt)
      have hc2 : wr.cell? ⟨b1, o1 + k, none⟩ = some (.string (sOf ss[k])) := by rw [HK.o.cell hc (fun f => f)]; simp [strs]
      have hS := HSZ.o _ (List.getElem_mem hlt)
      have hss : (sOf ss[k]).size = ss[k].length := sOf_size _
      rw [← hss] at hS
      have htk : Sd (ss.take (k + 1) = ss.take k ++ [ss[k]]) := ⟨List.take_succ_eq_append_getElem hlt⟩
      have hmy := trsymbol_any wr (sOf ss[k]) hS
      rw [show (sOf ss[k]).data.toList = ss[k] from rfl] at hmy
      have HMY := Sd.mk hmy
      have HIN := Sd.mk (List.getElem_mem hlt)
      clear hc hss hmy hS
      generalize ss[k] = s at *
      cases hb : mayL s with
      | false =>
        have HE : Sd (internE ss l = 50) := ⟨by
          unfold internE
          rw [if_pos (fun h => by have := h s HIN.o; rw [hb] at this; cases this)]⟩
        rw [hb] at HMY
        clear hb
        go_wp2_with (go_at_call 93; refine HMY.o.mono ?_; rintro e w' ⟨rfl, n, rfl⟩)
        go_ret3
        exact .inl ⟨by rw [HE.o]; decide, by rw [HE.o]; rfl, HK.o.drewN n⟩
      | true =>
        have HM2 : Sd (∀ s ∈ ss.take (k + 1), mayL s = true) := ⟨fun x hx => by
          rw [htk.o] at hx
          rcases List.mem_append.1 hx with hx | hx
          · exact HM.o x hx
          · simp at hx
            rw [hx]; exact hb⟩
        rw [hb] at HMY
        clear hb
        go_wp2_with (go_at_call 93; refine HMY.o.mono ?_; rintro e w' ⟨rfl, n, rfl⟩)
        go_roundg (gk - 1)
        case measure => omega
        case rel => exact ⟨k + 1, by omega, by go_num, HM2, ⟨HK.o.drewN n⟩⟩
    have hq : ¬ (k : Int) < (ss.length : Int) := by omega
    have HALL : Sd (∀ s ∈ ss, mayL s = true) := ⟨by have := HM.o; rwa [List.take_of_length_le (by omega)] at this⟩
    have h0 : wr.cell? ⟨b, 0, none⟩ = some (.slice A l.length c) := blk_cell (H.o.kept HK.o).blk 0
    have h0' : (wr.alloc (.cells #[] 9)).cell? ⟨b, 0, none⟩ = some (.slice A l.length c) := ((Keeps.refl NoB wr).alloc _).cell h0 (fun f => f)
    have HVL : Sd (VRd wr A (strs l)) := ⟨(H.o.kept HK.o).own.vrd.2.2.2.2.2⟩
    have hlen := strs_len l
    have HLN := Sd.mk hlen
    clear hlt hlen HM h0
    go_wp2_with (at_builtin; go_must (refine app_any rfl _ _ 33 9 (.string ⟨#[]⟩) 16 rfl Tryz.underlying33 infoStr rfl (.slice (some ⟨wr.heap.size, 0, none⟩) 0 0) [] rfl (own_lit wr 9 [] (by simp)) A l.length c (strs l) rfl (by rw [HLN.o]) (HVL.o.keeps ((Keeps.refl NoB wr).alloc _) (fun _ _ _ _ f => f)) (fun u hu => by simp only [strs, List.mem_map] at hu; obtain ⟨x, _, rfl⟩ := hu; rfl) (by simp; omega) (by simp; omega) ?_); intro A4 c4 w4 hO4 hK4 hG4; simp only [List.length_nil, Nat.zero_add, List.nil_append] at hO4 hG4 ⊢; have HO4 := Sd.mk hO4; have HK4 : Sd (Keeps NoB w w4) := ⟨HK.o.late hK4.undoalloc (fun i hi => by have := fresh_lit wr 0 0 i hi; have := HK.o.size; omega)⟩; have HF4 : Sd (Fresh w (.slice A4 l.length c4)) := ⟨fun i hi => by have h1 := (fresh_lit wr 0 0).grew (Nat.le_refl _) hG4.undoalloc i hi; have := HK.o.size; omega⟩; clear hO4 hK4 hG4)
    have hxs : w4.heap.size = w4.heap.size := rfl
    obtain ⟨w5, hw5⟩ : ∃ w5, w5 = w4.alloc (.cells #[.slice A4 l.length c4] 68) := ⟨_, rfl⟩
    have hbase4 : w.heap.size ≤ w4.heap.size := HK4.o.size
    have HT5 : Sd (IsR w5 w.heap.size w4.heap.size A4 c4 l) := ⟨⟨by rw [hw5]; exact heap_alloc_new w4 _, by rw [hw5]; exact HO4.o.keeps ((Keeps.refl NoB w4).alloc _) (fun _ _ f => f), hbase4, HF4.o⟩⟩
    have HK5 : Sd (Keeps NoB w w5) := ⟨by rw [hw5]; exact HK4.o.alloc _⟩
    have hxl : w4.heap.size < w5.heap.size := by rw [hw5]; simp
    rw [← hw5]
    generalize w4.heap.size = xb at *
    clear hw5 HO4 HF4 HVL h0' hxs HK hq hk
    go_wp2_with fail
    go_loopg [9, 10, 11] ss.length (fun gk o v i wr => ∃ (k cA co cb : Nat) (lk : List (List UInt8)) (ys : List UInt8) (A' Ao Ab : Option Addr), gk + k = ss.length ∧ i = .int .i64 k ∧ o = .slice Ao k co ∧ v = .slice Ab ys.length cb ∧ ys.length ≤ 73 * k ∧ lk.length ≤ 65536 + k ∧ Sd (lk = internL (ss.take k) l) ∧ Sd (ys = (addedL (ss.take k) l).flatMap frameL) ∧
      Sd (IsR wr w.heap.size xb A' cA lk) ∧ Sd (OwnV wr 3 (.slice Ao k co) (ints (outL (ss.take k) l))) ∧ Sd (OwnV wr 5 (.slice Ab ys.length cb) (bvs ys)) ∧ Sd (Fresh w (.slice Ao k co)) ∧ Sd (Fresh w (.slice Ab ys.length cb)) ∧ Sd (Keeps NoB w wr))
    case atStart => exact ⟨0, c4, 0, 0, l, [], A4, none, none, by omega, rfl, rfl, rfl, by simp, by omega, ⟨by simp [internL]⟩, ⟨by simp [addedL]⟩, HT5, ⟨by simp [outL, ints], .inl ⟨rfl, by simp [outL, ints]⟩⟩, ⟨(Own.nil _ 0).v⟩, ⟨fun k hk => by simp [Value.ownBlock] at hk⟩, ⟨fun k hk => by simp [Value.ownBlock] at hk⟩, HK5⟩
    case round =>
      clear HT5 HK5 HK4
      obtain ⟨k, cA, co, cb, lk, ys, A', Ao, Ab, hk, rfl, rfl, rfl, hyl, hlk, HLK, HY, HT, HO, HB, HFO, HFB, HK⟩ := hrel
      have h0 : wr.cell? ⟨xb, 0, none⟩ = some (.slice A' lk.length cA) := blk_cell HT.o.blk 0
      by_cases hlt : k < ss.length
      case neg =>
        have hq : ¬ (k : Int) < (ss.length : Int) := by omega
        have hke : k = ss.length := by omega
        subst hke
        rw [List.take_length] at HLK HY HO
        have hll : lk.length = l.length + (addedL ss l).length := by rw [HLK.o, internL_eq, List.length_append]
        have hbR := (H.o.kept HK.o).blk
        have f0 := blk_frozen hbR 0
        have hb0 := blk_cell hbR 0
        have HBR := Sd.mk hbR
        clear hbR
        by_cases hfull : (65536 : Int) < (lk.length : Int)
        · have HE : Sd (internE ss l = 6) := ⟨by
            unfold internE
            rw [if_neg (fun h => h HALL.o), if_pos (by omega)]⟩
          clear hll
          go_wp2_with fail
          go_ret3
          exact .inl ⟨by rw [HE.o]; decide, by rw [HE.o]; rfl, HK.o⟩
        have HE : Sd (internE ss l = 0) := ⟨by
          unfold internE
          rw [if_neg (fun h => h HALL.o), if_neg (by omega)]⟩
        clear hll
        go_wp2_with fail
        go_ret3
        have e1 := HLK.o
        have e2 := HY.o
        subst e1 e2
        have hF : Keeps (OneB b) wr (wr.setCell ⟨b, 0, none⟩ (.slice A' (internL ss l).length cA)) := (Keeps.refl (OneB b) wr).setCell ⟨b, 0, none⟩ _ (fun _ => rfl)
        refine .inr ⟨HE.o, A', cA, Ao, co, Ab, cb, rfl, ⟨blk_set HBR.o 0 _, HT.o.own.keeps hF (fun i hi f => ?_), H.o.b0, fun i hi => Nat.le_trans hbase (HT.o.a0 i hi)⟩, HO.o.keeps hF (fun i hi f => ?_), HB.o.keeps hF (fun i hi f => ?_), HFO.o, HFB.o, HT.o.a0, (HK.o.mono (fun _ _ f => f.elim)).trans hF (fun _ _ f => f) (fun _ _ f => f)⟩
        · have f' : i = b := f
          subst f'
          exact HT.o.own.ne_blk HBR.o (by decide) hi
        · have f' : i = b := f
          subst f'
          exact HO.o.ne_blk HBR.o (by decide) hi
        · have f' : i = b := f
          subst f'
          exact HB.o.ne_blk HBR.o (by decide) hi
      have hq : (k : Int) < (ss.length : Int) := by omega
      have hq0 : (0 : Int) ≤ (k : Int) := by omega
      obtain ⟨b1, o1, rfl, hc⟩ := HV.o k (by rw [strs_len]; exact hlt)
      have hc2 : wr.cell? ⟨b1, o1 + k, none⟩ = some (.string (sOf ss[k])) := by rw [HK.o.cell hc (fun f => f)]; simp [strs]
      have hcw : w.cell? ⟨b1, o1 + k, none⟩ = some (.string (sOf ss[k])) := by rw [hc]; simp [strs]
      have hmay := Sd.mk (HALL.o _ (List.getElem_mem hlt))
      have hS := mayL_len hmay.o
      have htk : Sd (ss.take (k + 1) = ss.take k ++ [ss[k]]) := ⟨List.take_succ_eq_append_getElem hlt⟩
      obtain ⟨s, hs⟩ : ∃ s, s = ss[k] := ⟨_, rfl⟩
      rw [← hs] at hmay hS htk hc2 hcw
      clear hc hs
      have hnum := trnumber_any wr w.heap.size xb A' cA lk HT.o (by omega) (sOf s)
      rw [show (sOf s).toList = s from sOf_toList s] at hnum
      obtain ⟨S0, hS0⟩ : ∃ S0, S0 = sOf s := ⟨_, rfl⟩
      have hSd : Sd (S0.data.toList = s) := ⟨by rw [hS0]; rfl⟩
      have hSz : S0.size = s.length := by rw [hS0, sOf_size]
      rw [← hS0] at hc2 hnum hcw
      have HCW := Sd.mk hcw
      clear hcw
      have hSS : Sd (S0 = sOf s) := ⟨hS0⟩
      have hS2 : S0.size ≤ 64 := by omega
      have HNU := Sd.mk hnum
      have hln : (ints (outL (ss.take k) l)).length = k := by rw [ints_len, outL_len, List.length_take]; omega
      have HLN2 := Sd.mk hln
      have hfl := frameL_len s hS
      clear hS0 hSz hnum hln
      by_cases hin : s ∈ lk
      · have hnext : Sd (internL (ss.take (k + 1)) l = lk ∧ addedL (ss.take (k + 1)) l = addedL (ss.take k) l ∧ outL (ss.take (k + 1)) l = outL (ss.take k) l ++ [numL lk s]) := ⟨by
          have e1 : internL (ss.take (k + 1)) l = lk := by rw [htk.o, internL_snoc, ← HLK.o, if_pos hin]
          refine ⟨e1, by rw [htk.o, addedL_snoc, ← HLK.o, if_pos hin], ?_⟩
          rw [← e1, htk.o, outL_snoc]⟩
        have hnr : numR lk s = ((numL lk s : Nat) : Int) := by unfold numR numL; rw [if_pos hin, if_pos hin]
        rw [hnr] at HNU
        obtain ⟨nn, hnn⟩ : ∃ nn, nn = numL lk s := ⟨_, rfl⟩
        rw [← hnn] at HNU hnext
        clear hin hnn hnr
        go_wp2_with (first
          | (go_at_call 59; refine HNU.o.mono ?_; rintro e w6 ⟨rfl, hW⟩; have HK6 : Sd (Keeps NoB wr w6) := ⟨by obtain ⟨n3, rfl⟩ := hW; exact (Keeps.refl NoB wr).drewN n3⟩; clear hW)
          | (at_builtin; go_must (refine app_row rfl _ _ 55 3 (.int .i64 0) 8 rfl Tryz.underlying55 infoInt rfl (.slice Ao k co) (ints (outL (ss.take k) l)) rfl (HO.o.keeps (HK6.o.alloc _) (fun _ _ f => f)) ⟨_, 0, none⟩ 1 1 [.int .i64 (nn : Nat)] rfl rfl (fun _ _ hj => new_one hj) one1 (by rw [HLN2.o]; omega) (by rw [HLN2.o]; omega) ?_); intro A5 c5 w5 HO5 HK5 HG5; rw [HLN2.o] at HO5 HG5 ⊢; have HQ := Sd.mk (And.intro HO5 (And.intro HK5 HG5)); clear HO5 HK5 HG5))
        go_roundg (gk - 1)
        case measure => omega
        case rel =>
          obtain ⟨HO5, HK5, HG5⟩ := HQ.o
          have hk5 : Keeps (ownB (.slice Ao k co)) w6 w5 := HK5.undoalloc
          have hO6 := HO.o.keeps HK6.o (fun _ _ f => f)
          have hT6 := HT.o.kept HK6.o
          have hB6 := HB.o.keeps HK6.o (fun _ _ f => f)
          have hk6 := HK.o.then HK6.o
          refine ⟨k + 1, cA, c5, cb, lk, ys, A', A5, Ab, by omega, by go_num, rfl, rfl, by omega, by omega, ⟨hnext.o.1.symm⟩, ⟨by rw [hnext.o.2.1]; exact HY.o⟩, ⟨hT6.keepsRow hO6 hk5 (by decide) (by decide)⟩, ⟨?_⟩, ⟨hB6.keeps hk5 (hO6.ne hB6 (by decide))⟩, ⟨HFO.o.grew hk6.size HG5.undoalloc⟩, HFB, ⟨hk6.fresh HFO.o hk5⟩⟩
          rw [hnext.o.2.2, ints_snoc]
          exact HO5
      have hnext : Sd (internL (ss.take (k + 1)) l = lk ++ [s] ∧ addedL (ss.take (k + 1)) l = addedL (ss.take k) l ++ [s] ∧ outL (ss.take (k + 1)) l = outL (ss.take k) l ++ [lk.length]) := ⟨by
        have e1 : internL (ss.take (k + 1)) l = lk ++ [s] := by rw [htk.o, internL_snoc, ← HLK.o, if_neg hin]
        refine ⟨e1, by rw [htk.o, addedL_snoc, ← HLK.o, if_neg hin], ?_⟩
        have e2 : numL (lk ++ [s]) s = lk.length := by rw [numL_snoc _ _ _ hin, if_pos rfl]
        rw [← e2, ← e1, htk.o, outL_snoc]⟩
      have hnr : numR lk s = -1 := by unfold numR; rw [if_neg hin]
      rw [hnr] at HNU
      clear hnr hin
      go_upto_region 15 with (go_at_call 59; refine HNU.o.mono ?_; rintro e w6 ⟨rfl, hW⟩; have HK6 : Sd (Keeps NoB wr w6) := ⟨by obtain ⟨n3, rfl⟩ := hW; exact (Keeps.refl NoB wr).drewN n3⟩; have h06 := HK6.o.cell h0 (fun f => f); have hc6 := HK6.o.cell hc2 (fun f => f); clear hW)
      have HO6 := Sd.mk (HO.o.keeps HK6.o (fun _ _ f => f))
      have HT6 := Sd.mk (HT.o.kept HK6.o)
      have HB6 := Sd.mk (HB.o.keeps HK6.o (fun _ _ f => f))
      have HK06 : Sd (Keeps NoB w w6) := ⟨HK.o.then HK6.o⟩
      have HLN3 := Sd.mk (strs_len lk)
      clear h0 hc2 HO HT HB HK HK6 HNU
      go_cut [62] (fun sx wx => ∃ A9 c9, sx = .slice A9 (lk.length + 1) c9 ∧ Sd (IsR wx w.heap.size xb A9 c9 (lk ++ [s])) ∧ Sd (OwnV wx 3 (.slice Ao k co) (ints (outL (ss.take k) l))) ∧ Sd (OwnV wx 5 (.slice Ab ys.length cb) (bvs ys)) ∧ Sd (Keeps NoB w wx))
      case first =>
        have h06' : (w6.alloc (.cells #[.string S0] 9)).cell? ⟨xb, 0, none⟩ = some (.slice A' lk.length cA) := ((Keeps.refl NoB w6).alloc _).cell h06 (fun f => f)
        have f06 := blk_frozen HT6.o.blk 0
        go_region_law
          (refine step_app_any rfl _ _ 33 9 (.string ⟨#[]⟩) 16 rfl Tryz.underlying33 infoStr rfl (.slice A' lk.length cA) (strs lk) rfl (HT6.o.own.keeps ((Keeps.refl NoB w6).drew.alloc _) (fun _ _ f => f)) (some ⟨w6.heap.size, 0, none⟩) 1 1 [.string S0] rfl rfl (vrd_one w6.drew _ _) (fun u hu => by simp at hu; subst hu; rfl) (by rw [HLN3.o]; omega) (by rw [HLN3.o]; omega) ?_
           intro A9 c9 w9 hO9 hK9 hG9
           rw [HLN3.o] at hO9 hG9
           rw [HLN3.o]
           have HO9 := Sd.mk hO9
           have HK9 : Sd (Keeps (ownB (.slice A' lk.length cA)) w6 w9) := ⟨((Keeps.refl (ownB (.slice A' lk.length cA)) w6).drew.alloc _).trans hK9 (fun _ _ f => f) (fun _ _ f => f)⟩
           have HG9 : Sd (Grew w6 (.slice A' lk.length cA) (.slice A9 (lk.length + 1) c9)) := ⟨fun k hk => (hG9 k hk).imp id (fun h => by simp at h; omega)⟩
           have hb9 : w9.heap[xb]? = _ := HK9.o.obj HT6.o.blk (HT6.o.own.ne_blk HT6.o.blk (by decide))
           have f09 := blk_frozen hb9 0
           have p09 : w9.cell? ⟨xb, 0, none⟩ = some (.slice A' lk.length cA) := blk_cell hb9 0
           have HB9 := Sd.mk hb9
           clear hO9 hK9 hG9 hb9)
        all_goals (
          go_wp2_with fail
          go_meet
          have e1 : strs lk ++ [Value.string S0] = strs (lk ++ [s]) := by rw [strs, strs, List.map_append, hSS.o]; rfl
          have e2 : lk.length + 1 = (lk ++ [s]).length := by simp
          have hO9 := HO9.o
          rw [e1] at hO9
          have hF3 : Keeps (OneB xb) w9 (w9.setCell ⟨xb, 0, none⟩ (.slice A9 (lk.length + 1) c9)) := (Keeps.refl (OneB xb) w9).setCell ⟨xb, 0, none⟩ _ (fun _ => rfl)
          have hOi := HO6.o.keeps HK9.o (HT6.o.own.ne HO6.o (by decide))
          have hBi := HB6.o.keeps HK9.o (HT6.o.own.ne HB6.o (by decide))
          have hk9 : Keeps NoB w w9 := HK06.o.late HK9.o (fun i hi => HT6.o.a0 i hi)
          refine ⟨A9, c9, rfl, ⟨⟨by rw [← e2]; exact blk_set HB9.o 0 _, ?_, hbase4, fun i hi => ?_⟩⟩, ⟨hOi.keeps hF3 (fun i hi f => ?_)⟩, ⟨hBi.keeps hF3 (fun i hi f => ?_)⟩, ⟨hk9.late hF3 (fun i hi => by cases hi; exact hbase4)⟩⟩
          · rw [← e2]
            exact hO9.keeps hF3 (fun i hi f => by
              have f' : i = xb := f
              subst f'
              exact hO9.ne_blk HB9.o (by decide) hi)
          · rw [← e2] at hi
            rcases HG9.o i hi with h | h
            · exact HT6.o.a0 i h
            · exact Nat.le_trans HK06.o.size h
          · have f' : i = xb := f
            subst f'
            exact hOi.ne_blk HB9.o (by decide) hi
          · have f' : i = xb := f
            subst f'
            exact hBi.ne_blk HB9.o (by decide) hi)
      obtain ⟨A9, c9, rfl, HT9, HO9, HB9, HK9⟩ := hcut
      clear h06 hc6 HO6 HT6 HB6 HK06
      have hcc := HK9.o.cell HCW.o (fun f => f)
      have HFRM := Sd.mk (trframe_any wc S0 (by omega))
      rw [hSd.o] at HFRM
      obtain ⟨X, hX⟩ : ∃ X, X = frameL s := ⟨_, rfl⟩
      rw [← hX] at HFRM hfl
      have HX := Sd.mk hX
      clear hX
      go_wp2_with (first
        | (go_at_call 94
           refine HFRM.o.mono ?_
           rintro e w10 ⟨A10, c10, rfl, hO10, _, hK10⟩
           have HX10 := Sd.mk hO10
           have HK10 := Sd.mk hK10
           have HB10 := Sd.mk (HB9.o.keeps hK10 (fun _ _ f => f))
           clear hO10 hK10)
        | (at_builtin
           refine app_any (o := ⟨some 71, _, _, _, _, _⟩) rfl _ _ 49 5 (.int .u8 0) 1 rfl Tryz.underlying49 infoU8' rfl (.slice Ab ys.length cb) (bvs ys) rfl HB10.o A10 X.length c10 (bvs X) rfl (bvs_length X) (rd_vrd HX10.o.bts.rd.2.2.2.2.2) (bvs_one X) (by rw [bvs_length]; omega) (by rw [bvs_length]; omega) ?_
           intro A11 c11 w11 HO11 HK11 HG11
           obtain ⟨zs, hzs⟩ : ∃ zs, zs = ys ++ X := ⟨_, rfl⟩
           rw [show (bvs ys).length + X.length = zs.length by rw [bvs_length, hzs, List.length_append]] at HO11 HG11 ⊢
           rw [← bvs_append, ← hzs] at HO11
           have hzl : zs.length ≤ 73 * k + 73 := by rw [hzs, List.length_append]; omega
           have HZ := Sd.mk hzs
           have HT11 := Sd.mk ((HT9.o.kept HK10.o).keepsRow HB10.o HK11 (by decide) (by decide))
           have HO11i := Sd.mk ((HO9.o.keeps HK10.o (fun _ _ f => f)).keeps HK11 (HB10.o.ne (HO9.o.keeps HK10.o (fun _ _ f => f)) (by decide)))
           have HK11w : Sd (Keeps NoB w w11) := ⟨(HK9.o.then HK10.o).fresh HFB.o HK11⟩
           have HP := Sd.mk (And.intro HO11 HG11)
           clear HO11 HK11 HG11 hzs)
        | (at_builtin
           refine app_row (o := ⟨some 75, _, _, _, _, _⟩) rfl _ _ 55 3 (.int .i64 0) 8 rfl Tryz.underlying55 infoInt rfl (.slice Ao k co) (ints (outL (ss.take k) l)) rfl (HO11i.o.keeps ((Keeps.refl NoB w11).alloc _) (fun _ _ f => f)) ⟨_, 0, none⟩ 1 1 [.int .i64 (lk.length : Nat)] rfl rfl (fun _ _ hj => new_one hj) one1 (by rw [HLN2.o]; omega) (by rw [HLN2.o]; omega) ?_
           intro A12 c12 w12 HO12 HK12 HG12
           rw [HLN2.o] at HO12 HG12 ⊢
           have HQ := Sd.mk (And.intro HO12 (And.intro HK12 HG12))
           clear HO12 HK12 HG12))
      go_roundg (gk - 1)
      case measure => omega
      case rel =>
        obtain ⟨HO12, HK12, HG12⟩ := HQ.o
        obtain ⟨HO11, HG11⟩ := HP.o
        have hK12 : Keeps (ownB (.slice Ao k co)) w11 w12 := HK12.undoalloc
        refine ⟨k + 1, c9, c12, c11, lk ++ [s], zs, A9, A12, A11, by omega, by go_num, rfl, rfl, by omega, by simp; omega, ⟨hnext.o.1.symm⟩, ⟨by rw [hnext.o.2.1, flatMap_snoc, ← HY.o, HZ.o, HX.o]⟩, ⟨HT11.o.keepsRow HO11i.o hK12 (by decide) (by decide)⟩, ⟨?_⟩, ⟨HO11.keeps hK12 (HO11i.o.ne HO11 (by decide))⟩, ⟨HFO.o.grew HK11w.o.size HG12.undoalloc⟩, ⟨HFB.o.grew (HK9.o.then HK10.o).size HG11⟩, ⟨HK11w.o.fresh HFO.o hK12⟩⟩
        rw [hnext.o.2.2, ints_snoc]
        exact HO12
end Go.Proofs.YtdjamijbhaplgaaGreat
