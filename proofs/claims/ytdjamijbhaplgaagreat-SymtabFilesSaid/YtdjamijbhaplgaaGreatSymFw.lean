/- SymtabFiles: its walk. -/
import Derived.Test.YtdjamijbhaplgaaGreatGkbh
import Derived.Test.YtdjamijbhaplgaaGreatGkbc
namespace Go.Proofs.YtdjamijbhaplgaaGreat
open Go.RowKit Go.Maps Go.Lib

theorem addedL_mem : ∀ (ss l : List (List UInt8)) (s : List UInt8), s ∈ addedL ss l → s ∈ ss
  | [], _, _, h => by simp [addedL] at h
  | x :: ss, l, s, h => by
    rw [addedL_cons] at h
    split at h
    · exact List.mem_cons_of_mem _ (addedL_mem ss l s h)
    · rcases List.mem_cons.1 h with rfl | h
      · exact List.mem_cons_self
      · exact List.mem_cons_of_mem _ (addedL_mem ss _ s h)
theorem flat_each {ls : List (List UInt8)} {s : List UInt8} (h : s ∈ ls) : s.length ≤ ls.flatten.length := by
  induction ls with
  | nil => cases h
  | cons x ls ih =>
    rw [List.flatten_cons, List.length_append]
    rcases List.mem_cons.1 h with rfl | h
    · omega
    · have := ih h; omega
theorem frame_small (s : List UInt8) (h : s.length ≤ 20000) : (frameL s).length ≤ s.length + 18 := by
  unfold frameL
  rw [sealL_len]
  unfold put1T
  rw [List.length_append]
  have := put1_len10 s.length (by omega)
  omega
theorem frame_flat : ∀ (ls : List (List UInt8)), (∀ s ∈ ls, s.length ≤ 20000) → (ls.flatMap frameL).length ≤ ls.length * 20100
  | [], _ => by simp
  | s :: ls, h => by
    have h1 := frame_flat ls (fun x hx => h x (List.mem_cons_of_mem _ hx))
    have h2 := h s List.mem_cons_self
    have h3 := frame_small s h2
    rw [List.flatMap_cons, List.length_append, List.length_cons, Nat.add_mul]
    omega
theorem added_small {ss l : List (List UInt8)} (h1 : ss.length ≤ 300) (h2 : ss.flatten.length ≤ 20000) : ((addedL ss l).flatMap frameL).length ≤ 70368744177664 := by
  have h3 := frame_flat (addedL ss l) (fun s hs => Nat.le_trans (flat_each (addedL_mem ss l s hs)) h2)
  have h4 := addedL_len ss l
  have h5 := Nat.mul_le_mul_right 20100 (Nat.le_trans h4 h1)
  omega
theorem open1_yes {w0 w : World} {G : Nat → Prop} {b rb : Nat} {s : FSt} {R : Int × FSt × Int × List (List UInt8)} {tv : Value} (hR : R.1 = 0) (h : Open1 w0 G b rb s R tv w) : ∃ f, tv = .pointer (some ⟨f, 0, none⟩) := by
  rcases h with ⟨h1, _⟩ | ⟨_, f, _, _, _, _, e, _⟩
  · exact absurd hR h1
  · exact ⟨f, e⟩
theorem open1_no {w0 w : World} {G : Nat → Prop} {b rb : Nat} {s : FSt} {R : Int × FSt × Int × List (List UInt8)} {tv : Value} (hR : R.1 ≠ 0) (h : Open1 w0 G b rb s R tv w) : tv = .pointer none := by
  rcases h with ⟨_, e, _⟩ | ⟨h1, _⟩
  · exact e
  · exact absurd h1 hR
theorem open2_yes {w0 w : World} {G : Nat → Prop} {b rb : Nat} {s : FSt} {R : Int × FSt × Int × List (List UInt8)} {tv wv : Value} (hR : R.1 = 0) (h : Tabs w0 G b rb s (openM R) tv wv w) : ∃ f, wv = .pointer (some ⟨f, 0, none⟩) := by
  unfold openM at h
  rw [if_pos hR] at h
  obtain ⟨_, _, _, _, _, rf, _, _, _, _, e, _⟩ := h
  exact ⟨rf, e⟩
theorem open2_no {w0 w : World} {G : Nat → Prop} {b rb : Nat} {s : FSt} {R : Int × FSt × Int × List (List UInt8)} {tv wv : Value} (hR : R.1 ≠ 0) (h : Tabs w0 G b rb s (openM R) tv wv w) : wv = .pointer none := by
  unfold openM at h
  rw [if_neg hR] at h
  exact h.2.1
/-- The worlds of the law's statements. -/
def roJ (W : World) (g : Nat) (oa : Obj) (b rb : Nat) (s s1 : FSt) (M : Tab) (tv wv : Value) : Nat → World → Prop
  | 0, w => Tabs2 W (OneB g) b rb s s M tv wv w ∧ w.heap[g]? = some oa
  | 1, w => Tabs2 W (OneB g) b rb s1 s M tv wv w ∧ w.heap[g]? = some oa
  | 2, w => Tabs2 W (OneB g) b rb s1 s M tv wv w ∧ w.heap[g]? = some oa
  | _, w => Tabs2 W (OneB g) b rb s1 s1 M tv wv w ∧ w.heap[g]? = some oa
theorem roJ.obj {W : World} {g : Nat} {oa : Obj} {b rb : Nat} {s s1 : FSt} {M : Tab} {tv wv : Value} {n : Nat} {w : World} (h : roJ W g oa b rb s s1 M tv wv n w) : w.heap[g]? = some oa := by
  match n, h with
  | 0, h => exact h.2
  | 1, h => exact h.2
  | 2, h => exact h.2
  | _ + 3, h => exact h.2
def spJ (W0 W1 : World) (P : World → Prop) : Nat → World → Prop
  | 0, w => w = W0
  | 1, w => w = W1
  | _, w => P w
def spK (W : World) (g : Nat) (oa : Obj) (b rb : Nat) (s s1 : FSt) (M : Tab) (tv wv : Value) : Nat → World → Prop
  | 0, w => Tabs2 W (OneB g) b rb s1 s M tv wv w ∧ w.heap[g]? = some oa
  | _, w => Tabs2 W (OneB g) b rb s1 s1 M tv wv w ∧ w.heap[g]? = some oa
theorem Tabs2.place {W w : World} {G : Nat → Prop} {b rb rf : Nat} {s t : FSt} {n : Int} {l : List (List UInt8)} {tv : Value} (h : Tabs2 W G b rb s t (some (n, l)) tv (.pointer (some ⟨rf, 0, none⟩)) w) : w.cell? ⟨rf, 1, none⟩ = some (.pointer (some ⟨rb, 0, none⟩)) := by
  obtain ⟨f, tb, mb, A, c, rf', rtb, RA, rc, _, e2, _, _, h2, _⟩ := h
  cases e2
  exact blk_cell h2.blk 1
theorem Tabs2.sync {W w : World} {G : Nat → Prop} {b rb f N : Nat} {s t : FSt} {n : Int} {l : List (List UInt8)} {wv : Value} (h : Tabs2 W G b rb s t (some (n, l)) (.pointer (some ⟨f, 0, none⟩)) wv w) (inv : Inv N s) (hN : N ≤ 800000000) :
    Calls Tryz.prog 22 #[.pointer (some ⟨f, 0, none⟩)] w fun e w' => e = .returned (.int .i64 (s.sync n).1) ∧ Tabs2 W G b rb (s.sync n).2 t (some (n, l)) (.pointer (some ⟨f, 0, none⟩)) wv w' ∧ Keeps (offT W G) w w' := by
  obtain ⟨f', tb, mb, A, c, rf, rtb, RA, rc, e1, e2, h0, h1, h2, h3⟩ := h
  cases e1
  exact (tsync_any h0 h1 (fun k hk => .inr (.inl hk)) inv hN).mono fun e w' ⟨he, h4, hk⟩ => ⟨he, ⟨f, tb, mb, A, c, rf, rtb, RA, rc, rfl, e2, h4, h1.keeps hk (fun i hi f => f.1 (.inr (.inl hi))), h2.keeps hk (fun i hi f => f.1 (.inr (.inr hi))), h3⟩, hk.mono (fun i _ f => offT.or f)⟩
theorem Tabs2.number {W w : World} {G : Nat → Prop} {b rb rf : Nat} {s t : FSt} {n : Int} {l : List (List UInt8)} {tv : Value} (h : Tabs2 W G b rb s t (some (n, l)) tv (.pointer (some ⟨rf, 0, none⟩)) w) : w.cell? ⟨rf, 2, none⟩ = some (.int .i64 n) := by
  obtain ⟨f, tb, mb, A, c, rf', rtb, RA, rc, _, e2, _, _, h2, _⟩ := h
  cases e2
  exact blk_cell h2.blk 2
set_option maxHeartbeats 8000000 in
set_option maxRecDepth 100000 in
theorem files_walk (W : World) (S : ByteArray) (cap : Int) (A : Option Addr) (c : Nat) (l : List SAct) (hA : SRd W A l) (hG : ∀ y ∈ l, y.Good W) (hl : l.length ≤ 9223372036854775807) (hS : S.size ≤ 9223372036854775807) :
    Calls Tryz.prog 3 #[.string S, .int .i64 cap, .slice A l.length c] W fun e W' => e = .returned (.bool true) ∧ Keeps NoB W W' := by
  have HA := Sd.mk hA
  have HG := Sd.mk hG
  have HLV := Sd.mk slive_any
  clear hA hG
  by_cases q1 : (60 : Int) < (l.length : Int)
  · as_aux_lemma =>
    go_enter Tryz.func3, Tryz.ntmps3
    go_wp2_with (go_at_call 4; refine (HLV.o _).mono ?_; rintro e w2 ⟨rfl, hk⟩; have HK := Sd.mk hk; clear hk)
    go_ret
    exact ⟨rfl, HK.o⟩
  by_cases q2 : (20000 : Int) < (S.size : Int)
  · as_aux_lemma =>
    go_enter Tryz.func3, Tryz.ntmps3
    go_wp2_with (go_at_call 4; refine (HLV.o _).mono ?_; rintro e w2 ⟨rfl, hk⟩; have HK := Sd.mk hk; clear hk)
    go_ret
    exact ⟨rfl, HK.o⟩
  by_cases q3 : cap < 0
  · as_aux_lemma =>
    go_enter Tryz.func3, Tryz.ntmps3
    go_wp2_with (go_at_call 4; refine (HLV.o _).mono ?_; rintro e w2 ⟨rfl, hk⟩; have HK := Sd.mk hk; clear hk)
    go_ret
    exact ⟨rfl, HK.o⟩
  by_cases q4 : (1000000 : Int) < cap
  · as_aux_lemma =>
    go_enter Tryz.func3, Tryz.ntmps3
    go_wp2_with (go_at_call 4; refine (HLV.o _).mono ?_; rintro e w2 ⟨rfl, hk⟩; have HK := Sd.mk hk; clear hk)
    go_ret
    exact ⟨rfl, HK.o⟩
  have hc0 : 0 ≤ cap := by omega
  have hc1 : cap ≤ 67108864 := by omega
  have hSs : S.size ≤ 20000 := by omega
  have hl60 : l.length ≤ 60 := by omega
  go_enter Tryz.func3, Tryz.ntmps3
  go_upto_region 5 with (first
    | (go_at_call 5; refine (fsnew_any _ cap hc0 hc1).mono ?_; rintro e w2 ⟨m, rfl, hi, ho, hk⟩; have HN := Sd.mk (And.intro hi (And.intro ho hk)); clear hi ho hk)
    | (go_at_call 6; refine (frnew_any _ cap hc0 hc1).mono ?_; rintro e w3 ⟨rm, rfl, hi, ho, hk⟩; have HR := Sd.mk (And.intro hi (And.intro ho hk)); clear hi ho hk))
  have H0 : Sd (HalfT W NoB m.b rm.b (FSt.fresh cap) (FSt.fresh cap) w3) := ⟨HalfT.mk' (Keeps.refl NoB W) HN.o.1 HN.o.2.1 HN.o.2.2 HR.o.1 HR.o.2.1 HR.o.2.2⟩
  have I0 : Sd (Inv 0 (FSt.fresh cap)) := ⟨Inv.fresh (by omega) (by omega)⟩
  generalize m.b = b at *
  generalize rm.b = rb at *
  clear HN HR q1 q2 q3 q4
  go_wp2_with fail
  go_loopg [11, 12, 13] l.length (fun gk tv wv i wr => ∃ (k : Nat) (s : FSt) (M : Tab), gk + k = l.length ∧ i = .int .i64 k ∧ Sd (Tabs W NoB b rb s M tv wv wr) ∧ Sd (Inv (9 * k) s))
  case atStart => exact ⟨0, _, none, by omega, rfl, ⟨rfl, rfl, H0.o⟩, I0⟩
  case round =>
    clear H0 I0
    obtain ⟨k, s, M, hk, rfl, H, I⟩ := hrel
    by_cases hlt : k < l.length
    case neg =>
      have hq1 : ¬ (k : Int) < (l.length : Int) := by omega
      go_wp2_with (go_at_call 4; refine (HLV.o _).mono ?_; rintro e w2 ⟨rfl, hk⟩; have HK := Sd.mk hk; clear hk)
      go_ret
      exact ⟨rfl, H.o.keeps.then HK.o⟩
    have hq1 : (k : Int) < (l.length : Int) := by omega
    have hq0 : (0 : Int) ≤ (k : Int) := by omega
    obtain ⟨gA, oA, e, c0, c1, c2, c3, c4⟩ := (HA.o.kept H.o.keeps).at_ k hlt
    subst e
    have GY := Sd.mk (HG.o _ (List.getElem_mem hlt))
    generalize l[k] = y at *
    obtain ⟨oa, hoa⟩ : ∃ oa : Obj, oa = (.cells #[.int .i64 y.kind, .slice y.AL y.L.length y.cL, .int .i64 y.n, .int .i64 y.dir, .slice y.At y.T.length y.ct] 38) := ⟨_, rfl⟩
    have HOA := Sd.mk hoa
    clear hoa
    go_upto_region 13 with fail
    rw [← HOA.o]
    obtain ⟨w1, hw1⟩ : ∃ w1, w1 = wr.alloc oa := ⟨_, rfl⟩
    have HK1 : Sd (Keeps NoB wr w1) := ⟨by rw [hw1]; exact (Keeps.refl NoB wr).alloc _⟩
    have H1 : Sd (Tabs W (OneB wr.heap.size) b rb s M u11 u12 w1) := ⟨H.o.grow HK1.o (fun i hi => by cases hi; rw [hw1]; exact ⟨.inr (Nat.le_refl _), by simp⟩)⟩
    have HB1 : Sd (w1.heap[wr.heap.size]? = some oa) := ⟨by rw [hw1]; exact (by have := heap_alloc_new wr oa; exact this)⟩
    rw [← hw1]
    generalize wr.heap.size = g at *
    clear hw1 c0 c1 c2 c3 c4 H HK1
    have hb1 := HB1.o
    rw [HOA.o] at hb1
    have d0 := blk_cell hb1 0
    have d1 := blk_cell hb1 1
    have d4 := blk_cell hb1 4
    clear hb1
    have HHU := Sd.mk (shuge_any w1 y.AL y.cL y.L ((GY.o.kept H1.o.keeps).strs) GY.o.each GY.o.len)
    go_wp2_with fail
    refine HHU.o.mono ?_
    rintro e w2 ⟨bb, rfl, rfl, hbb⟩
    have HBB := Sd.mk hbb
    clear hbb
    cases bb with
    | true =>
      go_wp2_with (go_at_call 4; refine (HLV.o _).mono ?_; rintro e w2 ⟨rfl, hk⟩; have HK := Sd.mk hk; clear hk)
      go_ret
      exact ⟨rfl, H1.o.keeps.then HK.o⟩
    | false =>
    have HBL := Sd.mk (HBB.o rfl)
    clear HBB HHU
    by_cases hTL : (300 : Int) < (y.T.length : Int)
    · go_wp2_with (go_at_call 4; refine (HLV.o _).mono ?_; rintro e w2 ⟨rfl, hk⟩; have HK := Sd.mk hk; clear hk)
      go_ret
      exact ⟨rfl, H1.o.keeps.then HK.o⟩
    go_upto_block 2 with fail
    have HJI : Sd (Inv (9 * k + 1) s) := ⟨I.o.mono (by omega)⟩
    have hN : 9 * k + 1 ≤ 800000000 := by omega
    have hTL4 : y.T.length ≤ 4611686018427387904 := by omega
    go_cut [11, 12] from 75 to 137 (fun tv wv wx => ∃ (s1 : FSt) (M1 : Tab), Sd (Tabs W (OneB g) b rb s1 M1 tv wv wx) ∧ Sd (Inv (9 * k + 1) s1) ∧ Sd (wx.heap[g]? = some oa))
    case first => as_aux_lemma =>
      have hb1 := HB1.o
      rw [HOA.o] at hb1
      have d2 := blk_cell hb1 2
      have d3 := blk_cell hb1 3
      clear hb1
      have HH := Sd.mk H1.o.half
      by_cases k3 : y.kind = 3
      · as_aux_lemma =>
        have hk3 : (y.kind == 3) = true := by simp [k3]
        clear k3
        go_wp2_with (first
          | (go_at_call 8; refine (xa_crash HH.o HJI.o (by omega) y.dir GY.o.kd y.At y.ct y.T hTL4 GY.o.torn GY.o.tb).mono ?_; rintro e w2 ⟨rfl, h2, k2⟩; have H2 := Sd.mk h2; have HB2 := Sd.mk (k2.obj HB1.o (fun e => e.1 rfl)); have hb2 := HB2.o; rw [HOA.o] at hb2; have e3 := blk_cell hb2 3; have e4 := blk_cell hb2 4; clear hb2 h2 k2)
          | (go_at_call 9; refine (xr_crash H2.o HJI.o (by omega) y.dir GY.o.kd y.At y.ct y.T hTL4 GY.o.torn GY.o.tb).mono ?_; rintro e w3 ⟨rfl, h3, k3⟩; have H3 := Sd.mk h3; have HB3 := Sd.mk (k3.obj HB2.o (fun e => e.1 rfl)); clear h3 k3))
        go_meet
        exact ⟨s.crash y.dir y.T, none, ⟨rfl, rfl, H3.o⟩, ⟨HJI.o.crash _ _⟩, HB3⟩
      have hk3 : (y.kind == 3) = false := by simp [k3]
      clear k3
      by_cases k4 : y.kind = 4
      · as_aux_lemma =>
        have hk4 : (y.kind == 4) = true := by simp [k4]
        clear k4
        go_wp2_with (first
          | (go_at_call 10; refine (Tabs2.op H1.o (fun T hT => xa_arm hT y.n)).mono ?_; rintro e w2 ⟨rfl, h2, k2⟩; have H2 := Sd.mk h2; have HB2 := Sd.mk (k2.obj HB1.o (fun e => e.1 rfl)); have hb2 := HB2.o; rw [HOA.o] at hb2; have e2 := blk_cell hb2 2; clear hb2 h2 k2)
          | (go_at_call 11; refine (Tabs2.op H2.o (fun T hT => xr_arm hT y.n GY.o.kn)).mono ?_; rintro e w3 ⟨rfl, h3, k3⟩; have H3 := Sd.mk h3; have HB3 := Sd.mk (k3.obj HB2.o (fun e => e.1 rfl)); clear h3 k3))
        go_meet
        exact ⟨s.arm y.n, M, ⟨H3.o⟩, ⟨HJI.o.arm _ GY.o.kn.2⟩, HB3⟩
      have hk4 : (y.kind == 4) = false := by simp [k4]
      clear k4
      by_cases k5 : y.kind = 5
      · as_aux_lemma =>
        have hk5 : (y.kind == 5) = true := by simp [k5]
        clear k5
        have HJC : Sd (∀ n wx, roJ W g oa b rb s (s.setCap y.n).2 M u11 u12 n wx → wx.cell? ⟨g, 2, none⟩ = some (.int .i64 y.n)) := ⟨fun n wx hJ => by
          have hb := hJ.obj
          rw [HOA.o] at hb
          exact blk_cell hb 2⟩
        go_wp2_with fail
        refine wp_region_chain (J := roJ W g oa b rb s (s.setCap y.n).2 M u11 u12) (R := fun _ _ => True) [3, 4, 8] (fun _ => trivial) (by kernel_rfl) (by kernel_rfl) (by kernel_rfl) ⟨Tabs2.kept H1.o (Keeps.refl NoB _).drew, HB1.o⟩ ?_
        as_aux_lemma =>
        apply chain_const
        · intro _; kernel_rfl
        · rfl
        · intro ss wx n hJ hF
          have hk2 := HJC.o n wx hJ
          clear hF
          unfold flowAt
          go_simp
          exact ⟨trivial, rfl, hJ⟩
        intro K hK
        go_simp
        refine hK _ ?_
        clear hK K
        apply chain_const
        · intro _; kernel_rfl
        · rfl
        · intro ss wx n hJ hF
          have hk2 := HJC.o n wx hJ
          clear hF
          unfold flowAt
          go_simp
          exact ⟨trivial, rfl, hJ⟩
        intro K hK
        go_simp
        refine hK _ ?_
        clear hK K
        apply chain_const
        · intro _; kernel_rfl
        · rfl
        · intro ss wx n hJ hF
          have hk2 := HJC.o n wx hJ
          clear hF
          unfold flowAt
          go_simp
          exact ⟨trivial, rfl, hJ⟩
        intro K hK
        go_simp
        refine hK _ ?_
        clear hK K
        apply chain_step 0 (.int .i64 (s.setCap y.n).1)
        · intro _; kernel_rfl
        · rfl
        · intro ss wx hJ hF
          have hk2 := HJC.o 0 wx hJ
          have HH := Sd.mk hJ
          clear hF hJ
          unfold flowAt
          go_simp
          simp only [flowUpon]
          go_at_call 13
          refine (Tabs2.op HH.o.1 (fun T hT => xa_setcap hT y.n)).mono ?_
          rintro e w' ⟨rfl, h1, h2⟩
          exact ⟨_, rfl, trivial, rfl, h1, h2.obj HH.o.2 (fun e => e.1 rfl)⟩
        intro K hK
        go_simp
        refine hK _ ?_
        clear hK K
        apply chain_step 1 (.int .i64 (s.setCap y.n).1)
        · intro _; kernel_rfl
        · rfl
        · intro ss wx hJ hF
          have HH := Sd.mk hJ
          clear hF hJ
          unfold flowAt
          go_simp
          simp only [flowUpon]
          go_at_call 12
          refine (num_law _ _).mono ?_
          rintro e w' ⟨rfl, rfl⟩
          exact ⟨_, rfl, trivial, rfl, HH.o⟩
        intro K hK
        go_simp
        refine hK _ ?_
        clear hK K
        apply chain_const
        · intro _; kernel_rfl
        · rfl
        · intro ss wx n hJ hF
          have hk2 := HJC.o n wx hJ
          clear hF
          unfold flowAt
          go_simp
          exact ⟨trivial, rfl, hJ⟩
        intro K hK
        go_simp
        refine hK _ ?_
        clear hK K
        apply chain_const
        · intro _; kernel_rfl
        · rfl
        · intro ss wx n hJ hF
          have hk2 := HJC.o n wx hJ
          clear hF
          unfold flowAt
          go_simp
          exact ⟨trivial, rfl, hJ⟩
        intro K hK
        go_simp
        refine hK _ ?_
        clear hK K
        apply chain_const
        · intro _; kernel_rfl
        · rfl
        · intro ss wx n hJ hF
          have hk2 := HJC.o n wx hJ
          clear hF
          unfold flowAt
          go_simp
          exact ⟨trivial, rfl, hJ⟩
        intro K hK
        go_simp
        refine hK _ ?_
        clear hK K
        apply chain_step 2 (.int .i64 (s.setCap y.n).1)
        · intro _; kernel_rfl
        · rfl
        · intro ss wx hJ hF
          have hk2 := HJC.o 2 wx hJ
          have HH := Sd.mk hJ
          clear hF hJ
          unfold flowAt
          go_simp
          simp only [flowUpon]
          go_at_call 14
          refine (Tabs2.op HH.o.1 (fun T hT => xr_setcap hT y.n)).mono ?_
          rintro e w' ⟨rfl, h1, h2⟩
          exact ⟨_, rfl, trivial, rfl, h1, h2.obj HH.o.2 (fun e => e.1 rfl)⟩
        intro K hK
        go_simp
        refine hK _ ?_
        clear hK K
        apply chain_const
        · intro _; kernel_rfl
        · rfl
        · intro ss wx n hJ hF
          have hk2 := HJC.o n wx hJ
          clear hF
          unfold flowAt
          go_simp
          exact ⟨trivial, rfl, hJ⟩
        intro K hK
        go_simp
        refine hK _ ?_
        clear hK K
        apply chain_nil
        intro s2 w6 hJ6 hF
        have H6 : Sd (Tabs2 W (OneB g) b rb (s.setCap y.n).2 (s.setCap y.n).2 M u11 u12 w6 ∧ w6.heap[g]? = some oa) := ⟨hJ6⟩
        clear hF hJ6 HJC
        go_simp
        go_wp2_with fail
        go_meet
        exact ⟨(s.setCap y.n).2, M, ⟨H6.o.1⟩, ⟨HJI.o.setCap _⟩, ⟨H6.o.2⟩⟩
      have hk5 : (y.kind == 5) = false := by simp [k5]
      clear k5
      by_cases k6 : y.kind = 6
      · as_aux_lemma =>
        have hk6 : (y.kind == 6) = true := by simp [k6]
        clear k6
        cases M with
        | none =>
          obtain ⟨e1, e2, hh⟩ := H1.o
          have HH3 := Sd.mk hh
          clear hh H1 HH
          subst e1 e2
          go_wp2_with fail
          go_meet
          exact ⟨s, none, ⟨rfl, rfl, HH3.o⟩, HJI, HB1⟩
        | some x =>
        obtain ⟨n, sl⟩ := x
        obtain ⟨f, tb, mb, A3, c3, rf, rtb, RA, rc, e1, e2, _, _, hTR, _⟩ := H1.o
        have HTR := Sd.mk hTR
        clear hTR
        subst e1 e2
        by_cases hL0 : y.L.length = 0
        · have hq9 : ¬ (0 : Int) < (y.L.length : Int) := by omega
          have hq8 : (y.L.length : Int) = 0 := by omega
          clear hL0
          go_wp2_with fail
          go_meet
          exact ⟨s, none, ⟨rfl, rfl, HH.o⟩, HJI, HB1⟩
        have hq9 : (0 : Int) < (y.L.length : Int) := by omega
        have hL1 : 0 < y.L.length := by omega
        obtain ⟨bL, oL, eL, hcL⟩ := GY.o.strs 0 (by rw [strs_len]; omega)
        have hcL2 : W.cell? ⟨bL, oL, none⟩ = some (.string (sOf y.L[0])) := by
          rw [Nat.add_zero] at hcL
          rw [hcL]
          simp [strs]
        have HCL := Sd.mk hcL2
        have hpl : y.L[0].length ≤ 20000 := Nat.le_trans (flat_each (List.getElem_mem hL1)) HBL.o.2
        obtain ⟨p, hp⟩ : ∃ p, p = y.L[0] := ⟨_, rfl⟩
        rw [← hp] at HCL hpl
        have HOA2 : Sd (oa = (.cells #[.int .i64 y.kind, .slice (some ⟨bL, oL, none⟩) y.L.length y.cL, .int .i64 y.n, .int .i64 y.dir, .slice y.At y.T.length y.ct] 38)) := ⟨by rw [HOA.o, eL]⟩
        have HOAG : Sd (∀ wx : World, wx.heap[g]? = some oa → wx.cell? ⟨g, 1, none⟩ = some (.slice (some ⟨bL, oL, none⟩) y.L.length y.cL)) := ⟨fun wx hb => by
          rw [HOA2.o] at hb
          exact blk_cell hb 1⟩
        obtain ⟨C, hC⟩ : ∃ C, C = s.append n p := ⟨_, rfl⟩
        have HC := Sd.mk hC
        have hIC : Sd (Inv (9 * k + 1) C.2) := ⟨by rw [hC]; exact I.o.append n p (by omega)⟩
        have d1' := HOAG.o w1 HB1.o
        clear hcL hcL2 hp hC eL d1 hL0 hL1
        go_upto_region 29 with fail
        obtain ⟨W0, hW0⟩ : ∃ W0, W0 = w1.drew := ⟨_, rfl⟩
        have HT0 : Sd (Tabs2 W (OneB g) b rb s s (some (n, sl)) (.pointer (some ⟨f, 0, none⟩)) (.pointer (some ⟨rf, 0, none⟩)) W0) := ⟨by rw [hW0]; exact Tabs2.kept H1.o (Keeps.refl NoB w1).drew⟩
        have HB0 : Sd (W0.heap[g]? = some oa) := ⟨by rw [hW0]; exact HB1.o⟩
        obtain ⟨cv, W1, hcv, hru, hkv⟩ := cv_str W0 p (by omega)
        have HT1 : Sd (Tabs2 W (OneB g) b rb s s (some (n, sl)) (.pointer (some ⟨f, 0, none⟩)) (.pointer (some ⟨rf, 0, none⟩)) W1) := ⟨Tabs2.kept HT0.o hkv⟩
        have HBW1 : Sd (W1.heap[g]? = some oa) := ⟨hkv.obj HB0.o (fun f => f)⟩
        have HAP : Sd (Calls Tryz.prog 15 #[.pointer (some ⟨b, 0, none⟩), .int .i64 n, .slice (some ⟨W0.heap.size, 0, none⟩) p.length cv] W1 fun e w' => e = .returned (.int .i64 C.1) ∧ (Tabs2 W (OneB g) b rb C.2 s (some (n, sl)) (.pointer (some ⟨f, 0, none⟩)) (.pointer (some ⟨rf, 0, none⟩)) w' ∧ w'.heap[g]? = some oa)) := ⟨by
          have hc := Tabs2.op HT1.o (fun T hT => xa_append hT HJI.o (by omega) n _ cv p hru.1 (by omega))
          rw [← HC.o] at hc
          exact hc.mono fun e w' ⟨he, h1, h2⟩ => ⟨he, h1, h2.obj HBW1.o (fun e => e.1 rfl)⟩⟩
        have HAQ : Sd (∀ wx, spK W g oa b rb s C.2 (some (n, sl)) (.pointer (some ⟨f, 0, none⟩)) (.pointer (some ⟨rf, 0, none⟩)) 0 wx → Calls Tryz.prog 16 #[.pointer (some ⟨rb, 0, none⟩), .int .i64 n, .string (sOf p)] wx fun e w' => e = .returned (.int .i64 C.1) ∧ spK W g oa b rb s C.2 (some (n, sl)) (.pointer (some ⟨f, 0, none⟩)) (.pointer (some ⟨rf, 0, none⟩)) 1 w') := ⟨fun wx hJ => by
          have hc := Tabs2.op hJ.1 (fun T hT => xr_append hT HJI.o (by omega) n p (by omega))
          rw [← HC.o] at hc
          exact hc.mono fun e w' ⟨he, h1, h2⟩ => ⟨he, h1, h2.obj hJ.2 (fun e => e.1 rfl)⟩⟩
        have HJC : Sd (∀ k wx, spJ W0 W1 (fun w => Tabs2 W (OneB g) b rb C.2 s (some (n, sl)) (.pointer (some ⟨f, 0, none⟩)) (.pointer (some ⟨rf, 0, none⟩)) w ∧ w.heap[g]? = some oa) k wx → wx.cell? ⟨rf, 2, none⟩ = some (.int .i64 n) ∧ wx.cell? ⟨g, 1, none⟩ = some (.slice (some ⟨bL, oL, none⟩) y.L.length y.cL) ∧ wx.cell? ⟨bL, oL, none⟩ = some (.string (sOf p))) := ⟨fun k wx hJ => by
          match k, hJ with
          | 0, hJ =>
            have e : wx = W0 := hJ
            rw [e]
            exact ⟨Tabs2.number HT0.o, HOAG.o _ HB0.o, HT0.o.half.keeps.cell HCL.o (fun f => f)⟩
          | 1, hJ =>
            have e : wx = W1 := hJ
            rw [e]
            exact ⟨Tabs2.number HT1.o, HOAG.o _ HBW1.o, HT1.o.half.keeps.cell HCL.o (fun f => f)⟩
          | _ + 2, hJ => exact ⟨Tabs2.number hJ.1, HOAG.o _ hJ.2, hJ.1.half.keeps.cell HCL.o (fun f => f)⟩⟩
        have HJD : Sd (∀ k wx, spK W g oa b rb s C.2 (some (n, sl)) (.pointer (some ⟨f, 0, none⟩)) (.pointer (some ⟨rf, 0, none⟩)) k wx → wx.cell? ⟨rf, 2, none⟩ = some (.int .i64 n) ∧ wx.cell? ⟨g, 1, none⟩ = some (.slice (some ⟨bL, oL, none⟩) y.L.length y.cL) ∧ wx.cell? ⟨bL, oL, none⟩ = some (.string (sOf p))) := ⟨fun k wx hJ => by
          match k, hJ with
          | 0, hJ => exact ⟨Tabs2.number hJ.1, HOAG.o _ hJ.2, hJ.1.half.keeps.cell HCL.o (fun f => f)⟩
          | _ + 1, hJ => exact ⟨Tabs2.number hJ.1, HOAG.o _ hJ.2, hJ.1.half.keeps.cell HCL.o (fun f => f)⟩⟩
        have HW0 := Sd.mk hW0
        clear hW0 hru hkv d1'
        refine wp_region_chain (J := spJ W0 W1 (fun w => Tabs2 W (OneB g) b rb C.2 s (some (n, sl)) (.pointer (some ⟨f, 0, none⟩)) (.pointer (some ⟨rf, 0, none⟩)) w ∧ w.heap[g]? = some oa)) (R := fun _ _ => True) [9, 10] (fun _ => trivial) (by kernel_rfl) (by kernel_rfl) (by kernel_rfl) HW0.o.symm ?_
        as_aux_lemma =>
        apply chain_const
        · intro _; kernel_rfl
        · rfl
        · intro ss wx n hJ hF
          obtain ⟨j1, j2, j3⟩ := HJC.o n wx hJ
          clear hF
          unfold flowAt
          go_simp
          exact ⟨trivial, rfl, hJ⟩
        intro K hK
        go_simp
        refine hK _ ?_
        clear hK K
        apply chain_const
        · intro _; kernel_rfl
        · rfl
        · intro ss wx n hJ hF
          obtain ⟨j1, j2, j3⟩ := HJC.o n wx hJ
          clear hF
          unfold flowAt
          go_simp
          exact ⟨trivial, rfl, hJ⟩
        intro K hK
        go_simp
        refine hK _ ?_
        clear hK K
        apply chain_const
        · intro _; kernel_rfl
        · rfl
        · intro ss wx n hJ hF
          obtain ⟨j1, j2, j3⟩ := HJC.o n wx hJ
          clear hF
          unfold flowAt
          go_simp
          exact ⟨trivial, rfl, hJ⟩
        intro K hK
        go_simp
        refine hK _ ?_
        clear hK K
        apply chain_const
        · intro _; kernel_rfl
        · rfl
        · intro ss wx n hJ hF
          obtain ⟨j1, j2, j3⟩ := HJC.o n wx hJ
          clear hF
          unfold flowAt
          go_simp
          exact ⟨trivial, rfl, hJ⟩
        intro K hK
        go_simp
        refine hK _ ?_
        clear hK K
        apply chain_const
        · intro _; kernel_rfl
        · rfl
        · intro ss wx n hJ hF
          obtain ⟨j1, j2, j3⟩ := HJC.o n wx hJ
          clear hF
          unfold flowAt
          go_simp
          exact ⟨trivial, rfl, hJ⟩
        intro K hK
        go_simp
        refine hK _ ?_
        clear hK K
        apply chain_const
        · intro _; kernel_rfl
        · rfl
        · intro ss wx n hJ hF
          obtain ⟨j1, j2, j3⟩ := HJC.o n wx hJ
          clear hF
          unfold flowAt
          go_simp
          exact ⟨trivial, rfl, hJ⟩
        intro K hK
        go_simp
        refine hK _ ?_
        clear hK K
        apply chain_const
        · intro _; kernel_rfl
        · rfl
        · intro ss wx n hJ hF
          obtain ⟨j1, j2, j3⟩ := HJC.o n wx hJ
          clear hF
          unfold flowAt
          go_simp
          exact ⟨trivial, rfl, hJ⟩
        intro K hK
        go_simp
        refine hK _ ?_
        clear hK K
        apply chain_const
        · intro _; kernel_rfl
        · rfl
        · intro ss wx n hJ hF
          obtain ⟨j1, j2, j3⟩ := HJC.o n wx hJ
          clear hF
          unfold flowAt
          go_simp
          exact ⟨trivial, rfl, hJ⟩
        intro K hK
        go_simp
        refine hK _ ?_
        clear hK K
        apply chain_const
        · intro _; kernel_rfl
        · rfl
        · intro ss wx n hJ hF
          obtain ⟨j1, j2, j3⟩ := HJC.o n wx hJ
          clear hF
          unfold flowAt
          go_simp
          exact ⟨trivial, rfl, hJ⟩
        intro K hK
        go_simp
        refine hK _ ?_
        clear hK K
        apply chain_step 0 ((.slice (some ⟨W0.heap.size, 0, none⟩) p.length cv))
        · intro _; kernel_rfl
        · rfl
        · intro ss wx hJ hF
          clear hF
          have hJ' : wx = W0 := hJ
          subst hJ'
          unfold flowAt
          go_simp
          exact ⟨trivial, rfl, rfl⟩
        intro K hK
        go_simp
        refine hK _ ?_
        clear hK K
        apply chain_step 1 (.int .i64 C.1)
        · intro _; kernel_rfl
        · rfl
        · intro ss wx hJ hF
          clear hF
          have hJ' : wx = W1 := hJ
          subst hJ'
          unfold flowAt
          go_simp
          simp only [flowUpon]
          go_at_call 15
          refine HAP.o.mono ?_
          rintro e w' ⟨rfl, h⟩
          exact ⟨_, rfl, trivial, rfl, h⟩
        intro K hK
        go_simp
        refine hK _ ?_
        clear hK K
        apply chain_nil
        intro s2 w6 hJ6 hF
        have H6 : Sd (spK W g oa b rb s C.2 (some (n, sl)) (.pointer (some ⟨f, 0, none⟩)) (.pointer (some ⟨rf, 0, none⟩)) 0 w6) := ⟨hJ6⟩
        clear hF hJ6 HJC hcv HAP
        go_simp
        as_aux_lemma =>
        go_upto_region 30 with fail
        refine wp_region_chain (J := spK W g oa b rb s C.2 (some (n, sl)) (.pointer (some ⟨f, 0, none⟩)) (.pointer (some ⟨rf, 0, none⟩))) (R := fun _ _ => True) [9] (fun _ => trivial) (by kernel_rfl) (by kernel_rfl) (by kernel_rfl) ⟨Tabs2.kept H6.o.1 (Keeps.refl NoB _).drew, H6.o.2⟩ ?_
        as_aux_lemma =>
        apply chain_const
        · intro _; kernel_rfl
        · rfl
        · intro ss wx n hJ hF
          obtain ⟨j1, j2, j3⟩ := HJD.o n wx hJ
          clear hF
          unfold flowAt
          go_simp
          exact ⟨trivial, rfl, hJ⟩
        intro K hK
        go_simp
        refine hK _ ?_
        clear hK K
        apply chain_const
        · intro _; kernel_rfl
        · rfl
        · intro ss wx n hJ hF
          obtain ⟨j1, j2, j3⟩ := HJD.o n wx hJ
          clear hF
          unfold flowAt
          go_simp
          exact ⟨trivial, rfl, hJ⟩
        intro K hK
        go_simp
        refine hK _ ?_
        clear hK K
        apply chain_const
        · intro _; kernel_rfl
        · rfl
        · intro ss wx n hJ hF
          obtain ⟨j1, j2, j3⟩ := HJD.o n wx hJ
          clear hF
          unfold flowAt
          go_simp
          exact ⟨trivial, rfl, hJ⟩
        intro K hK
        go_simp
        refine hK _ ?_
        clear hK K
        apply chain_const
        · intro _; kernel_rfl
        · rfl
        · intro ss wx n hJ hF
          obtain ⟨j1, j2, j3⟩ := HJD.o n wx hJ
          clear hF
          unfold flowAt
          go_simp
          exact ⟨trivial, rfl, hJ⟩
        intro K hK
        go_simp
        refine hK _ ?_
        clear hK K
        apply chain_const
        · intro _; kernel_rfl
        · rfl
        · intro ss wx n hJ hF
          obtain ⟨j1, j2, j3⟩ := HJD.o n wx hJ
          clear hF
          unfold flowAt
          go_simp
          exact ⟨trivial, rfl, hJ⟩
        intro K hK
        go_simp
        refine hK _ ?_
        clear hK K
        apply chain_const
        · intro _; kernel_rfl
        · rfl
        · intro ss wx n hJ hF
          obtain ⟨j1, j2, j3⟩ := HJD.o n wx hJ
          clear hF
          unfold flowAt
          go_simp
          exact ⟨trivial, rfl, hJ⟩
        intro K hK
        go_simp
        refine hK _ ?_
        clear hK K
        apply chain_const
        · intro _; kernel_rfl
        · rfl
        · intro ss wx n hJ hF
          obtain ⟨j1, j2, j3⟩ := HJD.o n wx hJ
          clear hF
          unfold flowAt
          go_simp
          exact ⟨trivial, rfl, hJ⟩
        intro K hK
        go_simp
        refine hK _ ?_
        clear hK K
        apply chain_const
        · intro _; kernel_rfl
        · rfl
        · intro ss wx n hJ hF
          obtain ⟨j1, j2, j3⟩ := HJD.o n wx hJ
          clear hF
          unfold flowAt
          go_simp
          exact ⟨trivial, rfl, hJ⟩
        intro K hK
        go_simp
        refine hK _ ?_
        clear hK K
        apply chain_const
        · intro _; kernel_rfl
        · rfl
        · intro ss wx n hJ hF
          obtain ⟨j1, j2, j3⟩ := HJD.o n wx hJ
          clear hF
          unfold flowAt
          go_simp
          exact ⟨trivial, rfl, hJ⟩
        intro K hK
        go_simp
        refine hK _ ?_
        clear hK K
        apply chain_step 0 (.int .i64 C.1)
        · intro _; kernel_rfl
        · rfl
        · intro ss wx hJ hF
          obtain ⟨j1, j2, j3⟩ := HJD.o 0 wx hJ
          have HH := Sd.mk hJ
          clear hF hJ
          unfold flowAt
          go_simp
          simp only [flowUpon]
          go_at_call 16
          refine (HAQ.o wx HH.o).mono ?_
          rintro e w' ⟨rfl, h⟩
          exact ⟨_, rfl, trivial, rfl, h⟩
        intro K hK
        go_simp
        refine hK _ ?_
        clear hK K
        apply chain_nil
        intro s3 w7 hJ7 hF
        have H7 : Sd (spK W g oa b rb s C.2 (some (n, sl)) (.pointer (some ⟨f, 0, none⟩)) (.pointer (some ⟨rf, 0, none⟩)) 1 w7) := ⟨hJ7⟩
        clear hF hJ7 HJD
        go_simp
        go_wp2_with fail
        go_meet
        exact ⟨C.2, none, ⟨rfl, rfl, H7.o.1.half⟩, hIC, ⟨H7.o.2⟩⟩
      have hk6 : (y.kind == 6) = false := by simp [k6]
      clear k6
      go_wp2_with fail
      go_meet
      exact ⟨s, M, H1, HJI, HB1⟩
    obtain ⟨s1, M1, HT, HI, HB⟩ := hcut
    clear H1 HB1 d0 d1 d4 HJI I
    have hb0 := HB.o
    rw [HOA.o] at hb0
    have d0 := blk_cell hb0 0
    clear hb0
    go_upto_region 33 with fail
    go_cut [154] from 138 to 153 (fun sx wx => ∃ bb : Bool, sx = .bool bb ∧ Sd (bb = false → ∃ x, M1 = some x) ∧ Sd (wx = wc))
    case first => as_aux_lemma =>
      have hK : (y.kind < 2) ∨ (2 ≤ y.kind ∧ y.kind = 4) ∨ (2 ≤ y.kind ∧ y.kind = 5) ∨ (2 ≤ y.kind ∧ y.kind ≠ 4 ∧ y.kind ≠ 5) := by omega
      cases M1 with
      | none =>
        obtain ⟨e1, e2, _⟩ := HT.o
        clear HT
        subst e1 e2
        rcases hK with h | ⟨h, h4⟩ | ⟨h, h5⟩ | ⟨h, h4, h5⟩
        · have hq2 : ¬ 2 ≤ y.kind := by omega
          clear h
          go_wp2_with fail
          go_meet
          exact ⟨true, rfl, ⟨fun e => by cases e⟩, ⟨rfl⟩⟩
        · have hq4 : (y.kind != 4) = false := by simp [h4]
          clear h4
          go_wp2_with fail
          go_meet
          exact ⟨true, rfl, ⟨fun e => by cases e⟩, ⟨rfl⟩⟩
        · have hq4 : (y.kind != 4) = true := by simp [h5]
          have hq5 : (y.kind != 5) = false := by simp [h5]
          clear h5
          go_wp2_with fail
          go_meet
          exact ⟨true, rfl, ⟨fun e => by cases e⟩, ⟨rfl⟩⟩
        · have hq4 : (y.kind != 4) = true := by simpa using h4
          have hq5 : (y.kind != 5) = true := by simpa using h5
          clear h4 h5
          go_wp2_with fail
          go_meet
          exact ⟨true, rfl, ⟨fun e => by cases e⟩, ⟨rfl⟩⟩
      | some x =>
        obtain ⟨n, sl⟩ := x
        obtain ⟨f, tb, mb, A3, c3, rf, rtb, RA, rc, e1, e2, _⟩ := HT.o
        clear HT
        subst e1 e2
        rcases hK with h | ⟨h, h4⟩ | ⟨h, h5⟩ | ⟨h, h4, h5⟩
        · have hq2 : ¬ 2 ≤ y.kind := by omega
          clear h
          go_wp2_with fail
          go_meet
          exact ⟨false, rfl, ⟨fun _ => ⟨_, rfl⟩⟩, ⟨rfl⟩⟩
        · have hq4 : (y.kind != 4) = false := by simp [h4]
          clear h4
          go_wp2_with fail
          go_meet
          exact ⟨false, rfl, ⟨fun _ => ⟨_, rfl⟩⟩, ⟨rfl⟩⟩
        · have hq4 : (y.kind != 4) = true := by simp [h5]
          have hq5 : (y.kind != 5) = false := by simp [h5]
          clear h5
          go_wp2_with fail
          go_meet
          exact ⟨false, rfl, ⟨fun _ => ⟨_, rfl⟩⟩, ⟨rfl⟩⟩
        · have hq4 : (y.kind != 4) = true := by simpa using h4
          have hq5 : (y.kind != 5) = true := by simpa using h5
          clear h4 h5
          go_wp2_with fail
          go_meet
          exact ⟨true, rfl, ⟨fun e => by cases e⟩, ⟨rfl⟩⟩
    obtain ⟨bb, rfl, HBB, hwx⟩ := hcut
    obtain ⟨rfl⟩ := hwx
    go_upto_if 154 with fail
    go_cut [11, 12, 15, 16, 17, 18] from 155 to 179 (fun tv wv a15 a16 a17 a18 wx => ∃ (s2 : FSt) (M2 : Tab), Sd (Tabs W (OneB g) b rb s2 M2 tv wv wx) ∧ Sd (Inv (9 * k + 4) s2) ∧ Sd (wx.heap[g]? = some oa))
    case first => as_aux_lemma =>
      cases bb with
      | false =>
        go_wp2_with fail
        go_meet
        exact ⟨s1, M1, HT, ⟨HI.o.mono (by omega)⟩, HB⟩
      | true =>
        clear d0 HBB
        have HH := Sd.mk HT.o.half
        have HIO := Sd.mk (HI.o.openT S.data.toList)
        clear HT
        by_cases hR : (s1.openT S.data.toList).1 = 0
        · have HR0 := Sd.mk hR
          have HMO : Sd (openM (s1.openT S.data.toList) = some ((s1.openT S.data.toList).2.2.1, (s1.openT S.data.toList).2.2.2)) := ⟨by unfold openM; rw [if_pos hR]⟩
          clear hR
          go_wp2_with (first
            | (go_at_call 17; refine (open1_any HH.o HI.o (by omega) S hS).mono ?_; rintro e w4 ⟨tv, rfl, h2, k2, _⟩; obtain ⟨f0, rfl⟩ : ∃ f0, tv = .pointer (some ⟨f0, 0, none⟩) := (open1_yes HR0.o h2); have H2 := Sd.mk h2; have HB2 := Sd.mk (k2.obj HB.o (fun e => e.1 rfl)); clear h2 k2)
            | (go_at_call 18; refine (open2_any H2.o HI.o (by omega) hS).mono ?_; rintro e w5 ⟨wv, rfl, h3, k3⟩; obtain ⟨r0, rfl⟩ : ∃ r0, wv = .pointer (some ⟨r0, 0, none⟩) := (open2_yes HR0.o h3); have H3 := Sd.mk h3; have HB3 := Sd.mk (k3.obj HB2.o (fun e => e.1 rfl)); clear h3 k3)
            | (go_at_call 12; refine (num_law _ _).mono ?_; rintro e w' ⟨rfl, rfl⟩))
          go_meet
          exact ⟨_, _, H3, ⟨HIO.o⟩, HB3⟩
        · have HR0 := Sd.mk hR
          clear hR
          go_wp2_with (first
            | (go_at_call 17; refine (open1_any HH.o HI.o (by omega) S hS).mono ?_; rintro e w4 ⟨tv, rfl, h2, k2, _⟩; obtain rfl : tv = .pointer none := (open1_no HR0.o h2); have H2 := Sd.mk h2; have HB2 := Sd.mk (k2.obj HB.o (fun e => e.1 rfl)); clear h2 k2)
            | (go_at_call 18; refine (open2_any H2.o HI.o (by omega) hS).mono ?_; rintro e w5 ⟨wv, rfl, h3, k3⟩; obtain rfl : wv = .pointer none := (open2_no HR0.o h3); have H3 := Sd.mk h3; have HB3 := Sd.mk (k3.obj HB2.o (fun e => e.1 rfl)); clear h3 k3)
            | (go_at_call 12; refine (num_law _ _).mono ?_; rintro e w' ⟨rfl, rfl⟩))
          go_meet
          exact ⟨_, _, H3, ⟨HIO.o⟩, HB3⟩
    clear d0 HBB HT HI HB
    obtain ⟨s2, M2, HT, HI, HB⟩ := hcut
    cases M2 with
    | none =>
      obtain ⟨e1, e2, hh⟩ := HT.o
      have HH3 := Sd.mk hh
      clear hh
      subst e1 e2
      go_wp2_with fail
      go_roundg (gk - 1)
      case measure => omega
      case rel => exact ⟨k + 1, s2, none, by omega, by go_num, ⟨rfl, rfl, HH3.o.less (fun _ f => f.elim)⟩, ⟨HI.o.mono (by omega)⟩⟩
    | some x =>
    obtain ⟨n, sl⟩ := x
    obtain ⟨f, tb, mb, A3, c3, rf, rtb, RA, rc, e1, e2, _, _, _, hgt⟩ := HT.o
    have HGT := Sd.mk hgt
    clear hgt
    subst e1 e2
    have HIA : Sd (∀ wx : World, wx.heap[g]? = some oa → isAct wx (OneB g)) := ⟨fun wx hb i e => by
      cases e
      rw [HOA.o] at hb
      exact ⟨_, hb⟩⟩
    have hb0 := HB.o
    rw [HOA.o] at hb0
    have d0 := blk_cell hb0 0
    have d1 := blk_cell hb0 1
    clear hb0
    go_upto_if 184 with fail
    go_cut [19, 20, 21, 22] from 184 to 210 (fun a19 a20 a21 a22 wx => ∃ (s3 : FSt) (l3 : List (List UInt8)), Sd (Tabs W (OneB g) b rb s3 (some (n, l3)) (.pointer (some ⟨f, 0, none⟩)) (.pointer (some ⟨rf, 0, none⟩)) wx) ∧ Sd (Inv (9 * k + 7) s3) ∧ Sd (wx.heap[g]? = some oa))
    case first => as_aux_lemma =>
      by_cases k0 : y.kind = 0
      case neg =>
        have hk0 : (y.kind == 0) = false := by simp [k0]
        clear k0
        go_wp2_with fail
        go_meet
        exact ⟨s2, sl, HT, ⟨HI.o.mono (by omega)⟩, HB⟩
      have hk0 : (y.kind == 0) = true := by simp [k0]
      clear k0
      have hsmall := added_small (l := sl) HBL.o.1 HBL.o.2
      have heach : ∀ s ∈ y.L, s.length ≤ 140737488355328 := fun s hs => by have := GY.o.each s hs; omega
      have hll : y.L.length ≤ 65536 := by have := HBL.o.1; omega
      obtain ⟨R, hRR⟩ : ∃ R, R = s2.addT n y.L sl := ⟨_, rfl⟩
      obtain ⟨OUT, hOUT⟩ : ∃ OUT, OUT = if (s2.addT n y.L sl).1 = 0 then outL y.L sl else [] := ⟨_, rfl⟩
      have hOL : OUT.length ≤ 300 := by
        rw [hOUT]
        split
        · rw [outL_len]; exact HBL.o.1
        · exact Nat.zero_le _
      have HA1 : Sd (∀ w5 A5 c5, Tabs W (OneB g) b rb s2 (some (n, sl)) (.pointer (some ⟨f, 0, none⟩)) (.pointer (some ⟨rf, 0, none⟩)) w5 → isAct w5 (OneB g) → VRd w5 A5 (strs y.L) → Calls Tryz.prog 19 #[.pointer (some ⟨f, 0, none⟩), .slice A5 y.L.length c5] w5 fun e w' => ∃ Ao co, e = .returned (.tuple #[.slice Ao OUT.length co, .int .i64 R.1]) ∧
          Add1 W (OneB g) b rb s2 n sl OUT R (.pointer (some ⟨f, 0, none⟩)) (.pointer (some ⟨rf, 0, none⟩)) (.slice Ao OUT.length co) w' ∧ Keeps (offT W (OneB g)) w5 w') := ⟨fun w5 A5 c5 h1 h2 h3 => by
        rw [hOUT, hRR]
        exact add1_any h1 h2 HI.o (by omega) A5 c5 y.L h3 heach hll hsmall⟩
      have HA2 : Sd (∀ w6 xv, Add1 W (OneB g) b rb s2 n sl OUT R (.pointer (some ⟨f, 0, none⟩)) (.pointer (some ⟨rf, 0, none⟩)) xv w6 → isAct w6 (OneB g) → VRd w6 y.AL (strs y.L) → Calls Tryz.prog 20 #[.pointer (some ⟨rf, 0, none⟩), .slice y.AL y.L.length y.cL] w6 fun e w' => ∃ Ao co Bo d, xv = .slice Ao OUT.length co ∧ e = .returned (.tuple #[.slice Bo OUT.length d, .int .i64 R.1]) ∧
          Tabs W (OneB g) b rb R.2.1 (some (n, R.2.2)) (.pointer (some ⟨f, 0, none⟩)) (.pointer (some ⟨rf, 0, none⟩)) w' ∧ OwnV w' 3 (.slice Ao OUT.length co) (ints OUT) ∧ OwnV w' 3 (.slice Bo OUT.length d) (ints OUT) ∧ Keeps (offT W (OneB g)) w6 w') := ⟨fun w6 xv h1 h2 h3 => by
        rw [hOUT, hRR] at h1 ⊢
        exact add2_any h1 h2 HGT.o HI.o (by omega) y.AL y.cL h3 heach hll hsmall⟩
      have HIR : Sd (Inv (9 * k + 7) R.2.1) := ⟨by rw [hRR]; exact (HI.o.addT n y.L sl hsmall).mono (by omega)⟩
      clear hRR hOUT hsmall heach
      have HVW : Sd (∀ wx, Keeps NoB W wx → VRd wx y.AL (strs y.L)) := ⟨fun wx hk => GY.o.strs.keeps hk (fun _ _ _ _ f => f)⟩
      have HKW := Sd.mk HT.o.keeps
      have d1' : (wc.alloc (.cells #[] 9)).cell? ⟨g, 1, none⟩ = some (.slice y.AL y.L.length y.cL) := ((Keeps.refl NoB wc).alloc _).cell d1 (fun f => f)
      have HOAG : Sd (∀ wx : World, wx.heap[g]? = some oa → wx.cell? ⟨g, 1, none⟩ = some (.slice y.AL y.L.length y.cL)) := ⟨fun wx hb => by
        rw [HOA.o] at hb
        exact blk_cell hb 1⟩
      have HSL := Sd.mk (strs_len y.L)
      clear d1
      go_wp2_with (first
        | (at_builtin; go_must (refine app_any rfl _ _ 33 9 (.string ⟨#[]⟩) 16 rfl Tryz.underlying33 infoStr rfl (.slice (some ⟨wc.heap.size, 0, none⟩) 0 0) [] rfl (own_lit wc 9 [] (by simp)) y.AL y.L.length y.cL (strs y.L) rfl HSL.o (HVW.o _ (HKW.o.alloc _)) (fun u hu => by simp only [strs, List.mem_map] at hu; obtain ⟨x, _, rfl⟩ := hu; rfl) (by simp; omega) (by simp; omega) ?_); intro A5 c5 w5 hO5 hK5 hG5; simp only [List.length_nil, Nat.zero_add, List.nil_append] at hO5 hG5 ⊢; have O5 := Sd.mk hO5; have K5 : Sd (Keeps NoB wc w5) := ⟨(Keeps.refl NoB wc).late hK5.undoalloc (fun i hi => fresh_lit wc 0 0 i hi)⟩; have T5 := Sd.mk (HT.o.kept K5.o); have B5 := Sd.mk (K5.o.obj HB.o (fun f => f)); clear hO5 hK5 hG5)
        | (go_at_call 19; refine (HA1.o _ _ _ T5.o (HIA.o _ B5.o) O5.o.vrd.2.2.2.2.2).mono ?_; rintro e w6 ⟨Ao, co, rfl, h6, k6⟩; have H6 := Sd.mk h6; have B6 := Sd.mk (k6.obj B5.o (fun e => e.1 rfl)); have K6 : Sd (Keeps NoB W w6) := ⟨(HKW.o.then K5.o).late k6 (fun i hi => hi.2)⟩; have e1 := HOAG.o _ B6.o; clear h6 k6)
        | (go_at_call 20; refine (HA2.o _ _ H6.o (HIA.o _ B6.o) (HVW.o _ K6.o)).mono ?_; rintro e w7 ⟨Ao2, co2, Bo, d, hx, rfl, h7, o7, p7, k7⟩; obtain ⟨rfl, _, rfl⟩ := Value.slice.inj hx; have T7 := Sd.mk h7; have O7 := Sd.mk o7; have P7 := Sd.mk p7; have B7 := Sd.mk (k7.obj B6.o (fun e => e.1 rfl)); clear h7 o7 p7 k7 hx)
        | (go_at_call 21; refine (rints_any w7 Ao Bo co d OUT OUT O7.o.vrd.2.2.2.2.2 P7.o.vrd.2.2.2.2.2 (by omega) (by omega)).mono ?_; rw [decide_eq_true rfl]; rintro e w8 ⟨rfl, hw8⟩; have K8 : Sd (Keeps NoB w7 w8) := ⟨by obtain ⟨n8, rfl⟩ := hw8; exact (Keeps.refl NoB w7).drewN n8⟩; clear hw8)
        | (go_at_call 12; refine (num_law _ _).mono ?_; rintro e w' ⟨rfl, rfl⟩))
      go_meet
      exact ⟨R.2.1, R.2.2, ⟨T7.o.kept K8.o⟩, HIR, ⟨K8.o.obj B7.o (fun f => f)⟩⟩
    clear d0 d1 HT HI HB HGT
    obtain ⟨s3, l3, HT, HI, HB⟩ := hcut
    have HOAG : Sd (∀ wx : World, wx.heap[g]? = some oa → wx.cell? ⟨g, 0, none⟩ = some (.int .i64 y.kind) ∧ wx.cell? ⟨g, 2, none⟩ = some (.int .i64 y.n)) := ⟨fun wx hb => by
      rw [HOA.o] at hb
      exact ⟨blk_cell hb 0, blk_cell hb 2⟩⟩
    go_upto_region 46 with fail
    go_cut [228] from 211 to 227 (fun sx wx => sx = .bool false ∧ ∃ (s4 : FSt), Sd (Tabs W (OneB g) b rb s4 (some (n, l3)) (.pointer (some ⟨f, 0, none⟩)) (.pointer (some ⟨rf, 0, none⟩)) wx) ∧ Sd (Inv (9 * k + 8) s4) ∧ Sd (wx.heap[g]? = some oa))
    case first => as_aux_lemma =>
      by_cases k1 : y.kind = 1
      case neg =>
        have hk1 : (y.kind == 1) = false := by simp [k1]
        clear k1
        refine wp_region_flow_lit (R := Keeps NoB) (w0 := wc) (fun w => Keeps.refl _ w) (fun _ _ _ h k => h.then k) (by kernel_rfl) (by kernel_rfl) (by first | exact (Keeps.refl _ _).drew | exact ((Keeps.refl _ _).drewN _).drew) ?_
        repeat (first
          | (apply flow_skip
             · intro _; rfl
             intro K hK
             go_simp
             refine hK _ ?_
             clear hK K)
          | (apply flow_const
             · intro _; rfl
             · intro ss wx hR hF
               obtain ⟨g0, g2⟩ := HOAG.o wx (hR.obj HB.o (fun f => f))
               clear hF
               unfold flowAt
               go_simp
               exact ⟨Keeps.refl _ _, rfl⟩
             intro K hK
             go_simp
             refine hK _ ?_
             clear hK K))
        refine flow_nil ?_
        intro ss w8 hk8 hF
        clear hF
        have K8 := Sd.mk hk8
        clear hk8
        go_simp
        go_wp2_with fail
        go_meet
        exact ⟨rfl, s3, ⟨HT.o.kept K8.o⟩, ⟨HI.o.mono (by omega)⟩, ⟨K8.o.obj HB.o (fun f => f)⟩⟩
      have hk1 : (y.kind == 1) = true := by simp [k1]
      clear k1
      have HJC : Sd (∀ k wx, roJ W g oa b rb s3 (s3.sync n).2 (some (n, l3)) (.pointer (some ⟨f, 0, none⟩)) (.pointer (some ⟨rf, 0, none⟩)) k wx → wx.cell? ⟨g, 0, none⟩ = some (.int .i64 y.kind) ∧ wx.cell? ⟨rf, 1, none⟩ = some (.pointer (some ⟨rb, 0, none⟩)) ∧ wx.cell? ⟨rf, 2, none⟩ = some (.int .i64 n)) := ⟨fun k wx hJ => by
        refine ⟨(HOAG.o wx hJ.obj).1, ?_⟩
        match k, hJ with
        | 0, hJ => exact ⟨Tabs2.place hJ.1, Tabs2.number hJ.1⟩
        | 1, hJ => exact ⟨Tabs2.place hJ.1, Tabs2.number hJ.1⟩
        | 2, hJ => exact ⟨Tabs2.place hJ.1, Tabs2.number hJ.1⟩
        | _ + 3, hJ => exact ⟨Tabs2.place hJ.1, Tabs2.number hJ.1⟩⟩
      refine wp_region_chain (J := roJ W g oa b rb s3 (s3.sync n).2 (some (n, l3)) (.pointer (some ⟨f, 0, none⟩)) (.pointer (some ⟨rf, 0, none⟩))) (R := fun _ _ => True) [5, 6, 15] (fun _ => trivial) (by kernel_rfl) (by kernel_rfl) (by kernel_rfl) ⟨Tabs2.kept HT.o (Keeps.refl NoB _).drew, HB.o⟩ ?_
      as_aux_lemma =>
      apply chain_const
      · intro _; kernel_rfl
      · rfl
      · intro ss wx n hJ hF
        obtain ⟨j0, j1, j2⟩ := HJC.o n wx hJ
        clear hF
        unfold flowAt
        go_simp
        exact ⟨trivial, rfl, hJ⟩
      intro K hK
      go_simp
      refine hK _ ?_
      clear hK K
      apply chain_const
      · intro _; kernel_rfl
      · rfl
      · intro ss wx n hJ hF
        obtain ⟨j0, j1, j2⟩ := HJC.o n wx hJ
        clear hF
        unfold flowAt
        go_simp
        exact ⟨trivial, rfl, hJ⟩
      intro K hK
      go_simp
      refine hK _ ?_
      clear hK K
      apply chain_const
      · intro _; kernel_rfl
      · rfl
      · intro ss wx n hJ hF
        obtain ⟨j0, j1, j2⟩ := HJC.o n wx hJ
        clear hF
        unfold flowAt
        go_simp
        exact ⟨trivial, rfl, hJ⟩
      intro K hK
      go_simp
      refine hK _ ?_
      clear hK K
      apply chain_const
      · intro _; kernel_rfl
      · rfl
      · intro ss wx n hJ hF
        obtain ⟨j0, j1, j2⟩ := HJC.o n wx hJ
        clear hF
        unfold flowAt
        go_simp
        exact ⟨trivial, rfl, hJ⟩
      intro K hK
      go_simp
      refine hK _ ?_
      clear hK K
      apply chain_const
      · intro _; kernel_rfl
      · rfl
      · intro ss wx n hJ hF
        obtain ⟨j0, j1, j2⟩ := HJC.o n wx hJ
        clear hF
        unfold flowAt
        go_simp
        exact ⟨trivial, rfl, hJ⟩
      intro K hK
      go_simp
      refine hK _ ?_
      clear hK K
      apply chain_step 0 (.int .i64 (s3.sync n).1)
      · intro _; kernel_rfl
      · rfl
      · intro ss wx hJ hF
        have HH := Sd.mk hJ
        clear hF hJ
        unfold flowAt
        go_simp
        simp only [flowUpon]
        go_at_call 22
        refine (Tabs2.sync HH.o.1 HI.o (by omega)).mono ?_
        rintro e w' ⟨rfl, h1, h2⟩
        exact ⟨_, rfl, trivial, rfl, h1, h2.obj HH.o.2 (fun e => e.1 rfl)⟩
      intro K hK
      go_simp
      refine hK _ ?_
      clear hK K
      apply chain_step 1 (.int .i64 (s3.sync n).1)
      · intro _; kernel_rfl
      · rfl
      · intro ss wx hJ hF
        have HH := Sd.mk hJ
        clear hF hJ
        unfold flowAt
        go_simp
        simp only [flowUpon]
        go_at_call 12
        refine (num_law _ _).mono ?_
        rintro e w' ⟨rfl, rfl⟩
        exact ⟨_, rfl, trivial, rfl, HH.o⟩
      intro K hK
      go_simp
      refine hK _ ?_
      clear hK K
      apply chain_const
      · intro _; kernel_rfl
      · rfl
      · intro ss wx n hJ hF
        obtain ⟨j0, j1, j2⟩ := HJC.o n wx hJ
        clear hF
        unfold flowAt
        go_simp
        exact ⟨trivial, rfl, hJ⟩
      intro K hK
      go_simp
      refine hK _ ?_
      clear hK K
      apply chain_const
      · intro _; kernel_rfl
      · rfl
      · intro ss wx n hJ hF
        obtain ⟨j0, j1, j2⟩ := HJC.o n wx hJ
        clear hF
        unfold flowAt
        go_simp
        exact ⟨trivial, rfl, hJ⟩
      intro K hK
      go_simp
      refine hK _ ?_
      clear hK K
      apply chain_const
      · intro _; kernel_rfl
      · rfl
      · intro ss wx n hJ hF
        obtain ⟨j0, j1, j2⟩ := HJC.o n wx hJ
        clear hF
        unfold flowAt
        go_simp
        exact ⟨trivial, rfl, hJ⟩
      intro K hK
      go_simp
      refine hK _ ?_
      clear hK K
      apply chain_const
      · intro _; kernel_rfl
      · rfl
      · intro ss wx n hJ hF
        obtain ⟨j0, j1, j2⟩ := HJC.o n wx hJ
        clear hF
        unfold flowAt
        go_simp
        exact ⟨trivial, rfl, hJ⟩
      intro K hK
      go_simp
      refine hK _ ?_
      clear hK K
      apply chain_const
      · intro _; kernel_rfl
      · rfl
      · intro ss wx n hJ hF
        obtain ⟨j0, j1, j2⟩ := HJC.o n wx hJ
        clear hF
        unfold flowAt
        go_simp
        exact ⟨trivial, rfl, hJ⟩
      intro K hK
      go_simp
      refine hK _ ?_
      clear hK K
      apply chain_const
      · intro _; kernel_rfl
      · rfl
      · intro ss wx n hJ hF
        obtain ⟨j0, j1, j2⟩ := HJC.o n wx hJ
        clear hF
        unfold flowAt
        go_simp
        exact ⟨trivial, rfl, hJ⟩
      intro K hK
      go_simp
      refine hK _ ?_
      clear hK K
      apply chain_const
      · intro _; kernel_rfl
      · rfl
      · intro ss wx n hJ hF
        obtain ⟨j0, j1, j2⟩ := HJC.o n wx hJ
        clear hF
        unfold flowAt
        go_simp
        exact ⟨trivial, rfl, hJ⟩
      intro K hK
      go_simp
      refine hK _ ?_
      clear hK K
      apply chain_const
      · intro _; kernel_rfl
      · rfl
      · intro ss wx n hJ hF
        obtain ⟨j0, j1, j2⟩ := HJC.o n wx hJ
        clear hF
        unfold flowAt
        go_simp
        exact ⟨trivial, rfl, hJ⟩
      intro K hK
      go_simp
      refine hK _ ?_
      clear hK K
      apply chain_step 2 (.int .i64 (s3.sync n).1)
      · intro _; kernel_rfl
      · rfl
      · intro ss wx hJ hF
        have HH := Sd.mk hJ
        clear hF hJ
        unfold flowAt
        go_simp
        simp only [flowUpon]
        go_at_call 23
        refine (Tabs2.op HH.o.1 (fun T hT => xr_sync hT HI.o (by omega) n)).mono ?_
        rintro e w' ⟨rfl, h1, h2⟩
        exact ⟨_, rfl, trivial, rfl, h1, h2.obj HH.o.2 (fun e => e.1 rfl)⟩
      intro K hK
      go_simp
      refine hK _ ?_
      clear hK K
      apply chain_const
      · intro _; kernel_rfl
      · rfl
      · intro ss wx n hJ hF
        obtain ⟨j0, j1, j2⟩ := HJC.o n wx hJ
        clear hF
        unfold flowAt
        go_simp
        exact ⟨trivial, rfl, hJ⟩
      intro K hK
      go_simp
      refine hK _ ?_
      clear hK K
      apply chain_const
      · intro _; kernel_rfl
      · rfl
      · intro ss wx n hJ hF
        obtain ⟨j0, j1, j2⟩ := HJC.o n wx hJ
        clear hF
        unfold flowAt
        go_simp
        exact ⟨trivial, rfl, hJ⟩
      intro K hK
      go_simp
      refine hK _ ?_
      clear hK K
      apply chain_nil
      intro s2' w6 hJ6 hF
      have H6 : Sd (Tabs2 W (OneB g) b rb (s3.sync n).2 (s3.sync n).2 (some (n, l3)) (.pointer (some ⟨f, 0, none⟩)) (.pointer (some ⟨rf, 0, none⟩)) w6 ∧ w6.heap[g]? = some oa) := ⟨hJ6⟩
      clear hF hJ6 HJC
      go_simp
      go_wp2_with fail
      go_meet
      exact ⟨by simp, (s3.sync n).2, ⟨H6.o.1⟩, ⟨(HI.o.sync n).mono (by omega)⟩, ⟨H6.o.2⟩⟩
    as_aux_lemma =>
    clear HT HI HB
    obtain ⟨rfl, s4, HT, HI, HB⟩ := hcut
    obtain ⟨f', tb', mb', A', c', rf', rtb', RA', rc', e1, e2, h0, hTA, hTR, hgt⟩ := HT.o
    cases e1
    cases e2
    have HTA := Sd.mk hTA
    have HTR := Sd.mk hTR
    have hl6 := hgt.len
    clear h0 hTA hTR hgt
    go_upto_region 48 with fail
    refine wp_region_flow_lit (R := Keeps NoB) (w0 := wc) (fun w => Keeps.refl _ w) (fun _ _ _ h k => h.then k) (by kernel_rfl) (by kernel_rfl) (by first | exact (Keeps.refl _ _).drew | exact ((Keeps.refl _ _).drewN _).drew) ?_
    repeat (apply flow_const
            · intro _; rfl
            · intro ss wx hR hF
              obtain ⟨g0, g2⟩ := HOAG.o wx (hR.obj HB.o (fun f => f))
              have z0 := blk_cell (HTA.o.kept hR).blk 0
              have z1 := blk_cell (HTR.o.kept hR).blk 0
              have z2 := blk_cell (HTR.o.kept hR).tab.blk 0
              clear hF
              unfold flowAt
              go_simp
              first
                | exact ⟨Keeps.refl _ _, rfl⟩
                | (simp only [flowUpon]
                   first
                     | (go_at_call 24
                        refine (tells_any wx W.heap.size tb' mb' A' c' l3 (HTA.o.kept hR).tab W.heap.size rtb' RA' rc' (HTR.o.kept hR).tab hl6 S hSs y.n GY.o.kn.1 GY.o.kn.2).mono ?_
                        rintro e w' ⟨rfl, hk⟩
                        exact ⟨_, rfl, hk, rfl⟩)
                     | (go_at_call 25
                        refine (tlen_any wx W.heap.size tb' mb' A' c' l3 (HTA.o.kept hR).tab).mono ?_
                        rintro e w' ⟨rfl, rfl⟩
                        exact ⟨_, rfl, Keeps.refl _ _, rfl⟩))
            intro K hK
            go_simp
            refine hK _ ?_
            clear hK K)
    refine flow_nil ?_
    intro ss w9 hk9 hF
    clear hF
    have HT9 : Sd (Tabs W NoB b rb s4 (some (n, l3)) (.pointer (some ⟨f, 0, none⟩)) (.pointer (some ⟨rf, 0, none⟩)) w9) := ⟨(HT.o.kept hk9).less (fun _ f => f.elim)⟩
    clear hk9
    go_wp2_with fail
    go_roundg (gk - 1)
    case measure => omega
    case rel => exact ⟨k + 1, s4, some (n, l3), by omega, by go_num, HT9, ⟨HI.o.mono (by omega)⟩⟩
end Go.Proofs.YtdjamijbhaplgaaGreat
