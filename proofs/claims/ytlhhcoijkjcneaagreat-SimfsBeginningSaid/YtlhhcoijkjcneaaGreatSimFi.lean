/- The law's files: an act on a file, on both. -/
import Derived.Deep.CutBlock
import Derived.Deep.DeepCutAuto
import Derived.Test.YtlhhcoijkjcneaaGreatGg
import Derived.Test.YtlhhcoijkjcneaaGreatGh
import Derived.Test.YtlhhcoijkjcneaaGreatGi
namespace Go.Proofs.YtlhhcoijkjcneaaGreat
open Go.RowKit Go.Maps Go.Lib

def FSt.fileAct (s : FSt) (y : ActM) : FSt :=
  if y.kind = 3 then (s.write y.file y.at_ y.data).2
  else if y.kind = 4 then (s.append y.file y.data).2
  else if y.kind = 5 then (s.cutAt y.file y.n).2
  else if y.kind = 7 then (s.sync y.file).2
  else s
/-- The worlds of a statement that does an act on both. -/
def fiJ (w0 : World) (X : Nat → Option Obj) (b rb : Nat) (s s' : FSt) : Nat → World → Prop
  | 0, w => HalfAt w0 X b rb s s w
  | 1, w => HalfAt w0 X b rb s' s w
  | 2, w => HalfAt w0 X b rb s' s w
  | _, w => HalfAt w0 X b rb s' s' w
theorem fiJ.keeps {w0 w : World} {X : Nat → Option Obj} {b rb n : Nat} {s s' : FSt} (h : fiJ w0 X b rb s s' n w) : Keeps NoB w0 w := by
  match n, h with
  | 0, h => exact HalfAt.keeps h
  | 1, h => exact HalfAt.keeps h
  | 2, h => exact HalfAt.keeps h
  | n + 3, h => exact HalfAt.keeps h
theorem fiJ.blk {w0 w : World} {X : Nat → Option Obj} {b rb n : Nat} {s s' : FSt} (h : fiJ w0 X b rb s s' n w) {g : Nat} {o : Obj} (hg : X g = some o) : w.heap[g]? = some o := by
  match n, h with
  | 0, h => exact HalfAt.blk h hg
  | 1, h => exact HalfAt.blk h hg
  | 2, h => exact HalfAt.blk h hg
  | n + 3, h => exact HalfAt.blk h hg
/-- The slice that the law turns behind the act: a row of its own. -/
def PRow (w0 : World) (X0 X : Nat → Option Obj) (A : Option Addr) (n : Nat) : Prop :=
  (∀ i o, X0 i = some o → X i = some o) ∧ (n = 0 ∨ ∃ gp cur, A = some ⟨gp, 0, none⟩ ∧ w0.heap.size ≤ gp ∧ X0 gp = none ∧ X gp = some (.cells cur 5 (0, 0)) ∧ ∀ i, i < n → ∃ v : Int, cur[i]? = some (.int .u8 v))
theorem PRow.make {w0 w1 w2 : World} {X : Nat → Option Obj} {b rb : Nat} {s t : FSt} {A : Option Addr} {n c : Nat} {xs : List UInt8} (h : HalfAt w0 X b rb s t w1) (HO : OwnV w2 5 (.slice A n c) (bvs xs)) (hn : n = xs.length) (HK : Keeps NoB w1 w2) (HF : Fresh w1 (.slice A n c)) :
    ∃ X2, HalfAt w0 X2 b rb s t w2 ∧ PRow w0 X X2 A n ∧ ∀ s' t' wx, HalfAt w0 X2 b rb s' t' wx → Bts wx (.slice A n c) xs := by
  subst hn
  have hl := bvs_length xs
  obtain ⟨h1, h2⟩ := HO
  rcases h2 with ⟨e0, hn⟩ | ⟨g, cap, cur, e0, hb, hg, hn, hc, hs, ht⟩
  · injection e0 with e1 e2 e3
    subst e1 e3
    refine ⟨X, h.kept HK, ⟨fun _ _ h => h, .inl (by omega)⟩, fun s' t' wx hx => (OwnV.rowU (w := wx) ⟨h1, .inl ⟨by rw [e2], hn⟩⟩).1⟩
  · have hfr : w1.heap.size ≤ g := HF g (by rw [e0]; rfl)
    have hXg : X g = none := by
      cases hX : X g with
      | none => rfl
      | some o =>
        have := (Array.getElem?_eq_some_iff.1 (h.blk hX)).1
        omega
    have hXX : addB X g (.cells cur 5 (0, 0)) g = some (.cells cur 5 (0, 0)) := if_pos rfl
    refine ⟨addB X g _, h.more hfr HK hg, ⟨fun i o hi => ?_, .inr ⟨g, cur, by injection e0, Nat.le_trans h.keeps.size hfr, hXg, hXX, fun i hi => ?_⟩⟩, fun s' t' wx hx => (OwnV.rowU (w := wx) ⟨h1, .inr ⟨g, cap, cur, e0, hb, hx.blk hXX, hn, hc, hs, ht⟩⟩).1⟩
    · unfold addB
      rw [if_neg (fun e => by rw [e, hXg] at hi; cases hi)]
      exact hi
    · rw [hl, Nat.mul_one] at ht
      have h1 : (cur.toList.take xs.length)[i]? = (bvs xs)[i]? := by rw [ht]
      rw [List.getElem?_take, if_pos hi] at h1
      exact ⟨_, by simpa [bvs, u8v, hi] using h1⟩
theorem PRow.turn {w0 w : World} {X0 X : Nat → Option Obj} {b rb : Nat} {s t : FSt} {A : Option Addr} {n : Nat} (h : HalfAt w0 X b rb s t w) (hp : PRow w0 X0 X A n) (i : Nat) (hi : i < n) :
    ∃ gp v, A = some ⟨gp, 0, none⟩ ∧ w.cell? ⟨gp, i, none⟩ = some (.int .u8 v) ∧ w.frozen? ⟨gp, i, none⟩ = false ∧ ∀ u : Int, ∃ X2, HalfAt w0 X2 b rb s t (w.setCell ⟨gp, i, none⟩ (.int .u8 u)) ∧ PRow w0 X0 X2 A n := by
  obtain ⟨hs, h0 | ⟨gp, cur, rfl, hg, hx0, hx, hc⟩⟩ := hp
  · omega
  obtain ⟨v, hv⟩ := hc i hi
  have hb := h.blk hx
  refine ⟨gp, v, rfl, (blk_cell hb i).trans hv, blk_frozen hb i, fun u => ⟨addB X gp _, h.turn hx hg ((Keeps.refl (OneB gp) w).setCell ⟨gp, i, none⟩ _ (fun _ => rfl)) (blk_set hb i _), fun j o hj => ?_, .inr ⟨gp, _, rfl, hg, hx0, by unfold addB; rw [if_pos rfl], fun j hj => ?_⟩⟩⟩
  · unfold addB
    rw [if_neg (fun e => by rw [e, hx0] at hj; cases hj)]
    exact hs j o hj
  · rw [Array.getElem?_setIfInBounds]
    split
    · split
      · exact ⟨_, rfl⟩
      · rename_i e hlt
        obtain ⟨z, hz⟩ := hc j hj
        have := (Array.getElem?_eq_some_iff.1 hz).1
        omega
    · exact hc j hj
theorem PRow.trans {w0 : World} {X0 X1 X2 : Nat → Option Obj} {A : Option Addr} {n : Nat} (h : PRow w0 X1 X2 A n) (hs : ∀ i o, X0 i = some o → X1 i = some o) : ∀ i o, X0 i = some o → X2 i = some o := fun i o hi => h.1 i o (hs i o hi)
set_option maxHeartbeats 8000000 in
set_option maxRecDepth 100000 in
theorem files_any (w0 w : World) (X : Nat → Option Obj) (b rb N : Nat) (s : FSt) (h : BothAt w0 X b rb s w) (hinv : Inv N s) (hN : N ≤ 900000000) (y : ActM) (hy : y.Good w0) (hdl : y.data.length ≤ 20000) :
    Calls Tryz.prog 56 #[.pointer (some ⟨b, 0, none⟩), .pointer (some ⟨rb, 0, none⟩), .agg #[.int .i64 y.kind, .string y.a, .string y.b, .int .i64 y.file, .int .i64 y.at_, .int .i64 y.n, .slice y.Ad y.data.length y.cd, .int .i64 y.dir, .slice y.At y.L.length y.ct]] w fun e w' => e = .returned (.bool true) ∧ BothAt w0 X b rb (s.fileAct y) w' := by
  obtain ⟨oa, hoa⟩ : ∃ oa : Obj, oa = (.cells #[.int .i64 y.kind, .string y.a, .string y.b, .int .i64 y.file, .int .i64 y.at_, .int .i64 y.n, .slice y.Ad y.data.length y.cd, .int .i64 y.dir, .slice y.At y.L.length y.ct] 64) := ⟨_, rfl⟩
  have HOA := Sd.mk hoa
  have inv := Sd.mk hinv
  have GY := Sd.mk hy
  have HYD : Sd (Bts w0 (.slice y.Ad y.data.length y.cd) y.data) := ⟨hy.dat⟩
  have H : Sd (HalfAt w0 X b rb s s w) := ⟨h⟩
  clear h hinv hy hoa
  go_enter Tryz.func56, Tryz.ntmps56
  go_upto_region 1 with fail
  rw [← HOA.o]
  have hXg : X w.heap.size = none := by
    cases hX : X w.heap.size with
    | none => rfl
    | some o =>
      have := (Array.getElem?_eq_some_iff.1 (H.o.blk hX)).1
      omega
  obtain ⟨w1, hw1⟩ : ∃ w1, w1 = w.alloc oa := ⟨_, rfl⟩
  have H1 : Sd (HalfAt w0 (addB X w.heap.size oa) b rb s s w1) := ⟨by rw [hw1]; exact HalfAt.more H.o (Nat.le_refl _) ((Keeps.refl NoB w).alloc oa) (by have := heap_alloc_new w oa; exact this)⟩
  have HX1 : Sd (∀ i o, X i = some o → (addB X w.heap.size oa) i = some o) := ⟨fun i o hi => by
    unfold addB
    rw [if_neg (fun e => by rw [e, hXg] at hi; cases hi)]
    exact hi⟩
  have HXA1 : Sd ((addB X w.heap.size oa) w.heap.size = some oa) := ⟨if_pos rfl⟩
  rw [← hw1]
  generalize addB X w.heap.size oa = X1 at *
  generalize w.heap.size = ga at *
  have hb1 := H1.o.blk HXA1.o
  rw [HOA.o] at hb1
  have d0 := blk_cell hb1 0
  have d6 := blk_cell (((Keeps.refl NoB w1).alloc (.cells #[] 5)).obj hb1 (fun f => f)) 6
  clear hw1 hXg H hb1
  have HB1 : Sd (Bts w1 (.slice y.Ad y.data.length y.cd) y.data) := ⟨HYD.o.keeps H1.o.keeps (fun _ _ _ _ _ f => f)⟩
  go_upto_region 2 with (at_builtin; go_must (refine app_lit0 rfl _ _ 38 5 (.int .u8 0) 1 rfl Tryz.underlying38 infoU8' rfl w1.heap.size rfl rfl y.Ad y.data.length y.cd (bvs y.data) rfl (bvs_length y.data) (rd_vrd HB1.o.rd.2.2.2.2.2) (bvs_one y.data) (by omega) (by omega) ?_); intro Ap cp w2 HO HK HF; obtain ⟨X2, h2, hp, hb⟩ := PRow.make H1.o HO rfl HK HF; have H2 := Sd.mk h2; have HP := Sd.mk hp; have HPB := Sd.mk hb; clear HO HK HF h2 hp hb)
  have HXA : Sd (X2 ga = some oa) := ⟨HP.o.1 _ _ HXA1.o⟩
  have hb2 := H2.o.blk HXA.o
  rw [HOA.o] at hb2
  have d0 := blk_cell hb2 0
  clear d6 hb2 H1 HB1
  go_upto_block 0 with fail
  go_cut [8] (fun okv wx => okv = .bool true ∧ Sd (HalfAt w0 X2 b rb (s.fileAct y) (s.fileAct y) wx))
  case first =>
    by_cases h3 : y.kind = 3
    · skip
      have hq : (y.kind == 3) = true := by simp [h3]
      have HFA : Sd (s.fileAct y = (s.write y.file y.at_ y.data).2) := ⟨by unfold FSt.fileAct; simp [h3]⟩
      clear h3
      have HJC : Sd (∀ n wx, fiJ w0 X2 b rb s (s.write y.file y.at_ y.data).2 n wx → wx.cell? ⟨ga, 3, none⟩ = some (.int .i64 y.file) ∧ wx.cell? ⟨ga, 4, none⟩ = some (.int .i64 y.at_) ∧ wx.cell? ⟨ga, 5, none⟩ = some (.int .i64 y.n) ∧ wx.cell? ⟨ga, 6, none⟩ = some (.slice y.Ad y.data.length y.cd) ∧ (convert 38 9 (.slice y.Ad y.data.length y.cd)).run Tryz.prog wx = .ok (.string (sOf y.data)) wx) := ⟨fun n wx hJ => by
        have hb := hJ.blk HXA.o
        rw [HOA.o] at hb
        exact ⟨blk_cell hb 3, blk_cell hb 4, blk_cell hb 5, blk_cell hb 6, conv_bts (HYD.o.keeps hJ.keeps (fun _ _ _ _ _ f => f))⟩⟩
      go_wp2_with fail
      refine wp_region_chain (J := fiJ w0 X2 b rb s (s.write y.file y.at_ y.data).2) (R := fun _ _ => True) [6, 7, 16] (fun _ => trivial) (by kernel_rfl) (by kernel_rfl) (by kernel_rfl) (H2.o.kept (Keeps.refl NoB _).drew) ?_
      apply chain_const
      · intro _; kernel_rfl
      · rfl
      · intro ss wx n hJ hF
        obtain ⟨k3, k4, k5, k6, kcv⟩ := HJC.o n wx hJ
        clear hF
        unfold flowAt
        go_simp
        exact ⟨trivial, rfl, hJ⟩
      intro K hK
      go_simp
      refine hK _ ?_
      clear hK K
      apply chain_const
      · intro _; kernel_rfl
      · rfl
      · intro ss wx n hJ hF
        obtain ⟨k3, k4, k5, k6, kcv⟩ := HJC.o n wx hJ
        clear hF
        unfold flowAt
        go_simp
        exact ⟨trivial, rfl, hJ⟩
      intro K hK
      go_simp
      refine hK _ ?_
      clear hK K
      apply chain_const
      · intro _; kernel_rfl
      · rfl
      · intro ss wx n hJ hF
        obtain ⟨k3, k4, k5, k6, kcv⟩ := HJC.o n wx hJ
        clear hF
        unfold flowAt
        go_simp
        exact ⟨trivial, rfl, hJ⟩
      intro K hK
      go_simp
      refine hK _ ?_
      clear hK K
      apply chain_const
      · intro _; kernel_rfl
      · rfl
      · intro ss wx n hJ hF
        obtain ⟨k3, k4, k5, k6, kcv⟩ := HJC.o n wx hJ
        clear hF
        unfold flowAt
        go_simp
        exact ⟨trivial, rfl, hJ⟩
      intro K hK
      go_simp
      refine hK _ ?_
      clear hK K
      apply chain_const
      · intro _; kernel_rfl
      · rfl
      · intro ss wx n hJ hF
        obtain ⟨k3, k4, k5, k6, kcv⟩ := HJC.o n wx hJ
        clear hF
        unfold flowAt
        go_simp
        exact ⟨trivial, rfl, hJ⟩
      intro K hK
      go_simp
      refine hK _ ?_
      clear hK K
      apply chain_const
      · intro _; kernel_rfl
      · rfl
      · intro ss wx n hJ hF
        obtain ⟨k3, k4, k5, k6, kcv⟩ := HJC.o n wx hJ
        clear hF
        unfold flowAt
        go_simp
        exact ⟨trivial, rfl, hJ⟩
      intro K hK
      go_simp
      refine hK _ ?_
      clear hK K
      apply chain_step 0 (.int .i64 (s.write y.file y.at_ y.data).1)
      · intro _; kernel_rfl
      · rfl
      · intro ss wx hJ hF
        have h9 := hJ
        obtain ⟨k3, k4, k5, k6, kcv⟩ := HJC.o 0 wx hJ
        have HH := Sd.mk h9
        clear hF hJ h9
        unfold flowAt
        go_simp
        simp only [flowUpon]
        go_at_call 67
        refine (ha_write HH.o inv.o hN y.file y.at_ GY.o.ka Ap cp y.data (HPB.o _ _ wx HH.o) (by omega)).mono ?_
        rintro e w' ⟨rfl, h⟩
        exact ⟨_, rfl, trivial, rfl, h⟩
      intro K hK
      go_simp
      refine hK _ ?_
      clear hK K
      apply chain_step 1 (.int .i64 (s.write y.file y.at_ y.data).1)
      · intro _; kernel_rfl
      · rfl
      · intro ss wx hJ hF
        have HJ := Sd.mk hJ
        clear hF hJ
        unfold flowAt
        go_simp
        simp only [flowUpon]
        go_at_call 10
        refine (num_law2 _ _).mono ?_
        rintro e w' ⟨rfl, rfl⟩
        exact ⟨_, rfl, trivial, rfl, HJ.o⟩
      intro K hK
      go_simp
      refine hK _ ?_
      clear hK K
      apply chain_const
      · intro _; kernel_rfl
      · rfl
      · intro ss wx n hJ hF
        obtain ⟨k3, k4, k5, k6, kcv⟩ := HJC.o n wx hJ
        clear hF
        unfold flowAt
        go_simp
        exact ⟨trivial, rfl, hJ⟩
      intro K hK
      go_simp
      refine hK _ ?_
      clear hK K
      apply chain_const
      · intro _; kernel_rfl
      · rfl
      · intro ss wx n hJ hF
        obtain ⟨k3, k4, k5, k6, kcv⟩ := HJC.o n wx hJ
        clear hF
        unfold flowAt
        go_simp
        exact ⟨trivial, rfl, hJ⟩
      intro K hK
      go_simp
      refine hK _ ?_
      clear hK K
      apply chain_const
      · intro _; kernel_rfl
      · rfl
      · intro ss wx n hJ hF
        obtain ⟨k3, k4, k5, k6, kcv⟩ := HJC.o n wx hJ
        clear hF
        unfold flowAt
        go_simp
        exact ⟨trivial, rfl, hJ⟩
      intro K hK
      go_simp
      refine hK _ ?_
      clear hK K
      apply chain_const
      · intro _; kernel_rfl
      · rfl
      · intro ss wx n hJ hF
        obtain ⟨k3, k4, k5, k6, kcv⟩ := HJC.o n wx hJ
        clear hF
        unfold flowAt
        go_simp
        exact ⟨trivial, rfl, hJ⟩
      intro K hK
      go_simp
      refine hK _ ?_
      clear hK K
      apply chain_const
      · intro _; kernel_rfl
      · rfl
      · intro ss wx n hJ hF
        obtain ⟨k3, k4, k5, k6, kcv⟩ := HJC.o n wx hJ
        clear hF
        unfold flowAt
        go_simp
        exact ⟨trivial, rfl, hJ⟩
      intro K hK
      go_simp
      refine hK _ ?_
      clear hK K
      apply chain_const
      · intro _; kernel_rfl
      · rfl
      · intro ss wx n hJ hF
        obtain ⟨k3, k4, k5, k6, kcv⟩ := HJC.o n wx hJ
        clear hF
        unfold flowAt
        go_simp
        exact ⟨trivial, rfl, hJ⟩
      intro K hK
      go_simp
      refine hK _ ?_
      clear hK K
      apply chain_const
      · intro _; kernel_rfl
      · rfl
      · intro ss wx n hJ hF
        obtain ⟨k3, k4, k5, k6, kcv⟩ := HJC.o n wx hJ
        clear hF
        unfold flowAt
        go_simp
        exact ⟨trivial, rfl, hJ⟩
      intro K hK
      go_simp
      refine hK _ ?_
      clear hK K
      apply chain_const
      · intro _; kernel_rfl
      · rfl
      · intro ss wx n hJ hF
        obtain ⟨k3, k4, k5, k6, kcv⟩ := HJC.o n wx hJ
        clear hF
        unfold flowAt
        go_simp
        exact ⟨trivial, rfl, hJ⟩
      intro K hK
      go_simp
      refine hK _ ?_
      clear hK K
      apply chain_step 2 (.int .i64 (s.write y.file y.at_ y.data).1)
      · intro _; kernel_rfl
      · rfl
      · intro ss wx hJ hF
        have h9 := hJ
        obtain ⟨k3, k4, k5, k6, kcv⟩ := HJC.o 2 wx hJ
        have HH := Sd.mk h9
        clear hF hJ h9
        unfold flowAt
        go_simp
        simp only [flowUpon]
        go_at_call 85
        refine (hr_write HH.o inv.o hN y.file y.at_ GY.o.ka y.data (by omega)).mono ?_
        rintro e w' ⟨rfl, h⟩
        exact ⟨_, rfl, trivial, rfl, h⟩
      intro K hK
      go_simp
      refine hK _ ?_
      clear hK K
      apply chain_const
      · intro _; kernel_rfl
      · rfl
      · intro ss wx n hJ hF
        obtain ⟨k3, k4, k5, k6, kcv⟩ := HJC.o n wx hJ
        clear hF
        unfold flowAt
        go_simp
        exact ⟨trivial, rfl, hJ⟩
      intro K hK
      go_simp
      refine hK _ ?_
      clear hK K
      apply chain_const
      · intro _; kernel_rfl
      · rfl
      · intro ss wx n hJ hF
        obtain ⟨k3, k4, k5, k6, kcv⟩ := HJC.o n wx hJ
        clear hF
        unfold flowAt
        go_simp
        exact ⟨trivial, rfl, hJ⟩
      intro K hK
      go_simp
      refine hK _ ?_
      clear hK K
      apply chain_nil
      intro s2 w6 hJ6 hF
      have H6 : Sd (HalfAt w0 X2 b rb (s.write y.file y.at_ y.data).2 (s.write y.file y.at_ y.data).2 w6) := ⟨hJ6⟩
      clear hF hJ6 HJC
      go_simp
      go_wp2_with fail
      go_meet
      exact ⟨by simp, by rw [HFA.o]; exact H6⟩
    have hq3 : (y.kind == 3) = false := by simp [h3]
    by_cases h4 : y.kind = 4
    · skip
      have hq : (y.kind == 4) = true := by simp [h4]
      have HFA : Sd (s.fileAct y = (s.append y.file y.data).2) := ⟨by unfold FSt.fileAct; simp [h4]⟩
      clear h3 h4
      have HJC : Sd (∀ n wx, fiJ w0 X2 b rb s (s.append y.file y.data).2 n wx → wx.cell? ⟨ga, 3, none⟩ = some (.int .i64 y.file) ∧ wx.cell? ⟨ga, 4, none⟩ = some (.int .i64 y.at_) ∧ wx.cell? ⟨ga, 5, none⟩ = some (.int .i64 y.n) ∧ wx.cell? ⟨ga, 6, none⟩ = some (.slice y.Ad y.data.length y.cd) ∧ (convert 38 9 (.slice y.Ad y.data.length y.cd)).run Tryz.prog wx = .ok (.string (sOf y.data)) wx) := ⟨fun n wx hJ => by
        have hb := hJ.blk HXA.o
        rw [HOA.o] at hb
        exact ⟨blk_cell hb 3, blk_cell hb 4, blk_cell hb 5, blk_cell hb 6, conv_bts (HYD.o.keeps hJ.keeps (fun _ _ _ _ _ f => f))⟩⟩
      go_wp2_with fail
      refine wp_region_chain (J := fiJ w0 X2 b rb s (s.append y.file y.data).2) (R := fun _ _ => True) [4, 5, 12] (fun _ => trivial) (by kernel_rfl) (by kernel_rfl) (by kernel_rfl) (H2.o.kept (Keeps.refl NoB _).drew) ?_
      apply chain_const
      · intro _; kernel_rfl
      · rfl
      · intro ss wx n hJ hF
        obtain ⟨k3, k4, k5, k6, kcv⟩ := HJC.o n wx hJ
        clear hF
        unfold flowAt
        go_simp
        exact ⟨trivial, rfl, hJ⟩
      intro K hK
      go_simp
      refine hK _ ?_
      clear hK K
      apply chain_const
      · intro _; kernel_rfl
      · rfl
      · intro ss wx n hJ hF
        obtain ⟨k3, k4, k5, k6, kcv⟩ := HJC.o n wx hJ
        clear hF
        unfold flowAt
        go_simp
        exact ⟨trivial, rfl, hJ⟩
      intro K hK
      go_simp
      refine hK _ ?_
      clear hK K
      apply chain_const
      · intro _; kernel_rfl
      · rfl
      · intro ss wx n hJ hF
        obtain ⟨k3, k4, k5, k6, kcv⟩ := HJC.o n wx hJ
        clear hF
        unfold flowAt
        go_simp
        exact ⟨trivial, rfl, hJ⟩
      intro K hK
      go_simp
      refine hK _ ?_
      clear hK K
      apply chain_const
      · intro _; kernel_rfl
      · rfl
      · intro ss wx n hJ hF
        obtain ⟨k3, k4, k5, k6, kcv⟩ := HJC.o n wx hJ
        clear hF
        unfold flowAt
        go_simp
        exact ⟨trivial, rfl, hJ⟩
      intro K hK
      go_simp
      refine hK _ ?_
      clear hK K
      apply chain_step 0 (.int .i64 (s.append y.file y.data).1)
      · intro _; kernel_rfl
      · rfl
      · intro ss wx hJ hF
        have h9 := hJ
        obtain ⟨k3, k4, k5, k6, kcv⟩ := HJC.o 0 wx hJ
        have HH := Sd.mk h9
        clear hF hJ h9
        unfold flowAt
        go_simp
        simp only [flowUpon]
        go_at_call 24
        refine (ha_append HH.o inv.o hN y.file Ap cp y.data (HPB.o _ _ wx HH.o) (by omega)).mono ?_
        rintro e w' ⟨rfl, h⟩
        exact ⟨_, rfl, trivial, rfl, h⟩
      intro K hK
      go_simp
      refine hK _ ?_
      clear hK K
      apply chain_step 1 (.int .i64 (s.append y.file y.data).1)
      · intro _; kernel_rfl
      · rfl
      · intro ss wx hJ hF
        have HJ := Sd.mk hJ
        clear hF hJ
        unfold flowAt
        go_simp
        simp only [flowUpon]
        go_at_call 10
        refine (num_law2 _ _).mono ?_
        rintro e w' ⟨rfl, rfl⟩
        exact ⟨_, rfl, trivial, rfl, HJ.o⟩
      intro K hK
      go_simp
      refine hK _ ?_
      clear hK K
      apply chain_const
      · intro _; kernel_rfl
      · rfl
      · intro ss wx n hJ hF
        obtain ⟨k3, k4, k5, k6, kcv⟩ := HJC.o n wx hJ
        clear hF
        unfold flowAt
        go_simp
        exact ⟨trivial, rfl, hJ⟩
      intro K hK
      go_simp
      refine hK _ ?_
      clear hK K
      apply chain_const
      · intro _; kernel_rfl
      · rfl
      · intro ss wx n hJ hF
        obtain ⟨k3, k4, k5, k6, kcv⟩ := HJC.o n wx hJ
        clear hF
        unfold flowAt
        go_simp
        exact ⟨trivial, rfl, hJ⟩
      intro K hK
      go_simp
      refine hK _ ?_
      clear hK K
      apply chain_const
      · intro _; kernel_rfl
      · rfl
      · intro ss wx n hJ hF
        obtain ⟨k3, k4, k5, k6, kcv⟩ := HJC.o n wx hJ
        clear hF
        unfold flowAt
        go_simp
        exact ⟨trivial, rfl, hJ⟩
      intro K hK
      go_simp
      refine hK _ ?_
      clear hK K
      apply chain_const
      · intro _; kernel_rfl
      · rfl
      · intro ss wx n hJ hF
        obtain ⟨k3, k4, k5, k6, kcv⟩ := HJC.o n wx hJ
        clear hF
        unfold flowAt
        go_simp
        exact ⟨trivial, rfl, hJ⟩
      intro K hK
      go_simp
      refine hK _ ?_
      clear hK K
      apply chain_const
      · intro _; kernel_rfl
      · rfl
      · intro ss wx n hJ hF
        obtain ⟨k3, k4, k5, k6, kcv⟩ := HJC.o n wx hJ
        clear hF
        unfold flowAt
        go_simp
        exact ⟨trivial, rfl, hJ⟩
      intro K hK
      go_simp
      refine hK _ ?_
      clear hK K
      apply chain_const
      · intro _; kernel_rfl
      · rfl
      · intro ss wx n hJ hF
        obtain ⟨k3, k4, k5, k6, kcv⟩ := HJC.o n wx hJ
        clear hF
        unfold flowAt
        go_simp
        exact ⟨trivial, rfl, hJ⟩
      intro K hK
      go_simp
      refine hK _ ?_
      clear hK K
      apply chain_step 2 (.int .i64 (s.append y.file y.data).1)
      · intro _; kernel_rfl
      · rfl
      · intro ss wx hJ hF
        have h9 := hJ
        obtain ⟨k3, k4, k5, k6, kcv⟩ := HJC.o 2 wx hJ
        have HH := Sd.mk h9
        clear hF hJ h9
        unfold flowAt
        go_simp
        simp only [flowUpon]
        go_at_call 86
        refine (hr_append HH.o inv.o hN y.file y.data (by omega)).mono ?_
        rintro e w' ⟨rfl, h⟩
        exact ⟨_, rfl, trivial, rfl, h⟩
      intro K hK
      go_simp
      refine hK _ ?_
      clear hK K
      apply chain_const
      · intro _; kernel_rfl
      · rfl
      · intro ss wx n hJ hF
        obtain ⟨k3, k4, k5, k6, kcv⟩ := HJC.o n wx hJ
        clear hF
        unfold flowAt
        go_simp
        exact ⟨trivial, rfl, hJ⟩
      intro K hK
      go_simp
      refine hK _ ?_
      clear hK K
      apply chain_const
      · intro _; kernel_rfl
      · rfl
      · intro ss wx n hJ hF
        obtain ⟨k3, k4, k5, k6, kcv⟩ := HJC.o n wx hJ
        clear hF
        unfold flowAt
        go_simp
        exact ⟨trivial, rfl, hJ⟩
      intro K hK
      go_simp
      refine hK _ ?_
      clear hK K
      apply chain_nil
      intro s2 w6 hJ6 hF
      have H6 : Sd (HalfAt w0 X2 b rb (s.append y.file y.data).2 (s.append y.file y.data).2 w6) := ⟨hJ6⟩
      clear hF hJ6 HJC
      go_simp
      go_wp2_with fail
      go_meet
      exact ⟨by simp, by rw [HFA.o]; exact H6⟩
    have hq4 : (y.kind == 4) = false := by simp [h4]
    by_cases h5 : y.kind = 5
    · skip
      have hq : (y.kind == 5) = true := by simp [h5]
      have HFA : Sd (s.fileAct y = (s.cutAt y.file y.n).2) := ⟨by unfold FSt.fileAct; simp [h5]⟩
      clear h3 h4 h5
      have HJC : Sd (∀ n wx, fiJ w0 X2 b rb s (s.cutAt y.file y.n).2 n wx → wx.cell? ⟨ga, 3, none⟩ = some (.int .i64 y.file) ∧ wx.cell? ⟨ga, 4, none⟩ = some (.int .i64 y.at_) ∧ wx.cell? ⟨ga, 5, none⟩ = some (.int .i64 y.n) ∧ wx.cell? ⟨ga, 6, none⟩ = some (.slice y.Ad y.data.length y.cd) ∧ (convert 38 9 (.slice y.Ad y.data.length y.cd)).run Tryz.prog wx = .ok (.string (sOf y.data)) wx) := ⟨fun n wx hJ => by
        have hb := hJ.blk HXA.o
        rw [HOA.o] at hb
        exact ⟨blk_cell hb 3, blk_cell hb 4, blk_cell hb 5, blk_cell hb 6, conv_bts (HYD.o.keeps hJ.keeps (fun _ _ _ _ _ f => f))⟩⟩
      go_wp2_with fail
      refine wp_region_chain (J := fiJ w0 X2 b rb s (s.cutAt y.file y.n).2) (R := fun _ _ => True) [5, 6, 12] (fun _ => trivial) (by kernel_rfl) (by kernel_rfl) (by kernel_rfl) (H2.o.kept (Keeps.refl NoB _).drew) ?_
      apply chain_const
      · intro _; kernel_rfl
      · rfl
      · intro ss wx n hJ hF
        obtain ⟨k3, k4, k5, k6, kcv⟩ := HJC.o n wx hJ
        clear hF
        unfold flowAt
        go_simp
        exact ⟨trivial, rfl, hJ⟩
      intro K hK
      go_simp
      refine hK _ ?_
      clear hK K
      apply chain_const
      · intro _; kernel_rfl
      · rfl
      · intro ss wx n hJ hF
        obtain ⟨k3, k4, k5, k6, kcv⟩ := HJC.o n wx hJ
        clear hF
        unfold flowAt
        go_simp
        exact ⟨trivial, rfl, hJ⟩
      intro K hK
      go_simp
      refine hK _ ?_
      clear hK K
      apply chain_const
      · intro _; kernel_rfl
      · rfl
      · intro ss wx n hJ hF
        obtain ⟨k3, k4, k5, k6, kcv⟩ := HJC.o n wx hJ
        clear hF
        unfold flowAt
        go_simp
        exact ⟨trivial, rfl, hJ⟩
      intro K hK
      go_simp
      refine hK _ ?_
      clear hK K
      apply chain_const
      · intro _; kernel_rfl
      · rfl
      · intro ss wx n hJ hF
        obtain ⟨k3, k4, k5, k6, kcv⟩ := HJC.o n wx hJ
        clear hF
        unfold flowAt
        go_simp
        exact ⟨trivial, rfl, hJ⟩
      intro K hK
      go_simp
      refine hK _ ?_
      clear hK K
      apply chain_const
      · intro _; kernel_rfl
      · rfl
      · intro ss wx n hJ hF
        obtain ⟨k3, k4, k5, k6, kcv⟩ := HJC.o n wx hJ
        clear hF
        unfold flowAt
        go_simp
        exact ⟨trivial, rfl, hJ⟩
      intro K hK
      go_simp
      refine hK _ ?_
      clear hK K
      apply chain_step 0 (.int .i64 (s.cutAt y.file y.n).1)
      · intro _; kernel_rfl
      · rfl
      · intro ss wx hJ hF
        have h9 := hJ
        obtain ⟨k3, k4, k5, k6, kcv⟩ := HJC.o 0 wx hJ
        have HH := Sd.mk h9
        clear hF hJ h9
        unfold flowAt
        go_simp
        simp only [flowUpon]
        go_at_call 87
        refine (ha_cut HH.o inv.o hN y.file y.n GY.o.kn).mono ?_
        rintro e w' ⟨rfl, h⟩
        exact ⟨_, rfl, trivial, rfl, h⟩
      intro K hK
      go_simp
      refine hK _ ?_
      clear hK K
      apply chain_step 1 (.int .i64 (s.cutAt y.file y.n).1)
      · intro _; kernel_rfl
      · rfl
      · intro ss wx hJ hF
        have HJ := Sd.mk hJ
        clear hF hJ
        unfold flowAt
        go_simp
        simp only [flowUpon]
        go_at_call 10
        refine (num_law2 _ _).mono ?_
        rintro e w' ⟨rfl, rfl⟩
        exact ⟨_, rfl, trivial, rfl, HJ.o⟩
      intro K hK
      go_simp
      refine hK _ ?_
      clear hK K
      apply chain_const
      · intro _; kernel_rfl
      · rfl
      · intro ss wx n hJ hF
        obtain ⟨k3, k4, k5, k6, kcv⟩ := HJC.o n wx hJ
        clear hF
        unfold flowAt
        go_simp
        exact ⟨trivial, rfl, hJ⟩
      intro K hK
      go_simp
      refine hK _ ?_
      clear hK K
      apply chain_const
      · intro _; kernel_rfl
      · rfl
      · intro ss wx n hJ hF
        obtain ⟨k3, k4, k5, k6, kcv⟩ := HJC.o n wx hJ
        clear hF
        unfold flowAt
        go_simp
        exact ⟨trivial, rfl, hJ⟩
      intro K hK
      go_simp
      refine hK _ ?_
      clear hK K
      apply chain_const
      · intro _; kernel_rfl
      · rfl
      · intro ss wx n hJ hF
        obtain ⟨k3, k4, k5, k6, kcv⟩ := HJC.o n wx hJ
        clear hF
        unfold flowAt
        go_simp
        exact ⟨trivial, rfl, hJ⟩
      intro K hK
      go_simp
      refine hK _ ?_
      clear hK K
      apply chain_const
      · intro _; kernel_rfl
      · rfl
      · intro ss wx n hJ hF
        obtain ⟨k3, k4, k5, k6, kcv⟩ := HJC.o n wx hJ
        clear hF
        unfold flowAt
        go_simp
        exact ⟨trivial, rfl, hJ⟩
      intro K hK
      go_simp
      refine hK _ ?_
      clear hK K
      apply chain_const
      · intro _; kernel_rfl
      · rfl
      · intro ss wx n hJ hF
        obtain ⟨k3, k4, k5, k6, kcv⟩ := HJC.o n wx hJ
        clear hF
        unfold flowAt
        go_simp
        exact ⟨trivial, rfl, hJ⟩
      intro K hK
      go_simp
      refine hK _ ?_
      clear hK K
      apply chain_step 2 (.int .i64 (s.cutAt y.file y.n).1)
      · intro _; kernel_rfl
      · rfl
      · intro ss wx hJ hF
        have h9 := hJ
        obtain ⟨k3, k4, k5, k6, kcv⟩ := HJC.o 2 wx hJ
        have HH := Sd.mk h9
        clear hF hJ h9
        unfold flowAt
        go_simp
        simp only [flowUpon]
        go_at_call 88
        refine (hr_cut HH.o inv.o hN y.file y.n GY.o.kn).mono ?_
        rintro e w' ⟨rfl, h⟩
        exact ⟨_, rfl, trivial, rfl, h⟩
      intro K hK
      go_simp
      refine hK _ ?_
      clear hK K
      apply chain_const
      · intro _; kernel_rfl
      · rfl
      · intro ss wx n hJ hF
        obtain ⟨k3, k4, k5, k6, kcv⟩ := HJC.o n wx hJ
        clear hF
        unfold flowAt
        go_simp
        exact ⟨trivial, rfl, hJ⟩
      intro K hK
      go_simp
      refine hK _ ?_
      clear hK K
      apply chain_const
      · intro _; kernel_rfl
      · rfl
      · intro ss wx n hJ hF
        obtain ⟨k3, k4, k5, k6, kcv⟩ := HJC.o n wx hJ
        clear hF
        unfold flowAt
        go_simp
        exact ⟨trivial, rfl, hJ⟩
      intro K hK
      go_simp
      refine hK _ ?_
      clear hK K
      apply chain_nil
      intro s2 w6 hJ6 hF
      have H6 : Sd (HalfAt w0 X2 b rb (s.cutAt y.file y.n).2 (s.cutAt y.file y.n).2 w6) := ⟨hJ6⟩
      clear hF hJ6 HJC
      go_simp
      go_wp2_with fail
      go_meet
      exact ⟨by simp, by rw [HFA.o]; exact H6⟩
    have hq5 : (y.kind == 5) = false := by simp [h5]
    by_cases h6 : y.kind = 6
    · have hq6 : (y.kind == 6) = true := by simp [h6]
      have HFA : Sd (s.fileAct y = s) := ⟨by unfold FSt.fileAct; simp [h6]⟩
      have hb2 := H2.o.blk HXA.o
      rw [HOA.o] at hb2
      have d3 := blk_cell hb2 3
      have d4 := blk_cell hb2 4
      have d5 := blk_cell hb2 5
      clear hb2 h3 h4 h5 h6 HPB
      go_upto_region 12 with (go_at_call 9; refine (ha_read H2.o inv.o hN y.file y.at_ y.n GY.o.ka GY.o.kn).mono ?_; rintro e w3 ⟨A3, c3, rfl, ho, hf, hk⟩; obtain ⟨X3, h3, hp3, hb3⟩ := PRow.make H2.o ho rfl hk hf; have H3 := Sd.mk h3; have HP3 := Sd.mk hp3; have HB3 := Sd.mk hb3; clear ho hf hk h3 hp3 hb3)
      have hb3 := H3.o.blk (HP3.o.1 _ _ HXA.o)
      rw [HOA.o] at hb3
      clear d0 d3 d4 d5
      have d3 := blk_cell hb3 3
      have d4 := blk_cell hb3 4
      have d5 := blk_cell hb3 5
      clear hb3
      go_upto_region 13 with (go_at_call 63; refine (hr_read H3.o inv.o hN y.file y.at_ y.n GY.o.ka GY.o.kn).mono ?_; rintro e w4 ⟨rfl, hk⟩; have H4 := Sd.mk (H3.o.kept hk); clear hk)
      generalize (s.read y.file y.at_ y.n).2 = er at *
      generalize (s.read y.file y.at_ y.n).1 = xr at *
      have HCV : (convert 38 9 (.slice A3 xr.length c3)).run Tryz.prog w4 = .ok (.string (sOf xr)) w4 := conv_bts (HB3.o _ _ _ H4.o)
      have hxl : xr.length ≤ 9223372036854775807 := by have := (HB3.o _ _ _ H4.o).rd; unfold maxLen at this; omega
      clear d3 d4 d5 H3 HB3
      go_upto_region 14 with (go_at_call 10; refine (num_law2 _ _).mono ?_; rintro e w' ⟨rfl, rfl⟩)
      clear HCV
      go_wp2_with fail
      go_loopg [13] xr.length (fun gk i wr => ∃ (k : Nat) (X4 : Nat → Option Obj), gk + k = xr.length ∧ i = .int .i64 k ∧ Sd (HalfAt w0 X4 b rb s s wr) ∧ Sd (PRow w0 X2 X4 A3 xr.length))
      case atStart => exact ⟨0, X3, by omega, rfl, H4, HP3⟩
      case round =>
        obtain ⟨k, X4, hk, rfl, HH, HPP⟩ := hrel
        by_cases hlt : k < xr.length
        · have hq7 : (k : Int) < (xr.length : Int) := by omega
          obtain ⟨gx, vx, rfl, hcx, hfx, hst⟩ := PRow.turn HH.o HPP.o k hlt
          have HST := Sd.mk hst
          clear hst
          go_wp2_with fail
          go_roundg (gk - 1)
          case measure => omega
          case rel =>
            obtain ⟨X5, h5, hp5⟩ := HST.o (bits .xor .u8 vx 85)
            exact ⟨k + 1, X5, by omega, by go_num, ⟨h5⟩, ⟨hp5⟩⟩
        · have hq7 : ¬ (k : Int) < (xr.length : Int) := by omega
          go_wp2_with fail
          go_meet
          exact ⟨rfl, ⟨by rw [HFA.o]; exact HH.o.less HPP.o.1⟩⟩
    have hq6 : (y.kind == 6) = false := by simp [h6]
    by_cases h7 : y.kind = 7
    · skip
      have hq : (y.kind == 7) = true := by simp [h7]
      have HFA : Sd (s.fileAct y = (s.sync y.file).2) := ⟨by unfold FSt.fileAct; simp [h7]⟩
      clear h3 h4 h5 h6 h7
      have HJC : Sd (∀ n wx, fiJ w0 X2 b rb s (s.sync y.file).2 n wx → wx.cell? ⟨ga, 3, none⟩ = some (.int .i64 y.file) ∧ wx.cell? ⟨ga, 4, none⟩ = some (.int .i64 y.at_) ∧ wx.cell? ⟨ga, 5, none⟩ = some (.int .i64 y.n) ∧ wx.cell? ⟨ga, 6, none⟩ = some (.slice y.Ad y.data.length y.cd) ∧ (convert 38 9 (.slice y.Ad y.data.length y.cd)).run Tryz.prog wx = .ok (.string (sOf y.data)) wx) := ⟨fun n wx hJ => by
        have hb := hJ.blk HXA.o
        rw [HOA.o] at hb
        exact ⟨blk_cell hb 3, blk_cell hb 4, blk_cell hb 5, blk_cell hb 6, conv_bts (HYD.o.keeps hJ.keeps (fun _ _ _ _ _ f => f))⟩⟩
      go_wp2_with fail
      refine wp_region_chain (J := fiJ w0 X2 b rb s (s.sync y.file).2) (R := fun _ _ => True) [3, 4, 8] (fun _ => trivial) (by kernel_rfl) (by kernel_rfl) (by kernel_rfl) (H2.o.kept (Keeps.refl NoB _).drew) ?_
      apply chain_const
      · intro _; kernel_rfl
      · rfl
      · intro ss wx n hJ hF
        obtain ⟨k3, k4, k5, k6, kcv⟩ := HJC.o n wx hJ
        clear hF
        unfold flowAt
        go_simp
        exact ⟨trivial, rfl, hJ⟩
      intro K hK
      go_simp
      refine hK _ ?_
      clear hK K
      apply chain_const
      · intro _; kernel_rfl
      · rfl
      · intro ss wx n hJ hF
        obtain ⟨k3, k4, k5, k6, kcv⟩ := HJC.o n wx hJ
        clear hF
        unfold flowAt
        go_simp
        exact ⟨trivial, rfl, hJ⟩
      intro K hK
      go_simp
      refine hK _ ?_
      clear hK K
      apply chain_const
      · intro _; kernel_rfl
      · rfl
      · intro ss wx n hJ hF
        obtain ⟨k3, k4, k5, k6, kcv⟩ := HJC.o n wx hJ
        clear hF
        unfold flowAt
        go_simp
        exact ⟨trivial, rfl, hJ⟩
      intro K hK
      go_simp
      refine hK _ ?_
      clear hK K
      apply chain_step 0 (.int .i64 (s.sync y.file).1)
      · intro _; kernel_rfl
      · rfl
      · intro ss wx hJ hF
        have h9 := hJ
        obtain ⟨k3, k4, k5, k6, kcv⟩ := HJC.o 0 wx hJ
        have HH := Sd.mk h9
        clear hF hJ h9
        unfold flowAt
        go_simp
        simp only [flowUpon]
        go_at_call 25
        refine (ha_sync HH.o inv.o hN y.file).mono ?_
        rintro e w' ⟨rfl, h⟩
        exact ⟨_, rfl, trivial, rfl, h⟩
      intro K hK
      go_simp
      refine hK _ ?_
      clear hK K
      apply chain_step 1 (.int .i64 (s.sync y.file).1)
      · intro _; kernel_rfl
      · rfl
      · intro ss wx hJ hF
        have HJ := Sd.mk hJ
        clear hF hJ
        unfold flowAt
        go_simp
        simp only [flowUpon]
        go_at_call 10
        refine (num_law2 _ _).mono ?_
        rintro e w' ⟨rfl, rfl⟩
        exact ⟨_, rfl, trivial, rfl, HJ.o⟩
      intro K hK
      go_simp
      refine hK _ ?_
      clear hK K
      apply chain_const
      · intro _; kernel_rfl
      · rfl
      · intro ss wx n hJ hF
        obtain ⟨k3, k4, k5, k6, kcv⟩ := HJC.o n wx hJ
        clear hF
        unfold flowAt
        go_simp
        exact ⟨trivial, rfl, hJ⟩
      intro K hK
      go_simp
      refine hK _ ?_
      clear hK K
      apply chain_const
      · intro _; kernel_rfl
      · rfl
      · intro ss wx n hJ hF
        obtain ⟨k3, k4, k5, k6, kcv⟩ := HJC.o n wx hJ
        clear hF
        unfold flowAt
        go_simp
        exact ⟨trivial, rfl, hJ⟩
      intro K hK
      go_simp
      refine hK _ ?_
      clear hK K
      apply chain_const
      · intro _; kernel_rfl
      · rfl
      · intro ss wx n hJ hF
        obtain ⟨k3, k4, k5, k6, kcv⟩ := HJC.o n wx hJ
        clear hF
        unfold flowAt
        go_simp
        exact ⟨trivial, rfl, hJ⟩
      intro K hK
      go_simp
      refine hK _ ?_
      clear hK K
      apply chain_step 2 (.int .i64 (s.sync y.file).1)
      · intro _; kernel_rfl
      · rfl
      · intro ss wx hJ hF
        have h9 := hJ
        obtain ⟨k3, k4, k5, k6, kcv⟩ := HJC.o 2 wx hJ
        have HH := Sd.mk h9
        clear hF hJ h9
        unfold flowAt
        go_simp
        simp only [flowUpon]
        go_at_call 89
        refine (hr_sync HH.o inv.o hN y.file).mono ?_
        rintro e w' ⟨rfl, h⟩
        exact ⟨_, rfl, trivial, rfl, h⟩
      intro K hK
      go_simp
      refine hK _ ?_
      clear hK K
      apply chain_const
      · intro _; kernel_rfl
      · rfl
      · intro ss wx n hJ hF
        obtain ⟨k3, k4, k5, k6, kcv⟩ := HJC.o n wx hJ
        clear hF
        unfold flowAt
        go_simp
        exact ⟨trivial, rfl, hJ⟩
      intro K hK
      go_simp
      refine hK _ ?_
      clear hK K
      apply chain_const
      · intro _; kernel_rfl
      · rfl
      · intro ss wx n hJ hF
        obtain ⟨k3, k4, k5, k6, kcv⟩ := HJC.o n wx hJ
        clear hF
        unfold flowAt
        go_simp
        exact ⟨trivial, rfl, hJ⟩
      intro K hK
      go_simp
      refine hK _ ?_
      clear hK K
      apply chain_nil
      intro s2 w6 hJ6 hF
      have H6 : Sd (HalfAt w0 X2 b rb (s.sync y.file).2 (s.sync y.file).2 w6) := ⟨hJ6⟩
      clear hF hJ6 HJC
      go_simp
      go_wp2_with fail
      go_meet
      exact ⟨by simp, by rw [HFA.o]; exact H6⟩
    have hq7 : (y.kind == 7) = false := by simp [h7]
    have HFA : Sd (s.fileAct y = s) := ⟨by unfold FSt.fileAct; simp [h3, h4, h5, h7]⟩
    clear h3 h4 h5 h6 h7
    go_wp2_with fail
    go_meet
    exact ⟨rfl, by rw [HFA.o]; exact H2⟩
  case rest =>
  obtain ⟨rfl, H3⟩ := hcut
  clear H2 HPB d0 HYD HOA
  go_wp2_with fail
  go_loopg [14] y.data.length (fun gk i wr => ∃ (k : Nat) (X4 : Nat → Option Obj), gk + k = y.data.length ∧ i = .int .i64 k ∧ Sd (HalfAt w0 X4 b rb (s.fileAct y) (s.fileAct y) wr) ∧ Sd (PRow w0 X1 X4 Ap y.data.length))
  case atStart => exact ⟨0, X2, by omega, rfl, H3, HP⟩
  case round =>
    obtain ⟨k, X4, hk, rfl, HH, HPP⟩ := hrel
    by_cases hlt : k < y.data.length
    · have hq7 : (k : Int) < (y.data.length : Int) := by omega
      obtain ⟨gx, vx, rfl, hcx, hfx, hst⟩ := PRow.turn HH.o HPP.o k hlt
      have HST := Sd.mk hst
      clear hst
      go_wp2_with fail
      go_roundg (gk - 1)
      case measure => omega
      case rel =>
        obtain ⟨X5, h5, hp5⟩ := HST.o (bits .xor .u8 vx 85)
        exact ⟨k + 1, X5, by omega, by go_num, ⟨h5⟩, ⟨hp5⟩⟩
    · have hq7 : ¬ (k : Int) < (y.data.length : Int) := by omega
      go_wp2_with fail
      go_ret
      exact ⟨rfl, HH.o.less (HPP.o.trans HX1.o)⟩
end Go.Proofs.YtlhhcoijkjcneaaGreat
