/- The law's act: on both. -/
import Derived.Test.YtlhhcoijkjcneaaGreatSimFi
namespace Go.Proofs.YtlhhcoijkjcneaaGreat
open Go.RowKit Go.Maps Go.Lib

/-- The worlds of a statement that copies torn pieces and crashes. -/
def crJ (W0 W2 : World) (P : World → Prop) : Nat → World → Prop
  | 0, w => w = W0
  | 1, w => w = W0.alloc (.cells #[] 54)
  | 2, w => w = W2
  | 3, w => w = W2
  | _, w => P w
theorem FSt.act_file (s : FSt) (y : ActM) (h1 : y.kind ≠ 1) (h8 : y.kind ≠ 8) (h9 : y.kind ≠ 9) (h10 : y.kind ≠ 10) (h11 : y.kind ≠ 11) (h12 : y.kind ≠ 12) (h13 : y.kind ≠ 13) : s.act y = s.fileAct y := by
  unfold FSt.act FSt.fileAct
  simp [h1, h8, h9, h10, h11, h12, h13]
set_option maxHeartbeats 8000000 in
set_option maxRecDepth 100000 in
theorem act_any (w0 w : World) (X : Nat → Option Obj) (b rb N : Nat) (s : FSt) (h : BothAt w0 X b rb s w) (hinv : Inv N s) (hN : N ≤ 900000000) (y : ActM) (hy : y.Good w0) (hdl : y.data.length ≤ 20000) (hwl : y.L.length ≤ 20000) (h14 : y.kind ≠ 14) :
    Calls Tryz.prog 21 #[.pointer (some ⟨b, 0, none⟩), .pointer (some ⟨rb, 0, none⟩), .agg #[.int .i64 y.kind, .string y.a, .string y.b, .int .i64 y.file, .int .i64 y.at_, .int .i64 y.n, .slice y.Ad y.data.length y.cd, .int .i64 y.dir, .slice y.At y.L.length y.ct]] w fun e w' => e = .returned (.tuple #[.pointer (some ⟨b, 0, none⟩), .bool true]) ∧ BothAt w0 X b rb (s.act y) w' := by
  obtain ⟨oa, hoa⟩ : ∃ oa : Obj, oa = (.cells #[.int .i64 y.kind, .string y.a, .string y.b, .int .i64 y.file, .int .i64 y.at_, .int .i64 y.n, .slice y.Ad y.data.length y.cd, .int .i64 y.dir, .slice y.At y.L.length y.ct] 64) := ⟨_, rfl⟩
  have HOA := Sd.mk hoa
  have inv := Sd.mk hinv
  have GY := Sd.mk hy
  have hla : y.a.size ≤ 9223372036854775807 := by have := hy.la; omega
  have hlb : y.b.size ≤ 9223372036854775807 := by have := hy.lb; omega
  have H : Sd (HalfAt w0 X b rb s s w) := ⟨h⟩
  clear h hinv hy hoa
  go_enter Tryz.func21, Tryz.ntmps21
  go_upto_region 1 with fail
  rw [← HOA.o]
  have hXg : X w.heap.size = none := by
    cases hX : X w.heap.size with
    | none => rfl
    | some o =>
      have := (Array.getElem?_eq_some_iff.1 (H.o.blk hX)).1
      omega
  obtain ⟨w1, hw1⟩ : ∃ w1, w1 = w.alloc oa := ⟨_, rfl⟩
  have H1 : Sd (HalfAt w0 (addB X w.heap.size oa) b rb s s w1) := ⟨by rw [hw1]; exact HalfAt.more H.o (Nat.le_refl _) ((Keeps.refl NoB w).alloc oa) (by have := heap_alloc_new w oa; exact this)⟩
  have HX1 : Sd (∀ i o, X i = some o → (addB X w.heap.size oa) i = some o) := ⟨fun i o hi => by
    unfold addB
    rw [if_neg (fun e => by rw [e, hXg] at hi; cases hi)]
    exact hi⟩
  have HXA1 : Sd ((addB X w.heap.size oa) w.heap.size = some oa) := ⟨if_pos rfl⟩
  rw [← hw1]
  generalize addB X w.heap.size oa = X1 at *
  generalize w.heap.size = ga at *
  have hb1 := H1.o.blk HXA1.o
  rw [HOA.o] at hb1
  have d0 := blk_cell hb1 0
  have d1 := blk_cell hb1 1
  have d2 := blk_cell hb1 2
  have d3 := blk_cell hb1 3
  have d4 := blk_cell hb1 4
  have d5 := blk_cell hb1 5
  have d6 := blk_cell hb1 6
  have d7 := blk_cell hb1 7
  have d8 := blk_cell hb1 8
  clear hw1 hXg H hb1
  go_upto_block 0 with fail
  by_cases hk : y.kind = 1
  · have hq : (y.kind == 1) = true := by simp [hk]
    have HFA : Sd (s.act y = (s.create y.a.data.toList).2.2) := ⟨by unfold FSt.act; simp [hk]⟩
    clear hk
    go_wp2_with (first | (go_at_call 23; refine (ha_create H1.o inv.o hN y.a hla).mono ?_; rintro e w3 ⟨rfl, h⟩; have H3 := Sd.mk h; clear h; have hb3 := H3.o.blk HXA1.o; rw [HOA.o] at hb3; have e1 := blk_cell hb3 1; have e5 := blk_cell hb3 5; clear hb3) | (go_at_call 44; refine (hr_create H3.o inv.o hN y.a hla).mono ?_; rintro e w4 ⟨rfl, h⟩; have H4 := Sd.mk h; clear h) | (go_at_call 10; refine (num_law2 _ _).mono ?_; rintro e w' ⟨rfl, rfl⟩))
    go_ret2
    exact ⟨by simp, by rw [HFA.o]; exact H4.o.less HX1.o⟩
  have hn1 := hk
  have hq1 : (y.kind == 1) = false := by simp [hk]
  clear hk
  by_cases hk : y.kind = 2
  · have hq : (y.kind == 2) = true := by simp [hk]
    have HFA : Sd (s.act y = s) := ⟨by unfold FSt.act; simp [hk]⟩
    clear hk
    go_wp2_with (first | (go_at_call 45; refine (ha_open H1.o y.a hla).mono ?_; rintro e w3 ⟨rfl, h⟩; have H3 := Sd.mk h; clear h; have hb3 := H3.o.blk HXA1.o; rw [HOA.o] at hb3; have e1 := blk_cell hb3 1; have e5 := blk_cell hb3 5; clear hb3) | (go_at_call 46; refine (hr_open H3.o inv.o y.a hla).mono ?_; rintro e w4 ⟨rfl, h⟩; have H4 := Sd.mk h; clear h) | (go_at_call 10; refine (num_law2 _ _).mono ?_; rintro e w' ⟨rfl, rfl⟩))
    go_ret2
    exact ⟨by simp, by rw [HFA.o]; exact H4.o.less HX1.o⟩
  have hn2 := hk
  have hq2 : (y.kind == 2) = false := by simp [hk]
  clear hk
  by_cases hk : y.kind = 8
  · have hq : (y.kind == 8) = true := by simp [hk]
    have HFA : Sd (s.act y = (s.rename y.a.data.toList y.b.data.toList).2) := ⟨by unfold FSt.act; simp [hk]⟩
    clear hk
    have HJC : Sd (∀ n wx, fiJ w0 X1 b rb s (s.rename y.a.data.toList y.b.data.toList).2 n wx → wx.cell? ⟨ga, 1, none⟩ = some (.string y.a) ∧ wx.cell? ⟨ga, 2, none⟩ = some (.string y.b) ∧ wx.cell? ⟨ga, 5, none⟩ = some (.int .i64 y.n)) := ⟨fun n wx hJ => by
      have hb := hJ.blk HXA1.o
      rw [HOA.o] at hb
      exact ⟨blk_cell hb 1, blk_cell hb 2, blk_cell hb 5⟩⟩
    go_wp2_with fail
    refine wp_region_chain (J := fiJ w0 X1 b rb s (s.rename y.a.data.toList y.b.data.toList).2) (R := fun _ _ => True) [6, 7, 13] (fun _ => trivial) (by kernel_rfl) (by kernel_rfl) (by kernel_rfl) (H1.o.kept (Keeps.refl NoB _).drew) ?_
    apply chain_const
    · intro _; kernel_rfl
    · rfl
    · intro ss wx n hJ hF
      obtain ⟨k1, k2, k5⟩ := HJC.o n wx hJ
      clear hF
      unfold flowAt
      go_simp
      exact ⟨trivial, rfl, hJ⟩
    intro K hK
    go_simp
    refine hK _ ?_
    clear hK K
    apply chain_const
    · intro _; kernel_rfl
    · rfl
    · intro ss wx n hJ hF
      obtain ⟨k1, k2, k5⟩ := HJC.o n wx hJ
      clear hF
      unfold flowAt
      go_simp
      exact ⟨trivial, rfl, hJ⟩
    intro K hK
    go_simp
    refine hK _ ?_
    clear hK K
    apply chain_const
    · intro _; kernel_rfl
    · rfl
    · intro ss wx n hJ hF
      obtain ⟨k1, k2, k5⟩ := HJC.o n wx hJ
      clear hF
      unfold flowAt
      go_simp
      exact ⟨trivial, rfl, hJ⟩
    intro K hK
    go_simp
    refine hK _ ?_
    clear hK K
    apply chain_const
    · intro _; kernel_rfl
    · rfl
    · intro ss wx n hJ hF
      obtain ⟨k1, k2, k5⟩ := HJC.o n wx hJ
      clear hF
      unfold flowAt
      go_simp
      exact ⟨trivial, rfl, hJ⟩
    intro K hK
    go_simp
    refine hK _ ?_
    clear hK K
    apply chain_const
    · intro _; kernel_rfl
    · rfl
    · intro ss wx n hJ hF
      obtain ⟨k1, k2, k5⟩ := HJC.o n wx hJ
      clear hF
      unfold flowAt
      go_simp
      exact ⟨trivial, rfl, hJ⟩
    intro K hK
    go_simp
    refine hK _ ?_
    clear hK K
    apply chain_const
    · intro _; kernel_rfl
    · rfl
    · intro ss wx n hJ hF
      obtain ⟨k1, k2, k5⟩ := HJC.o n wx hJ
      clear hF
      unfold flowAt
      go_simp
      exact ⟨trivial, rfl, hJ⟩
    intro K hK
    go_simp
    refine hK _ ?_
    clear hK K
    apply chain_step 0 (.int .i64 (s.rename y.a.data.toList y.b.data.toList).1)
    · intro _; kernel_rfl
    · rfl
    · intro ss wx hJ hF
      have h9 := hJ
      obtain ⟨k1, k2, k5⟩ := HJC.o 0 wx hJ
      have HH := Sd.mk h9
      clear hF hJ h9
      unfold flowAt
      go_simp
      simp only [flowUpon]
      go_at_call 47
      refine (ha_rename HH.o inv.o hN y.a y.b hla hlb).mono ?_
      rintro e w' ⟨rfl, h⟩
      exact ⟨_, rfl, trivial, rfl, h⟩
    intro K hK
    go_simp
    refine hK _ ?_
    clear hK K
    apply chain_step 1 (.int .i64 (s.rename y.a.data.toList y.b.data.toList).1)
    · intro _; kernel_rfl
    · rfl
    · intro ss wx hJ hF
      have HJ := Sd.mk hJ
      clear hF hJ
      unfold flowAt
      go_simp
      simp only [flowUpon]
      go_at_call 10
      refine (num_law2 _ _).mono ?_
      rintro e w' ⟨rfl, rfl⟩
      exact ⟨_, rfl, trivial, rfl, HJ.o⟩
    intro K hK
    go_simp
    refine hK _ ?_
    clear hK K
    apply chain_const
    · intro _; kernel_rfl
    · rfl
    · intro ss wx n hJ hF
      obtain ⟨k1, k2, k5⟩ := HJC.o n wx hJ
      clear hF
      unfold flowAt
      go_simp
      exact ⟨trivial, rfl, hJ⟩
    intro K hK
    go_simp
    refine hK _ ?_
    clear hK K
    apply chain_const
    · intro _; kernel_rfl
    · rfl
    · intro ss wx n hJ hF
      obtain ⟨k1, k2, k5⟩ := HJC.o n wx hJ
      clear hF
      unfold flowAt
      go_simp
      exact ⟨trivial, rfl, hJ⟩
    intro K hK
    go_simp
    refine hK _ ?_
    clear hK K
    apply chain_const
    · intro _; kernel_rfl
    · rfl
    · intro ss wx n hJ hF
      obtain ⟨k1, k2, k5⟩ := HJC.o n wx hJ
      clear hF
      unfold flowAt
      go_simp
      exact ⟨trivial, rfl, hJ⟩
    intro K hK
    go_simp
    refine hK _ ?_
    clear hK K
    apply chain_const
    · intro _; kernel_rfl
    · rfl
    · intro ss wx n hJ hF
      obtain ⟨k1, k2, k5⟩ := HJC.o n wx hJ
      clear hF
      unfold flowAt
      go_simp
      exact ⟨trivial, rfl, hJ⟩
    intro K hK
    go_simp
    refine hK _ ?_
    clear hK K
    apply chain_const
    · intro _; kernel_rfl
    · rfl
    · intro ss wx n hJ hF
      obtain ⟨k1, k2, k5⟩ := HJC.o n wx hJ
      clear hF
      unfold flowAt
      go_simp
      exact ⟨trivial, rfl, hJ⟩
    intro K hK
    go_simp
    refine hK _ ?_
    clear hK K
    apply chain_step 2 (.int .i64 (s.rename y.a.data.toList y.b.data.toList).1)
    · intro _; kernel_rfl
    · rfl
    · intro ss wx hJ hF
      have h9 := hJ
      obtain ⟨k1, k2, k5⟩ := HJC.o 2 wx hJ
      have HH := Sd.mk h9
      clear hF hJ h9
      unfold flowAt
      go_simp
      simp only [flowUpon]
      go_at_call 48
      refine (hr_rename HH.o inv.o hN y.a y.b hla hlb).mono ?_
      rintro e w' ⟨rfl, h⟩
      exact ⟨_, rfl, trivial, rfl, h⟩
    intro K hK
    go_simp
    refine hK _ ?_
    clear hK K
    apply chain_const
    · intro _; kernel_rfl
    · rfl
    · intro ss wx n hJ hF
      obtain ⟨k1, k2, k5⟩ := HJC.o n wx hJ
      clear hF
      unfold flowAt
      go_simp
      exact ⟨trivial, rfl, hJ⟩
    intro K hK
    go_simp
    refine hK _ ?_
    clear hK K
    apply chain_const
    · intro _; kernel_rfl
    · rfl
    · intro ss wx n hJ hF
      obtain ⟨k1, k2, k5⟩ := HJC.o n wx hJ
      clear hF
      unfold flowAt
      go_simp
      exact ⟨trivial, rfl, hJ⟩
    intro K hK
    go_simp
    refine hK _ ?_
    clear hK K
    apply chain_const
    · intro _; kernel_rfl
    · rfl
    · intro ss wx n hJ hF
      obtain ⟨k1, k2, k5⟩ := HJC.o n wx hJ
      clear hF
      unfold flowAt
      go_simp
      exact ⟨trivial, rfl, hJ⟩
    intro K hK
    go_simp
    refine hK _ ?_
    clear hK K
    apply chain_nil
    intro s2 w6 hJ6 hF
    have H6 : Sd (HalfAt w0 X1 b rb (s.rename y.a.data.toList y.b.data.toList).2 (s.rename y.a.data.toList y.b.data.toList).2 w6) := ⟨hJ6⟩
    clear hF hJ6 HJC
    go_simp
    go_wp2_with fail
    go_ret2
    exact ⟨by simp, by rw [HFA.o]; exact H6.o.less HX1.o⟩
  have hn8 := hk
  have hq8 : (y.kind == 8) = false := by simp [hk]
  clear hk
  by_cases hk : y.kind = 9
  · have hq : (y.kind == 9) = true := by simp [hk]
    have HFA : Sd (s.act y = (s.remove y.a.data.toList).2) := ⟨by unfold FSt.act; simp [hk]⟩
    clear hk
    have HJC : Sd (∀ n wx, fiJ w0 X1 b rb s (s.remove y.a.data.toList).2 n wx → wx.cell? ⟨ga, 1, none⟩ = some (.string y.a) ∧ wx.cell? ⟨ga, 2, none⟩ = some (.string y.b) ∧ wx.cell? ⟨ga, 5, none⟩ = some (.int .i64 y.n)) := ⟨fun n wx hJ => by
      have hb := hJ.blk HXA1.o
      rw [HOA.o] at hb
      exact ⟨blk_cell hb 1, blk_cell hb 2, blk_cell hb 5⟩⟩
    go_wp2_with fail
    refine wp_region_chain (J := fiJ w0 X1 b rb s (s.remove y.a.data.toList).2) (R := fun _ _ => True) [4, 5, 9] (fun _ => trivial) (by kernel_rfl) (by kernel_rfl) (by kernel_rfl) (H1.o.kept (Keeps.refl NoB _).drew) ?_
    apply chain_const
    · intro _; kernel_rfl
    · rfl
    · intro ss wx n hJ hF
      obtain ⟨k1, k2, k5⟩ := HJC.o n wx hJ
      clear hF
      unfold flowAt
      go_simp
      exact ⟨trivial, rfl, hJ⟩
    intro K hK
    go_simp
    refine hK _ ?_
    clear hK K
    apply chain_const
    · intro _; kernel_rfl
    · rfl
    · intro ss wx n hJ hF
      obtain ⟨k1, k2, k5⟩ := HJC.o n wx hJ
      clear hF
      unfold flowAt
      go_simp
      exact ⟨trivial, rfl, hJ⟩
    intro K hK
    go_simp
    refine hK _ ?_
    clear hK K
    apply chain_const
    · intro _; kernel_rfl
    · rfl
    · intro ss wx n hJ hF
      obtain ⟨k1, k2, k5⟩ := HJC.o n wx hJ
      clear hF
      unfold flowAt
      go_simp
      exact ⟨trivial, rfl, hJ⟩
    intro K hK
    go_simp
    refine hK _ ?_
    clear hK K
    apply chain_const
    · intro _; kernel_rfl
    · rfl
    · intro ss wx n hJ hF
      obtain ⟨k1, k2, k5⟩ := HJC.o n wx hJ
      clear hF
      unfold flowAt
      go_simp
      exact ⟨trivial, rfl, hJ⟩
    intro K hK
    go_simp
    refine hK _ ?_
    clear hK K
    apply chain_step 0 (.int .i64 (s.remove y.a.data.toList).1)
    · intro _; kernel_rfl
    · rfl
    · intro ss wx hJ hF
      have h9 := hJ
      obtain ⟨k1, k2, k5⟩ := HJC.o 0 wx hJ
      have HH := Sd.mk h9
      clear hF hJ h9
      unfold flowAt
      go_simp
      simp only [flowUpon]
      go_at_call 49
      refine (ha_remove HH.o inv.o hN y.a hla).mono ?_
      rintro e w' ⟨rfl, h⟩
      exact ⟨_, rfl, trivial, rfl, h⟩
    intro K hK
    go_simp
    refine hK _ ?_
    clear hK K
    apply chain_step 1 (.int .i64 (s.remove y.a.data.toList).1)
    · intro _; kernel_rfl
    · rfl
    · intro ss wx hJ hF
      have HJ := Sd.mk hJ
      clear hF hJ
      unfold flowAt
      go_simp
      simp only [flowUpon]
      go_at_call 10
      refine (num_law2 _ _).mono ?_
      rintro e w' ⟨rfl, rfl⟩
      exact ⟨_, rfl, trivial, rfl, HJ.o⟩
    intro K hK
    go_simp
    refine hK _ ?_
    clear hK K
    apply chain_const
    · intro _; kernel_rfl
    · rfl
    · intro ss wx n hJ hF
      obtain ⟨k1, k2, k5⟩ := HJC.o n wx hJ
      clear hF
      unfold flowAt
      go_simp
      exact ⟨trivial, rfl, hJ⟩
    intro K hK
    go_simp
    refine hK _ ?_
    clear hK K
    apply chain_const
    · intro _; kernel_rfl
    · rfl
    · intro ss wx n hJ hF
      obtain ⟨k1, k2, k5⟩ := HJC.o n wx hJ
      clear hF
      unfold flowAt
      go_simp
      exact ⟨trivial, rfl, hJ⟩
    intro K hK
    go_simp
    refine hK _ ?_
    clear hK K
    apply chain_const
    · intro _; kernel_rfl
    · rfl
    · intro ss wx n hJ hF
      obtain ⟨k1, k2, k5⟩ := HJC.o n wx hJ
      clear hF
      unfold flowAt
      go_simp
      exact ⟨trivial, rfl, hJ⟩
    intro K hK
    go_simp
    refine hK _ ?_
    clear hK K
    apply chain_step 2 (.int .i64 (s.remove y.a.data.toList).1)
    · intro _; kernel_rfl
    · rfl
    · intro ss wx hJ hF
      have h9 := hJ
      obtain ⟨k1, k2, k5⟩ := HJC.o 2 wx hJ
      have HH := Sd.mk h9
      clear hF hJ h9
      unfold flowAt
      go_simp
      simp only [flowUpon]
      go_at_call 50
      refine (hr_remove HH.o inv.o hN y.a hla).mono ?_
      rintro e w' ⟨rfl, h⟩
      exact ⟨_, rfl, trivial, rfl, h⟩
    intro K hK
    go_simp
    refine hK _ ?_
    clear hK K
    apply chain_const
    · intro _; kernel_rfl
    · rfl
    · intro ss wx n hJ hF
      obtain ⟨k1, k2, k5⟩ := HJC.o n wx hJ
      clear hF
      unfold flowAt
      go_simp
      exact ⟨trivial, rfl, hJ⟩
    intro K hK
    go_simp
    refine hK _ ?_
    clear hK K
    apply chain_const
    · intro _; kernel_rfl
    · rfl
    · intro ss wx n hJ hF
      obtain ⟨k1, k2, k5⟩ := HJC.o n wx hJ
      clear hF
      unfold flowAt
      go_simp
      exact ⟨trivial, rfl, hJ⟩
    intro K hK
    go_simp
    refine hK _ ?_
    clear hK K
    apply chain_const
    · intro _; kernel_rfl
    · rfl
    · intro ss wx n hJ hF
      obtain ⟨k1, k2, k5⟩ := HJC.o n wx hJ
      clear hF
      unfold flowAt
      go_simp
      exact ⟨trivial, rfl, hJ⟩
    intro K hK
    go_simp
    refine hK _ ?_
    clear hK K
    apply chain_nil
    intro s2 w6 hJ6 hF
    have H6 : Sd (HalfAt w0 X1 b rb (s.remove y.a.data.toList).2 (s.remove y.a.data.toList).2 w6) := ⟨hJ6⟩
    clear hF hJ6 HJC
    go_simp
    go_wp2_with fail
    go_ret2
    exact ⟨by simp, by rw [HFA.o]; exact H6.o.less HX1.o⟩
  have hn9 := hk
  have hq9 : (y.kind == 9) = false := by simp [hk]
  clear hk
  by_cases hk : y.kind = 10
  · have hq : (y.kind == 10) = true := by simp [hk]
    have HFA : Sd (s.act y = s.syncDir.2) := ⟨by unfold FSt.act; simp [hk]⟩
    clear hk
    go_wp2_with (first | (go_at_call 26; refine (ha_syncdir H1.o inv.o hN).mono ?_; rintro e w3 ⟨rfl, h⟩; have H3 := Sd.mk h; clear h; have hb3 := H3.o.blk HXA1.o; rw [HOA.o] at hb3; have e1 := blk_cell hb3 1; have e5 := blk_cell hb3 5; clear hb3) | (go_at_call 51; refine (hr_syncdir H3.o inv.o hN).mono ?_; rintro e w4 ⟨rfl, h⟩; have H4 := Sd.mk h; clear h) | (go_at_call 10; refine (num_law2 _ _).mono ?_; rintro e w' ⟨rfl, rfl⟩))
    go_ret2
    exact ⟨by simp, by rw [HFA.o]; exact H4.o.less HX1.o⟩
  have hn10 := hk
  have hq10 : (y.kind == 10) = false := by simp [hk]
  clear hk
  by_cases hk : y.kind = 11
  · have hq : (y.kind == 11) = true := by simp [hk]
    have HFA : Sd (s.act y = s.crash y.dir y.L) := ⟨by unfold FSt.act; simp [hk]⟩
    clear hk
    go_wp2_with fail
    obtain ⟨W0, hW0⟩ : ∃ W0, W0 = w1.drew := ⟨_, rfl⟩
    have HT0 : Sd (HalfAt w0 X1 b rb s s W0) := ⟨by rw [hW0]; exact H1.o.kept (Keeps.refl NoB w1).drew⟩
    obtain ⟨W2, A', c', hr, htc, hkc, hac⟩ := torn_copy W0 y.At y.ct y.L (GY.o.torn.kept HT0.o.keeps) (by omega)
    have HTC := Sd.mk htc
    have HKC := Sd.mk hkc
    have HAC := Sd.mk hac
    have HW0 := Sd.mk hW0
    have HJC : Sd (∀ n wx, crJ W0 W2 (fun w => HalfAt w0 X1 b rb (s.crash y.dir y.L) s w) n wx → wx.cell? ⟨ga, 7, none⟩ = some (.int .i64 y.dir) ∧ wx.cell? ⟨ga, 8, none⟩ = some (.slice y.At y.L.length y.ct)) := ⟨fun n wx hJ => by
      have hb : wx.heap[ga]? = some oa := by
        match n, hJ with
        | 0, hJ => exact (show wx = W0 from hJ) ▸ HT0.o.blk HXA1.o
        | 1, hJ => exact (show wx = W0.alloc (.cells #[] 54) from hJ) ▸ ((Keeps.refl NoB W0).alloc _).obj (HT0.o.blk HXA1.o) (fun f => f)
        | 2, hJ => exact (show wx = W2 from hJ) ▸ hkc.obj (HT0.o.blk HXA1.o) (fun f => f)
        | 3, hJ => exact (show wx = W2 from hJ) ▸ hkc.obj (HT0.o.blk HXA1.o) (fun f => f)
        | n + 4, hJ => exact HalfAt.blk (show HalfAt w0 X1 b rb (s.crash y.dir y.L) s wx from hJ) HXA1.o
      rw [HOA.o] at hb
      exact ⟨blk_cell hb 7, blk_cell hb 8⟩⟩
    clear htc hkc hac hW0
    refine wp_region_chain (J := crJ W0 W2 (fun w => HalfAt w0 X1 b rb (s.crash y.dir y.L) s w)) (R := fun _ _ => True) [4, 8, 9, 10] (fun _ => trivial) (by kernel_rfl) (by kernel_rfl) (by kernel_rfl) HW0.o.symm ?_
    apply chain_const
    · intro _; kernel_rfl
    · rfl
    · intro ss wx n hJ hF
      obtain ⟨k7, k8⟩ := HJC.o n wx hJ
      clear hF
      unfold flowAt
      go_simp
      exact ⟨trivial, rfl, hJ⟩
    intro K hK
    go_simp
    refine hK _ ?_
    clear hK K
    apply chain_const
    · intro _; kernel_rfl
    · rfl
    · intro ss wx n hJ hF
      obtain ⟨k7, k8⟩ := HJC.o n wx hJ
      clear hF
      unfold flowAt
      go_simp
      exact ⟨trivial, rfl, hJ⟩
    intro K hK
    go_simp
    refine hK _ ?_
    clear hK K
    apply chain_const
    · intro _; kernel_rfl
    · rfl
    · intro ss wx n hJ hF
      obtain ⟨k7, k8⟩ := HJC.o n wx hJ
      clear hF
      unfold flowAt
      go_simp
      exact ⟨trivial, rfl, hJ⟩
    intro K hK
    go_simp
    refine hK _ ?_
    clear hK K
    apply chain_const
    · intro _; kernel_rfl
    · rfl
    · intro ss wx n hJ hF
      obtain ⟨k7, k8⟩ := HJC.o n wx hJ
      clear hF
      unfold flowAt
      go_simp
      exact ⟨trivial, rfl, hJ⟩
    intro K hK
    go_simp
    refine hK _ ?_
    clear hK K
    apply chain_step 0 ((.slice (some ⟨W0.heap.size, 0, none⟩) 0 0))
    · intro _; kernel_rfl
    · rfl
    · intro ss wx hJ hF
      clear hF
      have hJ' : wx = W0 := hJ
      subst hJ'
      unfold flowAt
      go_simp
      exact ⟨trivial, rfl, rfl⟩
    intro K hK
    go_simp
    refine hK _ ?_
    clear hK K
    apply chain_const
    · intro _; kernel_rfl
    · rfl
    · intro ss wx n hJ hF
      obtain ⟨k7, k8⟩ := HJC.o n wx hJ
      clear hF
      unfold flowAt
      go_simp
      exact ⟨trivial, rfl, hJ⟩
    intro K hK
    go_simp
    refine hK _ ?_
    clear hK K
    apply chain_const
    · intro _; kernel_rfl
    · rfl
    · intro ss wx n hJ hF
      obtain ⟨k7, k8⟩ := HJC.o n wx hJ
      clear hF
      unfold flowAt
      go_simp
      exact ⟨trivial, rfl, hJ⟩
    intro K hK
    go_simp
    refine hK _ ?_
    clear hK K
    apply chain_const
    · intro _; kernel_rfl
    · rfl
    · intro ss wx n hJ hF
      obtain ⟨k7, k8⟩ := HJC.o n wx hJ
      clear hF
      unfold flowAt
      go_simp
      exact ⟨trivial, rfl, hJ⟩
    intro K hK
    go_simp
    refine hK _ ?_
    clear hK K
    apply chain_step 1 ((.slice A' y.L.length c'))
    · intro _; kernel_rfl
    · rfl
    · intro ss wx hJ hF
      clear hF
      have hJ' : wx = W0.alloc (.cells #[] 54) := hJ
      subst hJ'
      exact flowAt_append _ _ 23 rfl rfl rfl hr ⟨trivial, rfl, rfl⟩
    intro K hK
    go_simp
    refine hK _ ?_
    clear hK K
    apply chain_step 2 ((.agg #[.int .i64 y.dir, .slice A' y.L.length c']))
    · intro _; kernel_rfl
    · rfl
    · intro ss wx hJ hF
      clear hF
      unfold flowAt
      go_simp
      exact ⟨trivial, rfl, hJ⟩
    intro K hK
    go_simp
    refine hK _ ?_
    clear hK K
    apply chain_step 3 ((.tuple #[]))
    · intro _; kernel_rfl
    · rfl
    · intro ss wx hJ hF
      clear hF
      have hJ' : wx = W2 := hJ
      subst hJ'
      unfold flowAt
      go_simp
      simp only [flowUpon]
      go_at_call 8
      refine (ha_crash HT0.o inv.o hN HKC.o y.dir GY.o.kd A' c' y.L (by omega) HTC.o HAC.o GY.o.tb).mono ?_
      rintro e w' ⟨rfl, h⟩
      exact ⟨_, rfl, trivial, rfl, h⟩
    intro K hK
    go_simp
    refine hK _ ?_
    clear hK K
    apply chain_nil
    intro s2 w6 hJ6 hF
    have H6 : Sd (HalfAt w0 X1 b rb (s.crash y.dir y.L) s w6) := ⟨hJ6⟩
    clear hF hJ6 HJC hr HTC HAC HKC HT0
    go_simp
    have hb6 := H6.o.blk HXA1.o
    rw [HOA.o] at hb6
    have e7 := blk_cell hb6 7
    have e8 := blk_cell hb6 8
    clear hb6
    go_wp2_with (go_at_call 52; refine (hr_crash H6.o inv.o hN y.dir GY.o.kd y.At y.ct y.L (by omega) GY.o.torn GY.o.tb).mono ?_; rintro e w7 ⟨rfl, h⟩; have H7 := Sd.mk h; clear h)
    go_ret2
    exact ⟨rfl, by rw [HFA.o]; exact H7.o.less HX1.o⟩
  have hn11 := hk
  have hq11 : (y.kind == 11) = false := by simp [hk]
  clear hk
  by_cases hk : y.kind = 12
  · have hq : (y.kind == 12) = true := by simp [hk]
    have HFA : Sd (s.act y = s.arm y.n) := ⟨by unfold FSt.act; simp [hk]⟩
    clear hk
    go_wp2_with (first | (go_at_call 28; refine (ha_arm H1.o y.n).mono ?_; rintro e w3 ⟨rfl, h⟩; have H3 := Sd.mk h; clear h; have hb3 := H3.o.blk HXA1.o; rw [HOA.o] at hb3; have e1 := blk_cell hb3 1; have e5 := blk_cell hb3 5; clear hb3) | (go_at_call 53; refine (hr_arm H3.o y.n GY.o.kn).mono ?_; rintro e w4 ⟨rfl, h⟩; have H4 := Sd.mk h; clear h) | (go_at_call 10; refine (num_law2 _ _).mono ?_; rintro e w' ⟨rfl, rfl⟩))
    go_ret2
    exact ⟨by simp, by rw [HFA.o]; exact H4.o.less HX1.o⟩
  have hn12 := hk
  have hq12 : (y.kind == 12) = false := by simp [hk]
  clear hk
  by_cases hk : y.kind = 13
  · have hq : (y.kind == 13) = true := by simp [hk]
    have HFA : Sd (s.act y = (s.setCap y.n).2) := ⟨by unfold FSt.act; simp [hk]⟩
    clear hk
    have HJC : Sd (∀ n wx, fiJ w0 X1 b rb s (s.setCap y.n).2 n wx → wx.cell? ⟨ga, 1, none⟩ = some (.string y.a) ∧ wx.cell? ⟨ga, 2, none⟩ = some (.string y.b) ∧ wx.cell? ⟨ga, 5, none⟩ = some (.int .i64 y.n)) := ⟨fun n wx hJ => by
      have hb := hJ.blk HXA1.o
      rw [HOA.o] at hb
      exact ⟨blk_cell hb 1, blk_cell hb 2, blk_cell hb 5⟩⟩
    go_wp2_with fail
    refine wp_region_chain (J := fiJ w0 X1 b rb s (s.setCap y.n).2) (R := fun _ _ => True) [4, 5, 9] (fun _ => trivial) (by kernel_rfl) (by kernel_rfl) (by kernel_rfl) (H1.o.kept (Keeps.refl NoB _).drew) ?_
    apply chain_const
    · intro _; kernel_rfl
    · rfl
    · intro ss wx n hJ hF
      obtain ⟨k1, k2, k5⟩ := HJC.o n wx hJ
      clear hF
      unfold flowAt
      go_simp
      exact ⟨trivial, rfl, hJ⟩
    intro K hK
    go_simp
    refine hK _ ?_
    clear hK K
    apply chain_const
    · intro _; kernel_rfl
    · rfl
    · intro ss wx n hJ hF
      obtain ⟨k1, k2, k5⟩ := HJC.o n wx hJ
      clear hF
      unfold flowAt
      go_simp
      exact ⟨trivial, rfl, hJ⟩
    intro K hK
    go_simp
    refine hK _ ?_
    clear hK K
    apply chain_const
    · intro _; kernel_rfl
    · rfl
    · intro ss wx n hJ hF
      obtain ⟨k1, k2, k5⟩ := HJC.o n wx hJ
      clear hF
      unfold flowAt
      go_simp
      exact ⟨trivial, rfl, hJ⟩
    intro K hK
    go_simp
    refine hK _ ?_
    clear hK K
    apply chain_const
    · intro _; kernel_rfl
    · rfl
    · intro ss wx n hJ hF
      obtain ⟨k1, k2, k5⟩ := HJC.o n wx hJ
      clear hF
      unfold flowAt
      go_simp
      exact ⟨trivial, rfl, hJ⟩
    intro K hK
    go_simp
    refine hK _ ?_
    clear hK K
    apply chain_step 0 (.int .i64 (s.setCap y.n).1)
    · intro _; kernel_rfl
    · rfl
    · intro ss wx hJ hF
      have h9 := hJ
      obtain ⟨k1, k2, k5⟩ := HJC.o 0 wx hJ
      have HH := Sd.mk h9
      clear hF hJ h9
      unfold flowAt
      go_simp
      simp only [flowUpon]
      go_at_call 54
      refine (ha_setcap HH.o y.n).mono ?_
      rintro e w' ⟨rfl, h⟩
      exact ⟨_, rfl, trivial, rfl, h⟩
    intro K hK
    go_simp
    refine hK _ ?_
    clear hK K
    apply chain_step 1 (.int .i64 (s.setCap y.n).1)
    · intro _; kernel_rfl
    · rfl
    · intro ss wx hJ hF
      have HJ := Sd.mk hJ
      clear hF hJ
      unfold flowAt
      go_simp
      simp only [flowUpon]
      go_at_call 10
      refine (num_law2 _ _).mono ?_
      rintro e w' ⟨rfl, rfl⟩
      exact ⟨_, rfl, trivial, rfl, HJ.o⟩
    intro K hK
    go_simp
    refine hK _ ?_
    clear hK K
    apply chain_const
    · intro _; kernel_rfl
    · rfl
    · intro ss wx n hJ hF
      obtain ⟨k1, k2, k5⟩ := HJC.o n wx hJ
      clear hF
      unfold flowAt
      go_simp
      exact ⟨trivial, rfl, hJ⟩
    intro K hK
    go_simp
    refine hK _ ?_
    clear hK K
    apply chain_const
    · intro _; kernel_rfl
    · rfl
    · intro ss wx n hJ hF
      obtain ⟨k1, k2, k5⟩ := HJC.o n wx hJ
      clear hF
      unfold flowAt
      go_simp
      exact ⟨trivial, rfl, hJ⟩
    intro K hK
    go_simp
    refine hK _ ?_
    clear hK K
    apply chain_const
    · intro _; kernel_rfl
    · rfl
    · intro ss wx n hJ hF
      obtain ⟨k1, k2, k5⟩ := HJC.o n wx hJ
      clear hF
      unfold flowAt
      go_simp
      exact ⟨trivial, rfl, hJ⟩
    intro K hK
    go_simp
    refine hK _ ?_
    clear hK K
    apply chain_step 2 (.int .i64 (s.setCap y.n).1)
    · intro _; kernel_rfl
    · rfl
    · intro ss wx hJ hF
      have h9 := hJ
      obtain ⟨k1, k2, k5⟩ := HJC.o 2 wx hJ
      have HH := Sd.mk h9
      clear hF hJ h9
      unfold flowAt
      go_simp
      simp only [flowUpon]
      go_at_call 55
      refine (hr_setcap HH.o y.n).mono ?_
      rintro e w' ⟨rfl, h⟩
      exact ⟨_, rfl, trivial, rfl, h⟩
    intro K hK
    go_simp
    refine hK _ ?_
    clear hK K
    apply chain_const
    · intro _; kernel_rfl
    · rfl
    · intro ss wx n hJ hF
      obtain ⟨k1, k2, k5⟩ := HJC.o n wx hJ
      clear hF
      unfold flowAt
      go_simp
      exact ⟨trivial, rfl, hJ⟩
    intro K hK
    go_simp
    refine hK _ ?_
    clear hK K
    apply chain_const
    · intro _; kernel_rfl
    · rfl
    · intro ss wx n hJ hF
      obtain ⟨k1, k2, k5⟩ := HJC.o n wx hJ
      clear hF
      unfold flowAt
      go_simp
      exact ⟨trivial, rfl, hJ⟩
    intro K hK
    go_simp
    refine hK _ ?_
    clear hK K
    apply chain_const
    · intro _; kernel_rfl
    · rfl
    · intro ss wx n hJ hF
      obtain ⟨k1, k2, k5⟩ := HJC.o n wx hJ
      clear hF
      unfold flowAt
      go_simp
      exact ⟨trivial, rfl, hJ⟩
    intro K hK
    go_simp
    refine hK _ ?_
    clear hK K
    apply chain_nil
    intro s2 w6 hJ6 hF
    have H6 : Sd (HalfAt w0 X1 b rb (s.setCap y.n).2 (s.setCap y.n).2 w6) := ⟨hJ6⟩
    clear hF hJ6 HJC
    go_simp
    go_wp2_with fail
    go_ret2
    exact ⟨by simp, by rw [HFA.o]; exact H6.o.less HX1.o⟩
  have hn13 := hk
  have hq13 : (y.kind == 13) = false := by simp [hk]
  clear hk
  have hq14 : (y.kind == 14) = false := by simp [h14]
  have HFA : Sd (s.act y = s.fileAct y) := ⟨FSt.act_file s y hn1 hn8 hn9 hn10 hn11 hn12 hn13⟩
  clear hn1 hn2 hn8 hn9 hn10 hn11 hn12 hn13 h14
  go_wp2_with (go_at_call 56; refine (files_any w0 w1 X1 b rb N s H1.o inv.o hN y GY.o hdl).mono ?_; rintro e w5 ⟨rfl, h⟩; have H5 := Sd.mk h; clear h)
  go_ret2
  exact ⟨rfl, by rw [HFA.o]; exact H5.o.less HX1.o⟩
end Go.Proofs.YtlhhcoijkjcneaaGreat
