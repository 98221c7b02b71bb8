/- live of the simfs' statements. -/
import Derived.Deep.RegionHeld3
import Derived.Deep.RegionLaw
import Derived.Deep.DeepCutAuto
import Derived.Test.YtlhhcoijkjcneaaGreatSimY
namespace Go.Proofs.YtlhhcoijkjcneaaGreat
open Go.RowKit Go.Maps Go.Lib

theorem LiveAt.to_n {w0 w w' : World} {b : Nat} {s : FSt} (h : LiveAt w0 b s w) (k : Keeps NoB w w') : LiveAt w0 b s w' := h.kept k
section
variable {w0 w : World} {b : Nat}
theorem lc1 (h : LiveAt w0 b L0 w) : Calls Tryz.prog 23 #[.pointer (some ⟨b, 0, none⟩), .string ⟨#[97]⟩] w fun e w' => e = .returned (.tuple #[.int .i64 1, .int .i64 0]) ∧ LiveAt w0 b L1 w' ∧ KeepU w w' := by
  have := la_create h inv0 (by decide) ⟨#[97]⟩ (by decide)
  rw [show (⟨#[97]⟩ : ByteArray).data.toList = [97] from rfl, live_facts.1, live_facts.2.1] at this
  exact this
theorem lc2 (h : LiveAt w0 b L1 w) (A : Option Addr) (c : Nat) (hq : RowU w (.slice A 3 c) [97, 98, 99]) : Calls Tryz.prog 24 #[.pointer (some ⟨b, 0, none⟩), .int .i64 1, .slice A 3 c] w fun e w' => e = .returned (.int .i64 0) ∧ LiveAt w0 b L2 w' ∧ KeepU w w' := by
  have := la_append h inv1 (by decide) 1 A c [97, 98, 99] hq (by decide)
  rw [live_facts.2.2.1] at this
  exact this
theorem lc3 (h : LiveAt w0 b L2 w) : Calls Tryz.prog 25 #[.pointer (some ⟨b, 0, none⟩), .int .i64 1] w fun e w' => e = .returned (.int .i64 0) ∧ LiveAt w0 b L3 w' ∧ KeepU w w' := by
  have := la_sync h inv2 (by decide) 1
  rw [live_facts.2.2.2.1] at this
  exact this
theorem lc4 (h : LiveAt w0 b L3 w) : Calls Tryz.prog 26 #[.pointer (some ⟨b, 0, none⟩)] w fun e w' => e = .returned (.int .i64 0) ∧ LiveAt w0 b L4 w' ∧ KeepU w w' := by
  have := la_syncdir h inv3 (by decide)
  rw [live_facts.2.2.2.2.1] at this
  exact this
theorem lc5 (h : LiveAt w0 b L4 w) (A : Option Addr) (c : Nat) (hq : RowU w (.slice A 2 c) [100, 101]) : Calls Tryz.prog 24 #[.pointer (some ⟨b, 0, none⟩), .int .i64 1, .slice A 2 c] w fun e w' => e = .returned (.int .i64 0) ∧ LiveAt w0 b L5 w' ∧ KeepU w w' := by
  have := la_append h inv4 (by decide) 1 A c [100, 101] hq (by decide)
  rw [live_facts.2.2.2.2.2.1] at this
  exact this
theorem lc6 (h : LiveAt w0 b L5 w) (A : Option Addr) (c : Nat) (hq : RowU w (.slice A 1 c) [102]) : Calls Tryz.prog 24 #[.pointer (some ⟨b, 0, none⟩), .int .i64 1, .slice A 1 c] w fun e w' => e = .returned (.int .i64 0) ∧ LiveAt w0 b L6 w' ∧ KeepU w w' := by
  have := la_append h inv5 (by decide) 1 A c [102] hq (by decide)
  rw [live_facts.2.2.2.2.2.2.1] at this
  exact this
theorem lc7 (h : LiveAt w0 b L6 w) (A : Option Addr) (c : Nat) (hq : RowU w (.slice A 8 c) [0, 0, 0, 0, 0, 0, 0, 0]) : Calls Tryz.prog 24 #[.pointer (some ⟨b, 0, none⟩), .int .i64 1, .slice A 8 c] w fun e w' => e = .returned (.int .i64 5) ∧ LiveAt w0 b L7 w' ∧ KeepU w w' := by
  have := la_append h inv6 (by decide) 1 A c [0, 0, 0, 0, 0, 0, 0, 0] hq (by decide)
  rw [live_facts.2.2.2.2.2.2.2.1] at this
  exact this
theorem lc7w (h : LiveAt w0 b L7 w) : Calls Tryz.prog 27 #[.pointer (some ⟨b, 0, none⟩), .int .i64 1] w fun e w' => e = .returned (.int .i64 2) ∧ Keeps NoB w w' := by
  have := la_waiting h inv7 (by decide) 1
  rw [live_facts.2.2.2.2.2.2.2.2.1] at this
  exact this
theorem lc8 (h : LiveAt w0 b L7 w) (g : Nat) (hg : g = w.heap.size) : Calls Tryz.prog 8 #[.pointer (some ⟨b, 0, none⟩), .agg #[.int .i64 0, .slice (some ⟨g, 0, none⟩) 1 1]] (w.alloc (.cells #[.int .i64 1, .int .i64 0, .int .i64 1] 54)) fun e w' => e = .returned (.tuple #[]) ∧ LiveAt w0 b L8 w' := by
  subst hg
  have hk : Keeps NoB w (w.alloc (.cells #[.int .i64 1, .int .i64 0, .int .i64 1] 54)) := (Keeps.refl NoB w).alloc _
  have hb : (w.alloc (.cells #[.int .i64 1, .int .i64 0, .int .i64 1] 54)).heap[w.heap.size]? = some (.cells #[.int .i64 1, .int .i64 0, .int .i64 1] 54) := heap_alloc_new w _
  refine (la_crash (h.kept hk) inv7 (by decide) 0 (by decide) (by decide) _ 1 [⟨1, 0, 1⟩] (by decide) (fun i hi => ?_) (fun g o sp e _ => ?_) (by simp)).mono fun e w' h => ⟨h.1, h.2.1⟩
  · have hi0 : i = 0 := by simpa using hi
    subst hi0
    exact ⟨_, _, rfl, blk_cell hb 0, blk_cell hb 1, blk_cell hb 2⟩
  · cases e
    exact .inl (knd_cells hb)
theorem lc9 (h : LiveAt w0 b L8 w) : Calls Tryz.prog 9 #[.pointer (some ⟨b, 0, none⟩), .int .i64 1, .int .i64 0, .int .i64 99] w fun e w' => ∃ A' c', e = .returned (.tuple #[.slice A' 4 c', .int .i64 0]) ∧ Bts w' (.slice A' 4 c') [97, 98, 99, 100] ∧ RowU w' (.slice A' 4 c') [97, 98, 99, 100] ∧ LiveAt w0 b L8 w' := by
  have := la_read h inv8 (by decide) 1 0 99 (by decide) (by decide) (by decide) (by decide)
  rw [live_facts.2.2.2.2.2.2.2.2.2.1, live_facts.2.2.2.2.2.2.2.2.2.2.1] at this
  refine this.mono ?_
  rintro e w' ⟨A', c', he, ho, _, hk⟩
  exact ⟨A', c', he, (OwnV.rowU ho).1, OwnV.rowU ho, h.kept hk⟩
theorem lc10 (h : LiveAt w0 b L8 w) : Calls Tryz.prog 28 #[.pointer (some ⟨b, 0, none⟩), .int .i64 1] w fun e w' => e = .returned (.tuple #[]) ∧ LiveAt w0 b L9 w' ∧ KeepU w w' := la_arm h 1
theorem lc11 (h : LiveAt w0 b L9 w) (A : Option Addr) (c : Nat) (hq : RowU w (.slice A 1 c) [120]) : Calls Tryz.prog 24 #[.pointer (some ⟨b, 0, none⟩), .int .i64 1, .slice A 1 c] w fun e w' => e = .returned (.int .i64 0) ∧ LiveAt w0 b L10 w' ∧ KeepU w w' := by
  have := la_append h inv9 (by decide) 1 A c [120] hq (by decide)
  rw [live_facts.2.2.2.2.2.2.2.2.2.2.2.1] at this
  exact this
theorem lc12 (h : LiveAt w0 b L10 w) (A : Option Addr) (c : Nat) (hq : RowU w (.slice A 1 c) [121]) : Calls Tryz.prog 24 #[.pointer (some ⟨b, 0, none⟩), .int .i64 1, .slice A 1 c] w fun e w' => e = .returned (.int .i64 21) ∧ LiveAt w0 b L11 w' ∧ KeepU w w' := by
  have := la_append h inv10 (by decide) 1 A c [121] hq (by decide)
  rw [live_facts.2.2.2.2.2.2.2.2.2.2.2.2.1] at this
  exact this
theorem lc13 (h : LiveAt w0 b L11 w) : Calls Tryz.prog 12 #[.pointer (some ⟨b, 0, none⟩)] w fun e w' => e = .returned (.bool true) ∧ w = w' := by
  have := la_dead h
  rw [live_facts.2.2.2.2.2.2.2.2.2.2.2.2.2] at this
  exact this
end
theorem LiveAt.keeps {w0 w : World} {b : Nat} {s : FSt} (h : LiveAt w0 b s w) : Keeps NoB w0 w := by
  obtain ⟨m, _, _, _, hk⟩ := h
  exact hk

/-- A literal of bytes in a region that draws. -/
def litP (w0 : World) (n : Nat) (xs : List UInt8) (v : Value) (wx : World) : Prop := ∃ g, v = .slice (some ⟨g, 0, none⟩) n n ∧ w0.heap.size ≤ g ∧ RowU wx v xs
theorem litP.mono {w0 : World} {n : Nat} {xs : List UInt8} {v : Value} {wx wy : World} (k : KeepU wx wy) (h : litP w0 n xs v wx) : litP w0 n xs v wy := by
  obtain ⟨g, e, hg, hr⟩ := h
  exact ⟨g, e, hg, hr.keepU k⟩
theorem lit_step {w0 wx : World} {b : Nat} {s : FSt} (xs : List UInt8) (hn : xs.length ≤ 9223372036854775807) (hJ : LiveAt w0 b s wx) : KeepU wx (wx.alloc (.cells (bvs xs).toArray 5)) ∧ litP w0 xs.length xs (.slice (some ⟨wx.heap.size, 0, none⟩) xs.length xs.length) (wx.alloc (.cells (bvs xs).toArray 5)) ∧ LiveAt w0 b s (wx.alloc (.cells (bvs xs).toArray 5)) :=
  ⟨KeepU.ofNo ((Keeps.refl NoB wx).alloc _), ⟨_, rfl, hJ.keeps.size, lit_rowU wx xs hn⟩, hJ.kept ((Keeps.refl NoB wx).alloc _)⟩
theorem lit_conv {w0 wx : World} {b n : Nat} {s : FSt} {xs : List UInt8} {v : Value} (hn : 0 < n) (h : litP w0 n xs v wx) (hJ : LiveAt w0 b s wx) : ∃ g w', v = .slice (some ⟨g, 0, none⟩) n n ∧ (convert 38 38 (.slice (some ⟨g, 0, none⟩) n n)).run Tryz.prog wx = .ok (.slice (some ⟨g, 0, none⟩) n n) w' ∧ KeepU wx w' ∧ litP w0 n xs (.slice (some ⟨g, 0, none⟩) n n) w' ∧ LiveAt w0 b s w' := by
  obtain ⟨g, rfl, hg, hr⟩ := h
  obtain ⟨cur, q, hb⟩ := hr.2 _ _ _ rfl hn
  obtain ⟨w', hc, hm⟩ := conv_mark wx g 0 n n cur q hb
  exact ⟨g, w', rfl, hc, hm.u, ⟨g, rfl, hg, hr.keepU hm.u⟩, hJ.marks hm hg⟩
def lsOf : Nat → FSt
  | 0 => L4
  | 1 => L5
  | 2 => L6
  | _ => L7

theorem make8 (w : World) : (Instr.makeSlice 38 (.int .i64 8) (.int .i64 8)).run Tryz.prog w = .ok (.slice (some ⟨w.heap.size, 0, none⟩) 8 8) (w.alloc (.cells #[.int .u8 0, .int .u8 0, .int .u8 0, .int .u8 0, .int .u8 0, .int .u8 0, .int .u8 0, .int .u8 0] 5)) := by kernel_rfl
set_option maxHeartbeats 4000000 in
set_option maxRecDepth 100000 in
theorem flive_any (w : World) : Calls Tryz.prog 6 #[] w fun e w' => e = .returned (.bool true) ∧ Keeps NoB w w' := by
  have hcv := fun (w : World) (C : Array Value) (n c : Nat) => run_convert_bytes_const (P := Tryz.prog) w 38 5 C n c Tryz.underlying38 Tryz.underlying5
  go_enter Tryz.func6, Tryz.ntmps6
  go_wp2_with (go_at_call 19; go_must (refine (new_any _ 10 (by decide) (by decide)).mono ?_))
  rintro e w1 ⟨m, rfl, hi, ho, hk⟩
  have H : Sd (LiveAt w m.b L0 w1) := ⟨⟨m, rfl, hi, ho, hk⟩⟩
  generalize m.b = b at *
  clear hi ho hk m
  go_wp2_with (first | (go_at_call 10; refine (num_law2 _ _).mono ?_; rintro e w' ⟨rfl, rfl⟩) | (go_at_call 23; go_must (refine (lc1 H.o).mono ?_)))
  rintro e w2 ⟨rfl, h2, _⟩
  have H2 := Sd.mk h2
  clear H h2
  have hl : Sd (RowU (w2.alloc (.cells #[.int .u8 97, .int .u8 98, .int .u8 99] 5 (3, 4))) (.slice (some ⟨w2.heap.size, 0, none⟩) 3 3) [97, 98, 99]) := ⟨lit_rowM w2 [97, 98, 99] (3, 4) (by decide)⟩
  have H3 : Sd (LiveAt w b L1 (w2.alloc (.cells #[.int .u8 97, .int .u8 98, .int .u8 99] 5 (3, 4)))) := ⟨H2.o.kept ((Keeps.refl NoB w2).alloc _)⟩
  go_wp2_with (go_at_call 24; go_must (refine (lc2 H3.o _ _ hl.o).mono ?_))
  rintro e w4 ⟨rfl, h4, _⟩
  have H4 := Sd.mk h4
  clear H2 H3 h4 hl
  go_wp2_with (go_at_call 25; go_must (refine (lc3 H4.o).mono ?_))
  rintro e w5 ⟨rfl, h5, _⟩
  have H5 := Sd.mk h5
  clear H4 h5
  go_wp2_with (go_at_call 26; go_must (refine (lc4 H5.o).mono ?_))
  rintro e w6 ⟨rfl, h6, _⟩
  have H6 := Sd.mk h6
  clear H5 h6
  go_upto_region 6 with fail
  refine wp_region_chain (J := fun n wx => LiveAt w b (lsOf n) wx) (R := KeepU) [4, 9, 13] KeepU.refl (by kernel_rfl) (by kernel_rfl) (by kernel_rfl) (H6.o.kept (Keeps.refl _ _).drew) ?_
  apply chain_const
  · intro _; kernel_rfl
  · rfl
  · intro s wx n hJ hF
    clear hF
    unfold flowAt
    go_simp
    exact ⟨KeepU.refl _, rfl, hJ⟩
  intro K hK
  go_simp
  refine hK _ ?_
  clear hK K
  apply chain_const
  · intro _; kernel_rfl
  · rfl
  · intro s wx n hJ hF
    clear hF
    unfold flowAt
    go_simp
    exact ⟨KeepU.refl _, rfl, hJ⟩
  intro K hK
  go_simp
  refine hK _ ?_
  clear hK K
  apply chain_any (p := litP w 2 [100, 101])
  · intro _; kernel_rfl
  · rfl
  · exact fun v wx wy hk h => h.mono hk
  · intro s wx n hJ hF
    clear hF
    have := lit_step [100, 101] (by decide) hJ
    unfold flowAt
    go_simp
    exact this
  intro K hK
  go_simp
  refine hK _ ?_
  clear hK K
  apply chain_any (p := litP w 2 [100, 101])
  · intro _; kernel_rfl
  · rfl
  · exact fun v wx wy hk h => h.mono hk
  · intro s wx n hJ hF
    obtain ⟨g, w', e2, hc, h1, h2, h3⟩ := lit_conv (by decide) (hF 2 (by kernel_rfl)) hJ
    clear hF
    unfold flowAt
    go_simp
    exact ⟨h1, h2, h3⟩
  intro K hK
  go_simp
  refine hK _ ?_
  clear hK K
  apply chain_step 0 (.int .i64 0)
  · intro _; kernel_rfl
  · rfl
  · intro s wx hJ hF
    obtain ⟨g, e2, hg, hr⟩ := hF 3 (by kernel_rfl)
    clear hF
    have hJ2 := Sd.mk hJ
    clear hJ
    unfold flowAt
    go_simp
    simp only [flowUpon]
    go_at_call 24
    rw [e2] at hr
    refine (lc5 hJ2.o _ _ hr).mono ?_
    rintro e w' ⟨rfl, h, hk⟩
    exact ⟨_, rfl, hk, rfl, h⟩
  intro K hK
  go_simp
  refine hK _ ?_
  clear hK K
  apply chain_const
  · intro _; kernel_rfl
  · rfl
  · intro s wx n hJ hF
    clear hF
    unfold flowAt
    go_simp
    exact ⟨KeepU.refl _, rfl, hJ⟩
  intro K hK
  go_simp
  refine hK _ ?_
  clear hK K
  apply chain_const
  · intro _; kernel_rfl
  · rfl
  · intro s wx n hJ hF
    clear hF
    unfold flowAt
    go_simp
    exact ⟨KeepU.refl _, rfl, hJ⟩
  intro K hK
  go_simp
  refine hK _ ?_
  clear hK K
  apply chain_any (p := litP w 1 [102])
  · intro _; kernel_rfl
  · rfl
  · exact fun v wx wy hk h => h.mono hk
  · intro s wx n hJ hF
    clear hF
    have := lit_step [102] (by decide) hJ
    unfold flowAt
    go_simp
    exact this
  intro K hK
  go_simp
  refine hK _ ?_
  clear hK K
  apply chain_any (p := litP w 1 [102])
  · intro _; kernel_rfl
  · rfl
  · exact fun v wx wy hk h => h.mono hk
  · intro s wx n hJ hF
    obtain ⟨g, w', e2, hc, h1, h2, h3⟩ := lit_conv (by decide) (hF 7 (by kernel_rfl)) hJ
    clear hF
    unfold flowAt
    go_simp
    exact ⟨h1, h2, h3⟩
  intro K hK
  go_simp
  refine hK _ ?_
  clear hK K
  apply chain_step 1 (.int .i64 0)
  · intro _; kernel_rfl
  · rfl
  · intro s wx hJ hF
    obtain ⟨g, e2, hg, hr⟩ := hF 8 (by kernel_rfl)
    clear hF
    have hJ2 := Sd.mk hJ
    clear hJ
    unfold flowAt
    go_simp
    simp only [flowUpon]
    go_at_call 24
    rw [e2] at hr
    refine (lc6 hJ2.o _ _ hr).mono ?_
    rintro e w' ⟨rfl, h, hk⟩
    exact ⟨_, rfl, hk, rfl, h⟩
  intro K hK
  go_simp
  refine hK _ ?_
  clear hK K
  apply chain_const
  · intro _; kernel_rfl
  · rfl
  · intro s wx n hJ hF
    clear hF
    unfold flowAt
    go_simp
    exact ⟨KeepU.refl _, rfl, hJ⟩
  intro K hK
  go_simp
  refine hK _ ?_
  clear hK K
  apply chain_const
  · intro _; kernel_rfl
  · rfl
  · intro s wx n hJ hF
    clear hF
    unfold flowAt
    go_simp
    exact ⟨KeepU.refl _, rfl, hJ⟩
  intro K hK
  go_simp
  refine hK _ ?_
  clear hK K
  apply chain_any (p := litP w 8 [0, 0, 0, 0, 0, 0, 0, 0])
  · intro _; kernel_rfl
  · rfl
  · exact fun v wx wy hk h => h.mono hk
  · intro s wx n hJ hF
    clear hF
    have hmk := make8 wx
    have := lit_step [0, 0, 0, 0, 0, 0, 0, 0] (by decide) hJ
    unfold flowAt
    go_simp
    exact this
  intro K hK
  go_simp
  refine hK _ ?_
  clear hK K
  apply chain_step 2 (.int .i64 5)
  · intro _; kernel_rfl
  · rfl
  · intro s wx hJ hF
    obtain ⟨g, e2, hg, hr⟩ := hF 12 (by kernel_rfl)
    clear hF
    have hJ2 := Sd.mk hJ
    clear hJ
    unfold flowAt
    go_simp
    simp only [flowUpon]
    go_at_call 24
    rw [e2] at hr
    refine (lc7 hJ2.o _ _ hr).mono ?_
    rintro e w' ⟨rfl, h, hk⟩
    exact ⟨_, rfl, hk, rfl, h⟩
  intro K hK
  go_simp
  refine hK _ ?_
  clear hK K
  apply chain_const
  · intro _; kernel_rfl
  · rfl
  · intro s wx n hJ hF
    clear hF
    unfold flowAt
    go_simp
    exact ⟨KeepU.refl _, rfl, hJ⟩
  intro K hK
  go_simp
  refine hK _ ?_
  clear hK K
  apply chain_const
  · intro _; kernel_rfl
  · rfl
  · intro s wx n hJ hF
    clear hF
    unfold flowAt
    go_simp
    exact ⟨KeepU.refl _, rfl, hJ⟩
  intro K hK
  go_simp
  refine hK _ ?_
  clear hK K
  apply chain_const
  · intro _; kernel_rfl
  · rfl
  · intro s wx n hJ hF
    clear hF
    unfold flowAt
    go_simp
    exact ⟨KeepU.refl _, rfl, hJ⟩
  intro K hK
  go_simp
  refine hK _ ?_
  clear hK K
  apply chain_nil
  intro s w7 hJ7 hF
  have H7 : Sd (LiveAt w b L7 w7) := ⟨hJ7⟩
  clear hF hJ7 H6
  go_wp2_with (go_at_call 27; go_must (refine (lc7w H7.o).mono ?_))
  rintro e w8 ⟨rfl, hk8⟩
  have H8 : Sd (LiveAt w b L7 w8) := ⟨H7.o.kept hk8⟩
  clear hk8 H7
  go_wp2_with (go_at_call 8; go_must (refine (lc8 H8.o _ rfl).mono ?_))
  rintro e w9 ⟨rfl, h9⟩
  have H9 := Sd.mk h9
  clear h9 H8
  go_wp2_with (go_at_call 9; go_must (refine (lc9 H9.o).mono ?_))
  rintro e w10 ⟨A', c', rfl, hb10, hu10, h10⟩
  have H10 := Sd.mk h10
  have HU10 := Sd.mk hu10
  clear h10 H9 hb10 hu10
  go_wp2_with (go_at_call 28; go_must (refine (lc10 H10.o).mono ?_))
  rintro e w11 ⟨rfl, h11, hk11⟩
  have H11 := Sd.mk h11
  have HU11 := Sd.mk (HU10.o.keepU hk11)
  clear h11 H10 HU10 hk11
  have hl : Sd (RowU (w11.alloc (.cells #[.int .u8 120] 5 (1, 2))) (.slice (some ⟨w11.heap.size, 0, none⟩) 1 1) [120]) := ⟨lit_rowM w11 [120] (1, 2) (by decide)⟩
  have H12 : Sd (LiveAt w b L9 (w11.alloc (.cells #[.int .u8 120] 5 (1, 2)))) := ⟨H11.o.kept ((Keeps.refl NoB w11).alloc _)⟩
  have HU12 : Sd (RowU (w11.alloc (.cells #[.int .u8 120] 5 (1, 2))) (.slice A' 4 c') [97, 98, 99, 100]) := ⟨HU11.o.keepU (KeepU.ofNo ((Keeps.refl NoB w11).alloc _))⟩
  go_wp2_with (go_at_call 24; go_must (refine (lc11 H12.o _ _ hl.o).mono ?_))
  rintro e w13 ⟨rfl, h13, hk13⟩
  have H13 := Sd.mk h13
  have HU13 := Sd.mk (HU12.o.keepU hk13)
  clear h13 H11 H12 HU11 HU12 hk13 hl
  have hl : Sd (RowU (w13.alloc (.cells #[.int .u8 121] 5 (1, 2))) (.slice (some ⟨w13.heap.size, 0, none⟩) 1 1) [121]) := ⟨lit_rowM w13 [121] (1, 2) (by decide)⟩
  have H14 : Sd (LiveAt w b L10 (w13.alloc (.cells #[.int .u8 121] 5 (1, 2)))) := ⟨H13.o.kept ((Keeps.refl NoB w13).alloc _)⟩
  have HU14 : Sd (RowU (w13.alloc (.cells #[.int .u8 121] 5 (1, 2))) (.slice A' 4 c') [97, 98, 99, 100]) := ⟨HU13.o.keepU (KeepU.ofNo ((Keeps.refl NoB w13).alloc _))⟩
  go_wp2_with (go_at_call 24; go_must (refine (lc12 H14.o _ _ hl.o).mono ?_))
  rintro e w15 ⟨rfl, h15, hk15⟩
  have H15 := Sd.mk h15
  have HU15 := Sd.mk (HU14.o.keepU hk15)
  clear h15 H13 H14 HU13 HU14 hk15 hl
  have hcs := conv_bts HU15.o.1
  have hs4 : sOf [97, 98, 99, 100] = ⟨#[97, 98, 99, 100]⟩ := rfl
  rw [hs4] at hcs
  go_wp2_with (first | (go_at_call 10; refine (num_law2 _ _).mono ?_; rintro e w' ⟨rfl, rfl⟩) | (go_at_call 12; go_must (refine (lc13 H15.o).mono ?_); rintro e w' ⟨rfl, rfl⟩) | (go_at_call 29; go_must (refine (cname_any ⟨#[65]⟩ (by decide) _).mono ?_); rw [show nameE (⟨#[65]⟩ : ByteArray).data.toList = 20 from by decide]; rintro e w' ⟨rfl, rfl⟩))
  go_ret
  exact ⟨rfl, H15.o.keeps⟩
end Go.Proofs.YtlhhcoijkjcneaaGreat
