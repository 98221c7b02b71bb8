/- simfs: something is done to a file, counted. -/
import Derived.Test.YtlhhcoijkjcneaaGreatSimJ
namespace Go.Proofs.YtlhhcoijkjcneaaGreat
open Go.RowKit Go.Maps Go.Lib

set_option maxHeartbeats 8000000 in
set_option maxRecDepth 100000 in
theorem does_any (w : World) (b fb : Nat) (c0 c1 c2 c3 c4 c5 : Value) (ops : Nat) (left : Int) (off : Bool) (dv sv lv : Value) (xs : List UInt8) (L : List DoneS) (d : DoneS)
    (h : w.heap[b]? = some (.cells #[c0, c1, c2, c3, c4, c5, .int .i64 (ops : Nat), .int .i64 left, .bool off] 79 (0, 0))) (ho : ops ≤ 4611686018427387904) (hl : -1 ≤ left ∧ left ≤ 9223372036854775807)
    (hf : w.heap[fb]? = some (.cells #[dv, sv, lv] 91 (0, 0))) (hx : RowU w dv xs) (hL : LogV w lv L) (hLl : L.length ≤ 1000000000) (hp : d.pos ≤ xs.length) (hxl : xs.length ≤ 67108864) (hdl : d.p.length ≤ 70368744177664) :
    Calls Tryz.prog 92 #[.pointer (some ⟨b, 0, none⟩), .pointer (some ⟨fb, 0, none⟩), .agg (doneCells d).toArray] w fun e w' => e = .returned (.int .i64 0) ∧ ∃ dv' A' c',
      w'.heap[b]? = some (.cells #[c0, c1, c2, c3, c4, c5, .int .i64 ((ops + 1 : Nat) : Int), .int .i64 (if 0 < left then left - 1 else left), .bool (if 0 < left then decide (left = 1) else off)] 79 (0, 0)) ∧
      w'.heap[fb]? = some (.cells #[dv', sv, .slice A' (L.length + 1) c'] 91 (0, 0)) ∧ RowU w' dv' (doneOn xs d) ∧ LogV w' (.slice A' (L.length + 1) c') (L ++ [d]) ∧ Grew w lv (.slice A' (L.length + 1) c') ∧ Keeps (fun i => i = b ∨ i = fb ∨ lv.ownBlock = some i) w w' ∧ DGrew w dv dv' := by
  have hbl := (Array.getElem?_eq_some_iff.1 h).1
  have hfl := (Array.getElem?_eq_some_iff.1 hf).1
  have kb := knd_cells h
  have kf := knd_cells hf
  have hbf : b ≠ fb := fun e => by rw [e, kf] at kb; cases kb
  have hlb : lv.ownBlock ≠ some b := fun e => by rw [OwnW.knd hL e] at kb; cases kb
  have hlf : lv.ownBlock ≠ some fb := fun e => by rw [OwnW.knd hL e] at kf; cases kf
  obtain ⟨k1, n1, s1, hC⟩ : ∃ (k1 : Bool) (n1 : Int) (s1 : ByteArray), (doneCells d).toArray = #[.bool k1, .int .i64 n1, .string s1] := ⟨_, _, _, rfl⟩
  have hCl : doneCells d = [.bool k1, .int .i64 n1, .string s1] := by
    have := congrArg Array.toList hC
    simpa using this
  obtain ⟨w1, hw1⟩ : ∃ w1, w1 = w.alloc (.cells #[.bool k1, .int .i64 n1, .string s1] 104) := ⟨_, rfl⟩
  have hk1 : Keeps NoB w w1 := by rw [hw1]; exact (Keeps.refl NoB w).alloc _
  obtain ⟨A, c, rfl⟩ := hx.slice
  have HOT : Sd (∀ wx, RowU wx (.slice A xs.length c) xs → Calls Tryz.prog 72 #[.agg #[.bool k1, .int .i64 n1, .string s1], .slice A xs.length c] wx fun e w' => ∃ A' c', e = .returned (.slice A' (doneOn xs d).length c') ∧ RowU w' (.slice A' (doneOn xs d).length c') (doneOn xs d) ∧ Keeps NoB wx w' ∧ DGrew wx (.slice A xs.length c) (.slice A' (doneOn xs d).length c')) := ⟨fun wx hk => by
    rw [← hC]
    exact onto_any wx d A c xs hk hp hxl hdl⟩
  have b1 : w1.heap[w.heap.size]? = some (.cells #[.bool k1, .int .i64 n1, .string s1] 104 (0, 0)) := by rw [hw1]; exact heap_alloc_new w _
  obtain ⟨l2, hl2⟩ : ∃ l2, l2 = (if 0 < left then left - 1 else left) := ⟨_, rfl⟩
  obtain ⟨o2, ho2⟩ : ∃ o2, o2 = (if 0 < left then decide (left = 1) else off) := ⟨_, rfl⟩
  rw [← hl2, ← ho2]
  have HL2 := Sd.mk hl2
  have HO2 := Sd.mk ho2
  have H := Sd.mk h
  have HF := Sd.mk hf
  have B1 := Sd.mk b1
  have HK1 := Sd.mk hk1
  have HW1 := Sd.mk hw1
  have HLV := Sd.mk hL
  have HX := Sd.mk hx
  have HCL := Sd.mk hCl
  have HLLT : Sd (∀ k, lv.ownBlock = some k → k < w.heap.size) := ⟨fun k e => OwnW.lt hL e⟩
  have kb2 : b ≠ w.heap.size := by omega
  have kf2 : fb ≠ w.heap.size := by omega
  have HFI := Sd.mk hl
  rw [hC]
  clear h hf hx hL hp hxl hdl hC hCl hw1 hk1 b1 kb kf hl2 ho2 hl
  have q0 : w1.cell? ⟨w.heap.size, 0, none⟩ = some (.bool k1) := blk_cell B1.o 0
  have q1 : w1.cell? ⟨w.heap.size, 1, none⟩ = some (.int .i64 n1) := blk_cell B1.o 1
  have q2 : w1.cell? ⟨w.heap.size, 2, none⟩ = some (.string s1) := blk_cell B1.o 2
  have hf1 : w1.heap[fb]? = _ := HK1.o.obj HF.o (fun f => f)
  have p2 : w1.cell? ⟨fb, 2, none⟩ = some lv := blk_cell hf1 2
  have HF1 := Sd.mk hf1
  have HLV1 : Sd (LogV w1 lv L) := ⟨OwnW.keeps HLV.o HK1.o (fun _ _ f => f)⟩
  clear hf1
  go_enter Tryz.func92, Tryz.ntmps92
  go_upto_region 1 with fail
  rw [← HW1.o]
  go_cut [14] (fun sx wx => ∃ A' c', sx = .slice A' (L.length + 1) c' ∧ Sd (wx.heap[fb]? = some (.cells #[.slice A xs.length c, sv, .slice A' (L.length + 1) c'] 91 (0, 0))) ∧
    Sd (LogV wx (.slice A' (L.length + 1) c') (L ++ [d])) ∧ Sd (Grew w1 lv (.slice A' (L.length + 1) c')) ∧ Sd (Keeps (fun i => i = fb ∨ lv.ownBlock = some i) w1 wx))
  case first =>
    have p2' : (w1.alloc (.cells #[.bool k1, .int .i64 n1, .string s1] 104)).cell? ⟨fb, 2, none⟩ = some lv := ((Keeps.refl NoB w1).alloc _).cell p2 (fun f => f)
    go_region_law
      (refine step_app_w rfl _ _ 89 104 _ 3 32 rfl Tryz.underlying89 infoDone rfl (by decide) lv L.length (L.flatMap doneCells) rfl (OwnW.keeps HLV1.o ((Keeps.refl NoB w1).drew.alloc _) (fun _ _ f => f)) ⟨w1.heap.size, 0, none⟩ 1 1 [.bool k1, .int .i64 n1, .string s1] rfl rfl (cells_new w1.drew _ _) (by intro u hu; simp at hu; rcases hu with rfl | rfl | rfl <;> rfl) (by omega) (by omega) ?_
       intro A6 c6 w6 hO6 hK6 hG6
       have HO6 := Sd.mk hO6
       have HK6 : Sd (Keeps (ownB lv) w1 w6) := ⟨((Keeps.refl (ownB lv) w1).drew.alloc _).trans hK6 (fun _ _ f => f) (fun _ _ f => f)⟩
       have HG6 : Sd (Grew w1 lv (.slice A6 (L.length + 1) c6)) := ⟨fun k hk => (hG6 k hk).imp id (fun h => by simp at h; omega)⟩
       have hb6 : w6.heap[fb]? = _ := HK6.o.obj HF1.o (fun f => hlf f)
       have f46 := blk_frozen hb6 2
       have p46 : w6.cell? ⟨fb, 2, none⟩ = some lv := blk_cell hb6 2
       have HB6 := Sd.mk hb6
       have kbb := knd_cells hb6
       clear hO6 hK6 hG6 hb6)
    all_goals (
      go_wp2_with fail
      go_meet
      refine ⟨A6, c6, rfl, ⟨blk_set HB6.o 2 _⟩, ⟨?_⟩, HG6, ⟨?_⟩⟩
      · have e1 : (L ++ [d]).flatMap doneCells = L.flatMap doneCells ++ [.bool k1, .int .i64 n1, .string s1] := by rw [List.flatMap_append]; simp [HCL.o]
        have e2 : (L ++ [d]).length = L.length + 1 := by simp
        unfold LogV
        rw [e1, e2]
        refine OwnW.keeps (F := OneB fb) HO6.o ((Keeps.refl (OneB fb) w6).setCell ⟨fb, 2, none⟩ _ (fun _ => rfl)) (fun k hk f => ?_)
        cases f
        rw [OwnW.knd HO6.o hk] at kbb
        cases kbb
      · exact HK6.o.trans ((Keeps.refl (OneB fb) w6).setCell ⟨fb, 2, none⟩ _ (fun _ => rfl)) (fun _ _ f => .inr f) (fun _ _ f => .inl f))
  obtain ⟨A6, c6, rfl, HF7, HO7, HG7, HK7⟩ := hcut
  obtain ⟨w7, hw7⟩ : ∃ w7, w7 = wc := ⟨_, rfl⟩
  subst hw7
  clear q0 q1 q2 p2
  have q0 : w7.cell? ⟨w.heap.size, 0, none⟩ = some (.bool k1) := HK7.o.cell (blk_cell B1.o 0) (fun f => f.elim (fun f => kf2 f.symm) (fun f => by have := HLLT.o _ f; simp at this))
  have q1 : w7.cell? ⟨w.heap.size, 1, none⟩ = some (.int .i64 n1) := HK7.o.cell (blk_cell B1.o 1) (fun f => f.elim (fun f => kf2 f.symm) (fun f => by have := HLLT.o _ f; simp at this))
  have q2 : w7.cell? ⟨w.heap.size, 2, none⟩ = some (.string s1) := HK7.o.cell (blk_cell B1.o 2) (fun f => f.elim (fun f => kf2 f.symm) (fun f => by have := HLLT.o _ f; simp at this))
  have p0 : w7.cell? ⟨fb, 0, none⟩ = some (.slice A xs.length c) := blk_cell HF7.o 0
  have HX7 : Sd (RowU w7 (.slice A xs.length c) xs) := ⟨(HX.o.keeps HK1.o (NotU8.noB w)).keeps HK7.o (notU8_knd fun i hi => by
    rcases hi with rfl | hi
    · rw [knd_cells HF1.o]; decide
    · rw [OwnW.knd HLV1.o hi]; decide)⟩
  go_upto_region 2 with fail
  go_cut [23] (fun sx wx => ∃ A' c', sx = .slice A' (doneOn xs d).length c' ∧ Sd (wx.heap[fb]? = some (.cells #[.slice A' (doneOn xs d).length c', sv, .slice A6 (L.length + 1) c6] 91 (0, 0))) ∧
    Sd (RowU wx (.slice A' (doneOn xs d).length c') (doneOn xs d)) ∧ Sd (Keeps (OneB fb) w7 wx) ∧ Sd (DGrew w7 (.slice A xs.length c) (.slice A' (doneOn xs d).length c')))
  case first =>
    go_region_law
      (go_simp; go_at_call 72
       refine (HOT.o _ (HX7.o.keeps (Keeps.drewN (Keeps.refl NoB w7) 1) (NotU8.noB w7))).mono ?_
       rintro e w8 ⟨A8, c8, rfl, hr8, hk8, hd8⟩
       have HD8 : Sd (DGrew w7 (.slice A xs.length c) (.slice A8 (doneOn xs d).length c8)) := ⟨hd8⟩
       have HR8 := Sd.mk hr8
       have HK8 : Sd (Keeps NoB w7 w8) := ⟨hk8.undrew⟩
       have hf8 : w8.heap[fb]? = _ := HK8.o.obj HF7.o (fun f => f)
       have f08 := blk_frozen hf8 0
       have p08 : w8.cell? ⟨fb, 0, none⟩ = some (.slice A xs.length c) := blk_cell hf8 0
       have HF8 := Sd.mk hf8
       clear hr8 hk8 hf8 hd8)
    all_goals (
      go_wp2_with fail
      go_meet
      refine ⟨A8, c8, rfl, ⟨blk_set HF8.o 0 _⟩, ⟨?_⟩, ⟨?_⟩, HD8⟩
      · exact HR8.o.keeps ((Keeps.refl (OneB fb) w8).setCell ⟨fb, 0, none⟩ _ (fun _ => rfl)) (notU8_knd fun i hi => by cases hi; rw [knd_cells HF8.o]; decide)
      · exact HK8.o.trans ((Keeps.refl (OneB fb) w8).setCell ⟨fb, 0, none⟩ _ (fun _ => rfl)) (fun _ _ f => f.elim) (fun _ _ f => f))
  obtain ⟨A8, c8, rfl, HF9, HR9, HK9, HD9⟩ := hcut
  obtain ⟨w9, hw9⟩ : ∃ w9, w9 = wc := ⟨_, rfl⟩
  subst hw9
  clear q0 q1 q2 p0
  have hb9 : w9.heap[b]? = _ := HK9.o.obj (HK7.o.obj (HK1.o.obj H.o (fun f => f)) (fun f => f.elim hbf hlb)) (fun f => hbf f)
  have hcn := counts_any w9 b _ _ _ _ _ _ ops left off hb9 ho HFI.o
  rw [← HL2.o, ← HO2.o] at hcn
  have HCN := Sd.mk hcn
  clear hcn hb9
  go_wp2_with (go_at_call 68; refine HCN.o.mono ?_; rintro e w10 ⟨rfl, hb10, hk10⟩; have HB10 := Sd.mk hb10; have HK10 := Sd.mk hk10; clear hb10 hk10)
  go_ret
  have hb10 := HB10.o
  have hk10 := HK10.o
  have hl9 : LogV w9 (.slice A6 (L.length + 1) c6) (L ++ [d]) := OwnW.keeps HO7.o HK9.o (fun k hk f => by
    cases f
    have h1 := OwnW.knd HO7.o hk
    rw [knd_cells HF7.o] at h1
    cases h1)
  refine ⟨rfl, _, A6, c6, hb10, hk10.obj HF9.o (fun f => hbf f.symm), HR9.o.keeps hk10 (notU8_knd fun i hi => by cases hi; rw [knd_cells (HK9.o.obj (HK7.o.obj (HK1.o.obj H.o (fun f => f)) (fun f => f.elim hbf hlb)) (fun f => hbf f))]; decide), OwnW.keeps hl9 hk10 (fun k hk f => ?_), ?_, ?_, HD9.o.older (Nat.le_trans HK1.o.size HK7.o.size)⟩
  · cases f
    have h1 := OwnW.knd hl9 hk
    rw [knd_cells (HK9.o.obj (HK7.o.obj (HK1.o.obj H.o (fun f => f)) (fun f => f.elim hbf hlb)) (fun f => hbf f))] at h1
    cases h1
  · intro k hk
    rcases HG7.o k hk with h1 | h1
    · exact .inl h1
    · exact .inr (Nat.le_trans HK1.o.size h1)
  · refine ((HK1.o.trans HK7.o (H := fun i => i = b ∨ i = fb ∨ lv.ownBlock = some i) (fun _ _ f => f.elim) (fun _ _ f => .inr f)).trans HK9.o (fun _ _ f => f) (fun i _ f => ?_)).trans hk10 (fun _ _ f => f) (fun _ _ f => .inl f)
    exact .inr (.inl f)
end Go.Proofs.YtlhhcoijkjcneaaGreat
