/- simfs: a change of names, counted. -/
import Derived.Test.YtlhhcoijkjcneaaGreatSimI
namespace Go.Proofs.YtlhhcoijkjcneaaGreat
open Go.RowKit Go.Maps Go.Lib

/-- The load of a struct's cells. -/
theorem cells_new (w : World) (cs : List Value) (e : TypeId) : ∀ j u, cs[j]? = some u → (w.alloc (.cells cs.toArray e)).cell? ((⟨w.heap.size, 0, none⟩ : Addr).add j) = some u := by
  intro j u hj
  rw [add_lit, blk_cell (heap_alloc_new w _)]
  simpa using hj
set_option maxHeartbeats 8000000 in
set_option maxRecDepth 100000 in
theorem changes_any (w : World) (b mn N : Nat) (d : Dir) (c0 c1 c3 mv : Value) (c5 : Value) (ops : Nat) (left : Int) (off : Bool) (M : List MoveS) (x : MoveS)
    (h : w.heap[b]? = some (.cells #[c0, c1, .map (some mn), c3, mv, c5, .int .i64 (ops : Nat), .int .i64 left, .bool off] 79 (0, 0))) (ho : ops ≤ 4611686018427387904) (hl : -1 ≤ left ∧ left ≤ 9223372036854775807)
    (hN : MapN w mn d) (good : GoodDir N d) (hm : MoveOk N d x) (hlen : d.length ≤ 1000000) (hNN : N ≤ 4611686018427387904) (hxa : x.a.length ≤ 9223372036854775807) (hxb : x.b.length ≤ 9223372036854775807)
    (hM : MovesV w mv M) (hMl : M.length ≤ 1000000000) :
    Calls Tryz.prog 66 #[.pointer (some ⟨b, 0, none⟩), .agg (moveCells x).toArray] w fun e w' => e = .returned (.int .i64 0) ∧ ∃ A' c',
      w'.heap[b]? = some (.cells #[c0, c1, .map (some mn), c3, .slice A' (M.length + 1) c', c5, .int .i64 ((ops + 1 : Nat) : Int), .int .i64 (if 0 < left then left - 1 else left), .bool (if 0 < left then decide (left = 1) else off)] 79 (0, 0)) ∧
      MapN w' mn (moved d x) ∧ MovesV w' (.slice A' (M.length + 1) c') (M ++ [x]) ∧ Grew w mv (.slice A' (M.length + 1) c') ∧ Keeps (fun i => i = b ∨ i = mn ∨ mv.ownBlock = some i) w w' := by
  have hbl := (Array.getElem?_eq_some_iff.1 h).1
  have kb := knd_cells h
  have kn := hN.knd
  have hbn : b ≠ mn := fun e => by rw [e, kn] at kb; cases kb
  have hmb : mv.ownBlock ≠ some b := fun e => by rw [OwnW.knd hM e] at kb; cases kb
  have hmn : mv.ownBlock ≠ some mn := fun e => by rw [OwnW.knd hM e] at kn; cases kn
  obtain ⟨k1, s1, s2, n1, hC⟩ : ∃ (k1 : Int) (s1 s2 : ByteArray) (n1 : Int), (moveCells x).toArray = #[.int .u8 k1, .string s1, .string s2, .int .i64 n1] := ⟨_, _, _, _, rfl⟩
  have hCl : moveCells x = [.int .u8 k1, .string s1, .string s2, .int .i64 n1] := by
    have := congrArg Array.toList hC
    simpa using this
  obtain ⟨w1, hw1⟩ : ∃ w1, w1 = w.alloc (.cells #[.int .u8 k1, .string s1, .string s2, .int .i64 n1] 81) := ⟨_, rfl⟩
  have hk1 : Keeps NoB w w1 := by rw [hw1]; exact (Keeps.refl NoB w).alloc _
  have HM : Sd (∀ wx, Keeps NoB w1 wx → Calls Tryz.prog 30 #[.agg #[.int .u8 k1, .string s1, .string s2, .int .i64 n1], .map (some mn)] wx fun e w' => e = .returned (.tuple #[]) ∧ MapN w' mn (moved d x) ∧ Keeps (OneB mn) wx w') := ⟨fun wx hk => by
    rw [← hC]
    exact monto_any wx x mn N d (hN.keeps (hk1.then hk) (fun f => f)) good hm hlen hNN hxa hxb⟩
  have b1 : w1.heap[w.heap.size]? = some (.cells #[.int .u8 k1, .string s1, .string s2, .int .i64 n1] 81 (0, 0)) := by rw [hw1]; exact heap_alloc_new w _
  have H := Sd.mk h
  have B1 := Sd.mk b1
  have HK1 := Sd.mk hk1
  have HW1 := Sd.mk hw1
  have HMV := Sd.mk hM
  have HCL := Sd.mk hCl
  have hmvs : mv.ownBlock ≠ some w.heap.size := fun e => by have := OwnW.lt hM e; omega
  have hmlt := fun k (e : mv.ownBlock = some k) => OwnW.lt hM e
  have HMLT := Sd.mk hmlt
  have hmns : mn ≠ w.heap.size := fun e => by have := hN.lt; omega
  have kb2 : b ≠ w.heap.size := by omega
  rw [hC]
  obtain ⟨l2, hl2⟩ : ∃ l2, l2 = (if 0 < left then left - 1 else left) := ⟨_, rfl⟩
  obtain ⟨o2, ho2⟩ : ∃ o2, o2 = (if 0 < left then decide (left = 1) else off) := ⟨_, rfl⟩
  rw [← hl2, ← ho2]
  have HL2 := Sd.mk hl2
  have HO2 := Sd.mk ho2
  clear hl2 ho2
  clear h hN good hm hlen hNN hxa hxb hM hC hCl hw1 hk1 b1 hmlt kb kn
  go_enter Tryz.func66, Tryz.ntmps66
  go_upto_region 1 with fail
  rw [← HW1.o]
  have q0 : w1.cell? ⟨w.heap.size, 0, none⟩ = some (.int .u8 k1) := blk_cell B1.o 0
  have q1 : w1.cell? ⟨w.heap.size, 1, none⟩ = some (.string s1) := blk_cell B1.o 1
  have q2 : w1.cell? ⟨w.heap.size, 2, none⟩ = some (.string s2) := blk_cell B1.o 2
  have q3 : w1.cell? ⟨w.heap.size, 3, none⟩ = some (.int .i64 n1) := blk_cell B1.o 3
  have p2 : w1.cell? ⟨b, 2, none⟩ = some (.map (some mn)) := HK1.o.cell (blk_cell H.o 2) (fun f => f)
  go_cut [10] (fun sx wx => sx = .tuple #[] ∧ Sd (MapN wx mn (moved d x)) ∧ Sd (Keeps (OneB mn) w1 wx))
  case first =>
    go_region_law
      (go_simp; go_at_call 30
       refine (HM.o _ (Keeps.drewN (Keeps.refl NoB w1) 1)).mono ?_
       rintro e w2 ⟨rfl, hn2, hk2⟩
       have HN2 := Sd.mk hn2
       have HK2 : Sd (Keeps (OneB mn) w1 w2) := ⟨hk2.undrew⟩
       clear hn2 hk2)
    all_goals (go_wp2_with fail; go_meet; exact ⟨rfl, HN2, HK2⟩)
  obtain ⟨rfl, HN2, HK2⟩ := hcut
  obtain ⟨w2, hw2⟩ : ∃ w2, w2 = wc := ⟨_, rfl⟩
  subst hw2
  clear q0 q1 q2 q3 p2 HM
  have q0 : w2.cell? ⟨w.heap.size, 0, none⟩ = some (.int .u8 k1) := HK2.o.cell (blk_cell B1.o 0) (fun f => hmns f.symm)
  have q1 : w2.cell? ⟨w.heap.size, 1, none⟩ = some (.string s1) := HK2.o.cell (blk_cell B1.o 1) (fun f => hmns f.symm)
  have q2 : w2.cell? ⟨w.heap.size, 2, none⟩ = some (.string s2) := HK2.o.cell (blk_cell B1.o 2) (fun f => hmns f.symm)
  have q3 : w2.cell? ⟨w.heap.size, 3, none⟩ = some (.int .i64 n1) := HK2.o.cell (blk_cell B1.o 3) (fun f => hmns f.symm)
  have hb2 : w2.heap[b]? = _ := HK2.o.obj (HK1.o.obj H.o (fun f => f)) (fun f => hbn f)
  have p4 : w2.cell? ⟨b, 4, none⟩ = some mv := blk_cell hb2 4
  have f4 := blk_frozen hb2 4
  have HB2 := Sd.mk hb2
  have HMV2 : Sd (MovesV w2 mv M) := ⟨(OwnW.keeps HMV.o HK1.o (fun _ _ f => f)).keeps HK2.o (fun i hi f => hmn (f ▸ hi))⟩
  clear hb2
  go_upto_region 2 with fail
  go_cut [18] (fun sx wx => ∃ A' c', sx = .slice A' (M.length + 1) c' ∧ Sd (wx.heap[b]? = some (.cells #[c0, c1, .map (some mn), c3, .slice A' (M.length + 1) c', c5, .int .i64 (ops : Nat), .int .i64 left, .bool off] 79 (0, 0))) ∧
    Sd (MovesV wx (.slice A' (M.length + 1) c') (M ++ [x])) ∧ Sd (Grew w2 mv (.slice A' (M.length + 1) c')) ∧ Sd (Keeps (fun i => i = b ∨ mv.ownBlock = some i) w2 wx))
  case first =>
    have p4' : (w2.alloc (.cells #[.int .u8 k1, .string s1, .string s2, .int .i64 n1] 81)).cell? ⟨b, 4, none⟩ = some mv := ((Keeps.refl NoB w2).alloc _).cell p4 (fun f => f)
    go_region_law
      (refine step_app_w rfl _ _ 75 81 _ 4 48 rfl Tryz.underlying75 infoMove rfl (by decide) mv M.length (M.flatMap moveCells) rfl (OwnW.keeps HMV2.o ((Keeps.refl NoB w2).drew.alloc _) (fun _ _ f => f)) ⟨w2.heap.size, 0, none⟩ 1 1 [.int .u8 k1, .string s1, .string s2, .int .i64 n1] rfl rfl (cells_new w2.drew _ _) (by intro u hu; simp at hu; rcases hu with rfl | rfl | rfl | rfl <;> rfl) (by omega) (by omega) ?_
       intro A6 c6 w6 hO6 hK6 hG6
       have HO6 := Sd.mk hO6
       have HK6 : Sd (Keeps (ownB mv) w2 w6) := ⟨((Keeps.refl (ownB mv) w2).drew.alloc _).trans hK6 (fun _ _ f => f) (fun _ _ f => f)⟩
       have HG6 : Sd (Grew w2 mv (.slice A6 (M.length + 1) c6)) := ⟨fun k hk => (hG6 k hk).imp id (fun h => by simp at h; omega)⟩
       have hb6 : w6.heap[b]? = _ := HK6.o.obj HB2.o (fun f => hmb f)
       have f46 := blk_frozen hb6 4
       have p46 : w6.cell? ⟨b, 4, none⟩ = some mv := blk_cell hb6 4
       have HB6 := Sd.mk hb6
       have kbb := knd_cells hb6
       clear hO6 hK6 hG6 hb6)
    all_goals (
      go_wp2_with fail
      go_meet
      refine ⟨A6, c6, rfl, ⟨blk_set HB6.o 4 _⟩, ⟨?_⟩, HG6, ⟨?_⟩⟩
      · have e1 : (M ++ [x]).flatMap moveCells = M.flatMap moveCells ++ [.int .u8 k1, .string s1, .string s2, .int .i64 n1] := by rw [List.flatMap_append]; simp [HCL.o]
        have e2 : (M ++ [x]).length = M.length + 1 := by simp
        unfold MovesV
        rw [e1, e2]
        refine OwnW.keeps (F := OneB b) HO6.o ((Keeps.refl (OneB b) w6).setCell ⟨b, 4, none⟩ _ (fun _ => rfl)) (fun k hk f => ?_)
        cases f
        rw [OwnW.knd HO6.o hk] at kbb
        cases kbb
      · exact HK6.o.trans ((Keeps.refl (OneB b) w6).setCell ⟨b, 4, none⟩ _ (fun _ => rfl)) (fun _ _ f => .inr f) (fun _ _ f => .inl f))
  obtain ⟨A6, c6, rfl, HB7, HO7, HG7, HK7⟩ := hcut
  obtain ⟨w7, hw7⟩ : ∃ w7, w7 = wc := ⟨_, rfl⟩
  subst hw7
  clear q0 q1 q2 q3 p4 f4
  have hcn := counts_any w7 b _ _ _ _ _ _ ops left off HB7.o ho hl
  rw [← HL2.o, ← HO2.o] at hcn
  have HCN := Sd.mk hcn
  clear hcn hl
  go_wp2_with (go_at_call 68; refine HCN.o.mono ?_; rintro e w8 ⟨rfl, hb8, hk8⟩; have HB8 := Sd.mk hb8; have HK8 := Sd.mk hk8; clear hb8 hk8)
  go_ret
  have hb8 := HB8.o
  have hk8 := HK8.o
  have hmv7 : ∀ k, (Value.slice A6 (M.length + 1) c6).ownBlock = some k → k ≠ b := fun k hk e => by
    have h1 := OwnW.knd HO7.o hk
    rw [e, knd_cells HB7.o] at h1
    cases h1
  refine ⟨rfl, A6, c6, hb8, ?_, OwnW.keeps HO7.o hk8 (fun k hk f => hmv7 k hk f), ?_, ?_⟩
  · refine (HN2.o.keeps HK7.o ?_).keeps hk8 (fun f => hbn f.symm)
    intro f
    rcases f with f | f
    · exact hbn f.symm
    · exact hmn f
  · intro k hk
    rcases HG7.o k hk with h1 | h1
    · exact .inl h1
    · exact .inr (by have := HK1.o.size; have := HK2.o.size; omega)
  · refine ((HK1.o.trans HK2.o (H := fun i => i = b ∨ i = mn ∨ mv.ownBlock = some i) (fun _ _ f => f.elim) (fun _ _ f => .inr (.inl f))).trans HK7.o (fun _ _ f => f) (fun i _ f => ?_)).trans hk8 (fun _ _ f => f) (fun _ _ f => .inl f)
    rcases f with f | f
    · exact .inl f
    · exact .inr (.inr f)
end Go.Proofs.YtlhhcoijkjcneaaGreat
