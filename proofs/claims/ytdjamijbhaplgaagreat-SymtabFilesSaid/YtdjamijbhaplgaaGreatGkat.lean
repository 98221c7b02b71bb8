/- The document's file system: change. -/
import Derived.Test.YtdjamijbhaplgaaGreatGkas
import Derived.Test.YtdjamijbhaplgaaGreatGkap
namespace Go.Proofs.YtdjamijbhaplgaaGreat
open Go.RowKit Go.Maps Go.Lib

theorem infoRMove : (Tryz.prog.info? 98).map (fun i => (i.zero, i.size, i.bytes)) = some (some (.agg #[.int .u8 0, .string ⟨#[]⟩, .string ⟨#[]⟩, .int .i64 0]), 4, 48) := by kernel_rfl
set_option maxHeartbeats 8000000 in
set_option maxRecDepth 100000 in
theorem rchange_any (w : World) (b : Nat) (c0 dv c2 mv c4 c8 : Value) (D : Dir) (M : List MoveS) (ops : Nat) (left : Int) (off : Bool) (x : MoveS)
    (h : w.heap[b]? = some (.cells #[c0, dv, c2, mv, c4, .int .i64 (ops : Nat), .int .i64 left, .bool off, c8] 86 (0, 0))) (hD : EntV w dv D) (hM : RMovV w mv M) (hd : (D.map (·.1)).Nodup) (hDl : D.length ≤ 1000000) (hMl : M.length ≤ 1000000000)
    (hkd : x.kind = 99 ∨ x.kind = 100 ∨ x.kind = 114) (ho : ops ≤ 4611686018427387904) (hl : -1 ≤ left ∧ left ≤ 9223372036854775807) :
    Calls Tryz.prog 88 #[.pointer (some ⟨b, 0, none⟩), .agg #[.int .u8 (x.kind : Nat), .string (sOf x.a), .string (sOf x.b), .int .i64 (x.n : Nat)]] w fun e w' => e = .returned (.int .i64 0) ∧ ∃ dv' mv', 
      w'.heap[b]? = some (.cells #[c0, dv', c2, mv', c4, .int .i64 ((ops + 1 : Nat) : Int), .int .i64 (if 0 < left then left - 1 else left), .bool (if 0 < left then decide (left = 1) else off), c8] 86 (0, 0)) ∧ EntV w' dv' (moved D x) ∧ RMovV w' mv' (M ++ [x]) ∧
      Fresh w dv' ∧ Grew w mv mv' ∧ Keeps (fun i => i = b ∨ mv.ownBlock = some i) w w' := by
  have hmb : ∀ k, mv.ownBlock = some k → k ≠ b := fun k hk e => by
    have h1 := OwnW.knd hM hk
    rw [e, knd_cells h] at h1
    cases h1
  have hdb : ∀ k, dv.ownBlock = some k → k ≠ b := fun k hk e => by
    have h1 := OwnW.knd hD hk
    rw [e, knd_cells h] at h1
    cases h1
  have hdm : ∀ k, dv.ownBlock = some k → mv.ownBlock ≠ some k := fun k hk e => by
    have h1 := OwnW.knd hD hk
    have h2 := OwnW.knd hM e
    rw [h1] at h2
    cases h2
  have hbl : b < w.heap.size := (Array.getElem?_eq_some_iff.1 h).1
  have hml : ∀ k, mv.ownBlock = some k → k < w.heap.size := fun k hk => OwnW.lt hM hk
  obtain ⟨k1, hk1⟩ : ∃ k1 : Int, k1 = (x.kind : Nat) := ⟨_, rfl⟩
  obtain ⟨s1, hs1⟩ : ∃ s1, s1 = sOf x.a := ⟨_, rfl⟩
  obtain ⟨s2, hs2⟩ : ∃ s2, s2 = sOf x.b := ⟨_, rfl⟩
  obtain ⟨n1, hn1⟩ : ∃ n1 : Int, n1 = (x.n : Nat) := ⟨_, rfl⟩
  obtain ⟨l2, hl2⟩ : ∃ l2, l2 = (if 0 < left then left - 1 else left) := ⟨_, rfl⟩
  obtain ⟨o2, ho2⟩ : ∃ o2, o2 = (if 0 < left then decide (left = 1) else off) := ⟨_, rfl⟩
  rw [← hl2, ← ho2]
  have HL2 := Sd.mk hl2
  have HO2 := Sd.mk ho2
  clear hl2 ho2
  have HCL : Sd (moveCells x = [.int .u8 k1, .string s1, .string s2, .int .i64 n1]) := ⟨by rw [hk1, hs1, hs2, hn1]; rfl⟩
  have HMO := fun wx (v : Value) (hr : EntV wx v D) => rmoved_any wx v D x hr hd hDl hkd
  rw [← hk1, ← hs1, ← hs2, ← hn1] at HMO ⊢
  have HMO := Sd.mk HMO
  obtain ⟨w1, hw1⟩ : ∃ w1, w1 = w.alloc (.cells #[.int .u8 k1, .string s1, .string s2, .int .i64 n1] 98) := ⟨_, rfl⟩
  have hk1w : Keeps NoB w w1 := by rw [hw1]; exact (Keeps.refl NoB w).alloc _
  have hb1 : w1.heap[w.heap.size]? = some (.cells #[.int .u8 k1, .string s1, .string s2, .int .i64 n1] 98 (0, 0)) := by rw [hw1]; exact heap_alloc_new w _
  have HB1 := Sd.mk hb1
  have HH1 := Sd.mk (hk1w.obj h (fun f => f))
  have HK1 := Sd.mk hk1w
  have HM1 : Sd (RMovV w1 mv M) := ⟨OwnW.keeps hM hk1w (fun _ _ f => f)⟩
  have HD1 : Sd (EntV w1 dv D) := ⟨OwnW.keeps hD hk1w (fun _ _ f => f)⟩
  have HW1 := Sd.mk hw1
  have gb : b ≠ w.heap.size := by omega
  have gm : mv.ownBlock ≠ some w.heap.size := fun e => by have := hml _ e; omega
  have p3 : w1.cell? ⟨b, 3, none⟩ = some mv := blk_cell HH1.o 3
  have f3 := blk_frozen HH1.o 3
  have q0 : w1.cell? ⟨w.heap.size, 0, none⟩ = some (.int .u8 k1) := blk_cell hb1 0
  have q1 : w1.cell? ⟨w.heap.size, 1, none⟩ = some (.string s1) := blk_cell hb1 1
  have q2 : w1.cell? ⟨w.heap.size, 2, none⟩ = some (.string s2) := blk_cell hb1 2
  have q3 : w1.cell? ⟨w.heap.size, 3, none⟩ = some (.int .i64 n1) := blk_cell hb1 3
  clear h hD hM hw1 hk1w hb1 hk1 hs1 hs2 hn1 hkd hd
  go_enter Tryz.func88, Tryz.ntmps88
  go_upto_region 1 with fail
  rw [← HW1.o]
  go_cut [12] (fun sx wx => ∃ A' c', sx = .slice A' (M.length + 1) c' ∧ Sd (wx.heap[b]? = some (.cells #[c0, dv, c2, .slice A' (M.length + 1) c', c4, .int .i64 (ops : Nat), .int .i64 left, .bool off, c8] 86 (0, 0))) ∧
    Sd (RMovV wx (.slice A' (M.length + 1) c') (M ++ [x])) ∧ Sd (Grew w1 mv (.slice A' (M.length + 1) c')) ∧ Sd (Keeps (fun i => i = b ∨ mv.ownBlock = some i) w1 wx))
  case first =>
    have p3' : (w1.alloc (.cells #[.int .u8 k1, .string s1, .string s2, .int .i64 n1] 98)).cell? ⟨b, 3, none⟩ = some mv := ((Keeps.refl NoB w1).alloc _).cell p3 (fun f => f)
    have q0' : (w1.alloc (.cells #[.int .u8 k1, .string s1, .string s2, .int .i64 n1] 98)).cell? ⟨w.heap.size, 0, none⟩ = some (.int .u8 k1) := ((Keeps.refl NoB w1).alloc _).cell q0 (fun f => f)
    go_region_law
      (refine step_app_w rfl _ _ 84 98 _ 4 48 rfl Tryz.underlying84 infoRMove rfl (by decide) mv M.length (M.flatMap moveCells) rfl (OwnW.keeps HM1.o ((Keeps.refl NoB w1).drew.alloc _) (fun _ _ f => f)) ⟨w1.heap.size, 0, none⟩ 1 1 [.int .u8 k1, .string s1, .string s2, .int .i64 n1] rfl rfl (cells_new w1.drew _ _) (by intro u hu; simp at hu; rcases hu with rfl | rfl | rfl | rfl <;> rfl) (by omega) (by omega) ?_
       intro A6 c6 w6 hO6 hK6 hG6
       have HO6 := Sd.mk hO6
       have HK6 : Sd (Keeps (ownB mv) w1 w6) := ⟨((Keeps.refl (ownB mv) w1).drew.alloc _).trans hK6 (fun _ _ f => f) (fun _ _ f => f)⟩
       have HG6 : Sd (Grew w1 mv (.slice A6 (M.length + 1) c6)) := ⟨fun k hk => (hG6 k hk).imp id (fun h => by simp at h; omega)⟩
       have hb6 : w6.heap[b]? = _ := HK6.o.obj HH1.o (fun f => hmb _ f rfl)
       have f36 := blk_frozen hb6 3
       have p36 : w6.cell? ⟨b, 3, none⟩ = some mv := blk_cell hb6 3
       have HB6 := Sd.mk hb6
       have kbb := knd_cells hb6
       clear hO6 hK6 hG6 hb6)
    all_goals (
      go_wp2_with fail
      go_meet
      refine ⟨A6, c6, rfl, ⟨blk_set HB6.o 3 _⟩, ⟨?_⟩, HG6, ⟨?_⟩⟩
      · have e1 : (M ++ [x]).flatMap moveCells = M.flatMap moveCells ++ [.int .u8 k1, .string s1, .string s2, .int .i64 n1] := by rw [List.flatMap_append]; simp [HCL.o]
        have e2 : (M ++ [x]).length = M.length + 1 := by simp
        unfold RMovV
        rw [e1, e2]
        refine OwnW.keeps (F := OneB b) HO6.o ((Keeps.refl (OneB b) w6).setCell ⟨b, 3, none⟩ _ (fun _ => rfl)) (fun k hk f => ?_)
        cases f
        rw [OwnW.knd HO6.o hk] at kbb
        cases kbb
      · exact HK6.o.trans ((Keeps.refl (OneB b) w6).setCell ⟨b, 3, none⟩ _ (fun _ => rfl)) (fun _ _ f => .inr f) (fun _ _ f => .inl f))
  obtain ⟨A6, c6, rfl, HB7, HO7, HG7, HK7⟩ := hcut
  obtain ⟨w7, hw7⟩ : ∃ w7, w7 = wc := ⟨_, rfl⟩
  subst hw7
  have hgm7 : w7.heap[w.heap.size]? = _ := HK7.o.obj HB1.o (fun f => by
    rcases f with f | f
    · exact gb f.symm
    · exact gm f)
  have HGM7 := Sd.mk hgm7
  have HD7 : Sd (EntV w7 dv D) := ⟨OwnW.keeps HD1.o HK7.o (fun k hk f => by
    rcases f with f | f
    · exact hdb k hk f
    · exact hdm k hk f)⟩
  clear q0 q1 q2 q3 p3 f3 HB1 HH1 HM1 HD1 hmb hdb hdm
  have q0 : w7.cell? ⟨w.heap.size, 0, none⟩ = some (.int .u8 k1) := blk_cell hgm7 0
  have q1 : w7.cell? ⟨w.heap.size, 1, none⟩ = some (.string s1) := blk_cell hgm7 1
  have q2 : w7.cell? ⟨w.heap.size, 2, none⟩ = some (.string s2) := blk_cell hgm7 2
  have q3 : w7.cell? ⟨w.heap.size, 3, none⟩ = some (.int .i64 n1) := blk_cell hgm7 3
  have p1 : w7.cell? ⟨b, 1, none⟩ = some dv := blk_cell HB7.o 1
  have f1 := blk_frozen HB7.o 1
  clear hgm7
  go_upto_region 2 with fail
  go_cut [21] (fun sx wx => Sd (wx.heap[b]? = some (.cells #[c0, sx, c2, .slice A6 (M.length + 1) c6, c4, .int .i64 (ops : Nat), .int .i64 left, .bool off, c8] 86 (0, 0))) ∧ Sd (EntV wx sx (moved D x)) ∧ Sd (Fresh w7 sx) ∧ Sd (Keeps (OneB b) w7 wx))
  case first =>
    go_region_law
      (go_simp; go_at_call 34
       refine (HMO.o _ dv (OwnW.keeps HD7.o (Keeps.drewN (Keeps.refl NoB w7) 1) (fun _ _ f => f))).mono ?_
       rintro e w8 ⟨v8, rfl, hr8, hf8, hk8⟩
       obtain ⟨A8, q8, hv8, -, -⟩ := OwnW.slice hr8
       subst hv8
       have HR8 := Sd.mk hr8
       have HF8 : Sd (Fresh w7 (.slice A8 (moved D x).length q8)) := ⟨fun k hk => hf8 k hk⟩
       have HK8 : Sd (Keeps NoB w7 w8) := ⟨hk8.undrew⟩
       have hb8 : w8.heap[b]? = _ := HK8.o.obj HB7.o (fun f => f)
       have f18 := blk_frozen hb8 1
       have p18 : w8.cell? ⟨b, 1, none⟩ = some dv := blk_cell hb8 1
       have HB8 := Sd.mk hb8
       have hbl8 : b < w7.heap.size := (Array.getElem?_eq_some_iff.1 HB7.o).1
       clear hr8 hf8 hk8 hb8)
    all_goals (
      go_wp2_with fail
      go_meet
      refine ⟨⟨blk_set HB8.o 1 _⟩, ⟨?_⟩, HF8, ⟨?_⟩⟩
      · refine OwnW.keeps (F := OneB b) HR8.o ((Keeps.refl (OneB b) w8).setCell ⟨b, 1, none⟩ _ (fun _ => rfl)) (fun k hk f => ?_)
        cases f
        have := HF8.o _ hk
        omega
      · exact (HK8.o.mono (fun _ _ f => f.elim)).setCell ⟨b, 1, none⟩ _ (fun _ => rfl))
  obtain ⟨HB9, HD9, HF9, HK9⟩ := hcut
  obtain ⟨w9, hw9⟩ : ∃ w9, w9 = wc := ⟨_, rfl⟩
  subst hw9
  clear q0 q1 q2 q3 p1 f1
  have hcn := rcounts_any w9 b _ _ _ _ _ _ ops left off HB9.o ho hl
  rw [← HL2.o, ← HO2.o] at hcn
  have HCN := Sd.mk hcn
  clear hcn hl
  go_wp2_with (go_at_call 57; refine HCN.o.mono ?_; rintro e w10 ⟨rfl, hb10, hk10⟩; have HB10 := Sd.mk hb10; have HK10 := Sd.mk hk10; clear hb10 hk10)
  go_ret
  have hs1 := HK1.o.size
  have hs7 := HK7.o.size
  have hb7 := HB7.o
  have hmv7 : ∀ k, (Value.slice A6 (M.length + 1) c6).ownBlock = some k → k ≠ b := fun k hk e => by
    have h1 := OwnW.knd HO7.o hk
    rw [e, knd_cells hb7] at h1
    cases h1
  have hbl7 : b < w7.heap.size := (Array.getElem?_eq_some_iff.1 hb7).1
  refine ⟨rfl, _, _, HB10.o, OwnW.keeps HD9.o HK10.o (fun k hk f => ?_), OwnW.keeps (OwnW.keeps HO7.o HK9.o (fun k hk f => hmv7 k hk f)) HK10.o (fun k hk f => hmv7 k hk f), fun k hk => ?_, fun k hk => ?_, ?_⟩
  · have := HF9.o k hk
    have : k = b := f
    omega
  · exact Nat.le_trans hs1 (Nat.le_trans hs7 (HF9.o k hk))
  · rcases HG7.o k hk with h1 | h1
    · exact .inl h1
    · exact .inr (Nat.le_trans hs1 h1)
  · refine (HK1.o.trans HK7.o (fun _ _ f => f.elim) (fun _ _ f => f)).trans (HK9.o.trans HK10.o (fun _ _ f => f) (fun _ _ f => f)) (fun _ _ f => f) (fun _ _ f => .inl f)
end Go.Proofs.YtdjamijbhaplgaaGreat
namespace Go.Proofs.YtdjamijbhaplgaaGreat
open Go.RowKit

theorem nameChar_of {c : UInt8} {z : Int} (hz : (c.toNat : Int) = z) : nameChar c = ((decide (97 ≤ z) && decide (z ≤ 122)) || (decide (48 ≤ z) && decide (z ≤ 57)) || z == 46 || z == 45 || z == 95 || z == 47) := by
  subst hz
  have : ∀ n : Fin 256, nameChar (UInt8.ofNat n.val) = ((decide ((97 : Int) ≤ ((UInt8.ofNat n.val).toNat : Int)) && decide (((UInt8.ofNat n.val).toNat : Int) ≤ 122)) || (decide ((48 : Int) ≤ ((UInt8.ofNat n.val).toNat : Int)) && decide (((UInt8.ofNat n.val).toNat : Int) ≤ 57)) || ((UInt8.ofNat n.val).toNat : Int) == 46 || ((UInt8.ofNat n.val).toNat : Int) == 45 || ((UInt8.ofNat n.val).toNat : Int) == 95 || ((UInt8.ofNat n.val).toNat : Int) == 47) := by decide +kernel
  have h := this ⟨c.toNat, c.toNat_lt⟩
  simpa using h
set_option maxHeartbeats 2000000 in
theorem rcname_any (S : ByteArray) (hS : S.size ≤ 9223372036854775807) (w : World) : Calls Tryz.prog 87 #[.string S] w fun e w' => e = .returned (.int .i64 (nameE S.data.toList)) ∧ w = w' := by
  have hsz : S.data.toList.length = S.size := by rw [Array.length_toList]; rfl
  by_cases h0 : (S.size : Int) < 1
  · have hE : nameE S.data.toList = 20 := by
      unfold nameE nameOk
      rw [hsz, show decide (1 ≤ S.size) = false from decide_eq_false (by omega)]
      simp
    rw [hE]
    go_enter Tryz.func87, Tryz.ntmps87
    go_wp2
    all_goals (go_ret; exact ⟨rfl, rfl⟩)
  by_cases h1 : (64 : Int) < S.size
  · have hE : nameE S.data.toList = 20 := by
      unfold nameE nameOk
      rw [hsz, show decide (S.size ≤ 64) = false by simp; omega]
      simp
    rw [hE]
    go_enter Tryz.func87, Tryz.ntmps87
    go_wp2
    all_goals (go_ret; exact ⟨rfl, rfl⟩)
  have hmid : nameE S.data.toList = if S.data.toList.all nameChar then 0 else 20 := by
    unfold nameE nameOk
    rw [hsz, show decide (S.size ≤ 64) = true by simp; omega, show decide (1 ≤ S.size) = true by simp; omega]
    simp
  have HM := Sd.mk hmid
  clear hmid
  go_enter Tryz.func87, Tryz.ntmps87
  go_wp2_with fail
  go_loopg [3] S.size (fun gk i wr => ∃ (j : Nat), gk + j = S.size ∧ i = .int .i64 j ∧ Sd ((S.data.toList.take j).all nameChar = true) ∧ Sd (w = wr))
  case atStart => exact ⟨0, by omega, rfl, ⟨by simp⟩, ⟨rfl⟩⟩
  case round =>
    obtain ⟨j, hj, rfl, hno, ⟨rfl⟩⟩ := hrel
    by_cases hlt : j < S.size
    · have hq : (j : Int) < (S.size : Int) := by omega
      have hjl : j < S.data.toList.length := by omega
      have hget : S.data.toList[j] = S[j]'hlt := by rw [Array.getElem_toList]; rfl
      have hbad : Sd (nameChar (S[j]'hlt) = false → nameE S.data.toList = 20) := ⟨fun h => by
        rw [HM.o, if_neg]
        simp only [List.all_eq_true, Classical.not_forall]
        exact ⟨_, List.getElem_mem hjl, by rw [hget, h]; simp⟩⟩
      have hgood : Sd (nameChar (S[j]'hlt) = true → (S.data.toList.take (j + 1)).all nameChar = true) := ⟨fun h => by
        rw [List.take_succ_eq_append_getElem hjl, List.all_append, hno.o, hget]
        simp [h]⟩
      clear hget
      have hz2 : Sd ((((S[j]'hlt).toNat : Nat) : Int) = (((S[j]'hlt).toNat : Nat) : Int)) := ⟨rfl⟩
      generalize hc : ((((S[j]'hlt).toNat : Nat) : Int)) = z
      have HC := Sd.mk (nameChar_of hc)
      clear hz2
      go_wp2_with fail
      all_goals first
        | (go_ret
           exact ⟨by rw [hbad.o (by rw [HC.o]; clear HC hgood hbad hno HM; simp at *; omega)]; rfl, rfl⟩)
        | (go_roundg (gk - 1)
           case measure => omega
           case rel => exact ⟨j + 1, by omega, by go_num, ⟨hgood.o (by rw [HC.o]; clear HC hgood hbad hno HM; simp at *; omega)⟩, ⟨rfl⟩⟩)
    · have hq : ¬ (j : Int) < (S.size : Int) := by omega
      have hm : Sd (nameE S.data.toList = 0) := ⟨by
        have h := hno.o
        rw [List.take_of_length_le (by omega)] at h
        rw [HM.o, if_pos h]⟩
      go_wp2_with fail
      go_ret
      exact ⟨by rw [hm.o]; rfl, rfl⟩
end Go.Proofs.YtdjamijbhaplgaaGreat
namespace Go.Proofs.YtdjamijbhaplgaaGreat
open Go.RowKit Go.Maps Go.Lib

/-- Blocks of other kinds change. -/
theorem IsRS.keepsK {F : Nat → Prop} {w w' : World} {m : RMem} {s : FSt} (h : IsRS w m s) (k : Keeps F w w') (hF : ∀ i, F i → knd w i = 86 + 1 ∨ knd w i = 98 + 1) :
    PtrV w' m.fv (m.fs.map (·.fb)) ∧ (∀ i (h : i < m.fs.length), IsRF w' m.fs[i] (i + 1) (s.F.getD i noFile)) ∧ EntV w' m.dv s.D ∧ EntV w' m.sv s.S := by
  obtain ⟨k0, k1, k2, k3, k4, k5⟩ := h.kinds
  have ne : ∀ i t, knd w i = t + 1 → t ≠ 86 → t ≠ 98 → ¬ F i := fun i t hk h1 h2 f => by
    rcases hF i f with h3 | h3
    · rw [hk] at h3; exact h1 (by omega)
    · rw [hk] at h3; exact h2 (by omega)
  refine ⟨OwnW.keeps h.ptrs k (fun i hi => ne i _ (k1 i hi) (by decide) (by decide)), fun i hi => (h.file i hi).keeps k (fun j hj => ?_), OwnW.keeps h.names k (fun i hi => ne i _ (k2 i hi) (by decide) (by decide)), OwnW.keeps h.safe k (fun i hi => ne i _ (k3 i hi) (by decide) (by decide))⟩
  obtain ⟨a, b⟩ := k5 _ (List.getElem_mem hi)
  rcases hj with rfl | hj
  · exact ne _ _ a (by decide) (by decide)
  · exact ne _ _ (b j hj) (by decide) (by decide)
theorem rchange_fs (w : World) (m : RMem) (s : FSt) (x : MoveS) (h : IsRS w m s) (hd : (s.D.map (·.1)).Nodup) (hDl : s.D.length ≤ 1000000) (hMl : s.M.length ≤ 1000000000) (ho : s.ops ≤ 4611686018427387904) (hl : -1 ≤ s.left ∧ s.left ≤ 9223372036854775807) (hkd : x.kind = 99 ∨ x.kind = 100 ∨ x.kind = 114) :
    Calls Tryz.prog 88 #[.pointer (some ⟨m.b, 0, none⟩), .agg #[.int .u8 (x.kind : Nat), .string (sOf x.a), .string (sOf x.b), .int .i64 (x.n : Nat)]] w fun e w' => e = .returned (.int .i64 0) ∧ RsTo w m (s.change x) w' := by
  refine (rchange_any w m.b _ _ _ _ _ _ s.D s.M s.ops s.left s.off x h.blk h.names h.moves hd hDl hMl hkd ho hl).mono fun e w' ⟨he, dv', mv', hb, hD, hM, hf, hg, hk⟩ => ⟨he, ⟨m.b, m.fs, m.fv, dv', m.sv, mv'⟩, rfl, ?_, ?_, hk.mono (fun i _ f => ?_)⟩
  · obtain ⟨p1, p2, _, p4⟩ := h.keepsK hk (fun i f => by
      rcases f with rfl | f
      · exact .inl h.kinds.1
      · exact .inr (h.kinds.2.2.2.2.1 i f))
    refine ⟨hb, h.len, p1, p2, hD, p4, hM, h.apart, fun k hk1 hk2 => ?_⟩
    have := hf k hk1
    have := OwnW.lt h.safe hk2
    omega
  · intro k hk
    rcases hk with h1 | h1 | h1 | h1 | h1 | h1
    · exact .inl (.inl h1)
    · exact .inl (.inr (.inl h1))
    · exact .inr (hf k h1)
    · exact .inl (.inr (.inr (.inr (.inl h1))))
    · rcases hg k h1 with h2 | h2
      · exact .inl (.inr (.inr (.inr (.inr (.inl h2)))))
      · exact .inr h2
    · exact .inl (.inr (.inr (.inr (.inr (.inr h1)))))
  · rcases f with rfl | f
    · exact .inl rfl
    · exact .inr (.inr (.inr (.inr (.inl f))))
theorem nameE_or (a : List UInt8) : nameE a = 0 ∨ nameE a = 20 := by
  unfold nameE
  split
  · exact .inl rfl
  · exact .inr rfl
set_option maxHeartbeats 1000000 in
set_option maxRecDepth 100000 in
theorem ropen_fs (w : World) (m : RMem) (s : FSt) (h : IsRS w m s) (hDl : s.D.length ≤ 1000000) (S : ByteArray) (hS : S.size ≤ 9223372036854775807) :
    Calls Tryz.prog 47 #[.pointer (some ⟨m.b, 0, none⟩), .string S] w fun e w' => e = .returned (.tuple #[.int .i64 (s.opened S.data.toList).1, .int .i64 (s.opened S.data.toList).2]) ∧ Keeps NoB w w' := by
  have c7 := h.c.2.2.2.2.2.2.2.1
  have c1 := h.c.2.1
  obtain ⟨A, c, hv, _, _⟩ := OwnW.slice h.names
  have H := Sd.mk h
  have HV := Sd.mk hv
  have hrow := h.names
  rw [hv] at c1 hrow
  have HCN := Sd.mk (rcname_any S hS)
  have HRA := Sd.mk (rat_any w _ s.D hrow (by omega) S)
  have HROW := Sd.mk hrow
  clear h hv hrow
  obtain ⟨R, hR⟩ : ∃ R, R = s.opened S.data.toList := ⟨_, rfl⟩
  rw [← hR]
  unfold FSt.opened FSt.named1 at hR
  have HR := Sd.mk hR
  clear hR
  cases hoff : s.off with
  | true =>
    rw [hoff] at c7
    have HR2 : Sd (R = (0, 21)) := ⟨by rw [HR.o, hoff]; rfl⟩
    clear HR hoff
    go_enter Tryz.func47, Tryz.ntmps47
    go_wp2
    go_ret2
    exact ⟨by rw [HR2.o]; rfl, Keeps.refl _ _⟩
  | false =>
    rw [hoff] at c7
    rcases nameE_or S.data.toList with hn | hn
    · rw [hn] at HCN
      cases hat : atN s.D S.data.toList with
      | none =>
        rw [atI_none hat] at HRA
        have HR2 : Sd (R = (0, 7)) := ⟨by rw [HR.o, hoff, hn]; simp [Dir.at_, (atN_none hat).1]⟩
        clear HR hoff hn hat
        go_enter Tryz.func47, Tryz.ntmps47
        go_wp2_with (first | (go_at_call 87; refine (HCN.o _).mono ?_; rintro e w' ⟨rfl, rfl⟩) | (go_at_call 76; refine HRA.o.mono ?_; rintro e w2 ⟨rfl, hk⟩; have HK := Sd.mk hk; clear hk))
        go_ret2
        exact ⟨by rw [HR2.o]; rfl, HK.o⟩
      | some i =>
        rw [atI_some hat] at HRA
        obtain ⟨hi, -, hi2⟩ := atN_some hat
        have HR2 : Sd (R = ((((s.D[i]).2 : Nat) : Int), 0)) := ⟨by rw [HR.o, hoff, hn]; simp [Dir.at_, hi2]⟩
        have hi3 : ¬ (i : Int) < 0 := by omega
        have hi0 : (0 : Int) ≤ (i : Int) := by omega
        have hil : (i : Int) < (s.D.length : Int) := by omega
        clear HR hoff hn hat hi2
        go_enter Tryz.func47, Tryz.ntmps47
        go_wp2_with (first | (go_at_call 87; refine (HCN.o _).mono ?_; rintro e w' ⟨rfl, rfl⟩) | (go_at_call 76; refine HRA.o.mono ?_; rintro e w2 ⟨rfl, hk⟩; have HK := Sd.mk hk; obtain ⟨g, cc, e, p0, p1⟩ := EntV.get (OwnW.keeps HROW.o hk (fun _ _ f => f)) hi; cases e; have c12 := hk.cell c1 (fun f => f); clear hk))
        go_ret2
        exact ⟨by rw [HR2.o]; rfl, HK.o⟩
    · rw [hn] at HCN
      have HR2 : Sd (R = (0, 20)) := ⟨by rw [HR.o, hoff, hn]; rfl⟩
      clear HR hoff hn
      go_enter Tryz.func47, Tryz.ntmps47
      go_wp2_with (go_at_call 87; refine (HCN.o _).mono ?_; rintro e w' ⟨rfl, rfl⟩)
      go_ret2
      exact ⟨by rw [HR2.o]; rfl, Keeps.refl _ _⟩
theorem RsTo.after {w w1 w2 : World} {m : RMem} {s' : FSt} (k : Keeps NoB w w1) (h : RsTo w1 m s' w2) : RsTo w m s' w2 :=
  RsTo.trans rfl (fun _ h => .inl h) (k.mono (fun _ _ f => f.elim)) h
end Go.Proofs.YtdjamijbhaplgaaGreat
