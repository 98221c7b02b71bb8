/- simfs: Create, Rename, Remove. -/
import Derived.Test.YtdjamijbhaplgaaGreatGkam
namespace Go.Proofs.YtdjamijbhaplgaaGreat
open Go.RowKit Go.Maps Go.Lib

theorem create_nil (w : World) (S : ByteArray) : Calls Tryz.prog 84 #[.pointer none, .string S] w fun e w' => e = .returned (.tuple #[.int .i64 0, .int .i64 7]) ∧ Keeps NoB w w' := by
  go_enter Tryz.func84, Tryz.ntmps84
  go_wp2_with (go_at_call 83; refine (named_nil _ _).mono ?_; rintro e w' ⟨rfl, rfl⟩)
  go_ret2
  exact ⟨rfl, (Keeps.refl NoB w).alloc _⟩
set_option maxHeartbeats 8000000 in
set_option maxRecDepth 100000 in
theorem create_fs (w : World) (m : FsMem) (s : FSt) (N : Nat) (h : IsFS w m s) (inv : Inv N s) (hN : N ≤ 900000000) (S : ByteArray) (hS : S.size ≤ 9223372036854775807) :
    Calls Tryz.prog 84 #[.pointer (some ⟨m.b, 0, none⟩), .string S] w fun e w' => e = .returned (.tuple #[.int .i64 (s.create S.data.toList).1, .int .i64 (s.create S.data.toList).2.1]) ∧ FsTo w m (s.create S.data.toList).2.2 w' := by
  have HNM := Sd.mk (named_one w m.b s.off h.c.2.2.2.2.2.2.2.2 S hS)
  obtain ⟨R, hR⟩ : ∃ R, R = s.create S.data.toList := ⟨_, rfl⟩
  rw [← hR]
  obtain ⟨t, ht⟩ : ∃ t, t = s.named1 S.data.toList := ⟨_, rfl⟩
  have HNM2 : Sd (Calls Tryz.prog 83 #[.pointer (some ⟨m.b, 0, none⟩), .slice (some ⟨w.heap.size, 0, none⟩) 1 1] (w.alloc (.cells #[.string S] 9)) fun e w' => e = .returned (.int .i64 t) ∧ w.alloc (.cells #[.string S] 9) = w') := ⟨by rw [ht]; exact HNM.o⟩
  have hk1 : Keeps NoB w (w.alloc (.cells #[.string S] 9)) := (Keeps.refl NoB w).alloc _
  have h1 := h.kept hk1
  have c2 := h1.c.2.2.1
  have hlook := h1.names.look S hS
  have hnl := h1.names.len 3
  have HR : Sd (R = if t ≠ 0 then ((0 : Int), t, s) else if (s.D.lookup S.data.toList).isSome then (0, 8, s) else if 4096 ≤ s.D.length then (0, 6, s) else (((s.F.length + 1 : Nat) : Int), 0, FSt.change { s with F := s.F ++ [noFile] } ⟨99, S.data.toList, [], s.F.length + 1⟩)) := ⟨by rw [hR, ht]; rfl⟩
  have HT := Sd.mk ht
  have H := Sd.mk h
  have H1 := Sd.mk h1
  have HI := Sd.mk inv
  have HK1 := Sd.mk hk1
  clear h h1 hR HNM ht inv hk1
  by_cases ht0 : t = 0
  case neg =>
    have hb : (t != 0) = true := by simpa using ht0
    have hfin : Sd (R = (0, t, s)) := ⟨by rw [HR.o, if_pos ht0]⟩
    go_enter Tryz.func84, Tryz.ntmps84
    go_wp2_with (go_at_call 83; refine HNM2.o.mono ?_; rintro e w' ⟨rfl, rfl⟩)
    go_ret2
    rw [hfin.o]
    exact ⟨rfl, FsTo.same H.o HK1.o⟩
  have hb : (t != 0) = false := by simp [ht0]
  cases hl : s.D.lookup S.data.toList with
  | some n =>
    rw [hl] at hlook HR
    have hfin : Sd (R = (0, 8, s)) := ⟨by rw [HR.o, if_neg (fun h => h ht0)]; rfl⟩
    go_enter Tryz.func84, Tryz.ntmps84
    go_wp2_with (go_at_call 83; refine HNM2.o.mono ?_; rintro e w' ⟨rfl, rfl⟩)
    go_ret2
    rw [hfin.o]
    exact ⟨rfl, FsTo.same H.o HK1.o⟩
  | none =>
  rw [hl] at hlook HR
  have HL := Sd.mk hl
  clear hl
  by_cases hmany : 4096 ≤ s.D.length
  · have hfin : Sd (R = (0, 6, s)) := ⟨by rw [HR.o, if_neg (fun h => h ht0), if_neg (by simp), if_pos hmany]⟩
    have hq : decide ((4096 : Int) ≤ (s.D.length : Int)) = true := by simp; omega
    go_enter Tryz.func84, Tryz.ntmps84
    go_wp2_with (first | (go_at_call 83; refine HNM2.o.mono ?_; rintro e w' ⟨rfl, rfl⟩) | (at_len; refine wpList_plain rfl fun K' hK' => ?_; unfold Oper.wp; simp [execOp, resolve, invoke, builtin, Act.eval, H1.o.names.len, Result.andThen]; refine hK' _ _ ?_))
    go_ret2
    rw [hfin.o]
    exact ⟨rfl, FsTo.same H.o HK1.o⟩
  have hq : decide ((4096 : Int) ≤ (s.D.length : Int)) = false := by simp; omega
  obtain ⟨S1, hS1⟩ : ∃ S1 : FSt, S1 = { s with F := s.F ++ [noFile] } := ⟨_, rfl⟩
  obtain ⟨n, hn⟩ : ∃ n, n = s.F.length + 1 := ⟨_, rfl⟩
  have hfin : Sd (R = (((n : Nat) : Int), 0, S1.change ⟨99, S.data.toList, [], n⟩)) := ⟨by rw [HR.o, if_neg (fun h => h ht0), if_neg (by simp), if_neg hmany, hS1, hn]⟩
  have hFl := HI.o.lim.files
  have c1 := H1.o.c.2.1
  have c0 := H1.o.c.1
  have f1 := blk_frozen H1.o.blk 1
  have HS1 := Sd.mk hS1
  have HNE := Sd.mk hn
  obtain ⟨w1, hw1⟩ : ∃ w1, w1 = w.alloc (.cells #[.string S] 9) := ⟨_, rfl⟩
  have HW1 := Sd.mk hw1
  have hn2 : n ≤ 900000001 := by omega
  have hnF : ((s.F.length : Nat) : Int) + 1 = (n : Nat) := by omega
  have HNF := Sd.mk hnF
  clear hS1 hn hmany hw1 hnF
  go_enter Tryz.func84, Tryz.ntmps84
  go_upto_region 10 with (first | (go_at_call 83; refine HNM2.o.mono ?_; rintro e w' ⟨rfl, rfl⟩) | (at_len; refine wpList_plain rfl fun K' hK' => ?_; unfold Oper.wp; simp [execOp, resolve, invoke, builtin, Act.eval, H1.o.names.len, Result.andThen]; refine hK' _ _ ?_))
  rw [HNF.o, ← HW1.o]
  obtain ⟨w2, hw2⟩ : ∃ w2, w2 = w1.setCell ⟨m.b, 1, none⟩ (.int .i64 (n : Nat)) := ⟨_, rfl⟩
  rw [← hw2]
  have H1' : Sd (IsFS w1 m s) := ⟨HW1.o ▸ H1.o⟩
  have hb2 : w2.heap[m.b]? = some (.cells (fsCells m S1) 81 (0, 0)) := by
    rw [hw2]
    refine (blk_set H1'.o.blk 1 _).trans ?_
    rw [HS1.o, HNE.o]
    simp [fsCells]
  have hk2 : Keeps (OneB m.b) w1 w2 := by rw [hw2]; exact (Keeps.refl (OneB m.b) w1).setCell ⟨m.b, 1, none⟩ _ (fun _ => rfl)
  have hm2 : MapF w2 m.mf (s.F.length + 4096) (fun j => (m.g j).map (·.fb)) := (H1'.o.names_keep hk2 (fun i hi => by cases hi; rfl)).2.1
  have HK2 := Sd.mk hk2
  have HB2 := Sd.mk hb2
  have HM2 := Sd.mk hm2
  have HW2 := Sd.mk hw2
  clear hk2 hb2 hm2 hw2 c0 c1 f1 c2 hlook hnl
  have p0 : w2.cell? ⟨m.b, 0, none⟩ = some (.map (some m.mf)) := blk_cell HB2.o 0
  have p1 : w2.cell? ⟨m.b, 1, none⟩ = some (.int .i64 (n : Nat)) := by
    rw [HW2.o]
    exact blk_cell (blk_set H1'.o.blk 1 _) 1
  go_cut [48] (fun sx wx => ∃ fb : Nat, sx = .pointer (some ⟨fb, 0, none⟩) ∧ w1.heap.size ≤ fb ∧ Sd (wx.heap[fb]? = some (.cells #[.slice none 0 0, .slice none 0 0, .slice none 0 0] 111 (0, 0))) ∧
    Sd (MapF wx m.mf (s.F.length + 4096 + 1) (fun j => if j = n then some fb else (m.g j).map (·.fb))) ∧ Sd (Keeps (OneB m.mf) w2 wx))
  case first =>
    have p0' : (w2.alloc (.cells #[.slice none 0 0, .slice none 0 0, .slice none 0 0] 111)).cell? ⟨m.b, 0, none⟩ = some (.map (some m.mf)) := ((Keeps.refl NoB w2).alloc _).cell p0 (fun f => f)
    have p1' : (w2.alloc (.cells #[.slice none 0 0, .slice none 0 0, .slice none 0 0] 111)).cell? ⟨m.b, 1, none⟩ = some (.int .i64 (n : Nat)) := ((Keeps.refl NoB w2).alloc _).cell p1 (fun f => f)
    obtain ⟨w3, hput, hm3, hk3⟩ := (HM2.o.keeps ((Keeps.refl NoB w2).alloc (.cells #[.slice none 0 0, .slice none 0 0, .slice none 0 0] 111)).drew (fun f => f)).put n w2.heap.size (by omega) (by omega)
    have HM3 := Sd.mk hm3
    have HK3 := Sd.mk hk3
    clear hm3 hk3
    go_region_law (fail)
    all_goals (
      go_wp2_with fail
      go_meet
      have hka : Keeps (OneB m.mf) w2 w3 := ((Keeps.refl (OneB m.mf) w2).alloc _).drew.trans HK3.o (fun _ _ f => f) (fun _ _ f => f)
      have hmlt := HM2.o.lt
      refine ⟨w2.heap.size, rfl, HK2.o.size, ⟨HK3.o.obj (heap_alloc_new w2.drew _) (fun f => ?_)⟩, HM3, ⟨hka⟩⟩
      have f3 : w2.heap.size = m.mf := f
      omega)
  obtain ⟨fb, rfl, hfb, HF3, HM3, HK3⟩ := hcut
  obtain ⟨w3, hw3⟩ : ∃ w3, w3 = wc := ⟨_, rfl⟩
  subst hw3
  obtain ⟨m1, hm1⟩ : ∃ m1 : FsMem, m1 = { m with g := fun j => if j = s.F.length + 1 then some ⟨fb, .slice none 0 0, .slice none 0 0, .slice none 0 0⟩ else m.g j } := ⟨_, rfl⟩
  have hk13 : Keeps (fun i => i = m.b ∨ i = m.mf) w1 w3 := HK2.o.trans HK3.o (fun _ _ f => .inl f) (fun _ _ f => .inr f)
  have hmfb : m.b ≠ m.mf := fun e => by
    have h1 := H1'.o.kinds.1
    rw [e, H1'.o.kinds.2.1] at h1
    exact absurd h1 (by decide)
  have hFS : IsFS w3 m1 S1 := by
    rw [hm1, HS1.o]
    refine H1'.o.newFile fb hfb HF3.o ?_ ((HNE.o ▸ HM3.o).mono (by omega)) hk13
    rw [← HS1.o]
    exact HK3.o.obj HB2.o hmfb
  have hInv : Inv (N + 1) S1 := by rw [HS1.o]; exact HI.o.newFile
  have hgr : Grows w1 m m1 := by
    refine ⟨fun k hk => ?_, fun k hk => ?_⟩
    rotate_left
    · rw [hm1] at hk
      obtain ⟨j, f, hg, hd⟩ := hk
      dsimp only at hg
      split at hg
      · cases hg
        rcases hd with e | e <;> cases e
      · exact .inl ⟨j, f, hg, hd⟩
    rw [hm1] at hk
    rcases hk with rfl | rfl | rfl | rfl | hk | ⟨j, f, hg, hk⟩
    · exact .inl (.inl rfl)
    · exact .inl (.inr (.inl rfl))
    · exact .inl (.inr (.inr (.inl rfl)))
    · exact .inl (.inr (.inr (.inr (.inl rfl))))
    · exact .inl (.inr (.inr (.inr (.inr (.inl hk)))))
    · dsimp only at hg
      split at hg
      · cases hg
        rcases hk with rfl | hk
        · exact .inr hfb
        · simp [Value.ownBlock] at hk
      · exact .inl (.inr (.inr (.inr (.inr (.inr ⟨j, f, hg, hk⟩)))))
  have hS1F : S1.F.length = n := by rw [HS1.o, HNE.o]; simp
  have hS1D : S1.D = s.D := by rw [HS1.o]
  have hnone : s.D.lookup S.data.toList = none := HL.o
  have hm1b : m1.b = m.b := by rw [hm1]
  have HCH : Sd (∀ wx, Keeps NoB w3 wx → Calls Tryz.prog 107 #[.pointer (some ⟨m.b, 0, none⟩), .agg #[.int .u8 99, .string S, .string ⟨#[]⟩, .int .i64 n]] wx fun e w' => e = .returned (.int .i64 0) ∧ FsTo w m (S1.change ⟨99, S.data.toList, [], n⟩) w' ∧ w'.cell? ⟨m.b, 1, none⟩ = some (.int .i64 (n : Nat))) := ⟨fun wx hk => by
    have hch := changes_fs wx m1 S1 (N + 1) (hFS.kept hk) hInv (by omega) ⟨99, S.data.toList, [], n⟩ (.inl ⟨rfl, by rw [hS1D]; exact hnone, fun e he => by
      rw [hS1D] at he
      have := (HI.o.ok.dirD.low e he).2
      dsimp only
      rw [HNE.o]; omega, by dsimp only; rw [HNE.o]; omega, by dsimp only; omega⟩) (fun _ => by rw [hm1]; dsimp only; rw [if_pos HNE.o]; rfl) ⟨by dsimp only; rw [Array.length_toList]; exact hS, by simp⟩
    have e1 : (moveCells ⟨99, S.data.toList, [], n⟩).toArray = #[.int .u8 99, .string S, .string ⟨#[]⟩, .int .i64 n] := by
      simp only [moveCells, sOf_eq]
      rfl
    rw [hm1b, e1] at hch
    refine hch.mono fun e w' ⟨he, hf⟩ => ⟨he, ?_, ?_⟩
    · refine FsTo.trans (s1 := S1) (m1 := m1) hm1b (w1 := wx) ⟨fun k hk' => (hgr.1 k hk').imp id (fun h1 => Nat.le_trans (by rw [HW1.o]; simp) h1), fun k hk' => (hgr.2 k hk').imp id (fun h1 => Nat.le_trans (by rw [HW1.o]; simp) h1)⟩ (((HK1.o).trans (HW1.o ▸ hk13) (H := FsMem.O m) (fun _ _ f => f.elim) (fun i _ f => f.elim (fun e => .inl e) (fun e => .inr (.inl e)))).trans hk (fun _ _ f => f) (fun _ _ f => f.elim)) hf
    · obtain ⟨m2, hb2, hi2, _⟩ := hf
      have := hi2.c.2.1
      rw [hb2, hm1b] at this
      rw [this]
      simp only [FSt.change, FSt.counts]
      rw [hS1F]⟩
  have q1 : w3.cell? ⟨m.b, 1, none⟩ = some (.int .i64 (n : Nat)) := HK3.o.cell p1 hmfb
  clear hFS hInv hgr hm1 hk13 p0 p1 hnone hS1D hS1F
  go_upto_region 11 with fail
  go_cut [4, 5] (fun sx sy wx => sx = .int .i64 (n : Nat) ∧ sy = .int .i64 0 ∧ Sd (FsTo w m (S1.change ⟨99, S.data.toList, [], n⟩) wx))
  case first =>
    go_region_law
      (go_simp; go_at_call 107
       refine (HCH.o _ (Keeps.drewN (Keeps.refl NoB w3) 1)).mono ?_
       rintro e w4 ⟨rfl, hf4, hc4⟩
       have HF4 := Sd.mk hf4
       clear hf4)
    all_goals (
      go_wp2_with fail
      go_meet
      exact ⟨rfl, rfl, HF4⟩)
  obtain ⟨rfl, rfl, HF4⟩ := hcut
  go_wp2_with fail
  go_ret2
  rw [hfin.o]
  exact ⟨rfl, HF4.o⟩
end Go.Proofs.YtdjamijbhaplgaaGreat
