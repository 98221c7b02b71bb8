/- The document's file system: Create. -/
import Derived.Test.YtlhhcoijkjcneaaGreatRfI
namespace Go.Proofs.YtlhhcoijkjcneaaGreat
open Go.RowKit Go.Maps Go.Lib

theorem heap_size_alloc (w : World) (o : Obj) : (w.alloc o).heap.size = w.heap.size + 1 := by show (w.heap.push _).size = _; simp
set_option maxHeartbeats 4000000 in
set_option maxRecDepth 100000 in
theorem rcreate_fs (w : World) (m : RMem) (s : FSt) (N : Nat) (h : IsRS w m s) (inv : Inv N s) (hN : N ≤ 900000000) (S : ByteArray) (hS : S.size ≤ 9223372036854775807) :
    Calls Tryz.prog 44 #[.pointer (some ⟨m.b, 0, none⟩), .string S] w fun e w' => e = .returned (.tuple #[.int .i64 (s.create S.data.toList).1, .int .i64 (s.create S.data.toList).2.1]) ∧ RsTo w m (s.create S.data.toList).2.2 w' := by
  have c7 := h.c.2.2.2.2.2.2.2.1
  have c1 := h.c.2.1
  have hDl := inv.ok.len
  have hMl := inv.lim.moves
  have hol := inv.lim.ops
  have hFl := inv.lim.files
  have hSame := Sd.mk (RsTo.same h (Keeps.refl NoB w))
  have HSK : Sd (∀ wx, Keeps NoB w wx → RsTo w m s wx) := ⟨fun wx k => RsTo.same h k⟩
  have HRA := Sd.mk (rat_any w _ s.D h.names (by omega) S)
  have hch := fun wx (k : RsTo w m { s with F := s.F ++ [noFile] } wx) => (show Calls Tryz.prog 80 #[.pointer (some ⟨m.b, 0, none⟩), .agg #[.int .u8 99, .string (sOf S.data.toList), .string (sOf []), .int .i64 ((s.F.length + 1 : Nat) : Int)]] wx fun e w' => e = .returned (.int .i64 0) ∧ RsTo w m (FSt.change { s with F := s.F ++ [noFile] } ⟨99, S.data.toList, [], s.F.length + 1⟩) w' from by
    obtain ⟨m1, hb1, hi1, hg1, hk1⟩ := k
    rw [← hb1]
    exact (rchange_fs wx m1 { s with F := s.F ++ [noFile] } ⟨99, S.data.toList, [], s.F.length + 1⟩ hi1 inv.ok.dirD.names (show s.D.length ≤ 1000000 by omega) (show s.M.length ≤ 1000000000 by omega) (show s.ops ≤ 4611686018427387904 by omega) inv.ok.left (.inl rfl)).mono fun e w' ⟨he, hr⟩ => ⟨he, RsTo.trans hb1 hg1 hk1 hr⟩)
  rw [sOf_eq] at hch
  have HCH : Sd (∀ wx (_ : RsTo w m { s with F := s.F ++ [noFile] } wx), Calls Tryz.prog 80 #[.pointer (some ⟨m.b, 0, none⟩), .agg #[.int .u8 99, .string S, .string ⟨#[]⟩, .int .i64 ((s.F.length : Int) + 1)]] wx fun e w' => e = .returned (.int .i64 0) ∧ RsTo w m (FSt.change { s with F := s.F ++ [noFile] } ⟨99, S.data.toList, [], s.F.length + 1⟩) w') := ⟨hch⟩
  have HCN := Sd.mk (rcname_any S hS)
  obtain ⟨A, c, hv, _, _⟩ := OwnW.slice h.names
  obtain ⟨Af, cf, hfv, _, _⟩ := OwnW.slice h.ptrs
  have hL : (m.fs.map (·.fb)).length = s.F.length := by rw [List.length_map, h.len]
  rw [hL] at hfv
  have c0 := h.c.1
  rw [hfv] at c0
  rw [hv] at c1 HRA
  have HP : Sd (∀ wx, Keeps NoB w wx → OwnW wx 47 1 (.slice Af s.F.length cf) s.F.length ((m.fs.map (·.fb)).flatMap ptrCells)) := ⟨fun wx k => by
    have := OwnW.keeps h.ptrs k (fun _ _ f => f)
    rw [hfv, hL] at this
    exact this⟩
  have HH := Sd.mk h
  have HFV := Sd.mk hfv
  have HL := Sd.mk hL
  have HLN := Sd.mk h.len
  have hfl : (s.F.length : Int) ≤ 900000000 := by omega
  clear h hv hch inv hMl hol hFl hfv hL
  obtain ⟨R, hR⟩ : ∃ R, R = s.create S.data.toList := ⟨_, rfl⟩
  rw [← hR]
  unfold FSt.create FSt.named1 at hR
  have HR := Sd.mk hR
  clear hR
  cases hoff : s.off with
  | true =>
    rw [hoff] at c7
    have HR2 : Sd (R = (0, 21, s)) := ⟨by rw [HR.o, hoff]; rfl⟩
    clear HR hoff
    go_enter Tryz.func44, Tryz.ntmps44
    go_wp2
    go_ret2
    exact ⟨by rw [HR2.o]; rfl, by rw [HR2.o]; exact hSame.o⟩
  | false =>
    rw [hoff] at c7
    rcases nameE_or S.data.toList with hn | hn
    · rw [hn] at HCN
      cases hat : atN s.D S.data.toList with
      | none =>
        rw [atI_none hat] at HRA
        have hnone : s.D.lookup S.data.toList = none := (atN_none hat).1
        by_cases hmany : 4096 ≤ s.D.length
        · have HR2 : Sd (R = (0, 6, s)) := ⟨by rw [HR.o, hoff, hn]; simp [Dir.at_, hnone, hmany]⟩
          have hm2 : (4096 : Int) ≤ (s.D.length : Int) := by omega
          clear HR hoff hn hat hnone hmany
          go_enter Tryz.func44, Tryz.ntmps44
          go_wp2_with (first | (go_at_call 78; refine (HCN.o _).mono ?_; rintro e w' ⟨rfl, rfl⟩) | (go_at_call 79; refine HRA.o.mono ?_; rintro e w2 ⟨rfl, hk⟩; have HK := Sd.mk hk; have d1 := hk.cell c1 (fun f => f); clear hk))
          go_ret2
          exact ⟨by rw [HR2.o]; rfl, by rw [HR2.o]; exact HSK.o _ HK.o⟩
        · have HR2 : Sd (R = ((s.F.length : Int) + 1, 0, FSt.change { s with F := s.F ++ [noFile] } ⟨99, S.data.toList, [], s.F.length + 1⟩)) := ⟨by rw [HR.o, hoff, hn]; simp [Dir.at_, hnone, hmany]⟩
          have hm2 : ¬ (4096 : Int) ≤ (s.D.length : Int) := by omega
          clear HR hoff hn hat hnone hmany
          go_enter Tryz.func44, Tryz.ntmps44
          go_wp2_with (first
            | (go_at_call 78; refine (HCN.o _).mono ?_; rintro e w' ⟨rfl, rfl⟩) | (go_at_call 79; refine HRA.o.mono ?_; rintro e w2 ⟨rfl, hk⟩; have HK := Sd.mk hk; have d1 := hk.cell c1 (fun f => f); have d0 := hk.cell c0 (fun f => f); have HH2 := Sd.mk (HH.o.kept hk); clear hk)
            | (at_builtin; go_must (refine appw_any rfl _ _ 33 47 _ 1 8 rfl Tryz.underlying33 infoRPtr rfl (by decide) (.slice Af s.F.length cf) s.F.length ((m.fs.map (·.fb)).flatMap ptrCells) rfl (HP.o _ ((HK.o.alloc _).alloc _)) (some ⟨_, 0, none⟩) 1 1 [.pointer (some ⟨w2.heap.size, 0, none⟩)] rfl rfl (fun j u hj => ⟨_, rfl, by have hz := heap_size_alloc w2 (.cells #[.int .i64 ((s.F.length : Int) + 1), .string ⟨#[]⟩, .slice none 0 0, .string ⟨#[]⟩] 46); rw [← hz]; exact cells_new _ _ _ j u hj⟩) (by intro u hu; simp at hu; subst hu; rfl) (by omega) (by omega) ?_); intro A9 q9 w9 HO HK9 HG9
               have hb9 : w9.heap[m.b]? = some (.cells (rsCells m s) 37 (0, 0)) := HK9.obj ((((Keeps.refl NoB w2).alloc _).alloc _).obj HH2.o.blk (fun f => f)) (fun f => by
                 have h1 := HH2.o.kinds.2.1 m.b (by rw [HFV.o]; exact f)
                 rw [HH2.o.kinds.1] at h1
                 exact absurd h1 (by decide))
               have f90 := blk_frozen hb9 0
               have e90 : w9.cell? ⟨m.b, 0, none⟩ = some (.slice Af s.F.length cf) := (blk_cell hb9 0).trans (by rw [← HFV.o]; rfl)
               have HRS := Sd.mk (rs_newfile (n := s.F.length + 1) HH2.o (by rw [HLN.o]) (by rw [HL.o]) HO (by rw [HFV.o]; exact HK9) (by rw [HFV.o]; exact HG9))
               clear HO HK9 HG9 hb9)
            | (go_at_call 80; refine (HCH.o _ (RsTo.after HK.o HRS.o)).mono ?_; rintro e w10 ⟨rfl, hr⟩; have HR3 := Sd.mk hr; clear hr))
          go_ret2
          exact ⟨by rw [HR2.o]; rfl, by rw [HR2.o]; exact HR3.o⟩
      | some i =>
        rw [atI_some hat] at HRA
        obtain ⟨hi, -, hi2⟩ := atN_some hat
        have HR2 : Sd (R = (0, 8, s)) := ⟨by rw [HR.o, hoff, hn]; simp [Dir.at_, hi2]⟩
        have hi3 : (0 : Int) ≤ (i : Int) := by omega
        clear HR hoff hn hat hi2
        go_enter Tryz.func44, Tryz.ntmps44
        go_wp2_with (first | (go_at_call 78; refine (HCN.o _).mono ?_; rintro e w' ⟨rfl, rfl⟩) | (go_at_call 79; refine HRA.o.mono ?_; rintro e w2 ⟨rfl, hk⟩; have HK := Sd.mk hk; clear hk))
        go_ret2
        exact ⟨by rw [HR2.o]; rfl, by rw [HR2.o]; exact HSK.o _ HK.o⟩
    · rw [hn] at HCN
      have HR2 : Sd (R = (0, 20, s)) := ⟨by rw [HR.o, hoff, hn]; rfl⟩
      clear HR hoff hn
      go_enter Tryz.func44, Tryz.ntmps44
      go_wp2_with (go_at_call 78; refine (HCN.o _).mono ?_; rintro e w' ⟨rfl, rfl⟩)
      go_ret2
      exact ⟨by rw [HR2.o]; rfl, by rw [HR2.o]; exact hSame.o⟩
end Go.Proofs.YtlhhcoijkjcneaaGreat
