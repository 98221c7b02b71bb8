/- The document's file system: Create, SyncDir, Arm, SetCapacity. -/
import Derived.Test.YtdjamijbhaplgaaGreatGkat
namespace Go.Proofs.YtdjamijbhaplgaaGreat
open Go.RowKit Go.Maps Go.Lib

theorem infoRPtr : (Tryz.prog.info? 99).map (fun i => (i.zero, i.size, i.bytes)) = some (some (.pointer none), 1, 8) := by kernel_rfl
theorem ptrFlat (l : List Nat) : (l.flatMap ptrCells).length = l.length * 1 := flat_len (size := 1) (fun _ => rfl) l
/-- A file has been made. -/
theorem rs_newfile {w w6 : World} {m : RMem} {s : FSt} (h : IsRS w m s) {n : Nat} {A' : Option Addr} {c' k : Nat} {o : Obj} (hn : n = m.fs.length + 1) (hk : k = (m.fs.map (·.fb)).length + 1)
    (hO : OwnW w6 99 1 (.slice A' k c') k ((m.fs.map (·.fb)).flatMap ptrCells ++ [.pointer (some ⟨w.heap.size, 0, none⟩)]))
    (hK : Keeps (ownB m.fv) ((w.alloc (.cells #[.int .i64 (n : Nat), .string ⟨#[]⟩, .slice none 0 0, .string ⟨#[]⟩] 102)).alloc o) w6) (hG : Grew ((w.alloc (.cells #[.int .i64 (n : Nat), .string ⟨#[]⟩, .slice none 0 0, .string ⟨#[]⟩] 102)).alloc o) m.fv (.slice A' k c')) :
    RsTo w m { s with F := s.F ++ [noFile] } (w6.setCell ⟨m.b, 0, none⟩ (.slice A' k c')) := by
  obtain ⟨W1, hW1⟩ : ∃ W1, W1 = w.alloc (.cells #[.int .i64 (n : Nat), .string ⟨#[]⟩, .slice none 0 0, .string ⟨#[]⟩] 102) := ⟨_, rfl⟩
  rw [← hW1] at hK hG
  have k1 : Keeps NoB w W1 := by rw [hW1]; exact (Keeps.refl NoB w).alloc _
  have k2 : Keeps NoB w (W1.alloc o) := k1.alloc o
  have hf1 : W1.heap[w.heap.size]? = some (.cells #[.int .i64 (n : Nat), .string ⟨#[]⟩, .slice none 0 0, .string ⟨#[]⟩] 102 (0, 0)) := by rw [hW1]; exact heap_alloc_new w _
  have hs1 : W1.heap.size = w.heap.size + 1 := by rw [hW1]; show (w.heap.push _).size = _; simp
  have hs2 : (W1.alloc o).heap.size = w.heap.size + 2 := by show (W1.heap.push _).size = _; simp [hs1]
  have kds := h.kinds
  have hfb : ∀ i, m.fv.ownBlock = some i → i ≠ m.b := fun i hi e => by
    have h1 := kds.2.1 i hi
    rw [e, kds.1] at h1
    exact absurd h1 (by decide)
  have k6 : Keeps (fun i => i = m.b ∨ m.fv.ownBlock = some i) w (w6.setCell ⟨m.b, 0, none⟩ (.slice A' k c')) :=
    (k2.trans hK (fun _ _ f => f.elim) (fun _ _ f => f)).trans ((Keeps.refl (OneB m.b) w6).setCell ⟨m.b, 0, none⟩ _ (fun _ => rfl)) (fun _ _ f => .inr f) (fun _ _ f => .inl f)
  have hb6 : w6.heap[m.b]? = some (.cells (rsCells m s) 86 (0, 0)) := hK.obj (k2.obj h.blk (fun f => f)) (fun f => hfb _ f rfl)
  have hnew6 : (w6.setCell ⟨m.b, 0, none⟩ (.slice A' k c')).heap[w.heap.size]? = some (.cells #[.int .i64 (n : Nat), .string ⟨#[]⟩, .slice none 0 0, .string ⟨#[]⟩] 102 (0, 0)) := by
    have hbl : m.b < w.heap.size := RMem.lt h _ (.inl rfl)
    refine ((Keeps.refl (OneB m.b) w6).setCell ⟨m.b, 0, none⟩ _ (fun _ => rfl)).obj (hK.obj (((Keeps.refl NoB W1).alloc o).obj hf1 (fun f => f)) (fun f => ?_)) (fun e => by have : w.heap.size = m.b := e; omega)
    have := RMem.lt h _ (.inr (.inl f))
    omega
  have hO6 : OwnW (w6.setCell ⟨m.b, 0, none⟩ (.slice A' k c')) 99 1 (.slice A' k c') k ((m.fs.map (·.fb)).flatMap ptrCells ++ [.pointer (some ⟨w.heap.size, 0, none⟩)]) := OwnW.keeps hO ((Keeps.refl (OneB m.b) w6).setCell ⟨m.b, 0, none⟩ _ (fun _ => rfl)) (fun i hi e => by
    have h1 := OwnW.knd hO hi
    have h2 : i = m.b := e
    rw [h2, knd_cells hb6] at h1
    exact absurd h1 (by decide))
  have ne : ∀ i, m.O i → ¬ (i = m.b ∨ m.fv.ownBlock = some i) → i < w.heap.size := fun i hi _ => RMem.lt h i hi
  have hne : ∀ i t, knd w i = t + 1 → t ≠ 86 → t ≠ 99 → ¬ (i = m.b ∨ m.fv.ownBlock = some i) := fun i t hk h1 h2 f => by
    rcases f with rfl | f
    · rw [kds.1] at hk; exact h1 (by omega)
    · rw [kds.2.1 i f] at hk; exact h2 (by omega)
  refine ⟨⟨m.b, m.fs ++ [⟨w.heap.size, .slice none 0 0⟩], .slice A' k c', m.dv, m.sv, m.mv⟩, rfl, ⟨?_, ?_, ?_, ?_, ?_, ?_, ?_, ?_, h.dirs⟩, ?_, k6.mono (fun i _ f => ?_)⟩
  · exact (blk_set hb6 0 _).trans rfl
  · simp [h.len]
  · have e1 : ((m.fs ++ [(⟨w.heap.size, .slice none 0 0⟩ : RF)]).map (·.fb)).flatMap ptrCells = (m.fs.map (·.fb)).flatMap ptrCells ++ [.pointer (some ⟨w.heap.size, 0, none⟩)] := by rw [List.map_append, List.flatMap_append]; rfl
    have e2 : ((m.fs ++ [(⟨w.heap.size, .slice none 0 0⟩ : RF)]).map (·.fb)).length = k := by rw [hk]; simp
    unfold PtrV
    dsimp only
    rw [e1, e2]
    exact hO6
  · intro i hi
    dsimp only at hi ⊢
    by_cases hlt : i < m.fs.length
    · rw [List.getElem_append_left hlt]
      have e3 : (s.F ++ [noFile]).getD i noFile = s.F.getD i noFile := by
        rw [List.getD_eq_getElem?_getD, List.getD_eq_getElem?_getD, List.getElem?_append_left (by rw [← h.len]; exact hlt)]
      rw [e3]
      obtain ⟨a, b⟩ := kds.2.2.2.2.2 _ (List.getElem_mem hlt)
      refine (h.file i hlt).keeps k6 (fun j hj => ?_)
      rcases hj with rfl | hj
      · exact hne _ _ a (by decide) (by decide)
      · exact hne _ _ (b j hj) (by decide) (by decide)
    · have hi' : i = m.fs.length := by simp at hi; omega
      subst hi'
      have e3 : (s.F ++ [noFile]).getD m.fs.length noFile = noFile := by
        rw [List.getD_eq_getElem?_getD, h.len]; simp
      rw [e3]
      simp only [List.getElem_append_right (Nat.le_refl _), Nat.sub_self, List.getElem_cons_zero]
      refine ⟨?_, rlogV_nil _⟩
      rw [hn] at hnew6
      exact hnew6
  · exact OwnW.keeps h.names k6 (fun i hi => hne _ _ (kds.2.2.1 i hi) (by decide) (by decide))
  · exact OwnW.keeps h.safe k6 (fun i hi => hne _ _ (kds.2.2.2.1 i hi) (by decide) (by decide))
  · exact OwnW.keeps h.moves k6 (fun i hi => hne _ _ (kds.2.2.2.2.1 i hi) (by decide) (by decide))
  · intro i j hi hj hij k hki hkj
    dsimp only at hi hj hki hkj
    by_cases h1 : i < m.fs.length
    · rw [List.getElem_append_left h1] at hki
      by_cases h2 : j < m.fs.length
      · rw [List.getElem_append_left h2] at hkj
        exact h.apart i j h1 h2 hij k hki hkj
      · have : j = m.fs.length := by simp at hj; omega
        subst this
        simp only [List.getElem_append_right (Nat.le_refl _), Nat.sub_self, List.getElem_cons_zero] at hkj
        have hk1 := (h.file i h1).lt k hki
        rcases hkj with e | e
        · have : k = w.heap.size := e
          omega
        · simp [Value.ownBlock] at e
    · have : i = m.fs.length := by simp at hi; omega
      subst this
      simp only [List.getElem_append_right (Nat.le_refl _), Nat.sub_self, List.getElem_cons_zero] at hki
      have h2 : j < m.fs.length := by simp at hj; omega
      rw [List.getElem_append_left h2] at hkj
      have hk1 := (h.file j h2).lt k hkj
      rcases hki with e | e
      · have : k = w.heap.size := e
        omega
      · simp [Value.ownBlock] at e
  · intro i hi
    rcases hi with h1 | h1 | h1 | h1 | h1 | ⟨f, hf, h1⟩
    · exact .inl (.inl h1)
    · rcases hG i h1 with h2 | h2
      · exact .inl (.inr (.inl h2))
      · exact .inr (by omega)
    · exact .inl (.inr (.inr (.inl h1)))
    · exact .inl (.inr (.inr (.inr (.inl h1))))
    · exact .inl (.inr (.inr (.inr (.inr (.inl h1)))))
    · rcases List.mem_append.1 hf with hf | hf
      · exact .inl (.inr (.inr (.inr (.inr (.inr ⟨f, hf, h1⟩)))))
      · have : f = ⟨w.heap.size, .slice none 0 0⟩ := by simpa using hf
        subst this
        rcases h1 with e | e
        · exact .inr (Nat.le_of_eq e.symm)
        · simp [Value.ownBlock] at e
  · rcases f with rfl | f
    · exact .inl rfl
    · exact .inr (.inl f)
end Go.Proofs.YtdjamijbhaplgaaGreat
namespace Go.Proofs.YtdjamijbhaplgaaGreat
open Go.RowKit Go.Maps Go.Lib

theorem heap_size_alloc (w : World) (o : Obj) : (w.alloc o).heap.size = w.heap.size + 1 := by show (w.heap.push _).size = _; simp
set_option maxHeartbeats 4000000 in
set_option maxRecDepth 100000 in
theorem rcreate_fs (w : World) (m : RMem) (s : FSt) (N : Nat) (h : IsRS w m s) (inv : Inv N s) (hN : N ≤ 900000000) (S : ByteArray) (hS : S.size ≤ 9223372036854775807) :
    Calls Tryz.prog 48 #[.pointer (some ⟨m.b, 0, none⟩), .string S] w fun e w' => e = .returned (.tuple #[.int .i64 (s.create S.data.toList).1, .int .i64 (s.create S.data.toList).2.1]) ∧ RsTo w m (s.create S.data.toList).2.2 w' := by
  have c7 := h.c.2.2.2.2.2.2.2.1
  have c1 := h.c.2.1
  have hDl := inv.ok.len
  have hMl := inv.lim.moves
  have hol := inv.lim.ops
  have hFl := inv.lim.files
  have hSame := Sd.mk (RsTo.same h (Keeps.refl NoB w))
  have HSK : Sd (∀ wx, Keeps NoB w wx → RsTo w m s wx) := ⟨fun wx k => RsTo.same h k⟩
  have HRA := Sd.mk (rat_any w _ s.D h.names (by omega) S)
  have hch := fun wx (k : RsTo w m { s with F := s.F ++ [noFile] } wx) => (show Calls Tryz.prog 88 #[.pointer (some ⟨m.b, 0, none⟩), .agg #[.int .u8 99, .string (sOf S.data.toList), .string (sOf []), .int .i64 ((s.F.length + 1 : Nat) : Int)]] wx fun e w' => e = .returned (.int .i64 0) ∧ RsTo w m (FSt.change { s with F := s.F ++ [noFile] } ⟨99, S.data.toList, [], s.F.length + 1⟩) w' from by
    obtain ⟨m1, hb1, hi1, hg1, hk1⟩ := k
    rw [← hb1]
    exact (rchange_fs wx m1 { s with F := s.F ++ [noFile] } ⟨99, S.data.toList, [], s.F.length + 1⟩ hi1 inv.ok.dirD.names (show s.D.length ≤ 1000000 by omega) (show s.M.length ≤ 1000000000 by omega) (show s.ops ≤ 4611686018427387904 by omega) inv.ok.left (.inl rfl)).mono fun e w' ⟨he, hr⟩ => ⟨he, RsTo.trans hb1 hg1 hk1 hr⟩)
  rw [sOf_eq] at hch
  have HCH : Sd (∀ wx (_ : RsTo w m { s with F := s.F ++ [noFile] } wx), Calls Tryz.prog 88 #[.pointer (some ⟨m.b, 0, none⟩), .agg #[.int .u8 99, .string S, .string ⟨#[]⟩, .int .i64 ((s.F.length : Int) + 1)]] wx fun e w' => e = .returned (.int .i64 0) ∧ RsTo w m (FSt.change { s with F := s.F ++ [noFile] } ⟨99, S.data.toList, [], s.F.length + 1⟩) w') := ⟨hch⟩
  have HCN := Sd.mk (rcname_any S hS)
  obtain ⟨A, c, hv, _, _⟩ := OwnW.slice h.names
  obtain ⟨Af, cf, hfv, _, _⟩ := OwnW.slice h.ptrs
  have hL : (m.fs.map (·.fb)).length = s.F.length := by rw [List.length_map, h.len]
  rw [hL] at hfv
  have c0 := h.c.1
  rw [hfv] at c0
  rw [hv] at c1 HRA
  have HP : Sd (∀ wx, Keeps NoB w wx → OwnW wx 99 1 (.slice Af s.F.length cf) s.F.length ((m.fs.map (·.fb)).flatMap ptrCells)) := ⟨fun wx k => by
    have := OwnW.keeps h.ptrs k (fun _ _ f => f)
    rw [hfv, hL] at this
    exact this⟩
  have HH := Sd.mk h
  have HFV := Sd.mk hfv
  have HL := Sd.mk hL
  have HLN := Sd.mk h.len
  have hfl : (s.F.length : Int) ≤ 900000000 := by omega
  clear h hv hch inv hMl hol hFl hfv hL
  obtain ⟨R, hR⟩ : ∃ R, R = s.create S.data.toList := ⟨_, rfl⟩
  rw [← hR]
  unfold FSt.create FSt.named1 at hR
  have HR := Sd.mk hR
  clear hR
  cases hoff : s.off with
  | true =>
    rw [hoff] at c7
    have HR2 : Sd (R = (0, 21, s)) := ⟨by rw [HR.o, hoff]; rfl⟩
    clear HR hoff
    go_enter Tryz.func48, Tryz.ntmps48
    go_wp2
    go_ret2
    exact ⟨by rw [HR2.o]; rfl, by rw [HR2.o]; exact hSame.o⟩
  | false =>
    rw [hoff] at c7
    rcases nameE_or S.data.toList with hn | hn
    · rw [hn] at HCN
      cases hat : atN s.D S.data.toList with
      | none =>
        rw [atI_none hat] at HRA
        have hnone : s.D.lookup S.data.toList = none := (atN_none hat).1
        by_cases hmany : 4096 ≤ s.D.length
        · have HR2 : Sd (R = (0, 6, s)) := ⟨by rw [HR.o, hoff, hn]; simp [Dir.at_, hnone, hmany]⟩
          have hm2 : (4096 : Int) ≤ (s.D.length : Int) := by omega
          clear HR hoff hn hat hnone hmany
          go_enter Tryz.func48, Tryz.ntmps48
          go_wp2_with (first | (go_at_call 87; refine (HCN.o _).mono ?_; rintro e w' ⟨rfl, rfl⟩) | (go_at_call 76; refine HRA.o.mono ?_; rintro e w2 ⟨rfl, hk⟩; have HK := Sd.mk hk; have d1 := hk.cell c1 (fun f => f); clear hk))
          go_ret2
          exact ⟨by rw [HR2.o]; rfl, by rw [HR2.o]; exact HSK.o _ HK.o⟩
        · have HR2 : Sd (R = ((s.F.length : Int) + 1, 0, FSt.change { s with F := s.F ++ [noFile] } ⟨99, S.data.toList, [], s.F.length + 1⟩)) := ⟨by rw [HR.o, hoff, hn]; simp [Dir.at_, hnone, hmany]⟩
          have hm2 : ¬ (4096 : Int) ≤ (s.D.length : Int) := by omega
          clear HR hoff hn hat hnone hmany
          go_enter Tryz.func48, Tryz.ntmps48
          go_wp2_with (first
            | (go_at_call 87; refine (HCN.o _).mono ?_; rintro e w' ⟨rfl, rfl⟩) | (go_at_call 76; refine HRA.o.mono ?_; rintro e w2 ⟨rfl, hk⟩; have HK := Sd.mk hk; have d1 := hk.cell c1 (fun f => f); have d0 := hk.cell c0 (fun f => f); have HH2 := Sd.mk (HH.o.kept hk); clear hk)
            | (at_builtin; go_must (refine appw_any rfl _ _ 82 99 _ 1 8 rfl Tryz.underlying82 infoRPtr rfl (by decide) (.slice Af s.F.length cf) s.F.length ((m.fs.map (·.fb)).flatMap ptrCells) rfl (HP.o _ ((HK.o.alloc _).alloc _)) (some ⟨_, 0, none⟩) 1 1 [.pointer (some ⟨w2.heap.size, 0, none⟩)] rfl rfl (fun j u hj => ⟨_, rfl, by have hz := heap_size_alloc w2 (.cells #[.int .i64 ((s.F.length : Int) + 1), .string ⟨#[]⟩, .slice none 0 0, .string ⟨#[]⟩] 102); rw [← hz]; exact cells_new _ _ _ j u hj⟩) (by intro u hu; simp at hu; subst hu; rfl) (by omega) (by omega) ?_); intro A9 q9 w9 HO HK9 HG9
               have hb9 : w9.heap[m.b]? = some (.cells (rsCells m s) 86 (0, 0)) := HK9.obj ((((Keeps.refl NoB w2).alloc _).alloc _).obj HH2.o.blk (fun f => f)) (fun f => by
                 have h1 := HH2.o.kinds.2.1 m.b (by rw [HFV.o]; exact f)
                 rw [HH2.o.kinds.1] at h1
                 exact absurd h1 (by decide))
               have f90 := blk_frozen hb9 0
               have e90 : w9.cell? ⟨m.b, 0, none⟩ = some (.slice Af s.F.length cf) := (blk_cell hb9 0).trans (by rw [← HFV.o]; rfl)
               have HRS := Sd.mk (rs_newfile (n := s.F.length + 1) HH2.o (by rw [HLN.o]) (by rw [HL.o]) HO (by rw [HFV.o]; exact HK9) (by rw [HFV.o]; exact HG9))
               clear HO HK9 HG9 hb9)
            | (go_at_call 88; refine (HCH.o _ (RsTo.after HK.o HRS.o)).mono ?_; rintro e w10 ⟨rfl, hr⟩; have HR3 := Sd.mk hr; clear hr))
          go_ret2
          exact ⟨by rw [HR2.o]; rfl, by rw [HR2.o]; exact HR3.o⟩
      | some i =>
        rw [atI_some hat] at HRA
        obtain ⟨hi, -, hi2⟩ := atN_some hat
        have HR2 : Sd (R = (0, 8, s)) := ⟨by rw [HR.o, hoff, hn]; simp [Dir.at_, hi2]⟩
        have hi3 : (0 : Int) ≤ (i : Int) := by omega
        clear HR hoff hn hat hi2
        go_enter Tryz.func48, Tryz.ntmps48
        go_wp2_with (first | (go_at_call 87; refine (HCN.o _).mono ?_; rintro e w' ⟨rfl, rfl⟩) | (go_at_call 76; refine HRA.o.mono ?_; rintro e w2 ⟨rfl, hk⟩; have HK := Sd.mk hk; clear hk))
        go_ret2
        exact ⟨by rw [HR2.o]; rfl, by rw [HR2.o]; exact HSK.o _ HK.o⟩
    · rw [hn] at HCN
      have HR2 : Sd (R = (0, 20, s)) := ⟨by rw [HR.o, hoff, hn]; rfl⟩
      clear HR hoff hn
      go_enter Tryz.func48, Tryz.ntmps48
      go_wp2_with (go_at_call 87; refine (HCN.o _).mono ?_; rintro e w' ⟨rfl, rfl⟩)
      go_ret2
      exact ⟨by rw [HR2.o]; rfl, by rw [HR2.o]; exact hSame.o⟩
end Go.Proofs.YtdjamijbhaplgaaGreat
namespace Go.Proofs.YtdjamijbhaplgaaGreat
open Go.RowKit Go.Maps Go.Lib

/-- A file has changed. -/
theorem rs_setfile {w w' : World} {m : RMem} {s : FSt} (h : IsRS w m s) {j : Nat} (hj : j < m.fs.length) {X : FileS} {lv' : Value} (hF : IsRF w' ⟨(m.fs[j]).fb, lv'⟩ (j + 1) X)
    (hk : Keeps (fun i => i = (m.fs[j]).fb ∨ (m.fs[j]).lv.ownBlock = some i) w w') (hg : Grew w (m.fs[j]).lv lv') : RsTo w m (s.setFile (j + 1) X) w' := by
  have kds := h.kinds
  obtain ⟨ka, kb⟩ := kds.2.2.2.2.2 _ (List.getElem_mem hj)
  have hne : ∀ i t, knd w i = t + 1 → t ≠ 102 → t ≠ 105 → ¬ (i = (m.fs[j]).fb ∨ (m.fs[j]).lv.ownBlock = some i) := fun i t hk h1 h2 f => by
    rcases f with rfl | f
    · rw [ka] at hk; exact h1 (by omega)
    · rw [kb i f] at hk; exact h2 (by omega)
  have hmap : (m.fs.set j ⟨(m.fs[j]).fb, lv'⟩).map (·.fb) = m.fs.map (·.fb) := by
    rw [List.map_set]
    have : (m.fs[j]).fb = (m.fs.map (·.fb))[j]'(by simpa using hj) := by simp
    dsimp only
    rw [this, List.set_getElem_self]
  refine ⟨⟨m.b, m.fs.set j ⟨(m.fs[j]).fb, lv'⟩, m.fv, m.dv, m.sv, m.mv⟩, rfl, ⟨?_, ?_, ?_, ?_, ?_, ?_, ?_, ?_, h.dirs⟩, ?_, hk.mono (fun i _ f => ?_)⟩
  · have e : rsCells ⟨m.b, m.fs.set j ⟨(m.fs[j]).fb, lv'⟩, m.fv, m.dv, m.sv, m.mv⟩ (s.setFile (j + 1) X) = rsCells m s := rfl
    rw [e]
    exact hk.obj h.blk (hne _ _ kds.1 (by decide) (by decide))
  · show (m.fs.set j _).length = (s.F.set j X).length
    simp [h.len]
  · unfold PtrV
    dsimp only
    rw [hmap]
    exact OwnW.keeps h.ptrs hk (fun i hi => hne _ _ (kds.2.1 i hi) (by decide) (by decide))
  · intro i hi
    dsimp only at hi ⊢
    have hi' : i < m.fs.length := by simpa using hi
    show IsRF w' _ (i + 1) ((s.F.set j X).getD i noFile)
    by_cases hij : j = i
    · subst hij
      rw [List.getElem_set_self, List.getD_eq_getElem?_getD, List.getElem?_set_self (by rw [← h.len]; exact hj)]
      exact hF
    · rw [List.getElem_set_ne hij, List.getD_eq_getElem?_getD, List.getElem?_set_ne hij, ← List.getD_eq_getElem?_getD]
      refine (h.file i hi').keeps hk (fun k hk1 f => ?_)
      exact h.apart i j hi' hj (fun e => hij e.symm) k hk1 (by
        rcases f with e | e
        · exact .inl e
        · exact .inr e)
  · exact OwnW.keeps h.names hk (fun i hi => hne _ _ (kds.2.2.1 i hi) (by decide) (by decide))
  · exact OwnW.keeps h.safe hk (fun i hi => hne _ _ (kds.2.2.2.1 i hi) (by decide) (by decide))
  · exact OwnW.keeps h.moves hk (fun i hi => hne _ _ (kds.2.2.2.2.1 i hi) (by decide) (by decide))
  · intro i i' hi hi' hii k hk1 hk2
    dsimp only at hi hi' hk1 hk2
    have li : i < m.fs.length := by simpa using hi
    have li' : i' < m.fs.length := by simpa using hi'
    have old : ∀ k, RF.O ⟨(m.fs[j]).fb, lv'⟩ k → (m.fs[j]).O k ∨ w.heap.size ≤ k := fun k h1 => by
      rcases h1 with e | e
      · exact .inl (.inl e)
      · rcases hg k e with e | e
        · exact .inl (.inr e)
        · exact .inr e
    by_cases h1 : j = i
    · subst h1
      rw [List.getElem_set_self] at hk1
      rw [List.getElem_set_ne hii] at hk2
      rcases old k hk1 with e | e
      · exact h.apart j i' hj li' hii k e hk2
      · have := (h.file i' li').lt k hk2
        omega
    · rw [List.getElem_set_ne h1] at hk1
      by_cases h2 : j = i'
      · subst h2
        rw [List.getElem_set_self] at hk2
        rcases old k hk2 with e | e
        · exact h.apart i j li hj hii k hk1 e
        · have := (h.file i li).lt k hk1
          omega
      · rw [List.getElem_set_ne h2] at hk2
        exact h.apart i i' li li' hii k hk1 hk2
  · intro i hi
    rcases hi with h1 | h1 | h1 | h1 | h1 | ⟨f, hf, h1⟩
    · exact .inl (.inl h1)
    · exact .inl (.inr (.inl h1))
    · exact .inl (.inr (.inr (.inl h1)))
    · exact .inl (.inr (.inr (.inr (.inl h1))))
    · exact .inl (.inr (.inr (.inr (.inr (.inl h1)))))
    · rcases List.mem_or_eq_of_mem_set hf with hf | rfl
      · exact .inl (.inr (.inr (.inr (.inr (.inr ⟨f, hf, h1⟩)))))
      · rcases h1 with e | e
        · exact .inl (.inr (.inr (.inr (.inr (.inr ⟨_, List.getElem_mem hj, .inl e⟩)))))
        · rcases hg i e with e | e
          · exact .inl (.inr (.inr (.inr (.inr (.inr ⟨_, List.getElem_mem hj, .inr e⟩)))))
          · exact .inr e
  · exact .inr (.inr (.inr (.inr (.inr ⟨_, List.getElem_mem hj, f⟩))))
/-- Only the block itself has changed. -/
theorem rs_block {w w' : World} {m : RMem} {s s' : FSt} (h : IsRS w m s) (hb : w'.heap[m.b]? = some (.cells (rsCells m s') 86 (0, 0))) (hk : Keeps (OneB m.b) w w') (e1 : s'.F = s.F) (e2 : s'.D = s.D) (e3 : s'.S = s.S) (e4 : s'.M = s.M) : RsTo w m s' w' := by
  have kds := h.kinds
  have hne : ∀ i t, knd w i = t + 1 → t ≠ 86 → ¬ OneB m.b i := fun i t hk h1 f => by
    have : i = m.b := f
    rw [this, kds.1] at hk; exact h1 (by omega)
  refine ⟨m, rfl, ⟨hb, by rw [e1]; exact h.len, OwnW.keeps h.ptrs hk (fun i hi => hne _ _ (kds.2.1 i hi) (by decide)), fun i hi => ?_, ?_, ?_, ?_, h.apart, h.dirs⟩, RGrows.refl w m, hk.mono (fun i _ f => .inl f)⟩
  · rw [e1]
    refine (h.file i hi).keeps hk (fun k hk1 => ?_)
    obtain ⟨ka, kb⟩ := kds.2.2.2.2.2 _ (List.getElem_mem hi)
    rcases hk1 with rfl | hk1
    · exact hne _ _ ka (by decide)
    · exact hne _ _ (kb k hk1) (by decide)
  · rw [e2]; exact OwnW.keeps h.names hk (fun i hi => hne _ _ (kds.2.2.1 i hi) (by decide))
  · rw [e3]; exact OwnW.keeps h.safe hk (fun i hi => hne _ _ (kds.2.2.2.1 i hi) (by decide))
  · rw [e4]; exact OwnW.keeps h.moves hk (fun i hi => hne _ _ (kds.2.2.2.2.1 i hi) (by decide))
theorem rcounts_fs (w : World) (m : RMem) (s : FSt) (h : IsRS w m s) (ho : s.ops ≤ 4611686018427387904) (hl : -1 ≤ s.left ∧ s.left ≤ 9223372036854775807) :
    Calls Tryz.prog 57 #[.pointer (some ⟨m.b, 0, none⟩)] w fun e w' => e = .returned (.int .i64 0) ∧ RsTo w m s.counts w' :=
  (rcounts_any w m.b _ _ _ _ _ _ s.ops s.left s.off h.blk ho hl).mono fun e w' ⟨he, hb, hk⟩ => ⟨he, rs_block h hb hk rfl rfl rfl rfl⟩
/-- counts, behind some change. -/
theorem rcounts_to (w wx : World) (m : RMem) (s : FSt) (h : RsTo w m s wx) (ho : s.ops ≤ 4611686018427387904) (hl : -1 ≤ s.left ∧ s.left ≤ 9223372036854775807) :
    Calls Tryz.prog 57 #[.pointer (some ⟨m.b, 0, none⟩)] wx fun e w' => e = .returned (.int .i64 0) ∧ RsTo w m s.counts w' := by
  obtain ⟨m1, hb, hi, hg, hk⟩ := h
  rw [← hb]
  exact (rcounts_fs wx m1 s hi ho hl).mono fun e w' ⟨he, hr⟩ => ⟨he, RsTo.trans hb hg hk hr⟩
set_option maxHeartbeats 1000000 in
set_option maxRecDepth 100000 in
theorem rarm_fs (w : World) (m : RMem) (s : FSt) (h : IsRS w m s) (n : Int) (hn : -9223372036854775808 ≤ n ∧ n ≤ 9223372036854775807) : Calls Tryz.prog 11 #[.pointer (some ⟨m.b, 0, none⟩), .int .i64 n] w fun e w' => e = .returned (.tuple #[]) ∧ RsTo w m (s.arm n) w' := by
  have c7 := h.c.2.2.2.2.2.2.2.1
  have c6 := h.c.2.2.2.2.2.2.1
  have f6 := blk_frozen h.blk 6
  have f7 := blk_frozen h.blk 7
  have H := Sd.mk h
  obtain ⟨hn1, hn2⟩ := hn
  clear h
  obtain ⟨R, hR⟩ : ∃ R, R = s.arm n := ⟨_, rfl⟩
  rw [← hR]
  unfold FSt.arm at hR
  have HR := Sd.mk hR
  clear hR
  cases hoff : s.off with
  | true =>
    rw [hoff] at c7
    have HR2 : Sd (R = s) := ⟨by rw [HR.o, hoff]; rfl⟩
    clear HR hoff
    go_enter Tryz.func11, Tryz.ntmps11
    go_wp2
    refine bodyPost_ret (results_none rfl _ _ _) rfl ?_
    exact ⟨rfl, by rw [HR2.o]; exact RsTo.same H.o (Keeps.refl NoB w)⟩
  | false =>
    rw [hoff] at c7
    have HR2 : Sd (R = { s with left := max n (-1), off := decide (n = 0) }) := ⟨by rw [HR.o, hoff]; rfl⟩
    have HBN : Sd ((n == 0) = decide (n = 0)) := ⟨by
      by_cases hz : n = 0
      · subst hz; rfl
      · rw [decide_eq_false hz]; simpa using hz⟩
    clear HR hoff
    go_enter Tryz.func11, Tryz.ntmps11
    go_wp2
    go_end0
    refine ⟨rfl, ?_⟩
    rw [HR2.o]
    refine rs_block H.o ((blk_set (blk_set H.o.blk 6 _) 7 _).trans ?_) (((Keeps.refl (OneB m.b) w).setCell ⟨m.b, 6, none⟩ _ (fun _ => rfl)).setCell ⟨m.b, 7, none⟩ _ (fun _ => rfl)) rfl rfl rfl rfl
    rw [HBN.o]
    rfl
def FSt.setCap (s : FSt) (n : Int) : Int × FSt := if n < 0 ∨ 67108864 < n then (2, s) else (0, { s with cap := n })
set_option maxHeartbeats 1000000 in
set_option maxRecDepth 100000 in
theorem rsetcap_fs (w : World) (m : RMem) (s : FSt) (h : IsRS w m s) (n : Int) : Calls Tryz.prog 14 #[.pointer (some ⟨m.b, 0, none⟩), .int .i64 n] w fun e w' => e = .returned (.int .i64 (s.setCap n).1) ∧ RsTo w m (s.setCap n).2 w' := by
  have c4 := h.c.2.2.2.2.1
  have f4 := blk_frozen h.blk 4
  have H := Sd.mk h
  clear h
  by_cases h0 : n < 0
  · have HR : Sd (s.setCap n = (2, s)) := ⟨if_pos (.inl h0)⟩
    go_enter Tryz.func14, Tryz.ntmps14
    go_wp2
    go_ret
    exact ⟨by rw [HR.o]; rfl, by rw [HR.o]; exact RsTo.same H.o (Keeps.refl NoB w)⟩
  by_cases h1 : 67108864 < n
  · have HR : Sd (s.setCap n = (2, s)) := ⟨if_pos (.inr h1)⟩
    go_enter Tryz.func14, Tryz.ntmps14
    go_wp2
    go_ret
    exact ⟨by rw [HR.o]; rfl, by rw [HR.o]; exact RsTo.same H.o (Keeps.refl NoB w)⟩
  have HR : Sd (s.setCap n = (0, { s with cap := n })) := ⟨if_neg (by omega)⟩
  go_enter Tryz.func14, Tryz.ntmps14
  go_wp2
  go_ret
  refine ⟨by rw [HR.o]; rfl, ?_⟩
  rw [HR.o]
  exact rs_block H.o ((blk_set H.o.blk 4 _).trans rfl) ((Keeps.refl (OneB m.b) w).setCell ⟨m.b, 4, none⟩ _ (fun _ => rfl)) rfl rfl rfl rfl
end Go.Proofs.YtdjamijbhaplgaaGreat
