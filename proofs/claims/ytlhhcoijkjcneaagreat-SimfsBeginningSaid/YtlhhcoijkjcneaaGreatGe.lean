/- The document's file system: file, Used, counts, there, New. -/
import Derived.Test.YtlhhcoijkjcneaaGreatRfD
namespace Go.Proofs.YtlhhcoijkjcneaaGreat
open Go.RowKit Go.Maps Go.Lib

theorem any_take_none {d : Dir} {n : Int} (h : ∀ j (hj : j < d.length), ((d[j]).2 : Int) ≠ n) : d.any (fun e => ((e.2 : Nat) : Int) == n) = false := by
  rw [List.any_eq_false]
  intro e he
  obtain ⟨j, hj, rfl⟩ := List.getElem_of_mem he
  simpa using h j hj
/-- The file of a number that has a name. -/
theorem IsRS.fileAt {w : World} {m : RMem} {s : FSt} (h : IsRS w m s) (ok : FsOk s) {n : Int} (ht : s.D.any (fun e => ((e.2 : Nat) : Int) == n) = true) : ∃ (k : Nat) (hk : k < m.fs.length), n = (k : Int) + 1 ∧ s.F.getD k noFile = s.file n.toNat := by
  obtain ⟨e, he, hn⟩ := List.any_eq_true.1 ht
  have hn' : (e.2 : Int) = n := by simpa using hn
  have := ok.dirD.low e he
  refine ⟨e.2 - 1, by rw [h.len]; omega, by omega, ?_⟩
  unfold FSt.file
  rw [show n.toNat - 1 = e.2 - 1 by omega]
set_option maxHeartbeats 1000000 in
set_option maxRecDepth 100000 in
theorem rfile_none (w : World) (m : RMem) (s : FSt) (h : IsRS w m s) (hl : s.D.length ≤ 1000000) (n : Int) (hn : s.D.any (fun e => ((e.2 : Nat) : Int) == n) = false) :
    Calls Tryz.prog 91 #[.pointer (some ⟨m.b, 0, none⟩), .int .i64 n] w fun e w' => e = .returned (.pointer none) ∧ Keeps NoB w w' := by
  obtain ⟨A, c, hv, _, _⟩ := OwnW.slice h.names
  have H := Sd.mk h
  have c1 := h.c.2.1
  rw [hv] at c1
  have HV := Sd.mk hv
  have HN := Sd.mk hn
  clear h hn hv
  go_enter Tryz.func91, Tryz.ntmps91
  go_wp2_with fail
  go_loopg [5] s.D.length (fun gk i wr => ∃ (k : Nat), gk + k = s.D.length ∧ i = .int .i64 k ∧ Sd (Keeps NoB w wr))
  case atStart => exact ⟨0, by omega, rfl, ⟨Keeps.refl _ _⟩⟩
  case round =>
    obtain ⟨k, hk, rfl, HK⟩ := hrel
    have d1 : wr.cell? ⟨m.b, 1, none⟩ = some (.slice A s.D.length c) := HK.o.cell c1 (fun f => f)
    by_cases hlt : k < s.D.length
    · have hq1 : (k : Int) < (s.D.length : Int) := by omega
      have hq0 : (0 : Int) ≤ (k : Int) := by omega
      have hrow := OwnW.keeps H.o.names HK.o (fun _ _ f => f)
      rw [HV.o] at hrow
      obtain ⟨g, cc, e, c0, c2⟩ := EntV.get hrow hlt
      cases e
      have hb : (((s.D[k]).2 : Int) == n) = false := by
        have := List.any_eq_false.1 HN.o _ (List.getElem_mem hlt)
        simpa using this
      generalize s.D[k] = ent at *
      clear hrow
      go_wp2
      go_roundg (gk - 1)
      case measure => omega
      case rel => exact ⟨k + 1, by omega, by go_num, HK⟩
    · have hq1 : ¬ (k : Int) < (s.D.length : Int) := by omega
      go_wp2
      go_ret
      exact ⟨rfl, HK.o⟩
set_option maxHeartbeats 1000000 in
set_option maxRecDepth 100000 in
theorem rfile_some (w : World) (m : RMem) (s : FSt) (h : IsRS w m s) (hl : s.D.length ≤ 1000000) (j : Nat) (hj : j < m.fs.length) (hj2 : j ≤ 1000000000) (hn : s.D.any (fun e => ((e.2 : Nat) : Int) == (j : Int) + 1) = true) :
    Calls Tryz.prog 91 #[.pointer (some ⟨m.b, 0, none⟩), .int .i64 ((j : Int) + 1)] w fun e w' => e = .returned (.pointer (some ⟨(m.fs[j]).fb, 0, none⟩)) ∧ Keeps NoB w w' := by
  obtain ⟨A, c, hv, _, _⟩ := OwnW.slice h.names
  obtain ⟨gf, cf, hfv, hf0⟩ := PtrV.get h.ptrs (j := j) (by simpa using hj)
  have hfl : (m.fs.map (·.fb)).length = m.fs.length := by simp
  have H := Sd.mk h
  have c1 := h.c.2.1
  have c9 := h.c.1
  rw [hv] at c1
  rw [hfv, hfl] at c9
  have hf1 : w.cell? ⟨gf, j, none⟩ = some (.pointer (some ⟨(m.fs[j]).fb, 0, none⟩)) := by simpa using hf0
  have HV := Sd.mk hv
  have HN := Sd.mk hn
  have hjl : (j : Int) < (m.fs.length : Int) := by omega
  have hj0 : (0 : Int) ≤ (j : Int) := by omega
  clear h hn hv hf0 hfv hfl
  go_enter Tryz.func91, Tryz.ntmps91
  go_wp2_with fail
  go_loopg [5] s.D.length (fun gk i wr => ∃ (k : Nat), gk + k = s.D.length ∧ i = .int .i64 k ∧ Sd (∀ i (hi : i < k) (hd : i < s.D.length), ((s.D[i]).2 : Int) ≠ (j : Int) + 1) ∧ Sd (Keeps NoB w wr))
  case atStart => exact ⟨0, by omega, rfl, ⟨fun i hi => by omega⟩, ⟨Keeps.refl _ _⟩⟩
  case round =>
    obtain ⟨k, hk, rfl, HI, HK⟩ := hrel
    have d1 : wr.cell? ⟨m.b, 1, none⟩ = some (.slice A s.D.length c) := HK.o.cell c1 (fun f => f)
    have d9 : wr.cell? ⟨m.b, 0, none⟩ = some (.slice (some ⟨gf, 0, none⟩) m.fs.length cf) := HK.o.cell c9 (fun f => f)
    have d8 : wr.cell? ⟨gf, j, none⟩ = some (.pointer (some ⟨(m.fs[j]).fb, 0, none⟩)) := HK.o.cell hf1 (fun f => f)
    by_cases hlt : k < s.D.length
    · have hq1 : (k : Int) < (s.D.length : Int) := by omega
      have hq0 : (0 : Int) ≤ (k : Int) := by omega
      have hrow := OwnW.keeps H.o.names HK.o (fun _ _ f => f)
      rw [HV.o] at hrow
      obtain ⟨g, cc, e, c0, c2⟩ := EntV.get hrow hlt
      cases e
      by_cases he : ((s.D[k]).2 : Int) = (j : Int) + 1
      · have hb : (((s.D[k]).2 : Int) == (j : Int) + 1) = true := by simp [he]
        clear he
        generalize s.D[k] = ent at *
        clear hrow
        go_wp2
        go_ret
        exact ⟨rfl, HK.o⟩
      · have hb : (((s.D[k]).2 : Int) == (j : Int) + 1) = false := by simpa using he
        have HI2 : Sd (∀ i (hi : i < k + 1) (hd : i < s.D.length), ((s.D[i]).2 : Int) ≠ (j : Int) + 1) := ⟨fun i hi hd => by
          by_cases hik : i < k
          · exact HI.o i hik hd
          · have : i = k := by omega
            subst this
            exact he⟩
        clear he
        generalize s.D[k] = ent at *
        clear hrow
        go_wp2
        go_roundg (gk - 1)
        case measure => omega
        case rel => exact ⟨k + 1, by omega, by go_num, HI2, HK⟩
    · have := any_take_none (fun i hi => HI.o i (by omega) hi)
      rw [HN.o] at this
      cases this
set_option maxHeartbeats 1000000 in
/-- An operation is counted. -/
theorem rcounts_any (w : World) (b : Nat) (c0 c1 c2 c3 c4 c8 : Value) (ops : Nat) (left : Int) (off : Bool) (h : w.heap[b]? = some (.cells #[c0, c1, c2, c3, c4, .int .i64 (ops : Nat), .int .i64 left, .bool off, c8] 37 (0, 0)))
    (ho : ops ≤ 4611686018427387904) (hl : -1 ≤ left ∧ left ≤ 9223372036854775807) :
    Calls Tryz.prog 81 #[.pointer (some ⟨b, 0, none⟩)] w fun e w' => e = .returned (.int .i64 0) ∧
      w'.heap[b]? = some (.cells #[c0, c1, c2, c3, c4, .int .i64 ((ops + 1 : Nat) : Int), .int .i64 (if 0 < left then left - 1 else left), .bool (if 0 < left then decide (left = 1) else off), c8] 37 (0, 0)) ∧ Keeps (OneB b) w w' := by
  have h6 : w.cell? ⟨b, 5, none⟩ = some (.int .i64 (ops : Nat)) := blk_cell h 5
  have h7 : w.cell? ⟨b, 6, none⟩ = some (.int .i64 left) := blk_cell h 6
  have h8 : w.cell? ⟨b, 7, none⟩ = some (.bool off) := blk_cell h 7
  have f6 := blk_frozen h 5
  have f7 := blk_frozen h 6
  have f8 := blk_frozen h 7
  have H := Sd.mk h
  obtain ⟨hl1, hl2⟩ := hl
  clear h
  by_cases hp : 0 < left
  · rw [if_pos hp, if_pos hp]
    go_enter Tryz.func81, Tryz.ntmps81
    go_wp2
    go_ret
    refine ⟨rfl, ?_, ?_⟩
    · refine (blk_set (blk_set (blk_set H.o 5 _) 6 _) 7 _).trans ?_
      have e1 : (left - 1 == 0) = decide (left = 1) := by
        by_cases hz : left = 1
        · subst hz; rfl
        · rw [decide_eq_false hz]; simp; omega
      rw [e1]
      rfl
    · exact (((Keeps.refl (OneB b) w).setCell ⟨b, 5, none⟩ _ (fun _ => rfl)).setCell ⟨b, 6, none⟩ _ (fun _ => rfl)).setCell ⟨b, 7, none⟩ _ (fun _ => rfl)
  · rw [if_neg hp, if_neg hp]
    go_enter Tryz.func81, Tryz.ntmps81
    go_wp2
    go_ret
    refine ⟨rfl, (blk_set H.o 5 _).trans ?_, (Keeps.refl (OneB b) w).setCell ⟨b, 5, none⟩ _ (fun _ => rfl)⟩
    rfl
end Go.Proofs.YtlhhcoijkjcneaaGreat
namespace Go.Proofs.YtlhhcoijkjcneaaGreat
open Go.RowKit Go.Maps Go.Lib

theorem there_any {s : FSt} {n : Int} (h : s.there n = 0) : s.off = false ∧ s.D.any (fun e => ((e.2 : Nat) : Int) == n) = true := by
  obtain ⟨h1, e, he, hn⟩ := there_mem h
  exact ⟨h1, List.any_eq_true.2 ⟨e, he, by simpa using hn⟩⟩
set_option maxHeartbeats 1000000 in
set_option maxRecDepth 100000 in
theorem rthere_no (w : World) (m : RMem) (s : FSt) (h : IsRS w m s) (hl : s.D.length ≤ 1000000) (n : Int) (ht : s.there n ≠ 0) :
    Calls Tryz.prog 90 #[.pointer (some ⟨m.b, 0, none⟩), .int .i64 n] w fun e w' => e = .returned (.tuple #[.pointer none, .int .i64 (s.there n)]) ∧ Keeps NoB w w' := by
  have c7 := h.c.2.2.2.2.2.2.2.1
  cases hoff : s.off with
  | true =>
    have HT : Sd (s.there n = 21) := ⟨by unfold FSt.there; rw [hoff]; rfl⟩
    rw [hoff] at c7
    clear hoff ht
    go_enter Tryz.func90, Tryz.ntmps90
    go_wp2
    go_ret2
    exact ⟨by rw [HT.o]; rfl, Keeps.refl _ _⟩
  | false =>
    have hany : s.D.any (fun e => ((e.2 : Nat) : Int) == n) = false := by
      cases ha : s.D.any (fun e => ((e.2 : Nat) : Int) == n) with
      | false => rfl
      | true => exact absurd (by unfold FSt.there; rw [hoff, ha]; rfl) ht
    have HT : Sd (s.there n = 7) := ⟨by unfold FSt.there; rw [hoff, hany]; rfl⟩
    have HF := Sd.mk (rfile_none w m s h hl n hany)
    rw [hoff] at c7
    clear hoff ht hany
    go_enter Tryz.func90, Tryz.ntmps90
    go_wp2_with (go_at_call 91; refine HF.o.mono ?_; rintro e w2 ⟨rfl, hk⟩; have HK := Sd.mk hk; clear hk)
    go_ret2
    exact ⟨by rw [HT.o]; rfl, HK.o⟩
set_option maxHeartbeats 1000000 in
set_option maxRecDepth 100000 in
theorem rthere_ok (w : World) (m : RMem) (s : FSt) (h : IsRS w m s) (hl : s.D.length ≤ 1000000) (j : Nat) (hj : j < m.fs.length) (hj2 : j ≤ 1000000000) (ht : s.there ((j : Int) + 1) = 0) :
    Calls Tryz.prog 90 #[.pointer (some ⟨m.b, 0, none⟩), .int .i64 ((j : Int) + 1)] w fun e w' => e = .returned (.tuple #[.pointer (some ⟨(m.fs[j]).fb, 0, none⟩), .int .i64 0]) ∧ Keeps NoB w w' := by
  have c7 := h.c.2.2.2.2.2.2.2.1
  obtain ⟨hoff, hany⟩ := there_any ht
  have HF := Sd.mk (rfile_some w m s h hl j hj hj2 hany)
  rw [hoff] at c7
  clear hoff ht hany
  go_enter Tryz.func90, Tryz.ntmps90
  go_wp2_with (go_at_call 91; refine HF.o.mono ?_; rintro e w2 ⟨rfl, hk⟩; have HK := Sd.mk hk; clear hk)
  go_ret2
  exact ⟨rfl, HK.o⟩
def usedTo (s : FSt) (k : Nat) : Nat := ((s.D.take k).map fun e => (s.file e.2).data.length).sum
theorem usedTo_succ (s : FSt) (k : Nat) (hk : k < s.D.length) : usedTo s (k + 1) = usedTo s k + (s.file (s.D[k]).2).data.length := by
  unfold usedTo
  rw [List.take_succ_eq_append_getElem hk, List.map_append, List.sum_append]; simp
theorem usedTo_all (s : FSt) (k : Nat) (hk : s.D.length ≤ k) : usedTo s k = s.used := by
  unfold usedTo
  rw [List.take_of_length_le hk]; rfl
theorem usedTo_le (s : FSt) (fo : FilesOk s) (k : Nat) : usedTo s k ≤ k * 67108864 := by
  induction k with
  | zero => simp [usedTo]
  | succ k ih =>
    by_cases hk : k < s.D.length
    · rw [usedTo_succ s k hk]
      have := fo.small (s.D[k]).2
      omega
    · rw [usedTo_all s _ (by omega)]
      rw [usedTo_all s k (by omega)] at ih
      exact Nat.le_trans ih (Nat.mul_le_mul_right _ (Nat.le_succ k))
set_option maxHeartbeats 1000000 in
set_option maxRecDepth 100000 in
theorem rused_fs (w : World) (m : RMem) (s : FSt) (h : IsRS w m s) (ok : FsOk s) (fo : FilesOk s) (hN : s.F.length ≤ 1000000000) :
    Calls Tryz.prog 59 #[.pointer (some ⟨m.b, 0, none⟩)] w fun e w' => e = .returned (.int .i64 (s.used : Nat)) ∧ Keeps NoB w w' := by
  obtain ⟨A, c, hv, _, _⟩ := OwnW.slice h.names
  obtain ⟨Af, cf, hfv, _, _⟩ := OwnW.slice h.ptrs
  have hfl : (m.fs.map (·.fb)).length = m.fs.length := by simp
  have H := Sd.mk h
  have c1 := h.c.2.1
  have c9 := h.c.1
  have hlen := ok.len
  rw [hv] at c1
  rw [hfv, hfl] at c9
  have HV := Sd.mk hv
  have HFV := Sd.mk hfv
  have HFO := Sd.mk fo
  have HOK := Sd.mk ok
  clear h hv fo ok hfv hfl
  go_enter Tryz.func59, Tryz.ntmps59
  go_wp2_with fail
  go_loopg [3, 4] s.D.length (fun gk acc i wr => ∃ (k : Nat), gk + k = s.D.length ∧ acc = .int .i64 (usedTo s k : Nat) ∧ i = .int .i64 k ∧ Sd (Keeps NoB w wr))
  case atStart => exact ⟨0, by omega, rfl, rfl, ⟨Keeps.refl _ _⟩⟩
  case round =>
    obtain ⟨k, hk, rfl, rfl, HK⟩ := hrel
    have d1 : wr.cell? ⟨m.b, 1, none⟩ = some (.slice A s.D.length c) := HK.o.cell c1 (fun f => f)
    have d9 : wr.cell? ⟨m.b, 0, none⟩ = some (.slice Af m.fs.length cf) := HK.o.cell c9 (fun f => f)
    by_cases hlt : k < s.D.length
    · have hq1 : (k : Int) < (s.D.length : Int) := by omega
      have hq0 : (0 : Int) ≤ (k : Int) := by omega
      have HR := H.o.kept HK.o
      have hrow := HR.names
      rw [HV.o] at hrow
      obtain ⟨g, cc, e, p0, p1⟩ := EntV.get hrow hlt
      cases e
      have hlow := HOK.o.dirD.low _ (List.getElem_mem hlt)
      obtain ⟨j, hj⟩ : ∃ j, (s.D[k]).2 = j + 1 := ⟨(s.D[k]).2 - 1, by omega⟩
      have hjl : j < m.fs.length := by rw [HR.len]; omega
      have HST := Sd.mk (usedTo_succ s k hlt)
      rw [hj] at p1 HST
      have hptr := HR.ptrs
      rw [HFV.o] at hptr
      obtain ⟨gf, cf', e, q0⟩ := PtrV.get hptr (j := j) (by simpa using hjl)
      cases e
      have q1 : wr.cell? ⟨gf, j, none⟩ = some (.pointer (some ⟨(m.fs[j]).fb, 0, none⟩)) := by simpa using q0
      have hfile := HR.file j hjl
      have q3 := hfile.c.2.2.2
      have e4 : s.F.getD j noFile = s.file (j + 1) := rfl
      rw [e4] at q3
      have hsz := sOf_size (s.file (j + 1)).data
      have hsm := HFO.o.small (j + 1)
      have hub := usedTo_le s HFO.o k
      have p2 : wr.cell? ⟨g, k * 2 + 1, none⟩ = some (.int .i64 ((j : Int) + 1)) := p1
      have hj0 : (0 : Int) ≤ (j : Int) := by omega
      have hj1 : (j : Int) < (m.fs.length : Int) := by omega
      have hj9 : j ≤ 1000000000 := by rw [HR.len] at hjl; omega
      clear hrow hptr hfile HR q0 p1 hlow hj e4
      generalize (m.fs[j]).fb = fb at *
      generalize (s.file (j + 1)).data = dt at *
      generalize usedTo s k = acc at *
      go_wp2_with fail
      go_region
      go_wp2
      go_roundg (gk - 1)
      case measure => omega
      case rel => exact ⟨k + 1, by omega, by rw [HST.o]; go_num, by go_num, ⟨HK.o.drew⟩⟩
    · have hq1 : ¬ (k : Int) < (s.D.length : Int) := by omega
      have HU := Sd.mk (usedTo_all s k (by omega))
      go_wp2
      go_ret
      exact ⟨by rw [← HU.o]; rfl, HK.o⟩
set_option maxHeartbeats 1000000 in
set_option maxRecDepth 100000 in
theorem rnew_any (w : World) (cap : Int) (h0 : 0 ≤ cap) (h1 : cap ≤ 67108864) : Calls Tryz.prog 20 #[.int .i64 cap] w fun e w' => ∃ m : RMem, e = .returned (.tuple #[.pointer (some ⟨m.b, 0, none⟩), .int .i64 0]) ∧ IsRS w' m (FSt.fresh cap) ∧ (∀ k, m.O k → w.heap.size ≤ k) ∧ Keeps NoB w w' := by
  have e0 : ¬ cap < 0 := by omega
  have e1 : ¬ 67108864 < cap := by omega
  have HB := Sd.mk (heap_alloc_new w (.cells #[.slice none 0 0, .slice none 0 0, .slice none 0 0, .slice none 0 0, .int .i64 cap, .int .i64 0, .int .i64 (-1), .bool false, .int .i64 0] 37))
  have HK : Sd (Keeps NoB w (w.alloc (.cells #[.slice none 0 0, .slice none 0 0, .slice none 0 0, .slice none 0 0, .int .i64 cap, .int .i64 0, .int .i64 (-1), .bool false, .int .i64 0] 37))) := ⟨(Keeps.refl NoB w).alloc _⟩
  go_enter Tryz.func20, Tryz.ntmps20
  go_wp2
  go_ret2
  refine ⟨⟨w.heap.size, [], .slice none 0 0, .slice none 0 0, .slice none 0 0, .slice none 0 0⟩, rfl, ⟨HB.o, rfl, ptrV_nil _, fun i hi => by simp at hi, entV_nil _, entV_nil _, rmovV_nil _, fun i j hi => by simp at hi, fun k hk => by simp [Value.ownBlock] at hk⟩, fun k hk => ?_, HK.o⟩
  rcases hk with h | h | h | h | h | ⟨f, h, _⟩
  · exact Nat.le_of_eq h.symm
  · simp [Value.ownBlock] at h
  · simp [Value.ownBlock] at h
  · simp [Value.ownBlock] at h
  · simp [Value.ownBlock] at h
  · simp at h
theorem rnew_bad (w : World) (cap : Int) (h : cap < 0 ∨ 67108864 < cap) : Calls Tryz.prog 20 #[.int .i64 cap] w fun e w' => e = .returned (.tuple #[.pointer none, .int .i64 2]) ∧ Keeps NoB w w' := by
  rcases h with h | h
  · go_enter Tryz.func20, Tryz.ntmps20
    go_wp2
    go_ret2
    exact ⟨rfl, Keeps.refl _ _⟩
  · have h0 : ¬ cap < 0 := by omega
    go_enter Tryz.func20, Tryz.ntmps20
    go_wp2
    go_ret2
    exact ⟨rfl, Keeps.refl _ _⟩
end Go.Proofs.YtlhhcoijkjcneaaGreat
