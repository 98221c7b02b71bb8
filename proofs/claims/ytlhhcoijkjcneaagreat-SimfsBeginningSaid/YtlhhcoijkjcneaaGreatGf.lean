/- The document's file system: torn. -/
import Derived.Test.YtlhhcoijkjcneaaGreatRfM
import Derived.Test.YtlhhcoijkjcneaaGreatSimU
namespace Go.Proofs.YtlhhcoijkjcneaaGreat
open Go.RowKit Go.Maps Go.Lib

set_option maxHeartbeats 4000000 in
set_option maxRecDepth 100000 in
theorem rtorn_any (w : World) (dir n : Int) (A : Option Addr) (c : Nat) (l : List TornS) (hl : l.length ≤ 4611686018427387904) (h : TRd w A l) :
    Calls Tryz.prog 83 #[.agg #[.int .i64 dir, .slice A l.length c], .int .i64 n] w fun e w' => e = .returned (.agg (tornCells (tornOf l n)).toArray) ∧ Keeps NoB w w' := by
  have H := Sd.mk h
  clear h
  go_enter Tryz.func83, Tryz.ntmps83
  go_wp2_with fail
  go_loopg [5] l.length (fun gk i wr => ∃ j : Nat, gk + j = l.length ∧ i = .int .i64 j ∧ Sd (∀ t ∈ l.take j, t.file ≠ n) ∧ Sd (wr.heap[w.heap.size]? = some (.cells #[.int .i64 dir, .slice A l.length c] 25 (0, 0))) ∧
    Sd (wr.heap[w.heap.size + 1]? = some (.cells #[.int .i64 0, .int .i64 0, .int .i64 0] 54 (0, 0))) ∧ Sd (Keeps NoB w wr))
  case atStart =>
    refine ⟨0, by omega, rfl, ⟨by simp⟩, ⟨?_⟩, ⟨?_⟩, ⟨?_⟩⟩
    · exact ((Keeps.refl NoB (w.alloc (.cells #[.int .i64 dir, .slice A l.length c] 25))).alloc _).obj (heap_alloc_new w _) (fun f => f)
    · have := heap_alloc_new (w.alloc (.cells #[.int .i64 dir, .slice A l.length c] 25)) (.cells #[.int .i64 0, .int .i64 0, .int .i64 0] 54)
      simpa using this
    · exact ((Keeps.refl NoB w).alloc _).alloc _
  case round =>
    obtain ⟨j, hj, rfl, hno, HW, HZ, HK⟩ := hrel
    have w1 : wr.cell? ⟨w.heap.size, 1, none⟩ = some (.slice A l.length c) := blk_cell HW.o 1
    have hz0 := blk_cell HZ.o 0
    have hz1 := blk_cell HZ.o 1
    have hz2 := blk_cell HZ.o 2
    have hf0 := blk_frozen HZ.o 0
    have hf1 := blk_frozen HZ.o 1
    have hf2 := blk_frozen HZ.o 2
    by_cases hlt : j < l.length
    · have hq : (j : Int) < (l.length : Int) := by omega
      have hq0 : (0 : Int) ≤ (j : Int) := by omega
      obtain ⟨b1, o1, rfl, hc0, hc1, hc2⟩ := H.o.kept HK.o j hlt
      have htk : l.take (j + 1) = l.take j ++ [l[j]] := List.take_succ_eq_append_getElem hlt
      have hfo : l[j].file = n → tornOf l n = l[j] := tornOf_take hlt hno.o
      generalize l[j] = t at *
      obtain ⟨tf, tw, tb⟩ := t
      dsimp only at hc0 hc1 hc2 hfo
      have HTK := Sd.mk htk
      have HFO := Sd.mk hfo
      clear htk hfo
      by_cases hf : tf = n
      · subst hf
        go_wp2_with fail
        have hb4 := blk_set (blk_set (blk_set HZ.o 0 (.int .i64 tf)) 1 (.int .i64 tw)) 2 (.int .i64 tb)
        refine bodyPost_ret (results_cell_row rfl _ _ (w.heap.size + 1) _ _ _ _ rfl hb4 Tryz.underlying54 rfl (by kernel_rfl)) rfl ?_
        rw [HFO.o (by first | rfl | trivial)]
        exact ⟨rfl, ((HK.o.setF _ _ _ (by omega)).setF _ _ _ (by omega)).setF _ _ _ (by omega)⟩
      · have hq2 : (tf == n) = false := by simpa using hf
        go_wp2_with fail
        go_roundg (gk - 1)
        case measure => omega
        case rel =>
          refine ⟨j + 1, by omega, by go_num, ⟨fun t ht => ?_⟩, HW, HZ, HK⟩
          rw [HTK.o] at ht
          rcases List.mem_append.1 ht with ht | ht
          · exact hno.o t ht
          · simp at ht; subst ht; exact hf
    · have hq : ¬ (j : Int) < (l.length : Int) := by omega
      have hE : Sd (tornOf l n = ⟨0, 0, 0⟩) := ⟨tornOf_none (by have := hno.o; rwa [List.take_of_length_le (by omega)] at this)⟩
      go_wp2_with fail
      have hb4 := blk_set (blk_set (blk_set HZ.o 0 (.int .i64 0)) 1 (.int .i64 0)) 2 (.int .i64 0)
      refine bodyPost_ret (results_cell_row rfl _ _ (w.heap.size + 1) _ _ _ _ rfl hb4 Tryz.underlying54 rfl (by kernel_rfl)) rfl ?_
      rw [hE.o]
      exact ⟨rfl, ((HK.o.setF _ _ _ (by omega)).setF _ _ _ (by omega)).setF _ _ _ (by omega)⟩
end Go.Proofs.YtlhhcoijkjcneaaGreat
namespace Go.Proofs.YtlhhcoijkjcneaaGreat
open Go.RowKit Go.Maps Go.Lib

/-- The directory behind the first k waiting changes. -/
def dirTo (s : FSt) (k : Nat) : Dir := movedAll s.S (s.M.take k)
theorem dirTo_succ (s : FSt) (k : Nat) (hk : k < s.M.length) : dirTo s (k + 1) = moved (dirTo s k) s.M[k] := movedAll_succ s.S s.M k hk
theorem dirTo_all (s : FSt) (k : Nat) (hk : s.M.length ≤ k) : dirTo s k = dirTo s s.M.length := by unfold dirTo; rw [List.take_of_length_le hk, List.take_of_length_le (Nat.le_refl _)]
theorem dirTo_good {s : FSt} (ok : FsOk s) (k : Nat) : GoodDir s.F.length (dirTo s k) := (ok.path.take k).good ok.dirS
theorem dirTo_kind {s : FSt} (ok : FsOk s) (k : Nat) (hk : k < s.M.length) : (s.M[k]).kind = 99 ∨ (s.M[k]).kind = 100 ∨ (s.M[k]).kind = 114 := by
  rcases PathOk.at_ k hk ok.path with h | h
  · exact .inl h.1
  · exact .inr h
/-- The files of which the first k have crashed. -/
def crF (s : FSt) (l : List TornS) (k : Nat) : List FileS := s.F.mapIdx fun j x => if j < k then x.crash (tornOf l ((j + 1 : Nat) : Int)) else x
theorem crF_zero (s : FSt) (l : List TornS) : crF s l 0 = s.F := by
  unfold crF
  apply List.ext_getElem?
  intro i
  rw [List.getElem?_mapIdx]
  cases s.F[i]? <;> simp
theorem crF_all (s : FSt) (l : List TornS) (dir : Int) (k : Nat) (hk : s.F.length ≤ k) : crF s l k = (s.crash dir l).F := by
  unfold crF
  show _ = s.F.mapIdx (fun i x => x.crash (tornOf l ((i + 1 : Nat) : Int)))
  apply List.ext_getElem?
  intro i
  rw [List.getElem?_mapIdx, List.getElem?_mapIdx]
  by_cases hi : i < s.F.length
  · rw [List.getElem?_eq_getElem hi]; simp; omega
  · rw [List.getElem?_eq_none (by omega)]; rfl
theorem crF_len (s : FSt) (l : List TornS) (k : Nat) : (crF s l k).length = s.F.length := by unfold crF; simp
theorem crF_at (s : FSt) (l : List TornS) (k : Nat) (hk : k < s.F.length) : (crF s l k).getD k noFile = s.file (k + 1) := by
  unfold crF FSt.file
  rw [List.getD_eq_getElem?_getD, List.getElem?_mapIdx, List.getD_eq_getElem?_getD]
  simp
theorem crF_succ (s : FSt) (l : List TornS) (k : Nat) (hk : k < s.F.length) : (crF s l k).set k ((s.file (k + 1)).crash (tornOf l ((k + 1 : Nat) : Int))) = crF s l (k + 1) := by
  apply List.ext_getElem?
  intro i
  by_cases hik : k = i
  · subst hik
    rw [List.getElem?_set_self (by rw [crF_len]; exact hk)]
    unfold crF FSt.file
    rw [List.getElem?_mapIdx, List.getD_eq_getElem?_getD, show k + 1 - 1 = k by omega, List.getElem?_eq_getElem hk]
    simp
  · rw [List.getElem?_set_ne hik]
    unfold crF
    rw [List.getElem?_mapIdx, List.getElem?_mapIdx]
    congr 1
    funext x
    by_cases h1 : i < k
    · rw [if_pos h1, if_pos (by omega)]
    · rw [if_neg h1, if_neg (by omega)]
/-- The state behind the statement on the directory. -/
def crD (s : FSt) (dir : Int) : FSt := { s with D := dirTo s dir.toNat, S := dirTo s dir.toNat, M := [] }
theorem crash_eq (s : FSt) (dir : Int) (l : List TornS) (k : Nat) (hk : s.F.length ≤ k) : s.crash dir l = { crD s dir with F := crF s l k, left := -1, off := false } := by
  rw [crF_all s l dir k hk]
  rfl
/-- The rows of names made anew. -/
theorem rs_dirs {w wx wy wz : World} {m : RMem} {s : FSt} {d : Dir} {A1 A2 : Option Addr} {q1 q2 : Nat} (h : IsRS w m s) (hx : Keeps NoB w wx) (h1 : EntV wx (.slice A1 d.length q1) d) (f1 : Fresh w (.slice A1 d.length q1))
    (hy : Keeps NoB (wx.setCell ⟨m.b, 1, none⟩ (.slice A1 d.length q1)) wy) (h2 : EntV wy (.slice A2 d.length q2) d) (f2 : Fresh (wx.setCell ⟨m.b, 1, none⟩ (.slice A1 d.length q1)) (.slice A2 d.length q2))
    (hz : wz = (wy.setCell ⟨m.b, 2, none⟩ (.slice A2 d.length q2)).setCell ⟨m.b, 3, none⟩ (.slice none 0 0)) : RsTo w m { s with D := d, S := d, M := [] } wz := by
  subst hz
  have hxb := h.kept hx
  have k1 : Keeps (OneB m.b) wx (wx.setCell ⟨m.b, 1, none⟩ (.slice A1 d.length q1)) := (Keeps.refl (OneB m.b) wx).setCell ⟨m.b, 1, none⟩ _ (fun _ => rfl)
  have k2 : Keeps (OneB m.b) wy ((wy.setCell ⟨m.b, 2, none⟩ (.slice A2 d.length q2)).setCell ⟨m.b, 3, none⟩ (.slice none 0 0)) := ((Keeps.refl (OneB m.b) wy).setCell ⟨m.b, 2, none⟩ _ (fun _ => rfl)).setCell ⟨m.b, 3, none⟩ _ (fun _ => rfl)
  have kxy : Keeps (OneB m.b) wx wy := k1.trans hy (fun _ _ f => f) (fun _ _ f => f.elim)
  have kall : Keeps (OneB m.b) wx ((wy.setCell ⟨m.b, 2, none⟩ (.slice A2 d.length q2)).setCell ⟨m.b, 3, none⟩ (.slice none 0 0)) := kxy.trans k2 (fun _ _ f => f) (fun _ _ f => f)
  obtain ⟨p1, p2, p3, p4⟩ := hxb.keepsK kall (fun i f => .inl (by have : i = m.b := f; rw [this]; exact hxb.kinds.1))
  have hb1 : (wx.setCell ⟨m.b, 1, none⟩ (.slice A1 d.length q1)).heap[m.b]? = _ := blk_set hxb.blk 1 _
  have hbl := RMem.lt h _ (.inl rfl)
  have hsx := hx.size
  have hs1 := k1.size
  refine ⟨⟨m.b, m.fs, m.fv, .slice A1 d.length q1, .slice A2 d.length q2, .slice none 0 0⟩, rfl, ⟨(blk_set (blk_set (hy.obj hb1 (fun f => f)) 2 _) 3 _).trans rfl, h.len, p1, p2, ?_, ?_, rmovV_nil _, h.apart, fun k hk1 hk2 => ?_⟩, fun i hi => ?_, hx.trans kall (fun _ _ f => f.elim) (fun i _ f => .inl f)⟩
  · exact OwnW.keeps h1 kall (fun i hi f => by
      have := f1 i hi
      have : i = m.b := f
      omega)
  · exact OwnW.keeps h2 k2 (fun i hi f => by
      have := f2 i hi
      have : i = m.b := f
      omega)
  · have := f2 k hk2
    have := OwnW.lt h1 hk1
    omega
  · rcases hi with h3 | h3 | h3 | h3 | h3 | h3
    · exact .inl (.inl h3)
    · exact .inl (.inr (.inl h3))
    · exact .inr (f1 i h3)
    · exact .inr (by have := f2 i h3; omega)
    · simp [Value.ownBlock] at h3
    · exact .inl (.inr (.inr (.inr (.inr (.inr h3)))))
end Go.Proofs.YtlhhcoijkjcneaaGreat
