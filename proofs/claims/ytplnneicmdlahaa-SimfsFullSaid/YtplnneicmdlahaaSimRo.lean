/- simfs: no more is used than there is. -/
import Derived.Test.YtplnneicmdlahaaSimX
namespace Go.Proofs.Ytplnneicmdlahaa
open Go.RowKit

def sumD (f : Nat → Nat) (d : Dir) : Nat := (d.map fun e => f e.2).sum
theorem used_sumD (s : FSt) : s.used = sumD (fun n => (s.file n).data.length) s.D := rfl
theorem sumD_cons (f : Nat → Nat) (e : List UInt8 × Nat) (d : Dir) : sumD f (e :: d) = f e.2 + sumD f d := by simp [sumD]
theorem sumD_append (f : Nat → Nat) (d d' : Dir) : sumD f (d ++ d') = sumD f d + sumD f d' := by simp [sumD]
theorem sumD_congr {f g : Nat → Nat} {d : Dir} (h : ∀ e ∈ d, g e.2 = f e.2) : sumD g d = sumD f d := by
  unfold sumD
  congr 1
  exact List.map_congr_left h
theorem less_cons (e : List UInt8 × Nat) (d : Dir) (a : List UInt8) : Dir.less (e :: d) a = if e.1 = a then d.less a else e :: d.less a := by
  unfold Dir.less
  by_cases h : e.1 = a
  · rw [if_pos h, List.filter_cons_of_neg (by simp [h])]
  · rw [if_neg h, List.filter_cons_of_pos (by simp [h])]
theorem sumD_less (f : Nat → Nat) (d : Dir) (a : List UInt8) : sumD f (d.less a) ≤ sumD f d := by
  induction d with
  | nil => exact Nat.le_refl _
  | cons e d ih =>
    rw [less_cons, sumD_cons]
    split
    · omega
    · rw [sumD_cons]; omega
theorem sumD_less_look {f : Nat → Nat} {d : Dir} {a : List UInt8} {n : Nat} (h : d.lookup a = some n) : sumD f (d.less a) + f n ≤ sumD f d := by
  induction d with
  | nil => cases h
  | cons e d ih =>
    obtain ⟨k, m⟩ := e
    rw [less_cons, sumD_cons]
    rw [List.lookup_cons] at h
    by_cases hk : k = a
    · subst hk
      have : m = n := by simpa using h
      subst this
      simp only [if_true]
      have := sumD_less f d k
      omega
    · simp only [if_neg hk]
      have hb : (a == k) = false := by simp; exact fun e => hk e.symm
      rw [hb] at h
      have := ih h
      rw [sumD_cons]
      dsimp only
      omega
theorem sumD_set {f g : Nat → Nat} {d : Dir} {n : Nat} (hm : ∃ e ∈ d, e.2 = n) (hd : (d.map (·.2)).Nodup) (hne : ∀ e ∈ d, e.2 ≠ n → g e.2 = f e.2) : sumD g d + f n = sumD f d + g n := by
  induction d with
  | nil => obtain ⟨e, he, _⟩ := hm; cases he
  | cons e d ih =>
    rw [sumD_cons, sumD_cons]
    simp only [List.map_cons, List.nodup_cons] at hd
    by_cases he : e.2 = n
    · have hc : sumD g d = sumD f d := sumD_congr fun e' he' => hne e' (List.mem_cons_of_mem _ he') fun h => hd.1 (List.mem_map.2 ⟨e', he', h.trans he.symm⟩)
      rw [hc, he]
      omega
    · have h1 := hne e List.mem_cons_self he
      have h2 := ih (by
        obtain ⟨e', he', hn⟩ := hm
        rcases List.mem_cons.1 he' with rfl | he'
        · exact absurd hn he
        · exact ⟨e', he', hn⟩) hd.2 (fun e' he' => hne e' (List.mem_cons_of_mem _ he'))
      omega
theorem used_does {s : FSt} {k : Nat} (x : DoneS) (hg : GoodDir s.F.length s.D) (hm : ∃ e ∈ s.D, e.2 = k) : (s.does k x).used + (s.file k).data.length = s.used + (doneOn (s.file k).data x).length := by
  obtain ⟨e0, he0, hk0⟩ := hm
  have hk := hg.low e0 he0
  have h := sumD_set (f := fun n => (s.file n).data.length) (g := fun n => ((s.does k x).file n).data.length) (d := s.D) (n := k) ⟨e0, he0, hk0⟩ hg.nums (fun e he hn => by
    have := hg.low e he
    show ((s.setFile k _).file e.2).data.length = _
    rw [setFile_file s k _ (by omega), if_neg (by omega)])
  have h2 : ((s.does k x).file k).data = doneOn (s.file k).data x := by
    show ((s.setFile k _).file k).data = _
    rw [setFile_file s k _ (by omega), if_pos rfl]
  simp only [h2] at h
  exact h
theorem there_at {s : FSt} {n : Int} (h : s.there n = 0) : ∃ e ∈ s.D, e.2 = n.toNat := by
  obtain ⟨_, e, he, hn⟩ := there_mem h
  exact ⟨e, he, by omega⟩
/-- No more is used than there is. -/
def Room (s : FSt) : Prop := (s.used : Int) ≤ s.cap
theorem Room.write {N : Nat} {s : FSt} (h : Inv N s) (r : Room s) (n pos : Int) (p : List UInt8) : Room (s.write n pos p).2 ∧ (s.write n pos p).2.cap = s.cap ∧ ((s.write n pos p).1 = 5 → (s.write n pos p).2 = s ∧ p ≠ []) := by
  unfold FSt.write
  split
  · rename_i ht
    refine ⟨r, rfl, fun h5 => ?_⟩
    exfalso
    revert h5
    unfold FSt.there
    dsimp only
    repeat' split
    all_goals decide
  · rename_i ht
    split
    · exact ⟨r, rfl, fun h5 => absurd (show (2 : Int) = 5 from h5) (by decide)⟩
    · rename_i hpos
      split
      · rename_i hg
        refine ⟨r, rfl, fun _ => ⟨rfl, fun e => ?_⟩⟩
        subst e
        simp at hg
        omega
      · rename_i hg
        have hu := used_does (k := n.toNat) ⟨false, pos.toNat, p⟩ h.ok.dirD (there_at (by simpa using ht))
        have hpn : pos.toNat ≤ (s.file n.toNat).data.length := by omega
        rw [doneOn_write_len _ _ _ hpn] at hu
        refine ⟨?_, rfl, fun h5 => absurd (show (0 : Int) = 5 from h5) (by decide)⟩
        have r' : (s.used : Int) ≤ s.cap := r
        show ((s.does n.toNat _).used : Int) ≤ s.cap
        omega
theorem Room.append {N : Nat} {s : FSt} (h : Inv N s) (r : Room s) (n : Int) (p : List UInt8) : Room (s.append n p).2 ∧ (s.append n p).2.cap = s.cap ∧ ((s.append n p).1 = 5 → (s.append n p).2 = s ∧ p ≠ []) := by
  unfold FSt.append
  split
  · refine ⟨r, rfl, fun h5 => ?_⟩
    exfalso
    revert h5
    unfold FSt.there
    dsimp only
    repeat' split
    all_goals decide
  · exact Room.write h r n _ p
theorem Room.cutAt {N : Nat} {s : FSt} (h : Inv N s) (r : Room s) (n size : Int) : Room (s.cutAt n size).2 ∧ (s.cutAt n size).2.cap = s.cap := by
  unfold FSt.cutAt
  split
  · exact ⟨r, rfl⟩
  · rename_i ht
    split
    · exact ⟨r, rfl⟩
    · have hu := used_does (k := n.toNat) ⟨true, size.toNat, []⟩ h.ok.dirD (there_at (by simpa using ht))
      refine ⟨?_, rfl⟩
      have hl : (doneOn (s.file n.toNat).data ⟨true, size.toNat, []⟩).length ≤ (s.file n.toNat).data.length := by
        show ((s.file n.toNat).data.take size.toNat).length ≤ _
        rw [List.length_take]; omega
      have r' : (s.used : Int) ≤ s.cap := r
      show ((s.does n.toNat _).used : Int) ≤ s.cap
      omega
theorem used_moved (s : FSt) (m : MoveS) (h : m.kind ≠ 99) : (s.change m).used ≤ s.used := by
  show sumD (fun n => (s.file n).data.length) (moved s.D m) ≤ sumD (fun n => (s.file n).data.length) s.D
  unfold moved
  rw [if_neg h]
  split
  · exact sumD_less _ _ _
  · split
    · exact Nat.le_refl _
    · rename_i n hn
      split
      · exact Nat.le_refl _
      · rw [sumD_append]
        have h1 := sumD_less_look (f := fun n => (s.file n).data.length) (show s.D.lookup m.a = some n from hn)
        have h2 := sumD_less (fun n => (s.file n).data.length) (s.D.less m.a) m.b
        have h3 : sumD (fun n => (s.file n).data.length) [(m.b, n)] = (s.file n).data.length := by simp [sumD]
        omega
theorem Room.rename {s : FSt} (r : Room s) (a b : List UInt8) : Room (s.rename a b).2 ∧ (s.rename a b).2.cap = s.cap := by
  unfold FSt.rename
  split
  · exact ⟨r, rfl⟩
  · split
    · exact ⟨r, rfl⟩
    · have := used_moved s ⟨114, a, b, 0⟩ (show (114 : Nat) ≠ 99 by decide)
      have r' : (s.used : Int) ≤ s.cap := r
      refine ⟨?_, rfl⟩
      show ((s.change _).used : Int) ≤ s.cap
      omega
theorem Room.remove {s : FSt} (r : Room s) (a : List UInt8) : Room (s.remove a).2 ∧ (s.remove a).2.cap = s.cap := by
  unfold FSt.remove
  split
  · exact ⟨r, rfl⟩
  · split
    · exact ⟨r, rfl⟩
    · have := used_moved s ⟨100, a, [], 0⟩ (show (100 : Nat) ≠ 99 by decide)
      have r' : (s.used : Int) ≤ s.cap := r
      refine ⟨?_, rfl⟩
      show ((s.change _).used : Int) ≤ s.cap
      omega
theorem Room.create {N : Nat} {s : FSt} (h : Inv N s) (r : Room s) (a : List UInt8) : Room (s.create a).2.2 ∧ (s.create a).2.2.cap = s.cap := by
  unfold FSt.create
  split
  · exact ⟨r, rfl⟩
  · split
    · exact ⟨r, rfl⟩
    · split
      · exact ⟨r, rfl⟩
      · refine ⟨?_, rfl⟩
        have r' : (s.used : Int) ≤ s.cap := r
        have e : (FSt.change { s with F := s.F ++ [noFile] } ⟨99, a, [], s.F.length + 1⟩).used = s.used := by
          show sumD (fun n => (((s.F ++ [noFile]).getD (n - 1) noFile)).data.length) (s.D ++ [(a, s.F.length + 1)]) = _
          rw [sumD_append, used_sumD]
          have h1 : sumD (fun n => (((s.F ++ [noFile]).getD (n - 1) noFile)).data.length) [(a, s.F.length + 1)] = 0 := by
            simp [sumD, noFile]
          rw [h1, Nat.add_zero]
          refine sumD_congr fun e he => ?_
          have := h.ok.dirD.low e he
          unfold FSt.file
          rw [List.getD_eq_getElem?_getD, List.getD_eq_getElem?_getD, List.getElem?_append_left (by omega)]
        show ((FSt.change _ _).used : Int) ≤ s.cap
        rw [e]
        exact r'
theorem Room.fresh {c : Int} (hc : 0 ≤ c) : Room (FSt.fresh c) := by
  show ((FSt.fresh c).used : Int) ≤ c
  exact hc
end Go.Proofs.Ytplnneicmdlahaa
