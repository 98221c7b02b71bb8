/- simfs: a crash, plainly. -/
import Derived.Test.YtlhhcoijkjcneaaGreatSimT
namespace Go.Proofs.YtlhhcoijkjcneaaGreat
open Go.RowKit Go.Maps Go.Lib

theorem crash_file (s : FSt) (dir : Int) (l : List TornS) (n : Nat) (h1 : 1 ≤ n) (h2 : n ≤ s.F.length) : (s.crash dir l).file n = (s.file n).crash (tornOf l n) := by
  unfold FSt.crash FSt.file
  dsimp only
  rw [List.getD_eq_getElem?_getD, List.getD_eq_getElem?_getD, List.getElem?_mapIdx, List.getElem?_eq_getElem (by omega : n - 1 < s.F.length)]
  simp only [Option.map_some, Option.getD_some]
  rw [show n - 1 + 1 = n by omega]
theorem FileS.crash_ok {x : FileS} (h : LogOk x.safe x.log) (t : TornS) : (x.crash t).log = [] ∧ (x.crash t).safe = (x.crash t).data ∧ (x.crash t).data.length ≤ 67108864 := by
  unfold FileS.crash
  dsimp only
  refine ⟨rfl, rfl, ?_⟩
  by_cases hk : min t.writes.toNat x.log.length < x.log.length
  · rw [List.getElem?_eq_getElem hk]
    dsimp only
    have hall : (doneAll x.safe (x.log.take (min t.writes.toNat x.log.length))).length ≤ 67108864 := (h.take _).all
    have hn := h.next _ hk
    have hp := h.at_ _ hk
    generalize x.log[min t.writes.toNat x.log.length] = d at *
    split
    · exact hall
    · rename_i hc
      have e2 : ({ d with p := d.p.take t.bytes.toNat } : DoneS) = ⟨false, d.pos, d.p.take t.bytes.toNat⟩ := by
        cases d with
        | mk c0 p0 d0 => simp at hc; subst hc; rfl
      have e3 : d = ⟨false, d.pos, d.p⟩ := by
        cases d with
        | mk c0 p0 d0 => simp at hc; subst hc; rfl
      rw [e2, doneOn_write_len _ _ _ hp, List.length_take]
      rw [e3, doneOn_write_len _ _ _ hp] at hn
      omega
  · rw [List.getElem?_eq_none (by omega)]
    exact (h.take _).all
theorem noFile_crash (t : TornS) : noFile.crash t = noFile := by
  unfold FileS.crash noFile
  simp [doneAll]
theorem crash_file0 (s : FSt) (dir : Int) (l : List TornS) (n : Nat) : ∃ t, (s.crash dir l).file n = (s.file n).crash t := by
  by_cases h : n - 1 < s.F.length
  · refine ⟨tornOf l ((n - 1 + 1 : Nat) : Int), ?_⟩
    unfold FSt.crash FSt.file
    dsimp only
    rw [List.getD_eq_getElem?_getD, List.getD_eq_getElem?_getD, List.getElem?_mapIdx, List.getElem?_eq_getElem h]
    rfl
  · refine ⟨⟨0, 0, 0⟩, ?_⟩
    have e1 : s.file n = noFile := by
      unfold FSt.file
      rw [List.getD_eq_getElem?_getD, List.getElem?_eq_none (by omega)]; rfl
    have e2 : (s.crash dir l).file n = noFile := by
      unfold FSt.crash FSt.file
      dsimp only
      rw [List.getD_eq_getElem?_getD, List.getElem?_mapIdx, List.getElem?_eq_none (by omega)]; rfl
    rw [e1, e2, noFile_crash]
theorem Inv.crash {N : Nat} {s : FSt} (h : Inv N s) (dir : Int) (l : List TornS) : Inv N (s.crash dir l) := by
  have hF : (s.crash dir l).F.length = s.F.length := by simp [FSt.crash]
  have hgood : GoodDir s.F.length (movedAll s.S (s.M.take dir.toNat)) := (h.ok.path.take dir.toNat).good h.ok.dirS
  refine ⟨⟨?_, ?_, trivial, rfl, h.ok.cap, ⟨Int.le_refl (-1), by show (-1 : Int) ≤ 9223372036854775807; decide⟩, h.ok.lens _, fun k => ?_⟩, fun n => ?_, ⟨h.lim.ops, ?_, Nat.zero_le _, fun n => ?_, (fun x hx => by cases hx), fun n d hd => ?_⟩⟩
  · rw [hF]; exact hgood
  · rw [hF]; exact hgood
  · show (movedAll (movedAll s.S (s.M.take dir.toNat)) (([] : List MoveS).take k)).length ≤ 4096
    rw [List.take_nil]
    exact h.ok.lens _
  · obtain ⟨t, ht⟩ := crash_file0 s dir l n
    rw [ht]
    obtain ⟨h1, h2, h3⟩ := FileS.crash_ok (h.files n).1 t
    rw [h1, h2]
    exact ⟨h3, rfl⟩
  · rw [hF]; exact h.lim.files
  · obtain ⟨t, ht⟩ := crash_file0 s dir l n
    rw [ht, (FileS.crash_ok (h.files n).1 t).1]
    exact Nat.zero_le _
  · obtain ⟨t, ht⟩ := crash_file0 s dir l n
    rw [ht, (FileS.crash_ok (h.files n).1 t).1] at hd
    cases hd
/-- Who has come of a directory's numbers. -/
def dn (d : Dir) (left : List UInt8 → Bool) (n : Nat) : Bool := d.any fun e => e.2 == n && !left e.1
theorem dn_start (d : Dir) (hd : (d.map (·.1)).Nodup) (n : Nat) : dn d (fun s => (d.lookup s).isSome) n = false := by
  unfold dn
  rw [List.any_eq_false]
  intro e he
  show ¬ (e.2 == n && !(d.lookup e.1).isSome) = true
  rw [mem_lookup hd (show (e.1, e.2) ∈ d from he)]
  simp
theorem dn_step {d : Dir} (hd : (d.map (·.1)).Nodup) {left : List UInt8 → Bool} {s : List UInt8} {k : Nat} (hl : d.lookup s = some k) (n : Nat) : dn d (fun x => left x && x != s) n = (dn d left n || n == k) := by
  unfold dn
  rw [Bool.eq_iff_iff, List.any_eq_true, Bool.or_eq_true, List.any_eq_true]
  constructor
  · rintro ⟨e, he, h⟩
    simp only [Bool.and_eq_true, beq_iff_eq, Bool.not_eq_true', Bool.and_eq_false_iff] at h
    obtain ⟨h1, h2 | h2⟩ := h
    · exact .inl ⟨e, he, by simp [h1, h2]⟩
    · right
      have hes : e.1 = s := by simpa using h2
      have := mem_lookup hd (show (e.1, e.2) ∈ d from he)
      rw [hes, hl] at this
      cases this
      simp [h1]
  · rintro (⟨e, he, h⟩ | h)
    · simp only [Bool.and_eq_true, beq_iff_eq, Bool.not_eq_true'] at h
      exact ⟨e, he, by simp [h.1, h.2]⟩
    · have hnk : n = k := by simpa using h
      subst hnk
      exact ⟨(s, n), lookup_mem hl, by simp⟩
theorem dn_end {d : Dir} {left : List UInt8 → Bool} (hl : ∀ s, left s = false) (n : Nat) : dn d left n = d.any fun e => e.2 == n := by
  unfold dn
  congr 1
  funext e
  rw [hl]; simp
/-- One that is still to come has not come. -/
theorem dn_not {N : Nat} {d : Dir} (hd : GoodDir N d) {left : List UInt8 → Bool} {s : List UInt8} {k : Nat} (hl : d.lookup s = some k) (hs : left s = true) : dn d left k = false := by
  unfold dn
  rw [List.any_eq_false]
  intro e he h
  simp only [Bool.and_eq_true, beq_iff_eq, Bool.not_eq_true'] at h
  have := hd.one he (lookup_mem hl) h.1
  rw [this] at h
  rw [hs] at h
  exact absurd h.2 (by simp)
theorem RangeN.left_le {w : World} {b r : Nat} {d : Dir} {left : List UInt8 → Bool} (h : RangeN w b r d left) : w.rangeLeft b r ≤ d.length := by
  obtain ⟨D, lf, cnt, hr, _, _⟩ := h
  rw [hr.left_eq]
  obtain ⟨es, clock, since, seen, c0, h1, h2, h3, h4, h5, h6, h7, _⟩ := hr
  rw [← h7]
  refine Nat.le_trans ?_ h3
  unfold leftOf
  exact Array.size_filter_le
end Go.Proofs.YtlhhcoijkjcneaaGreat
