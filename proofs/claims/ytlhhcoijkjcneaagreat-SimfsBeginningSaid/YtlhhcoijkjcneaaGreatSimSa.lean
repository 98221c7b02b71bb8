/- SimfsSwitch, plainly: a file that is written aside, synced and renamed is seen wholly, or not at all. -/
import Derived.Test.YtlhhcoijkjcneaaGreatSimX
namespace Go.Proofs.YtlhhcoijkjcneaaGreat
open Go.RowKit

def itL : List UInt8 := [105, 116]
def newL : List UInt8 := [105, 116, 46, 110, 101, 119]
theorem it_name : nameE itL = 0 := by decide +kernel
theorem new_name : nameE newL = 0 := by decide +kernel
theorem it_ne : (newL == itL) = false := by decide +kernel
theorem new_ne : (itL == newL) = false := by decide +kernel
def swF (old : List UInt8) : FileS := ⟨old, [], old⟩
/-- What is there ahead of the change. -/
def swS (old : List UInt8) (ops : Nat) (left : Int) (off : Bool) : FSt := ⟨[swF old], [(itL, 1)], [(itL, 1)], [], 67108864, ops, left, off⟩
theorem sw_start (old : List UInt8) (ho : old.length ≤ 20000) : ((FSt.fresh 67108864).create itL).1 = 1 ∧
    ((((((FSt.fresh 67108864).create itL).2.2.append 1 old).2.sync 1).2.syncDir).2) = swS old 4 (-1) false := by
  have e1 : (FSt.fresh 67108864).create itL = (1, 0, ⟨[noFile], [(itL, 1)], [], [⟨99, itL, [], 1⟩], 67108864, 1, -1, false⟩) := by
    simp [FSt.create, FSt.fresh, FSt.named1, it_name, Dir.at_, FSt.change, FSt.counts, moved]
  have e2 : (⟨[noFile], [(itL, 1)], [], [⟨99, itL, [], 1⟩], 67108864, 1, -1, false⟩ : FSt).append 1 old = (0, ⟨[⟨[], [⟨false, 0, old⟩], old⟩], [(itL, 1)], [], [⟨99, itL, [], 1⟩], 67108864, 2, -1, false⟩) := by
    have h : ¬ (67108864 : Int) < old.length := by omega
    simp [FSt.append, FSt.there, FSt.write, FSt.file, noFile, FSt.used, FSt.does, FSt.setFile, FSt.counts, doneOn, h]
  refine ⟨by rw [e1], ?_⟩
  rw [e1]
  dsimp only
  rw [e2]
  simp [FSt.sync, FSt.there, FSt.file, FSt.setFile, FSt.counts, FSt.syncDir, swS, swF]
def leftN (left : Int) : Int := if 0 < left then left - 1 else left
def offN (left : Int) (off : Bool) : Bool := if 0 < left then decide (left = 1) else off
theorem counts_eq (F : List FileS) (D S : Dir) (M : List MoveS) (c : Int) (ops : Nat) (left : Int) (off : Bool) : FSt.counts ⟨F, D, S, M, c, ops, left, off⟩ = ⟨F, D, S, M, c, ops + 1, leftN left, offN left off⟩ := rfl
/-- The steps of the change, where the power is on. -/
theorem sw1 (old : List UInt8) (ops : Nat) (left : Int) : (swS old ops left false).create newL = (2, 0, ⟨[swF old, noFile], [(itL, 1), (newL, 2)], [(itL, 1)], [⟨99, newL, [], 2⟩], 67108864, ops + 1, leftN left, offN left false⟩) := by
  simp [FSt.create, swS, FSt.named1, new_name, Dir.at_, List.lookup, it_ne, FSt.change, counts_eq, moved]
theorem sw2 (old fresh : List UInt8) (ho : old.length ≤ 20000) (hf : fresh.length ≤ 20000) (ops : Nat) (left : Int) : (⟨[swF old, noFile], [(itL, 1), (newL, 2)], [(itL, 1)], [⟨99, newL, [], 2⟩], 67108864, ops, left, false⟩ : FSt).append 2 fresh =
    (0, ⟨[swF old, ⟨[], [⟨false, 0, fresh⟩], fresh⟩], [(itL, 1), (newL, 2)], [(itL, 1)], [⟨99, newL, [], 2⟩], 67108864, ops + 1, leftN left, offN left false⟩) := by
  have h : ¬ (67108864 : Int) - old.length < fresh.length := by omega
  simp [FSt.append, FSt.there, FSt.write, FSt.file, noFile, FSt.used, FSt.does, FSt.setFile, counts_eq, doneOn, swF, h]
theorem sw3 (old fresh : List UInt8) (ops : Nat) (left : Int) : (⟨[swF old, ⟨[], [⟨false, 0, fresh⟩], fresh⟩], [(itL, 1), (newL, 2)], [(itL, 1)], [⟨99, newL, [], 2⟩], 67108864, ops, left, false⟩ : FSt).sync 2 =
    (0, ⟨[swF old, swF fresh], [(itL, 1), (newL, 2)], [(itL, 1)], [⟨99, newL, [], 2⟩], 67108864, ops + 1, leftN left, offN left false⟩) := by
  simp [FSt.sync, FSt.there, FSt.file, FSt.setFile, counts_eq, swF]
theorem sw4 (old fresh : List UInt8) (ops : Nat) (left : Int) : (⟨[swF old, swF fresh], [(itL, 1), (newL, 2)], [(itL, 1)], [⟨99, newL, [], 2⟩], 67108864, ops, left, false⟩ : FSt).rename newL itL =
    (0, ⟨[swF old, swF fresh], [(itL, 2)], [(itL, 1)], [⟨99, newL, [], 2⟩, ⟨114, newL, itL, 0⟩], 67108864, ops + 1, leftN left, offN left false⟩) := by
  have h2 : (newL = itL) = False := by simp [newL, itL]
  have h3 : (itL = newL) = False := by simp [newL, itL]
  simp [FSt.rename, FSt.named2, it_name, new_name, Dir.at_, List.lookup, it_ne, FSt.change, counts_eq, moved, Dir.less, h2, h3]
theorem sw5 (old fresh : List UInt8) (ops : Nat) (left : Int) : (⟨[swF old, swF fresh], [(itL, 2)], [(itL, 1)], [⟨99, newL, [], 2⟩, ⟨114, newL, itL, 0⟩], 67108864, ops, left, false⟩ : FSt).syncDir =
    (0, ⟨[swF old, swF fresh], [(itL, 2)], [(itL, 2)], [], 67108864, ops + 1, leftN left, offN left false⟩) := by
  simp [FSt.syncDir, counts_eq]
/-- Where the power is off, nothing turns. -/
theorem off_create {s : FSt} (h : s.off = true) (a : List UInt8) : (s.create a).1 = 0 ∧ (s.create a).2.2 = s := by simp [FSt.create, FSt.named1, h]
theorem off_append {s : FSt} (h : s.off = true) (n : Int) (p : List UInt8) : (s.append n p).2 = s := by simp [FSt.append, FSt.there, h]
theorem off_sync {s : FSt} (h : s.off = true) (n : Int) : (s.sync n).2 = s := by simp [FSt.sync, FSt.there, h]
theorem off_rename {s : FSt} (h : s.off = true) (a b : List UInt8) : (s.rename a b).2 = s := by simp [FSt.rename, FSt.named2, h]
theorem off_syncDir {s : FSt} (h : s.off = true) : s.syncDir.2 = s := by simp [FSt.syncDir, h]
theorem crash_swF (old : List UInt8) (t : TornS) : (swF old).crash t = swF old := by
  simp [FileS.crash, swF, doneAll]
/-- What is seen behind the crash: P. -/
def Seen (s : FSt) (old fresh : List UInt8) (dir : Int) (l : List TornS) : Prop :=
  ((s.crash dir l).opened itL).2 = 0 ∧ ((s.crash dir l).read ((s.crash dir l).opened itL).1 0 67108864).2 = 0 ∧
  ((s.off = true ∧ ((s.crash dir l).read ((s.crash dir l).opened itL).1 0 67108864).1 = old) ∨ ((s.crash dir l).read ((s.crash dir l).opened itL).1 0 67108864).1 = fresh)
theorem seen_old (F : List FileS) (S D : Dir) (M : List MoveS) (ops : Nat) (left : Int) (old fresh : List UInt8) (ho : old.length ≤ 20000) (dir : Int) (l : List TornS) (h : (movedAll S (M.take dir.toNat)).at_ itL = some 1) (h2 : (movedAll S (M.take dir.toNat)).any (fun e => ((e.2 : Nat) : Int) == 1) = true) :
    Seen ⟨swF old :: F, D, S, M, 67108864, ops, left, true⟩ old fresh dir l := by
  have hop : ((⟨swF old :: F, D, S, M, 67108864, ops, left, true⟩ : FSt).crash dir l).opened itL = (1, 0) := by
    simp [FSt.opened, FSt.crash, FSt.named1, it_name, h]
  have hrd : ((⟨swF old :: F, D, S, M, 67108864, ops, left, true⟩ : FSt).crash dir l).read 1 0 67108864 = (old, 0) := by
    have hth : ((⟨swF old :: F, D, S, M, 67108864, ops, left, true⟩ : FSt).crash dir l).there 1 = 0 := by
      simp only [FSt.there, FSt.crash, h2]; rfl
    have hfl : ((⟨swF old :: F, D, S, M, 67108864, ops, left, true⟩ : FSt).crash dir l).file 1 = swF old := by
      simp [FSt.file, FSt.crash, crash_swF]
    unfold FSt.read
    have e1 : ¬ ((0 : Int) < 0 ∨ ((swF old).data.length : Int) < 0 ∨ (67108864 : Int) < 0) := by omega
    rw [hth, show (1 : Int).toNat = 1 from rfl, hfl, if_neg (by simp), if_neg e1]
    show (List.take (Int.toNat 67108864) (List.drop (Int.toNat 0) old), (0 : Int)) = _
    simp only [Int.toNat_zero, List.drop_zero]
    rw [List.take_of_length_le (by show old.length ≤ 67108864; omega)]
  unfold Seen
  rw [hop, hrd]
  exact ⟨rfl, rfl, .inl ⟨rfl, rfl⟩⟩
theorem seen_new (F1 : FileS) (S D : Dir) (M : List MoveS) (ops : Nat) (left : Int) (off : Bool) (old fresh : List UInt8) (hf : fresh.length ≤ 20000) (dir : Int) (l : List TornS) (h : (movedAll S (M.take dir.toNat)).at_ itL = some 2) (h2 : (movedAll S (M.take dir.toNat)).any (fun e => ((e.2 : Nat) : Int) == 2) = true) :
    Seen ⟨[F1, swF fresh], D, S, M, 67108864, ops, left, off⟩ old fresh dir l := by
  have hop : ((⟨[F1, swF fresh], D, S, M, 67108864, ops, left, off⟩ : FSt).crash dir l).opened itL = (2, 0) := by
    simp [FSt.opened, FSt.crash, FSt.named1, it_name, h]
  have hrd : ((⟨[F1, swF fresh], D, S, M, 67108864, ops, left, off⟩ : FSt).crash dir l).read 2 0 67108864 = (fresh, 0) := by
    have hth : ((⟨[F1, swF fresh], D, S, M, 67108864, ops, left, off⟩ : FSt).crash dir l).there 2 = 0 := by
      simp only [FSt.there, FSt.crash, h2]; rfl
    have hfl : ((⟨[F1, swF fresh], D, S, M, 67108864, ops, left, off⟩ : FSt).crash dir l).file 2 = swF fresh := by
      simp [FSt.file, FSt.crash, crash_swF]
    unfold FSt.read
    have e1 : ¬ ((0 : Int) < 0 ∨ ((swF fresh).data.length : Int) < 0 ∨ (67108864 : Int) < 0) := by omega
    rw [hth, show (2 : Int).toNat = 2 from rfl, hfl, if_neg (by simp), if_neg e1]
    show (List.take (Int.toNat 67108864) (List.drop (Int.toNat 0) fresh), (0 : Int)) = _
    simp only [Int.toNat_zero, List.drop_zero]
    rw [List.take_of_length_le (by show fresh.length ≤ 67108864; omega)]
  unfold Seen
  rw [hop, hrd]
  exact ⟨rfl, rfl, .inr rfl⟩
theorem take_cases {α : Type} (l : List α) (n : Nat) (h : l.length = 2) : l.take n = [] ∨ l.take n = l.take 1 ∨ l.take n = l := by
  rcases n with _ | _ | n
  · exact .inl rfl
  · exact .inr (.inl rfl)
  · exact .inr (.inr (List.take_of_length_le (by omega)))
theorem take_one_cases {α : Type} (x : α) (n : Nat) : [x].take n = [] ∨ [x].take n = [x] := by
  rcases n with _ | n
  · exact .inl rfl
  · exact .inr (by simp)
/-- The whole change. -/
def swEnd (s : FSt) (fresh : List UInt8) : FSt := ((((((s.create newL).2.2.append (s.create newL).1 fresh).2).sync (s.create newL).1).2.rename newL itL).2.syncDir).2
theorem off_end {s : FSt} (h : s.off = true) (fresh : List UInt8) : swEnd s fresh = s := by
  unfold swEnd
  rw [(off_create h _).2, off_append h, off_sync h, off_rename h, off_syncDir h]
theorem switch_plain (old fresh : List UInt8) (ho : old.length ≤ 20000) (hf : fresh.length ≤ 20000) (ops : Nat) (left : Int) (off : Bool) (dir : Int) (l : List TornS) : Seen (swEnd (swS old ops left off) fresh) old fresh dir l := by
  have hA : movedAll [(itL, 1)] [⟨99, newL, [], 2⟩] = [(itL, 1), (newL, 2)] := by simp [movedAll, moved]
  have h2 : (newL = itL) = False := by simp [newL, itL]
  have hB : movedAll [(itL, 1)] [⟨99, newL, [], 2⟩, ⟨114, newL, itL, 0⟩] = [(itL, 2)] := by
    have h3 : (itL = newL) = False := by simp [newL, itL]
    simp [movedAll, moved, Dir.at_, List.lookup, it_ne, Dir.less, h2, h3]
  have l1 : Dir.at_ [(itL, 1)] itL = some 1 := by simp [Dir.at_, List.lookup]
  have l2 : Dir.at_ [(itL, 1), (newL, 2)] itL = some 1 := by simp [Dir.at_, List.lookup]
  have l3 : Dir.at_ [(itL, 2)] itL = some 2 := by simp [Dir.at_, List.lookup]
  cases off with
  | true =>
    rw [off_end rfl]
    exact seen_old [] _ _ _ _ _ old fresh ho dir l (by rw [List.take_nil]; exact l1) (by rw [List.take_nil]; simp [movedAll])
  | false =>
    unfold swEnd
    rw [sw1]
    dsimp only
    cases h1 : offN left false with
    | true =>
      rw [off_append rfl, off_sync rfl, off_rename rfl, off_syncDir rfl]
      refine seen_old _ _ _ _ _ _ old fresh ho dir l ?_ ?_
      all_goals (rcases take_one_cases (⟨99, newL, [], 2⟩ : MoveS) dir.toNat with e | e <;> rw [e])
      · exact l1
      · rw [hA]; exact l2
      · simp [movedAll]
      · rw [hA]; simp
    | false =>
      rw [sw2 _ _ ho hf]
      dsimp only
      cases h1 : offN (leftN left) false with
      | true =>
        rw [off_sync rfl, off_rename rfl, off_syncDir rfl]
        refine seen_old _ _ _ _ _ _ old fresh ho dir l ?_ ?_
        all_goals (rcases take_one_cases (⟨99, newL, [], 2⟩ : MoveS) dir.toNat with e | e <;> rw [e])
        · exact l1
        · rw [hA]; exact l2
        · simp [movedAll]
        · rw [hA]; simp
      | false =>
        rw [sw3]
        dsimp only
        cases h1 : offN (leftN (leftN left)) false with
        | true =>
          rw [off_rename rfl, off_syncDir rfl]
          refine seen_old _ _ _ _ _ _ old fresh ho dir l ?_ ?_
          all_goals (rcases take_one_cases (⟨99, newL, [], 2⟩ : MoveS) dir.toNat with e | e <;> rw [e])
          · exact l1
          · rw [hA]; exact l2
          · simp [movedAll]
          · rw [hA]; simp
        | false =>
          rw [sw4]
          dsimp only
          cases h1 : offN (leftN (leftN (leftN left))) false with
          | true =>
            rw [off_syncDir rfl]
            rcases take_cases ([⟨99, newL, [], 2⟩, ⟨114, newL, itL, 0⟩] : List MoveS) dir.toNat rfl with e | e | e
            · exact seen_old _ _ _ _ _ _ old fresh ho dir l (by rw [e]; exact l1) (by rw [e]; simp [movedAll])
            · exact seen_old _ _ _ _ _ _ old fresh ho dir l (by rw [e]; show Dir.at_ (movedAll [(itL, 1)] [⟨99, newL, [], 2⟩]) itL = some 1; rw [hA]; exact l2) (by rw [e]; show List.any (movedAll [(itL, 1)] [⟨99, newL, [], 2⟩]) _ = true; rw [hA]; simp)
            · exact seen_new _ _ _ _ _ _ _ old fresh hf dir l (by rw [e, hB]; exact l3) (by rw [e, hB]; simp)
          | false =>
            rw [sw5]
            exact seen_new _ _ _ _ _ _ _ old fresh hf dir l (by rw [List.take_nil]; exact l3) (by rw [List.take_nil]; simp [movedAll])
end Go.Proofs.YtlhhcoijkjcneaaGreat
