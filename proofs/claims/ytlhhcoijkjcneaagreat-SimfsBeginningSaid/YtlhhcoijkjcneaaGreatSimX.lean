/- simfs: every operation keeps what holds of every file system. -/
import Derived.Test.YtlhhcoijkjcneaaGreatSimW
namespace Go.Proofs.YtlhhcoijkjcneaaGreat
open Go.RowKit Go.Maps Go.Lib

theorem sum_ge {l : List Nat} {x : Nat} (h : x ∈ l) : x ≤ l.sum := by
  induction l with
  | nil => cases h
  | cons a l ih =>
    rw [List.sum_cons]
    rcases List.mem_cons.1 h with rfl | h
    · omega
    · have := ih h; omega
theorem there_mem {s : FSt} {n : Int} (h : s.there n = 0) : s.off = false ∧ ∃ e ∈ s.D, (e.2 : Int) = n := by
  unfold FSt.there at h
  split at h
  · cases h
  · rename_i ho
    split at h
    · rename_i ha
      obtain ⟨e, he, hn⟩ := List.any_eq_true.1 ha
      exact ⟨by simpa using ho, e, he, by simpa using hn⟩
    · cases h
theorem used_ge {s : FSt} {n : Int} (h : s.there n = 0) : (s.file n.toNat).data.length ≤ s.used ∧ n.toNat - 1 < s.F.length ∨ ∀ N, ¬ GoodDir N s.D ∨ N < s.F.length ∨ s.F.length < N := by
  obtain ⟨_, e, he, hn⟩ := there_mem h
  by_cases hg : GoodDir s.F.length s.D
  · left
    have h1 := hg.low e he
    have h2 : n.toNat = e.2 := by omega
    rw [h2]
    exact ⟨sum_ge (List.mem_map.2 ⟨e, he, rfl⟩), by omega⟩
  · right
    intro N
    by_cases hN : N = s.F.length
    · subst hN; exact .inl hg
    · omega
theorem Inv.at_ {N : Nat} {s : FSt} (h : Inv N s) {n : Int} (ht : s.there n = 0) : (s.file n.toNat).data.length ≤ s.used ∧ n.toNat - 1 < s.F.length := by
  rcases used_ge ht with h1 | h1
  · exact h1
  · rcases h1 s.F.length with h2 | h2 | h2
    · exact absurd h.ok.dirD h2
    · omega
    · omega
theorem Inv.write {N : Nat} {s : FSt} (h : Inv N s) (n pos : Int) (p : List UInt8) (hp : p.length ≤ 70368744177664) : Inv (N + 1) (s.write n pos p).2 := by
  unfold FSt.write
  split
  · exact h.mono (by omega)
  · rename_i ht
    split
    · exact h.mono (by omega)
    · rename_i hpos
      split
      · exact h.mono (by omega)
      · rename_i hg
        obtain ⟨h1, h2⟩ := h.at_ (n := n) (by simpa using ht)
        have hcap := h.ok.cap
        have hsm := h.files.small n.toNat
        have hpn : pos.toNat ≤ (s.file n.toNat).data.length := by omega
        refine h.does n.toNat ⟨false, pos.toNat, p⟩ h2 hpn ?_ hp
        rw [doneOn_write_len _ _ _ hpn]
        omega
theorem Inv.append {N : Nat} {s : FSt} (h : Inv N s) (n : Int) (p : List UInt8) (hp : p.length ≤ 70368744177664) : Inv (N + 1) (s.append n p).2 := by
  unfold FSt.append
  split
  · exact h.mono (by omega)
  · exact h.write n _ p hp
theorem Inv.cutAt {N : Nat} {s : FSt} (h : Inv N s) (n size : Int) : Inv (N + 1) (s.cutAt n size).2 := by
  unfold FSt.cutAt
  split
  · exact h.mono (by omega)
  · rename_i ht
    split
    · exact h.mono (by omega)
    · rename_i hpos
      obtain ⟨h1, h2⟩ := h.at_ (n := n) (by simpa using ht)
      have hsm := h.files.small n.toNat
      refine h.does n.toNat ⟨true, size.toNat, []⟩ h2 (by dsimp only; omega) ?_ (by simp)
      show ((s.file n.toNat).data.take size.toNat).length ≤ 67108864
      rw [List.length_take]; omega
theorem Inv.sync {N : Nat} {s : FSt} (h : Inv N s) (n : Int) : Inv (N + 1) (s.sync n).2 := by
  unfold FSt.sync
  split
  · exact h.mono (by omega)
  · rename_i ht
    exact h.setSync n.toNat (h.at_ (n := n) (by simpa using ht)).2
theorem Inv.syncDir {N : Nat} {s : FSt} (h : Inv N s) : Inv (N + 1) s.syncDir.2 := by
  unfold FSt.syncDir
  split
  · exact h.mono (by omega)
  · exact h.syncD
theorem nameE_len {a : List UInt8} (h : nameE a = 0) : a.length ≤ 64 := by
  unfold nameE at h
  split at h
  · rename_i hn
    unfold nameOk at hn
    simp only [Bool.and_eq_true, decide_eq_true_eq] at hn
    exact hn.1.2
  · cases h
theorem named1_len {s : FSt} {a : List UInt8} (h : s.named1 a = 0) : a.length ≤ 64 := by
  unfold FSt.named1 at h
  split at h
  · cases h
  · exact nameE_len h
theorem Inv.create {N : Nat} {s : FSt} (h : Inv N s) (a : List UInt8) : Inv (N + 2) (s.create a).2.2 := by
  unfold FSt.create
  split
  · exact h.mono (by omega)
  · rename_i hn
    split
    · exact h.mono (by omega)
    · rename_i hl
      split
      · exact h.mono (by omega)
      · rename_i hm
        have hln := named1_len (s := s) (a := a) (by simpa using hn)
        have hnone : s.D.lookup a = none := by
          have : (s.D.at_ a).isSome = false := by simpa using hl
          exact Option.isNone_iff_eq_none.1 (by simpa [Dir.at_] using this)
        refine h.newFile.change ⟨99, a, [], s.F.length + 1⟩ (.inl ⟨rfl, hnone, fun e he => ?_, by dsimp only; omega, by simp⟩) ?_ ?_ ⟨by dsimp only; omega, by simp⟩
        · have := (h.ok.dirD.low e he).2
          dsimp only; omega
        · show (moved s.D ⟨99, a, [], s.F.length + 1⟩).length ≤ 4096
          unfold moved
          rw [if_pos rfl]
          simp
          omega
        · have := h.lim.moves
          show s.M.length + 1 ≤ N + 1 + 1
          omega
theorem Inv.remove {N : Nat} {s : FSt} (h : Inv N s) (a : List UInt8) : Inv (N + 1) (s.remove a).2 := by
  unfold FSt.remove
  split
  · exact h.mono (by omega)
  · rename_i hn
    split
    · exact h.mono (by omega)
    · have hln := named1_len (s := s) (a := a) (by simpa using hn)
      refine h.change ⟨100, a, [], 0⟩ (.inr (.inl rfl)) (Nat.le_trans (moved_len _ h.ok.dirD.names _ (by simp)) h.ok.len) (by have := h.lim.moves; omega) ⟨by dsimp only; omega, by simp⟩
theorem Inv.rename {N : Nat} {s : FSt} (h : Inv N s) (a b : List UInt8) : Inv (N + 1) (s.rename a b).2 := by
  unfold FSt.rename
  split
  · exact h.mono (by omega)
  · rename_i hn
    split
    · exact h.mono (by omega)
    · have h2 : nameE a = 0 ∧ nameE b = 0 := by
        have hn2 : s.named2 a b = 0 := by simpa using hn
        unfold FSt.named2 at hn2
        split at hn2
        · cases hn2
        · split at hn2
          · cases hn2
          · rename_i ha
            exact ⟨by simpa using ha, hn2⟩
      have h3 := nameE_len h2.1
      have h4 := nameE_len h2.2
      refine h.change ⟨114, a, b, 0⟩ (.inr (.inr rfl)) (Nat.le_trans (moved_len _ h.ok.dirD.names _ (by simp)) h.ok.len) (by have := h.lim.moves; omega) ⟨by dsimp only; omega, by dsimp only; omega⟩

/-! ### the file system that shows that the program lives -/
def L0 : FSt := FSt.fresh 10
def L1 : FSt := (L0.create [97]).2.2
def L2 : FSt := (L1.append 1 [97, 98, 99]).2
def L3 : FSt := (L2.sync 1).2
def L4 : FSt := L3.syncDir.2
def L5 : FSt := (L4.append 1 [100, 101]).2
def L6 : FSt := (L5.append 1 [102]).2
def L7 : FSt := (L6.append 1 [0, 0, 0, 0, 0, 0, 0, 0]).2
def L8 : FSt := L7.crash 0 [⟨1, 0, 1⟩]
def L9 : FSt := L8.arm 1
def L10 : FSt := (L9.append 1 [120]).2
def L11 : FSt := (L10.append 1 [121]).2
theorem live_facts : (L0.create [97]).1 = 1 ∧ (L0.create [97]).2.1 = 0 ∧ (L1.append 1 [97, 98, 99]).1 = 0 ∧ (L2.sync 1).1 = 0 ∧ L3.syncDir.1 = 0 ∧ (L4.append 1 [100, 101]).1 = 0 ∧ (L5.append 1 [102]).1 = 0 ∧ (L6.append 1 [0, 0, 0, 0, 0, 0, 0, 0]).1 = 5 ∧ L7.waiting 1 = 2 ∧
    (L8.read 1 0 99).1 = [97, 98, 99, 100] ∧ (L8.read 1 0 99).2 = 0 ∧ (L9.append 1 [120]).1 = 0 ∧ (L10.append 1 [121]).1 = 21 ∧ L11.off = true := by decide +kernel
theorem inv0 : Inv 0 L0 := Inv.fresh (by decide) (by decide)
theorem inv1 : Inv 2 L1 := inv0.create _
theorem inv2 : Inv 3 L2 := inv1.append _ _ (by decide)
theorem inv3 : Inv 4 L3 := inv2.sync _
theorem inv4 : Inv 5 L4 := inv3.syncDir
theorem inv5 : Inv 6 L5 := inv4.append _ _ (by decide)
theorem inv6 : Inv 7 L6 := inv5.append _ _ (by decide)
theorem inv7 : Inv 8 L7 := inv6.append _ _ (by decide)
theorem inv8 : Inv 8 L8 := inv7.crash _ _
theorem inv9 : Inv 8 L9 := inv8.arm _ (by decide)
theorem inv10 : Inv 9 L10 := inv9.append _ _ (by decide)
theorem inv11 : Inv 10 L11 := inv10.append _ _ (by decide)
end Go.Proofs.YtlhhcoijkjcneaaGreat
