/- simfs: alike. -/
import Derived.Deep.RegionHeld3
import Derived.Deep.RegionLaw
import Derived.Deep.DeepCutAuto
import Derived.Test.YtdjamijbhaplgaaGreatGkav
import Derived.Test.YtdjamijbhaplgaaGreatFlow
import Derived.Test.YtdjamijbhaplgaaGreatGkau
import Derived.Test.YtdjamijbhaplgaaGreatGkan
namespace Go.Proofs.YtdjamijbhaplgaaGreat
open Go.RowKit Go.Maps Go.Lib

def alikeF (x y : FileS) (now : Bool) : Bool := decide (x.safe = y.safe) && decide (x.log = y.log) && (!now || decide (x.data = y.data))
def alikeE (s1 s2 : FSt) (d2 : Dir) (now : Bool) (e : List UInt8 × Nat) : Bool := match d2.lookup e.1 with
  | none => false
  | some m => alikeF (s1.file e.2) (s2.file m) now
def alikeS (s1 : FSt) (d1 : Dir) (s2 : FSt) (d2 : Dir) (now : Bool) : Bool := decide (d1.length = d2.length) && d1.all (alikeE s1 s2 d2 now)
theorem alike_end {s1 s2 : FSt} {d1 d2 : Dir} {now : Bool} (hd : (d1.map (·.1)).Nodup) (hlen : d1.length = d2.length) (h : ∀ x k, d1.lookup x = some k → alikeE s1 s2 d2 now (x, k) = true) : alikeS s1 d1 s2 d2 now = true := by
  unfold alikeS
  rw [decide_eq_true hlen, Bool.true_and, List.all_eq_true]
  intro e he
  exact h e.1 e.2 (mem_lookup hd he)
theorem alike_no {s1 s2 : FSt} {d1 d2 : Dir} {now : Bool} {x : List UInt8} {k : Nat} (hl : d1.lookup x = some k) (h : alikeE s1 s2 d2 now (x, k) = false) : alikeS s1 d1 s2 d2 now = false := by
  unfold alikeS
  rw [Bool.and_eq_false_iff]
  right
  rw [List.all_eq_false]
  exact ⟨(x, k), lookup_mem hl, by rw [h]; simp⟩
/-- Whether two file systems are told as the same. -/
def FSt.same (s1 s2 : FSt) : Bool := alikeS s1 s1.D s2 s2.D true && alikeS s1 s1.S s2 s2.S false && mAll s1.M s2.M
theorem alikeF_refl (x : FileS) (now : Bool) : alikeF x x now = true := by simp [alikeF]
theorem alikeS_refl (s : FSt) (d : Dir) (hd : (d.map (·.1)).Nodup) (now : Bool) : alikeS s d s d now = true :=
  alike_end hd rfl fun x k h => by
    unfold alikeE
    rw [h]
    exact alikeF_refl _ _
end Go.Proofs.YtdjamijbhaplgaaGreat
namespace Go.Proofs.YtdjamijbhaplgaaGreat
open Go.RowKit Go.Maps Go.Lib

theorem FSt.same_refl (s : FSt) (ok : FsOk s) : s.same s = true := by
  unfold FSt.same
  rw [alikeS_refl s s.D ok.dirD.names, alikeS_refl s s.S ok.dirS.names, mAll_refl]
  rfl
end Go.Proofs.YtdjamijbhaplgaaGreat
namespace Go.Proofs.YtdjamijbhaplgaaGreat
open Go.RowKit

/-- What an act makes of a file system. -/
def FSt.act (s : FSt) (y : ActM) : FSt :=
  if y.kind = 1 then (s.create y.a.data.toList).2.2
  else if y.kind = 3 then (s.write y.file y.at_ y.data).2
  else if y.kind = 4 then (s.append y.file y.data).2
  else if y.kind = 5 then (s.cutAt y.file y.n).2
  else if y.kind = 7 then (s.sync y.file).2
  else if y.kind = 8 then (s.rename y.a.data.toList y.b.data.toList).2
  else if y.kind = 9 then (s.remove y.a.data.toList).2
  else if y.kind = 10 then s.syncDir.2
  else if y.kind = 11 then s.crash y.dir y.L
  else if y.kind = 12 then s.arm y.n
  else if y.kind = 13 then (s.setCap y.n).2
  else s
theorem Inv.setCap {N : Nat} {s : FSt} (h : Inv N s) (n : Int) : Inv N (s.setCap n).2 := by
  unfold FSt.setCap
  split
  · exact h
  · exact ⟨⟨h.ok.dirD, h.ok.dirS, h.ok.path, h.ok.cur, ⟨by dsimp only; omega, by dsimp only; omega⟩, h.ok.left, h.ok.len, h.ok.lens⟩, h.files, ⟨h.lim.ops, h.lim.files, h.lim.moves, h.lim.log, h.lim.strs, h.lim.dat⟩⟩
theorem Inv.act {N : Nat} {s : FSt} (h : Inv N s) (y : ActM) (hd : y.data.length ≤ 70368744177664) (hn : Is64 y.n) : Inv (N + 2) (s.act y) := by
  unfold FSt.act
  split
  · exact h.create _
  · split
    · exact (h.write _ _ _ hd).mono (by omega)
    · split
      · exact (h.append _ _ hd).mono (by omega)
      · split
        · exact (h.cutAt _ _).mono (by omega)
        · split
          · exact (h.sync _).mono (by omega)
          · split
            · exact (h.rename _ _).mono (by omega)
            · split
              · exact (h.remove _).mono (by omega)
              · split
                · exact h.syncDir.mono (by omega)
                · split
                  · exact (h.crash _ _).mono (by omega)
                  · split
                    · exact (h.arm _ hn.2).mono (by omega)
                    · split
                      · exact (h.setCap _).mono (by omega)
                      · exact h.mono (by omega)
theorem nodup_back {α : Type} [DecidableEq α] : ∀ (l1 l2 : List α), l1.Nodup → (∀ x ∈ l1, x ∈ l2) → l2.length ≤ l1.length → ∀ x ∈ l2, x ∈ l1
  | [], l2, _, _, hl, x, hx => by
    have : l2 = [] := List.eq_nil_of_length_eq_zero (by simpa using hl)
    rw [this] at hx
    cases hx
  | a :: t, l2, hn, hs, hl, x, hx => by
    simp only [List.nodup_cons] at hn
    have ha := hs a List.mem_cons_self
    by_cases hxa : x = a
    · rw [hxa]; exact List.mem_cons_self
    · refine List.mem_cons_of_mem _ (nodup_back t (l2.erase a) hn.2 (fun z hz => ?_) ?_ x ?_)
      · have hza : z ≠ a := fun e => hn.1 (e ▸ hz)
        exact (List.mem_erase_of_ne hza).2 (hs z (List.mem_cons_of_mem _ hz))
      · rw [List.length_erase_of_mem ha]
        simp only [List.length_cons] at hl
        omega
      · exact (List.mem_erase_of_ne hxa).2 hx
theorem alikeF_symm (x y : FileS) (now : Bool) : alikeF x y now = alikeF y x now := by
  unfold alikeF
  congr 1
  · congr 1
    · exact decide_eq_decide.2 eq_comm
    · exact decide_eq_decide.2 eq_comm
  · congr 1
    exact decide_eq_decide.2 eq_comm
theorem alikeS_back {s1 s2 : FSt} {d1 d2 : Dir} {now : Bool} (h1 : (d1.map (·.1)).Nodup) (h2 : (d2.map (·.1)).Nodup) (h : alikeS s1 d1 s2 d2 now = true) : alikeS s2 d2 s1 d1 now = true := by
  unfold alikeS at h
  rw [Bool.and_eq_true, List.all_eq_true] at h
  obtain ⟨hl, ha⟩ := h
  have hl' : d1.length = d2.length := of_decide_eq_true hl
  have hsub : ∀ x ∈ d1.map (·.1), x ∈ d2.map (·.1) := fun x hx => by
    obtain ⟨e, he, rfl⟩ := List.mem_map.1 hx
    have := ha e he
    unfold alikeE at this
    cases hk : d2.lookup e.1 with
    | none => rw [hk] at this; cases this
    | some m => exact List.mem_map.2 ⟨_, lookup_mem hk, rfl⟩
  have hback := nodup_back _ _ h1 hsub (by simp [hl'])
  unfold alikeS
  rw [decide_eq_true hl'.symm, Bool.true_and, List.all_eq_true]
  intro e he
  obtain ⟨e', he', hn⟩ := List.mem_map.1 (hback e.1 (List.mem_map.2 ⟨e, he, rfl⟩))
  have h3 := mem_lookup h1 (show (e'.1, e'.2) ∈ d1 from he')
  have h4 := mem_lookup h2 (show (e.1, e.2) ∈ d2 from he)
  have h5 := ha e' he'
  unfold alikeE at h5 ⊢
  have hn' : e'.1 = e.1 := hn
  rw [hn'] at h3 h5
  rw [h4] at h5
  rw [h3]
  exact (alikeF_symm _ _ _).trans h5
theorem mAll_symm (xs ys : List MoveS) : mAll xs ys = mAll ys xs := by
  have hs : ∀ x y : MoveS, mSame x y = mSame y x := fun x y => by
    unfold mSame
    congr 1
    · congr 1
      · exact decide_eq_decide.2 eq_comm
      · exact decide_eq_decide.2 eq_comm
    · exact decide_eq_decide.2 eq_comm
  unfold mAll
  by_cases hl : xs.length = ys.length
  · rw [decide_eq_true hl, decide_eq_true hl.symm, hl]
    congr 1
    congr 1
    funext i
    exact hs _ _
  · rw [decide_eq_false hl, decide_eq_false (fun e => hl e.symm)]
    rfl
theorem FSt.same_symm (s1 s2 : FSt) (o1 : FsOk s1) (o2 : FsOk s2) : s1.same s2 = s2.same s1 := by
  unfold FSt.same
  have e1 : alikeS s1 s1.D s2 s2.D true = alikeS s2 s2.D s1 s1.D true := by
    rw [Bool.eq_iff_iff]
    exact ⟨alikeS_back o1.dirD.names o2.dirD.names, alikeS_back o2.dirD.names o1.dirD.names⟩
  have e2 : alikeS s1 s1.S s2 s2.S false = alikeS s2 s2.S s1 s1.S false := by
    rw [Bool.eq_iff_iff]
    exact ⟨alikeS_back o1.dirS.names o2.dirS.names, alikeS_back o2.dirS.names o1.dirS.names⟩
  rw [e1, e2, mAll_symm]
end Go.Proofs.YtdjamijbhaplgaaGreat
