/- symtab, plain: a table of symbols and its bytes. No Go here. -/
import Derived.Test.YtdjamijbhaplgaaOctR
import Derived.Test.YtdjamijbhaplgaaOctT
namespace Go.Proofs.Ytdjamijbhaplgaa

def frameL (s : List UInt8) : List UInt8 := sealL (put1T s)
def bytesL (l : List (List UInt8)) : List UInt8 := (l.drop 1).flatMap frameL
def mayL (s : List UInt8) : Bool := decide (s.length ≤ 64) && !s.contains 0
/-- A symbol's number; 0 where it has none. -/
def numL (l : List (List UInt8)) (s : List UInt8) : Nat := if s ∈ l then l.idxOf s else 0
/-- What a frame's load says: a symbol, and whether nothing is wrong. -/
def symOf (b : List UInt8) : List UInt8 × Int := ((RSt.text ⟨b, 0, 0, 0⟩ 64).1, (RSt.text ⟨b, 0, 0, 0⟩ 64).2.done)
/-- The frames one by one onto a table. -/
def loadGo : List (List UInt8) → List (List UInt8) → Option (List (List UInt8))
  | [], acc => some acc
  | b :: bs, acc => if (symOf b).2 = 0 ∧ mayL (symOf b).1 = true ∧ (symOf b).1 ∉ acc ∧ acc.length < 65536 then loadGo bs (acc ++ [(symOf b).1]) else none
def loadL (p : List UInt8) : Option (List (List UInt8)) := loadGo (framesL p).1 [[]]
def internL : List (List UInt8) → List (List UInt8) → List (List UInt8)
  | [], l => l
  | s :: ss, l => if s ∈ l then internL ss l else internL ss (l ++ [s])
/-- What interning adds. -/
def addedL : List (List UInt8) → List (List UInt8) → List (List UInt8)
  | [], _ => []
  | s :: ss, l => if s ∈ l then addedL ss l else s :: addedL ss (l ++ [s])
theorem internL_eq : ∀ (ss l : List (List UInt8)), internL ss l = l ++ addedL ss l
  | [], l => by simp [internL, addedL]
  | s :: ss, l => by
    unfold internL addedL
    split
    · exact internL_eq ss l
    · rw [internL_eq ss]; simp
theorem addedL_len : ∀ (ss l : List (List UInt8)), (addedL ss l).length ≤ ss.length
  | [], _ => by simp [addedL]
  | s :: ss, l => by
    unfold addedL
    split
    · have := addedL_len ss l; simp; omega
    · have := addedL_len ss (l ++ [s]); simp; omega
theorem internL_nodup : ∀ (ss l : List (List UInt8)), l.Nodup → (internL ss l).Nodup
  | [], _, h => h
  | s :: ss, l, h => by
    unfold internL
    split
    · exact internL_nodup ss l h
    · rename_i hs
      refine internL_nodup ss _ ?_
      rw [List.nodup_append]
      exact ⟨h, by simp, fun a ha b hb => by simp at hb; subst hb; exact fun e => hs (e ▸ ha)⟩
theorem addedL_may : ∀ (ss l : List (List UInt8)), (∀ s ∈ ss, mayL s = true) → ∀ s ∈ addedL ss l, mayL s = true
  | [], _, _, s, hs => by simp [addedL] at hs
  | x :: ss, l, h, s, hs => by
    unfold addedL at hs
    split at hs
    · exact addedL_may ss l (fun y hy => h y (by simp [hy])) s hs
    · rcases List.mem_cons.1 hs with rfl | hs
      · exact h _ (by simp)
      · exact addedL_may ss _ (fun y hy => h y (by simp [hy])) s hs
theorem mayL_len {s : List UInt8} (h : mayL s = true) : s.length ≤ 64 := by
  unfold mayL at h
  simp at h
  exact h.1
theorem symOf_put (s : List UInt8) (h : s.length ≤ 64) : symOf (put1T s) = (s, 0) := by
  have hp : put1T s = [UInt8.ofNat s.length] ++ s := by unfold put1T; rw [put1_lt _ (by omega)]
  have h1 := RSt.text_put (s := ⟨put1T s, 0, 0, 0⟩) (pre := []) (post := []) (t := s) (by simp [put1T]) rfl rfl (by omega)
  have hc : RSt.text ⟨put1T s, 0, 0, 0⟩ 64 = RSt.text ⟨put1T s, 0, 0, 0⟩ s.length := by
    have h2 := RSt.num_put (s := ⟨put1T s, 0, 0, 0⟩) (pre := []) (post := s) (n := s.length) (by simp [put1T]) rfl rfl (by omega)
    have hcount : ∀ m : Int, (s.length : Int) ≤ m → RSt.count ⟨put1T s, 0, 0, 0⟩ m = RSt.num ⟨put1T s, 0, 0, 0⟩ := fun m hm => by
      unfold RSt.count
      rw [h2, if_neg (by simp; omega)]
    unfold RSt.text
    rw [hcount 64 (by omega), hcount s.length (Int.le_refl _)]
  unfold symOf
  rw [hc, h1]
  simp only [RSt.done]
  refine Prod.ext rfl ?_
  simp only [List.length_nil, Nat.zero_add]
  rw [if_neg]
  intro h
  have := h.2
  simp [put1T] at this
theorem loadGo_put : ∀ (ss acc : List (List UInt8)), (∀ s ∈ ss, mayL s = true) → (acc ++ ss).Nodup → acc.length + ss.length ≤ 65536 → loadGo (ss.map put1T) acc = some (acc ++ ss)
  | [], acc, _, _, _ => by simp [loadGo]
  | s :: ss, acc, hm, hn, hl => by
    have hs := symOf_put s (mayL_len (hm s (by simp)))
    have hni : s ∉ acc := fun hmem => by
      rw [List.nodup_append] at hn
      exact hn.2.2 s hmem s (by simp) rfl
    simp only [List.map_cons, loadGo]
    rw [hs, if_pos ⟨rfl, hm s (by simp), hni, by simp at hl; omega⟩, loadGo_put ss _ (fun x hx => hm x (by simp [hx])) (by simpa using hn) (by simp at hl ⊢; omega)]
    simp
theorem flatMap_frameL (l : List (List UInt8)) : l.flatMap frameL = flatS (l.map put1T) := by
  unfold flatS frameL
  rw [List.map_map, List.flatMap_def]
  rfl
theorem put1T_small (s : List UInt8) (h : s.length ≤ 64) : (put1T s).length ≤ 1048576 := by
  unfold put1T
  rw [put1_lt _ (by omega)]
  simp; omega
/-- A beginning of a table's bytes is a beginning of the table. -/
theorem load_back (l : List (List UInt8)) (cut : Nat) (hm : ∀ s ∈ l, mayL s = true) (hn : ([] :: l).Nodup) (hl : l.length ≤ 60000) (hc : cut ≤ (bytesL ([] :: l)).length) :
    ∃ k, k ≤ l.length ∧ loadL ((bytesL ([] :: l)).take cut) = some ([] :: l.take k) ∧ (framesL ((bytesL ([] :: l)).take cut)).2.1 = (bytesL ([] :: l.take k)).length ∧ (bytesL ([] :: l)).take (bytesL ([] :: l.take k)).length = bytesL ([] :: l.take k) ∧
      (bytesL ([] :: l.take k)).length ≤ cut ∧ (cut = (bytesL ([] :: l)).length → k = l.length) := by
  have hb : ∀ x : List (List UInt8), bytesL ([] :: x) = flatS (x.map put1T) := fun x => by unfold bytesL; rw [List.drop_one, List.tail_cons, flatMap_frameL]
  have hsm : ∀ m ∈ l.map put1T, m.length ≤ 1048576 := fun m hmm => by
    obtain ⟨s, hs, rfl⟩ := List.mem_map.1 hmm
    exact put1T_small s (mayL_len (hm s hs))
  -- the greatest number of whole frames
  have hex : ∃ k, k ≤ l.length ∧ (flatS ((l.map put1T).take k)).length ≤ cut ∧ (k < l.length → cut < (flatS ((l.map put1T).take (k + 1))).length) := by
    have : ∀ n, n ≤ l.length → (∃ k, k ≤ n ∧ (flatS ((l.map put1T).take k)).length ≤ cut ∧ (k < n → cut < (flatS ((l.map put1T).take (k + 1))).length)) := by
      intro n
      induction n with
      | zero => intro _; exact ⟨0, Nat.le_refl _, by simp [flatS], fun h => absurd h (Nat.lt_irrefl _)⟩
      | succ n ih =>
        intro hn1
        obtain ⟨k, h1, h2, h3⟩ := ih (by omega)
        by_cases hk : k = n
        · subst hk
          by_cases h4 : (flatS ((l.map put1T).take (k + 1))).length ≤ cut
          · exact ⟨k + 1, Nat.le_refl _, h4, fun h => absurd h (Nat.lt_irrefl _)⟩
          · exact ⟨k, by omega, h2, fun _ => by omega⟩
        · exact ⟨k, by omega, h2, fun _ => h3 (by omega)⟩
    exact this l.length (Nat.le_refl _)
  obtain ⟨k, h1, h2, h3⟩ := hex
  rw [hb l] at hc ⊢
  have hml : (l.map put1T).length = l.length := List.length_map _
  have ht := framesL_torn (l.map put1T) k cut hsm (by omega) h2 hc (fun h => h3 (by omega))
  have hmt : (l.map put1T).take k = (l.take k).map put1T := List.map_take.symm
  have hbk := hb (l.take k)
  rw [← hmt] at hbk
  refine ⟨k, h1, ?_, by rw [ht, hbk], ?_, by rw [hbk]; exact h2, fun he => ?_⟩
  · unfold loadL
    rw [ht, hmt]
    have hn2 : ([[]] ++ l.take k).Nodup := by
      have : ([[]] ++ l.take k) = ([] :: l).take (k + 1) := by simp
      rw [this]
      exact hn.sublist (List.take_sublist _ _)
    have := loadGo_put (l.take k) [[]] (fun s hs => hm s (List.mem_of_mem_take hs)) hn2 (by simp; omega)
    rw [this]; rfl
  · have e : l.map put1T = (l.map put1T).take k ++ (l.map put1T).drop k := (List.take_append_drop _ _).symm
    have e2 : flatS (l.map put1T) = flatS ((l.map put1T).take k) ++ flatS ((l.map put1T).drop k) := (congrArg flatS e).trans (flatS_app _ _)
    rw [hbk, e2, List.take_left']
    rfl
  · by_cases hk : k < l.length
    · have h4 := h3 hk
      have e : l.map put1T = (l.map put1T).take (k + 1) ++ (l.map put1T).drop (k + 1) := (List.take_append_drop _ _).symm
      have e2 : flatS (l.map put1T) = flatS ((l.map put1T).take (k + 1)) ++ flatS ((l.map put1T).drop (k + 1)) := (congrArg flatS e).trans (flatS_app _ _)
      rw [e2, List.length_append] at he
      omega
    · omega
end Go.Proofs.Ytdjamijbhaplgaa
