/- Directories, plainly. -/
import Derived.Test.YtplnneicmdlahaaSimP
namespace Go.Proofs.Ytplnneicmdlahaa
open Go.RowKit

theorem lookup_less (d : Dir) (s x : List UInt8) : (d.less s).lookup x = if x = s then none else d.lookup x := by
  unfold Dir.less
  induction d with
  | nil => simp
  | cons e d ih =>
    obtain ⟨a, n⟩ := e
    by_cases ha : a = s
    · subst ha
      rw [List.filter_cons_of_neg (by simp), ih, List.lookup_cons]
      by_cases hx : x = a
      · simp [hx]
      · have : (x == a) = false := by simpa using hx
        rw [if_neg hx, if_neg hx, this]
    · rw [List.filter_cons_of_pos (by simpa using ha), List.lookup_cons, List.lookup_cons]
      by_cases hx : x = a
      · subst hx; simp [ha]
      · have : (x == a) = false := by simpa using hx
        rw [this]
        exact ih
theorem less_of_none {d : Dir} {s : List UInt8} (h : d.lookup s = none) : d.less s = d := by
  unfold Dir.less
  rw [List.filter_eq_self]
  intro e he
  have := List.lookup_eq_none_iff.1 h e he
  refine bne_iff_ne.2 (fun h2 => ?_)
  rw [h2] at this
  simp at this
theorem less_len (d : Dir) (s : List UInt8) (h : (d.map (·.1)).Nodup) : (d.less s).length + (if (d.lookup s).isSome then 1 else 0) = d.length := by
  induction d with
  | nil => simp [Dir.less]
  | cons e d ih =>
    obtain ⟨a, n⟩ := e
    simp only [List.map_cons, List.nodup_cons] at h
    have ih := ih h.2
    unfold Dir.less at ih ⊢
    by_cases ha : a = s
    · subst ha
      have hn : d.lookup a = none := List.lookup_eq_none_iff.2 fun p hp => by
        exact bne_iff_ne.2 (fun e => h.1 (List.mem_map.2 ⟨p, hp, e.symm⟩))
      rw [hn] at ih
      rw [List.filter_cons_of_neg (by simp), List.lookup_cons_self]
      simp at ih ⊢
      exact ih
    · rw [List.filter_cons_of_pos (by simpa using ha), List.lookup_cons]
      have : (s == a) = false := beq_eq_false_iff_ne.2 (fun e => ha e.symm)
      rw [this]
      simp only [List.length_cons]
      omega
theorem lookup_mem {d : Dir} {s : List UInt8} {n : Nat} (h : d.lookup s = some n) : (s, n) ∈ d := by
  induction d with
  | nil => simp at h
  | cons e d ih =>
    obtain ⟨a, m⟩ := e
    rw [List.lookup_cons] at h
    by_cases ha : s = a
    · subst ha; simp at h; simp [h]
    · have : (s == a) = false := by simpa using ha
      rw [this] at h
      exact List.mem_cons_of_mem _ (ih h)
theorem mem_lookup {d : Dir} (hd : (d.map (·.1)).Nodup) {s : List UInt8} {n : Nat} (h : (s, n) ∈ d) : d.lookup s = some n := by
  induction d with
  | nil => cases h
  | cons e d ih =>
    obtain ⟨a, m⟩ := e
    simp only [List.map_cons, List.nodup_cons] at hd
    rcases List.mem_cons.1 h with h | h
    · cases h; simp
    · have hne : s ≠ a := fun e => hd.1 (List.mem_map.2 ⟨(s, n), h, e⟩)
      have : (s == a) = false := by simpa using hne
      rw [List.lookup_cons, this]
      exact ih hd.2 h
theorem mem_less {d : Dir} {s : List UInt8} {e : List UInt8 × Nat} (h : e ∈ d.less s) : e ∈ d := (List.mem_filter.1 h).1
theorem less_sub (d : Dir) (s : List UInt8) : (d.less s).Sublist d := List.filter_sublist
theorem mem_less_ne {d : Dir} {s : List UInt8} {e : List UInt8 × Nat} (h : e ∈ d.less s) : e.1 ≠ s := by simpa using (List.mem_filter.1 h).2

/-- Names once, numbers once, each number at most N. -/
structure GoodDir (N : Nat) (d : Dir) : Prop where
  names : (d.map (·.1)).Nodup
  nums : (d.map (·.2)).Nodup
  low : ∀ e ∈ d, 1 ≤ e.2 ∧ e.2 ≤ N
theorem GoodDir.nil (N : Nat) : GoodDir N [] := ⟨by simp, by simp, by simp⟩
theorem GoodDir.mono {N N' : Nat} {d : Dir} (h : GoodDir N d) (hN : N ≤ N') : GoodDir N' d := ⟨h.names, h.nums, fun e he => ⟨(h.low e he).1, Nat.le_trans (h.low e he).2 hN⟩⟩
theorem GoodDir.less {N : Nat} {d : Dir} (h : GoodDir N d) (s : List UInt8) : GoodDir N (d.less s) :=
  ⟨((less_sub d s).map _).nodup h.names, ((less_sub d s).map _).nodup h.nums, fun e he => h.low e (mem_less he)⟩
theorem GoodDir.snoc {N : Nat} {d : Dir} (h : GoodDir N d) {s : List UInt8} {n : Nat} (hs : ∀ e ∈ d, e.1 ≠ s) (hn : ∀ e ∈ d, e.2 ≠ n) (h1 : 1 ≤ n) (h2 : n ≤ N) : GoodDir N (d ++ [(s, n)]) := by
  refine ⟨?_, ?_, ?_⟩
  · rw [List.map_append, List.nodup_append]
    refine ⟨h.names, by simp, ?_⟩
    intro a ha b hb
    simp at hb
    subst hb
    obtain ⟨e, he, rfl⟩ := List.mem_map.1 ha
    exact hs e he
  · rw [List.map_append, List.nodup_append]
    refine ⟨h.nums, by simp, ?_⟩
    intro a ha b hb
    simp at hb
    subst hb
    obtain ⟨e, he, rfl⟩ := List.mem_map.1 ha
    exact hn e he
  · intro e he
    rcases List.mem_append.1 he with he | he
    · exact h.low e he
    · simp at he; subst he; exact ⟨h1, h2⟩
/-- A number's name is one. -/
theorem GoodDir.one {N : Nat} {d : Dir} (h : GoodDir N d) {e e' : List UInt8 × Nat} (he : e ∈ d) (he' : e' ∈ d) (hn : e.2 = e'.2) : e = e' := by
  have h2 := h.nums
  clear h
  induction d with
  | nil => cases he
  | cons x d ih =>
    simp only [List.map_cons, List.nodup_cons] at h2
    rcases List.mem_cons.1 he with h3 | h3 <;> rcases List.mem_cons.1 he' with h4 | h4
    · rw [h3, h4]
    · exact absurd (List.mem_map.2 ⟨e', h4, by rw [← hn, h3]⟩) h2.1
    · exact absurd (List.mem_map.2 ⟨e, h3, by rw [hn, h4]⟩) h2.1
    · exact ih h3 h4 h2.2
theorem lookup_none_mem {d : Dir} {s : List UInt8} (h : d.lookup s = none) : ∀ e ∈ d, e.1 ≠ s := fun e he => by
  have := List.lookup_eq_none_iff.1 h e he
  exact fun h2 => by rw [h2] at this; simp at this

/-- A change that may be. -/
def MoveOk (N : Nat) (d : Dir) (m : MoveS) : Prop := (m.kind = 99 ∧ d.lookup m.a = none ∧ (∀ e ∈ d, e.2 ≠ m.n) ∧ 1 ≤ m.n ∧ m.n ≤ N) ∨ m.kind = 100 ∨ m.kind = 114
theorem MoveOk.mono {N N' : Nat} {d : Dir} {m : MoveS} (h : MoveOk N d m) (hN : N ≤ N') : MoveOk N' d m := h.imp (fun ⟨a, b, c, e, f⟩ => ⟨a, b, c, e, Nat.le_trans f hN⟩) id
theorem moved_good {N : Nat} {d : Dir} {m : MoveS} (h : GoodDir N d) (hm : MoveOk N d m) : GoodDir N (moved d m) := by
  unfold moved
  rcases hm with ⟨hk, hl, hn, h1, h2⟩ | hk | hk
  · rw [if_pos hk]
    exact h.snoc (lookup_none_mem hl) hn h1 h2
  · rw [if_neg (by omega), if_pos hk]
    exact h.less _
  · rw [if_neg (by omega), if_neg (by omega)]
    cases ha : d.at_ m.a with
    | none => exact h
    | some n =>
      dsimp only
      by_cases hab : m.a = m.b
      · rw [if_pos hab]; exact h
      · rw [if_neg hab]
        have hmem := lookup_mem (show d.lookup m.a = some n from ha)
        refine ((h.less _).less _).snoc (fun e he => mem_less_ne he) (fun e he hn => ?_) (h.low _ hmem).1 (h.low _ hmem).2
        have he1 := mem_less he
        have := h.one (mem_less he1) hmem hn
        subst this
        exact mem_less_ne he1 rfl
/-- A path of changes that may be. -/
def PathOk (N : Nat) : Dir → List MoveS → Prop
  | _, [] => True
  | d, m :: l => MoveOk N d m ∧ PathOk N (moved d m) l
theorem PathOk.mono {N N' : Nat} (hN : N ≤ N') : ∀ {l : List MoveS} {d : Dir}, PathOk N d l → PathOk N' d l
  | [], _, _ => trivial
  | _ :: _, _, h => ⟨h.1.mono hN, PathOk.mono hN h.2⟩
theorem PathOk.snoc {N : Nat} : ∀ {l : List MoveS} {d : Dir} {m : MoveS}, PathOk N d l → MoveOk N (movedAll d l) m → PathOk N d (l ++ [m])
  | [], _, _, _, h => ⟨h, trivial⟩
  | _ :: _, _, _, h, h2 => ⟨h.1, PathOk.snoc h.2 h2⟩
theorem PathOk.take {N : Nat} : ∀ {l : List MoveS} {d : Dir} (k : Nat), PathOk N d l → PathOk N d (l.take k)
  | [], _, k, _ => by simp [PathOk]
  | _ :: _, _, 0, _ => trivial
  | _ :: _, _, _ + 1, h => ⟨h.1, PathOk.take _ h.2⟩
theorem PathOk.good {N : Nat} : ∀ {l : List MoveS} {d : Dir}, GoodDir N d → PathOk N d l → GoodDir N (movedAll d l)
  | [], _, h, _ => h
  | m :: l, d, h, hp => PathOk.good (l := l) (d := moved d m) (moved_good h hp.1) hp.2
theorem movedAll_snoc (d : Dir) (l : List MoveS) (m : MoveS) : movedAll d (l ++ [m]) = moved (movedAll d l) m := by simp [movedAll]
theorem movedAll_succ (d : Dir) (l : List MoveS) (k : Nat) (hk : k < l.length) : movedAll d (l.take (k + 1)) = moved (movedAll d (l.take k)) l[k] := by
  rw [List.take_succ_eq_append_getElem hk, movedAll_snoc]
theorem PathOk.at_ {N : Nat} : ∀ {l : List MoveS} {d : Dir} (k : Nat) (hk : k < l.length), PathOk N d l → MoveOk N (movedAll d (l.take k)) l[k]
  | m :: l, d, 0, _, h => h.1
  | m :: l, d, k + 1, hk, h => by
    simp only [List.length_cons] at hk
    simpa [movedAll] using PathOk.at_ k (by omega) h.2
/-- Who is in a directory behind changes was in it, or was made. -/
theorem moved_mem {d : Dir} {m : MoveS} {e : List UInt8 × Nat} (h : e ∈ moved d m) : (∃ e' ∈ d, e'.2 = e.2) ∨ (m.kind = 99 ∧ e.2 = m.n) := by
  unfold moved at h
  split at h
  · rename_i hk
    rcases List.mem_append.1 h with h | h
    · exact .inl ⟨e, h, rfl⟩
    · simp at h; subst h; exact .inr ⟨hk, rfl⟩
  · split at h
    · exact .inl ⟨e, mem_less h, rfl⟩
    · cases ha : d.at_ m.a with
      | none => rw [ha] at h; exact .inl ⟨e, h, rfl⟩
      | some n =>
        rw [ha] at h
        dsimp only at h
        split at h
        · exact .inl ⟨e, h, rfl⟩
        · rcases List.mem_append.1 h with h | h
          · exact .inl ⟨e, mem_less (mem_less h), rfl⟩
          · simp at h; subst h; exact .inl ⟨_, lookup_mem (show d.lookup m.a = some n from ha), rfl⟩
theorem movedAll_mem : ∀ {l : List MoveS} {d : Dir} {e : List UInt8 × Nat}, e ∈ movedAll d l → (∃ e' ∈ d, e'.2 = e.2) ∨ ∃ m ∈ l, m.kind = 99 ∧ e.2 = m.n
  | [], _, e, h => .inl ⟨e, h, rfl⟩
  | m :: l, d, e, h => by
    rcases movedAll_mem (l := l) (d := moved d m) h with ⟨e', he', hn⟩ | ⟨m', hm', h2⟩
    · rcases moved_mem he' with ⟨e2, he2, h3⟩ | ⟨hk, h3⟩
      · exact .inl ⟨e2, he2, h3.trans hn⟩
      · exact .inr ⟨m, by simp, hk, hn ▸ h3⟩
    · exact .inr ⟨m', List.mem_cons_of_mem _ hm', h2⟩
end Go.Proofs.Ytplnneicmdlahaa
