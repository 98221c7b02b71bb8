/- octet, plain: frames that are cut off. No Go here. -/
import Derived.Test.YtdjamijbhaplgaaOctQ
namespace Go.Proofs.Ytdjamijbhaplgaa

theorem four_be (n : Nat) (h : n ≤ 1048576) (rest : List UInt8) : be (four n ++ rest) = n := by
  unfold be four
  simp [List.getD]
  omega
theorem sealL_len (l : List UInt8) : (sealL l).length = l.length + 8 := by simp [sealL, four, turned]
theorem openL_seal (l rest : List UInt8) (h : l.length ≤ 1048576) : openL (sealL l ++ rest) = (l, l.length + 8, 0) := by
  have hb : be (sealL l ++ rest) = l.length := by
    unfold sealL
    rw [List.append_assoc, List.append_assoc]
    exact four_be l.length h _
  have hl := sealL_len l
  unfold openL
  rw [hb, if_neg (by rw [List.length_append]; omega), if_neg (by omega), if_neg (by rw [List.length_append]; omega)]
  have e1 : (sealL l ++ rest).take (4 + l.length) = four l.length ++ l := by
    unfold sealL
    rw [List.append_assoc]
    exact List.take_left' (by simp [four]; omega)
  have e2 : (sealL l ++ rest).drop (4 + l.length) = turned (crc (four l.length ++ l)) ++ rest := by
    unfold sealL
    rw [List.append_assoc]
    exact List.drop_left' (by simp [four]; omega)
  have e3 : (sealL l ++ rest).drop 4 = l ++ (turned (crc (four l.length ++ l)) ++ rest) := by
    unfold sealL
    rw [List.append_assoc, List.append_assoc]
    exact List.drop_left' rfl
  rw [e1, e2, e3, if_pos (List.take_left' (turned_len _)), List.take_left' rfl]
theorem openL_cut (l : List UInt8) (m : Nat) (h : l.length ≤ 1048576) (hm : m < l.length + 8) : (openL ((sealL l).take m)).2.2 = 3 := by
  have hl := sealL_len l
  unfold openL
  by_cases h4 : m < 4
  · rw [if_pos (by rw [List.length_take]; omega)]
  · rw [if_neg (by rw [List.length_take]; omega)]
    have hb : be ((sealL l).take m) = l.length := by
      have e : (sealL l).take m = four l.length ++ ((l ++ turned (crc (four l.length ++ l))).take (m - 4)) := by
        unfold sealL
        rw [List.append_assoc, List.take_append]
        rw [List.take_of_length_le (show (four l.length).length ≤ m by show 4 ≤ m; omega)]
        rfl
      rw [e]
      exact four_be l.length h _
    rw [hb, if_neg (by omega), if_pos (by rw [List.length_take]; omega)]
def flatS (ls : List (List UInt8)) : List UInt8 := (ls.map sealL).flatten
theorem flatS_snoc (ls : List (List UInt8)) (l : List UInt8) : flatS (ls ++ [l]) = flatS ls ++ sealL l := by simp [flatS]
theorem flatS_cons (ls : List (List UInt8)) (l : List UInt8) : flatS (l :: ls) = sealL l ++ flatS ls := by simp [flatS]
theorem flatS_len : ∀ (ls : List (List UInt8)), (flatS ls).length = ls.flatten.length + 8 * ls.length
  | [] => rfl
  | l :: ls => by rw [flatS_cons, List.length_append, sealL_len, flatS_len ls, List.flatten_cons, List.length_append, List.length_cons]; omega
theorem flatS_app (a b : List (List UInt8)) : flatS (a ++ b) = flatS a ++ flatS b := by simp [flatS]
theorem framesGo_cut : ∀ (ms : List (List UInt8)) (pre q : List UInt8) (acc : List (List UInt8)) (n : Nat), (∀ m ∈ ms, m.length ≤ 1048576) → (q = [] ∨ (openL q).2.2 = 3) → ms.length < n →
    framesGo n (pre ++ (flatS ms ++ q)) pre.length acc = (acc ++ ms, pre.length + (flatS ms).length, if q = [] then 0 else 3)
  | [], pre, q, acc, n, _, hq, hn => by
    obtain ⟨n, rfl⟩ : ∃ m, n = m + 1 := ⟨n - 1, by simp at hn; omega⟩
    unfold framesGo
    by_cases h : q = []
    · subst h
      rw [if_neg (by simp [flatS])]
      simp [flatS]
    · have hl : 0 < q.length := List.length_pos_iff.2 h
      rw [if_pos (by simp [flatS]; omega)]
      have e : (pre ++ (flatS [] ++ q)).drop pre.length = q := by simp [flatS]
      rw [e, hq.resolve_left h, if_neg (by decide), if_neg h]
      simp [flatS]
  | m :: ms, pre, q, acc, n, hm, hq, hn => by
    obtain ⟨n, rfl⟩ : ∃ m, n = m + 1 := ⟨n - 1, by simp at hn; omega⟩
    have hml := sealL_len m
    rw [flatS_cons]
    unfold framesGo
    rw [if_pos (by simp only [List.length_append]; omega)]
    have e : (pre ++ (sealL m ++ flatS ms ++ q)).drop pre.length = sealL m ++ (flatS ms ++ q) := by simp
    rw [e, openL_seal m _ (hm m (by simp)), if_pos rfl]
    have h := framesGo_cut ms (pre ++ sealL m) q (acc ++ [m]) n (fun x hx => hm x (by simp [hx])) hq (by simp at hn; omega)
    simp only [List.length_append, hml, List.append_assoc] at h ⊢
    rw [h]
    simp [Nat.add_assoc]
theorem framesL_cut (ms : List (List UInt8)) (q : List UInt8) (hm : ∀ m ∈ ms, m.length ≤ 1048576) (hq : q = [] ∨ (openL q).2.2 = 3) :
    framesL (flatS ms ++ q) = (ms, (flatS ms).length, if q = [] then 0 else 3) := by
  have h := framesGo_cut ms [] q [] ((flatS ms ++ q).length + 1) hm hq (by rw [List.length_append, flatS_len]; omega)
  simp only [List.nil_append, List.length_nil, Nat.zero_add] at h
  exact h
/-- What is left of frames that are cut off between two ends. -/
theorem framesL_torn (ls : List (List UInt8)) (k cut : Nat) (hls : ∀ m ∈ ls, m.length ≤ 1048576) (hk : k ≤ ls.length) (h1 : (flatS (ls.take k)).length ≤ cut)
    (h2 : cut ≤ (flatS ls).length) (h3 : k < ls.length → cut < (flatS (ls.take (k + 1))).length) :
    framesL ((flatS ls).take cut) = (ls.take k, (flatS (ls.take k)).length, if cut = (flatS (ls.take k)).length then 0 else 3) := by
  have hm : ∀ m ∈ ls.take k, m.length ≤ 1048576 := fun m hm => hls m (List.mem_of_mem_take hm)
  by_cases he : k < ls.length
  · have e : ls = ls.take k ++ ls[k] :: ls.drop (k + 1) := by rw [← List.drop_eq_getElem_cons he, List.take_append_drop]
    have e2 : ls.take (k + 1) = ls.take k ++ [ls[k]] := List.take_succ_eq_append_getElem he
    have h3' := h3 he
    rw [e2, flatS_snoc, List.length_append, sealL_len] at h3'
    have hl : ls[k].length ≤ 1048576 := hls _ (List.getElem_mem he)
    have hsl := sealL_len ls[k]
    have et : (flatS ls).take cut = flatS (ls.take k) ++ (sealL ls[k]).take (cut - (flatS (ls.take k)).length) := by
      have : flatS ls = flatS (ls.take k) ++ (sealL ls[k] ++ flatS (ls.drop (k + 1))) := by
        rw [← flatS_cons, ← flatS_app, ← e]
      rw [this, List.take_append, List.take_of_length_le h1, List.take_append_of_le_length (by omega)]
    rw [et, framesL_cut _ _ hm (.inr (openL_cut _ _ hl (by omega)))]
    congr 2
    by_cases hc : cut = (flatS (ls.take k)).length
    · rw [if_pos hc, if_pos (by rw [hc]; simp)]
    · rw [if_neg hc, if_neg (fun h => by
        have := congrArg List.length h
        rw [List.length_take, List.length_nil] at this
        omega)]
  · have e : ls.take k = ls := List.take_of_length_le (by omega)
    rw [e] at h1 hm ⊢
    have hc : cut = (flatS ls).length := by omega
    rw [if_pos hc, List.take_of_length_le (by omega)]
    have := framesL_cut ls [] hm (.inl rfl)
    rw [List.append_nil] at this
    rw [this]; rfl
end Go.Proofs.Ytdjamijbhaplgaa
