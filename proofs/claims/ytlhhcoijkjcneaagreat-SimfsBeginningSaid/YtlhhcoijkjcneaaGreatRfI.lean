/- The document's file system: Create, SyncDir, Arm, SetCapacity. -/
import Derived.Test.YtlhhcoijkjcneaaGreatGj
namespace Go.Proofs.YtlhhcoijkjcneaaGreat
open Go.RowKit Go.Maps Go.Lib

theorem infoRPtr : (Tryz.prog.info? 47).map (fun i => (i.zero, i.size, i.bytes)) = some (some (.pointer none), 1, 8) := by kernel_rfl
theorem ptrFlat (l : List Nat) : (l.flatMap ptrCells).length = l.length * 1 := flat_len (size := 1) (fun _ => rfl) l
/-- A file has been made. -/
theorem rs_newfile {w w6 : World} {m : RMem} {s : FSt} (h : IsRS w m s) {n : Nat} {A' : Option Addr} {c' k : Nat} {o : Obj} (hn : n = m.fs.length + 1) (hk : k = (m.fs.map (·.fb)).length + 1)
    (hO : OwnW w6 47 1 (.slice A' k c') k ((m.fs.map (·.fb)).flatMap ptrCells ++ [.pointer (some ⟨w.heap.size, 0, none⟩)]))
    (hK : Keeps (ownB m.fv) ((w.alloc (.cells #[.int .i64 (n : Nat), .string ⟨#[]⟩, .slice none 0 0, .string ⟨#[]⟩] 46)).alloc o) w6) (hG : Grew ((w.alloc (.cells #[.int .i64 (n : Nat), .string ⟨#[]⟩, .slice none 0 0, .string ⟨#[]⟩] 46)).alloc o) m.fv (.slice A' k c')) :
    RsTo w m { s with F := s.F ++ [noFile] } (w6.setCell ⟨m.b, 0, none⟩ (.slice A' k c')) := by
  obtain ⟨W1, hW1⟩ : ∃ W1, W1 = w.alloc (.cells #[.int .i64 (n : Nat), .string ⟨#[]⟩, .slice none 0 0, .string ⟨#[]⟩] 46) := ⟨_, rfl⟩
  rw [← hW1] at hK hG
  have k1 : Keeps NoB w W1 := by rw [hW1]; exact (Keeps.refl NoB w).alloc _
  have k2 : Keeps NoB w (W1.alloc o) := k1.alloc o
  have hf1 : W1.heap[w.heap.size]? = some (.cells #[.int .i64 (n : Nat), .string ⟨#[]⟩, .slice none 0 0, .string ⟨#[]⟩] 46 (0, 0)) := by rw [hW1]; exact heap_alloc_new w _
  have hs1 : W1.heap.size = w.heap.size + 1 := by rw [hW1]; show (w.heap.push _).size = _; simp
  have hs2 : (W1.alloc o).heap.size = w.heap.size + 2 := by show (W1.heap.push _).size = _; simp [hs1]
  have kds := h.kinds
  have hfb : ∀ i, m.fv.ownBlock = some i → i ≠ m.b := fun i hi e => by
    have h1 := kds.2.1 i hi
    rw [e, kds.1] at h1
    exact absurd h1 (by decide)
  have k6 : Keeps (fun i => i = m.b ∨ m.fv.ownBlock = some i) w (w6.setCell ⟨m.b, 0, none⟩ (.slice A' k c')) :=
    (k2.trans hK (fun _ _ f => f.elim) (fun _ _ f => f)).trans ((Keeps.refl (OneB m.b) w6).setCell ⟨m.b, 0, none⟩ _ (fun _ => rfl)) (fun _ _ f => .inr f) (fun _ _ f => .inl f)
  have hb6 : w6.heap[m.b]? = some (.cells (rsCells m s) 37 (0, 0)) := hK.obj (k2.obj h.blk (fun f => f)) (fun f => hfb _ f rfl)
  have hnew6 : (w6.setCell ⟨m.b, 0, none⟩ (.slice A' k c')).heap[w.heap.size]? = some (.cells #[.int .i64 (n : Nat), .string ⟨#[]⟩, .slice none 0 0, .string ⟨#[]⟩] 46 (0, 0)) := by
    have hbl : m.b < w.heap.size := RMem.lt h _ (.inl rfl)
    refine ((Keeps.refl (OneB m.b) w6).setCell ⟨m.b, 0, none⟩ _ (fun _ => rfl)).obj (hK.obj (((Keeps.refl NoB W1).alloc o).obj hf1 (fun f => f)) (fun f => ?_)) (fun e => by have : w.heap.size = m.b := e; omega)
    have := RMem.lt h _ (.inr (.inl f))
    omega
  have hO6 : OwnW (w6.setCell ⟨m.b, 0, none⟩ (.slice A' k c')) 47 1 (.slice A' k c') k ((m.fs.map (·.fb)).flatMap ptrCells ++ [.pointer (some ⟨w.heap.size, 0, none⟩)]) := OwnW.keeps hO ((Keeps.refl (OneB m.b) w6).setCell ⟨m.b, 0, none⟩ _ (fun _ => rfl)) (fun i hi e => by
    have h1 := OwnW.knd hO hi
    have h2 : i = m.b := e
    rw [h2, knd_cells hb6] at h1
    exact absurd h1 (by decide))
  have ne : ∀ i, m.O i → ¬ (i = m.b ∨ m.fv.ownBlock = some i) → i < w.heap.size := fun i hi _ => RMem.lt h i hi
  have hne : ∀ i t, knd w i = t + 1 → t ≠ 37 → t ≠ 47 → ¬ (i = m.b ∨ m.fv.ownBlock = some i) := fun i t hk h1 h2 f => by
    rcases f with rfl | f
    · rw [kds.1] at hk; exact h1 (by omega)
    · rw [kds.2.1 i f] at hk; exact h2 (by omega)
  refine ⟨⟨m.b, m.fs ++ [⟨w.heap.size, .slice none 0 0⟩], .slice A' k c', m.dv, m.sv, m.mv⟩, rfl, ⟨?_, ?_, ?_, ?_, ?_, ?_, ?_, ?_, h.dirs⟩, ?_, k6.mono (fun i _ f => ?_)⟩
  · exact (blk_set hb6 0 _).trans rfl
  · simp [h.len]
  · have e1 : ((m.fs ++ [(⟨w.heap.size, .slice none 0 0⟩ : RF)]).map (·.fb)).flatMap ptrCells = (m.fs.map (·.fb)).flatMap ptrCells ++ [.pointer (some ⟨w.heap.size, 0, none⟩)] := by rw [List.map_append, List.flatMap_append]; rfl
    have e2 : ((m.fs ++ [(⟨w.heap.size, .slice none 0 0⟩ : RF)]).map (·.fb)).length = k := by rw [hk]; simp
    unfold PtrV
    dsimp only
    rw [e1, e2]
    exact hO6
  · intro i hi
    dsimp only at hi ⊢
    by_cases hlt : i < m.fs.length
    · rw [List.getElem_append_left hlt]
      have e3 : (s.F ++ [noFile]).getD i noFile = s.F.getD i noFile := by
        rw [List.getD_eq_getElem?_getD, List.getD_eq_getElem?_getD, List.getElem?_append_left (by rw [← h.len]; exact hlt)]
      rw [e3]
      obtain ⟨a, b⟩ := kds.2.2.2.2.2 _ (List.getElem_mem hlt)
      refine (h.file i hlt).keeps k6 (fun j hj => ?_)
      rcases hj with rfl | hj
      · exact hne _ _ a (by decide) (by decide)
      · exact hne _ _ (b j hj) (by decide) (by decide)
    · have hi' : i = m.fs.length := by simp at hi; omega
      subst hi'
      have e3 : (s.F ++ [noFile]).getD m.fs.length noFile = noFile := by
        rw [List.getD_eq_getElem?_getD, h.len]; simp
      rw [e3]
      simp only [List.getElem_append_right (Nat.le_refl _), Nat.sub_self, List.getElem_cons_zero]
      refine ⟨?_, rlogV_nil _⟩
      rw [hn] at hnew6
      exact hnew6
  · exact OwnW.keeps h.names k6 (fun i hi => hne _ _ (kds.2.2.1 i hi) (by decide) (by decide))
  · exact OwnW.keeps h.safe k6 (fun i hi => hne _ _ (kds.2.2.2.1 i hi) (by decide) (by decide))
  · exact OwnW.keeps h.moves k6 (fun i hi => hne _ _ (kds.2.2.2.2.1 i hi) (by decide) (by decide))
  · intro i j hi hj hij k hki hkj
    dsimp only at hi hj hki hkj
    by_cases h1 : i < m.fs.length
    · rw [List.getElem_append_left h1] at hki
      by_cases h2 : j < m.fs.length
      · rw [List.getElem_append_left h2] at hkj
        exact h.apart i j h1 h2 hij k hki hkj
      · have : j = m.fs.length := by simp at hj; omega
        subst this
        simp only [List.getElem_append_right (Nat.le_refl _), Nat.sub_self, List.getElem_cons_zero] at hkj
        have hk1 := (h.file i h1).lt k hki
        rcases hkj with e | e
        · have : k = w.heap.size := e
          omega
        · simp [Value.ownBlock] at e
    · have : i = m.fs.length := by simp at hi; omega
      subst this
      simp only [List.getElem_append_right (Nat.le_refl _), Nat.sub_self, List.getElem_cons_zero] at hki
      have h2 : j < m.fs.length := by simp at hj; omega
      rw [List.getElem_append_left h2] at hkj
      have hk1 := (h.file j h2).lt k hkj
      rcases hki with e | e
      · have : k = w.heap.size := e
        omega
      · simp [Value.ownBlock] at e
  · intro i hi
    rcases hi with h1 | h1 | h1 | h1 | h1 | ⟨f, hf, h1⟩
    · exact .inl (.inl h1)
    · rcases hG i h1 with h2 | h2
      · exact .inl (.inr (.inl h2))
      · exact .inr (by omega)
    · exact .inl (.inr (.inr (.inl h1)))
    · exact .inl (.inr (.inr (.inr (.inl h1))))
    · exact .inl (.inr (.inr (.inr (.inr (.inl h1)))))
    · rcases List.mem_append.1 hf with hf | hf
      · exact .inl (.inr (.inr (.inr (.inr (.inr ⟨f, hf, h1⟩)))))
      · have : f = ⟨w.heap.size, .slice none 0 0⟩ := by simpa using hf
        subst this
        rcases h1 with e | e
        · exact .inr (Nat.le_of_eq e.symm)
        · simp [Value.ownBlock] at e
  · rcases f with rfl | f
    · exact .inl rfl
    · exact .inr (.inl f)
end Go.Proofs.YtlhhcoijkjcneaaGreat
