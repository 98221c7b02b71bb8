/- The document's file system: a file changes; an operation is counted; SyncDir, Arm, SetCapacity. -/
import Derived.Test.YtlhhcoijkjcneaaGreatRfJ
namespace Go.Proofs.YtlhhcoijkjcneaaGreat
open Go.RowKit Go.Maps Go.Lib

/-- A file has changed. -/
theorem rs_setfile {w w' : World} {m : RMem} {s : FSt} (h : IsRS w m s) {j : Nat} (hj : j < m.fs.length) {X : FileS} {lv' : Value} (hF : IsRF w' ⟨(m.fs[j]).fb, lv'⟩ (j + 1) X)
    (hk : Keeps (fun i => i = (m.fs[j]).fb ∨ (m.fs[j]).lv.ownBlock = some i) w w') (hg : Grew w (m.fs[j]).lv lv') : RsTo w m (s.setFile (j + 1) X) w' := by
  have kds := h.kinds
  obtain ⟨ka, kb⟩ := kds.2.2.2.2.2 _ (List.getElem_mem hj)
  have hne : ∀ i t, knd w i = t + 1 → t ≠ 46 → t ≠ 94 → ¬ (i = (m.fs[j]).fb ∨ (m.fs[j]).lv.ownBlock = some i) := fun i t hk h1 h2 f => by
    rcases f with rfl | f
    · rw [ka] at hk; exact h1 (by omega)
    · rw [kb i f] at hk; exact h2 (by omega)
  have hmap : (m.fs.set j ⟨(m.fs[j]).fb, lv'⟩).map (·.fb) = m.fs.map (·.fb) := by
    rw [List.map_set]
    have : (m.fs[j]).fb = (m.fs.map (·.fb))[j]'(by simpa using hj) := by simp
    dsimp only
    rw [this, List.set_getElem_self]
  refine ⟨⟨m.b, m.fs.set j ⟨(m.fs[j]).fb, lv'⟩, m.fv, m.dv, m.sv, m.mv⟩, rfl, ⟨?_, ?_, ?_, ?_, ?_, ?_, ?_, ?_, h.dirs⟩, ?_, hk.mono (fun i _ f => ?_)⟩
  · have e : rsCells ⟨m.b, m.fs.set j ⟨(m.fs[j]).fb, lv'⟩, m.fv, m.dv, m.sv, m.mv⟩ (s.setFile (j + 1) X) = rsCells m s := rfl
    rw [e]
    exact hk.obj h.blk (hne _ _ kds.1 (by decide) (by decide))
  · show (m.fs.set j _).length = (s.F.set j X).length
    simp [h.len]
  · unfold PtrV
    dsimp only
    rw [hmap]
    exact OwnW.keeps h.ptrs hk (fun i hi => hne _ _ (kds.2.1 i hi) (by decide) (by decide))
  · intro i hi
    dsimp only at hi ⊢
    have hi' : i < m.fs.length := by simpa using hi
    show IsRF w' _ (i + 1) ((s.F.set j X).getD i noFile)
    by_cases hij : j = i
    · subst hij
      rw [List.getElem_set_self, List.getD_eq_getElem?_getD, List.getElem?_set_self (by rw [← h.len]; exact hj)]
      exact hF
    · rw [List.getElem_set_ne hij, List.getD_eq_getElem?_getD, List.getElem?_set_ne hij, ← List.getD_eq_getElem?_getD]
      refine (h.file i hi').keeps hk (fun k hk1 f => ?_)
      exact h.apart i j hi' hj (fun e => hij e.symm) k hk1 (by
        rcases f with e | e
        · exact .inl e
        · exact .inr e)
  · exact OwnW.keeps h.names hk (fun i hi => hne _ _ (kds.2.2.1 i hi) (by decide) (by decide))
  · exact OwnW.keeps h.safe hk (fun i hi => hne _ _ (kds.2.2.2.1 i hi) (by decide) (by decide))
  · exact OwnW.keeps h.moves hk (fun i hi => hne _ _ (kds.2.2.2.2.1 i hi) (by decide) (by decide))
  · intro i i' hi hi' hii k hk1 hk2
    dsimp only at hi hi' hk1 hk2
    have li : i < m.fs.length := by simpa using hi
    have li' : i' < m.fs.length := by simpa using hi'
    have old : ∀ k, RF.O ⟨(m.fs[j]).fb, lv'⟩ k → (m.fs[j]).O k ∨ w.heap.size ≤ k := fun k h1 => by
      rcases h1 with e | e
      · exact .inl (.inl e)
      · rcases hg k e with e | e
        · exact .inl (.inr e)
        · exact .inr e
    by_cases h1 : j = i
    · subst h1
      rw [List.getElem_set_self] at hk1
      rw [List.getElem_set_ne hii] at hk2
      rcases old k hk1 with e | e
      · exact h.apart j i' hj li' hii k e hk2
      · have := (h.file i' li').lt k hk2
        omega
    · rw [List.getElem_set_ne h1] at hk1
      by_cases h2 : j = i'
      · subst h2
        rw [List.getElem_set_self] at hk2
        rcases old k hk2 with e | e
        · exact h.apart i j li hj hii k hk1 e
        · have := (h.file i li).lt k hk1
          omega
      · rw [List.getElem_set_ne h2] at hk2
        exact h.apart i i' li li' hii k hk1 hk2
  · intro i hi
    rcases hi with h1 | h1 | h1 | h1 | h1 | ⟨f, hf, h1⟩
    · exact .inl (.inl h1)
    · exact .inl (.inr (.inl h1))
    · exact .inl (.inr (.inr (.inl h1)))
    · exact .inl (.inr (.inr (.inr (.inl h1))))
    · exact .inl (.inr (.inr (.inr (.inr (.inl h1)))))
    · rcases List.mem_or_eq_of_mem_set hf with hf | rfl
      · exact .inl (.inr (.inr (.inr (.inr (.inr ⟨f, hf, h1⟩)))))
      · rcases h1 with e | e
        · exact .inl (.inr (.inr (.inr (.inr (.inr ⟨_, List.getElem_mem hj, .inl e⟩)))))
        · rcases hg i e with e | e
          · exact .inl (.inr (.inr (.inr (.inr (.inr ⟨_, List.getElem_mem hj, .inr e⟩)))))
          · exact .inr e
  · exact .inr (.inr (.inr (.inr (.inr ⟨_, List.getElem_mem hj, f⟩))))
/-- Only the block itself has changed. -/
theorem rs_block {w w' : World} {m : RMem} {s s' : FSt} (h : IsRS w m s) (hb : w'.heap[m.b]? = some (.cells (rsCells m s') 37 (0, 0))) (hk : Keeps (OneB m.b) w w') (e1 : s'.F = s.F) (e2 : s'.D = s.D) (e3 : s'.S = s.S) (e4 : s'.M = s.M) : RsTo w m s' w' := by
  have kds := h.kinds
  have hne : ∀ i t, knd w i = t + 1 → t ≠ 37 → ¬ OneB m.b i := fun i t hk h1 f => by
    have : i = m.b := f
    rw [this, kds.1] at hk; exact h1 (by omega)
  refine ⟨m, rfl, ⟨hb, by rw [e1]; exact h.len, OwnW.keeps h.ptrs hk (fun i hi => hne _ _ (kds.2.1 i hi) (by decide)), fun i hi => ?_, ?_, ?_, ?_, h.apart, h.dirs⟩, RGrows.refl w m, hk.mono (fun i _ f => .inl f)⟩
  · rw [e1]
    refine (h.file i hi).keeps hk (fun k hk1 => ?_)
    obtain ⟨ka, kb⟩ := kds.2.2.2.2.2 _ (List.getElem_mem hi)
    rcases hk1 with rfl | hk1
    · exact hne _ _ ka (by decide)
    · exact hne _ _ (kb k hk1) (by decide)
  · rw [e2]; exact OwnW.keeps h.names hk (fun i hi => hne _ _ (kds.2.2.1 i hi) (by decide))
  · rw [e3]; exact OwnW.keeps h.safe hk (fun i hi => hne _ _ (kds.2.2.2.1 i hi) (by decide))
  · rw [e4]; exact OwnW.keeps h.moves hk (fun i hi => hne _ _ (kds.2.2.2.2.1 i hi) (by decide))
theorem rcounts_fs (w : World) (m : RMem) (s : FSt) (h : IsRS w m s) (ho : s.ops ≤ 4611686018427387904) (hl : -1 ≤ s.left ∧ s.left ≤ 9223372036854775807) :
    Calls Tryz.prog 81 #[.pointer (some ⟨m.b, 0, none⟩)] w fun e w' => e = .returned (.int .i64 0) ∧ RsTo w m s.counts w' :=
  (rcounts_any w m.b _ _ _ _ _ _ s.ops s.left s.off h.blk ho hl).mono fun e w' ⟨he, hb, hk⟩ => ⟨he, rs_block h hb hk rfl rfl rfl rfl⟩
/-- counts, behind some change. -/
theorem rcounts_to (w wx : World) (m : RMem) (s : FSt) (h : RsTo w m s wx) (ho : s.ops ≤ 4611686018427387904) (hl : -1 ≤ s.left ∧ s.left ≤ 9223372036854775807) :
    Calls Tryz.prog 81 #[.pointer (some ⟨m.b, 0, none⟩)] wx fun e w' => e = .returned (.int .i64 0) ∧ RsTo w m s.counts w' := by
  obtain ⟨m1, hb, hi, hg, hk⟩ := h
  rw [← hb]
  exact (rcounts_fs wx m1 s hi ho hl).mono fun e w' ⟨he, hr⟩ => ⟨he, RsTo.trans hb hg hk hr⟩
set_option maxHeartbeats 1000000 in
set_option maxRecDepth 100000 in
theorem rarm_fs (w : World) (m : RMem) (s : FSt) (h : IsRS w m s) (n : Int) (hn : -9223372036854775808 ≤ n ∧ n ≤ 9223372036854775807) : Calls Tryz.prog 53 #[.pointer (some ⟨m.b, 0, none⟩), .int .i64 n] w fun e w' => e = .returned (.tuple #[]) ∧ RsTo w m (s.arm n) w' := by
  have c7 := h.c.2.2.2.2.2.2.2.1
  have c6 := h.c.2.2.2.2.2.2.1
  have f6 := blk_frozen h.blk 6
  have f7 := blk_frozen h.blk 7
  have H := Sd.mk h
  obtain ⟨hn1, hn2⟩ := hn
  clear h
  obtain ⟨R, hR⟩ : ∃ R, R = s.arm n := ⟨_, rfl⟩
  rw [← hR]
  unfold FSt.arm at hR
  have HR := Sd.mk hR
  clear hR
  cases hoff : s.off with
  | true =>
    rw [hoff] at c7
    have HR2 : Sd (R = s) := ⟨by rw [HR.o, hoff]; rfl⟩
    clear HR hoff
    go_enter Tryz.func53, Tryz.ntmps53
    go_wp2
    refine bodyPost_ret (results_none rfl _ _ _) rfl ?_
    exact ⟨rfl, by rw [HR2.o]; exact RsTo.same H.o (Keeps.refl NoB w)⟩
  | false =>
    rw [hoff] at c7
    have HR2 : Sd (R = { s with left := max n (-1), off := decide (n = 0) }) := ⟨by rw [HR.o, hoff]; rfl⟩
    have HBN : Sd ((n == 0) = decide (n = 0)) := ⟨by
      by_cases hz : n = 0
      · subst hz; rfl
      · rw [decide_eq_false hz]; simpa using hz⟩
    clear HR hoff
    go_enter Tryz.func53, Tryz.ntmps53
    go_wp2
    go_end0
    refine ⟨rfl, ?_⟩
    rw [HR2.o]
    refine rs_block H.o ((blk_set (blk_set H.o.blk 6 _) 7 _).trans ?_) (((Keeps.refl (OneB m.b) w).setCell ⟨m.b, 6, none⟩ _ (fun _ => rfl)).setCell ⟨m.b, 7, none⟩ _ (fun _ => rfl)) rfl rfl rfl rfl
    rw [HBN.o]
    rfl
def FSt.setCap (s : FSt) (n : Int) : Int × FSt := if n < 0 ∨ 67108864 < n then (2, s) else (0, { s with cap := n })
set_option maxHeartbeats 1000000 in
set_option maxRecDepth 100000 in
theorem rsetcap_fs (w : World) (m : RMem) (s : FSt) (h : IsRS w m s) (n : Int) : Calls Tryz.prog 55 #[.pointer (some ⟨m.b, 0, none⟩), .int .i64 n] w fun e w' => e = .returned (.int .i64 (s.setCap n).1) ∧ RsTo w m (s.setCap n).2 w' := by
  have c4 := h.c.2.2.2.2.1
  have f4 := blk_frozen h.blk 4
  have H := Sd.mk h
  clear h
  by_cases h0 : n < 0
  · have HR : Sd (s.setCap n = (2, s)) := ⟨if_pos (.inl h0)⟩
    go_enter Tryz.func55, Tryz.ntmps55
    go_wp2
    go_ret
    exact ⟨by rw [HR.o]; rfl, by rw [HR.o]; exact RsTo.same H.o (Keeps.refl NoB w)⟩
  by_cases h1 : 67108864 < n
  · have HR : Sd (s.setCap n = (2, s)) := ⟨if_pos (.inr h1)⟩
    go_enter Tryz.func55, Tryz.ntmps55
    go_wp2
    go_ret
    exact ⟨by rw [HR.o]; rfl, by rw [HR.o]; exact RsTo.same H.o (Keeps.refl NoB w)⟩
  have HR : Sd (s.setCap n = (0, { s with cap := n })) := ⟨if_neg (by omega)⟩
  go_enter Tryz.func55, Tryz.ntmps55
  go_wp2
  go_ret
  refine ⟨by rw [HR.o]; rfl, ?_⟩
  rw [HR.o]
  exact rs_block H.o ((blk_set H.o.blk 4 _).trans rfl) ((Keeps.refl (OneB m.b) w).setCell ⟨m.b, 4, none⟩ _ (fun _ => rfl)) rfl rfl rfl rfl
end Go.Proofs.YtlhhcoijkjcneaaGreat
