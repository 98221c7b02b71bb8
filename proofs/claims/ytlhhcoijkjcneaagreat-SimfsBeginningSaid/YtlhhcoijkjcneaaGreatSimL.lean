/- simfs: something is done to a file: the whole file system. What holds of every file system is kept. -/
import Derived.Test.YtlhhcoijkjcneaaGreatSimK
namespace Go.Proofs.YtlhhcoijkjcneaaGreat
open Go.RowKit Go.Maps Go.Lib

/-- What holds of every file system, after at most N operations. -/
structure Inv (N : Nat) (s : FSt) : Prop where
  ok : FsOk s
  files : FilesOk s
  lim : FsLim N s
theorem Inv.mono {N N' : Nat} {s : FSt} (h : Inv N s) (hN : N ≤ N') : Inv N' s :=
  ⟨h.ok, h.files, ⟨Nat.le_trans h.lim.ops hN, Nat.le_trans h.lim.files hN, Nat.le_trans h.lim.moves hN, fun n => Nat.le_trans (h.lim.log n) hN, h.lim.strs, h.lim.dat⟩⟩
theorem setFile_file (s : FSt) (k : Nat) (x : FileS) (hk : k - 1 < s.F.length) (j : Nat) : (s.setFile k x).file j = if j - 1 = k - 1 then x else s.file j := by
  unfold FSt.setFile FSt.file
  dsimp only
  rw [List.getD_eq_getElem?_getD, List.getD_eq_getElem?_getD, List.getElem?_set]
  by_cases h : j - 1 = k - 1
  · rw [if_pos h, if_pos h.symm, if_pos hk]
    rfl
  · rw [if_neg h, if_neg (fun e => h e.symm)]
theorem counts_file (s : FSt) (j : Nat) : (FSt.counts s).file j = s.file j := rfl
theorem doneOn_write_len (xs : List UInt8) (pos : Nat) (p : List UInt8) (hp : pos ≤ xs.length) : (doneOn xs ⟨false, pos, p⟩).length = max (pos + p.length) xs.length := by
  show (xs.take pos ++ p ++ xs.drop (pos + p.length)).length = _
  simp only [List.length_append, List.length_take, List.length_drop]
  omega
theorem Inv.counts {N : Nat} {s : FSt} (h : Inv N s) : Inv (N + 1) (FSt.counts s) := by
  refine ⟨⟨h.ok.dirD, h.ok.dirS, h.ok.path, h.ok.cur, h.ok.cap, ?_, h.ok.len, h.ok.lens⟩, h.files, ⟨?_, Nat.le_succ_of_le h.lim.files, Nat.le_succ_of_le h.lim.moves, fun n => Nat.le_succ_of_le (h.lim.log n), h.lim.strs, h.lim.dat⟩⟩
  · have := h.ok.left
    show -1 ≤ (if 0 < s.left then s.left - 1 else s.left) ∧ (if 0 < s.left then s.left - 1 else s.left) ≤ _
    split <;> omega
  · have := h.lim.ops
    show s.ops + 1 ≤ N + 1
    omega
theorem Inv.does {N : Nat} {s : FSt} (h : Inv N s) (k : Nat) (d : DoneS) (hk : k - 1 < s.F.length) (hp : d.pos ≤ (s.file k).data.length) (hl : (doneOn (s.file k).data d).length ≤ 67108864) (hdl : d.p.length ≤ 70368744177664) : Inv (N + 1) (s.does k d) := by
  unfold FSt.does
  obtain ⟨X, hX⟩ : ∃ X, X = { s.file k with log := (s.file k).log ++ [d], data := doneOn (s.file k).data d } := ⟨_, rfl⟩
  rw [← hX]
  have hF : (s.setFile k X).F.length = s.F.length := by unfold FSt.setFile; simp
  have hlog := h.lim.log k
  have hfile := h.files k
  refine ⟨⟨?_, ?_, ?_, h.ok.cur, h.ok.cap, ?_, h.ok.len, h.ok.lens⟩, ?_, ⟨?_, ?_, Nat.le_succ_of_le h.lim.moves, ?_, h.lim.strs, ?_⟩⟩
  · show GoodDir (s.setFile k X).F.length s.D
    rw [hF]; exact h.ok.dirD
  · show GoodDir (s.setFile k X).F.length s.S
    rw [hF]; exact h.ok.dirS
  · show PathOk (s.setFile k X).F.length s.S s.M
    rw [hF]; exact h.ok.path
  · have := h.ok.left
    show -1 ≤ (if 0 < s.left then s.left - 1 else s.left) ∧ (if 0 < s.left then s.left - 1 else s.left) ≤ _
    split <;> omega
  · intro n
    rw [counts_file, setFile_file s k X hk n]
    split
    · rw [hX]
      refine ⟨LogOk.snoc hfile.1 (by rw [← hfile.2]; exact hp) (by rw [← hfile.2]; exact hl), ?_⟩
      dsimp only
      rw [hfile.2]
      unfold doneAll
      rw [List.foldl_append]
      rfl
    · exact h.files n
  · have := h.lim.ops
    show s.ops + 1 ≤ N + 1
    omega
  · show (s.setFile k X).F.length ≤ N + 1
    rw [hF]; exact Nat.le_succ_of_le h.lim.files
  · intro n
    rw [counts_file, setFile_file s k X hk n]
    split
    · rw [hX]; simp; omega
    · exact Nat.le_succ_of_le (h.lim.log n)
  · intro n e he
    rw [counts_file, setFile_file s k X hk n] at he
    split at he
    · rw [hX] at he
      rcases List.mem_append.1 he with he | he
      · exact h.lim.dat k e he
      · simp at he; subst he; exact hdl
    · exact h.lim.dat n e he

theorem IsFS.kinds {w : World} {m : FsMem} {s : FSt} (h : IsFS w m s) : knd w m.b = 79 + 1 ∧ knd w m.mf = 0 ∧ knd w m.mn = 0 ∧ knd w m.ms = 0 ∧ (∀ k, m.mv.ownBlock = some k → knd w k = 81 + 1) :=
  ⟨knd_cells h.blk, h.files.knd, h.names.knd, h.safe.knd, fun k hk => OwnW.knd h.moves hk⟩
theorem IsFile.kinds {w : World} {f : FMem} {x : FileS} (h : IsFile w f x) : knd w f.fb = 91 + 1 ∧ ∀ k, f.lv.ownBlock = some k → knd w k = 104 + 1 :=
  ⟨knd_cells h.blk, fun k hk => OwnW.knd h.log hk⟩
theorem IsFile.okinds {w : World} {f : FMem} {x : FileS} (h : IsFile w f x) : ∀ i, f.O i → knd w i = 91 + 1 ∨ knd w i = 104 + 1 := fun i hi => by
  rcases hi with rfl | hi
  · exact .inl h.kinds.1
  · exact .inr (h.kinds.2 i hi)
/-- The file k lies anew, the rest as it was. -/
theorem IsFS.setFile {w w' : World} {m : FsMem} {s s' : FSt} {k : Nat} {f f' : FMem} {x : FileS} (h : IsFS w m s) (hg : m.g k = some f)
    (hblk : w'.heap[m.b]? = some (.cells (fsCells m s') 79 (0, 0))) (hf : IsFile w' f' x) (hfb : f'.fb = f.fb) (hgr : ∀ i, f'.lv.ownBlock = some i → f.lv.ownBlock = some i ∨ w.heap.size ≤ i) (hdb : ∀ i, datB f'.dv = some i ∨ datB f'.sv = some i → (datB f.dv = some i ∨ datB f.sv = some i) ∨ w.heap.size ≤ i)
    (hK : Keeps (fun i => i = m.b ∨ f.O i) w w') (hD : s'.D = s.D) (hS : s'.S = s.S) (hM : s'.M = s.M) (hF : s'.F.length = s.F.length) (hfile : ∀ j, 1 ≤ j → s'.file j = if j = k then x else s.file j) :
    FsTo w m s' w' := by
  have hfi := (h.file k f hg).2.2
  have kd := h.kinds
  have kf := hfi.okinds
  have hX : ∀ i, (i = m.b ∨ f.O i) → knd w i = 79 + 1 ∨ knd w i = 91 + 1 ∨ knd w i = 104 + 1 := fun i hi => by
    rcases hi with rfl | hi
    · exact .inl kd.1
    · exact .inr (kf i hi)
  have nX : ∀ i, knd w i = 0 ∨ knd w i = 81 + 1 → ¬ (i = m.b ∨ f.O i) := fun i hi hx => by
    rcases hX i hx with h1 | h1 | h1 <;> rcases hi with h2 | h2 <;> rw [h1] at h2 <;> exact absurd h2 (by decide)
  have nU : NotU8 w (fun i => i = m.b ∨ f.O i) := notU8_knd fun i hi => by
    rcases hX i hi with h1 | h1 | h1 <;> rw [h1] <;> decide
  have hO' : ∀ i, f'.O i → f.O i ∨ w.heap.size ≤ i := fun i hi => by
    rcases hi with hi | hi
    · exact .inl (.inl (hi.trans hfb))
    · exact (hgr i hi).imp .inr id
  refine ⟨{ m with g := fun j => if j = k then some f' else m.g j }, rfl, ⟨?_, ?_, ?_, ?_, ?_, ?_, ?_, h.maps, ?_⟩, ?_, ?_⟩
  · exact hblk
  · rw [hF]
    refine (h.files.keeps hK (nX _ (.inl kd.2.1))).congr fun j => ?_
    dsimp only
    by_cases hj : j = k
    · subst hj; rw [if_pos rfl, hg]; simp [hfb]
    · rw [if_neg hj]
  · rw [hD]; exact h.names.keeps hK (nX _ (.inl kd.2.2.1))
  · rw [hS]; exact h.safe.keeps hK (nX _ (.inl kd.2.2.2.1))
  · rw [hM]; exact OwnW.keeps h.moves hK (fun i hi => nX _ (.inr (kd.2.2.2.2 i hi)))
  · intro j f1 hj
    dsimp only at hj
    rw [hF]
    by_cases hjk : j = k
    · subst hjk
      rw [if_pos rfl] at hj
      cases hj
      have := h.file j f hg
      rw [hfile j this.1, if_pos rfl]
      exact ⟨this.1, this.2.1, hf⟩
    · rw [if_neg hjk] at hj
      have := h.file j f1 hj
      rw [hfile j this.1, if_neg hjk]
      refine ⟨this.1, this.2.1, this.2.2.keeps hK (fun i hi hx => ?_) nU⟩
      rcases hx with rfl | hx
      · rcases this.2.2.okinds _ hi with h1 | h1 <;> rw [kd.1] at h1 <;> exact absurd h1 (by decide)
      · exact h.apart j k f1 f hj hg hjk i hi hx
  · intro n n' f1 f2 h1 h2 hne i hi hi2
    dsimp only at h1 h2
    by_cases hn : n = k
    · subst hn
      rw [if_pos rfl] at h1
      cases h1
      rw [if_neg (fun e => hne e.symm)] at h2
      rcases hO' i hi with h3 | h3
      · exact h.apart n n' f f2 hg h2 hne i h3 hi2
      · have := (h.file n' f2 h2).2.2.lt i hi2; omega
    · rw [if_neg hn] at h1
      by_cases hn' : n' = k
      · subst hn'
        rw [if_pos rfl] at h2
        cases h2
        rcases hO' i hi2 with h3 | h3
        · exact h.apart n n' f1 f h1 hg hne i hi h3
        · have := (h.file n f1 h1).2.2.lt i hi; omega
      · rw [if_neg hn'] at h2
        exact h.apart n n' f1 f2 h1 h2 hne i hi hi2
  · rw [hD, hS, hM]
    have hs : ∀ n, (m.g n).isSome → ((fun j => if j = k then some f' else m.g j) n).isSome := fun n hn => by
      dsimp only
      split
      · rfl
      · exact hn
    exact ⟨fun e he => hs _ (h.has.1 e he), fun e he => hs _ (h.has.2.1 e he), fun x hx hk => hs _ (h.has.2.2 x hx hk)⟩
  · refine ⟨?_, fun i hi => ?_⟩
    rotate_left
    · obtain ⟨n, f1, hn, hi⟩ := hi
      dsimp only at hn
      by_cases hnk : n = k
      · rw [if_pos hnk] at hn
        cases hn
        exact (hdb i hi).imp (fun h => ⟨k, f, hg, h⟩) id
      · rw [if_neg hnk] at hn
        exact .inl ⟨n, f1, hn, hi⟩
    intro i hi
    rcases hi with rfl | rfl | rfl | rfl | hi | ⟨n, f1, hn, hi⟩
    · exact .inl (.inl rfl)
    · exact .inl (.inr (.inl rfl))
    · exact .inl (.inr (.inr (.inl rfl)))
    · exact .inl (.inr (.inr (.inr (.inl rfl))))
    · exact .inl (.inr (.inr (.inr (.inr (.inl hi)))))
    · dsimp only at hn
      by_cases hnk : n = k
      · rw [if_pos hnk] at hn
        cases hn
        rcases hO' i hi with h3 | h3
        · exact .inl (.inr (.inr (.inr (.inr (.inr ⟨k, f, hg, h3⟩)))))
        · exact .inr h3
      · rw [if_neg hnk] at hn
        exact .inl (.inr (.inr (.inr (.inr (.inr ⟨n, f1, hn, hi⟩)))))
  · refine hK.mono fun i _ hi => ?_
    rcases hi with rfl | hi
    · exact .inl rfl
    · exact .inr (.inr (.inr (.inr (.inr ⟨k, f, hg, hi⟩))))
theorem does_fs (w : World) (m : FsMem) (s : FSt) (N : Nat) (h : IsFS w m s) (inv : Inv N s) (hN : N ≤ 1000000000) (k : Nat) (f : FMem) (hg : m.g k = some f) (d : DoneS) (hp : d.pos ≤ (s.file k).data.length) (hdl : d.p.length ≤ 70368744177664) :
    Calls Tryz.prog 92 #[.pointer (some ⟨m.b, 0, none⟩), .pointer (some ⟨f.fb, 0, none⟩), .agg (doneCells d).toArray] w fun e w' => e = .returned (.int .i64 0) ∧ FsTo w m (s.does k d) w' := by
  have hfile := h.file k f hg
  have hkl : k - 1 < s.F.length := by omega
  refine (does_any w m.b f.fb _ _ _ _ _ _ s.ops s.left s.off f.dv f.sv f.lv (s.file k).data (s.file k).log d h.blk (by have := inv.lim.ops; omega) inv.ok.left hfile.2.2.blk hfile.2.2.dat hfile.2.2.log (by have := inv.lim.log k; omega) hp (inv.files.small k) hdl).mono ?_
  rintro e w' ⟨rfl, dv', A', c', hb, hf, hr, hl, hgr, hk, hdg⟩
  have kf := hfile.2.2.okinds
  have nU : NotU8 w (fun i => i = m.b ∨ i = f.fb ∨ f.lv.ownBlock = some i) := notU8_knd fun i hi => by
    rcases hi with rfl | hi
    · rw [h.kinds.1]; decide
    · rcases kf i hi with h1 | h1 <;> rw [h1] <;> decide
  have hFl : (s.does k d).F.length = s.F.length := by simp [FSt.does, FSt.counts, FSt.setFile]
  refine ⟨rfl, h.setFile (f' := ⟨f.fb, dv', f.sv, .slice A' ((s.file k).log.length + 1) c'⟩) (x := { s.file k with log := (s.file k).log ++ [d], data := doneOn (s.file k).data d }) hg ?_ ⟨hf, hr, hfile.2.2.saf.keeps hk nU, hl⟩ rfl (fun i hi => hgr i hi) (fun i hi => by
    rcases hi with h1 | h1
    · exact (hdg i h1).imp .inl id
    · exact .inl (.inr h1)) hk rfl rfl rfl hFl (fun j hj => ?_)⟩
  · unfold fsCells
    rw [hFl]
    exact hb
  · show (s.setFile k _).file j = _
    rw [setFile_file s k _ hkl j]
    by_cases hjk : j = k
    · rw [if_pos hjk, if_pos (by rw [hjk])]
    · rw [if_neg hjk, if_neg (by omega)]
end Go.Proofs.YtlhhcoijkjcneaaGreat
