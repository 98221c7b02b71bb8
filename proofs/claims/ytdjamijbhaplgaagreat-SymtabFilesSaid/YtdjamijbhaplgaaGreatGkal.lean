/- simfs: something is done to a file: the whole file system. What holds of every file system is kept. -/
import Derived.Test.YtdjamijbhaplgaaGreatGkak
import Derived.Test.YtdjamijbhaplgaaGreatGkaa
namespace Go.Proofs.YtdjamijbhaplgaaGreat
open Go.RowKit Go.Maps Go.Lib

/-- What holds of every file system, after at most N operations. -/
structure Inv (N : Nat) (s : FSt) : Prop where
  ok : FsOk s
  files : FilesOk s
  lim : FsLim N s
theorem Inv.mono {N N' : Nat} {s : FSt} (h : Inv N s) (hN : N ≤ N') : Inv N' s :=
  ⟨h.ok, h.files, ⟨Nat.le_trans h.lim.ops hN, Nat.le_trans h.lim.files hN, Nat.le_trans h.lim.moves hN, fun n => Nat.le_trans (h.lim.log n) hN, h.lim.strs, h.lim.dat⟩⟩
theorem setFile_file (s : FSt) (k : Nat) (x : FileS) (hk : k - 1 < s.F.length) (j : Nat) : (s.setFile k x).file j = if j - 1 = k - 1 then x else s.file j := by
  unfold FSt.setFile FSt.file
  dsimp only
  rw [List.getD_eq_getElem?_getD, List.getD_eq_getElem?_getD, List.getElem?_set]
  by_cases h : j - 1 = k - 1
  · rw [if_pos h, if_pos h.symm, if_pos hk]
    rfl
  · rw [if_neg h, if_neg (fun e => h e.symm)]
theorem counts_file (s : FSt) (j : Nat) : (FSt.counts s).file j = s.file j := rfl
theorem doneOn_write_len (xs : List UInt8) (pos : Nat) (p : List UInt8) (hp : pos ≤ xs.length) : (doneOn xs ⟨false, pos, p⟩).length = max (pos + p.length) xs.length := by
  show (xs.take pos ++ p ++ xs.drop (pos + p.length)).length = _
  simp only [List.length_append, List.length_take, List.length_drop]
  omega
theorem Inv.counts {N : Nat} {s : FSt} (h : Inv N s) : Inv (N + 1) (FSt.counts s) := by
  refine ⟨⟨h.ok.dirD, h.ok.dirS, h.ok.path, h.ok.cur, h.ok.cap, ?_, h.ok.len, h.ok.lens⟩, h.files, ⟨?_, Nat.le_succ_of_le h.lim.files, Nat.le_succ_of_le h.lim.moves, fun n => Nat.le_succ_of_le (h.lim.log n), h.lim.strs, h.lim.dat⟩⟩
  · have := h.ok.left
    show -1 ≤ (if 0 < s.left then s.left - 1 else s.left) ∧ (if 0 < s.left then s.left - 1 else s.left) ≤ _
    split <;> omega
  · have := h.lim.ops
    show s.ops + 1 ≤ N + 1
    omega
theorem Inv.does {N : Nat} {s : FSt} (h : Inv N s) (k : Nat) (d : DoneS) (hk : k - 1 < s.F.length) (hp : d.pos ≤ (s.file k).data.length) (hl : (doneOn (s.file k).data d).length ≤ 67108864) (hdl : d.p.length ≤ 70368744177664) : Inv (N + 1) (s.does k d) := by
  unfold FSt.does
  obtain ⟨X, hX⟩ : ∃ X, X = { s.file k with log := (s.file k).log ++ [d], data := doneOn (s.file k).data d } := ⟨_, rfl⟩
  rw [← hX]
  have hF : (s.setFile k X).F.length = s.F.length := by unfold FSt.setFile; simp
  have hlog := h.lim.log k
  have hfile := h.files k
  refine ⟨⟨?_, ?_, ?_, h.ok.cur, h.ok.cap, ?_, h.ok.len, h.ok.lens⟩, ?_, ⟨?_, ?_, Nat.le_succ_of_le h.lim.moves, ?_, h.lim.strs, ?_⟩⟩
  · show GoodDir (s.setFile k X).F.length s.D
    rw [hF]; exact h.ok.dirD
  · show GoodDir (s.setFile k X).F.length s.S
    rw [hF]; exact h.ok.dirS
  · show PathOk (s.setFile k X).F.length s.S s.M
    rw [hF]; exact h.ok.path
  · have := h.ok.left
    show -1 ≤ (if 0 < s.left then s.left - 1 else s.left) ∧ (if 0 < s.left then s.left - 1 else s.left) ≤ _
    split <;> omega
  · intro n
    rw [counts_file, setFile_file s k X hk n]
    split
    · rw [hX]
      refine ⟨LogOk.snoc hfile.1 (by rw [← hfile.2]; exact hp) (by rw [← hfile.2]; exact hl), ?_⟩
      dsimp only
      rw [hfile.2]
      unfold doneAll
      rw [List.foldl_append]
      rfl
    · exact h.files n
  · have := h.lim.ops
    show s.ops + 1 ≤ N + 1
    omega
  · show (s.setFile k X).F.length ≤ N + 1
    rw [hF]; exact Nat.le_succ_of_le h.lim.files
  · intro n
    rw [counts_file, setFile_file s k X hk n]
    split
    · rw [hX]; simp; omega
    · exact Nat.le_succ_of_le (h.lim.log n)
  · intro n e he
    rw [counts_file, setFile_file s k X hk n] at he
    split at he
    · rw [hX] at he
      rcases List.mem_append.1 he with he | he
      · exact h.lim.dat k e he
      · simp at he; subst he; exact hdl
    · exact h.lim.dat n e he

theorem IsFS.kinds {w : World} {m : FsMem} {s : FSt} (h : IsFS w m s) : knd w m.b = 81 + 1 ∧ knd w m.mf = 0 ∧ knd w m.mn = 0 ∧ knd w m.ms = 0 ∧ (∀ k, m.mv.ownBlock = some k → knd w k = 88 + 1) :=
  ⟨knd_cells h.blk, h.files.knd, h.names.knd, h.safe.knd, fun k hk => OwnW.knd h.moves hk⟩
theorem IsFile.kinds {w : World} {f : FMem} {x : FileS} (h : IsFile w f x) : knd w f.fb = 111 + 1 ∧ ∀ k, f.lv.ownBlock = some k → knd w k = 153 + 1 :=
  ⟨knd_cells h.blk, fun k hk => OwnW.knd h.log hk⟩
theorem IsFile.okinds {w : World} {f : FMem} {x : FileS} (h : IsFile w f x) : ∀ i, f.O i → knd w i = 111 + 1 ∨ knd w i = 153 + 1 := fun i hi => by
  rcases hi with rfl | hi
  · exact .inl h.kinds.1
  · exact .inr (h.kinds.2 i hi)
/-- The file k lies anew, the rest as it was. -/
theorem IsFS.setFile {w w' : World} {m : FsMem} {s s' : FSt} {k : Nat} {f f' : FMem} {x : FileS} (h : IsFS w m s) (hg : m.g k = some f)
    (hblk : w'.heap[m.b]? = some (.cells (fsCells m s') 81 (0, 0))) (hf : IsFile w' f' x) (hfb : f'.fb = f.fb) (hgr : ∀ i, f'.lv.ownBlock = some i → f.lv.ownBlock = some i ∨ w.heap.size ≤ i) (hdb : ∀ i, datB f'.dv = some i ∨ datB f'.sv = some i → (datB f.dv = some i ∨ datB f.sv = some i) ∨ w.heap.size ≤ i)
    (hK : Keeps (fun i => i = m.b ∨ f.O i) w w') (hD : s'.D = s.D) (hS : s'.S = s.S) (hM : s'.M = s.M) (hF : s'.F.length = s.F.length) (hfile : ∀ j, 1 ≤ j → s'.file j = if j = k then x else s.file j) :
    FsTo w m s' w' := by
  have hfi := (h.file k f hg).2.2
  have kd := h.kinds
  have kf := hfi.okinds
  have hX : ∀ i, (i = m.b ∨ f.O i) → knd w i = 81 + 1 ∨ knd w i = 111 + 1 ∨ knd w i = 153 + 1 := fun i hi => by
    rcases hi with rfl | hi
    · exact .inl kd.1
    · exact .inr (kf i hi)
  have nX : ∀ i, knd w i = 0 ∨ knd w i = 88 + 1 → ¬ (i = m.b ∨ f.O i) := fun i hi hx => by
    rcases hX i hx with h1 | h1 | h1 <;> rcases hi with h2 | h2 <;> rw [h1] at h2 <;> exact absurd h2 (by decide)
  have nU : NotU8 w (fun i => i = m.b ∨ f.O i) := notU8_knd fun i hi => by
    rcases hX i hi with h1 | h1 | h1 <;> rw [h1] <;> decide
  have hO' : ∀ i, f'.O i → f.O i ∨ w.heap.size ≤ i := fun i hi => by
    rcases hi with hi | hi
    · exact .inl (.inl (hi.trans hfb))
    · exact (hgr i hi).imp .inr id
  refine ⟨{ m with g := fun j => if j = k then some f' else m.g j }, rfl, ⟨?_, ?_, ?_, ?_, ?_, ?_, ?_, h.maps, ?_⟩, ?_, ?_⟩
  · exact hblk
  · rw [hF]
    refine (h.files.keeps hK (nX _ (.inl kd.2.1))).congr fun j => ?_
    dsimp only
    by_cases hj : j = k
    · subst hj; rw [if_pos rfl, hg]; simp [hfb]
    · rw [if_neg hj]
  · rw [hD]; exact h.names.keeps hK (nX _ (.inl kd.2.2.1))
  · rw [hS]; exact h.safe.keeps hK (nX _ (.inl kd.2.2.2.1))
  · rw [hM]; exact OwnW.keeps h.moves hK (fun i hi => nX _ (.inr (kd.2.2.2.2 i hi)))
  · intro j f1 hj
    dsimp only at hj
    rw [hF]
    by_cases hjk : j = k
    · subst hjk
      rw [if_pos rfl] at hj
      cases hj
      have := h.file j f hg
      rw [hfile j this.1, if_pos rfl]
      exact ⟨this.1, this.2.1, hf⟩
    · rw [if_neg hjk] at hj
      have := h.file j f1 hj
      rw [hfile j this.1, if_neg hjk]
      refine ⟨this.1, this.2.1, this.2.2.keeps hK (fun i hi hx => ?_) nU⟩
      rcases hx with rfl | hx
      · rcases this.2.2.okinds _ hi with h1 | h1 <;> rw [kd.1] at h1 <;> exact absurd h1 (by decide)
      · exact h.apart j k f1 f hj hg hjk i hi hx
  · intro n n' f1 f2 h1 h2 hne i hi hi2
    dsimp only at h1 h2
    by_cases hn : n = k
    · subst hn
      rw [if_pos rfl] at h1
      cases h1
      rw [if_neg (fun e => hne e.symm)] at h2
      rcases hO' i hi with h3 | h3
      · exact h.apart n n' f f2 hg h2 hne i h3 hi2
      · have := (h.file n' f2 h2).2.2.lt i hi2; omega
    · rw [if_neg hn] at h1
      by_cases hn' : n' = k
      · subst hn'
        rw [if_pos rfl] at h2
        cases h2
        rcases hO' i hi2 with h3 | h3
        · exact h.apart n n' f1 f h1 hg hne i hi h3
        · have := (h.file n f1 h1).2.2.lt i hi; omega
      · rw [if_neg hn'] at h2
        exact h.apart n n' f1 f2 h1 h2 hne i hi hi2
  · rw [hD, hS, hM]
    have hs : ∀ n, (m.g n).isSome → ((fun j => if j = k then some f' else m.g j) n).isSome := fun n hn => by
      dsimp only
      split
      · rfl
      · exact hn
    exact ⟨fun e he => hs _ (h.has.1 e he), fun e he => hs _ (h.has.2.1 e he), fun x hx hk => hs _ (h.has.2.2 x hx hk)⟩
  · refine ⟨?_, fun i hi => ?_⟩
    rotate_left
    · obtain ⟨n, f1, hn, hi⟩ := hi
      dsimp only at hn
      by_cases hnk : n = k
      · rw [if_pos hnk] at hn
        cases hn
        exact (hdb i hi).imp (fun h => ⟨k, f, hg, h⟩) id
      · rw [if_neg hnk] at hn
        exact .inl ⟨n, f1, hn, hi⟩
    intro i hi
    rcases hi with rfl | rfl | rfl | rfl | hi | ⟨n, f1, hn, hi⟩
    · exact .inl (.inl rfl)
    · exact .inl (.inr (.inl rfl))
    · exact .inl (.inr (.inr (.inl rfl)))
    · exact .inl (.inr (.inr (.inr (.inl rfl))))
    · exact .inl (.inr (.inr (.inr (.inr (.inl hi)))))
    · dsimp only at hn
      by_cases hnk : n = k
      · rw [if_pos hnk] at hn
        cases hn
        rcases hO' i hi with h3 | h3
        · exact .inl (.inr (.inr (.inr (.inr (.inr ⟨k, f, hg, h3⟩)))))
        · exact .inr h3
      · rw [if_neg hnk] at hn
        exact .inl (.inr (.inr (.inr (.inr (.inr ⟨n, f1, hn, hi⟩)))))
  · refine hK.mono fun i _ hi => ?_
    rcases hi with rfl | hi
    · exact .inl rfl
    · exact .inr (.inr (.inr (.inr (.inr ⟨k, f, hg, hi⟩))))
theorem does_fs (w : World) (m : FsMem) (s : FSt) (N : Nat) (h : IsFS w m s) (inv : Inv N s) (hN : N ≤ 1000000000) (k : Nat) (f : FMem) (hg : m.g k = some f) (d : DoneS) (hp : d.pos ≤ (s.file k).data.length) (hdl : d.p.length ≤ 70368744177664) :
    Calls Tryz.prog 80 #[.pointer (some ⟨m.b, 0, none⟩), .pointer (some ⟨f.fb, 0, none⟩), .agg (doneCells d).toArray] w fun e w' => e = .returned (.int .i64 0) ∧ FsTo w m (s.does k d) w' := by
  have hfile := h.file k f hg
  have hkl : k - 1 < s.F.length := by omega
  refine (does_any w m.b f.fb _ _ _ _ _ _ s.ops s.left s.off f.dv f.sv f.lv (s.file k).data (s.file k).log d h.blk (by have := inv.lim.ops; omega) inv.ok.left hfile.2.2.blk hfile.2.2.dat hfile.2.2.log (by have := inv.lim.log k; omega) hp (inv.files.small k) hdl).mono ?_
  rintro e w' ⟨rfl, dv', A', c', hb, hf, hr, hl, hgr, hk, hdg⟩
  have kf := hfile.2.2.okinds
  have nU : NotU8 w (fun i => i = m.b ∨ i = f.fb ∨ f.lv.ownBlock = some i) := notU8_knd fun i hi => by
    rcases hi with rfl | hi
    · rw [h.kinds.1]; decide
    · rcases kf i hi with h1 | h1 <;> rw [h1] <;> decide
  have hFl : (s.does k d).F.length = s.F.length := by simp [FSt.does, FSt.counts, FSt.setFile]
  refine ⟨rfl, h.setFile (f' := ⟨f.fb, dv', f.sv, .slice A' ((s.file k).log.length + 1) c'⟩) (x := { s.file k with log := (s.file k).log ++ [d], data := doneOn (s.file k).data d }) hg ?_ ⟨hf, hr, hfile.2.2.saf.keeps hk nU, hl⟩ rfl (fun i hi => hgr i hi) (fun i hi => by
    rcases hi with h1 | h1
    · exact (hdg i h1).imp .inl id
    · exact .inl (.inr h1)) hk rfl rfl rfl hFl (fun j hj => ?_)⟩
  · unfold fsCells
    rw [hFl]
    exact hb
  · show (s.setFile k _).file j = _
    rw [setFile_file s k _ hkl j]
    by_cases hjk : j = k
    · rw [if_pos hjk, if_pos (by rw [hjk])]
    · rw [if_neg hjk, if_neg (by omega)]
end Go.Proofs.YtdjamijbhaplgaaGreat
namespace Go.Proofs.YtdjamijbhaplgaaGreat
open Go.RowKit

/-- A world in which the blocks of w0 are as they were. -/
structure After (w0 : World) where
  w : World
  k : Keeps NoB w0 w
instance After.here {w0 : World} : Nonempty (After w0) := ⟨⟨w0, Keeps.refl _ _⟩⟩
theorem After.cell {w0 : World} (x : After w0) {a : Addr} {v : Value} (h : w0.cell? a = some v) : x.w.cell? a = some v := x.k.cell h (fun f => f)
theorem Calls.after {P : Program} {f : FuncId} {args : Array Value} {w0 : World} {x : After w0} {v : Value}
    (h : Calls P f args x.w fun e w' => e = .returned v ∧ Keeps NoB x.w w') : Calls P f args x.w fun e w'' => e = .returned v ∧ ∃ y : After w0, w'' = y.w :=
  h.mono fun _ w' ⟨he, hk⟩ => ⟨he, ⟨w', x.k.trans hk (fun _ _ f => f) (fun _ _ f => f)⟩, rfl⟩
theorem Calls.after_same {P : Program} {f : FuncId} {args : Array Value} {w0 : World} {x : After w0} {v : Value}
    (h : Calls P f args x.w fun e w' => e = .returned v ∧ x.w = w') : Calls P f args x.w fun e w'' => e = .returned v ∧ ∃ y : After w0, w'' = y.w :=
  h.mono fun _ _ ⟨he, hk⟩ => ⟨he, x, hk.symm⟩
theorem Calls.after_drew {P : Program} {f : FuncId} {args : Array Value} {w0 : World} {x : After w0} {v : Value}
    (h : Calls P f args x.w fun e w' => e = .returned v ∧ ∃ n, w' = x.w.drewN n) : Calls P f args x.w fun e w'' => e = .returned v ∧ ∃ y : After w0, w'' = y.w :=
  h.mono fun _ _ ⟨he, n, hk⟩ => ⟨he, ⟨_, x.k.drewN n⟩, hk⟩
theorem wp_region_after {P : Program} {id : Nat} {Q : Exit → Act → World → Prop} {a : Act} {w : World} {l : List Oper} (w0 : World) (hw : Keeps NoB w0 w) (hm : P.follows .mixedOrders = true) (hB : Region.lexB .any l.toArray = true)
    (h : wpQuiet P l.toArray (fun w' => ∃ x : After w0, w' = x.w) (fun a' => ∀ w', (∃ x : After w0, w' = x.w) → Q .normal a' w') l a) : (Code.region id l.toArray true).wp P Q a w :=
  wp_region_quiet (C := fun w' => ∃ x : After w0, w' = x.w) hm hB ⟨⟨_, hw.drew⟩, rfl⟩ (by simpa using h)
end Go.Proofs.YtdjamijbhaplgaaGreat
namespace Go.Proofs.YtdjamijbhaplgaaGreat
open Go.RowKit Go.Maps Go.Lib

theorem FsTo.after {w w1 w2 : World} {m : FsMem} {s : FSt} (k : Keeps NoB w w1) (h : FsTo w1 m s w2) : FsTo w m s w2 :=
  FsTo.trans (s1 := s) rfl (Grows.refl w m) (k.mono (fun _ _ f => f.elim)) h
theorem conv_bts {w : World} {A : Option Addr} {n c : Nat} {xs : List UInt8} (h : Bts w (.slice A n c) xs) : (convert 49 9 (.slice A n c)).run Tryz.prog w = .ok (.string (sOf xs)) w := by
  have e := h.rd.1
  subst e
  exact conv_rd (P := Tryz.prog) w 49 5 9 Tryz.underlying49 Tryz.underlying5 Tryz.underlying9 A xs c h.rd.2.2.2.2.2
theorem write_nil (w : World) (n pos : Int) (v : Value) : Calls Tryz.prog 38 #[.pointer none, .int .i64 n, .int .i64 pos, v] w fun e w' => e = .returned (.int .i64 7) ∧ w = w' := by
  go_enter Tryz.func38, Tryz.ntmps38
  go_wp2_with (go_at_call 37; refine (there_nil w n).mono ?_; rintro e w' ⟨rfl, rfl⟩)
  go_ret
  exact ⟨rfl, rfl⟩
set_option maxHeartbeats 8000000 in
set_option maxRecDepth 100000 in
theorem write_fs (w : World) (m : FsMem) (s : FSt) (N : Nat) (h : IsFS w m s) (inv : Inv N s) (hN : N ≤ 1000000000) (n pos : Int) (hp0 : -9223372036854775808 ≤ pos) (hp1 : pos ≤ 9223372036854775807)
    (A : Option Addr) (c : Nat) (q : List UInt8) (hq : Bts w (.slice A q.length c) q) (hql : q.length ≤ 70368744177664) :
    Calls Tryz.prog 38 #[.pointer (some ⟨m.b, 0, none⟩), .int .i64 n, .int .i64 pos, .slice A q.length c] w fun e w' => e = .returned (.int .i64 (s.write n pos q).1) ∧ FsTo w m (s.write n pos q).2 w' := by
  have hFN : s.F.length ≤ 4611686018427387904 := by have := inv.lim.files; omega
  have HTH := Sd.mk (there_fs w m s h inv.ok hFN n)
  have HQ : Sd (∀ wx, Keeps NoB w wx → (convert 49 9 (.slice A q.length c)).run Tryz.prog wx = .ok (.string (sOf q)) wx) := ⟨fun wx k => conv_bts (hq.keeps k (fun _ _ _ _ _ f => f))⟩
  have H := Sd.mk h
  have HI := Sd.mk inv
  obtain ⟨R, hR⟩ : ∃ R, R = s.write n pos q := ⟨_, rfl⟩
  rw [← hR]
  have HR := Sd.mk hR
  obtain ⟨t, ht⟩ : ∃ t, t = s.there n := ⟨_, rfl⟩
  rw [← ht] at HTH
  have HT := Sd.mk ht
  clear h inv hq hR ht
  go_enter Tryz.func38, Tryz.ntmps38
  go_wp2_with fail
  refine HTH.o.mono ?_
  clear HTH
  rintro e w1 ⟨pp, rfl, hk1, hne, heq⟩
  have HK1 := Sd.mk hk1
  clear hk1
  by_cases ht0 : t = 0
  case neg =>
    have hb : (t != 0) = true := by simpa using ht0
    have hfin : Sd (R = (t, s)) := ⟨by rw [HR.o]; unfold FSt.write; rw [← HT.o, if_pos ht0]⟩
    obtain rfl := hne ht0
    clear hne heq ht0
    go_wp2_with fail
    go_ret
    rw [hfin.o]
    exact ⟨rfl, FsTo.same H.o HK1.o⟩
  subst ht0
  obtain ⟨hoff, k, f, rfl, hkF, hg, rfl⟩ := heq rfl
  have h1 := H.o.kept HK1.o
  have hfile := h1.file k f hg
  have cd := hfile.2.2.c.1
  obtain ⟨Ad, cc, hdv⟩ := hfile.2.2.dat.slice
  rw [hdv] at cd
  have hsm := HI.o.files.small k
  have c5 := h1.c.2.2.2.2.2.1
  have HG := Sd.mk hg
  have H1 := Sd.mk h1
  obtain ⟨len, hlen⟩ : ∃ len, len = (s.file k).data.length := ⟨_, rfl⟩
  rw [← hlen] at cd hsm
  have HLEN := Sd.mk hlen
  have hcap := HI.o.ok.cap
  have HW : Sd (R = if pos < 0 ∨ (len : Int) < pos then (2, s) else if 0 < pos + q.length - (len : Int) ∧ s.cap - s.used < pos + q.length - (len : Int) then (5, s) else (0, s.does k ⟨false, pos.toNat, q⟩)) := ⟨by
    rw [HR.o]
    unfold FSt.write
    rw [← HT.o, if_neg (by decide), Int.toNat_natCast, ← HLEN.o]⟩
  clear hne heq hoff hg h1 hfile hdv hlen HT HR
  by_cases hneg : pos < 0
  · have hfin : Sd (R = (2, s)) := ⟨by rw [HW.o, if_pos (.inl hneg)]⟩
    go_wp2_with fail
    go_ret
    rw [hfin.o]
    exact ⟨rfl, FsTo.same H.o HK1.o⟩
  obtain ⟨pn, rfl⟩ := Int.eq_ofNat_of_zero_le (Int.not_lt.1 hneg)
  by_cases hbig : (len : Int) < pn
  · have hfin : Sd (R = (2, s)) := ⟨by rw [HW.o, if_pos (.inr hbig)]⟩
    go_wp2_with fail
    go_ret
    rw [hfin.o]
    exact ⟨rfl, FsTo.same H.o HK1.o⟩
  have hW2 : Sd (R = if 0 < (pn : Int) + q.length - (len : Int) ∧ s.cap - s.used < (pn : Int) + q.length - (len : Int) then (5, s) else (0, s.does k ⟨false, pn, q⟩)) := ⟨by
    rw [HW.o, if_neg (by omega), Int.toNat_natCast]⟩
  obtain ⟨gr, hgr⟩ : ∃ gr : Int, gr = (q.length : Int) - ((len : Int) - pn) := ⟨_, rfl⟩
  have HU : Sd (∀ x : After w1, Calls Tryz.prog 79 #[.pointer (some ⟨m.b, 0, none⟩)] x.w fun e w' => e = .returned (.int .i64 (s.used : Nat)) ∧ Keeps NoB x.w w') := ⟨fun x => used_fs x.w m s (H1.o.kept x.k) HI.o.ok HI.o.files hFN⟩
  have hused : s.used ≤ 274877906944 := by
    have h2 := sumOff_le s.D (fun _ => false) (fun n => (s.file n).data.length) 67108864 HI.o.files.small
    rw [sumOff_none _ _ _ (fun _ => rfl)] at h2
    have h3 := HI.o.ok.len
    have h4 : s.used = (s.D.map fun e => (s.file e.2).data.length).sum := rfl
    omega
  have hDO : Sd (∀ wx, Keeps NoB w1 wx → (s.does k ⟨false, pn, q⟩ = R.2) → pn ≤ len → Calls Tryz.prog 80 #[.pointer (some ⟨m.b, 0, none⟩), .pointer (some ⟨f.fb, 0, none⟩), .agg #[.bool false, .int .i64 pn, .string (sOf q)]] wx fun e w' => e = .returned (.int .i64 0) ∧ FsTo w m R.2 w') := ⟨fun wx hk hR2 hpl => by
    rw [← hR2]
    refine (does_fs wx m s N (H1.o.kept hk) HI.o hN k f HG.o ⟨false, pn, q⟩ (by rw [← HLEN.o]; exact hpl) hql).mono fun e w' ⟨he, hf⟩ => ⟨he, FsTo.after (HK1.o.then hk) hf⟩⟩
  obtain ⟨r1, r2⟩ := R
  dsimp only at hDO HW hW2
  dsimp only
  have hpl : pn ≤ len := by omega
  have hbn : ¬ len < pn := by omega
  have c5x : ∀ x : After w1, x.w.cell? ⟨m.b, 5, none⟩ = some (.int .i64 s.cap) := fun x => x.cell c5
  have fin : ∀ (w2 : World), Keeps NoB w1 w2 → (convert 49 9 (.slice A q.length c)).run Tryz.prog w2 = .ok (.string (sOf q)) w2 := fun w2 hk => HQ.o w2 (HK1.o.then hk)
  have FIN := Sd.mk fin
  clear fin hbig hneg
  have HGR := Sd.mk hgr
  clear hgr
  go_upto_region 6 with fail
  go_cut [11] (fun sx wx => sx = .int .i64 gr ∧ Sd (w1 = wx))
  case first =>
    go_wp2_with fail
    go_meet
    exact ⟨by rw [HGR.o], ⟨rfl⟩⟩
  obtain ⟨rfl, ⟨rfl⟩⟩ := hcut
  have hgl : -67108864 ≤ gr ∧ gr ≤ 140737488355328 := by have := HGR.o; omega
  by_cases g1 : 0 < gr
  case neg =>
    have hb1 : decide (0 < gr) = false := by simpa using g1
    have hR : Sd (r1 = 0 ∧ s.does k ⟨false, pn, q⟩ = r2) := ⟨by
      have := hW2.o
      rw [if_neg (fun h => by have := HGR.o; omega)] at this
      exact ⟨congrArg Prod.fst this, (congrArg Prod.snd this).symm⟩⟩
    go_upto_region 7 with fail
    refine wp_region_after w1 (Keeps.refl _ _) (by kernel_rfl) (by kernel_rfl) ?_
    repeat (go_big_quiet_step (fail))
    refine wpQuiet_nil ?_
    rintro _ ⟨x, rfl⟩
    have hcv := FIN.o x.w x.k
    go_wp2_with (go_at_call 80; refine (hDO.o x.w x.k hR.o.2 hpl).mono ?_; rintro e w3 ⟨rfl, hf⟩; have HFT := Sd.mk hf; clear hf)
    go_ret
    rw [hR.o.1]
    exact ⟨rfl, HFT.o⟩
  have hb1 : decide (0 < gr) = true := by simpa using g1
  by_cases g2 : s.cap - (s.used : Int) < gr
  · have hb2 : decide (s.cap - (s.used : Int) < gr) = true := by simpa using g2
    have hR : Sd ((r1, r2) = (5, s)) := ⟨by rw [hW2.o, if_pos ⟨by have := HGR.o; omega, by have := HGR.o; omega⟩]⟩
    go_upto_region 7 with fail
    refine wp_region_after w1 (Keeps.refl _ _) (by kernel_rfl) (by kernel_rfl) ?_
    repeat (go_big_quiet_step (first | (go_at_call 79; exact Calls.after (HU.o _))))
    refine wpQuiet_nil ?_
    rintro _ ⟨x, rfl⟩
    go_wp2_with fail
    go_ret
    obtain ⟨e1, e2⟩ := Prod.mk.inj hR.o
    rw [e1, e2]
    exact ⟨rfl, FsTo.same H.o (HK1.o.then x.k)⟩
  · have hb2 : decide (s.cap - (s.used : Int) < gr) = false := by simpa using g2
    have hR : Sd (r1 = 0 ∧ s.does k ⟨false, pn, q⟩ = r2) := ⟨by
      have := hW2.o
      rw [if_neg (fun h => by have := HGR.o; omega)] at this
      exact ⟨congrArg Prod.fst this, (congrArg Prod.snd this).symm⟩⟩
    go_upto_region 7 with fail
    refine wp_region_after w1 (Keeps.refl _ _) (by kernel_rfl) (by kernel_rfl) ?_
    repeat (go_big_quiet_step (first | (go_at_call 79; exact Calls.after (HU.o _))))
    refine wpQuiet_nil ?_
    rintro _ ⟨x, rfl⟩
    have hcv := FIN.o x.w x.k
    go_wp2_with (go_at_call 80; refine (hDO.o x.w x.k hR.o.2 hpl).mono ?_; rintro e w3 ⟨rfl, hf⟩; have HFT := Sd.mk hf; clear hf)
    go_ret
    rw [hR.o.1]
    exact ⟨rfl, HFT.o⟩
theorem append_nil (w : World) (n : Int) (v : Value) : Calls Tryz.prog 15 #[.pointer none, .int .i64 n, v] w fun e w' => e = .returned (.int .i64 7) ∧ w = w' := by
  go_enter Tryz.func15, Tryz.ntmps15
  go_wp2_with (go_at_call 37; refine (there_nil w n).mono ?_; rintro e w' ⟨rfl, rfl⟩)
  go_ret
  exact ⟨rfl, rfl⟩
set_option maxHeartbeats 4000000 in
set_option maxRecDepth 100000 in
theorem append_fs (w : World) (m : FsMem) (s : FSt) (N : Nat) (h : IsFS w m s) (inv : Inv N s) (hN : N ≤ 1000000000) (n : Int)
    (A : Option Addr) (c : Nat) (q : List UInt8) (hq : Bts w (.slice A q.length c) q) (hql : q.length ≤ 70368744177664) :
    Calls Tryz.prog 15 #[.pointer (some ⟨m.b, 0, none⟩), .int .i64 n, .slice A q.length c] w fun e w' => e = .returned (.int .i64 (s.append n q).1) ∧ FsTo w m (s.append n q).2 w' := by
  have hFN : s.F.length ≤ 4611686018427387904 := by have := inv.lim.files; omega
  have HTH := Sd.mk (there_fs w m s h inv.ok hFN n)
  obtain ⟨R, hR⟩ : ∃ R, R = s.append n q := ⟨_, rfl⟩
  rw [← hR]
  obtain ⟨t, ht⟩ : ∃ t, t = s.there n := ⟨_, rfl⟩
  rw [← ht] at HTH
  have HR : Sd (R = if t ≠ 0 then (t, s) else s.write n ((s.file n.toNat).data.length : Nat) q) := ⟨by rw [hR, ht]; rfl⟩
  have H := Sd.mk h
  have HWR : Sd (∀ wx (k : Nat), Keeps NoB w wx → n = k → t = 0 → Calls Tryz.prog 38 #[.pointer (some ⟨m.b, 0, none⟩), .int .i64 n, .int .i64 ((s.file k).data.length : Nat), .slice A q.length c] wx fun e w' => e = .returned (.int .i64 R.1) ∧ FsTo w m R.2 w') := ⟨fun wx k hk hnk h0 => by
    have hsm := inv.files.small k
    have e1 : R = s.write n ((s.file k).data.length : Nat) q := by rw [HR.o, if_neg (fun hh => hh h0), hnk, Int.toNat_natCast]
    rw [e1]
    exact (write_fs wx m s N (h.kept hk) inv hN n _ (by omega) (by omega) A c q (hq.keeps hk (fun _ _ _ _ _ f => f)) hql).mono fun e w' ⟨he, hf⟩ => ⟨he, FsTo.after hk hf⟩⟩
  clear h inv hq hR ht
  obtain ⟨r1, r2⟩ := R
  dsimp only at HWR
  dsimp only
  go_enter Tryz.func15, Tryz.ntmps15
  go_wp2_with fail
  refine HTH.o.mono ?_
  clear HTH
  rintro e w1 ⟨pp, rfl, hk1, hne, heq⟩
  have HK1 := Sd.mk hk1
  clear hk1
  by_cases ht0 : t = 0
  case neg =>
    have hb : (t != 0) = true := by simpa using ht0
    have hfin : Sd ((r1, r2) = (t, s)) := ⟨by rw [HR.o, if_pos ht0]⟩
    obtain rfl := hne ht0
    clear hne heq ht0
    go_wp2_with fail
    go_ret
    obtain ⟨e1, e2⟩ := Prod.mk.inj hfin.o
    rw [e1, e2]
    exact ⟨rfl, FsTo.same H.o HK1.o⟩
  subst ht0
  obtain ⟨hoff, k, f, hnk, hkF, hg, rfl⟩ := heq rfl
  have h1 := H.o.kept HK1.o
  have hfile := h1.file k f hg
  have cd := hfile.2.2.c.1
  obtain ⟨Ad, cc, hdv⟩ := hfile.2.2.dat.slice
  rw [hdv] at cd
  have HW := Sd.mk (HWR.o w1 k HK1.o hnk rfl)
  clear hne heq hoff hg h1 hfile hdv HWR hnk
  go_wp2_with (go_at_call 38; refine HW.o.mono ?_; rintro e w3 ⟨rfl, hf⟩; have HFT := Sd.mk hf; clear hf)
  go_ret
  exact ⟨rfl, HFT.o⟩
theorem cut_nil (w : World) (n size : Int) : Calls Tryz.prog 45 #[.pointer none, .int .i64 n, .int .i64 size] w fun e w' => e = .returned (.int .i64 7) ∧ w = w' := by
  go_enter Tryz.func45, Tryz.ntmps45
  go_wp2_with (go_at_call 37; refine (there_nil w n).mono ?_; rintro e w' ⟨rfl, rfl⟩)
  go_ret
  exact ⟨rfl, rfl⟩
set_option maxHeartbeats 4000000 in
set_option maxRecDepth 100000 in
theorem cut_fs (w : World) (m : FsMem) (s : FSt) (N : Nat) (h : IsFS w m s) (inv : Inv N s) (hN : N ≤ 1000000000) (n size : Int) (hp0 : -9223372036854775808 ≤ size) (hp1 : size ≤ 9223372036854775807) :
    Calls Tryz.prog 45 #[.pointer (some ⟨m.b, 0, none⟩), .int .i64 n, .int .i64 size] w fun e w' => e = .returned (.int .i64 (s.cutAt n size).1) ∧ FsTo w m (s.cutAt n size).2 w' := by
  have hFN : s.F.length ≤ 4611686018427387904 := by have := inv.lim.files; omega
  have HTH := Sd.mk (there_fs w m s h inv.ok hFN n)
  have H := Sd.mk h
  have HI := Sd.mk inv
  obtain ⟨R, hR⟩ : ∃ R, R = s.cutAt n size := ⟨_, rfl⟩
  rw [← hR]
  have HR := Sd.mk hR
  obtain ⟨t, ht⟩ : ∃ t, t = s.there n := ⟨_, rfl⟩
  rw [← ht] at HTH
  have HT := Sd.mk ht
  clear h inv hR ht
  go_enter Tryz.func45, Tryz.ntmps45
  go_wp2_with fail
  refine HTH.o.mono ?_
  clear HTH
  rintro e w1 ⟨pp, rfl, hk1, hne, heq⟩
  have HK1 := Sd.mk hk1
  clear hk1
  by_cases ht0 : t = 0
  case neg =>
    have hb : (t != 0) = true := by simpa using ht0
    have hfin : Sd (R = (t, s)) := ⟨by rw [HR.o]; unfold FSt.cutAt; rw [← HT.o, if_pos ht0]⟩
    obtain rfl := hne ht0
    clear hne heq ht0
    go_wp2_with fail
    go_ret
    rw [hfin.o]
    exact ⟨rfl, FsTo.same H.o HK1.o⟩
  subst ht0
  obtain ⟨hoff, k, f, rfl, hkF, hg, rfl⟩ := heq rfl
  have h1 := H.o.kept HK1.o
  have hfile := h1.file k f hg
  have cd := hfile.2.2.c.1
  obtain ⟨Ad, cc, hdv⟩ := hfile.2.2.dat.slice
  rw [hdv] at cd
  have hsm := HI.o.files.small k
  have HG := Sd.mk hg
  have H1 := Sd.mk h1
  obtain ⟨len, hlen⟩ : ∃ len, len = (s.file k).data.length := ⟨_, rfl⟩
  rw [← hlen] at cd hsm
  have HLEN := Sd.mk hlen
  have HW : Sd (R = if size < 0 ∨ (len : Int) < size then (2, s) else (0, s.does k ⟨true, size.toNat, []⟩)) := ⟨by
    rw [HR.o]
    unfold FSt.cutAt
    rw [← HT.o, if_neg (by decide), Int.toNat_natCast, ← HLEN.o]⟩
  clear hne heq hoff hg h1 hfile hdv hlen HT HR
  by_cases hneg : size < 0
  · have hfin : Sd (R = (2, s)) := ⟨by rw [HW.o, if_pos (.inl hneg)]⟩
    go_wp2_with fail
    go_ret
    rw [hfin.o]
    exact ⟨rfl, FsTo.same H.o HK1.o⟩
  obtain ⟨pn, rfl⟩ := Int.eq_ofNat_of_zero_le (Int.not_lt.1 hneg)
  by_cases hbig : (len : Int) < pn
  · have hfin : Sd (R = (2, s)) := ⟨by rw [HW.o, if_pos (.inr hbig)]⟩
    go_wp2_with fail
    go_ret
    rw [hfin.o]
    exact ⟨rfl, FsTo.same H.o HK1.o⟩
  have hpl : pn ≤ len := by omega
  have hbn : ¬ len < pn := by omega
  have hW2 : Sd (R = (0, s.does k ⟨true, pn, []⟩)) := ⟨by rw [HW.o, if_neg (by omega), Int.toNat_natCast]⟩
  have hDO : Sd (Calls Tryz.prog 80 #[.pointer (some ⟨m.b, 0, none⟩), .pointer (some ⟨f.fb, 0, none⟩), .agg #[.bool true, .int .i64 pn, .string ⟨#[]⟩]] w1 fun e w' => e = .returned (.int .i64 0) ∧ FsTo w m R.2 w') := ⟨by
    rw [hW2.o]
    refine (does_fs w1 m s N H1.o HI.o hN k f HG.o ⟨true, pn, []⟩ (by rw [← HLEN.o]; exact hpl) (by simp)).mono fun e w' ⟨he, hf⟩ => ⟨he, FsTo.after HK1.o hf⟩⟩
  clear hbig hneg HW
  go_wp2_with (go_at_call 80; refine hDO.o.mono ?_; rintro e w3 ⟨rfl, hf⟩; have HFT := Sd.mk hf; clear hf)
  go_ret
  refine ⟨?_, HFT.o⟩
  rw [hW2.o]
  rfl
end Go.Proofs.YtdjamijbhaplgaaGreat
