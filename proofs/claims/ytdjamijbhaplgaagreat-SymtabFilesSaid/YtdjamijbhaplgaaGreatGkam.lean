/- simfs: Sync, SyncDir. -/
import Derived.Test.YtdjamijbhaplgaaGreatGkal
namespace Go.Proofs.YtdjamijbhaplgaaGreat
open Go.RowKit Go.Maps Go.Lib

theorem run_clone {P : Program} {r : Nat} {es : Array MapEntry} {clock : Nat} (w : World) (t : TypeId) (hb : w.heap[r]? = some (.map es clock)) :
    (Extern.MapsClone.clone #[.iface t (.map (some r))]).run P w = .ok (.iface t (.map (some w.heap.size))) (w.alloc (.map es clock)) := by
  have e : Extern.MapsClone.clone #[.iface t (.map (some r))] = (getObj r >>= fun o => match o with
      | .map entries clock => (newObj (.map entries clock) >>= fun n => pure (.iface t (.map (some n))))
      | _ => stuck "maps.clone: a map expected") := rfl
  rw [e]
  simp [MapKept.run_getObj_map hb, Result.andThen, go_sem]
theorem run_mapNil0 {P : Program} (w : World) (d : Nat) (t k e : TypeId) (p : Option Nat) (h : P.underlying t = some (.map k e)) :
    (Op.equalIn (d + 1) t (.map p) (.map none)).run P w = .ok p.isNone w := by
  cases p <;> simp [Op.equalIn, run_underlying h]
theorem run_mapNil {P : Program} (w : World) (t k e : TypeId) (p : Option Nat) (h : P.underlying t = some (.map k e)) :
    (binOp .eql t (.map p) (.map none)).run P w = .ok (.bool p.isNone) w := by
  simp only [binOp]
  simp [show Op.equal t (.map p) (.map none) = Op.equalIn (9999 + 1) t (.map p) (.map none) from rfl, run_mapNil0 w 9999 t k e p h]
theorem run_assertMap {P : Program} (w : World) (t xT k e : TypeId) (v : Value) (h : P.underlying t = some (.map k e)) : (Instr.typeAssert (.iface t v) xT t false).run P w = .ok v w := by
  simp [Instr.typeAssert, run_underlying h, go_sem, Result.andThen]
set_option maxHeartbeats 2000000 in
set_option maxRecDepth 100000 in
theorem mclone_raw (w : World) (b : Nat) (es : Array MapEntry) (clock : Nat) (hb : w.heap[b]? = some (.map es clock)) :
    Calls Tryz.prog 31 #[.map (some b)] w fun e w' => e = .returned (.map (some w.heap.size)) ∧ w' = w.alloc (.map es clock) := by
  have hq := fun w => run_mapNil (P := Tryz.prog) w 78 _ _ (some b) Tryz.underlying78
  go_enter Tryz.func31, Tryz.ntmps31
  go_wp2
  rw [run_callFunc_extern Tryz.func73 (by kernel_rfl) (by kernel_rfl) (by kernel_rfl) (e := Extern.MapsClone.clone) (by kernel_rfl), run_clone w 78 hb]
  simp only [Result.andThen]
  rw [Oper.upon_value]
  go_wp2
  rw [run_assertMap _ 78 20 _ _ _ Tryz.underlying78]
  simp only [Result.andThen]
  rw [Oper.upon_value]
  go_wp2
  go_ret
  exact ⟨rfl, rfl⟩
theorem mclone_any (w : World) (b : Nat) (d : Dir) (h : MapN w b d) :
    Calls Tryz.prog 31 #[.map (some b)] w fun e w' => e = .returned (.map (some w.heap.size)) ∧ MapN w' w.heap.size d ∧ Keeps NoB w w' := by
  obtain ⟨D, ⟨es, clock, hb, F, hs, hD⟩, hr⟩ := h
  refine (mclone_raw w b es clock hb).mono fun e w' ⟨he, hw⟩ => ?_
  subst hw
  exact ⟨he, ⟨D, ⟨es, clock, (MapKept.heap_alloc w _).1, F, hs, hD⟩, hr⟩, (Keeps.refl NoB w).alloc _⟩
/-- An operation has been counted. -/
theorem counts_fs (w : World) (m : FsMem) (s : FSt) (h : w.heap[m.b]? = some (.cells (fsCells m s) 81 (0, 0))) (ho : s.ops ≤ 4611686018427387904) (hl : -1 ≤ s.left ∧ s.left ≤ 9223372036854775807) :
    Calls Tryz.prog 86 #[.pointer (some ⟨m.b, 0, none⟩)] w fun e w' => e = .returned (.int .i64 0) ∧ w'.heap[m.b]? = some (.cells (fsCells m s.counts) 81 (0, 0)) ∧ Keeps (OneB m.b) w w' :=
  counts_any w m.b _ _ _ _ _ _ s.ops s.left s.off h ho hl

theorem Inv.setSync {N : Nat} {s : FSt} (h : Inv N s) (k : Nat) (hk : k - 1 < s.F.length) : Inv (N + 1) (FSt.counts (s.setFile k { s.file k with safe := (s.file k).data, log := [] })) := by
  obtain ⟨X, hX⟩ : ∃ X, X = { s.file k with safe := (s.file k).data, log := [] } := ⟨_, rfl⟩
  rw [← hX]
  have hF : (s.setFile k X).F.length = s.F.length := by unfold FSt.setFile; simp
  have h2 : Inv N (s.setFile k X) := by
    refine ⟨⟨?_, ?_, ?_, h.ok.cur, h.ok.cap, h.ok.left, h.ok.len, h.ok.lens⟩, ?_, ⟨h.lim.ops, ?_, h.lim.moves, ?_, h.lim.strs, ?_⟩⟩
    · rw [hF]; exact h.ok.dirD
    · rw [hF]; exact h.ok.dirS
    · rw [hF]; exact h.ok.path
    · intro n
      rw [setFile_file s k X hk n]
      split
      · rw [hX]
        exact ⟨h.files.small k, rfl⟩
      · exact h.files n
    · rw [hF]; exact h.lim.files
    · intro n
      rw [setFile_file s k X hk n]
      split
      · rw [hX]; simp
      · exact h.lim.log n
    · intro n e he
      rw [setFile_file s k X hk n] at he
      split at he
      · rw [hX] at he; cases he
      · exact h.lim.dat n e he
  exact h2.counts
theorem there_pos {s : FSt} {N : Nat} (h : GoodDir N s.D) {k : Nat} (h0 : s.there k = 0) : 1 ≤ k ∧ k ≤ N := by
  unfold FSt.there at h0
  split at h0
  · cases h0
  · split at h0
    · rename_i ha
      obtain ⟨e, he, hn⟩ := List.any_eq_true.1 ha
      have : (e.2 : Int) = (k : Int) := by simpa using hn
      have := h.low e he
      omega
    · cases h0
theorem sync_nil (w : World) (n : Int) : Calls Tryz.prog 46 #[.pointer none, .int .i64 n] w fun e w' => e = .returned (.int .i64 7) ∧ w = w' := by
  go_enter Tryz.func46, Tryz.ntmps46
  go_wp2_with (go_at_call 37; refine (there_nil w n).mono ?_; rintro e w' ⟨rfl, rfl⟩)
  go_ret
  exact ⟨rfl, rfl⟩
set_option maxHeartbeats 4000000 in
set_option maxRecDepth 100000 in
theorem sync_fs (w : World) (m : FsMem) (s : FSt) (N : Nat) (h : IsFS w m s) (inv : Inv N s) (hN : N ≤ 1000000000) (n : Int) :
    Calls Tryz.prog 46 #[.pointer (some ⟨m.b, 0, none⟩), .int .i64 n] w fun e w' => e = .returned (.int .i64 (s.sync n).1) ∧ FsTo w m (s.sync n).2 w' := by
  have hFN : s.F.length ≤ 4611686018427387904 := by have := inv.lim.files; omega
  have HTH := Sd.mk (there_fs w m s h inv.ok hFN n)
  have H := Sd.mk h
  have HI := Sd.mk inv
  obtain ⟨R, hR⟩ : ∃ R, R = s.sync n := ⟨_, rfl⟩
  rw [← hR]
  have HR := Sd.mk hR
  obtain ⟨t, ht⟩ : ∃ t, t = s.there n := ⟨_, rfl⟩
  rw [← ht] at HTH
  have HT := Sd.mk ht
  clear h inv hR ht
  go_enter Tryz.func46, Tryz.ntmps46
  go_wp2_with fail
  refine HTH.o.mono ?_
  clear HTH
  rintro e w1 ⟨pp, rfl, hk1, hne, heq⟩
  have HK1 := Sd.mk hk1
  clear hk1
  by_cases ht0 : t = 0
  case neg =>
    have hb : (t != 0) = true := by simpa using ht0
    have hfin : Sd (R = (t, s)) := ⟨by rw [HR.o]; unfold FSt.sync; rw [← HT.o, if_pos ht0]⟩
    obtain rfl := hne ht0
    clear hne heq ht0
    go_wp2_with fail
    go_ret
    rw [hfin.o]
    exact ⟨rfl, FsTo.same H.o HK1.o⟩
  subst ht0
  obtain ⟨hoff, k, f, rfl, hkF, hg, rfl⟩ := heq rfl
  have h1 := H.o.kept HK1.o
  have hfile := h1.file k f hg
  have cd := hfile.2.2.c.1
  obtain ⟨Ad, cc, hdv⟩ := hfile.2.2.dat.slice
  rw [hdv] at cd
  have hsm := HI.o.files.small k
  have hcl := cloneB_any w1 Ad _ cc (s.file k).data (hdv ▸ hfile.2.2.dat.1) (by omega)
  have HCL := Sd.mk hcl
  have HG := Sd.mk hg
  have H1 := Sd.mk h1
  have HF1 := Sd.mk hfile
  have HDV := Sd.mk hdv
  obtain ⟨S', hS'⟩ : ∃ S', S' = s.setFile k { s.file k with safe := (s.file k).data, log := [] } := ⟨_, rfl⟩
  have HW : Sd (R = (0, S'.counts)) := ⟨by
    rw [HR.o]
    unfold FSt.sync
    rw [← HT.o, if_neg (by decide), Int.toNat_natCast, hS']⟩
  have HS := Sd.mk hS'
  clear hne heq hoff hg h1 hfile hdv hcl hS' HR HT
  go_wp2_with (go_at_call 75; refine HCL.o.mono ?_; rintro e w2 ⟨A2, c2, rfl, hO2, hF2, hK2⟩; have HO2 := Sd.mk hO2; have HFR2 := Sd.mk hF2; have HK2 := Sd.mk hK2; have HF2 := Sd.mk (H1.o.kept hK2); have hfb := (((H1.o.kept hK2).file k f HG.o).2.2).blk; have cs := blk_cell hfb 1; have cl := blk_cell hfb 2; have f1 := blk_frozen hfb 1; have f2 := blk_frozen hfb 2; clear hO2 hF2 hK2 hfb)
  have hb2 : w2.heap[m.b]? = _ := HF2.o.blk
  have hf2 := (HF2.o.file k f HG.o).2.2
  have hbf : m.b ≠ f.fb := fun e => by
    have h1 := HF2.o.kinds.1
    rw [e, hf2.kinds.1] at h1
    exact absurd h1 (by decide)
  have hkl : k - 1 < s.F.length := by have := HF1.o; omega
  have hSl : S'.F.length = s.F.length := by rw [HS.o]; simp [FSt.setFile]
  obtain ⟨w3, hw3⟩ : ∃ w3, w3 = (w2.setCell ⟨f.fb, 1, none⟩ (.slice A2 (s.file k).data.length c2)).setCell ⟨f.fb, 2, none⟩ (.slice none 0 0) := ⟨_, rfl⟩
  have hk3 : Keeps (OneB f.fb) w2 w3 := by rw [hw3]; exact ((Keeps.refl (OneB f.fb) w2).setCell ⟨f.fb, 1, none⟩ _ (fun _ => rfl)).setCell ⟨f.fb, 2, none⟩ _ (fun _ => rfl)
  have hf3 : w3.heap[f.fb]? = some (.cells #[f.dv, .slice A2 (s.file k).data.length c2, .slice none 0 0] 111 (0, 0)) := by rw [hw3]; exact blk_set (blk_set hf2.blk 1 _) 2 _
  have hb3 : w3.heap[m.b]? = some (.cells (fsCells m S') 81 (0, 0)) := by
    have e1 : fsCells m S' = fsCells m s := by unfold fsCells; rw [hSl, HS.o]; rfl
    rw [e1]
    exact hk3.obj hb2 hbf
  rw [← hw3]
  refine (counts_fs w3 m S' hb3 (by rw [HS.o]; have := HI.o.lim.ops; show s.ops ≤ _; omega) (by rw [HS.o]; exact HI.o.ok.left)).mono ?_
  rintro e w4 ⟨rfl, hb4, hk4⟩
  have hk24 : Keeps (fun i => i = m.b ∨ f.O i) w2 w4 := hk3.trans hk4 (fun _ _ f => .inr (.inl f)) (fun _ _ f => .inl f)
  have hx : NotU8 w2 (fun i => i = m.b ∨ f.O i) := notU8_knd fun i hi => by
    rcases hi with rfl | hi
    · rw [HF2.o.kinds.1]; decide
    · rcases hf2.okinds i hi with h1 | h1 <;> rw [h1] <;> decide
  have hfin := H1.o.setFile (f' := ⟨f.fb, f.dv, .slice A2 (s.file k).data.length c2, .slice none 0 0⟩) (x := { s.file k with safe := (s.file k).data, log := [] }) (s' := S'.counts) HG.o hb4
    ⟨hk4.obj hf3 (fun e => hbf e.symm), hf2.dat.keeps hk24 hx, HO2.o.rowU.keeps hk24 hx, logV_nil w4⟩ rfl (fun i hi => by simp [Value.ownBlock] at hi) (fun i hi => by
      rcases hi with h1 | h1
      · exact .inl (.inl h1)
      · exact (DGrew.fresh (v := f.sv) HO2.o HFR2.o i h1).imp .inr id) (HK2.o.trans hk24 (fun _ _ f => f.elim) (fun _ _ f => f)) (by rw [HS.o]; rfl) (by rw [HS.o]; rfl) (by rw [HS.o]; rfl) hSl
    (fun j hj => by
      rw [counts_file, HS.o, setFile_file s k _ hkl j]
      have := (HF1.o).1
      by_cases hjk : j = k
      · rw [if_pos hjk, if_pos (by rw [hjk])]
      · rw [if_neg hjk, if_neg (by omega)])
  have HFIN := Sd.mk (FsTo.after HK1.o hfin)
  clear hfin hx hk24 hk3 hk4 hb4 hb3 hf3 hw3 cs cl f1 f2 cd
  go_wp2_with fail
  go_ret
  rw [HW.o]
  exact ⟨rfl, HFIN.o⟩
theorem IsFS.names_keep {w w' : World} {m : FsMem} {s : FSt} {F : Nat → Prop} (h : IsFS w m s) (hK : Keeps F w w') (hF : ∀ i, F i → i = m.b) : (∀ d, MapN w m.mn d → MapN w' m.mn d) ∧ MapF w' m.mf (s.F.length + 4096) (fun n => (m.g n).map (·.fb)) ∧ MapN w' m.ms s.S ∧ (∀ n f, m.g n = some f → 1 ≤ n ∧ n ≤ s.F.length ∧ IsFile w' f (s.file n)) := by
  have kd := h.kinds
  have nX : ∀ i, knd w i ≠ 81 + 1 → ¬ F i := fun i hi hx => by rw [hF i hx] at hi; exact hi kd.1
  refine ⟨fun d hd => hd.keeps hK (nX _ (by rw [kd.2.2.1]; decide)), h.files.keeps hK (nX _ (by rw [kd.2.1]; decide)), h.safe.keeps hK (nX _ (by rw [kd.2.2.2.1]; decide)), fun n f hg => ?_⟩
  obtain ⟨h1, h2, h3⟩ := h.file n f hg
  refine ⟨h1, h2, h3.keepsK hK fun i hi => ?_⟩
  rw [hF i hi, kd.1]
  exact ⟨by decide, by decide, by decide⟩
theorem Inv.syncD {N : Nat} {s : FSt} (h : Inv N s) : Inv (N + 1) (FSt.counts { s with S := s.D, M := [] }) := by
  have h2 : Inv N { s with S := s.D, M := [] } := ⟨⟨h.ok.dirD, h.ok.dirD, trivial, rfl, h.ok.cap, h.ok.left, h.ok.len, fun k => by simpa [movedAll] using h.ok.len⟩, h.files, ⟨h.lim.ops, h.lim.files, Nat.zero_le _, h.lim.log, (fun x hx => by cases hx), h.lim.dat⟩⟩
  exact h2.counts
theorem syncdir_nil (w : World) : Calls Tryz.prog 85 #[.pointer none] w fun e w' => e = .returned (.int .i64 7) ∧ w = w' := by
  go_enter Tryz.func85, Tryz.ntmps85
  go_wp2_with (go_at_call 78; refine (on_nil w).mono ?_; rintro e w' ⟨rfl, rfl⟩)
  go_ret
  exact ⟨rfl, rfl⟩
set_option maxHeartbeats 4000000 in
set_option maxRecDepth 100000 in
theorem syncdir_fs (w : World) (m : FsMem) (s : FSt) (N : Nat) (h : IsFS w m s) (inv : Inv N s) (hN : N ≤ 1000000000) :
    Calls Tryz.prog 85 #[.pointer (some ⟨m.b, 0, none⟩)] w fun e w' => e = .returned (.int .i64 s.syncDir.1) ∧ FsTo w m s.syncDir.2 w' := by
  have HON := Sd.mk (on_some w m.b s.off h.c.2.2.2.2.2.2.2.2)
  have H := Sd.mk h
  have HI := Sd.mk inv
  obtain ⟨R, hR⟩ : ∃ R, R = s.syncDir := ⟨_, rfl⟩
  rw [← hR]
  have HR := Sd.mk hR
  have c2 := h.c.2.2.1
  have HMC := Sd.mk (mclone_any w m.mn s.D h.names)
  clear h inv hR
  cases hoff : s.off with
  | true =>
    have hfin : Sd (R = (21, s)) := ⟨by rw [HR.o]; unfold FSt.syncDir; rw [if_pos hoff]⟩
    rw [hoff] at HON
    go_enter Tryz.func85, Tryz.ntmps85
    go_wp2_with (go_at_call 78; refine HON.o.mono ?_; rintro e w' ⟨rfl, rfl⟩)
    go_ret
    rw [hfin.o]
    exact ⟨rfl, FsTo.same H.o (Keeps.refl _ _)⟩
  | false =>
    obtain ⟨S', hS'⟩ : ∃ S' : FSt, S' = { s with S := s.D, M := [] } := ⟨_, rfl⟩
    have hfin : Sd (R = (0, S'.counts)) := ⟨by rw [HR.o, hS']; unfold FSt.syncDir; rw [if_neg (by rw [hoff]; simp)]⟩
    have HS := Sd.mk hS'
    rw [hoff] at HON
    clear hS'
    go_enter Tryz.func85, Tryz.ntmps85
    go_wp2_with (first | (go_at_call 78; refine HON.o.mono ?_; rintro e w' ⟨rfl, rfl⟩) | (go_at_call 31; refine HMC.o.mono ?_; rintro e w2 ⟨rfl, hN2, hK2⟩; have HN2 := Sd.mk hN2; have HK2 := Sd.mk hK2; have HF2 := Sd.mk (H.o.kept hK2); have hfb := (H.o.kept hK2).blk; have c3 := blk_cell hfb 3; have c4 := blk_cell hfb 4; have f3 := blk_frozen hfb 3; have f4 := blk_frozen hfb 4; clear hN2 hK2 hfb))
    obtain ⟨w3, hw3⟩ : ∃ w3, w3 = (w2.setCell ⟨m.b, 3, none⟩ (.map (some w.heap.size))).setCell ⟨m.b, 4, none⟩ (.slice none 0 0) := ⟨_, rfl⟩
    have hk3 : Keeps (OneB m.b) w2 w3 := by rw [hw3]; exact ((Keeps.refl (OneB m.b) w2).setCell ⟨m.b, 3, none⟩ _ (fun _ => rfl)).setCell ⟨m.b, 4, none⟩ _ (fun _ => rfl)
    obtain ⟨m', hm'⟩ : ∃ m' : FsMem, m' = { m with ms := w.heap.size, mv := .slice none 0 0 } := ⟨_, rfl⟩
    have hmb : m'.b = m.b := by rw [hm']
    have hb3 : w3.heap[m.b]? = some (.cells (fsCells m' S') 81 (0, 0)) := by
      rw [hw3]
      refine (blk_set (blk_set HF2.o.blk 3 _) 4 _).trans ?_
      rw [HS.o, hm']
      rfl
    rw [← hw3]
    have hcn := counts_fs w3 m' S' (by rw [hmb]; exact hb3) (by rw [HS.o]; have := HI.o.lim.ops; show s.ops ≤ _; omega) (by rw [HS.o]; exact HI.o.ok.left)
    rw [hmb] at hcn
    refine hcn.mono ?_
    rintro e w4 ⟨rfl, hb4, hk4⟩
    have hk24 : Keeps (OneB m.b) w2 w4 := hk3.trans hk4 (fun _ _ f => f) (fun _ _ f => f)
    obtain ⟨n1, n2, n3, n4⟩ := HF2.o.names_keep hk24 (fun i hi => hi)
    have hlt := FsMem.lt H.o
    have hsz : w.heap.size ≠ m.b := fun e => by have := hlt m.b (.inl rfl); omega
    have hFS : IsFS w4 m' S'.counts := by
      rw [hm', HS.o]
      refine ⟨?_, n2, n1 _ HF2.o.names, HN2.o.keeps hk24 (fun e => hsz e), movesV_nil w4, n4, HF2.o.apart, ⟨fun e => ?_, HF2.o.maps.2.1, fun e => ?_⟩, HF2.o.has.1, HF2.o.has.1, fun x hx => by cases hx⟩
      · rw [← HS.o, ← hm', hmb]; exact hb4
      · dsimp only at e
        have := hlt m.mn (.inr (.inr (.inl rfl))); omega
      · dsimp only at e
        have := hlt m.mf (.inr (.inl rfl)); omega
    have HFIN : Sd (FsTo w m S'.counts w4) := ⟨m', hmb, hFS, ⟨fun k hk => by
      rw [hm'] at hk
      rcases hk with rfl | rfl | rfl | rfl | hk | hk
      · exact .inl (.inl rfl)
      · exact .inl (.inr (.inl rfl))
      · exact .inl (.inr (.inr (.inl rfl)))
      · exact .inr (Nat.le_refl _)
      · simp [Value.ownBlock] at hk
      · exact .inl (.inr (.inr (.inr (.inr (.inr hk))))), fun k hk => by
      rw [hm'] at hk
      exact .inl hk⟩, (HK2.o.trans hk24 (H := FsMem.O m) (fun _ _ f => f.elim) (fun _ _ f => .inl f))⟩
    clear hFS n1 n2 n3 n4 hk24 hk4 hb4 hb3 hk3 hw3 hcn c3 c4 f3 f4 hlt hm' hmb
    go_wp2_with fail
    go_ret
    rw [hfin.o]
    exact ⟨rfl, HFIN.o⟩
end Go.Proofs.YtdjamijbhaplgaaGreat
namespace Go.Proofs.YtdjamijbhaplgaaGreat
open Go.RowKit Go.Maps Go.Lib

theorem Inv.change {N : Nat} {s : FSt} (h : Inv N s) (x : MoveS) (hm : MoveOk s.F.length s.D x) (hlen : (moved s.D x).length ≤ 4096) (hM : s.M.length + 1 ≤ N + 1) (hs : x.a.length ≤ 9223372036854775807 ∧ x.b.length ≤ 9223372036854775807) : Inv (N + 1) (s.change x) := by
  unfold FSt.change
  have h3 := h.ok.left
  have h4 := h.lim.ops
  refine ⟨⟨?_, h.ok.dirS, ?_, ?_, h.ok.cap, ?_, hlen, ?_⟩, h.files, ⟨?_, Nat.le_succ_of_le h.lim.files, ?_, fun n => Nat.le_succ_of_le (h.lim.log n), ?_, h.lim.dat⟩⟩
  · exact moved_good h.ok.dirD hm
  · exact h.ok.path.snoc (by rw [← h.ok.cur]; exact hm)
  · show moved s.D x = movedAll s.S (s.M ++ [x])
    rw [movedAll_snoc, ← h.ok.cur]
  · show -1 ≤ (if 0 < s.left then s.left - 1 else s.left) ∧ (if 0 < s.left then s.left - 1 else s.left) ≤ _
    split <;> omega
  · intro k
    show (movedAll s.S ((s.M ++ [x]).take k)).length ≤ 4096
    by_cases hk : k ≤ s.M.length
    · rw [List.take_append_of_le_length hk]; exact h.ok.lens k
    · rw [List.take_of_length_le (by simp; omega), movedAll_snoc, ← h.ok.cur]; exact hlen
  · show s.ops + 1 ≤ N + 1
    omega
  · show (s.M ++ [x]).length ≤ N + 1
    rw [List.length_append]; exact hM
  · intro y hy
    rcases List.mem_append.1 hy with hy | hy
    · exact h.lim.strs y hy
    · simp at hy; subst hy; exact hs
theorem moved_len (d : Dir) (hd : (d.map (·.1)).Nodup) (x : MoveS) (h : x.kind ≠ 99) : (moved d x).length ≤ d.length := by
  unfold moved
  rw [if_neg h]
  split
  · exact (less_sub d _).length_le
  · cases ha : d.at_ x.a with
    | none => exact Nat.le_refl _
    | some n =>
      dsimp only
      split
      · exact Nat.le_refl _
      · have h1 := less_len d x.a hd
        rw [show d.lookup x.a = some n from ha] at h1
        have h2 := (less_sub (d.less x.a) x.b).length_le
        simp at h1 ⊢
        omega
theorem changes_fs (w : World) (m : FsMem) (s : FSt) (N : Nat) (h : IsFS w m s) (inv : Inv N s) (hN : N ≤ 1000000000) (x : MoveS) (hm : MoveOk s.F.length s.D x) (hx : x.kind = 99 → (m.g x.n).isSome) (hs : x.a.length ≤ 9223372036854775807 ∧ x.b.length ≤ 9223372036854775807) :
    Calls Tryz.prog 107 #[.pointer (some ⟨m.b, 0, none⟩), .agg (moveCells x).toArray] w fun e w' => e = .returned (.int .i64 0) ∧ FsTo w m (s.change x) w' := by
  have hl := inv.ok.len
  have hF := inv.lim.files
  refine (changes_any w m.b m.mn s.F.length s.D _ _ _ m.mv _ s.ops s.left s.off s.M x h.blk (by have := inv.lim.ops; omega) inv.ok.left h.names inv.ok.dirD hm (by omega) (by omega) hs.1 hs.2 h.moves (by have := inv.lim.moves; omega)).mono ?_
  rintro e w' ⟨rfl, A', c', hb, hn, hv, hg, hk⟩
  have kd := h.kinds
  have hX : ∀ i, (i = m.b ∨ i = m.mn ∨ m.mv.ownBlock = some i) → knd w i = 81 + 1 ∨ knd w i = 0 ∨ knd w i = 88 + 1 := fun i hi => by
    rcases hi with rfl | rfl | hi
    · exact .inl kd.1
    · exact .inr (.inl kd.2.2.1)
    · exact .inr (.inr (kd.2.2.2.2 i hi))
  have nM : ∀ i, knd w i = 0 → i ≠ m.mn → ¬ (i = m.b ∨ i = m.mn ∨ m.mv.ownBlock = some i) := fun i h0 hne hi => by
    rcases hi with rfl | rfl | hi
    · rw [kd.1] at h0; exact absurd h0 (by decide)
    · exact hne rfl
    · rw [kd.2.2.2.2 i hi] at h0; exact absurd h0 (by decide)
  refine ⟨rfl, { m with mv := .slice A' (s.M.length + 1) c' }, rfl, ⟨hb, ?_, hn, ?_, ?_, ?_, h.apart, h.maps, ?_⟩, ?_, ?_⟩
  · exact h.files.keeps hk (nM _ kd.2.1 h.maps.2.1)
  · exact h.safe.keeps hk (nM _ kd.2.2.2.1 (fun e => h.maps.1 e.symm))
  · exact hv
  · intro n f hg
    obtain ⟨h1, h2, h3⟩ := h.file n f hg
    refine ⟨h1, h2, h3.keepsK hk fun i hi => ?_⟩
    rcases hX i hi with h4 | h4 | h4 <;> rw [h4] <;> exact ⟨by decide, by decide, by decide⟩
  · refine ⟨fun e he => ?_, h.has.2.1, fun y hy hk => ?_⟩
    · rcases moved_mem he with ⟨e', he', hn⟩ | ⟨hk, hn⟩
      · rw [← hn]; exact h.has.1 e' he'
      · rw [hn]; exact hx hk
    · rcases List.mem_append.1 hy with hy | hy
      · exact h.has.2.2 y hy hk
      · simp at hy; subst hy; exact hx hk
  · refine ⟨fun i hi => ?_, fun i hi => .inl hi⟩
    rcases hi with rfl | rfl | rfl | rfl | hi | hi
    · exact .inl (.inl rfl)
    · exact .inl (.inr (.inl rfl))
    · exact .inl (.inr (.inr (.inl rfl)))
    · exact .inl (.inr (.inr (.inr (.inl rfl))))
    · rcases hg i hi with h1 | h1
      · exact .inl (.inr (.inr (.inr (.inr (.inl h1)))))
      · exact .inr h1
    · exact .inl (.inr (.inr (.inr (.inr (.inr hi)))))
  · refine hk.mono fun i _ hi => ?_
    rcases hi with rfl | rfl | hi
    · exact .inl rfl
    · exact .inr (.inr (.inl rfl))
    · exact .inr (.inr (.inr (.inr (.inl hi))))
theorem lit_strs (w : World) (l : List ByteArray) (hl : l.length ≤ 1000) : VRd (w.alloc (.cells (l.map Value.string).toArray 9)) (some ⟨w.heap.size, 0, none⟩) (l.map Value.string) :=
  (own_lit w 9 (l.map Value.string) (by simp; omega)).vrd.2.2.2.2.2
theorem namesE_one (S : ByteArray) : namesE [S] = nameE S.data.toList := by
  unfold namesE nameE
  simp
theorem named_one (w : World) (b : Nat) (off : Bool) (h : w.cell? ⟨b, 8, none⟩ = some (.bool off)) (S : ByteArray) (hS : S.size ≤ 9223372036854775807) :
    Calls Tryz.prog 83 #[.pointer (some ⟨b, 0, none⟩), .slice (some ⟨w.heap.size, 0, none⟩) 1 1] (w.alloc (.cells #[.string S] 9)) fun e w' => e = .returned (.int .i64 (if off then 21 else nameE S.data.toList)) ∧ w.alloc (.cells #[.string S] 9) = w' := by
  have := named_some (w.alloc (.cells #[.string S] 9)) b off (((Keeps.refl NoB w).alloc _).cell h (fun f => f)) (some ⟨w.heap.size, 0, none⟩) 1 [S] (by simp) (fun T hT => by simp at hT; subst hT; exact hS) (lit_strs w [S] (by simp))
  rw [namesE_one] at this
  exact this
theorem named_two (w : World) (b : Nat) (off : Bool) (h : w.cell? ⟨b, 8, none⟩ = some (.bool off)) (S T : ByteArray) (hS : S.size ≤ 9223372036854775807) (hT : T.size ≤ 9223372036854775807) :
    Calls Tryz.prog 83 #[.pointer (some ⟨b, 0, none⟩), .slice (some ⟨w.heap.size, 0, none⟩) 2 2] (w.alloc (.cells #[.string S, .string T] 9)) fun e w' => e = .returned (.int .i64 (if off then 21 else namesE [S, T])) ∧ w.alloc (.cells #[.string S, .string T] 9) = w' :=
  named_some (w.alloc (.cells #[.string S, .string T] 9)) b off (((Keeps.refl NoB w).alloc _).cell h (fun f => f)) (some ⟨w.heap.size, 0, none⟩) 2 [S, T] (by simp) (fun U hU => by simp at hU; rcases hU with rfl | rfl <;> assumption) (lit_strs w [S, T] (by simp))
theorem open_nil (w : World) (S : ByteArray) : Calls Tryz.prog 41 #[.pointer none, .string S] w fun e w' => e = .returned (.tuple #[.int .i64 0, .int .i64 7]) ∧ Keeps NoB w w' := by
  go_enter Tryz.func41, Tryz.ntmps41
  go_wp2_with (go_at_call 83; refine (named_nil _ _).mono ?_; rintro e w' ⟨rfl, rfl⟩)
  go_ret2
  exact ⟨rfl, (Keeps.refl NoB w).alloc _⟩
set_option maxHeartbeats 4000000 in
set_option maxRecDepth 100000 in
theorem open_fs (w : World) (m : FsMem) (s : FSt) (h : IsFS w m s) (S : ByteArray) (hS : S.size ≤ 9223372036854775807) :
    Calls Tryz.prog 41 #[.pointer (some ⟨m.b, 0, none⟩), .string S] w fun e w' => e = .returned (.tuple #[.int .i64 (s.opened S.data.toList).1, .int .i64 (s.opened S.data.toList).2]) ∧ Keeps NoB w w' := by
  have HNM := Sd.mk (named_one w m.b s.off h.c.2.2.2.2.2.2.2.2 S hS)
  obtain ⟨R, hR⟩ : ∃ R, R = s.opened S.data.toList := ⟨_, rfl⟩
  rw [← hR]
  obtain ⟨t, ht⟩ : ∃ t, t = s.named1 S.data.toList := ⟨_, rfl⟩
  have HNM2 : Sd (Calls Tryz.prog 83 #[.pointer (some ⟨m.b, 0, none⟩), .slice (some ⟨w.heap.size, 0, none⟩) 1 1] (w.alloc (.cells #[.string S] 9)) fun e w' => e = .returned (.int .i64 t) ∧ w.alloc (.cells #[.string S] 9) = w') := ⟨by rw [ht]; exact HNM.o⟩
  have hk1 : Keeps NoB w (w.alloc (.cells #[.string S] 9)) := (Keeps.refl NoB w).alloc _
  have h1 := h.kept hk1
  have c2 := h1.c.2.2.1
  have hlook := h1.names.look S hS
  have HR : Sd (R = if t ≠ 0 then ((0 : Int), t) else match s.D.lookup S.data.toList with | none => ((0 : Int), (7 : Int)) | some n => (((n : Nat) : Int), (0 : Int))) := ⟨by rw [hR, ht]; rfl⟩
  have HT := Sd.mk ht
  clear h h1 hR HNM ht
  by_cases ht0 : t = 0
  case neg =>
    have hb : (t != 0) = true := by simpa using ht0
    have hfin : Sd (R = (0, t)) := ⟨by rw [HR.o, if_pos ht0]⟩
    go_enter Tryz.func41, Tryz.ntmps41
    go_wp2_with (go_at_call 83; refine HNM2.o.mono ?_; rintro e w' ⟨rfl, rfl⟩)
    go_ret2
    rw [hfin.o]
    exact ⟨rfl, (Keeps.refl NoB w).alloc _⟩
  have hb : (t != 0) = false := by simp [ht0]
  cases hl : s.D.lookup S.data.toList with
  | none =>
    rw [hl] at hlook HR
    have hfin : Sd (R = (0, 7)) := ⟨by rw [HR.o, if_neg (fun h => h ht0)]⟩
    go_enter Tryz.func41, Tryz.ntmps41
    go_wp2_with (go_at_call 83; refine HNM2.o.mono ?_; rintro e w' ⟨rfl, rfl⟩)
    go_ret2
    rw [hfin.o]
    exact ⟨rfl, (Keeps.refl NoB w).alloc _⟩
  | some n =>
    rw [hl] at hlook HR
    have hfin : Sd (R = (((n : Nat) : Int), 0)) := ⟨by rw [HR.o, if_neg (fun h => h ht0)]⟩
    go_enter Tryz.func41, Tryz.ntmps41
    go_wp2_with (go_at_call 83; refine HNM2.o.mono ?_; rintro e w' ⟨rfl, rfl⟩)
    go_ret2
    rw [hfin.o]
    exact ⟨rfl, (Keeps.refl NoB w).alloc _⟩
section
variable {w : World} {ops : Array Oper} {o : Oper} {a : Act} {Q : Exit → Act → World → Prop}
theorem step_put_files {K : Act → World → Prop} {E : Prop} (hgd : o.guard = none) (m x v : Operand) (hop : o.op = Op.mapUpdate 77 m x v) {b N : Nat} {g : Nat → Option Nat} (hm : a.eval m = .map (some b)) (h : MapF w b N g)
    (k fb : Nat) (hx : a.eval x = .int .i64 (k : Nat)) (hv : a.eval v = .pointer (some ⟨fb, 0, none⟩)) (hk : k ≤ 4611686018427387904) (hN : N ≤ 4611686018427387904)
    (hK : ∀ w', MapF w' b (N + 1) (fun j => if j = k then some fb else g j) → Keeps (OneB b) w w' → K (a.put o.dst undef) w') : if Region.wanted o (yielded ops a.tmps) = true then o.wp Tryz.prog a w K Q else E := by
  have hw : Region.wanted o (yielded ops a.tmps) = true := by simp [Region.wanted, hgd]
  rw [if_pos hw]
  obtain ⟨w', hrun, r1, r2⟩ := h.put k fb hk hN
  unfold Oper.wp
  simp [execOp, hop, hm, hx, hv, hrun, Result.andThen]
  exact hK _ r1 r2
end
/-- A new file. -/
theorem IsFS.newFile {w w' : World} {m : FsMem} {s : FSt} (h : IsFS w m s) (fb : Nat) (hfb : w.heap.size ≤ fb) (hF : w'.heap[fb]? = some (.cells #[.slice none 0 0, .slice none 0 0, .slice none 0 0] 111 (0, 0)))
    (hb : w'.heap[m.b]? = some (.cells (fsCells m { s with F := s.F ++ [noFile] }) 81 (0, 0))) (hm : MapF w' m.mf (s.F.length + 1 + 4096) (fun j => if j = s.F.length + 1 then some fb else (m.g j).map (·.fb)))
    (hK : Keeps (fun i => i = m.b ∨ i = m.mf) w w') :
    IsFS w' { m with g := fun j => if j = s.F.length + 1 then some ⟨fb, .slice none 0 0, .slice none 0 0, .slice none 0 0⟩ else m.g j } { s with F := s.F ++ [noFile] } := by
  have kd := h.kinds
  have nM : ∀ i, i ≠ m.b → i ≠ m.mf → ¬ (i = m.b ∨ i = m.mf) := fun i h1 h2 hi => hi.elim h1 h2
  have hne : ∀ i, knd w i = 0 → i ≠ m.b := fun i h0 e => by rw [e, kd.1] at h0; exact absurd h0 (by decide)
  have hnone : ∀ n f, m.g n = some f → n ≠ s.F.length + 1 := fun n f hg e => by have := (h.file n f hg).2.1; omega
  refine ⟨hb, ?_, ?_, ?_, ?_, ?_, ?_, h.maps, ?_⟩
  · rw [show ({ s with F := s.F ++ [noFile] } : FSt).F.length = s.F.length + 1 by simp]
    refine hm.congr fun j => ?_
    dsimp only
    split <;> rfl
  · exact h.names.keeps hK (nM _ (hne _ kd.2.2.1) (fun e => h.maps.2.1 e.symm))
  · exact h.safe.keeps hK (nM _ (hne _ kd.2.2.2.1) (fun e => h.maps.2.2 e.symm))
  · refine OwnW.keeps h.moves hK (fun i hi hx => ?_)
    have h1 := kd.2.2.2.2 i hi
    rcases hx with rfl | rfl
    · rw [kd.1] at h1; exact absurd h1 (by decide)
    · rw [kd.2.1] at h1; exact absurd h1 (by decide)
  · intro n f hg
    dsimp only at hg
    by_cases hn : n = s.F.length + 1
    · rw [if_pos hn] at hg
      cases hg
      subst hn
      refine ⟨by omega, by simp, ⟨hF, ?_, ?_, ?_⟩⟩
      · have : FSt.file { s with F := s.F ++ [noFile] } (s.F.length + 1) = noFile := by simp [FSt.file]
        rw [this]; exact RowU.nil _
      · have : FSt.file { s with F := s.F ++ [noFile] } (s.F.length + 1) = noFile := by simp [FSt.file]
        rw [this]; exact RowU.nil _
      · have : FSt.file { s with F := s.F ++ [noFile] } (s.F.length + 1) = noFile := by simp [FSt.file]
        rw [this]; exact logV_nil _
    · rw [if_neg hn] at hg
      obtain ⟨h1, h2, h3⟩ := h.file n f hg
      have e1 : FSt.file { s with F := s.F ++ [noFile] } n = s.file n := by
        unfold FSt.file
        dsimp only
        rw [List.getD_eq_getElem?_getD, List.getD_eq_getElem?_getD, List.getElem?_append_left (by omega)]
      rw [e1]
      refine ⟨h1, by simp; omega, h3.keepsK hK fun i hi => ?_⟩
      rcases hi with rfl | rfl
      · rw [kd.1]; exact ⟨by decide, by decide, by decide⟩
      · rw [kd.2.1]; exact ⟨by decide, by decide, by decide⟩
  · intro n n' f f' hg hg' hnn i hi hi'
    dsimp only at hg hg'
    have hlo : ∀ (x : FMem), x = ⟨fb, .slice none 0 0, .slice none 0 0, .slice none 0 0⟩ → ∀ i, x.O i → w.heap.size ≤ i := fun x e i hi => by
      subst e
      rcases hi with rfl | hi
      · exact hfb
      · simp [Value.ownBlock] at hi
    by_cases hn : n = s.F.length + 1
    · rw [if_pos hn] at hg
      have hn' : n' ≠ s.F.length + 1 := fun e => hnn (hn.trans e.symm)
      rw [if_neg hn'] at hg'
      have h1 := hlo f (Option.some.inj hg).symm i hi
      have h2 := (h.file n' f' hg').2.2.lt i hi'
      omega
    · rw [if_neg hn] at hg
      by_cases hn' : n' = s.F.length + 1
      · rw [if_pos hn'] at hg'
        have h1 := hlo f' (Option.some.inj hg').symm i hi'
        have h2 := (h.file n f hg).2.2.lt i hi
        omega
      · rw [if_neg hn'] at hg'
        exact h.apart n n' f f' hg hg' hnn i hi hi'
  · have hs : ∀ n, (m.g n).isSome → ((fun j => if j = s.F.length + 1 then some (⟨fb, .slice none 0 0, .slice none 0 0, .slice none 0 0⟩ : FMem) else m.g j) n).isSome := fun n hn => by
      dsimp only
      split
      · rfl
      · exact hn
    exact ⟨fun e he => hs _ (h.has.1 e he), fun e he => hs _ (h.has.2.1 e he), fun x hx hk => hs _ (h.has.2.2 x hx hk)⟩
theorem Inv.newFile {N : Nat} {s : FSt} (h : Inv N s) : Inv (N + 1) { s with F := s.F ++ [noFile] } := by
  have hf : ∀ n, FSt.file { s with F := s.F ++ [noFile] } n = s.file n := fun n => by
    unfold FSt.file
    dsimp only
    rw [List.getD_eq_getElem?_getD, List.getD_eq_getElem?_getD]
    by_cases hn : n - 1 < s.F.length
    · rw [List.getElem?_append_left hn]
    · rw [List.getElem?_append_right (by omega), List.getElem?_eq_none (by omega : s.F.length ≤ n - 1)]
      by_cases h0 : n - 1 - s.F.length = 0
      · rw [h0]; rfl
      · rw [List.getElem?_eq_none (by simp; omega)]
  have hl : s.F.length ≤ ({ s with F := s.F ++ [noFile] } : FSt).F.length := by simp
  exact ⟨⟨h.ok.dirD.mono hl, h.ok.dirS.mono hl, h.ok.path.mono hl, h.ok.cur, h.ok.cap, h.ok.left, h.ok.len, h.ok.lens⟩, fun n => by rw [hf]; exact h.files n,
    ⟨Nat.le_succ_of_le h.lim.ops, by have := h.lim.files; simp; omega, Nat.le_succ_of_le h.lim.moves, fun n => by rw [hf]; exact Nat.le_succ_of_le (h.lim.log n), h.lim.strs, fun n => by rw [hf]; exact h.lim.dat n⟩⟩
end Go.Proofs.YtdjamijbhaplgaaGreat
