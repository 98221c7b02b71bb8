/- simfs: Crash. -/
import Derived.Test.YtdjamijbhaplgaaGreatGkan
namespace Go.Proofs.YtdjamijbhaplgaaGreat
open Go.RowKit Go.Maps Go.Lib

theorem flat4 {l : List MoveS} {j : Nat} (hj : j < l.length) (i : Nat) (hi : i < 4) : (l.flatMap moveCells)[j * 4 + i]? = (moveCells l[j])[i]? := by
  induction l generalizing j with
  | nil => simp at hj
  | cons d l ih =>
    rw [List.flatMap_cons]
    have hl : (moveCells d).length = 4 := rfl
    cases j with
    | zero => rw [List.getElem?_append_left (by omega)]; simp
    | succ j =>
      simp only [List.length_cons] at hj
      rw [List.getElem?_append_right (by omega), show (j + 1) * 4 + i - (moveCells d).length = j * 4 + i by omega]
      simpa using ih (by omega)
theorem MovesV.get {w : World} {v : Value} {l : List MoveS} (h : MovesV w v l) {j : Nat} (hj : j < l.length) : ∃ g c, v = .slice (some ⟨g, 0, none⟩) l.length c ∧ w.cell? ⟨g, j * 4, none⟩ = some (.int .u8 (l[j].kind : Nat)) ∧ w.cell? ⟨g, j * 4 + 1, none⟩ = some (.string (sOf l[j].a)) ∧
    w.cell? ⟨g, j * 4 + 2, none⟩ = some (.string (sOf l[j].b)) ∧ w.cell? ⟨g, j * 4 + 3, none⟩ = some (.int .i64 (l[j].n : Nat)) := by
  rcases h.2 with ⟨_, hn⟩ | ⟨g, cap, cur, rfl, hb, hg, r⟩
  · omega
  · have hc := World.ownsRow.cells h (g := g) rfl
    have hcell : ∀ i u, i < 4 → (moveCells l[j])[i]? = some u → w.cell? ⟨g, j * 4 + i, none⟩ = some u := fun i u hi hu => by
      have := hc (j * 4 + i) u (by rw [flat4 hj i hi]; exact hu)
      rwa [add_lit, Nat.zero_add] at this
    exact ⟨g, cap, rfl, hcell 0 _ (by decide) rfl, hcell 1 _ (by decide) rfl, hcell 2 _ (by decide) rfl, hcell 3 _ (by decide) rfl⟩
/-- The beginning of an owned row. -/
theorem OwnW.cutTo {P : Program} {w : World} {t e : TypeId} {size n : Nat} {xs : List Value} {A : Option Addr} {c : Nat} (h : OwnW w e size (.slice A n c) n xs) {i : TypeInfo} (ht : P.underlying t = some (.slice e)) (hi : P.info? e = some i) (k : Nat) (hk : k ≤ n) (W : World) :
    (Instr.slice t (.slice A n c) none (some (.int .i64 (k : Int))) none).run P W = .ok (.slice A k c) W := by
  have hel : P.elem t = e := by simp [Program.elem, ht]
  have hu : P.underlying t = some (.slice (P.elem t)) := by rw [hel]; exact ht
  rcases h.2 with ⟨e0, hn⟩ | ⟨g, cap, cur, e0, _, _, hnc, _⟩
  · obtain ⟨e1, e2, e3⟩ := Value.slice.inj e0
    subst e1 e3
    have : k = 0 := by omega
    subst this
    rw [run_slice_h W t none n 0 hu .i64 ((0 : Nat) : Int) (by omega) (by omega), hel]
    simp [sizeOf, typeInfo, hi, sliced, Result.andThen]
  · obtain ⟨e1, e2, e3⟩ := Value.slice.inj e0
    subst e1 e3
    rw [run_slice_h W t (some ⟨g, 0, none⟩) n c hu .i64 ((k : Nat) : Int) (by omega) (by omega), hel]
    simp [sizeOf, typeInfo, hi, sliced, Result.andThen, add_lit]
theorem rangeLeft_keeps {F : Nat → Prop} {w w' : World} {b r : Nat} {d : Dir} {left : List UInt8 → Bool} (h : RangeN w b r d left) (k : Keeps F w w') (hb : ¬ F b) (hr : ¬ F r) : w'.rangeLeft b r = w.rangeLeft b r := by
  obtain ⟨D, lf, cnt, h1, _, _⟩ := h
  have e1 := k.block b h1.owns.lt hb
  have e2 := k.block r h1.lt hr
  unfold World.rangeLeft
  rw [e1, e2]
theorem RangeN.knd {w : World} {b r : Nat} {d : Dir} {left : List UInt8 → Bool} (h : RangeN w b r d left) : knd w r = 0 := by
  obtain ⟨D, lf, cnt, ⟨es, clock, since, seen, c0, h1, h2, h3, h4, h5, h6⟩, _, _⟩ := h
  unfold Go.Proofs.YtdjamijbhaplgaaGreat.knd
  rw [h5]
def FilesAt (B : Nat) (w : World) (m : FsMem) (s : FSt) (l : List TornS) (done : Nat → Bool) (gm : Nat → Option FMem) : Prop :=
  ∀ n f, m.g n = some f → ∃ f', gm n = some f' ∧ f'.fb = f.fb ∧ (∀ i, datB f'.dv = some i ∨ datB f'.sv = some i → (datB f.dv = some i ∨ datB f.sv = some i) ∨ B ≤ i) ∧ (f'.lv = f.lv ∨ f'.lv = .slice none 0 0) ∧ IsFile w f' (if done n then (s.file n).crash (tornOf l (n : Int)) else s.file n)
theorem crash_nil (w : World) (dir : Int) : Calls Tryz.prog 8 #[.pointer none, .agg #[.int .i64 dir, .slice none 0 0]] w fun e w' => e = .returned (.tuple #[]) ∧ Keeps NoB w w' := by
  go_enter Tryz.func8, Tryz.ntmps8
  go_wp2
  refine bodyPost_ret (results_none rfl _ _ _) rfl ?_
  exact ⟨rfl, (Keeps.refl NoB w).alloc _⟩
set_option maxHeartbeats 16000000 in
set_option maxRecDepth 100000 in
theorem crash_fs (w : World) (m : FsMem) (s : FSt) (N : Nat) (h : IsFS w m s) (inv : Inv N s) (hN : N ≤ 900000000) (dir : Int) (hd0 : -9223372036854775808 ≤ dir) (hd1 : dir ≤ 9223372036854775807) (A : Option Addr) (c : Nat) (l : List TornS) (hl : l.length ≤ 4611686018427387904) (hT : TRd w A l)
    (hA : ∀ b o sp, A = some ⟨b, o, sp⟩ → 0 < l.length → ¬ m.O b) (hbd : ∀ t ∈ l, (-9223372036854775808 ≤ t.writes ∧ t.writes ≤ 9223372036854775807) ∧ (-9223372036854775808 ≤ t.bytes ∧ t.bytes ≤ 9223372036854775807)) :
    Calls Tryz.prog 8 #[.pointer (some ⟨m.b, 0, none⟩), .agg #[.int .i64 dir, .slice A l.length c]] w fun e w' => e = .returned (.tuple #[]) ∧ FsTo w m (s.crash dir l) w' := by
  have HT : Sd (∀ (F : Nat → Prop) wx, Keeps F w wx → (∀ i, F i → m.O i) → TRd wx A l) := ⟨fun F wx k hF => by
    rcases Nat.eq_zero_or_pos l.length with h0 | h0
    · intro i hi; omega
    · exact hT.keeps k (fun b o sp e f => hA b o sp e h0 (hF _ f))⟩
  have HBD : Sd (∀ n, (-9223372036854775808 ≤ (tornOf l n).writes ∧ (tornOf l n).writes ≤ 9223372036854775807) ∧ (-9223372036854775808 ≤ (tornOf l n).bytes ∧ (tornOf l n).bytes ≤ 9223372036854775807)) := ⟨fun n => by
    unfold tornOf
    cases hf : l.find? (fun t => t.file == n) with
    | none => decide
    | some t => exact hbd t (List.mem_of_find?_eq_some hf)⟩
  obtain ⟨Am, cm, hmv, hmc, hmm⟩ := OwnW.slice h.moves
  obtain ⟨k, hk⟩ : ∃ k, k = min dir.toNat s.M.length := ⟨_, rfl⟩
  have hmin : min (max dir 0) (s.M.length : Int) = (k : Int) := by omega
  have hkl : k ≤ s.M.length := by omega
  have htk : s.M.take k = s.M.take dir.toNat := by rw [hk, List.take_eq_take_iff]; omega
  obtain ⟨i0, hi, hz0, hz1, hz2⟩ := info_parts infoMove
  have hmrow := h.moves
  unfold MovesV at hmrow
  rw [hmv] at hmrow
  have hsl := fun W => OwnW.cutTo (P := Tryz.prog) hmrow Tryz.underlying79 hi k hkl W
  have H := Sd.mk h
  have HI := Sd.mk inv
  have HMV := Sd.mk hmv
  have HTK := Sd.mk htk
  have hMN := inv.lim.moves
  obtain ⟨w1, hw1⟩ : ∃ w1, w1 = w.alloc (.cells #[.int .i64 dir, .slice A l.length c] 36) := ⟨_, rfl⟩
  have hk1 : Keeps NoB w w1 := by rw [hw1]; exact (Keeps.refl NoB w).alloc _
  have hb1 : w1.heap[w.heap.size]? = some (.cells #[.int .i64 dir, .slice A l.length c] 36 (0, 0)) := by rw [hw1]; exact heap_alloc_new w _
  have h1 := h.kept hk1
  have c4 : w1.cell? ⟨m.b, 4, none⟩ = some (.slice Am s.M.length cm) := hmv ▸ h1.c.2.2.2.2.1
  have q0 : w1.cell? ⟨w.heap.size, 0, none⟩ = some (.int .i64 dir) := blk_cell hb1 0
  have HW1 := Sd.mk hw1
  have HK1 := Sd.mk hk1
  have HB1 := Sd.mk hb1
  have H1 := Sd.mk h1
  have hsz : ∀ i, m.O i → i < w.heap.size := FsMem.lt h
  have HSZ := Sd.mk hsz
  clear h inv hT hA hbd hmv hmrow hw1 hk1 hb1 h1 hk htk hi hz0 hz1 hz2 hsz
  go_enter Tryz.func8, Tryz.ntmps8
  go_upto_region 2 with fail
  rw [← HW1.o]
  go_quiet (fail)
  go_wp2_with fail
  clear c4 q0 hsl
  go_loopg [26] k (fun gk i wr => ∃ j : Nat, gk + j = k ∧ i = .int .i64 j ∧ Sd (MapN wr m.ms (movedAll s.S (s.M.take j))) ∧ Sd (Keeps (OneB m.ms) w1 wr))
  case atStart => exact ⟨0, by omega, rfl, ⟨H1.o.safe.keeps ((Keeps.refl NoB w1).drewN nq) (fun f => f)⟩, ⟨(Keeps.refl _ w1).drewN nq⟩⟩
  case round =>
    obtain ⟨j, hj, rfl, HMS, HK⟩ := hrel
    by_cases hlt : j < k
    · have hq : (j : Int) < (k : Int) := by omega
      have hjl : j < s.M.length := by omega
      have kd := H1.o.kinds
      have hbms : m.b ≠ m.ms := fun e => by
        have k1 := kd.1
        rw [e, kd.2.2.2.1] at k1
        exact absurd k1 (by decide)
      obtain ⟨g, c6, hmv2, hd0', hd1', hd2, hd3⟩ := MovesV.get (OwnW.keeps H1.o.moves HK.o (fun i hi f => by
        have k1 := kd.2.2.2.2 i hi
        have f2 : i = m.ms := f
        rw [f2, kd.2.2.2.1] at k1
        exact absurd k1 (by decide))) hjl
      rw [HMV.o] at hmv2
      obtain ⟨e1, _, e3⟩ := Value.slice.inj hmv2
      subst e1 e3
      have hmok := HI.o.ok.path.at_ j hjl
      have hgood : GoodDir s.F.length (movedAll s.S (s.M.take j)) := (HI.o.ok.path.take j).good HI.o.ok.dirS
      have hlen := HI.o.ok.lens j
      have hnx := movedAll_succ s.S s.M j hjl
      have hst := HI.o.lim.strs _ (List.getElem_mem hjl)
      generalize s.M[j] = x at *
      generalize movedAll s.S (s.M.take j) = d at *
      have hFN : s.F.length ≤ 4611686018427387904 := by have := HI.o.lim.files; omega
      have HON : Sd (∀ wx, Keeps NoB wr wx → Calls Tryz.prog 30 #[.agg #[.int .u8 (x.kind : Nat), .string (sOf x.a), .string (sOf x.b), .int .i64 (x.n : Nat)], .map (some m.ms)] wx fun e w' => e = .returned (.tuple #[]) ∧ MapN w' m.ms (moved d x) ∧ Keeps (OneB m.ms) wx w') := ⟨fun wx hk =>
        monto_any wx x m.ms s.F.length d (HMS.o.keeps hk (fun f => f)) hgood hmok (by omega) hFN hst.1 hst.2⟩
      have p3 : (wr.alloc (.cells #[.int .u8 (x.kind : Nat), .string (sOf x.a), .string (sOf x.b), .int .i64 (x.n : Nat)] 88)).cell? ⟨m.b, 3, none⟩ = some (.map (some m.ms)) :=
        ((Keeps.refl NoB wr).alloc _).cell (HK.o.cell H1.o.c.2.2.2.1 (fun f => hbms f)) (fun f => f)
      have HNX := Sd.mk hnx
      have HKD := Sd.mk kd
      clear hmv2 hmok hgood hnx hst hlen kd
      go_upto_region 5 with fail
      go_region_law
        (go_simp; go_at_call 30
         refine (HON.o _ (Keeps.drewN ((Keeps.refl NoB wr).alloc _) 1)).mono ?_
         rintro e w2 ⟨rfl, hn2, hk2⟩
         have HN2 := Sd.mk hn2
         have HK2 : Sd (Keeps (OneB m.ms) wr w2) := ⟨((Keeps.refl (OneB m.ms) wr).alloc _).trans hk2.undrew (fun _ _ f => f) (fun _ _ f => f)⟩
         clear hn2 hk2)
      all_goals (go_wp2_with fail; go_roundg (gk - 1))
      all_goals first
        | omega
        | exact ⟨j + 1, by omega, by go_num, ⟨by rw [HNX.o]; exact HN2.o⟩, ⟨HK.o.trans HK2.o (fun _ _ f => f) (fun _ _ f => f)⟩⟩
    · have hq : ¬ (j : Int) < (k : Int) := by omega
      have hjk : j = k := by omega
      subst hjk
      obtain ⟨d, hd⟩ : ∃ d, d = movedAll s.S (s.M.take j) := ⟨_, rfl⟩
      rw [← hd] at HMS
      have HD := Sd.mk hd
      have hgood : GoodDir s.F.length d := by rw [hd]; exact (HI.o.ok.path.take j).good HI.o.ok.dirS
      have hlen : d.length ≤ 4096 := by rw [hd]; exact HI.o.ok.lens j
      have kd := H1.o.kinds
      have hbms : m.b ≠ m.ms := fun e => by
        have k1 := kd.1
        rw [e, kd.2.2.2.1] at k1
        exact absurd k1 (by decide)
      have hbr : wr.heap[m.b]? = _ := HK.o.obj H1.o.blk (fun f => hbms f)
      have c3 : wr.cell? ⟨m.b, 3, none⟩ = some (.map (some m.ms)) := blk_cell hbr 3
      have HG := Sd.mk hgood
      have HMC := Sd.mk (mclone_any wr m.ms d HMS.o)
      have HBR := Sd.mk hbr
      have HKD := Sd.mk kd
      clear hd hgood hbr kd
      have hmm := @run_makeMap Tryz.prog
      go_upto_region 9 with (go_at_call 31; refine HMC.o.mono ?_; rintro e w3 ⟨rfl, hn3, hk3⟩; have HN3 := Sd.mk hn3; have HK3 := Sd.mk hk3; have hb3 := hk3.obj HBR.o (fun f => f); have y2 : w3.cell? ⟨m.b, 2, none⟩ = some (.map (some m.mn)) := blk_cell hb3 2; have y4 : w3.cell? ⟨m.b, 4, none⟩ = some m.mv := blk_cell hb3 4; have z2 := blk_frozen hb3 2; have z4 := blk_frozen hb3 4; have HB3 := Sd.mk hb3; clear hn3 hk3 hb3)
      obtain ⟨w4, hw4⟩ : ∃ w4, w4 = (w3.setCell ⟨m.b, 2, none⟩ (.map (some wr.heap.size))).setCell ⟨m.b, 4, none⟩ (.slice none 0 0) := ⟨_, rfl⟩
      rw [← hw4]
      have hk4 : Keeps (OneB m.b) w3 w4 := by rw [hw4]; exact ((Keeps.refl (OneB m.b) w3).setCell ⟨m.b, 2, none⟩ _ (fun _ => rfl)).setCell ⟨m.b, 4, none⟩ _ (fun _ => rfl)
      have hb4 : w4.heap[m.b]? = some (.cells #[.map (some m.mf), .int .i64 (s.F.length : Nat), .map (some wr.heap.size), .map (some m.ms), .slice none 0 0, .int .i64 s.cap, .int .i64 (s.ops : Nat), .int .i64 s.left, .bool s.off] 81 (0, 0)) := by
        rw [hw4]
        exact (blk_set (blk_set HB3.o 2 _) 4 _)
      have hsz4 : w4.heap.size = w3.heap.size := by rw [hw4]; simp [World.setCell]
      obtain ⟨w5, hw5⟩ : ∃ w5, w5 = w4.alloc (.map #[] 0) := ⟨_, rfl⟩
      rw [← hw5]
      have hk5 : Keeps NoB w4 w5 := by rw [hw5]; exact (Keeps.refl NoB w4).alloc _
      obtain ⟨ml, hml⟩ : ∃ ml, ml = w3.heap.size := ⟨_, rfl⟩
      obtain ⟨mn', hmn'⟩ : ∃ mn', mn' = wr.heap.size := ⟨_, rfl⟩
      rw [← hmn'] at HN3 hb4 ⊢
      rw [← hml]
      have hHK1 : w.heap.size ≤ w1.heap.size := HK1.o.size
      have hHK2 : w1.heap.size ≤ wr.heap.size := HK.o.size
      have hHK3 : mn' < w3.heap.size := HN3.o.lt
      have hlow : ∀ i, m.O i → i < mn' ∧ i < ml := fun i hi => by have := HSZ.o i hi; omega
      have HLOW := Sd.mk hlow
      have hmlmn : ml ≠ mn' := by omega
      have hbO : m.O m.b := .inl rfl
      have hbmn : mn' ≠ m.b := fun e => by have := hlow _ hbO; omega
      have HB5 : Sd (w5.heap[m.b]? = some (.cells #[.map (some m.mf), .int .i64 (s.F.length : Nat), .map (some mn'), .map (some m.ms), .slice none 0 0, .int .i64 s.cap, .int .i64 (s.ops : Nat), .int .i64 s.left, .bool s.off] 81 (0, 0))) := ⟨hk5.obj hb4 (fun f => f)⟩
      have HN5 : Sd (MapN w5 mn' d) := ⟨(HN3.o.keeps hk4 (fun e => hbmn e)).keeps hk5 (fun f => f)⟩
      have HL5 : Sd (MapF w5 ml 0 (fun _ => none)) := ⟨by
        have := MapF.made w4
        rw [hsz4, ← hml, ← hw5] at this
        exact this⟩
      have HK15 : Sd (Keeps (fun i => i = m.b ∨ i = m.ms) w1 w5) := ⟨((HK.o.trans HK3.o (H := fun i => i = m.b ∨ i = m.ms) (fun _ _ f => .inr f) (fun _ _ f => f.elim)).trans hk4 (fun _ _ f => f) (fun _ _ f => .inl f)).trans hk5 (fun _ _ f => f) (fun _ _ f => f.elim)⟩
      have HMS5 : Sd (MapN w5 m.ms d) := ⟨((HMS.o.keeps HK3.o (fun f => f)).keeps hk4 (fun e => hbms e.symm)).keeps hk5 (fun f => f)⟩
      have HMF5 : Sd (MapF w5 m.mf (s.F.length + 4096) (fun n => (m.g n).map (·.fb))) := ⟨H1.o.files.keeps HK15.o (fun f => by
        rcases f with f | f
        · have k1 := HKD.o.2.1
          rw [f, HKD.o.1] at k1
          exact absurd k1 (by decide)
        · exact H1.o.maps.2.2 f)⟩
      have HF5 : Sd (∀ n f, m.g n = some f → IsFile w5 f (s.file n)) := ⟨fun n f hg => (H1.o.file n f hg).2.2.keepsK HK15.o fun i hi => by
        rcases hi with rfl | rfl
        · rw [HKD.o.1]; exact ⟨by decide, by decide, by decide⟩
        · rw [HKD.o.2.2.2.1]; exact ⟨by decide, by decide, by decide⟩⟩
      have HQ5 : Sd (w5.heap[w.heap.size]? = some (.cells #[.int .i64 dir, .slice A l.length c] 36 (0, 0))) := ⟨HK15.o.obj HB1.o (fun f => by
        rcases f with f | f
        · have := HSZ.o _ hbO; omega
        · have := HSZ.o m.ms (.inr (.inr (.inr (.inl rfl)))); omega)⟩
      have HT5 : Sd (∀ (F : Nat → Prop) wx, Keeps F w5 wx → (∀ i, F i → m.O i ∨ w.heap.size ≤ i) → TRd wx A l) := ⟨fun F wx hk hF => by
        have h0 : Keeps m.O w wx := ((HK1.o.trans HK15.o (H := m.O) (fun _ _ f => f.elim) (fun i _ f => f.elim (fun e => .inl e) (fun e => .inr (.inr (.inr (.inl e)))))).trans hk (fun _ _ f => f) (fun i hi f => (hF i f).elim id (fun h => by omega)))
        exact HT.o m.O wx h0 (fun _ f => f)⟩
      have p2 : w5.cell? ⟨m.b, 2, none⟩ = some (.map (some mn')) := blk_cell HB5.o 2
      have HSN : Sd (w5.heap.size > ml ∧ w5.heap.size > mn') := ⟨by have h1 := HL5.o.lt; omega, by have h1 := HN5.o.lt; omega⟩
      have HML := Sd.mk hml
      have HMN := Sd.mk hmn'
      have HSZ4 := Sd.mk hsz4
      have HHAS : Sd (∀ e ∈ d, (m.g e.2).isSome) := ⟨fun e he => by
        rw [HD.o] at he
        rcases movedAll_mem he with ⟨e', he', hn⟩ | ⟨x, hx, hk, hn⟩
        · rw [← hn]; exact H.o.has.2.1 e' he'
        · rw [hn]; exact H.o.has.2.2 x (List.mem_of_mem_take hx) hk⟩
      have HKF : Sd (∀ i, (∃ n f, m.g n = some f ∧ i = f.fb) → knd w5 i = 111 + 1) := ⟨fun i hi => by
        obtain ⟨n, f, hg, rfl⟩ := hi
        exact knd_cells (HF5.o n f hg).blk⟩
      have HKD5 : Sd (knd w5 m.mf = 0 ∧ knd w5 mn' = 0 ∧ knd w5 m.ms = 0 ∧ knd w5 ml = 0) := ⟨HMF5.o.knd, HN5.o.knd, HMS5.o.knd, HL5.o.knd⟩
      have HXM : Sd (∀ i, (∃ n f, m.g n = some f ∧ i = f.fb) → knd w5 i = 0 → False) := ⟨fun i hi h0 => by
        rw [HKF.o i hi] at h0
        exact absurd h0 (by decide)⟩
      have HXB : Sd (∀ i, (∃ n f, m.g n = some f ∧ i = f.fb) → i = m.b → False) := ⟨fun i hi e => by
        have h0 := HKF.o i hi
        rw [e, knd_cells HB5.o] at h0
        exact absurd h0 (by decide)⟩
      have HXQ : Sd (∀ i, (∃ n f, m.g n = some f ∧ i = f.fb) → i = w.heap.size → False) := ⟨fun i hi e => by
        have h0 := HKF.o i hi
        rw [e, knd_cells HQ5.o] at h0
        exact absurd h0 (by decide)⟩
      clear hw4 hk4 hb4 hw5 hk5 hlow c3 hmm hml hmn' hsz4 hHK1 hHK2 hHK3
      go_wp2_with (at_range; refine wpList_range_names rfl _ rfl rfl HN5.o ?_; intro w6 hrg hk hs)
      try go_frame
      have HRG6 := Sd.mk hrg
      have HK6 := Sd.mk hk
      have hll := hrg.left_le
      clear hrg hk p2
      go_loopg [8, 54] (w6.rangeLeft mn' w5.heap.size) (fun gk _ _ wq => ∃ (left : List UInt8 → Bool) (cnt : Nat) (gm : Nat → Option FMem), cnt + gk ≤ 4096 ∧ gk = wq.rangeLeft mn' w5.heap.size ∧ Sd (RangeN wq mn' w5.heap.size d left) ∧ Sd (MapF wq ml cnt (fun n => if dn d left n then (gm n).map (·.fb) else none)) ∧ Sd (FilesAt w.heap.size wq m s l (dn d left) gm) ∧
        Sd (Keeps (fun i => (∃ n f, m.g n = some f ∧ i = f.fb) ∨ i = ml) w5 wq))
      case atStart =>
        refine ⟨_, 0, m.g, by omega, rfl, HRG6, ⟨(HL5.o.keeps HK6.o (fun f => f)).congr fun n => ?_⟩, ⟨fun n f hg => ?_⟩, ⟨HK6.o.mono (fun _ _ f => f.elim)⟩⟩
        · rw [dn_start d HG.o.names]; rfl
        · refine ⟨f, hg, rfl, fun i hi => .inl hi, .inl rfl, ?_⟩
          rw [dn_start d HG.o.names]
          exact (HF5.o n f hg).keeps HK6.o (fun _ _ f => f) (NotU8.noB w5)
      case round =>
        obtain ⟨left, cnt, gm, hcnt, rfl, HRG, HL, HF, HKQ⟩ := hrel
        go_wp2_with (at_next; refine wpList_next_names rfl _ rfl rfl HRG.o ?done ?more)
        case done =>
          intro hlf
          have hbq := HKQ.o.obj HB5.o (fun e => e.elim (fun e => HXB.o _ e rfl) (fun e => by have e2 : m.b = ml := e; have := (HLOW.o m.b (.inl rfl)).2; omega))
          have y0 : wr.cell? ⟨m.b, 0, none⟩ = some (.map (some m.mf)) := blk_cell hbq 0
          have y7 : wr.cell? ⟨m.b, 7, none⟩ = some (.int .i64 s.left) := blk_cell hbq 7
          have y8 : wr.cell? ⟨m.b, 8, none⟩ = some (.bool s.off) := blk_cell hbq 8
          have z0 := blk_frozen hbq 0
          have z7 := blk_frozen hbq 7
          have z8 := blk_frozen hbq 8
          have HBQ := Sd.mk hbq
          have HLF := Sd.mk hlf
          clear hbq hlf
          go_wp2_with fail
          go_end0
          refine ⟨rfl, ?_⟩
          obtain ⟨w11, hw11⟩ : ∃ w11, w11 = ((wr.setCell ⟨m.b, 0, none⟩ (.map (some ml))).setCell ⟨m.b, 7, none⟩ (.int .i64 (-1))).setCell ⟨m.b, 8, none⟩ (.bool false) := ⟨_, rfl⟩
          rw [← hw11]
          have k11 : Keeps (OneB m.b) wr w11 := by rw [hw11]; exact (((Keeps.refl (OneB m.b) wr).setCell ⟨m.b, 0, none⟩ _ (fun _ => rfl)).setCell ⟨m.b, 7, none⟩ _ (fun _ => rfl)).setCell ⟨m.b, 8, none⟩ _ (fun _ => rfl)
          have hb11 : w11.heap[m.b]? = some (.cells #[.map (some ml), .int .i64 (s.F.length : Nat), .map (some mn'), .map (some m.ms), .slice none 0 0, .int .i64 s.cap, .int .i64 (s.ops : Nat), .int .i64 (-1), .bool false] 81 (0, 0)) := by
            rw [hw11]; exact blk_set (blk_set (blk_set HBQ.o 0 _) 7 _) 8 _
          have hkq := knd_cells HBQ.o
          have hdd : movedAll s.S (s.M.take dir.toNat) = d := by rw [HD.o, HTK.o]
          have hFl : (s.crash dir l).F.length = s.F.length := by simp [FSt.crash]
          have hsD : (s.crash dir l).D = d := hdd
          have hsS : (s.crash dir l).S = d := hdd
          have dne : ∀ n, dn d left n = d.any (fun e => e.2 == n) := dn_end HLF.o
          obtain ⟨m', hm'⟩ : ∃ m' : FsMem, m' = ⟨m.b, ml, mn', m.ms, fun n => if d.any (fun e => e.2 == n) then gm n else none, .slice none 0 0⟩ := ⟨_, rfl⟩
          have hgd : ∀ n f1, m'.g n = some f1 → (d.any (fun e => e.2 == n) = true) ∧ ∃ f0, m.g n = some f0 ∧ f1.fb = f0.fb ∧ (∀ i, datB f1.dv = some i ∨ datB f1.sv = some i → (datB f0.dv = some i ∨ datB f0.sv = some i) ∨ w.heap.size ≤ i) ∧ (f1.lv = f0.lv ∨ f1.lv = .slice none 0 0) ∧ IsFile wr f1 ((s.file n).crash (tornOf l n)) := fun n f1 h1 => by
            rw [hm'] at h1
            dsimp only at h1
            split at h1
            · rename_i hin
              obtain ⟨e, he, hn⟩ := List.any_eq_true.1 hin
              have hen : e.2 = n := by simpa using hn
              have h2 := HHAS.o e he
              rw [hen] at h2
              obtain ⟨f0, hf0⟩ := Option.isSome_iff_exists.1 h2
              obtain ⟨f2, hg2, e1, ed, e2, e3⟩ := HF.o n f0 hf0
              rw [h1] at hg2
              cases hg2
              rw [dne, hin] at e3
              exact ⟨hin, f0, hf0, e1, ed, e2, e3⟩
            · cases h1
          have hOsub : ∀ n f1, m'.g n = some f1 → ∃ f0, m.g n = some f0 ∧ ∀ i, f1.O i → f0.O i := fun n f1 h1 => by
            obtain ⟨_, f0, hf0, e1, _, e2, _⟩ := hgd n f1 h1
            refine ⟨f0, hf0, fun i hi => ?_⟩
            rcases hi with hi | hi
            · exact .inl (hi.trans e1)
            · rcases e2 with e2 | e2
              · rw [e2] at hi; exact .inr hi
              · rw [e2] at hi; simp [Value.ownBlock] at hi
          have hbmn2 : mn' ≠ m.b := fun e => by have := (HLOW.o m.b (.inl rfl)).1; omega
          have hbml2 : ml ≠ m.b := fun e => by have := (HLOW.o m.b (.inl rfl)).2; omega
          have hmsO : m.O m.ms := .inr (.inr (.inr (.inl rfl)))
          have hXms : ¬ ((∃ n f, m.g n = some f ∧ m.ms = f.fb) ∨ m.ms = ml) := fun e => e.elim (fun e => HXM.o _ e HKD5.o.2.2.1) (fun e => by have := (HLOW.o m.ms hmsO).2; omega)
          have hFS : IsFS w11 m' (s.crash dir l) := by
            refine ⟨?_, ?_, ?_, ?_, ?_, ?_, ?_, ?_, ?_⟩
            · have e1 : fsCells m' (s.crash dir l) = #[.map (some ml), .int .i64 (s.F.length : Nat), .map (some mn'), .map (some m.ms), .slice none 0 0, .int .i64 s.cap, .int .i64 (s.ops : Nat), .int .i64 (-1), .bool false] := by
                unfold fsCells
                rw [hFl, hm']
                rfl
              rw [e1, hm']
              exact hb11
            · rw [hFl, hm']
              refine ((HL.o.keeps k11 (fun e => hbml2 e)).congr fun n => ?_).mono (by omega)
              rw [dne]
              dsimp only
              split <;> rfl
            · rw [hsD, hm']
              exact HRG.o.map.keeps k11 (fun e => hbmn2 e)
            · rw [hsS, hm']
              exact (HMS5.o.keeps HKQ.o hXms).keeps k11 (fun e => hbms e.symm)
            · rw [hm']; exact movesV_nil w11
            · intro n f1 h1
              obtain ⟨_, f0, hf0, _, _, _, e3⟩ := hgd n f1 h1
              obtain ⟨b1, b2, _⟩ := H.o.file n f0 hf0
              rw [hFl, crash_file s dir l n b1 b2]
              refine ⟨b1, b2, e3.keepsK k11 (fun i hi => ?_)⟩
              have e2 : i = m.b := hi
              rw [e2, hkq]
              exact ⟨by decide, by decide, by decide⟩
            · intro n n' f1 f2 h1 h2 hne i hi hi2
              obtain ⟨f0, hf0, hs0⟩ := hOsub n f1 h1
              obtain ⟨f0', hf0', hs0'⟩ := hOsub n' f2 h2
              exact H.o.apart n n' f0 f0' hf0 hf0' hne i (hs0 i hi) (hs0' i hi2)
            · rw [hm']
              refine ⟨fun e => ?_, fun e => hmlmn e, fun e => ?_⟩
              · have e2 : mn' = m.ms := e
                have := (HLOW.o m.ms hmsO).1; omega
              · have e2 : ml = m.ms := e
                have := (HLOW.o m.ms hmsO).2; omega
            · have hin : ∀ e ∈ d, (m'.g e.2).isSome := fun e he => by
                have h2 := HHAS.o e he
                obtain ⟨f0, hf0⟩ := Option.isSome_iff_exists.1 h2
                obtain ⟨f2, hg2, _⟩ := HF.o e.2 f0 hf0
                rw [hm']
                dsimp only
                rw [if_pos (List.any_eq_true.2 ⟨e, he, by simp⟩), hg2]
                rfl
              exact ⟨fun e he => hin e (hsD ▸ he), fun e he => hin e (hsS ▸ he), fun x hx => by cases hx⟩
          refine ⟨m', by rw [hm'], hFS, ⟨fun i hi => ?_, fun i hi => ?_⟩, ?_⟩
          · have hbig : w.heap.size ≤ ml ∧ w.heap.size ≤ mn' := by
              rw [HML.o, HMN.o]; have := HK1.o.size; have := HK.o.size; have := HK3.o.size; omega
            rcases hi with hi | hi | hi | hi | hi | ⟨n, f1, h1, hi⟩
            · rw [hm'] at hi; exact .inl (.inl hi)
            · rw [hm'] at hi; exact .inr (by have e2 : i = ml := hi; omega)
            · rw [hm'] at hi; exact .inr (by have e2 : i = mn' := hi; omega)
            · rw [hm'] at hi; exact .inl (.inr (.inr (.inr (.inl hi))))
            · rw [hm'] at hi; simp [Value.ownBlock] at hi
            · obtain ⟨f0, hf0, hs0⟩ := hOsub n f1 h1
              exact .inl (.inr (.inr (.inr (.inr (.inr ⟨n, f0, hf0, hs0 i hi⟩)))))
          · obtain ⟨n, f1, h1, hd1⟩ := hi
            obtain ⟨_, f0, hf0, _, ed, _⟩ := hgd n f1 h1
            exact (ed i hd1).imp (fun h => ⟨n, f0, hf0, h⟩) id
          · refine ((HK1.o.trans HK15.o (H := m.O) (fun _ _ e => e.elim) (fun i _ e => e.elim (fun e => .inl e) (fun e => .inr (.inr (.inr (.inl e)))))).trans HKQ.o (fun _ _ e => e) (fun i hi e => ?_)).trans k11 (fun _ _ e => e) (fun i _ e => .inl e)
            rcases e with ⟨n, f0, hf0, e⟩ | e
            · exact .inr (.inr (.inr (.inr (.inr ⟨n, f0, hf0, .inl e⟩))))
            · exfalso
              have hbig : w.heap.size ≤ ml := by
                rw [HML.o]; have := HK1.o.size; have := HK.o.size; have := HK3.o.size; omega
              omega
        case more =>
          intro S k w7 hS hlk hlt hrg hk hlt2 hen
          have hmem := lookup_mem hlk
          obtain ⟨f, hg⟩ := Option.isSome_iff_exists.1 (HHAS.o _ hmem)
          have hk7 : Keeps (fun i => (∃ n f, m.g n = some f ∧ i = f.fb) ∨ i = ml) w5 w7 := HKQ.o.trans hk (fun _ _ f => f) (fun i hi e => by have e2 : i = w5.heap.size := e; omega)
          obtain ⟨f', hg', hfb', _, hlv', hfile⟩ := HF.o k f hg
          rw [dn_not HG.o hlk hlt] at hfile
          have hfile7 : IsFile w7 f' (s.file k) := hfile.keepsK hk (fun i hi => by
            have e2 : i = w5.heap.size := hi
            rw [e2, HRG.o.knd]; exact ⟨by decide, by decide, by decide⟩)
          have c0 : w7.cell? ⟨m.b, 0, none⟩ = some (.map (some m.mf)) := hk7.cell (blk_cell HB5.o 0) (fun e => e.elim (fun e => HXB.o _ e rfl) (fun e => by have e2 : m.b = ml := e; have := (HLOW.o m.b (.inl rfl)).2; omega))
          have hkF : k ≤ 4611686018427387904 := Nat.le_trans (HG.o.low _ hmem).2 (by have := HI.o.lim.files; omega)
          have hlook : (Instr.lookup 77 (.map (some m.mf)) (.int .i64 (k : Nat)) false).run Tryz.prog w7 = .ok (.pointer (some ⟨f.fb, 0, none⟩)) w7 := by
            have := (HMF5.o.keeps hk7 (fun e => e.elim (fun e => HXM.o m.mf e HKD5.o.1) (fun e => by have e2 : m.mf = ml := e; have := (HLOW.o m.mf (.inr (.inl rfl))).2; omega))).look k hkF
            rw [hg] at this
            exact this
          have hrm : ml ≠ w5.heap.size := by have := HSN.o.1; omega
          obtain ⟨w8, hput, hm8, hk8⟩ := (HL.o.keeps hk (fun e => hrm e)).put k f.fb hkF (by omega)
          have hm8' : MapF w8 ml (cnt + 1) (fun j => if dn d (fun x => left x && x != S.data.toList) j then ((fun i => if i = k then some (⟨f.fb, f'.dv, f'.sv, f'.lv⟩ : FMem) else gm i) j).map (·.fb) else none) := hm8.congr fun j => by
            rw [dn_step HG.o.names hlk]
            by_cases hjk : j = k
            · subst hjk; simp
            · have : (j == k) = false := by simpa using hjk
              simp [hjk, this]
          have hk58 : Keeps (fun i => (∃ n f, m.g n = some f ∧ i = f.fb) ∨ i = ml) w5 w8 := hk7.trans hk8 (fun _ _ f => f) (fun _ _ f => .inr f)
          have hqs : w.heap.size ≠ ml := fun e => by have := knd_cells HQ5.o; rw [e, HKD5.o.2.2.2] at this; exact absurd this (by decide)
          have hq8 : w8.heap[w.heap.size]? = some (.cells #[.int .i64 dir, .slice A l.length c] 36 (0, 0)) := hk58.obj HQ5.o (fun e => e.elim (fun e => HXQ.o _ e rfl) hqs)
          have q0 : w8.cell? ⟨w.heap.size, 0, none⟩ = some (.int .i64 dir) := blk_cell hq8 0
          have q1 : w8.cell? ⟨w.heap.size, 1, none⟩ = some (.slice A l.length c) := blk_cell hq8 1
          have LK : Sd (∀ wx, Keeps NoB w8 wx → (Instr.lookup 77 (.map (some ml)) (.int .i64 (k : Nat)) false).run Tryz.prog wx = .ok (.pointer (some ⟨f.fb, 0, none⟩)) wx) := ⟨fun wx hkx => by
            have := (hm8.keeps hkx (fun e => e)).look k hkF
            rw [if_pos rfl] at this
            exact this⟩
          have hlook2 := LK.o w8.drew (Keeps.refl NoB w8).drew
          have HTN : Sd (∀ wx, Keeps NoB w8 wx → Calls Tryz.prog 33 #[.agg #[.int .i64 dir, .slice A l.length c], .int .i64 (k : Nat)] wx fun e w' => e = .returned (.agg (tornCells (tornOf l k)).toArray) ∧ Keeps NoB wx w') := ⟨fun wx hkx => torn_any wx dir k A c l hl (HT5.o _ wx (hk58.trans hkx (H := fun i => (∃ n f, m.g n = some f ∧ i = f.fb) ∨ i = ml) (fun _ _ f => f) (fun _ _ f => f.elim)) (fun i hi => by
            rcases hi with ⟨n, f2, hg2, rfl⟩ | rfl
            · exact .inl (.inr (.inr (.inr (.inr (.inr ⟨n, f2, hg2, .inl rfl⟩)))))
            · exact .inr (by rw [HML.o]; have := HK1.o.size; have := HK.o.size; have := HK3.o.size; omega)))⟩
          have hfile8 : IsFile w8 f' (s.file k) := hfile7.keepsK hk8 (fun i hi => by
            have e2 : i = ml := hi
            rw [e2, (HL.o.keeps hk (fun e => hrm e)).knd]; exact ⟨by decide, by decide, by decide⟩)
          have HF8 := Sd.mk hfile8
          have HFB := Sd.mk hfb'
          have HBIG : Sd (w.heap.size ≤ ml) := ⟨by rw [HML.o]; have := HK1.o.size; have := HK.o.size; have := HK3.o.size; omega⟩
          have HCR : Sd (∀ wx, Keeps NoB w8 wx → Calls Tryz.prog 32 #[.pointer (some ⟨f.fb, 0, none⟩), .agg (tornCells (tornOf l k)).toArray] wx fun e w' => e = .returned (.tuple #[]) ∧ ∃ dv sv, IsFile w' ⟨f.fb, dv, sv, .slice none 0 0⟩ ((s.file k).crash (tornOf l k)) ∧ Keeps (OneB f.fb) wx w' ∧ ∀ i, datB dv = some i ∨ datB sv = some i → wx.heap.size ≤ i) := ⟨fun wx hkx => by
            rw [← HFB.o]
            exact fcrash_any wx f' (s.file k) (HF8.o.keeps hkx (fun _ _ f => f) (NotU8.noB w8)) (HI.o.files k).1 (by have := HI.o.lim.log k; omega) (HI.o.lim.dat k) (tornOf l k) (HBD.o k).1 (HBD.o k).2⟩
          have HPUT := Sd.mk hm8'
          have HK8 := Sd.mk hk8
          have HK7 := Sd.mk hk7
          have HK := Sd.mk hk
          have HRG7 := Sd.mk hrg
          have HLK := Sd.mk hlk
          have HGK := Sd.mk hg
          obtain ⟨T, hTc⟩ : ∃ T, T = (tornCells (tornOf l k)).toArray := ⟨_, rfl⟩
          rw [← hTc] at HTN HCR
          clear hm8 hm8' hk8 hk7 hk hrg hlk hg hg' hfb' hlv' hfile hfile7 hfile8 hk58 hq8 hmem hTc hlt
          have FIN : Sd (∀ w10 dv sv, IsFile w10 ⟨f.fb, dv, sv, .slice none 0 0⟩ ((s.file k).crash (tornOf l k)) → Keeps (OneB f.fb) w8 w10 → (∀ i, datB dv = some i ∨ datB sv = some i → w.heap.size ≤ i) → (w10.rangeLeft mn' w5.heap.size = w7.rangeLeft mn' w5.heap.size) ∧
              ∃ (left : List UInt8 → Bool) (cnt : Nat) (gm : Nat → Option FMem), cnt + w10.rangeLeft mn' w5.heap.size ≤ 4096 ∧ Sd (RangeN w10 mn' w5.heap.size d left) ∧ Sd (MapF w10 ml cnt (fun n => if dn d left n then (gm n).map (·.fb) else none)) ∧ Sd (FilesAt w.heap.size w10 m s l (dn d left) gm) ∧
              Sd (Keeps (fun i => (∃ n f, m.g n = some f ∧ i = f.fb) ∨ i = ml) w5 w10)) := ⟨fun w10 dv sv hf10 hk10 hdb10 => by
            have hfx : ∃ n f0, m.g n = some f0 ∧ f.fb = f0.fb := ⟨k, f, HGK.o, rfl⟩
            have hfb5 := HKF.o _ hfx
            have hfmn : mn' ≠ f.fb := fun e => HXM.o mn' ⟨k, f, HGK.o, e⟩ HKD5.o.2.1
            have hfml : ml ≠ f.fb := fun e => HXM.o ml ⟨k, f, HGK.o, e⟩ HKD5.o.2.2.2
            have hflt : f.fb < w5.heap.size := (HF5.o k f HGK.o).lt _ (.inl rfl)
            have k710 : Keeps (fun i => i = ml ∨ i = f.fb) w7 w10 := HK8.o.trans hk10 (fun _ _ e => .inl e) (fun _ _ e => .inr e)
            have n1 : ¬ (mn' = ml ∨ mn' = f.fb) := fun e => e.elim (fun e => hmlmn e.symm) hfmn
            have n2 : ¬ (w5.heap.size = ml ∨ w5.heap.size = f.fb) := fun e => by have := HSN.o.1; omega
            have hrl := rangeLeft_keeps HRG7.o k710 n1 n2
            refine ⟨hrl, fun x => left x && x != S.data.toList, cnt + 1, fun i => if i = k then some ⟨f.fb, dv, sv, .slice none 0 0⟩ else gm i, by rw [hrl]; omega, ⟨HRG7.o.keeps k710 n1 n2⟩, ⟨(HPUT.o.keeps hk10 hfml).congr fun j => ?_⟩, ⟨fun n f0 hg0 => ?_⟩, ⟨HK7.o.trans k710 (fun _ _ e => e) (fun i hi e => ?_)⟩⟩
            · dsimp only
              by_cases hjk : j = k
              · subst hjk; simp
              · simp only [if_neg hjk]
            · dsimp only
              rw [dn_step HG.o.names HLK.o]
              by_cases hnk : n = k
              · subst hnk
                have : f0 = f := by have := HGK.o; rw [hg0] at this; exact Option.some.inj this
                subst this
                refine ⟨_, if_pos rfl, rfl, fun i hi => .inr (hdb10 i hi), .inr rfl, ?_⟩
                simp only [beq_self_eq_true, Bool.or_true, if_true]
                exact hf10
              · obtain ⟨f1, hg1, hfb1, hdb1, hlv1, hfl1⟩ := HF.o n f0 hg0
                refine ⟨f1, by rw [if_neg hnk]; exact hg1, hfb1, hdb1, hlv1, ?_⟩
                have hb : (n == k) = false := by simpa using hnk
                rw [hb, Bool.or_false]
                have ha : IsFile w7 f1 _ := hfl1.keepsK HK.o (fun i hi => by
                  have e2 : i = w5.heap.size := hi
                  rw [e2, HRG.o.knd]; exact ⟨by decide, by decide, by decide⟩)
                have hb8 : IsFile w8 f1 _ := ha.keepsK HK8.o (fun i hi => by
                  have e2 : i = ml := hi
                  rw [e2, (HL.o.keeps HK.o (fun e => by have e2 : ml = w5.heap.size := e; have := HSN.o.1; omega)).knd]; exact ⟨by decide, by decide, by decide⟩)
                refine hb8.keeps hk10 (fun i hi e => ?_) (notU8_knd fun i hi => ?_)
                · have e2 : i = f.fb := e
                  have h3 : f0.O i := by
                    rcases hi with rfl | hi
                    · exact .inl hfb1
                    · rcases hlv1 with e3 | e3
                      · rw [e3] at hi; exact .inr hi
                      · rw [e3] at hi; simp [Value.ownBlock] at hi
                  exact H.o.apart n k f0 f hg0 HGK.o hnk i h3 (.inl e2)
                · have e2 : i = f.fb := hi
                  have h4 := HF8.o.kinds.1
                  rw [HFB.o] at h4
                  rw [e2, h4]; decide
            · rcases e with e | e
              · exact .inr e
              · exact .inl ⟨k, f, HGK.o, e⟩⟩
          go_upto_region 13 with fail
          go_region_law
            (first
              | (go_simp; go_at_call 33
                 refine (HTN.o _ (Keeps.drewN (Keeps.refl NoB w8) 1)).mono ?_
                 rintro e w9 ⟨rfl, hk9⟩
                 have HK9 : Sd (Keeps NoB w8 w9) := ⟨hk9.undrew⟩
                 have hlook3 := LK.o w9 HK9.o
                 clear hk9)
              | (go_simp; go_at_call 32
                 refine (HCR.o w9 HK9.o).mono ?_
                 rintro e w10 ⟨rfl, dv, sv, hf10, hk10, hd10⟩
                 have HD10 : Sd (∀ i, datB dv = some i ∨ datB sv = some i → w.heap.size ≤ i) := ⟨fun i hi => by
                   have h1 := hd10 i hi
                   have h2 := HL.o.lt
                   have h3 := HK.o.size
                   have h4 := HK8.o.size
                   have h5 := HK9.o.size
                   have h6 := HBIG.o
                   omega⟩
                 have HF10 := Sd.mk hf10
                 have HK10 : Sd (Keeps (OneB f.fb) w8 w10) := ⟨HK9.o.trans hk10 (fun _ _ e => e.elim) (fun _ _ e => e)⟩
                 clear hf10 hk10 hd10))
          all_goals (go_wp2_with fail; go_roundg (w10.rangeLeft mn' w5.heap.size))
          all_goals first
            | exact (by rw [(FIN.o w10 dv sv HF10.o HK10.o HD10.o).1]; exact hlt2)
            | (obtain ⟨_, left', cnt', gm', r1, r2, r3, r4, r5⟩ := FIN.o w10 dv sv HF10.o HK10.o HD10.o
               exact ⟨left', cnt', gm', r1, rfl, r2, r3, r4, r5⟩)
end Go.Proofs.YtdjamijbhaplgaaGreat
