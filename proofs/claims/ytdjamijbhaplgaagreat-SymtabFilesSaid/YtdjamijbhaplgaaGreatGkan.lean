/- simfs: what a wreck leaves of a file. -/
import Derived.Test.YtdjamijbhaplgaaGreatSimR
namespace Go.Proofs.YtdjamijbhaplgaaGreat
open Go.RowKit Go.Maps Go.Lib

theorem Keeps.setF {w w' : World} (h : Keeps NoB w w') (g b : Nat) (u : Value) (hg : w.heap.size ≤ g) : Keeps NoB w (w'.setCell ⟨g, b, none⟩ u) :=
  h.trans (G := OneB g) ⟨rfl, rfl, rfl, by simp [World.setCell], fun k _ hk => Below.heap_setCell _ _ _ _ hk⟩ (fun _ _ f => f) (fun i hi e => by cases e; omega)
def tornCells (t : TornS) : List Value := [.int .i64 t.file, .int .i64 t.writes, .int .i64 t.bytes]
/-- The torn files lie from A on. -/
def TRd (w : World) (A : Option Addr) (l : List TornS) : Prop :=
  ∀ i (h : i < l.length), ∃ b o, A = some ⟨b, o, none⟩ ∧ w.cell? ⟨b, o + i * 3, none⟩ = some (.int .i64 l[i].file) ∧ w.cell? ⟨b, o + i * 3 + 1, none⟩ = some (.int .i64 l[i].writes) ∧ w.cell? ⟨b, o + i * 3 + 2, none⟩ = some (.int .i64 l[i].bytes)
theorem TRd.keeps {F : Nat → Prop} {w w' : World} {A : Option Addr} {l : List TornS} (h : TRd w A l) (k : Keeps F w w') (hF : ∀ b o s, A = some ⟨b, o, s⟩ → ¬ F b) : TRd w' A l := fun i hi => by
  obtain ⟨b, o, e, h1, h2, h3⟩ := h i hi
  exact ⟨b, o, e, k.cell h1 (hF _ _ _ e), k.cell h2 (hF _ _ _ e), k.cell h3 (hF _ _ _ e)⟩
theorem TRd.kept {w w' : World} {A : Option Addr} {l : List TornS} (h : TRd w A l) (k : Keeps NoB w w') : TRd w' A l := h.keeps k (fun _ _ _ _ f => f)
theorem tornOf_take {l : List TornS} {n : Int} {j : Nat} (hj : j < l.length) (hno : ∀ t ∈ l.take j, t.file ≠ n) (h : l[j].file = n) : tornOf l n = l[j] := by
  unfold tornOf
  have e1 : l.find? (fun t => t.file == n) = some l[j] := by
    rw [List.find?_eq_some_iff_getElem]
    refine ⟨by simpa using h, j, hj, rfl, fun i hi => ?_⟩
    have := hno l[i] (List.mem_take_iff_getElem.2 ⟨i, by omega, rfl⟩)
    simpa using this
  rw [e1]
  rfl
theorem tornOf_none {l : List TornS} {n : Int} (h : ∀ t ∈ l, t.file ≠ n) : tornOf l n = ⟨0, 0, 0⟩ := by
  unfold tornOf
  have : l.find? (fun t => t.file == n) = none := by
    rw [List.find?_eq_none]
    intro t ht
    simpa using h t ht
  rw [this]
  rfl
set_option maxHeartbeats 4000000 in
set_option maxRecDepth 100000 in
theorem torn_any (w : World) (dir n : Int) (A : Option Addr) (c : Nat) (l : List TornS) (hl : l.length ≤ 4611686018427387904) (h : TRd w A l) :
    Calls Tryz.prog 33 #[.agg #[.int .i64 dir, .slice A l.length c], .int .i64 n] w fun e w' => e = .returned (.agg (tornCells (tornOf l n)).toArray) ∧ Keeps NoB w w' := by
  have H := Sd.mk h
  clear h
  go_enter Tryz.func33, Tryz.ntmps33
  go_wp2_with fail
  go_loopg [10] l.length (fun gk i wr => ∃ j : Nat, gk + j = l.length ∧ i = .int .i64 j ∧ Sd (∀ t ∈ l.take j, t.file ≠ n) ∧ Sd (wr.heap[w.heap.size + 1]? = some (.cells #[.int .i64 0, .int .i64 0, .int .i64 0] 94 (0, 0))) ∧ Sd (Keeps NoB w wr))
  case atStart =>
    refine ⟨0, by omega, rfl, ⟨by simp⟩, ⟨?_⟩, ⟨?_⟩⟩
    · have := heap_alloc_new (w.alloc (.cells #[.int .i64 dir, .slice A l.length c] 36)) (.cells #[.int .i64 0, .int .i64 0, .int .i64 0] 94)
      simpa using this
    · exact ((Keeps.refl NoB w).alloc _).alloc _
  case round =>
    obtain ⟨j, hj, rfl, hno, HZ, HK⟩ := hrel
    by_cases hlt : j < l.length
    · have hq : (j : Int) < (l.length : Int) := by omega
      obtain ⟨b1, o1, rfl, hc0, hc1, hc2⟩ := H.o.kept HK.o j hlt
      have htk : l.take (j + 1) = l.take j ++ [l[j]] := List.take_succ_eq_append_getElem hlt
      have hfo : l[j].file = n → tornOf l n = l[j] := tornOf_take hlt hno.o
      generalize l[j] = t at *
      obtain ⟨tf, tw, tb⟩ := t
      dsimp only at hc0 hc1 hc2 hfo
      have HTK := Sd.mk htk
      have HFO := Sd.mk hfo
      clear htk hfo
      by_cases hf : tf = n
      · subst hf
        have HZ2 := Sd.mk (((Keeps.refl NoB wr).alloc (.cells #[.int .i64 tf, .int .i64 tw, .int .i64 tb] 94)).obj HZ.o (fun f => f))
        have hz0 := blk_cell HZ2.o 0
        have hz1 := blk_cell HZ2.o 1
        have hz2 := blk_cell HZ2.o 2
        have hf0 := blk_frozen HZ2.o 0
        have hf1 := blk_frozen HZ2.o 1
        have hf2 := blk_frozen HZ2.o 2
        go_wp2_with fail
        have hb4 := blk_set (blk_set (blk_set HZ2.o 0 (.int .i64 tf)) 1 (.int .i64 tw)) 2 (.int .i64 tb)
        refine bodyPost_ret (results_cell_row rfl _ _ (w.heap.size + 1) _ _ _ _ rfl hb4 Tryz.underlying94 rfl (by kernel_rfl)) rfl ?_
        rw [HFO.o (by first | rfl | trivial)]
        exact ⟨rfl, (((HK.o.alloc _).setF _ _ _ (by omega)).setF _ _ _ (by omega)).setF _ _ _ (by omega)⟩
      · have hq2 : (tf == n) = false := by simpa using hf
        go_wp2_with fail
        go_roundg (gk - 1)
        case measure => omega
        case rel =>
          refine ⟨j + 1, by omega, by go_num, ⟨fun t ht => ?_⟩, ⟨?_⟩, ⟨?_⟩⟩
          · rw [HTK.o] at ht
            rcases List.mem_append.1 ht with ht | ht
            · exact hno.o t ht
            · simp at ht; subst ht; exact hf
          · exact ((Keeps.refl NoB wr).alloc _).obj HZ.o (fun f => f)
          · exact HK.o.alloc _
    · have hq : ¬ (j : Int) < (l.length : Int) := by omega
      have hE : Sd (tornOf l n = ⟨0, 0, 0⟩) := ⟨tornOf_none (by have := hno.o; rwa [List.take_of_length_le (by omega)] at this)⟩
      have hz0 := blk_cell HZ.o 0
      have hz1 := blk_cell HZ.o 1
      have hz2 := blk_cell HZ.o 2
      have hf0 := blk_frozen HZ.o 0
      have hf1 := blk_frozen HZ.o 1
      have hf2 := blk_frozen HZ.o 2
      go_wp2_with fail
      have hb4 := blk_set (blk_set (blk_set HZ.o 0 (.int .i64 0)) 1 (.int .i64 0)) 2 (.int .i64 0)
      refine bodyPost_ret (results_cell_row rfl _ _ (w.heap.size + 1) _ _ _ _ rfl hb4 Tryz.underlying94 rfl (by kernel_rfl)) rfl ?_
      rw [hE.o]
      exact ⟨rfl, ((HK.o.setF _ _ _ (by omega)).setF _ _ _ (by omega)).setF _ _ _ (by omega)⟩
theorem flat3 {l : List DoneS} {j : Nat} (hj : j < l.length) (i : Nat) (hi : i < 3) : (l.flatMap doneCells)[j * 3 + i]? = (doneCells l[j])[i]? := by
  induction l generalizing j with
  | nil => simp at hj
  | cons d l ih =>
    rw [List.flatMap_cons]
    have hl : (doneCells d).length = 3 := rfl
    cases j with
    | zero => rw [List.getElem?_append_left (by omega)]; simp
    | succ j =>
      simp only [List.length_cons] at hj
      rw [List.getElem?_append_right (by omega), show (j + 1) * 3 + i - (doneCells d).length = j * 3 + i by omega]
      simpa using ih (by omega)
theorem LogV.get {w : World} {v : Value} {l : List DoneS} (h : LogV w v l) {j : Nat} (hj : j < l.length) : ∃ g c, v = .slice (some ⟨g, 0, none⟩) l.length c ∧ w.cell? ⟨g, j * 3, none⟩ = some (.bool l[j].cut) ∧ w.cell? ⟨g, j * 3 + 1, none⟩ = some (.int .i64 l[j].pos) ∧ w.cell? ⟨g, j * 3 + 2, none⟩ = some (.string (sOf l[j].p)) := by
  rcases h.2 with ⟨_, hn⟩ | ⟨g, cap, cur, rfl, hb, hg, r⟩
  · omega
  · have hc := World.ownsRow.cells h (g := g) rfl
    have hcell : ∀ i u, i < 3 → (doneCells l[j])[i]? = some u → w.cell? ⟨g, j * 3 + i, none⟩ = some u := fun i u hi hu => by
      have := hc (j * 3 + i) u (by rw [flat3 hj i hi]; exact hu)
      rwa [add_lit, Nat.zero_add] at this
    exact ⟨g, cap, rfl, hcell 0 _ (by decide) rfl, hcell 1 _ (by decide) rfl, hcell 2 _ (by decide) rfl⟩
theorem doneAll_succ (p : List UInt8) (l : List DoneS) (j : Nat) (hj : j < l.length) : doneAll p (l.take (j + 1)) = doneOn (doneAll p (l.take j)) l[j] := by
  unfold doneAll
  rw [List.take_succ_eq_append_getElem hj, List.foldl_append]
  rfl
theorem sOf_take (p : List UInt8) (k : Nat) : (sOf p).extract 0 k = sOf (p.take k) := by
  apply ByteArray.ext
  apply Array.ext'
  simp [sOf, ByteArray.data_extract]
theorem runInfoDone : (Tryz.prog.info? 153).map (·.size) = some 3 := by kernel_rfl
set_option maxHeartbeats 8000000 in
set_option maxRecDepth 100000 in
theorem fcrash_any (w : World) (f : FMem) (x : FileS) (h : IsFile w f x) (hlog : LogOk x.safe x.log) (hll : x.log.length ≤ 1000000000) (hps : ∀ d ∈ x.log, d.p.length ≤ 70368744177664) (t : TornS) (ht1 : -9223372036854775808 ≤ t.writes ∧ t.writes ≤ 9223372036854775807) (ht2 : -9223372036854775808 ≤ t.bytes ∧ t.bytes ≤ 9223372036854775807) :
    Calls Tryz.prog 32 #[.pointer (some ⟨f.fb, 0, none⟩), .agg (tornCells t).toArray] w fun e w' => e = .returned (.tuple #[]) ∧ ∃ dv sv, IsFile w' ⟨f.fb, dv, sv, .slice none 0 0⟩ (x.crash t) ∧ Keeps (OneB f.fb) w w' ∧ ∀ i, datB dv = some i ∨ datB sv = some i → w.heap.size ≤ i := by
  obtain ⟨tf, tw, tb⟩ := t
  dsimp only [tornCells] at *
  have c1 := h.c.2.1
  have c2 := h.c.2.2
  obtain ⟨As, cs, hsv⟩ := h.saf.slice
  obtain ⟨Al, cl, hlv, hcl, hcm⟩ := OwnW.slice h.log
  rw [hsv] at c1
  rw [hlv] at c2
  obtain ⟨k, hk⟩ : ∃ k, k = min tw.toNat x.log.length := ⟨_, rfl⟩
  have hmin : min (max tw 0) (x.log.length : Int) = (k : Int) := by omega
  have hkl : k ≤ x.log.length := by omega
  have HKK := Sd.mk hk
  have H := Sd.mk h
  have HSV := Sd.mk hsv
  have HLV := Sd.mk hlv
  have HLOG := Sd.mk hlog
  have HPS := Sd.mk hps
  clear h hsv hlog hps hk
  have Hlt := Sd.mk (Array.getElem?_eq_some_iff.1 H.o.blk).1
  obtain ⟨w1, hw1⟩ : ∃ w1, w1 = w.alloc (.cells #[.int .i64 tf, .int .i64 tw, .int .i64 tb] 94) := ⟨_, rfl⟩
  have hk1 : Keeps NoB w w1 := by rw [hw1]; exact (Keeps.refl NoB w).alloc _
  have c1' : (w.alloc (.cells #[.int .i64 tf, .int .i64 tw, .int .i64 tb] 94)).cell? ⟨f.fb, 1, none⟩ = some (.slice As x.safe.length cs) := ((Keeps.refl NoB w).alloc _).cell c1 (fun f => f)
  have c2' : w1.cell? ⟨f.fb, 2, none⟩ = some (.slice Al x.log.length cl) := hk1.cell c2 (fun f => f)
  have hb1 : w1.heap[w.heap.size]? = some (.cells #[.int .i64 tf, .int .i64 tw, .int .i64 tb] 94 (0, 0)) := by rw [hw1]; exact heap_alloc_new w _
  have q1 : w1.cell? ⟨w.heap.size, 1, none⟩ = some (.int .i64 tw) := blk_cell hb1 1
  have HW1 := Sd.mk hw1
  have HK1 := Sd.mk hk1
  have HB1 := Sd.mk hb1
  obtain ⟨i0, hi, hz0, hz1, hz2⟩ := info_parts infoDone
  have hsl : ∀ W : World, (Instr.slice 109 (.slice Al x.log.length cl) none (some (.int .i64 (k : Int))) none).run Tryz.prog W = .ok (.slice Al k cl) W := fun W => by
    rcases H.o.log.2 with ⟨e, hn⟩ | ⟨g, cap, cur, e, _⟩
    · rw [HLV.o] at e
      obtain ⟨e1, e2, e3⟩ := Value.slice.inj e
      subst e1 e3
      have : k = 0 := by omega
      subst this
      have hel : Tryz.prog.elem 109 = 153 := by simp [Program.elem, Tryz.underlying109]
      have hu : Tryz.prog.underlying 109 = some (.slice (Tryz.prog.elem 109)) := by rw [hel]; exact Tryz.underlying109
      rw [run_slice_h W 109 none x.log.length 0 hu .i64 ((0 : Nat) : Int) (by omega) (by omega), hel]
      simp [sizeOf, typeInfo, hi, hz1, sliced, Result.andThen]
    · rw [HLV.o] at e
      obtain ⟨e1, e2, e3⟩ := Value.slice.inj e
      subst e1
      have hel : Tryz.prog.elem 109 = 153 := by simp [Program.elem, Tryz.underlying109]
      have hu : Tryz.prog.underlying 109 = some (.slice (Tryz.prog.elem 109)) := by rw [hel]; exact Tryz.underlying109
      rw [run_slice_h W 109 (some ⟨g, 0, none⟩) x.log.length cl hu .i64 ((k : Nat) : Int) (by omega) (by omega), hel]
      simp [sizeOf, typeInfo, hi, hz1, sliced, Result.andThen, add_lit]
  have HSL := Sd.mk hsl
  clear hw1 hk1 hb1 c1 hi hz0 hz1 hz2
  go_enter Tryz.func32, Tryz.ntmps32
  go_upto_region 2 with fail
  rw [← HW1.o]
  go_quiet (fail)
  clear c1'
  go_wp2_with fail
  go_loopg [4, 29] k (fun gk v i wr => ∃ (j : Nat) (A' : Option Addr) (c' : Nat), gk + j = k ∧ i = .int .i64 j ∧ v = .slice A' (doneAll x.safe (x.log.take j)).length c' ∧ Sd (RowU wr (.slice A' (doneAll x.safe (x.log.take j)).length c') (doneAll x.safe (x.log.take j))) ∧ Sd (Keeps NoB w1 wr))
  case atStart =>
    refine ⟨0, As, cs, by omega, rfl, rfl, ⟨?_⟩, ⟨(Keeps.refl NoB w1).drewN _⟩⟩
    have h1 := H.o.saf.keeps HK1.o (NotU8.noB w)
    rw [HSV.o] at h1
    exact h1.keeps ((Keeps.refl NoB w1).drewN nq) (NotU8.noB w1)
  case round =>
    obtain ⟨j, A5, c5, hj, rfl, rfl, HR, HK⟩ := hrel
    have HKW : Sd (Keeps NoB w wr) := ⟨HK1.o.then HK.o⟩
    by_cases hlt : j < k
    · have hq : (j : Int) < (k : Int) := by omega
      have hjl : j < x.log.length := by omega
      obtain ⟨g, c6, hlv2, hd0, hd1, hd2⟩ := LogV.get (OwnW.keeps H.o.log HKW.o (fun _ _ f => f)) hjl
      rw [HLV.o] at hlv2
      obtain ⟨e1, _, e3⟩ := Value.slice.inj hlv2
      subst e1 e3
      have hpos := LogOk.at_ j hjl HLOG.o
      have hnext := doneAll_succ x.safe x.log j hjl
      have hpl := HPS.o _ (List.getElem_mem hjl)
      have hsm : (doneAll x.safe (x.log.take j)).length ≤ 67108864 := LogOk.all (HLOG.o.take j)
      generalize x.log[j] = d at *
      generalize doneAll x.safe (x.log.take j) = P at *
      have HNX := Sd.mk hnext
      have HON : Sd (∀ wx, Keeps NoB wr wx → Calls Tryz.prog 74 #[.agg #[.bool d.cut, .int .i64 d.pos, .string (sOf d.p)], .slice A5 P.length c5] wx fun e w' => ∃ A' c', e = .returned (.slice A' (doneOn P d).length c') ∧ RowU w' (.slice A' (doneOn P d).length c') (doneOn P d) ∧ Keeps NoB wx w') := ⟨fun wx hk => (onto_any wx d A5 c5 P (HR.o.keeps hk (NotU8.noB wr)) hpos hsm hpl).mono fun e w' ⟨A', c', he, hr, hk', _⟩ => ⟨A', c', he, hr, hk'⟩⟩
      clear hlv2 hnext hpos hpl
      go_wp2_with (go_at_call 74; refine (HON.o _ ((Keeps.refl NoB wr).alloc _)).mono ?_; rintro e w6 ⟨A6, c6, rfl, hr6, hk6⟩; have HR6 := Sd.mk hr6; have HK6 : Sd (Keeps NoB wr w6) := ⟨((Keeps.refl NoB wr).alloc _).then hk6⟩; clear hr6 hk6)
      go_roundg (gk - 1)
      case measure => omega
      case rel => exact ⟨j + 1, A6, c6, by omega, by go_num, by rw [HNX.o], ⟨by rw [HNX.o]; exact HR6.o⟩, ⟨HK.o.then HK6.o⟩⟩
    · have hq : ¬ (j : Int) < (k : Int) := by omega
      have hjk : j = k := by omega
      subst hjk
      have hPl : (doneAll x.safe (x.log.take j)).length ≤ 67108864 := LogOk.all (HLOG.o.take j)
      by_cases hend : j < x.log.length
      · have hq2 : decide ((j : Int) < (x.log.length : Int)) = true := by simp; omega
        obtain ⟨g, c6, hlv2, hd0, hd1, hd2⟩ := LogV.get (OwnW.keeps H.o.log HKW.o (fun _ _ f => f)) hend
        rw [HLV.o] at hlv2
        obtain ⟨e1, _, e3⟩ := Value.slice.inj hlv2
        subst e1 e3
        have hpos := LogOk.at_ j hend HLOG.o
        have hpl := HPS.o _ (List.getElem_mem hend)
        have hcr : x.crash ⟨tf, tw, tb⟩ = (if x.log[j].cut then ⟨doneAll x.safe (x.log.take j), [], doneAll x.safe (x.log.take j)⟩ else ⟨doneOn (doneAll x.safe (x.log.take j)) { x.log[j] with p := x.log[j].p.take tb.toNat }, [], doneOn (doneAll x.safe (x.log.take j)) { x.log[j] with p := x.log[j].p.take tb.toNat }⟩) := by
          unfold FileS.crash
          dsimp only
          rw [← HKK.o, List.getElem?_eq_getElem hend]
          dsimp only
          split <;> rfl
        have hnl : ¬ x.log[j].cut = true → (doneOn (doneAll x.safe (x.log.take j)) { x.log[j] with p := x.log[j].p.take tb.toNat }).length ≤ 140737488355328 := fun hc => by
          have h1 := doneOn_write_len (doneAll x.safe (x.log.take j)) x.log[j].pos (x.log[j].p.take tb.toNat) hpos
          have e2 : ({ x.log[j] with p := x.log[j].p.take tb.toNat } : DoneS) = ⟨false, x.log[j].pos, x.log[j].p.take tb.toNat⟩ := by
            cases hx : x.log[j] with
            | mk c0 p0 d0 => rw [hx] at hc; simp at hc; subst hc; rfl
          rw [e2, h1, List.length_take]
          omega
        generalize x.log[j] = d at *
        have HCR := Sd.mk hcr
        have HNL := Sd.mk hnl
        have y2' : wr.cell? ⟨f.fb, 2, none⟩ = some (.slice (some ⟨g, 0, none⟩) x.log.length cl) := HKW.o.cell (HLV.o ▸ H.o.c.2.2) (fun f => f)
        clear hlv2 hcr hnl
        cases hcut : d.cut with
        | true =>
          rw [hcut] at hd0
          obtain ⟨Q, hQ⟩ : ∃ Q, Q = doneAll x.safe (x.log.take j) := ⟨_, rfl⟩
          rw [← hQ] at HR hPl HCR ⊢
          have HQ : Sd (x.crash ⟨tf, tw, tb⟩ = ⟨Q, [], Q⟩) := ⟨by rw [HCR.o, if_pos hcut]⟩
          have HQL : Sd (Q.length ≤ 140737488355328) := ⟨by omega⟩
          obtain ⟨w7, hw7⟩ : ∃ w7, w7 = wr := ⟨_, rfl⟩
          subst hw7
          have HR7 := HR
          have HK7 := HK
          obtain ⟨A7, hA7⟩ : ∃ A7, A7 = A5 := ⟨_, rfl⟩
          obtain ⟨c7, hc7⟩ : ∃ c7, c7 = c5 := ⟨_, rfl⟩
          subst hA7 hc7
          clear hQ HCR HNL HR HK HKW
          have HC : Sd (∀ wx, Keeps NoB w7 wx → Calls Tryz.prog 75 #[.slice A7 Q.length c7] wx fun e w' => ∃ A' c', e = .returned (.slice A' Q.length c') ∧ OwnV w' 5 (.slice A' Q.length c') (bvs Q) ∧ Keeps NoB wx w' ∧ Fresh w (.slice A' Q.length c')) := ⟨fun wx hk => (cloneB_any wx A7 Q.length c7 Q ((HR7.o.keeps hk (NotU8.noB w7)).1) (by have := HQL.o; omega)).mono fun e w' ⟨A', c', he, ho, hf', hk'⟩ => ⟨A', c', he, ho, hk', fun i hi => Nat.le_trans (Nat.le_trans (HK1.o.then HK7.o).size hk.size) (hf' i hi)⟩⟩
          have HF7 := Sd.mk ((HK1.o.then HK7.o).obj H.o.blk (fun f => f))
          go_wp2_with (first
            | (go_at_call 75; refine (HC.o _ (Keeps.refl NoB w7)).mono ?_; rintro e w8 ⟨A8, c8, rfl, ho8, hk8, hr8⟩; have HX8 := Sd.mk hr8; clear hr8; have HO8 := Sd.mk ho8; have HK8 := Sd.mk hk8; clear ho8 hk8)
            | (go_at_call 75; refine (HC.o _ HK8.o).mono ?_; rintro e w9 ⟨A9, c9, rfl, ho9, hk9, hr9⟩; have HX9 := Sd.mk hr9; clear hr9; have HO9 := Sd.mk ho9; have HK9 := Sd.mk hk9; have hf9 := hk9.obj (HK8.o.obj HF7.o (fun f => f)) (fun f => f); have y0 := blk_cell hf9 0; have y1 := blk_cell hf9 1; have y2 := blk_cell hf9 2; have z0 := blk_frozen hf9 0; have z1 := blk_frozen hf9 1; have z2 := blk_frozen hf9 2; have HF9 := Sd.mk hf9; clear ho9 hk9 hf9))
          go_end0
          refine ⟨rfl, .slice A9 Q.length c9, .slice A8 Q.length c8, ?_, ?_, fun i hi => hi.elim (fun h => (DGrew.fresh (v := .slice none 0 0) HO9.o HX9.o i h).resolve_left (fun e => by cases e)) (fun h => (DGrew.fresh (v := .slice none 0 0) HO8.o HX8.o i h).resolve_left (fun e => by cases e))⟩
          · rw [HQ.o]
            have hkk : Keeps (OneB f.fb) w9 (((w9.setCell ⟨f.fb, 1, none⟩ (.slice A8 Q.length c8)).setCell ⟨f.fb, 0, none⟩ (.slice A9 Q.length c9)).setCell ⟨f.fb, 2, none⟩ (.slice none 0 0)) := (((Keeps.refl (OneB f.fb) w9).setCell ⟨f.fb, 1, none⟩ _ (fun _ => rfl)).setCell ⟨f.fb, 0, none⟩ _ (fun _ => rfl)).setCell ⟨f.fb, 2, none⟩ _ (fun _ => rfl)
            have hu : NotU8 w9 (OneB f.fb) := notU8_knd fun i hi => by cases hi; rw [knd_cells HF9.o]; decide
            exact ⟨blk_set (blk_set (blk_set HF9.o 1 _) 0 _) 2 _, HO9.o.rowU.keeps hkk hu, (HO8.o.rowU.keeps HK9.o (NotU8.noB w8)).keeps hkk hu, logV_nil _⟩
          · exact ((((((HK1.o.then HK7.o).then HK8.o).then HK9.o).mono (G := OneB f.fb) (fun _ _ f => f.elim)).setCell ⟨f.fb, 1, none⟩ _ (fun _ => rfl)).setCell ⟨f.fb, 0, none⟩ _ (fun _ => rfl)).setCell ⟨f.fb, 2, none⟩ _ (fun _ => rfl)
        | false =>
          rw [hcut] at hd0
          obtain ⟨P, hP⟩ : ∃ P, P = doneAll x.safe (x.log.take j) := ⟨_, rfl⟩
          obtain ⟨kb, hkb⟩ : ∃ kb, kb = min tb.toNat d.p.length := ⟨_, rfl⟩
          have hds : (sOf d.p).size = d.p.length := sOf_size d.p
          have hmin2 : min (max tb 0) ((sOf d.p).size : Int) = (kb : Int) := by rw [hds]; omega
          have hkbl : kb ≤ d.p.length := by omega
          have htake : d.p.take kb = d.p.take tb.toNat := by rw [hkb, List.take_eq_take_iff]; omega
          have hstr : ∀ W : World, (Instr.slice 9 (.string (sOf d.p)) none (some (.int .i64 (kb : Int))) none).run Tryz.prog W = .ok (.string (sOf (d.p.take tb.toNat))) W := fun W => by
            rw [run_slice_string_h (P := Tryz.prog) (w := W) (t := 9) (s := sOf d.p) Tryz.underlying9 .i64 (kb : Int) (by omega) (by rw [hds]; omega), Int.toNat_natCast, sOf_take, htake]
          obtain ⟨Q, hQ⟩ : ∃ Q, Q = doneOn P { d with p := d.p.take tb.toNat } := ⟨_, rfl⟩
          rw [← hP] at HR hPl HCR HNL hpos ⊢
          have HQ : Sd (x.crash ⟨tf, tw, tb⟩ = ⟨Q, [], Q⟩) := ⟨by rw [HCR.o, if_neg (by rw [hcut]; simp), hQ]⟩
          have HQL : Sd (Q.length ≤ 140737488355328) := ⟨by rw [hQ]; exact HNL.o (by rw [hcut]; simp)⟩
          have HON : Sd (∀ wx, Keeps NoB wr wx → Calls Tryz.prog 74 #[.agg #[.bool false, .int .i64 d.pos, .string (sOf (d.p.take tb.toNat))], .slice A5 P.length c5] wx fun e w' => ∃ A' c', e = .returned (.slice A' Q.length c') ∧ RowU w' (.slice A' Q.length c') Q ∧ Keeps NoB wx w') := ⟨fun wx hk => by
            have := onto_any wx { d with p := d.p.take tb.toNat } A5 c5 P (HR.o.keeps hk (NotU8.noB wr)) hpos hPl (by rw [List.length_take]; omega)
            rw [← hQ] at this
            have e1 : (doneCells { d with p := d.p.take tb.toNat }).toArray = #[.bool false, .int .i64 d.pos, .string (sOf (d.p.take tb.toNat))] := by
              simp [doneCells, hcut]
            rw [e1] at this
            exact this.mono fun e w' ⟨A', c', he, hr, hk', _⟩ => ⟨A', c', he, hr, hk'⟩⟩
          have qb : (wr.alloc (.cells #[.bool false, .int .i64 d.pos, .string (sOf d.p)] 153)).cell? ⟨w.heap.size, 2, none⟩ = some (.int .i64 tb) := ((Keeps.refl NoB wr).alloc _).cell (HK.o.cell (blk_cell HB1.o 2) (fun f => f)) (fun f => f)
          clear hQ HCR HNL hP hkb htake hpos hds
          go_wp2_with (go_at_call 74; refine (HON.o _ (by first | exact ((Keeps.refl NoB wr).alloc _).setF _ _ _ (Nat.le_refl _) | exact (Keeps.refl NoB wr).alloc _)).mono ?_; rintro e w7 ⟨A7, c7, rfl, hr7, hk7⟩; have HR7 := Sd.mk hr7; have HK7x := Sd.mk hk7; clear hr7 hk7)
          have HK7 : Sd (Keeps NoB w1 w7) := ⟨HK.o.then (((Keeps.refl NoB wr).alloc _).then HK7x.o)⟩
          have HC : Sd (∀ wx, Keeps NoB w7 wx → Calls Tryz.prog 75 #[.slice A7 Q.length c7] wx fun e w' => ∃ A' c', e = .returned (.slice A' Q.length c') ∧ OwnV w' 5 (.slice A' Q.length c') (bvs Q) ∧ Keeps NoB wx w' ∧ Fresh w (.slice A' Q.length c')) := ⟨fun wx hk => (cloneB_any wx A7 Q.length c7 Q ((HR7.o.keeps hk (NotU8.noB w7)).1) (by have := HQL.o; omega)).mono fun e w' ⟨A', c', he, ho, hf', hk'⟩ => ⟨A', c', he, ho, hk', fun i hi => Nat.le_trans (Nat.le_trans (HK1.o.then HK7.o).size hk.size) (hf' i hi)⟩⟩
          have HF7 := Sd.mk ((HK1.o.then HK7.o).obj H.o.blk (fun f => f))
          go_wp2_with (first
            | (go_at_call 75; refine (HC.o _ (Keeps.refl NoB w7)).mono ?_; rintro e w8 ⟨A8, c8, rfl, ho8, hk8, hr8⟩; have HX8 := Sd.mk hr8; clear hr8; have HO8 := Sd.mk ho8; have HK8 := Sd.mk hk8; clear ho8 hk8)
            | (go_at_call 75; refine (HC.o _ HK8.o).mono ?_; rintro e w9 ⟨A9, c9, rfl, ho9, hk9, hr9⟩; have HX9 := Sd.mk hr9; clear hr9; have HO9 := Sd.mk ho9; have HK9 := Sd.mk hk9; have hf9 := hk9.obj (HK8.o.obj HF7.o (fun f => f)) (fun f => f); have y0 := blk_cell hf9 0; have y1 := blk_cell hf9 1; have y2 := blk_cell hf9 2; have z0 := blk_frozen hf9 0; have z1 := blk_frozen hf9 1; have z2 := blk_frozen hf9 2; have HF9 := Sd.mk hf9; clear ho9 hk9 hf9))
          go_end0
          refine ⟨rfl, .slice A9 Q.length c9, .slice A8 Q.length c8, ?_, ?_, fun i hi => hi.elim (fun h => (DGrew.fresh (v := .slice none 0 0) HO9.o HX9.o i h).resolve_left (fun e => by cases e)) (fun h => (DGrew.fresh (v := .slice none 0 0) HO8.o HX8.o i h).resolve_left (fun e => by cases e))⟩
          · rw [HQ.o]
            have hkk : Keeps (OneB f.fb) w9 (((w9.setCell ⟨f.fb, 1, none⟩ (.slice A8 Q.length c8)).setCell ⟨f.fb, 0, none⟩ (.slice A9 Q.length c9)).setCell ⟨f.fb, 2, none⟩ (.slice none 0 0)) := (((Keeps.refl (OneB f.fb) w9).setCell ⟨f.fb, 1, none⟩ _ (fun _ => rfl)).setCell ⟨f.fb, 0, none⟩ _ (fun _ => rfl)).setCell ⟨f.fb, 2, none⟩ _ (fun _ => rfl)
            have hu : NotU8 w9 (OneB f.fb) := notU8_knd fun i hi => by cases hi; rw [knd_cells HF9.o]; decide
            exact ⟨blk_set (blk_set (blk_set HF9.o 1 _) 0 _) 2 _, HO9.o.rowU.keeps hkk hu, (HO8.o.rowU.keeps HK9.o (NotU8.noB w8)).keeps hkk hu, logV_nil _⟩
          · exact ((((((HK1.o.then HK7.o).then HK8.o).then HK9.o).mono (G := OneB f.fb) (fun _ _ f => f.elim)).setCell ⟨f.fb, 1, none⟩ _ (fun _ => rfl)).setCell ⟨f.fb, 0, none⟩ _ (fun _ => rfl)).setCell ⟨f.fb, 2, none⟩ _ (fun _ => rfl)
      · have hq2 : decide ((j : Int) < (x.log.length : Int)) = false := by simp; omega
        have hcr : x.crash ⟨tf, tw, tb⟩ = ⟨doneAll x.safe (x.log.take j), [], doneAll x.safe (x.log.take j)⟩ := by
          unfold FileS.crash
          dsimp only
          rw [← HKK.o, List.getElem?_eq_none (by omega)]
        have HCR := Sd.mk hcr
        have y2' : wr.cell? ⟨f.fb, 2, none⟩ = some (.slice Al x.log.length cl) := HKW.o.cell (HLV.o ▸ H.o.c.2.2) (fun f => f)
        obtain ⟨Q, hQ⟩ : ∃ Q, Q = doneAll x.safe (x.log.take j) := ⟨_, rfl⟩
        rw [← hQ] at HR hPl HCR ⊢
        have HQ : Sd (x.crash ⟨tf, tw, tb⟩ = ⟨Q, [], Q⟩) := ⟨HCR.o⟩
        have HQL : Sd (Q.length ≤ 140737488355328) := ⟨by omega⟩
        obtain ⟨w7, hw7⟩ : ∃ w7, w7 = wr := ⟨_, rfl⟩
        subst hw7
        have HR7 := HR
        have HK7 := HK
        obtain ⟨A7, hA7⟩ : ∃ A7, A7 = A5 := ⟨_, rfl⟩
        obtain ⟨c7, hc7⟩ : ∃ c7, c7 = c5 := ⟨_, rfl⟩
        subst hA7 hc7
        clear hQ HCR HR HK HKW hcr
        have HC : Sd (∀ wx, Keeps NoB w7 wx → Calls Tryz.prog 75 #[.slice A7 Q.length c7] wx fun e w' => ∃ A' c', e = .returned (.slice A' Q.length c') ∧ OwnV w' 5 (.slice A' Q.length c') (bvs Q) ∧ Keeps NoB wx w' ∧ Fresh w (.slice A' Q.length c')) := ⟨fun wx hk => (cloneB_any wx A7 Q.length c7 Q ((HR7.o.keeps hk (NotU8.noB w7)).1) (by have := HQL.o; omega)).mono fun e w' ⟨A', c', he, ho, hf', hk'⟩ => ⟨A', c', he, ho, hk', fun i hi => Nat.le_trans (Nat.le_trans (HK1.o.then HK7.o).size hk.size) (hf' i hi)⟩⟩
        have HF7 := Sd.mk ((HK1.o.then HK7.o).obj H.o.blk (fun f => f))
        go_wp2_with (first
          | (go_at_call 75; refine (HC.o _ (Keeps.refl NoB w7)).mono ?_; rintro e w8 ⟨A8, c8, rfl, ho8, hk8, hr8⟩; have HX8 := Sd.mk hr8; clear hr8; have HO8 := Sd.mk ho8; have HK8 := Sd.mk hk8; clear ho8 hk8)
          | (go_at_call 75; refine (HC.o _ HK8.o).mono ?_; rintro e w9 ⟨A9, c9, rfl, ho9, hk9, hr9⟩; have HX9 := Sd.mk hr9; clear hr9; have HO9 := Sd.mk ho9; have HK9 := Sd.mk hk9; have hf9 := hk9.obj (HK8.o.obj HF7.o (fun f => f)) (fun f => f); have y0 := blk_cell hf9 0; have y1 := blk_cell hf9 1; have y2 := blk_cell hf9 2; have z0 := blk_frozen hf9 0; have z1 := blk_frozen hf9 1; have z2 := blk_frozen hf9 2; have HF9 := Sd.mk hf9; clear ho9 hk9 hf9))
        go_end0
        refine ⟨rfl, .slice A9 Q.length c9, .slice A8 Q.length c8, ?_, ?_, fun i hi => hi.elim (fun h => (DGrew.fresh (v := .slice none 0 0) HO9.o HX9.o i h).resolve_left (fun e => by cases e)) (fun h => (DGrew.fresh (v := .slice none 0 0) HO8.o HX8.o i h).resolve_left (fun e => by cases e))⟩
        · rw [HQ.o]
          have hkk : Keeps (OneB f.fb) w9 (((w9.setCell ⟨f.fb, 1, none⟩ (.slice A8 Q.length c8)).setCell ⟨f.fb, 0, none⟩ (.slice A9 Q.length c9)).setCell ⟨f.fb, 2, none⟩ (.slice none 0 0)) := (((Keeps.refl (OneB f.fb) w9).setCell ⟨f.fb, 1, none⟩ _ (fun _ => rfl)).setCell ⟨f.fb, 0, none⟩ _ (fun _ => rfl)).setCell ⟨f.fb, 2, none⟩ _ (fun _ => rfl)
          have hu : NotU8 w9 (OneB f.fb) := notU8_knd fun i hi => by cases hi; rw [knd_cells HF9.o]; decide
          exact ⟨blk_set (blk_set (blk_set HF9.o 1 _) 0 _) 2 _, HO9.o.rowU.keeps hkk hu, (HO8.o.rowU.keeps HK9.o (NotU8.noB w8)).keeps hkk hu, logV_nil _⟩
        · exact ((((((HK1.o.then HK7.o).then HK8.o).then HK9.o).mono (G := OneB f.fb) (fun _ _ f => f.elim)).setCell ⟨f.fb, 1, none⟩ _ (fun _ => rfl)).setCell ⟨f.fb, 0, none⟩ _ (fun _ => rfl)).setCell ⟨f.fb, 2, none⟩ _ (fun _ => rfl)
end Go.Proofs.YtdjamijbhaplgaaGreat
namespace Go.Proofs.YtdjamijbhaplgaaGreat
open Go.RowKit Go.Maps Go.Lib

theorem crash_file (s : FSt) (dir : Int) (l : List TornS) (n : Nat) (h1 : 1 ≤ n) (h2 : n ≤ s.F.length) : (s.crash dir l).file n = (s.file n).crash (tornOf l n) := by
  unfold FSt.crash FSt.file
  dsimp only
  rw [List.getD_eq_getElem?_getD, List.getD_eq_getElem?_getD, List.getElem?_mapIdx, List.getElem?_eq_getElem (by omega : n - 1 < s.F.length)]
  simp only [Option.map_some, Option.getD_some]
  rw [show n - 1 + 1 = n by omega]
theorem FileS.crash_ok {x : FileS} (h : LogOk x.safe x.log) (t : TornS) : (x.crash t).log = [] ∧ (x.crash t).safe = (x.crash t).data ∧ (x.crash t).data.length ≤ 67108864 := by
  unfold FileS.crash
  dsimp only
  refine ⟨rfl, rfl, ?_⟩
  by_cases hk : min t.writes.toNat x.log.length < x.log.length
  · rw [List.getElem?_eq_getElem hk]
    dsimp only
    have hall : (doneAll x.safe (x.log.take (min t.writes.toNat x.log.length))).length ≤ 67108864 := (h.take _).all
    have hn := h.next _ hk
    have hp := h.at_ _ hk
    generalize x.log[min t.writes.toNat x.log.length] = d at *
    split
    · exact hall
    · rename_i hc
      have e2 : ({ d with p := d.p.take t.bytes.toNat } : DoneS) = ⟨false, d.pos, d.p.take t.bytes.toNat⟩ := by
        cases d with
        | mk c0 p0 d0 => simp at hc; subst hc; rfl
      have e3 : d = ⟨false, d.pos, d.p⟩ := by
        cases d with
        | mk c0 p0 d0 => simp at hc; subst hc; rfl
      rw [e2, doneOn_write_len _ _ _ hp, List.length_take]
      rw [e3, doneOn_write_len _ _ _ hp] at hn
      omega
  · rw [List.getElem?_eq_none (by omega)]
    exact (h.take _).all
theorem noFile_crash (t : TornS) : noFile.crash t = noFile := by
  unfold FileS.crash noFile
  simp [doneAll]
theorem crash_file0 (s : FSt) (dir : Int) (l : List TornS) (n : Nat) : ∃ t, (s.crash dir l).file n = (s.file n).crash t := by
  by_cases h : n - 1 < s.F.length
  · refine ⟨tornOf l ((n - 1 + 1 : Nat) : Int), ?_⟩
    unfold FSt.crash FSt.file
    dsimp only
    rw [List.getD_eq_getElem?_getD, List.getD_eq_getElem?_getD, List.getElem?_mapIdx, List.getElem?_eq_getElem h]
    rfl
  · refine ⟨⟨0, 0, 0⟩, ?_⟩
    have e1 : s.file n = noFile := by
      unfold FSt.file
      rw [List.getD_eq_getElem?_getD, List.getElem?_eq_none (by omega)]; rfl
    have e2 : (s.crash dir l).file n = noFile := by
      unfold FSt.crash FSt.file
      dsimp only
      rw [List.getD_eq_getElem?_getD, List.getElem?_mapIdx, List.getElem?_eq_none (by omega)]; rfl
    rw [e1, e2, noFile_crash]
theorem Inv.crash {N : Nat} {s : FSt} (h : Inv N s) (dir : Int) (l : List TornS) : Inv N (s.crash dir l) := by
  have hF : (s.crash dir l).F.length = s.F.length := by simp [FSt.crash]
  have hgood : GoodDir s.F.length (movedAll s.S (s.M.take dir.toNat)) := (h.ok.path.take dir.toNat).good h.ok.dirS
  refine ⟨⟨?_, ?_, trivial, rfl, h.ok.cap, ⟨Int.le_refl (-1), by show (-1 : Int) ≤ 9223372036854775807; decide⟩, h.ok.lens _, fun k => ?_⟩, fun n => ?_, ⟨h.lim.ops, ?_, Nat.zero_le _, fun n => ?_, (fun x hx => by cases hx), fun n d hd => ?_⟩⟩
  · rw [hF]; exact hgood
  · rw [hF]; exact hgood
  · show (movedAll (movedAll s.S (s.M.take dir.toNat)) (([] : List MoveS).take k)).length ≤ 4096
    rw [List.take_nil]
    exact h.ok.lens _
  · obtain ⟨t, ht⟩ := crash_file0 s dir l n
    rw [ht]
    obtain ⟨h1, h2, h3⟩ := FileS.crash_ok (h.files n).1 t
    rw [h1, h2]
    exact ⟨h3, rfl⟩
  · rw [hF]; exact h.lim.files
  · obtain ⟨t, ht⟩ := crash_file0 s dir l n
    rw [ht, (FileS.crash_ok (h.files n).1 t).1]
    exact Nat.zero_le _
  · obtain ⟨t, ht⟩ := crash_file0 s dir l n
    rw [ht, (FileS.crash_ok (h.files n).1 t).1] at hd
    cases hd
/-- Who has come of a directory's numbers. -/
def dn (d : Dir) (left : List UInt8 → Bool) (n : Nat) : Bool := d.any fun e => e.2 == n && !left e.1
theorem dn_start (d : Dir) (hd : (d.map (·.1)).Nodup) (n : Nat) : dn d (fun s => (d.lookup s).isSome) n = false := by
  unfold dn
  rw [List.any_eq_false]
  intro e he
  show ¬ (e.2 == n && !(d.lookup e.1).isSome) = true
  rw [mem_lookup hd (show (e.1, e.2) ∈ d from he)]
  simp
theorem dn_step {d : Dir} (hd : (d.map (·.1)).Nodup) {left : List UInt8 → Bool} {s : List UInt8} {k : Nat} (hl : d.lookup s = some k) (n : Nat) : dn d (fun x => left x && x != s) n = (dn d left n || n == k) := by
  unfold dn
  rw [Bool.eq_iff_iff, List.any_eq_true, Bool.or_eq_true, List.any_eq_true]
  constructor
  · rintro ⟨e, he, h⟩
    simp only [Bool.and_eq_true, beq_iff_eq, Bool.not_eq_true', Bool.and_eq_false_iff] at h
    obtain ⟨h1, h2 | h2⟩ := h
    · exact .inl ⟨e, he, by simp [h1, h2]⟩
    · right
      have hes : e.1 = s := by simpa using h2
      have := mem_lookup hd (show (e.1, e.2) ∈ d from he)
      rw [hes, hl] at this
      cases this
      simp [h1]
  · rintro (⟨e, he, h⟩ | h)
    · simp only [Bool.and_eq_true, beq_iff_eq, Bool.not_eq_true'] at h
      exact ⟨e, he, by simp [h.1, h.2]⟩
    · have hnk : n = k := by simpa using h
      subst hnk
      exact ⟨(s, n), lookup_mem hl, by simp⟩
theorem dn_end {d : Dir} {left : List UInt8 → Bool} (hl : ∀ s, left s = false) (n : Nat) : dn d left n = d.any fun e => e.2 == n := by
  unfold dn
  congr 1
  funext e
  rw [hl]; simp
/-- One that is still to come has not come. -/
theorem dn_not {N : Nat} {d : Dir} (hd : GoodDir N d) {left : List UInt8 → Bool} {s : List UInt8} {k : Nat} (hl : d.lookup s = some k) (hs : left s = true) : dn d left k = false := by
  unfold dn
  rw [List.any_eq_false]
  intro e he h
  simp only [Bool.and_eq_true, beq_iff_eq, Bool.not_eq_true'] at h
  have := hd.one he (lookup_mem hl) h.1
  rw [this] at h
  rw [hs] at h
  exact absurd h.2 (by simp)
theorem RangeN.left_le {w : World} {b r : Nat} {d : Dir} {left : List UInt8 → Bool} (h : RangeN w b r d left) : w.rangeLeft b r ≤ d.length := by
  obtain ⟨D, lf, cnt, hr, _, _⟩ := h
  rw [hr.left_eq]
  obtain ⟨es, clock, since, seen, c0, h1, h2, h3, h4, h5, h6, h7, _⟩ := hr
  rw [← h7]
  refine Nat.le_trans ?_ h3
  unfold leftOf
  exact Array.size_filter_le
end Go.Proofs.YtdjamijbhaplgaaGreat
