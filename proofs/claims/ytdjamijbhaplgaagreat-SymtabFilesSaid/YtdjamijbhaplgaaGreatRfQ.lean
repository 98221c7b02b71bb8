/- The document's file system: Crash, walked. -/
import Derived.Deep.CutBlock
import Derived.Test.YtdjamijbhaplgaaGreatGkbc
namespace Go.Proofs.YtdjamijbhaplgaaGreat
open Go.RowKit Go.Maps Go.Lib

def crS (s : FSt) (dir : Int) (l : List TornS) (k : Nat) : FSt := { crD s dir with F := crF s l k }
theorem crS_zero (s : FSt) (dir : Int) (l : List TornS) : crS s dir l 0 = crD s dir := by unfold crS; rw [crF_zero]; rfl
theorem crS_succ (s : FSt) (dir : Int) (l : List TornS) (k : Nat) (hk : k < s.F.length) : (crS s dir l k).setFile (k + 1) ((s.file (k + 1)).crash (tornOf l ((k + 1 : Nat) : Int))) = crS s dir l (k + 1) := by
  unfold crS FSt.setFile
  dsimp only
  rw [show k + 1 - 1 = k by omega, crF_succ s l k hk]
/-- What a crash leaves of a file's bytes. -/
def crP (x : FileS) (t : TornS) : List UInt8 := (x.crash t).data
theorem crash_crP (x : FileS) (t : TornS) : x.crash t = ⟨crP x t, [], crP x t⟩ := rfl
theorem crP_none (x : FileS) (t : TornS) (h : x.log.length ≤ min t.writes.toNat x.log.length) : crP x t = doneAll x.safe (x.log.take (min t.writes.toNat x.log.length)) := by
  unfold crP FileS.crash
  dsimp only
  rw [List.getElem?_eq_none h]
theorem crP_cut (x : FileS) (t : TornS) (k : Nat) (hk : k = min t.writes.toNat x.log.length) (h : k < x.log.length) (hc : (x.log[k]).cut = true ∨ t.bytes ≤ 0) (hp : (x.log[k]).cut = false → (x.log[k]).pos ≤ (doneAll x.safe (x.log.take k)).length) : crP x t = doneAll x.safe (x.log.take k) := by
  unfold crP FileS.crash
  dsimp only
  rw [← hk, List.getElem?_eq_getElem h]
  dsimp only
  cases hcc : (x.log[k]).cut with
  | true => rfl
  | false =>
    rw [hcc] at hc
    have hb : t.bytes.toNat = 0 := by
      rcases hc with h | h
      · cases h
      · omega
    rw [hb]
    simp only [Bool.false_eq_true, if_false, List.take_zero]
    simp [doneOn]
theorem crP_done (x : FileS) (t : TornS) (k : Nat) (hk : k = min t.writes.toNat x.log.length) (h : k < x.log.length) (hc : (x.log[k]).cut = false) : crP x t = doneOn (doneAll x.safe (x.log.take k)) { x.log[k] with p := (x.log[k]).p.take t.bytes.toNat } := by
  unfold crP FileS.crash
  dsimp only
  rw [← hk, List.getElem?_eq_getElem h]
  dsimp only
  rw [hc]
  rfl
set_option maxHeartbeats 16000000 in
set_option maxRecDepth 100000 in
theorem rcrash_fs (w : World) (m : RMem) (s : FSt) (N : Nat) (h : IsRS w m s) (inv : Inv N s) (hN : N ≤ 900000000) (dir : Int) (hd0 : -9223372036854775808 ≤ dir) (hd1 : dir ≤ 9223372036854775807) (A : Option Addr) (c : Nat) (l : List TornS) (hl : l.length ≤ 4611686018427387904) (hT : TRd w A l)
    (hA : ∀ b o sp, A = some ⟨b, o, sp⟩ → 0 < l.length → ¬ m.O b) (hbd : ∀ t ∈ l, (-9223372036854775808 ≤ t.writes ∧ t.writes ≤ 9223372036854775807) ∧ (-9223372036854775808 ≤ t.bytes ∧ t.bytes ≤ 9223372036854775807)) :
    Calls Tryz.prog 9 #[.pointer (some ⟨m.b, 0, none⟩), .agg #[.int .i64 dir, .slice A l.length c]] w fun e w' => e = .returned (.tuple #[]) ∧ RsTo w m (s.crash dir l) w' := by
  have HT : Sd (∀ (F : Nat → Prop) wx, Keeps F w wx → (∀ i, F i → m.O i) → TRd wx A l) := ⟨fun F wx k hF => by
    rcases Nat.eq_zero_or_pos l.length with h0 | h0
    · intro i hi; omega
    · exact hT.keeps k (fun b o sp e f => hA b o sp e h0 (hF _ f))⟩
  have HBD : Sd (∀ n, (-9223372036854775808 ≤ (tornOf l n).writes ∧ (tornOf l n).writes ≤ 9223372036854775807) ∧ (-9223372036854775808 ≤ (tornOf l n).bytes ∧ (tornOf l n).bytes ≤ 9223372036854775807)) := ⟨fun n => by
    unfold tornOf
    cases hf : l.find? (fun t => t.file == n) with
    | none => decide
    | some t => exact hbd t (List.mem_of_find?_eq_some hf)⟩
  obtain ⟨As, cs, hsv, _, _⟩ := OwnW.slice h.safe
  obtain ⟨Am, cm, hmv, _, _⟩ := OwnW.slice h.moves
  have hML := inv.lim.moves
  have HI := Sd.mk inv
  have hW := heap_alloc_new w (.cells #[.int .i64 dir, .slice A l.length c] 36)
  have hkw : Keeps NoB w (w.alloc (.cells #[.int .i64 dir, .slice A l.length c] 36)) := (Keeps.refl NoB w).alloc _
  have c2 := hkw.cell h.c.2.2.1 (fun f => f)
  have c3 := hkw.cell h.c.2.2.2.1 (fun f => f)
  have cw0 : (w.alloc (.cells #[.int .i64 dir, .slice A l.length c] 36)).cell? ⟨w.heap.size, 0, none⟩ = some (.int .i64 dir) := blk_cell hW 0
  rw [hsv] at c2
  rw [hmv] at c3
  obtain ⟨w1, hw1⟩ : ∃ w1, w1 = w.alloc (.cells #[.int .i64 dir, .slice A l.length c] 36) := ⟨_, rfl⟩
  rw [← hw1] at hW hkw c2 c3 cw0
  have HW := Sd.mk hW
  have HK1 := Sd.mk hkw
  have HW1 := Sd.mk hw1
  have H := Sd.mk h
  have HSV := Sd.mk hsv
  have HMV := Sd.mk hmv
  have hgw : ∀ i, m.O i → i < w.heap.size := RMem.lt h
  obtain ⟨gw, hgwe⟩ : ∃ gw, gw = w.heap.size := ⟨_, rfl⟩
  rw [← hgwe] at HW cw0
  have HGW : Sd (gw = w.heap.size ∧ gw < w1.heap.size) := ⟨hgwe, by rw [hw1, hgwe]; show _ < (w.heap.push _).size; simp⟩
  clear h inv hT hA hbd hsv hmv hw1 hW hkw
  go_enter Tryz.func9, Tryz.ntmps9
  go_upto_region 1 with fail
  rw [← HW1.o, ← hgwe]
  clear hgwe
  go_upto_block 0 with fail
  go_cut [4, 5] from 15 to 38 (fun v i wx => ∃ A1 q1, v = .slice A1 (dirTo s dir.toNat).length q1 ∧ Sd (EntV wx (.slice A1 (dirTo s dir.toNat).length q1) (dirTo s dir.toNat)) ∧ Sd (Keeps NoB w1 wx))
  case first =>
    go_wp2_with fail
    go_loopg [4, 5] s.M.length (fun gk v i wr => ∃ (k : Nat), gk + k = s.M.length ∧ (k ≤ dir.toNat) ∧ i = .int .i64 k ∧ Sd (EntV wr v (dirTo s k)) ∧ Sd (Keeps NoB w1 wr))
    case atStart =>
      refine ⟨0, by omega, by omega, rfl, ⟨?_⟩, ⟨Keeps.refl _ _⟩⟩
      have := (H.o.kept HK1.o).safe
      rw [HSV.o] at this
      exact this
    case round =>
      obtain ⟨k, hk, hkd, rfl, HV, HK⟩ := hrel
      have e3 := HK.o.cell c3 (fun f => f)
      have ew0 := HK.o.cell cw0 (fun f => f)
      by_cases hlt : k < s.M.length
      · have hq1 : (k : Int) < (s.M.length : Int) := by omega
        have hq0 : (0 : Int) ≤ (k : Int) := by omega
        by_cases hkd2 : (k : Int) < dir
        · have hrow := ((H.o.kept HK1.o).kept HK.o).moves
          rw [HMV.o] at hrow
          obtain ⟨g, cc, e, p0, p1, p2, p3⟩ := RMovV.get hrow hlt
          cases e
          have HCM := Sd.mk (fun wx vx (hr : EntV wx vx (dirTo s k)) => rmoved_any wx vx (dirTo s k) s.M[k] hr (dirTo_good HI.o.ok k).names (by have := HI.o.ok.lens k; unfold dirTo; omega) (dirTo_kind HI.o.ok k hlt))
          have HST := Sd.mk (dirTo_succ s k hlt)
          generalize s.M[k] = mvk at *
          clear hrow
          go_wp2_with (go_at_call 34; refine (HCM.o _ _ HV.o).mono ?_; rintro e w3 ⟨v3, rfl, hr, -, hk3⟩; have HR3 := Sd.mk hr; have HK3 := Sd.mk (HK.o.then hk3); clear hr hk3)
          go_roundg (gk - 1)
          case measure => omega
          case rel => exact ⟨k + 1, by omega, by omega, by go_num, by rw [HST.o]; exact HR3, HK3⟩
        · have hke : k = dir.toNat := by omega
          obtain ⟨A1, q1, hv1, -, -⟩ := OwnW.slice HV.o
          have hv2 := HV.o
          rw [hv1, hke] at hv2
          have HV2 := Sd.mk hv2
          subst hv1
          clear hv2
          go_wp2_with fail
          go_meet
          exact ⟨A1, q1, rfl, HV2, HK⟩
      · have hq1 : ¬ (k : Int) < (s.M.length : Int) := by omega
        have hke : dirTo s k = dirTo s dir.toNat := (dirTo_all s k (by omega)).trans (dirTo_all s dir.toNat (by omega)).symm
        obtain ⟨A1, q1, hv1, -, -⟩ := OwnW.slice HV.o
        have hv2 := HV.o
        rw [hv1, hke] at hv2
        have HV2 := Sd.mk hv2
        have HKE := Sd.mk hke
        subst hv1
        clear hv2 hke
        go_wp2_with fail
        go_meet
        exact ⟨A1, q1, by rw [HKE.o], HV2, HK⟩
  obtain ⟨A1, q1, rfl, HV, HK⟩ := hcut
  obtain ⟨w2, hw2⟩ : ∃ w2, w2 = wc := ⟨_, rfl⟩
  subst hw2
  have hdl : (dirTo s dir.toNat).length ≤ 4096 := HI.o.ok.lens dir.toNat
  obtain ⟨d, hd⟩ : ∃ d, d = dirTo s dir.toNat := ⟨_, rfl⟩
  rw [← hd] at HV hdl
  have HDD := Sd.mk hd
  rw [← hd]
  clear hd c2 c3 cw0
  have H2 := Sd.mk ((H.o.kept HK1.o).kept HK.o)
  have b2 := H2.o.blk
  have f21 := blk_frozen b2 1
  have e21 : w2.cell? ⟨m.b, 1, none⟩ = some m.dv := blk_cell b2 1
  clear b2
  go_upto_region 7 with (at_builtin; go_must (refine appw_lit rfl _ _ 83 157 _ 2 24 rfl Tryz.underlying83 infoEntry rfl (by decide) _ rfl rfl A1 d.length q1 (d.flatMap entCells) rfl (entFlat_len d) (OwnW.news HV.o) (entFlat_one d) (by omega) (by omega) ?_)
                         intro A3 q3 w3 HO HK3 HF
                         have hb3 := HK3.obj H2.o.blk (fun f => f)
                         have f31 := blk_frozen hb3 1
                         have e31 : w3.cell? ⟨m.b, 1, none⟩ = some m.dv := blk_cell hb3 1
                         have HP3 := Sd.mk (And.intro HO (And.intro HK3 HF))
                         clear HO HK3 HF hb3)
  obtain ⟨w4, hw4⟩ : ∃ w4, w4 = w3.setCell ⟨m.b, 1, none⟩ (.slice A3 d.length q3) := ⟨_, rfl⟩
  rw [← hw4]
  have HW4 := Sd.mk hw4
  have HH3 := Sd.mk (H2.o.kept HP3.o.2.1)
  have hb4 := blk_set HH3.o.blk 1 (.slice A3 d.length q3)
  rw [← hw4] at hb4
  have HB4 := Sd.mk hb4
  have HV4 : Sd (EntV w4 (.slice A1 d.length q1) d) := ⟨by
    have hv3 := OwnW.keeps HV.o HP3.o.2.1 (fun _ _ f => f)
    rw [hw4]
    refine OwnW.keeps (F := OneB m.b) hv3 ((Keeps.refl (OneB m.b) w3).setCell ⟨m.b, 1, none⟩ _ (fun _ => rfl)) (fun i hi f => ?_)
    have h1 := OwnW.knd hv3 hi
    have h2 : i = m.b := f
    rw [h2, knd_cells HH3.o.blk] at h1
    exact absurd h1 (by decide)⟩
  have f42 := blk_frozen hb4 2
  have f43 := blk_frozen hb4 3
  have e42 : w4.cell? ⟨m.b, 2, none⟩ = some m.sv := blk_cell hb4 2
  clear hw4 hb4 f21 e21 f31 e31
  go_upto_region 9 with (at_builtin; go_must (refine appw_lit rfl _ _ 83 157 _ 2 24 rfl Tryz.underlying83 infoEntry rfl (by decide) _ rfl rfl A1 d.length q1 (d.flatMap entCells) rfl (entFlat_len d) (OwnW.news HV4.o) (entFlat_one d) (by omega) (by omega) ?_)
                         intro A5 q5 w5 HO HK5 HF
                         have hb5 := HK5.obj HB4.o (fun f => f)
                         have f52 := blk_frozen hb5 2
                         have f53 := blk_frozen hb5 3
                         have e52 : w5.cell? ⟨m.b, 2, none⟩ = some m.sv := blk_cell hb5 2
                         have e53 : w5.cell? ⟨m.b, 3, none⟩ = some m.mv := blk_cell hb5 3
                         have HP5 := Sd.mk (And.intro HO (And.intro HK5 HF))
                         clear HO HK5 HF hb5)
  obtain ⟨w6, hw6⟩ : ∃ w6, w6 = (w5.setCell ⟨m.b, 2, none⟩ (.slice A5 d.length q5)).setCell ⟨m.b, 3, none⟩ (.slice none 0 0) := ⟨_, rfl⟩
  rw [← hw6]
  have HR6 : Sd (RsTo w m (crD s dir) w6) := ⟨by
    have hr := rs_dirs (H2.o) HP3.o.2.1 HP3.o.1 HP3.o.2.2 (HW4.o ▸ HP5.o.2.1) HP5.o.1 (HW4.o ▸ HP5.o.2.2) hw6
    unfold crD
    rw [← HDD.o]
    exact RsTo.after (HK1.o.then HK.o) hr⟩
  have HW6 : Sd (w6.heap[gw]? = some (.cells #[.int .i64 dir, .slice A l.length c] 36 (0, 0))) := ⟨by
    have hne : gw ≠ m.b := fun e => by have := hgw _ (.inl e); have := HGW.o.1; omega
    have g2 := HP3.o.2.1.obj (HK.o.obj HW.o (fun f => f)) (fun f => f)
    have g4 := ((Keeps.refl (OneB m.b) w3).setCell ⟨m.b, 1, none⟩ (.slice A3 d.length q3) (fun _ => rfl)).obj g2 (fun f => hne f)
    rw [← HW4.o] at g4
    rw [hw6]
    exact (((Keeps.refl (OneB m.b) w5).setCell ⟨m.b, 2, none⟩ _ (fun _ => rfl)).setCell ⟨m.b, 3, none⟩ _ (fun _ => rfl)).obj (HP5.o.2.1.obj g4 (fun f => f)) (fun f => hne f)⟩
  clear hw6 f42 f43 e42 f52 f53 e52 e53 HP5 HB4 HV4 HW4 HH3 HP3 H2 HV HK HW HSV HMV
  rw [← crS_zero s dir l] at HR6
  clear HDD hdl
  have hFN := HI.o.lim.files
  go_wp2_with fail
  go_loopg [6, 7, 8, 9, 10] s.F.length (fun gk i _ _ _ _ wr => ∃ (k : Nat), gk + k = s.F.length ∧ i = .int .i64 k ∧ Sd (RsTo w m (crS s dir l k) wr) ∧ Sd (wr.heap[gw]? = some (.cells #[.int .i64 dir, .slice A l.length c] 36 (0, 0))))
  case atStart => exact ⟨0, by omega, rfl, HR6, HW6⟩
  case round =>
    obtain ⟨k, hk, rfl, HR, HWK⟩ := hrel
    obtain ⟨mk, hmb, hik, hgk, hkk⟩ := HR.o
    have hFL : (mk.fs.map (·.fb)).length = s.F.length := by rw [List.length_map, hik.len]; exact crF_len s l k
    obtain ⟨Af, cf, hfv, -, -⟩ := OwnW.slice hik.ptrs
    rw [hFL] at hfv
    have c0 := hik.c.1
    rw [hmb, hfv] at c0
    by_cases hlt : k < s.F.length
    case neg =>
      have hq1 : ¬ (k : Int) < (s.F.length : Int) := by omega
      have HIK := Sd.mk hik
      have HGK := Sd.mk hgk
      have HKK := Sd.mk hkk
      have HMB := Sd.mk hmb
      have f7 := blk_frozen hik.blk 7
      have f6 := blk_frozen hik.blk 6
      have e7 := hik.c.2.2.2.2.2.2.2.1
      have e6 := hik.c.2.2.2.2.2.2.1
      rw [hmb] at f7 f6 e7 e6
      have hke := crash_eq s dir l k (by omega)
      have HKE := Sd.mk hke
      clear hik hgk hkk hfv hFL hke hmb
      go_wp2_with fail
      go_end0
      refine ⟨rfl, ?_⟩
      refine RsTo.trans HMB.o HGK.o HKK.o ?_
      rw [HKE.o, ← HMB.o]
      refine rs_block HIK.o ((blk_set (blk_set HIK.o.blk 7 _) 6 _).trans ?_) (((Keeps.refl (OneB mk.b) wr).setCell ⟨mk.b, 7, none⟩ _ (fun _ => rfl)).setCell ⟨mk.b, 6, none⟩ _ (fun _ => rfl)) rfl rfl rfl rfl
      rfl
    have hq1 : (k : Int) < (s.F.length : Int) := by omega
    have hq0 : (0 : Int) ≤ (k : Int) := by omega
    have hkm : k < mk.fs.length := by rw [hik.len]; show k < (crF s l k).length; rw [crF_len]; exact hlt
    have hptr := hik.ptrs
    rw [hfv] at hptr
    obtain ⟨gf, cf', e, q0⟩ := PtrV.get hptr (j := k) (by rw [hFL]; exact hlt)
    rw [hFL] at e
    cases e
    have q1 : wr.cell? ⟨gf, k, none⟩ = some (.pointer (some ⟨(mk.fs[k]).fb, 0, none⟩)) := by simpa using q0
    have hfile := hik.file k hkm
    have hX : (crS s dir l k).F.getD k noFile = s.file (k + 1) := crF_at s l k hlt
    rw [hX] at hfile
    have HF := Sd.mk hfile
    have HIK := Sd.mk hik
    have HGK := Sd.mk hgk
    have HKK := Sd.mk hkk
    have HMB := Sd.mk hmb
    have HTR : Sd (∀ wx, Keeps NoB wr wx → TRd wx A l) := ⟨fun wx kx => (HT.o m.O wr HKK.o (fun i hi => hi)).kept kx⟩
    have cn := hfile.c.1
    have hgwb : gw ≠ (mk.fs[k]).fb := fun e => by
      have h1 := knd_cells HWK.o
      rw [e, knd_cells hfile.blk] at h1
      exact absurd h1 (by decide)
    have HGWB := Sd.mk hgwb
    have cw0 : wr.cell? ⟨gw, 0, none⟩ = some (.int .i64 dir) := blk_cell HWK.o 0
    have cw1 : wr.cell? ⟨gw, 1, none⟩ = some (.slice A l.length c) := blk_cell HWK.o 1
    have HLG := Sd.mk (HI.o.files (k + 1)).1
    have HLL : Sd ((s.file (k + 1)).log.length ≤ 900000000) := ⟨Nat.le_trans (HI.o.lim.log (k + 1)) hN⟩
    have HPS := Sd.mk (HI.o.lim.dat (k + 1))
    have hbt := HBD.o ((k + 1 : Nat) : Int)
    have HST := Sd.mk (crS_succ s dir l k hlt)
    obtain ⟨tt, htt⟩ : ∃ tt, tt = tornOf l ((k + 1 : Nat) : Int) := ⟨_, rfl⟩
    rw [← htt] at hbt HST
    have HTT := Sd.mk htt
    obtain ⟨X, hXe⟩ : ∃ X, X = s.file (k + 1) := ⟨_, rfl⟩
    rw [← hXe] at HF HLG HLL HPS HST
    have HXE := Sd.mk hXe
    obtain ⟨fb, hfb⟩ : ∃ fb, fb = (mk.fs[k]).fb := ⟨_, rfl⟩
    rw [← hfb] at q1 cn hgwb
    have HFB := Sd.mk hfb
    clear hfile hptr hik hgk hkk q0 hfv hFL hX hmb htt hXe hfb
    have HTC : Sd (∀ wx, Keeps NoB wr wx → Calls Tryz.prog 35 #[.agg #[.int .i64 dir, .slice A l.length c], .int .i64 ((k : Int) + 1)] wx fun e w' => e = .returned (.agg #[.int .i64 tt.file, .int .i64 tt.writes, .int .i64 tt.bytes]) ∧ Keeps NoB wx w') := ⟨fun wx kx => by
      have := rtorn_any wx dir ((k : Int) + 1) A c l hl (HTR.o wx kx)
      rw [show ((k : Int) + 1) = ((k + 1 : Nat) : Int) from rfl, ← HTT.o] at this
      exact this⟩
    have kz : Keeps NoB wr (wr.alloc (.cells #[.int .i64 0, .int .i64 0, .int .i64 0] 94)) := (Keeps.refl NoB wr).alloc _
    have cnz := kz.cell cn (fun f => f)
    have cw0z := kz.cell cw0 (fun f => f)
    have cw1z := kz.cell cw1 (fun f => f)
    clear kz
    go_upto_region 13 with fail
    go_cut [8] from 54 to 167 (fun gv wx => ∃ g8, gv = .pointer (some ⟨g8, 0, none⟩) ∧ Sd (wx.heap[g8]? = some (.cells #[.int .i64 tt.file, .int .i64 tt.writes, .int .i64 tt.bytes] 94 (0, 0))) ∧ Sd (Keeps NoB wr wx))
    case first =>
      go_region_law
        (go_simp; go_at_call 35
         first
         | (with_reducible refine (HTC.o _ (Keeps.refl NoB wr).drew).mono ?_
            rintro e w7 ⟨rfl, hk7⟩
            have HK7 : Sd (Keeps NoB wr w7) := ⟨hk7.undrew1⟩
            clear hk7)
         | (with_reducible refine (HTC.o _ ((Keeps.refl NoB wr).alloc (.cells #[.int .i64 0, .int .i64 0, .int .i64 0] 94)).drew).mono ?_
            rintro e w7 ⟨rfl, hk7⟩
            have hb7 : w7.heap[wr.heap.size]? = some (.cells #[.int .i64 0, .int .i64 0, .int .i64 0] 94 (0, 0)) := hk7.undrew1.obj (heap_alloc_new wr _) (fun f => f)
            have HK7 : Sd (Keeps NoB wr w7) := ⟨((Keeps.refl NoB wr).alloc _).then hk7.undrew1⟩
            have HB7 := Sd.mk hb7
            have z0 := blk_cell hb7 0
            have z1 := blk_cell hb7 1
            have z2 := blk_cell hb7 2
            have y0 := blk_frozen hb7 0
            have y1 := blk_frozen hb7 1
            have y2 := blk_frozen hb7 2
            clear hk7 hb7))
      all_goals (go_wp2_with fail; go_meet; first | exact ⟨_, rfl, ⟨heap_alloc_new w7 _⟩, ⟨HK7.o.alloc _⟩⟩ | exact ⟨_, rfl, ⟨blk_set (blk_set (blk_set HB7.o 0 _) 1 _) 2 _⟩, ⟨((HK7.o.setF _ _ _ (Nat.le_refl _)).setF _ _ _ (Nat.le_refl _)).setF _ _ _ (Nat.le_refl _)⟩⟩)
    obtain ⟨g8, rfl, HB8, HK8⟩ := hcut
    obtain ⟨w8, hw8⟩ : ∃ w8, w8 = wc := ⟨_, rfl⟩
    subst hw8
    have hf8 := HF.o.keeps HK8.o (fun _ _ f => f)
    obtain ⟨Al, cl, hlv, -, -⟩ := OwnW.slice hf8.log
    have ct1 := blk_cell HB8.o 1
    have ct2 := blk_cell HB8.o 2
    have c1 := hf8.c.2.1
    have c2 := hf8.c.2.2.1
    have c3 := hf8.c.2.2.2
    rw [hlv] at c2
    rw [← HFB.o] at c1 c2 c3
    have hlog := hf8.log
    rw [hlv] at hlog
    have HLOG := Sd.mk hlog
    have HF8 := Sd.mk hf8
    have f1 := blk_frozen hf8.blk 1
    have f2 := blk_frozen hf8.blk 2
    have f3 := blk_frozen hf8.blk 3
    rw [← HFB.o] at f1 f2 f3
    obtain ⟨K, hK⟩ : ∃ K, K = min tt.writes.toNat X.log.length := ⟨_, rfl⟩
    have hKl : K ≤ X.log.length := by omega
    have hKw : K ≤ tt.writes.toNat := by omega
    have hKe : X.log.length ≤ K ∨ tt.writes.toNat ≤ K := by omega
    have hll := HLL.o
    have HKE := Sd.mk hK
    obtain ⟨hbt1, hbt2⟩ := hbt
    have hbt3 := hbt1.1
    have hbt4 := hbt1.2
    have hbt5 := hbt2.1
    have hbt6 := hbt2.2
    clear hf8 hlv hlog hK cnz cw0z cw1z cn cw0 cw1 hbt1 hbt2 q1 c0 hq1
    go_upto_block 4 with fail
    go_cut [9, 10] from 54 to 167 (fun p kk wx => p = .string (sOf (doneAll X.safe (X.log.take K))) ∧ kk = .int .i64 (K : Nat) ∧ Sd (Keeps NoB w8 wx))
    case first =>
      go_wp2_with fail
      go_loopg [9, 10] X.log.length (fun gk p kk wr2 => ∃ (j : Nat), gk + j = X.log.length ∧ j ≤ K ∧ p = .string (sOf (doneAll X.safe (X.log.take j))) ∧ kk = .int .i64 j ∧ Sd (Keeps NoB w8 wr2))
      case atStart => exact ⟨0, by omega, Nat.zero_le _, rfl, rfl, ⟨Keeps.refl _ _⟩⟩
      case round =>
        obtain ⟨j, hj, hjK, rfl, rfl, HK2⟩ := hrel
        have d2 := HK2.o.cell c2 (fun f => f)
        have dt1 := HK2.o.cell ct1 (fun f => f)
        by_cases hjl : j < X.log.length
        · have hq1 : (j : Int) < (X.log.length : Int) := by omega
          have hqj : (0 : Int) ≤ (j : Int) := by omega
          by_cases hjw : (j : Int) < tt.writes
          · obtain ⟨gl, cc, e, p0, p1, p2⟩ := RLogV.get (OwnW.keeps HLOG.o HK2.o (fun _ _ f => f)) hjl
            cases e
            have HSUC := Sd.mk (doneAll_succ X.safe X.log j hjl)
            have hP := (HLG.o.take j).all
            have hpos := HLG.o.at_ j hjl
            have hdp := HPS.o _ (List.getElem_mem hjl)
            obtain ⟨P, hPe⟩ : ∃ P, P = doneAll X.safe (X.log.take j) := ⟨_, rfl⟩
            rw [← hPe] at hP hpos HSUC ⊢
            clear hPe
            generalize X.log[j] = dd at *
            obtain ⟨dcut, dpos, dp⟩ := dd
            dsimp only at *
            have hdl := sOf_size dp
            have HDN : Sd (∀ x : After wr, Calls Tryz.prog 36 #[.string (sOf P), .agg #[.bool dcut, .int .i64 (dpos : Nat), .string (sOf dp)], .int .i64 (dp.length : Nat)] x.w fun e w' => e = .returned (.string (sOf (doneOn P ⟨dcut, dpos, dp⟩))) ∧ Keeps NoB x.w w') := ⟨fun x => by
              have := rdone_any x.w P ⟨dcut, dpos, dp⟩ dp.length (by omega) hdp hpos (Nat.le_refl _)
              dsimp only at this
              rw [List.take_length] at this
              exact this⟩
            have d2x : ∀ x : After wr, x.w.cell? ⟨fb, 2, none⟩ = some (.slice (some ⟨gl, 0, none⟩) X.log.length cl) := fun x => x.cell d2
            have p0x : ∀ x : After wr, x.w.cell? ⟨gl, j * 3, none⟩ = some (.bool dcut) := fun x => x.cell p0
            have p1x : ∀ x : After wr, x.w.cell? ⟨gl, j * 3 + 1, none⟩ = some (.int .i64 (dpos : Nat)) := fun x => x.cell p1
            have p2x : ∀ x : After wr, x.w.cell? ⟨gl, j * 3 + 2, none⟩ = some (.string (sOf dp)) := fun x => x.cell p2
            go_upto_region 17 with fail
            refine wp_region_after wr (Keeps.refl _ _) (by kernel_rfl) (by kernel_rfl) ?_
            repeat (go_big_quiet_step (first | (go_at_call 36; exact Calls.after (HDN.o _))))
            refine wpQuiet_nil ?_
            rintro _ ⟨x, rfl⟩
            go_wp2_with fail
            go_roundg (gk - 1)
            case measure => omega
            case rel => exact ⟨j + 1, by omega, by omega, by rw [HSUC.o], by go_num, ⟨HK2.o.then x.k⟩⟩
          · have hjKe : j = K := by omega
            go_wp2_with fail
            go_meet
            exact ⟨rfl, rfl, HK2⟩
        · have hq1 : ¬ (j : Int) < (X.log.length : Int) := by omega
          have hjKe : j = K := by omega
          go_wp2_with fail
          go_meet
          exact ⟨rfl, rfl, HK2⟩
    obtain ⟨rfl, rfl, HK9⟩ := hcut
    obtain ⟨w9, hw9⟩ : ∃ w9, w9 = wc := ⟨_, rfl⟩
    subst hw9
    have HF9 := Sd.mk (HF8.o.keeps HK9.o (fun _ _ f => f))
    have d2 := HK9.o.cell c2 (fun f => f)
    have dt2 := HK9.o.cell ct2 (fun f => f)
    have hPK := (HLG.o.take K).all
    obtain ⟨P, hPe⟩ : ∃ P, P = doneAll X.safe (X.log.take K) := ⟨_, rfl⟩
    rw [← hPe] at hPK ⊢
    have HPE := Sd.mk hPe
    clear hPe c2 c3 c1 ct1 ct2 f1 f2 f3
    by_cases hKlt : K < X.log.length
    case neg =>
      have hq1 : ¬ (K : Int) < (X.log.length : Int) := by omega
      have HE : Sd (crP X tt = P) := ⟨by
        rw [HPE.o, HKE.o]
        exact crP_none X tt (by rw [← HKE.o]; omega)⟩
      have HKA : Sd (Keeps NoB wr w9) := ⟨(HK8.o.then HK9.o).then (Keeps.refl NoB w9)⟩
      have hf10 := HF9.o.keeps (Keeps.refl NoB w9) (fun _ _ f => f)
      have f1 := blk_frozen hf10.blk 1
      have f2 := blk_frozen hf10.blk 2
      have f3 := blk_frozen hf10.blk 3
      have g1 := hf10.c.2.1
      have g3 := hf10.c.2.2.2
      rw [← HFB.o] at f1 f2 f3 g1 g3
      have HF10 := Sd.mk hf10
      clear hf10
      go_wp2_with fail
      go_roundg (gk - 1)
      case measure => omega
      case rel =>
        refine ⟨k + 1, by omega, by go_num, ⟨?_⟩, ⟨?_⟩⟩
        · rw [← HST.o]
          refine RsTo.trans HMB.o HGK.o HKK.o (RsTo.after HKA.o (rs_setfile (HIK.o.kept HKA.o) hkm (lv' := .slice none 0 0) ⟨?_, rlogV_nil _⟩ ?_ (fun i hi => by simp [Value.ownBlock] at hi)))
          · rw [HFB.o, crash_crP, HE.o]
            exact blk_set (blk_set (blk_set HF10.o.blk 3 _) 1 _) 2 _
          · rw [HFB.o]
            exact (((Keeps.refl _ w9).setCell ⟨(mk.fs[k]).fb, 3, none⟩ _ (fun _ => .inl rfl)).setCell ⟨(mk.fs[k]).fb, 1, none⟩ _ (fun _ => .inl rfl)).setCell ⟨(mk.fs[k]).fb, 2, none⟩ _ (fun _ => .inl rfl)
        · exact ((((Keeps.refl (OneB fb) w9).setCell ⟨fb, 3, none⟩ _ (fun _ => rfl)).setCell ⟨fb, 1, none⟩ _ (fun _ => rfl)).setCell ⟨fb, 2, none⟩ _ (fun _ => rfl)).obj (HKA.o.obj HWK.o (fun f => f)) (fun f => hgwb f)
    have hq1 : (K : Int) < (X.log.length : Int) := by omega
    have hqK : (0 : Int) ≤ (K : Int) := by omega
    obtain ⟨gl, cc, e, p0, p1, p2⟩ := RLogV.get (OwnW.keeps HLOG.o HK9.o (fun _ _ f => f)) hKlt
    cases e
    have hpos := HLG.o.at_ K hKlt
    rw [← HPE.o] at hpos
    have hdp := HPS.o _ (List.getElem_mem hKlt)
    have HCUT := Sd.mk (fun hc hp => (crP_cut X tt K HKE.o hKlt hc hp).trans HPE.o.symm)
    have hdone := crP_done X tt K HKE.o hKlt
    rw [← HPE.o] at hdone
    have HDONE := Sd.mk hdone
    clear hdone
    generalize X.log[K] = dd at *
    obtain ⟨dcut, dpos, dp⟩ := dd
    dsimp only at *
    cases dcut with
    | true =>
      have HE : Sd (crP X tt = P) := ⟨HCUT.o (.inl rfl) (fun h => by cases h)⟩
      clear HCUT HDONE
      have HKA : Sd (Keeps NoB wr w9) := ⟨(HK8.o.then HK9.o).then (Keeps.refl NoB w9)⟩
      have hf10 := HF9.o.keeps (Keeps.refl NoB w9) (fun _ _ f => f)
      have f1 := blk_frozen hf10.blk 1
      have f2 := blk_frozen hf10.blk 2
      have f3 := blk_frozen hf10.blk 3
      have g1 := hf10.c.2.1
      have g3 := hf10.c.2.2.2
      rw [← HFB.o] at f1 f2 f3 g1 g3
      have HF10 := Sd.mk hf10
      clear hf10
      go_wp2_with fail
      go_roundg (gk - 1)
      case measure => omega
      case rel =>
        refine ⟨k + 1, by omega, by go_num, ⟨?_⟩, ⟨?_⟩⟩
        · rw [← HST.o]
          refine RsTo.trans HMB.o HGK.o HKK.o (RsTo.after HKA.o (rs_setfile (HIK.o.kept HKA.o) hkm (lv' := .slice none 0 0) ⟨?_, rlogV_nil _⟩ ?_ (fun i hi => by simp [Value.ownBlock] at hi)))
          · rw [HFB.o, crash_crP, HE.o]
            exact blk_set (blk_set (blk_set HF10.o.blk 3 _) 1 _) 2 _
          · rw [HFB.o]
            exact (((Keeps.refl _ w9).setCell ⟨(mk.fs[k]).fb, 3, none⟩ _ (fun _ => .inl rfl)).setCell ⟨(mk.fs[k]).fb, 1, none⟩ _ (fun _ => .inl rfl)).setCell ⟨(mk.fs[k]).fb, 2, none⟩ _ (fun _ => .inl rfl)
        · exact ((((Keeps.refl (OneB fb) w9).setCell ⟨fb, 3, none⟩ _ (fun _ => rfl)).setCell ⟨fb, 1, none⟩ _ (fun _ => rfl)).setCell ⟨fb, 2, none⟩ _ (fun _ => rfl)).obj (HKA.o.obj HWK.o (fun f => f)) (fun f => hgwb f)
    | false =>
      by_cases hby : 0 < tt.bytes
      · have hdl := sOf_size dp
        obtain ⟨mn, hmn⟩ : ∃ mn : Nat, mn = min tt.bytes.toNat dp.length := ⟨_, rfl⟩
        have hmi : min tt.bytes (dp.length : Int) = (mn : Int) := by
          rw [hmn]
          rcases Nat.le_total tt.bytes.toNat dp.length with h9 | h9
          · rw [Nat.min_eq_left h9, Int.min_eq_left (by omega)]; omega
          · rw [Nat.min_eq_right h9, Int.min_eq_right (by omega)]
        have HDN : Sd (∀ x : After w9, Calls Tryz.prog 36 #[.string (sOf P), .agg #[.bool false, .int .i64 (dpos : Nat), .string (sOf dp)], .int .i64 (mn : Nat)] x.w fun e w' => e = .returned (.string (sOf (crP X tt))) ∧ Keeps NoB x.w w') := ⟨fun x => by
          have := rdone_any x.w P ⟨false, dpos, dp⟩ mn (by omega) hdp hpos (show mn ≤ dp.length by omega)
          dsimp only at this
          have e2 : dp.take mn = dp.take tt.bytes.toNat := by rw [List.take_eq_take_iff]; omega
          rw [e2] at this
          rw [HDONE.o rfl]
          exact this⟩
        have d2x : ∀ x : After w9, x.w.cell? ⟨fb, 2, none⟩ = some (.slice (some ⟨gl, 0, none⟩) X.log.length cl) := fun x => x.cell d2
        have dtx : ∀ x : After w9, x.w.cell? ⟨g8, 2, none⟩ = some (.int .i64 tt.bytes) := fun x => x.cell dt2
        have p0x : ∀ x : After w9, x.w.cell? ⟨gl, K * 3, none⟩ = some (.bool false) := fun x => x.cell p0
        have p1x : ∀ x : After w9, x.w.cell? ⟨gl, K * 3 + 1, none⟩ = some (.int .i64 (dpos : Nat)) := fun x => x.cell p1
        have p2x : ∀ x : After w9, x.w.cell? ⟨gl, K * 3 + 2, none⟩ = some (.string (sOf dp)) := fun x => x.cell p2
        clear hmn HCUT
        go_upto_region 20 with fail
        refine wp_region_after w9 (Keeps.refl _ _) (by kernel_rfl) (by kernel_rfl) ?_
        repeat (go_big_quiet_step (first | (go_at_call 36; exact Calls.after (HDN.o _))))
        refine wpQuiet_nil ?_
        rintro _ ⟨x, rfl⟩
        have HKA : Sd (Keeps NoB wr x.w) := ⟨(HK8.o.then HK9.o).then x.k⟩
        have hf10 := HF9.o.keeps x.k (fun _ _ f => f)
        have f1 := blk_frozen hf10.blk 1
        have f2 := blk_frozen hf10.blk 2
        have f3 := blk_frozen hf10.blk 3
        have g1 := hf10.c.2.1
        have g3 := hf10.c.2.2.2
        rw [← HFB.o] at f1 f2 f3 g1 g3
        have HF10 := Sd.mk hf10
        clear hf10
        go_wp2_with fail
        go_roundg (gk - 1)
        case measure => omega
        case rel =>
          refine ⟨k + 1, by omega, by go_num, ⟨?_⟩, ⟨?_⟩⟩
          · rw [← HST.o]
            refine RsTo.trans HMB.o HGK.o HKK.o (RsTo.after HKA.o (rs_setfile (HIK.o.kept HKA.o) hkm (lv' := .slice none 0 0) ⟨?_, rlogV_nil _⟩ ?_ (fun i hi => by simp [Value.ownBlock] at hi)))
            · rw [HFB.o, crash_crP]
              exact blk_set (blk_set (blk_set HF10.o.blk 3 _) 1 _) 2 _
            · rw [HFB.o]
              exact (((Keeps.refl _ x.w).setCell ⟨(mk.fs[k]).fb, 3, none⟩ _ (fun _ => .inl rfl)).setCell ⟨(mk.fs[k]).fb, 1, none⟩ _ (fun _ => .inl rfl)).setCell ⟨(mk.fs[k]).fb, 2, none⟩ _ (fun _ => .inl rfl)
          · exact ((((Keeps.refl (OneB fb) x.w).setCell ⟨fb, 3, none⟩ _ (fun _ => rfl)).setCell ⟨fb, 1, none⟩ _ (fun _ => rfl)).setCell ⟨fb, 2, none⟩ _ (fun _ => rfl)).obj (HKA.o.obj HWK.o (fun f => f)) (fun f => hgwb f)
      · have HE : Sd (crP X tt = P) := ⟨HCUT.o (.inr (by omega)) (fun _ => by rw [← HPE.o]; exact hpos)⟩
        clear HCUT HDONE
        have HKA : Sd (Keeps NoB wr w9) := ⟨(HK8.o.then HK9.o).then (Keeps.refl NoB w9)⟩
        have hf10 := HF9.o.keeps (Keeps.refl NoB w9) (fun _ _ f => f)
        have f1 := blk_frozen hf10.blk 1
        have f2 := blk_frozen hf10.blk 2
        have f3 := blk_frozen hf10.blk 3
        have g1 := hf10.c.2.1
        have g3 := hf10.c.2.2.2
        rw [← HFB.o] at f1 f2 f3 g1 g3
        have HF10 := Sd.mk hf10
        clear hf10
        go_wp2_with fail
        go_roundg (gk - 1)
        case measure => omega
        case rel =>
          refine ⟨k + 1, by omega, by go_num, ⟨?_⟩, ⟨?_⟩⟩
          · rw [← HST.o]
            refine RsTo.trans HMB.o HGK.o HKK.o (RsTo.after HKA.o (rs_setfile (HIK.o.kept HKA.o) hkm (lv' := .slice none 0 0) ⟨?_, rlogV_nil _⟩ ?_ (fun i hi => by simp [Value.ownBlock] at hi)))
            · rw [HFB.o, crash_crP, HE.o]
              exact blk_set (blk_set (blk_set HF10.o.blk 3 _) 1 _) 2 _
            · rw [HFB.o]
              exact (((Keeps.refl _ w9).setCell ⟨(mk.fs[k]).fb, 3, none⟩ _ (fun _ => .inl rfl)).setCell ⟨(mk.fs[k]).fb, 1, none⟩ _ (fun _ => .inl rfl)).setCell ⟨(mk.fs[k]).fb, 2, none⟩ _ (fun _ => .inl rfl)
          · exact ((((Keeps.refl (OneB fb) w9).setCell ⟨fb, 3, none⟩ _ (fun _ => rfl)).setCell ⟨fb, 1, none⟩ _ (fun _ => rfl)).setCell ⟨fb, 2, none⟩ _ (fun _ => rfl)).obj (HKA.o.obj HWK.o (fun f => f)) (fun f => hgwb f)
end Go.Proofs.YtdjamijbhaplgaaGreat
