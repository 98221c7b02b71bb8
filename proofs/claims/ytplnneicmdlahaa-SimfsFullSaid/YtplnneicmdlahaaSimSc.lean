/- SimfsSwitch: its walk. -/
import Derived.Test.YtplnneicmdlahaaSimSb
import Derived.Deep.RegionHeld3
import Derived.Deep.RegionLaw
import Derived.Deep.DeepCutAuto
namespace Go.Proofs.Ytplnneicmdlahaa
open Go.RowKit Go.Maps Go.Lib

theorem flowAt_append {P : Program} {R : World → World → Prop} {o : Oper} {a : Act} {w w' : World} {out : Value → World → Prop} (s x : Operand) (t : TypeId) (ho : o.op = .call { callee := .builtin .append, args := #[s, x], argTypes := #[t, t] })
    {vs vx v' : Value} (hs : a.eval s = vs) (hx : a.eval x = vx) (hr : (Builtin.append_ #[t, t] o.type #[vs, vx]).run P w = .ok v' w') (h : R w w' ∧ out v' w') : flowAt P o a R w out := by
  unfold flowAt execOp
  simp only [ho, resolve, invoke, builtin, Sem.run_bind, Sem.run_pure, Result.andThen_ok, List.map_toArray, List.map_cons, List.map_nil, hs, hx, hr]
  exact h
/-- The worlds of the statement that crashes. -/
def swJ (W0 W1 W2 : World) (P : World → Prop) : Nat → World → Prop
  | 0, w => w = W0
  | 1, w => w = W1
  | 2, w => w = W2
  | 3, w => w = W2
  | _, w => P w
section
variable {w0 w : World} {b N : Nat} {s : FSt}
theorem la_create_it (h : LiveAt w0 b s w) (inv : Inv N s) (hN : N ≤ 900000000) :
    Calls Try.prog 8 #[.pointer (some ⟨b, 0, none⟩), .string ⟨#[105, 116]⟩] w fun e w' => e = .returned (.tuple #[.int .i64 (s.create itL).1, .int .i64 (s.create itL).2.1]) ∧ LiveAt w0 b (s.create itL).2.2 w' ∧ KeepU w w' := la_create h inv hN ⟨#[105, 116]⟩ (by decide)
theorem la_create_new (h : LiveAt w0 b s w) (inv : Inv N s) (hN : N ≤ 900000000) :
    Calls Try.prog 8 #[.pointer (some ⟨b, 0, none⟩), .string ⟨#[105, 116, 46, 110, 101, 119]⟩] w fun e w' => e = .returned (.tuple #[.int .i64 (s.create newL).1, .int .i64 (s.create newL).2.1]) ∧ LiveAt w0 b (s.create newL).2.2 w' ∧ KeepU w w' := la_create h inv hN ⟨#[105, 116, 46, 110, 101, 119]⟩ (by decide)
theorem la_rename_it (h : LiveAt w0 b s w) (inv : Inv N s) (hN : N ≤ 900000000) :
    Calls Try.prog 13 #[.pointer (some ⟨b, 0, none⟩), .string ⟨#[105, 116, 46, 110, 101, 119]⟩, .string ⟨#[105, 116]⟩] w fun e w' => e = .returned (.int .i64 (s.rename newL itL).1) ∧ LiveAt w0 b (s.rename newL itL).2 w' ∧ KeepU w w' := la_rename h inv hN ⟨#[105, 116, 46, 110, 101, 119]⟩ ⟨#[105, 116]⟩ (by decide) (by decide)
theorem la_open_it (h : LiveAt w0 b s w) :
    Calls Try.prog 16 #[.pointer (some ⟨b, 0, none⟩), .string ⟨#[105, 116]⟩] w fun e w' => e = .returned (.tuple #[.int .i64 (s.opened itL).1, .int .i64 (s.opened itL).2]) ∧ Keeps NoB w w' := la_open h ⟨#[105, 116]⟩ (by decide)
end
set_option maxHeartbeats 4000000 in
set_option maxRecDepth 100000 in
theorem switch_walk (W : World) (Ao : Option Addr) (co : Nat) (old : List UInt8) (hbo : Bts W (.slice Ao old.length co) old) (Af : Option Addr) (cf : Nat) (fresh : List UInt8) (hbf : Bts W (.slice Af fresh.length cf) fresh)
    (stop dir : Int) (_hs0 : -9223372036854775808 ≤ stop) (hs1 : stop ≤ 9223372036854775807) (hd0 : -9223372036854775808 ≤ dir) (hd1 : dir ≤ 9223372036854775807) (At : Option Addr) (ct : Nat) (l : List TornS) (hT : TRd W At l)
    (hbd : ∀ t ∈ l, (-9223372036854775808 ≤ t.writes ∧ t.writes ≤ 9223372036854775807) ∧ (-9223372036854775808 ≤ t.bytes ∧ t.bytes ≤ 9223372036854775807)) (hl : l.length ≤ 9223372036854775807) (hol : old.length ≤ 9223372036854775807) (hfl : fresh.length ≤ 9223372036854775807) :
    Calls Try.prog 3 #[.agg #[.slice Ao old.length co, .slice Af fresh.length cf, .int .i64 stop, .int .i64 dir, .slice At l.length ct]] W fun e W' => e = .returned (.bool true) ∧ Keeps NoB W W' := by
  have HBO := Sd.mk hbo
  have HBF := Sd.mk hbf
  have HT := Sd.mk hT
  have HBD := Sd.mk hbd
  clear hbo hbf hT hbd
  go_enter Try.func3, Try.ntmps3
  go_wp2_with fail
  go_region
  have hb6 : (((W.alloc (.cells #[.slice Ao old.length co, .slice Af fresh.length cf, .int .i64 stop, .int .i64 dir, .slice At l.length ct] 27)).alloc (.cells #[.int .i64 dir, .slice At l.length ct] 25)).drew).heap[W.heap.size + 1]? = some (.cells #[.int .i64 dir, .slice At l.length ct] 25) := heap_alloc2_new _ _ _
  have HK1 : Sd (Keeps NoB W (((W.alloc (.cells #[.slice Ao old.length co, .slice Af fresh.length cf, .int .i64 stop, .int .i64 dir, .slice At l.length ct] 27)).alloc (.cells #[.int .i64 dir, .slice At l.length ct] 25)).drew)) := ⟨(((Keeps.refl NoB W).alloc _).alloc _).drew⟩
  generalize ((W.alloc (.cells #[.slice Ao old.length co, .slice Af fresh.length cf, .int .i64 stop, .int .i64 dir, .slice At l.length ct] 27)).alloc (.cells #[.int .i64 dir, .slice At l.length ct] 25)).drew = w1 at *
  generalize W.heap.size + 1 = g6 at *
  generalize W.heap.size = g1 at *
  have HBO1 := Sd.mk (HBO.o.keeps HK1.o (fun _ _ _ _ _ f => f))
  have HBF1 := Sd.mk (HBF.o.keeps HK1.o (fun _ _ _ _ _ f => f))
  have HT1 := Sd.mk (HT.o.kept HK1.o)
  have hc0 : w1.cell? ⟨g6, 0, none⟩ = some (.int .i64 dir) := blk_cell hb6 0
  have hc1 : w1.cell? ⟨g6, 1, none⟩ = some (.slice At l.length ct) := blk_cell hb6 1
  have HB6 := Sd.mk hb6
  clear HBO HBF HT hb6
  by_cases h1 : (20000 : Int) < old.length
  · go_wp2_with (go_at_call 5; refine (flive_any _).mono ?_; rintro e w' ⟨rfl, hk⟩)
    go_ret
    exact ⟨rfl, HK1.o.then hk⟩
  by_cases h2 : (20000 : Int) < fresh.length
  · go_wp2_with (go_at_call 5; refine (flive_any _).mono ?_; rintro e w' ⟨rfl, hk⟩)
    go_ret
    exact ⟨rfl, HK1.o.then hk⟩
  by_cases h3 : (200 : Int) < l.length
  · go_wp2_with (go_at_call 5; refine (flive_any _).mono ?_; rintro e w' ⟨rfl, hk⟩)
    go_ret
    exact ⟨rfl, HK1.o.then hk⟩
  go_wp2_with (go_at_call 6; refine (new_any _ 67108864 (by decide) (by decide)).mono ?_; rintro e w2 ⟨m, rfl, hi, ho, hk⟩)
  have H0 : Sd (LiveAt w1 m.b (FSt.fresh 67108864) w2) := ⟨⟨m, rfl, hi, ho, hk⟩⟩
  have I0 : Sd (Inv 0 (FSt.fresh 67108864)) := ⟨Inv.fresh (by decide) (by decide)⟩
  obtain ⟨hst1, hst2⟩ := sw_start old (by omega)
  have HS1 := Sd.mk hst1
  have HS2 := Sd.mk hst2
  generalize m.b = b at *
  clear hi ho hk m hst1 hst2
  generalize FSt.fresh 67108864 = s0 at *
  have C := la_create_it H0.o I0.o (by decide)
  have I1 := Sd.mk (I0.o.create itL)
  rw [HS1.o] at C
  generalize (s0.create itL).2.2 = s1 at *
  generalize (s0.create itL).2.1 = e1 at *
  have CC := Sd.mk C
  clear C
  go_wp2_with (first | (go_at_call 7; refine (num_law2 _ _).mono ?_; rintro e w' ⟨rfl, rfl⟩) | (go_at_call 8; refine CC.o.mono ?_; rintro e u1 ⟨rfl, h, -⟩; have H1 := Sd.mk h; clear h) | (at_builtin; go_must (refine app_lit0 rfl _ _ 22 5 (.int .u8 0) 1 rfl Try.underlying22 infoU8' rfl _ rfl rfl Ao old.length co (bvs old) rfl (bvs_length old) (rd_vrd (HBO1.o.keeps H1.o.keeps (fun _ _ _ _ _ f => f)).rd.2.2.2.2.2) (bvs_one old) (by omega) (by omega) ?_); intro A4 c4 v1 HO4 HK4 HF4; have HP := Sd.mk (And.intro HO4 (And.intro HK4 HF4)); clear HO4 HK4 HF4))
  clear CC H0 I0 HS1
  have HA1 : Sd (LiveAt w1 b s1 v1) := ⟨H1.o.kept HP.o.2.1⟩
  have HR := Sd.mk (OwnV.rowU HP.o.1)
  clear HP
  have C := la_append HA1.o I1.o (by decide) 1 A4 c4 old HR.o (by omega)
  have I2 := Sd.mk (I1.o.append 1 old (by omega))
  generalize (s1.append 1 old).2 = s2 at *
  generalize (s1.append 1 old).1 = r1 at *
  have CC := Sd.mk C
  clear C
  go_wp2_with (go_at_call 9; refine CC.o.mono ?_; rintro e u2 ⟨rfl, h, -⟩; have H2 := Sd.mk h; clear h)
  clear CC H1 I1
  clear HA1 HR
  have C := la_sync H2.o I2.o (by decide) 1
  have I3 := Sd.mk (I2.o.sync 1)
  generalize (s2.sync 1).2 = s3 at *
  generalize (s2.sync 1).1 = r2 at *
  have CC := Sd.mk C
  clear C
  go_wp2_with (go_at_call 10; refine CC.o.mono ?_; rintro e u3 ⟨rfl, h, -⟩; have H3 := Sd.mk h; clear h)
  clear CC H2 I2
  have C := la_syncdir H3.o I3.o (by decide)
  have I4 := Sd.mk (I3.o.syncDir)
  generalize s3.syncDir.2 = s4 at *
  generalize s3.syncDir.1 = r3 at *
  have CC := Sd.mk C
  clear C
  go_wp2_with (go_at_call 11; refine CC.o.mono ?_; rintro e u4 ⟨rfl, h, -⟩; have H4 := Sd.mk h; clear h)
  clear CC H3 I3
  have C := la_arm H4.o stop
  have I5 := Sd.mk (I4.o.arm stop (by omega))
  have HS3 : Sd (s4.arm stop = swS old 4 (max stop (-1)) (decide (stop = 0))) := ⟨by rw [HS2.o]; rfl⟩
  generalize s4.arm stop = s5 at *
  have CC := Sd.mk C
  clear C
  go_wp2_with (go_at_call 12; refine CC.o.mono ?_; rintro e u5 ⟨rfl, h, -⟩; have H5 := Sd.mk h; clear h)
  clear CC H4 I4
  clear HS2
  have C := la_create_new H5.o I5.o (by decide)
  have I6 := Sd.mk (I5.o.create newL)
  obtain ⟨s6, hs6⟩ : ∃ s6, s6 = (s5.create newL).2.2 := ⟨_, rfl⟩
  obtain ⟨n6, hn6⟩ : ∃ n6, n6 = (s5.create newL).1 := ⟨_, rfl⟩
  have HE6 := Sd.mk hs6
  have HN6 := Sd.mk hn6
  rw [← hs6, ← hn6] at C
  rw [← hs6] at I6
  clear hs6 hn6
  generalize (s5.create newL).2.1 = e2 at *
  have CC := Sd.mk C
  clear C
  go_wp2_with (first | (go_at_call 8; refine CC.o.mono ?_; rintro e u6 ⟨rfl, h, -⟩; have H6 := Sd.mk h; clear h) | (at_builtin; go_must (refine app_lit0 rfl _ _ 22 5 (.int .u8 0) 1 rfl Try.underlying22 infoU8' rfl _ rfl rfl Af fresh.length cf (bvs fresh) rfl (bvs_length fresh) (rd_vrd (HBF1.o.keeps H6.o.keeps (fun _ _ _ _ _ f => f)).rd.2.2.2.2.2) (bvs_one fresh) (by omega) (by omega) ?_); intro A4 c4 v2 HO4 HK4 HF4; have HP := Sd.mk (And.intro HO4 (And.intro HK4 HF4)); clear HO4 HK4 HF4))
  clear CC H5 I5
  have HA2 : Sd (LiveAt w1 b s6 v2) := ⟨H6.o.kept HP.o.2.1⟩
  have HR := Sd.mk (OwnV.rowU HP.o.1)
  clear HP
  have C := la_append HA2.o I6.o (by decide) n6 A4 c4 fresh HR.o (by omega)
  have I7 := Sd.mk (I6.o.append n6 fresh (by omega))
  obtain ⟨s7, hs⟩ : ∃ s7, s7 = (s6.append n6 fresh).2 := ⟨_, rfl⟩
  have HE7 := Sd.mk hs
  rw [← hs] at C I7
  clear hs
  generalize (s6.append n6 fresh).1 = r7 at *
  have CC := Sd.mk C
  clear C
  go_wp2_with (go_at_call 9; refine CC.o.mono ?_; rintro e u7 ⟨rfl, h, -⟩; have H7 := Sd.mk h; clear h)
  clear CC H6 I6
  clear HA2 HR
  have C := la_sync H7.o I7.o (by decide) n6
  have I8 := Sd.mk (I7.o.sync n6)
  obtain ⟨s8, hs⟩ : ∃ s8, s8 = (s7.sync n6).2 := ⟨_, rfl⟩
  have HE8 := Sd.mk hs
  rw [← hs] at C I8
  clear hs
  generalize (s7.sync n6).1 = r8 at *
  have CC := Sd.mk C
  clear C
  go_wp2_with (go_at_call 10; refine CC.o.mono ?_; rintro e u8 ⟨rfl, h, -⟩; have H8 := Sd.mk h; clear h)
  clear CC H7 I7
  have C := la_rename_it H8.o I8.o (by decide)
  have I9 := Sd.mk (I8.o.rename newL itL)
  obtain ⟨s9, hs⟩ : ∃ s9, s9 = (s8.rename newL itL).2 := ⟨_, rfl⟩
  have HE9 := Sd.mk hs
  rw [← hs] at C I9
  clear hs
  generalize (s8.rename newL itL).1 = r9 at *
  have CC := Sd.mk C
  clear C
  go_wp2_with (go_at_call 13; refine CC.o.mono ?_; rintro e u9 ⟨rfl, h, -⟩; have H9 := Sd.mk h; clear h)
  clear CC H8 I8
  have C := la_syncdir H9.o I9.o (by decide)
  have I10 := Sd.mk (I9.o.syncDir)
  obtain ⟨s10, hs⟩ : ∃ s10, s10 = s9.syncDir.2 := ⟨_, rfl⟩
  have HE10 := Sd.mk hs
  rw [← hs] at C I10
  clear hs
  generalize s9.syncDir.1 = r10 at *
  have CC := Sd.mk C
  clear C
  go_wp2_with (go_at_call 11; refine CC.o.mono ?_; rintro e u10 ⟨rfl, h, -⟩; have H10 := Sd.mk h; clear h)
  clear CC H9 I9
  have HSEEN : Sd (Seen s10 old fresh dir l) := ⟨by
    have := switch_plain old fresh (by omega) (by omega) 4 (max stop (-1)) (decide (stop = 0)) dir l
    rw [← HS3.o] at this
    unfold swEnd at this
    rw [← HE6.o, ← HN6.o, ← HE7.o, ← HE8.o, ← HE9.o, ← HE10.o] at this
    exact this⟩
  clear HS3 HE6 HN6 HE7 HE8 HE9 HE10
  go_wp2_with (go_at_call 14; refine (la_dead H10.o).mono ?_; rintro e w' ⟨rfl, rfl⟩)
  obtain ⟨u11, hu11⟩ : ∃ u11, u11 = u10.drew := ⟨_, rfl⟩
  have HK11 : Sd (Keeps NoB u10 u11) := ⟨by rw [hu11]; exact (Keeps.refl NoB u10).drew⟩
  have HU := Sd.mk hu11.symm
  clear hu11
  have HT10 := Sd.mk (HT1.o.kept (H10.o.keeps.then HK11.o))
  obtain ⟨w2T, A', c', hr, hTc, hKc, hAc⟩ := torn_copy u11 At ct l HT10.o (by omega)
  have HTC := Sd.mk hTc
  have HKC := Sd.mk hKc
  have HAC := Sd.mk hAc
  clear hTc hKc hAc
  have hg6 : g6 < w1.heap.size := (Array.getElem?_eq_some_iff.1 HB6.o).1
  have HJC : Sd (∀ n wx, swJ u11 (u11.alloc (.cells #[] 58)) w2T (LiveAt w1 b (s10.crash dir l)) n wx → wx.cell? ⟨g6, 0, none⟩ = some (.int .i64 dir) ∧ wx.cell? ⟨g6, 1, none⟩ = some (.slice At l.length ct)) := ⟨fun n wx hJ => by
    have hk : Keeps NoB w1 wx := by
      match n, hJ with
      | 0, hJ => subst hJ; exact H10.o.keeps.then HK11.o
      | 1, hJ => subst hJ; exact (H10.o.keeps.then HK11.o).alloc _
      | 2, hJ => subst hJ; exact (H10.o.keeps.then HK11.o).then HKC.o
      | 3, hJ => subst hJ; exact (H10.o.keeps.then HK11.o).then HKC.o
      | n + 4, hJ => exact hJ.keeps
    exact ⟨hk.cell hc0 (fun f => f), hk.cell hc1 (fun f => f)⟩⟩
  refine wp_region_chain (J := swJ u11 (u11.alloc (.cells #[] 58)) w2T (LiveAt w1 b (s10.crash dir l))) (R := fun _ _ => True) [3, 6, 7, 8] (fun _ => trivial) (by kernel_rfl) (by kernel_rfl) (by kernel_rfl) HU.o ?_
  apply chain_const
  · intro _; kernel_rfl
  · rfl
  · intro s wx n hJ hF
    obtain ⟨k0, k1⟩ := HJC.o n wx hJ
    clear hF
    unfold flowAt
    go_simp
    exact ⟨trivial, rfl, hJ⟩
  intro K hK
  go_simp
  refine hK _ ?_
  clear hK K
  apply chain_const
  · intro _; kernel_rfl
  · rfl
  · intro s wx n hJ hF
    obtain ⟨k0, k1⟩ := HJC.o n wx hJ
    clear hF
    unfold flowAt
    go_simp
    exact ⟨trivial, rfl, hJ⟩
  intro K hK
  go_simp
  refine hK _ ?_
  clear hK K
  apply chain_const
  · intro _; kernel_rfl
  · rfl
  · intro s wx n hJ hF
    obtain ⟨k0, k1⟩ := HJC.o n wx hJ
    clear hF
    unfold flowAt
    go_simp
    exact ⟨trivial, rfl, hJ⟩
  intro K hK
  go_simp
  refine hK _ ?_
  clear hK K
  apply chain_step 0 (.slice (some ⟨u11.heap.size, 0, none⟩) 0 0)
  · intro _; kernel_rfl
  · rfl
  · intro s wx hJ hF
    clear hF
    have hJ' : wx = u11 := hJ
    subst hJ'
    unfold flowAt
    go_simp
    exact ⟨trivial, rfl, rfl⟩
  intro K hK
  go_simp
  refine hK _ ?_
  clear hK K
  apply chain_const
  · intro _; kernel_rfl
  · rfl
  · intro s wx n hJ hF
    obtain ⟨k0, k1⟩ := HJC.o n wx hJ
    clear hF
    unfold flowAt
    go_simp
    exact ⟨trivial, rfl, hJ⟩
  intro K hK
  go_simp
  refine hK _ ?_
  clear hK K
  apply chain_const
  · intro _; kernel_rfl
  · rfl
  · intro s wx n hJ hF
    obtain ⟨k0, k1⟩ := HJC.o n wx hJ
    clear hF
    unfold flowAt
    go_simp
    exact ⟨trivial, rfl, hJ⟩
  intro K hK
  go_simp
  refine hK _ ?_
  clear hK K
  apply chain_step 1 (.slice A' l.length c')
  · intro _; kernel_rfl
  · rfl
  · intro s wx hJ hF
    clear hF
    have hJ' : wx = u11.alloc (.cells #[] 58) := hJ
    subst hJ'
    exact flowAt_append _ _ 23 rfl rfl rfl hr ⟨trivial, rfl, rfl⟩
  intro K hK
  go_simp
  refine hK _ ?_
  clear hK K
  apply chain_step 2 (.agg #[.int .i64 dir, .slice A' l.length c'])
  · intro _; kernel_rfl
  · rfl
  · intro s wx hJ hF
    clear hF
    unfold flowAt
    go_simp
    exact ⟨trivial, rfl, hJ⟩
  intro K hK
  go_simp
  refine hK _ ?_
  clear hK K
  apply chain_step 3 (.tuple #[])
  · intro _; kernel_rfl
  · rfl
  · intro s wx hJ hF
    clear hF
    have hJ' : wx = w2T := hJ
    subst hJ'
    unfold flowAt
    go_simp
    simp only [flowUpon]
    go_at_call 15
    refine (la_crash2 (H10.o.kept HK11.o) I10.o (by decide) HKC.o dir hd0 hd1 A' c' l (by omega) HTC.o HAC.o HBD.o).mono ?_
    rintro e w' ⟨rfl, h, hk⟩
    exact ⟨_, rfl, trivial, rfl, h⟩
  intro K hK
  go_simp
  refine hK _ ?_
  clear hK K
  apply chain_nil
  intro s w11 hJ11 hF
  have H11 : Sd (LiveAt w1 b (s10.crash dir l) w11) := ⟨hJ11⟩
  clear hF hJ11 HJC
  have I11 := Sd.mk (I10.o.crash dir l)
  obtain ⟨hop, hrd, hdn⟩ := HSEEN.o
  have CO := la_open_it H11.o
  have CR := fun wx (hk : Keeps NoB w11 wx) => la_read (H11.o.kept hk) I11.o (by decide) ((s10.crash dir l).opened itL).1 0 67108864 (by decide) (by decide) (by decide) (by decide)
  rw [hop] at CO
  rw [hrd] at CR
  have HDN := Sd.mk hdn
  have HCR := Sd.mk CR
  have HCO := Sd.mk CO
  clear HSEEN hop hrd hdn CO CR H10 I10 I11
  generalize ((s10.crash dir l).read ((s10.crash dir l).opened itL).1 0 67108864).1 = p at *
  generalize ((s10.crash dir l).opened itL).1 = n11 at *
  generalize s10.crash dir l = s11 at *
  generalize s10.off = of at *
  go_wp2_with (go_at_call 16; refine HCO.o.mono ?_; rintro e w12 ⟨rfl, hk12⟩)
  have HK12 := Sd.mk hk12
  have HC := Sd.mk (HCR.o w12 hk12)
  clear HCR HCO hk12
  go_wp2_with (go_at_call 17; refine HC.o.mono ?_; rintro e w13 ⟨A5, c5, rfl, ho5, _, hk5⟩; have HO5 := Sd.mk ho5; have HK5 := Sd.mk hk5; clear ho5 hk5)
  have hkw : Sd (Keeps NoB w1 w13) := ⟨(H11.o.keeps.then HK12.o).then HK5.o⟩
  have hcp := conv_bts (OwnV.rowU HO5.o).1
  have hco := conv_bts (HBO1.o.keeps hkw.o (fun _ _ _ _ _ f => f))
  have hcf := conv_bts (HBF1.o.keeps hkw.o (fun _ _ _ _ _ f => f))
  have HKW : Sd (Keeps NoB W w13) := ⟨HK1.o.then hkw.o⟩
  clear HC HK12 HK5 hkw HO5 HBO1 HBF1 HT1 H11
  clear hr hc0 hc1 HK11 HU HT10 HTC HKC HAC HB6 hg6
  rcases HDN.o with ⟨rfl, rfl⟩ | rfl
  · go_wp2_with (first | (go_at_call 7; refine (num_law2 _ _).mono ?_; rintro e w' ⟨rfl, rfl⟩) | (go_at_call 5; refine (flive_any _).mono ?_; rintro e w' ⟨rfl, hk⟩))
    all_goals (go_ret; exact ⟨rfl, HKW.o.then hk⟩)
  · cases of
    · go_wp2_with (first | (go_at_call 7; refine (num_law2 _ _).mono ?_; rintro e w' ⟨rfl, rfl⟩) | (go_at_call 5; refine (flive_any _).mono ?_; rintro e w' ⟨rfl, hk⟩))
      all_goals (go_ret; exact ⟨rfl, HKW.o.then hk⟩)
    · go_wp2_with (first | (go_at_call 7; refine (num_law2 _ _).mono ?_; rintro e w' ⟨rfl, rfl⟩) | (go_at_call 5; refine (flive_any _).mono ?_; rintro e w' ⟨rfl, hk⟩))
      all_goals (go_ret; exact ⟨rfl, HKW.o.then hk⟩)
end Go.Proofs.Ytplnneicmdlahaa
