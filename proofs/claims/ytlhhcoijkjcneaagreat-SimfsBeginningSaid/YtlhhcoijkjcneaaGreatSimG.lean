/- simfs: bytes behind a write or a cut. -/
import Derived.Deep.RegionLaw
import Derived.Deep.DeepCutAuto
import Derived.Test.YtlhhcoijkjcneaaGreatSimF
namespace Go.Proofs.YtlhhcoijkjcneaaGreat
open Go.RowKit Go.Maps Go.Lib

theorem OwnV.rowU {w : World} {v : Value} {xs : List UInt8} (h : OwnV w 5 v (bvs xs)) : RowU w v xs := by
  refine ⟨h.own.bts, fun a n c e hc => ?_⟩
  subst e
  rcases h.2 with ⟨e0, _⟩ | ⟨g, cap, cur, e0, hb, hg, _⟩
  · cases e0
  · cases e0
    exact ⟨cur, _, hg⟩
/-- A fresh row's block is new. -/
theorem DGrew.fresh {w w' : World} {e : TypeId} {v v' : Value} {vs : List Value} (h : OwnV w' e v' vs) (f : Fresh w v') : DGrew w v v' := fun k hk => by
  rcases h.2 with ⟨rfl, _⟩ | ⟨g, cap, cur, rfl, _⟩
  · cases hk
  · simp only [datB] at hk
    split at hk
    · cases hk
    · have : g = k := by simpa using hk
      subst this
      exact .inr (f g rfl)
theorem cloneB_any (w : World) (A : Option Addr) (n c : Nat) (xs : List UInt8) (h : Bts w (.slice A n c) xs) (hl : xs.length ≤ 140737488355328) :
    Calls Tryz.prog 35 #[.slice A n c] w fun e w' => ∃ A' c', e = .returned (.slice A' xs.length c') ∧ OwnV w' 5 (.slice A' xs.length c') (bvs xs) ∧ Fresh w (.slice A' xs.length c') ∧ Keeps NoB w w' := by
  obtain ⟨rfl, h1, h2, h3, h4, h5⟩ := h.rd
  cases A with
  | none =>
    have hc := h3 rfl
    subst hc
    have hx : xs = [] := List.eq_nil_of_length_eq_zero (by omega)
    subst hx
    refine (clone_nil w _ _).mono ?_
    rintro e w' ⟨rfl, rfl⟩
    exact ⟨none, 0, rfl, (Own.nil w 0).v, fun k hk => by simp [Value.ownBlock] at hk, Keeps.refl _ _⟩
  | some a =>
    have hn : ∀ j u, (bvs xs)[j]? = some u → w.cell? (a.add j) = some u := by
      cases xs with
      | nil => intro j u hj; simp [bvs] at hj
      | cons x l =>
        obtain ⟨b, o, e, _⟩ := h5 0 (by simp)
        cases e
        exact (rd_vrd h5).news
    refine (clone_some w a c xs hl hn).mono ?_
    rintro e w' ⟨v, rfl, hv, _, hb⟩
    have hO := hv.v
    obtain ⟨A', c', rfl⟩ := hO.slice
    rw [bvs_length] at *
    exact ⟨A', c', rfl, hO, fun k hk => (World.ownsRow.lt hv k hk).1, Keeps.of_below hb NoB⟩
section
variable {P : Program} {w : World} {ops : Array Oper} {rest : List Oper} {o : Oper} {a : Act} {Q : Exit → Act → World → Prop}
/-- append of a text onto an owned row of bytes, in a region that draws. -/
theorem step_app_str {K : Act → World → Prop} {E : Prop} (hgd : o.guard = none) (sl x : Operand) (t u e : TypeId) (ho : o.op = .call { callee := .builtin .append, args := #[sl, x], argTypes := #[t, u] })
    (ht : P.underlying t = some (.slice e)) (hu : P.underlying u = some .string) (hi : (P.info? e).map (fun i => (i.zero, i.size, i.bytes)) = some (some (.int .u8 0), 1, 1))
    (v : Value) (vs : List Value) (hs : a.eval sl = v) (hown : OwnV w e v vs) (s : ByteArray) (hx : a.eval x = .string s)
    (hb : vs.length + s.size ≤ 140737488355328)
    (h : ∀ A' c' w', OwnV w' e (.slice A' (vs.length + s.size) c') (vs ++ bvs s.data.toList) → Keeps (ownB v) w w' → Grew w v (.slice A' (vs.length + s.size) c') → K (a.put o.dst (.slice A' (vs.length + s.size) c')) w') : if Region.wanted o (yielded ops a.tmps) = true then o.wp P a w K Q else E := by
  have hw : Region.wanted o (yielded ops a.tmps) = true := by simp [Region.wanted, hgd]
  rw [if_pos hw]
  have h1 : wpList P #[] Q [o] a w → True := fun _ => trivial
  obtain ⟨i0, hi', hz0, hz1, hz2⟩ := info_parts hi
  have hsz : (bvs s.data.toList).length = s.size := by rw [bvs_length]; exact Array.length_toList
  obtain ⟨v', w', hr, h2, h3, h4⟩ := run_append_own_string (P := P) w 0 t u o.type e i0 ht hu hi' hz0 hz1 hz2 v vs.length vs hown s (by unfold maxLen; omega) hb (Nat.zero_le _)
  have h5 : v'.ownBlock = v.ownBlock ∨ v'.ownBlock = some w.heap.size := by
    rcases hown.2 with ⟨rfl, hn⟩ | ⟨g, cap, cur, rfl, hbg, hg, hnc, hcm, hcs, htake⟩
    · by_cases hm : s.size = 0
      · have := h4.2 ⟨rfl, hm⟩
        rw [this]; exact .inl rfl
      · have hr2 := run_append_nil_string (P := P) w t u o.type e i0 (.int .u8 0) ht hu hi' hz0 s (by omega) (by omega) (by rw [hz2]; omega)
        rw [hr] at hr2
        injection hr2 with hv _
        rw [hv]; exact .inr rfl
    · by_cases hroom : vs.length + s.size ≤ cap
      · have hcs' : cur.size = cap := by simpa using hcs
        have hr2 := run_append_room_string (P := P) w t u o.type e i0 ht hu hi' hz1 g vs.length cap cur hg s hroom (by omega)
        rw [hr] at hr2
        injection hr2 with hv _
        rw [hv]; exact .inl rfl
      · have holds : ∀ j u, vs[j]? = some u → w.cell? ((⟨g, 0, none⟩ : Addr).add j) = some u := World.ownsRow.cells hown (g := g) rfl
        have hr2 := run_append_grow_string (P := P) w t u o.type e i0 (.int .u8 0) ht hu hi' hz0 ⟨g, 0, none⟩ vs.length cap vs (by rw [hz1]; simp) holds s (by omega) (by omega) (by rw [hz2]; exact growslice_fits (by omega) (by omega))
        rw [hr] at hr2
        injection hr2 with hv _
        rw [hv]; exact .inr rfl
  unfold Oper.wp execOp
  simp only [ho, resolve, invoke, builtin, Sem.run_bind, Sem.run_pure, Result.andThen_ok, List.map_toArray, List.map_cons, List.map_nil, hs, hx, hr]
  have e1 : (vs ++ bvs s.data.toList).length = vs.length + s.size := by rw [List.length_append, hsz]
  have h2' : OwnV w' e v' (vs ++ bvs s.data.toList) := by unfold OwnV; rw [e1]; exact h2
  obtain ⟨A', c', rfl⟩ := h2'.slice
  rw [e1] at h2' h5 ⊢
  refine h A' c' w' h2' (Keeps.of_grown h3 (fun b hb _ => hb)) ?_
  intro k hk
  rcases h5 with h5 | h5
  · rw [h5] at hk; exact .inl hk
  · rw [h5] at hk; cases hk; exact .inr (Nat.le_refl _)
end
theorem slice_hm {P : Program} (t e : TypeId) (kh km : IntKind) {i : TypeInfo} (ht : P.underlying t = some (.slice e)) (hi : P.info? e = some i) (hsz : i.size = 1) (A : Option Addr) (n c k : Nat) (hA : 0 < c → ∀ a, A = some a → a.spot = none) (h2 : k ≤ c) (W : World) (h : Int) (hh : h = k) :
    (Instr.slice t (.slice A n c) none (some (.int kh h)) (some (.int km h))).run P W = .ok (.slice A k k) W := by
  subst hh
  have hel : P.elem t = e := by simp [Program.elem, ht]
  have hu : P.underlying t = some (.slice (P.elem t)) := by rw [hel]; exact ht
  rw [run_slice_hm W t A n c hu kh km k k (by omega) (by omega) (by omega), hel]
  cases A with
  | none => simp [sizeOf, typeInfo, hi, hsz, sliced, Result.andThen]
  | some a =>
    have : 0 < c → a.add 0 = a := fun hc => by
      obtain ⟨b, o, s⟩ := a
      have := hA hc _ rfl
      simp only at this
      subst this
      rw [add_lit]; rfl
    by_cases hc : c = 0
    · subst hc
      have : k = 0 := by omega
      subst this
      simp [sizeOf, typeInfo, hi, hsz, sliced, Result.andThen]
    · by_cases hk : k = 0
      · subst hk; simp [sizeOf, typeInfo, hi, hsz, sliced, Result.andThen]
      · simp [sizeOf, typeInfo, hi, hsz, sliced, Result.andThen, this (by omega), hk]
theorem RowU.cutk {w : World} {A : Option Addr} {n c : Nat} {xs : List UInt8} (h : RowU w (.slice A n c) xs) (k : Nat) (hk : k ≤ xs.length) : RowU w (.slice A k k) (xs.take k) := by
  obtain ⟨⟨A', c', e, h1, h2, h3, h4, h5⟩, hu⟩ := h
  cases e
  have hl : (xs.take k).length = k := by simp; omega
  refine ⟨⟨A, k, by rw [hl], by omega, by omega, fun e => by have := h3 e; omega, fun hc => h4 (by omega), h5.take k⟩, fun a n c0 e hc => ?_⟩
  cases e
  exact hu a _ _ rfl (by omega)
theorem RowU.takes {w : World} {A : Option Addr} {n c : Nat} {xs : List UInt8} (h : RowU w (.slice A n c) xs) (k : Nat) (hk : k ≤ xs.length) : RowU w (.slice A k c) (xs.take k) := by
  refine ⟨h.1.take k hk, fun a n c0 e hc => ?_⟩
  cases e
  exact h.2 a _ _ rfl hc
theorem cutA_blk {a a0 : Addr} {c lo : Nat} (h : cutA (some a0) c lo = some a) : a.block = a0.block := by
  unfold cutA at h
  split at h
  · rw [Option.some.inj h]
  · simp at h; rw [← h]; unfold Addr.add; split <;> rfl
theorem RowU.drops {w : World} {A : Option Addr} {n c : Nat} {xs : List UInt8} (h : RowU w (.slice A n c) xs) (k : Nat) (hk : k ≤ xs.length) : RowU w (.slice (cutA A c k) (n - k) (c - k)) (xs.drop k) := by
  refine ⟨h.1.drop k hk, fun a m c0 e hc => ?_⟩
  obtain ⟨e1, e2, e3⟩ := Value.slice.inj e
  cases A with
  | none => simp [cutA] at e1
  | some a0 =>
    rw [cutA_blk e1]
    exact h.2 a0 _ _ rfl (by omega)
set_option maxHeartbeats 4000000 in
set_option maxRecDepth 100000 in
theorem onto_any (w : World) (d : DoneS) (A : Option Addr) (c : Nat) (xs : List UInt8) (h : RowU w (.slice A xs.length c) xs) (hp : d.pos ≤ xs.length) (hx : xs.length ≤ 67108864) (hd : d.p.length ≤ 70368744177664) :
    Calls Tryz.prog 72 #[.agg (doneCells d).toArray, .slice A xs.length c] w fun e w' => ∃ A' c', e = .returned (.slice A' (doneOn xs d).length c') ∧ RowU w' (.slice A' (doneOn xs d).length c') (doneOn xs d) ∧ Keeps NoB w w' ∧ DGrew w (.slice A xs.length c) (.slice A' (doneOn xs d).length c') := by
  obtain ⟨cut, pos, p⟩ := d
  dsimp only [doneCells] at *
  obtain ⟨i0, hi, hz0, hz1, hz2⟩ := info_parts infoU8
  have hrd := h.1.rd
  have hcap := hrd.2.1
  have hspot := hrd.2.2.2.2.1
  have H := Sd.mk h
  cases cut with
  | true =>
    have hsl : ∀ W : World, (Instr.slice 38 (.slice A xs.length c) none (some (.int .i64 (pos : Int))) (some (.int .i64 (pos : Int)))).run Tryz.prog W = .ok (.slice A pos pos) W := fun W =>
      slice_hm 38 5 .i64 .i64 Tryz.underlying38 hi hz1 A xs.length c pos (fun hc a ha => (hspot hc a ha).1) (by omega) W _ rfl
    clear h hrd hspot hcap hi hz0 hz1 hz2
    go_enter Tryz.func72, Tryz.ntmps72
    go_wp2
    go_ret
    have e1 : doneOn xs ⟨true, pos, p⟩ = xs.take pos := rfl
    have hl : (xs.take pos).length = pos := by simp; omega
    rw [e1, hl]
    exact ⟨A, pos, rfl, (H.o.keeps ((Keeps.refl NoB w).alloc _) (NotU8.noB _)).cutk pos hp, (Keeps.refl NoB w).alloc _, fun k hk => .inl (by
      have hcp := H.o.1.rd.2.1
      simp only [datB] at hk ⊢
      split at hk
      · cases hk
      · rw [if_neg (by omega)]; exact hk)⟩
  | false =>
    have hsl : ∀ W : World, (Instr.slice 38 (.slice A xs.length c) none (some (.int .i64 (pos : Int))) none).run Tryz.prog W = .ok (.slice A pos c) W := fun W =>
      slice_run_h 38 5 .i64 Tryz.underlying38 hi hz1 A xs.length c pos (fun hc a ha => (hspot hc a ha).1) (by omega) W _ rfl
    have hsl2 : ∀ W : World, ∀ k : Nat, k ≤ xs.length → (Instr.slice 38 (.slice A xs.length c) (some (.int .i64 (k : Int))) none none).run Tryz.prog W = .ok (.slice (cutA A c k) (xs.length - k) (c - k)) W := fun W k hk =>
      slice_run_l 38 5 .i64 Tryz.underlying38 hi hz1 A xs.length c k hk W _ rfl
    have e1 : Sd (doneOn xs ⟨false, pos, p⟩ = xs.take pos ++ p ++ xs.drop (pos + p.length)) := ⟨rfl⟩
    have hl : Sd ((xs.take pos).length = pos) := ⟨by simp; omega⟩
    have hps : (sOf p).size = p.length := sOf_size p
    obtain ⟨w1, hw1⟩ : ∃ w1, w1 = w.alloc (.cells #[.bool false, .int .i64 pos, .string (sOf p)] 104) := ⟨_, rfl⟩
    have hk1 : Keeps NoB w w1 := by rw [hw1]; exact (Keeps.refl NoB w).alloc _
    have HK1 := Sd.mk hk1
    have b1 : w1.heap[w.heap.size]? = some (.cells #[.bool false, .int .i64 pos, .string (sOf p)] 104 (0, 0)) := by rw [hw1]; exact heap_alloc_new w _
    have B2 : Sd (∀ wx, Keeps NoB w1 wx → wx.cell? ⟨w.heap.size, 2, none⟩ = some (.string (sOf p))) := ⟨fun wx hk => hk.cell (blk_cell b1 2) (fun f => f)⟩
    have HC : Sd (∀ wx, Keeps NoB w1 wx → Calls Tryz.prog 35 #[.slice A pos c] wx fun e w' => ∃ A' c', e = .returned (.slice A' pos c') ∧ OwnV w' 5 (.slice A' pos c') (bvs (xs.take pos)) ∧ Fresh w (.slice A' pos c') ∧ Keeps NoB w1 w') := ⟨fun wx hk => by
      have hk2 : Keeps NoB w wx := HK1.o.then hk
      have := cloneB_any wx A pos c (xs.take pos) ((H.o.takes pos hp).1.keeps hk2 (fun _ _ _ _ _ f => f)) (by rw [hl.o]; omega)
      rw [hl.o] at this
      refine this.mono fun e w' ⟨A', c', he, ho, hf, hk3⟩ => ⟨A', c', he, ho, fun i hi => Nat.le_trans hk2.size (hf i hi), hk.then hk3⟩⟩
    have HW1 := Sd.mk hw1
    clear h hrd hspot hcap hi hz0 hz1 hz2 hw1 hk1 b1
    go_enter Tryz.func72, Tryz.ntmps72
    go_upto_region 3 with fail
    rw [← HW1.o]
    go_cut [5] (fun sx wx => ∃ A' c', sx = .slice A' (pos + p.length) c' ∧ Sd (OwnV wx 5 (.slice A' (pos + p.length) c') (bvs (xs.take pos ++ p))) ∧ Sd (Fresh w (.slice A' (pos + p.length) c')) ∧ Sd (Keeps NoB w wx))
    case first =>
      have b1' : w1.cell? ⟨w.heap.size, 1, none⟩ = some (.int .i64 pos) := by rw [HW1.o]; exact blk_cell (heap_alloc_new w _) 1
      have b2' := B2.o w1 (Keeps.refl _ _)
      go_region_law
        (first
          | (refine step_app_str rfl _ _ 38 9 5 rfl Tryz.underlying38 Tryz.underlying9 infoU8' _ (bvs (xs.take pos)) rfl HO5.o (sOf p) rfl (by rw [bvs_length, hl.o, hps]; omega) ?_
             intro A6 c6 w6 HO6 HK6 HG6
             rw [bvs_length, hl.o, hps]
             rw [bvs_length, hl.o, hps, show bvs (xs.take pos) ++ bvs (sOf p).data.toList = bvs (xs.take pos ++ p) by simp [bvs, sOf]] at HO6
             rw [bvs_length, hl.o, hps] at HG6
             have HO7 := Sd.mk HO6
             have HK7 : Sd (Keeps NoB w w6) := ⟨(HK1.o.then HK5.o).fresh HF5.o HK6⟩
             have HF7 : Sd (Fresh w (.slice A6 (pos + p.length) c6)) := ⟨HF5.o.grew (HK1.o.then HK5.o).size HG6⟩
             clear HO6 HK6 HG6)
          | (go_simp; go_at_call 35
             refine (HC.o _ (Keeps.drewN (Keeps.refl NoB w1) 1)).mono ?_
             rintro e w5 ⟨A5, c5, rfl, ho5, hf5, hk5⟩
             have HO5 := Sd.mk ho5
             have HF5 := Sd.mk hf5
             have HK5 := Sd.mk hk5
             have hq5 := B2.o w5 hk5
             clear ho5 hf5 hk5))
      all_goals (go_wp2_with fail; go_meet; exact ⟨A6, c6, rfl, HO7, HF7, HK7⟩)
    obtain ⟨A6, c6, rfl, HO6, HF6, HK6⟩ := hcut
    obtain ⟨w6, hw6⟩ : ∃ w6, w6 = wc := ⟨_, rfl⟩
    subst hw6
    clear HC B2 HW1 HK1 hsl
    by_cases hlt : pos + p.length < xs.length
    · have hq : decide ((pos : Int) + (p.length : Int) < (xs.length : Int)) = true := by simp; omega
      have hs2 := hsl2 w6 (pos + p.length) (by omega)
      rw [Int.natCast_add] at hs2
      have HD : Sd (RowU w6 (.slice (cutA A c (pos + p.length)) (xs.length - (pos + p.length)) (c - (pos + p.length))) (xs.drop (pos + p.length))) := ⟨by
        have h1 := H.o.keeps HK6.o (NotU8.noB w)
        exact h1.drops (pos + p.length) (by omega)⟩
      clear hsl2
      go_wp2_with (at_builtin; go_must (refine app_any rfl _ _ 38 5 (.int .u8 0) 1 rfl Tryz.underlying38 infoU8' rfl _ (bvs (xs.take pos ++ p)) rfl HO6.o (cutA A c (pos + p.length)) (xs.length - (pos + p.length)) (c - (pos + p.length)) (bvs (xs.drop (pos + p.length))) rfl (by rw [bvs_length, List.length_drop]) (rd_vrd HD.o.1.rd.2.2.2.2.2) (bvs_one _) (by rw [bvs_length, List.length_append, hl.o]; omega) (by rw [bvs_length, List.length_append, hl.o]; omega) ?_); intro A7 c7 w7 HO7 HK7 HG7; rw [bvs_length, List.length_append, hl.o]; rw [bvs_length, List.length_append, hl.o, ← bvs_append, ← e1.o] at HO7; have HO8 := Sd.mk HO7; have HK8 : Sd (Keeps NoB w w7) := ⟨HK6.o.fresh HF6.o HK7⟩; rw [bvs_length, List.length_append, hl.o] at HG7; have HF8 := Sd.mk (HF6.o.grew HK6.o.size HG7); clear HO7 HK7 HG7)
      go_ret
      have h4 : (doneOn xs ⟨false, pos, p⟩).length = pos + p.length + (xs.length - (pos + p.length)) := by rw [e1.o, List.length_append, List.length_append, hl.o, List.length_drop]
      rw [h4]
      exact ⟨A7, c7, rfl, HO8.o.rowU, HK8.o, DGrew.fresh HO8.o HF8.o⟩
    · have hq : decide ((pos : Int) + (p.length : Int) < (xs.length : Int)) = false := by simp; omega
      clear hsl2
      go_wp2
      go_ret
      have h2 : xs.drop (pos + p.length) = [] := List.drop_eq_nil_of_le (by omega)
      have h3 : doneOn xs ⟨false, pos, p⟩ = xs.take pos ++ p := by rw [e1.o, h2, List.append_nil]
      have h4 : (xs.take pos ++ p).length = pos + p.length := by rw [List.length_append, hl.o]
      rw [h3, h4]
      exact ⟨A6, c6, rfl, HO6.o.rowU, HK6.o, DGrew.fresh HO6.o HF6.o⟩
end Go.Proofs.YtlhhcoijkjcneaaGreat
